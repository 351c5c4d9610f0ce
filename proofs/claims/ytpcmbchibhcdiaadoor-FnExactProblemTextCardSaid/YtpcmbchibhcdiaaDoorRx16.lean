/- RX, part 16: what a call leaves. -/
import Derived.Test.YtpcmbchibhcdiaaDoorRx15
namespace Go.RX
open Go

theorem Cx.Le.trans {a b c : Cx} (h1 : a.Le b) (h2 : b.Le c) : a.Le c := by
  refine ⟨fun k hk => ?_, Nat.le_trans h1.names h2.names, ?_, ?_⟩
  · obtain ⟨h3, h4⟩ := h1.safe k hk
    obtain ⟨h5, h6⟩ := h2.safe k h3
    exact ⟨h5, h6.trans h4⟩
  · intro n ob hn hob
    obtain ⟨o1, h3, h4, h5, h6⟩ := h2.obj n ob (Nat.lt_of_lt_of_le hn h1.names) hob
    obtain ⟨o2, h7, h8, h9, h10⟩ := h1.obj n o1 hn h3
    refine ⟨o2, h7, h8.trans h4, h5.trans h9, ?_⟩
    intro sz rows he
    obtain ⟨r1, rfl, hl1⟩ := h10 sz rows he
    obtain ⟨r2, rfl, hl2⟩ := h6 sz r1 rfl
    exact ⟨r2, rfl, Nat.le_trans hl1 hl2⟩
  · intro n ob k base m hn hob hp hk
    obtain ⟨o1, h3, _, h5, _⟩ := h2.obj n ob (Nat.lt_of_lt_of_le hn h1.names) hob
    exact h2.blk n ob k base m (Nat.lt_of_lt_of_le hn h1.names) hob hp (h1.blk n o1 k base m hn h3 (h5.symm.trans hp) hk)

section
variable {G : Nat → Prop} {w0 : World} {io : List (Nat × Nat)} {st st' : St} {a : Act} {w w' : World} {β : Beta}

theorem call_rel (h : SimB G w0 io st a w β) {iob obs : List Nat} (hsz' : WLe w w') (hkeep : ∀ b, b < w.heap.size → b ∉ iob → w'.heap[b]? = w.heap[b]?)
    (hiob : ∀ b ∈ iob, ∃ n cells, st.o n = some (.box cells) ∧ β n = some (b, 0)) (hblk : ∀ b ∈ iob, ∀ k, Blk w b k → Blk w' b k) (hobs : ∀ b ∈ obs, w.heap.size ≤ b ∧ b < w'.heap.size)
    (ht : st'.t = st.t) (hnx : st'.nx = st.nx)
    (ho : ∀ n ob', st'.o n = some ob' → (st.o n = some ob' ∧ ∀ p, β n = some p → p.1 ∉ iob) ∨ ∃ cells b T, ∃ ds : List D, ∃ cs : List Value, st.o n = some (.box cells) ∧ ob' = .box (ds.map .d) ∧ β n = some (b, 0) ∧
      w'.heap[b]? = some (.cells cs.toArray T (0, 0)) ∧ RdL w' (SafeOf (fun b => G b ∧ b ∉ obs) w' β st'.o) ds cs) :
    SimB (fun b => G b ∧ b ∉ obs) w0 io st' a w' β ∧ (cxOf G w β st).Le (cxOf (fun b => G b ∧ b ∉ obs) w' β st') := by
  have hsz := hsz'.1
  have hof : ∀ n ob', st'.o n = some ob' → ∃ ob, st.o n = some ob ∧ ob.sz = ob'.sz := by
    intro n ob' hn
    rcases ho n ob' hn with ⟨h1, _⟩ | ⟨cells, b, T, ds, cs, h1, rfl, _⟩
    · exact ⟨ob', h1, rfl⟩
    · exact ⟨_, h1, rfl⟩
  have hsafe : ∀ b, SafeOf G w β st.o b → SafeOf (fun b => G b ∧ b ∉ obs) w' β st'.o b := by
    intro b ⟨h1, h2, h3⟩
    refine ⟨by omega, fun n ob' p hn hp => ?_, h3, fun hb => by have := (hobs b hb).1; omega⟩
    obtain ⟨ob, hob, _⟩ := hof n ob' hn
    exact h2 n ob p hob hp
  have hni : ∀ b, SafeOf G w β st.o b → b ∉ iob := by
    intro b hb hi
    obtain ⟨n, cells, h1, h2⟩ := hiob b hi
    exact hb.2.1 n _ _ h1 h2 rfl
  have hblk' : ∀ b k, b < w.heap.size → Blk w b k → Blk w' b k := by
    intro b k hb hk
    by_cases hi : b ∈ iob
    · exact hblk b hi k hk
    · obtain ⟨cs, T, h1, h2⟩ := hk
      exact ⟨cs, T, by rw [hkeep b hb hi]; exact h1, h2⟩
  have hle : (cxOf G w β st).Le (cxOf (fun b => G b ∧ b ∉ obs) w' β st') := by
    refine ⟨fun b hb => ⟨hsafe b hb, hkeep b hb.1 (hni b hb)⟩, by simp [cxOf, hnx], ?_, ?_⟩
    · intro n ob' _ hn
      rcases ho n ob' hn with ⟨h1, _⟩ | ⟨cells, b, T, ds, cs, h1, rfl, _⟩
      · exact ⟨ob', h1, rfl, rfl, fun sz rows he => ⟨rows, he, Nat.le_refl _⟩⟩
      · exact ⟨_, h1, rfl, rfl, fun sz rows he => by simp at he⟩
    · intro n ob' b base k _ hn hp hk
      obtain ⟨ob, hob, _⟩ := hof n ob' hn
      exact hblk' b k (h.mine n ob b base hob hp).2 hk
  refine ⟨⟨?_, ?_, fun p hp => ⟨by rw [hnx]; exact (h.ion p hp).1, (h.ion p hp).2⟩, h.defers, by rw [ht]; exact EVRs.mono hle _ _ h.tmps, ?_, ?_, ?_, ?_, ⟨by have := h.grown.1; omega, hsz'.2.1.trans h.grown.2.1, hsz'.2.2.trans h.grown.2.2⟩, ?_⟩, hle⟩
  · intro n ob' p hn hp
    obtain ⟨ob, hob, _⟩ := hof n ob' hn
    have h1 := (h.mine n ob p.1 p.2 hob hp).2
    exact ⟨h.gset n ob p hob hp, fun hb => by have := (hobs _ hb).1; omega⟩
  · intro b hb
    exact ⟨h.gnew b (by omega), fun hb' => by have := (hobs b hb').2; omega⟩
  · intro n ob' hn
    rcases ho n ob' hn with ⟨h1, h2⟩ | ⟨cells, b, T, ds, cs, h1, rfl, h3, h4, h5⟩
    · have := h.objs n ob' h1
      cases ob' with
      | arr sz rows =>
        obtain ⟨h3, h4⟩ := this
        refine ⟨h3, ?_⟩
        show match β n with | none => _ | some (b, base) => _
        have h4' : match β n with | none => _ | some (b, base) => _ := h4
        cases hb : β n with
        | none => rw [hb] at h4'; exact h4'
        | some p =>
          obtain ⟨b1, base1⟩ := p
          rw [hb] at h4'
          obtain ⟨cs1, T1, h5, h6, h7⟩ := h4'
          refine ⟨cs1, T1, ?_, h6, fun i j r x hr hx => ?_⟩
          · show w'.heap[b1]? = _
            rw [hkeep b1 (h.mine n _ b1 base1 h1 hb).2 (h2 _ hb)]; exact h5
          · obtain ⟨v, h8, h9⟩ := h7 i j r x hr hx
            exact ⟨v, h8, h9.mono hle.safe⟩
      | box cells =>
        obtain ⟨b1, cs1, T1, h3, h4, h5⟩ := this
        refine ⟨b1, cs1, T1, h3, ?_, EVRs.mono hle _ _ h5⟩
        show w'.heap[b1]? = _
        rw [hkeep b1 (h.mine n _ b1 0 h1 h3).2 (h2 _ h3)]; exact h4
    · exact ⟨b, cs.toArray, T, h3, h4, by simpa using RdL.evrs h5⟩
  · intro n ob' b base hn hp
    obtain ⟨ob, hob, _⟩ := hof n ob' hn
    have := h.mine n ob b base hob hp
    exact ⟨this.1, by omega⟩
  · intro n m o1 o2 p q h1 h2 hp hq hne
    obtain ⟨o3, h3, _⟩ := hof n o1 h1
    obtain ⟨o4, h4, _⟩ := hof m o2 h2
    exact h.apart n m o3 o4 p q h3 h4 hp hq hne
  · intro n ob' hn
    obtain ⟨ob, hob, _⟩ := hof n ob' hn
    rw [hnx]; exact h.names n ob hob
  · intro b h1 h2
    have hb : b < w.heap.size := by have := h.grown.1; omega
    have : b ∉ iob := by
      intro hi
      obtain ⟨n, cells, h3, h4⟩ := hiob b hi
      rcases (h.mine n _ b 0 h3 h4).1 with h5 | h5
      · omega
      · exact h2 h5
    rw [hkeep b hb this]; exact h.keep b h1 h2

/-- a block of a result becomes an object -/
theorem adopt_rel {b base : Nat} {ob : Obj} {obs : List Nat} (h : SimB (fun k => G k ∧ k ∉ b :: obs) w0 io st a w β) (hb0 : w0.heap.size ≤ b) (hb1 : b < w.heap.size) (hG : G b) (hnd : b ∉ obs)
    (hfree : ∀ n ob p, st.o n = some ob → β n = some p → p.1 ≠ b) 
    {S : Nat → Prop} (hS : ∀ k, S k → SafeOf (fun k => G k ∧ k ∉ b :: obs) w β st.o k)
    (hob : ∀ c : Cx, c.w = w → (∀ k, S k → c.S k) → c.β st.nx = some (b, base) → ObR c st.nx ob) :
    SimB (fun k => G k ∧ k ∉ obs) w0 io (st.add ob) a w (upd β st.nx (some (b, base))) ∧
      (cxOf (fun k => G k ∧ k ∉ b :: obs) w β st).Le (cxOf (fun k => G k ∧ k ∉ obs) w (upd β st.nx (some (b, base))) (st.add ob)) := by
  let β' := upd β st.nx (some (b, base))
  have ho : ∀ m o1, (st.add ob).o m = some o1 → (m = st.nx ∧ o1 = ob) ∨ (m ≠ st.nx ∧ st.o m = some o1) := by
    intro m ob' hm
    by_cases hmn : m = st.nx
    · subst hmn; simp [St.add, upd_same] at hm; exact .inl ⟨rfl, hm.symm⟩
    · simp [St.add, upd_ne _ _ hmn] at hm; exact .inr ⟨hmn, hm⟩
  have hsafe : ∀ k, SafeOf (fun k => G k ∧ k ∉ b :: obs) w β st.o k → SafeOf (fun k => G k ∧ k ∉ obs) w β' (st.add ob).o k := by
    intro k ⟨h1, h2, h3, h4⟩
    refine ⟨h1, fun m o1 p hm hp => ?_, h3, fun hk => h4 (by simp [hk])⟩
    rcases ho m o1 hm with ⟨rfl, _⟩ | ⟨hx, hm'⟩
    · simp only [β', upd_same, Option.some.injEq] at hp; subst hp; exact fun he => h4 (by simp at he; simp [he])
    · simp only [β', upd_ne _ _ hx] at hp; exact h2 m o1 p hm' hp
  have hle : (cxOf (fun k => G k ∧ k ∉ b :: obs) w β st).Le (cxOf (fun k => G k ∧ k ∉ obs) w β' (st.add ob)) := by
    refine ⟨fun k hk => ⟨hsafe k hk, rfl⟩, Nat.le_succ _, ?_, fun m o1 b base k _ _ _ hk => hk⟩
    intro m o1 hlt hm
    have hne : m ≠ st.nx := Nat.ne_of_lt hlt
    rcases ho m o1 hm with ⟨rfl, _⟩ | ⟨_, hm'⟩
    · exact absurd rfl hne
    · exact ⟨o1, hm', rfl, upd_ne _ _ hne, fun sz rows he => ⟨rows, he, Nat.le_refl _⟩⟩
  refine ⟨⟨?_, ?_, fun p hp => ⟨Nat.lt_succ_of_lt (h.ion p hp).1, (upd_ne _ _ (Nat.ne_of_lt (h.ion p hp).1)).trans (h.ion p hp).2⟩, h.defers, EVRs.mono hle _ _ h.tmps, ?_, ?_, ?_, ?_, h.grown, h.keep⟩, hle⟩
  · intro m o1 p hm hp
    rcases ho m o1 hm with ⟨rfl, _⟩ | ⟨hx, hm'⟩
    · rw [upd_same] at hp; simp at hp; subst hp; exact ⟨hG, hnd⟩
    · rw [upd_ne _ _ hx] at hp
      have := h.gset m o1 p hm' hp
      exact ⟨this.1, fun hk => this.2 (by simp [hk])⟩
  · intro k hk
    have := h.gnew k hk
    exact ⟨this.1, fun hk => this.2 (by simp [hk])⟩
  · intro m o1 hm
    rcases ho m o1 hm with ⟨rfl, rfl⟩ | ⟨hx, hm'⟩
    · exact hob _ rfl (fun k hk => hsafe k (hS k hk)) (upd_same _ _ _)
    · have := h.objs m o1 hm'
      cases o1 with
      | arr sz rows =>
        obtain ⟨h1, h2⟩ := this
        refine ⟨h1, ?_⟩
        show match upd β st.nx (some (b, base)) m with | none => _ | some (b, base) => _
        rw [upd_ne _ _ hx]
        have h2' : match β m with | none => _ | some (b, base) => _ := h2
        cases hb : β m with
        | none => rw [hb] at h2'; exact h2'
        | some p =>
          obtain ⟨b1, base1⟩ := p
          rw [hb] at h2'
          obtain ⟨cs1, T1, h3, h4, h5⟩ := h2'
          exact ⟨cs1, T1, h3, h4, fun i j r x hr hx => by obtain ⟨v, h6, h7⟩ := h5 i j r x hr hx; exact ⟨v, h6, h7.mono hle.safe⟩⟩
      | box cells =>
        obtain ⟨b1, cs1, T1, h1, h2, h3⟩ := this
        refine ⟨b1, cs1, T1, ?_, h2, EVRs.mono hle _ _ h3⟩
        show upd β st.nx (some (b, base)) m = _
        rw [upd_ne _ _ hx]; exact h1
  · intro m o1 b1 base1 hm hp
    rcases ho m o1 hm with ⟨rfl, _⟩ | ⟨hx, hm'⟩
    · rw [upd_same] at hp; simp at hp; obtain ⟨rfl, rfl⟩ := hp; exact ⟨.inl hb0, hb1⟩
    · rw [upd_ne _ _ hx] at hp; exact h.mine m o1 b1 base1 hm' hp
  · intro m m' o1 o2 p q h1 h2 hp hq hne
    rcases ho m o1 h1 with ⟨rfl, _⟩ | ⟨hx1, hm1⟩ <;> rcases ho m' o2 h2 with ⟨rfl, _⟩ | ⟨hx2, hm2⟩
    · exact absurd rfl hne
    · rw [upd_same] at hp; simp at hp; subst hp
      rw [upd_ne _ _ hx2] at hq
      exact fun he => hfree m' o2 q hm2 hq he.symm
    · rw [upd_same] at hq; simp at hq; subst hq
      rw [upd_ne _ _ hx1] at hp
      exact hfree m o1 p hm1 hp
    · rw [upd_ne _ _ hx1] at hp; rw [upd_ne _ _ hx2] at hq
      exact h.apart m m' o1 o2 p q hm1 hm2 hp hq hne
  · intro m o1 hm
    rcases ho m o1 hm with ⟨rfl, _⟩ | ⟨_, hm'⟩
    · exact Nat.lt_succ_self _
    · exact Nat.lt_succ_of_lt (h.names m o1 hm')

theorem own_evr {st' : St} {β' : Beta} {c : Cx} {n sz b base cap : Nat} {rows : List (List D)} {cs : Array Value} {T : TypeId} (hn : n < c.m) (ho : c.o n = some (.arr sz rows)) (hb : c.β n = some (b, base))
    (hh : c.w.heap[b]? = some (.cells cs T (0, 0))) (hc : rows.length ≤ cap) (hk : base + cap * sz ≤ cs.size) : EVR c (.own n 0 rows.length) (.slice (some ⟨b, base, none⟩) rows.length cap) := by
  simp only [EVR]
  refine ⟨hn, fun ob hob => ?_⟩
  rw [ho] at hob
  simp only [Option.some.injEq] at hob
  subst hob
  refine ⟨sz, rows, rfl, by omega, ?_⟩
  rw [hb]
  exact .inl ⟨cap, cs.size, by simp, hc, ⟨cs, T, hh, rfl⟩, by simpa using hk⟩

theorem new0_le (h : SimB G w0 io st a w β) (sz : Nat) : (cxOf G w β st).Le (cxOf G w (upd β st.nx none) (st.add (.arr sz []))) := by
  have ho : ∀ m ob', (st.add (.arr sz [])).o m = some ob' → (m = st.nx ∧ ob' = .arr sz []) ∨ (m ≠ st.nx ∧ st.o m = some ob') := by
    intro m ob' hm
    by_cases hmn : m = st.nx
    · subst hmn; simp [St.add, upd_same] at hm; exact .inl ⟨rfl, hm.symm⟩
    · simp [St.add, upd_ne _ _ hmn] at hm; exact .inr ⟨hmn, hm⟩
  refine ⟨fun b ⟨h1, h2, hg⟩ => ⟨⟨h1, fun m o1 p hm hp => ?_, hg⟩, rfl⟩, Nat.le_succ _, ?_, fun m o1 b base k _ _ _ hk => hk⟩
  · rcases ho m o1 hm with ⟨rfl, _⟩ | ⟨hx, hm'⟩
    · simp [cxOf, upd_same] at hp
    · rw [upd_ne _ _ hx] at hp; exact h2 m o1 p hm' hp
  · intro m o1 hlt hm
    have hne : m ≠ st.nx := Nat.ne_of_lt hlt
    rcases ho m o1 hm with ⟨rfl, _⟩ | ⟨_, hm'⟩
    · exact absurd rfl hne
    · exact ⟨o1, hm', rfl, upd_ne _ _ hne, fun sz rows he => ⟨rows, he, Nat.le_refl _⟩⟩

/-- the results of a call, one behind the other -/
theorem ret_rel {S : Nat → Prop} : ∀ {rs : List RV} {vs : List Value} {obs : List Nat} {st : St} {β : Beta}, SimB (fun k => G k ∧ k ∉ obs) w0 io st a w β → obs.Nodup →
    (∀ b ∈ obs, w0.heap.size ≤ b ∧ b < w.heap.size ∧ G b ∧ ∀ n ob p, st.o n = some ob → β n = some p → p.1 ≠ b) →
    (∀ k, S k → SafeOf (fun k => G k ∧ k ∉ obs) w β st.o k) → RessR w S rs vs obs →
    ∃ β', SimB G w0 io (retE st rs).1 a w β' ∧ EVRs (cxOf G w β' (retE st rs).1) (retE st rs).2 vs ∧ (cxOf (fun k => G k ∧ k ∉ obs) w β st).Le (cxOf G w β' (retE st rs).1)
  | [], [], obs, st, β, h, _, _, _, hr => by
    simp only [RessR] at hr; subst hr
    have e : (fun k => G k ∧ k ∉ ([] : List Nat)) = G := by funext k; simp
    rw [e] at h ⊢
    exact ⟨β, h, by simp [retE, EVRs], ⟨fun b hb => ⟨hb, rfl⟩, Nat.le_refl _, fun n ob _ hn => ⟨ob, hn, rfl, rfl, fun sz rows he => ⟨rows, he, Nat.le_refl _⟩⟩, fun _ _ _ _ _ _ _ _ hk => hk⟩⟩
  | r :: rs, v :: vs, obs, st, β, h, hnd, hob, hS, hr => by
    obtain ⟨b1, b2, rfl, h1, h2⟩ := hr
    cases r with
    | d x =>
      obtain ⟨h3, rfl⟩ := h1
      obtain ⟨β', h4, h5, h6⟩ := ret_rel h hnd hob hS h2
      refine ⟨β', h4, ?_, h6⟩
      simp only [retE, EVRs, EVR]
      exact ⟨h3.mono fun k hk => ⟨(h6.safe k (hS k hk)).1, rfl⟩, h5⟩
    | agg ds =>
      obtain ⟨⟨us, rfl, h3⟩, rfl⟩ := h1
      obtain ⟨β', h4, h5, h6⟩ := ret_rel h hnd hob hS h2
      refine ⟨β', h4, ?_, h6⟩
      simp only [retE, EVRs, EVR]
      exact ⟨⟨us, rfl, h3.mono fun k hk => ⟨(h6.safe k (hS k hk)).1, rfl⟩⟩, h5⟩
    | own sz rows =>
      obtain ⟨hz, h1⟩ := h1
      rcases h1 with ⟨rfl, ⟨ad, rfl⟩, rfl⟩ | ⟨b, base, cap, cs, T, rfl, hc, rfl, hh, hk, hcell⟩
      · have hle0 := new0_le h sz
        obtain ⟨β', h4, h5, h6⟩ := ret_rel (st := st.add (.arr sz [])) (β := upd β st.nx none) (new0_rel h sz) hnd (fun b hb => by
            obtain ⟨a1, a2, a3, a4⟩ := hob b hb
            refine ⟨a1, a2, a3, fun n ob p hn hp => ?_⟩
            by_cases hx : n = st.nx
            · subst hx; simp [upd_same] at hp
            · rw [upd_ne _ _ hx] at hp
              exact a4 n ob p (by simpa [St.add, upd_ne _ _ hx] using hn) hp) (fun k hk => (hle0.safe k (hS k hk)).1) h2
        refine ⟨β', h4, ?_, hle0.trans h6⟩
        simp only [retE, EVRs]
        refine ⟨EVR.mono h6 _ _ (own0_evr (sz := sz) (by simp [St.add, upd_same]) (upd_same _ _ _) (by simp [St.add]) ad), h5⟩
      · obtain ⟨a1, a2, a3, a4⟩ := hob b (by simp)
        have hnb : b ∉ b2 := by simp at hnd; exact hnd.1
        have hrl : rows.length * sz ≤ cap * sz := Nat.mul_le_mul_right _ hc
        obtain ⟨had, hle0⟩ := adopt_rel (base := base) (ob := .arr sz rows) h a1 a2 a3 hnb a4 hS (fun c hcw hcS hcb => by
          refine ⟨hz, ?_⟩
          rw [hcb]
          refine ⟨cs, T, by rw [hcw]; exact hh, by omega, fun i j r x hr hx => ?_⟩
          obtain ⟨v, l1, l2⟩ := hcell i j r x hr hx
          exact ⟨v, l1, by rw [hcw]; exact l2.mono fun k hk => ⟨hcS k hk, rfl⟩⟩)
        obtain ⟨β', h4, h5, h6⟩ := ret_rel (st := st.add (.arr sz rows)) (β := upd β st.nx (some (b, base))) had (by simp at hnd; exact hnd.2) (fun k hk => by
            obtain ⟨c1, c2, c3, c4⟩ := hob k (List.mem_append.mpr (.inr hk))
            refine ⟨c1, c2, c3, fun n ob p hn hp => ?_⟩
            by_cases hx : n = st.nx
            · subst hx; rw [upd_same] at hp; simp at hp; subst hp; exact fun he => hnb (by simp at he; rw [he]; exact hk)
            · rw [upd_ne _ _ hx] at hp
              exact c4 n ob p (by simpa [St.add, upd_ne _ _ hx] using hn) hp) (fun k hk => (hle0.safe k (hS k hk)).1) h2
        refine ⟨β', h4, ?_, hle0.trans h6⟩
        simp only [retE, EVRs]
        refine ⟨EVR.mono h6 _ _ (own_evr (st' := st) (β' := β) (sz := sz) (cs := cs) (T := T) (Nat.lt_succ_self _) (upd_same _ _ _) (upd_same _ _ _) hh hc hk), h5⟩
    | bx ds =>
      obtain ⟨b, T, us, rfl, rfl, hh, hrd⟩ := h1
      obtain ⟨a1, a2, a3, a4⟩ := hob b (by simp)
      have hnb : b ∉ b2 := by simp at hnd; exact hnd.1
      obtain ⟨had, hle0⟩ := adopt_rel (base := 0) (ob := .box (ds.map .d)) h a1 a2 a3 hnb a4 hS (fun c hcw hcS hcb => by
        refine ⟨b, us.toArray, T, hcb, by rw [hcw]; exact hh, ?_⟩
        have h7 : RdL c.w c.S ds us := by rw [hcw]; exact hrd.mono fun k hk => ⟨hcS k hk, rfl⟩
        simpa using h7.evrs)
      obtain ⟨β', h4, h5, h6⟩ := ret_rel (st := st.add (.box (ds.map .d))) (β := upd β st.nx (some (b, 0))) had (by simp at hnd; exact hnd.2) (fun k hk => by
          obtain ⟨c1, c2, c3, c4⟩ := hob k (List.mem_append.mpr (.inr hk))
          refine ⟨c1, c2, c3, fun n ob p hn hp => ?_⟩
          by_cases hx : n = st.nx
          · subst hx; rw [upd_same] at hp; simp at hp; subst hp; exact fun he => hnb (by simp at he; rw [he]; exact hk)
          · rw [upd_ne _ _ hx] at hp
            exact c4 n ob p (by simpa [St.add, upd_ne _ _ hx] using hn) hp) (fun k hk => (hle0.safe k (hS k hk)).1) h2
      refine ⟨β', h4, ?_, hle0.trans h6⟩
      simp only [retE, EVRs]
      refine ⟨EVR.mono h6 _ _ ?_, h5⟩
      simp only [EVR]
      refine ⟨Nat.lt_succ_self _, fun ob hob' => ?_⟩
      have : ob = .box (ds.map .d) := by
        have e1 : (st.add (.box (ds.map .d))).o st.nx = some (.box (ds.map .d)) := upd_same _ _ _
        have e2 : (st.add (.box (ds.map .d))).o st.nx = some ob := hob'
        rw [e1] at e2; simpa using e2.symm
      subst this
      exact ⟨b, 0, upd_same _ _ _, by simp [Obj.sz]⟩
  | [], _ :: _, _, _, _, _, _, _, _, hr => by simp [RessR] at hr
  | _ :: _, [], _, _, _, _, _, _, _, hr => by simp [RessR] at hr
end
end Go.RX
