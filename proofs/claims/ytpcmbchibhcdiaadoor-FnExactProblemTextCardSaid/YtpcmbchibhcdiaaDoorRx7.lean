/- RX, part 7: new objects, writes. -/
import Derived.Test.YtpcmbchibhcdiaaDoorRx6
import Derived.Deep.Upon
namespace Go.RX
open Go

/-- what a new block holds stands for an object -/
def Fills (c : Cx) (cs : List Value) : Obj → Prop
  | .box cells => EVRs c cells cs
  | .arr sz rows => (∀ r ∈ rows, r.length = sz) ∧ rows.length * sz ≤ cs.length ∧
      ∀ (i j : Nat) r x, rows[i]? = some r → r[j]? = some x → ∃ v, cs[i * sz + j]? = some v ∧ Rd c.w c.S v x

def St.add (st : St) (ob : Obj) : St := { st with o := upd st.o st.nx (some ob), nx := st.nx + 1 }

section
variable {G : Nat → Prop} {w0 : World} {io : List (Nat × Nat)} {st : St} {a : Act} {w w' : World} {β : Beta}

/-- the world goes on by draws alone -/
theorem heap_rel (h : SimB G w0 io st a w β) (hw : w'.heap = w.heap) (ho : w'.os = w.os) (hp : w'.output = w.output) : SimB G w0 io st a w' β := by
  have hs : ∀ b, SafeOf G w β st.o b → SafeOf G w' β st.o b := fun b hb => ⟨by rw [hw]; exact hb.1, hb.2⟩
  have hle : (cxOf G w β st).Le (cxOf G w' β st) :=
    ⟨fun b hb => ⟨hs b hb, by simp [cxOf, hw]⟩, Nat.le_refl _, fun m ob' _ hm => ⟨ob', hm, rfl, rfl, fun sz rows he => ⟨rows, he, Nat.le_refl _⟩⟩,
      fun m ob b base k _ _ _ hk => by obtain ⟨cs, T, h1, h2⟩ := hk; exact ⟨cs, T, by simpa [cxOf, hw] using h1, h2⟩⟩
  refine ⟨h.gset, fun b hb => h.gnew b (by rw [hw] at hb; exact hb), h.ion, h.defers, EVRs.mono hle _ _ h.tmps, ?_, fun n ob b base h1 h2 => by rw [hw]; exact h.mine n ob b base h1 h2, h.apart, h.names, ⟨by rw [hw]; exact h.grown.1, by rw [ho]; exact h.grown.2.1, by rw [hp]; exact h.grown.2.2⟩, fun b h1 h2 => by rw [hw]; exact h.keep b h1 h2⟩
  intro n ob hob
  have := h.objs n ob hob
  cases ob with
  | arr sz rows =>
    obtain ⟨h1, h2⟩ := this
    refine ⟨h1, ?_⟩
    have h2' : match β n with | none => _ | some (b, base) => _ := h2
    show match β n with | none => _ | some (b, base) => _
    cases hb : β n with
    | none => rw [hb] at h2'; exact h2'
    | some p =>
      obtain ⟨b, base⟩ := p
      rw [hb] at h2'
      obtain ⟨cs, T, h3, h4, h5⟩ := h2'
      refine ⟨cs, T, by simpa [cxOf, hw] using h3, h4, fun i j r x hr hx => ?_⟩
      obtain ⟨v, h6, h7⟩ := h5 i j r x hr hx
      exact ⟨v, h6, h7.mono hle.safe⟩
  | box cells =>
    obtain ⟨b, cs, T, h1, h2, h3⟩ := this
    exact ⟨b, cs, T, h1, by simpa [cxOf, hw] using h2, EVRs.mono hle _ _ h3⟩

/-- a new block, and the object that it stands for -/
theorem new_rel (h : SimB G w0 io st a w β) {cs : Array Value} {T : TypeId} {ob : Obj} (hf : Fills (cxOf G w β st) cs.toList ob) (hw : w'.heap = w.heap.push (.cells cs T (0, 0))) (hso : w'.os = w.os ∧ w'.output = w.output := by exact ⟨rfl, rfl⟩) :
    SimB G w0 io (st.add ob) a w' (upd β st.nx (some (w.heap.size, 0))) ∧ (cxOf G w β st).Le (cxOf G w' (upd β st.nx (some (w.heap.size, 0))) (st.add ob)) := by
  have hsz : w'.heap.size = w.heap.size + 1 := by rw [hw]; simp
  have hold : ∀ b, b < w.heap.size → w'.heap[b]? = w.heap[b]? := by
    intro b hb; rw [hw, Array.getElem?_push]; simp [Nat.ne_of_lt hb]
  have hnew : w'.heap[w.heap.size]? = some (.cells cs T (0, 0)) := by rw [hw]; simp
  have ho : ∀ m ob', (st.add ob).o m = some ob' → (m = st.nx ∧ ob' = ob) ∨ (m ≠ st.nx ∧ st.o m = some ob') := by
    intro m ob' hm
    by_cases hmn : m = st.nx
    · subst hmn; simp [St.add, upd_same] at hm; exact .inl ⟨rfl, hm.symm⟩
    · simp [St.add, upd_ne _ _ hmn] at hm; exact .inr ⟨hmn, hm⟩
  have hsafe : ∀ b, SafeOf G w β st.o b → SafeOf G w' (upd β st.nx (some (w.heap.size, 0))) (st.add ob).o b := by
    intro b ⟨h1, h2, hg⟩
    refine ⟨by omega, fun m ob' p hm hp => ?_, hg⟩
    rcases ho m ob' hm with ⟨rfl, _⟩ | ⟨hne, hm'⟩
    · simp [upd_same] at hp; subst hp; exact fun he => by simp at he; omega
    · rw [upd_ne _ _ hne] at hp; exact h2 m ob' p hm' hp
  have hblk : ∀ b k, b < w.heap.size → Blk w b k → Blk w' b k := by
    intro b k hb ⟨cs', T', h1, h2⟩; exact ⟨cs', T', by rw [hold b hb]; exact h1, h2⟩
  have hle : (cxOf G w β st).Le (cxOf G w' (upd β st.nx (some (w.heap.size, 0))) (st.add ob)) := by
    refine ⟨fun b hb => ⟨hsafe b hb, hold b hb.1⟩, Nat.le_succ _, ?_, ?_⟩
    · intro m ob' hlt hm
      have hne : m ≠ st.nx := Nat.ne_of_lt hlt
      rcases ho m ob' hm with ⟨rfl, _⟩ | ⟨_, hm'⟩
      · exact absurd rfl hne
      · exact ⟨ob', hm', rfl, upd_ne _ _ hne, fun sz rows he => ⟨rows, he, Nat.le_refl _⟩⟩
    · intro m ob' b base k hlt hm hp hk
      have hne : m ≠ st.nx := Nat.ne_of_lt hlt
      exact hblk b k (by obtain ⟨cs', T', h1, _⟩ := hk; exact (Array.getElem?_eq_some_iff.1 h1).1) hk
  refine ⟨⟨fun m ob' p hm hp => ?_, fun b hb => h.gnew b (by omega), fun p hp => ⟨Nat.lt_succ_of_lt (h.ion p hp).1, (upd_ne _ _ (Nat.ne_of_lt (h.ion p hp).1)).trans (h.ion p hp).2⟩, h.defers, EVRs.mono hle _ _ h.tmps, ?_, ?_, ?_, ?_, ⟨by have := h.grown.1; omega, hso.1.trans h.grown.2.1, hso.2.trans h.grown.2.2⟩, ?_⟩, hle⟩
  · rcases ho m ob' hm with ⟨rfl, _⟩ | ⟨hne, hm'⟩
    · rw [upd_same] at hp; simp at hp; subst hp; exact h.gnew _ (Nat.le_refl _)
    · rw [upd_ne _ _ hne] at hp; exact h.gset m ob' p hm' hp
  · intro m ob' hm
    rcases ho m ob' hm with ⟨rfl, rfl⟩ | ⟨hne, hm'⟩
    · cases ob' with
      | box cells => exact ⟨w.heap.size, cs, T, upd_same _ _ _, hnew, EVRs.mono hle _ _ hf⟩
      | arr sz rows =>
        obtain ⟨h1, h2, h3⟩ := hf
        refine ⟨h1, ?_⟩
        show match upd β st.nx (some (w.heap.size, 0)) st.nx with | none => _ | some (b, base) => _
        rw [upd_same]
        refine ⟨cs, T, hnew, by simpa using h2, fun i j r x hr hx => ?_⟩
        obtain ⟨v, h4, h5⟩ := h3 i j r x hr hx
        exact ⟨v, by simpa using h4, h5.mono hle.safe⟩
    · have := h.objs m ob' hm'
      cases ob' with
      | arr sz rows =>
        obtain ⟨h1, h2⟩ := this
        refine ⟨h1, ?_⟩
        show match upd β st.nx (some (w.heap.size, 0)) m with | none => _ | some (b, base) => _
        rw [upd_ne _ _ hne]
        have h2' : match β m with | none => _ | some (b, base) => _ := h2
        cases hb : β m with
        | none => rw [hb] at h2'; exact h2'
        | some p =>
          obtain ⟨b, base⟩ := p
          rw [hb] at h2'
          obtain ⟨cs', T', h3, h4, h5⟩ := h2'
          refine ⟨cs', T', ?_, h4, fun i j r x hr hx => ?_⟩
          · show w'.heap[b]? = _
            rw [hold b (h.mine m _ b base hm' hb).2]; exact h3
          · obtain ⟨v, h6, h7⟩ := h5 i j r x hr hx
            exact ⟨v, h6, h7.mono hle.safe⟩
      | box cells =>
        obtain ⟨b, cs', T', h1, h2, h3⟩ := this
        refine ⟨b, cs', T', ?_, ?_, EVRs.mono hle _ _ h3⟩
        · show upd β st.nx _ m = _
          rw [upd_ne _ _ hne]; exact h1
        · show w'.heap[b]? = _
          rw [hold b (h.mine m _ b 0 hm' h1).2]; exact h2
  · intro m ob' b base hm hp
    rcases ho m ob' hm with ⟨rfl, _⟩ | ⟨hne, hm'⟩
    · rw [upd_same] at hp; simp at hp; obtain ⟨rfl, rfl⟩ := hp
      exact ⟨.inl h.grown.1, by omega⟩
    · rw [upd_ne _ _ hne] at hp
      have := h.mine m ob' b base hm' hp
      exact ⟨this.1, by omega⟩
  · intro m m' o1 o2 p q h1 h2 hp hq hne
    rcases ho m o1 h1 with ⟨rfl, _⟩ | ⟨hn1, hm1⟩ <;> rcases ho m' o2 h2 with ⟨rfl, _⟩ | ⟨hn2, hm2⟩
    · exact absurd rfl hne
    · rw [upd_same] at hp; simp at hp; subst hp
      rw [upd_ne _ _ hn2] at hq
      have := (h.mine m' o2 q.1 q.2 hm2 hq).2
      exact fun he => by simp at he; omega
    · rw [upd_same] at hq; simp at hq; subst hq
      rw [upd_ne _ _ hn1] at hp
      have := (h.mine m o1 p.1 p.2 hm1 hp).2
      exact fun he => by simp at he; omega
    · rw [upd_ne _ _ hn1] at hp; rw [upd_ne _ _ hn2] at hq
      exact h.apart m m' o1 o2 p q hm1 hm2 hp hq hne
  · intro m ob' hm
    rcases ho m ob' hm with ⟨rfl, _⟩ | ⟨_, hm'⟩
    · exact Nat.lt_succ_self _
    · exact Nat.lt_succ_of_lt (h.names m ob' hm')
  · intro b h1 h2
    rw [hold b (by have := h.grown.1; omega)]
    exact h.keep b h1 h2

/-- what stands in the block of an object, after a write into it -/
def Holds (c : Cx) (n : Nat) (b base : Nat) (cs : Array Value) : Obj → Prop
  | .box cells => base = 0 ∧ EVRs c cells cs.toList
  | .arr sz rows => (∀ r ∈ rows, r.length = sz) ∧ base + rows.length * sz ≤ cs.size ∧
      ∀ (i j : Nat) r x, rows[i]? = some r → r[j]? = some x → ∃ v, cs[base + i * sz + j]? = some v ∧ Rd c.w c.S v x

/-- a write into an owned block -/
theorem write_rel (h : SimB G w0 io st a w β) {n b base : Nat} {ob ob' : Obj} (hob : st.o n = some ob) (hβ : β n = some (b, base)) {cs cs' : Array Value} {T : TypeId}
    (hh : w.heap[b]? = some (.cells cs T (0, 0))) (hcs : cs'.size = cs.size)
    (hsz : ob.sz = ob'.sz) (harr : ∀ sz rows, ob = .arr sz rows → ∃ rows', ob' = .arr sz rows' ∧ rows.length ≤ rows'.length)
    (hf : Holds (cxOf G w β st) n b base cs' ob') :
    SimB G w0 io { st with o := upd st.o n (some ob') } a (w.setRow b cs') β ∧ (cxOf G w β st).Le (cxOf G (w.setRow b cs') β { st with o := upd st.o n (some ob') }) := by
  have hnew : (w.setRow b cs').heap[b]? = some (.cells cs' T (0, 0)) := setRow_heap w b cs cs' T (0, 0) hh
  have hoth : ∀ k, k ≠ b → (w.setRow b cs').heap[k]? = w.heap[k]? := fun k hk => setRow_other w b k cs' hk
  have hsize : (w.setRow b cs').heap.size = w.heap.size := by simp
  let st' : St := { st with o := upd st.o n (some ob') }
  show SimB G w0 io st' a (w.setRow b cs') β ∧ (cxOf G w β st).Le (cxOf G (w.setRow b cs') β st')
  have ho : ∀ m o1, st'.o m = some o1 → (m = n ∧ o1 = ob') ∨ (m ≠ n ∧ st.o m = some o1) := by
    intro m o1 hm
    by_cases hmn : m = n
    · subst hmn; simp [st', upd_same] at hm; exact .inl ⟨rfl, hm.symm⟩
    · simp [st', upd_ne _ _ hmn] at hm; exact .inr ⟨hmn, hm⟩
  have hsafe : ∀ k, SafeOf G w β st.o k → SafeOf G (w.setRow b cs') β st'.o k := by
    intro k ⟨h1, h2, hg⟩
    refine ⟨by omega, fun m o1 p hm hp => ?_, hg⟩
    rcases ho m o1 hm with ⟨rfl, _⟩ | ⟨_, hm'⟩
    · exact h2 m ob p hob hp
    · exact h2 m o1 p hm' hp
  have hnb : ∀ k, SafeOf G w β st.o k → k ≠ b := fun k hk he => hk.2.1 n ob _ hob hβ he.symm
  have hblk : ∀ b' k, Blk w b' k → Blk (w.setRow b cs') b' k := by
    intro b' k ⟨cs1, T1, h1, h2⟩
    by_cases hb' : b' = b
    · subst hb'
      rw [hh] at h1
      simp at h1
      exact ⟨cs', T, hnew, by rw [hcs, h1.1]; exact h2⟩
    · exact ⟨cs1, T1, by rw [hoth b' hb']; exact h1, h2⟩
  have hle : (cxOf G w β st).Le (cxOf G (w.setRow b cs') β st') := by
    refine ⟨fun k hk => ⟨hsafe k hk, hoth k (hnb k hk)⟩, Nat.le_refl _, ?_, fun m o1 b' base' k _ _ _ hk => hblk b' k hk⟩
    intro m o1 _ hm
    rcases ho m o1 hm with ⟨rfl, rfl⟩ | ⟨_, hm'⟩
    · exact ⟨ob, hob, hsz, rfl, harr⟩
    · exact ⟨o1, hm', rfl, rfl, fun sz rows he => ⟨rows, he, Nat.le_refl _⟩⟩
  refine ⟨⟨fun m o1 p hm hp => ?_, fun b hb => h.gnew b (by omega), h.ion, h.defers, EVRs.mono hle _ _ h.tmps, ?_, ?_, ?_, ?_, ⟨by rw [hsize]; exact h.grown.1, h.grown.2⟩, ?_⟩, hle⟩
  · rcases ho m o1 hm with ⟨rfl, _⟩ | ⟨_, hm'⟩
    · exact h.gset m ob p hob hp
    · exact h.gset m o1 p hm' hp
  · intro m o1 hm
    rcases ho m o1 hm with ⟨rfl, rfl⟩ | ⟨hne, hm'⟩
    · cases o1 with
      | box cells =>
        obtain ⟨rfl, hf⟩ := hf
        exact ⟨b, cs', T, hβ, hnew, EVRs.mono hle _ _ hf⟩
      | arr sz rows =>
        obtain ⟨h1, h2, h3⟩ := hf
        refine ⟨h1, ?_⟩
        show match β m with | none => _ | some (b, base) => _
        rw [hβ]
        refine ⟨cs', T, hnew, h2, fun i j r x hr hx => ?_⟩
        obtain ⟨v, h4, h5⟩ := h3 i j r x hr hx
        exact ⟨v, h4, h5.mono hle.safe⟩
    · have hap : ∀ p, β m = some p → p.1 ≠ b := fun p hp => h.apart m n o1 ob p _ hm' hob hp hβ hne
      have := h.objs m o1 hm'
      cases o1 with
      | arr sz rows =>
        obtain ⟨h1, h2⟩ := this
        refine ⟨h1, ?_⟩
        show match β m with | none => _ | some (b, base) => _
        have h2' : match β m with | none => _ | some (b, base) => _ := h2
        cases hb : β m with
        | none => rw [hb] at h2'; exact h2'
        | some p =>
          obtain ⟨b1, base1⟩ := p
          rw [hb] at h2'
          obtain ⟨cs1, T1, h3, h4, h5⟩ := h2'
          refine ⟨cs1, T1, ?_, h4, fun i j r x hr hx => ?_⟩
          · show (w.setRow b cs').heap[b1]? = _
            rw [hoth b1 (hap _ hb)]; exact h3
          · obtain ⟨v, h6, h7⟩ := h5 i j r x hr hx
            exact ⟨v, h6, h7.mono hle.safe⟩
      | box cells =>
        obtain ⟨b1, cs1, T1, h1, h2, h3⟩ := this
        refine ⟨b1, cs1, T1, h1, ?_, EVRs.mono hle _ _ h3⟩
        show (w.setRow b cs').heap[b1]? = _
        rw [hoth b1 (hap _ h1)]; exact h2
  · intro m o1 b1 base1 hm hp
    rw [hsize]
    rcases ho m o1 hm with ⟨rfl, _⟩ | ⟨_, hm'⟩
    · exact h.mine m ob b1 base1 hob hp
    · exact h.mine m o1 b1 base1 hm' hp
  · intro m m' o1 o2 p q h1 h2 hp hq hne
    have f : ∀ m o1, st'.o m = some o1 → ∃ o2, st.o m = some o2 := fun m o1 hm => by
      rcases ho m o1 hm with ⟨rfl, _⟩ | ⟨_, hm'⟩
      · exact ⟨ob, hob⟩
      · exact ⟨o1, hm'⟩
    obtain ⟨o3, h3⟩ := f m o1 h1
    obtain ⟨o4, h4⟩ := f m' o2 h2
    exact h.apart m m' o3 o4 p q h3 h4 hp hq hne
  · intro m o1 hm
    rcases ho m o1 hm with ⟨rfl, _⟩ | ⟨_, hm'⟩
    · exact h.names m ob hob
    · exact h.names m o1 hm'
  · intro k h1 h2
    have hkb : k ≠ b := by
      intro he; subst he
      rcases (h.mine n ob k base hob hβ).1 with h3 | h3
      · omega
      · exact h2 h3
    rw [hoth k hkb]; exact h.keep k h1 h2
end
end Go.RX
