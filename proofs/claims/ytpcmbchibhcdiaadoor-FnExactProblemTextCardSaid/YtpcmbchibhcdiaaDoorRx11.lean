/- RX, part 11: the builtin append, make, the literals of slices and structs. -/
import Derived.Test.YtpcmbchibhcdiaaDoorRx10
namespace Go.RX
open Go

def pappend (ti : TI) (t : TypeId) (st : St) (s x : EV) (K : St → EV → Prop) : Prop :=
  match srcRows st x with
  | some (sz, news) => sz = elemSz ti t ∧
    match s with
    | .nil _ => news.length ≤ LIM ∧ K (st.add (.arr sz news)) (.own st.nx 0 news.length)
    | .own n off len =>
      match st.o n with
      | some (.arr sz' rows) => sz' = sz ∧ len + news.length ≤ LIM ∧
          K ((st.drop n).add (.arr sz ((rows.drop off).take len ++ news))) (.own st.nx 0 (len + news.length))
      | _ => False
    | _ => False
  | none => False

section
variable {P : Program} {ti : TI} (H : TIok P ti) {G : Nat → Prop} {w0 : World} {io : List (Nat × Nat)} {st : St} {a : Act} {w : World} {β : Beta}

/-- the cells of an owned slice -/
theorem own_cells (h : SimB G w0 io st a w β) {n off len sz : Nat} {rows : List (List D)} {v : Value} (hob : st.o n = some (.arr sz rows)) (hv : EVR (cxOf G w β st) (.own n off len) v) :
    ∃ vals, Flat w (SafeOf G w β st.o) sz ((rows.drop off).take len) vals ∧ ((rows.drop off).take len).length = len ∧ (∀ r ∈ (rows.drop off).take len, r.length = sz) ∧
      ((∃ b base cs T cap, β n = some (b, base) ∧ w.heap[b]? = some (.cells cs T (0, 0)) ∧ v = .slice (some ⟨b, base + off * sz, none⟩) len cap ∧ len ≤ cap ∧ base + (off + cap) * sz ≤ cs.size ∧
          ∀ (k : Nat) u, vals[k]? = some u → cs[base + off * sz + k]? = some u) ∨ (∃ ad, v = .slice ad 0 0 ∧ len = 0)) := by
  have hv' := hv
  simp only [EVR] at hv
  obtain ⟨_, hv⟩ := hv
  obtain ⟨sz', rows', he, hlen, hm⟩ := hv _ hob
  simp only [Obj.arr.injEq] at he
  obtain ⟨rfl, rfl⟩ := he
  obtain ⟨hz, hm'⟩ := h.objs n _ hob
  have hsub : ((rows.drop off).take len).length = len := by simp; omega
  have hz' : ∀ r ∈ (rows.drop off).take len, r.length = sz := fun r hr => hz r (List.mem_of_mem_drop (List.mem_of_mem_take hr))
  have empty : len = 0 → Flat w (SafeOf G w β st.o) sz ((rows.drop off).take len) [] := by
    intro h0; subst h0; exact ⟨by simp, by simp, by simp⟩
  have hm2 : match β n with | none => rows = [] | some (b, base) => ∃ cs T, w.heap[b]? = some (.cells cs T (0, 0)) ∧ base + rows.length * sz ≤ cs.size ∧
          ∀ (i j : Nat) r x, rows[i]? = some r → r[j]? = some x → ∃ v, cs[base + i * sz + j]? = some v ∧ Rd w (SafeOf G w β st.o) v x := hm'
  have hm1 : match β n with
      | none => ∃ a, v = .slice a 0 0 ∧ off = 0 ∧ len = 0
      | some (b, base) => (∃ cap k, v = .slice (some ⟨b, base + off * sz, none⟩) len cap ∧ len ≤ cap ∧ Blk w b k ∧ base + (off + cap) * sz ≤ k) ∨ (len = 0 ∧ ∃ a, v = .slice a 0 0) := hm
  cases hβ : β n with
  | none =>
    rw [hβ] at hm1
    obtain ⟨ad, rfl, _, h0⟩ := hm1
    exact ⟨[], empty h0, hsub, hz', .inr ⟨ad, rfl, h0⟩⟩
  | some p =>
    obtain ⟨b, base⟩ := p
    rw [hβ] at hm1 hm2
    obtain ⟨cs, T, hh, hle, hcell⟩ := hm2
    rcases hm1 with ⟨cap, k, rfl, hc, ⟨cs', T', hh', rfl⟩, hk⟩ | ⟨h0, ad, rfl⟩
    · rw [hh] at hh'
      simp only [Option.some.injEq, Obj.cells.injEq] at hh'
      obtain ⟨rfl, rfl, _⟩ := hh'
      obtain ⟨vals, h1, h2⟩ := flat_of (w := w) (S := SafeOf G w β st.o) (b := b) (sz := sz) (rows := (rows.drop off).take len) (off := base + off * sz) hz' (fun i j r x hr hx => by
        obtain ⟨u, hu, hrd⟩ := hcell _ j r x (rows_sub hr) hx
        exact ⟨u, by rw [show base + off * sz + i * sz + j = base + (off + i) * sz + j by rw [Nat.add_mul]; omega]; simp only [World.cell?, hh, hu]; simp, hrd⟩)
      refine ⟨vals, h1, hsub, hz', .inl ⟨b, base, cs, T, cap, rfl, hh, rfl, hc, hk, fun k u hu => ?_⟩⟩
      have := h2 k u hu
      simpa [World.cell?, hh] using this
    · exact ⟨[], empty h0, hsub, hz', .inr ⟨ad, rfl, h0⟩⟩

/-- what an append's second argument yields -/
theorem src_of (h : SimB G w0 io st a w β) {x : EV} {vx : Value} {sz : Nat} {news : List (List D)} (hx : EVR (cxOf G w β st) x vx) (hs : srcRows st x = some (sz, news)) {tx e' : TypeId}
    (htx : P.underlying tx = some (.slice e')) :
    ∃ vals, Flat w (SafeOf G w β st.o) sz news vals ∧ (∀ r ∈ news, r.length = sz) ∧ Src P sz tx vx news.length vals w := by
  unfold srcRows at hs
  split at hs
  · simp at hs; obtain ⟨rfl, rfl⟩ := hs
    simp only [EVR] at hx
    obtain ⟨ad, rfl⟩ := hx
    refine ⟨[], ⟨by simp, by simp, by simp⟩, by simp, ?_⟩
    cases ad with
    | none => exact Src.ofNil w htx 0
    | some ad => exact Src.ofSlice w htx ad 0 0 [] (by simp) (by simp) (by simp)
  · simp at hs; obtain ⟨rfl, rfl⟩ := hs
    simp only [EVR] at hx
    cases hx with
    | nil ad c _ =>
      refine ⟨[], ⟨by simp, by simp, by simp⟩, by simp, ?_⟩
      cases ad with
      | none => exact Src.ofNil w htx c
      | some ad => exact Src.ofSlice w htx ad 0 c [] (by simp) (by simp) (by simp)
    | sl b off c _ _ f hS hc hz hv hr =>
      obtain ⟨vals, h1, h2⟩ := flat_of (w := w) (S := SafeOf G w β st.o) (b := b) (off := off) hz (fun i j r x hr' hx => ⟨_, hv i j r x hr' hx, hr i j r x hr' hx⟩)
      exact ⟨vals, h1, hz, Src.ofSlice w htx _ _ _ vals h1.len (fun k u hu => by rw [addr_add]; exact h2 k u hu) h1.one⟩
  · rename_i m off len
    split at hs
    · rename_i sz' rows hob
      simp at hs; obtain ⟨rfl, rfl⟩ := hs
      obtain ⟨vals, h1, h2, h3, h4⟩ := own_cells h hob hx
      refine ⟨vals, h1, h3, ?_⟩
      rcases h4 with ⟨b, base, cs, T, cap, hβ, hh, rfl, hc, _, h5⟩ | ⟨ad, rfl, h0⟩
      · conv => arg 5; rw [h2]
        refine Src.ofSlice w htx _ _ _ vals (by rw [h1.len, h2]) (fun k u hu => ?_) h1.one
        rw [addr_add]
        simp only [World.cell?, hh]
        simpa using h5 k u hu
      · subst h0
        have hv : vals = [] := by apply List.eq_nil_of_length_eq_zero; rw [h1.len, h2]; simp
        subst hv
        conv => arg 5; rw [h2]
        cases ad with
        | none => exact Src.ofNil w htx 0
        | some ad => exact Src.ofSlice w htx ad 0 0 [] (by simp) (by simp) (by simp)
    · simp at hs
  · simp at hs

/-- an object without cells -/
theorem new0_rel (h : SimB G w0 io st a w β) (sz : Nat) : SimB G w0 io (st.add (.arr sz [])) a w (upd β st.nx none) := by
  have ho : ∀ m ob', (st.add (.arr sz [])).o m = some ob' → (m = st.nx ∧ ob' = .arr sz []) ∨ (m ≠ st.nx ∧ st.o m = some ob') := by
    intro m ob' hm
    by_cases hmn : m = st.nx
    · subst hmn; simp [St.add, upd_same] at hm; exact .inl ⟨rfl, hm.symm⟩
    · simp [St.add, upd_ne _ _ hmn] at hm; exact .inr ⟨hmn, hm⟩
  have hsafe : ∀ b, SafeOf G w β st.o b → SafeOf G w (upd β st.nx none) (st.add (.arr sz [])).o b := by
    intro b ⟨h1, h2, hg⟩
    refine ⟨h1, fun m o1 p hm hp => ?_, hg⟩
    rcases ho m o1 hm with ⟨rfl, _⟩ | ⟨hx, hm'⟩
    · simp [upd_same] at hp
    · rw [upd_ne _ _ hx] at hp; exact h2 m o1 p hm' hp
  have hle : (cxOf G w β st).Le (cxOf G w (upd β st.nx none) (st.add (.arr sz []))) := by
    refine ⟨fun b hb => ⟨hsafe b hb, rfl⟩, Nat.le_succ _, ?_, fun m o1 b base k _ _ _ hk => hk⟩
    intro m o1 hlt hm
    have hne : m ≠ st.nx := Nat.ne_of_lt hlt
    rcases ho m o1 hm with ⟨rfl, _⟩ | ⟨_, hm'⟩
    · exact absurd rfl hne
    · exact ⟨o1, hm', rfl, upd_ne _ _ hne, fun sz rows he => ⟨rows, he, Nat.le_refl _⟩⟩
  refine ⟨fun m o1 p hm hp => ?_, h.gnew, fun p hp => ⟨Nat.lt_succ_of_lt (h.ion p hp).1, (upd_ne _ _ (Nat.ne_of_lt (h.ion p hp).1)).trans (h.ion p hp).2⟩, h.defers, EVRs.mono hle _ _ h.tmps, ?_, ?_, ?_, ?_, h.grown, h.keep⟩
  · rcases ho m o1 hm with ⟨rfl, _⟩ | ⟨hx, hm'⟩
    · simp [upd_same] at hp
    · rw [upd_ne _ _ hx] at hp; exact h.gset m o1 p hm' hp
  · intro m o1 hm
    rcases ho m o1 hm with ⟨rfl, rfl⟩ | ⟨hx, hm'⟩
    · refine ⟨by simp, ?_⟩
      show match upd β st.nx none st.nx with | none => _ | some (b, base) => _
      rw [upd_same]
    · have := h.objs m o1 hm'
      cases o1 with
      | arr sz rows =>
        obtain ⟨h1, h2⟩ := this
        refine ⟨h1, ?_⟩
        show match upd β st.nx none m with | none => _ | some (b, base) => _
        rw [upd_ne _ _ hx]
        have h2' : match β m with | none => _ | some (b, base) => _ := h2
        cases hb : β m with
        | none => rw [hb] at h2'; exact h2'
        | some p =>
          obtain ⟨b1, base1⟩ := p
          rw [hb] at h2'
          obtain ⟨cs1, T1, h3, h4, h5⟩ := h2'
          exact ⟨cs1, T1, h3, h4, fun i j r x hr hx => by obtain ⟨v, h6, h7⟩ := h5 i j r x hr hx; exact ⟨v, h6, h7.mono hle.safe⟩⟩
      | box cells =>
        obtain ⟨b1, cs1, T1, h1, h2, h3⟩ := this
        refine ⟨b1, cs1, T1, ?_, h2, EVRs.mono hle _ _ h3⟩
        show upd β st.nx none m = _
        rw [upd_ne _ _ hx]; exact h1
  · intro m o1 b1 base1 hm hp
    rcases ho m o1 hm with ⟨rfl, _⟩ | ⟨hx, hm'⟩
    · simp [upd_same] at hp
    · rw [upd_ne _ _ hx] at hp; exact h.mine m o1 b1 base1 hm' hp
  · intro m m' o1 o2 p q h1 h2 hp hq hne
    rcases ho m o1 h1 with ⟨rfl, _⟩ | ⟨hx1, hm1⟩
    · simp [upd_same] at hp
    · rcases ho m' o2 h2 with ⟨rfl, _⟩ | ⟨hx2, hm2⟩
      · simp [upd_same] at hq
      · rw [upd_ne _ _ hx1] at hp; rw [upd_ne _ _ hx2] at hq
        exact h.apart m m' o1 o2 p q hm1 hm2 hp hq hne
  · intro m o1 hm
    rcases ho m o1 hm with ⟨rfl, _⟩ | ⟨_, hm'⟩
    · exact Nat.lt_succ_self _
    · exact Nat.lt_succ_of_lt (h.names m o1 hm')

theorem own0_evr {st' : St} {β' : Beta} {w' : World} {sz nx : Nat} (ho : st'.o nx = some (.arr sz [])) (hb : β' nx = none) (hlt : nx < st'.nx) (ad : Option Addr) :
    EVR (cxOf G w' β' st') (.own nx 0 0) (.slice ad 0 0) := by
  simp only [EVR]
  refine ⟨hlt, fun ob hob => ?_⟩
  rw [show (cxOf G w' β' st').o nx = st'.o nx from rfl, ho] at hob
  simp only [Option.some.injEq] at hob
  subst hob
  refine ⟨sz, [], rfl, by simp, ?_⟩
  rw [show (cxOf G w' β' st').β nx = β' nx from rfl, hb]
  exact ⟨ad, rfl, by simp, by simp⟩

theorem cap_ok {need old bytes : Nat} (h : old < need) (hn : need ≤ LIM) (hb : bytes ≤ 1024) : Builtin.nextslicecap need old * bytes ≤ 281474976710656 := by
  have := nextslicecap_le h
  unfold LIM at hn
  calc Builtin.nextslicecap need old * bytes ≤ (2 * need) * 1024 := Nat.mul_le_mul this hb
    _ ≤ 281474976710656 := by omega

include H in
theorem pappend_sound (h : SimB G w0 io st a w β) {t tx ty e e' : TypeId} (ht : ti t = some (.sl e)) (htx : ti tx = some (.sl e')) {s x : EV} {vs vx : Value} {K : St → EV → Prop}
    (hp : pappend ti t st s x K) (hs : EVR (cxOf G w β st) s vs) (hx : EVR (cxOf G w β st) x vx) :
    ∃ st' ev' v' w' β', K st' ev' ∧ SimB G w0 io st' a w' β' ∧ EVR (cxOf G w' β' st') ev' v' ∧ (Builtin.append_ #[t, tx] ty #[vs, vx]).run P w = .ok v' w' := by
  obtain ⟨hd, j, hj, hjs, hj1, hjb, hjb', _, z, hz, hzs⟩ := desc_sl H ht
  obtain ⟨hdx, _⟩ := desc_sl H htx
  have hes : elemSz ti t = szT ti e := by simp [elemSz, ht]
  unfold pappend at hp
  split at hp
  case h_2 => exact hp.elim
  rename_i sz news hsrc
  obtain ⟨hsz, hp⟩ := hp
  have hszj : j.size = sz := by rw [hjs, ← hes, hsz]
  obtain ⟨vals, hfl, hzn, hS⟩ := src_of h hx hsrc hdx
  rw [← hszj] at hS
  -- the arm that grows, out of what stood there
  have grow : ∀ (st1 : St) (olds : List (List D)) (ovals : List Value) (ad : Option Addr) (len cap : Nat), SimB G w0 io st1 a w β → (cxOf G w β st).Le (cxOf G w β st1) → st1.nx = st.nx →
      Flat w (SafeOf G w β st.o) sz olds ovals → (∀ r ∈ olds, r.length = sz) → olds.length = len → vs = .slice ad len cap →
      (Builtin.firstCells j.size len (.slice ad len cap)).run P w.drew = .ok ovals.toArray w.drew → cap < len + news.length → len + news.length ≤ LIM →
      K (st1.add (.arr sz (olds ++ news))) (.own st.nx 0 (len + news.length)) →
      ∃ st' ev' v' w' β', K st' ev' ∧ SimB G w0 io st' a w' β' ∧ EVR (cxOf G w' β' st') ev' v' ∧ (Builtin.append_ #[t, tx] ty #[vs, vx]).run P w = .ok v' w' := by
    intro st1 olds ovals ad len cap hst1 hle hnx hfo hzo hlo hvs hfc hcap hlim hk
    have hrun := run_append_grow_src (P := P) w t tx ty e j z hd hj hz ad len cap ovals hfc vx news.length vals hS hcap (by unfold LIM at hlim; omega) (cap_ok hcap hlim hjb')
    have hfa := hfo.append hfl
    obtain ⟨hn1, hn2⟩ := new_rel (w' := w.drew.alloc (.cells ((ovals ++ vals).toArray ++ Builtin.zeroCells z.cells (grownCap w (len + news.length) cap e - (len + news.length))) e)) hst1
      (cs := (ovals ++ vals).toArray ++ Builtin.zeroCells z.cells (grownCap w (len + news.length) cap e - (len + news.length))) (T := e) (ob := .arr sz (olds ++ news)) (by
        refine ⟨?_, ?_, ?_⟩
        · intro r hr
          rcases List.mem_append.mp hr with hr | hr
          · exact hzo r hr
          · exact hzn r hr
        · simp; have := hfo.len; have := hfl.len; rw [Nat.add_mul]; omega
        · intro i k r x hr hx
          obtain ⟨u, hu, hrd⟩ := hfa.rd i k r x hr hx
          have : i * sz + k < (ovals ++ vals).length := (List.getElem?_eq_some_iff.mp hu).1
          refine ⟨u, ?_, hrd.mono hle.safe⟩
          simp only [Array.toList_append]
          rw [List.getElem?_append_left (by simpa using this)]
          simpa using hu) rfl
    refine ⟨_, _, _, _, _, hk, hn1, ?_, by rw [hvs]; exact hrun⟩
    simp only [EVR]
    refine ⟨by show st.nx < st1.nx + 1; omega, fun ob hob => ?_⟩
    have : ob = .arr sz (olds ++ news) := by
      have e1 : (cxOf G (w.drew.alloc (.cells ((ovals ++ vals).toArray ++ Builtin.zeroCells z.cells (grownCap w (len + news.length) cap e - (len + news.length))) e)) (upd β st1.nx (some (w.heap.size, 0))) (st1.add (.arr sz (olds ++ news)))).o st.nx = some (.arr sz (olds ++ news)) := by
        show upd st1.o st1.nx _ st.nx = _
        rw [hnx, upd_same]
      rw [e1] at hob; simpa using hob.symm
    subst this
    refine ⟨sz, _, rfl, by simp; omega, ?_⟩
    show match upd β st1.nx (some (w.heap.size, 0)) st.nx with | none => _ | some (b, base) => _
    rw [hnx, upd_same]
    refine .inl ⟨grownCap w (len + news.length) cap e, (ovals ++ vals).length + (grownCap w (len + news.length) cap e - (len + news.length)) * z.cells.size, by simp, ?_, ⟨_, e, by show (w.heap.push _)[w.heap.size]? = _; simp; rfl, by simp [Builtin.zeroCells]⟩, ?_⟩
    · unfold grownCap; simp [Question.cut]
    · have hge : len + news.length ≤ grownCap w (len + news.length) cap e := by unfold grownCap; simp [Question.cut]
      have e1 : (ovals ++ vals).length = (len + news.length) * sz := by simp [hfo.len, hfl.len, hlo, Nat.add_mul]
      rw [e1, hzs, hszj, ← Nat.add_mul]
      simp
      exact Nat.le_of_eq (by congr 1; omega)
  split at hp
  · obtain ⟨hlim, hk⟩ := hp
    simp only [EVR] at hs
    obtain ⟨ad, rfl⟩ := hs
    have hfc : (Builtin.firstCells j.size 0 (.slice ad 0 0)).run P w.drew = .ok ([] : List Value).toArray w.drew := by
      cases ad with
      | none => simp [Builtin.firstCells]
      | some ad => simpa using (Src.ofSlice (P := P) w hdx ad 0 0 [] (size := j.size) (by simp) (by simp) (by simp)).cellsD
    by_cases hnn : news.length = 0
    · have hnews : news = [] := List.eq_nil_of_length_eq_zero hnn
      subst hnews
      have hvals : vals = [] := by apply List.eq_nil_of_length_eq_zero; rw [hfl.len]; simp
      subst hvals
      have hrun := run_append_nothing (P := P) w t tx ty e j hd hj ad 0 0 (by omega) vx hS
      -- an object of no cells: nothing in memory
      exact ⟨_, _, _, w, _, hk, new0_rel h sz, own0_evr (sz := sz) (by simp [St.add, upd_same]) (upd_same _ _ _) (by simp [St.add]) ad, hrun⟩
    · exact grow st [] [] ad 0 0 h ⟨fun b hb => ⟨hb, rfl⟩, Nat.le_refl _, fun m o1 _ hm => ⟨o1, hm, rfl, rfl, fun sz rows he => ⟨rows, he, Nat.le_refl _⟩⟩, fun m o1 b base k _ _ _ hk => hk⟩ rfl
        ⟨by simp, by simp, by simp⟩ (by simp) rfl rfl hfc (by omega) (by simpa using hlim) (by simpa using hk)
  · rename_i n off len
    split at hp
    case h_2 => exact hp.elim
    rename_i sz' rows hob
    obtain ⟨rfl, hlim, hk⟩ := hp
    obtain ⟨ovals, hfo, hlo, hzo, hcase⟩ := own_cells h hob hs
    obtain ⟨hdr, hdle⟩ := drop_rel h n
    rcases hcase with ⟨b, base, cs, T, cap, hβ, hh, rfl, hc, hkc, hcells⟩ | ⟨ad, rfl, h0⟩
    · have holdc : ∀ (k : Nat) u, ovals[k]? = some u → w.cell? ((⟨b, base + off * sz', none⟩ : Addr).add k) = some u := by
        intro k u hu
        rw [addr_add]
        simp only [World.cell?, hh]
        simpa using hcells k u hu
      by_cases hroom : len + news.length ≤ cap
      · -- there is room
        have hmulc : (off + cap) * sz' = off * sz' + cap * sz' := Nat.add_mul _ _ _
        have hmul2 : (len + news.length) * sz' ≤ cap * sz' := Nat.mul_le_mul_right _ hroom
        have hmul3 : (len + news.length) * sz' = len * sz' + news.length * sz' := Nat.add_mul _ _ _
        have hst := run_storeCells_at (P := P) b (base + off * sz' + len * sz') T vals 0 cs w hh (by rw [hfl.len]; omega) hfl.one
        simp only [Nat.add_zero] at hst
        have hrun : (Builtin.append_ #[t, tx] ty #[.slice (some ⟨b, base + off * sz', none⟩) len cap, vx]).run P w = .ok (.slice (some ⟨b, base + off * sz', none⟩) (len + news.length) cap)
            (w.setRow b (cs.toList.take (base + off * sz' + len * sz') ++ vals ++ cs.toList.drop (base + off * sz' + len * sz' + vals.length)).toArray) := by
          have hsc := hS.cells
          rw [hszj] at hsc
          rcases hS.kind with ⟨e'', hk''⟩ | hk'' <;> simp [Builtin.append_, run_underlying hd, run_underlying hk'', sizeOf, typeInfo, hj, hS.len, hroom, hszj, hsc, addr_add, hst]
        have hreb := rebase_rel (base' := base + off * sz') (rows' := (rows.drop off).take len) h hob hβ hh (by
          refine ⟨hzo, ?_, ?_⟩
          · rw [hlo]; omega
          · intro i k r x hr hx
            obtain ⟨u, hu, hrd⟩ := hfo.rd i k r x hr hx
            refine ⟨u, ?_, hrd⟩
            rw [show base + off * sz' + i * sz' + k = base + off * sz' + (i * sz' + k) by omega]
            exact hcells _ u hu)
        let st1 := (st.drop n).add (.arr sz' ((rows.drop off).take len))
        let β1 := upd β st.nx (some (b, base + off * sz'))
        have hle1 : ∀ k, SafeOf G w β st.o k → SafeOf G w β1 st1.o k := by
          intro k ⟨h1, h2, hg⟩
          refine ⟨h1, fun m o1 p hm hp => ?_, hg⟩
          by_cases hx : m = st.nx
          · subst hx; simp only [β1, upd_same, Option.some.injEq] at hp; subst hp; exact h2 n _ (b, base) hob hβ
          · simp only [β1, upd_ne _ _ hx] at hp
            have hm1 : upd st.o n none m = some o1 := by simpa [st1, St.add, St.drop, upd_ne _ _ hx] using hm
            by_cases hmn : m = n
            · subst hmn; simp [upd_same] at hm1
            · rw [upd_ne _ _ hmn] at hm1; exact h2 m o1 p hm1 hp
        have hcsz : (cs.toList.take (base + off * sz' + len * sz') ++ vals ++ cs.toList.drop (base + off * sz' + len * sz' + vals.length)).toArray.size = cs.size := by
          simp [hfl.len]; omega
        have hw := write_rel (n := st.nx) (ob := .arr sz' ((rows.drop off).take len)) (ob' := .arr sz' ((rows.drop off).take len ++ news)) hreb (upd_same _ _ _) (upd_same _ _ _) hh hcsz rfl
          (by rintro s2 r2 he; simp only [Obj.arr.injEq] at he; obtain ⟨rfl, rfl⟩ := he; exact ⟨_, rfl, by simp⟩) (by
            refine ⟨?_, ?_, ?_⟩
            · intro r hr
              rcases List.mem_append.mp hr with hr | hr
              · exact hzo r hr
              · exact hzn r hr
            · rw [hcsz]; simp only [List.length_append, hlo]; omega
            · intro i k r x hr hx
              obtain ⟨u, hu, hrd⟩ := (hfo.append hfl).rd i k r x hr hx
              refine ⟨u, ?_, hrd.mono fun k hk => ⟨hle1 k hk, rfl⟩⟩
              have hlen := (List.getElem?_eq_some_iff.mp hu).1
              simp only [List.length_append, hfo.len, hfl.len, hlo] at hlen
              simp only [List.getElem?_toArray]
              rw [splice_get (by simp [hfl.len]; omega)]
              by_cases hlt : i * sz' + k < ovals.length
              · rw [List.getElem?_append_left hlt] at hu
                rw [hfo.len, hlo] at hlt
                rw [if_pos (by omega), show base + off * sz' + i * sz' + k = base + off * sz' + (i * sz' + k) by omega]
                simpa using hcells _ u hu
              · rw [List.getElem?_append_right (by omega)] at hu
                rw [hfo.len, hlo] at hlt hu
                rw [if_neg (by omega), if_pos (by rw [hfl.len]; omega)]
                rw [show base + off * sz' + i * sz' + k - (base + off * sz' + len * sz') = i * sz' + k - len * sz' by omega]
                exact hu)
        have est : ({ st1 with o := upd st1.o st.nx (some (.arr sz' ((rows.drop off).take len ++ news))) } : St) = (st.drop n).add (.arr sz' ((rows.drop off).take len ++ news)) := by
          simp only [st1, St.add, St.drop, St.mk.injEq, true_and, and_true]
          funext m
          by_cases hx : m = st.nx
          · subst hx; simp [upd_same]
          · simp [upd_ne _ _ hx]
        rw [est] at hw
        refine ⟨_, _, _, _, _, hk, hw.1, ?_, hrun⟩
        simp only [EVR]
        refine ⟨Nat.lt_succ_self _, fun ob hob' => ?_⟩
        have : ob = .arr sz' ((rows.drop off).take len ++ news) := by
          have e1 : ((st.drop n).add (.arr sz' ((rows.drop off).take len ++ news))).o st.nx = some (.arr sz' ((rows.drop off).take len ++ news)) := upd_same _ _ _
          rw [show (cxOf G (w.setRow b (cs.toList.take (base + off * sz' + len * sz') ++ vals ++ cs.toList.drop (base + off * sz' + len * sz' + vals.length)).toArray) β1 ((st.drop n).add (.arr sz' ((rows.drop off).take len ++ news)))).o st.nx = ((st.drop n).add (.arr sz' ((rows.drop off).take len ++ news))).o st.nx from rfl, e1] at hob'
          simpa using hob'.symm
        subst this
        refine ⟨sz', _, rfl, by rw [List.length_append, hlo]; omega, ?_⟩
        show match upd β st.nx (some (b, base + off * sz')) st.nx with | none => _ | some (b, base) => _
        rw [upd_same]
        refine .inl ⟨cap, cs.size, by simp, hroom, ⟨_, T, setRow_heap w b cs _ T (0, 0) hh, hcsz⟩, ?_⟩
        rw [Nat.zero_add]; omega
      · exact grow (st.drop n) _ ovals _ len cap hdr hdle rfl hfo hzo hlo rfl
          (by
            have := (Src.ofSlice (P := P) w hdx ⟨b, base + off * sz', none⟩ len cap ovals (size := j.size) (by rw [hfo.len, hlo, hszj]) holdc hfo.one).cellsD
            simpa [Builtin.firstCells] using this)
          (by omega) hlim (by simpa using hk)
    · subst h0
      have hov : ovals = [] := by apply List.eq_nil_of_length_eq_zero; rw [hfo.len, hlo]; simp
      subst hov
      have hsub0 : (rows.drop off).take 0 = [] := by simp
      have hfc : (Builtin.firstCells j.size 0 (.slice ad 0 0)).run P w.drew = .ok ([] : List Value).toArray w.drew := by
        cases ad with
        | none => simp [Builtin.firstCells]
        | some ad => simpa using (Src.ofSlice (P := P) w hdx ad 0 0 [] (size := j.size) (by simp) (by simp) (by simp)).cellsD
      by_cases hnn : news.length = 0
      · have hnews : news = [] := List.eq_nil_of_length_eq_zero hnn
        subst hnews
        have hvals : vals = [] := by apply List.eq_nil_of_length_eq_zero; rw [hfl.len]; simp
        subst hvals
        have hrun := run_append_nothing (P := P) w t tx ty e j hd hj ad 0 0 (by omega) vx hS
        rw [hsub0] at hk
        exact ⟨_, _, _, w, _, hk, new0_rel hdr sz', own0_evr (sz := sz') (by simp [St.add, St.drop, upd_same]) (upd_same _ _ _) (by simp [St.add, St.drop]) ad, hrun⟩
      · exact grow (st.drop n) _ [] ad 0 0 hdr hdle rfl hfo hzo hlo rfl hfc (by omega) (by simpa using hlim) (by simpa using hk)
  · exact hp.elim
end
end Go.RX
