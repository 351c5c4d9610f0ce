/- RX, part 10: append. -/
import Derived.Test.YtpcmbchibhcdiaaDoorRx9
namespace Go.RX
open Go

def LIM : Nat := 68719476736

def srcRows (st : St) : EV → Option (Nat × List (List D))
  | .nil sz => some (sz, [])
  | .d (.sl sz rows) => some (sz, rows)
  | .own m off len => match st.o m with | some (.arr sz rows) => some (sz, (rows.drop off).take len) | _ => none
  | _ => none

def St.drop (st : St) (n : Nat) : St := { st with o := upd st.o n none }

/-- the cells of rows, one behind the other -/
structure Flat (w : World) (S : Nat → Prop) (sz : Nat) (rows : List (List D)) (vals : List Value) : Prop where
  len : vals.length = rows.length * sz
  one : ∀ v ∈ vals, v.oneCell' = true
  rd : ∀ (i j : Nat) r x, rows[i]? = some r → r[j]? = some x → ∃ v, vals[i * sz + j]? = some v ∧ Rd w S v x

theorem flat_of {w : World} {S : Nat → Prop} {b sz : Nat} : ∀ {rows : List (List D)} {off : Nat}, (∀ r ∈ rows, r.length = sz) →
    (∀ (i j : Nat) r x, rows[i]? = some r → r[j]? = some x → ∃ v, w.cell? ⟨b, off + i * sz + j, none⟩ = some v ∧ Rd w S v x) →
    ∃ vals, Flat w S sz rows vals ∧ ∀ (k : Nat) v, vals[k]? = some v → w.cell? ⟨b, off + k, none⟩ = some v
  | [], off, _, _ => ⟨[], ⟨by simp, by simp, by simp⟩, by simp⟩
  | r :: rows, off, hz, hc => by
    have hr : r.length = sz := hz r (by simp)
    obtain ⟨vs, h1, h2, h3⟩ := RdAt.list (w := w) (S := S) (b := b) (cells := r) (off := off) (fun j x hx => by
      obtain ⟨v, h1, h2⟩ := hc 0 j r x (by simp) hx
      exact ⟨v, by simpa using h1, h2⟩)
    obtain ⟨vals, h4, h5⟩ := flat_of (w := w) (S := S) (b := b) (sz := sz) (rows := rows) (off := off + sz) (fun r hr => hz r (by simp [hr])) (fun i j r' x hr' hx => by
      obtain ⟨v, h1, h2⟩ := hc (i + 1) j r' x (by simpa using hr') hx
      exact ⟨v, by rw [show off + sz + i * sz + j = off + (i + 1) * sz + j by rw [Nat.succ_mul]; omega]; exact h1, h2⟩)
    refine ⟨vs ++ vals, ⟨?_, ?_, ?_⟩, ?_⟩
    · simp [h1, hr, h4.len, Nat.succ_mul, Nat.add_comm]
    · intro v hv
      rcases List.mem_append.mp hv with hv | hv
      · exact h3.one v hv
      · exact h4.one v hv
    · intro i j r' x hr' hx
      cases i with
      | zero =>
        simp at hr'; subst hr'
        obtain ⟨v, a, b⟩ := h3.get hx
        have : j < vs.length := (List.getElem?_eq_some_iff.mp a).1
        exact ⟨v, by rw [Nat.zero_mul, Nat.zero_add, List.getElem?_append_left this]; exact a, b⟩
      | succ i =>
        obtain ⟨v, a, b⟩ := h4.rd i j r' x (by simpa using hr') hx
        refine ⟨v, ?_, b⟩
        rw [List.getElem?_append_right (by rw [h1, hr, Nat.succ_mul]; omega), h1, hr, show (i + 1) * sz + j - sz = i * sz + j by rw [Nat.succ_mul]; omega]
        exact a
    · intro k v hv
      by_cases hk : k < vs.length
      · rw [List.getElem?_append_left hk] at hv
        exact h2 k v hv
      · rw [List.getElem?_append_right (by omega)] at hv
        have := h5 (k - vs.length) v hv
        rw [show off + k = off + sz + (k - vs.length) by omega]
        exact this

theorem Flat.append {w : World} {S : Nat → Prop} {sz : Nat} {r1 r2 : List (List D)} {v1 v2 : List Value} (h1 : Flat w S sz r1 v1) (h2 : Flat w S sz r2 v2) : Flat w S sz (r1 ++ r2) (v1 ++ v2) := by
  refine ⟨by simp [h1.len, h2.len, Nat.add_mul], ?_, ?_⟩
  · intro v hv
    rcases List.mem_append.mp hv with hv | hv
    · exact h1.one v hv
    · exact h2.one v hv
  · intro i j r x hr hx
    by_cases hi : i < r1.length
    · rw [List.getElem?_append_left hi] at hr
      obtain ⟨v, a, b⟩ := h1.rd i j r x hr hx
      have : i * sz + j < v1.length := (List.getElem?_eq_some_iff.mp a).1
      exact ⟨v, by rw [List.getElem?_append_left this]; exact a, b⟩
    · rw [List.getElem?_append_right (by omega)] at hr
      obtain ⟨v, a, b⟩ := h2.rd _ j r x hr hx
      refine ⟨v, ?_, b⟩
      have e : i * sz + j = v1.length + ((i - r1.length) * sz + j) := by
        have : (i - r1.length) * sz + r1.length * sz = i * sz := by rw [← Nat.add_mul]; congr 1; omega
        rw [h1.len]; omega
      rw [e, List.getElem?_append_right (by omega), Nat.add_sub_cancel_left]
      exact a

section
variable {P : Program} {ti : TI} {G : Nat → Prop} {w0 : World} {io : List (Nat × Nat)} {st : St} {a : Act} {w : World} {β : Beta}

theorem drop_rel (h : SimB G w0 io st a w β) (n : Nat) : SimB G w0 io (st.drop n) a w β ∧ (cxOf G w β st).Le (cxOf G w β (st.drop n)) := by
  have ho : ∀ m o1, (st.drop n).o m = some o1 → m ≠ n ∧ st.o m = some o1 := by
    intro m o1 hm
    by_cases hmn : m = n
    · subst hmn; simp [St.drop, upd_same] at hm
    · simp [St.drop, upd_ne _ _ hmn] at hm; exact ⟨hmn, hm⟩
  have hsafe : ∀ b, SafeOf G w β st.o b → SafeOf G w β (st.drop n).o b := fun b ⟨h1, h2, hg⟩ => ⟨h1, fun m o1 p hm hp => h2 m o1 p (ho m o1 hm).2 hp, hg⟩
  have hle : (cxOf G w β st).Le (cxOf G w β (st.drop n)) :=
    ⟨fun b hb => ⟨hsafe b hb, rfl⟩, Nat.le_refl _, fun m o1 _ hm => ⟨o1, (ho m o1 hm).2, rfl, rfl, fun sz rows he => ⟨rows, he, Nat.le_refl _⟩⟩, fun m o1 b base k _ _ _ hk => hk⟩
  refine ⟨⟨fun m o1 p hm hp => h.gset m o1 p (ho m o1 hm).2 hp, h.gnew, h.ion, h.defers, EVRs.mono hle _ _ h.tmps, ?_, fun m o1 b base hm hp => h.mine m o1 b base (ho m o1 hm).2 hp,
    fun m m' o1 o2 p q h1 h2 hp hq hne => h.apart m m' o1 o2 p q (ho m o1 h1).2 (ho m' o2 h2).2 hp hq hne, fun m o1 hm => h.names m o1 (ho m o1 hm).2, h.grown, h.keep⟩, hle⟩
  intro m o1 hm
  have := h.objs m o1 (ho m o1 hm).2
  cases o1 with
  | arr sz rows =>
    obtain ⟨h1, h2⟩ := this
    refine ⟨h1, ?_⟩
    have h2' : match β m with | none => _ | some (b, base) => _ := h2
    show match β m with | none => _ | some (b, base) => _
    cases hb : β m with
    | none => rw [hb] at h2'; exact h2'
    | some p =>
      obtain ⟨b, base⟩ := p
      rw [hb] at h2'
      obtain ⟨cs, T, h3, h4, h5⟩ := h2'
      exact ⟨cs, T, h3, h4, fun i j r x hr hx => by obtain ⟨v, h6, h7⟩ := h5 i j r x hr hx; exact ⟨v, h6, h7.mono hle.safe⟩⟩
  | box cells =>
    obtain ⟨b, cs, T, h1, h2, h3⟩ := this
    exact ⟨b, cs, T, h1, h2, EVRs.mono hle _ _ h3⟩

/-- a part of an owned row becomes an object of its own; the elder one is forgotten -/
theorem rebase_rel (h : SimB G w0 io st a w β) {n b base base' sz : Nat} {rows rows' : List (List D)} (hob : st.o n = some (.arr sz rows)) (hβ : β n = some (b, base))
    {cs : Array Value} {T : TypeId} (hh : w.heap[b]? = some (.cells cs T (0, 0))) (hf : Holds (cxOf G w β st) n b base' cs (.arr sz rows')) :
    SimB G w0 io ((st.drop n).add (.arr sz rows')) a w (upd β st.nx (some (b, base'))) := by
  let st' := (st.drop n).add (.arr sz rows')
  let β' := upd β st.nx (some (b, base'))
  show SimB G w0 io st' a w β'
  have hnx : n < st.nx := h.names n _ hob
  have ho : ∀ m o1, st'.o m = some o1 → (m = st.nx ∧ o1 = .arr sz rows') ∨ (m ≠ st.nx ∧ m ≠ n ∧ st.o m = some o1) := by
    intro m o1 hm
    by_cases hmx : m = st.nx
    · subst hmx; simp [st', St.add, St.drop, upd_same] at hm; exact .inl ⟨rfl, hm.symm⟩
    · have e : st'.o m = upd st.o n none m := upd_ne _ _ hmx
      rw [e] at hm
      by_cases hmn : m = n
      · subst hmn; simp [upd_same] at hm
      · rw [upd_ne _ _ hmn] at hm; exact .inr ⟨hmx, hmn, hm⟩
  have hsafe : ∀ k, SafeOf G w β st.o k → SafeOf G w β' st'.o k := by
    intro k ⟨h1, h2, hg⟩
    refine ⟨h1, fun m o1 p hm hp => ?_, hg⟩
    rcases ho m o1 hm with ⟨rfl, _⟩ | ⟨hx, _, hm'⟩
    · simp only [β', upd_same, Option.some.injEq] at hp; subst hp; show b ≠ k; exact h2 n _ (b, base) hob hβ
    · simp only [β', upd_ne _ _ hx] at hp; exact h2 m o1 p hm' hp
  have hle : (cxOf G w β st).Le (cxOf G w β' st') := by
    refine ⟨fun k hk => ⟨hsafe k hk, rfl⟩, Nat.le_succ _, ?_, fun m o1 b' base1 k _ _ _ hk => hk⟩
    intro m o1 hlt hm
    have hne : m ≠ st.nx := Nat.ne_of_lt hlt
    rcases ho m o1 hm with ⟨rfl, _⟩ | ⟨_, _, hm'⟩
    · exact absurd rfl hne
    · exact ⟨o1, hm', rfl, upd_ne _ _ hne, fun sz rows he => ⟨rows, he, Nat.le_refl _⟩⟩
  refine ⟨fun m o1 p hm hp => ?_, h.gnew, fun p hp => ⟨Nat.lt_succ_of_lt (h.ion p hp).1, (upd_ne _ _ (Nat.ne_of_lt (h.ion p hp).1)).trans (h.ion p hp).2⟩, h.defers, EVRs.mono hle _ _ h.tmps, ?_, ?_, ?_, ?_, h.grown, h.keep⟩
  · rcases ho m o1 hm with ⟨rfl, _⟩ | ⟨hx, _, hm'⟩
    · simp only [β', upd_same, Option.some.injEq] at hp; subst hp; exact h.gset n _ (b, base) hob hβ
    · simp only [β', upd_ne _ _ hx] at hp; exact h.gset m o1 p hm' hp
  · intro m o1 hm
    rcases ho m o1 hm with ⟨rfl, rfl⟩ | ⟨hx, _, hm'⟩
    · obtain ⟨h1, h2, h3⟩ := hf
      refine ⟨h1, ?_⟩
      show match upd β st.nx (some (b, base')) st.nx with | none => _ | some (b, base) => _
      rw [upd_same]
      exact ⟨cs, T, hh, h2, fun i j r x hr hx => by obtain ⟨v, h4, h5⟩ := h3 i j r x hr hx; exact ⟨v, h4, h5.mono hle.safe⟩⟩
    · have := h.objs m o1 hm'
      cases o1 with
      | arr sz rows =>
        obtain ⟨h1, h2⟩ := this
        refine ⟨h1, ?_⟩
        show match upd β st.nx (some (b, base')) m with | none => _ | some (b, base) => _
        rw [upd_ne _ _ hx]
        have h2' : match β m with | none => _ | some (b, base) => _ := h2
        cases hb : β m with
        | none => rw [hb] at h2'; exact h2'
        | some p =>
          obtain ⟨b1, base1⟩ := p
          rw [hb] at h2'
          obtain ⟨cs1, T1, h3, h4, h5⟩ := h2'
          exact ⟨cs1, T1, h3, h4, fun i j r x hr hx => by obtain ⟨v, h6, h7⟩ := h5 i j r x hr hx; exact ⟨v, h6, h7.mono hle.safe⟩⟩
      | box cells =>
        obtain ⟨b1, cs1, T1, h1, h2, h3⟩ := this
        refine ⟨b1, cs1, T1, ?_, h2, EVRs.mono hle _ _ h3⟩
        show upd β st.nx _ m = _
        rw [upd_ne _ _ hx]; exact h1
  · intro m o1 b1 base1 hm hp
    rcases ho m o1 hm with ⟨rfl, _⟩ | ⟨hx, _, hm'⟩
    · simp only [β', upd_same, Option.some.injEq, Prod.mk.injEq] at hp; obtain ⟨rfl, rfl⟩ := hp; exact h.mine n _ b base hob hβ
    · simp only [β', upd_ne _ _ hx] at hp; exact h.mine m o1 b1 base1 hm' hp
  · intro m m' o1 o2 p q h1 h2 hp hq hne
    rcases ho m o1 h1 with ⟨rfl, _⟩ | ⟨hx1, hn1, hm1⟩ <;> rcases ho m' o2 h2 with ⟨rfl, _⟩ | ⟨hx2, hn2, hm2⟩
    · exact absurd rfl hne
    · simp only [β', upd_same, Option.some.injEq] at hp; subst hp
      simp only [β', upd_ne _ _ hx2] at hq
      exact h.apart n m' _ o2 (b, base) q hob hm2 hβ hq (Ne.symm hn2)
    · simp only [β', upd_same, Option.some.injEq] at hq; subst hq
      simp only [β', upd_ne _ _ hx1] at hp
      exact h.apart m n o1 _ p (b, base) hm1 hob hp hβ hn1
    · simp only [β', upd_ne _ _ hx1] at hp; simp only [β', upd_ne _ _ hx2] at hq
      exact h.apart m m' o1 o2 p q hm1 hm2 hp hq hne
  · intro m o1 hm
    rcases ho m o1 hm with ⟨rfl, _⟩ | ⟨_, _, hm'⟩
    · exact Nat.lt_succ_self _
    · exact Nat.lt_succ_of_lt (h.names m o1 hm')
end
end Go.RX
