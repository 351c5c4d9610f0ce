/- RX, part 9: what a store, an append, a literal do. -/
import Derived.Test.YtpcmbchibhcdiaaDoorRx8
namespace Go.RX
open Go

theorem EVRs.append {c : Cx} : ∀ {es fs : List EV} {vs us : List Value}, EVRs c es vs → EVRs c fs us → EVRs c (es ++ fs) (vs ++ us)
  | [], _, [], _, _, h => h
  | e :: es, _, v :: vs, _, h, h' => by simp only [List.cons_append, EVRs] at *; exact ⟨h.1, EVRs.append h.2 h'⟩
  | [], _, _ :: _, _, h, _ => by simp [EVRs] at h
  | _ :: _, _, [], _, h, _ => by simp [EVRs] at h

section
variable {P : Program} {ti : TI} (H : TIok P ti) {G : Nat → Prop} {w0 : World} {io : List (Nat × Nat)} {st : St} {a : Act} {w : World} {β : Beta}

/-- the machine's store, of a value with as many cells as the type -/
theorem storeAt_run {t : TypeId} {i : TypeInfo} (hi : P.info? t = some i) {v : Value} (hv : v.cells.size = i.size) (h1 : ∀ u ∈ v.cells.toList, u.oneCell' = true)
    {g o : Nat} {cur : Array Value} {T : TypeId} (hg : w.heap[g]? = some (.cells cur T (0, 0))) (hl : o + v.cells.size ≤ cur.size) :
    (Instr.storeAt t (.pointer (some ⟨g, o, none⟩)) v).run P w = .ok () (w.setRow g (cur.toList.take o ++ v.cells.toList ++ cur.toList.drop (o + v.cells.size)).toArray) := by
  have := run_storeCells_at (P := P) g o T v.cells.toList 0 cur w hg (by simpa using hl) h1
  simp only [Nat.add_zero, Array.length_toList] at this
  simp [Instr.storeAt, Instr.sureAddr, storeVar, sizeOf, typeInfo, hi, hv, this]

def pstore (ti : TI) (t : TypeId) (st : St) (ad v : EV) (K : St → Prop) : Prop :=
  match ad with
  | .ptr n row fld =>
    match st.o n with
    | some (.box cells) => row = 0 ∧ ∃ es, boxCells st v = some es ∧ es.length = szT ti t ∧ (ti t).isSome = true ∧ fld + es.length ≤ cells.length ∧
        K { st with o := upd st.o n (some (.box (cells.take fld ++ es ++ cells.drop (fld + es.length)))) }
    | some (.arr sz rows) => ∃ ds, cellsOf v = some ds ∧ ds.length = szT ti t ∧ (ti t).isSome = true ∧ ∃ r, rows[row]? = some r ∧ fld + ds.length ≤ r.length ∧
        K { st with o := upd st.o n (some (.arr sz (rows.set row (r.take fld ++ ds ++ r.drop (fld + ds.length))))) }
    | none => False
  | _ => False

theorem splice_get {α : Type} {l m : List α} {o i : Nat} (h : o + m.length ≤ l.length) : (l.take o ++ m ++ l.drop (o + m.length))[i]? = if i < o then l[i]? else if i < o + m.length then m[i - o]? else l[i]? := by
  by_cases h1 : i < o
  · simp only [h1, if_true, List.append_assoc]
    rw [List.getElem?_append_left (by simp; omega), List.getElem?_take, if_pos h1]
  · simp only [h1, if_false]
    rw [List.append_assoc, List.getElem?_append_right (by simp; omega)]
    have e : (l.take o).length = o := by simp; omega
    rw [e]
    by_cases h2 : i < o + m.length
    · rw [if_pos h2, List.getElem?_append_left (by omega)]
    · rw [if_neg h2, List.getElem?_append_right (by omega), List.getElem?_drop]
      congr 1; omega

include H in
theorem pstore_sound (h : SimB G w0 io st a w β) {t : TypeId} {ad v : EV} {va vv : Value} {K : St → Prop} (hp : pstore ti t st ad v K)
    (ha : EVR (cxOf G w β st) ad va) (hv : EVR (cxOf G w β st) v vv) :
    ∃ st' w', K st' ∧ SimB G w0 io st' a w' β ∧ (Instr.storeAt t va vv).run P w = .ok () w' := by
  unfold pstore at hp
  split at hp
  case h_2 => exact hp.elim
  rename_i n row fld
  simp only [EVR] at ha
  obtain ⟨hn, ha⟩ := ha
  split at hp
  · rename_i cells hob
    obtain ⟨rfl, es, hes, hlen, hti, hle, hk⟩ := hp
    obtain ⟨k, hk'⟩ := Option.isSome_iff_exists.mp hti
    obtain ⟨i, hi, his⟩ := size_of H hk'
    obtain ⟨b, base, hβ, rfl⟩ := ha _ hob
    obtain ⟨b', cs, T, hβ', hh, hr⟩ := h.objs n _ hob
    rw [hβ] at hβ'; simp at hβ'; obtain ⟨rfl, rfl⟩ := hβ'
    obtain ⟨h1, h2⟩ := boxCells_rel (c := cxOf G w β st) rfl hv hes
    have hl1 := h1.length
    have hl2 := hr.length
    simp at hl1 hl2
    have hrun := storeAt_run (P := P) (w := w) hi (v := vv) (by omega) h2 (g := b) (o := fld) hh (by omega)
    have hcs : (cs.toList.take fld ++ vv.cells.toList ++ cs.toList.drop (fld + vv.cells.size)).toArray.size = cs.size := by simp; omega
    have := write_rel h hob hβ (cs' := (cs.toList.take fld ++ vv.cells.toList ++ cs.toList.drop (fld + vv.cells.size)).toArray) hh hcs
      (ob' := .box (cells.take fld ++ es ++ cells.drop (fld + es.length))) rfl (by simp) (by
        refine ⟨rfl, ?_⟩
        simp only []
        rw [hl1]
        exact ((hr.take fld).append h1).append (hr.drop _))
    exact ⟨_, _, hk, this.1, by simpa [Obj.sz] using hrun⟩
  · rename_i sz rows hob
    obtain ⟨ds, hds, hlen, hti, r, hr, hle, hk⟩ := hp
    obtain ⟨k, hk'⟩ := Option.isSome_iff_exists.mp hti
    obtain ⟨i, hi, his⟩ := size_of H hk'
    obtain ⟨b, base, hβ, rfl⟩ := ha _ hob
    obtain ⟨hz, hm⟩ := h.objs n _ hob
    rw [hβ] at hm
    obtain ⟨cs, T, hh, hsz, hcell⟩ := hm
    have h1 := cellsOf_rel hv hds
    have hl1 := h1.length
    simp at hl1
    have hrl : r.length = sz := hz r (List.mem_of_getElem? hr)
    have hrow : row < rows.length := (List.getElem?_eq_some_iff.mp hr).1
    have hmul : row * sz + sz ≤ rows.length * sz := by
      rw [← Nat.succ_mul]; exact Nat.mul_le_mul_right _ hrow
    have hrun := storeAt_run (P := P) (w := w) hi (v := vv) (by omega) h1.one (g := b) (o := base + row * sz + fld) hh (by omega)
    have hcs : (cs.toList.take (base + row * sz + fld) ++ vv.cells.toList ++ cs.toList.drop (base + row * sz + fld + vv.cells.size)).toArray.size = cs.size := by simp; omega
    have := write_rel h hob hβ (cs' := (cs.toList.take (base + row * sz + fld) ++ vv.cells.toList ++ cs.toList.drop (base + row * sz + fld + vv.cells.size)).toArray) hh hcs
      (ob' := .arr sz (rows.set row (r.take fld ++ ds ++ r.drop (fld + ds.length)))) rfl
      (by rintro sz' rows' he; simp only [Obj.arr.injEq] at he; obtain ⟨rfl, rfl⟩ := he; exact ⟨_, rfl, by simp⟩) (by
        refine ⟨?_, by rw [hcs]; simpa using hsz, ?_⟩
        · intro r' hr'
          rcases List.mem_or_eq_of_mem_set hr' with hr' | rfl
          · exact hz r' hr'
          · simp; omega
        · intro i j r' x hr' hx
          have hj : j < sz := by
            have hl : r'.length = sz := by
              rw [List.getElem?_set] at hr'
              split at hr'
              · simp at hr'; subst hr'; simp; omega
              · exact hz r' (List.mem_of_getElem? hr')
            have := (List.getElem?_eq_some_iff.mp hx).1
            omega
          simp only [List.getElem?_toArray]
          rw [show vv.cells.size = vv.cells.toList.length from rfl, splice_get (by simp; omega)]
          rw [List.getElem?_set] at hr'
          by_cases hir : row = i
          · subst hir
            rw [if_pos rfl, if_pos hrow] at hr'
            simp only [Option.some.injEq] at hr'
            subst hr'
            rw [splice_get hle] at hx
            by_cases c1 : j < fld
            · rw [if_pos c1] at hx
              rw [if_pos (by omega)]
              simpa using hcell row j r x hr hx
            · rw [if_neg c1] at hx
              by_cases c2 : j < fld + ds.length
              · rw [if_pos c2] at hx
                rw [if_neg (by omega), if_pos (by simp; omega)]
                obtain ⟨u, hu, hrd⟩ := h1.get hx
                refine ⟨u, ?_, hrd⟩
                rw [show base + row * sz + j - (base + row * sz + fld) = j - fld by omega]
                exact hu
              · rw [if_neg c2] at hx
                rw [if_neg (by omega), if_neg (by simp; omega)]
                simpa using hcell row j r x hr hx
          · rw [if_neg hir] at hr'
            have hi : i < rows.length := (List.getElem?_eq_some_iff.mp hr').1
            have : base + i * sz + j < base + row * sz + fld ∨ base + row * sz + fld + ds.length ≤ base + i * sz + j := by
              rcases Nat.lt_or_gt_of_ne hir with hlt | hgt
              · right
                have : row * sz + sz ≤ i * sz := by rw [← Nat.succ_mul]; exact Nat.mul_le_mul_right _ hlt
                omega
              · left
                have : i * sz + sz ≤ row * sz := by rw [← Nat.succ_mul]; exact Nat.mul_le_mul_right _ hgt
                omega
            rcases this with c | c
            · rw [if_pos c]; simpa using hcell i j r' x hr' hx
            · rw [if_neg (by omega), if_neg (by simp; omega)]; simpa using hcell i j r' x hr' hx)
    exact ⟨_, _, hk, this.1, by simpa [Obj.sz] using hrun⟩
  · exact hp.elim
end
end Go.RX
