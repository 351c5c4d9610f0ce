/- RX, part 2: the operations that only read. -/
import Derived.Test.YtpcmbchibhcdiaaDoorRx1
namespace Go.RX
open Go

/-! ### the types' table, held against the program's -/
def zeroIs (k : TK) (v : Value) : Bool :=
  match k, v with
  | .int k, .int k' n => decide (k = k') && n == 0
  | .bool, .bool b => !b
  | .str, .string s => s.size == 0
  | .sl _, .slice none 0 0 => true
  | _, _ => false

def zerosAre (ti : TI) : List TypeId → List Value → Bool
  | [], [] => true
  | f :: fs, v :: vs => (match ti f with | some k => zeroIs k v | none => false) && zerosAre ti fs vs
  | _, _ => false

def fieldsAre (ti : TI) : Nat → List TypeId → List Field → Bool
  | _, [], [] => true
  | i, f :: fs, g :: gs => g.type == f && g.offset == i && (match ti f with | some (.st _) | none => false | _ => true) && fieldsAre ti (i + 1) fs gs
  | _, _, _ => false

def tkOk (P : Program) (ti : TI) (t : TypeId) (k : TK) : Bool :=
  match P.underlying t, P.info? t with
  | some u, some i =>
    match k with
    | .int kk => (match u with | .int k' => decide (k' = kk) | _ => false) && i.size == 1 && (match i.zero with | some z => zeroIs k z | none => false)
    | .bool => (match u with | .bool => true | _ => false) && i.size == 1 && (match i.zero with | some z => zeroIs k z | none => false)
    | .str => (match u with | .string => true | _ => false) && i.size == 1 && (match i.zero with | some z => zeroIs k z | none => false)
    | .sl e => (match u with | .slice e' => e' == e | _ => false) && i.size == 1 && (match i.zero with | some z => zeroIs k z | none => false) &&
        (match P.info? e with | some j => j.size == szT ti e && decide (1 ≤ j.size) && decide (1 ≤ j.bytes) && decide (j.bytes ≤ 1024) && (match j.zero with | some z => z.cells.size == j.size | none => false) | none => false) && (ti e).isSome
    | .st fs => (match u with | .struct fields => fieldsAre ti 0 fs fields.toList | _ => false) && i.size == fs.length &&
        (match i.zero with | some (.agg zs) => zerosAre ti fs zs.toList | _ => false)
    | .oth => (match u with | .struct _ | .array _ _ => false | _ => true) && i.size == 1
  | _, _ => false

structure TIok (P : Program) (ti : TI) : Prop where
  ok : ∀ t k, ti t = some k → tkOk P ti t k = true

theorem lookup_mem : ∀ {l : List (Nat × TK)} {t : Nat} {k : TK}, l.lookup t = some k → (t, k) ∈ l
  | [], _, _, h => by simp at h
  | (a, b) :: l, t, k, h => by
    simp only [List.lookup] at h
    split at h
    · rename_i heq; simp at heq; simp at h; subst heq; subst h; simp
    · exact List.mem_cons_of_mem _ (lookup_mem h)

theorem tiOk_of_list {P : Program} {l : List (Nat × TK)} (h : (l.all fun p => tkOk P (fun t => l.lookup t) p.1 p.2) = true) : TIok P fun t => l.lookup t :=
  ⟨fun _ _ hk => (List.all_eq_true.mp h) _ (lookup_mem hk)⟩

section types
variable {P : Program} {ti : TI} (H : TIok P ti)
include H

theorem tk_some {t : TypeId} {k : TK} (h : ti t = some k) : ∃ u i, P.underlying t = some u ∧ P.info? t = some i := by
  have := H.ok t k h
  unfold tkOk at this
  split at this
  · exact ⟨_, _, ‹_›, ‹_›⟩
  · simp at this

theorem size_of {t : TypeId} {k : TK} (h : ti t = some k) : ∃ i, P.info? t = some i ∧ i.size = szT ti t := by
  have h0 := H.ok t k h
  unfold tkOk at h0
  split at h0
  · rename_i u i hu hi
    refine ⟨i, hi, ?_⟩
    unfold szT; rw [h]
    cases k <;> simp only [Bool.and_eq_true, beq_iff_eq] at h0 ⊢ <;> first | exact h0.1.1.1.2 | exact h0.1.2 | exact h0.2
  · simp at h0

theorem isAgg_run {t : TypeId} {k : TK} (h : ti t = some k) (w : World) :
    (isAgg t).run P w = .ok (match k with | .st _ => true | _ => false) w := by
  have h0 := H.ok t k h
  unfold tkOk at h0
  split at h0
  · rename_i u i hu hi
    have e : (isAgg t).run P w = .ok (match u with | .struct _ | .array _ _ => true | _ => false) w := by
      simp only [isAgg, underlying, program, bind, Sem.bind, Sem.run, hu]
      cases u <;> rfl
    rw [e]
    cases k <;> simp only [Bool.and_eq_true] at h0 <;> (try cases u <;> simp_all)
  · simp at h0
end types
end Go.RX
