/- The law FnExactProblemText: the row. -/
import Derived.Test.YtpcmbchibhcdiaaDoorZDP
import Derived.Lib.SmallJoins
namespace Go.Proofs.YtpcmbchibhcdiaaDoor
open Go Go.RX Go.ChangeShapes Go.WideShapes Go.ChangeAt Go.RowKit

theorem own : ownKnob Tryd.prog.godebug = none := by kernel_rfl
def laid3 : List (String × DataW Unit) := [("math/bits.deBruijn32tab", Rows.laid_math_bits_deBruijn32tab), ("math/bits.deBruijn64tab", Rows.laid_math_bits_deBruijn64tab), ("internal/strconv.uint64pow10", Rows.laid_internal_strconv_uint64pow10)]
theorem door_met (os : Os) (args : Array Value) : laidMetH Tryd.prog laid3 ((World.doorLaid Tryd.prog 400 os).forCall (fun _ _ => 0) ⟨#[], args, []⟩).memory :=
  laidMetH_of_parts3 (fuel := 8) (laidMet_of_run' 8 (by kernel_rfl) (by kernel_rfl)) (by kernel_rfl) (by kernel_rfl)

theorem keptBut_of {w w' : World} {may : MemPlace → Prop} (h : WLe w w') (hk : ∀ k, k < w.heap.size → w'.heap[k]? = w.heap[k]?) : w.keptBut w' may := by
  refine ⟨h.2.1, h.2.2, fun i hi => ?_⟩
  rw [hk i hi]
  cases w.heap[i]? with
  | none => trivial
  | some o => cases o <;> first | exact ⟨rfl, rfl, rfl, fun _ _ => rfl⟩ | exact .inr ⟨rfl, rfl⟩ | rfl

set_option maxRecDepth 100000 in
theorem exact_lifted (os : Os) (started : os.Started) (H : Type) (enc : TypeId × Value → H) :
    ReturnsInHanded {} Tryd.checked os 3 .any (fun w args => (Rows.fnExactProblemTextSpec.pre enc Tryd.prog Tryd.f3 [] false w args ∧ laidMetH Tryd.prog laid3 w) ∧ sizedMet enc Tryd.prog Tryd.f3 (OpenSpec.ofChange Rows.fnExactProblemTextSpec) false w args)
      (Rows.fnExactProblemTextSpec.post enc Tryd.prog Tryd.f3 false true false false) := by
  refine returnsInHanded_of_change_and (C := Tryd.checked) (X := fun w _ => laidMetH Tryd.prog laid3 w) (fun _ _ _ hh h => h.of_heap hh) own started (by kernel_rfl) Tryd.func3
    (ChangeSpec.witness_shaped (enc := enc) (C := Tryd.checked) (os := os) (X := fun w _ => laidMetH Tryd.prog laid3 w) false (World.doorLaid Tryd.prog 400 os) #[.agg #[.int .i64 0, .int .i64 0]] 8 rfl (World.shaped_of_RefB (by kernel_rfl) (by kernel_rfl)) (by kernel_rfl) (by kernel_rfl) (by kernel_rfl) (door_met os _)) ?_
  intro W base args ds gs before hval0 hW _ _ hL _
  have hval : ∀ (j : Nat) t v, Tryd.f3.params[j]? = some t → args[j]? = some v → Value.okWide Tryd.prog W .any base t v := hval0
  have hW' := hW
  obtain ⟨p, q, hA0, hV, rfl, hfz, hnd⟩ := hW
  have hA : DataW.TrodAll enc Tryd.prog W 0 (fun _ => true) true Tryd.f3.params.toList args.toList ds p := hA0
  rw [Tryd.params3] at hA hval
  obtain ⟨v0, d0, rfl, rfl, h0⟩ := trodAll_one hA
  obtain ⟨rfl, rfl⟩ := trodVars_none hV
  obtain ⟨c0, c1, y0, y1, n, rfl, rfl, rfl, t0, t1⟩ := Go.Joins.open_agg2 Tryd.underlying23 (by kernel_rfl) (by kernel_rfl) (hval 0 23 v0 rfl rfl) h0
  obtain ⟨x, e0, rfl, w0⟩ := DataW.trod_int Tryd.underlying3 t0
  obtain ⟨y, e1, rfl, w1⟩ := DataW.trod_int Tryd.underlying3 t1
  obtain rfl : c0 = .int .i64 x := by simpa using e0
  obtain rfl : c1 = .int .i64 y := by simpa using e1
  clear hA0 hval0
  have hrun := Go.RX.Tryd.con_run (Go.RX.Tryd.exactCon W x y) (S := fun _ => False) (fun _ h => h.elim) (vals := [.agg #[.int .i64 x, .int .i64 y]]) ⟨[], [], rfl, ⟨⟨[.int .i64 x, .int .i64 y], rfl, ⟨.im _ rfl, .im _ rfl, trivial⟩⟩, rfl⟩, rfl⟩
  refine hrun.mono fun e W' ⟨he, hle, hk⟩ => ?_
  subst he
  have hargs : ∀ sp : Nat → Bool, DataW.TrodAll enc Tryd.prog W' 0 sp true [23] [.agg #[.int .i64 x, .int .i64 y]] [.agg [.lit (.int .i64 x), .lit (.int .i64 y)]] [] := fun sp =>
    trodAll_mk1 ⟨3, trod_struct2_mk (n := 2) (y0 := (.lit (.int .i64 x), [])) (y1 := (.lit (.int .i64 y), [])) Tryd.underlying23 (by kernel_rfl) (trod_int_mk 1 Tryd.underlying3 w0) (trod_int_mk 1 Tryd.underlying3 w1)⟩
  exact ⟨_, rfl, _, _, _, [], [], [], hW', trodAll_mk1 (shut_bool Tryd.underlying4 true), hargs _, rfl, keptBut_of hle hk, fun h => by cases h⟩
end Go.Proofs.YtpcmbchibhcdiaaDoor
