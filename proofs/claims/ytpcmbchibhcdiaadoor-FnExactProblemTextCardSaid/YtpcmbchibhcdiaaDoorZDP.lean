/- The law FnExactProblemText: from the contract to the row. -/
import Derived.Test.YtpcmbchibhcdiaaDoorZDC
import Derived.Test.YtpcmbchibhcdiaaDoorRows
import Derived.ProofKit
import Derived.LaidMore
import Derived.OpenShut
import Derived.Stop.Joined
namespace Go.RX.Tryd
open Go Go.Proofs Go.RX Go.Proofs.YtpcmbchibhcdiaaDoor
open Go.ChangeShapes Go.WideShapes Go.ChangeAt Go.RowKit

theorem exactCon (W0 : World) (x y : Int) : Con Tryd.prog W0 3 true [.agg [.im (.int .i64 x), .im (.int .i64 y)]] (fun r i => r = [.d (.im (.bool true))] ∧ i = []) := by
  have H := vokT11 W0
  have h0 : (ven T11).call 3 [.v (.cons (.int .i64) (.int .i64)) (x, y)] (fun rs ios => rs = [.v .bool true] ∧ ios = []) := by
    show laws_FnExactProblemText.c (x, y) (fun r0 => [VR.v .bool r0] = [.v .bool true] ∧ ([] : List (List VV)) = [])
    exact ⟨trivial, rfl, rfl⟩
  obtain ⟨rs, ios, ⟨rfl, rfl⟩, _, _, _, _, hc⟩ := H.call 3 [.v (.cons (.int .i64) (.int .i64)) (x, y)] (fun rs ios => rs = [.v .bool true] ∧ ios = []) h0
  exact hc

/-- what a contract gives of a run that begins in W, with nothing to write into -/
theorem con_run {P : Program} {W : World} {f : FuncId} {fresh : Bool} {args : List AV} {b : Bool} (h : Con P W f fresh args (fun r i => r = [.d (.im (.bool b))] ∧ i = [])) {S : Nat → Prop} (hS : ∀ b, S b → b < W.heap.size) {vals : List Value} (hv : ArgsR W S args vals []) :
    Calls P f vals.toArray W fun e w' => e = .returned (.bool b) ∧ WLe W w' ∧ ∀ k, k < W.heap.size → w'.heap[k]? = W.heap[k]? := by
  refine (h.2 W S vals [] ⟨Nat.le_refl _, fun _ _ => rfl⟩ List.nodup_nil (fun _ h => by cases h) hS hv).mono ?_
  rintro e w' ⟨rs, ios, vs, obs, ⟨rfl, rfl⟩, rfl, hle, hk, _, _, _, _, hr⟩
  refine ⟨?_, hle, fun k hk' => hk k hk' (by simp)⟩
  cases vs with
  | nil => exact hr.elim
  | cons v vs =>
    cases vs with
    | cons v' vs' =>
      simp only [RessR] at hr
      obtain ⟨_, _, _, _, h2⟩ := hr
      exact h2.elim
    | nil =>
      simp only [RessR, ResR] at hr
      obtain ⟨b1, b2, _, ⟨h1, _⟩, _⟩ := hr
      cases h1
      rfl
end Go.RX.Tryd
