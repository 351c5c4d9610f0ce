/- The law FnExactProblemText: the tied card. -/
import Derived.Test.YtpcmbchibhcdiaaDoorZDQ
import Derived.Test.YtpcmbchibhcdiaaDoorCards
import Derived.Test.YtpcmbchibhcdiaaDoorTie
import Derived.SevenTiedAt
namespace Go.Proofs.YtpcmbchibhcdiaaDoor
open Go

theorem fnExactProblemText_holds : Rows.FnExactProblemTextSaid :=
  OpenClaim.holds_of_wide 3 Tryd.f3 rfl rfl rfl rfl rfl rfl rfl ⟨rfl, rfl, rfl, rfl, rfl⟩ rfl rfl rfl rfl rfl (by kernel_rfl) Tryd.func3 (by kernel_rfl)
    (of_decide_eq_true (by kernel_rfl)) (by unfold Func.isWrapper; first | (rw [if_pos (by decide +kernel)]; kernel_rfl) | (rw [if_neg (by decide +kernel)]; exact ⟨rfl, rfl⟩))
    (fun os started H enc _ => exact_lifted os started H enc)
theorem fnExactProblemText_card_holds : Rows.FnExactProblemTextCardSaid :=
  Claim7.holds_tied_plain_at .later [] [.data, .data, .data] true (true, "fa722eb8d6dd1d2a8ce9560f1a2bca83a6a81f26c34d1df271269e7a719c2c11") false
    fnExactProblemText_holds (fun _ h => by cases h) (by kernel_rfl) (fun _ h => by cases h) fnExactProblemText_row_tie rfl ⟨rfl, rfl⟩ (by kernel_rfl) rfl
    (fun f fn hf hfn => by
      obtain rfl : f = 3 := Option.some.inj ((show Tryd.prog.funcNamed "loop.example/configformatter/laws.FnExactProblemText" = some 3 by kernel_rfl).symm.trans hf) |>.symm
      obtain rfl : fn = Tryd.f3 := (Option.some.inj (Tryd.func3.symm.trans hfn)).symm
      exact ⟨by kernel_rfl, fun j t ht => by
        rw [Tryd.params3] at ht
        have hm : t ∈ [23] := by simpa using Array.mem_of_getElem? ht
        have hall : ([23].all fun u => !Tryd.prog.wantsStandIn u) = true := by kernel_rfl
        exact (show Tryd.prog.wantsStandIn t = false by simpa using List.all_eq_true.1 hall t hm)⟩)
    (by kernel_rfl)
#print axioms fnExactProblemText_card_holds
end Go.Proofs.YtpcmbchibhcdiaaDoor
