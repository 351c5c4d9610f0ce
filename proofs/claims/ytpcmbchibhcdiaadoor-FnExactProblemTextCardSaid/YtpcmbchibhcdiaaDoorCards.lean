/-
  DERIVED. GIVEN WITH THE SEED: THE CARDS: each row of YtpcmbchibhcdiaaDoorRows.lean that lists a variable, with what it lists TIED to the program's text (the seventh form; the later family's looks); each row that meets fmt, with fmt's text TOLD by the authors' own Lean function (tested against real Go, not proved from fmt's source: count such statements apart). THE CARD IS WHAT COUNTS. Prove the row's statement (the work); the ties are given (YtpcmbchibhcdiaaDoorTie.lean); close each card by the builder's one call (the guide's Derived/Test/ToyasCard.lean, 'card_holds'). Laid BY PROGRAM, IN A SANDBOX (cutbox-door.mjs). By AI agents, Wed Nov 11 2026. No macro, syntax, notation, axiom, sorry.
-/
import Derived.Test.YtpcmbchibhcdiaaDoorRows
import GoSem.ClaimSeven
namespace Go.Proofs.YtpcmbchibhcdiaaDoor
namespace Rows

/-- THE TIED CARD OF 'laws.FnExactProblemText'. -/
def fnExactProblemTextCard : Claim7 := { stood := { row := fnExactProblemTextRow, standIns := [], harness := (true, "fa722eb8d6dd1d2a8ce9560f1a2bca83a6a81f26c34d1df271269e7a719c2c11"), looks := false }, kinds := [], alts := [], laidByText := true, laidKinds := [.data, .data, .data], laidTests := true, laidLooks := .later }
def FnExactProblemTextCardSaid : Prop := Claim7.holds Tryd.pinned (.plain (OpenSpec.ofChange fnExactProblemTextSpec)) fnExactProblemTextCard

/-- THE TIED CARD OF 'laws.FnProblemText'. -/
def fnProblemTextCard : Claim7 := { stood := { row := fnProblemTextRow, standIns := [], harness := (true, "fa722eb8d6dd1d2a8ce9560f1a2bca83a6a81f26c34d1df271269e7a719c2c11"), looks := false }, kinds := [], alts := [], laidByText := true, laidKinds := [.data, .data, .data], laidTests := true, laidLooks := .later }
def FnProblemTextCardSaid : Prop := Claim7.holds Tryd.pinned (.plain (OpenSpec.ofChange fnProblemTextSpec)) fnProblemTextCard

/-- THE SECOND FORM's CARD OF 'laws.FnExactProblemText'. -/
def fnExactProblemTextUptoCard : Claim7 := { stood := { row := fnExactProblemTextUptoRow, standIns := [], harness := (true, "fa722eb8d6dd1d2a8ce9560f1a2bca83a6a81f26c34d1df271269e7a719c2c11"), looks := false }, kinds := [], alts := [], laidByText := true, laidKinds := [.data, .data, .data], laidTests := true, laidLooks := .later }
def FnExactProblemTextUptoCardSaid : Prop := Claim7.holds Tryd.pinned (.plain (OpenSpec.upto fnExactProblemTextSpec)) fnExactProblemTextUptoCard

/-- THE SECOND FORM's CARD OF 'laws.FnProblemText'. -/
def fnProblemTextUptoCard : Claim7 := { stood := { row := fnProblemTextUptoRow, standIns := [], harness := (true, "fa722eb8d6dd1d2a8ce9560f1a2bca83a6a81f26c34d1df271269e7a719c2c11"), looks := false }, kinds := [], alts := [], laidByText := true, laidKinds := [.data, .data, .data], laidTests := true, laidLooks := .later }
def FnProblemTextUptoCardSaid : Prop := Claim7.holds Tryd.pinned (.plain (OpenSpec.upto fnProblemTextSpec)) fnProblemTextUptoCard
end Rows
end Go.Proofs.YtpcmbchibhcdiaaDoor
