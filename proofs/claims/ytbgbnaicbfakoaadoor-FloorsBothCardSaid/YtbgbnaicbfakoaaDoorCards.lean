/-
  DERIVED. GIVEN WITH THE SEED: THE CARDS: each row of YtbgbnaicbfakoaaDoorRows.lean that lists a variable, with what it lists TIED to the program's text (the seventh form; the later family's looks); each row that meets fmt, with fmt's text TOLD by the authors' own Lean function (tested against real Go, not proved from fmt's source: count such statements apart). THE CARD IS WHAT COUNTS. Prove the row's statement (the work); the ties are given (YtbgbnaicbfakoaaDoorTie.lean); close each card by the builder's one call (the guide's Derived/Test/ToyasCard.lean, 'card_holds'). Laid BY PROGRAM, IN A SANDBOX (cutbox-door.mjs). By AI agents, Wed Nov 11 2026. No macro, syntax, notation, axiom, sorry.
-/
import Derived.Test.YtbgbnaicbfakoaaDoorRows
import GoSem.ClaimSeven
namespace Go.Proofs.YtbgbnaicbfakoaaDoor
namespace Rows

/-- THE TIED CARD OF 'paternosterlaw02.FloorsGo'. -/
def floorsGoCard : Claim7 := { stood := { row := floorsGoRow, standIns := [], harness := (true, "ea0103e2268d7262b897b4e5ce23d2b04cdf8fc556eb945df828a4011381bccb"), looks := false }, kinds := [], alts := [], laidByText := true, laidKinds := [.data], laidTests := true, laidLooks := .later }
def FloorsGoCardSaid : Prop := Claim7.holds Tryd.pinned (.plain (OpenSpec.ofChange floorsGoSpec)) floorsGoCard

/-- THE TIED CARD OF 'paternosterlaw02.FloorsTold'. -/
def floorsToldCard : Claim7 := { stood := { row := floorsToldRow, standIns := [], harness := (true, "ea0103e2268d7262b897b4e5ce23d2b04cdf8fc556eb945df828a4011381bccb"), looks := false }, kinds := [], alts := [], laidByText := true, laidKinds := [.data], laidTests := true, laidLooks := .later }
def FloorsToldCardSaid : Prop := Claim7.holds Tryd.pinned (.plain (OpenSpec.ofChange floorsToldSpec)) floorsToldCard

/-- THE TIED CARD OF 'paternosterlaw02.FloorsBoth'. -/
def floorsBothCard : Claim7 := { stood := { row := floorsBothRow, standIns := [], harness := (true, "ea0103e2268d7262b897b4e5ce23d2b04cdf8fc556eb945df828a4011381bccb"), looks := false }, kinds := [], alts := [], laidByText := true, laidKinds := [.data], laidTests := true, laidLooks := .later }
def FloorsBothCardSaid : Prop := Claim7.holds Tryd.pinned (.plain (OpenSpec.ofChange floorsBothSpec)) floorsBothCard

/-- THE SECOND FORM's CARD OF 'paternosterlaw02.FloorsGo'. -/
def floorsGoUptoCard : Claim7 := { stood := { row := floorsGoUptoRow, standIns := [], harness := (true, "ea0103e2268d7262b897b4e5ce23d2b04cdf8fc556eb945df828a4011381bccb"), looks := false }, kinds := [], alts := [], laidByText := true, laidKinds := [.data], laidTests := true, laidLooks := .later }
def FloorsGoUptoCardSaid : Prop := Claim7.holds Tryd.pinned (.plain (OpenSpec.upto floorsGoSpec)) floorsGoUptoCard

/-- THE SECOND FORM's CARD OF 'paternosterlaw02.FloorsTold'. -/
def floorsToldUptoCard : Claim7 := { stood := { row := floorsToldUptoRow, standIns := [], harness := (true, "ea0103e2268d7262b897b4e5ce23d2b04cdf8fc556eb945df828a4011381bccb"), looks := false }, kinds := [], alts := [], laidByText := true, laidKinds := [.data], laidTests := true, laidLooks := .later }
def FloorsToldUptoCardSaid : Prop := Claim7.holds Tryd.pinned (.plain (OpenSpec.upto floorsToldSpec)) floorsToldUptoCard

/-- THE SECOND FORM's CARD OF 'paternosterlaw02.FloorsBoth'. -/
def floorsBothUptoCard : Claim7 := { stood := { row := floorsBothUptoRow, standIns := [], harness := (true, "ea0103e2268d7262b897b4e5ce23d2b04cdf8fc556eb945df828a4011381bccb"), looks := false }, kinds := [], alts := [], laidByText := true, laidKinds := [.data], laidTests := true, laidLooks := .later }
def FloorsBothUptoCardSaid : Prop := Claim7.holds Tryd.pinned (.plain (OpenSpec.upto floorsBothSpec)) floorsBothUptoCard
end Rows
end Go.Proofs.YtbgbnaicbfakoaaDoor
