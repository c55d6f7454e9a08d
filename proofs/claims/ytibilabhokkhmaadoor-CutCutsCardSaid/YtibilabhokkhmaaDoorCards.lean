/-
  DERIVED. GIVEN WITH THE SEED: THE CARDS: each row of YtibilabhokkhmaaDoorRows.lean that lists a variable, with what it lists TIED to the program's text (the seventh form; the later family's looks); each row that meets fmt, with fmt's text TOLD by the authors' own Lean function (tested against real Go, not proved from fmt's source: count such statements apart). THE CARD IS WHAT COUNTS. Prove the row's statement (the work); the ties are given (YtibilabhokkhmaaDoorTie.lean); close each card by the builder's one call (the guide's Derived/Test/ToyasCard.lean, 'card_holds'). Laid BY PROGRAM, IN A SANDBOX (cutbox-door.mjs). By AI agents, Wed Nov 11 2026. No macro, syntax, notation, axiom, sorry.
-/
import Derived.Test.YtibilabhokkhmaaDoorRows
import GoSem.ClaimSeven
namespace Go.Proofs.YtibilabhokkhmaaDoor
namespace Rows

/-- THE TIED CARD OF 'lightshiplaw06.CutCuts'. -/
def cutCutsCard : Claim7 := { stood := { row := cutCutsRow, standIns := [], harness := (true, "abc48f122bb8cc1c806de769199633abc8fc5a8df54165c26821bfa851aeffdb"), looks := false }, kinds := [], alts := [], laidByText := true, laidKinds := [.data, .pinned], laidTests := true, laidLooks := .later }
def CutCutsCardSaid : Prop := Claim7.holds Tryd.pinned (.plain (OpenSpec.ofChange cutCutsSpec)) cutCutsCard

/-- THE TIED CARD OF 'lightshiplaw06.CutJoins'. -/
def cutJoinsCard : Claim7 := { stood := { row := cutJoinsRow, standIns := [], harness := (true, "abc48f122bb8cc1c806de769199633abc8fc5a8df54165c26821bfa851aeffdb"), looks := false }, kinds := [], alts := [], laidByText := true, laidKinds := [.data, .pinned], laidTests := true, laidLooks := .later }
def CutJoinsCardSaid : Prop := Claim7.holds Tryd.pinned (.plain (OpenSpec.ofChange cutJoinsSpec)) cutJoinsCard

/-- THE TIED CARD OF 'lightshiplaw06.CutBack'. -/
def cutBackCard : Claim7 := { stood := { row := cutBackRow, standIns := [], harness := (true, "abc48f122bb8cc1c806de769199633abc8fc5a8df54165c26821bfa851aeffdb"), looks := false }, kinds := [], alts := [], laidByText := true, laidKinds := [.data, .pinned], laidTests := true, laidLooks := .later }
def CutBackCardSaid : Prop := Claim7.holds Tryd.pinned (.plain (OpenSpec.ofChange cutBackSpec)) cutBackCard

/-- THE SECOND FORM's CARD OF 'lightshiplaw06.CutCuts'. -/
def cutCutsUptoCard : Claim7 := { stood := { row := cutCutsUptoRow, standIns := [], harness := (true, "abc48f122bb8cc1c806de769199633abc8fc5a8df54165c26821bfa851aeffdb"), looks := false }, kinds := [], alts := [], laidByText := true, laidKinds := [.data, .pinned], laidTests := true, laidLooks := .later }
def CutCutsUptoCardSaid : Prop := Claim7.holds Tryd.pinned (.plain (OpenSpec.upto cutCutsSpec)) cutCutsUptoCard

/-- THE SECOND FORM's CARD OF 'lightshiplaw06.CutJoins'. -/
def cutJoinsUptoCard : Claim7 := { stood := { row := cutJoinsUptoRow, standIns := [], harness := (true, "abc48f122bb8cc1c806de769199633abc8fc5a8df54165c26821bfa851aeffdb"), looks := false }, kinds := [], alts := [], laidByText := true, laidKinds := [.data, .pinned], laidTests := true, laidLooks := .later }
def CutJoinsUptoCardSaid : Prop := Claim7.holds Tryd.pinned (.plain (OpenSpec.upto cutJoinsSpec)) cutJoinsUptoCard

/-- THE SECOND FORM's CARD OF 'lightshiplaw06.CutBack'. -/
def cutBackUptoCard : Claim7 := { stood := { row := cutBackUptoRow, standIns := [], harness := (true, "abc48f122bb8cc1c806de769199633abc8fc5a8df54165c26821bfa851aeffdb"), looks := false }, kinds := [], alts := [], laidByText := true, laidKinds := [.data, .pinned], laidTests := true, laidLooks := .later }
def CutBackUptoCardSaid : Prop := Claim7.holds Tryd.pinned (.plain (OpenSpec.upto cutBackSpec)) cutBackUptoCard
end Rows
end Go.Proofs.YtibilabhokkhmaaDoor
