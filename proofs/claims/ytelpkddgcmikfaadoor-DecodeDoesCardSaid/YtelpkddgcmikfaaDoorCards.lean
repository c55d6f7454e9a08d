/-
  DERIVED. GIVEN WITH THE SEED: THE CARDS: each row of YtelpkddgcmikfaaDoorRows.lean that lists a variable, with what it lists TIED to the program's text (the seventh form; the later family's looks); each row that meets fmt, with fmt's text TOLD by the authors' own Lean function (tested against real Go, not proved from fmt's source: count such statements apart). THE CARD IS WHAT COUNTS. Prove the row's statement (the work); the ties are given (YtelpkddgcmikfaaDoorTie.lean); close each card by the builder's one call (the guide's Derived/Test/ToyasCard.lean, 'card_holds'). Laid BY PROGRAM, IN A SANDBOX (cutbox-door.mjs). By AI agents, Wed Nov 11 2026. No macro, syntax, notation, axiom, sorry.
-/
import Derived.Test.YtelpkddgcmikfaaDoorRows
import GoSem.ClaimSeven
namespace Go.Proofs.YtelpkddgcmikfaaDoor
namespace Rows

/-- THE TIED CARD OF 'lightshiplaw20.DecodeDoes'. -/
def decodeDoesCard : Claim7 := { stood := { row := decodeDoesRow, standIns := [], harness := (true, "e412703d0df266736b8c4a6bb4147781429a1aaacc21c421cd8756dbd2526ede"), looks := true }, kinds := [], alts := [], laidByText := true, laidKinds := [.data, .pinned], laidTests := true, laidLooks := .later }
def DecodeDoesCardSaid : Prop := Claim7.holds Tryd.pinned (.plain (OpenSpec.ofChange decodeDoesSpec)) decodeDoesCard

/-- THE TIED CARD OF 'lightshiplaw20.DecodeShards'. -/
def decodeShardsCard : Claim7 := { stood := { row := decodeShardsRow, standIns := [], harness := (true, "e412703d0df266736b8c4a6bb4147781429a1aaacc21c421cd8756dbd2526ede"), looks := true }, kinds := [], alts := [], laidByText := true, laidKinds := [.data, .pinned], laidTests := true, laidLooks := .later }
def DecodeShardsCardSaid : Prop := Claim7.holds Tryd.pinned (.plain (OpenSpec.ofChange decodeShardsSpec)) decodeShardsCard

/-- THE TIED CARD OF 'lightshiplaw20.DecodeBack'. -/
def decodeBackCard : Claim7 := { stood := { row := decodeBackRow, standIns := [], harness := (true, "e412703d0df266736b8c4a6bb4147781429a1aaacc21c421cd8756dbd2526ede"), looks := true }, kinds := [], alts := [], laidByText := true, laidKinds := [.data, .pinned], laidTests := true, laidLooks := .later }
def DecodeBackCardSaid : Prop := Claim7.holds Tryd.pinned (.plain (OpenSpec.ofChange decodeBackSpec)) decodeBackCard

/-- THE SECOND FORM's CARD OF 'lightshiplaw20.DecodeDoes'. -/
def decodeDoesUptoCard : Claim7 := { stood := { row := decodeDoesUptoRow, standIns := [], harness := (true, "e412703d0df266736b8c4a6bb4147781429a1aaacc21c421cd8756dbd2526ede"), looks := true }, kinds := [], alts := [], laidByText := true, laidKinds := [.data, .pinned], laidTests := true, laidLooks := .later }
def DecodeDoesUptoCardSaid : Prop := Claim7.holds Tryd.pinned (.plain (OpenSpec.upto decodeDoesSpec)) decodeDoesUptoCard

/-- THE SECOND FORM's CARD OF 'lightshiplaw20.DecodeShards'. -/
def decodeShardsUptoCard : Claim7 := { stood := { row := decodeShardsUptoRow, standIns := [], harness := (true, "e412703d0df266736b8c4a6bb4147781429a1aaacc21c421cd8756dbd2526ede"), looks := true }, kinds := [], alts := [], laidByText := true, laidKinds := [.data, .pinned], laidTests := true, laidLooks := .later }
def DecodeShardsUptoCardSaid : Prop := Claim7.holds Tryd.pinned (.plain (OpenSpec.upto decodeShardsSpec)) decodeShardsUptoCard

/-- THE SECOND FORM's CARD OF 'lightshiplaw20.DecodeBack'. -/
def decodeBackUptoCard : Claim7 := { stood := { row := decodeBackUptoRow, standIns := [], harness := (true, "e412703d0df266736b8c4a6bb4147781429a1aaacc21c421cd8756dbd2526ede"), looks := true }, kinds := [], alts := [], laidByText := true, laidKinds := [.data, .pinned], laidTests := true, laidLooks := .later }
def DecodeBackUptoCardSaid : Prop := Claim7.holds Tryd.pinned (.plain (OpenSpec.upto decodeBackSpec)) decodeBackUptoCard
end Rows
end Go.Proofs.YtelpkddgcmikfaaDoor
