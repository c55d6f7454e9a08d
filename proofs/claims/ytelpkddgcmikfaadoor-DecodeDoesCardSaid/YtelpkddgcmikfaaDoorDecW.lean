/-
  Cut: a world for the witness: the library's two tables lie as the rows list them.
-/
import Derived.Test.YtelpkddgcmikfaaDoorCards
import Derived.Test.YtelpkddgcmikfaaDoorTie
import Derived.Test.YtelpkddgcmikfaaDoorML
import Derived.Test.YtelpkddgcmikfaaDoorMA
import Derived.OpenShut
import Derived.Deep.DeepHandedRow
import Derived.SevenTiedAt
namespace Go.Proofs.YtelpkddgcmikfaaDoor
open Go.ChangeShapes Go.WideShapes Go.ChangeAt Go.RowKit
set_option maxRecDepth 100000
/-- unicode/utf8.first: what each first byte says. -/
def firstU : List Value := ((List.replicate 128 240 ++ List.replicate 66 241 ++ List.replicate 30 2 ++ [19] ++ List.replicate 12 3 ++ [35, 3, 3, 52, 4, 4, 4, 68] ++ List.replicate 11 241 : List Nat)).map fun (n : Nat) => .int .u8 (n : Int)
/-- unicode/utf8.acceptRanges: the bounds of a second byte. -/
def rangesU : List Value := (([128, 191, 160, 191, 128, 159, 144, 191, 128, 143] ++ List.replicate 22 0 : List Nat)).map fun (n : Nat) => .int .u8 (n : Int)
def withCells (vs : List Value) : Obj → Obj
  | .cells _ t frozen => .cells vs.toArray t frozen
  | o => o
noncomputable def laidWorld (os : Os) : World :=
  { World.holding Tryd.prog os ⟨#[], #[], []⟩ with heap := ((World.holding Tryd.prog os ⟨#[], #[], []⟩).heap.modify 1 (withCells firstU)).modify 2 (withCells rangesU) }
end Go.Proofs.YtelpkddgcmikfaaDoor
