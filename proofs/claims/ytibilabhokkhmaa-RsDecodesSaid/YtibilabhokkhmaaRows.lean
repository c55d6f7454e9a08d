/-
  No cell of these rows narrows 'for every input' (looked for: loops, veiled, ifaces, maps, wideKeys, modest, calm, conditions, laid).
  DERIVED. THE GIVEN ROWS OF THIS SEAT. 9 by the template 'for every input the law returns true; each argument reads behind the call as it read before'; 0 by the template 'total and deterministic' (their statements: YtibilabhokkhmaaTotals.lean).
  GIVEN WITH THE SEED: the statements are not yours to turn. If you find one false, say at which input.
  Laid BY PROGRAM, IN A SANDBOX (cutbox-rows.mjs): the forced cells as the released guide's own fill.sh prints them over the translation bf3573795ef04116… (all of the seat's roots in one cut). By AI agents, Wed Nov 11 2026. No macro, syntax, notation, axiom, sorry.
-/
import Derived.Test.YtibilabhokkhmaaChecked
import GoSem.Claim
import GoSem.ClaimJoined
import GoSem.ClaimMapViews
import Derived.JoinedTies
import Derived.KernelRfl
namespace Go.Proofs.Ytibilabhokkhmaa
/- THE CELL 'sum', in the pinned program and in every row, IS THE sha256 OF THE DUMP (.gsa) THAT YtibilabhokkhmaaProg.lean LOADS. Nothing in Lean hashes anything: it is a label: what it is worth is what the hold of that sum in a sandbox is worth. -/
noncomputable def Try.pinned : Pinned := { name := "ytibilabhokkhmaa", sum := "bf3573795ef041165202bce390f26770384a4ef852bfaeff33990c3b184dc5af", checked := Try.checked }
namespace Rows
def none {H : Type} : Left H := { results := [], args := [] }

/-- 'lightshiplaw04.CauchyRows': WHATEVER THE INPUT: true; the input reads as it did. -/
def cauchyRowsSpec : ChangeSpec := { name := "cauchyRows", fn := fun _ => fun
  | [d1, d2, d3] => { results := [.lit (.bool true)], args := [d1, d2, d3] }
  | _ => none }
def cauchyRowsRow : OpenClaim := { program := "ytibilabhokkhmaa", sum := "bf3573795ef041165202bce390f26770384a4ef852bfaeff33990c3b184dc5af", func := "lightship/lightshiplaw04.CauchyRows", spec := "cauchyRows", unfollowed := true, recurses := true, apart := false }
def CauchyRowsSaid : Prop := cauchyRowsRow.holds Try.pinned (OpenSpec.ofChange cauchyRowsSpec)

/-- ITS FALSE NEIGHBOUR: 'it returns false'. Refute it at one input. -/
def cauchyRowsWrong : ChangeSpec := { name := "cauchyRows", fn := fun _ => fun
  | [d1, d2, d3] => { results := [.lit (.bool false)], args := [d1, d2, d3] }
  | _ => none }
def CauchyRowsWrongFalsely : Prop := cauchyRowsRow.holds Try.pinned (OpenSpec.ofChange cauchyRowsWrong)

/-- 'lightshiplaw04.CauchyAll': WHATEVER THE INPUT: true; the input reads as it did. -/
def cauchyAllSpec : ChangeSpec := { name := "cauchyAll", fn := fun _ => fun
  | [d1, d2] => { results := [.lit (.bool true)], args := [d1, d2] }
  | _ => none }
def cauchyAllRow : OpenClaim := { program := "ytibilabhokkhmaa", sum := "bf3573795ef041165202bce390f26770384a4ef852bfaeff33990c3b184dc5af", func := "lightship/lightshiplaw04.CauchyAll", spec := "cauchyAll", unfollowed := true, recurses := true, apart := false }
def CauchyAllSaid : Prop := cauchyAllRow.holds Try.pinned (OpenSpec.ofChange cauchyAllSpec)

/-- ITS FALSE NEIGHBOUR: 'it returns false'. Refute it at one input. -/
def cauchyAllWrong : ChangeSpec := { name := "cauchyAll", fn := fun _ => fun
  | [d1, d2] => { results := [.lit (.bool false)], args := [d1, d2] }
  | _ => none }
def CauchyAllWrongFalsely : Prop := cauchyAllRow.holds Try.pinned (OpenSpec.ofChange cauchyAllWrong)

/-- 'lightshiplaw03.MatrixReckons': WHATEVER THE INPUT: true; the input reads as it did. -/
def matrixReckonsSpec : ChangeSpec := { name := "matrixReckons", fn := fun _ => fun
  | [d1, d2] => { results := [.lit (.bool true)], args := [d1, d2] }
  | _ => none }
def matrixReckonsRow : OpenClaim := { program := "ytibilabhokkhmaa", sum := "bf3573795ef041165202bce390f26770384a4ef852bfaeff33990c3b184dc5af", func := "lightship/lightshiplaw03.MatrixReckons", spec := "matrixReckons", apart := false }
def MatrixReckonsSaid : Prop := matrixReckonsRow.holds Try.pinned (OpenSpec.ofChange matrixReckonsSpec)

/-- ITS FALSE NEIGHBOUR: 'it returns false'. Refute it at one input. -/
def matrixReckonsWrong : ChangeSpec := { name := "matrixReckons", fn := fun _ => fun
  | [d1, d2] => { results := [.lit (.bool false)], args := [d1, d2] }
  | _ => none }
def MatrixReckonsWrongFalsely : Prop := matrixReckonsRow.holds Try.pinned (OpenSpec.ofChange matrixReckonsWrong)

/-- 'lightshiplaw03.MatrixInverts': WHATEVER THE INPUT: true; the input reads as it did. -/
def matrixInvertsSpec : ChangeSpec := { name := "matrixInverts", fn := fun _ => fun
  | [d] => { results := [.lit (.bool true)], args := [d] }
  | _ => none }
def matrixInvertsRow : OpenClaim := { program := "ytibilabhokkhmaa", sum := "bf3573795ef041165202bce390f26770384a4ef852bfaeff33990c3b184dc5af", func := "lightship/lightshiplaw03.MatrixInverts", spec := "matrixInverts", apart := false }
def MatrixInvertsSaid : Prop := matrixInvertsRow.holds Try.pinned (OpenSpec.ofChange matrixInvertsSpec)

/-- ITS FALSE NEIGHBOUR: 'it returns false'. Refute it at one input. -/
def matrixInvertsWrong : ChangeSpec := { name := "matrixInverts", fn := fun _ => fun
  | [d] => { results := [.lit (.bool false)], args := [d] }
  | _ => none }
def MatrixInvertsWrongFalsely : Prop := matrixInvertsRow.holds Try.pinned (OpenSpec.ofChange matrixInvertsWrong)

/-- 'lightshiplaw03.MatrixIdentity': WHATEVER THE INPUT: true; the input reads as it did. -/
def matrixIdentitySpec : ChangeSpec := { name := "matrixIdentity", fn := fun _ => fun
  | [d1, d2] => { results := [.lit (.bool true)], args := [d1, d2] }
  | _ => none }
def matrixIdentityRow : OpenClaim := { program := "ytibilabhokkhmaa", sum := "bf3573795ef041165202bce390f26770384a4ef852bfaeff33990c3b184dc5af", func := "lightship/lightshiplaw03.MatrixIdentity", spec := "matrixIdentity", apart := false }
def MatrixIdentitySaid : Prop := matrixIdentityRow.holds Try.pinned (OpenSpec.ofChange matrixIdentitySpec)

/-- ITS FALSE NEIGHBOUR: 'it returns false'. Refute it at one input. -/
def matrixIdentityWrong : ChangeSpec := { name := "matrixIdentity", fn := fun _ => fun
  | [d1, d2] => { results := [.lit (.bool false)], args := [d1, d2] }
  | _ => none }
def MatrixIdentityWrongFalsely : Prop := matrixIdentityRow.holds Try.pinned (OpenSpec.ofChange matrixIdentityWrong)

/-- 'lightshiplaw03.MatrixRanks': WHATEVER THE INPUT: true; the input reads as it did. -/
def matrixRanksSpec : ChangeSpec := { name := "matrixRanks", fn := fun _ => fun
  | [d1, d2] => { results := [.lit (.bool true)], args := [d1, d2] }
  | _ => none }
def matrixRanksRow : OpenClaim := { program := "ytibilabhokkhmaa", sum := "bf3573795ef041165202bce390f26770384a4ef852bfaeff33990c3b184dc5af", func := "lightship/lightshiplaw03.MatrixRanks", spec := "matrixRanks", apart := false }
def MatrixRanksSaid : Prop := matrixRanksRow.holds Try.pinned (OpenSpec.ofChange matrixRanksSpec)

/-- ITS FALSE NEIGHBOUR: 'it returns false'. Refute it at one input. -/
def matrixRanksWrong : ChangeSpec := { name := "matrixRanks", fn := fun _ => fun
  | [d1, d2] => { results := [.lit (.bool false)], args := [d1, d2] }
  | _ => none }
def MatrixRanksWrongFalsely : Prop := matrixRanksRow.holds Try.pinned (OpenSpec.ofChange matrixRanksWrong)

/-- 'lightshiplaw04.CauchyAny': WHATEVER THE INPUT: true; the input reads as it did. -/
def cauchyAnySpec : ChangeSpec := { name := "cauchyAny", fn := fun _ => fun
  | [d1, d2, d3] => { results := [.lit (.bool true)], args := [d1, d2, d3] }
  | _ => none }
def cauchyAnyRow : OpenClaim := { program := "ytibilabhokkhmaa", sum := "bf3573795ef041165202bce390f26770384a4ef852bfaeff33990c3b184dc5af", func := "lightship/lightshiplaw04.CauchyAny", spec := "cauchyAny", unfollowed := true, recurses := true, apart := false }
def CauchyAnySaid : Prop := cauchyAnyRow.holds Try.pinned (OpenSpec.ofChange cauchyAnySpec)

/-- ITS FALSE NEIGHBOUR: 'it returns false'. Refute it at one input. -/
def cauchyAnyWrong : ChangeSpec := { name := "cauchyAny", fn := fun _ => fun
  | [d1, d2, d3] => { results := [.lit (.bool false)], args := [d1, d2, d3] }
  | _ => none }
def CauchyAnyWrongFalsely : Prop := cauchyAnyRow.holds Try.pinned (OpenSpec.ofChange cauchyAnyWrong)

/-- 'lightshiplaw05.RsDecodes': WHATEVER THE INPUT: true; the input reads as it did. -/
def rsDecodesSpec : ChangeSpec := { name := "rsDecodes", fn := fun _ => fun
  | [d1, d2, d3] => { results := [.lit (.bool true)], args := [d1, d2, d3] }
  | _ => none }
def rsDecodesRow : OpenClaim := { program := "ytibilabhokkhmaa", sum := "bf3573795ef041165202bce390f26770384a4ef852bfaeff33990c3b184dc5af", func := "lightship/lightshiplaw05.RsDecodes", spec := "rsDecodes", unfollowed := true, recurses := true, apart := false }
def RsDecodesSaid : Prop := rsDecodesRow.holds Try.pinned (OpenSpec.ofChange rsDecodesSpec)

/-- ITS FALSE NEIGHBOUR: 'it returns false'. Refute it at one input. -/
def rsDecodesWrong : ChangeSpec := { name := "rsDecodes", fn := fun _ => fun
  | [d1, d2, d3] => { results := [.lit (.bool false)], args := [d1, d2, d3] }
  | _ => none }
def RsDecodesWrongFalsely : Prop := rsDecodesRow.holds Try.pinned (OpenSpec.ofChange rsDecodesWrong)

/-- 'lightshiplaw05.RsBack': WHATEVER THE INPUT: true; the input reads as it did. -/
def rsBackSpec : ChangeSpec := { name := "rsBack", fn := fun _ => fun
  | [d1, d2, d3] => { results := [.lit (.bool true)], args := [d1, d2, d3] }
  | _ => none }
def rsBackRow : OpenClaim := { program := "ytibilabhokkhmaa", sum := "bf3573795ef041165202bce390f26770384a4ef852bfaeff33990c3b184dc5af", func := "lightship/lightshiplaw05.RsBack", spec := "rsBack", unfollowed := true, recurses := true, apart := false }
def RsBackSaid : Prop := rsBackRow.holds Try.pinned (OpenSpec.ofChange rsBackSpec)

/-- ITS FALSE NEIGHBOUR: 'it returns false'. Refute it at one input. -/
def rsBackWrong : ChangeSpec := { name := "rsBack", fn := fun _ => fun
  | [d1, d2, d3] => { results := [.lit (.bool false)], args := [d1, d2, d3] }
  | _ => none }
def RsBackWrongFalsely : Prop := rsBackRow.holds Try.pinned (OpenSpec.ofChange rsBackWrong)

/- THE SECOND FORM. 'bulk': how many values and letters a reading holds, each counted each time it is reached (what is shared counts as often as it is met; a slice's spare places count too). A statement '..UptoSaid' is the law's where the arguments, and the package variables that the reading takes, are together of bulk at most 1048576: NARROWER than '..Said'. Prove '..Said' where nothing that the law and all that it calls make is longer than what came in: it says more and counts as full. Else prove '..UptoSaid'. A law counts once. -/
mutual
def uptoBulk {H : Type} : DataW H → Nat
  | .lit (.string bytes) => bytes.length + 1
  | .lit _ => 1
  | .nil => 1
  | .ptr d => uptoBulk d + 1
  | .slice elems spare => uptoBulkAll elems + uptoBulkAll spare + 1
  | .agg parts => uptoBulkAll parts + 1
  | .iface _ d => uptoBulk d + 1
  | .map entries => uptoBulkEntries entries + 1
  | .held _ => 1
def uptoBulkAll {H : Type} : List (DataW H) → Nat
  | [] => 0
  | d :: r => uptoBulk d + uptoBulkAll r
def uptoBulkEntries {H : Type} : List (Lit × DataW H) → Nat
  | [] => 0
  | x :: r => uptoBulkEntry x + uptoBulkEntries r
def uptoBulkEntry {H : Type} : Lit × DataW H → Nat
  | (.string bytes, d) => bytes.length + uptoBulk d + 1
  | (_, d) => uptoBulk d + 1
 end
def uptoSmall : (H : Type) → List (DataW H) → Bool := fun _ ds => decide (uptoBulkAll ds ≤ 1048576)
def OpenSpec.upto (s : _root_.Go.ChangeSpec) : _root_.Go.OpenSpec := { _root_.Go.OpenSpec.ofChange s with cond := some uptoSmall }

/-- 'lightshiplaw04.CauchyRows', WHERE WHAT IT READS IS OF BULK AT MOST 1048576: true; the input reads as it did. -/
def cauchyRowsUptoRow : OpenClaim := { program := "ytibilabhokkhmaa", sum := "bf3573795ef041165202bce390f26770384a4ef852bfaeff33990c3b184dc5af", func := "lightship/lightshiplaw04.CauchyRows", spec := "cauchyRows", unfollowed := true, recurses := true, apart := false, narrowed := true }
def CauchyRowsUptoSaid : Prop := cauchyRowsUptoRow.holds Try.pinned (OpenSpec.upto cauchyRowsSpec)

/-- 'lightshiplaw04.CauchyAll', WHERE WHAT IT READS IS OF BULK AT MOST 1048576: true; the input reads as it did. -/
def cauchyAllUptoRow : OpenClaim := { program := "ytibilabhokkhmaa", sum := "bf3573795ef041165202bce390f26770384a4ef852bfaeff33990c3b184dc5af", func := "lightship/lightshiplaw04.CauchyAll", spec := "cauchyAll", unfollowed := true, recurses := true, apart := false, narrowed := true }
def CauchyAllUptoSaid : Prop := cauchyAllUptoRow.holds Try.pinned (OpenSpec.upto cauchyAllSpec)

/-- 'lightshiplaw03.MatrixReckons', WHERE WHAT IT READS IS OF BULK AT MOST 1048576: true; the input reads as it did. -/
def matrixReckonsUptoRow : OpenClaim := { program := "ytibilabhokkhmaa", sum := "bf3573795ef041165202bce390f26770384a4ef852bfaeff33990c3b184dc5af", func := "lightship/lightshiplaw03.MatrixReckons", spec := "matrixReckons", apart := false, narrowed := true }
def MatrixReckonsUptoSaid : Prop := matrixReckonsUptoRow.holds Try.pinned (OpenSpec.upto matrixReckonsSpec)

/-- 'lightshiplaw03.MatrixInverts', WHERE WHAT IT READS IS OF BULK AT MOST 1048576: true; the input reads as it did. -/
def matrixInvertsUptoRow : OpenClaim := { program := "ytibilabhokkhmaa", sum := "bf3573795ef041165202bce390f26770384a4ef852bfaeff33990c3b184dc5af", func := "lightship/lightshiplaw03.MatrixInverts", spec := "matrixInverts", apart := false, narrowed := true }
def MatrixInvertsUptoSaid : Prop := matrixInvertsUptoRow.holds Try.pinned (OpenSpec.upto matrixInvertsSpec)

/-- 'lightshiplaw03.MatrixIdentity', WHERE WHAT IT READS IS OF BULK AT MOST 1048576: true; the input reads as it did. -/
def matrixIdentityUptoRow : OpenClaim := { program := "ytibilabhokkhmaa", sum := "bf3573795ef041165202bce390f26770384a4ef852bfaeff33990c3b184dc5af", func := "lightship/lightshiplaw03.MatrixIdentity", spec := "matrixIdentity", apart := false, narrowed := true }
def MatrixIdentityUptoSaid : Prop := matrixIdentityUptoRow.holds Try.pinned (OpenSpec.upto matrixIdentitySpec)

/-- 'lightshiplaw03.MatrixRanks', WHERE WHAT IT READS IS OF BULK AT MOST 1048576: true; the input reads as it did. -/
def matrixRanksUptoRow : OpenClaim := { program := "ytibilabhokkhmaa", sum := "bf3573795ef041165202bce390f26770384a4ef852bfaeff33990c3b184dc5af", func := "lightship/lightshiplaw03.MatrixRanks", spec := "matrixRanks", apart := false, narrowed := true }
def MatrixRanksUptoSaid : Prop := matrixRanksUptoRow.holds Try.pinned (OpenSpec.upto matrixRanksSpec)

/-- 'lightshiplaw04.CauchyAny', WHERE WHAT IT READS IS OF BULK AT MOST 1048576: true; the input reads as it did. -/
def cauchyAnyUptoRow : OpenClaim := { program := "ytibilabhokkhmaa", sum := "bf3573795ef041165202bce390f26770384a4ef852bfaeff33990c3b184dc5af", func := "lightship/lightshiplaw04.CauchyAny", spec := "cauchyAny", unfollowed := true, recurses := true, apart := false, narrowed := true }
def CauchyAnyUptoSaid : Prop := cauchyAnyUptoRow.holds Try.pinned (OpenSpec.upto cauchyAnySpec)

/-- 'lightshiplaw05.RsDecodes', WHERE WHAT IT READS IS OF BULK AT MOST 1048576: true; the input reads as it did. -/
def rsDecodesUptoRow : OpenClaim := { program := "ytibilabhokkhmaa", sum := "bf3573795ef041165202bce390f26770384a4ef852bfaeff33990c3b184dc5af", func := "lightship/lightshiplaw05.RsDecodes", spec := "rsDecodes", unfollowed := true, recurses := true, apart := false, narrowed := true }
def RsDecodesUptoSaid : Prop := rsDecodesUptoRow.holds Try.pinned (OpenSpec.upto rsDecodesSpec)

/-- 'lightshiplaw05.RsBack', WHERE WHAT IT READS IS OF BULK AT MOST 1048576: true; the input reads as it did. -/
def rsBackUptoRow : OpenClaim := { program := "ytibilabhokkhmaa", sum := "bf3573795ef041165202bce390f26770384a4ef852bfaeff33990c3b184dc5af", func := "lightship/lightshiplaw05.RsBack", spec := "rsBack", unfollowed := true, recurses := true, apart := false, narrowed := true }
def RsBackUptoSaid : Prop := rsBackUptoRow.holds Try.pinned (OpenSpec.upto rsBackSpec)

end Rows
end Go.Proofs.Ytibilabhokkhmaa
