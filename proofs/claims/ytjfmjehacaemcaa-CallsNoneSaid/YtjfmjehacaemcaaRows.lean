/-
  No cell of these rows narrows 'for every input' (looked for: loops, veiled, ifaces, maps, wideKeys, modest, calm, conditions, laid).
  DERIVED. THE GIVEN ROWS OF THIS SEAT. 2 by the template 'for every input the law returns true; each argument reads behind the call as it read before'; 0 by the template 'total and deterministic' (their statements: YtjfmjehacaemcaaTotals.lean).
  GIVEN WITH THE SEED: the statements are not yours to turn. If you find one false, say at which input.
  Laid BY PROGRAM, IN A SANDBOX (cutbox-rows.mjs): the forced cells as the released guide's own fill.sh prints them over the translation d5205dbfd2663e58… (all of the seat's roots in one cut). By AI agents, Wed Nov 11 2026. No macro, syntax, notation, axiom, sorry.
-/
import Derived.Test.YtjfmjehacaemcaaChecked
import GoSem.Claim
import GoSem.ClaimJoined
import GoSem.ClaimMapViews
import Derived.JoinedTies
import Derived.KernelRfl
namespace Go.Proofs.Ytjfmjehacaemcaa
/- THE CELL 'sum', in the pinned program and in every row, IS THE sha256 OF THE DUMP (.gsa) THAT YtjfmjehacaemcaaProg.lean LOADS. Nothing in Lean hashes anything: it is a label: what it is worth is what the hold of that sum in a sandbox is worth. -/
noncomputable def Try.pinned : Pinned := { name := "ytjfmjehacaemcaa", sum := "d5205dbfd2663e585e027e1f9147074c776e23d07500a12d4f80d3243901756e", checked := Try.checked }
namespace Rows
def none {H : Type} : Left H := { results := [], args := [] }

/-- 'lightshiplaw29.CallsPlay': WHATEVER THE INPUT: true; the input reads as it did. -/
def callsPlaySpec : ChangeSpec := { name := "callsPlay", fn := fun _ => fun
  | [d] => { results := [.lit (.bool true)], args := [d] }
  | _ => none }
def callsPlayRow : OpenClaim := { program := "ytjfmjehacaemcaa", sum := "d5205dbfd2663e585e027e1f9147074c776e23d07500a12d4f80d3243901756e", func := "lightship/lightshiplaw29.CallsPlay", spec := "callsPlay", unfollowed := true, recurses := true, plainKeys := false, apart := false }
def CallsPlaySaid : Prop := callsPlayRow.holds Try.pinned (OpenSpec.ofChange callsPlaySpec)

/-- ITS FALSE NEIGHBOUR: 'it returns false'. Refute it at one input. -/
def callsPlayWrong : ChangeSpec := { name := "callsPlay", fn := fun _ => fun
  | [d] => { results := [.lit (.bool false)], args := [d] }
  | _ => none }
def CallsPlayWrongFalsely : Prop := callsPlayRow.holds Try.pinned (OpenSpec.ofChange callsPlayWrong)

/-- 'lightshiplaw29.CallsNone': WHATEVER THE INPUT: true; the input reads as it did. -/
def callsNoneSpec : ChangeSpec := { name := "callsNone", fn := fun _ => fun
  | [d] => { results := [.lit (.bool true)], args := [d] }
  | _ => none }
def callsNoneRow : OpenClaim := { program := "ytjfmjehacaemcaa", sum := "d5205dbfd2663e585e027e1f9147074c776e23d07500a12d4f80d3243901756e", func := "lightship/lightshiplaw29.CallsNone", spec := "callsNone", unfollowed := true, recurses := true, plainKeys := false, apart := false }
def CallsNoneSaid : Prop := callsNoneRow.holds Try.pinned (OpenSpec.ofChange callsNoneSpec)

/-- ITS FALSE NEIGHBOUR: 'it returns false'. Refute it at one input. -/
def callsNoneWrong : ChangeSpec := { name := "callsNone", fn := fun _ => fun
  | [d] => { results := [.lit (.bool false)], args := [d] }
  | _ => none }
def CallsNoneWrongFalsely : Prop := callsNoneRow.holds Try.pinned (OpenSpec.ofChange callsNoneWrong)

/- THE SECOND FORM. 'bulk': how many values and letters a reading holds, each counted each time it is reached (what is shared counts as often as it is met; a slice's spare places count too). A statement '..UptoSaid' is the law's where the arguments, and the package variables that the reading takes, are together of bulk at most 1048576: NARROWER than '..Said'. Prove '..Said' where nothing that the law and all that it calls make is longer than what came in: it says more and counts as full. Else prove '..UptoSaid'. A law counts once. -/
mutual
def uptoBulk {H : Type} : DataW H → Nat
  | .lit (.string bytes) => bytes.length + 1
  | .lit _ => 1
  | .nil => 1
  | .ptr d => uptoBulk d + 1
  | .slice elems spare => uptoBulkAll elems + uptoBulkAll spare + 1
  | .agg parts => uptoBulkAll parts + 1
  | .iface _ d => uptoBulk d + 1
  | .map entries => uptoBulkEntries entries + 1
  | .held _ => 1
def uptoBulkAll {H : Type} : List (DataW H) → Nat
  | [] => 0
  | d :: r => uptoBulk d + uptoBulkAll r
def uptoBulkEntries {H : Type} : List (Lit × DataW H) → Nat
  | [] => 0
  | x :: r => uptoBulkEntry x + uptoBulkEntries r
def uptoBulkEntry {H : Type} : Lit × DataW H → Nat
  | (.string bytes, d) => bytes.length + uptoBulk d + 1
  | (_, d) => uptoBulk d + 1
 end
def uptoSmall : (H : Type) → List (DataW H) → Bool := fun _ ds => decide (uptoBulkAll ds ≤ 1048576)
def OpenSpec.upto (s : _root_.Go.ChangeSpec) : _root_.Go.OpenSpec := { _root_.Go.OpenSpec.ofChange s with cond := some uptoSmall }

/-- 'lightshiplaw29.CallsPlay', WHERE WHAT IT READS IS OF BULK AT MOST 1048576: true; the input reads as it did. -/
def callsPlayUptoRow : OpenClaim := { program := "ytjfmjehacaemcaa", sum := "d5205dbfd2663e585e027e1f9147074c776e23d07500a12d4f80d3243901756e", func := "lightship/lightshiplaw29.CallsPlay", spec := "callsPlay", unfollowed := true, recurses := true, plainKeys := false, apart := false, narrowed := true }
def CallsPlayUptoSaid : Prop := callsPlayUptoRow.holds Try.pinned (OpenSpec.upto callsPlaySpec)

/-- 'lightshiplaw29.CallsNone', WHERE WHAT IT READS IS OF BULK AT MOST 1048576: true; the input reads as it did. -/
def callsNoneUptoRow : OpenClaim := { program := "ytjfmjehacaemcaa", sum := "d5205dbfd2663e585e027e1f9147074c776e23d07500a12d4f80d3243901756e", func := "lightship/lightshiplaw29.CallsNone", spec := "callsNone", unfollowed := true, recurses := true, plainKeys := false, apart := false, narrowed := true }
def CallsNoneUptoSaid : Prop := callsNoneUptoRow.holds Try.pinned (OpenSpec.upto callsNoneSpec)

end Rows
end Go.Proofs.Ytjfmjehacaemcaa
