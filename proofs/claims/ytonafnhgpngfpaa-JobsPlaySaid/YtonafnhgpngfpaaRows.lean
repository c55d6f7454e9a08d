/-
  No cell of these rows narrows 'for every input' (looked for: loops, veiled, ifaces, maps, wideKeys, modest, calm, conditions, laid).
  DERIVED. THE GIVEN ROWS OF THIS SEAT. 10 by the template 'for every input the law returns true; each argument reads behind the call as it read before'; 0 by the template 'total and deterministic' (their statements: YtonafnhgpngfpaaTotals.lean).
  GIVEN WITH THE SEED: the statements are not yours to turn. If you find one false, say at which input.
  Laid BY PROGRAM, IN A SANDBOX (cutbox-rows.mjs): the forced cells as the released guide's own fill.sh prints them over the translation 5f475143dbccc1a8… (all of the seat's roots in one cut). By AI agents, Wed Nov 11 2026. No macro, syntax, notation, axiom, sorry.
-/
import Derived.Test.YtonafnhgpngfpaaChecked
import GoSem.Claim
import GoSem.ClaimJoined
import GoSem.ClaimMapViews
import Derived.JoinedTies
import Derived.KernelRfl
namespace Go.Proofs.Ytonafnhgpngfpaa
/- THE CELL 'sum', in the pinned program and in every row, IS THE sha256 OF THE DUMP (.gsa) THAT YtonafnhgpngfpaaProg.lean LOADS. Nothing in Lean hashes anything: it is a label: what it is worth is what the hold of that sum in a sandbox is worth. -/
noncomputable def Try.pinned : Pinned := { name := "ytonafnhgpngfpaa", sum := "5f475143dbccc1a8ab5d77a86cd255b6484fa2842f31c3faaea213222fade677", checked := Try.checked }
namespace Rows
def none {H : Type} : Left H := { results := [], args := [] }

/-- 'lightshiplaw26.ConfigChecks': WHATEVER THE INPUT: true; the input reads as it did. -/
def configChecksSpec : ChangeSpec := { name := "configChecks", fn := fun _ => fun
  | [d] => { results := [.lit (.bool true)], args := [d] }
  | _ => none }
def configChecksRow : OpenClaim := { program := "ytonafnhgpngfpaa", sum := "5f475143dbccc1a8ab5d77a86cd255b6484fa2842f31c3faaea213222fade677", func := "lightship/lightshiplaw26.ConfigChecks", spec := "configChecks", apart := false }
def ConfigChecksSaid : Prop := configChecksRow.holds Try.pinned (OpenSpec.ofChange configChecksSpec)

/-- ITS FALSE NEIGHBOUR: 'it returns false'. Refute it at one input. -/
def configChecksWrong : ChangeSpec := { name := "configChecks", fn := fun _ => fun
  | [d] => { results := [.lit (.bool false)], args := [d] }
  | _ => none }
def ConfigChecksWrongFalsely : Prop := configChecksRow.holds Try.pinned (OpenSpec.ofChange configChecksWrong)

/-- 'lightshiplaw09.WirePuts': WHATEVER THE INPUT: true; the input reads as it did. -/
def wirePutsSpec : ChangeSpec := { name := "wirePuts", fn := fun _ => fun
  | [d1, d2] => { results := [.lit (.bool true)], args := [d1, d2] }
  | _ => none }
def wirePutsRow : OpenClaim := { program := "ytonafnhgpngfpaa", sum := "5f475143dbccc1a8ab5d77a86cd255b6484fa2842f31c3faaea213222fade677", func := "lightship/lightshiplaw09.WirePuts", spec := "wirePuts", apart := false }
def WirePutsSaid : Prop := wirePutsRow.holds Try.pinned (OpenSpec.ofChange wirePutsSpec)

/-- ITS FALSE NEIGHBOUR: 'it returns false'. Refute it at one input. -/
def wirePutsWrong : ChangeSpec := { name := "wirePuts", fn := fun _ => fun
  | [d1, d2] => { results := [.lit (.bool false)], args := [d1, d2] }
  | _ => none }
def WirePutsWrongFalsely : Prop := wirePutsRow.holds Try.pinned (OpenSpec.ofChange wirePutsWrong)

/-- 'lightshiplaw09.WireReads': WHATEVER THE INPUT: true; the input reads as it did. -/
def wireReadsSpec : ChangeSpec := { name := "wireReads", fn := fun _ => fun
  | [d1, d2] => { results := [.lit (.bool true)], args := [d1, d2] }
  | _ => none }
def wireReadsRow : OpenClaim := { program := "ytonafnhgpngfpaa", sum := "5f475143dbccc1a8ab5d77a86cd255b6484fa2842f31c3faaea213222fade677", func := "lightship/lightshiplaw09.WireReads", spec := "wireReads", apart := false }
def WireReadsSaid : Prop := wireReadsRow.holds Try.pinned (OpenSpec.ofChange wireReadsSpec)

/-- ITS FALSE NEIGHBOUR: 'it returns false'. Refute it at one input. -/
def wireReadsWrong : ChangeSpec := { name := "wireReads", fn := fun _ => fun
  | [d1, d2] => { results := [.lit (.bool false)], args := [d1, d2] }
  | _ => none }
def WireReadsWrongFalsely : Prop := wireReadsRow.holds Try.pinned (OpenSpec.ofChange wireReadsWrong)

/-- 'lightshiplaw09.WireNone': WHATEVER THE INPUT: true; the input reads as it did. -/
def wireNoneSpec : ChangeSpec := { name := "wireNone", fn := fun _ => fun
  | [d] => { results := [.lit (.bool true)], args := [d] }
  | _ => none }
def wireNoneRow : OpenClaim := { program := "ytonafnhgpngfpaa", sum := "5f475143dbccc1a8ab5d77a86cd255b6484fa2842f31c3faaea213222fade677", func := "lightship/lightshiplaw09.WireNone", spec := "wireNone", apart := false }
def WireNoneSaid : Prop := wireNoneRow.holds Try.pinned (OpenSpec.ofChange wireNoneSpec)

/-- ITS FALSE NEIGHBOUR: 'it returns false'. Refute it at one input. -/
def wireNoneWrong : ChangeSpec := { name := "wireNone", fn := fun _ => fun
  | [d] => { results := [.lit (.bool false)], args := [d] }
  | _ => none }
def WireNoneWrongFalsely : Prop := wireNoneRow.holds Try.pinned (OpenSpec.ofChange wireNoneWrong)

/-- 'lightshiplaw11.BitsMarks': WHATEVER THE INPUT: true; the input reads as it did. -/
def bitsMarksSpec : ChangeSpec := { name := "bitsMarks", fn := fun _ => fun
  | [d1, d2, d3] => { results := [.lit (.bool true)], args := [d1, d2, d3] }
  | _ => none }
def bitsMarksRow : OpenClaim := { program := "ytonafnhgpngfpaa", sum := "5f475143dbccc1a8ab5d77a86cd255b6484fa2842f31c3faaea213222fade677", func := "lightship/lightshiplaw11.BitsMarks", spec := "bitsMarks", apart := false }
def BitsMarksSaid : Prop := bitsMarksRow.holds Try.pinned (OpenSpec.ofChange bitsMarksSpec)

/-- ITS FALSE NEIGHBOUR: 'it returns false'. Refute it at one input. -/
def bitsMarksWrong : ChangeSpec := { name := "bitsMarks", fn := fun _ => fun
  | [d1, d2, d3] => { results := [.lit (.bool false)], args := [d1, d2, d3] }
  | _ => none }
def BitsMarksWrongFalsely : Prop := bitsMarksRow.holds Try.pinned (OpenSpec.ofChange bitsMarksWrong)

/-- 'lightshiplaw11.BitsOf': WHATEVER THE INPUT: true; the input reads as it did. -/
def bitsOfSpec : ChangeSpec := { name := "bitsOf", fn := fun _ => fun
  | [d1, d2] => { results := [.lit (.bool true)], args := [d1, d2] }
  | _ => none }
def bitsOfRow : OpenClaim := { program := "ytonafnhgpngfpaa", sum := "5f475143dbccc1a8ab5d77a86cd255b6484fa2842f31c3faaea213222fade677", func := "lightship/lightshiplaw11.BitsOf", spec := "bitsOf", apart := false }
def BitsOfSaid : Prop := bitsOfRow.holds Try.pinned (OpenSpec.ofChange bitsOfSpec)

/-- ITS FALSE NEIGHBOUR: 'it returns false'. Refute it at one input. -/
def bitsOfWrong : ChangeSpec := { name := "bitsOf", fn := fun _ => fun
  | [d1, d2] => { results := [.lit (.bool false)], args := [d1, d2] }
  | _ => none }
def BitsOfWrongFalsely : Prop := bitsOfRow.holds Try.pinned (OpenSpec.ofChange bitsOfWrong)

/-- 'lightshiplaw50.CookieSums': WHATEVER THE INPUT: true; the input reads as it did. -/
def cookieSumsSpec : ChangeSpec := { name := "cookieSums", fn := fun _ => fun
  | [d1, d2] => { results := [.lit (.bool true)], args := [d1, d2] }
  | _ => none }
def cookieSumsRow : OpenClaim := { program := "ytonafnhgpngfpaa", sum := "5f475143dbccc1a8ab5d77a86cd255b6484fa2842f31c3faaea213222fade677", func := "lightship/lightshiplaw50.CookieSums", spec := "cookieSums", apart := false }
def CookieSumsSaid : Prop := cookieSumsRow.holds Try.pinned (OpenSpec.ofChange cookieSumsSpec)

/-- ITS FALSE NEIGHBOUR: 'it returns false'. Refute it at one input. -/
def cookieSumsWrong : ChangeSpec := { name := "cookieSums", fn := fun _ => fun
  | [d1, d2] => { results := [.lit (.bool false)], args := [d1, d2] }
  | _ => none }
def CookieSumsWrongFalsely : Prop := cookieSumsRow.holds Try.pinned (OpenSpec.ofChange cookieSumsWrong)

/-- 'lightshiplaw50.CookieGood': WHATEVER THE INPUT: true; the input reads as it did. -/
def cookieGoodSpec : ChangeSpec := { name := "cookieGood", fn := fun _ => fun
  | [d1, d2, d3] => { results := [.lit (.bool true)], args := [d1, d2, d3] }
  | _ => none }
def cookieGoodRow : OpenClaim := { program := "ytonafnhgpngfpaa", sum := "5f475143dbccc1a8ab5d77a86cd255b6484fa2842f31c3faaea213222fade677", func := "lightship/lightshiplaw50.CookieGood", spec := "cookieGood", apart := false }
def CookieGoodSaid : Prop := cookieGoodRow.holds Try.pinned (OpenSpec.ofChange cookieGoodSpec)

/-- ITS FALSE NEIGHBOUR: 'it returns false'. Refute it at one input. -/
def cookieGoodWrong : ChangeSpec := { name := "cookieGood", fn := fun _ => fun
  | [d1, d2, d3] => { results := [.lit (.bool false)], args := [d1, d2, d3] }
  | _ => none }
def CookieGoodWrongFalsely : Prop := cookieGoodRow.holds Try.pinned (OpenSpec.ofChange cookieGoodWrong)

/-- 'lightshiplaw19.JobsPlay': WHATEVER THE INPUT: true; the input reads as it did. -/
def jobsPlaySpec : ChangeSpec := { name := "jobsPlay", fn := fun _ => fun
  | [d1, d2] => { results := [.lit (.bool true)], args := [d1, d2] }
  | _ => none }
def jobsPlayRow : OpenClaim := { program := "ytonafnhgpngfpaa", sum := "5f475143dbccc1a8ab5d77a86cd255b6484fa2842f31c3faaea213222fade677", func := "lightship/lightshiplaw19.JobsPlay", spec := "jobsPlay", inPlace := ["internal/reflectlite.TypeOf"], unfollowed := true, recurses := true, apart := false }
def JobsPlaySaid : Prop := jobsPlayRow.holds Try.pinned (OpenSpec.ofChange jobsPlaySpec)

/-- ITS FALSE NEIGHBOUR: 'it returns false'. Refute it at one input. -/
def jobsPlayWrong : ChangeSpec := { name := "jobsPlay", fn := fun _ => fun
  | [d1, d2] => { results := [.lit (.bool false)], args := [d1, d2] }
  | _ => none }
def JobsPlayWrongFalsely : Prop := jobsPlayRow.holds Try.pinned (OpenSpec.ofChange jobsPlayWrong)

/-- 'lightshiplaw19.JobsNone': WHATEVER THE INPUT: true; the input reads as it did. -/
def jobsNoneSpec : ChangeSpec := { name := "jobsNone", fn := fun _ => fun
  | [d] => { results := [.lit (.bool true)], args := [d] }
  | _ => none }
def jobsNoneRow : OpenClaim := { program := "ytonafnhgpngfpaa", sum := "5f475143dbccc1a8ab5d77a86cd255b6484fa2842f31c3faaea213222fade677", func := "lightship/lightshiplaw19.JobsNone", spec := "jobsNone", inPlace := ["internal/reflectlite.TypeOf"], unfollowed := true, recurses := true, apart := false }
def JobsNoneSaid : Prop := jobsNoneRow.holds Try.pinned (OpenSpec.ofChange jobsNoneSpec)

/-- ITS FALSE NEIGHBOUR: 'it returns false'. Refute it at one input. -/
def jobsNoneWrong : ChangeSpec := { name := "jobsNone", fn := fun _ => fun
  | [d] => { results := [.lit (.bool false)], args := [d] }
  | _ => none }
def JobsNoneWrongFalsely : Prop := jobsNoneRow.holds Try.pinned (OpenSpec.ofChange jobsNoneWrong)

/- THE SECOND FORM. 'bulk': how many values and letters a reading holds, each counted each time it is reached (what is shared counts as often as it is met; a slice's spare places count too). A statement '..UptoSaid' is the law's where the arguments, and the package variables that the reading takes, are together of bulk at most 1048576: NARROWER than '..Said'. Prove '..Said' where nothing that the law and all that it calls make is longer than what came in: it says more and counts as full. Else prove '..UptoSaid'. A law counts once. -/
mutual
def uptoBulk {H : Type} : DataW H → Nat
  | .lit (.string bytes) => bytes.length + 1
  | .lit _ => 1
  | .nil => 1
  | .ptr d => uptoBulk d + 1
  | .slice elems spare => uptoBulkAll elems + uptoBulkAll spare + 1
  | .agg parts => uptoBulkAll parts + 1
  | .iface _ d => uptoBulk d + 1
  | .map entries => uptoBulkEntries entries + 1
  | .held _ => 1
def uptoBulkAll {H : Type} : List (DataW H) → Nat
  | [] => 0
  | d :: r => uptoBulk d + uptoBulkAll r
def uptoBulkEntries {H : Type} : List (Lit × DataW H) → Nat
  | [] => 0
  | x :: r => uptoBulkEntry x + uptoBulkEntries r
def uptoBulkEntry {H : Type} : Lit × DataW H → Nat
  | (.string bytes, d) => bytes.length + uptoBulk d + 1
  | (_, d) => uptoBulk d + 1
 end
def uptoSmall : (H : Type) → List (DataW H) → Bool := fun _ ds => decide (uptoBulkAll ds ≤ 1048576)
def OpenSpec.upto (s : _root_.Go.ChangeSpec) : _root_.Go.OpenSpec := { _root_.Go.OpenSpec.ofChange s with cond := some uptoSmall }

/-- 'lightshiplaw26.ConfigChecks', WHERE WHAT IT READS IS OF BULK AT MOST 1048576: true; the input reads as it did. -/
def configChecksUptoRow : OpenClaim := { program := "ytonafnhgpngfpaa", sum := "5f475143dbccc1a8ab5d77a86cd255b6484fa2842f31c3faaea213222fade677", func := "lightship/lightshiplaw26.ConfigChecks", spec := "configChecks", apart := false, narrowed := true }
def ConfigChecksUptoSaid : Prop := configChecksUptoRow.holds Try.pinned (OpenSpec.upto configChecksSpec)

/-- 'lightshiplaw09.WirePuts', WHERE WHAT IT READS IS OF BULK AT MOST 1048576: true; the input reads as it did. -/
def wirePutsUptoRow : OpenClaim := { program := "ytonafnhgpngfpaa", sum := "5f475143dbccc1a8ab5d77a86cd255b6484fa2842f31c3faaea213222fade677", func := "lightship/lightshiplaw09.WirePuts", spec := "wirePuts", apart := false, narrowed := true }
def WirePutsUptoSaid : Prop := wirePutsUptoRow.holds Try.pinned (OpenSpec.upto wirePutsSpec)

/-- 'lightshiplaw09.WireReads', WHERE WHAT IT READS IS OF BULK AT MOST 1048576: true; the input reads as it did. -/
def wireReadsUptoRow : OpenClaim := { program := "ytonafnhgpngfpaa", sum := "5f475143dbccc1a8ab5d77a86cd255b6484fa2842f31c3faaea213222fade677", func := "lightship/lightshiplaw09.WireReads", spec := "wireReads", apart := false, narrowed := true }
def WireReadsUptoSaid : Prop := wireReadsUptoRow.holds Try.pinned (OpenSpec.upto wireReadsSpec)

/-- 'lightshiplaw09.WireNone', WHERE WHAT IT READS IS OF BULK AT MOST 1048576: true; the input reads as it did. -/
def wireNoneUptoRow : OpenClaim := { program := "ytonafnhgpngfpaa", sum := "5f475143dbccc1a8ab5d77a86cd255b6484fa2842f31c3faaea213222fade677", func := "lightship/lightshiplaw09.WireNone", spec := "wireNone", apart := false, narrowed := true }
def WireNoneUptoSaid : Prop := wireNoneUptoRow.holds Try.pinned (OpenSpec.upto wireNoneSpec)

/-- 'lightshiplaw11.BitsMarks', WHERE WHAT IT READS IS OF BULK AT MOST 1048576: true; the input reads as it did. -/
def bitsMarksUptoRow : OpenClaim := { program := "ytonafnhgpngfpaa", sum := "5f475143dbccc1a8ab5d77a86cd255b6484fa2842f31c3faaea213222fade677", func := "lightship/lightshiplaw11.BitsMarks", spec := "bitsMarks", apart := false, narrowed := true }
def BitsMarksUptoSaid : Prop := bitsMarksUptoRow.holds Try.pinned (OpenSpec.upto bitsMarksSpec)

/-- 'lightshiplaw11.BitsOf', WHERE WHAT IT READS IS OF BULK AT MOST 1048576: true; the input reads as it did. -/
def bitsOfUptoRow : OpenClaim := { program := "ytonafnhgpngfpaa", sum := "5f475143dbccc1a8ab5d77a86cd255b6484fa2842f31c3faaea213222fade677", func := "lightship/lightshiplaw11.BitsOf", spec := "bitsOf", apart := false, narrowed := true }
def BitsOfUptoSaid : Prop := bitsOfUptoRow.holds Try.pinned (OpenSpec.upto bitsOfSpec)

/-- 'lightshiplaw50.CookieSums', WHERE WHAT IT READS IS OF BULK AT MOST 1048576: true; the input reads as it did. -/
def cookieSumsUptoRow : OpenClaim := { program := "ytonafnhgpngfpaa", sum := "5f475143dbccc1a8ab5d77a86cd255b6484fa2842f31c3faaea213222fade677", func := "lightship/lightshiplaw50.CookieSums", spec := "cookieSums", apart := false, narrowed := true }
def CookieSumsUptoSaid : Prop := cookieSumsUptoRow.holds Try.pinned (OpenSpec.upto cookieSumsSpec)

/-- 'lightshiplaw50.CookieGood', WHERE WHAT IT READS IS OF BULK AT MOST 1048576: true; the input reads as it did. -/
def cookieGoodUptoRow : OpenClaim := { program := "ytonafnhgpngfpaa", sum := "5f475143dbccc1a8ab5d77a86cd255b6484fa2842f31c3faaea213222fade677", func := "lightship/lightshiplaw50.CookieGood", spec := "cookieGood", apart := false, narrowed := true }
def CookieGoodUptoSaid : Prop := cookieGoodUptoRow.holds Try.pinned (OpenSpec.upto cookieGoodSpec)

/-- 'lightshiplaw19.JobsPlay', WHERE WHAT IT READS IS OF BULK AT MOST 1048576: true; the input reads as it did. -/
def jobsPlayUptoRow : OpenClaim := { program := "ytonafnhgpngfpaa", sum := "5f475143dbccc1a8ab5d77a86cd255b6484fa2842f31c3faaea213222fade677", func := "lightship/lightshiplaw19.JobsPlay", spec := "jobsPlay", inPlace := ["internal/reflectlite.TypeOf"], unfollowed := true, recurses := true, apart := false, narrowed := true }
def JobsPlayUptoSaid : Prop := jobsPlayUptoRow.holds Try.pinned (OpenSpec.upto jobsPlaySpec)

/-- 'lightshiplaw19.JobsNone', WHERE WHAT IT READS IS OF BULK AT MOST 1048576: true; the input reads as it did. -/
def jobsNoneUptoRow : OpenClaim := { program := "ytonafnhgpngfpaa", sum := "5f475143dbccc1a8ab5d77a86cd255b6484fa2842f31c3faaea213222fade677", func := "lightship/lightshiplaw19.JobsNone", spec := "jobsNone", inPlace := ["internal/reflectlite.TypeOf"], unfollowed := true, recurses := true, apart := false, narrowed := true }
def JobsNoneUptoSaid : Prop := jobsNoneUptoRow.holds Try.pinned (OpenSpec.upto jobsNoneSpec)

end Rows
end Go.Proofs.Ytonafnhgpngfpaa
