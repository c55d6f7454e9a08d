/-
  No cell of these rows narrows 'for every input' (looked for: loops, veiled, ifaces, maps, wideKeys, modest, calm, conditions, laid).
  DERIVED. THE GIVEN ROWS OF THIS SEAT. 12 by the template 'for every input the law returns true; each argument reads behind the call as it read before'; 0 by the template 'total and deterministic' (their statements: YtphejbjbleeigaaTotals.lean).
  GIVEN WITH THE SEED: the statements are not yours to turn. If you find one false, say at which input.
  Laid BY PROGRAM, IN A SANDBOX (cutbox-rows.mjs): the forced cells as the released guide's own fill.sh prints them over the translation 30efc38a921e6ea8… (all of the seat's roots in one cut). By AI agents, Wed Nov 11 2026. No macro, syntax, notation, axiom, sorry.
-/
import Derived.Test.YtphejbjbleeigaaChecked
import GoSem.Claim
import GoSem.ClaimJoined
import GoSem.ClaimMapViews
import Derived.JoinedTies
import Derived.KernelRfl
namespace Go.Proofs.Ytphejbjbleeigaa
/- THE CELL 'sum', in the pinned program and in every row, IS THE sha256 OF THE DUMP (.gsa) THAT YtphejbjbleeigaaProg.lean LOADS. Nothing in Lean hashes anything: it is a label: what it is worth is what the hold of that sum in a sandbox is worth. -/
noncomputable def Try.pinned : Pinned := { name := "ytphejbjbleeigaa", sum := "30efc38a921e6ea8bb8531e5936c8c98e5c3deacf115f2b59b063d6668a9823a", checked := Try.checked }
namespace Rows
def none {H : Type} : Left H := { results := [], args := [] }

/-- 'lightshiplaw10.DatagramPuts': WHATEVER THE INPUT: true; the input reads as it did. -/
def datagramPutsSpec : ChangeSpec := { name := "datagramPuts", fn := fun _ => fun
  | [d] => { results := [.lit (.bool true)], args := [d] }
  | _ => none }
def datagramPutsRow : OpenClaim := { program := "ytphejbjbleeigaa", sum := "30efc38a921e6ea8bb8531e5936c8c98e5c3deacf115f2b59b063d6668a9823a", func := "lightship/lightshiplaw10.DatagramPuts", spec := "datagramPuts", unfollowed := true, recurses := true, plainKeys := false, apart := false }
def DatagramPutsSaid : Prop := datagramPutsRow.holds Try.pinned (OpenSpec.ofChange datagramPutsSpec)

/-- ITS FALSE NEIGHBOUR: 'it returns false'. Refute it at one input. -/
def datagramPutsWrong : ChangeSpec := { name := "datagramPuts", fn := fun _ => fun
  | [d] => { results := [.lit (.bool false)], args := [d] }
  | _ => none }
def DatagramPutsWrongFalsely : Prop := datagramPutsRow.holds Try.pinned (OpenSpec.ofChange datagramPutsWrong)

/-- 'lightshiplaw10.DatagramReads': WHATEVER THE INPUT: true; the input reads as it did. -/
def datagramReadsSpec : ChangeSpec := { name := "datagramReads", fn := fun _ => fun
  | [d] => { results := [.lit (.bool true)], args := [d] }
  | _ => none }
def datagramReadsRow : OpenClaim := { program := "ytphejbjbleeigaa", sum := "30efc38a921e6ea8bb8531e5936c8c98e5c3deacf115f2b59b063d6668a9823a", func := "lightship/lightshiplaw10.DatagramReads", spec := "datagramReads", unfollowed := true, recurses := true, plainKeys := false, apart := false }
def DatagramReadsSaid : Prop := datagramReadsRow.holds Try.pinned (OpenSpec.ofChange datagramReadsSpec)

/-- ITS FALSE NEIGHBOUR: 'it returns false'. Refute it at one input. -/
def datagramReadsWrong : ChangeSpec := { name := "datagramReads", fn := fun _ => fun
  | [d] => { results := [.lit (.bool false)], args := [d] }
  | _ => none }
def DatagramReadsWrongFalsely : Prop := datagramReadsRow.holds Try.pinned (OpenSpec.ofChange datagramReadsWrong)

/-- 'lightshiplaw10.DatagramBack': WHATEVER THE INPUT: true; the input reads as it did. -/
def datagramBackSpec : ChangeSpec := { name := "datagramBack", fn := fun _ => fun
  | [d1, d2] => { results := [.lit (.bool true)], args := [d1, d2] }
  | _ => none }
def datagramBackRow : OpenClaim := { program := "ytphejbjbleeigaa", sum := "30efc38a921e6ea8bb8531e5936c8c98e5c3deacf115f2b59b063d6668a9823a", func := "lightship/lightshiplaw10.DatagramBack", spec := "datagramBack", unfollowed := true, recurses := true, plainKeys := false, apart := false }
def DatagramBackSaid : Prop := datagramBackRow.holds Try.pinned (OpenSpec.ofChange datagramBackSpec)

/-- ITS FALSE NEIGHBOUR: 'it returns false'. Refute it at one input. -/
def datagramBackWrong : ChangeSpec := { name := "datagramBack", fn := fun _ => fun
  | [d1, d2] => { results := [.lit (.bool false)], args := [d1, d2] }
  | _ => none }
def DatagramBackWrongFalsely : Prop := datagramBackRow.holds Try.pinned (OpenSpec.ofChange datagramBackWrong)

/-- 'lightshiplaw10.DatagramBit': WHATEVER THE INPUT: true; the input reads as it did. -/
def datagramBitSpec : ChangeSpec := { name := "datagramBit", fn := fun _ => fun
  | [d1, d2] => { results := [.lit (.bool true)], args := [d1, d2] }
  | _ => none }
def datagramBitRow : OpenClaim := { program := "ytphejbjbleeigaa", sum := "30efc38a921e6ea8bb8531e5936c8c98e5c3deacf115f2b59b063d6668a9823a", func := "lightship/lightshiplaw10.DatagramBit", spec := "datagramBit", unfollowed := true, recurses := true, plainKeys := false, apart := false }
def DatagramBitSaid : Prop := datagramBitRow.holds Try.pinned (OpenSpec.ofChange datagramBitSpec)

/-- ITS FALSE NEIGHBOUR: 'it returns false'. Refute it at one input. -/
def datagramBitWrong : ChangeSpec := { name := "datagramBit", fn := fun _ => fun
  | [d1, d2] => { results := [.lit (.bool false)], args := [d1, d2] }
  | _ => none }
def DatagramBitWrongFalsely : Prop := datagramBitRow.holds Try.pinned (OpenSpec.ofChange datagramBitWrong)

/-- 'lightshiplaw25.ControlPlays': WHATEVER THE INPUT: true; the input reads as it did. -/
def controlPlaysSpec : ChangeSpec := { name := "controlPlays", fn := fun _ => fun
  | [d] => { results := [.lit (.bool true)], args := [d] }
  | _ => none }
def controlPlaysRow : OpenClaim := { program := "ytphejbjbleeigaa", sum := "30efc38a921e6ea8bb8531e5936c8c98e5c3deacf115f2b59b063d6668a9823a", func := "lightship/lightshiplaw25.ControlPlays", spec := "controlPlays", unfollowed := true, recurses := true, plainKeys := false, apart := false }
def ControlPlaysSaid : Prop := controlPlaysRow.holds Try.pinned (OpenSpec.ofChange controlPlaysSpec)

/-- ITS FALSE NEIGHBOUR: 'it returns false'. Refute it at one input. -/
def controlPlaysWrong : ChangeSpec := { name := "controlPlays", fn := fun _ => fun
  | [d] => { results := [.lit (.bool false)], args := [d] }
  | _ => none }
def ControlPlaysWrongFalsely : Prop := controlPlaysRow.holds Try.pinned (OpenSpec.ofChange controlPlaysWrong)

/-- 'lightshiplaw25.ControlNone': WHATEVER THE INPUT: true; the input reads as it did. -/
def controlNoneSpec : ChangeSpec := { name := "controlNone", fn := fun _ => fun
  | [d] => { results := [.lit (.bool true)], args := [d] }
  | _ => none }
def controlNoneRow : OpenClaim := { program := "ytphejbjbleeigaa", sum := "30efc38a921e6ea8bb8531e5936c8c98e5c3deacf115f2b59b063d6668a9823a", func := "lightship/lightshiplaw25.ControlNone", spec := "controlNone", unfollowed := true, recurses := true, plainKeys := false, apart := false }
def ControlNoneSaid : Prop := controlNoneRow.holds Try.pinned (OpenSpec.ofChange controlNoneSpec)

/-- ITS FALSE NEIGHBOUR: 'it returns false'. Refute it at one input. -/
def controlNoneWrong : ChangeSpec := { name := "controlNone", fn := fun _ => fun
  | [d] => { results := [.lit (.bool false)], args := [d] }
  | _ => none }
def ControlNoneWrongFalsely : Prop := controlNoneRow.holds Try.pinned (OpenSpec.ofChange controlNoneWrong)

/-- 'lightshiplaw18.TablePlays': WHATEVER THE INPUT: true; the input reads as it did. -/
def tablePlaysSpec : ChangeSpec := { name := "tablePlays", fn := fun _ => fun
  | [d1, d2, d3] => { results := [.lit (.bool true)], args := [d1, d2, d3] }
  | _ => none }
def tablePlaysRow : OpenClaim := { program := "ytphejbjbleeigaa", sum := "30efc38a921e6ea8bb8531e5936c8c98e5c3deacf115f2b59b063d6668a9823a", func := "lightship/lightshiplaw18.TablePlays", spec := "tablePlays", inPlace := ["(*internal/sync.Mutex).Lock", "internal/race.Disable", "sync/atomic.CompareAndSwapInt32", "internal/race.Enable", "internal/race.Acquire", "(*internal/sync.Mutex).lockSlow", "internal/sync.runtime_canSpin", "internal/sync.runtime_doSpin", "internal/sync.throw", "internal/sync.runtime_nanotime", "internal/sync.runtime_SemacquireMutex", "sync/atomic.AddInt32", "(*internal/sync.Mutex).Unlock", "internal/race.ReleaseMerge", "(*internal/sync.Mutex).unlockSlow", "internal/sync.fatal", "internal/sync.runtime_Semrelease", "slices.overlaps[lightship/api.Shard]"], unfollowed := true, recurses := true, plainKeys := false, apart := false }
def TablePlaysSaid : Prop := tablePlaysRow.holds Try.pinned (OpenSpec.ofChange tablePlaysSpec)

/-- ITS FALSE NEIGHBOUR: 'it returns false'. Refute it at one input. -/
def tablePlaysWrong : ChangeSpec := { name := "tablePlays", fn := fun _ => fun
  | [d1, d2, d3] => { results := [.lit (.bool false)], args := [d1, d2, d3] }
  | _ => none }
def TablePlaysWrongFalsely : Prop := tablePlaysRow.holds Try.pinned (OpenSpec.ofChange tablePlaysWrong)

/-- 'lightshiplaw18.TableOnce': WHATEVER THE INPUT: true; the input reads as it did. -/
def tableOnceSpec : ChangeSpec := { name := "tableOnce", fn := fun _ => fun
  | [d1, d2] => { results := [.lit (.bool true)], args := [d1, d2] }
  | _ => none }
def tableOnceRow : OpenClaim := { program := "ytphejbjbleeigaa", sum := "30efc38a921e6ea8bb8531e5936c8c98e5c3deacf115f2b59b063d6668a9823a", func := "lightship/lightshiplaw18.TableOnce", spec := "tableOnce", inPlace := ["(*internal/sync.Mutex).Lock", "internal/race.Disable", "sync/atomic.CompareAndSwapInt32", "internal/race.Enable", "internal/race.Acquire", "(*internal/sync.Mutex).lockSlow", "internal/sync.runtime_canSpin", "internal/sync.runtime_doSpin", "internal/sync.throw", "internal/sync.runtime_nanotime", "internal/sync.runtime_SemacquireMutex", "sync/atomic.AddInt32", "(*internal/sync.Mutex).Unlock", "internal/race.ReleaseMerge", "(*internal/sync.Mutex).unlockSlow", "internal/sync.fatal", "internal/sync.runtime_Semrelease", "slices.overlaps[lightship/api.Shard]"], unfollowed := true, recurses := true, plainKeys := false, apart := false }
def TableOnceSaid : Prop := tableOnceRow.holds Try.pinned (OpenSpec.ofChange tableOnceSpec)

/-- ITS FALSE NEIGHBOUR: 'it returns false'. Refute it at one input. -/
def tableOnceWrong : ChangeSpec := { name := "tableOnce", fn := fun _ => fun
  | [d1, d2] => { results := [.lit (.bool false)], args := [d1, d2] }
  | _ => none }
def TableOnceWrongFalsely : Prop := tableOnceRow.holds Try.pinned (OpenSpec.ofChange tableOnceWrong)

/-- 'lightshiplaw18.TableNone': WHATEVER THE INPUT: true; the input reads as it did. -/
def tableNoneSpec : ChangeSpec := { name := "tableNone", fn := fun _ => fun
  | [d] => { results := [.lit (.bool true)], args := [d] }
  | _ => none }
def tableNoneRow : OpenClaim := { program := "ytphejbjbleeigaa", sum := "30efc38a921e6ea8bb8531e5936c8c98e5c3deacf115f2b59b063d6668a9823a", func := "lightship/lightshiplaw18.TableNone", spec := "tableNone", inPlace := ["(*internal/sync.Mutex).Lock", "internal/race.Disable", "sync/atomic.CompareAndSwapInt32", "internal/race.Enable", "internal/race.Acquire", "(*internal/sync.Mutex).lockSlow", "internal/sync.runtime_canSpin", "internal/sync.runtime_doSpin", "internal/sync.throw", "internal/sync.runtime_nanotime", "internal/sync.runtime_SemacquireMutex", "sync/atomic.AddInt32", "(*internal/sync.Mutex).Unlock", "internal/race.ReleaseMerge", "(*internal/sync.Mutex).unlockSlow", "internal/sync.fatal", "internal/sync.runtime_Semrelease", "slices.overlaps[lightship/api.Shard]"], unfollowed := true, recurses := true, plainKeys := false, apart := false }
def TableNoneSaid : Prop := tableNoneRow.holds Try.pinned (OpenSpec.ofChange tableNoneSpec)

/-- ITS FALSE NEIGHBOUR: 'it returns false'. Refute it at one input. -/
def tableNoneWrong : ChangeSpec := { name := "tableNone", fn := fun _ => fun
  | [d] => { results := [.lit (.bool false)], args := [d] }
  | _ => none }
def TableNoneWrongFalsely : Prop := tableNoneRow.holds Try.pinned (OpenSpec.ofChange tableNoneWrong)

/-- 'lightshiplaw13.TimersOrder': WHATEVER THE INPUT: true; the input reads as it did. -/
def timersOrderSpec : ChangeSpec := { name := "timersOrder", fn := fun _ => fun
  | [d1, d2] => { results := [.lit (.bool true)], args := [d1, d2] }
  | _ => none }
def timersOrderRow : OpenClaim := { program := "ytphejbjbleeigaa", sum := "30efc38a921e6ea8bb8531e5936c8c98e5c3deacf115f2b59b063d6668a9823a", func := "lightship/lightshiplaw13.TimersOrder", spec := "timersOrder", unfollowed := true, recurses := true, plainKeys := false, apart := false }
def TimersOrderSaid : Prop := timersOrderRow.holds Try.pinned (OpenSpec.ofChange timersOrderSpec)

/-- ITS FALSE NEIGHBOUR: 'it returns false'. Refute it at one input. -/
def timersOrderWrong : ChangeSpec := { name := "timersOrder", fn := fun _ => fun
  | [d1, d2] => { results := [.lit (.bool false)], args := [d1, d2] }
  | _ => none }
def TimersOrderWrongFalsely : Prop := timersOrderRow.holds Try.pinned (OpenSpec.ofChange timersOrderWrong)

/-- 'lightshiplaw13.TimersPlay': WHATEVER THE INPUT: true; the input reads as it did. -/
def timersPlaySpec : ChangeSpec := { name := "timersPlay", fn := fun _ => fun
  | [d] => { results := [.lit (.bool true)], args := [d] }
  | _ => none }
def timersPlayRow : OpenClaim := { program := "ytphejbjbleeigaa", sum := "30efc38a921e6ea8bb8531e5936c8c98e5c3deacf115f2b59b063d6668a9823a", func := "lightship/lightshiplaw13.TimersPlay", spec := "timersPlay", unfollowed := true, recurses := true, plainKeys := false, apart := false }
def TimersPlaySaid : Prop := timersPlayRow.holds Try.pinned (OpenSpec.ofChange timersPlaySpec)

/-- ITS FALSE NEIGHBOUR: 'it returns false'. Refute it at one input. -/
def timersPlayWrong : ChangeSpec := { name := "timersPlay", fn := fun _ => fun
  | [d] => { results := [.lit (.bool false)], args := [d] }
  | _ => none }
def TimersPlayWrongFalsely : Prop := timersPlayRow.holds Try.pinned (OpenSpec.ofChange timersPlayWrong)

/-- 'lightshiplaw13.TimersNone': WHATEVER THE INPUT: true; the input reads as it did. -/
def timersNoneSpec : ChangeSpec := { name := "timersNone", fn := fun _ => fun
  | [d] => { results := [.lit (.bool true)], args := [d] }
  | _ => none }
def timersNoneRow : OpenClaim := { program := "ytphejbjbleeigaa", sum := "30efc38a921e6ea8bb8531e5936c8c98e5c3deacf115f2b59b063d6668a9823a", func := "lightship/lightshiplaw13.TimersNone", spec := "timersNone", unfollowed := true, recurses := true, plainKeys := false, apart := false }
def TimersNoneSaid : Prop := timersNoneRow.holds Try.pinned (OpenSpec.ofChange timersNoneSpec)

/-- ITS FALSE NEIGHBOUR: 'it returns false'. Refute it at one input. -/
def timersNoneWrong : ChangeSpec := { name := "timersNone", fn := fun _ => fun
  | [d] => { results := [.lit (.bool false)], args := [d] }
  | _ => none }
def TimersNoneWrongFalsely : Prop := timersNoneRow.holds Try.pinned (OpenSpec.ofChange timersNoneWrong)

/- THE SECOND FORM. 'bulk': how many values and letters a reading holds, each counted each time it is reached (what is shared counts as often as it is met; a slice's spare places count too). A statement '..UptoSaid' is the law's where the arguments, and the package variables that the reading takes, are together of bulk at most 1048576: NARROWER than '..Said'. Prove '..Said' where nothing that the law and all that it calls make is longer than what came in: it says more and counts as full. Else prove '..UptoSaid'. A law counts once. -/
mutual
def uptoBulk {H : Type} : DataW H → Nat
  | .lit (.string bytes) => bytes.length + 1
  | .lit _ => 1
  | .nil => 1
  | .ptr d => uptoBulk d + 1
  | .slice elems spare => uptoBulkAll elems + uptoBulkAll spare + 1
  | .agg parts => uptoBulkAll parts + 1
  | .iface _ d => uptoBulk d + 1
  | .map entries => uptoBulkEntries entries + 1
  | .held _ => 1
def uptoBulkAll {H : Type} : List (DataW H) → Nat
  | [] => 0
  | d :: r => uptoBulk d + uptoBulkAll r
def uptoBulkEntries {H : Type} : List (Lit × DataW H) → Nat
  | [] => 0
  | x :: r => uptoBulkEntry x + uptoBulkEntries r
def uptoBulkEntry {H : Type} : Lit × DataW H → Nat
  | (.string bytes, d) => bytes.length + uptoBulk d + 1
  | (_, d) => uptoBulk d + 1
 end
def uptoSmall : (H : Type) → List (DataW H) → Bool := fun _ ds => decide (uptoBulkAll ds ≤ 1048576)
def OpenSpec.upto (s : _root_.Go.ChangeSpec) : _root_.Go.OpenSpec := { _root_.Go.OpenSpec.ofChange s with cond := some uptoSmall }

/-- 'lightshiplaw10.DatagramPuts', WHERE WHAT IT READS IS OF BULK AT MOST 1048576: true; the input reads as it did. -/
def datagramPutsUptoRow : OpenClaim := { program := "ytphejbjbleeigaa", sum := "30efc38a921e6ea8bb8531e5936c8c98e5c3deacf115f2b59b063d6668a9823a", func := "lightship/lightshiplaw10.DatagramPuts", spec := "datagramPuts", unfollowed := true, recurses := true, plainKeys := false, apart := false, narrowed := true }
def DatagramPutsUptoSaid : Prop := datagramPutsUptoRow.holds Try.pinned (OpenSpec.upto datagramPutsSpec)

/-- 'lightshiplaw10.DatagramReads', WHERE WHAT IT READS IS OF BULK AT MOST 1048576: true; the input reads as it did. -/
def datagramReadsUptoRow : OpenClaim := { program := "ytphejbjbleeigaa", sum := "30efc38a921e6ea8bb8531e5936c8c98e5c3deacf115f2b59b063d6668a9823a", func := "lightship/lightshiplaw10.DatagramReads", spec := "datagramReads", unfollowed := true, recurses := true, plainKeys := false, apart := false, narrowed := true }
def DatagramReadsUptoSaid : Prop := datagramReadsUptoRow.holds Try.pinned (OpenSpec.upto datagramReadsSpec)

/-- 'lightshiplaw10.DatagramBack', WHERE WHAT IT READS IS OF BULK AT MOST 1048576: true; the input reads as it did. -/
def datagramBackUptoRow : OpenClaim := { program := "ytphejbjbleeigaa", sum := "30efc38a921e6ea8bb8531e5936c8c98e5c3deacf115f2b59b063d6668a9823a", func := "lightship/lightshiplaw10.DatagramBack", spec := "datagramBack", unfollowed := true, recurses := true, plainKeys := false, apart := false, narrowed := true }
def DatagramBackUptoSaid : Prop := datagramBackUptoRow.holds Try.pinned (OpenSpec.upto datagramBackSpec)

/-- 'lightshiplaw10.DatagramBit', WHERE WHAT IT READS IS OF BULK AT MOST 1048576: true; the input reads as it did. -/
def datagramBitUptoRow : OpenClaim := { program := "ytphejbjbleeigaa", sum := "30efc38a921e6ea8bb8531e5936c8c98e5c3deacf115f2b59b063d6668a9823a", func := "lightship/lightshiplaw10.DatagramBit", spec := "datagramBit", unfollowed := true, recurses := true, plainKeys := false, apart := false, narrowed := true }
def DatagramBitUptoSaid : Prop := datagramBitUptoRow.holds Try.pinned (OpenSpec.upto datagramBitSpec)

/-- 'lightshiplaw25.ControlPlays', WHERE WHAT IT READS IS OF BULK AT MOST 1048576: true; the input reads as it did. -/
def controlPlaysUptoRow : OpenClaim := { program := "ytphejbjbleeigaa", sum := "30efc38a921e6ea8bb8531e5936c8c98e5c3deacf115f2b59b063d6668a9823a", func := "lightship/lightshiplaw25.ControlPlays", spec := "controlPlays", unfollowed := true, recurses := true, plainKeys := false, apart := false, narrowed := true }
def ControlPlaysUptoSaid : Prop := controlPlaysUptoRow.holds Try.pinned (OpenSpec.upto controlPlaysSpec)

/-- 'lightshiplaw25.ControlNone', WHERE WHAT IT READS IS OF BULK AT MOST 1048576: true; the input reads as it did. -/
def controlNoneUptoRow : OpenClaim := { program := "ytphejbjbleeigaa", sum := "30efc38a921e6ea8bb8531e5936c8c98e5c3deacf115f2b59b063d6668a9823a", func := "lightship/lightshiplaw25.ControlNone", spec := "controlNone", unfollowed := true, recurses := true, plainKeys := false, apart := false, narrowed := true }
def ControlNoneUptoSaid : Prop := controlNoneUptoRow.holds Try.pinned (OpenSpec.upto controlNoneSpec)

/-- 'lightshiplaw18.TablePlays', WHERE WHAT IT READS IS OF BULK AT MOST 1048576: true; the input reads as it did. -/
def tablePlaysUptoRow : OpenClaim := { program := "ytphejbjbleeigaa", sum := "30efc38a921e6ea8bb8531e5936c8c98e5c3deacf115f2b59b063d6668a9823a", func := "lightship/lightshiplaw18.TablePlays", spec := "tablePlays", inPlace := ["(*internal/sync.Mutex).Lock", "internal/race.Disable", "sync/atomic.CompareAndSwapInt32", "internal/race.Enable", "internal/race.Acquire", "(*internal/sync.Mutex).lockSlow", "internal/sync.runtime_canSpin", "internal/sync.runtime_doSpin", "internal/sync.throw", "internal/sync.runtime_nanotime", "internal/sync.runtime_SemacquireMutex", "sync/atomic.AddInt32", "(*internal/sync.Mutex).Unlock", "internal/race.ReleaseMerge", "(*internal/sync.Mutex).unlockSlow", "internal/sync.fatal", "internal/sync.runtime_Semrelease", "slices.overlaps[lightship/api.Shard]"], unfollowed := true, recurses := true, plainKeys := false, apart := false, narrowed := true }
def TablePlaysUptoSaid : Prop := tablePlaysUptoRow.holds Try.pinned (OpenSpec.upto tablePlaysSpec)

/-- 'lightshiplaw18.TableOnce', WHERE WHAT IT READS IS OF BULK AT MOST 1048576: true; the input reads as it did. -/
def tableOnceUptoRow : OpenClaim := { program := "ytphejbjbleeigaa", sum := "30efc38a921e6ea8bb8531e5936c8c98e5c3deacf115f2b59b063d6668a9823a", func := "lightship/lightshiplaw18.TableOnce", spec := "tableOnce", inPlace := ["(*internal/sync.Mutex).Lock", "internal/race.Disable", "sync/atomic.CompareAndSwapInt32", "internal/race.Enable", "internal/race.Acquire", "(*internal/sync.Mutex).lockSlow", "internal/sync.runtime_canSpin", "internal/sync.runtime_doSpin", "internal/sync.throw", "internal/sync.runtime_nanotime", "internal/sync.runtime_SemacquireMutex", "sync/atomic.AddInt32", "(*internal/sync.Mutex).Unlock", "internal/race.ReleaseMerge", "(*internal/sync.Mutex).unlockSlow", "internal/sync.fatal", "internal/sync.runtime_Semrelease", "slices.overlaps[lightship/api.Shard]"], unfollowed := true, recurses := true, plainKeys := false, apart := false, narrowed := true }
def TableOnceUptoSaid : Prop := tableOnceUptoRow.holds Try.pinned (OpenSpec.upto tableOnceSpec)

/-- 'lightshiplaw18.TableNone', WHERE WHAT IT READS IS OF BULK AT MOST 1048576: true; the input reads as it did. -/
def tableNoneUptoRow : OpenClaim := { program := "ytphejbjbleeigaa", sum := "30efc38a921e6ea8bb8531e5936c8c98e5c3deacf115f2b59b063d6668a9823a", func := "lightship/lightshiplaw18.TableNone", spec := "tableNone", inPlace := ["(*internal/sync.Mutex).Lock", "internal/race.Disable", "sync/atomic.CompareAndSwapInt32", "internal/race.Enable", "internal/race.Acquire", "(*internal/sync.Mutex).lockSlow", "internal/sync.runtime_canSpin", "internal/sync.runtime_doSpin", "internal/sync.throw", "internal/sync.runtime_nanotime", "internal/sync.runtime_SemacquireMutex", "sync/atomic.AddInt32", "(*internal/sync.Mutex).Unlock", "internal/race.ReleaseMerge", "(*internal/sync.Mutex).unlockSlow", "internal/sync.fatal", "internal/sync.runtime_Semrelease", "slices.overlaps[lightship/api.Shard]"], unfollowed := true, recurses := true, plainKeys := false, apart := false, narrowed := true }
def TableNoneUptoSaid : Prop := tableNoneUptoRow.holds Try.pinned (OpenSpec.upto tableNoneSpec)

/-- 'lightshiplaw13.TimersOrder', WHERE WHAT IT READS IS OF BULK AT MOST 1048576: true; the input reads as it did. -/
def timersOrderUptoRow : OpenClaim := { program := "ytphejbjbleeigaa", sum := "30efc38a921e6ea8bb8531e5936c8c98e5c3deacf115f2b59b063d6668a9823a", func := "lightship/lightshiplaw13.TimersOrder", spec := "timersOrder", unfollowed := true, recurses := true, plainKeys := false, apart := false, narrowed := true }
def TimersOrderUptoSaid : Prop := timersOrderUptoRow.holds Try.pinned (OpenSpec.upto timersOrderSpec)

/-- 'lightshiplaw13.TimersPlay', WHERE WHAT IT READS IS OF BULK AT MOST 1048576: true; the input reads as it did. -/
def timersPlayUptoRow : OpenClaim := { program := "ytphejbjbleeigaa", sum := "30efc38a921e6ea8bb8531e5936c8c98e5c3deacf115f2b59b063d6668a9823a", func := "lightship/lightshiplaw13.TimersPlay", spec := "timersPlay", unfollowed := true, recurses := true, plainKeys := false, apart := false, narrowed := true }
def TimersPlayUptoSaid : Prop := timersPlayUptoRow.holds Try.pinned (OpenSpec.upto timersPlaySpec)

/-- 'lightshiplaw13.TimersNone', WHERE WHAT IT READS IS OF BULK AT MOST 1048576: true; the input reads as it did. -/
def timersNoneUptoRow : OpenClaim := { program := "ytphejbjbleeigaa", sum := "30efc38a921e6ea8bb8531e5936c8c98e5c3deacf115f2b59b063d6668a9823a", func := "lightship/lightshiplaw13.TimersNone", spec := "timersNone", unfollowed := true, recurses := true, plainKeys := false, apart := false, narrowed := true }
def TimersNoneUptoSaid : Prop := timersNoneUptoRow.holds Try.pinned (OpenSpec.upto timersNoneSpec)

end Rows
end Go.Proofs.Ytphejbjbleeigaa
