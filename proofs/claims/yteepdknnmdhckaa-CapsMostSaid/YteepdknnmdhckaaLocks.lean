/-
  The numbers under which this program holds sync.Mutex's functions and types; the lock's contracts at a struct's cell.
-/
import Derived.Test.YteepdknnmdhckaaBase
import Derived.Conc.MuLone
import Derived.Conc.MuData
import Derived.KernelRfl
namespace Go.Proofs.Yteepdknnmdhckaa
open Go Go.RowKit Go.MuLone
abbrev muLink : Go.Conc.Locks.MuLink := { lock := 35, unlock := 36, ilock := 37, iunlock := 38, lockSlow := 43, unlockSlow := 46, disable := 39, enable := 41, acquire := 42, relMerge := 44, cas32 := 40, add32 := 45, tMutex := 100, tIMutex := 98, tPMutex := 134, tPIMutex := 135, tPI32 := 137, tUP := 139, tNoCopy := 95, tU32 := 96 }
theorem muLib : Go.Conc.Locks.MuLib Try.prog muLink :=
  ⟨Try.func35, Try.func36, Try.func37, Try.func38, Try.func39, Try.func41, Try.func42, Try.func44, Try.func40, Try.func45, Try.underlying98, Try.runUnderlying98, Try.sizeOf98, Try.isAgg98, Try.zeroValue98, Try.underlying100, Try.runUnderlying100, Try.sizeOf100, Try.isAgg100, Try.zeroValue100, Try.underlying134, Try.runUnderlying134, Try.sizeOf134, Try.isAgg134, Try.zeroValue134, Try.underlying135, Try.runUnderlying135, Try.sizeOf135, Try.isAgg135, Try.zeroValue135, Try.underlying137, Try.runUnderlying137, Try.sizeOf137, Try.isAgg137, Try.zeroValue137, Try.underlying139, Try.runUnderlying139, Try.sizeOf139, Try.isAgg139, Try.zeroValue139, Try.underlying95, Try.runUnderlying95, Try.sizeOf95, Try.isAgg95, Try.zeroValue95, Try.underlying21, Try.runUnderlying21, Try.sizeOf21, Try.isAgg21, Try.zeroValue21, (by kernel_rfl)⟩
end Go.Proofs.Yteepdknnmdhckaa
