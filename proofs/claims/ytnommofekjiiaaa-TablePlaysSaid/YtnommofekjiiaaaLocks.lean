/-
  The numbers under which this program holds sync.Mutex's functions and types; the lock's contracts at a struct's cell.
-/
import Derived.Test.YtnommofekjiiaaaBase
import Derived.Conc.MuLone
import Derived.Conc.MuData
import Derived.KernelRfl
namespace Go.Proofs.Ytnommofekjiiaaa
open Go Go.RowKit Go.MuLone
abbrev muLink : Go.Conc.Locks.MuLink := { lock := 22, unlock := 23, ilock := 33, iunlock := 34, lockSlow := 42, unlockSlow := 45, disable := 38, enable := 40, acquire := 41, relMerge := 43, cas32 := 39, add32 := 44, tMutex := 59, tIMutex := 57, tPMutex := 89, tPIMutex := 99, tPI32 := 101, tUP := 103, tNoCopy := 55, tU32 := 33 }
theorem muLib : Go.Conc.Locks.MuLib Try.prog muLink :=
  ⟨Try.func22, Try.func23, Try.func33, Try.func34, Try.func38, Try.func40, Try.func41, Try.func43, Try.func39, Try.func44, Try.underlying57, Try.runUnderlying57, Try.sizeOf57, Try.isAgg57, Try.zeroValue57, Try.underlying59, Try.runUnderlying59, Try.sizeOf59, Try.isAgg59, Try.zeroValue59, Try.underlying89, Try.runUnderlying89, Try.sizeOf89, Try.isAgg89, Try.zeroValue89, Try.underlying99, Try.runUnderlying99, Try.sizeOf99, Try.isAgg99, Try.zeroValue99, Try.underlying101, Try.runUnderlying101, Try.sizeOf101, Try.isAgg101, Try.zeroValue101, Try.underlying103, Try.runUnderlying103, Try.sizeOf103, Try.isAgg103, Try.zeroValue103, Try.underlying55, Try.runUnderlying55, Try.sizeOf55, Try.isAgg55, Try.zeroValue55, Try.underlying21, Try.runUnderlying21, Try.sizeOf21, Try.isAgg21, Try.zeroValue21, (by kernel_rfl)⟩
end Go.Proofs.Ytnommofekjiiaaa
