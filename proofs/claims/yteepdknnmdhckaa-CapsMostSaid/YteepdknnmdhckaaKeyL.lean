/-
  api.Key and api.Shard by value: as keys of a map, compared by == and !=. 
-/
import Derived.Test.YteepdknnmdhckaaMpR
import Derived.Test.YteepdknnmdhckaaSeg
import Derived.Laws.StructEq
import Derived.Deep.RegionLaw
namespace Go.Proofs.Yteepdknnmdhckaa
open Go Go.RowKit
set_option linter.unusedVariables false
set_option maxRecDepth 100000
set_option maxHeartbeats 1000000
def encK (k : Int × Int) : Value := .agg #[.int .i64 k.1, .int .u32 k.2]
theorem fieldsKey : Try.prog.underlying 169 = some (.struct (Try.prog.fieldsOf 169)) := by kernel_rfl
theorem notHeldKey : Try.prog.stoodInHeld 169 = false := by kernel_rfl
theorem guardKey : Try.prog.eqGuardType Try.prog.depth 169 = false := by kernel_rfl
theorem run_eqIn_key (d : Nat) (w : World) (x y : Int × Int) : (Op.equalIn (d + 2) 169 (encK x) (encK y)).run Try.prog w = .ok (decide (x = y)) w := by
  have zI := Try.sizeOf3
  have zU := Try.sizeOf96
  obtain ⟨a, b⟩ := x
  obtain ⟨c, e⟩ := y
  unfold encK
  rw [run_equalIn_agg w (d + 1) 169 _ _ fieldsKey notHeldKey]
  simp only [Program.fieldsOf, Try.underlying169]
  go_simp
  by_cases h1 : a = c <;> by_cases h2 : b = e <;> simp [h1, h2]
theorem run_eq_key (w : World) (x y : Int × Int) : (Op.equal 169 (encK x) (encK y)).run Try.prog w = .ok (decide (x = y)) w := run_eqIn_key 9998 w x y
theorem run_eql_key (w : World) (x y : Int × Int) : (binOp .eql 169 (encK x) (encK y)).run Try.prog w = .ok (.bool (decide (x = y))) w := by
  have h := run_eqIn_key 9998 w x y
  unfold encK at *
  rw [run_eql_struct, h]
  rfl
theorem run_neq_key (w : World) (x y : Int × Int) : (binOp .neq 169 (encK x) (encK y)).run Try.prog w = .ok (.bool (!decide (x = y))) w := by
  have h := run_eqIn_key 9998 w x y
  unfold encK at *
  rw [run_neq_struct, h]
  rfl
theorem keyLaw : KeyE Try.prog 169 encK :=
  KeyE.wide (by kernel_rfl) (fun w em x => by cases em <;> kernel_rfl) run_eq_key
    (fun w x => by simp [Instr.keyThatStays, Instr.sameBits, encK]) (fun x y h => by
      unfold encK at h
      simp only [Value.agg.injEq] at h
      have := congrArg Array.toList h
      simp at this
      exact Prod.ext this.1 this.2)
theorem fieldsSh : Try.prog.underlying 207 = some (.struct (Try.prog.fieldsOf 207)) := by kernel_rfl
theorem notHeldSh : Try.prog.stoodInHeld 207 = false := by kernel_rfl
theorem str_eq_iff (x y : List UInt8) : ((⟨x.toArray⟩ : ByteArray) = ⟨y.toArray⟩) ↔ x = y := by
  constructor
  · intro h
    have := congrArg (fun z : ByteArray => z.data.toList) h
    simpa using this
  · intro h; rw [h]
theorem run_eqIn_sh (d : Nat) (w : World) (x y : Int × List UInt8) : (Op.equalIn (d + 2) 207 (.agg #[.int .i64 x.1, Str x.2]) (.agg #[.int .i64 y.1, Str y.2])).run Try.prog w = .ok (decide (x = y)) w := by
  have zI := Try.sizeOf3
  have zU := Try.sizeOf9
  obtain ⟨a, b⟩ := x
  obtain ⟨c, e⟩ := y
  rw [run_equalIn_agg w (d + 1) 207 _ _ fieldsSh notHeldSh]
  simp only [Program.fieldsOf, Try.underlying207]
  go_simp
  by_cases h1 : a = c <;> by_cases h2 : b = e <;> simp [h1, h2]
theorem run_neq_sh (w : World) (x y : Int × List UInt8) : (binOp .neq 207 (.agg #[.int .i64 x.1, Str x.2]) (.agg #[.int .i64 y.1, Str y.2])).run Try.prog w = .ok (.bool (!decide (x = y))) w := by
  have h := run_eqIn_sh 9998 w x y
  rw [run_neq_struct, h]
  rfl
end Go.Proofs.Yteepdknnmdhckaa
