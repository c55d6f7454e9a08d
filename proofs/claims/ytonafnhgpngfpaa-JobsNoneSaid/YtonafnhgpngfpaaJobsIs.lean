/-
  Jobs: errors.Is at the faults of package jobs (a named string type): its contracts.
-/
import Derived.Test.YtonafnhgpngfpaaBase2
import Derived.LaidEql
import Derived.Stop.Asserts
import Derived.RowKitTokens
namespace Go.Proofs.Ytonafnhgpngfpaa
open Go.RowKit Go.Extern.Stop Go.Stop Go.Extern
set_option linter.unusedVariables false
set_option maxRecDepth 100000
theorem run_equalIn_iface_str {P : Program} (w : World) (d : Nat) {ti tn : TypeId} {ms : Array (String × TypeId)} {i : TypeInfo} (a b : ByteArray)
    (hi : P.underlying ti = some (.interface ms)) (hn : P.underlying tn = some .string) (hinfo : P.info? tn = some i) (hcomp : i.comparable = true) :
    (Op.equalIn (d + 2) ti (.iface tn (.string a)) (.iface tn (.string b))).run P w = .ok (a == b) w := by
  simp [Op.equalIn, run_underlying hi, run_underlying hn, typeInfo, hinfo, hcomp]
theorem run_eql_iface_str {P : Program} (w : World) {ti tn : TypeId} {ms : Array (String × TypeId)} {i : TypeInfo} (a b : ByteArray)
    (hi : P.underlying ti = some (.interface ms)) (hn : P.underlying tn = some .string) (hinfo : P.info? tn = some i) (hcomp : i.comparable = true) :
    (binOp .eql ti (.iface tn (.string a)) (.iface tn (.string b))).run P w = .ok (.bool (a == b)) w := by
  simp only [binOp]
  simp [Op.equal, Op.maxDepth, run_equalIn_iface_str w 9998 a b hi hn hinfo hcomp]
theorem isTypeOf (v : Value) (w : World) : (Extern.ReflectliteType.typeOf #[.iface 106 v]).run Try.prog w = .ok (.iface 112 (.agg #[.pointer (some ⟨0, 106, none⟩)])) w := by kernel_rfl
theorem isMethodComparable (v : Value) (w : World) : (Go.method 253 112 v "Comparable").run Try.prog w = .ok (86, v) w := by kernel_rfl
theorem callTypeOf (v : Value) (w : World) : (callFunc 65 #[.iface 106 v]).run Try.prog w = .ok (.value (.iface 112 (.agg #[.pointer (some ⟨0, 106, none⟩)]))) w := by kernel_rfl
theorem callComparable (w : World) : (callFunc 86 #[.agg #[.pointer (some ⟨0, 106, none⟩)]]).run Try.prog w = .ok (.value (.bool true)) w := by kernel_rfl
theorem isComp : (Try.prog.info? 106).map (·.comparable) = some true := by kernel_rfl
theorem noIs (v : Value) (xT : TypeId) (w : World) : (Instr.typeAssert (.iface 106 v) xT 114 true).run Try.prog w = .ok (.tuple #[.nilIface, .bool false]) w := run_typeAssert_lacksB Try.underlying114 (by kernel_rfl) (by kernel_rfl) v xT w
theorem noUnwrap (v : Value) (xT : TypeId) (w : World) : (Instr.typeAssert (.iface 106 v) xT 117 true).run Try.prog w = .ok (.tuple #[.nilIface, .bool false]) w := run_typeAssert_lacksB Try.underlying117 (by kernel_rfl) (by kernel_rfl) v xT w
theorem noUnwraps (v : Value) (xT : TypeId) (w : World) : (Instr.typeAssert (.iface 106 v) xT 118 true).run Try.prog w = .ok (.tuple #[.nilIface, .bool false]) w := run_typeAssert_lacksB Try.underlying118 (by kernel_rfl) (by kernel_rfl) v xT w
theorem is_nil (b : List UInt8) (w : World) : Calls Try.prog 64 #[.nilIface, .iface 106 (Str b)] w fun e w' => e = .returned (.bool false) ∧ w = w' := by
  have hn := run_eql_iface_nil_left (P := Try.prog) w 106 (.string ⟨b.toArray⟩) Try.underlying103
  go_enter Try.func64, Try.ntmps64
  go_wp2
  go_ret
  exact ⟨rfl, rfl⟩
theorem is_same (b : List UInt8) (hab : ((⟨b.toArray⟩ : ByteArray) == ⟨b.toArray⟩) = true) (w : World) : Calls Try.prog 64 #[.iface 106 (Str b), .iface 106 (Str b)] w fun e w' => e = .returned (.bool true) ∧ w = w' := by
  obtain ⟨i, hi, hcmp⟩ := Option.map_eq_some_iff.1 isComp
  have tT := callTypeOf
  have cT := callComparable
  have mR := isMethodComparable
  have heq := run_eql_iface_str (P := Try.prog) w (ti := 103) ⟨b.toArray⟩ ⟨b.toArray⟩ Try.underlying103 Try.underlying106 hi hcmp
  rw [hab] at heq
  clear hab
  go_enter Try.func64, Try.ntmps64
  go_wp2
  refine wp_loop_rounds 1 ?_
  rw [rounds_succ]
  go_wp2
  go_ret
  exact ⟨rfl, rfl⟩
theorem is_other (a b : List UInt8) (hab : ((⟨a.toArray⟩ : ByteArray) == ⟨b.toArray⟩) = false) (w : World) : Calls Try.prog 64 #[.iface 106 (Str a), .iface 106 (Str b)] w fun e w' => e = .returned (.bool false) ∧ w = w' := by
  obtain ⟨i, hi, hcmp⟩ := Option.map_eq_some_iff.1 isComp
  have tT := callTypeOf
  have cT := callComparable
  have mR := isMethodComparable
  have n1 := noIs
  have n2 := noUnwrap
  have n3 := noUnwraps
  have heq := run_eql_iface_str (P := Try.prog) w (ti := 103) ⟨a.toArray⟩ ⟨b.toArray⟩ Try.underlying103 Try.underlying106 hi hcmp
  rw [hab] at heq
  clear hab
  go_enter Try.func64, Try.ntmps64
  go_wp2
  refine wp_loop_rounds 1 ?_
  rw [rounds_succ]
  go_wp2
  go_ret
  exact ⟨rfl, rfl⟩
def shutL : List UInt8 := [115, 104, 117, 116]
def fullL : List UInt8 := [102, 117, 108, 108]
end Go.Proofs.Ytonafnhgpngfpaa
