/-
  Scripts: whether a step may be: contracts (chapter 33).
-/
import Derived.Test.YtdjjienklfbalaaScr1
import Derived.Laws.StructEq
namespace Go.Proofs.Ytdjjienklfbalaa
open Go.RowKit
set_option linter.unusedVariables false
set_option maxRecDepth 100000
set_option maxHeartbeats 1000000
theorem of_1 (side ck cs cn : Int) (cb : List UInt8) (n : Int) (raw : List UInt8) (w : World) : Calls Try.prog 88 #[.agg #[.int .i64 1, .int .i64 side, .int .i64 ck, .int .i64 cs, .int .i64 cn, Str cb, .int .i64 n, Str raw]] w (RetB (.iface 229 (.agg #[.int .i64 ck, .int .i64 cs, .int .i64 cn, Str cb])) w) := by
  go_enter Try.func88, Try.ntmps88
  go_wp2_with fail
  go_ret
  exact ⟨rfl, Below.chainAlloc (Below.refl _ _) _⟩
theorem of_10 (side ck cs cn : Int) (cb : List UInt8) (n : Int) (raw : List UInt8) (w : World) : Calls Try.prog 88 #[.agg #[.int .i64 10, .int .i64 side, .int .i64 ck, .int .i64 cs, .int .i64 cn, Str cb, .int .i64 n, Str raw]] w (RetB (.iface 232 (.agg #[Str raw])) w) := by
  go_enter Try.func88, Try.ntmps88
  go_wp2_with fail
  go_ret
  exact ⟨rfl, Below.chainAlloc (Below.refl _ _) _⟩
theorem of_o (kind side ck cs cn : Int) (cb : List UInt8) (n : Int) (raw : List UInt8) (h1 : (kind == 1) = false) (h10 : (kind == 10) = false) (w : World) : Calls Try.prog 88 #[.agg #[.int .i64 kind, .int .i64 side, .int .i64 ck, .int .i64 cs, .int .i64 cn, Str cb, .int .i64 n, Str raw]] w (RetB (.iface 234 (.agg #[])) w) := by
  go_enter Try.func88, Try.ntmps88
  go_wp2_with fail
  go_ret
  exact ⟨rfl, Below.chainAlloc (Below.refl _ _) _⟩
theorem ta_hit {t xT : TypeId} {fs : Array Field} (hu : Try.prog.underlying t = some (.struct fs)) (v : Value) (w : World) : (Instr.typeAssert (.iface t v) xT t true).run Try.prog w = .ok (.tuple #[v, .bool true]) w := by
  simp [Instr.typeAssert, run_underlying hu]
theorem ta_miss {t t' xT : TypeId} {fs : Array Field} {z : Value} (hne : t ≠ t') (hu : Try.prog.underlying t' = some (.struct fs)) (hz : ∀ w, (zeroValue t').run Try.prog w = .ok z w) (v : Value) (w : World) : (Instr.typeAssert (.iface t v) xT t' true).run Try.prog w = .ok (.tuple #[z, .bool false]) w := by
  simp [Instr.typeAssert, run_underlying hu, hne, hz]
theorem fieldsCall : Try.prog.underlying 158 = some (.struct (Try.prog.fieldsOf 158)) := by kernel_rfl
theorem notHeldCall : Try.prog.stoodInHeld 158 = false := by kernel_rfl
theorem guardCall : Try.prog.eqGuardType Try.prog.depth 158 = false := by kernel_rfl
theorem str_beq (a b : List UInt8) : ((⟨a.toArray⟩ : ByteArray).toList == (⟨b.toArray⟩ : ByteArray).toList) = decide (a = b) := by
  rw [ByteArray.toList_eq, ByteArray.toList_eq]
  show (a == b) = decide (a = b)
  by_cases h : a = b <;> simp [h]
theorem ite_res (p : Prop) [Decidable p] (q : Bool) (w : World) (r : Result Bool) (h : r = .ok q w) : (if p then r else Result.ok false w) = .ok (decide p && q) w := by
  subst h
  by_cases h : p <;> simp [h]
theorem eql_call (a0 a1 a2 : Int) (a3 : List UInt8) (b0 b1 b2 : Int) (b3 : List UInt8) (w : World) : (Op.equalIn 10000 158 (.agg #[.int .i64 a0, .int .i64 a1, .int .i64 a2, Str a3]) (.agg #[.int .i64 b0, .int .i64 b1, .int .i64 b2, Str b3])).run Try.prog w = .ok (decide (a0 = b0) && (decide (a1 = b1) && (decide (a2 = b2) && decide (a3 = b3)))) w := by
  have uS := Try.underlying9
  have uI := Try.underlying3
  have aS := Try.isAgg9
  have aI := Try.isAgg3
  have zS := Try.sizeOf9
  have zI := Try.sizeOf3
  rw [show (10000 : Nat) = 9999 + 1 from rfl, run_equalIn_agg w 9999 158 _ _ fieldsCall notHeldCall]
  simp only [Program.fieldsOf, Try.underlying158]
  go_simp
  iterate 3 refine ite_res _ _ w _ ?_
  by_cases h : a3 = b3 <;> simp [h]
theorem run_eql_call (a0 a1 a2 : Int) (a3 : List UInt8) (w : World) : (binOp .eql 158 (.agg #[.int .i64 a0, .int .i64 a1, .int .i64 a2, Str a3]) (.agg #[.int .i64 0, .int .i64 0, .int .i64 0, .string ⟨#[]⟩])).run Try.prog w = .ok (.bool (a0 == 0 && a1 == 0 && a2 == 0 && decide (a3 = []))) w := by
  have h := eql_call a0 a1 a2 a3 0 0 0 [] w
  rw [run_eql_struct]
  have e : (.string ⟨#[]⟩ : Value) = Str [] := rfl
  rw [e, h]
  show Result.ok (Value.bool _) w = Result.ok (Value.bool _) w
  congr 2
  by_cases h0 : a0 = 0 <;> by_cases h1 : a1 = 0 <;> by_cases h2 : a2 = 0 <;> by_cases h3 : a3 = [] <;> simp [h0, h1, h2, h3]
theorem gd_call (a0 a1 a2 : Int) (a3 : List UInt8) (x y : Operand) (w : World) : (eqGuard .eql 158 x y (.agg #[.int .i64 a0, .int .i64 a1, .int .i64 a2, Str a3]) (.agg #[.int .i64 0, .int .i64 0, .int .i64 0, .string ⟨#[]⟩])).run Try.prog w = .ok () w := run_eqGuard_agg w .eql _ x y _ _ guardCall
theorem may_bad (kind side ck cs cn : Int) (cb : List UInt8) (n : Int) (raw : List UInt8) (hbad : kind < 1 ∨ 11 < kind ∨ side < 0 ∨ 1 < side ∨ n < 0 ∨ 2147483647 < n) (w : World) : Calls Try.prog 85 #[.agg #[.int .i64 kind, .int .i64 side, .int .i64 ck, .int .i64 cs, .int .i64 cn, Str cb, .int .i64 n, Str raw]] w (RetB (.bool false) w) := by
  go_enter Try.func85, Try.ntmps85
  go_wp2_with fail
  all_goals first
    | (exfalso; omega)
    | (go_ret; exact ⟨rfl, Below.chainAlloc (Below.refl _ _) _⟩)
theorem may_1 (side ck cs cn : Int) (cb : List UInt8) (n : Int) (raw : List UInt8) (f1 : decide (side < 0) = false) (f2 : decide (1 < side) = false) (f3 : decide (n < 0) = false) (f4 : decide (2147483647 < n) = false) (w : World) :
    Calls Try.prog 85 #[.agg #[.int .i64 1, .int .i64 side, .int .i64 ck, .int .i64 cs, .int .i64 cn, Str cb, .int .i64 n, Str raw]] w (RetB (.bool (decide (raw = []) && callB ck cs cn cb)) w) := by
  have ht := fun v w => ta_hit (xT := 171) Try.underlying229 v w
  have HO := Lib.hid (of_1 side ck cs cn cb n raw)
  have HCs := Lib.hid (calls_s ck cs cn cb)
  go_enter Try.func85, Try.ntmps85
  go_wp2_with fail
  refine (HO.out _).mono ?_
  rintro e w1 ⟨rfl, hb⟩
  have k1 := (Blk.new w #[.int .i64 1, .int .i64 side, .int .i64 ck, .int .i64 cs, .int .i64 cn, Str cb, .int .i64 n, Str raw] 160).below hb (by simp)
  have hB := Below.chain hb (Below.chainAlloc (Below.refl _ _) _)
  clear hb
  obtain ⟨c1, f1, l1⟩ := k1.facts
  have n1 : w.heap.size ≠ w1.heap.size := by omega
  cases raw with
  | nil =>
    go_wp2_with fail
    refine (HCs.out _).mono ?_
    rintro e w2 ⟨rfl, hb⟩
    have hB2 := Below.chain hb (Below.chainAlloc hB _)
    clear hb c1 f1 l1 k1
    generalize callB ck cs cn cb = z at *
    go_wp2_with fail
    go_ret
    exact ⟨ret_bool (by simp), hB2⟩
  | cons x t =>
    go_wp2_with fail
    go_ret
    exact ⟨ret_bool (by simp), Below.chainAlloc hB _⟩
theorem may_10 (side ck cs cn : Int) (cb : List UInt8) (n : Int) (raw : List UInt8) (f1 : decide (side < 0) = false) (f2 : decide (1 < side) = false) (f3 : decide (n < 0) = false) (f4 : decide (2147483647 < n) = false) (w : World) :
    Calls Try.prog 85 #[.agg #[.int .i64 10, .int .i64 side, .int .i64 ck, .int .i64 cs, .int .i64 cn, Str cb, .int .i64 n, Str raw]] w (RetB (.bool (decide ((raw.length : Int) ≤ 2048) && (ck == 0 && cs == 0 && cn == 0 && decide (cb = [])))) w) := by
  have hm := fun v w => ta_miss (t := 232) (xT := 171) (by decide) Try.underlying229 Try.zeroValue229 v w
  have ht := fun v w => ta_hit (xT := 171) Try.underlying232 v w
  have HO := Lib.hid (of_10 side ck cs cn cb n raw)
  have hq := run_eql_call ck cs cn cb
  have hgd := gd_call ck cs cn cb
  generalize (ck == 0 && cs == 0 && cn == 0 && decide (cb = [])) = z at *
  cases d : decide ((raw.length : Int) ≤ 2048)
  all_goals
    go_enter Try.func85, Try.ntmps85
    go_wp2_with fail
    refine (HO.out _).mono ?_
    rintro e w1 ⟨rfl, hb⟩
    have k1 := (Blk.new w #[.int .i64 10, .int .i64 side, .int .i64 ck, .int .i64 cs, .int .i64 cn, Str cb, .int .i64 n, Str raw] 160).below hb (by simp)
    have hB := Below.chain hb (Below.chainAlloc (Below.refl _ _) _)
    clear hb
    obtain ⟨c1, g1, l1⟩ := k1.facts
    have n1 : w.heap.size ≠ w1.heap.size := by omega
    go_wp2_with fail
    go_ret
    exact ⟨ret_bool (by simp), Below.chainAlloc hB _⟩
theorem may_o (kind side ck cs cn : Int) (cb : List UInt8) (n : Int) (raw : List UInt8) (h1 : (kind == 1) = false) (h10 : (kind == 10) = false) (k0 : decide (kind < 1) = false) (k1 : decide (11 < kind) = false) (f1 : decide (side < 0) = false) (f2 : decide (1 < side) = false) (f3 : decide (n < 0) = false) (f4 : decide (2147483647 < n) = false) (w : World) :
    Calls Try.prog 85 #[.agg #[.int .i64 kind, .int .i64 side, .int .i64 ck, .int .i64 cs, .int .i64 cn, Str cb, .int .i64 n, Str raw]] w (RetB (.bool (decide (raw = []) && (ck == 0 && cs == 0 && cn == 0 && decide (cb = [])))) w) := by
  have hm := fun v w => ta_miss (t := 234) (xT := 171) (by decide) Try.underlying229 Try.zeroValue229 v w
  have ht := fun v w => ta_miss (t := 234) (xT := 171) (by decide) Try.underlying232 Try.zeroValue232 v w
  have HO := Lib.hid (of_o kind side ck cs cn cb n raw h1 h10)
  have hq := run_eql_call ck cs cn cb
  have hgd := gd_call ck cs cn cb
  generalize (ck == 0 && cs == 0 && cn == 0 && decide (cb = [])) = z at *
  cases raw with
  | nil =>
    go_enter Try.func85, Try.ntmps85
    go_wp2_with fail
    refine (HO.out _).mono ?_
    rintro e w1 ⟨rfl, hb⟩
    have kb := (Blk.new w #[.int .i64 kind, .int .i64 side, .int .i64 ck, .int .i64 cs, .int .i64 cn, Str cb, .int .i64 n, Str []] 160).below hb (by simp)
    have hB := Below.chain hb (Below.chainAlloc (Below.refl _ _) _)
    clear hb
    obtain ⟨c1, g1, l1⟩ := kb.facts
    go_wp2_with fail
    go_ret
    exact ⟨ret_bool (by simp), hB⟩
  | cons x t =>
    go_enter Try.func85, Try.ntmps85
    go_wp2_with fail
    refine (HO.out _).mono ?_
    rintro e w1 ⟨rfl, hb⟩
    have kb := (Blk.new w #[.int .i64 kind, .int .i64 side, .int .i64 ck, .int .i64 cs, .int .i64 cn, Str cb, .int .i64 n, Str (x :: t)] 160).below hb (by simp)
    have hB := Below.chain hb (Below.chainAlloc (Below.refl _ _) _)
    clear hb
    obtain ⟨c1, g1, l1⟩ := kb.facts
    go_wp2_with fail
    go_ret
    exact ⟨ret_bool (by simp), hB⟩
theorem may_s (a : Ac) (w : World) : Calls Try.prog 85 #[a.val] w (RetB (.bool (mayA a)) w) := by
  obtain ⟨kind, side, ck, cs, cn, cb, n, raw⟩ := a
  by_cases hbad : kind < 1 ∨ 11 < kind ∨ side < 0 ∨ 1 < side ∨ n < 0 ∨ 2147483647 < n
  · have e : mayA ⟨kind, side, ck, cs, cn, cb, n, raw⟩ = false := by
      unfold mayA hdB
      simp only
      have : (decide (1 ≤ kind) && decide (kind ≤ 11) && decide (0 ≤ side) && decide (side ≤ 1) && decide (0 ≤ n) && decide (n ≤ 2147483647)) = false := by
        simp only [Bool.and_eq_false_iff, decide_eq_false_iff_not]
        omega
      rw [this, Bool.false_and]
    rw [e]
    exact may_bad kind side ck cs cn cb n raw hbad w
  · have hh : hdB ⟨kind, side, ck, cs, cn, cb, n, raw⟩ = true := by
      unfold hdB
      simp only [Bool.and_eq_true, decide_eq_true_eq]
      omega
    have e : mayA ⟨kind, side, ck, cs, cn, cb, n, raw⟩ = (if kind = 1 then decide (raw = []) && callB ck cs cn cb else if kind = 10 then decide (raw.length ≤ 2048) && call0 ⟨kind, side, ck, cs, cn, cb, n, raw⟩ else decide (raw = []) && call0 ⟨kind, side, ck, cs, cn, cb, n, raw⟩) := by
      unfold mayA
      rw [hh, Bool.true_and]
    have hlen : decide (raw.length ≤ 2048) = decide ((raw.length : Int) ≤ 2048) := by
      by_cases h : raw.length ≤ 2048
      · rw [decide_eq_true h, decide_eq_true (show (raw.length : Int) ≤ 2048 by omega)]
      · rw [decide_eq_false h, decide_eq_false (show ¬ (raw.length : Int) ≤ 2048 by omega)]
    rw [e]
    have f1 : decide (side < 0) = false := by simp; omega
    have f2 : decide (1 < side) = false := by simp; omega
    have f3 : decide (n < 0) = false := by simp; omega
    have f4 : decide (2147483647 < n) = false := by simp; omega
    by_cases k1 : kind = 1
    · subst k1
      rw [if_pos rfl]
      exact may_1 side ck cs cn cb n raw f1 f2 f3 f4 w
    · rw [if_neg k1]
      by_cases k2 : kind = 10
      · subst k2
        rw [if_pos rfl, hlen]
        exact may_10 side ck cs cn cb n raw f1 f2 f3 f4 w
      · rw [if_neg k2]
        exact may_o kind side ck cs cn cb n raw (by simpa using k1) (by simpa using k2) (by simp; omega) (by simp; omega) f1 f2 f3 f4 w
end Go.Proofs.Ytdjjienklfbalaa
