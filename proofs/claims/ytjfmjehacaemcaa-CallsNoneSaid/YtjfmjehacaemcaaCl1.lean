/-
  Calls that wait: what they are in memory; New, Len, Get, Take (chapter 29).
-/
import Derived.Test.YtjfmjehacaemcaaClP
import Derived.Test.YtjfmjehacaemcaaMpR
import Derived.Test.YtjfmjehacaemcaaSegA
import Derived.Laws.StructEq
import Derived.StillTailTactics
import Derived.Deep.RegionLaw
namespace Go.Proofs.Ytjfmjehacaemcaa
open Go Go.RowKit
set_option linter.unusedVariables false
set_option maxRecDepth 100000
set_option maxHeartbeats 1000000
def encP (k : Int × Int) : Value := .agg #[.int .i64 k.1, .int .i64 k.2]
theorem fieldsPl : Try.prog.underlying 52 = some (.struct (Try.prog.fieldsOf 52)) := by kernel_rfl
theorem notHeldPl : Try.prog.stoodInHeld 52 = false := by kernel_rfl
theorem run_eqIn_pl (d : Nat) (w : World) (x y : Int × Int) : (Op.equalIn (d + 2) 52 (encP x) (encP y)).run Try.prog w = .ok (decide (x = y)) w := by
  have zI := Try.sizeOf3
  obtain ⟨a, b⟩ := x
  obtain ⟨c, e⟩ := y
  unfold encP
  rw [run_equalIn_agg w (d + 1) 52 _ _ fieldsPl notHeldPl]
  simp only [Program.fieldsOf, Try.underlying52]
  go_simp
  by_cases h1 : a = c <;> by_cases h2 : b = e <;> simp [h1, h2]
theorem run_eq_pl (w : World) (x y : Int × Int) : (Op.equal 52 (encP x) (encP y)).run Try.prog w = .ok (decide (x = y)) w := run_eqIn_pl 9998 w x y
theorem placeLaw : KeyE Try.prog 52 encP :=
  KeyE.wide (by kernel_rfl) (fun w em x => by cases em <;> kernel_rfl) run_eq_pl
    (fun w x => by simp [Instr.keyThatStays, Instr.sameBits, encP]) (fun x y h => by
      unfold encP at h
      simp only [Value.agg.injEq] at h
      have := congrArg Array.toList h
      simp at this
      exact Prod.ext this.1 this.2)
/-! equality of what waits -/
theorem str_beq29 (a b : List UInt8) : ((⟨a.toArray⟩ : ByteArray).toList == (⟨b.toArray⟩ : ByteArray).toList) = decide (a = b) := by
  rw [ByteArray.toList_eq, ByteArray.toList_eq]
  show (a == b) = decide (a = b)
  by_cases h : a = b <;> simp [h]
theorem fieldsCall : Try.prog.underlying 28 = some (.struct (Try.prog.fieldsOf 28)) := by kernel_rfl
theorem notHeldCall : Try.prog.stoodInHeld 28 = false := by kernel_rfl
theorem fieldsWait : Try.prog.underlying 30 = some (.struct (Try.prog.fieldsOf 30)) := by kernel_rfl
theorem notHeldWait : Try.prog.stoodInHeld 30 = false := by kernel_rfl
theorem guardWait : Try.prog.eqGuardType Try.prog.depth 30 = false := by kernel_rfl
theorem run_eqIn_call (d : Nat) (w : World) (k1 s1 n1 k2 s2 n2 : Int) (b1 b2 : List UInt8) : (Op.equalIn (d + 2) 28 (.agg #[.int .i64 k1, .int .i64 s1, .int .i64 n1, Str b1]) (.agg #[.int .i64 k2, .int .i64 s2, .int .i64 n2, Str b2])).run Try.prog w = .ok (decide (k1 = k2 ∧ s1 = s2 ∧ n1 = n2 ∧ b1 = b2)) w := by
  have zI := Try.sizeOf3
  have zS := Try.sizeOf9
  have hb := str_beq29 b1 b2
  rw [run_equalIn_agg w (d + 1) 28 _ _ fieldsCall notHeldCall]
  simp only [Program.fieldsOf, Try.underlying28]
  go_simp
  by_cases h1 : k1 = k2 <;> by_cases h2 : s1 = s2 <;> by_cases h3 : n1 = n2 <;> by_cases h4 : b1 = b2 <;> simp [h1, h2, h3, h4]
theorem run_eqIn_wait (w : World) (x y : Wt) : (Op.equalIn 10000 30 x.val y.val).run Try.prog w = .ok (decide (x = y)) w := by
  have zI := Try.sizeOf3
  have zK := Try.sizeOf28
  obtain ⟨i1, k1, s1, n1, b1⟩ := x
  obtain ⟨i2, k2, s2, n2, b2⟩ := y
  have hk := run_eqIn_call 9997 w k1 s1 n1 k2 s2 n2 b1 b2
  unfold Wt.val
  rw [show (10000 : Nat) = 9999 + 1 from rfl, run_equalIn_agg w 9999 30 _ _ fieldsWait notHeldWait]
  simp only [Program.fieldsOf, Try.underlying30]
  go_simp
  by_cases h0 : i1 = i2 <;> by_cases h1 : k1 = k2 <;> by_cases h2 : s1 = s2 <;> by_cases h3 : n1 = n2 <;> by_cases h4 : b1 = b2 <;> simp [h0, h1, h2, h3, h4]
theorem run_neq_wait (w : World) (x y : Wt) : (binOp .neq 30 x.val y.val).run Try.prog w = .ok (.bool (!decide (x = y))) w := by
  have h := run_eqIn_wait w x y
  unfold Wt.val at *
  rw [run_neq_struct, h]
  rfl
theorem run_eql_wait (w : World) (x y : Wt) : (binOp .eql 30 x.val y.val).run Try.prog w = .ok (.bool (decide (x = y))) w := by
  have h := run_eqIn_wait w x y
  unfold Wt.val at *
  rw [run_eql_struct, h]
  rfl
theorem undM : Try.prog.underlying 48 = some (.map 52 30) := Try.underlying48
def wt0 : Wt := ⟨0, 0, 0, 0, []⟩
theorem zeroWait (w : World) : (zeroValue 30).run Try.prog w = .ok wt0.val w := by kernel_rfl
/-- Calls in block bt, their map in block bm. -/
structure Cls (w : World) (bt bm : Nat) (ds : List Wt) : Prop where
  b : Blk w bt #[.map (some bm)] 50
  m : MapW encP w bm (ds.map Wt.mp)
  ne : bt ≠ bm
theorem Cls.chain {w w' : World} {bt bm : Nat} {ds : List Wt} (h : Cls w bt bm ds) (hb : Below w.heap.size w w') : Cls w' bt bm ds := ⟨h.b.below hb h.b.lt, h.m.chain hb, h.ne⟩
theorem Cls.only {w w' : World} {bt bm : Nat} {ds ds' : List Wt} {l : List ((Int × Int) × Value)} (h : Cls w bt bm ds) (ho : Only [bm] w w') (hm : MapW encP w' bm l) (hl : l = ds'.map Wt.mp) : Cls w' bt bm ds' :=
  ⟨h.b.only ho (by simp [h.ne]), hl ▸ hm, h.ne⟩
theorem Cls.kept {w w' : World} {bt bm : Nat} {ds : List Wt} {S : List Nat} (h : Cls w bt bm ds) (ho : Only S w w') (h1 : bt ∉ S) (h2 : bm ∉ S) : Cls w' bt bm ds := ⟨h.b.only ho h1, h.m.only ho h2, h.ne⟩
theorem Cls.keys {w : World} {bt bm : Nat} {ds : List Wt} (h : Cls w bt bm ds) : (ds.map Wt.key).Nodup := by
  have := h.m.nodup
  rwa [keys_wp] at this
def ClPost (R : Value) (bt bm : Nat) (ds' : List Wt) (w : World) (e : Ending) (w' : World) : Prop := e = .returned R ∧ Cls w' bt bm ds' ∧ Only [bm] w w'
theorem clnew_any (w : World) : Calls Try.prog 6 #[] w fun e w' => e = .returned (.pointer (some ⟨w.heap.size + 1, 0, none⟩)) ∧ Cls w' (w.heap.size + 1) w.heap.size [] ∧ Below w.heap.size w w' := by
  have hmm := @run_makeMap Try.prog
  have h1 := (MapW.new encP w).alloc (.cells #[.map (some w.heap.size)] 50)
  have h2 := Blk.new (w.alloc (.map #[] 0)) #[.map (some w.heap.size)] 50
  have hB := Below.chainAlloc (Below.chainAlloc (Below.refl _ w) (.map #[] 0)) (.cells #[.map (some w.heap.size)] 50)
  rw [size_alloc] at h2
  have H := Lib.hid (And.intro h1 (And.intro h2 hB))
  clear h1 h2 hB
  go_enter Try.func6, Try.ntmps6
  go_wp2_with fail
  go_ret
  exact ⟨rfl, ⟨H.out.2.1, H.out.1, by omega⟩, H.out.2.2⟩
theorem cllen_any (bt bm : Nat) (ds : List Wt) (w : World) (h : Cls w bt bm ds) : Calls Try.prog 16 #[.pointer (some ⟨bt, 0, none⟩)] w fun e w' => e = .returned (.int .i64 (ds.length : Nat)) ∧ w = w' := by
  obtain ⟨x1, x2, x3⟩ := h.b.facts
  have y0 := x1 0
  have hl := h.m.len undM
  rw [List.length_map] at hl
  clear x1 x2 h
  go_enter Try.func16, Try.ntmps16
  go_wp2_with fail
  go_ret
  exact ⟨rfl, rfl⟩
theorem cllen_nil (w : World) : Calls Try.prog 16 #[.pointer none] w fun e w' => e = .returned (.int .i64 0) ∧ w = w' := by
  go_enter Try.func16, Try.ntmps16
  go_wp2
  go_ret
  exact ⟨rfl, rfl⟩
end Go.Proofs.Ytjfmjehacaemcaa
