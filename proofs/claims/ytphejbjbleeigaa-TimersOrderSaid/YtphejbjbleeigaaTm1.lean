/-
  Timers: what they are in memory; New, Len, At, Set, Drop (chapter 13).
-/
import Derived.Test.YtphejbjbleeigaaTmP
import Derived.Test.YtphejbjbleeigaaMpR
import Derived.Test.YtphejbjbleeigaaSeg
import Derived.Laws.StructEq
import Derived.Deep.RegionLaw
namespace Go.Proofs.Ytphejbjbleeigaa
open Go Go.RowKit
set_option linter.unusedVariables false
set_option maxRecDepth 100000
set_option maxHeartbeats 1000000
def encK (k : Int × Int) : Value := .agg #[.int .i64 k.1, .int .u32 k.2]
theorem fieldsKey : Try.prog.underlying 69 = some (.struct (Try.prog.fieldsOf 69)) := by kernel_rfl
theorem notHeldKey : Try.prog.stoodInHeld 69 = false := by kernel_rfl
theorem guardKey : Try.prog.eqGuardType Try.prog.depth 69 = false := by kernel_rfl
theorem ite_key (x y : Prop) [Decidable x] [Decidable y] (w : World) : (if (decide x) = true then (Result.ok (decide y) w : Result Bool) else .ok false w) = .ok (decide (x ∧ y)) w := by
  by_cases h1 : x <;> by_cases h2 : y <;> simp [h1, h2]
theorem run_eqIn_key (d : Nat) (w : World) (x y : Int × Int) : (Op.equalIn (d + 2) 69 (encK x) (encK y)).run Try.prog w = .ok (decide (x = y)) w := by
  have zI := Try.sizeOf3
  have zU := Try.sizeOf22
  obtain ⟨a, b⟩ := x
  obtain ⟨c, e⟩ := y
  unfold encK
  rw [run_equalIn_agg w (d + 1) 69 _ _ fieldsKey notHeldKey]
  simp only [Program.fieldsOf, Try.underlying69]
  go_simp
  by_cases h1 : a = c <;> by_cases h2 : b = e <;> simp [h1, h2]
theorem run_eq_key (w : World) (x y : Int × Int) : (Op.equal 69 (encK x) (encK y)).run Try.prog w = .ok (decide (x = y)) w := run_eqIn_key 9998 w x y
theorem run_eql_key (w : World) (x y : Int × Int) : (binOp .eql 69 (encK x) (encK y)).run Try.prog w = .ok (.bool (decide (x = y))) w := by
  have h := run_eqIn_key 9998 w x y
  unfold encK at *
  rw [run_eql_struct, h]
  rfl
/-- A key with its time, by value. -/
def Du.val (d : Du) : Value := .agg #[.int .i64 d.s, .int .u32 d.b, .int .i64 d.at_]
theorem fieldsDue : Try.prog.underlying 96 = some (.struct (Try.prog.fieldsOf 96)) := by kernel_rfl
theorem notHeldDue : Try.prog.stoodInHeld 96 = false := by kernel_rfl
theorem guardDue : Try.prog.eqGuardType Try.prog.depth 96 = false := by kernel_rfl
theorem run_eqIn_due (w : World) (x y : Du) : (Op.equalIn 10000 96 x.val y.val).run Try.prog w = .ok (decide (x = y)) w := by
  have zI := Try.sizeOf3
  have zK := Try.sizeOf69
  obtain ⟨a, b, z⟩ := x
  obtain ⟨c, e, u⟩ := y
  have hk := run_eqIn_key 9997 w (a, b) (c, e)
  unfold encK at hk
  unfold Du.val
  rw [show (10000 : Nat) = 9999 + 1 from rfl, run_equalIn_agg w 9999 96 _ _ fieldsDue notHeldDue]
  simp only [Program.fieldsOf, Try.underlying96]
  go_simp
  by_cases h1 : a = c <;> by_cases h2 : b = e <;> by_cases h3 : z = u <;> simp [h1, h2, h3]
theorem run_neq_due (w : World) (x y : Du) : (binOp .neq 96 x.val y.val).run Try.prog w = .ok (.bool (!decide (x = y))) w := by
  have h := run_eqIn_due w x y
  unfold Du.val at *
  rw [run_neq_struct, h]
  rfl
theorem keyLaw : KeyE Try.prog 69 encK :=
  KeyE.wide (by kernel_rfl) (fun w em x => by cases em <;> kernel_rfl) run_eq_key
    (fun w x => by simp [Instr.keyThatStays, Instr.sameBits, encK]) (fun x y h => by
      unfold encK at h
      simp only [Value.agg.injEq] at h
      have := congrArg Array.toList h
      simp at this
      exact Prod.ext this.1 this.2)
theorem und168 : Try.prog.underlying 168 = some (.map 69 3) := Try.underlying168
theorem zeroInt (w : World) : (zeroValue 3).run Try.prog w = .ok (.int .i64 0) w := by kernel_rfl
/-- Timers in block bt, their map in block bm. -/
structure Tms (w : World) (bt bm : Nat) (ds : List Du) : Prop where
  b : Blk w bt #[.map (some bm)] 170
  m : MapW encK w bm (ds.map Du.mp)
  ne : bt ≠ bm
theorem Tms.chain {w w' : World} {bt bm : Nat} {ds : List Du} (h : Tms w bt bm ds) (hb : Below w.heap.size w w') : Tms w' bt bm ds := ⟨h.b.below hb h.b.lt, h.m.chain hb, h.ne⟩
theorem Tms.only {w w' : World} {bt bm : Nat} {ds ds' : List Du} {l : List ((Int × Int) × Value)} (h : Tms w bt bm ds) (ho : Only [bm] w w') (hm : MapW encK w' bm l) (hl : l = ds'.map Du.mp) : Tms w' bt bm ds' :=
  ⟨h.b.only ho (by simp [h.ne]), hl ▸ hm, h.ne⟩
theorem Tms.keys {w : World} {bt bm : Nat} {ds : List Du} (h : Tms w bt bm ds) : (ds.map Du.key).Nodup := by
  have := h.m.nodup
  rwa [keys_mp] at this
/-- What a deed leaves: timers in the same blocks. -/
def TmPost (R : Value) (bt bm : Nat) (ds' : List Du) (w : World) (e : Ending) (w' : World) : Prop := e = .returned R ∧ Tms w' bt bm ds' ∧ Only [bm] w w'
theorem tnew_any (w : World) : Calls Try.prog 45 #[] w fun e w' => e = .returned (.pointer (some ⟨w.heap.size + 1, 0, none⟩)) ∧ Tms w' (w.heap.size + 1) w.heap.size [] ∧ Below w.heap.size w w' := by
  have hmm := @run_makeMap Try.prog
  have h1 := (MapW.new encK w).alloc (.cells #[.map (some w.heap.size)] 170)
  have h2 := Blk.new (w.alloc (.map #[] 0)) #[.map (some w.heap.size)] 170
  have hB := Below.chainAlloc (Below.chainAlloc (Below.refl _ w) (.map #[] 0)) (.cells #[.map (some w.heap.size)] 170)
  rw [size_alloc] at h2
  have H := Lib.hid (And.intro h1 (And.intro h2 hB))
  clear h1 h2 hB
  go_enter Try.func45, Try.ntmps45
  go_wp2_with fail
  go_ret
  exact ⟨rfl, ⟨H.out.2.1, H.out.1, by omega⟩, H.out.2.2⟩
theorem tlen_any (bt bm : Nat) (ds : List Du) (w : World) (h : Tms w bt bm ds) : Calls Try.prog 47 #[.pointer (some ⟨bt, 0, none⟩)] w fun e w' => e = .returned (.int .i64 (ds.length : Nat)) ∧ w = w' := by
  obtain ⟨x1, x2, x3⟩ := h.b.facts
  have y0 := x1 0
  have hl := h.m.len und168
  rw [List.length_map] at hl
  clear x1 x2 h
  go_enter Try.func47, Try.ntmps47
  go_wp2_with fail
  go_ret
  exact ⟨rfl, rfl⟩
theorem tlen_nil (w : World) : Calls Try.prog 47 #[.pointer none] w fun e w' => e = .returned (.int .i64 0) ∧ w = w' := by
  go_enter Try.func47, Try.ntmps47
  go_wp2
  go_ret
  exact ⟨rfl, rfl⟩
theorem tat_nil (k : Int × Int) (w : World) : Calls Try.prog 49 #[.pointer none, encK k] w fun e w' => e = .returned (.tuple #[.int .i64 0, .bool false]) ∧ Below w.heap.size w w' := by
  unfold encK
  go_enter Try.func49, Try.ntmps49
  go_wp2
  go_ret2
  exact ⟨rfl, Below.chainAlloc (Below.refl _ _) _⟩
theorem tat_any (k : Int × Int) (bt bm : Nat) (ds : List Du) (w : World) (h : Tms w bt bm ds) :
    Calls Try.prog 49 #[.pointer (some ⟨bt, 0, none⟩), encK k] w fun e w' => e = .returned (.tuple #[.int .i64 ((atD k ds).getD 0), .bool (atD k ds).isSome]) ∧ Below w.heap.size w w' := by
  obtain ⟨a, b⟩ := k
  have hB : Below w.heap.size w (w.alloc (.cells #[.int .i64 a, .int .u32 b] 69)) := Below.chainAlloc (Below.refl _ _) _
  have h' := h.chain hB
  obtain ⟨x1, x2, x3⟩ := h'.b.facts
  have y0 := x1 0
  obtain ⟨z1, _, _⟩ := (Blk.new w #[.int .i64 a, .int .u32 b] 69).facts
  have z0 := z1 0
  have z1 := z1 1
  have hk := h'.m
  have hr : ∀ n, (Instr.lookup 168 (.map (some bm)) (.agg #[.int .i64 a, .int .u32 b]) true).run Try.prog (World.drewN (w.alloc (.cells #[.int .i64 a, .int .u32 b] 69)) n) = .ok (.tuple #[.int .i64 ((atD (a, b) ds).getD 0), .bool (atD (a, b) ds).isSome]) (World.drewN (w.alloc (.cells #[.int .i64 a, .int .u32 b] 69)) n) := fun n => by
    have hk' : MapW encK (World.drewN (w.alloc (.cells #[.int .i64 a, .int .u32 b] 69)) n) bm (ds.map Du.mp) := hk.chain (below_drewN (Below.refl _ _) n)
    have := hk'.look keyLaw und168 (a, b) (zeroInt _) true
    rw [getM_mp] at this
    rw [show encK (a, b) = .agg #[.int .i64 a, .int .u32 b] from rfl] at this
    rw [this]
    cases atD (a, b) ds <;> rfl
  generalize (atD (a, b) ds).getD 0 = z at *
  generalize (atD (a, b) ds).isSome = y at *
  have HB := Lib.hid hB
  clear x1 x2 h h' hk hB
  unfold encK
  dsimp only
  go_enter Try.func49, Try.ntmps49
  go_wp2_with fail
  go_quiet (fail)
  go_wp2_with fail
  go_ret2
  exact ⟨rfl, below_drewN HB.out _⟩
end Go.Proofs.Ytphejbjbleeigaa
