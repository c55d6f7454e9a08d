/-
  Timers: the document's Drop, Due, Same (chapter 13).
-/
import Derived.Test.YtphejbjbleeigaaTm7
import Derived.Test.YtphejbjbleeigaaSegA
namespace Go.Proofs.Ytphejbjbleeigaa
open Go Go.RowKit
set_option linter.unusedVariables false
set_option maxRecDepth 100000
set_option maxHeartbeats 4000000
theorem atD_snoc {k : Int × Int} {d : Du} : ∀ {xs : List Du}, (atD k (xs ++ [d])).isSome = ((atD k xs).isSome || decide (d.key = k))
  | [] => by by_cases h : d.key = k <;> simp [atD, h]
  | x :: xs => by
    by_cases h : x.key = k
    · simp [atD, h]
    · simp only [List.cons_append, atD, if_neg h]
      exact atD_snoc
theorem dropD_snoc_pos {k : Int × Int} {xs : List Du} {d : Du} (h : d.key = k) : dropD k (xs ++ [d]) = dropD k xs := by simp [dropD, h]
theorem dropD_snoc_neg {k : Int × Int} {xs : List Du} {d : Du} (h : ¬ d.key = k) : dropD k (xs ++ [d]) = dropD k xs ++ [d] := by simp [dropD, h]
theorem dropD_le (k : Int × Int) (xs : List Du) : (dropD k xs).length ≤ xs.length := List.length_filter_le _ _
/-- The answer of Drop. -/
def RDropPost (k : Int × Int) (xs : List Du) (w : World) (e : Ending) (w' : World) : Prop :=
  ∃ v', e = .returned (.tuple #[v', .bool (atD k xs).isSome]) ∧ Seg w' w.heap.size 96 3 v' (dropD k xs).length (duS (dropD k xs)) ∧ Below w.heap.size w w'
theorem rdrop13_any (k : Int × Int) (base : Nat) (v : Value) (xs : List Du) (w : World) (hs : Seg w base 96 3 v xs.length (duS xs)) (hl : xs.length ≤ 1000) :
    Calls Try.prog 96 #[v, encK k] w (RDropPost k xs w) := by
  obtain ⟨i0, hi, hz0, hz1, hz2⟩ := info_parts infoDue
  obtain ⟨ka, kb⟩ := k
  obtain ⟨ao, cap, rfl⟩ := hs.form
  have hB := Below.chainAlloc (Below.refl _ w) (.cells #[.int .i64 ka, .int .u32 kb] 69)
  have hkb := Blk.new w #[.int .i64 ka, .int .u32 kb] 69
  have HS := Lib.hid hs
  have HB := Lib.hid hB
  have HKB := Lib.hid hkb
  have hmx : xs.length ≤ 9223372036854775807 := by omega
  obtain ⟨B, hBB⟩ : ∃ B, w.heap.size = B := ⟨_, rfl⟩
  have HBB := Lib.hid hBB
  rw [hBB] at HKB
  unfold encK
  dsimp only
  clear hs hB hkb hBB
  go_enter Try.func96, Try.ntmps96
  go_wp2_with fail
  rw [HBB.out]
  go_loopw [6, 7, 8] (fun v6 v7 i wr => ∃ (j : Nat) (ys : List Du) (y : Bool), j ≤ xs.length ∧ i = .int .i64 j ∧ v7 = .bool y ∧ ys.length ≤ j ∧ Hid (ys = dropD (ka, kb) (xs.take j)) ∧ Hid (y = (atD (ka, kb) (xs.take j)).isSome) ∧ Hid (Seg wr (B + 1) 96 3 v6 ys.length (duS ys)) ∧ Hid (Blk wr B #[.int .i64 ka, .int .u32 kb] 69) ∧ Hid (Below w.heap.size w wr)) (fun _ _ i _ => xs.length - (intOf i).toNat)
  case atStart => exact ⟨0, [], false, Nat.zero_le _, rfl, rfl, Nat.le_refl _, Lib.hid rfl, Lib.hid rfl, Lib.hid (Seg.nil _ _ _ _), HKB, HB⟩
  case round =>
    clear HKB HB
    obtain ⟨j, ys, y, hj, rfl, rfl, hyl, HY, HYY, HSG, HKB, HB⟩ := hrel
    obtain ⟨ax, cx, rfl⟩ := HSG.out.form
    by_cases hlt : j < xs.length
    · have hsg := HS.out.chain HB.out
      obtain ⟨g, off, _, e, hgb, hgw, _⟩ := hsg.shape (by omega)
      cases e
      obtain ⟨c0, c1, c2⟩ := hsg.du hlt
      have z0 := HKB.out.facts.1 0
      have z1 := HKB.out.facts.1 1
      have hji : (j : Int) < (xs.length : Int) := by omega
      have htk := List.take_succ_eq_append_getElem hlt
      obtain ⟨d, hd⟩ : ∃ d, xs[j] = d := ⟨_, rfl⟩
      rw [hd] at c0 c1 c2 htk
      have HLT := Lib.hid hlt
      have HTK := Lib.hid htk
      obtain ⟨a, b, z⟩ := d
      dsimp only at c0 c1 c2
      have hg1 := fun x y w => run_eqGuard_agg (P := Try.prog) w .eql 69 x y #[.int .i64 a, .int .u32 b] #[.int .i64 ka, .int .u32 kb] guardKey
      have he := fun w => run_eql_key w (a, b) (ka, kb)
      unfold encK at he
      dsimp only at he
      clear htk hd hsg hlt
      by_cases hk : a = ka ∧ b = kb
      · obtain ⟨rfl, rfl⟩ := hk
        have HY2 : Hid (ys = dropD (a, b) (xs.take (j + 1))) := Lib.hid (by rw [HTK.out, dropD_snoc_pos (k := (a, b)) (d := ⟨a, b, z⟩) rfl]; exact HY.out)
        have HYY2 : Hid (true = (atD (a, b) (xs.take (j + 1))).isSome) := Lib.hid (by rw [HTK.out, atD_snoc]; simp [Du.key])
        rw [decide_eq_true rfl] at he
        go_upto_region 6 with fail
        go_quiet (fail)
        have HB2 := Lib.hid (below_drewN HB.out nq)
        have HKB2 : Hid (Blk (wr.drewN nq) B #[.int .i64 a, .int .u32 b] 69) := Lib.hid HKB.out
        have HSG2 : Hid (Seg (wr.drewN nq) (B + 1) 96 3 (.slice ax ys.length cx) ys.length (duS ys)) := Lib.hid HSG.out
        clear z0 z1 hg1 he HKB HB HSG c0 c1 c2 HY HYY
        generalize wr.drewN nq = w5 at *
        go_wp2_with fail
        go_roundw
        case measure => have := HLT.out; simp [intOf]; omega
        case rel => exact ⟨j + 1, ys, true, HLT.out, by go_num, rfl, by omega, HY2, HYY2, HSG2, HKB2, HB2⟩
      · have hk' : ¬ (a, b) = (ka, kb) := fun e => hk (by cases e; exact ⟨rfl, rfl⟩)
        have HY2 : Hid (ys ++ [⟨a, b, z⟩] = dropD (ka, kb) (xs.take (j + 1))) := Lib.hid (by rw [HTK.out, dropD_snoc_neg (k := (ka, kb)) (d := ⟨a, b, z⟩) hk', HY.out])
        have HYY2 : Hid (y = (atD (ka, kb) (xs.take (j + 1))).isSome) := Lib.hid (by rw [HTK.out, atD_snoc, HYY.out]; simp [Du.key, hk'])
        rw [decide_eq_false hk'] at he
        clear hk'
        go_upto_region 6 with fail
        go_quiet (fail)
        have HB2 := Lib.hid (below_drewN HB.out nq)
        have HKB2 : Hid (Blk (wr.drewN nq) B #[.int .i64 ka, .int .u32 kb] 69) := Lib.hid HKB.out
        have HSG2 : Hid (Seg (wr.drewN nq) (B + 1) 96 3 (.slice ax ys.length cx) ys.length (duS ys)) := Lib.hid HSG.out
        have c0' : (wr.drewN nq).cell? ⟨g, off + j * 3, none⟩ = some (.int .i64 a) := c0
        have c1' : (wr.drewN nq).cell? ⟨g, off + j * 3 + 1, none⟩ = some (.int .u32 b) := c1
        have c2' : (wr.drewN nq).cell? ⟨g, off + j * 3 + 2, none⟩ = some (.int .i64 z) := c2
        clear z0 z1 hg1 he HKB HB HSG c0 c1 c2 HY HYY
        generalize wr.drewN nq = w5 at *
        have HCN := Lib.hid (cells_new w5 (duC ⟨a, b, z⟩) 96)
        have HBW : Hid (B + 1 ≤ w5.heap.size) := Lib.hid HKB2.out.lt
        obtain ⟨q1, q2⟩ : ys.length + 1 ≤ maxLen ∧ (ys.length + 1) * 24 ≤ 140737488355328 := by
          unfold maxLen
          omega
        go_wp2_with (at_builtin; refine wpList_append_seg _ rfl (.tmp 22) (.tmp 27) 99 rfl (B + 1) 96 i0 _ 3 24 Try.underlying99 hi hz0 hz1 hz2 rfl (by decide) (.slice ax ys.length cx) ys.length (duS ys) rfl (HSG2.out.alloc _) ⟨w5.heap.size, 0, none⟩ 1 1 (duC ⟨a, b, z⟩) rfl rfl HCN.out (by simp [duC, Value.oneCell']) (by decide) q1 q2 (by simp; have := HBW.out; omega) (w5.heap.size + 1) (by simp) ?_; intro g' off' cap' w6 hown hgrow hat)
        have hO5 : Only (Value.slice ax ys.length cx).ownBlock.toList w5 w6 := Only.grown ((Only.refl _ _).alloc _) hgrow (fun x hx => .inl (by simp [hx]))
        have HKB6 := Lib.hid (HKB2.out.only hO5 (fun hm => by
          have := (HSG2.out.blk B (by simpa using hm)).1
          omega))
        have HB6 : Hid (Below w.heap.size w w6) := Lib.hid (Below.only HB2.out hO5 (fun x hx => by
          have := (HSG2.out.blk x (by simpa using hx)).1
          have := HBB.out
          omega))
        have HOW := Lib.hid hown
        clear hown hgrow hat hO5 HKB2 HB2 HSG2 HCN c0' c1' c2'
        go_roundw
        case measure => have := HLT.out; simp [intOf]; omega
        case rel => exact ⟨j + 1, ys ++ [⟨a, b, z⟩], y, HLT.out, by go_num, rfl, by rw [List.length_append, List.length_singleton]; omega, HY2, HYY2, Lib.hid (by rw [List.length_append, List.length_singleton, duS_snoc]; exact HOW.out), HKB6, HB6⟩
    · obtain rfl : j = xs.length := by omega
      have hlt' : ¬ (xs.length : Int) < (xs.length : Int) := by omega
      rw [List.take_length] at HY HYY
      go_wp2_with fail
      go_ret2
      refine ⟨.slice ax ys.length cx, ?_, ?_, HB.out⟩
      · rw [← HYY.out]
        rfl
      · rw [← HY.out]
        exact HSG.out.le (by have := HBB.out; omega)
end Go.Proofs.Ytphejbjbleeigaa
