/-
  Blocks that were sent: Wants (chapter 22).
-/
import Derived.Test.YtgfbhclkpephnaaFl3
import Derived.Test.YtgfbhclkpephnaaBits4
namespace Go.Proofs.Ytgfbhclkpephnaa
open Go Go.RowKit
set_option linter.unusedVariables false
set_option linter.unusedSimpArgs false
set_option maxRecDepth 100000
set_option maxHeartbeats 1000000
theorem infoSend : (Try.prog.info? 127).map (fun i => (i.zero, i.size, i.bytes)) = some (some (.agg #[.int .u32 0, .int .i64 0]), 2, 16) := by kernel_rfl
/-- What is to be sent, as cells. -/
def sdC (x : Int) (l : List Int) : List Value := l.flatMap fun i => [.int .u32 x, .int .i64 i]
theorem sdC_snoc (x : Int) (l : List Int) (i : Int) : sdC x (l ++ [i]) = sdC x l ++ [.int .u32 x, .int .i64 i] := by simp [sdC]
theorem flwants_ok (x : Int) (s : List UInt8) (need m cnt j : Int) {w : World} {B bf g off c : Nat} {b z : Int} {L : List FB} (h : FlM w B bf b z (.slice (some ⟨g, off, none⟩) L.length c) L) (i : Nat) (hi : i < L.length) (hx : ahead b x = (i : Int)) (hs : s.length ≤ 1000) (hn : -9223372036854775808 ≤ L[i].n ∧ L[i].n ≤ 9223372036854775807) (hn0 : 0 ≤ need ∧ need ≤ 1000) (hc : cntTo s 256 = cnt) (hm : need - cnt = m) (hm0 : -1000 ≤ m ∧ m ≤ 1000) (hj : mis s L[i].n m = [j]) :
    Calls Try.prog 26 #[.pointer (some ⟨bf, 0, none⟩), .int .u32 x, Str s, .int .i64 need] w fun e w' => ∃ v, e = .returned v ∧ Seg w' w.heap.size 127 2 v 1 [.int .u32 x, .int .i64 j] ∧ Below w.heap.size w w' := by
  obtain ⟨i0, hif, hz0, hz1, hz2⟩ := info_parts infoSend
  have HF := Lib.hid (flfind_ok x h i hi hx)
  have HR : Hid (∀ w', Below w.heap.size w w' → w'.cell? ⟨g, off + i * 3, none⟩ = some (Str L[i].body) ∧ w'.cell? ⟨g, off + i * 3 + 1, none⟩ = some (.int .i64 L[i].n) ∧ w'.cell? ⟨g, off + i * 3 + 2, none⟩ = some (.int .i64 L[i].at')) := Lib.hid fun w' hb => (h.chain hb).row rfl i hi
  generalize L[i] = y at *
  have HC := Lib.hid (fun w' => count_any s (by omega) w')
  rw [hc] at HC
  have HMI : Hid (∀ w', Calls Try.prog 58 #[Str s, .int .i64 y.n, .int .i64 m] w' fun e w'' => ∃ gb ob cap, e = .returned (.slice (some ⟨gb, ob, none⟩) 1 cap) ∧ gb < w''.heap.size ∧ w''.cell? ⟨gb, ob, none⟩ = some (.int .i64 j) ∧ Below w'.heap.size w' w'') := Lib.hid fun w' => by
    refine (missing_any s (by omega) y.n m hn.1 hn.2 (by omega) (by omega) w').mono ?_
    rintro e w'' ⟨a, cap, rfl, hz, hb⟩
    rw [hj] at hz ⊢
    obtain ⟨_, _, _, _, hcells⟩ := hz
    obtain ⟨gb, ob, rfl, hgb, hcell⟩ := hcells.resolve_left (by simp)
    exact ⟨gb, ob, cap, rfl, hgb, by simpa using hcell 0 (by simp), hb⟩
  have hw : wrap64 (need - cnt) = m := by rw [hm]; exact IntWalk.wrap64_in _ (by omega)
  have hnn : max need 0 = need := by omega
  have hwi : IntKind.i64.wrap (need - cnt) = m := by rw [hm]; exact IntWalk.i64_in _ (by clear hw; omega)
  clear h hx hc hm hm0 hn0 hj hn hi hs
  go_enter Try.func26, Try.ntmps26
  go_wp2_with fail
  refine HF.out.mono ?_
  rintro e w1 ⟨rfl, hb⟩
  have HB1 := Lib.hid hb
  have HR1 : Hid (∀ w', Below w1.heap.size w1 w' → (w'.cell? ⟨g, off + i * 3 + 1, none⟩ = some (.int .i64 y.n)) ∧ Below w1.heap.size w1 w') := Lib.hid fun w' hb' => ⟨(HR.out _ (Below.chain hb' HB1.out)).2.1, hb'⟩
  clear hb HR
  go_upto_region 5 with fail
  go_cut [28, 29, 30] (fun v28 v29 v30 wx => ∃ gb ob cpb : Nat, v28 = .slice (some ⟨gb, ob, none⟩) 1 cpb ∧ v29 = .int .i64 1 ∧ v30 = .int .i64 0 ∧ gb < wx.heap.size ∧ wx.cell? ⟨gb, ob, none⟩ = some (.int .i64 j) ∧ Hid (Below w1.heap.size w1 wx))
  case first =>
    go_region_held3 (fun w' => (w'.cell? ⟨g, off + i * 3 + 1, none⟩ = some (.int .i64 y.n)) ∧ Below w1.heap.size w1 w')
      (first
        | exact HR1.out _ (Below.refl _ _).drew
        | exact HR1.out _ (Below.refl _ _)
        | (go_split_ands; exact HR1.out _ (Below.chain hb (by first | assumption | exact (Below.refl _ _).drew | exact Below.refl _ _))))
      ((first
        | (go_at_call 59; refine (HC.out _).mono ?_; rintro e w2 ⟨rfl, hb⟩)
        | (go_at_call 58; refine (HMI.out _).mono ?_; rintro e w3 ⟨gb, ob, cpb, rfl, hgb, hcb, hb⟩)))
    all_goals
      go_wp2_with fail
      go_meet
      exact ⟨gb, ob, cpb, rfl, rfl, rfl, hgb, hcb, Lib.hid (by first | assumption | (go_split_ands; assumption))⟩
  case rest =>
    obtain ⟨gb, ob, cpb, rfl, rfl, rfl, hgb, hcb, HB3⟩ := hcut
    obtain ⟨w3, rfl⟩ : ∃ w3, w3 = wc := ⟨_, rfl⟩
    have HB4 := Lib.hid (Below.chain HB3.out HB1.out)
    have hg1 : ¬ gb = w3.heap.size := by omega
    have HB0 : Hid (w.heap.size ≤ w3.heap.size + 1) := Lib.hid (by have := HB4.out.size; omega)
    have hcn := Lib.hid (cells_new w3 [.int .u32 x, .int .i64 j] 127)
    have HZ : Hid (∀ u ∈ ([.int .u32 x, .int .i64 j] : List Value), u.oneCell' = true) := Lib.hid (by simp [Value.oneCell'])
    have HS0 := Lib.hid (Seg.nil (w3.alloc (.cells #[.int .u32 x, .int .i64 j] 127)) w.heap.size 127 2)
    have HQ : Hid (0 + 1 ≤ maxLen ∧ (0 + 1) * 16 ≤ 140737488355328) := Lib.hid (by unfold maxLen; omega)
    go_wp2_with fail
    go_loopg [10, 12, 30] 1 (fun gk v v12 i wr => (gk = 1 ∧ v = .slice none 0 0 ∧ i = .int .i64 0 ∧ wr = w3) ∨ (gk = 0 ∧ i = .int .i64 1 ∧ Hid (Seg wr w.heap.size 127 2 v 1 [.int .u32 x, .int .i64 j]) ∧ Hid (Below w.heap.size w wr)))
    case atStart => exact .inl ⟨rfl, rfl, rfl, rfl⟩
    case round =>
      rcases hrel with ⟨rfl, rfl, rfl, rfl⟩ | ⟨rfl, rfl, HS, HBW⟩
      · go_wp2_with (at_builtin; refine wpList_append_seg _ rfl (.tmp 34) (.tmp 38) 62 rfl w.heap.size 127 i0 _ 2 16 Try.underlying62 hif hz0 hz1 hz2 rfl (by decide) (.slice none 0 0) 0 [] rfl HS0.out ⟨wr.heap.size, 0, none⟩ 1 1 [.int .u32 x, .int .i64 j] rfl rfl hcn.out HZ.out (by decide) HQ.out.1 HQ.out.2 (by rw [size_alloc]; exact HB0.out) (wr.heap.size + 1) (size_alloc _ _) ?_; intro g4 o4 c4 w4 hown4 hgrow4 hat4; rw [List.nil_append, Nat.zero_add] at hown4; have HO4 := Lib.hid hown4; have HB5 := Lib.hid (Below.only (Below.chainAlloc HB4.out (.cells #[.int .u32 x, .int .i64 j] 127)) (Only.of_grown hgrow4) (by simp [Value.ownBlock])); clear hown4 hgrow4 hat4)
        go_roundg 0
        case measure => omega
        case rel => exact .inr ⟨rfl, rfl, HO4, HB5⟩
      · clear hcb hgb hg1
        go_wp2_with fail
        go_ret
        exact ⟨_, rfl, HS.out, HBW.out⟩
end Go.Proofs.Ytgfbhclkpephnaa
