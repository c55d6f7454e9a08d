/-
  Rows of bytes: the document's multiples and sums; the program's sum with a multiple: contracts (chapters 2, 3).
-/
import Derived.Test.YtibilabhokkhmaaMx1
namespace Go.Proofs.Ytibilabhokkhmaa
open Go.RowKit
set_option linter.unusedVariables false
set_option maxRecDepth 100000
set_option maxHeartbeats 1000000
def RowPostOf (w : World) (bs : List Nat) (e : Ending) (w' : World) : Prop := ∃ v, e = .returned v ∧ RowAt 0 w' v bs ∧ Below w.heap.size w w'
theorem u8s_take_snoc (l : List Nat) (m : Nat) (h : m < l.length) : u8s (l.take (m + 1)) = u8s (l.take m) ++ [.int .u8 (l[m] : Nat)] := by
  rw [List.take_succ_eq_append_getElem h]
  unfold u8s
  rw [List.map_append]
  rfl
theorem RowAt.of_seg {w : World} {base n : Nat} {v : Value} {bs : List Nat} (h : Seg w base 5 1 v n (u8s bs)) (hb : ∀ x ∈ bs, x < 256) : RowAt 0 w v bs := ⟨SlAt.of_seg h, hb⟩
theorem rscale_any (c : Nat) (hc : c < 256) (B : Nat) (v : Value) (bs : List Nat) (hn : bs.length ≤ 65536) (w : World) (h : RowAt B w v bs) : Calls Try.prog 69 #[.int .u8 c, v] w (RowPostOf w (scaleL c bs)) := by
  have h0 := h
  obtain ⟨a, cap, rfl, _⟩ := h.at
  clear h
  obtain ⟨i0, hi, hz0, hz1, hz2⟩ := info_parts infoU8
  go_enter Try.func69, Try.ntmps69
  go_wp2_with fail
  go_loopw [5, 6] (fun ov i wr => ∃ m : Nat, m ≤ bs.length ∧ i = .int .i64 m ∧ Seg wr w.heap.size 5 1 ov m (u8s ((scaleL c bs).take m)) ∧ Below w.heap.size w wr) (fun _ i _ => bs.length - (intOf i).toNat)
  case atStart => exact ⟨0, by omega, rfl, Seg.nil _ _ _ _, Below.refl _ _⟩
  case round =>
    obtain ⟨m, hm, rfl, hs, hB⟩ := hrel
    obtain ⟨ao, co, rfl⟩ := hs.form
    by_cases hlt : m < bs.length
    · have hx := h0.2 bs[m] (by simp)
      have hsn := u8s_take_snoc (scaleL c bs) m (by rw [scaleL_length]; exact hlt)
      rw [show (scaleL c bs)[m]'(by rw [scaleL_length]; exact hlt) = gm c bs[m] by simp [scaleL]] at hsn
      have HSN := Lib.hid hsn
      obtain ⟨_, _, e, hc'⟩ := (h0.chain hB).at
      cases e
      obtain ⟨g, off, rfl, hg, hck⟩ := hc' m hlt
      have hbz : w.heap.size ≤ wr.heap.size := hB.size
      clear hc' hsn
      generalize bs[m] = x at *
      generalize u8s ((scaleL c bs).take m) = us at *
      go_wp2_with fail
      refine (rmul_any c x hc hx _).mono ?_
      rintro z w1 ⟨rfl, rfl⟩
      go_wp2_with (at_builtin; refine wpList_append_seg _ rfl (.tmp 13) (.tmp 20) 24 rfl w.heap.size 5 i0 _ 1 1 Try.underlying24 hi hz0 hz1 hz2 rfl (by decide) (.slice ao m co) m us rfl (hs.alloc _) ⟨wr.heap.size, 0, none⟩ 1 1 [.int .u8 (gm c x : Nat)] rfl rfl (cells_new _ _ _) (by simp [Value.oneCell']) (by decide) (by unfold maxLen; omega) (by omega) (by simp; omega) (wr.heap.size + 1) (size_alloc _ _) ?_; intro g' off' cap' w3 hown hgrow hat)
      have hbb := Below.only (Below.chainAlloc hB _) (Only.of_grown hgrow) (fun x hm => (hs.blk x (by simpa using hm)).1)
      clear hgrow hat hs hB
      go_wp2_with fail
      go_roundw
      case rel => exact ⟨m + 1, by omega, by go_num, by rw [HSN.out]; exact hown, hbb⟩
      case measure => simp [intOf]; omega
    · obtain rfl : m = bs.length := by omega
      rw [List.take_of_length_le (by rw [scaleL_length]; exact Nat.le_refl _)] at hs
      have hr := RowAt.of_seg hs (scaleL_lt c bs)
      have HP : Hid (RowPostOf w (scaleL c bs) (.returned (.slice ao bs.length co)) wr) := ⟨_, rfl, hr, hB⟩
      have hlt' : ¬ (bs.length : Int) < (bs.length : Int) := by omega
      clear hs hr
      go_wp2_with fail
      go_ret
      exact HP.out
def lenE (a b : List Nat) : Int := if a.length = b.length then 0 else 16
def addV (a b : List Nat) : List Nat := if a.length = b.length then addL a b else []
def AddPost (w : World) (a b : List Nat) (e : Ending) (w' : World) : Prop := ∃ v, e = .returned (.tuple #[v, .int .i64 (lenE a b)]) ∧ RowAt 0 w' v (addV a b) ∧ Below w.heap.size w w'
theorem AddPost.no {w w' : World} {a b : List Nat} (h : a.length ≠ b.length) (hb : Below w.heap.size w w') : AddPost w a b (.returned (.tuple #[.slice none 0 0, .int .i64 16])) w' :=
  ⟨_, by unfold lenE; rw [if_neg h], by unfold addV; rw [if_neg h]; exact RowAt.nil _ _, hb⟩
theorem AddPost.yes {w w' : World} {a b : List Nat} {v : Value} (h : a.length = b.length) (hr : RowAt 0 w' v (addL a b)) (hb : Below w.heap.size w w') : AddPost w a b (.returned (.tuple #[v, .int .i64 0])) w' :=
  ⟨_, by unfold lenE; rw [if_pos h], by unfold addV; rw [if_pos h]; exact hr, hb⟩
theorem radd_any (B : Nat) (va vb : Value) (xs ys : List Nat) (hn : xs.length ≤ 65536) (w : World) (ha : RowAt B w va xs) (hb : RowAt B w vb ys) : Calls Try.prog 74 #[va, vb] w (AddPost w xs ys) := by
  have ha0 := ha
  have hb0 := hb
  have hma := ha.max
  have hmb := hb.max
  obtain ⟨aa, ca, rfl, hca⟩ := ha.at
  obtain ⟨ab, cb, rfl, hcb⟩ := hb.at
  clear ha hb
  by_cases hlen : xs.length = ys.length
  · have hl : ((xs.length : Int) != (ys.length : Int)) = false := by simp [hlen]
    have HL := Lib.hid hlen
    have HCA := Lib.hid hca
    have HCB := Lib.hid hcb
    have HLT := Lib.hid (addL_lt xs ys ha0.2 hb0.2)
    have HLN := Lib.hid (addL_length xs ys hlen)
    obtain ⟨i0, hi, hz0, hz1, hz2⟩ := info_parts infoU8
    clear hlen hca hcb
    go_enter Try.func74, Try.ntmps74
    go_wp2_with fail
    clear hl
    go_loopw [6, 7] (fun ov i wr => ∃ m : Nat, m ≤ xs.length ∧ i = .int .i64 m ∧ Seg wr w.heap.size 5 1 ov m (u8s ((addL xs ys).take m)) ∧ Below w.heap.size w wr) (fun _ i _ => xs.length - (intOf i).toNat)
    case atStart => exact ⟨0, by omega, rfl, Seg.nil _ _ _ _, Below.refl _ _⟩
    case round =>
      obtain ⟨m, hm, rfl, hs, hB⟩ := hrel
      obtain ⟨ao, co, rfl⟩ := hs.form
      by_cases hlt : m < xs.length
      · have hlt2 : m < ys.length := by rw [← HL.out]; exact hlt
        have hx := ha0.2 xs[m] (by simp)
        have hy := hb0.2 ys[m] (by simp)
        have hsn := u8s_take_snoc (addL xs ys) m (by rw [HLN.out]; exact hlt)
        rw [show (addL xs ys)[m]'(by rw [HLN.out]; exact hlt) = xs[m] ^^^ ys[m] by simp [addL]] at hsn
        have HSN := Lib.hid hsn
        obtain ⟨g1, o1, rfl, hg1, c1⟩ := HCA.out m hlt
        obtain ⟨g2, o2, rfl, hg2, c2⟩ := HCB.out m hlt2
        have hbz : w.heap.size ≤ wr.heap.size := hB.size
        have hxx := u8_xor_nat xs[m] ys[m] hx hy
        have hmk : ∀ w', Only (Value.slice ao m co).ownBlock.toList wr w' → (w'.cell? ⟨g1, o1 + m, none⟩ = some (.int .u8 (xs[m] : Nat)) ∧ w'.cell? ⟨g2, o2 + m, none⟩ = some (.int .u8 (ys[m] : Nat)) ∧ Only (Value.slice ao m co).ownBlock.toList wr w') := fun w' ho => by
          have hb2 := Below.only hB ho (fun x hm => (hs.blk x (by simpa using hm)).1)
          exact ⟨(hb2.cell (p := ⟨g1, _, none⟩) hg1).trans c1, (hb2.cell (p := ⟨g2, _, none⟩) hg2).trans c2, ho⟩
        have HMK := Lib.hid hmk
        clear hsn c1 c2 hmk
        generalize xs[m] = x at *
        generalize ys[m] = y at *
        generalize u8s ((addL xs ys).take m) = us at *
        go_wp2_with fail
        go_region_held3 (fun w' => w'.cell? ⟨g1, o1 + m, none⟩ = some (.int .u8 (x : Nat)) ∧ w'.cell? ⟨g2, o2 + m, none⟩ = some (.int .u8 (y : Nat)) ∧ Only (Value.slice ao m co).ownBlock.toList wr w')
          (first
            | exact HMK.out _ (Only.refl _ _).drew
            | (go_split_ands; first
                | exact HMK.out _ (Only.alloc (by assumption) _)
                | exact HMK.out _ (by assumption)))
          ((refine step_append_seg _ (by rfl) (.tmp 19) (.tmp 29) 24 (by rfl) w.heap.size 5 i0 _ 1 1 Try.underlying24 hi hz0 hz1 hz2 rfl (by decide) (.slice ao m co) m us (by rfl) (hs.drew.alloc _) ⟨wr.heap.size, 0, none⟩ 1 1 [.int .u8 ((x ^^^ y : Nat) : Int)] ?_ rfl (cells_new _ _ _) (by simp [Value.oneCell']) (by decide) (by unfold maxLen; omega) (by omega) (by simp; omega) (wr.heap.size + 1) (size_alloc _ _) ?_; (rfl); intro g' off' cap' w3 hown hgrow hat; have hO : Only (Value.slice ao m co).ownBlock.toList wr w3 := (by first | exact Only.grown (Only.drew (Only.alloc (Only.refl _ wr) _)) hgrow (fun x hx => .inl (by rw [hx]; simp)) | exact Only.grown (Only.alloc (Only.drew (Only.refl _ wr)) _) hgrow (fun x hx => .inl (by rw [hx]; simp))); clear hgrow hat))
        have hbb := Below.only hB hO (fun x hm => (hs.blk x (by simpa using hm)).1)
        clear hs hB hO hxx
        go_wp2_with fail
        go_roundw
        case rel => exact ⟨m + 1, by omega, by go_num, by rw [HSN.out]; exact hown, hbb⟩
        case measure => simp [intOf]; omega
      · obtain rfl : m = xs.length := by omega
        rw [List.take_of_length_le (by rw [HLN.out]; exact Nat.le_refl _)] at hs
        have HP : Hid (AddPost w xs ys (.returned (.tuple #[.slice ao xs.length co, .int .i64 0])) wr) := AddPost.yes HL.out (RowAt.of_seg hs HLT.out) hB
        have hlt' : ¬ (xs.length : Int) < (xs.length : Int) := by omega
        clear hs
        go_wp2_with fail
        go_ret2
        exact HP.out
  · have HP : Hid (AddPost w xs ys (.returned (.tuple #[.slice none 0 0, .int .i64 16])) w) := AddPost.no hlen (Below.refl _ _)
    have hl : ((xs.length : Int) != (ys.length : Int)) = true := by simp; omega
    clear hlen
    go_enter Try.func74, Try.ntmps74
    go_wp2_with fail
    go_ret2
    exact HP.out
end Go.Proofs.Ytibilabhokkhmaa
