/-
  Merged: Rows of bytes: multiples, sums: the program's and the document's: contracts (chapters 2, 3). | Rows of bytes: the document's multiples and sums; the program's sum with a multiple: contracts (chapters 2, 3). | Rows of bytes: a row and a multiple of another one: the program's and the document's; whether a table may be; the identity; contracts (chapters 2, 3). | Tables of bytes: whether one may be, the identity, copies, whether one is not too great: the program's and the document's: contracts (chapter 3). | Tables of bytes: the identity, copies, whether one is not too great: contracts (chapter 3). | A region that draws its order, holds loads and calls, and stores into cells that it loads: 'S0' holds all along, 'S1' (those cells) till the first store. For whatever program. | Tables of bytes: what is looked for, exchanged: plain, and the program's contracts (chapter 3). | Tables of bytes: the row that is looked for: the program's contract (chapter 3).
-/
import Derived.Test.YtnmlmpffmjhihaaGreatMC
import Derived.Laws.CopyOwn
import Derived.Test.YtnmlmpffmjhihaaGreatMA
import Derived.OrdersHeld
import Derived.Deep.RegionHeld3
namespace Go.Proofs.YtnmlmpffmjhihaaGreat
open Go.RowKit
set_option linter.unusedVariables false
set_option maxRecDepth 100000
set_option maxHeartbeats 1000000
def scaleL (c : Nat) (v : List Nat) : List Nat := v.map (gm c)
def addL (a b : List Nat) : List Nat := List.zipWith (fun x y => x ^^^ y) a b
def mulAddL (a : List Nat) (c : Nat) (b : List Nat) : List Nat := addL a (scaleL c b)
theorem scaleL_length (c : Nat) (v : List Nat) : (scaleL c v).length = v.length := by simp [scaleL]
theorem scaleL_lt (c : Nat) (v : List Nat) : ∀ x ∈ scaleL c v, x < 256 := fun x hx => by
  obtain ⟨y, _, rfl⟩ := List.mem_map.1 hx
  exact gm_lt c y
theorem scaleL_zero (v : List Nat) : scaleL 0 v = List.replicate v.length 0 := by
  unfold scaleL
  apply List.ext_getElem
  · simp
  · intro i h1 h2
    simp [gm_zero_left]
theorem scaleL_one (v : List Nat) (h : ∀ x ∈ v, x < 256) : scaleL 1 v = v := by
  unfold scaleL
  conv => rhs; rw [← List.map_id v]
  exact List.map_congr_left fun x hx => gm_one_left x (h x hx)
theorem addL_length (a b : List Nat) (h : a.length = b.length) : (addL a b).length = a.length := by simp [addL, h]
theorem addL_lt (a b : List Nat) (ha : ∀ x ∈ a, x < 256) (hb : ∀ x ∈ b, x < 256) : ∀ x ∈ addL a b, x < 256 := fun x hx => by
  unfold addL at hx
  obtain ⟨i, hi, rfl⟩ := List.mem_iff_getElem.1 hx
  rw [List.getElem_zipWith]
  exact nat_xor_lt (ha _ (by simp)) (hb _ (by simp))
/-- The scaled row, so far. -/
def scaleSo (c : Nat) (v : List Nat) (m : Nat) : List Nat := (scaleL c v).take m ++ (List.replicate v.length 0).drop m
theorem scaleSo_zero (c : Nat) (v : List Nat) : scaleSo c v 0 = List.replicate v.length 0 := by simp [scaleSo]
theorem scaleSo_end (c : Nat) (v : List Nat) : scaleSo c v v.length = scaleL c v := by
  unfold scaleSo
  rw [List.take_of_length_le (by rw [scaleL_length]; exact Nat.le_refl _), List.drop_of_length_le (by simp), List.append_nil]
theorem scaleSo_length (c : Nat) (v : List Nat) (m : Nat) (h : m ≤ v.length) : (scaleSo c v m).length = v.length := by
  unfold scaleSo
  simp [scaleL_length]
  omega
theorem scaleSo_set (c : Nat) (v : List Nat) (m : Nat) (h : m < v.length) : (scaleSo c v m).set m (gm c v[m]) = scaleSo c v (m + 1) := by
  have := set_take (scaleL c v) (List.replicate v.length 0) m (by rw [scaleL_length]; exact h) (by simp [scaleL_length])
  unfold scaleSo
  rw [← this]
  congr 1
  simp [scaleL]
theorem scale_any (c : Nat) (hc : c < 256) (B : Nat) (v : Value) (bs : List Nat) (hn : bs.length ≤ 65536) (w : World) (h : RowAt B w v bs) : Calls Tryz.prog 105 #[.int .u8 c, v] w fun e w' =>
    e = .returned (.slice (some ⟨w.heap.size, 0, none⟩) bs.length bs.length) ∧ OwnB w' w.heap.size 0 (scaleL c bs) ∧ Below w.heap.size w w' := by
  have h0 := h
  have hmx := h.max
  obtain ⟨a, cap, rfl, hcell⟩ := h.at
  have hmk := mk_u8 bs.length (by omega)
  clear h
  by_cases c0 : c = 0
  · subst c0
    have HZ := Lib.hid (scaleL_zero bs)
    clear hcell
    go_enter Tryz.func105, Tryz.ntmps105
    go_wp2_with fail
    go_ret
    refine ⟨rfl, ?_, Below.chainAlloc (Below.refl _ _) _⟩
    rw [HZ.out]
    exact OwnB.new _ _
  · have hc0 : ((c : Int) == 0) = false := by simp; omega
    by_cases c1 : c = 1
    · subst c1
      have HO := Lib.hid (scaleL_one bs h0.2)
      clear c0 hcell
      have hsrc : 0 < (u8s bs).length → (some (⟨w.heap.size, 0, none⟩ : Addr)) = some ⟨w.heap.size, 0, none⟩ ∧ ∃ ad, a = some ad ∧ ∀ j v, (u8s bs)[j]? = some v → (w.alloc (.cells (u8s (List.replicate bs.length 0)).toArray 5)).cell? (ad.add j) = some v := fun hp => by
        obtain ⟨_, _, e, hc⟩ := ((h0.chain (Below.chainAlloc (Below.refl _ _) (.cells (u8s (List.replicate bs.length 0)).toArray 5)))).at
        cases e
        rw [u8s_length] at hp
        obtain ⟨g, off, rfl, _, _⟩ := hc 0 hp
        refine ⟨rfl, _, rfl, fun j u hu => ?_⟩
        obtain ⟨hj, rfl⟩ := List.getElem?_eq_some_iff.1 hu
        rw [u8s_length] at hj
        obtain ⟨g', off', e', _, hcj⟩ := hc j hj
        cases e'
        have ea : (⟨g, off, none⟩ : Addr).add j = ⟨g, off + j, none⟩ := by unfold Addr.add; split <;> simp_all
        rw [ea, hcj]
        simp [u8s]
      have HSRC := Lib.hid hsrc
      have hszz : (Tryz.prog.info? 5).map (·.size) = some 1 := by kernel_rfl
      have hblk : (w.alloc (.cells (u8s (List.replicate bs.length 0)).toArray 5)).heap[w.heap.size]? = some (.cells (u8s (List.replicate bs.length 0)).toArray 5 (0, 0)) := Blk.new w _ _
      have HB := Lib.hid hblk
      have hone : ∀ u ∈ u8s bs, u.oneCell' = true := fun u hu => by
        obtain ⟨x, _, rfl⟩ := List.mem_map.1 hu
        rfl
      have hb255 := h0.2
      have HONE := Lib.hid hone
      have HB255 := Lib.hid hb255
      clear hsrc hblk hone hb255
      go_enter Tryz.func105, Tryz.ntmps105
      go_wp2_with (go_loud (refine wpList_copy_splice rfl (.tmp 17) (.tmp 18) 120 120 rfl 5 Tryz.underlying120 hszz (some ⟨w.heap.size, 0, none⟩) a bs.length bs.length bs.length cap rfl rfl w.heap.size 0 (u8s (List.replicate bs.length 0)) 5 HB.out (u8s bs) ?c1 HSRC.out ?c2 HONE.out w.heap.size w (Below.chainAlloc (Below.refl _ _) _) (Nat.le_refl _) ?_; (case c1 => rw [u8s_length]; exact (Nat.min_self _).symm); (case c2 => rw [u8s_length, u8s_length]; simp); intro w' hg' hb'))
      go_outline
      go_wp2_with fail
      go_ret
      refine ⟨rfl, ?_, hb'⟩
      rw [HO.out]
      have hk : Blk w' w.heap.size (u8s bs).toArray 5 := by
        have := hg'.out
        unfold splice at this
        rw [List.take_zero, List.nil_append, Nat.zero_add, List.drop_of_length_le (by simp [u8s_length]), List.append_nil] at this
        exact this
      exact ⟨OwnV.of_blk hk, HB255.out⟩
    · have hc1 : ((c : Int) == 1) = false := by simp; omega
      clear c0 c1 hcell
      go_enter Tryz.func105, Tryz.ntmps105
      go_wp2_with fail
      clear hmk hc0 hc1
      have hb := OwnB.new w bs.length
      have hB := Below.chainAlloc (Below.refl w.heap.size w) (.cells (u8s (List.replicate bs.length 0)).toArray 5)
      generalize w.alloc (.cells (u8s (List.replicate bs.length 0)).toArray 5) = W at *
      go_loopw [6, 7, 23] (fun _ _ i wr => ∃ m : Nat, m ≤ bs.length ∧ i = .int .i64 m ∧ OwnB wr w.heap.size 0 (scaleSo c bs m) ∧ Below w.heap.size w wr) (fun _ _ i _ => bs.length - (intOf i).toNat)
      case atStart => exact ⟨0, by omega, rfl, by rw [scaleSo_zero]; exact hb, hB⟩
      case round =>
        clear hb hB
        obtain ⟨m, hm, rfl, hb, hB⟩ := hrel
        by_cases hlt : m < bs.length
        · have hx := h0.2 bs[m] (by simp)
          have hst := hb.store m (gm c bs[m]) (by rw [scaleSo_length c bs m hm]; exact hlt) (gm_lt _ _)
          rw [scaleSo_set c bs m hlt, Nat.zero_add] at hst
          have HST := Lib.hid hst
          have hrd := hb.read m (by rw [scaleSo_length c bs m hm]; exact hlt)
          rw [Nat.zero_add] at hrd
          have hfr := hb.1.free m
          obtain ⟨_, _, e, hc'⟩ := (h0.chain hB).at
          cases e
          obtain ⟨g, off, rfl, hg, hck⟩ := hc' m hlt
          have hl := hb.1.lt
          clear hc' hst hb
          generalize bs[m] = x at *
          generalize (scaleSo c bs m)[m]'_ = y at *
          go_wp2_with fail
          refine (mul_any c x hc hx _).mono ?_
          rintro z w1 ⟨rfl, rfl⟩
          go_wp2_with fail
          go_roundw
          case rel => exact ⟨m + 1, by omega, by go_num, HST.out, hB.setCell (Nat.le_refl _) _⟩
          case measure => simp [intOf]; omega
        · obtain rfl : m = bs.length := by omega
          rw [scaleSo_end] at hb
          go_wp2_with fail
          go_ret
          exact ⟨rfl, hb, hB⟩
end Go.Proofs.YtnmlmpffmjhihaaGreat
namespace Go.Proofs.YtnmlmpffmjhihaaGreat
open Go.RowKit
set_option linter.unusedVariables false
set_option maxRecDepth 100000
set_option maxHeartbeats 1000000
def RowPostOf (w : World) (bs : List Nat) (e : Ending) (w' : World) : Prop := ∃ v, e = .returned v ∧ RowAt 0 w' v bs ∧ Below w.heap.size w w'
theorem u8s_take_snoc (l : List Nat) (m : Nat) (h : m < l.length) : u8s (l.take (m + 1)) = u8s (l.take m) ++ [.int .u8 (l[m] : Nat)] := by
  rw [List.take_succ_eq_append_getElem h]
  unfold u8s
  rw [List.map_append]
  rfl
theorem RowAt.of_seg {w : World} {base n : Nat} {v : Value} {bs : List Nat} (h : Seg w base 5 1 v n (u8s bs)) (hb : ∀ x ∈ bs, x < 256) : RowAt 0 w v bs := ⟨SlAt.of_seg h, hb⟩
def lenE (a b : List Nat) : Int := if a.length = b.length then 0 else 16
def addV (a b : List Nat) : List Nat := if a.length = b.length then addL a b else []
def AddPost (w : World) (a b : List Nat) (e : Ending) (w' : World) : Prop := ∃ v, e = .returned (.tuple #[v, .int .i64 (lenE a b)]) ∧ RowAt 0 w' v (addV a b) ∧ Below w.heap.size w w'
theorem AddPost.no {w w' : World} {a b : List Nat} (h : a.length ≠ b.length) (hb : Below w.heap.size w w') : AddPost w a b (.returned (.tuple #[.slice none 0 0, .int .i64 16])) w' :=
  ⟨_, by unfold lenE; rw [if_neg h], by unfold addV; rw [if_neg h]; exact RowAt.nil _ _, hb⟩
theorem AddPost.yes {w w' : World} {a b : List Nat} {v : Value} (h : a.length = b.length) (hr : RowAt 0 w' v (addL a b)) (hb : Below w.heap.size w w') : AddPost w a b (.returned (.tuple #[v, .int .i64 0])) w' :=
  ⟨_, by unfold lenE; rw [if_pos h], by unfold addV; rw [if_pos h]; exact hr, hb⟩
end Go.Proofs.YtnmlmpffmjhihaaGreat
namespace Go.Proofs.YtnmlmpffmjhihaaGreat
open Go.RowKit
set_option linter.unusedVariables false
set_option maxRecDepth 100000
set_option maxHeartbeats 1000000
/-- The sum, so far. -/
def addSo (a b : List Nat) (m : Nat) : List Nat := (addL a b).take m ++ b.drop m
theorem addSo_zero (a b : List Nat) : addSo a b 0 = b := by simp [addSo]
theorem addSo_end (a b : List Nat) (h : a.length = b.length) : addSo a b a.length = addL a b := by
  unfold addSo
  rw [List.take_of_length_le (by rw [addL_length a b h]; exact Nat.le_refl _), List.drop_of_length_le (by omega), List.append_nil]
theorem addSo_length (a b : List Nat) (m : Nat) (h : a.length = b.length) (hm : m ≤ a.length) : (addSo a b m).length = b.length := by
  unfold addSo
  simp [addL_length a b h]
  omega
theorem addSo_get (a b : List Nat) (m : Nat) (h : a.length = b.length) (hm : m < a.length) : (addSo a b m)[m]'(by rw [addSo_length a b m h (by omega)]; omega) = b[m]'(by omega) := by
  unfold addSo
  have e : ((addL a b).take m).length = m := by rw [List.length_take, addL_length a b h]; omega
  rw [List.getElem_append_right (by omega)]
  simp [e]
theorem addSo_set (a b : List Nat) (m : Nat) (h : a.length = b.length) (hm : m < a.length) : (addSo a b m).set m (b[m]'(by omega) ^^^ a[m]) = addSo a b (m + 1) := by
  have := set_take (addL a b) b m (by rw [addL_length a b h]; exact hm) (by rw [addL_length a b h, h])
  unfold addSo
  rw [← this]
  congr 1
  simp [addL, Nat.xor_comm]
theorem muladd_any (B : Nat) (va vb : Value) (xs ys : List Nat) (c : Nat) (hc : c < 256) (hn2 : ys.length ≤ 65536) (w : World) (ha : RowAt B w va xs) (hb : RowAt B w vb ys) : Calls Tryz.prog 91 #[va, .int .u8 c, vb] w (AddPost w xs (scaleL c ys)) := by
  have ha0 := ha
  have hb0 := hb
  have hma := ha.max
  have hmb := hb.max
  obtain ⟨aa, ca, rfl, _⟩ := ha.at
  obtain ⟨ab, cb, rfl, _⟩ := hb.at
  clear ha hb
  by_cases hlen : xs.length = ys.length
  · have hl : ((xs.length : Int) != (ys.length : Int)) = false := by simp [hlen]
    have hlen' : xs.length = (scaleL c ys).length := by rw [scaleL_length]; exact hlen
    have HL := Lib.hid hlen
    have HL' := Lib.hid hlen'
    clear hlen'
    go_enter Tryz.func91, Tryz.ntmps91
    rw [← HL.out] at hb0 ⊢
    clear hlen hmb
    go_wp2_with fail
    refine (scale_any c hc B _ ys hn2 _ hb0).mono ?_
    rw [← HL.out]
    rintro x w1 ⟨rfl, hb, hB⟩
    go_wp2_with fail
    have hsl := scaleL_length c ys
    have HSL := Lib.hid hsl
    have HSLT := Lib.hid (scaleL_lt c ys)
    clear hsl
    go_loopw [10, 11, 26] (fun _ _ i wr => ∃ m : Nat, m ≤ xs.length ∧ i = .int .i64 m ∧ OwnB wr w.heap.size 0 (addSo xs (scaleL c ys) m) ∧ Below w.heap.size w wr) (fun _ _ i _ => xs.length - (intOf i).toNat)
    case atStart => exact ⟨0, by omega, rfl, by rw [addSo_zero]; exact hb, hB⟩
    case round =>
      clear hb hB
      obtain ⟨m, hm, rfl, hb, hB⟩ := hrel
      by_cases hlt : m < xs.length
      · have hx := ha0.2 xs[m] (by simp)
        have hlen2 := addSo_length xs (scaleL c ys) m HL'.out hm
        have hrd := hb.read m (by rw [hlen2, ← HL'.out]; exact hlt)
        rw [addSo_get xs (scaleL c ys) m HL'.out hlt, Nat.zero_add] at hrd
        have hy := HSLT.out ((scaleL c ys)[m]'(by rw [← HL'.out]; exact hlt)) (by simp)
        have hst := hb.store m ((scaleL c ys)[m]'(by rw [← HL'.out]; exact hlt) ^^^ xs[m]) (by rw [hlen2, ← HL'.out]; exact hlt) (nat_xor_lt hy hx)
        rw [addSo_set xs (scaleL c ys) m HL'.out hlt, Nat.zero_add] at hst
        have HST := Lib.hid hst
        have hfr := hb.1.free m
        obtain ⟨_, _, e, hc'⟩ := (ha0.chain hB).at
        cases e
        obtain ⟨g, off, rfl, hg, hck⟩ := hc' m hlt
        have hl := hb.1.lt
        have hxx := u8_xor_nat ((scaleL c ys)[m]'(by rw [← HL'.out]; exact hlt)) xs[m] hy hx
        clear hc' hst hb hlen2
        generalize xs[m] = x at *
        generalize (scaleL c ys)[m]'_ = y at *
        go_wp2_with fail
        go_roundw
        case rel => exact ⟨m + 1, by omega, by go_num, HST.out, hB.setCell (Nat.le_refl _) _⟩
        case measure => simp [intOf]; omega
      · obtain rfl : m = xs.length := by omega
        rw [addSo_end _ _ HL'.out] at hb
        have hr := hb.row (B := 0) (cap := xs.length) (by rw [addL_length _ _ HL'.out]; exact Nat.le_refl _) (by unfold maxLen; omega)
        rw [addL_length _ _ HL'.out] at hr
        have HP : Hid (AddPost w xs (scaleL c ys) (.returned (.tuple #[.slice (some ⟨w.heap.size, 0, none⟩) xs.length xs.length, .int .i64 0])) wr) := AddPost.yes HL'.out hr hB
        clear hb hr
        go_wp2_with fail
        go_ret2
        exact HP.out
  · have HP : Hid (AddPost w xs (scaleL c ys) (.returned (.tuple #[.slice none 0 0, .int .i64 16])) w) := AddPost.no (by rw [scaleL_length]; exact hlen) (Below.refl _ _)
    have hl : ((xs.length : Int) != (ys.length : Int)) = true := by simp; omega
    clear hlen
    go_enter Tryz.func91, Tryz.ntmps91
    go_wp2_with fail
    go_ret2
    exact HP.out
end Go.Proofs.YtnmlmpffmjhihaaGreat
namespace Go.Proofs.YtnmlmpffmjhihaaGreat
open Go.RowKit
set_option linter.unusedVariables false
set_option maxRecDepth 100000
set_option maxHeartbeats 1000000
def badZ (n : Int) : Bool := decide (n < 1) || decide (255 < n)
theorem badZ_lo {n : Int} (h : n < 1) : badZ n = true := by simp [badZ, h]
theorem badZ_hi {n : Int} (h : 255 < n) : badZ n = true := by simp [badZ, h]
theorem badZ_no {n : Int} (h1 : ¬ n < 1) (h2 : ¬ 255 < n) : badZ n = false := by simp [badZ, h1, h2]
theorem badZ_rng {n : Int} (h : badZ n = false) : 1 ≤ n ∧ n ≤ 255 := by
  simp [badZ] at h
  omega
def wid (rows : List (List Nat)) : Nat := (rows.headD []).length
def chkM (rows : List (List Nat)) : Int := if badZ rows.length = true ∨ badZ (wid rows) = true then 1 else if ∀ r ∈ rows, r.length = wid rows then 0 else 16
theorem chkM_bad {rows : List (List Nat)} (h : badZ rows.length = true ∨ badZ (wid rows) = true) : chkM rows = 1 := by unfold chkM; rw [if_pos h]
theorem chkM_no {rows : List (List Nat)} (h1 : badZ rows.length = false) (h2 : badZ (wid rows) = false) (h : ¬ ∀ r ∈ rows, r.length = wid rows) : chkM rows = 16 := by
  unfold chkM; rw [if_neg (by rw [h1, h2]; decide), if_neg h]
theorem chkM_ok {rows : List (List Nat)} (h1 : badZ rows.length = false) (h2 : badZ (wid rows) = false) (h : ∀ r ∈ rows, r.length = wid rows) : chkM rows = 0 := by
  unfold chkM; rw [if_neg (by rw [h1, h2]; decide), if_pos h]
theorem chkM_zero {rows : List (List Nat)} (h : chkM rows = 0) : (1 ≤ rows.length ∧ rows.length ≤ 255) ∧ (1 ≤ wid rows ∧ wid rows ≤ 255) ∧ ∀ r ∈ rows, r.length = wid rows := by
  unfold chkM at h
  split at h
  · cases h
  · rename_i h1
    split at h
    · rename_i h2
      have a := badZ_rng (n := rows.length) (by cases hh : badZ rows.length <;> simp_all)
      have b := badZ_rng (n := wid rows) (by cases hh : badZ (wid rows) <;> simp_all)
      exact ⟨by omega, by omega, h2⟩
    · cases h
theorem wid_eq {rows : List (List Nat)} (h : 0 < rows.length) : rows[0].length = wid rows := by
  cases rows with
  | nil => simp at h
  | cons r rs => rfl
end Go.Proofs.YtnmlmpffmjhihaaGreat
namespace Go.Proofs.YtnmlmpffmjhihaaGreat
open Go.RowKit
set_option linter.unusedVariables false
set_option maxRecDepth 100000
set_option maxHeartbeats 1000000
def idRow (n i : Nat) : List Nat := (List.replicate n 0).set i 1
def idM (n : Nat) : List (List Nat) := (List.range n).map (idRow n)
theorem idM_length (n : Nat) : (idM n).length = n := by simp [idM]
theorem idRow_length (n i : Nat) : (idRow n i).length = n := by simp [idRow]
theorem idRow_lt (n i : Nat) : ∀ x ∈ idRow n i, x < 256 := fun x hx => by
  unfold idRow at hx
  rcases List.mem_or_eq_of_mem_set hx with h | h
  · rw [(List.mem_replicate.1 h).2]; decide
  · omega
def IdPost (n : Int) (w : World) (e : Ending) (w' : World) : Prop := ∃ v, e = .returned (.tuple #[v, .int .i64 (if badZ n then 1 else 0)]) ∧ MatAt 0 w' v (if badZ n then [] else idM n.toNat) ∧ Below w.heap.size w w'
theorem IdPost.bad {n : Int} {w : World} (h : badZ n = true) : IdPost n w (.returned (.tuple #[.slice none 0 0, .int .i64 1])) w := ⟨_, by rw [if_pos h], by rw [if_pos h]; exact MatAt.nil _ _, Below.refl _ _⟩
theorem IdPost.ok {n : Nat} {w w' : World} {v : Value} (h : badZ n = false) (hm : MatAt 0 w' v (idM n)) (hb : Below w.heap.size w w') : IdPost n w (.returned (.tuple #[v, .int .i64 0])) w' :=
  ⟨_, by rw [if_neg (by rw [h]; decide)], by rw [if_neg (by rw [h]; decide)]; exact hm, hb⟩
theorem setCell_alloc_comm (w : World) (p : Addr) (u : Value) (o : Obj) (h : p.block < w.heap.size) : (w.setCell p u).alloc o = (w.alloc o).setCell p u := by
  unfold World.setCell World.alloc
  simp only
  congr 1
  apply Array.ext
  · simp
  · intro i h1 h2
    simp only [Array.getElem_modify, Array.getElem_push, Array.size_modify]
    by_cases e : p.block = i
    · subst e; simp [h]
    · by_cases e2 : i < w.heap.size
      · simp [e, e2]
      · simp [e, e2]
theorem OwnB.newOf (w : World) (bs : List Nat) (h : ∀ x ∈ bs, x < 256) : OwnB (w.alloc (.cells (u8s bs).toArray 5)) w.heap.size 0 bs := ⟨OwnV.of_blk (Blk.new w (u8s bs).toArray 5), h⟩
/-- A prefix of new rows, then what stood there. -/
def soFar (new old : List (List Nat)) (m : Nat) : List (List Nat) := new.take m ++ old.drop m
theorem soFar_zero (new old : List (List Nat)) : soFar new old 0 = old := by simp [soFar]
theorem soFar_end (new old : List (List Nat)) (n : Nat) (h : new.length = n) (h2 : old.length = n) : soFar new old n = new := by
  unfold soFar
  rw [List.take_of_length_le (by omega), List.drop_of_length_le (by omega), List.append_nil]
theorem soFar_length (new old : List (List Nat)) (m : Nat) (h : new.length = old.length) (hm : m ≤ new.length) : (soFar new old m).length = new.length := by
  unfold soFar
  simp
  omega
theorem soFar_set (new old : List (List Nat)) (m : Nat) (h : new.length = old.length) (hm : m < new.length) : (soFar new old m).set m new[m] = soFar new old (m + 1) := set_take new old m hm h
theorem RowsOf_snoc {w : World} {vs : List Value} {rows : List (List Nat)} {u : Value} {r : List Nat} (hl : vs.length = rows.length) (h : ∀ i (h : i < vs.length) (h' : i < rows.length), RowAt 0 w vs[i] rows[i]) (hu : RowAt 0 w u r) :
    (vs ++ [u]).length = (rows ++ [r]).length ∧ ∀ i (h : i < (vs ++ [u]).length) (h' : i < (rows ++ [r]).length), RowAt 0 w (vs ++ [u])[i] (rows ++ [r])[i] := by
  refine ⟨by simp [hl], fun i hi hi' => ?_⟩
  by_cases e : i < vs.length
  · rw [List.getElem_append_left e, List.getElem_append_left (by omega)]
    exact h i e (by omega)
  · have : i = vs.length := by simp at hi; omega
    subst this
    rw [List.getElem_append_right (Nat.le_refl _), List.getElem_append_right (by omega)]
    simp [hl]
    exact hu
/-- A table that is made by appends. -/
def SegM (w : World) (base : Nat) (v : Value) (rows : List (List Nat)) : Prop := ∃ vs : List Value, vs.length = rows.length ∧ Seg w base 120 1 v rows.length vs ∧ ∀ i (h : i < vs.length) (h' : i < rows.length), RowAt 0 w vs[i] rows[i]
theorem SegM.nil (w : World) (base : Nat) : SegM w base (.slice none 0 0) [] := ⟨[], rfl, Seg.nil _ _ _ _, by simp⟩
theorem SegM.chain {w w' : World} {base : Nat} {v : Value} {rows : List (List Nat)} (h : SegM w base v rows) (hb : Below w.heap.size w w') : SegM w' base v rows := by
  obtain ⟨vs, h1, h2, h3⟩ := h
  exact ⟨vs, h1, h2.chain hb, fun i hi hi' => (h3 i hi hi').chain hb⟩
theorem SegM.form {w : World} {base n : Nat} {v : Value} {rows : List (List Nat)} (h : SegM w base v rows) (hn : rows.length = n) : ∃ a cap, v = .slice a n cap := by
  subst hn
  obtain ⟨vs, h1, h2, h3⟩ := h
  exact h2.form
theorem SegM.blk {w : World} {base : Nat} {v : Value} {rows : List (List Nat)} (h : SegM w base v rows) : ∀ g, v.ownBlock = some g → base ≤ g ∧ g < w.heap.size := by
  obtain ⟨vs, h1, h2, h3⟩ := h
  exact h2.blk
theorem SegM.mat {w : World} {base : Nat} {v : Value} {rows : List (List Nat)} (h : SegM w base v rows) : MatAt 0 w v rows := by
  obtain ⟨vs, h1, h2, h3⟩ := h
  exact ⟨vs, h1, SlAt.of_seg h2, h3⟩
theorem SegM.own {w : World} {base : Nat} {g off n cap : Nat} {rows : List (List Nat)} (h : SegM w base (.slice (some ⟨g, off, none⟩) n cap) rows) (hn : n = rows.length) : OwnM w g off rows := by
  subst hn
  obtain ⟨vs, h1, h2, h3⟩ := h
  exact OwnM.of_seg h2 h1 h3
/-- The append's own part: what came behind it. -/
theorem SegM.snoc {w1 w3 : World} {base : Nat} {v v' : Value} {rows : List (List Nat)} {o : Obj} {u : Value} {r : List Nat} {vs : List Value} (hvl : vs.length = rows.length) (hs : Seg w1 base 120 1 v rows.length vs) (hrs : ∀ i (h : i < vs.length) (h' : i < rows.length), RowAt 0 w1 vs[i] rows[i])
    (hu : RowAt 0 w1 u r) (hown : Seg w3 base 120 1 v' (rows.length + 1) (vs ++ [u])) (hgrow : (w1.alloc o).grownBy w3 v.ownBlock) : SegM w3 base v' (rows ++ [r]) := by
  have hap := (hs.alloc o).apart (t := 5) (B := 0) (by decide) (Nat.zero_le _)
  have ho := Only.of_grown hgrow
  have hu3 := (hu.chain (Below.chainAlloc (Below.refl _ _) o)).only ho hap
  obtain ⟨h1, h2⟩ := RowsOf_snoc hvl (fun i hi hi' => ((hrs i hi hi').chain (Below.chainAlloc (Below.refl _ _) o)).only ho hap) hu3
  exact ⟨vs ++ [u], h1, by simpa using hown, h2⟩
end Go.Proofs.YtnmlmpffmjhihaaGreat
namespace Go.Proofs.YtnmlmpffmjhihaaGreat
open Go Go.RowKit
set_option linter.unusedVariables false
section
variable {P : Program} {ops : Array Oper} {Q : Exit → Act → World → Prop} {md : Region.Mode} {S0 S1 : World → Prop} {st : Nat → Bool}
/-- Whatever order is picked from here on; behind each operation S0 holds, and, unless it is of 'st', S1 holds if it did. -/
def wpAnyT (P : Program) (md : Region.Mode) (ops : Array Oper) (Q : Exit → Act → World → Prop) (S0 S1 : World → Prop) (st : Nat → Bool) : Nat → Array Bool → Act → World → Prop
  | 0, listed, a, w => Region.ready md ops listed = [] ∧ Q .normal a w
  | fuel + 1, listed, a, w =>
    (Region.ready md ops listed = [] → Q .normal a w) ∧
    ∀ i ∈ Region.ready md ops listed, wpOp P ops Q i (fun a' w' => (S0 w' ∧ (st i = false → S1 w → S1 w')) ∧ wpAnyT P md ops Q S0 S1 st fuel (listed.setIfInBounds i true) a' w') a w
theorem wpAny_of_T : ∀ (fuel : Nat) (listed : Array Bool) (a : Act) (w : World), wpAnyT P md ops Q S0 S1 st fuel listed a w → wpAny P md ops Q fuel listed a w
  | 0, _, _, _, h => h
  | fuel + 1, _, _, _, h => ⟨h.1, fun i hi => wpOp_mono (fun a' w' h' => wpAny_of_T fuel _ a' w' h'.2) (h.2 i hi)⟩
/-- What no operation of 'st' can come before. -/
def Waited (md : Region.Mode) (ops : Array Oper) (st : Nat → Bool) (i : Nat) : Bool :=
  (List.range ops.size).all fun j => !st j || match ops[j]? with
    | some oj => oj.after.any (fun e => Region.binds md e && e.on == i)
    | none => true
theorem wpAnyT_first {i : Nat} {oi : Oper} {v : Value} (S : World → Prop) (hi : ops[i]? = some oi) (hsel : ∀ (j : Nat) (o : Oper) cs b, ops[j]? = some o → o.op ≠ .select cs b)
    (hQ : ∀ c a w, Q (.panic c) (a.put oi.dst v) w → Q (.panic c) a w)
    (hS' : ∀ j oj w w', ops[j]? = some oj → (∀ e ∈ oj.after, Region.binds md e = true → e.on ≠ i) → S w → S0 w' → (st j = false → S1 w → S1 w') → S w') (hS0 : ∀ w, S w → S0 w) :
    ∀ (fuel : Nat) (listed : Array Bool) (a : Act) (w : World),
      (∀ j oj, ops[j]? = some oj → j ≠ i → listed.getD j true = false → (∀ e ∈ oj.after, Region.binds md e = true → e.on ≠ i) → oi.apart ops oj = true) →
      i ∈ Region.ready md ops listed → YieldsIf P ops S oi v a → S w →
      wpAnyT P md ops Q S0 S1 st fuel (listed.setIfInBounds i true) (a.put oi.dst v) w → wpAnyT P md ops Q S0 S1 st (fuel + 1) listed a w := by
  intro fuel
  induction fuel with
  | zero =>
    intro listed a w _ hr hy hS H
    refine ⟨fun h => (by rw [h] at hr; cases hr), fun j hj => ?_⟩
    by_cases hji : j = i
    · subst hji; exact hy.wpOp hi hS ⟨⟨hS0 w hS, fun _ h => h⟩, H⟩
    · have := ready_mono hj hji
      rw [H.1] at this
      cases this
  | succ fuel ih =>
    intro listed a w hfree hr hy hS H
    refine ⟨fun h => (by rw [h] at hr; cases hr), fun j hj => ?_⟩
    by_cases hji : j = i
    · subst hji; exact hy.wpOp hi hS ⟨⟨hS0 w hS, fun _ h => h⟩, H⟩
    · have h1 := H.2 j (ready_mono hj hji)
      obtain ⟨hjun, oj, hoj, hall⟩ := mem_ready.1 hj
      have hnot : ∀ e ∈ oj.after, Region.binds md e = true → e.on ≠ i := fun e he hb heq => by
        have h1 := hall e he hb
        have h0 := (mem_ready.1 hr).1
        rw [heq] at h1
        rcases Nat.lt_or_ge i listed.size with h' | h'
        · simp [h'] at h0 h1; rw [h0] at h1; cases h1
        · simp [Array.getElem?_eq_none h'] at h1
      have h2 := wpOp_putIf hoj (hfree j oj hoj hji hjun hnot) (fun cs b => hsel i oi cs b hi) (fun cs b => hsel j oj cs b hoj) hQ hy h1
      have hfree' : ∀ k ok, ops[k]? = some ok → k ≠ i → (listed.setIfInBounds j true).getD k true = false →
          (∀ e ∈ ok.after, Region.binds md e = true → e.on ≠ i) → oi.apart ops ok = true := fun k ok hk hki hun hno => by
        refine hfree k ok hk hki ?_ hno
        by_cases hjk : j = k
        · subst hjk; exact hjun
        · rw [getD_set_ne true hjk] at hun; exact hun
      refine wpOp_mono (fun a' w' h3 => ⟨h3.2.1, ih (listed.setIfInBounds j true) a' w' hfree' (ready_mono hr (Ne.symm hji)) h3.1 (hS' j oj w w' hoj hnot hS h3.2.1.1 h3.2.1.2) ?_⟩) h2
      rw [Array.setIfInBounds_comm _ _ hji]
      exact h3.2.2
/-- An operation that needs S0 alone is taken first. -/
theorem wpAnyT_take {i : Nat} {oi : Oper} {v : Value} {fuel : Nat} {listed : Array Bool} {a : Act} {w : World} (hi : ops[i]? = some oi)
    (hs : Region.noSelect ops = true) (hf : Region.free md ops listed i = true) (hr : (Region.ready md ops listed).contains i = true)
    (hQ : ∀ c a w, Q (.panic c) (a.put oi.dst v) w → Q (.panic c) a w) (hy : YieldsIf P ops S0 oi v a) (hS : S0 w)
    (h : wpAnyT P md ops Q S0 S1 st fuel (listed.setIfInBounds i true) (a.put oi.dst v) w) : wpAnyT P md ops Q S0 S1 st (fuel + 1) listed a w :=
  wpAnyT_first S0 hi (Region.noSelect_spec hs) hQ (fun _ _ _ _ _ _ _ h _ => h) (fun _ h => h) fuel listed a w (Region.free_spec hi hf) (by simpa using hr) hy hS h
/-- A load of what is stored later is taken first. -/
theorem wpAnyT_takeS {i : Nat} {oi : Oper} {v : Value} {fuel : Nat} {listed : Array Bool} {a : Act} {w : World} (hi : ops[i]? = some oi)
    (hs : Region.noSelect ops = true) (hf : Region.free md ops listed i = true) (hr : (Region.ready md ops listed).contains i = true) (hw : Waited md ops st i = true)
    (hQ : ∀ c a w, Q (.panic c) (a.put oi.dst v) w → Q (.panic c) a w) (hy : YieldsIf P ops (fun w => S0 w ∧ S1 w) oi v a) (hS : S0 w) (hS1 : S1 w)
    (h : wpAnyT P md ops Q S0 S1 st fuel (listed.setIfInBounds i true) (a.put oi.dst v) w) : wpAnyT P md ops Q S0 S1 st (fuel + 1) listed a w := by
  refine wpAnyT_first (fun w => S0 w ∧ S1 w) hi (Region.noSelect_spec hs) hQ (fun j oj w w' hj hno hw0 h0 h1 => ⟨h0, h1 ?_ hw0.2⟩) (fun _ h => h.1) fuel listed a w (Region.free_spec hi hf) (by simpa using hr) hy ⟨hS, hS1⟩ h
  cases hst : st j with
  | false => rfl
  | true =>
    have hlt : j < ops.size := (Array.getElem?_eq_some_iff.1 hj).1
    have := List.all_eq_true.1 hw j (List.mem_range.2 hlt)
    simp only [hst, hj, Bool.not_true, Bool.false_or] at this
    obtain ⟨e, he, hb⟩ := Array.any_eq_true'.1 this
    simp only [Bool.and_eq_true, beq_iff_eq] at hb
    exact absurd hb.2 (hno e he hb.1)
/-- The one that may come up comes up. -/
theorem wpAnyT_one {i : Nat} {o : Oper} {fuel : Nat} {listed : Array Bool} {a : Act} {w : World} (hr : Region.ready md ops listed = [i]) (ho : ops[i]? = some o)
    (h : ∀ K' : Act → World → Prop, Go.Shut (∀ a' w', S0 w' → (st i = false → S1 w → S1 w') → wpAnyT P md ops Q S0 S1 st fuel (listed.setIfInBounds i true) a' w' → K' a' w') → if Region.wanted o (yielded ops a.tmps) = true then Oper.wp P o a w K' Q else K' (a.put o.dst undef) w) :
    wpAnyT P md ops Q S0 S1 st (fuel + 1) listed a w := by
  refine ⟨fun h0 => (by rw [hr] at h0; cases h0), fun j hj => ?_⟩
  rw [hr] at hj
  obtain rfl : j = i := by simpa using hj
  exact wpOp_step ho (fun K' hK => h K' (fun a' w' h0 h1 h2 => hK a' w' ⟨⟨h0, h1⟩, h2⟩))
theorem wpAnyT_done {listed : Array Bool} {a : Act} {w : World} (hr : Region.ready md ops listed = []) (h : Q .normal a w) : ∀ fuel, wpAnyT P md ops Q S0 S1 st fuel listed a w
  | 0 => ⟨hr, h⟩
  | _ + 1 => ⟨fun _ => h, by rw [hr]; simp⟩
theorem wp_region_T {id : Nat} {a : Act} {w : World} (S0 S1 : World → Prop) (st : Nat → Bool) (hm : P.follows .mixedOrders = true)
    (h : wpAnyT P .any ops Q S0 S1 st ops.size (Array.replicate ops.size false) a w.drew) : (Code.region id ops true).wp P Q a w :=
  wp_region_any hm (wpAny_of_T _ _ _ _ h)
end
end Go.Proofs.YtnmlmpffmjhihaaGreat
namespace Go.Proofs.YtnmlmpffmjhihaaGreat
open Go.RowKit
set_option linter.unusedVariables false
set_option maxRecDepth 100000
set_option maxHeartbeats 1000000
def entM (M : List (List Nat)) (i j : Nat) : Nat := (M.getD i []).getD j 0
def pivN (M : List (List Nat)) (place : Nat) : Nat → Nat → Option Nat
  | 0, _ => none
  | k + 1, i => if entM M i place = 0 then pivN M place k (i + 1) else some i
def pivL (M : List (List Nat)) (at' place : Nat) : Option Nat := pivN M place (M.length - at') at'
def pivZ (M : List (List Nat)) (at' place : Nat) : Int := match pivL M at' place with | none => -1 | some i => i
def swapL (M : List (List Nat)) (i k : Nat) : List (List Nat) := (M.set i (M.getD k [])).set k (M.getD i [])
theorem swapL_length (M : List (List Nat)) (i k : Nat) : (swapL M i k).length = M.length := by simp [swapL]
/-- A pair of tables of the call's own: their headers' parts, their rows. -/
structure OwnP (w : World) (gm om : Nat) (go' oo : Nat) (M O : List (List Nat)) : Prop where
  m : OwnM w gm om M
  o : OwnM w go' oo O
  ne : gm ≠ go'
  len : O.length = M.length
theorem OwnP.chain {w w' : World} {gm om go' oo : Nat} {M O : List (List Nat)} (h : OwnP w gm om go' oo M O) (hb : Below w.heap.size w w') : OwnP w' gm om go' oo M O := ⟨h.m.chain hb, h.o.chain hb, h.ne, h.len⟩
theorem getD_get {α : Type} (l : List α) (i : Nat) (d : α) (h : i < l.length) : l.getD i d = l[i] := by simp [List.getD, List.getElem?_eq_getElem h]
end Go.Proofs.YtnmlmpffmjhihaaGreat
namespace Go.Proofs.YtnmlmpffmjhihaaGreat
open Go.RowKit
set_option linter.unusedVariables false
set_option maxRecDepth 100000
set_option maxHeartbeats 1000000
theorem pivN_step (M : List (List Nat)) (place k i : Nat) (h : entM M i place = 0) : pivN M place (k + 1) i = pivN M place k (i + 1) := by
  show (if entM M i place = 0 then _ else _) = _
  rw [if_pos h]
theorem pivN_hit (M : List (List Nat)) (place k i : Nat) (h : entM M i place ≠ 0) : pivN M place (k + 1) i = some i := by
  show (if entM M i place = 0 then _ else _) = _
  rw [if_neg h]
theorem entM_get (M : List (List Nat)) (i j : Nat) (hi : i < M.length) (hj : j < M[i].length) : entM M i j = M[i][j] := by
  unfold entM
  rw [getD_get M i [] hi, getD_get _ j 0 hj]
def oz : Option Nat → Int
  | none => -1
  | some i => i
theorem pivZ_eq (M : List (List Nat)) (at' place : Nat) : pivZ M at' place = oz (pivL M at' place) := by
  unfold pivZ oz
  cases pivL M at' place <;> rfl
end Go.Proofs.YtnmlmpffmjhihaaGreat
