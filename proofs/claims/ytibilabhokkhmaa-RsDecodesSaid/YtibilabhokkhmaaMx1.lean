/-
  Rows of bytes: multiples, sums: the program's and the document's: contracts (chapters 2, 3).
-/
import Derived.Test.YtibilabhokkhmaaOwn
import Derived.Test.YtibilabhokkhmaaCauchy4
import Derived.Laws.CopyOwn
namespace Go.Proofs.Ytibilabhokkhmaa
open Go.RowKit
set_option linter.unusedVariables false
set_option maxRecDepth 100000
set_option maxHeartbeats 1000000
def scaleL (c : Nat) (v : List Nat) : List Nat := v.map (gm c)
def addL (a b : List Nat) : List Nat := List.zipWith (fun x y => x ^^^ y) a b
def mulAddL (a : List Nat) (c : Nat) (b : List Nat) : List Nat := addL a (scaleL c b)
theorem scaleL_length (c : Nat) (v : List Nat) : (scaleL c v).length = v.length := by simp [scaleL]
theorem scaleL_lt (c : Nat) (v : List Nat) : ∀ x ∈ scaleL c v, x < 256 := fun x hx => by
  obtain ⟨y, _, rfl⟩ := List.mem_map.1 hx
  exact gm_lt c y
theorem scaleL_zero (v : List Nat) : scaleL 0 v = List.replicate v.length 0 := by
  unfold scaleL
  apply List.ext_getElem
  · simp
  · intro i h1 h2
    simp [gm_zero_left]
theorem scaleL_one (v : List Nat) (h : ∀ x ∈ v, x < 256) : scaleL 1 v = v := by
  unfold scaleL
  conv => rhs; rw [← List.map_id v]
  exact List.map_congr_left fun x hx => gm_one_left x (h x hx)
theorem addL_length (a b : List Nat) (h : a.length = b.length) : (addL a b).length = a.length := by simp [addL, h]
theorem addL_lt (a b : List Nat) (ha : ∀ x ∈ a, x < 256) (hb : ∀ x ∈ b, x < 256) : ∀ x ∈ addL a b, x < 256 := fun x hx => by
  unfold addL at hx
  obtain ⟨i, hi, rfl⟩ := List.mem_iff_getElem.1 hx
  rw [List.getElem_zipWith]
  exact nat_xor_lt (ha _ (by simp)) (hb _ (by simp))
/-- The scaled row, so far. -/
def scaleSo (c : Nat) (v : List Nat) (m : Nat) : List Nat := (scaleL c v).take m ++ (List.replicate v.length 0).drop m
theorem scaleSo_zero (c : Nat) (v : List Nat) : scaleSo c v 0 = List.replicate v.length 0 := by simp [scaleSo]
theorem scaleSo_end (c : Nat) (v : List Nat) : scaleSo c v v.length = scaleL c v := by
  unfold scaleSo
  rw [List.take_of_length_le (by rw [scaleL_length]; exact Nat.le_refl _), List.drop_of_length_le (by simp), List.append_nil]
theorem scaleSo_length (c : Nat) (v : List Nat) (m : Nat) (h : m ≤ v.length) : (scaleSo c v m).length = v.length := by
  unfold scaleSo
  simp [scaleL_length]
  omega
theorem scaleSo_set (c : Nat) (v : List Nat) (m : Nat) (h : m < v.length) : (scaleSo c v m).set m (gm c v[m]) = scaleSo c v (m + 1) := by
  have := set_take (scaleL c v) (List.replicate v.length 0) m (by rw [scaleL_length]; exact h) (by simp [scaleL_length])
  unfold scaleSo
  rw [← this]
  congr 1
  simp [scaleL]
theorem scale_any (c : Nat) (hc : c < 256) (B : Nat) (v : Value) (bs : List Nat) (hn : bs.length ≤ 65536) (w : World) (h : RowAt B w v bs) : Calls Try.prog 64 #[.int .u8 c, v] w fun e w' =>
    e = .returned (.slice (some ⟨w.heap.size, 0, none⟩) bs.length bs.length) ∧ OwnB w' w.heap.size 0 (scaleL c bs) ∧ Below w.heap.size w w' := by
  have h0 := h
  have hmx := h.max
  obtain ⟨a, cap, rfl, hcell⟩ := h.at
  have hmk := mk_u8 bs.length (by omega)
  clear h
  by_cases c0 : c = 0
  · subst c0
    have HZ := Lib.hid (scaleL_zero bs)
    clear hcell
    go_enter Try.func64, Try.ntmps64
    go_wp2_with fail
    go_ret
    refine ⟨rfl, ?_, Below.chainAlloc (Below.refl _ _) _⟩
    rw [HZ.out]
    exact OwnB.new _ _
  · have hc0 : ((c : Int) == 0) = false := by simp; omega
    by_cases c1 : c = 1
    · subst c1
      have HO := Lib.hid (scaleL_one bs h0.2)
      clear c0 hcell
      have hsrc : 0 < (u8s bs).length → (some (⟨w.heap.size, 0, none⟩ : Addr)) = some ⟨w.heap.size, 0, none⟩ ∧ ∃ ad, a = some ad ∧ ∀ j v, (u8s bs)[j]? = some v → (w.alloc (.cells (u8s (List.replicate bs.length 0)).toArray 5)).cell? (ad.add j) = some v := fun hp => by
        obtain ⟨_, _, e, hc⟩ := ((h0.chain (Below.chainAlloc (Below.refl _ _) (.cells (u8s (List.replicate bs.length 0)).toArray 5)))).at
        cases e
        rw [u8s_length] at hp
        obtain ⟨g, off, rfl, _, _⟩ := hc 0 hp
        refine ⟨rfl, _, rfl, fun j u hu => ?_⟩
        obtain ⟨hj, rfl⟩ := List.getElem?_eq_some_iff.1 hu
        rw [u8s_length] at hj
        obtain ⟨g', off', e', _, hcj⟩ := hc j hj
        cases e'
        have ea : (⟨g, off, none⟩ : Addr).add j = ⟨g, off + j, none⟩ := by unfold Addr.add; split <;> simp_all
        rw [ea, hcj]
        simp [u8s]
      have HSRC := Lib.hid hsrc
      have hszz : (Try.prog.info? 5).map (·.size) = some 1 := by kernel_rfl
      have hblk : (w.alloc (.cells (u8s (List.replicate bs.length 0)).toArray 5)).heap[w.heap.size]? = some (.cells (u8s (List.replicate bs.length 0)).toArray 5 (0, 0)) := Blk.new w _ _
      have HB := Lib.hid hblk
      have hone : ∀ u ∈ u8s bs, u.oneCell' = true := fun u hu => by
        obtain ⟨x, _, rfl⟩ := List.mem_map.1 hu
        rfl
      have hb255 := h0.2
      have HONE := Lib.hid hone
      have HB255 := Lib.hid hb255
      clear hsrc hblk hone hb255
      go_enter Try.func64, Try.ntmps64
      go_wp2_with (go_loud (refine wpList_copy_splice rfl (.tmp 17) (.tmp 18) 24 24 rfl 5 Try.underlying24 hszz (some ⟨w.heap.size, 0, none⟩) a bs.length bs.length bs.length cap rfl rfl w.heap.size 0 (u8s (List.replicate bs.length 0)) 5 HB.out (u8s bs) ?c1 HSRC.out ?c2 HONE.out w.heap.size w (Below.chainAlloc (Below.refl _ _) _) (Nat.le_refl _) ?_; (case c1 => rw [u8s_length]; exact (Nat.min_self _).symm); (case c2 => rw [u8s_length, u8s_length]; simp); intro w' hg' hb'))
      go_outline
      go_wp2_with fail
      go_ret
      refine ⟨rfl, ?_, hb'⟩
      rw [HO.out]
      have hk : Blk w' w.heap.size (u8s bs).toArray 5 := by
        have := hg'.out
        unfold splice at this
        rw [List.take_zero, List.nil_append, Nat.zero_add, List.drop_of_length_le (by simp [u8s_length]), List.append_nil] at this
        exact this
      exact ⟨OwnV.of_blk hk, HB255.out⟩
    · have hc1 : ((c : Int) == 1) = false := by simp; omega
      clear c0 c1 hcell
      go_enter Try.func64, Try.ntmps64
      go_wp2_with fail
      clear hmk hc0 hc1
      have hb := OwnB.new w bs.length
      have hB := Below.chainAlloc (Below.refl w.heap.size w) (.cells (u8s (List.replicate bs.length 0)).toArray 5)
      generalize w.alloc (.cells (u8s (List.replicate bs.length 0)).toArray 5) = W at *
      go_loopw [6, 7, 23] (fun _ _ i wr => ∃ m : Nat, m ≤ bs.length ∧ i = .int .i64 m ∧ OwnB wr w.heap.size 0 (scaleSo c bs m) ∧ Below w.heap.size w wr) (fun _ _ i _ => bs.length - (intOf i).toNat)
      case atStart => exact ⟨0, by omega, rfl, by rw [scaleSo_zero]; exact hb, hB⟩
      case round =>
        clear hb hB
        obtain ⟨m, hm, rfl, hb, hB⟩ := hrel
        by_cases hlt : m < bs.length
        · have hx := h0.2 bs[m] (by simp)
          have hst := hb.store m (gm c bs[m]) (by rw [scaleSo_length c bs m hm]; exact hlt) (gm_lt _ _)
          rw [scaleSo_set c bs m hlt, Nat.zero_add] at hst
          have HST := Lib.hid hst
          have hrd := hb.read m (by rw [scaleSo_length c bs m hm]; exact hlt)
          rw [Nat.zero_add] at hrd
          have hfr := hb.1.free m
          obtain ⟨_, _, e, hc'⟩ := (h0.chain hB).at
          cases e
          obtain ⟨g, off, rfl, hg, hck⟩ := hc' m hlt
          have hl := hb.1.lt
          clear hc' hst hb
          generalize bs[m] = x at *
          generalize (scaleSo c bs m)[m]'_ = y at *
          go_wp2_with fail
          refine (mul_any c x hc hx _).mono ?_
          rintro z w1 ⟨rfl, rfl⟩
          go_wp2_with fail
          go_roundw
          case rel => exact ⟨m + 1, by omega, by go_num, HST.out, hB.setCell (Nat.le_refl _) _⟩
          case measure => simp [intOf]; omega
        · obtain rfl : m = bs.length := by omega
          rw [scaleSo_end] at hb
          go_wp2_with fail
          go_ret
          exact ⟨rfl, hb, hB⟩
end Go.Proofs.Ytibilabhokkhmaa
