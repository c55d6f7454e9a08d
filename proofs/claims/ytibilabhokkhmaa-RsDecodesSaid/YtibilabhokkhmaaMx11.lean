/-
  Tables of bytes: the rank and the inverse: the program's contracts (chapter 3).
-/
import Derived.Test.YtibilabhokkhmaaMx10
namespace Go.Proofs.Ytibilabhokkhmaa
open Go.RowKit
set_option linter.unusedVariables false
set_option maxRecDepth 100000
set_option maxHeartbeats 2000000
theorem ident_own (n : Nat) (h1 : 1 ≤ n) (h2 : n ≤ 255) (w : World) : Calls Try.prog 32 #[.int .i64 (n : Int)] w fun e w' =>
    e = .returned (.tuple #[.slice (some ⟨w.heap.size, 0, none⟩) n n, .int .i64 0]) ∧ OwnM w' w.heap.size 0 (idM n) ∧ Below w.heap.size w w' := by
  have HB := Lib.hid (badZ_no (n := (n : Int)) (by omega) (by omega))
  have hmk := mk_rows n (by omega)
  have hmk2 := mk_u8 n (by omega)
  go_enter Try.func32, Try.ntmps32
  go_wp2_with fail
  refine (mbad_any _ _).mono ?_
  rw [HB.out]
  rintro x w1 ⟨rfl, rfl⟩
  go_wp2_with fail
  clear hmk
  have hb := OwnM.new w n
  have hB := Below.chainAlloc (Below.refl w.heap.size w) (.cells (Array.replicate n (Value.slice none 0 0)) 24)
  generalize w.alloc (.cells (Array.replicate n (Value.slice none 0 0)) 24) = W at *
  go_loopw [5, 12] (fun _ i wr => ∃ m : Nat, m ≤ n ∧ i = .int .i64 m ∧ OwnM wr w.heap.size 0 (soFar (idM n) (List.replicate n []) m) ∧ Below w.heap.size w wr) (fun _ i _ => n - (intOf i).toNat)
  case atStart => exact ⟨0, by omega, rfl, by rw [soFar_zero]; exact hb, hB⟩
  case round =>
    clear hb hB
    obtain ⟨m, hm, rfl, hb, hB⟩ := hrel
    by_cases hlt : m < n
    · have hl := hb.lt
      have hlen := soFar_length (idM n) (List.replicate n []) m (by simp [idM]) (by rw [idM_length]; exact hm)
      rw [idM_length] at hlen
      obtain ⟨ax, cx, hcx, -⟩ := hb.read m (by omega)
      rw [Nat.zero_add] at hcx
      have hfr := hb.free m
      have hz : (u8s (List.replicate n 0))[m]? = some (.int .u8 0) := by simp [u8s, hlt]
      have HLEN := Lib.hid hlen
      generalize ((soFar (idM n) (List.replicate n []) m)[m]'_).length = lx at *
      clear hlen
      go_wp2_with fail
      go_roundw
      case rel =>
        refine ⟨m + 1, by omega, by go_num, ?_, ?_⟩
        · rw [setCell_alloc_comm _ _ _ _ hl, show (u8s (List.replicate n 0)).set m (.int .u8 1) = u8s (idRow n m) from u8s_set _ m 1]
          have h1 := OwnB.newOf wr (idRow n m) (idRow_lt n m)
          have h2 := h1.row (B := 0) (cap := n) (by rw [idRow_length]; exact Nat.le_refl _) (by unfold maxLen; omega)
          rw [idRow_length] at h2
          have h3 := (hb.chain (Below.chainAlloc (Below.refl _ _) (.cells (u8s (idRow n m)).toArray 5))).store m (by rw [HLEN.out]; exact hlt) _ _ _ _ h2
          have h4 := soFar_set (idM n) (List.replicate n []) m (by simp [idM]) (by rw [idM_length]; exact hlt)
          rw [show (idM n)[m]'(by rw [idM_length]; exact hlt) = idRow n m by simp [idM]] at h4
          rw [h4, Nat.zero_add] at h3
          exact h3
        · exact Below.chainAlloc (hB.setCell (Nat.le_refl _) _) _
      case measure => simp [intOf]; omega
    · obtain rfl : m = n := by omega
      rw [soFar_end _ _ m (idM_length m) (by simp)] at hb
      go_wp2_with fail
      go_ret2
      exact ⟨rfl, hb, hB⟩

def rankM (rows : Tab) : Nat := (redSo rows (List.replicate rows.length []) (wid rows)).1
def rankV (rows : Tab) : Int := if chkM rows = 0 then rankM rows else 0
def RankPost (rows : Tab) (w : World) (e : Ending) (w' : World) : Prop := e = .returned (.tuple #[.int .i64 (rankV rows), .int .i64 (chkM rows)]) ∧ Below w.heap.size w w'
theorem wide_of {rows : Tab} (h : ∀ r ∈ rows, r.length = wid rows) : Wide rows (wid rows) := fun i hi => h _ (by simp)
theorem wide_nil (n : Nat) : Wide (List.replicate n ([] : List Nat)) 0 := fun i hi => by simp
theorem below_of_only {W w1 w2 : World} {S : List Nat} (h : Below W.heap.size W w1) (ho : Only S w1 w2) (hs : ∀ x ∈ S, W.heap.size ≤ x) : Below W.heap.size W w2 := Below.only h ho hs
theorem rank_any (B : Nat) (v : Value) (rows : Tab) (w : World) (h : MatAt B w v rows) : Calls Try.prog 25 #[v] w (RankPost rows w) := by
  have h0 := h
  obtain ⟨a, cap, rfl, hm, -⟩ := h.at
  clear h
  by_cases hc : chkM rows = 0
  · obtain ⟨⟨n1, n2⟩, ⟨w1, w2⟩, hw⟩ := chkM_zero hc
    have HC := Lib.hid hc
    have hW := wide_of hw
    have HW := Lib.hid hW
    have hmk := mk_rows rows.length (by omega)
    have HP : Hid (∀ wx, Below w.heap.size w wx → RankPost rows w (.returned (.tuple #[.int .i64 ((redSo rows (List.replicate rows.length []) (wid rows)).1 : Nat), .int .i64 0])) wx) := fun wx hx =>
      ⟨by unfold rankV rankM; rw [if_pos hc, hc], hx⟩
    clear hc hw hW
    go_enter Try.func25, Try.ntmps25
    go_wp2_with fail
    refine (check_any B _ rows _ h0).mono ?_
    rw [HC.out]
    rintro x wa ⟨rfl, rfl⟩
    go_wp2_with fail
    go_region_held3 (fun w' => Below w.heap.size w w') (first | exact (Below.refl _ _).drew | exact Below.chainAlloc (by assumption) _ | exact Below.chain hb1 (by assumption) | assumption | exact below_of_only (by assumption) ho (fun x hx => by simp at hx; omega))
      ((first
        | (go_at_call 49; refine (copied_any B _ rows n2 (fun i hi => by rw [HW.out i hi]; omega) _ (h0.chain (by assumption))).mono ?_; rintro x w1 ⟨rfl, hm1, hb1⟩)
        | (go_at_call 50; refine (reduce_any _ _ _ _ _ _ _ (wid rows) 0 rows (List.replicate rows.length []) n1 n2 _ (by first | exact ⟨hm1.chain (Below.chainAlloc (Below.refl _ _) _), OwnM.new _ _, Nat.ne_of_lt (show w.heap.size < w1.heap.size from hm1.lt), by simp⟩ | exact ⟨by rw [← size_alloc w (.cells (Array.replicate rows.length (Value.slice none 0 0)) 24)]; exact hm1, ((OwnM.new w rows.length).chain (Below.refl _ _).drew).chain hb1, by simp, by simp⟩) rfl HW.out (wide_nil _) w2 (by decide)).mono ?_; rintro x w2 ⟨rfl, hP2, ho⟩; have hz1 : w.heap.size ≤ w1.heap.size := (by first | exact hb1.size | exact Nat.le_trans (Nat.le_succ _) (by simpa using hb1.size)))))
    all_goals
      go_wp2_with fail
      go_ret2
      exact HP.out _ (by assumption)
  · have hce : (chkM rows != 0) = true := by simpa using hc
    have HP : Hid (RankPost rows w (.returned (.tuple #[.int .i64 0, .int .i64 (chkM rows)])) w) := ⟨by unfold rankV; rw [if_neg hc], Below.refl _ _⟩
    clear hc
    go_enter Try.func25, Try.ntmps25
    go_wp2_with fail
    refine (check_any B _ rows _ h0).mono ?_
    rintro x wa ⟨rfl, rfl⟩
    generalize chkM rows = z at *
    go_wp2_with fail
    go_ret2
    exact HP.out
end Go.Proofs.Ytibilabhokkhmaa
