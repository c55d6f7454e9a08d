/-
  Cauchy: rows, picked rows, all rows: the program's and the document's: contracts (chapter 4).
-/
import Derived.Test.YtibilabhokkhmaaMat2
import Derived.Laws.MakeOwn
namespace Go.Proofs.Ytibilabhokkhmaa
open Go.RowKit
set_option linter.unusedVariables false
set_option maxRecDepth 100000
set_option maxHeartbeats 1000000
def badKN (k n : Int) : Bool := decide (k < 1) || (decide (n < k) || decide (255 < n))
def chkKN (k n : Int) : Int := if badKN k n then 1 else 0
theorem bad1 {k n : Int} (h : k < 1) : badKN k n = true := by simp [badKN, h]
theorem bad2 {k n : Int} (h : n < k) : badKN k n = true := by simp [badKN, h]
theorem bad3 {k n : Int} (h : 255 < n) : badKN k n = true := by simp [badKN, h]
theorem bad0 {k n : Int} (h1 : ¬ k < 1) (h2 : ¬ n < k) (h3 : ¬ 255 < n) : badKN k n = false := by simp [badKN, h1, h2, h3]
theorem bad_no {k n : Int} (h : badKN k n = false) : 1 ≤ k ∧ k ≤ n ∧ n ≤ 255 := by
  simp [badKN] at h
  omega
theorem chk1 {k n : Int} (h : badKN k n = true) : chkKN k n = 1 := by simp [chkKN, h]
theorem chk0 {k n : Int} (h : badKN k n = false) : chkKN k n = 0 := by simp [chkKN, h]
theorem cchk_any (k n : Int) (w : World) : Calls Try.prog 41 #[.int .i64 k, .int .i64 n] w fun e w' => e = .returned (.int .i64 (chkKN k n)) ∧ w = w' := by
  by_cases h1 : k < 1
  · have H := Lib.hid (chk1 (bad1 (n := n) h1))
    go_enter Try.func41, Try.ntmps41
    go_wp2_with fail
    go_ret
    exact ⟨ret_int H.out.symm, rfl⟩
  · by_cases h2 : n < k
    · have H := Lib.hid (chk1 (bad2 h2))
      go_enter Try.func41, Try.ntmps41
      go_wp2_with fail
      go_ret
      exact ⟨ret_int H.out.symm, rfl⟩
    · by_cases h3 : 255 < n
      · have H := Lib.hid (chk1 (bad3 (k := k) h3))
        go_enter Try.func41, Try.ntmps41
        go_wp2_with fail
        go_ret
        exact ⟨ret_int H.out.symm, rfl⟩
      · have H := Lib.hid (chk0 (bad0 h1 h2 h3))
        go_enter Try.func41, Try.ntmps41
        go_wp2_with fail
        go_ret
        exact ⟨ret_int H.out.symm, rfl⟩
theorem ret_bool {a b : Bool} (h : a = b) : Ending.returned (.bool a) = .returned (.bool b) := by rw [h]
theorem rbad_any (k n : Int) (w : World) : Calls Try.prog 43 #[.int .i64 k, .int .i64 n] w fun e w' => e = .returned (.bool (badKN k n)) ∧ w = w' := by
  by_cases h1 : k < 1
  · have H := Lib.hid (bad1 (n := n) h1)
    go_enter Try.func43, Try.ntmps43
    go_wp2_with fail
    go_ret
    exact ⟨ret_bool H.out.symm, rfl⟩
  · by_cases h2 : n < k
    · have H := Lib.hid (bad2 h2)
      go_enter Try.func43, Try.ntmps43
      go_wp2_with fail
      go_ret
      exact ⟨ret_bool H.out.symm, rfl⟩
    · by_cases h3 : 255 < n
      · have H := Lib.hid (bad3 (k := k) h3)
        go_enter Try.func43, Try.ntmps43
        go_wp2_with fail
        go_ret
        exact ⟨ret_bool H.out.symm, rfl⟩
      · have H := Lib.hid (bad0 h1 h2 h3)
        go_enter Try.func43, Try.ntmps43
        go_wp2_with fail
        go_ret
        exact ⟨ret_bool H.out.symm, rfl⟩
def ent (k i j : Nat) : Nat := if k ≤ i then gi (i ^^^ j) else if i = j then 1 else 0
def rowL (k i : Nat) : List Nat := (List.range k).map (ent k i)
def part (k i m : Nat) : List Nat := (List.range k).map fun l => if l < m then ent k i l else 0
theorem rowL_length (k i : Nat) : (rowL k i).length = k := by simp [rowL]
theorem ent_lt (k i j : Nat) : ent k i j < 256 := by
  unfold ent
  split
  · exact expT_lt _
  · split
    · decide
    · decide
theorem rowL_lt (k i : Nat) : ∀ x ∈ rowL k i, x < 256 := fun x hx => by
  obtain ⟨j, _, rfl⟩ := List.mem_map.1 hx
  exact ent_lt k i j
theorem part_zero (k i : Nat) : part k i 0 = List.replicate k 0 := by
  unfold part
  apply List.ext_getElem
  · simp
  · intro j h1 h2
    simp
theorem part_end (k i : Nat) : part k i k = rowL k i := by
  unfold part rowL
  refine List.map_congr_left fun l hl => ?_
  rw [if_pos (List.mem_range.1 hl)]
theorem part_set (k i m : Nat) (v : Nat) (hv : v = ent k i m) : (u8s (part k i m)).toArray.setIfInBounds m (.int .u8 (v : Int)) = (u8s (part k i (m + 1))).toArray := by
  subst hv
  apply Array.ext
  · simp [u8s, part]
  · intro j h1 h2
    have hj : j < k := by simpa [u8s, part] using h2
    rw [Array.getElem_setIfInBounds (by simpa [u8s, part] using hj)]
    simp only [u8s, part, List.map_map, List.getElem_toArray, List.getElem_map, List.getElem_range, Function.comp_apply]
    have hjs : j < (u8s (part k i m)).toArray.size := by simpa [u8s, part] using hj
    by_cases e : m = j
    · subst e; simp
    · rw [if_neg e]
      by_cases h : j < m
      · rw [if_pos h, if_pos (by omega)]
      · rw [if_neg h, if_neg (by omega)]
theorem part_same (k i m : Nat) (h : ent k i m = 0) : part k i (m + 1) = part k i m := by
  unfold part
  refine List.map_congr_left fun l _ => ?_
  by_cases e : l = m
  · subst e; rw [if_pos (by omega), if_neg (by omega), h]
  · by_cases h2 : l < m
    · rw [if_pos (by omega), if_pos h2]
    · rw [if_neg (by omega), if_neg h2]
theorem infoU8 : (Try.prog.info? 5).map (fun i => (i.zero, i.size, i.bytes)) = some (some (.int .u8 0), 1, 1) := by kernel_rfl
theorem made_u8 (k : Nat) : madeCells #[.int .u8 0] k = (u8s (List.replicate k 0)).toArray := by
  apply Array.ext
  · simp [madeCells, u8s]
  · intro j h1 h2
    have hj : j < k := by simpa [u8s] using h2
    simp [madeCells, u8s, Nat.mod_one]
theorem mk_u8 (k : Nat) (hk : k ≤ 16777216) (w : World) : (Instr.makeSlice 24 (.int .i64 (k : Int)) (.int .i64 (k : Int))).run Try.prog w = .ok (.slice (some ⟨w.heap.size, 0, none⟩) k k) (w.alloc (.cells (u8s (List.replicate k 0)).toArray 5)) := by
  obtain ⟨i0, hi, hz0, hz1, hz2⟩ := info_parts infoU8
  have := run_make (P := Try.prog) w 24 5 i0 (.int .u8 0) Try.underlying24 hi hz0 .i64 .i64 k k (by omega) (by omega) (by rw [hz2]; omega) (by omega)
  rw [this, hz1, Nat.mul_one, Int.toNat_natCast]
  rw [show (Value.int .u8 0).cells = #[.int .u8 0] from rfl, made_u8]
theorem xor_255 (i j : Nat) (hi : i < 256) (hj : j < 256) : bits .xor .i64 (i : Int) (j : Int) = ((i ^^^ j : Nat) : Int) := xor_i64 i j (by omega) (by omega)
theorem xor_pos {i j : Nat} (h : i ≠ j) : 0 < i ^^^ j := by
  rcases Nat.eq_zero_or_pos (i ^^^ j) with e | e
  · have h2 : i ^^^ (i ^^^ j) = j := by rw [← Nat.xor_assoc, Nat.xor_self, Nat.zero_xor]
    rw [e, Nat.xor_zero] at h2
    exact absurd h2 h
  · exact e
theorem row_any (k i : Nat) (hk0 : 1 ≤ k) (hk : k ≤ 255) (hi : i < 255) (w : World) : Calls Try.prog 42 #[.int .i64 k, .int .i64 i] w fun e w' =>
    e = .returned (.slice (some ⟨w.heap.size, 0, none⟩) k k) ∧ Blk w' w.heap.size (u8s (rowL k i)).toArray 5 ∧ Below w.heap.size w w' := by
  have hmk := mk_u8 k (by omega)
  go_enter Try.func42, Try.ntmps42
  go_wp2_with fail
  clear hmk
  have hb := Blk.new w (u8s (List.replicate k 0)).toArray 5
  have hB := Below.chainAlloc (Below.refl w.heap.size w) (.cells (u8s (List.replicate k 0)).toArray 5)
  generalize w.alloc (.cells (u8s (List.replicate k 0)).toArray 5) = W at *
  go_loopw [11] (fun v wr => ∃ m : Nat, m ≤ k ∧ v = .int .i64 m ∧ Blk wr w.heap.size (u8s (part k i m)).toArray 5 ∧ Below w.heap.size w wr) (fun v _ => k - (intOf v).toNat)
  case atStart => exact ⟨0, by omega, rfl, by rw [part_zero]; exact hb, hB⟩
  case round =>
    clear hb hB
    obtain ⟨m, hm, rfl, hb, hB⟩ := hrel
    by_cases hlt : m < k
    · have hpl : (u8s (part k i m)).toArray.size = k := by simp [u8s, part]
      have hcx : ∃ u, wr.cell? ⟨w.heap.size, m, none⟩ = some u := by
        refine ⟨(u8s (part k i m)).toArray[m]'(by rw [hpl]; exact hlt), ?_⟩
        rw [hb.facts.1 m, Array.getElem?_eq_getElem]
      obtain ⟨u, hc⟩ := hcx
      have hf := hb.facts.2.1 m
      have hl := hb.lt
      clear hpl
      by_cases hki : k ≤ i
      · have hx := xor_255 i m (by omega) (by omega)
        have hpos : 0 < i ^^^ m := xor_pos (by omega)
        have hlt2 : i ^^^ m < 256 := nat_xor_lt (by omega) (by omega)
        have hset := part_set k i m (gi (i ^^^ m)) (by unfold ent; rw [if_pos hki])
        have HS := Lib.hid hset
        have hg : gi (i ^^^ m) < 256 := expT_lt _
        have hinv := fun wx => inv_any (i ^^^ m) hpos hlt2 wx
        have HI := Lib.hid hinv
        clear hset hinv
        generalize gi (i ^^^ m) = y at *
        generalize i ^^^ m = x at *
        go_wp2_with fail
        refine (HI.out _).mono ?_
        rintro z w1 ⟨rfl, rfl⟩
        go_wp2_with fail
        go_roundw
        case rel => exact ⟨m + 1, by omega, by go_num, hb.setAt m _ HS.out.symm, hB.setCell (Nat.le_refl _) _⟩
        case measure => simp [intOf]; omega
      · by_cases him : i = m
        · subst him
          have HS := Lib.hid (part_set k i i 1 (by unfold ent; rw [if_neg hki, if_pos rfl]))
          go_wp2_with fail
          go_roundw
          case rel => exact ⟨i + 1, by omega, by go_num, hb.setAt i _ HS.out.symm, hB.setCell (Nat.le_refl _) _⟩
          case measure => simp [intOf]; omega
        · have HS := Lib.hid (part_same k i m (by unfold ent; rw [if_neg hki, if_neg him]))
          have hne : ((i : Int) == (m : Int)) = false := by simp; omega
          clear him
          go_wp2_with fail
          go_roundw
          case rel => exact ⟨m + 1, by omega, by go_num, by rw [HS.out]; exact hb, hB⟩
          case measure => simp [intOf]; omega
    · obtain rfl : m = k := by omega
      rw [part_end] at hb
      go_wp2_with fail
      go_ret
      exact ⟨rfl, hb, hB⟩
theorem rrow_ok (k n i : Nat) (hk0 : 1 ≤ k) (hkn : k ≤ n) (hn : n ≤ 255) (hi : i < n) (w : World) : Calls Try.prog 14 #[.int .i64 k, .int .i64 n, .int .i64 i] w fun e w' =>
    e = .returned (.tuple #[.slice (some ⟨w.heap.size, 0, none⟩) k k, .int .i64 0]) ∧ Blk w' w.heap.size (u8s (rowL k i)).toArray 5 ∧ Below w.heap.size w w' := by
  have hmk := mk_u8 k (by omega)
  have hbad := bad0 (k := k) (n := n) (by omega) (by omega) (by omega)
  have HB := Lib.hid hbad
  have q1 : decide ((i : Int) < 0) = false := decide_eq_false (by omega)
  have q2 : decide (n ≤ i) = false := decide_eq_false (by omega)
  clear hbad
  go_enter Try.func14, Try.ntmps14
  go_wp2_with fail
  refine (rbad_any _ _ _).mono ?_
  rw [HB.out]
  rintro x w1 ⟨rfl, rfl⟩
  go_wp2_with fail
  clear hmk
  have hb := Blk.new w (u8s (List.replicate k 0)).toArray 5
  have hB := Below.chainAlloc (Below.refl w.heap.size w) (.cells (u8s (List.replicate k 0)).toArray 5)
  generalize w.alloc (.cells (u8s (List.replicate k 0)).toArray 5) = W at *
  go_loopw [9, 10, 11] (fun v _ _ wr => ∃ m : Nat, m ≤ k ∧ v = .int .i64 m ∧ Blk wr w.heap.size (u8s (part k i m)).toArray 5 ∧ Below w.heap.size w wr) (fun v _ _ _ => k - (intOf v).toNat)
  case atStart => exact ⟨0, by omega, rfl, by rw [part_zero]; exact hb, hB⟩
  case round =>
    clear hb hB
    obtain ⟨m, hm, rfl, hb, hB⟩ := hrel
    by_cases hlt : m < k
    · have hpl : (u8s (part k i m)).toArray.size = k := by simp [u8s, part]
      have hcx : ∃ u, wr.cell? ⟨w.heap.size, m, none⟩ = some u := by
        refine ⟨(u8s (part k i m)).toArray[m]'(by rw [hpl]; exact hlt), ?_⟩
        rw [hb.facts.1 m, Array.getElem?_eq_getElem]
      obtain ⟨u, hc⟩ := hcx
      have hf := hb.facts.2.1 m
      have hl := hb.lt
      clear hpl
      by_cases hki : k ≤ i
      · have hx := xor_255 i m (by omega) (by omega)
        have hpos : 0 < i ^^^ m := xor_pos (by omega)
        have hlt2 : i ^^^ m < 256 := nat_xor_lt (by omega) (by omega)
        have hset := part_set k i m (gi (i ^^^ m)) (by unfold ent; rw [if_pos hki])
        have HS := Lib.hid hset
        have hg : gi (i ^^^ m) < 256 := expT_lt _
        have hinv := fun wx => rinv_any (i ^^^ m) hpos hlt2 wx
        have HI := Lib.hid hinv
        clear hset hinv
        generalize gi (i ^^^ m) = y at *
        generalize i ^^^ m = x at *
        go_wp2_with fail
        refine (HI.out _).mono ?_
        rintro z w1 ⟨rfl, rfl⟩
        go_wp2_with fail
        go_roundw
        case rel => exact ⟨m + 1, by omega, by go_num, hb.setAt m _ HS.out.symm, hB.setCell (Nat.le_refl _) _⟩
        case measure => simp [intOf]; omega
      · by_cases him : i = m
        · subst him
          have HS := Lib.hid (part_set k i i 1 (by unfold ent; rw [if_neg hki, if_pos rfl]))
          go_wp2_with fail
          go_roundw
          case rel => exact ⟨i + 1, by omega, by go_num, hb.setAt i _ HS.out.symm, hB.setCell (Nat.le_refl _) _⟩
          case measure => simp [intOf]; omega
        · have HS := Lib.hid (part_same k i m (by unfold ent; rw [if_neg hki, if_neg him]))
          have hne : ((i : Int) == (m : Int)) = false := by simp; omega
          clear him
          go_wp2_with fail
          go_roundw
          case rel => exact ⟨m + 1, by omega, by go_num, by rw [HS.out]; exact hb, hB⟩
          case measure => simp [intOf]; omega
    · obtain rfl : m = k := by omega
      rw [part_end] at hb
      go_wp2_with fail
      go_ret2
      exact ⟨rfl, hb, hB⟩
/-- What a row answers: its error, and the row. -/
def rowE (k n i : Int) : Int := if badKN k n then 1 else if i < 0 ∨ n ≤ i then 2 else 0
def rowV (k n i : Int) : List Nat := if rowE k n i = 0 then rowL k.toNat i.toNat else []
theorem rowE_bad {k n i : Int} (h : badKN k n = true) : rowE k n i = 1 := by simp [rowE, h]
theorem rowE_out {k n i : Int} (h : badKN k n = false) (h2 : i < 0 ∨ n ≤ i) : rowE k n i = 2 := by simp [rowE, h, h2]
theorem rowE_ok {k n i : Int} (h : badKN k n = false) (h1 : 0 ≤ i) (h2 : i < n) : rowE k n i = 0 := by
  unfold rowE
  rw [if_neg (by simp [h]), if_neg (by omega)]
/-- The post of a row. -/
def RowPost (k n i : Int) (w : World) (e : Ending) (w' : World) : Prop := ∃ v, e = .returned (.tuple #[v, .int .i64 (rowE k n i)]) ∧ (∀ B, RowAt B w' v (rowV k n i)) ∧ Below w.heap.size w w'
theorem RowPost.bad {k n i : Int} {w w' : World} {z : Int} (h : rowE k n i = z) (hz : z ≠ 0) (hb : Below w.heap.size w w') : RowPost k n i w (.returned (.tuple #[.slice none 0 0, .int .i64 z])) w' :=
  ⟨_, by rw [h], fun B => by unfold rowV; rw [if_neg (by omega)]; exact RowAt.nil _ _, hb⟩
theorem RowPost.ok {k n i : Nat} {w w' : World} (h : rowE k n i = 0) (hk : k ≤ 255) (hb : Below w.heap.size w w') (hr : Blk w' w.heap.size (u8s (rowL k i)).toArray 5) : RowPost k n i w (.returned (.tuple #[.slice (some ⟨w.heap.size, 0, none⟩) k k, .int .i64 0])) w' :=
  ⟨_, by rw [h], fun B => by
    unfold rowV
    rw [if_pos h, Int.toNat_natCast, Int.toNat_natCast]
    have := RowAt.of_blk (B := B) (cap := k) hr (by rw [rowL_length]; exact Nat.le_refl _) (by unfold maxLen; omega) (rowL_lt k i)
    rwa [rowL_length] at this, hb⟩
theorem crow_any (k n i : Int) (w : World) : Calls Try.prog 13 #[.int .i64 k, .int .i64 n, .int .i64 i] w (RowPost k n i w) := by
  cases hbad : badKN k n with
  | true =>
    have H := Lib.hid (RowPost.bad (w := w) (rowE_bad (i := i) hbad) (by decide) (Below.refl _ _))
    have hc := chk1 hbad
    have HC := Lib.hid hc
    clear hbad hc
    go_enter Try.func13, Try.ntmps13
    go_wp2_with fail
    refine (cchk_any k n _).mono ?_
    rw [HC.out]
    rintro x w1 ⟨rfl, rfl⟩
    go_wp2_with fail
    go_ret2
    exact H.out
  | false =>
    have HC := Lib.hid (chk0 hbad)
    have hno := bad_no hbad
    obtain ⟨g1, g2, g3⟩ := hno
    by_cases hi : i < 0
    · have H := Lib.hid (RowPost.bad (w := w) (rowE_out (i := i) hbad (.inl hi)) (by decide) (Below.refl _ _))
      clear hbad
      go_enter Try.func13, Try.ntmps13
      go_wp2_with fail
      refine (cchk_any k n _).mono ?_
      rw [HC.out]
      rintro x w1 ⟨rfl, rfl⟩
      go_wp2_with fail
      go_ret2
      exact H.out
    · by_cases hi2 : n ≤ i
      · have H := Lib.hid (RowPost.bad (w := w) (rowE_out (i := i) hbad (.inr hi2)) (by decide) (Below.refl _ _))
        clear hbad
        go_enter Try.func13, Try.ntmps13
        go_wp2_with fail
        refine (cchk_any k n _).mono ?_
        rw [HC.out]
        rintro x w1 ⟨rfl, rfl⟩
        go_wp2_with fail
        go_ret2
        exact H.out
      · obtain ⟨k, rfl⟩ := Int.eq_ofNat_of_zero_le (show 0 ≤ k by omega)
        obtain ⟨n, rfl⟩ := Int.eq_ofNat_of_zero_le (show 0 ≤ n by omega)
        obtain ⟨i, rfl⟩ := Int.eq_ofNat_of_zero_le (show 0 ≤ i by omega)
        have H : Hid (∀ w', Below w.heap.size w w' → Blk w' w.heap.size (u8s (rowL k i)).toArray 5 → RowPost k n i w (.returned (.tuple #[.slice (some ⟨w.heap.size, 0, none⟩) k k, .int .i64 0])) w') :=
          fun w' hb hr => RowPost.ok (rowE_ok hbad (by omega) (by omega)) (by omega) hb hr
        clear hbad
        go_enter Try.func13, Try.ntmps13
        go_wp2_with fail
        refine (cchk_any k n _).mono ?_
        rw [HC.out]
        rintro x w1 ⟨rfl, rfl⟩
        go_wp2_with fail
        refine (row_any k i (by omega) (by omega) (by omega) _).mono ?_
        rintro x w1 ⟨rfl, hr, hb⟩
        go_wp2_with fail
        go_ret2
        exact H.out _ hb hr
theorem rrow_any (k n i : Int) (w : World) : Calls Try.prog 14 #[.int .i64 k, .int .i64 n, .int .i64 i] w (RowPost k n i w) := by
  cases hbad : badKN k n with
  | true =>
    have H := Lib.hid (RowPost.bad (w := w) (rowE_bad (i := i) hbad) (by decide) (Below.refl _ _))
    have HC := Lib.hid hbad
    clear hbad
    go_enter Try.func14, Try.ntmps14
    go_wp2_with fail
    refine (rbad_any k n _).mono ?_
    rw [HC.out]
    rintro x w1 ⟨rfl, rfl⟩
    go_wp2_with fail
    go_ret2
    exact H.out
  | false =>
    have HC := Lib.hid hbad
    have hno := bad_no hbad
    obtain ⟨g1, g2, g3⟩ := hno
    by_cases hi : i < 0
    · have H := Lib.hid (RowPost.bad (w := w) (rowE_out (i := i) hbad (.inl hi)) (by decide) (Below.refl _ _))
      clear hbad
      go_enter Try.func14, Try.ntmps14
      go_wp2_with fail
      refine (rbad_any k n _).mono ?_
      rw [HC.out]
      rintro x w1 ⟨rfl, rfl⟩
      go_wp2_with fail
      go_ret2
      exact H.out
    · by_cases hi2 : n ≤ i
      · have H := Lib.hid (RowPost.bad (w := w) (rowE_out (i := i) hbad (.inr hi2)) (by decide) (Below.refl _ _))
        clear hbad
        go_enter Try.func14, Try.ntmps14
        go_wp2_with fail
        refine (rbad_any k n _).mono ?_
        rw [HC.out]
        rintro x w1 ⟨rfl, rfl⟩
        go_wp2_with fail
        go_ret2
        exact H.out
      · obtain ⟨k, rfl⟩ := Int.eq_ofNat_of_zero_le (show 0 ≤ k by omega)
        obtain ⟨n, rfl⟩ := Int.eq_ofNat_of_zero_le (show 0 ≤ n by omega)
        obtain ⟨i, rfl⟩ := Int.eq_ofNat_of_zero_le (show 0 ≤ i by omega)
        refine (rrow_ok k n i (by omega) (by omega) (by omega) (by omega) w).mono ?_
        rintro x w1 ⟨rfl, hr, hb⟩
        exact RowPost.ok (rowE_ok hbad (by omega) (by omega)) (by omega) hb hr
end Go.Proofs.Ytibilabhokkhmaa
