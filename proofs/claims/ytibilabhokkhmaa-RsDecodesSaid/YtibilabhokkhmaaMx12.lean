/-
  Tables of bytes: the inverse: the program's contract (chapter 3).
-/
import Derived.Test.YtibilabhokkhmaaMx11
namespace Go.Proofs.Ytibilabhokkhmaa
open Go.RowKit
set_option linter.unusedVariables false
set_option maxRecDepth 100000
set_option maxHeartbeats 2000000
def redI (rows : Tab) : Nat × (Tab × Tab) := redSo rows (idM rows.length) rows.length
def invE (rows : Tab) : Int := if chkM rows ≠ 0 then chkM rows else if rows.length ≠ wid rows then 16 else if (redI rows).1 < rows.length then 14 else 0
def invV (rows : Tab) : Tab := if invE rows = 0 then (redI rows).2.2 else []
def InvPost (rows : Tab) (w : World) (e : Ending) (w' : World) : Prop := ∃ v, e = .returned (.tuple #[v, .int .i64 (invE rows)]) ∧ MatAt 0 w' v (invV rows) ∧ Below w.heap.size w w'
theorem InvPost.no {rows : Tab} {w w' : World} {z : Int} (h : invE rows = z) (hz : z ≠ 0) (hb : Below w.heap.size w w') : InvPost rows w (.returned (.tuple #[.slice none 0 0, .int .i64 z])) w' :=
  ⟨_, by rw [h], by unfold invV; rw [if_neg (by omega)]; exact MatAt.nil _ _, hb⟩
theorem InvPost.yes {rows : Tab} {w w' : World} {v : Value} (h : invE rows = 0) (hm : MatAt 0 w' v (redI rows).2.2) (hb : Below w.heap.size w w') : InvPost rows w (.returned (.tuple #[v, .int .i64 0])) w' :=
  ⟨_, by rw [h], by unfold invV; rw [if_pos h]; exact hm, hb⟩
theorem invE_chk {rows : Tab} (h : chkM rows ≠ 0) : invE rows = chkM rows := by unfold invE; rw [if_pos h]
theorem invE_len {rows : Tab} (h : chkM rows = 0) (h2 : rows.length ≠ wid rows) : invE rows = 16 := by unfold invE; rw [if_neg (by simpa using h), if_pos h2]
theorem invE_sing {rows : Tab} (h : chkM rows = 0) (h2 : rows.length = wid rows) (h3 : (redI rows).1 < rows.length) : invE rows = 14 := by
  unfold invE; rw [if_neg (by simpa using h), if_neg (by simpa using h2), if_pos h3]
theorem invE_ok {rows : Tab} (h : chkM rows = 0) (h2 : rows.length = wid rows) (h3 : ¬ (redI rows).1 < rows.length) : invE rows = 0 := by
  unfold invE; rw [if_neg (by simpa using h), if_neg (by simpa using h2), if_neg h3]
theorem wide_id (n : Nat) : Wide (idM n) n := fun i hi => by simp [idM, idRow_length]
theorem invert_any (B : Nat) (v : Value) (rows : Tab) (w : World) (h : MatAt B w v rows) : Calls Try.prog 27 #[v] w (InvPost rows w) := by
  have h0 := h
  obtain ⟨a, cap, rfl, hm, hc0⟩ := h.at
  clear h
  by_cases hc : chkM rows = 0
  · obtain ⟨⟨n1, n2⟩, ⟨w1, w2⟩, hw⟩ := chkM_zero hc
    have HC := Lib.hid hc
    have HW := Lib.hid (wide_of hw)
    obtain ⟨g, off, u0, rfl, hg, hck, hr0⟩ := hc0 0 (by omega)
    obtain ⟨a0, c0, rfl, -⟩ := hr0.at
    rw [wid_eq (by omega), Nat.add_zero] at hck
    clear hr0 hw hc0
    by_cases hl : rows.length = wid rows
    · have heq : ((rows.length : Int) != (wid rows : Int)) = false := by simp [hl]
      have HL := Lib.hid hl
      have HSING : Hid (∀ wx, (redI rows).1 < rows.length → Below w.heap.size w wx → InvPost rows w (.returned (.tuple #[.slice none 0 0, .int .i64 14])) wx) := fun wx h hx => InvPost.no (invE_sing hc hl h) (by decide) hx
      have HOK : Hid (∀ wx v, ¬ (redI rows).1 < rows.length → MatAt 0 wx v (redI rows).2.2 → Below w.heap.size w wx → InvPost rows w (.returned (.tuple #[v, .int .i64 0])) wx) := fun wx v h hm hx => InvPost.yes (invE_ok hc hl h) hm hx
      have hinv := redSo_inv (M := rows) (O := idM rows.length) (n := rows.length) rfl (idM_length _) HW.out (wide_id _) rows.length
      have hrl : (redI rows).2.2.length = rows.length := hinv.2.1
      have HRL := Lib.hid hrl
      clear hc hl hinv hrl
      go_enter Try.func27, Try.ntmps27
      go_wp2_with fail
      refine (check_any B _ rows _ h0).mono ?_
      rw [HC.out]
      rintro x wa ⟨rfl, rfl⟩
      go_wp2_with fail
      refine (ident_own rows.length n1 n2 _).mono ?_
      rintro x w3 ⟨rfl, hI, hb3⟩
      have hlI := hI.lt
      clear hck
      go_wp2_with fail
      refine (copied_any B _ rows n2 (fun i hi => by rw [HW.out i hi]; omega) _ (h0.chain hb3)).mono ?_
      rintro x w4 ⟨rfl, hM, hb4⟩
      have hI4 := hI.chain hb4
      have hB4 := Below.chain hb4 hb3
      have hlM := hM.lt
      have hsz := hb4.size
      clear hI hb3 hb4
      generalize w3.heap.size = gm at *
      have hne : gm ≠ w.heap.size := by omega
      go_upto_region 8 with fail
      have kb := Blk.new w4 #[.slice (some ⟨gm, 0, none⟩) rows.length rows.length, .slice (some ⟨w.heap.size, 0, none⟩) rows.length rows.length] 84
      have hM5 := hM.chain (Below.chainAlloc (Below.refl _ _) (.cells #[.slice (some ⟨gm, 0, none⟩) rows.length rows.length, .slice (some ⟨w.heap.size, 0, none⟩) rows.length rows.length] 84))
      have hI5 := hI4.chain (Below.chainAlloc (Below.refl _ _) (.cells #[.slice (some ⟨gm, 0, none⟩) rows.length rows.length, .slice (some ⟨w.heap.size, 0, none⟩) rows.length rows.length] 84))
      have hB5 := Below.chainAlloc hB4 (.cells #[.slice (some ⟨gm, 0, none⟩) rows.length rows.length, .slice (some ⟨w.heap.size, 0, none⟩) rows.length rows.length] 84)
      generalize w4.alloc (.cells #[.slice (some ⟨gm, 0, none⟩) rows.length rows.length, .slice (some ⟨w.heap.size, 0, none⟩) rows.length rows.length] 84) = w5 at *
      have hnb : w4.heap.size ∉ [gm, w.heap.size] := by simp; omega
      generalize w4.heap.size = bx at *
      have q0 : w5.cell? ⟨bx, 0, none⟩ = some (.slice (some ⟨gm, 0, none⟩) rows.length rows.length) := kb.facts.1 0
      have q1 : w5.cell? ⟨bx, 1, none⟩ = some (.slice (some ⟨w.heap.size, 0, none⟩) rows.length rows.length) := kb.facts.1 1
      go_wp2_with fail
      refine (reduce_any gm 0 rows.length w.heap.size 0 rows.length rows.length rows.length rows.length rows (idM rows.length) n1 n2 _ ⟨hM5, hI5, hne, idM_length _⟩ rfl (by have := HW.out; rw [← HL.out] at this; exact this) (wide_id _) n2 n2).mono ?_
      rintro x w6 ⟨rfl, hP, ho⟩
      have hB6 := Below.only hB5 ho (fun x hx => by simp at hx; omega)
      have q1' : w6.cell? ⟨bx, 1, none⟩ = some (.slice (some ⟨w.heap.size, 0, none⟩) rows.length rows.length) := (kb.only ho hnb).facts.1 1
      have HP : Hid (OwnP w6 gm 0 w.heap.size 0 (redI rows).2.1 (redI rows).2.2) := hP
      clear q0 q1 kb hP ho hM5 hI5 hB5 hM hI4 hB4
      rw [show redSo rows (idM rows.length) rows.length = redI rows from rfl]
      by_cases hs : (redI rows).1 < rows.length
      · have HS := Lib.hid (HSING.out w6 hs hB6)
        have hs' : ((redI rows).1 : Int) < (rows.length : Int) := by omega
        clear hs HP HOK HSING HRL
        generalize redI rows = R at *
        go_wp2_with fail
        go_ret2
        exact HS.out
      · have HS := Lib.hid (HOK.out w6 (.slice (some ⟨w.heap.size, 0, none⟩) rows.length rows.length) hs (HP.out.o.mat HRL.out.symm (Nat.le_refl _) (by unfold maxLen; omega)) hB6)
        have hs' : ¬ ((redI rows).1 : Int) < (rows.length : Int) := by omega
        clear hs HP HOK HSING HRL
        generalize redI rows = R at *
        go_wp2_with fail
        go_ret2
        exact HS.out
    · have heq : ((rows.length : Int) != (wid rows : Int)) = true := by simp; omega
      have HP := Lib.hid (InvPost.no (w := w) (invE_len hc hl) (by decide) (Below.refl _ _))
      clear hc hl
      go_enter Try.func27, Try.ntmps27
      go_wp2_with fail
      refine (check_any B _ rows _ h0).mono ?_
      rw [HC.out]
      rintro x wa ⟨rfl, rfl⟩
      go_wp2_with fail
      go_ret2
      exact HP.out
  · have hce : (chkM rows != 0) = true := by simpa using hc
    have HP := Lib.hid (InvPost.no (w := w) (invE_chk hc) hc (Below.refl _ _))
    clear hc hc0
    go_enter Try.func27, Try.ntmps27
    go_wp2_with fail
    refine (check_any B _ rows _ h0).mono ?_
    rintro x wa ⟨rfl, rfl⟩
    generalize chkM rows = z at *
    go_wp2_with fail
    go_ret2
    exact HP.out
end Go.Proofs.Ytibilabhokkhmaa
