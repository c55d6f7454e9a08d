/-
  Tables of bytes: copies: the program's and the document's contracts (chapter 3).
-/
import Derived.Test.YtibilabhokkhmaaMx9
namespace Go.Proofs.Ytibilabhokkhmaa
open Go.RowKit
set_option linter.unusedVariables false
set_option maxRecDepth 100000
set_option maxHeartbeats 2000000
theorem below_of_grown {w w' : World} (h : w.grownBy w' none) : Below w.heap.size w w' := ⟨h.os, h.tape, h.output, h.size, fun k hk => h.block k hk (by simp)⟩
theorem u8s_one (bs : List Nat) : ∀ u ∈ u8s bs, u.oneCell' = true := fun u hu => by
  obtain ⟨x, _, rfl⟩ := List.mem_map.1 hu
  rfl
theorem copied_any (B : Nat) (v : Value) (rows : Tab) (hn : rows.length ≤ 255) (hw : ∀ i (h : i < rows.length), rows[i].length ≤ 65536) (w : World) (h : MatAt B w v rows) :
    Calls Try.prog 49 #[v] w fun e w' => e = .returned (.slice (some ⟨w.heap.size, 0, none⟩) rows.length rows.length) ∧ OwnM w' w.heap.size 0 rows ∧ Below w.heap.size w w' := by
  have h0 := h
  obtain ⟨a, cap, rfl, hm, -⟩ := h.at
  clear h
  have hmk := mk_rows rows.length (by omega)
  have HW := Lib.hid hw
  obtain ⟨i0, hi, hz0, hz1, hz2⟩ := info_parts infoU8
  clear hw
  go_enter Try.func49, Try.ntmps49
  go_wp2_with fail
  clear hmk
  have hb := OwnM.new w rows.length
  have hB := Below.chainAlloc (Below.refl w.heap.size w) (.cells (Array.replicate rows.length (Value.slice none 0 0)) 24)
  generalize w.alloc (.cells (Array.replicate rows.length (Value.slice none 0 0)) 24) = W at *
  go_loopw [4, 5, 11] (fun _ _ i wr => ∃ m : Nat, m ≤ rows.length ∧ i = .int .i64 m ∧ OwnM wr w.heap.size 0 (soFar rows (List.replicate rows.length []) m) ∧ Below w.heap.size w wr) (fun _ _ i _ => rows.length - (intOf i).toNat)
  case atStart => exact ⟨0, by omega, rfl, by rw [soFar_zero]; exact hb, hB⟩
  case round =>
    clear hb hB
    obtain ⟨m, hm', rfl, hb, hB⟩ := hrel
    by_cases hlt : m < rows.length
    · obtain ⟨_, _, e, -, hc⟩ := (h0.chain hB).at
      cases e
      obtain ⟨g, off, u, rfl, hg, hck, hru⟩ := hc m hlt
      obtain ⟨au, cu, rfl, -⟩ := hru.at
      have hlw := HW.out m hlt
      have hlen := soFar_length rows (List.replicate rows.length []) m (by simp) hm'
      have HLEN := Lib.hid hlen
      have hsn := soFar_set rows (List.replicate rows.length []) m (by simp) hlt
      have HSN := Lib.hid hsn
      have hbz : w.heap.size ≤ wr.heap.size := hB.size
      have hu8 := u8s_length rows[m]
      have HU8 := Lib.hid hu8
      have hone := u8s_one rows[m]
      have HONE := Lib.hid hone
      have h256 := hru.2
      have H256 := Lib.hid h256
      have hsl := hru.1
      clear hc hlen hsn hone h256 hru
      generalize rows[m] = rm at *
      generalize rm.length = lr at *
      generalize soFar rows (List.replicate rows.length []) m = R at *
      go_wp2_with (at_builtin; refine wpList_append_sl rfl (.const (.slice none 0 0)) (.tmp 18) 24 rfl w.heap.size B 5 5 i0 _ 1 Try.underlying24 hi hz0 hz1 hz2 rfl (.slice none 0 0) 0 [] rfl (Seg.nil _ _ _ _) (.slice au lr cu) (u8s rm) rfl hsl HONE.out (by unfold maxLen; omega) (by omega) hbz ?_; intro v' w3 hown hgrow hat; rw [List.nil_append, Nat.zero_add, hu8] at hown; have hb3 := below_of_grown hgrow; have hrow := RowAt.of_seg hown H256.out; replace hb := hb.chain hb3; replace hB := Below.chain hb3 hB; obtain ⟨av, cv, rfl⟩ := hown.form; obtain ⟨az, cz, hcz, -⟩ := hb.read m (by rw [HLEN.out]; exact hlt); rw [Nat.zero_add] at hcz; have hfz := hb.free m; have hst := hb.store m (by rw [HLEN.out]; exact hlt) _ _ _ _ hrow; rw [HSN.out, Nat.zero_add] at hst; have HST := Lib.hid hst; have hl := hb.lt; clear hown hgrow hat hb3 hrow hst hck hsl hu8)
      go_roundw
      case rel => exact ⟨m + 1, by omega, by go_num, HST.out, hB.setCell (Nat.le_refl _) _⟩
      case measure => simp [intOf]; omega
    · obtain rfl : m = rows.length := by omega
      rw [soFar_end _ _ rows.length rfl (by simp)] at hb
      go_wp2_with fail
      go_ret
      exact ⟨rfl, hb, hB⟩
def SegPost (rows : Tab) (w : World) (e : Ending) (w' : World) : Prop := ∃ v', e = .returned v' ∧ SegM w' w.heap.size v' rows ∧ Below w.heap.size w w'
theorem rcopied_any (B : Nat) (v : Value) (rows : Tab) (hn : rows.length ≤ 255) (hw : ∀ i (h : i < rows.length), rows[i].length ≤ 65536) (w : World) (h : MatAt B w v rows) :
    Calls Try.prog 68 #[v] w (SegPost rows w) := by
  have h0 := h
  obtain ⟨a, cap, rfl, hm, -⟩ := h.at
  clear h
  have HW := Lib.hid hw
  obtain ⟨i0, hi, hz0, hz1, hz2⟩ := info_parts infoU8
  obtain ⟨j0, hj, hy0, hy1, hy2⟩ := info_parts infoRow
  clear hw
  go_enter Try.func68, Try.ntmps68
  go_wp2_with fail
  go_loopw [3, 4, 5] (fun ov i _ wr => ∃ m : Nat, m ≤ rows.length ∧ i = .int .i64 m ∧ SegM wr w.heap.size ov (rows.take m) ∧ Below w.heap.size w wr) (fun _ i _ _ => rows.length - (intOf i).toNat)
  case atStart => exact ⟨0, by omega, rfl, SegM.nil _ _, Below.refl _ _⟩
  case round =>
    obtain ⟨m, hm', rfl, hs, hB⟩ := hrel
    have htl : (rows.take m).length = m := by simp; omega
    obtain ⟨ao, co, rfl⟩ := hs.form htl
    by_cases hlt : m < rows.length
    · obtain ⟨_, _, e, -, hc⟩ := (h0.chain hB).at
      cases e
      obtain ⟨g, off, u, rfl, hg, hck, hru⟩ := hc m hlt
      obtain ⟨au, cu, rfl, -⟩ := hru.at
      have hlw := HW.out m hlt
      have hsn : rows.take (m + 1) = rows.take m ++ [rows[m]] := List.take_succ_eq_append_getElem hlt
      have HSN := Lib.hid hsn
      have HTL := Lib.hid htl
      have hbz : w.heap.size ≤ wr.heap.size := hB.size
      have hu8 := u8s_length rows[m]
      have hone := u8s_one rows[m]
      have HONE := Lib.hid hone
      have h256 := hru.2
      have H256 := Lib.hid h256
      have hsl := hru.1
      clear hc hsn hone h256 hru htl
      generalize rows[m] = rm at *
      generalize rm.length = lr at *
      go_wp2_with (first
        | (at_builtin; refine wpList_append_sl rfl (.tmp 12) (.tmp 16) 24 rfl w.heap.size B 5 5 i0 _ 1 Try.underlying24 hi hz0 hz1 hz2 rfl (.slice none 0 0) 0 [] rfl (Seg.nil _ _ _ _) (.slice au lr cu) (u8s rm) rfl hsl HONE.out (by unfold maxLen; omega) (by omega) hbz ?_; intro v' w3 hown hgrow hat; rw [List.nil_append, Nat.zero_add, hu8] at hown; have hb3 := below_of_grown hgrow; have hrow := RowAt.of_seg hown H256.out; replace hs := hs.chain hb3; have hB3 := Below.chain hb3 hB; obtain ⟨av, cv, rfl⟩ := hown.form; obtain ⟨vs, hv1, hv2, hv3⟩ := hs; have hv2' := hv2; rw [HTL.out] at hv2; have hbz3 : w.heap.size ≤ w3.heap.size := hB3.size; clear hown hgrow hat hb3 hck hsl hu8)
        | (at_builtin; refine wpList_append_seg _ rfl (.tmp 18) (.tmp 20) 30 rfl w.heap.size 24 j0 _ 1 24 Try.underlying30 hj hy0 hy1 hy2 rfl (by decide) (.slice ao m co) m vs rfl (hv2.alloc _) ⟨w3.heap.size, 0, none⟩ 1 1 [.slice av lr cv] rfl rfl (cells_new _ _ _) (by simp [Value.oneCell']) (by decide) (by unfold maxLen; omega) (by omega) (by simp; omega) (w3.heap.size + 1) (size_alloc _ _) ?_; intro g' off' cap' w4 hown2 hgrow2 hat2))
      have hbb := Below.only (Below.chainAlloc hB3 _) (Only.of_grown hgrow2) (fun x hm => (hv2.blk x (by simpa using hm)).1)
      have hsm := SegM.snoc hv1 hv2' hv3 hrow (by rw [HTL.out]; exact hown2) hgrow2
      rw [← HSN.out] at hsm
      clear hgrow2 hat2 hv2 hv2' hv3 hB hB3 hown2 hrow
      go_wp2_with fail
      go_roundw
      case rel => exact ⟨m + 1, by omega, by go_num, hsm, hbb⟩
      case measure => simp [intOf]; omega
    · obtain rfl : m = rows.length := by omega
      rw [List.take_length] at hs
      have HP : Hid (∃ v', Ending.returned (.slice ao rows.length co) = .returned v' ∧ SegM wr w.heap.size v' rows ∧ Below w.heap.size w wr) := ⟨_, rfl, hs, hB⟩
      have hlt' : ¬ (rows.length : Int) < (rows.length : Int) := by omega
      clear hs htl
      go_wp2_with fail
      go_ret
      exact HP.out
end Go.Proofs.Ytibilabhokkhmaa
