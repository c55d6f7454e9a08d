/-
  Timers: the document's Set (chapter 13).
-/
import Derived.Test.YtphejbjbleeigaaTm9
namespace Go.Proofs.Ytphejbjbleeigaa
open Go Go.RowKit
set_option linter.unusedVariables false
set_option maxRecDepth 100000
set_option maxHeartbeats 4000000
/-- Where it is put. -/
theorem insD_at {d : Du} : ∀ {xs : List Du} {i : Nat}, i ≤ xs.length → (∀ x ∈ xs.take i, Du.lt x d) → (∀ h : i < xs.length, ¬ Du.lt xs[i] d) → insD d xs = xs.take i ++ [d] ++ xs.drop i
  | [], i, _, _, _ => by simp [insD]
  | x :: xs, 0, _, _, h => by
    have hx : ¬ Du.lt x d := h (by simp)
    simp [insD, hx]
  | x :: xs, i + 1, hi, h1, h2 => by
    have hx : Du.lt x d := h1 x (by simp)
    have ih := insD_at (d := d) (xs := xs) (i := i) (by simpa using hi) (fun y hy => h1 y (by simp [hy])) (fun h => by
      have := h2 (by simpa using h)
      simpa using this)
    simp [insD, hx, ih]
theorem rset13_bad (d : Du) (ao : Option Addr) (n cap : Nat) (w : World) (hz : d.at_ < 0 ∨ 1099511627776 < d.at_) : Calls Try.prog 95 #[.slice ao n cap, encK d.key, .int .i64 d.at_] w fun e w' => e = .returned (.tuple #[.slice ao n cap, .int .i64 2]) ∧ Below w.heap.size w w' := by
  obtain ⟨a, b, z⟩ := d
  unfold encK Du.key
  dsimp only at *
  rcases hz with hz | hz
  · go_enter Try.func95, Try.ntmps95
    go_wp2
    go_ret2
    exact ⟨rfl, Below.chainAlloc (Below.refl _ _) _⟩
  · have hz2 : ¬ z < 0 := by omega
    go_enter Try.func95, Try.ntmps95
    go_wp2
    go_ret2
    exact ⟨rfl, Below.chainAlloc (Below.refl _ _) _⟩
/-- The answer of the document's Set. -/
def RSetPost (d : Du) (xs : List Du) (w : World) (e : Ending) (w' : World) : Prop :=
  ∃ v', e = .returned (.tuple #[v', .int .i64 0]) ∧ Seg w' w.heap.size 96 3 v' (insD d (dropD d.key xs)).length (duS (insD d (dropD d.key xs))) ∧ Below w.heap.size w w'
theorem one_duS (xs : List Du) : ∀ u ∈ duS xs, u.oneCell' = true := by
  intro u hu
  unfold duS at hu
  obtain ⟨d, _, hd⟩ := List.mem_flatMap.1 hu
  simp [duC] at hd
  rcases hd with rfl | rfl | rfl <;> rfl
theorem rset13_ok (d : Du) (base : Nat) (v : Value) (xs : List Du) (w : World) (hs : Seg w base 96 3 v xs.length (duS xs)) (hl : xs.length ≤ 900) (h0 : 0 ≤ d.at_) (h1 : d.at_ ≤ 1099511627776) :
    Calls Try.prog 95 #[v, encK d.key, .int .i64 d.at_] w (RSetPost d xs w) := by
  obtain ⟨i0, hi, hz0, hz1, hz2⟩ := info_parts infoDue
  obtain ⟨ao, cap, rfl⟩ := hs.form
  have hB := Below.chainAlloc (Below.refl _ w) (.cells #[.int .i64 d.s, .int .u32 d.b] 69)
  have hkb := Blk.new w #[.int .i64 d.s, .int .u32 d.b] 69
  have HD := Lib.hid (rdrop13_any d.key base _ xs _ (hs.chain hB) (by omega))
  have HB := Lib.hid hB
  have HKB := Lib.hid hkb
  obtain ⟨B, hBB⟩ : ∃ B, w.heap.size = B := ⟨_, rfl⟩
  have HBB := Lib.hid hBB
  rw [hBB] at HKB
  have HDL := Lib.hid (dropD_le d.key xs)
  unfold RSetPost
  have HLE : Hid (∀ (x y : Du) w', Calls Try.prog 128 #[.agg #[.int .i64 x.s, .int .u32 x.b, .int .i64 x.at_], .agg #[.int .i64 y.s, .int .u32 y.b, .int .i64 y.at_]] w' fun e w2 => e = .returned (.bool (decide (Du.lt x y))) ∧ Below w'.heap.size w' w2) := Lib.hid (fun x y w' => rless_any x y w')
  obtain ⟨a, b, z⟩ := d
  unfold encK Du.key at *
  dsimp only at *
  clear hs hB hkb hBB
  go_enter Try.func95, Try.ntmps95
  go_wp2_with fail
  rw [HBB.out]
  refine HD.out.mono ?_
  rintro e w1 ⟨v1, rfl, hsg, hb1⟩
  generalize (atD (a, b) xs).isSome = was at *
  obtain ⟨ys, hys⟩ : ∃ ys, dropD (a, b) xs = ys := ⟨_, rfl⟩
  rw [hys] at hsg HDL
  have HYS := Lib.hid hys
  clear hys
  have hB1 := Below.chain hb1 HB.out
  have k1 := HKB.out.below hb1 (by rw [size_alloc]; have := HBB.out; omega)
  obtain ⟨ay, cy, rfl⟩ := hsg.form
  have z0 := k1.facts.1 0
  have z1 := k1.facts.1 1
  have HSG0 := Lib.hid (hsg.alloc (.cells #[.int .i64 a, .int .u32 b, .int .i64 z] 96))
  have HX0 := Lib.hid (Blk.new w1 #[.int .i64 a, .int .u32 b, .int .i64 z] 96)
  have HB0 := Lib.hid (Below.chainAlloc hB1 (.cells #[.int .i64 a, .int .u32 b, .int .i64 z] 96))
  obtain ⟨bx, hbx⟩ : ∃ bx, w1.heap.size = bx := ⟨_, rfl⟩
  have HBX := Lib.hid hbx
  have hyl := HDL.out
  have hyi : (ys.length : Int) ≤ 900 := by omega
  have HBZ : Hid (B ≤ bx) := Lib.hid (by have := hB1.size; have := HBB.out; omega)
  rw [hbx] at HX0
  clear hb1 hB1 k1 hsg hbx HB HKB HD
  go_wp2_with fail
  rw [HBX.out]
  go_loopw [9] (fun i wr => ∃ j : Nat, j ≤ ys.length ∧ i = .int .i64 j ∧ Hid (∀ x ∈ ys.take j, Du.lt x ⟨a, b, z⟩) ∧ Hid (Seg wr B 96 3 (.slice ay ys.length cy) ys.length (duS ys)) ∧ Hid (Blk wr bx #[.int .i64 a, .int .u32 b, .int .i64 z] 96) ∧ Hid (Below w.heap.size w wr)) (fun i _ => ys.length - (intOf i).toNat)
  case atStart => exact ⟨0, Nat.zero_le _, rfl, Lib.hid (by simp), Lib.hid (HSG0.out.le (by rw [size_alloc]; have := HBB.out; omega)), HX0, HB0⟩
  case round =>
    clear HSG0 HX0 HB0 z0 z1
    obtain ⟨j, hj, rfl, HN, HSG, HX, HB⟩ := hrel
    have hji0 : (0 : Int) ≤ (j : Int) := by omega
    by_cases hlt : j < ys.length
    · obtain ⟨g, off, _, e, hgb, hgw, _⟩ := HSG.out.shape (by omega)
      cases e
      have hji : (j : Int) < (ys.length : Int) := by omega
      have htk := List.take_succ_eq_append_getElem hlt
      have hins := fun (h2 : ¬ Du.lt ys[j] ⟨a, b, z⟩) => insD_at (d := ⟨a, b, z⟩) hj HN.out (fun _ => h2)
      have hdu := fun w' (h : Below wr.heap.size wr w') => (HSG.out.chain h).du hlt
      obtain ⟨d, hd⟩ : ∃ d, ys[j] = d := ⟨_, rfl⟩
      rw [hd] at htk hins hdu
      have HLT := Lib.hid hlt
      have HTK := Lib.hid htk
      obtain ⟨p, q, u⟩ := d
      have HMK : Hid (∀ w', Below wr.heap.size wr w' → ((w'.cell? ⟨g, off + j * 3, none⟩ = some (.int .i64 p) ∧ w'.cell? ⟨g, off + j * 3 + 1, none⟩ = some (.int .u32 q) ∧ w'.cell? ⟨g, off + j * 3 + 2, none⟩ = some (.int .i64 u)) ∧ (w'.cell? ⟨bx, 0, none⟩ = some (.int .i64 a) ∧ w'.cell? ⟨bx, 1, none⟩ = some (.int .u32 b) ∧ w'.cell? ⟨bx, 2, none⟩ = some (.int .i64 z))) ∧ Below wr.heap.size wr w') :=
        Lib.hid fun w' h => ⟨⟨hdu w' h, ((HX.out.below h HX.out.lt).facts.1 0), ((HX.out.below h HX.out.lt).facts.1 1), ((HX.out.below h HX.out.lt).facts.1 2)⟩, h⟩
      clear htk hd hlt hdu
      by_cases hle : Du.lt ⟨p, q, u⟩ ⟨a, b, z⟩
      · have HN2 : Hid (∀ x ∈ ys.take (j + 1), Du.lt x ⟨a, b, z⟩) := Lib.hid (by
          rw [HTK.out]
          intro x hx
          rcases List.mem_append.1 hx with hx | hx
          · exact HN.out x hx
          · rw [List.mem_singleton.1 hx]
            exact hle)
        have HLE1 := Lib.hid (fun w' => HLE.out ⟨p, q, u⟩ ⟨a, b, z⟩ w')
        rw [decide_eq_true hle] at HLE1
        clear hle hins
        go_upto_region 6 with fail
        go_region_held3 (fun w' => ((w'.cell? ⟨g, off + j * 3, none⟩ = some (.int .i64 p) ∧ w'.cell? ⟨g, off + j * 3 + 1, none⟩ = some (.int .u32 q) ∧ w'.cell? ⟨g, off + j * 3 + 2, none⟩ = some (.int .i64 u)) ∧ (w'.cell? ⟨bx, 0, none⟩ = some (.int .i64 a) ∧ w'.cell? ⟨bx, 1, none⟩ = some (.int .u32 b) ∧ w'.cell? ⟨bx, 2, none⟩ = some (.int .i64 z))) ∧ Below wr.heap.size wr w')
          (first
            | exact HMK.out _ (Below.refl _ _).drew
            | exact HMK.out _ (Below.refl _ _)
            | exact HMK.out _ (Below.chain hb2 (Below.refl _ _).drew))
          ((go_at_call 128; refine (HLE1.out _).mono ?_; rintro e w2 ⟨rfl, hb2⟩))
        have HB2 := Lib.hid (Below.chain hb2 (Below.refl _ _).drew)
        have HSG2 := Lib.hid (HSG.out.chain HB2.out)
        have HX2 := Lib.hid (HX.out.below HB2.out HX.out.lt)
        have HBB2 := Lib.hid (Below.chain HB2.out HB.out)
        clear hb2
        go_wp2_with fail
        go_roundw
        case measure => have := HLT.out; simp [intOf]; omega
        case rel => exact ⟨j + 1, HLT.out, by go_num, HN2, HSG2, HX2, HBB2⟩
      · have HLE1 := Lib.hid (fun w' => HLE.out ⟨p, q, u⟩ ⟨a, b, z⟩ w')
        rw [decide_eq_false hle] at HLE1
        have HINS := Lib.hid (hins hle)
        have hcj : (j : Int) < (cy : Int) := by
          rcases HSG.out.2 with ⟨h0, _⟩ | ⟨_, _, _, _, hv, _, _, hn, _⟩
          · cases h0
          · cases hv
            have := HLT.out
            omega
        have hcm : (cy : Int) ≤ 9223372036854775807 := by
          rcases HSG.out.2 with ⟨h0, _⟩ | ⟨_, _, _, _, hv, _, _, hn, hc, _⟩
          · cases h0
          · cases hv
            unfold maxLen at hc
            omega
        have hjc : (j : Int) ≤ (cy : Int) := by omega
        have hc2 : ¬ (j : Int) = (cy : Int) := by omega
        have hc3 : ¬ (cy : Int) = (j : Int) := by omega
        have hc4 : ¬ j = cy := by omega
        have hc5 : ¬ cy = j := by omega
        clear hle hins
        go_upto_region 6 with fail
        go_region_held3 (fun w' => ((w'.cell? ⟨g, off + j * 3, none⟩ = some (.int .i64 p) ∧ w'.cell? ⟨g, off + j * 3 + 1, none⟩ = some (.int .u32 q) ∧ w'.cell? ⟨g, off + j * 3 + 2, none⟩ = some (.int .i64 u)) ∧ (w'.cell? ⟨bx, 0, none⟩ = some (.int .i64 a) ∧ w'.cell? ⟨bx, 1, none⟩ = some (.int .u32 b) ∧ w'.cell? ⟨bx, 2, none⟩ = some (.int .i64 z))) ∧ Below wr.heap.size wr w')
          (first
            | exact HMK.out _ (Below.refl _ _).drew
            | exact HMK.out _ (Below.refl _ _)
            | exact HMK.out _ (Below.chain hb2 (Below.refl _ _).drew))
          ((go_at_call 128; refine (HLE1.out _).mono ?_; rintro e w2 ⟨rfl, hb2⟩))
        have HB2 := Lib.hid (Below.chain hb2 (Below.refl _ _).drew)
        have HSZ := Lib.hid (HSG.out.chain HB2.out)
        have HXZ := Lib.hid (HX.out.below HB2.out HX.out.lt)
        have HBZ2 := Lib.hid (Below.chain HB2.out HB.out)
        have hjl := HLT.out
        clear hb2 HMK HLE1
        obtain ⟨wz, rfl⟩ : ∃ wz, wz = w2 := ⟨_, rfl⟩
        have HSW : Hid (Seg wz B 96 3 (.slice (some ⟨g, off, none⟩) ys.length cy) ys.length (duS ys)) := HSZ
        obtain ⟨q1, q2⟩ : ys.length + 1 ≤ maxLen ∧ (ys.length + 1) * 24 ≤ 140737488355328 := by
          unfold maxLen
          omega
        have HR1 : Hid (RdS wz 3 (.slice (some ⟨g, off, none⟩) j cy) j (duS (ys.take j))) := Lib.hid (by rw [duS_take]; exact (HSW.out.upto j hj).rds)
        have HQ1 : Hid (0 + j ≤ maxLen ∧ (0 + j) * 24 ≤ 140737488355328) := Lib.hid (by unfold maxLen; omega)
        go_wp2_with (first | (at_builtin; refine wpList_append_rds rfl (.tmp 41) (.tmp 44) 99 rfl wz.heap.size 96 i0 _ 3 24 Try.underlying99 hi hz0 hz1 hz2 rfl (by decide) (.slice none 0 0) 0 [] rfl (Seg.nil _ _ _ _) (.slice (some ⟨g, off, none⟩) j cy) j (duS (ys.take j)) rfl HR1.out (one_duS _) HQ1.out.1 HQ1.out.2 (Nat.le_refl _) ?_; intro v3 w3 hown3 hgrow3 hat3; rw [List.nil_append, Nat.zero_add] at hown3; have hb3 : Below wz.heap.size wz w3 := (Only.grown (S := []) (Only.refl _ _) hgrow3 (fun x hx => by cases hx)).nil; have HO3 := Lib.hid hown3; have HB3 := Lib.hid hb3; obtain ⟨a3, c3, rfl⟩ := hown3.form; have hx3 := HXZ.out.below hb3 HXZ.out.lt; have e0 := hx3.facts.1 0; have e1 := hx3.facts.1 1; have e2 := hx3.facts.1 2; have hcn := Lib.hid (cells_new w3 (duC ⟨a, b, z⟩) 96); have hq3 : Hid (j + 1 ≤ maxLen ∧ (j + 1) * 24 ≤ 140737488355328 ∧ wz.heap.size ≤ (w3.alloc (.cells #[.int .i64 a, .int .u32 b, .int .i64 z] 96)).heap.size) := Lib.hid ⟨by omega, by omega, by rw [size_alloc]; have := hb3.size; omega⟩; clear hown3 hgrow3 hat3 hb3 hx3) | (at_builtin; refine wpList_append_seg _ rfl (.tmp 46) (.tmp 48) 99 rfl wz.heap.size 96 i0 _ 3 24 Try.underlying99 hi hz0 hz1 hz2 rfl (by decide) (.slice a3 j c3) j (duS (ys.take j)) rfl (HO3.out.alloc _) ⟨w3.heap.size, 0, none⟩ 1 1 (duC ⟨a, b, z⟩) rfl rfl hcn.out (by simp [duC, Value.oneCell']) (by decide) hq3.out.1 hq3.out.2.1 hq3.out.2.2 (w3.heap.size + 1) (by simp) ?_; intro g4 o4 c4 w4 hown4 hgrow4 hat4; have hb4 : Hid (Below wz.heap.size wz w4) := Lib.hid ((Only.grown (S := []) (((Only.of_below HB3.out)).alloc _) hgrow4 (fun x hx => .inr (HO3.out.blk x hx).1)).nil); have HO4 := Lib.hid hown4; have HS4 := Lib.hid (HSW.out.chain hb4.out); clear hown4 hgrow4 hat4 e0 e1 e2 hcn; have HR5 : Hid (RdS w4 3 (.slice (some ⟨g, off + j * 3, none⟩) (ys.length - j) (cy - j)) ((ys.length - j)) (duS (ys.drop j))) := Lib.hid (by rw [duS_drop]; exact (HS4.out.from' j hj _ (.inl rfl)).rds); have HQ5 : Hid (j + 1 + (ys.length - j) ≤ maxLen ∧ (j + 1 + (ys.length - j)) * 24 ≤ 140737488355328 ∧ wz.heap.size ≤ w4.heap.size) := Lib.hid ⟨by omega, by omega, hb4.out.size⟩) | (at_builtin; refine wpList_append_rds rfl (.tmp 50) (.tmp 53) 99 rfl wz.heap.size 96 i0 _ 3 24 Try.underlying99 hi hz0 hz1 hz2 rfl (by decide) (.slice (some ⟨g4, o4, none⟩) (j + 1) c4) (j + 1) (duS (ys.take j) ++ duC ⟨a, b, z⟩) rfl HO4.out (.slice (some ⟨g, off + j * 3, none⟩) (ys.length - j) (cy - j)) ((ys.length - j)) (duS (ys.drop j)) rfl HR5.out (one_duS _) HQ5.out.1 HQ5.out.2.1 HQ5.out.2.2 ?_; intro v6 w6 hown6 hgrow6 hat6; have HO6 := Lib.hid hown6; have HB6 := Lib.hid ((Only.grown (S := []) (Only.of_below hb4.out) hgrow6 (fun x hx => .inr (HO4.out.blk x hx).1)).nil); obtain ⟨a6, c6, rfl⟩ := hown6.form; clear hown6 hgrow6 hat6))
        go_ret2
        have hlen : (insD ⟨a, b, z⟩ ys).length = j + 1 + (ys.length - j) := by
          rw [HINS.out]
          simp <;> omega
        have hcell : duS (insD ⟨a, b, z⟩ ys) = duS (ys.take j) ++ duC ⟨a, b, z⟩ ++ duS (ys.drop j) := by
          rw [HINS.out]
          simp [duS]
        refine ⟨.slice a6 (j + 1 + (ys.length - j)) c6, rfl, ?_, Below.chain HB6.out HBZ2.out⟩
        rw [HYS.out, hlen, hcell]
        exact HO6.out.le HBZ2.out.size
    · obtain rfl : j = ys.length := by omega
      have hlt' : ¬ (ys.length : Int) < (ys.length : Int) := by omega
      have HINS := Lib.hid (insD_at (d := ⟨a, b, z⟩) hj HN.out (fun h => absurd h hlt))
      have hcm : (cy : Int) ≤ 9223372036854775807 ∧ (ys.length : Int) ≤ (cy : Int) := by
        rcases HSG.out.2 with ⟨h0, h3⟩ | ⟨g, off, cap', cur, hv, _, _, hn, hc, _⟩
        · have hcap : cy = 0 := by simpa using (Value.slice.inj h0).2.2
          omega
        · cases hv
          unfold maxLen at hc
          omega
      obtain ⟨hcm, hcn⟩ := hcm
      have hdr0 : duS (ys.drop ys.length) = [] := by rw [List.drop_length]; rfl
      have HDR0 := Lib.hid hdr0
      clear hdr0
      rcases HSG.out.2 with ⟨h0, h3⟩ | ⟨g, off, cap', cur, hv, _⟩
      · obtain ⟨rfl, _, rfl⟩ := Value.slice.inj h0
        have hx : ys = [] := List.eq_nil_of_length_eq_zero h3
        subst hx
        go_upto_region 6 with fail
        go_quiet (fail)
        have HSZ : Hid (Seg (wr.drewN nq) B 96 3 (.slice none ([] : List Du).length 0) ([] : List Du).length (duS ([] : List Du))) := Lib.hid HSG.out
        have HXZ : Hid (Blk (wr.drewN nq) bx #[.int .i64 a, .int .u32 b, .int .i64 z] 96) := Lib.hid HX.out
        have HBZ2 := Lib.hid (below_drewN HB.out nq)
        clear HSG HX HB
        generalize wr.drewN nq = wz at *
        have HSW : Hid (Seg wz B 96 3 (.slice none ([] : List Du).length 0) ([] : List Du).length (duS ([] : List Du))) := HSZ
        obtain ⟨q1, q2⟩ : 0 + 1 ≤ maxLen ∧ (0 + 1) * 24 ≤ 140737488355328 := by
          unfold maxLen
          omega
        have HR1 : Hid (RdS wz 3 (.slice none 0 0) 0 (duS (([] : List Du).take 0))) := Lib.hid (by rw [duS_take]; exact (HSW.out.upto 0 hj).rds)
        have HQ1 : Hid (0 + 0 ≤ maxLen ∧ (0 + 0) * 24 ≤ 140737488355328) := Lib.hid (by unfold maxLen; omega)
        go_wp2_with (first | (at_builtin; refine wpList_append_rds rfl (.tmp 41) (.tmp 44) 99 rfl wz.heap.size 96 i0 _ 3 24 Try.underlying99 hi hz0 hz1 hz2 rfl (by decide) (.slice none 0 0) 0 [] rfl (Seg.nil _ _ _ _) (.slice none 0 0) 0 (duS (([] : List Du).take 0)) rfl HR1.out (one_duS _) HQ1.out.1 HQ1.out.2 (Nat.le_refl _) ?_; intro v3 w3 hown3 hgrow3 hat3; rw [List.nil_append, Nat.zero_add] at hown3; have hb3 : Below wz.heap.size wz w3 := (Only.grown (S := []) (Only.refl _ _) hgrow3 (fun x hx => by cases hx)).nil; have HO3 := Lib.hid hown3; have HB3 := Lib.hid hb3; obtain ⟨a3, c3, rfl⟩ := hown3.form; have hx3 := HXZ.out.below hb3 HXZ.out.lt; have e0 := hx3.facts.1 0; have e1 := hx3.facts.1 1; have e2 := hx3.facts.1 2; have hcn := Lib.hid (cells_new w3 (duC ⟨a, b, z⟩) 96); have hq3 : Hid (0 + 1 ≤ maxLen ∧ (0 + 1) * 24 ≤ 140737488355328 ∧ wz.heap.size ≤ (w3.alloc (.cells #[.int .i64 a, .int .u32 b, .int .i64 z] 96)).heap.size) := Lib.hid ⟨by omega, by omega, by rw [size_alloc]; have := hb3.size; omega⟩; clear hown3 hgrow3 hat3 hb3 hx3) | (at_builtin; refine wpList_append_seg _ rfl (.tmp 46) (.tmp 48) 99 rfl wz.heap.size 96 i0 _ 3 24 Try.underlying99 hi hz0 hz1 hz2 rfl (by decide) (.slice a3 0 c3) 0 (duS (([] : List Du).take 0)) rfl (HO3.out.alloc _) ⟨w3.heap.size, 0, none⟩ 1 1 (duC ⟨a, b, z⟩) rfl rfl hcn.out (by simp [duC, Value.oneCell']) (by decide) hq3.out.1 hq3.out.2.1 hq3.out.2.2 (w3.heap.size + 1) (by simp) ?_; intro g4 o4 c4 w4 hown4 hgrow4 hat4; have hb4 : Hid (Below wz.heap.size wz w4) := Lib.hid ((Only.grown (S := []) (((Only.of_below HB3.out)).alloc _) hgrow4 (fun x hx => .inr (HO3.out.blk x hx).1)).nil); have HO4 := Lib.hid hown4; have HS4 := Lib.hid (HSW.out.chain hb4.out); clear hown4 hgrow4 hat4 e0 e1 e2 hcn; have HR5 : Hid (RdS w4 3 (.slice none 0 0) (0) (duS (([] : List Du).drop 0))) := Lib.hid (⟨by simp [duS], .inl ⟨rfl, _, _, rfl⟩⟩); have HQ5 : Hid (0 + 1 + 0 ≤ maxLen ∧ (0 + 1 + 0) * 24 ≤ 140737488355328 ∧ wz.heap.size ≤ w4.heap.size) := Lib.hid ⟨by omega, by omega, hb4.out.size⟩) | (at_builtin; refine wpList_append_rds rfl (.tmp 50) (.tmp 53) 99 rfl wz.heap.size 96 i0 _ 3 24 Try.underlying99 hi hz0 hz1 hz2 rfl (by decide) (.slice (some ⟨g4, o4, none⟩) (0 + 1) c4) (0 + 1) (duS (([] : List Du).take 0) ++ duC ⟨a, b, z⟩) rfl HO4.out (.slice none 0 0) (0) (duS (([] : List Du).drop 0)) rfl HR5.out (one_duS _) HQ5.out.1 HQ5.out.2.1 HQ5.out.2.2 ?_; intro v6 w6 hown6 hgrow6 hat6; have HO6 := Lib.hid hown6; have HB6 := Lib.hid ((Only.grown (S := []) (Only.of_below hb4.out) hgrow6 (fun x hx => .inr (HO4.out.blk x hx).1)).nil); obtain ⟨a6, c6, rfl⟩ := hown6.form; clear hown6 hgrow6 hat6))
        go_ret2
        have hlen : (insD ⟨a, b, z⟩ ([] : List Du)).length = 0 + 1 + 0 := by
          rw [HINS.out]
          simp <;> omega
        have hcell : duS (insD ⟨a, b, z⟩ ([] : List Du)) = duS (([] : List Du).take 0) ++ duC ⟨a, b, z⟩ ++ duS (([] : List Du).drop 0) := by
          rw [HINS.out]
          simp [duS]
        refine ⟨.slice a6 (0 + 1 + 0) c6, rfl, ?_, Below.chain HB6.out HBZ2.out⟩
        rw [HYS.out, hlen, hcell]
        exact HO6.out.le HBZ2.out.size
      · cases hv
        by_cases hc : cy = ys.length
        · subst hc
          go_upto_region 6 with fail
          go_quiet (fail)
          have HSZ : Hid (Seg (wr.drewN nq) B 96 3 (.slice (some ⟨g, off, none⟩) ys.length ys.length) ys.length (duS ys)) := Lib.hid HSG.out
          have HXZ : Hid (Blk (wr.drewN nq) bx #[.int .i64 a, .int .u32 b, .int .i64 z] 96) := Lib.hid HX.out
          have HBZ2 := Lib.hid (below_drewN HB.out nq)
          clear HSG HX HB
          generalize wr.drewN nq = wz at *
          have HSW : Hid (Seg wz B 96 3 (.slice (some ⟨g, off, none⟩) ys.length ys.length) ys.length (duS ys)) := HSZ
          obtain ⟨q1, q2⟩ : ys.length + 1 ≤ maxLen ∧ (ys.length + 1) * 24 ≤ 140737488355328 := by
            unfold maxLen
            omega
          have HR1 : Hid (RdS wz 3 (.slice (some ⟨g, off, none⟩) ys.length ys.length) ys.length (duS (ys.take ys.length))) := Lib.hid (by rw [duS_take]; exact (HSW.out.upto ys.length hj).rds)
          have HQ1 : Hid (0 + ys.length ≤ maxLen ∧ (0 + ys.length) * 24 ≤ 140737488355328) := Lib.hid (by unfold maxLen; omega)
          go_wp2_with (first | (at_builtin; refine wpList_append_rds rfl (.tmp 41) (.tmp 44) 99 rfl wz.heap.size 96 i0 _ 3 24 Try.underlying99 hi hz0 hz1 hz2 rfl (by decide) (.slice none 0 0) 0 [] rfl (Seg.nil _ _ _ _) (.slice (some ⟨g, off, none⟩) ys.length ys.length) ys.length (duS (ys.take ys.length)) rfl HR1.out (one_duS _) HQ1.out.1 HQ1.out.2 (Nat.le_refl _) ?_; intro v3 w3 hown3 hgrow3 hat3; rw [List.nil_append, Nat.zero_add] at hown3; have hb3 : Below wz.heap.size wz w3 := (Only.grown (S := []) (Only.refl _ _) hgrow3 (fun x hx => by cases hx)).nil; have HO3 := Lib.hid hown3; have HB3 := Lib.hid hb3; obtain ⟨a3, c3, rfl⟩ := hown3.form; have hx3 := HXZ.out.below hb3 HXZ.out.lt; have e0 := hx3.facts.1 0; have e1 := hx3.facts.1 1; have e2 := hx3.facts.1 2; have hcn := Lib.hid (cells_new w3 (duC ⟨a, b, z⟩) 96); have hq3 : Hid (ys.length + 1 ≤ maxLen ∧ (ys.length + 1) * 24 ≤ 140737488355328 ∧ wz.heap.size ≤ (w3.alloc (.cells #[.int .i64 a, .int .u32 b, .int .i64 z] 96)).heap.size) := Lib.hid ⟨by omega, by omega, by rw [size_alloc]; have := hb3.size; omega⟩; clear hown3 hgrow3 hat3 hb3 hx3) | (at_builtin; refine wpList_append_seg _ rfl (.tmp 46) (.tmp 48) 99 rfl wz.heap.size 96 i0 _ 3 24 Try.underlying99 hi hz0 hz1 hz2 rfl (by decide) (.slice a3 ys.length c3) ys.length (duS (ys.take ys.length)) rfl (HO3.out.alloc _) ⟨w3.heap.size, 0, none⟩ 1 1 (duC ⟨a, b, z⟩) rfl rfl hcn.out (by simp [duC, Value.oneCell']) (by decide) hq3.out.1 hq3.out.2.1 hq3.out.2.2 (w3.heap.size + 1) (by simp) ?_; intro g4 o4 c4 w4 hown4 hgrow4 hat4; have hb4 : Hid (Below wz.heap.size wz w4) := Lib.hid ((Only.grown (S := []) (((Only.of_below HB3.out)).alloc _) hgrow4 (fun x hx => .inr (HO3.out.blk x hx).1)).nil); have HO4 := Lib.hid hown4; have HS4 := Lib.hid (HSW.out.chain hb4.out); clear hown4 hgrow4 hat4 e0 e1 e2 hcn; have HR5 : Hid (RdS w4 3 (.slice (some ⟨g, off, none⟩) 0 0) (0) (duS (ys.drop ys.length))) := Lib.hid (by rw [HDR0.out]; exact ⟨by simp, .inl ⟨rfl, _, _, rfl⟩⟩); have HQ5 : Hid (ys.length + 1 + 0 ≤ maxLen ∧ (ys.length + 1 + 0) * 24 ≤ 140737488355328 ∧ wz.heap.size ≤ w4.heap.size) := Lib.hid ⟨by omega, by omega, hb4.out.size⟩) | (at_builtin; refine wpList_append_rds rfl (.tmp 50) (.tmp 53) 99 rfl wz.heap.size 96 i0 _ 3 24 Try.underlying99 hi hz0 hz1 hz2 rfl (by decide) (.slice (some ⟨g4, o4, none⟩) (ys.length + 1) c4) (ys.length + 1) (duS (ys.take ys.length) ++ duC ⟨a, b, z⟩) rfl HO4.out (.slice (some ⟨g, off, none⟩) 0 0) (0) (duS (ys.drop ys.length)) rfl HR5.out (one_duS _) HQ5.out.1 HQ5.out.2.1 HQ5.out.2.2 ?_; intro v6 w6 hown6 hgrow6 hat6; have HO6 := Lib.hid hown6; have HB6 := Lib.hid ((Only.grown (S := []) (Only.of_below hb4.out) hgrow6 (fun x hx => .inr (HO4.out.blk x hx).1)).nil); obtain ⟨a6, c6, rfl⟩ := hown6.form; clear hown6 hgrow6 hat6))
          go_ret2
          have hlen : (insD ⟨a, b, z⟩ ys).length = ys.length + 1 + 0 := by
            rw [HINS.out]
            simp <;> omega
          have hcell : duS (insD ⟨a, b, z⟩ ys) = duS (ys.take ys.length) ++ duC ⟨a, b, z⟩ ++ duS (ys.drop ys.length) := by
            rw [HINS.out]
            simp [duS]
          refine ⟨.slice a6 (ys.length + 1 + 0) c6, rfl, ?_, Below.chain HB6.out HBZ2.out⟩
          rw [HYS.out, hlen, hcell]
          exact HO6.out.le HBZ2.out.size
        · have hc' : ¬ (cy : Int) = (ys.length : Int) := by omega
          have hc2 : ¬ (ys.length : Int) = (cy : Int) := by omega
          have hc3 : ¬ ys.length = cy := by omega
          go_upto_region 6 with fail
          go_quiet (fail)
          have HSZ : Hid (Seg (wr.drewN nq) B 96 3 (.slice (some ⟨g, off, none⟩) ys.length cy) ys.length (duS ys)) := Lib.hid HSG.out
          have HXZ : Hid (Blk (wr.drewN nq) bx #[.int .i64 a, .int .u32 b, .int .i64 z] 96) := Lib.hid HX.out
          have HBZ2 := Lib.hid (below_drewN HB.out nq)
          clear HSG HX HB
          generalize wr.drewN nq = wz at *
          have HSW : Hid (Seg wz B 96 3 (.slice (some ⟨g, off, none⟩) ys.length cy) ys.length (duS ys)) := HSZ
          obtain ⟨q1, q2⟩ : ys.length + 1 ≤ maxLen ∧ (ys.length + 1) * 24 ≤ 140737488355328 := by
            unfold maxLen
            omega
          have HR1 : Hid (RdS wz 3 (.slice (some ⟨g, off, none⟩) ys.length cy) ys.length (duS (ys.take ys.length))) := Lib.hid (by rw [duS_take]; exact (HSW.out.upto ys.length hj).rds)
          have HQ1 : Hid (0 + ys.length ≤ maxLen ∧ (0 + ys.length) * 24 ≤ 140737488355328) := Lib.hid (by unfold maxLen; omega)
          go_wp2_with (first | (at_builtin; refine wpList_append_rds rfl (.tmp 41) (.tmp 44) 99 rfl wz.heap.size 96 i0 _ 3 24 Try.underlying99 hi hz0 hz1 hz2 rfl (by decide) (.slice none 0 0) 0 [] rfl (Seg.nil _ _ _ _) (.slice (some ⟨g, off, none⟩) ys.length cy) ys.length (duS (ys.take ys.length)) rfl HR1.out (one_duS _) HQ1.out.1 HQ1.out.2 (Nat.le_refl _) ?_; intro v3 w3 hown3 hgrow3 hat3; rw [List.nil_append, Nat.zero_add] at hown3; have hb3 : Below wz.heap.size wz w3 := (Only.grown (S := []) (Only.refl _ _) hgrow3 (fun x hx => by cases hx)).nil; have HO3 := Lib.hid hown3; have HB3 := Lib.hid hb3; obtain ⟨a3, c3, rfl⟩ := hown3.form; have hx3 := HXZ.out.below hb3 HXZ.out.lt; have e0 := hx3.facts.1 0; have e1 := hx3.facts.1 1; have e2 := hx3.facts.1 2; have hcn := Lib.hid (cells_new w3 (duC ⟨a, b, z⟩) 96); have hq3 : Hid (ys.length + 1 ≤ maxLen ∧ (ys.length + 1) * 24 ≤ 140737488355328 ∧ wz.heap.size ≤ (w3.alloc (.cells #[.int .i64 a, .int .u32 b, .int .i64 z] 96)).heap.size) := Lib.hid ⟨by omega, by omega, by rw [size_alloc]; have := hb3.size; omega⟩; clear hown3 hgrow3 hat3 hb3 hx3) | (at_builtin; refine wpList_append_seg _ rfl (.tmp 46) (.tmp 48) 99 rfl wz.heap.size 96 i0 _ 3 24 Try.underlying99 hi hz0 hz1 hz2 rfl (by decide) (.slice a3 ys.length c3) ys.length (duS (ys.take ys.length)) rfl (HO3.out.alloc _) ⟨w3.heap.size, 0, none⟩ 1 1 (duC ⟨a, b, z⟩) rfl rfl hcn.out (by simp [duC, Value.oneCell']) (by decide) hq3.out.1 hq3.out.2.1 hq3.out.2.2 (w3.heap.size + 1) (by simp) ?_; intro g4 o4 c4 w4 hown4 hgrow4 hat4; have hb4 : Hid (Below wz.heap.size wz w4) := Lib.hid ((Only.grown (S := []) (((Only.of_below HB3.out)).alloc _) hgrow4 (fun x hx => .inr (HO3.out.blk x hx).1)).nil); have HO4 := Lib.hid hown4; have HS4 := Lib.hid (HSW.out.chain hb4.out); clear hown4 hgrow4 hat4 e0 e1 e2 hcn; have HR5 : Hid (RdS w4 3 (.slice (some ⟨g, off + ys.length * 3, none⟩) 0 (cy - ys.length)) (0) (duS (ys.drop ys.length))) := Lib.hid (by rw [HDR0.out]; exact ⟨by simp, .inl ⟨rfl, _, _, rfl⟩⟩); have HQ5 : Hid (ys.length + 1 + 0 ≤ maxLen ∧ (ys.length + 1 + 0) * 24 ≤ 140737488355328 ∧ wz.heap.size ≤ w4.heap.size) := Lib.hid ⟨by omega, by omega, hb4.out.size⟩) | (at_builtin; refine wpList_append_rds rfl (.tmp 50) (.tmp 53) 99 rfl wz.heap.size 96 i0 _ 3 24 Try.underlying99 hi hz0 hz1 hz2 rfl (by decide) (.slice (some ⟨g4, o4, none⟩) (ys.length + 1) c4) (ys.length + 1) (duS (ys.take ys.length) ++ duC ⟨a, b, z⟩) rfl HO4.out (.slice (some ⟨g, off + ys.length * 3, none⟩) 0 (cy - ys.length)) (0) (duS (ys.drop ys.length)) rfl HR5.out (one_duS _) HQ5.out.1 HQ5.out.2.1 HQ5.out.2.2 ?_; intro v6 w6 hown6 hgrow6 hat6; have HO6 := Lib.hid hown6; have HB6 := Lib.hid ((Only.grown (S := []) (Only.of_below hb4.out) hgrow6 (fun x hx => .inr (HO4.out.blk x hx).1)).nil); obtain ⟨a6, c6, rfl⟩ := hown6.form; clear hown6 hgrow6 hat6))
          go_ret2
          have hlen : (insD ⟨a, b, z⟩ ys).length = ys.length + 1 + 0 := by
            rw [HINS.out]
            simp <;> omega
          have hcell : duS (insD ⟨a, b, z⟩ ys) = duS (ys.take ys.length) ++ duC ⟨a, b, z⟩ ++ duS (ys.drop ys.length) := by
            rw [HINS.out]
            simp [duS]
          refine ⟨.slice a6 (ys.length + 1 + 0) c6, rfl, ?_, Below.chain HB6.out HBZ2.out⟩
          rw [HYS.out, hlen, hcell]
          exact HO6.out.le HBZ2.out.size
end Go.Proofs.Ytphejbjbleeigaa
