/-
  Blocks out of shards: the law of whatever jobs: its walk (chapter 20).
-/
import Derived.Test.YtelpkddgcmikfaaDoorDecD0
namespace Go.Proofs.YtelpkddgcmikfaaDoor
open Go Go.RowKit
set_option linter.unusedVariables false
set_option maxRecDepth 100000
set_option maxHeartbeats 2000000
/-- A job's cells, one by one. -/
theorem JobsAt.get {w : World} {a : Option Addr} {cap : Nat} {js : List J20} (h : JobsAt w (.slice a js.length cap) js) {m : Nat} (hm : m < js.length) : ∃ g off B av cv, a = some ⟨g, off, none⟩ ∧ g < w.heap.size ∧ js[m].v = .slice av js[m].xs.length cv ∧ ShAt B w (.slice av js[m].xs.length cv) js[m].xs ∧
    w.cell? ⟨g, off + m * 6, none⟩ = some (.int .i64 js[m].st) ∧ w.cell? ⟨g, off + m * 6 + 1, none⟩ = some (.int .u32 js[m].bl) ∧ w.cell? ⟨g, off + m * 6 + 2, none⟩ = some (.int .i64 js[m].k) ∧
    w.cell? ⟨g, off + m * 6 + 3, none⟩ = some (.int .i64 js[m].n) ∧ w.cell? ⟨g, off + m * 6 + 4, none⟩ = some (.int .i64 js[m].len) ∧ w.cell? ⟨g, off + m * 6 + 5, none⟩ = some (.slice av js[m].xs.length cv) := by
  obtain ⟨_, _, e, _, _, hq, hsh⟩ := h
  cases e
  rcases hq with e | ⟨g, off, rfl, hg, hc⟩
  · rw [e] at hm; simp at hm
  obtain ⟨B, hB⟩ := hsh js[m] (List.getElem_mem hm)
  have hB0 := hB
  obtain ⟨av, cv, hv, _⟩ := hB
  have e0 := hc m hm 0 (by decide)
  have e1 := hc m hm 1 (by decide)
  have e2 := hc m hm 2 (by decide)
  have e3 := hc m hm 3 (by decide)
  have e4 := hc m hm 4 (by decide)
  have e5 := hc m hm 5 (by decide)
  simp only [J20.cells, Nat.add_zero, List.getElem?_cons_zero, List.getElem?_cons_succ] at e0 e1 e2 e3 e4 e5
  rw [hv] at e5 hB0
  exact ⟨g, off, B, av, cv, rfl, hg, hv, hB0, e0, e1, e2, e3, e4, e5⟩
theorem res_get {w : World} {g : Nat} {js : List J20} (h : OwnV w g 0 35 (js.flatMap J20.res)) {m : Nat} (hm : m < js.length) : w.cell? ⟨g, m * 4, none⟩ = some (.int .i64 js[m].st) ∧ w.cell? ⟨g, m * 4 + 1, none⟩ = some (.int .u32 js[m].bl) ∧ w.cell? ⟨g, m * 4 + 2, none⟩ = some (Str js[m].out.1) ∧ w.cell? ⟨g, m * 4 + 3, none⟩ = some (.int .i64 js[m].out.2) := by
  have key : ∀ (js : List J20) (m : Nat) (hm : m < js.length) (o : Nat), o < 4 → (js.flatMap J20.res)[m * 4 + o]? = js[m].res[o]? := by
    intro js
    induction js with
    | nil => intro m hm; simp at hm
    | cons j js ih =>
      intro m hm o ho
      rw [List.flatMap_cons]
      cases m with
      | zero => rw [Nat.zero_mul, Nat.zero_add, List.getElem?_append_left (by simpa [J20.res] using ho)]; rfl
      | succ m =>
        rw [List.getElem?_append_right (by simp [J20.res]; omega), show j.res.length = 4 from rfl, show (m + 1) * 4 + o - 4 = m * 4 + o from by omega, ih m (by simpa using hm) o ho]
        rfl
  have hl : (js.flatMap J20.res).length = js.length * 4 := flat4_length _ (fun _ => rfl) js
  have get : ∀ o (ho : o < 4), w.cell? ⟨g, m * 4 + o, none⟩ = js[m].res[o]? := fun o ho => by
    have h1 := h.2.2 (m * 4 + o) (by rw [hl]; omega)
    rw [Nat.zero_add] at h1
    rw [h1, ← key js m hm o ho, List.getElem?_eq_getElem (by rw [hl]; omega)]
  exact ⟨get 0 (by decide), get 1 (by decide), get 2 (by decide), get 3 (by decide)⟩
theorem small_take {js : List J20} {m : Nat} (hm : m < js.length) (h : ∀ j ∈ js.take m, j.xs.length ≤ 30) (h1 : js[m].xs.length ≤ 30) : ∀ j ∈ js.take (m + 1), j.xs.length ≤ 30 := fun j hj => by
  rw [List.take_succ_eq_append_getElem hm] at hj
  rcases List.mem_append.1 hj with hj | hj
  · exact h j hj
  · rw [List.mem_singleton] at hj
    rw [hj]
    exact h1
theorem does_walk (v : Value) (js : List J20) (w : World) (h : JobsAt w v js) :
    Calls Tryd.prog 3 #[v] w fun e w' => e = .returned (.bool true) ∧ Below w.heap.size w w' := by
  have HJ := Lib.hid h
  obtain ⟨a, cap, rfl, hm1, hm2, _⟩ := h
  have hjl : js.length ≤ 9223372036854775807 := by unfold maxLen at hm2; omega
  by_cases h1 : (8 : Int) < (js.length : Int)
  · go_enter Tryd.func3, Tryd.ntmps3
    go_wp2_with fail
    refine (awake20 _).mono ?_
    rintro e w1 ⟨rfl, hb1⟩
    go_wp2_with fail
    go_ret
    exact ⟨rfl, hb1⟩
  · have hj8 : js.length ≤ 8 := by omega
    go_enter Tryd.func3, Tryd.ntmps3
    go_wp2_with fail
    go_loopw [3] (fun i wr => ∃ m : Nat, m ≤ js.length ∧ i = .int .i64 m ∧ Hid (∀ j ∈ js.take m, j.xs.length ≤ 30) ∧ Hid (Below w.heap.size w wr)) (fun i _ => js.length - (intOf i).toNat)
    case atStart => exact ⟨0, Nat.zero_le _, rfl, Lib.hid (by simp), Lib.hid (Below.refl _ _)⟩
    case round =>
      obtain ⟨m, hm, rfl, HT, HB⟩ := hrel
      by_cases hlt : m < js.length
      · obtain ⟨g, off, B, av, cv, rfl, hg, hv, hsh, e0, e1, e2, e3, e4, e5⟩ := (HJ.out.chain HB.out).get hlt
        have HST := Lib.hid (fun h => small_take hlt HT.out h)
        have hmi : (m : Int) < (js.length : Int) := by omega
        obtain ⟨j, hj⟩ : ∃ j, js[m] = j := ⟨_, rfl⟩
        have HLT := Lib.hid hlt
        rw [hj] at hsh e0 e1 e2 e3 e4 e5 HST
        obtain ⟨st, bl, k, n, len, v', xs⟩ := j
        simp only at hsh e0 e1 e2 e3 e4 e5 HST
        have HF := Lib.hid (few20_any B st bl k n len _ xs wr hsh)
        unfold jobV at HF
        clear hv hj hsh
        go_wp2_with fail
        refine HF.out.mono ?_
        rintro e w1 ⟨b, rfl, hb1, hbl⟩
        have HB1 := Lib.hid (Below.chain hb1 HB.out)
        clear hb1 e0 e1 e2 e3 e4 e5
        cases b with
        | false =>
          go_wp2_with fail
          refine (awake20 _).mono ?_
          rintro e w2 ⟨rfl, hb2⟩
          have hB := Below.chain hb2 HB1.out
          clear hb2
          go_wp2_with fail
          go_ret
          exact ⟨rfl, hB⟩
        | true =>
          have HT2 := Lib.hid (HST.out (hbl rfl))
          clear hbl
          go_wp2_with fail
          go_roundw
          case rel => exact ⟨m + 1, HLT.out, by go_num, HT2, HB1⟩
          case measure => have := HLT.out; simp [intOf]; omega
      · obtain rfl : m = js.length := by omega
        have hall := HT.out
        rw [List.take_length] at hall
        have HA := Lib.hid (all_any _ js (by omega) (fun j hj => by have := hall j hj; omega) wr (HJ.out.chain HB.out))
        have HX := Lib.hid hall
        have hlt' : ¬ (js.length : Int) < (js.length : Int) := by omega
        clear hall
        go_wp2_with fail
        refine HA.out.mono ?_
        rintro e w1 ⟨g1, rfl, how, hb1, _⟩
        have HOW := Lib.hid how
        have HB1 := Lib.hid (Below.chain hb1 HB.out)
        clear how hb1
        go_wp2_with fail
        go_loopw [5, 6] (fun i _ wr => ∃ m : Nat, m ≤ js.length ∧ i = .int .i64 m ∧ Hid (Below w1.heap.size w1 wr)) (fun i _ _ => js.length - (intOf i).toNat)
        case atStart => exact ⟨0, Nat.zero_le _, rfl, Lib.hid (Below.refl _ _)⟩
        case round =>
          obtain ⟨m, hm, rfl, HBW⟩ := hrel
          by_cases hlt : m < js.length
          · obtain ⟨g, off, B, av, cv, rfl, hg, hv, hsh, e0, e1, e2, e3, e4, e5⟩ := (HJ.out.chain (Below.chain HBW.out HB1.out)).get hlt
            obtain ⟨c0, c1, c2, c3⟩ := res_get (HOW.out.chain HBW.out) hlt
            have hxl := HX.out js[m] (List.getElem_mem hlt)
            have hmi : (m : Int) < (js.length : Int) := by omega
            obtain ⟨j, hj⟩ : ∃ j, js[m] = j := ⟨_, rfl⟩
            have HLT := Lib.hid hlt
            rw [hj] at hsh e0 e1 e2 e3 e4 e5 c0 c1 c2 c3 hxl
            obtain ⟨st, bl, k, n, len, v', xs⟩ := j
            simp only at hsh e0 e1 e2 e3 e4 e5 c0 c1 c2 c3 hxl
            have hgo : (J20.mk st bl k n len v' xs).out = doD k n len xs := rfl
            rw [hgo] at c2 c3
            have HR := Lib.hid (rdo_any B st bl k n len _ xs (by omega) wr hsh)
            have HD := Lib.hid (fun w' (h : Below wr.heap.size wr w') => do_any B st bl k n len _ xs (by omega) w' (hsh.chain h))
            unfold jobV resV at HR HD
            have hgw : g < wr.heap.size := hg
            have hg1w : g1 < wr.heap.size := (HOW.out.chain HBW.out).1
            generalize doD k n len xs = D at *
            obtain ⟨T, z⟩ := D
            clear hv hj hsh hgo hxl
            go_wp2_with fail
            refine HR.out.mono ?_
            rintro e w2 ⟨rfl, hb2⟩
            go_upto_region 15 with fail
            have k2 := Blk.new w2 #[.int .i64 st, .int .u32 bl, Str T, .int .i64 z] 35
            have hb3 : Below wr.heap.size wr (w2.alloc (.cells #[.int .i64 st, .int .u32 bl, Str T, .int .i64 z] 35)) := Below.chainAlloc hb2 _
            have hmk : ∀ w', Below (w2.alloc (.cells #[.int .i64 st, .int .u32 bl, Str T, .int .i64 z] 35)).heap.size (w2.alloc (.cells #[.int .i64 st, .int .u32 bl, Str T, .int .i64 z] 35)) w' →
                (((w'.cell? ⟨g, off + m * 6, none⟩ = some (.int .i64 st) ∧ w'.cell? ⟨g, off + m * 6 + 1, none⟩ = some (.int .u32 bl) ∧ w'.cell? ⟨g, off + m * 6 + 2, none⟩ = some (.int .i64 k) ∧ w'.cell? ⟨g, off + m * 6 + 3, none⟩ = some (.int .i64 n) ∧ w'.cell? ⟨g, off + m * 6 + 4, none⟩ = some (.int .i64 len) ∧ w'.cell? ⟨g, off + m * 6 + 5, none⟩ = some (.slice av xs.length cv)) ∧
                (w'.cell? ⟨w2.heap.size, 0, none⟩ = some (.int .i64 st) ∧ w'.cell? ⟨w2.heap.size, 1, none⟩ = some (.int .u32 bl) ∧ w'.cell? ⟨w2.heap.size, 2, none⟩ = some (Str T) ∧ w'.cell? ⟨w2.heap.size, 3, none⟩ = some (.int .i64 z)) ∧
                (w'.cell? ⟨g1, m * 4, none⟩ = some (.int .i64 st) ∧ w'.cell? ⟨g1, m * 4 + 1, none⟩ = some (.int .u32 bl) ∧ w'.cell? ⟨g1, m * 4 + 2, none⟩ = some (Str T) ∧ w'.cell? ⟨g1, m * 4 + 3, none⟩ = some (.int .i64 z))) ∧ Below (w2.alloc (.cells #[.int .i64 st, .int .u32 bl, Str T, .int .i64 z] 35)).heap.size (w2.alloc (.cells #[.int .i64 st, .int .u32 bl, Str T, .int .i64 z] 35)) w') := fun w' hb => by
              have hB := Below.chain hb hb3
              have kz := (k2.below hb k2.lt).facts.1
              exact ⟨⟨⟨(hB.cell (p := ⟨g, _, none⟩) hgw).trans e0, (hB.cell (p := ⟨g, _, none⟩) hgw).trans e1, (hB.cell (p := ⟨g, _, none⟩) hgw).trans e2, (hB.cell (p := ⟨g, _, none⟩) hgw).trans e3, (hB.cell (p := ⟨g, _, none⟩) hgw).trans e4, (hB.cell (p := ⟨g, _, none⟩) hgw).trans e5⟩,
                ⟨kz 0, kz 1, kz 2, kz 3⟩, ⟨(hB.cell (p := ⟨g1, _, none⟩) hg1w).trans c0, (hB.cell (p := ⟨g1, _, none⟩) hg1w).trans c1, (hB.cell (p := ⟨g1, _, none⟩) hg1w).trans c2, (hB.cell (p := ⟨g1, _, none⟩) hg1w).trans c3⟩⟩, hb⟩
            have HMK := Lib.hid hmk
            have HD3 := Lib.hid (fun w' (h : Below (w2.alloc (.cells #[.int .i64 st, .int .u32 bl, Str T, .int .i64 z] 35)).heap.size (w2.alloc (.cells #[.int .i64 st, .int .u32 bl, Str T, .int .i64 z] 35)) w') => HD.out w' (Below.chain h hb3))
            have HB3 := Lib.hid hb3
            clear hmk e0 e1 e2 e3 e4 e5 c0 c1 c2 c3 hb2 hb3 k2 HD
            generalize w2.alloc (.cells #[.int .i64 st, .int .u32 bl, Str T, .int .i64 z] 35) = W2 at *
            generalize w2.heap.size = g2 at *
            go_region_held3 (fun w' => (((w'.cell? ⟨g, off + m * 6, none⟩ = some (.int .i64 st) ∧ w'.cell? ⟨g, off + m * 6 + 1, none⟩ = some (.int .u32 bl) ∧ w'.cell? ⟨g, off + m * 6 + 2, none⟩ = some (.int .i64 k) ∧ w'.cell? ⟨g, off + m * 6 + 3, none⟩ = some (.int .i64 n) ∧ w'.cell? ⟨g, off + m * 6 + 4, none⟩ = some (.int .i64 len) ∧ w'.cell? ⟨g, off + m * 6 + 5, none⟩ = some (.slice av xs.length cv)) ∧
                (w'.cell? ⟨g2, 0, none⟩ = some (.int .i64 st) ∧ w'.cell? ⟨g2, 1, none⟩ = some (.int .u32 bl) ∧ w'.cell? ⟨g2, 2, none⟩ = some (Str T) ∧ w'.cell? ⟨g2, 3, none⟩ = some (.int .i64 z)) ∧
                (w'.cell? ⟨g1, m * 4, none⟩ = some (.int .i64 st) ∧ w'.cell? ⟨g1, m * 4 + 1, none⟩ = some (.int .u32 bl) ∧ w'.cell? ⟨g1, m * 4 + 2, none⟩ = some (Str T) ∧ w'.cell? ⟨g1, m * 4 + 3, none⟩ = some (.int .i64 z))) ∧ Below W2.heap.size W2 w'))
              (first
                | exact HMK.out _ (Below.refl _ _).drew
                | exact HMK.out _ (Below.refl _ _)
                | (go_split_ands; exact HMK.out _ (Below.chain hb (by first | assumption | exact (Below.refl _ _).drew | exact Below.refl _ _))))
              ((go_at_call 10; refine (HD3.out _ (by first | (go_split_ands; assumption) | exact (Below.refl _ _).drew | exact Below.refl _ _)).mono ?_; rintro x w3 ⟨rfl, hb⟩))
            rename_i hHeld
            obtain ⟨_, hbb⟩ := hHeld
            have HB4 := Lib.hid (Below.chain (Below.chain hbb HB3.out) HBW.out)
            clear hb hbb
            go_wp2_with fail
            go_roundw
            case rel => exact ⟨m + 1, HLT.out, by go_num, HB4⟩
            case measure => have := HLT.out; simp [intOf]; omega
          · obtain rfl : m = js.length := by omega
            have HB2 := Lib.hid (Below.chain HBW.out HB1.out)
            go_wp2_with fail
            refine (awake20 _).mono ?_
            rintro e w2 ⟨rfl, hb2⟩
            have hB := Below.chain hb2 HB2.out
            clear hb2
            go_wp2_with fail
            go_ret
            exact ⟨rfl, hB⟩
end Go.Proofs.YtelpkddgcmikfaaDoor
