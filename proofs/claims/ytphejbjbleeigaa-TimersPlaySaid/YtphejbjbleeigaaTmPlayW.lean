/-
  Timers: the walk of the law TimersPlay.
-/
import Derived.Test.YtphejbjbleeigaaTm12
namespace Go.Proofs.Ytphejbjbleeigaa
open Go Go.RowKit
set_option linter.unusedVariables false
set_option maxRecDepth 100000
set_option maxHeartbeats 1000000
open Go.ChangeShapes Go.WideShapes Go.ChangeAt
theorem tplay_many (a : Option Addr) (len cap : Nat) (w : World) (h : 60 < len) : Calls Try.prog 13 #[.slice a len cap] w fun e w' => e = .returned (.bool true) ∧ Below w.heap.size w w' := by
  have hl2 : (60 : Int) < (len : Int) := by omega
  go_enter Try.func13, Try.ntmps13
  go_wp2_with fail
  refine (awake13_ok _).mono ?_
  rintro e w1 ⟨rfl, hb⟩
  go_wp2_with fail
  go_ret
  exact ⟨rfl, hb⟩
theorem tplay_few (a : Option Addr) (len cap : Nat) (l : List TD) (w : World) (hz : IsRows 4 TD.cells w a len cap l) (h : len ≤ 60) : Calls Try.prog 13 #[.slice a len cap] w fun e w' => e = .returned (.bool true) ∧ Below w.heap.size w w' := by
  have hl2 : ¬ (60 : Int) < (len : Int) := by omega
  have HZ := Lib.hid hz
  clear hz
  go_enter Try.func13, Try.ntmps13
  go_wp2_with fail
  refine (tnew_any _).mono ?_
  rintro e w1 ⟨rfl, ht, hb1⟩
  have HR0 : Hid (T13 w (w.heap.size + 1) w.heap.size (.slice none 0 0) [] [] w1) := Lib.hid ⟨ht, Seg.nil _ _ _ _, fun g hg => (by cases hg), hb1, by omega, Nat.le_refl _, TR.nil⟩
  clear ht hb1
  have hl3 : (len : Int) ≤ 60 := by omega
  obtain ⟨bt, hbt⟩ : ∃ bt, w.heap.size + 1 = bt := ⟨_, rfl⟩
  obtain ⟨bm, hbm⟩ : ∃ bm, w.heap.size = bm := ⟨_, rfl⟩
  have HR1 : Hid (T13 w bt bm (.slice none 0 0) [] [] w1) := Lib.hid (by rw [← hbt, ← hbm]; exact HR0.out)
  rw [hbt]
  clear hbt hbm HR0
  go_wp2_with fail
  go_loopw [4, 5] (fun xv i wr => ∃ (k : Nat) (xs ds : List Du), k ≤ len ∧ i = .int .i64 k ∧ xs.length ≤ k ∧ Hid (T13 w bt bm xv xs ds wr)) (fun _ i _ => len - (intOf i).toNat)
  case atStart => exact ⟨0, [], [], Nat.zero_le _, rfl, Nat.le_refl _, HR1⟩
  case round =>
    clear HR1
    obtain ⟨k, xs, ds, hk, rfl, hdk, HT⟩ := hrel
    by_cases hlt : k < len
    · obtain ⟨g, off, hk', rfl, hg, hcell⟩ := HZ.out.get k hlt
      obtain ⟨c, hc⟩ : ∃ c, l[k] = c := ⟨_, rfl⟩
      rw [hc] at hcell
      obtain ⟨kd, a, b, z⟩ := c
      have HCELL := Lib.hid hcell
      have HLT := Lib.hid hlt
      have hki : (k : Int) < (len : Int) := by omega
      have HG := Lib.hid hg
      clear hcell hc hlt hg
      have e0 : wr.cell? ⟨g, off + k * 4, none⟩ = some (.int .i64 kd) := (HT.out.b.cell (p := ⟨g, _, none⟩) HG.out).trans (HCELL.out 0 (by decide))
      have e1 : wr.cell? ⟨g, off + k * 4 + 1, none⟩ = some (.int .i64 a) := (HT.out.b.cell (p := ⟨g, _, none⟩) HG.out).trans (HCELL.out 1 (by decide))
      have e2 : wr.cell? ⟨g, off + k * 4 + 2, none⟩ = some (.int .u32 b) := (HT.out.b.cell (p := ⟨g, _, none⟩) HG.out).trans (HCELL.out 2 (by decide))
      have e3 : wr.cell? ⟨g, off + k * 4 + 3, none⟩ = some (.int .i64 z) := (HT.out.b.cell (p := ⟨g, _, none⟩) HG.out).trans (HCELL.out 3 (by decide))
      obtain ⟨ax, cx, rfl⟩ := HT.out.s.form
      have HDO := Lib.hid (do13_any ⟨kd, ⟨a, b, z⟩⟩ w bt bm (.slice ax xs.length cx) xs ds wr HT.out (by omega))
      dsimp only at HDO
      clear HT
      go_wp2_with fail
      refine HDO.out.mono ?_
      rintro e w2 ⟨xv', xs', ds', rfl, hT, hl'⟩
      obtain ⟨ay, cy, rfl⟩ := hT.s.form
      have HT := Lib.hid hT
      clear HDO e0 e1 e2 e3 hT
      have e1 : w2.cell? ⟨g, off + k * 4 + 1, none⟩ = some (.int .i64 a) := (HT.out.b.cell (p := ⟨g, _, none⟩) HG.out).trans (HCELL.out 1 (by decide))
      have e2 : w2.cell? ⟨g, off + k * 4 + 2, none⟩ = some (.int .u32 b) := (HT.out.b.cell (p := ⟨g, _, none⟩) HG.out).trans (HCELL.out 2 (by decide))
      have HAT := Lib.hid (HT.out.r.at (a, b))
      have HA1 := Lib.hid (tat_any (a, b) bt bm ds' w2 HT.out.t)
      rw [HAT.out] at HA1
      have HA2 : Hid (∀ w', Below w2.heap.size w2 w' → Calls Try.prog 52 #[.slice ay xs'.length cy, encK (a, b)] w' fun e w3 => e = .returned (.tuple #[.int .i64 ((atD (a, b) xs').getD 0), .bool (atD (a, b) xs').isSome]) ∧ Below w'.heap.size w' w3) :=
        Lib.hid (fun w' h => rat_any (a, b) _ _ xs' w' (HT.out.s.chain h) (by omega))
      unfold encK at HA1 HA2
      dsimp only at HA1 HA2
      generalize (atD (a, b) xs').getD 0 = q at *
      generalize (atD (a, b) xs').isSome = y at *
      go_wp2_with fail
      refine HA1.out.mono ?_
      rintro e w3 ⟨rfl, hb3⟩
      have HT3 := Lib.hid (HT.out.chain hb3)
      have HB3 := Lib.hid hb3
      clear e1 e2 HA1 hb3
      have e1 : w3.cell? ⟨g, off + k * 4 + 1, none⟩ = some (.int .i64 a) := (HT3.out.b.cell (p := ⟨g, _, none⟩) HG.out).trans (HCELL.out 1 (by decide))
      have e2 : w3.cell? ⟨g, off + k * 4 + 2, none⟩ = some (.int .u32 b) := (HT3.out.b.cell (p := ⟨g, _, none⟩) HG.out).trans (HCELL.out 2 (by decide))
      go_wp2_with fail
      refine (HA2.out _ HB3.out).mono ?_
      rintro e w4 ⟨rfl, hb4⟩
      have HT4 := Lib.hid (HT3.out.chain hb4)
      clear e1 e2 HA2 hb4 HT3 HT HB3
      have hq : (q != q) = false := by simp
      have hyy : (y != y) = false := by simp
      have hll : ds'.length = xs'.length := HT4.out.r.len
      have HLEN : Hid (∀ w', Tms w' bt bm ds' → Calls Try.prog 47 #[.pointer (some ⟨bt, 0, none⟩)] w' fun e w'' => e = .returned (.int .i64 (xs'.length : Nat)) ∧ w' = w'') := Lib.hid (fun w' h => by
        have := tlen_any bt bm ds' w' h
        rwa [hll] at this)
      have hnn : ((xs'.length : Int) != (xs'.length : Int)) = false := by simp
      cases xs' with
      | nil =>
        have hd0 : ds' = [] := List.eq_nil_of_length_eq_zero hll
        subst hd0
        go_wp2_with fail
        refine (tnext_no bt bm w4 HT4.out.t).mono ?_
        rintro e w5 ⟨rfl, rfl⟩
        go_wp2_with fail
        refine (HLEN.out _ HT4.out.t).mono ?_
        rintro e w5 ⟨rfl, rfl⟩
        go_wp2_with fail
        go_roundw
        case measure => have := HLT.out; simp [intOf]; omega
        case rel => exact ⟨k + 1, [], [], HLT.out, by go_num, Nat.zero_le _, HT4⟩
      | cons d0 xr =>
        have HNX := Lib.hid (tnext_any bt bm ds' w4 HT4.out.t (by rw [hll]; simp) (fun d hd => HT4.out.r.good d (HT4.out.r.perm.mem_iff.1 hd)))
        have hpos : decide ((0 : Int) < ((d0 :: xr).length : Int)) = true := by simp <;> omega
        have hpos2 : (0 : Int) < ((d0 :: xr).length : Int) := by simp <;> omega
        clear hll
        go_wp2_with fail
        refine HNX.out.mono ?_
        rintro e w5 ⟨m, rfl, hm, hb⟩
        have hmm : m = d0.at_ := HT4.out.r.least hm.1 hm.2
        subst hmm
        have HT5 := Lib.hid (HT4.out.chain hb)
        obtain ⟨gx, ox, cx', ee, _, _, _⟩ := HT5.out.s.shape (by simp)
        obtain ⟨rfl, _, rfl⟩ := Value.slice.inj ee
        obtain ⟨c0, c1, c2⟩ := HT5.out.s.du (m := 0) (by simp)
        simp only [List.getElem_cons_zero, Nat.zero_mul, Nat.add_zero] at c0 c1 c2
        have hnz : (d0.at_ != d0.at_) = false := by simp
        clear HNX hb hm HT4 ee
        go_wp2_with fail
        refine (HLEN.out _ HT5.out.t).mono ?_
        rintro e w6 ⟨rfl, rfl⟩
        go_wp2_with fail
        go_roundw
        case measure => have := HLT.out; simp [intOf]; omega
        case rel => exact ⟨k + 1, d0 :: xr, ds', HLT.out, by go_num, Nat.le_trans hl' (Nat.succ_le_succ hdk), HT5⟩
    · obtain rfl : k = len := by omega
      have hlt' : ¬ (k : Int) < (k : Int) := by omega
      have HBF := Lib.hid HT.out.b
      obtain ⟨ax, cx, rfl⟩ := HT.out.s.form
      clear HT
      go_wp2_with fail
      refine (awake13_ok _).mono ?_
      rintro e w9 ⟨rfl, hb9⟩
      have HBE := Lib.hid (Below.chain hb9 HBF.out)
      go_wp2_with fail
      go_ret
      exact ⟨rfl, HBE.out⟩
theorem tplay_walk (a : Option Addr) (len cap : Nat) (l : List TD) (w : World) (hz : IsRows 4 TD.cells w a len cap l) : Calls Try.prog 13 #[.slice a len cap] w fun e w' => e = .returned (.bool true) ∧ Below w.heap.size w w' := by
  by_cases h : 60 < len
  · exact tplay_many a len cap w h
  · exact tplay_few a len cap l w hz (by omega)
end Go.Proofs.Ytphejbjbleeigaa
