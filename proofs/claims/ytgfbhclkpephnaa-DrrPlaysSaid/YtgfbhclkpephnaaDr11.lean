/-
  Whose turn it is: the example (chapter 17).
-/
import Derived.Test.YtgfbhclkpephnaaDr10
namespace Go.Proofs.Ytgfbhclkpephnaa
open Go Go.RowKit
set_option linter.unusedVariables false
set_option linter.unusedSimpArgs false
set_option maxRecDepth 100000
set_option maxHeartbeats 2000000
def pk17 : Nat → PS
  | 0 => addP (addP (newP 3) 1 1) 2 2
  | k + 1 => pushA (pushA (pk17 k) (1, 3)) (2, 3)
def R17a : PS := ⟨3, [⟨1, 1, 0, true, [(1, 3), (1, 3)]⟩, ⟨2, 2, 0, false, [(2, 3), (2, 3), (2, 3)]⟩], [1, 2]⟩
def R17b : PS := ⟨3, [⟨1, 1, 0, false, [(1, 3), (1, 3)]⟩, ⟨2, 2, 3, true, [(2, 3), (2, 3)]⟩], [2, 1]⟩
def R17c : PS := ⟨3, [⟨1, 1, 0, false, [(1, 3), (1, 3)]⟩, ⟨2, 2, 0, true, [(2, 3)]⟩], [2, 1]⟩
def R17d : PS := ⟨3, [⟨1, 1, 0, true, [(1, 3)]⟩, ⟨2, 2, 0, false, [(2, 3)]⟩], [1, 2]⟩
theorem next17a : NextIs (pk17 3) R17a (1, 3) := ⟨20, by kernel_rfl⟩
theorem next17b : NextIs R17a R17b (2, 3) := ⟨20, by kernel_rfl⟩
theorem next17c : NextIs R17b R17c (2, 3) := ⟨20, by kernel_rfl⟩
theorem next17d : NextIs R17c R17d (1, 3) := ⟨20, by kernel_rfl⟩
theorem round_ne {S : PS} (h : S.round.length = 2) : S.round ≠ [] := fun e => by rw [e] at h; cases h
theorem pk17_tot (k : Nat) (hk : k < 3) : totQ (pk17 k).qs ≤ 60000 ∧ totQ (pushA (pk17 k) (1, 3)).qs ≤ 60000 := by
  match k, hk with
  | 0, _ => exact ⟨by rw [show totQ (pk17 0).qs = 0 by kernel_rfl]; decide, by rw [show totQ (pushA (pk17 0) (1, 3)).qs = 1 by kernel_rfl]; decide⟩
  | 1, _ => exact ⟨by rw [show totQ (pk17 1).qs = 2 by kernel_rfl]; decide, by rw [show totQ (pushA (pk17 1) (1, 3)).qs = 3 by kernel_rfl]; decide⟩
  | 2, _ => exact ⟨by rw [show totQ (pk17 2).qs = 4 by kernel_rfl]; decide, by rw [show totQ (pushA (pk17 2) (1, 3)).qs = 5 by kernel_rfl]; decide⟩
theorem al_next_is {W w : World} {bs : Nat} {S R : PS} {F : List Nat} {x : Int × Int} (h : Al W bs S F w) (ht : totQ S.qs ≤ 60000) (hr : S.round ≠ []) (hR : NextIs S R x) : Calls Try.prog 20 #[.pointer (some ⟨bs, 0, none⟩)] w fun e w' => e = .returned (.tuple #[.agg #[.int .i64 x.1, .int .i64 x.2], .bool true]) ∧ Al W bs R F w' ∧ Keep F w w' := by
  refine (al_next h ht hr).mono ?_
  rintro e w' ⟨S', y, rfl, htk, hal, hk⟩
  obtain ⟨rfl, rfl⟩ := hR.det htk.n
  exact ⟨rfl, hal, hk⟩
theorem awake17_ok (W : World) : Calls Try.prog 11 #[] W fun e w' => e = .returned (.bool true) ∧ Below W.heap.size W w' := by
  have HA : Hid (∀ bs w id wt S S' E, addE S id wt = E → (if E = 0 then addP S id wt else S) = S' → Al W bs S [] w → Calls Try.prog 18 #[.pointer (some ⟨bs, 0, none⟩), .int .i64 id, .int .i64 wt] w fun e w' => e = .returned (.int .i64 E) ∧ Al W bs S' [] w') := Lib.hid fun bs w id wt S S' E hE hS hal => by
    subst hE
    subst hS
    refine (al_add id wt hal).mono ?_
    rintro e w' ⟨h1, h2, _⟩
    exact ⟨h1, h2⟩
  have HP : Hid (∀ bs w a b S, Al W bs S [] w → totQ S.qs ≤ 60000 → Calls Try.prog 19 #[.pointer (some ⟨bs, 0, none⟩), .agg #[.int .i64 a, .int .i64 b]] w fun e w' => e = .returned (.int .i64 (pushE S (a, b))) ∧ Al W bs (pushA S (a, b)) [] w') := Lib.hid fun bs w a b S hal ht => by
    refine (al_push (a, b) hal ht).mono ?_
    rintro e w' ⟨h1, h2, _⟩
    exact ⟨h1, h2⟩
  go_enter Try.func11, Try.ntmps11
  go_wp2_with fail
  refine (al_new 3 (by decide) (by decide) W W [] (Below.refl _ _) (by simp)).mono ?_
  rintro e w1 ⟨bs, rfl, hal, _⟩
  have HL := Lib.hid hal
  clear hal
  go_wp2_with fail
  refine (dnew_bad 0 (.inl (by decide)) w1).mono ?_
  rintro e w2 ⟨rfl, rfl⟩
  go_wp2_with fail
  refine (HA.out bs w1 1 1 (newP 3) (addP (newP 3) 1 1) 0 (by kernel_rfl) rfl HL.out).mono ?_
  rintro e w2 ⟨rfl, hal⟩
  have HL2 := Lib.hid hal
  clear hal HL
  go_wp2_with fail
  refine (HA.out bs w2 2 2 _ (pk17 0) 0 (by kernel_rfl) rfl HL2.out).mono ?_
  rintro e w3 ⟨rfl, hal⟩
  have HL3 := Lib.hid hal
  clear hal HL2
  go_wp2_with fail
  refine (HA.out bs w3 1 1 _ (pk17 0) 8 (by kernel_rfl) rfl HL3.out).mono ?_
  rintro e w4 ⟨rfl, hal⟩
  have HL4 := Lib.hid hal
  clear hal HL3 HA
  go_wp2_with fail
  go_loopw [8] (fun i wr => ∃ k : Nat, k ≤ 3 ∧ i = .int .i64 (k : Nat) ∧ Hid (Al W bs (pk17 k) [] wr)) (fun i _ => 3 - (intOf i).toNat)
  case atStart => exact ⟨0, by omega, rfl, HL4⟩
  case round =>
    obtain ⟨k, hk, rfl, HR⟩ := hrel
    by_cases hlt : k < 3
    · have hlt' : (k : Int) < 3 := by omega
      have HT := Lib.hid (pk17_tot k hlt)
      have HK := Lib.hid hlt
      clear HL4
      go_wp2_with fail
      refine (HP.out bs _ 1 3 _ HR.out HT.out.1).mono ?_
      rintro e w5 ⟨rfl, hal⟩
      have HR5 := Lib.hid hal
      clear hal
      go_wp2_with fail
      refine (HP.out bs _ 2 3 _ HR5.out HT.out.2).mono ?_
      rintro e w6 ⟨rfl, hal⟩
      have HR6 : Hid (Al W bs (pk17 (k + 1)) [] w6) := Lib.hid hal
      clear hal HR5
      go_wp2_with fail
      go_roundw
      case measure => simp [intOf]; omega
      case rel => exact ⟨k + 1, by have := HK.out; omega, by go_num, HR6⟩
    · obtain rfl : k = 3 := by omega
      clear HL4
      have hlt' : ¬ ((3 : Nat) : Int) < 3 := by decide
      go_wp2_with fail
      refine (HP.out bs _ 3 3 _ HR.out (by rw [show totQ (pk17 3).qs = 6 by kernel_rfl]; decide)).mono ?_
      rw [show pushE (pk17 3) (3, 3) = 7 by kernel_rfl, show pushA (pk17 3) (3, 3) = pk17 3 by kernel_rfl]
      rintro e w5 ⟨rfl, hal⟩
      have HR5 := Lib.hid hal
      clear hal HP HR
      go_wp2_with fail
      refine (al_next_is (x := (1, 3)) HR5.out (by rw [show totQ ((pk17 3)).qs = 6 by kernel_rfl]; decide) (round_ne (by kernel_rfl)) next17a).mono ?_
      rintro e w6 ⟨rfl, hal, hkp⟩
      have HN0 := Lib.hid (hal.new (.cells #[.int .i64 1, .int .i64 3] 35))
      have HB0 := Lib.hid (Blk.new w6 #[.int .i64 1, .int .i64 3] 35)
      clear hal hkp HR5
      go_wp2_with fail
      generalize w6.alloc (.cells #[.int .i64 1, .int .i64 3] 35) = v0 at *
      generalize w6.heap.size = b0 at *
      refine (al_next_is (x := (2, 3)) HN0.out (by rw [show totQ (R17a).qs = 5 by kernel_rfl]; decide) (round_ne (by kernel_rfl)) next17b).mono ?_
      rintro e w7 ⟨rfl, hal, hkp⟩
      have HN1 := Lib.hid (hal.new (.cells #[.int .i64 2, .int .i64 3] 35))
      have HB0' := Lib.hid ((hkp.blk HB0.out (by simp)).alloc (.cells #[.int .i64 2, .int .i64 3] 35))
      have HB1 := Lib.hid (Blk.new w7 #[.int .i64 2, .int .i64 3] 35)
      clear HB0
      have HB0 := HB0'
      clear HB0'
      clear hal hkp HN0
      go_wp2_with fail
      generalize w7.alloc (.cells #[.int .i64 2, .int .i64 3] 35) = v1 at *
      generalize w7.heap.size = b1 at *
      refine (al_next_is (x := (2, 3)) HN1.out (by rw [show totQ (R17b).qs = 4 by kernel_rfl]; decide) (round_ne (by kernel_rfl)) next17c).mono ?_
      rintro e w8 ⟨rfl, hal, hkp⟩
      have HN2 := Lib.hid (hal.new (.cells #[.int .i64 2, .int .i64 3] 35))
      have HB0' := Lib.hid ((hkp.blk HB0.out (by simp)).alloc (.cells #[.int .i64 2, .int .i64 3] 35))
      have HB1' := Lib.hid ((hkp.blk HB1.out (by simp)).alloc (.cells #[.int .i64 2, .int .i64 3] 35))
      have HB2 := Lib.hid (Blk.new w8 #[.int .i64 2, .int .i64 3] 35)
      clear HB0
      have HB0 := HB0'
      clear HB0'
      clear HB1
      have HB1 := HB1'
      clear HB1'
      clear hal hkp HN1
      go_wp2_with fail
      generalize w8.alloc (.cells #[.int .i64 2, .int .i64 3] 35) = v2 at *
      generalize w8.heap.size = b2 at *
      refine (al_next_is (x := (1, 3)) HN2.out (by rw [show totQ (R17c).qs = 3 by kernel_rfl]; decide) (round_ne (by kernel_rfl)) next17d).mono ?_
      rintro e w9 ⟨rfl, hal, hkp⟩
      have HN3 := Lib.hid (hal.new (.cells #[.int .i64 1, .int .i64 3] 35))
      have HB0' := Lib.hid ((hkp.blk HB0.out (by simp)).alloc (.cells #[.int .i64 1, .int .i64 3] 35))
      have HB1' := Lib.hid ((hkp.blk HB1.out (by simp)).alloc (.cells #[.int .i64 1, .int .i64 3] 35))
      have HB2' := Lib.hid ((hkp.blk HB2.out (by simp)).alloc (.cells #[.int .i64 1, .int .i64 3] 35))
      have HB3 := Lib.hid (Blk.new w9 #[.int .i64 1, .int .i64 3] 35)
      clear HB0
      have HB0 := HB0'
      clear HB0'
      clear HB1
      have HB1 := HB1'
      clear HB1'
      clear HB2
      have HB2 := HB2'
      clear HB2'
      clear hal hkp HN2
      go_wp2_with fail
      generalize w9.alloc (.cells #[.int .i64 1, .int .i64 3] 35) = v3 at *
      generalize w9.heap.size = b3 at *
      have HW : Hid (Calls Try.prog 14 #[.pointer (some ⟨bs, 0, none⟩)] v3 fun e w' => e = .returned (.int .i64 2) ∧ v3 = w') := Lib.hid (by
        have := al_wait HN3.out
        rw [show totQ R17d.qs = 2 by kernel_rfl] at this
        exact this)
      refine HW.out.mono ?_
      rintro e v4 ⟨rfl, rfl⟩
      clear HW
      go_wp2_with fail
      refine (al_rem 1 HN3.out (by rw [show totQ R17d.qs = 2 by kernel_rfl]; decide)).mono ?_
      rw [show remE R17d 1 = 0 by kernel_rfl]
      rintro e v4 ⟨rfl, hal, hkp⟩
      have HN4 := Lib.hid hal
      have a0 := (hkp.blk HB0.out (by simp)).facts.1 0
      have a1 := (hkp.blk HB1.out (by simp)).facts.1 0
      have a2 := (hkp.blk HB2.out (by simp)).facts.1 0
      have a3 := (hkp.blk HB3.out (by simp)).facts.1 0
      clear hal hkp HN3 HB0 HB1 HB2 HB3
      have HL2 : Hid (Calls Try.prog 16 #[.pointer (some ⟨bs, 0, none⟩), .int .i64 2] v4 fun e w' => e = .returned (.int .i64 1) ∧ v4 = w') := Lib.hid (by
        have := al_len 2 HN4.out
        rw [show lenP 2 (remA R17d 1) = 1 by kernel_rfl] at this
        exact this)
      have HL1 : Hid (Calls Try.prog 16 #[.pointer (some ⟨bs, 0, none⟩), .int .i64 1] v4 fun e w' => e = .returned (.int .i64 0) ∧ v4 = w') := Lib.hid (by
        have := al_len 1 HN4.out
        rw [show lenP 1 (remA R17d 1) = 0 by kernel_rfl] at this
        exact this)
      go_wp2_with fail
      refine HL2.out.mono ?_
      rintro e v5 ⟨rfl, rfl⟩
      go_wp2_with fail
      refine HL1.out.mono ?_
      rintro e v5 ⟨rfl, rfl⟩
      go_wp2_with fail
      refine (al_rem 1 HN4.out (by rw [show totQ (remA R17d 1).qs = 1 by kernel_rfl]; decide)).mono ?_
      rw [show remE (remA R17d 1) 1 = 7 by kernel_rfl]
      rintro e v5 ⟨rfl, hal, hkp⟩
      have HB := Lib.hid hal.b
      clear hal hkp
      go_wp2_with fail
      go_ret
      exact ⟨rfl, HB.out⟩
end Go.Proofs.Ytgfbhclkpephnaa
