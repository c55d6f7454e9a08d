/-
  Whose turn it is: the walk of the law DrrNone (chapter 17).
-/
import Derived.Test.YtgfbhclkpephnaaDrN1
import Derived.Test.YtgfbhclkpephnaaLift3
namespace Go.Proofs.Ytgfbhclkpephnaa
open Go Go.ChangeShapes Go.WideShapes Go.ChangeAt Go.RowKit
set_option linter.unusedVariables false
set_option linter.unusedSimpArgs false
set_option maxRecDepth 100000
set_option maxHeartbeats 4000000
theorem infoInt17 : (Try.prog.info? 3).map (fun i => (i.zero, i.size, i.bytes)) = some (some (.int .i64 0), 1, 8) := by kernel_rfl
def ad17 : Nat → PS
  | 0 => newP 5
  | k + 1 => addP (ad17 k) k (k + 1)
theorem ad17_e (k : Nat) (hk : k < 3) : addE (ad17 k) k (k + 1) = 0 := by
  match k, hk with
  | 0, _ =>
    show addE (ad17 0) ((0 : Nat) : Int) (((0 : Nat) : Int) + 1) = 0
    kernel_rfl
  | 1, _ =>
    show addE (ad17 1) ((1 : Nat) : Int) (((1 : Nat) : Int) + 1) = 0
    kernel_rfl
  | 2, _ =>
    show addE (ad17 2) ((2 : Nat) : Int) (((2 : Nat) : Int) + 1) = 0
    kernel_rfl
theorem byte3 (z : Int) (h0 : 0 ≤ z) (h1 : z ≤ 255) : ∃ j t : Nat, z.tmod 3 = (j : Int) ∧ z.tdiv 3 = (t : Int) ∧ j < 3 ∧ t ≤ 85 := by
  refine ⟨(z.tmod 3).toNat, (z.tdiv 3).toNat, ?_, ?_, ?_, ?_⟩
  · rw [Int.tmod_eq_emod_of_nonneg h0]; omega
  · rw [Int.tdiv_eq_ediv_of_nonneg h0]; omega
  · rw [Int.tmod_eq_emod_of_nonneg h0]; omega
  · rw [Int.tdiv_eq_ediv_of_nonneg h0]; omega
theorem wraps17 (j t k len : Nat) (hj : j < 3) (ht : t ≤ 85) (hk : k < len) (hl : len ≤ 120) : IntKind.i64.wrap (j : Int) = (j : Int) ∧ IntKind.i64.wrap (t : Int) = (t : Int) ∧ wrap64 ((t : Int) + 1) = (t : Int) + 1 ∧ IntKind.u8.wrap (t : Int) = (t : Int) ∧ IntKind.i64.wrap ((t : Int) + 1) = (t : Int) + 1 ∧ wrap64 ((k : Int) + 1) = (k : Int) + 1 :=
  ⟨IntWalk.i64_in _ (by omega), IntWalk.i64_in _ (by omega), IntWalk.wrap64_in _ (by omega), IntWalk.u8_in _ (by omega), IntWalk.i64_in _ (by omega), IntWalk.wrap64_in _ (by omega)⟩
theorem nil_calls (w : World) : (Calls Try.prog 20 #[.pointer none] w fun e w' => e = .returned (.tuple #[.agg #[.int .i64 0, .int .i64 0], .bool false]) ∧ Below w.heap.size w w') ∧ (Calls Try.prog 19 #[.pointer none, .agg #[.int .i64 1, .int .i64 1]] w fun e w' => e = .returned (.int .i64 17) ∧ Below w.heap.size w w') :=
  ⟨dnext_nil w, dpush_nil (1, 1) w⟩
theorem al_push' {W w : World} {bs : Nat} {S : PS} {F : List Nat} (a b : Int) (h : Al W bs S F w) (ht : totQ S.qs ≤ 60000) : Calls Try.prog 19 #[.pointer (some ⟨bs, 0, none⟩), .agg #[.int .i64 a, .int .i64 b]] w fun e w' => e = .returned (.int .i64 (pushE S (a, b))) ∧ Al W bs (pushA S (a, b)) F w' ∧ Keep F w w' := al_push (a, b) h ht
theorem al_next' {W w : World} {bs : Nat} {S : PS} {F : List Nat} (h : Al W bs S F w) (ht : totQ S.qs ≤ 60000) (hr : S.round ≠ []) : Calls Try.prog 20 #[.pointer (some ⟨bs, 0, none⟩)] w fun e w' => ∃ S' x1 x2, e = .returned (.tuple #[.agg #[.int .i64 x1, .int .i64 x2], .bool true]) ∧ Took S S' (x1, x2) ∧ Al W bs S' F w' ∧ Keep F w w' := by
  refine (al_next h ht hr).mono ?_
  rintro e w' ⟨S', x, h1, h2, h3⟩
  exact ⟨S', x.1, x.2, h1, h2, h3⟩
theorem none_big (a : Option Addr) (len cap : Nat) (h : 120 < len) (w : World) : Calls Try.prog 5 #[.slice a len cap] w fun e w' => e = .returned (.bool true) ∧ Below w.heap.size w w' := by
  have h' : (120 : Int) < (len : Int) := by omega
  have HNN := Lib.hid fun w => nil_calls w
  have HAW := Lib.hid fun w => awake17_ok w
  clear h
  go_enter Try.func5, Try.ntmps5
  go_wp2_with fail
  refine (HNN.out _).1.mono ?_
  rintro e w1 ⟨rfl, hb⟩
  have H1 := Lib.hid (Below.chainAlloc hb (.cells #[.int .i64 0, .int .i64 0] 35))
  clear hb
  go_wp2_with fail
  refine (dadd_nil 1 1 _).mono ?_
  rintro e w2 ⟨rfl, rfl⟩
  go_wp2_with fail
  refine (drem_nil 1 _).mono ?_
  rintro e w3 ⟨rfl, hb⟩
  have H3 := Lib.hid (Below.chain hb H1.out)
  clear hb H1
  go_wp2_with fail
  refine (HNN.out _).2.mono ?_
  rintro e w4 ⟨rfl, hb⟩
  have H4 := Lib.hid (Below.chain hb H3.out)
  clear hb H3
  go_wp2_with fail
  refine (dlen_nil 1 _).mono ?_
  rintro e w5 ⟨rfl, rfl⟩
  go_wp2_with fail
  refine (dwait_nil _).mono ?_
  rintro e w5 ⟨rfl, rfl⟩
  have H7 := H4
  clear H4
  go_wp2_with fail
  refine (HAW.out _).mono ?_
  rintro e w8 ⟨rfl, hb⟩
  have H8 := Lib.hid (Below.chain hb H7.out)
  clear hb H7
  go_wp2_with fail
  go_ret
  exact ⟨rfl, H8.out⟩
theorem none_walk (a : Option Addr) (len cap : Nat) (zs : List Int) (W : World) (hz : IsInts .u8 W a len cap zs) : Calls Try.prog 5 #[.slice a len cap] W fun e w' => e = .returned (.bool true) ∧ Below W.heap.size W w' := by
  by_cases hbig : 120 < len
  · exact none_big a len cap hbig W
  have h' : ¬ (120 : Int) < (len : Int) := by omega
  have HLEN := Lib.hid hbig
  have HZ := Lib.hid hz
  have HNN := Lib.hid fun w => nil_calls w
  have HAW := Lib.hid fun w => awake17_ok w
  obtain ⟨i0, hi, hz0, hz1, hz2⟩ := info_parts infoInt17
  clear hbig hz
  go_enter Try.func5, Try.ntmps5
  go_wp2_with fail
  refine (HNN.out _).1.mono ?_
  rintro e w1 ⟨rfl, hb⟩
  have H1 := Lib.hid (Below.chainAlloc hb (.cells #[.int .i64 0, .int .i64 0] 35))
  clear hb
  go_wp2_with fail
  refine (dadd_nil 1 1 _).mono ?_
  rintro e w2 ⟨rfl, rfl⟩
  go_wp2_with fail
  refine (drem_nil 1 _).mono ?_
  rintro e w3 ⟨rfl, hb⟩
  have H3 := Lib.hid (Below.chain hb H1.out)
  clear hb H1
  go_wp2_with fail
  refine (HNN.out _).2.mono ?_
  rintro e w4 ⟨rfl, hb⟩
  have H4 := Lib.hid (Below.chain hb H3.out)
  clear hb H3
  go_wp2_with fail
  refine (dlen_nil 1 _).mono ?_
  rintro e w5 ⟨rfl, rfl⟩
  go_wp2_with fail
  refine (dwait_nil _).mono ?_
  rintro e w5 ⟨rfl, rfl⟩
  have H7 := H4
  clear H4
  go_wp2_with fail
  refine (al_new 5 (by decide) (by decide) W _ [] H7.out (by simp)).mono ?_
  rintro e w6 ⟨bs, rfl, hal, _⟩
  have hn1 := hal.new (.cells #[.slice none 0 0, .slice none 0 0, .slice none 0 0] 51)
  have hn2 := hn1.new (.cells #[.slice none 0 0, .slice none 0 0, .slice none 0 0] 51)
  have hb1 := (Blk.new w6 #[.slice none 0 0, .slice none 0 0, .slice none 0 0] 51).alloc (.cells #[.slice none 0 0, .slice none 0 0, .slice none 0 0] 51)
  have hb2 := Blk.new (w6.alloc (.cells #[.slice none 0 0, .slice none 0 0, .slice none 0 0] 51)) #[.slice none 0 0, .slice none 0 0, .slice none 0 0] 51
  rw [size_alloc] at hn2 hb2
  have hlt := hal.b.size
  have hnn : NnS W bs (ad17 0) w6.heap.size (w6.heap.size + 1) (fun _ => []) (fun _ => []) (fun _ => .slice none 0 0) (fun _ => .slice none 0 0) ((w6.alloc (.cells #[.slice none 0 0, .slice none 0 0, .slice none 0 0] 51)).alloc (.cells #[.slice none 0 0, .slice none 0 0, .slice none 0 0] 51)) :=
    ⟨hn2.less (by simp [own3, Value.ownBlock]), ⟨hb1, fun j _ => Seg.nil _ _ _ _, by simp [Value.ownBlock]⟩, ⟨hb2, fun j _ => Seg.nil _ _ _ _, by simp [Value.ownBlock]⟩, by simp [own3, Value.ownBlock], hlt, by omega⟩
  have HN := Lib.hid hnn
  clear hal hn1 hn2 hb1 hb2 hlt hnn H7
  go_wp2_with fail
  generalize (w6.alloc (.cells #[.slice none 0 0, .slice none 0 0, .slice none 0 0] 51)).alloc (.cells #[.slice none 0 0, .slice none 0 0, .slice none 0 0] 51) = w7 at *
  generalize w6.heap.size + 1 = b2 at *
  generalize w6.heap.size = b1 at *
  go_loopw [10] (fun i wr => ∃ k : Nat, k ≤ 3 ∧ i = .int .i64 (k : Nat) ∧ Hid (NnS W bs (ad17 k) b1 b2 (fun _ => []) (fun _ => []) (fun _ => .slice none 0 0) (fun _ => .slice none 0 0) wr)) (fun i _ => 3 - (intOf i).toNat)
  case atStart => exact ⟨0, by omega, rfl, HN⟩
  case round =>
    obtain ⟨k, hk, rfl, HR⟩ := hrel
    clear HN
    by_cases hlt : k < 3
    · have hlt' : (k : Int) < 3 := by omega
      have HK := Lib.hid hlt
      have HA : Hid (Calls Try.prog 18 #[.pointer (some ⟨bs, 0, none⟩), .int .i64 (k : Nat), .int .i64 ((k : Int) + 1)] wr fun e w' => e = .returned (.int .i64 0) ∧ NnS W bs (ad17 (k + 1)) b1 b2 (fun _ => []) (fun _ => []) (fun _ => .slice none 0 0) (fun _ => .slice none 0 0) w') := Lib.hid (by
        refine (al_add (k : Int) ((k : Int) + 1) HR.out.al).mono ?_
        rw [ad17_e k hlt, if_pos rfl]
        rintro e w' ⟨h1, h2, h3⟩
        exact ⟨h1, HR.out.step h2 h3⟩)
      have hkw : wrap64 ((k : Int) + 1) = (k : Int) + 1 := IntWalk.wrap64_in _ (by omega)
      go_wp2_with fail
      refine HA.out.mono ?_
      rintro e w8 ⟨rfl, hn⟩
      have HN8 := Lib.hid hn
      clear hn HA HR
      go_wp2_with fail
      go_roundw
      case measure => simp [intOf]; omega
      case rel => exact ⟨k + 1, HK.out, by go_num, HN8⟩
    · obtain rfl : k = 3 := by omega
      have hlt' : ¬ ((3 : Nat) : Int) < 3 := by decide
      have HP0 : Hid (NnP (ad17 3) (fun _ => []) (fun _ => []) 0 0) := Lib.hid ⟨HR.out.al.ok, by kernel_rfl, fun j hj => ⟨[], rfl, by
        match j, hj with
        | 0, _ =>
          show itemsOf (ad17 3) ((0 : Nat) : Int) = []
          kernel_rfl
        | 1, _ =>
          show itemsOf (ad17 3) ((1 : Nat) : Int) = []
          kernel_rfl
        | 2, _ =>
          show itemsOf (ad17 3) ((2 : Nat) : Int) = []
          kernel_rfl⟩, by kernel_rfl, fun _ => Nat.le_refl _⟩
      go_wp2_with fail
      go_loopw [11] (fun i wr => ∃ (k : Nat) (S : PS) (I : Nat → List Int) (V1 : Nat → Value), k ≤ len ∧ i = .int .i64 (k : Nat) ∧ Hid (NnS W bs S b1 b2 I (fun _ => []) V1 (fun _ => .slice none 0 0) wr) ∧ Hid (NnP S I (fun _ => []) k k)) (fun i _ => len - (intOf i).toNat)
      case atStart => exact ⟨0, _, _, _, by omega, rfl, HR, HP0⟩
      case round =>
        clear HR HP0 hlt' hk hlt
        obtain ⟨k, S, I, V1, hk, rfl, HR, HP⟩ := hrel
        by_cases hlt : k < len
        · have hlt' : (k : Int) < (len : Int) := by omega
          have hk0 : (0 : Int) ≤ (k : Int) := by omega
          obtain ⟨z1, z2, z3, z4, z5⟩ := HZ.out
          obtain ⟨zb, zo, rfl, hzb, hzc⟩ := z5.resolve_left (by omega)
          have hck := hzc k (by omega)
          have hzr := z4 (zs[k]'(by omega)) (by simp)
          generalize zs[k]'(by omega) = z at hck hzr
          replace hzr : 0 ≤ z ∧ z ≤ 255 := by simpa [Lit.wf, IntKind.min, IntKind.max, IntKind.signed, IntKind.bits] using hzr
          replace hck : wr.cell? ⟨zb, zo + k, none⟩ = some (.int .u8 z) := (HR.out.al.b.cell (p := ⟨zb, zo + k, none⟩) hzb).trans hck
          obtain ⟨j, t, hj, ht, hj3, ht85⟩ := byte3 z hzr.1 hzr.2
          have hkl : len ≤ 120 := by have := HLEN.out; omega
          have HT := Lib.hid ht85
          have HJ := Lib.hid hj3
          have HK := Lib.hid hlt
          have hz3 : ((3 : Int) == 0) = false := rfl
          obtain ⟨hjw, htw, htw2, huw, htw3, hkw⟩ := wraps17 j t k len hj3 ht85 hlt hkl
          clear z1 z2 z3 z4 z5 hzb hzc hlt
          go_upto_region 16 with fail
          refine wp_region_quiet_lit (by kernel_rfl) (by kernel_rfl) ?_
          iterate 15 quiet_step (fail)
          refine wpQuiet_nil ?_
          intro _ hw1
          obtain ⟨nq, hw2⟩ := hw1
          subst hw2
          clear hck hzr ht hj hj3 ht85 hjw htw htw2 hz3 huw htw3
          have HKW := Lib.hid hkw
          clear hkw
          have HR2 := Lib.hid (HR.out.chain (below_drewN (Below.refl _ _) nq))
          have HPP := Lib.hid (HP.out.push (n := (t : Int) + 1) HJ.out (by have := HT.out; omega))
          have HPU : Hid (Calls Try.prog 19 #[.pointer (some ⟨bs, 0, none⟩), .agg #[.int .i64 (j : Int), .int .i64 ((t : Int) + 1)]] (wr.drewN nq) fun e w' => e = .returned (.int .i64 0) ∧ NnS W bs (pushA S ((j : Int), (t : Int) + 1)) b1 b2 I (fun _ => []) V1 (fun _ => .slice none 0 0) w') := Lib.hid (by
            refine (al_push' (j : Int) ((t : Int) + 1) HR2.out.al (by have := HP.out.t; omega)).mono ?_
            rw [HPP.out.1]
            rintro e w' ⟨h1, h2, h3⟩
            exact ⟨h1, HR2.out.step h2 h3⟩)
          have HIL : Hid ((I j).length ≤ 120) := Lib.hid (by have := HP.out.n j; omega)
          clear HR HP
          go_wp2_with fail
          refine HPU.out.mono ?_
          rintro e w8 ⟨rfl, hn⟩
          have HN8 := Lib.hid hn
          clear hn HPU HR2
          obtain ⟨av, cv, hv⟩ := (HN8.out.a1.s j HJ.out).form
          have hcell := HN8.out.a1.cell HJ.out
          rw [hv] at hcell
          have hfr := HN8.out.a1.b.facts.2.1 j
          have HSG := Lib.hid (HN8.out.a1.s j HJ.out)
          rw [hv] at HSG
          have HV := Lib.hid hv
          have hm1 : (I j).length + 1 ≤ maxLen := by have := HIL.out; simp only [maxLen]; omega
          have hm2 : ((I j).length + 1) * 8 ≤ 140737488355328 := by have := HIL.out; omega
          have hbl : W.heap.size ≤ w8.heap.size + 1 := by have := HN8.out.al.b.size; omega
          have hj0 : (0 : Int) ≤ (j : Int) := by omega
          have hj3' : (j : Int) < 3 := by have := HJ.out; omega
          have hnb : some b1 ≠ (Value.slice av (I j).length cv).ownBlock := fun e => HN8.out.a1.ne_b HJ.out b1 (by rw [HV.out]; exact e.symm) rfl
          have HKB := Lib.hid HN8.out.a1.b
          have HG3 := Lib.hid (arr3_get V1 HJ.out)
          rw [HV.out] at HG3
          clear hv hlt'
          go_wp2_with (at_builtin; refine wpList_append_seg _ rfl (.tmp 105) (.tmp 107) 29 rfl W.heap.size 3 i0 _ 1 8 Try.underlying29 hi hz0 hz1 hz2 rfl (by decide) (.slice av (I j).length cv) (I j).length (iv (I j)) rfl (HSG.out.alloc _) ⟨w8.heap.size, 0, none⟩ 1 1 [.int .i64 ((t : Int) + 1)] rfl rfl (cells_new _ _ _) (by simp [Value.oneCell']) (by decide) hm1 hm2 (by rw [size_alloc]; exact hbl) (w8.heap.size + 1) (size_alloc _ _) ?_; intro g off cap w9 hown hgrow hat; have hk2 := (HKB.out.alloc _).grown hgrow hnb; have g2 : w9.cell? ⟨b1, j, none⟩ = some (.slice av (I j).length cv) := (hk2.facts.1 j).trans HG3.out; have g3 : w9.frozen? ⟨b1, j, none⟩ = false := hk2.facts.2.1 j)
          have hO : Only (V1 j).ownBlock.toList w8 w9 := HV.out ▸ Only.grown (S := (Value.slice av (I j).length cv).ownBlock.toList) (Only.alloc (Only.refl _ w8) _) hgrow (fun x hx => .inl (by rw [hx]; simp))
          have HN9 := Lib.hid (HN8.out.push1 HJ.out ((t : Int) + 1) hown hO (HV.out ▸ hat.imp id (fun e => by omega)))
          clear hO hown hgrow hat hk2 hcell hfr
          have hkw := HKW.out
          go_wp2_with fail
          go_roundw
          case measure => have := HK.out; simp [intOf]; omega
          case rel => exact ⟨k + 1, _, _, _, HK.out, by go_num, HN9, Lib.hid HPP.out.2⟩
        · obtain rfl : k = len := by omega
          have hlt' : ¬ (k : Int) < (k : Int) := by omega
          go_wp2_with fail
          go_loopw [14] (fun i wr => ∃ (c : Nat) (S : PS) (O : Nat → List Int) (V2 : Nat → Value), c ≤ k ∧ i = .int .i64 (c : Nat) ∧ Hid (NnS W bs S b1 b2 I O V1 V2 wr) ∧ Hid (NnP S I O (k - c) k)) (fun i _ => k - (intOf i).toNat)
          case atStart => exact ⟨0, _, _, _, by omega, rfl, HR, HP⟩
          case round =>
            clear HR HP hlt' hk hlt
            obtain ⟨c, S, O, V2, hc, rfl, HR, HP⟩ := hrel
            by_cases hlt : c < k
            · have hlt' : (c : Int) < (k : Int) := by omega
              have hkl : k ≤ 120 := by have := HLEN.out; omega
              have HNX : Hid (Calls Try.prog 20 #[.pointer (some ⟨bs, 0, none⟩)] wr fun e w' => ∃ (j : Nat) (x2 : Int) (S' : PS), e = .returned (.tuple #[.agg #[.int .i64 (j : Int), .int .i64 x2], .bool true]) ∧ j < 3 ∧ NnS W bs S' b1 b2 I O V1 V2 w' ∧ NnP S' I (upd O j (O j ++ [x2])) (k - (c + 1)) k ∧ (O j).length < k) := Lib.hid (by
                refine (al_next' HR.out.al (by have := HP.out.t; omega) (tot_round HP.out.ok (by have := HP.out.t; omega))).mono ?_
                rintro e w' ⟨S', x1, x2, rfl, htk, hal, hkp⟩
                obtain ⟨j, hj, hx, hp, hl⟩ := HP.out.next htk
                have hx' : x1 = (j : Int) := hx
                subst hx'
                rw [show k - c - 1 = k - (c + 1) by omega] at hp
                exact ⟨j, x2, S', rfl, hj, HR.out.step hal hkp, hp, hl⟩)
              have HK := Lib.hid hlt
              have HKL := Lib.hid hkl
              clear HR HP hlt
              go_wp2_with fail
              refine HNX.out.mono ?_
              rintro e w8 ⟨j, x2, S', rfl, hj, hn, hp, hl⟩
              have hbx := Blk.new w8 #[.int .i64 (j : Int), .int .i64 x2] 35
              have hn9 := hn.chain (Below.chainAlloc (Below.refl _ w8) (.cells #[.int .i64 (j : Int), .int .i64 x2] 35))
              have HN9 := Lib.hid hn9
              have HP9 := Lib.hid hp
              have HJ := Lib.hid hj
              have HOL : Hid ((O j).length < k ∧ k ≤ 120) := Lib.hid ⟨hl, HKL.out⟩
              have HBX := Lib.hid hbx
              have hj0 : ¬ (j : Int) < 0 := by omega
              have hj2 : ¬ 2 < (j : Int) := by omega
              have hj0' : (0 : Int) ≤ (j : Int) := by omega
              have hj3' : (j : Int) < 3 := by omega
              clear hbx hn9 hn hp hj hl HNX hlt' hkl
              go_upto_region 25 with fail
              generalize w8.alloc (.cells #[.int .i64 (j : Int), .int .i64 x2] 35) = w9 at *
              generalize w8.heap.size = bx at *
              obtain ⟨av, cv, hv⟩ := (HN9.out.a2.s j HJ.out).form
              have hcell := HN9.out.a2.cell HJ.out
              rw [hv] at hcell
              have hfr := HN9.out.a2.b.facts.2.1 j
              have hsg := HN9.out.a2.s j HJ.out
              rw [hv] at hsg
              have HV := Lib.hid hv
              have hm1 : (O j).length + 1 ≤ maxLen := by have := HOL.out; simp only [maxLen]; omega
              have hm2 : ((O j).length + 1) * 8 ≤ 140737488355328 := by have := HOL.out; omega
              have hbl : W.heap.size ≤ w9.heap.size := HN9.out.al.b.size
              have hnb : some b2 ≠ (Value.slice av (O j).length cv).ownBlock := fun e => HN9.out.a2.ne_b HJ.out b2 (by rw [HV.out]; exact e.symm) rfl
              have hkb := HN9.out.a2.b
              have HG3 := Lib.hid (arr3_get V2 HJ.out)
              rw [HV.out] at HG3
              have d0 : w9.cell? ⟨bx, 0, none⟩ = some (.int .i64 (j : Int)) := HBX.out.facts.1 0
              have d1 : w9.cell? ⟨bx, 1, none⟩ = some (.int .i64 x2) := HBX.out.facts.1 1
              have hnx : some bx ≠ (Value.slice av (O j).length cv).ownBlock := fun e => hsg.ne_blk HBX.out (by decide) bx e.symm rfl
              have d6 := HBX.out.lt
              have d7 := hkb.lt
              clear hv hj0 hj2
              go_region_law (refine step_append_seg _ rfl _ _ 29 rfl W.heap.size 3 i0 _ 1 8 Try.underlying29 hi hz0 hz1 hz2 rfl (by decide) (.slice av (O j).length cv) (O j).length (iv (O j)) ?g1 ?g2 ⟨w9.heap.size, 0, none⟩ 1 1 [.int .i64 x2] ?g3 rfl ?g4 (by simp [Value.oneCell']) (by decide) hm1 hm2 ?g5 (w9.heap.size + 1) ?g6 ?_; (case g1 => rfl); (case g2 => exact (hsg.alloc _).drew); (case g3 => rfl); (case g4 => exact cells_new _ _ _); (case g5 => simp; omega); (case g6 => exact size_alloc _ _); intro g off cap w10 hown hgrow hat; have hk2 := (Blk.drew (hkb.alloc _)).grown hgrow hnb; have g2 : w10.cell? ⟨b2, j, none⟩ = some (.slice av (O j).length cv) := (hk2.facts.1 j).trans HG3.out; have g3 : w10.frozen? ⟨b2, j, none⟩ = false := hk2.facts.2.1 j; have hkx := (Blk.drew (HBX.out.alloc _)).grown hgrow hnx; have e0 : w10.cell? ⟨bx, 0, none⟩ = some (.int .i64 (j : Int)) := hkx.facts.1 0; have e1 : w10.cell? ⟨bx, 1, none⟩ = some (.int .i64 x2) := hkx.facts.1 1; have hO := Only.grown (S := (Value.slice av (O j).length cv).ownBlock.toList) (Only.drew (Only.alloc (Only.refl _ w9) _)) hgrow (fun x hx => .inl (by rw [hx]; simp)); clear hgrow)
              all_goals
                have HN10 := Lib.hid (HN9.out.swap.push1 HJ.out x2 hown (HV.out ▸ hO) (HV.out ▸ hat.imp id (fun e => by omega))).swap
                have HKK := Lib.hid (wraps17 0 0 c k (by omega) (by omega) HK.out HKL.out).2.2.2.2.2
                clear hcell hfr hsg hm1 hm2 hbl hnb hkb d0 d1 hnx d6 d7 hown hat hk2 hkx e0 e1 hO
                have hkw := HKK.out
                go_wp2_with fail
                go_roundw
                case measure => have := HK.out; simp [intOf]; omega
                case rel => exact ⟨c + 1, _, _, _, HK.out, by go_num, HN10, HP9⟩
            · obtain rfl : c = k := by omega
              have hlt' : ¬ (c : Int) < (c : Int) := by omega
              have HEQ : Hid (∀ j, j < 3 → I j = O j) := Lib.hid fun j hj => by
                have h := HP.out
                rw [Nat.sub_self] at h
                exact h.fin hj
              have HC : Hid (c ≤ 120 ∧ ∀ j, (I j).length ≤ c) := Lib.hid ⟨by have := HLEN.out; omega, HP.out.n⟩
              clear HP hc hlt
              go_wp2_with fail
              go_loopg [17] 3 (fun gk i wr => ∃ m : Nat, m ≤ 3 ∧ 3 - m ≤ gk ∧ i = .int .i64 (m : Nat) ∧ Hid (NnS W bs S b1 b2 I O V1 V2 wr))
              case atStart => exact ⟨0, by omega, by omega, rfl, HR⟩
              case round =>
                clear HR hlt'
                obtain ⟨m, hm, hg, rfl, HR⟩ := hrel
                by_cases hlt : m < 3
                · have hlt' : (m : Int) < 3 := by omega
                  have hm0 : (0 : Int) ≤ (m : Int) := by omega
                  have HM := Lib.hid hlt
                  have HG := Lib.hid hg
                  obtain ⟨a1, c1, hv1⟩ := (HR.out.a1.s m hlt).form
                  obtain ⟨a2, c2, hv2⟩ := (HR.out.a2.s m hlt).form
                  have hOI : (O m).length = (I m).length := by rw [HEQ.out m hlt]
                  rw [hOI] at hv2
                  have HV1 := Lib.hid hv1
                  have HV2 := Lib.hid hv2
                  have e1 := HR.out.a1.cell hlt
                  have e2 := HR.out.a2.cell hlt
                  rw [hv1] at e1
                  rw [hv2] at e2
                  have hne : (((I m).length : Int) != ((I m).length : Int)) = false := by simp
                  have HIL : Hid ((I m).length ≤ 120) := Lib.hid (Nat.le_trans (HC.out.2 m) HC.out.1)
                  clear hv1 hv2 hOI hlt hm hg
                  go_upto_region 29 with fail
                  refine wp_region_quiet_lit (by kernel_rfl) (by kernel_rfl) ?_
                  iterate 9 quiet_step (fail)
                  refine wpQuiet_nil ?_
                  intro _ hw1
                  obtain ⟨nq, hw2⟩ := hw1
                  subst hw2
                  have HR2 := Lib.hid (HR.out.chain (below_drewN (Below.refl _ _) nq))
                  clear HR e1 e2
                  generalize wr.drewN nq = wq at *
                  go_wp2_with fail
                  go_loopg [18] (I m).length (fun gk i wr => ∃ t : Nat, t ≤ (I m).length ∧ (I m).length - t ≤ gk ∧ i = .int .i64 (t : Nat) ∧ Hid (NnS W bs S b1 b2 I O V1 V2 wr))
                  case atStart => exact ⟨0, by omega, by omega, rfl, HR2⟩
                  case round =>
                    clear HR2
                    obtain ⟨t, ht, hg2, rfl, HRI⟩ := hrel
                    have e1 := HRI.out.a1.cell HM.out
                    have e2 := HRI.out.a2.cell HM.out
                    rw [HV1.out] at e1
                    rw [HV2.out] at e2
                    by_cases hti : t < (I m).length
                    · have hti' : (t : Int) < ((I m).length : Int) := by omega
                      have ht0 : (0 : Int) ≤ (t : Int) := by omega
                      have hs1 := HRI.out.a1.s m HM.out
                      have hs2 := HRI.out.a2.s m HM.out
                      rw [HV1.out] at hs1
                      rw [HV2.out, ← HEQ.out m HM.out] at hs2
                      obtain ⟨g1, o1, _, ea, _⟩ := hs1.shape (by omega)
                      cases ea
                      obtain ⟨g2, o2, _, ea, _⟩ := hs2.shape (by omega)
                      cases ea
                      have d1 := hs1.at t (by omega)
                      have d2 := hs2.at t (by omega)
                      have hx : (iv (I m))[t]? = some (.int .i64 ((I m)[t]'hti)) := by simp [iv, hti]
                      rw [hx] at d1 d2
                      have HT := Lib.hid hti
                      have HG2 := Lib.hid hg2
                      clear hs1 hs2 hx ht hg2
                      generalize (I m)[t]'hti = x at d1 d2
                      clear hti
                      have hxx : (x != x) = false := by simp
                      go_upto_region 34 with fail
                      refine wp_region_quiet_lit (by kernel_rfl) (by kernel_rfl) ?_
                      iterate 13 quiet_step (fail)
                      refine wpQuiet_nil ?_
                      intro _ hw1
                      obtain ⟨nq, hw2⟩ := hw1
                      subst hw2
                      have HR3 := Lib.hid (HRI.out.chain (below_drewN (Below.refl _ _) nq))
                      have HKK := Lib.hid (wraps17 0 0 t (I m).length (by omega) (by omega) HT.out HIL.out).2.2.2.2.2
                      clear HRI e1 e2 d1 d2
                      have hkw := HKK.out
                      go_wp2_with fail
                      go_roundg ((I m).length - (t + 1))
                      case measure =>
                        clear hkw hxx ht0 hti' hne hm0 hlt'
                        have := HT.out
                        have := HG2.out
                        omega
                      case rel => exact ⟨t + 1, HT.out, Nat.le_refl _, by go_num, HR3⟩
                    · obtain rfl : t = (I m).length := by omega
                      have hti' : ¬ ((I m).length : Int) < ((I m).length : Int) := by omega
                      have hkw : wrap64 ((m : Int) + 1) = (m : Int) + 1 := (wraps17 0 0 m 3 (by omega) (by omega) HM.out (by omega)).2.2.2.2.2
                      clear ht hg2 hti
                      go_wp2_with fail
                      go_roundg (3 - (m + 1))
                      case measure =>
                        clear hkw hti' hne hm0 hlt'
                        have := HM.out
                        have := HG.out
                        omega
                      case rel => exact ⟨m + 1, HM.out, Nat.le_refl _, by go_num, HRI⟩
                · obtain rfl : m = 3 := by omega
                  have hlt' : ¬ ((3 : Nat) : Int) < 3 := by decide
                  have HB := Lib.hid HR.out.al.b
                  clear hm hg hlt
                  go_wp2_with fail
                  refine (HAW.out _).mono ?_
                  rintro e w8 ⟨rfl, hb⟩
                  have HB8 := Lib.hid (Below.chain hb HB.out)
                  clear hb
                  go_wp2_with fail
                  go_ret
                  exact ⟨rfl, HB8.out⟩
end Go.Proofs.Ytgfbhclkpephnaa
