/-
  What a stream sends: the example's walk (chapter 27).
-/
import Derived.Test.YtnmlmpffmjhihaaGreatOr24
namespace Go.Proofs.YtnmlmpffmjhihaaGreat
open Go Go.RowKit
set_option linter.unusedVariables false
set_option linter.unusedSimpArgs false
set_option maxRecDepth 100000
set_option maxHeartbeats 4000000
theorem chk27 : chkB 4 2 16 4 256 256 64 4096 16 2 8 = true := by kernel_rfl
/-- What holds on the way: the stream as it is, the shards' texts, what was there ahead of the call. -/
structure A27 (Ow : Nat → Prop) (W w : World) (bo : Nat) (S : OS) (sv : Value) : Prop where
  o : OutM Ow w bo S
  v : SlAt 0 w 9 sv (T27.map Str)
  b : Below W.heap.size W w
  st : S.st = 3
  b0 : S.b = 0
  L : S.L = [y27]
  M : getM 0 S.M = some (.agg #[sv, .int .i64 2])
  T : AllT S.QD
  n : S.n = 0
  hd : S.hd = 2
  fi : S.fi = false
  z : S.z = 4
theorem A27.step {Ow : Nat → Prop} {W w w' : World} {bo : Nat} {S : OS} {sv : Value} (h : A27 Ow W w bo S sv) (hb : Below w.heap.size w w') : A27 Ow W w' bo S sv :=
  ⟨h.o.chain hb, h.v.chain hb, Below.chain hb h.b, h.st, h.b0, h.L, h.M, h.T, h.n, h.hd, h.fi, h.z⟩
theorem below_turn {Ow : Nat → Prop} {K : List (Option TypeId)} {W w w' : World} (hD : ∀ b, Ow b → W.heap.size ≤ b) (h : Below W.heap.size W w) (ht : Turn Ow K w w') : Below W.heap.size W w' :=
  Below.trans h (ht.below hD h.size)
theorem awake27_ok (W : World) : Calls Tryz.prog 15 #[] W fun e w' => e = .returned (.bool true) ∧ Below W.heap.size W w' := by
  obtain ⟨Ow, hOw⟩ : ∃ Ow : Nat → Prop, Ow = fun b => W.heap.size ≤ b := ⟨_, rfl⟩
  have HOW : Hid (∀ b, Ow b → W.heap.size ≤ b) := Lib.hid (by rw [hOw]; exact fun _ h => h)
  have HUP : Hid (∀ b, W.heap.size ≤ b → Ow b) := Lib.hid (by rw [hOw]; exact fun _ h => h)
  clear hOw
  go_enter Tryz.func15, Tryz.ntmps15
  go_wp2_with fail
  refine (rplain_any W).mono ?_
  rintro e w1 ⟨rfl, hb1⟩
  have HB1 := Lib.hid hb1
  clear hb1
  go_wp2_with fail
  refine (onew_ok 3 4 2 16 4 256 256 64 4096 16 2 8 w1 chk27 (by decide) (by decide) (Ow := Ow) (fun b hb => HUP.out b (Nat.le_trans HB1.out.size hb))).mono ?_
  rintro e w2 ⟨bo, wb, br, bs, fb, eb, mm, qm, fn, rfl, h2, _, hlo, hb2⟩
  have H2 := Lib.hid h2
  have HB2 : Hid (Below W.heap.size W w2) := Lib.hid (Below.chain hb2 HB1.out)
  clear h2 hlo hb2 HB1
  go_wp2_with fail
  refine (rplain_any w2).mono ?_
  rintro e w3 ⟨rfl, hb3⟩
  have H3 := Lib.hid (And.intro (H2.out.chain hb3) (Below.chain hb3 HB2.out))
  clear hb3 H2 HB2
  go_wp2_with fail
  refine (onew_far 256 4 2 16 4 256 256 64 4096 16 2 8 w3 chk27 (by decide)).mono ?_
  rintro e w4 ⟨rfl, hb4⟩
  have H4 := Lib.hid (And.intro (H3.out.1.chain hb4) (Below.chain hb4 H3.out.2))
  clear hb4 H3
  go_wp2_with fail
  refine (owrite_lite b27 H4.out.1 rfl (by decide) (by show 0 + 0 + 2 ≤ 64; decide) (by show ((0 : Nat) : Int) + ((2 : Nat) : Int) ≤ 256; decide) (by show (256 : Int) ≤ 1048576; decide)).mono ?_
  rintro e w5 ⟨rfl, h5, ho5⟩
  have H5 := Lib.hid (And.intro h5 (show Below W.heap.size W w5 from Below.trans H4.out.2 (ho5.below H4.out.2.size (fun x hx => HOW.out x (by simp at hx; rcases hx with rfl | rfl; exact H4.out.1.u.br; exact H4.out.1.u.bs)))))
  clear h5 ho5 H4
  rw [show ((b27.length : Nat) : Int) = 2 from rfl]
  go_wp2_with fail
  refine (ofill_one 0 64 2 y27 2 T27 z27 H5.out.1 rfl rfl (by show (1 : Int) < 4; decide) ⟨by show (0 : Int) ≤ 0; decide, by show (0 : Int) < 4294967296; decide⟩ (by show 0 < ahead 0 4; decide) (by show 0 < ahead ((0 + 1) % 4294967296) 4; decide) (by decide) (by kernel_rfl) (by decide) (by kernel_rfl) (by decide) (by kernel_rfl) (by show 0 + (0 + 2) < 64; decide) e27 t27 m27 (by decide) rfl ⟨by show (-1048576 : Int) ≤ 0; decide, by show (0 : Int) ≤ 1048576; decide⟩ (by show 0 ≤ 1000000; decide) (fun x v h => by cases h) (fun w i hi => size27 w i hi)).mono ?_
  rintro e w6 ⟨v6, rfl, sv, fv, qv6, hs6, h6, hv6, ht6⟩
  obtain ⟨va, vc, hv6'⟩ := hs6.form
  obtain rfl : v6 = .slice va 4 vc := hv6'.trans (congrArg (fun n => Value.slice va n vc) wa27.2)
  have HA6 : Hid (∃ S6, A27 Ow W w6 bo S6 sv ∧ S6.cl = false ∧ S6.Q = q27 ∧ S6.QD = QDa) := Lib.hid ⟨_, ⟨h6, hv6, below_turn HOW.out H5.out.2 ht6, rfl, rfl, rfl, by show getM 0 (putM 0 _ []) = _; rw [getM_putM, if_pos rfl]; rfl, alla27, rfl, rfl, rfl, rfl⟩, rfl, wa27.1, rfl⟩
  clear hs6 h6 hv6 ht6 H5 hv6'
  obtain ⟨S6, hA6⟩ := HA6.out
  have HC6 := Lib.hid hA6
  clear hA6 HA6
  go_wp2_with fail
  refine (pop27 HC6.out.1.o HC6.out.1.st HC6.out.1.b0 HC6.out.1.L sv HC6.out.1.M HC6.out.1.v 0 (by decide) [(0, 1), (0, 2), (0, 3)] HC6.out.2.2.1).mono ?_
  rintro e w7 ⟨rfl, ⟨qv7, h7⟩, hv7, ht7⟩
  have HA7 : Hid (∃ S7, A27 Ow W w7 bo S7 sv ∧ S7.cl = false ∧ S7.Q = [(0, 1), (0, 2), (0, 3)] ∧ S7.QD = delM (0, 0) QDa) := Lib.hid ⟨_, ⟨h7, hv7, below_turn HOW.out HC6.out.1.b ht7, HC6.out.1.st, HC6.out.1.b0, HC6.out.1.L, HC6.out.1.M, HC6.out.1.T.del _, HC6.out.1.n, HC6.out.1.hd, HC6.out.1.fi, HC6.out.1.z⟩, HC6.out.2.1, rfl, by show delM _ S6.QD = _; rw [HC6.out.2.2.2]; rfl⟩
  clear h7 hv7 ht7 HC6
  obtain ⟨S7, hA7⟩ := HA7.out
  have HC7 := Lib.hid hA7
  clear hA7 HA7
  rw [show (d27 (0, ((0 : Nat) : Int))).val = .agg #[.int .i64 1, .int .i64 3, .int .u32 0, .int .i64 0, .int .i64 2, .int .i64 4, .int .i64 2, .int .i64 0, Str [], Str [97]] from by kernel_rfl]
  go_upto_region 8 with fail
  have HD8 : Hid (Blk (w7.alloc (.cells #[.int .i64 1, .int .i64 3, .int .u32 0, .int .i64 0, .int .i64 2, .int .i64 4, .int .i64 2, .int .i64 0, Str [], Str [97]] 27)) w7.heap.size #[.int .i64 1, .int .i64 3, .int .u32 0, .int .i64 0, .int .i64 2, .int .i64 4, .int .i64 2, .int .i64 0, Str [], Str [97]] 27) := Lib.hid (Blk.new _ _ _)
  have HC8 := Lib.hid (And.intro (HC7.out.1.step (Below.chainAlloc (Below.refl _ w7) (.cells #[.int .i64 1, .int .i64 3, .int .u32 0, .int .i64 0, .int .i64 2, .int .i64 4, .int .i64 2, .int .i64 0, Str [], Str [97]] 27))) HC7.out.2)
  clear HC7
  generalize w7.alloc (.cells #[.int .i64 1, .int .i64 3, .int .u32 0, .int .i64 0, .int .i64 2, .int .i64 4, .int .i64 2, .int .i64 0, Str [], Str [97]] 27) = w8 at *
  generalize w7.heap.size = d7 at *
  go_wp2_with fail
  refine (oclose_ok HC8.out.1.o HC8.out.2.1).mono ?_
  rintro e w9 ⟨rfl, h9, ho9⟩
  have HT9 : Hid (Turn Ow [some 52] w8 w9) := Lib.hid (Turn.only1 ho9 HC8.out.1.o.u.bo HC8.out.1.o.k (by simp))
  have HA9 : Hid (∃ S9, A27 Ow W w9 bo S9 sv ∧ S9.cl = true ∧ S9.Q = [(0, 1), (0, 2), (0, 3)] ∧ S9.QD = delM (0, 0) QDa) := Lib.hid ⟨_, ⟨h9, HT9.out.slAt HC8.out.1.v (by decide), below_turn HOW.out HC8.out.1.b HT9.out, HC8.out.1.st, HC8.out.1.b0, HC8.out.1.L, HC8.out.1.M, HC8.out.1.T, HC8.out.1.n, HC8.out.1.hd, HC8.out.1.fi, HC8.out.1.z⟩, rfl, HC8.out.2.2.1, HC8.out.2.2.2⟩
  have HD9 := Lib.hid (HT9.out.blk HD8.out (by decide))
  clear h9 ho9 HT9 HD8 HC8
  obtain ⟨S9, hA9⟩ := HA9.out
  have HC9 := Lib.hid hA9
  clear hA9 HA9
  have HF9 := Lib.hid (ofin_end HC9.out.1.o (by rw [HC9.out.1.L]; decide) HC9.out.2.1 HC9.out.1.n HC9.out.1.fi)
  rw [show (S9.b + ((S9.L.length : Nat) : Int)) % 4294967296 = 1 from by rw [HC9.out.1.b0, HC9.out.1.L]; rfl] at HF9
  go_wp2_with fail
  refine HF9.out.mono ?_
  rintro e w10 ⟨rfl, hb10⟩
  have hii : IsInts .i64 (w10.alloc (.cells #[.int .i64 1] 3)) (some ⟨w10.heap.size, 0, none⟩) 1 1 [1] :=
    ⟨rfl, Nat.le_refl _, by unfold maxLen; omega, fun z hz => by rw [List.mem_singleton.1 hz]; rfl, .inr ⟨w10.heap.size, 0, rfl, by simp, fun i hi => by
      obtain rfl : i = 0 := by simp at hi; omega
      exact (Blk.new w10 #[.int .i64 1] 3).facts.1 0⟩⟩
  have hba := Below.chainAlloc hb10 (.cells #[.int .i64 1] 3)
  have HOF := Lib.hid (rof_any _ 1 1 [1] _ hii)
  have HC10 := Lib.hid (And.intro (HC9.out.1.step hba) HC9.out.2)
  have HD10 := Lib.hid (HD9.out.below hba HD9.out.lt)
  clear hii hba hb10 HC9 HD9 HF9
  go_wp2_with fail
  refine HOF.out.mono ?_
  rintro e w11 ⟨rfl, hb11⟩
  have HC11 := Lib.hid (And.intro (HC10.out.1.step hb11) HC10.out.2)
  have HD11 := Lib.hid (HD10.out.below hb11 HD10.out.lt)
  clear hb11 HC10 HD10 HOF
  have HN11 := Lib.hid (nack27 HC11.out.1.o HC11.out.1.st HC11.out.1.b0 HC11.out.1.L sv HC11.out.1.M HC11.out.1.v (by rw [HC11.out.2.2.1]; decide) HC11.out.1.T)
  rw [HC11.out.2.2.1, HC11.out.2.2.2] at HN11
  rw [show withB zero32 [1] = s27 from rfl]
  generalize s27 = sv27 at *
  go_wp2_with fail
  refine HN11.out.mono ?_
  rintro e w12 ⟨⟨qv12, v12, rfl, h12, hs12, ht12⟩, hv12⟩
  obtain ⟨va12, vc12, hv12'⟩ := hs12.form
  obtain rfl : v12 = .slice va12 1 vc12 := hv12'.trans (congrArg (fun n => Value.slice va12 n vc12) wb27.2)
  have HA12 : Hid (∃ S12, A27 Ow W w12 bo S12 sv ∧ S12.cl = true ∧ S12.Q = [(0, 1), (0, 2), (0, 3), (0, 0)] ∧ S12.QD = QDb) := Lib.hid ⟨_, ⟨h12, hv12, below_turn HOW.out HC11.out.1.b ht12, HC11.out.1.st, HC11.out.1.b0, HC11.out.1.L, HC11.out.1.M, allb27, HC11.out.1.n, HC11.out.1.hd, HC11.out.1.fi, HC11.out.1.z⟩, HC11.out.2.1, wb27.1, rfl⟩
  have HD12 := Lib.hid (ht12.blk HD11.out (by decide))
  clear h12 hs12 ht12 hv12 hv12' HC11 HD11 HN11
  obtain ⟨S12, hA12⟩ := HA12.out
  have HC12 := Lib.hid hA12
  clear hA12 HA12
  go_wp2_with fail
  refine wp_loop_rounds 4 ?_
  rw [rounds_succ]
  go_wp2_with fail
  refine (pop27 HC12.out.1.o HC12.out.1.st HC12.out.1.b0 HC12.out.1.L sv HC12.out.1.M HC12.out.1.v 1 (by decide) [(0, 2), (0, 3), (0, 0)] HC12.out.2.2.1).mono ?_
  rintro e w13 ⟨rfl, ⟨qv13, h13⟩, hv13, ht13⟩
  have HA13 : Hid (∃ S13, A27 Ow W w13 bo S13 sv ∧ S13.cl = true ∧ S13.Q = [(0, 2), (0, 3), (0, 0)] ∧ S13.QD = delM (0, 1) QDb) := Lib.hid ⟨_, ⟨h13, hv13, below_turn HOW.out HC12.out.1.b ht13, HC12.out.1.st, HC12.out.1.b0, HC12.out.1.L, HC12.out.1.M, HC12.out.1.T.del _, HC12.out.1.n, HC12.out.1.hd, HC12.out.1.fi, HC12.out.1.z⟩, HC12.out.2.1, rfl, by show delM _ S12.QD = _; rw [HC12.out.2.2.2]; rfl⟩
  have HD13 := Lib.hid (ht13.blk HD12.out (by decide))
  clear h13 hv13 ht13 HC12 HD12
  obtain ⟨S13, hA13⟩ := HA13.out
  have HC13 := Lib.hid hA13
  clear hA13 HA13
  generalize (d27 (0, ((1 : Nat) : Int))).val = dv13 at *
  go_wp2_with fail
  rw [rounds_succ]
  go_wp2_with fail
  refine (pop27 HC13.out.1.o HC13.out.1.st HC13.out.1.b0 HC13.out.1.L sv HC13.out.1.M HC13.out.1.v 2 (by decide) [(0, 3), (0, 0)] HC13.out.2.2.1).mono ?_
  rintro e w14 ⟨rfl, ⟨qv14, h14⟩, hv14, ht14⟩
  have HA14 : Hid (∃ S14, A27 Ow W w14 bo S14 sv ∧ S14.cl = true ∧ S14.Q = [(0, 3), (0, 0)] ∧ S14.QD = delM (0, 2) (delM (0, 1) QDb)) := Lib.hid ⟨_, ⟨h14, hv14, below_turn HOW.out HC13.out.1.b ht14, HC13.out.1.st, HC13.out.1.b0, HC13.out.1.L, HC13.out.1.M, HC13.out.1.T.del _, HC13.out.1.n, HC13.out.1.hd, HC13.out.1.fi, HC13.out.1.z⟩, HC13.out.2.1, rfl, by show delM _ S13.QD = _; rw [HC13.out.2.2.2]; rfl⟩
  have HD14 := Lib.hid (ht14.blk HD13.out (by decide))
  clear h14 hv14 ht14 HC13 HD13
  obtain ⟨S14, hA14⟩ := HA14.out
  have HC14 := Lib.hid hA14
  clear hA14 HA14
  generalize (d27 (0, ((2 : Nat) : Int))).val = dv14 at *
  go_wp2_with fail
  rw [rounds_succ]
  go_wp2_with fail
  refine (pop27 HC14.out.1.o HC14.out.1.st HC14.out.1.b0 HC14.out.1.L sv HC14.out.1.M HC14.out.1.v 3 (by decide) [(0, 0)] HC14.out.2.2.1).mono ?_
  rintro e w15 ⟨rfl, ⟨qv15, h15⟩, hv15, ht15⟩
  have HA15 : Hid (∃ S15, A27 Ow W w15 bo S15 sv ∧ S15.cl = true ∧ S15.Q = [(0, 0)] ∧ S15.QD = QDc) := Lib.hid ⟨_, ⟨h15, hv15, below_turn HOW.out HC14.out.1.b ht15, HC14.out.1.st, HC14.out.1.b0, HC14.out.1.L, HC14.out.1.M, HC14.out.1.T.del _, HC14.out.1.n, HC14.out.1.hd, HC14.out.1.fi, HC14.out.1.z⟩, HC14.out.2.1, rfl, by show delM _ S14.QD = _; rw [HC14.out.2.2.2]; rfl⟩
  have HD15 := Lib.hid (ht15.blk HD14.out (by decide))
  clear h15 hv15 ht15 HC14 HD14
  obtain ⟨S15, hA15⟩ := HA15.out
  have HC15 := Lib.hid hA15
  clear hA15 HA15
  generalize (d27 (0, ((3 : Nat) : Int))).val = dv15 at *
  go_wp2_with fail
  rw [rounds_succ]
  go_wp2_with fail
  have hii : IsInts .i64 (w15.alloc (.cells #[.int .i64 1] 3)) (some ⟨w15.heap.size, 0, none⟩) 1 1 [1] :=
    ⟨rfl, Nat.le_refl _, by unfold maxLen; omega, fun z hz => by rw [List.mem_singleton.1 hz]; rfl, .inr ⟨w15.heap.size, 0, rfl, by simp, fun i hi => by
      obtain rfl : i = 0 := by simp at hi; omega
      exact (Blk.new w15 #[.int .i64 1] 3).facts.1 0⟩⟩
  have hba := Below.chainAlloc (Below.refl _ w15) (.cells #[.int .i64 1] 3)
  have HOF := Lib.hid (rof_any _ 1 1 [1] _ hii)
  have HC16 := Lib.hid (And.intro (HC15.out.1.step hba) HC15.out.2)
  have HD16 := Lib.hid (HD15.out.below hba HD15.out.lt)
  clear hii hba HC15 HD15
  refine HOF.out.mono ?_
  rintro e w17 ⟨rfl, hb17⟩
  have HC17 := Lib.hid (And.intro (HC16.out.1.step hb17) HC16.out.2)
  have HD17 := Lib.hid (HD16.out.below hb17 HD16.out.lt)
  clear hb17 HC16 HD16 HOF
  have HN17 := Lib.hid (nack27 HC17.out.1.o HC17.out.1.st HC17.out.1.b0 HC17.out.1.L sv HC17.out.1.M HC17.out.1.v (by rw [HC17.out.2.2.1]; decide) HC17.out.1.T)
  rw [HC17.out.2.2.1, HC17.out.2.2.2] at HN17
  rw [show withB zero32 [1] = s27 from rfl]
  generalize s27 = sv27 at *
  go_wp2_with fail
  refine HN17.out.mono ?_
  rintro e w18 ⟨⟨qv18, v18, rfl, h18, hs18, ht18⟩, hv18⟩
  obtain ⟨va18, vc18, hv18'⟩ := hs18.form
  obtain rfl : v18 = .slice va18 0 vc18 := hv18'.trans (congrArg (fun n => Value.slice va18 n vc18) wc27.2)
  have HA18 : Hid (∃ S18, A27 Ow W w18 bo S18 sv ∧ S18.cl = true ∧ S18.Q = [(0, 0)]) := Lib.hid ⟨_, ⟨h18, hv18, below_turn HOW.out HC17.out.1.b ht18, HC17.out.1.st, HC17.out.1.b0, HC17.out.1.L, HC17.out.1.M, AllT.fold 3 z27 [(0, 0)] ⟨[(0, 0)], QDc, []⟩ allc27, HC17.out.1.n, HC17.out.1.hd, HC17.out.1.fi, HC17.out.1.z⟩, HC17.out.2.1, wc27.1⟩
  have HD18 := Lib.hid (ht18.blk HD17.out (by decide))
  clear h18 hs18 ht18 hv18 hv18' HC17 HD17 HN17
  obtain ⟨S18, hA18⟩ := HA18.out
  have HC18 := Lib.hid hA18
  clear hA18 HA18
  have HL18 : Hid (S18.L.length = 1) := Lib.hid (by rw [HC18.out.1.L]; rfl)
  have HK18 := Lib.hid (oack_end 2 4 HC18.out.1.o (by rw [HC18.out.1.b0]; decide) (by rw [HL18.out]; decide) (by rw [HC18.out.2.1, HC18.out.1.n, HC18.out.1.fi]; rfl) (by rw [HC18.out.1.b0, HL18.out]; decide) (by decide) (by rw [HC18.out.1.hd]; decide) (by rw [HC18.out.1.L]; intro y hy; rw [List.mem_singleton.1 hy]; decide))
  rw [HL18.out] at HK18
  go_wp2_with fail
  refine HK18.out.mono ?_
  rintro e w19 ⟨fv19, rfl, h19, ht19⟩
  have HA19 : Hid (∃ S19, OutM Ow w19 bo S19 ∧ Below W.heap.size W w19 ∧ S19.cl = true ∧ S19.fi = true ∧ S19.Q = [(0, 0)] ∧ S19.b = 1 ∧ S19.L = [] ∧ S19.n = 0 ∧ S19.hd = 0) := Lib.hid ⟨_, h19, below_turn HOW.out HC18.out.1.b ht19, HC18.out.2.1, rfl, HC18.out.2.2, by show (S18.b + _) % _ = _; rw [HC18.out.1.b0]; rfl, by show S18.L.drop 1 = []; rw [HC18.out.1.L]; rfl, HC18.out.1.n, by show goneH S18.L 1 S18.hd = 0; rw [HC18.out.1.L, HC18.out.1.hd]; rfl⟩
  have HD19 := Lib.hid (ht19.blk HD18.out (by decide))
  clear h19 ht19 HC18 HD18 HL18 HK18
  obtain ⟨S19, hA19⟩ := HA19.out
  have HC19 := Lib.hid hA19
  clear hA19 HA19
  have HP19 := Lib.hid (opop_any HC19.out.1 (0, 0) [] HC19.out.2.2.2.2.1 dg0 false (fun w1 qv' h1 ht1 => oshard_no (0, 0) h1 (.inl (by show ahead S19.b 0 < 0; rw [HC19.out.2.2.2.2.2.1]; decide))))
  go_wp2_with fail
  refine HP19.out.mono ?_
  rintro e w20 ⟨rfl, ⟨qv20, h20⟩, ht20⟩
  have HA20 : Hid (∃ S20, OutM Ow w20 bo S20 ∧ Below W.heap.size W w20 ∧ S20.cl = true ∧ S20.fi = true ∧ S20.n = 0 ∧ S20.hd = 0) := Lib.hid ⟨_, h20, below_turn HOW.out HC19.out.2.1 ht20, HC19.out.2.2.1, HC19.out.2.2.2.1, HC19.out.2.2.2.2.2.2.2.1, HC19.out.2.2.2.2.2.2.2.2⟩
  have HD20 := Lib.hid (ht20.blk HD19.out (by decide))
  clear h20 ht20 HC19 HD19 HP19
  obtain ⟨S20, hA20⟩ := HA20.out
  have HC20 := Lib.hid hA20
  clear hA20 HA20
  rw [show dg0.val = .agg #[.int .i64 0, .int .i64 0, .int .u32 0, .int .i64 0, .int .i64 0, .int .i64 0, .int .i64 0, .int .i64 0, Str [], Str []] from rfl]
  have hba := Below.chainAlloc (Below.refl _ w20) (.cells #[.int .i64 0, .int .i64 0, .int .u32 0, .int .i64 0, .int .i64 0, .int .i64 0, .int .i64 0, .int .i64 0, Str [], Str []] 27)
  have HC21 := Lib.hid (And.intro (HC20.out.1.chain hba) (And.intro (Below.chain hba HC20.out.2.1) HC20.out.2.2))
  have HD21 := Lib.hid (HD20.out.below hba HD20.out.lt)
  have z0 := HD21.out.facts.1 0
  have z1 := HD21.out.facts.1 1
  have z2 := HD21.out.facts.1 2
  have z3 := HD21.out.facts.1 3
  have z4 := HD21.out.facts.1 4
  have z5 := HD21.out.facts.1 5
  have z6 := HD21.out.facts.1 6
  have z7 := HD21.out.facts.1 7
  have z8 := HD21.out.facts.1 8
  have z9 := HD21.out.facts.1 9
  have heq : ∀ w : World, (binOp .eql 27 (.agg #[.int .i64 1, .int .i64 3, .int .u32 0, .int .i64 0, .int .i64 2, .int .i64 4, .int .i64 2, .int .i64 0, Str [], Str [97]]) (.agg #[.int .i64 1, .int .i64 3, .int .u32 0, .int .i64 0, .int .i64 2, .int .i64 4, .int .i64 2, .int .i64 0, Str [], Str [97]])).run Tryz.prog w = .ok (.bool true) w := fun _ => by kernel_rfl
  have HFI := Lib.hid (ofinished HC21.out.1)
  rw [HC21.out.2.2.2.1] at HFI
  have HWR := Lib.hid (owrite_no [120] HC21.out.1 HC21.out.2.2.1)
  have HHE := Lib.hid (oheld_any HC21.out.1 (by rw [HC21.out.2.2.2.2.2]; decide) (by rw [HC21.out.2.2.2.2.1]; decide))
  rw [HC21.out.2.2.2.2.1, HC21.out.2.2.2.2.2] at HHE
  rw [show ((0 : Nat) : Int) + 0 = 0 from rfl] at HHE
  clear hba HC20 HD20
  go_wp2_with (first
    | (go_at_call 12; refine HFI.out.mono ?_; rintro e w22 ⟨rfl, rfl⟩)
    | (go_at_call 6; refine HWR.out.mono ?_; rintro e w23 ⟨rfl, rfl⟩)
    | (go_at_call 14; refine HHE.out.mono ?_; rintro e w24 ⟨rfl, hb24⟩; have HCL := Lib.hid (oclose_no (HC21.out.1.chain hb24) HC21.out.2.2.1); have HB24 : Hid (Below W.heap.size W w24) := Lib.hid (Below.chain hb24 HC21.out.2.1); clear hb24)
    | (go_at_call 7; refine HCL.out.mono ?_; rintro e w25 ⟨rfl, rfl⟩))
  go_ret
  exact ⟨rfl, HB24.out⟩
end Go.Proofs.YtnmlmpffmjhihaaGreat
