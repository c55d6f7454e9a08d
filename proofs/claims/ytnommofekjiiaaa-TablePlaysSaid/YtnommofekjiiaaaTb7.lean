/-
  The document's table: Put where there is no such entry (chapter 18).
-/
import Derived.Test.YtnommofekjiiaaaTb6
namespace Go.Proofs.Ytnommofekjiiaaa
open Go Go.RowKit Go.MuLone
set_option linter.unusedVariables false
set_option linter.unusedSimpArgs false
set_option maxRecDepth 100000
set_option maxHeartbeats 2000000
theorem rdsE_one {w : World} {g : Nat} {c0 c1 c2 c3 : Value} (hv : Blk w g #[c0, c1, c2, c3] 75) : RdS w 4 (.slice (some ⟨g, 0, none⟩) 1 1) 1 [c0, c1, c2, c3] := by
  refine ⟨rfl, .inr ⟨_, _, rfl, fun j u hu => ?_⟩⟩
  have e : (⟨g, 0, none⟩ : Addr).add j = ⟨g, j, none⟩ := by unfold Addr.add; split <;> simp_all
  rw [e, hv.facts.1 j]
  simpa using hu
theorem shS_one {w : World} {g B : Nat} {xi : Int} {xt : List UInt8} (hv : Blk w g #[.int .i64 xi, Str xt] 32) (hB : B ≤ g) : ShS w B (.slice (some ⟨g, 0, none⟩) 1 1) [(xi, xt)] :=
  ⟨rfl, .inr ⟨g, 0, 1, _, rfl, hB, hv, Nat.le_refl _, by decide, by simp, rfl⟩⟩
theorem rput18_full (base room : Nat) (kk1 kk2 need xi : Int) (xt : List UInt8) (v : Value) (A : List DE) (vs : List Value) (w : World) (h : DocA base w v A vs) (hbase : base ≤ w.heap.size) (hA : DOkA A) (hroom : (room : Int) ≤ 1000000) (hb : ¬ badX need (xi, xt)) (hg : getD (kk1, kk2) A = none) (hf : room ≤ A.length) :
    Calls Try.prog 16 #[.agg #[.int .i64 (room : Int), v], .agg #[.int .i64 kk1, .int .u32 kk2], .int .i64 need, .agg #[.int .i64 xi, Str xt]] w (DPut base w room A 2) := by
  obtain ⟨a, cap, rfl⟩ := h.s.form
  have hpb : PB ((((w.alloc (.cells #[.int .i64 (room : Int), .slice a A.length cap] 30)).alloc (.cells #[.int .i64 kk1, .int .u32 kk2] 35)).alloc (.cells #[.int .i64 xi, Str xt] 32)).alloc (.cells #[.int .i64 0, .slice none 0 0] 30)) w.heap.size #[.int .i64 (room : Int), .slice a A.length cap] #[.int .i64 0, .slice none 0 0] kk1 kk2 xi xt := ⟨(((Blk.new w _ _).alloc _).alloc _).alloc _, ((Blk.newAt (size_alloc _ _).symm).alloc _).alloc _, (Blk.newAt (by simp only [size_alloc])).alloc _, Blk.newAt (by simp only [size_alloc])⟩
  have HB0 := Lib.hid (Below.chainAlloc (Below.chainAlloc (Below.chainAlloc (Below.chainAlloc (Below.refl _ w) (.cells #[.int .i64 (room : Int), .slice a A.length cap] 30)) (.cells #[.int .i64 kk1, .int .u32 kk2] 35)) (.cells #[.int .i64 xi, Str xt] 32)) (.cells #[.int .i64 0, .slice none 0 0] 30))
  have HPB := Lib.hid hpb
  have HD := Lib.hid h
  have HA := Lib.hid hA
  have HBASE := Lib.hid hbase
  clear h hA hbase hpb
  have hn1 : ¬ need < 1 := by unfold badX at hb; omega
  have hn2 : ¬ 32 < need := by unfold badX at hb; omega
  have hn3 : ¬ xi < 0 := by unfold badX at hb; omega
  have hn4 : ¬ 254 < xi := by unfold badX at hb; omega
  have hidx : idxD (kk1, kk2) A = -1 := idx_no (getD_no hg)
  have HIDX := Lib.hid hidx
  have hfi : (room : Int) ≤ (A.length : Int) := by omega
  clear hb hg hf hidx
  have HAT : Hid (∀ w', Below w.heap.size w w' → Calls Try.prog 29 #[.agg #[.int .i64 (room : Int), .slice a A.length cap], .agg #[.int .i64 kk1, .int .u32 kk2]] w' fun e w'' => e = .returned (.int .i64 (idxD (kk1, kk2) A)) ∧ Below w'.heap.size w' w'') := Lib.hid fun w' hb' => rat_any base room kk1 kk2 _ A vs w' (HD.out.chain hb') HA.out.l
  have kpb := HPB.out
  have t0 := kpb.1.facts.1 0
  have t1 := kpb.1.facts.1 1
  have k0 := kpb.2.1.facts.1 0
  have k1 := kpb.2.1.facts.1 1
  have x0 := kpb.2.2.1.facts.1 0
  have x1 := kpb.2.2.1.facts.1 1
  have z0 := kpb.2.2.2.facts.1 0
  have z1 := kpb.2.2.2.facts.1 1
  have ft1 := kpb.1.facts.2.1 1
  have fz0 := kpb.2.2.2.facts.2.1 0
  have fz1 := kpb.2.2.2.facts.2.1 1
  clear kpb
  go_enter Try.func16, Try.ntmps16
  go_wp2_with fail
  generalize (((w.alloc (.cells #[.int .i64 (room : Int), .slice a A.length cap] 30)).alloc (.cells #[.int .i64 kk1, .int .u32 kk2] 35)).alloc (.cells #[.int .i64 xi, Str xt] 32)).alloc (.cells #[.int .i64 0, .slice none 0 0] 30) = W0 at *
  obtain ⟨b, hb⟩ : ∃ b, w.heap.size = b := ⟨_, rfl⟩
  rw [hb] at HB0 HPB ⊢
  have HBN := Lib.hid hb
  clear hb
  refine (HAT.out W0 (by rw [HBN.out]; exact HB0.out)).mono ?_
  rintro e w1 ⟨rfl, hb1⟩
  rw [HIDX.out]
  have HP1 := Lib.hid (HPB.out.below hb1)
  have HB1 : Hid (Below b w w1) := Lib.hid (by have := Below.chain hb1 (by rw [HBN.out]; exact HB0.out); rw [HBN.out] at this; exact this)
  have HS1 : Hid (b + 4 ≤ w1.heap.size) := Lib.hid (by have := HP1.out.2.2.2.lt; omega)
  clear hb1
  clear t0 t1 k0 k1 x0 x1 z0 z1 ft1 fz0 fz1
  have kpb := HP1.out
  have t0 := kpb.1.facts.1 0
  have t1 := kpb.1.facts.1 1
  have k0 := kpb.2.1.facts.1 0
  have k1 := kpb.2.1.facts.1 1
  have x0 := kpb.2.2.1.facts.1 0
  have x1 := kpb.2.2.1.facts.1 1
  have z0 := kpb.2.2.2.facts.1 0
  have z1 := kpb.2.2.2.facts.1 1
  have ft1 := kpb.1.facts.2.1 1
  have fz0 := kpb.2.2.2.facts.2.1 0
  have fz1 := kpb.2.2.2.facts.2.1 1
  clear kpb
  go_wp2_with fail
  try rw [Exit.noGoto_ret]
  have hfin : Below w.heap.size w ((w1.setCell ⟨b + 1 + 1 + 1, 0, none⟩ (.int .i64 (room : Int))).setCell ⟨b + 1 + 1 + 1, 1, none⟩ (.slice a A.length cap)) := by
    rw [HBN.out]
    exact (HB1.out.setCell (show b ≤ b + 1 + 1 + 1 by omega) _).setCell (show b ≤ b + 1 + 1 + 1 by omega) _
  exact bodyPost_ret (v := .tuple #[.agg #[.int .i64 (room : Int), .slice a A.length cap], .int .i64 2]) (by simp [results, Try.results16, go_sem, z0, z1]) rfl ⟨a, cap, vs, rfl, HD.out.chain hfin, by first | exact hfin | (rw [← HBN.out]; exact hfin)⟩
theorem rput18_new (base room : Nat) (kk1 kk2 need xi : Int) (xt : List UInt8) (v : Value) (A : List DE) (vs : List Value) (w : World) (h : DocA base w v A vs) (hbase : base ≤ w.heap.size) (hA : DOkA A) (hroom : (room : Int) ≤ 1000000) (hb : ¬ badX need (xi, xt)) (hg : getD (kk1, kk2) A = none) (hf : ¬ room ≤ A.length) (vn : Nat) (hvn : (if need = 1 then 3 else 0) = vn) :
    Calls Try.prog 16 #[.agg #[.int .i64 (room : Int), v], .agg #[.int .i64 kk1, .int .u32 kk2], .int .i64 need, .agg #[.int .i64 xi, Str xt]] w (DPut base w room (A ++ [((kk1, kk2), need, [(xi, xt)])]) vn) := by
  obtain ⟨a, cap, rfl⟩ := h.s.form
  have hpb : PB ((((w.alloc (.cells #[.int .i64 (room : Int), .slice a A.length cap] 30)).alloc (.cells #[.int .i64 kk1, .int .u32 kk2] 35)).alloc (.cells #[.int .i64 xi, Str xt] 32)).alloc (.cells #[.int .i64 0, .slice none 0 0] 30)) w.heap.size #[.int .i64 (room : Int), .slice a A.length cap] #[.int .i64 0, .slice none 0 0] kk1 kk2 xi xt := ⟨(((Blk.new w _ _).alloc _).alloc _).alloc _, ((Blk.newAt (size_alloc _ _).symm).alloc _).alloc _, (Blk.newAt (by simp only [size_alloc])).alloc _, Blk.newAt (by simp only [size_alloc])⟩
  have HB0 := Lib.hid (Below.chainAlloc (Below.chainAlloc (Below.chainAlloc (Below.chainAlloc (Below.refl _ w) (.cells #[.int .i64 (room : Int), .slice a A.length cap] 30)) (.cells #[.int .i64 kk1, .int .u32 kk2] 35)) (.cells #[.int .i64 xi, Str xt] 32)) (.cells #[.int .i64 0, .slice none 0 0] 30))
  have HPB := Lib.hid hpb
  have HD := Lib.hid h
  have HA := Lib.hid hA
  have HBASE := Lib.hid hbase
  clear h hA hbase hpb
  have hn1 : ¬ need < 1 := by unfold badX at hb; omega
  have hn2 : ¬ 32 < need := by unfold badX at hb; omega
  have hn3 : ¬ xi < 0 := by unfold badX at hb; omega
  have hn4 : ¬ 254 < xi := by unfold badX at hb; omega
  obtain ⟨i0, hi, hz0, hz1, hz2⟩ := info_parts infoED
  have HVN := Lib.hid hvn
  clear hvn
  have hidx : idxD (kk1, kk2) A = -1 := idx_no (getD_no hg)
  have HIDX := Lib.hid hidx
  have hfi : ¬ (room : Int) ≤ (A.length : Int) := by omega
  have HQ : Hid (0 + A.length ≤ maxLen ∧ (0 + A.length) * 48 ≤ 140737488355328 ∧ A.length + 1 ≤ maxLen ∧ (A.length + 1) * 48 ≤ 140737488355328) := Lib.hid (by have := HA.out.l; unfold maxLen; omega)
  have hli : (A.length : Int) ≤ 1000 := by have := HA.out.l; omega
  have hli0 : (0 : Int) ≤ (A.length : Int) := by omega
  have HONE := Lib.hid HD.out.one
  clear hb hg hf hidx
  have HAT : Hid (∀ w', Below w.heap.size w w' → Calls Try.prog 29 #[.agg #[.int .i64 (room : Int), .slice a A.length cap], .agg #[.int .i64 kk1, .int .u32 kk2]] w' fun e w'' => e = .returned (.int .i64 (idxD (kk1, kk2) A)) ∧ Below w'.heap.size w' w'') := Lib.hid fun w' hb' => rat_any base room kk1 kk2 _ A vs w' (HD.out.chain hb') HA.out.l
  have kpb := HPB.out
  have t0 := kpb.1.facts.1 0
  have t1 := kpb.1.facts.1 1
  have k0 := kpb.2.1.facts.1 0
  have k1 := kpb.2.1.facts.1 1
  have x0 := kpb.2.2.1.facts.1 0
  have x1 := kpb.2.2.1.facts.1 1
  have z0 := kpb.2.2.2.facts.1 0
  have z1 := kpb.2.2.2.facts.1 1
  have ft1 := kpb.1.facts.2.1 1
  have fz0 := kpb.2.2.2.facts.2.1 0
  have fz1 := kpb.2.2.2.facts.2.1 1
  clear kpb
  go_enter Try.func16, Try.ntmps16
  go_wp2_with fail
  generalize (((w.alloc (.cells #[.int .i64 (room : Int), .slice a A.length cap] 30)).alloc (.cells #[.int .i64 kk1, .int .u32 kk2] 35)).alloc (.cells #[.int .i64 xi, Str xt] 32)).alloc (.cells #[.int .i64 0, .slice none 0 0] 30) = W0 at *
  obtain ⟨b, hb⟩ : ∃ b, w.heap.size = b := ⟨_, rfl⟩
  rw [hb] at HB0 HPB ⊢
  have HBN := Lib.hid hb
  clear hb
  refine (HAT.out W0 (by rw [HBN.out]; exact HB0.out)).mono ?_
  rintro e w1 ⟨rfl, hb1⟩
  rw [HIDX.out]
  have HP1 := Lib.hid (HPB.out.below hb1)
  have HB1 : Hid (Below b w w1) := Lib.hid (by have := Below.chain hb1 (by rw [HBN.out]; exact HB0.out); rw [HBN.out] at this; exact this)
  have HS1 : Hid (b + 4 ≤ w1.heap.size) := Lib.hid (by have := HP1.out.2.2.2.lt; omega)
  clear hb1
  clear t0 t1 k0 k1 x0 x1 z0 z1 ft1 fz0 fz1
  have kpb := HP1.out
  have t0 := kpb.1.facts.1 0
  have t1 := kpb.1.facts.1 1
  have k0 := kpb.2.1.facts.1 0
  have k1 := kpb.2.1.facts.1 1
  have x0 := kpb.2.2.1.facts.1 0
  have x1 := kpb.2.2.1.facts.1 1
  have z0 := kpb.2.2.2.facts.1 0
  have z1 := kpb.2.2.2.facts.1 1
  have ft1 := kpb.1.facts.2.1 1
  have fz0 := kpb.2.2.2.facts.2.1 0
  have fz1 := kpb.2.2.2.facts.2.1 1
  clear kpb
  have HRD : Hid (RdS w1 4 (.slice a A.length cap) A.length (dsC A vs)) := Lib.hid (HD.out.chain (by rw [HBN.out]; exact HB1.out)).s.rds
  go_upto_region 16 with (first
    | (at_builtin; refine wpList_append_rds rfl _ _ 28 rfl w1.heap.size 75 i0 _ 4 48 Try.underlying28 hi hz0 hz1 hz2 rfl (by decide) (.slice none 0 0) 0 [] rfl (Seg.nil _ _ _ _) _ A.length (dsC A vs) rfl HRD.out HONE.out HQ.out.1 HQ.out.2.1 (Nat.le_refl _) ?_; intro v4 w4 hown4 hgrow4 hat4; rw [List.nil_append, Nat.zero_add] at hown4; obtain ⟨a4, c4, rfl⟩ := Seg.form hown4; have HO4 := Lib.hid hown4; have HB4 : Hid (Below w1.heap.size w1 w4) := Lib.hid ((Only.grown (S := []) (Only.refl _ _) hgrow4 (fun x hx => by cases hx)).nil); have HP4 := Lib.hid (HP1.out.below HB4.out); clear t0 t1 k0 k1 x0 x1 z0 z1 ft1 fz0 fz1; have kpb := HP4.out; have t0 := kpb.1.facts.1 0; have t1 := kpb.1.facts.1 1; have k0 := kpb.2.1.facts.1 0; have k1 := kpb.2.1.facts.1 1; have x0 := kpb.2.2.1.facts.1 0; have x1 := kpb.2.2.1.facts.1 1; have z0 := kpb.2.2.2.facts.1 0; have z1 := kpb.2.2.2.facts.1 1; have ft1 := kpb.1.facts.2.1 1; have fz0 := kpb.2.2.2.facts.2.1 0; have fz1 := kpb.2.2.2.facts.2.1 1; clear kpb; clear hown4 hgrow4 hat4)
    | (at_builtin; refine wpList_append_rds rfl _ _ 28 rfl w1.heap.size 75 i0 _ 4 48 Try.underlying28 hi hz0 hz1 hz2 rfl (by decide) (.slice a4 A.length c4) A.length (dsC A vs) rfl ((HO4.out.alloc _).alloc _) _ 1 [.int .i64 kk1, .int .u32 kk2, .int .i64 need, .slice (some ⟨w4.heap.size, 0, none⟩) 1 1] rfl (rdsE_one (Blk.newAt (size_alloc _ _).symm)) (by simp [Value.oneCell']) HQ.out.2.2.1 HQ.out.2.2.2 (by simp only [size_alloc]; have := HB4.out.size; omega) ?_; intro v7 w7 hown7 hgrow7 hat7; obtain ⟨a7, c7, rfl⟩ := Seg.form hown7; have HO7 := Lib.hid hown7; have HB7 : Hid (Below w1.heap.size w1 w7) := Lib.hid (HB4.out.trans (((Only.of_below (S := (Value.slice a4 A.length c4).ownBlock.toList) (Below.chainAlloc (Below.chainAlloc (Below.refl _ w4) _) _)).grown hgrow7 (fun x hx => .inl (by simp [hx]))).below HB4.out.size (fun x hx => (HO4.out.blk x (by simpa using hx)).1))); have HX7 : Hid (Blk w7 w4.heap.size #[.int .i64 xi, Str xt] 32) := Lib.hid (((Blk.new w4 _ _).alloc _).grown hgrow7 (fun hx => by have := (HO4.out.blk _ hx.symm).2; omega)); have HP7 := Lib.hid (HP1.out.below HB7.out); clear t0 t1 k0 k1 x0 x1 z0 z1 ft1 fz0 fz1; have kpb := HP7.out; have t0 := kpb.1.facts.1 0; have t1 := kpb.1.facts.1 1; have k0 := kpb.2.1.facts.1 0; have k1 := kpb.2.1.facts.1 1; have x0 := kpb.2.2.1.facts.1 0; have x1 := kpb.2.2.1.facts.1 1; have z0 := kpb.2.2.2.facts.1 0; have z1 := kpb.2.2.2.facts.1 1; have ft1 := kpb.1.facts.2.1 1; have fz0 := kpb.2.2.2.facts.2.1 0; have fz1 := kpb.2.2.2.facts.2.1 1; clear kpb; clear hown7 hgrow7 hat7))
  have HDF := Lib.hid (DocF.add (d := ((kk1, kk2), need, [(xi, xt)])) HD.out HBN.out (Below.trans HB1.out (HB7.out.mono (by have := HS1.out; omega))) (by have := HBASE.out; have := HS1.out; have := HBN.out; omega) HO7.out rfl (shS_one HX7.out HB4.out.size))
  obtain ⟨g7, o7, c7', e7, hg7, _⟩ := HO7.out.shape (Nat.succ_pos _)
  cases e7
  have HT8 : Hid (PB (w7.setCell ⟨b, 1, none⟩ (.slice (some ⟨g7, o7, none⟩) (A.length + 1) c7)) b #[.int .i64 (room : Int), .slice (some ⟨g7, o7, none⟩) (A.length + 1) c7] #[.int .i64 0, .slice none 0 0] kk1 kk2 xi xt) := Lib.hid ⟨HP7.out.1.setAt 1 _ rfl, HP7.out.2.1.setOther _ _ (by simp), HP7.out.2.2.1.setOther _ _ (by simp; omega), HP7.out.2.2.2.setOther _ _ (by simp; omega)⟩
  have HDF8 := Lib.hid (HDF.out.only (((Only.refl [b] w7).setCell ⟨b, 1, none⟩ (.slice (some ⟨g7, o7, none⟩) (A.length + 1) c7) (.inl (by simp)))) (fun x hx => by have := HS1.out; simp at hx; omega))
  have HB8 : Hid (Below b w (w7.setCell ⟨b, 1, none⟩ (.slice (some ⟨g7, o7, none⟩) (A.length + 1) c7))) := Lib.hid ((Below.trans HB1.out (HB7.out.mono (by have := HS1.out; omega))).setCell (Nat.le_refl _) _)
  generalize w7.setCell ⟨b, 1, none⟩ (.slice (some ⟨g7, o7, none⟩) (A.length + 1) c7) = w8 at *
  have hds := (HDF8.out.fin (base := base) (by have := HBASE.out; have := HS1.out; have := HBN.out; omega))
  have hds2 : DocA base w8 (.slice (some ⟨g7, o7, none⟩) (A ++ [((kk1, kk2), need, [(xi, xt)])]).length c7) (A ++ [((kk1, kk2), need, [(xi, xt)])]) (vs ++ [.slice (some ⟨w4.heap.size, 0, none⟩) 1 1]) := by
    rw [List.length_append]; exact hds
  obtain ⟨g, off, d, ad, cd, eg, hd, hu, _, e0, e1, e2, e3⟩ := hds2.at A.length (by simp)
  cases eg
  rw [List.getElem?_append_right (Nat.le_refl _), Nat.sub_self] at hd
  rw [List.getElem?_append_right (by rw [HD.out.l]; exact Nat.le_refl _), HD.out.l, Nat.sub_self] at hu
  cases hd
  cases hu
  have hlt9 : (A.length : Int) < ((A.length + 1 : Nat) : Int) := by omega
  clear hds hds2 hg7
  have HRDY : Hid (∀ w', Calls Try.prog 21 #[.agg #[.int .i64 kk1, .int .u32 kk2, .int .i64 need, .slice (some ⟨w4.heap.size, 0, none⟩) 1 1]] w' fun e w'' => e = .returned (.bool (decide (need ≤ 1))) ∧ Below w'.heap.size w' w'') := Lib.hid fun w' => rready kk1 kk2 need [(xi, xt)] (some ⟨w4.heap.size, 0, none⟩) 1 w'
  clear t0 t1 k0 k1 x0 x1 z0 z1 ft1 fz0 fz1
  have kpb := HT8.out
  have t0 := kpb.1.facts.1 0
  have t1 := kpb.1.facts.1 1
  have k0 := kpb.2.1.facts.1 0
  have k1 := kpb.2.1.facts.1 1
  have x0 := kpb.2.2.1.facts.1 0
  have x1 := kpb.2.2.1.facts.1 1
  have z0 := kpb.2.2.2.facts.1 0
  have z1 := kpb.2.2.2.facts.1 1
  have ft1 := kpb.1.facts.2.1 1
  have fz0 := kpb.2.2.2.facts.2.1 0
  have fz1 := kpb.2.2.2.facts.2.1 1
  clear kpb
  go_wp2_with fail
  refine (HRDY.out w8).mono ?_
  rintro e w9 ⟨rfl, hb9⟩
  have HP9 := Lib.hid (HT8.out.below hb9)
  have HB9 : Hid (Below b w w9) := Lib.hid (Below.chain hb9 (HBN.out ▸ HB8.out) |> fun h => HBN.out ▸ h)
  have HDF9 := Lib.hid (HDF8.out.chain hb9)
  clear hb9
  clear t0 t1 k0 k1 x0 x1 z0 z1 ft1 fz0 fz1
  have kpb := HP9.out
  have t0 := kpb.1.facts.1 0
  have t1 := kpb.1.facts.1 1
  have k0 := kpb.2.1.facts.1 0
  have k1 := kpb.2.1.facts.1 1
  have x0 := kpb.2.2.1.facts.1 0
  have x1 := kpb.2.2.1.facts.1 1
  have z0 := kpb.2.2.2.facts.1 0
  have z1 := kpb.2.2.2.facts.1 1
  have ft1 := kpb.1.facts.2.1 1
  have fz0 := kpb.2.2.2.facts.2.1 0
  have fz1 := kpb.2.2.2.facts.2.1 1
  clear kpb
  by_cases hc : need = 1
  · have hc1 : need ≤ 1 := by omega
    obtain rfl : vn = 3 := by rw [← HVN.out, if_pos hc]
    clear hc
    rw [decide_eq_true hc1]
    go_wp2_with fail
    try rw [Exit.noGoto_ret]
    have hfin : Below b w ((w9.setCell ⟨b + 1 + 1 + 1, 0, none⟩ (.int .i64 (room : Int))).setCell ⟨b + 1 + 1 + 1, 1, none⟩ (.slice (some ⟨g7, o7, none⟩) (A.length + 1) c7)) := (HB9.out.setCell (show b ≤ b + 1 + 1 + 1 by omega) _).setCell (show b ≤ b + 1 + 1 + 1 by omega) _
    have hdoc := (HDF9.out.only (fin_set w9 (b + 1 + 1 + 1) (.int .i64 (room : Int)) (.slice (some ⟨g7, o7, none⟩) (A.length + 1) c7)) (fun x hx => by have := HS1.out; simp at hx; omega)).fin (base := base) (by have := HBASE.out; have := HS1.out; have := HBN.out; omega)
    refine bodyPost_ret (v := .tuple #[.agg #[.int .i64 (room : Int), .slice (some ⟨g7, o7, none⟩) (A.length + 1) c7], .int .i64 3]) (by simp [results, Try.results16, go_sem, z0, z1]) rfl ⟨some ⟨g7, o7, none⟩, c7, vs ++ [.slice (some ⟨w4.heap.size, 0, none⟩) 1 1], by (first | rfl | simp), by (simpa using hdoc), by (rw [HBN.out]; exact hfin)⟩
  · have hc1 : ¬ need ≤ 1 := by omega
    obtain rfl : vn = 0 := by rw [← HVN.out, if_neg hc]
    clear hc
    rw [decide_eq_false hc1]
    go_wp2_with fail
    try rw [Exit.noGoto_ret]
    have hfin : Below b w ((w9.setCell ⟨b + 1 + 1 + 1, 0, none⟩ (.int .i64 (room : Int))).setCell ⟨b + 1 + 1 + 1, 1, none⟩ (.slice (some ⟨g7, o7, none⟩) (A.length + 1) c7)) := (HB9.out.setCell (show b ≤ b + 1 + 1 + 1 by omega) _).setCell (show b ≤ b + 1 + 1 + 1 by omega) _
    have hdoc := (HDF9.out.only (fin_set w9 (b + 1 + 1 + 1) (.int .i64 (room : Int)) (.slice (some ⟨g7, o7, none⟩) (A.length + 1) c7)) (fun x hx => by have := HS1.out; simp at hx; omega)).fin (base := base) (by have := HBASE.out; have := HS1.out; have := HBN.out; omega)
    refine bodyPost_ret (v := .tuple #[.agg #[.int .i64 (room : Int), .slice (some ⟨g7, o7, none⟩) (A.length + 1) c7], .int .i64 0]) (by simp [results, Try.results16, go_sem, z0, z1]) rfl ⟨some ⟨g7, o7, none⟩, c7, vs ++ [.slice (some ⟨w4.heap.size, 0, none⟩) 1 1], by (first | rfl | simp), by (simpa using hdoc), by (rw [HBN.out]; exact hfin)⟩
end Go.Proofs.Ytnommofekjiiaaa
