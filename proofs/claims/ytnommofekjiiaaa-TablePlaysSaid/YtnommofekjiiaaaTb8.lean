/-
  The document's table: Put where there is such an entry (chapter 18).
-/
import Derived.Test.YtnommofekjiiaaaTb7
namespace Go.Proofs.Ytnommofekjiiaaa
open Go Go.RowKit Go.MuLone
set_option linter.unusedVariables false
set_option linter.unusedSimpArgs false
set_option maxRecDepth 100000
set_option maxHeartbeats 2000000
theorem rput18_known (base room : Nat) (kk1 kk2 need xi : Int) (xt : List UInt8) (v : Value) (A : List DE) (vs : List Value) (w : World) (h : DocA base w v A vs) (hbase : base ≤ w.heap.size) (hA : DOkA A) (hroom : (room : Int) ≤ 1000000) (hb : ¬ badX need (xi, xt)) (i : Nat) (d : DE) (hi : A[i]? = some d) (hidx : idxD (kk1, kk2) A = (i : Int)) (kn : Int) (hkn : knownN d need (xi, xt) = kn) (vn : Nat) (hk0 : kn = (vn : Int)) :
    Calls Try.prog 16 #[.agg #[.int .i64 (room : Int), v], .agg #[.int .i64 kk1, .int .u32 kk2], .int .i64 need, .agg #[.int .i64 xi, Str xt]] w (DPut base w room A vn) := by
  obtain ⟨a, cap, rfl⟩ := h.s.form
  have hpb : PB ((((w.alloc (.cells #[.int .i64 (room : Int), .slice a A.length cap] 30)).alloc (.cells #[.int .i64 kk1, .int .u32 kk2] 35)).alloc (.cells #[.int .i64 xi, Str xt] 32)).alloc (.cells #[.int .i64 0, .slice none 0 0] 30)) w.heap.size #[.int .i64 (room : Int), .slice a A.length cap] #[.int .i64 0, .slice none 0 0] kk1 kk2 xi xt := ⟨(((Blk.new w _ _).alloc _).alloc _).alloc _, ((Blk.newAt (size_alloc _ _).symm).alloc _).alloc _, (Blk.newAt (by simp only [size_alloc])).alloc _, Blk.newAt (by simp only [size_alloc])⟩
  have HB0 := Lib.hid (Below.chainAlloc (Below.chainAlloc (Below.chainAlloc (Below.chainAlloc (Below.refl _ w) (.cells #[.int .i64 (room : Int), .slice a A.length cap] 30)) (.cells #[.int .i64 kk1, .int .u32 kk2] 35)) (.cells #[.int .i64 xi, Str xt] 32)) (.cells #[.int .i64 0, .slice none 0 0] 30))
  have HPB := Lib.hid hpb
  have HD := Lib.hid h
  have HA := Lib.hid hA
  have HBASE := Lib.hid hbase
  clear h hA hbase hpb
  subst hk0
  have hn1 : ¬ need < 1 := by unfold badX at hb; omega
  have hn2 : ¬ 32 < need := by unfold badX at hb; omega
  have hn3 : ¬ xi < 0 := by unfold badX at hb; omega
  have hn4 : ¬ 254 < xi := by unfold badX at hb; omega
  obtain ⟨i0, hi0, hz0, hz1, hz2⟩ := info_parts infoED
  have HIDX := Lib.hid hidx
  have HI := Lib.hid hi
  have hil := (List.getElem?_eq_some_iff.1 hi).1
  obtain ⟨u, hu⟩ : ∃ u, vs[i]? = some u := ⟨_, List.getElem?_eq_getElem (by rw [HD.out.l]; exact hil)⟩
  have hsh := HD.out.e i d u hi hu
  obtain ⟨ad, cd, rfl⟩ := hsh.form
  have HU := Lib.hid hu
  have HSH := Lib.hid hsh
  have HDI := Lib.hid (HA.out.e d (List.mem_of_getElem? hi))
  have HQ : Hid (0 + A.length ≤ maxLen ∧ (0 + A.length) * 48 ≤ 140737488355328 ∧ 0 ≤ A.length) := Lib.hid (by have := HA.out.l; unfold maxLen; omega)
  have hli : (A.length : Int) ≤ 1000 := by have := HA.out.l; omega
  have hi0' : (0 : Int) ≤ (i : Int) := by omega
  have hin : ¬ (i : Int) < 0 := by omega
  have hilt : (i : Int) < (A.length : Int) := by omega
  have HIL := Lib.hid hil
  have HONE := Lib.hid HD.out.one
  clear hb hidx hi hu hsh hil
  have HKN : Hid (∀ w', Below w.heap.size w w' → Calls Try.prog 30 #[.agg #[.int .i64 d.1.1, .int .u32 d.1.2, .int .i64 d.2.1, .slice ad d.2.2.length cd], .int .i64 need, .agg #[.int .i64 xi, Str xt]] w' fun e w'' => e = .returned (.int .i64 (vn : Int)) ∧ Below w'.heap.size w' w'') := Lib.hid fun w' hb' => by
    have := known_any base d.1.1 d.1.2 d.2.1 need d.2.2 ad cd xi xt w' (HSH.out.chain hb') HDI.out.1 HDI.out.2.1 (Nat.le_trans HDI.out.2.2 (by decide))
    rw [show ((d.1.1, d.1.2), d.2.1, d.2.2) = d from rfl, hkn] at this
    exact this
  clear hkn
  have HAT : Hid (∀ w', Below w.heap.size w w' → Calls Try.prog 29 #[.agg #[.int .i64 (room : Int), .slice a A.length cap], .agg #[.int .i64 kk1, .int .u32 kk2]] w' fun e w'' => e = .returned (.int .i64 (idxD (kk1, kk2) A)) ∧ Below w'.heap.size w' w'') := Lib.hid fun w' hb' => rat_any base room kk1 kk2 _ A vs w' (HD.out.chain hb') HA.out.l
  have kpb := HPB.out
  have t0 := kpb.1.facts.1 0
  have t1 := kpb.1.facts.1 1
  have k0 := kpb.2.1.facts.1 0
  have k1 := kpb.2.1.facts.1 1
  have x0 := kpb.2.2.1.facts.1 0
  have x1 := kpb.2.2.1.facts.1 1
  have z0 := kpb.2.2.2.facts.1 0
  have z1 := kpb.2.2.2.facts.1 1
  have ft1 := kpb.1.facts.2.1 1
  have fz0 := kpb.2.2.2.facts.2.1 0
  have fz1 := kpb.2.2.2.facts.2.1 1
  clear kpb
  go_enter Try.func16, Try.ntmps16
  go_wp2_with fail
  generalize (((w.alloc (.cells #[.int .i64 (room : Int), .slice a A.length cap] 30)).alloc (.cells #[.int .i64 kk1, .int .u32 kk2] 35)).alloc (.cells #[.int .i64 xi, Str xt] 32)).alloc (.cells #[.int .i64 0, .slice none 0 0] 30) = W0 at *
  obtain ⟨b, hb⟩ : ∃ b, w.heap.size = b := ⟨_, rfl⟩
  rw [hb] at HB0 HPB ⊢
  have HBN := Lib.hid hb
  clear hb
  refine (HAT.out W0 (by rw [HBN.out]; exact HB0.out)).mono ?_
  rintro e w1 ⟨rfl, hb1⟩
  rw [HIDX.out]
  have HP1 := Lib.hid (HPB.out.below hb1)
  have HB1 : Hid (Below b w w1) := Lib.hid (by have := Below.chain hb1 (by rw [HBN.out]; exact HB0.out); rw [HBN.out] at this; exact this)
  have HS1 : Hid (b + 4 ≤ w1.heap.size) := Lib.hid (by have := HP1.out.2.2.2.lt; omega)
  clear hb1
  clear t0 t1 k0 k1 x0 x1 z0 z1 ft1 fz0 fz1
  have kpb := HP1.out
  have t0 := kpb.1.facts.1 0
  have t1 := kpb.1.facts.1 1
  have k0 := kpb.2.1.facts.1 0
  have k1 := kpb.2.1.facts.1 1
  have x0 := kpb.2.2.1.facts.1 0
  have x1 := kpb.2.2.1.facts.1 1
  have z0 := kpb.2.2.2.facts.1 0
  have z1 := kpb.2.2.2.facts.1 1
  have ft1 := kpb.1.facts.2.1 1
  have fz0 := kpb.2.2.2.facts.2.1 0
  have fz1 := kpb.2.2.2.facts.2.1 1
  clear kpb
  have HRD : Hid (RdS w1 4 (.slice a A.length cap) A.length (dsC A vs)) := Lib.hid (HD.out.chain (by rw [HBN.out]; exact HB1.out)).s.rds
  go_upto_region 11 with (at_builtin; refine wpList_append_rds rfl _ _ 28 rfl w1.heap.size 75 i0 _ 4 48 Try.underlying28 hi0 hz0 hz1 hz2 rfl (by decide) (.slice none 0 0) 0 [] rfl (Seg.nil _ _ _ _) _ A.length (dsC A vs) rfl HRD.out HONE.out HQ.out.1 HQ.out.2.1 (Nat.le_refl _) ?_; intro v4 w4 hown4 hgrow4 hat4; rw [List.nil_append, Nat.zero_add] at hown4; obtain ⟨a4, c4, rfl⟩ := Seg.form hown4; have HO4 := Lib.hid hown4; have HB4 : Hid (Below w1.heap.size w1 w4) := Lib.hid ((Only.grown (S := []) (Only.refl _ _) hgrow4 (fun x hx => by cases hx)).nil); have HP4 := Lib.hid (HP1.out.below HB4.out); clear t0 t1 k0 k1 x0 x1 z0 z1 ft1 fz0 fz1; have kpb := HP4.out; have t0 := kpb.1.facts.1 0; have t1 := kpb.1.facts.1 1; have k0 := kpb.2.1.facts.1 0; have k1 := kpb.2.1.facts.1 1; have x0 := kpb.2.2.1.facts.1 0; have x1 := kpb.2.2.1.facts.1 1; have z0 := kpb.2.2.2.facts.1 0; have z1 := kpb.2.2.2.facts.1 1; have ft1 := kpb.1.facts.2.1 1; have fz0 := kpb.2.2.2.facts.2.1 0; have fz1 := kpb.2.2.2.facts.2.1 1; clear kpb; clear hown4 hgrow4 hat4)
  obtain ⟨g4, o4, c4', e4, hg4, _⟩ := HO4.out.shape (Nat.lt_of_le_of_lt (Nat.zero_le _) HIL.out)
  cases e4
  have HG4 := Lib.hid hg4
  have HB04 : Hid (Below b w w4) := Lib.hid (Below.trans HB1.out (HB4.out.mono (by have := HS1.out; omega)))
  have HBS4 : Hid (b ≤ w4.heap.size) := Lib.hid (by have := HB4.out.size; have := HS1.out; omega)
  have HCE : Hid (∀ w', Below w4.heap.size w4 w' → (w'.cell? ⟨g4, o4 + i * 4, none⟩ = some (.int .i64 d.1.1) ∧ w'.cell? ⟨g4, o4 + i * 4 + 1, none⟩ = some (.int .u32 d.1.2) ∧ w'.cell? ⟨g4, o4 + i * 4 + 2, none⟩ = some (.int .i64 d.2.1) ∧ w'.cell? ⟨g4, o4 + i * 4 + 3, none⟩ = some (.slice ad d.2.2.length cd) ∧ w'.cell? ⟨b + 1 + 1, 0, none⟩ = some (.int .i64 xi) ∧ w'.cell? ⟨b + 1 + 1, 1, none⟩ = some (Str xt)) ∧ Below w4.heap.size w4 w') := Lib.hid fun w' hb' => by
    have hs := HO4.out.chain hb'
    have hat := fun j (hj : j < 4) => (hs.at (i * 4 + j) (by have := HIL.out; omega)).trans (dsC_at A vs i d _ HI.out HU.out j hj)
    have hx := (HP4.out.below hb').2.2.1
    refine ⟨⟨hat 0 (by decide), ?_, ?_, ?_, hx.facts.1 0, hx.facts.1 1⟩, hb'⟩
    · rw [Nat.add_assoc]; exact hat 1 (by decide)
    · rw [Nat.add_assoc]; exact hat 2 (by decide)
    · rw [Nat.add_assoc]; exact hat 3 (by decide)
  obtain ⟨⟨e0, e1, e2, e3, y0, y1⟩, _⟩ := HCE.out w4 (Below.refl _ _)
  clear hg4 y0 y1
  clear e0 e1 e2 e3 x0 x1
  go_region_held3 (fun w' => (w'.cell? ⟨g4, o4 + i * 4, none⟩ = some (.int .i64 d.1.1) ∧ w'.cell? ⟨g4, o4 + i * 4 + 1, none⟩ = some (.int .u32 d.1.2) ∧ w'.cell? ⟨g4, o4 + i * 4 + 2, none⟩ = some (.int .i64 d.2.1) ∧ w'.cell? ⟨g4, o4 + i * 4 + 3, none⟩ = some (.slice ad d.2.2.length cd) ∧ w'.cell? ⟨b + 1 + 1, 0, none⟩ = some (.int .i64 xi) ∧ w'.cell? ⟨b + 1 + 1, 1, none⟩ = some (Str xt)) ∧ Below w4.heap.size w4 w')
    (first
      | exact HCE.out _ (Below.refl _ _)
      | exact HCE.out _ (Below.refl _ _).drew
      | exact HCE.out _ (Below.refl _ _).drew.drew
      | (go_split_ands; exact HCE.out _ (Below.chain hb (by assumption))))
    ((first
      | (go_at_call 30; refine (HKN.out _ (by go_split_ands; rw [HBN.out]; exact Below.trans HB04.out (Below.mono (by assumption) HBS4.out))).mono ?_; rintro e wy ⟨rfl, hb⟩)))
  have HBY : Hid (Below w4.heap.size w4 wy) := Lib.hid (Below.chain hb (Below.refl _ _).drew)
  have HPY := Lib.hid (HP4.out.below HBY.out)
  clear hb
  clear t0 t1 k0 k1 z0 z1 ft1 fz0 fz1
  have kpb := HPY.out
  have t0 := kpb.1.facts.1 0
  have t1 := kpb.1.facts.1 1
  have k0 := kpb.2.1.facts.1 0
  have k1 := kpb.2.1.facts.1 1
  have x0 := kpb.2.2.1.facts.1 0
  have x1 := kpb.2.2.1.facts.1 1
  have z0 := kpb.2.2.2.facts.1 0
  have z1 := kpb.2.2.2.facts.1 1
  have ft1 := kpb.1.facts.2.1 1
  have fz0 := kpb.2.2.2.facts.2.1 0
  have fz1 := kpb.2.2.2.facts.2.1 1
  clear kpb
  have hfin : Below b w ((wy.setCell ⟨b + 1 + 1 + 1, 0, none⟩ (.int .i64 (room : Int))).setCell ⟨b + 1 + 1 + 1, 1, none⟩ (.slice a A.length cap)) := ((HB04.out.trans (HBY.out.mono HBS4.out)).setCell (show b ≤ b + 1 + 1 + 1 by omega) _).setCell (show b ≤ b + 1 + 1 + 1 by omega) _
  rw [← HBN.out] at hfin
  have HF := Lib.hid (And.intro (HD.out.chain hfin) hfin)
  clear hfin
  go_wp2_with fail
  try rw [Exit.noGoto_ret]
  have hf := HF.out
  rw [HBN.out] at hf
  refine bodyPost_ret (v := .tuple #[.agg #[.int .i64 (room : Int), .slice a A.length cap], .int .i64 (vn : Int)]) (by simp [results, Try.results16, go_sem, z0, z1]) rfl ⟨a, cap, vs, rfl, hf.1, by rw [HBN.out]; exact hf.2⟩
theorem rput18_more (base room : Nat) (kk1 kk2 need xi : Int) (xt : List UInt8) (v : Value) (A : List DE) (vs : List Value) (w : World) (h : DocA base w v A vs) (hbase : base ≤ w.heap.size) (hA : DOkA A) (hroom : (room : Int) ≤ 1000000) (hb : ¬ badX need (xi, xt)) (i : Nat) (d : DE) (hi : A[i]? = some d) (hidx : idxD (kk1, kk2) A = (i : Int)) (hkn : knownN d need (xi, xt) = -1) (vn : Nat) (hvn : (if d.2.1 ≤ (d.2.2.length : Int) + 1 then 3 else 0) = vn) :
    Calls Try.prog 16 #[.agg #[.int .i64 (room : Int), v], .agg #[.int .i64 kk1, .int .u32 kk2], .int .i64 need, .agg #[.int .i64 xi, Str xt]] w (DPut base w room (A.set i (d.1, d.2.1, insL d.2.2 (lowN xi d.2.2) (xi, xt))) vn) := by
  obtain ⟨a, cap, rfl⟩ := h.s.form
  have hpb : PB ((((w.alloc (.cells #[.int .i64 (room : Int), .slice a A.length cap] 30)).alloc (.cells #[.int .i64 kk1, .int .u32 kk2] 35)).alloc (.cells #[.int .i64 xi, Str xt] 32)).alloc (.cells #[.int .i64 0, .slice none 0 0] 30)) w.heap.size #[.int .i64 (room : Int), .slice a A.length cap] #[.int .i64 0, .slice none 0 0] kk1 kk2 xi xt := ⟨(((Blk.new w _ _).alloc _).alloc _).alloc _, ((Blk.newAt (size_alloc _ _).symm).alloc _).alloc _, (Blk.newAt (by simp only [size_alloc])).alloc _, Blk.newAt (by simp only [size_alloc])⟩
  have HB0 := Lib.hid (Below.chainAlloc (Below.chainAlloc (Below.chainAlloc (Below.chainAlloc (Below.refl _ w) (.cells #[.int .i64 (room : Int), .slice a A.length cap] 30)) (.cells #[.int .i64 kk1, .int .u32 kk2] 35)) (.cells #[.int .i64 xi, Str xt] 32)) (.cells #[.int .i64 0, .slice none 0 0] 30))
  have HPB := Lib.hid hpb
  have HD := Lib.hid h
  have HA := Lib.hid hA
  have HBASE := Lib.hid hbase
  clear h hA hbase hpb
  have HVN := Lib.hid hvn
  clear hvn
  have hn1 : ¬ need < 1 := by unfold badX at hb; omega
  have hn2 : ¬ 32 < need := by unfold badX at hb; omega
  have hn3 : ¬ xi < 0 := by unfold badX at hb; omega
  have hn4 : ¬ 254 < xi := by unfold badX at hb; omega
  obtain ⟨i0, hi0, hz0, hz1, hz2⟩ := info_parts infoED
  have HIDX := Lib.hid hidx
  have HI := Lib.hid hi
  have hil := (List.getElem?_eq_some_iff.1 hi).1
  obtain ⟨u, hu⟩ : ∃ u, vs[i]? = some u := ⟨_, List.getElem?_eq_getElem (by rw [HD.out.l]; exact hil)⟩
  have hsh := HD.out.e i d u hi hu
  obtain ⟨ad, cd, rfl⟩ := hsh.form
  have HU := Lib.hid hu
  have HSH := Lib.hid hsh
  have HDI := Lib.hid (HA.out.e d (List.mem_of_getElem? hi))
  have HQ : Hid (0 + A.length ≤ maxLen ∧ (0 + A.length) * 48 ≤ 140737488355328 ∧ 0 ≤ A.length) := Lib.hid (by have := HA.out.l; unfold maxLen; omega)
  have hli : (A.length : Int) ≤ 1000 := by have := HA.out.l; omega
  have hi0' : (0 : Int) ≤ (i : Int) := by omega
  have hin : ¬ (i : Int) < 0 := by omega
  have hilt : (i : Int) < (A.length : Int) := by omega
  have HIL := Lib.hid hil
  have HONE := Lib.hid HD.out.one
  clear hb hidx hi hu hsh hil
  have HKN : Hid (∀ w', Below w.heap.size w w' → Calls Try.prog 30 #[.agg #[.int .i64 d.1.1, .int .u32 d.1.2, .int .i64 d.2.1, .slice ad d.2.2.length cd], .int .i64 need, .agg #[.int .i64 xi, Str xt]] w' fun e w'' => e = .returned (.int .i64 (-1)) ∧ Below w'.heap.size w' w'') := Lib.hid fun w' hb' => by
    have := known_any base d.1.1 d.1.2 d.2.1 need d.2.2 ad cd xi xt w' (HSH.out.chain hb') HDI.out.1 HDI.out.2.1 (Nat.le_trans HDI.out.2.2 (by decide))
    rw [show ((d.1.1, d.1.2), d.2.1, d.2.2) = d from rfl, hkn] at this
    exact this
  clear hkn
  have HPT : Hid (∀ w', Below w.heap.size w w' → Calls Try.prog 31 #[.slice ad d.2.2.length cd, .agg #[.int .i64 xi, Str xt]] w' fun e w'' => ∃ a' c', e = .returned (.slice a' (d.2.2.length + 1) c') ∧ ShS w'' w'.heap.size (.slice a' (d.2.2.length + 1) c') (insL d.2.2 (lowN xi d.2.2) (xi, xt)) ∧ Below w'.heap.size w' w'') := Lib.hid fun w' hb' =>
    rput_any base _ d.2.2 xi xt w' (HSH.out.chain hb') HDI.out.2.1 (Nat.le_trans HDI.out.2.2 (by decide))
  have HAT : Hid (∀ w', Below w.heap.size w w' → Calls Try.prog 29 #[.agg #[.int .i64 (room : Int), .slice a A.length cap], .agg #[.int .i64 kk1, .int .u32 kk2]] w' fun e w'' => e = .returned (.int .i64 (idxD (kk1, kk2) A)) ∧ Below w'.heap.size w' w'') := Lib.hid fun w' hb' => rat_any base room kk1 kk2 _ A vs w' (HD.out.chain hb') HA.out.l
  have kpb := HPB.out
  have t0 := kpb.1.facts.1 0
  have t1 := kpb.1.facts.1 1
  have k0 := kpb.2.1.facts.1 0
  have k1 := kpb.2.1.facts.1 1
  have x0 := kpb.2.2.1.facts.1 0
  have x1 := kpb.2.2.1.facts.1 1
  have z0 := kpb.2.2.2.facts.1 0
  have z1 := kpb.2.2.2.facts.1 1
  have ft1 := kpb.1.facts.2.1 1
  have fz0 := kpb.2.2.2.facts.2.1 0
  have fz1 := kpb.2.2.2.facts.2.1 1
  clear kpb
  go_enter Try.func16, Try.ntmps16
  go_wp2_with fail
  generalize (((w.alloc (.cells #[.int .i64 (room : Int), .slice a A.length cap] 30)).alloc (.cells #[.int .i64 kk1, .int .u32 kk2] 35)).alloc (.cells #[.int .i64 xi, Str xt] 32)).alloc (.cells #[.int .i64 0, .slice none 0 0] 30) = W0 at *
  obtain ⟨b, hb⟩ : ∃ b, w.heap.size = b := ⟨_, rfl⟩
  rw [hb] at HB0 HPB ⊢
  have HBN := Lib.hid hb
  clear hb
  refine (HAT.out W0 (by rw [HBN.out]; exact HB0.out)).mono ?_
  rintro e w1 ⟨rfl, hb1⟩
  rw [HIDX.out]
  have HP1 := Lib.hid (HPB.out.below hb1)
  have HB1 : Hid (Below b w w1) := Lib.hid (by have := Below.chain hb1 (by rw [HBN.out]; exact HB0.out); rw [HBN.out] at this; exact this)
  have HS1 : Hid (b + 4 ≤ w1.heap.size) := Lib.hid (by have := HP1.out.2.2.2.lt; omega)
  clear hb1
  clear t0 t1 k0 k1 x0 x1 z0 z1 ft1 fz0 fz1
  have kpb := HP1.out
  have t0 := kpb.1.facts.1 0
  have t1 := kpb.1.facts.1 1
  have k0 := kpb.2.1.facts.1 0
  have k1 := kpb.2.1.facts.1 1
  have x0 := kpb.2.2.1.facts.1 0
  have x1 := kpb.2.2.1.facts.1 1
  have z0 := kpb.2.2.2.facts.1 0
  have z1 := kpb.2.2.2.facts.1 1
  have ft1 := kpb.1.facts.2.1 1
  have fz0 := kpb.2.2.2.facts.2.1 0
  have fz1 := kpb.2.2.2.facts.2.1 1
  clear kpb
  have HRD : Hid (RdS w1 4 (.slice a A.length cap) A.length (dsC A vs)) := Lib.hid (HD.out.chain (by rw [HBN.out]; exact HB1.out)).s.rds
  go_upto_region 11 with (at_builtin; refine wpList_append_rds rfl _ _ 28 rfl w1.heap.size 75 i0 _ 4 48 Try.underlying28 hi0 hz0 hz1 hz2 rfl (by decide) (.slice none 0 0) 0 [] rfl (Seg.nil _ _ _ _) _ A.length (dsC A vs) rfl HRD.out HONE.out HQ.out.1 HQ.out.2.1 (Nat.le_refl _) ?_; intro v4 w4 hown4 hgrow4 hat4; rw [List.nil_append, Nat.zero_add] at hown4; obtain ⟨a4, c4, rfl⟩ := Seg.form hown4; have HO4 := Lib.hid hown4; have HB4 : Hid (Below w1.heap.size w1 w4) := Lib.hid ((Only.grown (S := []) (Only.refl _ _) hgrow4 (fun x hx => by cases hx)).nil); have HP4 := Lib.hid (HP1.out.below HB4.out); clear t0 t1 k0 k1 x0 x1 z0 z1 ft1 fz0 fz1; have kpb := HP4.out; have t0 := kpb.1.facts.1 0; have t1 := kpb.1.facts.1 1; have k0 := kpb.2.1.facts.1 0; have k1 := kpb.2.1.facts.1 1; have x0 := kpb.2.2.1.facts.1 0; have x1 := kpb.2.2.1.facts.1 1; have z0 := kpb.2.2.2.facts.1 0; have z1 := kpb.2.2.2.facts.1 1; have ft1 := kpb.1.facts.2.1 1; have fz0 := kpb.2.2.2.facts.2.1 0; have fz1 := kpb.2.2.2.facts.2.1 1; clear kpb; clear hown4 hgrow4 hat4)
  obtain ⟨g4, o4, c4', e4, hg4, _⟩ := HO4.out.shape (Nat.lt_of_le_of_lt (Nat.zero_le _) HIL.out)
  cases e4
  have HG4 := Lib.hid hg4
  have HB04 : Hid (Below b w w4) := Lib.hid (Below.trans HB1.out (HB4.out.mono (by have := HS1.out; omega)))
  have HBS4 : Hid (b ≤ w4.heap.size) := Lib.hid (by have := HB4.out.size; have := HS1.out; omega)
  have HCE : Hid (∀ w', Below w4.heap.size w4 w' → (w'.cell? ⟨g4, o4 + i * 4, none⟩ = some (.int .i64 d.1.1) ∧ w'.cell? ⟨g4, o4 + i * 4 + 1, none⟩ = some (.int .u32 d.1.2) ∧ w'.cell? ⟨g4, o4 + i * 4 + 2, none⟩ = some (.int .i64 d.2.1) ∧ w'.cell? ⟨g4, o4 + i * 4 + 3, none⟩ = some (.slice ad d.2.2.length cd) ∧ w'.cell? ⟨b + 1 + 1, 0, none⟩ = some (.int .i64 xi) ∧ w'.cell? ⟨b + 1 + 1, 1, none⟩ = some (Str xt)) ∧ Below w4.heap.size w4 w') := Lib.hid fun w' hb' => by
    have hs := HO4.out.chain hb'
    have hat := fun j (hj : j < 4) => (hs.at (i * 4 + j) (by have := HIL.out; omega)).trans (dsC_at A vs i d _ HI.out HU.out j hj)
    have hx := (HP4.out.below hb').2.2.1
    refine ⟨⟨hat 0 (by decide), ?_, ?_, ?_, hx.facts.1 0, hx.facts.1 1⟩, hb'⟩
    · rw [Nat.add_assoc]; exact hat 1 (by decide)
    · rw [Nat.add_assoc]; exact hat 2 (by decide)
    · rw [Nat.add_assoc]; exact hat 3 (by decide)
  obtain ⟨⟨e0, e1, e2, e3, y0, y1⟩, _⟩ := HCE.out w4 (Below.refl _ _)
  clear hg4 y0 y1
  clear e0 e1 e2 e3 x0 x1
  go_region_held3 (fun w' => (w'.cell? ⟨g4, o4 + i * 4, none⟩ = some (.int .i64 d.1.1) ∧ w'.cell? ⟨g4, o4 + i * 4 + 1, none⟩ = some (.int .u32 d.1.2) ∧ w'.cell? ⟨g4, o4 + i * 4 + 2, none⟩ = some (.int .i64 d.2.1) ∧ w'.cell? ⟨g4, o4 + i * 4 + 3, none⟩ = some (.slice ad d.2.2.length cd) ∧ w'.cell? ⟨b + 1 + 1, 0, none⟩ = some (.int .i64 xi) ∧ w'.cell? ⟨b + 1 + 1, 1, none⟩ = some (Str xt)) ∧ Below w4.heap.size w4 w')
    (first
      | exact HCE.out _ (Below.refl _ _)
      | exact HCE.out _ (Below.refl _ _).drew
      | exact HCE.out _ (Below.refl _ _).drew.drew
      | (go_split_ands; exact HCE.out _ (Below.chain hb (by assumption))))
    ((first
      | (go_at_call 30; refine (HKN.out _ (by go_split_ands; rw [HBN.out]; exact Below.trans HB04.out (Below.mono (by assumption) HBS4.out))).mono ?_; rintro e wy ⟨rfl, hb⟩)))
  have HBY : Hid (Below w4.heap.size w4 wy) := Lib.hid (Below.chain hb (Below.refl _ _).drew)
  have HPY := Lib.hid (HP4.out.below HBY.out)
  clear hb
  clear t0 t1 k0 k1 z0 z1 ft1 fz0 fz1
  have kpb := HPY.out
  have t0 := kpb.1.facts.1 0
  have t1 := kpb.1.facts.1 1
  have k0 := kpb.2.1.facts.1 0
  have k1 := kpb.2.1.facts.1 1
  have x0 := kpb.2.2.1.facts.1 0
  have x1 := kpb.2.2.1.facts.1 1
  have z0 := kpb.2.2.2.facts.1 0
  have z1 := kpb.2.2.2.facts.1 1
  have ft1 := kpb.1.facts.2.1 1
  have fz0 := kpb.2.2.2.facts.2.1 0
  have fz1 := kpb.2.2.2.facts.2.1 1
  clear kpb
  have HBYb : Hid (Below w.heap.size w wy) := Lib.hid (by rw [HBN.out]; exact HB04.out.trans (HBY.out.mono HBS4.out))
  obtain ⟨⟨e0, e1, e2, e3, y0, y1⟩, _⟩ := HCE.out wy HBY.out
  have HO4Y := Lib.hid (HO4.out.chain HBY.out)
  clear e0 e1 e2 y0 y1
  go_upto_region 14 with fail
  go_cut [11] from 71 (fun v11 wx => v11 = .slice (some ⟨g4, o4, none⟩) A.length c4 ∧ Hid (∃ a5 c5, DocF base b w1.heap.size wx (.slice (some ⟨g4, o4, none⟩) A.length c4) (A.set i (d.1, d.2.1, insL d.2.2 (lowN xi d.2.2) (xi, xt))) (vs.set i (.slice a5 (d.2.2.length + 1) c5)) ∧ PB wx b #[.int .i64 (room : Int), .slice a A.length cap] #[.int .i64 0, .slice none 0 0] kk1 kk2 xi xt ∧ Below b w wx))
  case first =>
    go_region_law ((go_simp; go_at_call 31; refine (HPT.out _ (by first | exact HBYb.out | exact HBYb.out.drew | exact HBYb.out.drew.drew)).mono ?_; rintro e w5 ⟨a5, c5, rfl, hs5, hb5⟩; have HS5 := Lib.hid hs5; have HB5 : Hid (Below wy.heap.size wy w5) := Lib.hid (by first | exact hb5 | exact Below.chain hb5 (Below.refl _ _).drew); have HO5 := Lib.hid (HO4Y.out.chain HB5.out); have q3 := (HCE.out w5 (Below.chain HB5.out HBY.out)).1.2.2.2.1; have f3 := HO5.out.free (o4 + i * 4 + 3); clear hs5 hb5))
    all_goals
      go_wp2_with fail
      go_meet
      have hg := HG4.out
      have hs1 := HS1.out
      have hb5 : Below b w w5 := HB04.out.trans ((Below.chain HB5.out HBY.out).mono HBS4.out)
      exact ⟨rfl, Lib.hid ⟨a5, c5, DocF.set (B2 := wy.heap.size) HD.out HBN.out hb5 (by have := HBASE.out; have := HBN.out; omega) (by omega) HO5.out rfl HI.out HS5.out (by have := (HO4Y.out.blk g4 rfl).2; omega) (by have := HB4.out.size; have := HBY.out.size; omega), (HPY.out.below HB5.out).far (by omega) _ _, hb5.setCell (show b ≤ g4 by omega) _⟩⟩
  case rest =>
    obtain ⟨rfl, HQ⟩ := hcut
    obtain ⟨a5, c5, hdf, hp6, hb6⟩ := HQ.out
    have HP6 := Lib.hid hp6
    have HB6 := Lib.hid hb6
    have HDF6 := Lib.hid hdf
    clear hdf hp6 hb6 HQ e3
    clear t0 t1 k0 k1 z0 z1 ft1 fz0 fz1
    have kpb := HP6.out
    have t0 := kpb.1.facts.1 0
    have t1 := kpb.1.facts.1 1
    have k0 := kpb.2.1.facts.1 0
    have k1 := kpb.2.1.facts.1 1
    have x0 := kpb.2.2.1.facts.1 0
    have x1 := kpb.2.2.1.facts.1 1
    have z0 := kpb.2.2.2.facts.1 0
    have z1 := kpb.2.2.2.facts.1 1
    have ft1 := kpb.1.facts.2.1 1
    have fz0 := kpb.2.2.2.facts.2.1 0
    have fz1 := kpb.2.2.2.facts.2.1 1
    clear kpb
    go_upto_region 16 with fail
    have HT8 : Hid (PB (wc.setCell ⟨b, 1, none⟩ (.slice (some ⟨g4, o4, none⟩) A.length c4)) b #[.int .i64 (room : Int), .slice (some ⟨g4, o4, none⟩) A.length c4] #[.int .i64 0, .slice none 0 0] kk1 kk2 xi xt) := Lib.hid ⟨HP6.out.1.setAt 1 _ rfl, HP6.out.2.1.setOther _ _ (by simp), HP6.out.2.2.1.setOther _ _ (by simp; omega), HP6.out.2.2.2.setOther _ _ (by simp; omega)⟩
    have HDF8 := Lib.hid (HDF6.out.only (((Only.refl [b] wc).setCell ⟨b, 1, none⟩ (.slice (some ⟨g4, o4, none⟩) A.length c4) (.inl (by simp)))) (fun x hx => by have := HS1.out; simp at hx; omega))
    have HB8 : Hid (Below b w (wc.setCell ⟨b, 1, none⟩ (.slice (some ⟨g4, o4, none⟩) A.length c4))) := Lib.hid (HB6.out.setCell (Nat.le_refl _) _)
    generalize wc.setCell ⟨b, 1, none⟩ (.slice (some ⟨g4, o4, none⟩) A.length c4) = w8 at *
    have hds := (HDF8.out.fin (base := base) (by have := HBASE.out; have := HS1.out; have := HBN.out; omega))
    have hds2 : DocA base w8 (.slice (some ⟨g4, o4, none⟩) (A.set i (d.1, d.2.1, insL d.2.2 (lowN xi d.2.2) (xi, xt))).length c4) (A.set i (d.1, d.2.1, insL d.2.2 (lowN xi d.2.2) (xi, xt))) (vs.set i (.slice a5 (d.2.2.length + 1) c5)) := by
      rw [List.length_set]; exact hds
    obtain ⟨g, off, d', ad', cd', eg, hd', hu', _, e0, e1, e2, e3⟩ := hds2.at i (by rw [List.length_set]; exact HIL.out)
    cases eg
    rw [List.getElem?_set_self HIL.out] at hd'
    rw [List.getElem?_set_self (by rw [HD.out.l]; exact HIL.out)] at hu'
    cases hd'
    have hlen : (insL d.2.2 (lowN xi d.2.2) (xi, xt)).length = d.2.2.length + 1 := insL_length _ _ _ (lowN_le _ _)
    simp only [hlen] at e3 hu'
    cases hu'
    clear hds hds2 hlen
    have HRDY : Hid (∀ w', Calls Try.prog 21 #[.agg #[.int .i64 d.1.1, .int .u32 d.1.2, .int .i64 d.2.1, .slice a5 (d.2.2.length + 1) c5]] w' fun e w'' => e = .returned (.bool (decide (d.2.1 ≤ (d.2.2.length : Int) + 1))) ∧ Below w'.heap.size w' w'') := Lib.hid fun w' => by
      have := rready d.1.1 d.1.2 d.2.1 (insL d.2.2 (lowN xi d.2.2) (xi, xt)) a5 c5 w'
      rw [insL_length _ _ _ (lowN_le _ _)] at this
      exact this
    clear t0 t1 k0 k1 z0 z1 ft1 fz0 fz1
    have kpb := HT8.out
    have t0 := kpb.1.facts.1 0
    have t1 := kpb.1.facts.1 1
    have k0 := kpb.2.1.facts.1 0
    have k1 := kpb.2.1.facts.1 1
    have x0 := kpb.2.2.1.facts.1 0
    have x1 := kpb.2.2.1.facts.1 1
    have z0 := kpb.2.2.2.facts.1 0
    have z1 := kpb.2.2.2.facts.1 1
    have ft1 := kpb.1.facts.2.1 1
    have fz0 := kpb.2.2.2.facts.2.1 0
    have fz1 := kpb.2.2.2.facts.2.1 1
    clear kpb
    go_wp2_with fail
    refine (HRDY.out w8).mono ?_
    rintro e w9 ⟨rfl, hb9⟩
    have HP9 := Lib.hid (HT8.out.below hb9)
    have HB9 : Hid (Below b w w9) := Lib.hid (Below.chain hb9 (HBN.out ▸ HB8.out) |> fun h => HBN.out ▸ h)
    have HDF9 := Lib.hid (HDF8.out.chain hb9)
    clear hb9
    clear t0 t1 k0 k1 x0 x1 z0 z1 ft1 fz0 fz1
    have kpb := HP9.out
    have t0 := kpb.1.facts.1 0
    have t1 := kpb.1.facts.1 1
    have k0 := kpb.2.1.facts.1 0
    have k1 := kpb.2.1.facts.1 1
    have x0 := kpb.2.2.1.facts.1 0
    have x1 := kpb.2.2.1.facts.1 1
    have z0 := kpb.2.2.2.facts.1 0
    have z1 := kpb.2.2.2.facts.1 1
    have ft1 := kpb.1.facts.2.1 1
    have fz0 := kpb.2.2.2.facts.2.1 0
    have fz1 := kpb.2.2.2.facts.2.1 1
    clear kpb
    by_cases hc : d.2.1 ≤ (d.2.2.length : Int) + 1
    · obtain rfl : vn = 3 := by rw [← HVN.out, if_pos hc]
      rw [decide_eq_true hc]
      clear hc
      go_wp2_with fail
      try rw [Exit.noGoto_ret]
      have hfin : Below b w ((w9.setCell ⟨b + 1 + 1 + 1, 0, none⟩ (.int .i64 (room : Int))).setCell ⟨b + 1 + 1 + 1, 1, none⟩ (.slice (some ⟨g4, o4, none⟩) A.length c4)) := (HB9.out.setCell (show b ≤ b + 1 + 1 + 1 by omega) _).setCell (show b ≤ b + 1 + 1 + 1 by omega) _
      have hdoc := (HDF9.out.only (fin_set w9 (b + 1 + 1 + 1) (.int .i64 (room : Int)) (.slice (some ⟨g4, o4, none⟩) A.length c4)) (fun x hx => by have := HS1.out; simp at hx; omega)).fin (base := base) (by have := HBASE.out; have := HS1.out; have := HBN.out; omega)
      refine bodyPost_ret (v := .tuple #[.agg #[.int .i64 (room : Int), .slice (some ⟨g4, o4, none⟩) A.length c4], .int .i64 3]) (by simp [results, Try.results16, go_sem, z0, z1]) rfl ⟨some ⟨g4, o4, none⟩, c4, vs.set i (.slice a5 (d.2.2.length + 1) c5), by (first | rfl | simp), by (simpa using hdoc), by (rw [HBN.out]; exact hfin)⟩
    · obtain rfl : vn = 0 := by rw [← HVN.out, if_neg hc]
      rw [decide_eq_false hc]
      clear hc
      go_wp2_with fail
      try rw [Exit.noGoto_ret]
      have hfin : Below b w ((w9.setCell ⟨b + 1 + 1 + 1, 0, none⟩ (.int .i64 (room : Int))).setCell ⟨b + 1 + 1 + 1, 1, none⟩ (.slice (some ⟨g4, o4, none⟩) A.length c4)) := (HB9.out.setCell (show b ≤ b + 1 + 1 + 1 by omega) _).setCell (show b ≤ b + 1 + 1 + 1 by omega) _
      have hdoc := (HDF9.out.only (fin_set w9 (b + 1 + 1 + 1) (.int .i64 (room : Int)) (.slice (some ⟨g4, o4, none⟩) A.length c4)) (fun x hx => by have := HS1.out; simp at hx; omega)).fin (base := base) (by have := HBASE.out; have := HS1.out; have := HBN.out; omega)
      refine bodyPost_ret (v := .tuple #[.agg #[.int .i64 (room : Int), .slice (some ⟨g4, o4, none⟩) A.length c4], .int .i64 0]) (by simp [results, Try.results16, go_sem, z0, z1]) rfl ⟨some ⟨g4, o4, none⟩, c4, vs.set i (.slice a5 (d.2.2.length + 1) c5), by (first | rfl | simp), by (simpa using hdoc), by (rw [HBN.out]; exact hfin)⟩
end Go.Proofs.Ytnommofekjiiaaa
