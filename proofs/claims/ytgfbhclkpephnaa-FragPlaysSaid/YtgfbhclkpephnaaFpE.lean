/-
  The document's joiner (lightshipref49): Put, the refusals.
-/
import Derived.Test.YtgfbhclkpephnaaFpC
import Derived.Test.YtgfbhclkpephnaaWireRef
namespace Go.Proofs.Ytgfbhclkpephnaa
open Go Go.RowKit
set_option linter.unusedVariables false
set_option linter.unusedSimpArgs false
set_option maxRecDepth 100000
set_option maxHeartbeats 1000000
def PutD (w : World) (v : Value) (room : Int) (R : PutR) (e : Ending) (w' : World) : Prop :=
  ∃ v', e = .returned (.tuple #[docJ room v', Str R.t, .bool R.ok, .int .i64 R.err]) ∧ SegA w' v' R.A ∧ (∀ g, v'.ownBlock = some g → v.ownBlock = some g ∨ w.heap.size ≤ g) ∧ Below w.heap.size w w'
theorem PutD.same {w w' : World} {v : Value} {room E : Int} {A : List AE} (h : SegA w v A) (hb : Below w.heap.size w w') : PutD w v room ⟨A, [], false, E⟩ (.returned (.tuple #[docJ room v, Str [], .bool false, .int .i64 E])) w' := ⟨v, rfl, h.chain hb, fun g hg => .inl hg, hb⟩
theorem only_ret2 (b : Nat) (w4 : World) (v2 v3 : Value) : Only [b] w4 ((w4.setCell ⟨b, 0, none⟩ v2).setCell ⟨b, 1, none⟩ v3) :=
  ((Only.refl _ _).setCell _ _ (.inl (by simp))).setCell _ _ (.inl (by simp))
theorem rput_cut (s : List UInt8) (room : Int) {v : Value} {A : List AE} (w : World) (h : SegA w v A) (hs : s.length ≤ 6) :
    Calls Try.prog 37 #[docJ room v, Str s] w (PutD w v room ⟨A, [], false, 4⟩) := by
  obtain ⟨a, cp, rfl⟩ := Seg.form h
  unfold docJ
  have k0 := (Blk.new w #[.int .i64 room, .slice a A.length cp] 80).alloc (.cells #[.int .i64 0, .slice none 0 0] 80)
  have k1 := Blk.new (w.alloc (.cells #[.int .i64 room, .slice a A.length cp] 80)) #[.int .i64 0, .slice none 0 0] 80
  simp only [size_alloc] at k1
  have hB := Below.chainAlloc (Below.chainAlloc (Below.refl _ w) (.cells #[.int .i64 room, .slice a A.length cp] 80)) (.cells #[.int .i64 0, .slice none 0 0] 80)
  have HB := Lib.hid hB
  have HR0 := Lib.hid h
  clear h hB
  obtain ⟨Xj, Yj, Zj⟩ := k0.facts
  have j0 := Xj 0
  have j1 := Xj 1
  have fj0 := Yj 0
  have fj1 := Yj 1
  obtain ⟨Xr, Yr, Zr⟩ := k1.facts
  have r0 := Xr 0
  have r1 := Xr 1
  have fr0 := Yr 0
  have fr1 := Yr 1
  clear k0 Xj Yj k1 Xr Yr
  have hlt : (s.length : Int) < 7 := by omega
  go_enter Try.func37, Try.ntmps37
  go_wp2_with fail
  refine bodyPost_ret (v := .tuple #[.agg #[.int .i64 room, .slice a A.length cp], Str [], .bool false, .int .i64 4]) (by simp [results, Try.results37, go_sem, r0, r1, Str]) rfl (PutD.same HR0.out ?_)
  first | exact HF.out | exact Below.chainAlloc (Below.chainAlloc (Below.refl _ _) _) _ | exact Below.only (below_drewN HX8.out.2 _) (only_ret2 _ _ _ _) (by simp)
/-- What reading the id answers. -/
def Num49 (s : List UInt8) (w' : World) : Prop := Calls Try.prog 67 #[.agg #[Str s, .int .i64 0], .int .i64 4] w' fun x w'' => x = .returned (.tuple #[.agg #[Str (s.drop 4), .int .i64 0], .int .u32 (ptS s).id]) ∧ Below w'.heap.size w' w''
theorem num49 (s : List UInt8) (h7 : ¬ s.length ≤ 6) (hs : s.length ≤ 1000) (w' : World) : Num49 s w' := by
  have h := rnum_any s 0 4 (by omega) w'
  unfold rNumPost at h
  have ht : tk s 0 4 (badB 4) = (s.take 4, s.drop 4, 0) := by
    have : badB 4 = false := by decide
    simp [tk, this]
    omega
  rw [ht] at h
  exact h
theorem at_ptS (s : List UInt8) (h7 : ¬ s.length ≤ 6) : ∃ (h4 : 4 < s.length) (h5 : 5 < s.length), ((s[4].toNat : Nat) : Int) = (ptS s).place ∧ ((s[5].toNat : Nat) : Int) = (ptS s).n := by
  refine ⟨by omega, by omega, ?_, ?_⟩
  · show _ = unbe ((s.drop 4).take 1)
    rw [List.drop_eq_getElem_cons (show 4 < s.length by omega), List.take_succ_cons, List.take_zero]
    simp only [unbe, List.foldl]
    omega
  · show _ = unbe ((s.drop 5).take 1)
    rw [List.drop_eq_getElem_cons (show 5 < s.length by omega), List.take_succ_cons, List.take_zero]
    simp only [unbe, List.foldl]
    omega
theorem getA_some {id : Int} : ∀ {A : List AE}, (∃ e ∈ A, e.id = id) → getA id A ≠ none
  | [], h => by obtain ⟨_, h, _⟩ := h; cases h
  | e :: A, h => by
    unfold getA
    by_cases he : e.id = id
    · rw [if_pos he]; simp
    · rw [if_neg he]
      obtain ⟨f, hf, hid⟩ := h
      rcases List.mem_cons.1 hf with rfl | hf
      · exact absurd hid he
      · exact getA_some ⟨f, hf, hid⟩
def HX49 (W : World) (b0 : Nat) (j z : Array Value) (s : List UInt8) : Prop := Blk W b0 j 80 ∧ Blk W (b0 + 1) z 80 ∧ Blk W (b0 + 1 + 1) #[Str s, .int .i64 0] 144
theorem HX49.below {W W' : World} {b0 : Nat} {j z : Array Value} {s : List UInt8} (h : HX49 W b0 j z s) (hb : Below W.heap.size W W') : HX49 W' b0 j z s := ⟨h.1.below hb h.1.lt, h.2.1.below hb h.2.1.lt, h.2.2.below hb h.2.2.lt⟩
theorem HX49.num {W : World} {b0 : Nat} {j z : Array Value} {s : List UInt8} (h : HX49 W b0 j z s) (t : List UInt8) : HX49 ((W.setCell ⟨b0 + 1 + 1, 0, none⟩ (Str t)).setCell ⟨b0 + 1 + 1, 1, none⟩ (.int .i64 0)) b0 j z t :=
  ⟨(h.1.setOther _ _ (by simp; omega)).setOther _ _ (by simp; omega), (h.2.1.setOther _ _ (by simp)).setOther _ _ (by simp), (h.2.2.setAt 0 (Str t) rfl).setAt 1 (.int .i64 0) rfl⟩
theorem AtA.get {A : List AE} {id r : Int} (h : AtA A id r) (hn : (A.map AE.id).Nodup) : (∃ (i : Nat) (hi : i < A.length), r = (i : Int) ∧ getA id A = some A[i] ∧ A[i].id = id) ∨ (r = -1 ∧ getA id A = none) := by
  rcases h with ⟨i, hi, hr, hid⟩ | ⟨hr, hq⟩
  · refine .inl ⟨i, hi, hr, ?_, hid⟩
    cases hg : getA id A with
    | none => exact absurd hg (getA_some ⟨_, List.getElem_mem hi, hid⟩)
    | some f => 
      obtain ⟨hm, hf⟩ := getA_mem hg
      exact congrArg some (map_inj_nd hn hm (List.getElem_mem hi) (by rw [hf, hid]))
  · refine .inr ⟨hr, ?_⟩
    cases hg : getA id A with
    | none => rfl
    | some f => exact absurd (getA_mem hg).2 (hq f (getA_mem hg).1)
theorem rput_form (s : List UInt8) (room : Int) {v : Value} {A : List AE} (w : World) (h : SegA w v A) (hs7 : ¬ s.length ≤ 6) (hs1 : s.length ≤ 1000) (hf : (ptS s).n ≤ (ptS s).place) :
    Calls Try.prog 37 #[docJ room v, Str s] w (PutD w v room ⟨A, [], false, 5⟩) := by
  obtain ⟨a, cp, rfl⟩ := Seg.form h
  unfold docJ
  have k0 := (Blk.new w #[.int .i64 room, .slice a A.length cp] 80).alloc (.cells #[.int .i64 0, .slice none 0 0] 80)
  have k1 := Blk.new (w.alloc (.cells #[.int .i64 room, .slice a A.length cp] 80)) #[.int .i64 0, .slice none 0 0] 80
  simp only [size_alloc] at k1
  have hB := Below.chainAlloc (Below.chainAlloc (Below.refl _ w) (.cells #[.int .i64 room, .slice a A.length cp] 80)) (.cells #[.int .i64 0, .slice none 0 0] 80)
  have HB := Lib.hid hB
  have HR0 := Lib.hid h
  clear h hB
  have HX3 : Hid (HX49 (((w.alloc (.cells #[.int .i64 room, .slice a A.length cp] 80)).alloc (.cells #[.int .i64 0, .slice none 0 0] 80)).alloc (.cells #[Str s, .int .i64 0] 144)) w.heap.size #[.int .i64 room, .slice a A.length cp] #[.int .i64 0, .slice none 0 0] s ∧ Below w.heap.size w (((w.alloc (.cells #[.int .i64 room, .slice a A.length cp] 80)).alloc (.cells #[.int .i64 0, .slice none 0 0] 80)).alloc (.cells #[Str s, .int .i64 0] 144))) := Lib.hid ⟨⟨k0.alloc _, k1.alloc _, Blk.newAt (by simp only [size_alloc])⟩, Below.chainAlloc HB.out _⟩
  have h7 : ¬ (s.length : Int) < 7 := by omega
  have HNUM : Hid (∀ w', Num49 s w') := Lib.hid (num49 s hs7 hs1)
  obtain ⟨h4, h5, hp4, hp5⟩ := at_ptS s hs7
  have hw4 : wrap64 ((s[4].toNat : Nat) : Int) = (ptS s).place := by rw [← hp4]; exact IntWalk.wrap64_in _ (by have := UInt8.toNat_lt s[4]; omega)
  have hw5 : wrap64 ((s[5].toNat : Nat) : Int) = (ptS s).n := by rw [← hp5]; exact IntWalk.wrap64_in _ (by have := UInt8.toNat_lt s[5]; omega)
  have HW := Lib.hid (And.intro hw4 hw5)
  have h4i : (4 : Int) < (s.length : Int) := by omega
  have h5i : (5 : Int) < (s.length : Int) := by omega
  clear hp4 hp5 hw4 hw5
  have hbg := byte_get
  obtain ⟨Xj, Yj, Zj⟩ := k0.facts
  have j0 := Xj 0
  have j1 := Xj 1
  have fj0 := Yj 0
  have fj1 := Yj 1
  obtain ⟨Xr, Yr, Zr⟩ := k1.facts
  have r0 := Xr 0
  have r1 := Xr 1
  have fr0 := Yr 0
  have fr1 := Yr 1
  clear k0 Xj Yj k1 Xr Yr
  go_enter Try.func37, Try.ntmps37
  go_upto_region 4 with fail
  generalize (((w.alloc (.cells #[.int .i64 room, .slice a A.length cp] 80)).alloc (.cells #[.int .i64 0, .slice none 0 0] 80)).alloc (.cells #[Str s, .int .i64 0] 144)) = W at *
  have k0 := HX3.out.1.1
  have k1 := HX3.out.1.2.1
  have k2 := HX3.out.1.2.2
  clear Zj j0 fj0 j1 fj1 Zr r0 fr0 r1 fr1
  obtain ⟨Xj, Yj, Zj⟩ := k0.facts
  have j0 := Xj 0
  have j1 := Xj 1
  have fj0 := Yj 0
  have fj1 := Yj 1
  obtain ⟨Xr, Yr, Zr⟩ := k1.facts
  have r0 := Xr 0
  have r1 := Xr 1
  have fr0 := Yr 0
  have fr1 := Yr 1
  obtain ⟨Xq, Yq, Zq⟩ := k2.facts
  have q0 := Xq 0
  have q1 := Xq 1
  have fq0 := Yq 0
  have fq1 := Yq 1
  clear k0 Xj Yj k1 Xr Yr k2 Xq Yq
  go_wp2_with fail
  refine (HNUM.out W).mono ?_
  rintro x w1 ⟨rfl, hb⟩
  have HX4 : Hid (HX49 w1 w.heap.size #[.int .i64 room, .slice a A.length cp] #[.int .i64 0, .slice none 0 0] s ∧ Below w.heap.size w w1) := Lib.hid ⟨HX3.out.1.below hb, Below.chain hb HX3.out.2⟩
  have k0 := HX4.out.1.1
  have k1 := HX4.out.1.2.1
  have k2 := HX4.out.1.2.2
  clear hb HX3 Zj j0 fj0 j1 fj1 Zr r0 fr0 r1 fr1 Zq q0 fq0 q1 fq1
  obtain ⟨Xj, Yj, Zj⟩ := k0.facts
  have j0 := Xj 0
  have j1 := Xj 1
  have fj0 := Yj 0
  have fj1 := Yj 1
  obtain ⟨Xr, Yr, Zr⟩ := k1.facts
  have r0 := Xr 0
  have r1 := Xr 1
  have fr0 := Yr 0
  have fr1 := Yr 1
  obtain ⟨Xq, Yq, Zq⟩ := k2.facts
  have q0 := Xq 0
  have q1 := Xq 1
  have fq0 := Yq 0
  have fq1 := Yq 1
  clear k0 Xj Yj k1 Xr Yr k2 Xq Yq
  go_upto_region 5 with fail
  change Code.wp _ _ _ _ ((w1.setCell ⟨w.heap.size + 1 + 1, 0, none⟩ (Str (s.drop 4))).setCell ⟨w.heap.size + 1 + 1, 1, none⟩ (.int .i64 0))
  have HX5 : Hid (HX49 ((w1.setCell ⟨w.heap.size + 1 + 1, 0, none⟩ (Str (s.drop 4))).setCell ⟨w.heap.size + 1 + 1, 1, none⟩ (.int .i64 0)) w.heap.size #[.int .i64 room, .slice a A.length cp] #[.int .i64 0, .slice none 0 0] (s.drop 4) ∧ Below w.heap.size w ((w1.setCell ⟨w.heap.size + 1 + 1, 0, none⟩ (Str (s.drop 4))).setCell ⟨w.heap.size + 1 + 1, 1, none⟩ (.int .i64 0))) := Lib.hid ⟨HX4.out.1.num _, Below.only HX4.out.2 (only_ret2 _ _ _ _) (by simp; omega)⟩
  clear HX4 Zj j0 fj0 j1 fj1 Zr r0 fr0 r1 fr1 Zq q0 fq0 q1 fq1
  generalize (w1.setCell ⟨w.heap.size + 1 + 1, 0, none⟩ (Str (s.drop 4))).setCell ⟨w.heap.size + 1 + 1, 1, none⟩ (.int .i64 0) = w2 at *
  go_quiet (fail)
  rw [HW.out.1, HW.out.2]
  have HX6 : Hid (HX49 (w2.drewN nq) w.heap.size #[.int .i64 room, .slice a A.length cp] #[.int .i64 0, .slice none 0 0] (s.drop 4) ∧ Below w.heap.size w (w2.drewN nq)) := Lib.hid ⟨HX5.out.1, below_drewN HX5.out.2 _⟩
  clear HX5
  generalize w2.drewN nq = w3 at *
  have k0 := HX6.out.1.1
  have k1 := HX6.out.1.2.1
  have k2 := HX6.out.1.2.2
  obtain ⟨Xj, Yj, Zj⟩ := k0.facts
  have j0 := Xj 0
  have j1 := Xj 1
  have fj0 := Yj 0
  have fj1 := Yj 1
  obtain ⟨Xr, Yr, Zr⟩ := k1.facts
  have r0 := Xr 0
  have r1 := Xr 1
  have fr0 := Yr 0
  have fr1 := Yr 1
  obtain ⟨Xq, Yq, Zq⟩ := k2.facts
  have q0 := Xq 0
  have q1 := Xq 1
  have fq0 := Yq 0
  have fq1 := Yq 1
  clear k0 Xj Yj k1 Xr Yr k2 Xq Yq
  have HF := Lib.hid (Below.only HX6.out.2 (only_ret2 (w.heap.size + 1) w3 (.int .i64 room) (.slice a A.length cp)) (by simp))
  go_wp2_with fail
  refine bodyPost_ret (v := .tuple #[.agg #[.int .i64 room, .slice a A.length cp], Str [], .bool false, .int .i64 5]) (by simp [results, Try.results37, go_sem, r0, r1, Str]) rfl (PutD.same HR0.out ?_)
  first | exact HF.out | exact Below.chainAlloc (Below.chainAlloc (Below.refl _ _) _) _ | exact Below.only (below_drewN HX8.out.2 _) (only_ret2 _ _ _ _) (by simp)
end Go.Proofs.Ytgfbhclkpephnaa
