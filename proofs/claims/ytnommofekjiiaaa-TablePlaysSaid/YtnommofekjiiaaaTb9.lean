/-
  The document's table: Put answers as the lists say; Get (chapter 18).
-/
import Derived.Test.YtnommofekjiiaaaTb8
namespace Go.Proofs.Ytnommofekjiiaaa
open Go Go.RowKit Go.MuLone
set_option linter.unusedVariables false
set_option linter.unusedSimpArgs false
set_option maxRecDepth 100000
set_option maxHeartbeats 2000000
theorem judge_more {d : DE} {need : Int} {x : Sh} (h : grows (judgeN d need x) = true) : (if d.2.1 ≤ (d.2.2.length : Int) + 1 then 3 else 0) = judgeN d need x := by
  unfold judgeN at h ⊢
  by_cases h1 : d.2.1 ≤ (d.2.2.length : Int)
  · rw [if_pos h1] at h; cases h
  · rw [if_neg h1] at h ⊢
    by_cases h2 : d.2.1 ≠ need ∨ firstLen d.2.2 ≠ x.2.length
    · rw [if_pos h2] at h; cases h
    · rw [if_neg h2] at h ⊢
      by_cases h3 : hitN x.1 d.2.2 = true
      · rw [if_pos h3] at h
        by_cases h4 : d.2.2[lowN x.1 d.2.2]? = some (x.1, x.2)
        · rw [if_pos h4] at h; cases h
        · rw [if_neg h4] at h; cases h
      · rw [if_neg h3]
theorem rPut (base room : Nat) (k : Int × Int) (need : Int) (x : Sh) (v : Value) (A : List DE) (vs : List Value) (w : World) (h : DocA base w v A vs) (hbase : base ≤ w.heap.size) (hA : DOkA A) (hroom : (room : Int) ≤ 1000000) :
    Calls Try.prog 16 #[.agg #[.int .i64 (room : Int), v], encK k, .int .i64 need, shV x] w (DPut base w room (putA room A k need x) (putV room A k need x)) := by
  obtain ⟨kk1, kk2⟩ := k
  obtain ⟨xi, xt⟩ := x
  unfold putA putV
  by_cases hb : badX need (xi, xt)
  · rw [if_pos hb, if_pos hb]
    exact rput18_bad base room kk1 kk2 need xi xt v A vs w h hbase hA hroom hb
  · rw [if_neg hb, if_neg hb]
    cases hg : getD (kk1, kk2) A with
    | none =>
      simp only
      by_cases hf : room ≤ A.length
      · rw [if_pos hf, if_pos hf]
        exact rput18_full base room kk1 kk2 need xi xt v A vs w h hbase hA hroom hb hg hf
      · rw [if_neg hf, if_neg hf]
        exact rput18_new base room kk1 kk2 need xi xt v A vs w h hbase hA hroom hb hg hf _ rfl
    | some d =>
      simp only
      obtain ⟨i, hi, hk, h0⟩ := getD_at hg
      have hidx := idx_at A i d hi h0 hk
      have hmap : (A.map fun f => if f.1 = (kk1, kk2) then (f.1, f.2.1, judgeL f need (xi, xt)) else f) = A.set i (d.1, d.2.1, judgeL d need (xi, xt)) := by
        rw [← hk]
        exact map_set hA.n hi (fun f => (f.1, f.2.1, judgeL f need (xi, xt)))
      rw [hmap]
      by_cases hgr : grows (judgeN d need (xi, xt)) = true
      · have hl : judgeL d need (xi, xt) = insL d.2.2 (lowN xi d.2.2) (xi, xt) := by unfold judgeL; rw [if_pos hgr]
        rw [hl]
        exact rput18_more base room kk1 kk2 need xi xt v A vs w h hbase hA hroom hb i d hi hidx (by unfold knownN; rw [if_pos hgr]) _ (judge_more hgr)
      · have hl : judgeL d need (xi, xt) = d.2.2 := by unfold judgeL; rw [if_neg hgr]
        rw [hl]
        have hset : A.set i (d.1, d.2.1, d.2.2) = A := by
          obtain ⟨h1, h2⟩ := List.getElem?_eq_some_iff.1 hi
          rw [show ((d.1, d.2.1, d.2.2) : DE) = A[i] from h2.symm]
          exact List.set_getElem_self h1
        rw [hset]
        exact rput18_known base room kk1 kk2 need xi xt v A vs w h hbase hA hroom hb i d hi hidx _ (by unfold knownN; rw [if_neg hgr]) _ rfl
theorem Tab.dok {base : Nat} {w : World} {bt room : Nat} {A : List DE} {m : Nat} {s : TS} (h : Tab base w bt room A m s) (hl : A.length ≤ 1000) : DOkA A := by
  obtain ⟨_, ok, ha, _, _⟩ := h
  subst ha
  refine ⟨?_, hl, fun d hd => ?_⟩
  · have := ok.kn
    unfold TS.A
    rw [List.map_map]
    exact this
  · obtain ⟨e, he, rfl⟩ := List.mem_map.1 hd
    have := ok.ok e he
    refine ⟨this.r, this.c, ?_⟩
    have h1 := this.d
    have h2 := this.b
    show e.l.length ≤ 100
    omega
/-- What a look at an entry answers. -/
def DGet (base : Nat) (A : List DE) (k : Int × Int) (w : World) (e : Ending) (w' : World) : Prop :=
  ∃ sv, e = .returned (.tuple #[sv, .bool (getD k A).isSome]) ∧ ShS w' base sv (((getD k A).map fun d => d.2.2).getD []) ∧ Below w.heap.size w w'
theorem rget_any (base : Nat) (room : Int) (k1 k2 : Int) (v : Value) (A : List DE) (vs : List Value) (w : World) (h : DocA base w v A vs) (hl : A.length ≤ 1000) :
    Calls Try.prog 17 #[.agg #[.int .i64 room, v], .agg #[.int .i64 k1, .int .u32 k2]] w (DGet base A (k1, k2) w) := by
  obtain ⟨a, cap, rfl⟩ := h.s.form
  have HAT : Hid (∀ w', Below w.heap.size w w' → Calls Try.prog 29 #[.agg #[.int .i64 room, .slice a A.length cap], .agg #[.int .i64 k1, .int .u32 k2]] w' fun e w'' => e = .returned (.int .i64 (idxD (k1, k2) A)) ∧ Below w'.heap.size w' w'') := Lib.hid fun w' hb' => rat_any base room k1 k2 _ A vs w' (h.chain hb') hl
  have HD := Lib.hid h
  have HBT : Hid (Blk ((w.alloc (.cells #[.int .i64 room, .slice a A.length cap] 30)).alloc (.cells #[.int .i64 k1, .int .u32 k2] 35)) w.heap.size #[.int .i64 room, .slice a A.length cap] 30) := Lib.hid ((Blk.new w _ _).alloc _)
  have HB0 := Lib.hid (Below.chainAlloc (Below.chainAlloc (Below.refl _ w) (.cells #[.int .i64 room, .slice a A.length cap] 30)) (.cells #[.int .i64 k1, .int .u32 k2] 35))
  have hli : (A.length : Int) ≤ 1000 := by omega
  clear h
  obtain ⟨Q, hQ⟩ : ∃ Q, DGet base A (k1, k2) w = Q := ⟨_, rfl⟩
  have HQ := Lib.hid hQ
  rw [hQ]
  clear hQ
  go_enter Try.func17, Try.ntmps17
  go_wp2_with fail
  generalize (w.alloc (.cells #[.int .i64 room, .slice a A.length cap] 30)).alloc (.cells #[.int .i64 k1, .int .u32 k2] 35) = W0 at *
  refine (HAT.out W0 HB0.out).mono ?_
  rintro e w1 ⟨rfl, hb1⟩
  have t1 := (HBT.out.below hb1 HBT.out.lt).facts.1 1
  have HB1 := Lib.hid (Below.chain hb1 HB0.out)
  clear hb1
  cases hg : getD (k1, k2) A with
  | none =>
    have hidx : idxD (k1, k2) A = -1 := idx_no (getD_no hg)
    rw [hidx]
    have HG := Lib.hid hg
    clear hg hidx
    go_wp2_with fail
    try go_ret2
    rw [← HQ.out]
    refine ⟨.slice none 0 0, by rw [HG.out]; rfl, ?_, HB1.out⟩
    rw [HG.out]
    exact Seg.nil _ _ _ _
  | some d =>
    obtain ⟨i, hi, hk, h0⟩ := getD_at hg
    have hidx := idx_at A i d hi h0 hk
    rw [hidx]
    have hil := (List.getElem?_eq_some_iff.1 hi).1
    have HG := Lib.hid hg
    have hD := HD.out.chain HB1.out
    obtain ⟨g, off, d', ad, cd, rfl, hd, hu, hsh, e0, e1, e2, e3⟩ := hD.at i hil
    rw [hi] at hd
    cases hd
    have HSH := Lib.hid hsh
    have hi0 : ¬ (i : Int) < 0 := by omega
    have hi1 : (0 : Int) ≤ (i : Int) := by omega
    have hi2 : (i : Int) < (A.length : Int) := by omega
    clear hg hidx h0 hk hi hD hu hsh e0 e1 e2 hil
    go_wp2_with fail
    try go_ret2
    rw [← HQ.out]
    refine ⟨.slice ad d.2.2.length cd, ?_, ?_, HB1.out⟩
    · rw [HG.out]; rfl
    · rw [HG.out]; exact HSH.out
end Go.Proofs.Ytnommofekjiiaaa
