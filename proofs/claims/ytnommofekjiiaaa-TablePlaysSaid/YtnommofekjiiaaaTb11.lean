/-
  The document's table: Drop (chapter 18).
-/
import Derived.Test.YtnommofekjiiaaaTb5
namespace Go.Proofs.Ytnommofekjiiaaa
open Go Go.RowKit Go.MuLone
set_option linter.unusedVariables false
set_option linter.unusedSimpArgs false
set_option maxRecDepth 100000
set_option maxHeartbeats 2000000
/-- The places of the entries that stay. -/
def fltV (p : DE → Bool) : List DE → List Value → List Value
  | d :: A, v :: vs => if p d then v :: fltV p A vs else fltV p A vs
  | _, _ => []
theorem fltV_len (p : DE → Bool) : ∀ (A : List DE) (vs : List Value), vs.length = A.length → (fltV p A vs).length = (A.filter p).length
  | [], [], _ => rfl
  | d :: A, v :: vs, h => by
    have := fltV_len p A vs (by simpa using h)
    unfold fltV
    by_cases hd : p d = true
    · rw [if_pos hd, List.filter_cons_of_pos hd]; simp [this]
    · rw [if_neg hd, List.filter_cons_of_neg hd]; exact this
  | [], _ :: _, h => by simp at h
  | _ :: _, [], h => by simp at h
theorem fltV_mem (p : DE → Bool) : ∀ (A : List DE) (vs : List Value) (i : Nat) (d : DE) (v : Value), vs.length = A.length → (A.filter p)[i]? = some d → (fltV p A vs)[i]? = some v → ∃ j : Nat, A[j]? = some d ∧ vs[j]? = some v
  | [], _, i, d, v, _, h, _ => by simp at h
  | e :: A, u :: vs, i, d, v, hl, h1, h2 => by
    unfold fltV at h2
    by_cases hd : p e = true
    · rw [if_pos hd] at h2
      rw [List.filter_cons_of_pos hd] at h1
      cases i with
      | zero => exact ⟨0, by simpa using h1, by simpa using h2⟩
      | succ i =>
        obtain ⟨j, a, b⟩ := fltV_mem p A vs i d v (by simpa using hl) (by simpa using h1) (by simpa using h2)
        exact ⟨j + 1, by simpa using a, by simpa using b⟩
    · rw [if_neg hd] at h2
      rw [List.filter_cons_of_neg hd] at h1
      obtain ⟨j, a, b⟩ := fltV_mem p A vs i d v (by simpa using hl) h1 h2
      exact ⟨j + 1, by simpa using a, by simpa using b⟩
  | _ :: _, [], _, _, _, h, _, _ => by simp at h
theorem fltV_app (p : DE → Bool) : ∀ (A : List DE) (vs : List Value) (d : DE) (v : Value), vs.length = A.length → fltV p (A ++ [d]) (vs ++ [v]) = fltV p A vs ++ (if p d then [v] else [])
  | [], [], d, v, _ => by
    show fltV p [d] [v] = _
    unfold fltV
    by_cases hd : p d = true
    · rw [if_pos hd, if_pos hd]; rfl
    · rw [if_neg hd, if_neg hd]; rfl
  | e :: A, u :: vs, d, v, h => by
    have ih := fltV_app p A vs d v (by simpa using h)
    show fltV p (e :: (A ++ [d])) (u :: (vs ++ [v])) = _
    unfold fltV
    by_cases he : p e = true
    · rw [if_pos he, if_pos he, ih]; rfl
    · rw [if_neg he, if_neg he, ih]
  | [], _ :: _, _, _, h => by simp at h
  | _ :: _, [], _, _, h => by simp at h
theorem take_one {α : Type} {A : List α} {j : Nat} {d : α} (h : A[j]? = some d) : A.take (j + 1) = A.take j ++ [d] := by
  rw [List.take_add_one, h]
  rfl
theorem fltV_step (p : DE → Bool) {A : List DE} {vs : List Value} (hl : vs.length = A.length) {j : Nat} {d : DE} {v : Value} (hd : A[j]? = some d) (hv : vs[j]? = some v) :
    (A.take (j + 1)).filter p = (A.take j).filter p ++ (if p d then [d] else []) ∧ fltV p (A.take (j + 1)) (vs.take (j + 1)) = fltV p (A.take j) (vs.take j) ++ (if p d then [v] else []) := by
  rw [take_one hd, take_one hv, List.filter_append]
  refine ⟨?_, fltV_app p _ _ _ _ (by rw [List.length_take, List.length_take, hl])⟩
  by_cases h : p d = true
  · rw [if_pos h, List.filter_cons_of_pos h]; rfl
  · rw [if_neg h, List.filter_cons_of_neg h]; rfl
theorem DocA.flt {base B : Nat} {w w' : World} {v v' : Value} {A : List DE} {vs : List Value} (p : DE → Bool) (h : DocA base w v A vs) (hb : Below w.heap.size w w') (hs : Seg w' B 75 4 v' (A.filter p).length (dsC (A.filter p) (fltV p A vs))) (hB : base ≤ B) : DocA base w' v' (A.filter p) (fltV p A vs) :=
  ⟨hs.le hB, fltV_len p A vs h.l, fun i d u h1 h2 => by
    obtain ⟨j, a, b⟩ := fltV_mem p A vs i d u h.l h1 h2
    exact (h.e j d u a b).chain hb⟩
/-- What stays of the entries. -/
def keepD (z : Int) (just : Bool) (blk : Int) (d : DE) : Bool := !decide (d.1.1 = z) || (just && !decide (d.1.2 = blk))
def DDrop (base : Nat) (room : Int) (A : List DE) (p : DE → Bool) (w : World) (e : Ending) (w' : World) : Prop :=
  ∃ a cap vs', e = .returned (.tuple #[.agg #[.int .i64 room, .slice a (A.filter p).length cap], .int .i64 ((A.length : Int) - ((A.filter p).length : Int))]) ∧ DocA base w' (.slice a (A.filter p).length cap) (A.filter p) vs' ∧ Below w.heap.size w w'
theorem rdsE_one' {w : World} {g : Nat} {c0 c1 c2 c3 : Value} (hv : Blk w g #[c0, c1, c2, c3] 75) : RdS w 4 (.slice (some ⟨g, 0, none⟩) 1 1) 1 [c0, c1, c2, c3] := by
  refine ⟨rfl, .inr ⟨_, _, rfl, fun j u hu => ?_⟩⟩
  have e : (⟨g, 0, none⟩ : Addr).add j = ⟨g, j, none⟩ := by unfold Addr.add; split <;> simp_all
  rw [e, hv.facts.1 j]
  simpa using hu
theorem bne_int {a b : Int} (h : ¬ a = b) : (a != b) = true := bne_iff_ne.2 h
theorem bne_int0 {a b : Int} (h : a = b) : (a != b) = false := by rw [h]; simp
theorem rdrop_any (base : Nat) (room : Int) (z blk : Int) (just : Bool) (v : Value) (A : List DE) (vs : List Value) (w : World) (h : DocA base w v A vs) (hbase : base ≤ w.heap.size) (hl : A.length ≤ 1000) :
    Calls Try.prog 18 #[.agg #[.int .i64 room, v], .int .i64 z, .bool just, .int .u32 blk] w (DDrop base room A (keepD z just blk) w) := by
  obtain ⟨a, cap, rfl⟩ := h.s.form
  obtain ⟨i0, hi0, hz0, hz1, hz2⟩ := info_parts infoED
  have HD := Lib.hid h
  have HL := Lib.hid hl
  have HBASE := Lib.hid hbase
  have HBT : Hid (Blk ((w.alloc (.cells #[.int .i64 room, .slice a A.length cap] 30)).alloc (.cells #[.int .i64 0, .slice none 0 0] 30)) w.heap.size #[.int .i64 room, .slice a A.length cap] 30) := Lib.hid ((Blk.new w _ _).alloc _)
  have HBZ : Hid (Blk ((w.alloc (.cells #[.int .i64 room, .slice a A.length cap] 30)).alloc (.cells #[.int .i64 0, .slice none 0 0] 30)) (w.heap.size + 1) #[.int .i64 0, .slice none 0 0] 30) := Lib.hid (Blk.newAt (size_alloc _ _).symm)
  have HB0 := Lib.hid (Below.chainAlloc (Below.chainAlloc (Below.refl _ w) (.cells #[.int .i64 room, .slice a A.length cap] 30)) (.cells #[.int .i64 0, .slice none 0 0] 30))
  clear h hl hbase
  have HKD : Hid (∀ d, keepD z just blk d = (!decide (d.1.1 = z) || (just && !decide (d.1.2 = blk)))) := Lib.hid fun d => rfl
  generalize keepD z just blk = p at *
  obtain ⟨Q, hQ⟩ : ∃ Q, DDrop base room A p w = Q := ⟨_, rfl⟩
  have HQ := Lib.hid hQ
  rw [hQ]
  clear hQ
  go_enter Try.func18, Try.ntmps18
  go_wp2_with fail
  generalize (w.alloc (.cells #[.int .i64 room, .slice a A.length cap] 30)).alloc (.cells #[.int .i64 0, .slice none 0 0] 30) = W0 at *
  obtain ⟨bT, hbT⟩ : ∃ bT, w.heap.size = bT := ⟨_, rfl⟩
  rw [hbT] at HBT HBZ HB0 ⊢
  have HBN := Lib.hid hbT
  clear hbT
  have HLT : Hid (bT + 2 ≤ W0.heap.size) := Lib.hid (by have := HBZ.out.lt; omega)
  go_loopg [10, 11] A.length (fun gk vl i wr => ∃ (j : Nat) (al : Option Addr) (nl cl : Nat), A.length - j ≤ gk ∧ j ≤ A.length ∧ nl ≤ j ∧ vl = .slice al nl cl ∧ i = .int .i64 (j : Int) ∧ Hid (Below W0.heap.size W0 wr ∧ nl = ((A.take j).filter p).length ∧ Seg wr W0.heap.size 75 4 (.slice al nl cl) nl (dsC ((A.take j).filter p) (fltV p (A.take j) (vs.take j)))))
  case atStart => exact ⟨0, none, 0, 0, by omega, Nat.zero_le _, Nat.le_refl _, rfl, rfl, Lib.hid ⟨Below.refl _ _, rfl, Seg.nil _ _ _ _⟩⟩
  case round =>
    obtain ⟨j, al, nl, cl, hjg, hj, hnj, rfl, rfl, HREL⟩ := hrel
    have kt := HBT.out.below HREL.out.1 HBT.out.lt
    have t0 := kt.facts.1 0
    have t1 := kt.facts.1 1
    have ft1 := kt.facts.2.1 1
    by_cases hlt : j < A.length
    · have hlt' : (j : Int) < (A.length : Int) := by omega
      have hjb : (j : Int) ≤ 1000 := by have := HL.out; omega
      have hD := (HD.out.chain (by rw [HBN.out]; exact HB0.out)).chain HREL.out.1
      obtain ⟨g, off, d, ad, cd, rfl, hd, hu, _, d0, d1, d2, d3⟩ := hD.at j hlt
      have HST := Lib.hid (fltV_step p HD.out.l hd hu)
      have HJL := Lib.hid hlt
      have HNJ := Lib.hid hnj
      have HQQ : Hid (nl + 1 ≤ maxLen ∧ (nl + 1) * 48 ≤ 140737488355328) := Lib.hid (by have := HL.out; unfold maxLen; omega)
      have hj0 : (0 : Int) ≤ (j : Int) := by omega
      clear hD hd hu hlt kt
      have hkd := HKD.out d
      by_cases hp : p d = true
      · rw [hp] at hkd
        have HR1 := Lib.hid (HREL.out.2.2)
        have fin : ∀ (v7 : Value) (w7 : World), Seg w7 W0.heap.size 75 4 v7 (nl + 1) (dsC ((A.take j).filter p) (fltV p (A.take j) (vs.take j)) ++ [.int .i64 d.1.1, .int .u32 d.1.2, .int .i64 d.2.1, .slice ad d.2.2.length cd]) → nl + 1 = ((A.take (j + 1)).filter p).length ∧ Seg w7 W0.heap.size 75 4 v7 (nl + 1) (dsC ((A.take (j + 1)).filter p) (fltV p (A.take (j + 1)) (vs.take (j + 1)))) := fun v7 w7 h7 => by
          have h8 : p d = true := hp
          rw [HST.out.1, HST.out.2, if_pos h8, if_pos h8]
          refine ⟨by rw [List.length_append, ← HREL.out.2.1]; rfl, ?_⟩
          rw [dsC_app _ _ _ _ (fltV_len p _ _ (by rw [List.length_take, List.length_take, HD.out.l]))]
          exact h7
        have FIN := Lib.hid fin
        clear hp fin
        -- WALK
        by_cases hz : d.1.1 = z
        · have hzb := bne_int0 hz
          have hj1 : just = true := by
            rw [decide_eq_true hz] at hkd
            cases just
            · simp at hkd
            · rfl
          have hbk : ¬ d.1.2 = blk := fun h9 => by
            rw [decide_eq_true hz, hj1, decide_eq_true h9] at hkd
            simp at hkd
          have hbb := bne_int hbk
          clear hkd hbk hz
          subst hj1
          go_wp2_with (at_builtin; refine wpList_append_rds rfl _ _ 28 rfl W0.heap.size 75 i0 _ 4 48 Try.underlying28 hi0 hz0 hz1 hz2 rfl (by decide) (.slice al nl cl) nl (dsC ((A.take j).filter p) (fltV p (A.take j) (vs.take j))) rfl (HR1.out.alloc _) _ 1 [.int .i64 d.1.1, .int .u32 d.1.2, .int .i64 d.2.1, .slice ad d.2.2.length cd] rfl (rdsE_one' (Blk.new wr _ _)) (by simp [Value.oneCell']) HQQ.out.1 HQQ.out.2 (by rw [size_alloc]; have := HREL.out.1.size; omega) ?_; intro v7 w7 hown7 hgrow7 hat7; obtain ⟨a7, c7, rfl⟩ := Seg.form hown7; have HO7 := Lib.hid hown7; have HB7 : Hid (Below W0.heap.size W0 w7) := Lib.hid (HREL.out.1.trans (((Only.of_below (S := (Value.slice al nl cl).ownBlock.toList) (Below.chainAlloc (Below.refl _ wr) _)).grown hgrow7 (fun x hx => .inl (by simp [hx]))).below HREL.out.1.size (fun x hx => (HR1.out.blk x (by simpa using hx)).1))); clear hown7 hgrow7 hat7)
          go_roundg (A.length - (j + 1))
          case measure => have := HJL.out; omega
          case rel => exact ⟨j + 1, a7, nl + 1, c7, Nat.le_refl _, HJL.out, by have := HNJ.out; omega, rfl, by go_num, Lib.hid ⟨HB7.out, FIN.out _ _ HO7.out⟩⟩
        · have hzb := bne_int hz
          clear hkd hz
          go_wp2_with (at_builtin; refine wpList_append_rds rfl _ _ 28 rfl W0.heap.size 75 i0 _ 4 48 Try.underlying28 hi0 hz0 hz1 hz2 rfl (by decide) (.slice al nl cl) nl (dsC ((A.take j).filter p) (fltV p (A.take j) (vs.take j))) rfl (HR1.out.alloc _) _ 1 [.int .i64 d.1.1, .int .u32 d.1.2, .int .i64 d.2.1, .slice ad d.2.2.length cd] rfl (rdsE_one' (Blk.new wr _ _)) (by simp [Value.oneCell']) HQQ.out.1 HQQ.out.2 (by rw [size_alloc]; have := HREL.out.1.size; omega) ?_; intro v7 w7 hown7 hgrow7 hat7; obtain ⟨a7, c7, rfl⟩ := Seg.form hown7; have HO7 := Lib.hid hown7; have HB7 : Hid (Below W0.heap.size W0 w7) := Lib.hid (HREL.out.1.trans (((Only.of_below (S := (Value.slice al nl cl).ownBlock.toList) (Below.chainAlloc (Below.refl _ wr) _)).grown hgrow7 (fun x hx => .inl (by simp [hx]))).below HREL.out.1.size (fun x hx => (HR1.out.blk x (by simpa using hx)).1))); clear hown7 hgrow7 hat7)
          go_roundg (A.length - (j + 1))
          case measure => have := HJL.out; omega
          case rel => exact ⟨j + 1, a7, nl + 1, c7, Nat.le_refl _, HJL.out, by have := HNJ.out; omega, rfl, by go_num, Lib.hid ⟨HB7.out, FIN.out _ _ HO7.out⟩⟩
      · have hp0 : p d = false := by simpa using hp
        rw [hp0] at hkd
        have hz : d.1.1 = z := by
          by_cases h9 : d.1.1 = z
          · exact h9
          · rw [decide_eq_false h9] at hkd; simp at hkd
        have hzb := bne_int0 hz
        have FIN : Hid (nl = ((A.take (j + 1)).filter p).length ∧ Seg wr W0.heap.size 75 4 (.slice al nl cl) nl (dsC ((A.take (j + 1)).filter p) (fltV p (A.take (j + 1)) (vs.take (j + 1))))) := Lib.hid (by
          rw [HST.out.1, HST.out.2, if_neg hp, if_neg hp, List.append_nil, List.append_nil]
          exact HREL.out.2)
        rw [decide_eq_true hz] at hkd
        clear hp hp0 hz
        cases just with
        | false =>
          clear hkd
          go_wp2_with fail
          go_roundg (A.length - (j + 1))
          case measure => have := HJL.out; omega
          case rel => exact ⟨j + 1, al, nl, cl, Nat.le_refl _, HJL.out, by have := HNJ.out; omega, rfl, by go_num, Lib.hid ⟨HREL.out.1, FIN.out⟩⟩
        | true =>
          have hbk : d.1.2 = blk := by
            by_cases h9 : d.1.2 = blk
            · exact h9
            · rw [decide_eq_false h9] at hkd; simp at hkd
          have hbb := bne_int0 hbk
          clear hkd hbk
          go_wp2_with fail
          go_roundg (A.length - (j + 1))
          case measure => have := HJL.out; omega
          case rel => exact ⟨j + 1, al, nl, cl, Nat.le_refl _, HJL.out, by have := HNJ.out; omega, rfl, by go_num, Lib.hid ⟨HREL.out.1, FIN.out⟩⟩
    · obtain rfl : j = A.length := by omega
      have hlt' : ¬ (A.length : Int) < (A.length : Int) := by omega
      have hr := HREL.out.2
      rw [List.take_length, show vs.take A.length = vs from by rw [← HD.out.l, List.take_length]] at hr
      have HR := Lib.hid hr
      have hn1 : (nl : Int) ≤ 1000 := by have := HL.out; omega
      have hn2 : (A.length : Int) ≤ 1000 := by have := HL.out; omega
      have hw : wrap64 ((A.length : Int) - (nl : Int)) = (A.length : Int) - (nl : Int) := IntWalk.wrap64_in _ (by omega)
      have kz := HBZ.out.below HREL.out.1 HBZ.out.lt
      have z0 := kz.facts.1 0
      have z1 := kz.facts.1 1
      have fz0 := kz.facts.2.1 0
      have fz1 := kz.facts.2.1 1
      clear hlt kt kz hr
      go_wp2_with fail
      try rw [Exit.noGoto_ret]
      have h1 : Below bT w wr := Below.trans HB0.out (HREL.out.1.mono (by have := HLT.out; omega))
      have h3 : Below bT w (((wr.setCell ⟨bT, 1, none⟩ (.slice al nl cl)).setCell ⟨bT + 1, 0, none⟩ (.int .i64 room)).setCell ⟨bT + 1, 1, none⟩ (.slice al nl cl)) := ((h1.setCell (show bT ≤ bT by omega) _).setCell (show bT ≤ bT + 1 by omega) _).setCell (show bT ≤ bT + 1 by omega) _
      have ho : Only [bT, bT + 1] wr (((wr.setCell ⟨bT, 1, none⟩ (.slice al nl cl)).setCell ⟨bT + 1, 0, none⟩ (.int .i64 room)).setCell ⟨bT + 1, 1, none⟩ (.slice al nl cl)) := (((Only.refl _ _).setCell _ _ (.inl (by simp))).setCell _ _ (.inl (by simp))).setCell _ _ (.inl (by simp))
      have hs := HR.out.2.only ho (fun g hg hm => by
        have h7 := (HR.out.2.blk g hg).1
        have h8 := HLT.out
        simp at hm
        omega)
      have hnl := HR.out.1
      rw [← HBN.out] at h3
      refine bodyPost_ret (v := .tuple #[.agg #[.int .i64 room, .slice al nl cl], .int .i64 ((A.length : Int) - (nl : Int))]) (by simp [results, Try.results18, go_sem, z0, z1, t0, hw]) rfl ?_
      rw [← HQ.out]
      rw [HBN.out] at h3
      have hd := fun hb => DocA.flt (w' := ((wr.setCell ⟨bT, 1, none⟩ (.slice al nl cl)).setCell ⟨bT + 1, 0, none⟩ (.int .i64 room)).setCell ⟨bT + 1, 1, none⟩ (.slice al nl cl)) p HD.out hb (by rw [← hnl]; exact hs) (by have := HBASE.out; have := HBN.out; have := HLT.out; omega)
      refine ⟨al, cl, fltV p A vs, by rw [← hnl], ?_, by rw [HBN.out]; exact h3⟩
      rw [← hnl]
      exact hd (by rw [HBN.out]; exact h3)
end Go.Proofs.Ytnommofekjiiaaa
