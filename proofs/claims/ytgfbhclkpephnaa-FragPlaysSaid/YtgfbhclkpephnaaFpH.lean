/-
  The document's joiner (lightshipref49): Put of an id that is there: entered.
-/
import Derived.Test.YtgfbhclkpephnaaFpG
import Derived.Test.YtgfbhclkpephnaaFpS
import Derived.Test.YtgfbhclkpephnaaWireRef
namespace Go.Proofs.Ytgfbhclkpephnaa
open Go Go.RowKit
set_option linter.unusedVariables false
set_option linter.unusedSimpArgs false
set_option maxRecDepth 100000
set_option maxHeartbeats 1000000
theorem AtA.of {A : List AE} {id r : Int} (h : AtA A id r) (hn : (A.map AE.id).Nodup) (i : Nat) (hi : i < A.length) (hid : A[i].id = id) : r = (i : Int) ∧ getA id A = some A[i] ∧ True := by
  rcases h with ⟨j, hj, hr, hjd⟩ | ⟨hr, hq⟩
  · have : j = i := (List.getElem_inj (h₀ := by simpa using hj) (h₁ := by simpa using hi) hn).1 (by simp [hid, hjd])
    subst this
    refine ⟨hr, ?_, trivial⟩
    rcases AtA.get (.inl ⟨j, hj, rfl, hjd⟩) hn with ⟨k, hk, e, hg, _⟩ | ⟨e, _⟩
    · obtain rfl : k = j := by omega
      exact hg
    · omega
  · exact absurd hid (hq _ (List.getElem_mem hi))
theorem HX49.far {W : World} {b0 : Nat} {j z : Array Value} {s : List UInt8} (h : HX49 W b0 j z s) {g : Nat} (hg : b0 + 1 + 1 < g) (o : Nat) (v : Value) : HX49 ((W.setCell ⟨g, o, none⟩ v).drew) b0 j z s :=
  ⟨(h.1.setOther _ _ (by simp; omega)).drew, (h.2.1.setOther _ _ (by simp; omega)).drew, (h.2.2.setOther _ _ (by simp; omega)).drew⟩
theorem seg_part {w : World} {B g o m c : Nat} {L : List AE} (h : Seg w B tE 257 (.slice (some ⟨g, o, none⟩) m c) m (rowsA L)) (i : Nat) (hi : i < L.length) (p : Nat) (hp : p < 255) (b : List UInt8) :
    Seg (w.setCell ⟨g, o + i * 257 + 2 + p, none⟩ (Str b)).drew B tE 257 (.slice (some ⟨g, o, none⟩) m c) m (rowsA (L.set i ⟨L[i].id, L[i].n, setP (p : Int) b L[i].ps⟩)) := by
  have hm : L.length * 257 = m * 257 := by rw [← rowsA_len, h.1]
  have h1 := h.put (i * 257 + (2 + p)) (Str b) (by omega)
  have e : o + (i * 257 + (2 + p)) = o + i * 257 + 2 + p := by omega
  rw [e] at h1
  have h2 := fm_set rowA 257 rowA_len (Str b) ⟨L[i].id, L[i].n, setP (p : Int) b L[i].ps⟩ (2 + p) (by omega) L i hi (rowA_set _ p b)
  unfold rowsA at h1 ⊢
  rw [h2] at h1
  exact h1.drew
theorem seg_cell {w : World} {B g o m c : Nat} {L : List AE} (h : Seg w B tE 257 (.slice (some ⟨g, o, none⟩) m c) m (rowsA L)) (i : Nat) (hi : i < L.length) (j : Nat) (hj : j < 257) : w.cell? ⟨g, o + i * 257 + j, none⟩ = (rowA L[i])[j]? := by
  have hm : L.length * 257 = m * 257 := by rw [← rowsA_len, h.1]
  have h1 := h.at (i * 257 + j) (by omega)
  rw [← Nat.add_assoc] at h1
  rw [h1]
  exact fm_at rowA 257 rowA_len L i hi j hj
theorem seg_row {w : World} {B g o m c : Nat} {L : List AE} {e : AE} {i : Nat} (h : Seg w B tE 257 (.slice (some ⟨g, o, none⟩) m c) m (rowsA (L.set i e))) (hi : i < L.length) : ∀ j u, (rowA e)[j]? = some u → w.cell? ⟨g, o + i * 257 + j, none⟩ = some u := fun j u hu => by
  have hj : j < 257 := by have := (List.getElem?_eq_some_iff.1 hu).1; rwa [rowA_len] at this
  have h1 := seg_cell h i (by rw [List.length_set]; exact hi) j hj
  rw [List.getElem_set_self, hu] at h1
  exact h1
theorem part_len {e : AE} (h : AOk e) {s : List UInt8} (hs : s.length ≤ 1000) (p : Int) : ∀ k, ((getP k (setP p (ptS s).body e.ps)).getD []).length ≤ 100000 := fun k => by
  rw [getP_setP]
  by_cases hk : p = k
  · rw [if_pos hk]
    have := (ptS_ok s hs).2
    simp
    omega
  · rw [if_neg hk]
    exact h.at k
/-- What Put answers where all is as it should be: the i-th of some entries has one part more. -/
def PutOk (w : World) (v : Value) (room : Int) (L : List AE) (i : Nat) (p : Pt) (e : Ending) (w' : World) : Prop :=
  ∃ (hi : i < L.length) (n : Nat), L[i].n = (n : Int) ∧
    ((allP (setP p.place p.body L[i].ps) n ∧ PutD w v room ⟨L.take i ++ L.drop (i + 1), textF (setP p.place p.body L[i].ps) n, true, 0⟩ e w') ∨
     (¬ allP (setP p.place p.body L[i].ps) n ∧ PutD w v room ⟨L.set i ⟨L[i].id, L[i].n, setP p.place p.body L[i].ps⟩, [], false, 0⟩ e w'))
theorem seg_take {w : World} {B g o m c i : Nat} {L : List AE} {e : AE} (h : Seg w B tE 257 (.slice (some ⟨g, o, none⟩) m c) m (rowsA (L.set i e))) (hi : i ≤ m) : RdS w 257 (.slice (some ⟨g, o, none⟩) i c) i (rowsA (L.take i)) := by
  have h1 := (h.upto i hi).rds
  rw [← rowsA_take, List.take_set_of_le (Nat.le_refl _)] at h1
  exact h1
theorem seg_drop {w : World} {B g o m c i : Nat} {L : List AE} {e : AE} (h : Seg w B tE 257 (.slice (some ⟨g, o, none⟩) m c) m (rowsA (L.set i e))) (hi : i < m) (o' : Nat) (ho : o' = o + (i + 1) * 257 ∨ i + 1 = c ∧ o' = o) :
    RdS w 257 (.slice (some ⟨g, o', none⟩) (m - (i + 1)) (c - (i + 1))) (m - (i + 1)) (rowsA (L.drop (i + 1))) := by
  have h1 := (h.from' (i + 1) hi o' ho).rds
  rw [← rowsA_drop, List.drop_set_of_lt (Nat.lt_succ_self i)] at h1
  exact h1
theorem seg_cap {w : World} {B g o m c size : Nat} {e : TypeId} {xs : List Value} (h : Seg w B e size (.slice (some ⟨g, o, none⟩) m c) m xs) : m ≤ c := by
  rcases h.2 with ⟨h0, _⟩ | ⟨_, _, _, _, hv, _, _, hn, _⟩
  · cases h0
  · cases hv; exact hn
/-- What the call's own result memory holds at its end. -/
theorem fin_seg {w w8 : World} {B : Nat} {v : Value} {m : Nat} {xs : List Value} {room : Int} (hs : Seg w8 B tE 257 v m xs) (hB : w.heap.size + 1 + 1 < B) (hb : Below w.heap.size w w8) :
    Seg (((w8.setCell ⟨w.heap.size + 1, 0, none⟩ (.int .i64 room)).setCell ⟨w.heap.size + 1, 1, none⟩ v).drew) 0 tE 257 v m xs ∧ (∀ g, v.ownBlock = some g → w.heap.size ≤ g) ∧ Below w.heap.size w (((w8.setCell ⟨w.heap.size + 1, 0, none⟩ (.int .i64 room)).setCell ⟨w.heap.size + 1, 1, none⟩ v).drew) := by
  have ho := only_ret2 (w.heap.size + 1) w8 (.int .i64 room) v
  refine ⟨((hs.only ho fun g hg hm => ?_).drew).le (Nat.zero_le _), fun g hg => ?_, (Below.only hb ho (by simp)).drew⟩
  · have := (hs.blk g hg).1
    simp at hm
    omega
  · have := (hs.blk g hg).1
    omega
theorem PutOk.more {w w8 : World} {B g4 o4 M c4 i n p : Nat} {v : Value} {room : Int} {L : List AE} {P : Pt} {e' : AE} (hi : i < L.length) (hnn : L[i].n = (n : Int)) (hpl : P.place = (p : Int)) (he : e' = ⟨L[i].id, (n : Nat), setP (p : Int) P.body L[i].ps⟩) (hall : ¬ allP e'.ps n)
    (hs : Seg w8 B tE 257 (.slice (some ⟨g4, o4, none⟩) M c4) M (rowsA (L.set i e'))) (hM : M = L.length) (hB : w.heap.size + 1 + 1 < B) (hb : Below w.heap.size w w8) :
    PutOk w v room L i P (.returned (.tuple #[.agg #[.int .i64 room, .slice (some ⟨g4, o4, none⟩) M c4], Str [], .bool false, .int .i64 0])) (((w8.setCell ⟨w.heap.size + 1, 0, none⟩ (.int .i64 room)).setCell ⟨w.heap.size + 1, 1, none⟩ (.slice (some ⟨g4, o4, none⟩) M c4)).drew) := by
  obtain ⟨h1, h2, h3⟩ := fin_seg (room := room) hs hB hb
  refine ⟨hi, n, hnn, .inr ⟨?_, _, rfl, ?_, fun g hg => .inr (h2 g hg), h3⟩⟩
  · rw [hpl]
    rw [he] at hall
    exact hall
  · subst hM
    unfold SegA
    simp only [List.length_set]
    rw [hpl, hnn, ← he]
    exact h1
theorem PutOk.whole {w w8 : World} {B i n p c M m : Nat} {a : Option Addr} {v : Value} {room : Int} {L : List AE} {P : Pt} {e' : AE} (hi : i < L.length) (hnn : L[i].n = (n : Int)) (hpl : P.place = (p : Int)) (he : e' = ⟨L[i].id, (n : Nat), setP (p : Int) P.body L[i].ps⟩) (hall : allP e'.ps n)
    (hs : Seg w8 B tE 257 (.slice a m c) m (rowsA (L.take i) ++ rowsA (L.drop (i + 1)))) (hM : M = L.length) (hm : m = i + (M - (i + 1))) (hB : w.heap.size + 1 + 1 < B) (hb : Below w.heap.size w w8) :
    PutOk w v room L i P (.returned (.tuple #[.agg #[.int .i64 room, .slice a m c], Str (textF e'.ps n), .bool true, .int .i64 0])) (((w8.setCell ⟨w.heap.size + 1, 0, none⟩ (.int .i64 room)).setCell ⟨w.heap.size + 1, 1, none⟩ (.slice a m c)).drew) := by
  subst hm
  obtain ⟨h1, h2, h3⟩ := fin_seg (room := room) hs hB hb
  refine ⟨hi, n, hnn, .inl ⟨?_, _, ?_, ?_, fun g hg => .inr (h2 g hg), h3⟩⟩
  · rw [hpl]
    rw [he] at hall
    exact hall
  · rw [hpl, he]
    rfl
  · subst hM
    unfold SegA
    rw [rowsA_app, List.length_append, List.length_take, List.length_drop, Nat.min_eq_left (Nat.le_of_lt hi)]
    exact h1
theorem rput_found (s : List UInt8) (room : Int) {v : Value} {A : List AE} (w : World) (h : SegA w v A) (hs7 : ¬ s.length ≤ 6) (hs1 : s.length ≤ 1000) (hga : GA room A) (hf : ¬ (ptS s).n ≤ (ptS s).place) (i : Nat) (hi : i < A.length) (hid : A[i].id = (ptS s).id) (hn : A[i].n = (ptS s).n) (hX : getP (ptS s).place A[i].ps = none ∨ getP (ptS s).place A[i].ps = some (ptS s).body) :
    Calls Try.prog 37 #[docJ room v, Str s] w (PutOk w v room A i (ptS s)) := by
  obtain ⟨a, cp, rfl⟩ := Seg.form h
  unfold docJ
  have k0 := (Blk.new w #[.int .i64 room, .slice a A.length cp] 80).alloc (.cells #[.int .i64 0, .slice none 0 0] 80)
  have k1 := Blk.new (w.alloc (.cells #[.int .i64 room, .slice a A.length cp] 80)) #[.int .i64 0, .slice none 0 0] 80
  simp only [size_alloc] at k1
  have hB := Below.chainAlloc (Below.chainAlloc (Below.refl _ w) (.cells #[.int .i64 room, .slice a A.length cp] 80)) (.cells #[.int .i64 0, .slice none 0 0] 80)
  have HB := Lib.hid hB
  have HR0 := Lib.hid h
  clear h hB
  have HX3 : Hid (HX49 (((w.alloc (.cells #[.int .i64 room, .slice a A.length cp] 80)).alloc (.cells #[.int .i64 0, .slice none 0 0] 80)).alloc (.cells #[Str s, .int .i64 0] 144)) w.heap.size #[.int .i64 room, .slice a A.length cp] #[.int .i64 0, .slice none 0 0] s ∧ Below w.heap.size w (((w.alloc (.cells #[.int .i64 room, .slice a A.length cp] 80)).alloc (.cells #[.int .i64 0, .slice none 0 0] 80)).alloc (.cells #[Str s, .int .i64 0] 144))) := Lib.hid ⟨⟨k0.alloc _, k1.alloc _, Blk.newAt (by simp only [size_alloc])⟩, Below.chainAlloc HB.out _⟩
  obtain ⟨i0, hif, hz0, hz1, hz2⟩ := info_parts infoE
  have HGA := Lib.hid hga
  have hpn : ¬ (ptS s).n ≤ (ptS s).place := hf
  obtain ⟨p, hpl, hp255⟩ := place_nat s hs7 hf
  rw [hpl] at hpn
  have HPL := Lib.hid hpl
  rw [hpl] at hX
  have HG := Lib.hid hid
  have HNX := Lib.hid (And.intro hn hX)
  clear hga hf hid hn hX
  have h7 : ¬ (s.length : Int) < 7 := by omega
  have HNUM : Hid (∀ w', Num49 s w') := Lib.hid (num49 s hs7 hs1)
  obtain ⟨h4, h5, hp4, hp5⟩ := at_ptS s hs7
  have hw4 : wrap64 ((s[4].toNat : Nat) : Int) = (ptS s).place := by rw [← hp4]; exact IntWalk.wrap64_in _ (by have := UInt8.toNat_lt s[4]; omega)
  have hw5 : wrap64 ((s[5].toNat : Nat) : Int) = (ptS s).n := by rw [← hp5]; exact IntWalk.wrap64_in _ (by have := UInt8.toNat_lt s[5]; omega)
  have HW := Lib.hid (And.intro hw4 hw5)
  have h4i : (4 : Int) < (s.length : Int) := by omega
  have h5i : (5 : Int) < (s.length : Int) := by omega
  clear hp4 hp5 hw4 hw5
  have hbg := byte_get
  obtain ⟨Xj, Yj, Zj⟩ := k0.facts
  have j0 := Xj 0
  have j1 := Xj 1
  have fj0 := Yj 0
  have fj1 := Yj 1
  obtain ⟨Xr, Yr, Zr⟩ := k1.facts
  have r0 := Xr 0
  have r1 := Xr 1
  have fr0 := Yr 0
  have fr1 := Yr 1
  clear k0 Xj Yj k1 Xr Yr
  go_enter Try.func37, Try.ntmps37
  go_upto_region 4 with fail
  generalize (((w.alloc (.cells #[.int .i64 room, .slice a A.length cp] 80)).alloc (.cells #[.int .i64 0, .slice none 0 0] 80)).alloc (.cells #[Str s, .int .i64 0] 144)) = W at *
  have k0 := HX3.out.1.1
  have k1 := HX3.out.1.2.1
  have k2 := HX3.out.1.2.2
  clear Zj j0 fj0 j1 fj1 Zr r0 fr0 r1 fr1
  obtain ⟨Xj, Yj, Zj⟩ := k0.facts
  have j0 := Xj 0
  have j1 := Xj 1
  have fj0 := Yj 0
  have fj1 := Yj 1
  obtain ⟨Xr, Yr, Zr⟩ := k1.facts
  have r0 := Xr 0
  have r1 := Xr 1
  have fr0 := Yr 0
  have fr1 := Yr 1
  obtain ⟨Xq, Yq, Zq⟩ := k2.facts
  have q0 := Xq 0
  have q1 := Xq 1
  have fq0 := Yq 0
  have fq1 := Yq 1
  clear k0 Xj Yj k1 Xr Yr k2 Xq Yq
  go_wp2_with fail
  refine (HNUM.out W).mono ?_
  rintro x w1 ⟨rfl, hb⟩
  have HX4 : Hid (HX49 w1 w.heap.size #[.int .i64 room, .slice a A.length cp] #[.int .i64 0, .slice none 0 0] s ∧ Below w.heap.size w w1) := Lib.hid ⟨HX3.out.1.below hb, Below.chain hb HX3.out.2⟩
  have k0 := HX4.out.1.1
  have k1 := HX4.out.1.2.1
  have k2 := HX4.out.1.2.2
  clear hb HX3 Zj j0 fj0 j1 fj1 Zr r0 fr0 r1 fr1 Zq q0 fq0 q1 fq1
  obtain ⟨Xj, Yj, Zj⟩ := k0.facts
  have j0 := Xj 0
  have j1 := Xj 1
  have fj0 := Yj 0
  have fj1 := Yj 1
  obtain ⟨Xr, Yr, Zr⟩ := k1.facts
  have r0 := Xr 0
  have r1 := Xr 1
  have fr0 := Yr 0
  have fr1 := Yr 1
  obtain ⟨Xq, Yq, Zq⟩ := k2.facts
  have q0 := Xq 0
  have q1 := Xq 1
  have fq0 := Yq 0
  have fq1 := Yq 1
  clear k0 Xj Yj k1 Xr Yr k2 Xq Yq
  go_upto_region 5 with fail
  change Code.wp _ _ _ _ ((w1.setCell ⟨w.heap.size + 1 + 1, 0, none⟩ (Str (s.drop 4))).setCell ⟨w.heap.size + 1 + 1, 1, none⟩ (.int .i64 0))
  have HX5 : Hid (HX49 ((w1.setCell ⟨w.heap.size + 1 + 1, 0, none⟩ (Str (s.drop 4))).setCell ⟨w.heap.size + 1 + 1, 1, none⟩ (.int .i64 0)) w.heap.size #[.int .i64 room, .slice a A.length cp] #[.int .i64 0, .slice none 0 0] (s.drop 4) ∧ Below w.heap.size w ((w1.setCell ⟨w.heap.size + 1 + 1, 0, none⟩ (Str (s.drop 4))).setCell ⟨w.heap.size + 1 + 1, 1, none⟩ (.int .i64 0))) := Lib.hid ⟨HX4.out.1.num _, Below.only HX4.out.2 (only_ret2 _ _ _ _) (by simp; omega)⟩
  clear HX4 Zj j0 fj0 j1 fj1 Zr r0 fr0 r1 fr1 Zq q0 fq0 q1 fq1
  generalize (w1.setCell ⟨w.heap.size + 1 + 1, 0, none⟩ (Str (s.drop 4))).setCell ⟨w.heap.size + 1 + 1, 1, none⟩ (.int .i64 0) = w2 at *
  go_quiet (fail)
  rw [HW.out.1, HW.out.2]
  have HX6 : Hid (HX49 (w2.drewN nq) w.heap.size #[.int .i64 room, .slice a A.length cp] #[.int .i64 0, .slice none 0 0] (s.drop 4) ∧ Below w.heap.size w (w2.drewN nq)) := Lib.hid ⟨HX5.out.1, below_drewN HX5.out.2 _⟩
  clear HX5
  generalize w2.drewN nq = w3 at *
  have k0 := HX6.out.1.1
  have k1 := HX6.out.1.2.1
  have k2 := HX6.out.1.2.2
  obtain ⟨Xj, Yj, Zj⟩ := k0.facts
  have j0 := Xj 0
  have j1 := Xj 1
  have fj0 := Yj 0
  have fj1 := Yj 1
  obtain ⟨Xr, Yr, Zr⟩ := k1.facts
  have r0 := Xr 0
  have r1 := Xr 1
  have fr0 := Yr 0
  have fr1 := Yr 1
  obtain ⟨Xq, Yq, Zq⟩ := k2.facts
  have q0 := Xq 0
  have q1 := Xq 1
  have fq0 := Yq 0
  have fq1 := Yq 1
  clear k0 Xj Yj k1 Xr Yr k2 Xq Yq
  rw [HPL.out]
  have HQ1 : Hid (0 + A.length ≤ maxLen ∧ (0 + A.length) * 4096 ≤ 140737488355328) := Lib.hid (by have := HGA.out.le; unfold maxLen; omega)
  have HRD : Hid (RdS w3 257 (.slice a A.length cp) A.length (rowsA A)) := Lib.hid (Seg.rds (HR0.out.chain HX6.out.2))
  have HON : Hid (∀ u ∈ rowsA A, u.oneCell' = true) := Lib.hid (one_rowsA A)
  go_upto_region 10 with (at_builtin; refine wpList_append_rds rfl (.tmp 38) (.tmp 40) 78 rfl w3.heap.size tE i0 _ 257 4096 undSE hif hz0 hz1 hz2 zeroE_size (by decide) (.slice none 0 0) 0 [] rfl (Seg.nil _ _ _ _) (.slice a A.length cp) A.length (rowsA A) rfl HRD.out HON.out HQ1.out.1 HQ1.out.2 (Nat.le_refl _) ?_; intro v4 w4 hown4 hgrow4 hat4; rw [List.nil_append, Nat.zero_add] at hown4)
  have hb4 : Below w3.heap.size w3 w4 := (Only.grown (S := []) (Only.refl _ _) hgrow4 (fun x hx => by cases hx)).nil
  obtain ⟨a4, c4, rfl⟩ := hown4.form
  have HO4 := Lib.hid hown4
  have HS4 : Hid (w.heap.size + 1 + 1 < w3.heap.size) := Lib.hid HX6.out.1.2.2.lt
  have HB34 := Lib.hid hb4
  have HX7 : Hid (HX49 w4 w.heap.size #[.int .i64 room, .slice a A.length cp] #[.int .i64 0, .slice none 0 0] (s.drop 4) ∧ Below w.heap.size w w4) := Lib.hid ⟨HX6.out.1.below hb4, Below.chain hb4 HX6.out.2⟩
  have k0 := HX7.out.1.1
  have k1 := HX7.out.1.2.1
  have k2 := HX7.out.1.2.2
  clear hown4 hgrow4 hat4 hb4 HX6 HRD HON Zj j0 fj0 j1 fj1 Zr r0 fr0 r1 fr1 Zq q0 fq0 q1 fq1
  obtain ⟨Xj, Yj, Zj⟩ := k0.facts
  have j0 := Xj 0
  have j1 := Xj 1
  have fj0 := Yj 0
  have fj1 := Yj 1
  obtain ⟨Xr, Yr, Zr⟩ := k1.facts
  have r0 := Xr 0
  have r1 := Xr 1
  have fr0 := Yr 0
  have fr1 := Yr 1
  obtain ⟨Xq, Yq, Zq⟩ := k2.facts
  have q0 := Xq 0
  have q1 := Xq 1
  have fq0 := Yq 0
  have fq1 := Yq 1
  clear k0 Xj Yj k1 Xr Yr k2 Xq Yq
  have HAT := Lib.hid (rat49 (ptS s).id room w4 (HR0.out.chain HX7.out.2) (Nat.le_trans HGA.out.le (by decide)))
  go_wp2_with fail
  refine HAT.out.mono ?_
  rintro x w5 ⟨r, rfl, hr, hb⟩
  have HX8 : Hid (HX49 w5 w.heap.size #[.int .i64 room, .slice a A.length cp] #[.int .i64 0, .slice none 0 0] (s.drop 4) ∧ Below w.heap.size w w5) := Lib.hid ⟨HX7.out.1.below hb, Below.chain hb HX7.out.2⟩
  have HO5 := Lib.hid (HO4.out.chain hb)
  have HB35 := Lib.hid (Below.chain hb HB34.out)
  have k0 := HX8.out.1.1
  have k1 := HX8.out.1.2.1
  have k2 := HX8.out.1.2.2
  clear hb HX7 HAT HO4 HB34 Zj j0 fj0 j1 fj1 Zr r0 fr0 r1 fr1 Zq q0 fq0 q1 fq1
  obtain ⟨Xj, Yj, Zj⟩ := k0.facts
  have j0 := Xj 0
  have j1 := Xj 1
  have fj0 := Yj 0
  have fj1 := Yj 1
  obtain ⟨Xr, Yr, Zr⟩ := k1.facts
  have r0 := Xr 0
  have r1 := Xr 1
  have fr0 := Yr 0
  have fr1 := Yr 1
  obtain ⟨Xq, Yq, Zq⟩ := k2.facts
  have q0 := Xq 0
  have q1 := Xq 1
  have fq0 := Yq 0
  have fq1 := Yq 1
  clear k0 Xj Yj k1 Xr Yr k2 Xq Yq
  obtain ⟨rfl, hg, hidx⟩ := hr.of HGA.out.nd i hi HG.out
  have hi0 : (0 : Int) ≤ (i : Int) := by omega
  have hi0' : ¬ (i : Int) < 0 := by omega
  have hii : (i : Int) < (A.length : Int) := by omega
  have hp0 : (0 : Int) ≤ (p : Int) := by omega
  have hp1 : (p : Int) < 255 := by omega
  obtain ⟨g4, o4, _, ea, hg4, hg4', _⟩ := HO5.out.shape (Nat.lt_of_le_of_lt (Nat.zero_le _) hi)
  cases ea
  have d1 : w5.cell? ⟨g4, o4 + i * 257 + 1, none⟩ = some (.int .i64 A[i].n) := (SegA.cell (HO5.out.le (Nat.zero_le _)) rfl i hi 1 (by decide)).trans rfl
  have d2 : w5.cell? ⟨g4, o4 + i * 257 + 2 + p, none⟩ = some (Str ((getP (p : Int) A[i].ps).getD [])) := by
    have h := SegA.cell (HO5.out.le (Nat.zero_le _)) rfl i hi (2 + p) (by omega)
    rw [← Nat.add_assoc] at h
    rw [h]
    exact rowA_at _ p (by omega)
  have hX := HNX.out.2
  have hn' : (A[i].n != (ptS s).n) = false := by rw [HNX.out.1]; simp
  have hxt := ext6 s
  rcases hX with hX | hX
  · rw [hX] at d2
    change _ = some (Str []) at d2
    clear hX hidx hg
    go_wp2_with fail
    go_quiet (fail)
    clear hn'
    have HX9 : Hid (HX49 (w5.drewN nq) w.heap.size #[.int .i64 room, .slice a A.length cp] #[.int .i64 0, .slice none 0 0] (s.drop 4) ∧ Below w.heap.size w (w5.drewN nq)) := Lib.hid ⟨HX8.out.1, below_drewN HX8.out.2 _⟩
    have HO6 : Hid (Seg (w5.drewN nq) w3.heap.size tE 257 (.slice (some ⟨g4, o4, none⟩) A.length c4) A.length (rowsA A)) := HO5
    have HB36 : Hid (Below w3.heap.size w3 (w5.drewN nq)) := Lib.hid (below_drewN HB35.out _)
    clear HX8 HO5 HB35 d1 d2 Zj j0 fj0 j1 fj1 Zr r0 fr0 r1 fr1 Zq q0 fq0 q1 fq1
    generalize w5.drewN nq = w6 at *
    have k0 := HX9.out.1.1
    have k1 := HX9.out.1.2.1
    have k2 := HX9.out.1.2.2
    have HI6 := Lib.hid hi
    obtain ⟨Xj, Yj, Zj⟩ := k0.facts
    have j0 := Xj 0
    have j1 := Xj 1
    have fj0 := Yj 0
    have fj1 := Yj 1
    obtain ⟨Xr, Yr, Zr⟩ := k1.facts
    have r0 := Xr 0
    have r1 := Xr 1
    have fr0 := Yr 0
    have fr1 := Yr 1
    obtain ⟨Xq, Yq, Zq⟩ := k2.facts
    have q0 := Xq 0
    have q1 := Xq 1
    have fq0 := Yq 0
    have fq1 := Yq 1
    clear k0 Xj Yj k1 Xr Yr k2 Xq Yq
    go_upto_region 18 with fail
    have d3 : w6.cell? ⟨g4, o4 + i * 257 + 2 + p, none⟩ = some (Str ((getP (p : Int) (A[i]'HI6.out).ps).getD [])) := by
      have h := seg_cell HO6.out i HI6.out (2 + p) (by omega)
      rw [← Nat.add_assoc] at h
      rw [h]
      exact rowA_at _ p (by omega)
    have d4 := HO6.out.free (o4 + i * 257 + 2 + p)
    go_region
    go_upto_region 19 with fail
    have HX10 : Hid (HX49 ((w6.setCell ⟨g4, o4 + i * 257 + 2 + p, none⟩ (Str (s.drop 6))).drew) w.heap.size #[.int .i64 room, .slice a A.length cp] #[.int .i64 0, .slice none 0 0] (s.drop 4) ∧ Below w.heap.size w ((w6.setCell ⟨g4, o4 + i * 257 + 2 + p, none⟩ (Str (s.drop 6))).drew)) := Lib.hid ⟨HX9.out.1.far (Nat.lt_of_lt_of_le HS4.out hg4) _ _, (HX9.out.2.setCell (p := ⟨g4, o4 + i * 257 + 2 + p, none⟩) (by have := HS4.out; show w.heap.size ≤ g4; omega) _).drew⟩
    obtain ⟨n, hnn, hn255⟩ := (HGA.out.g _ (List.getElem_mem hi)).o.n
    obtain ⟨e', he'⟩ : ∃ e' : AE, e' = ⟨(A[i]'HI6.out).id, (n : Nat), setP (p : Int) (ptS s).body (A[i]'HI6.out).ps⟩ := ⟨_, rfl⟩
    have HO7 : Hid (Seg ((w6.setCell ⟨g4, o4 + i * 257 + 2 + p, none⟩ (Str (s.drop 6))).drew) w3.heap.size tE 257 (.slice (some ⟨g4, o4, none⟩) A.length c4) A.length (rowsA (A.set i e'))) := Lib.hid (by
      have h := seg_part HO6.out i HI6.out p (by omega) (s.drop 6)
      rw [hnn] at h
      rw [he']
      exact h)
    have HB37 : Hid (Below w3.heap.size w3 ((w6.setCell ⟨g4, o4 + i * 257 + 2 + p, none⟩ (Str (s.drop 6))).drew)) := Lib.hid (HB36.out.setCell (p := ⟨g4, o4 + i * 257 + 2 + p, none⟩) hg4 _).drew
    have HC : Hid (∀ j u, (rowA e')[j]? = some u → ((w6.setCell ⟨g4, o4 + i * 257 + 2 + p, none⟩ (Str (s.drop 6))).drew).cell? ⟨g4, o4 + i * 257 + j, none⟩ = some u) := Lib.hid (seg_row HO7.out HI6.out)
    have HWH : Hid (∀ w', Calls Try.prog 69 #[.agg (rowA e').toArray] w' fun x w'' => WholeR e'.ps n x ∧ Below w'.heap.size w' w'') := Lib.hid fun w' => by
      subst he'
      exact rwhole49 _ n _ w' hn255 (part_len (HGA.out.g _ (List.getElem_mem hi)).o hs1 _)
    have HE := Lib.hid (And.intro he' hnn)
    have hrl : (rowA e').length = 257 := rowA_len e'
    clear d3 d4 HX9 HO6 HB36 he' hnn hn255 Zj j0 fj0 j1 fj1 Zr r0 fr0 r1 fr1 Zq q0 fq0 q1 fq1
    generalize (w6.setCell ⟨g4, o4 + i * 257 + 2 + p, none⟩ (Str (s.drop 6))).drew = w7 at *
    refine wp_region_lit ?_
    iterate 3
      refine wpList_plain rfl fun K hK => ?_
      go_simp
      refine hK _ _ ?_
      clear hK K
    refine wpList_load_cells rfl tE (.tmp 102) rfl g4 (o4 + i * 257) (rowA e') rfl aggE (by rw [hrl]; exact sizeE) HC.out ?_
    clear HC hrl
    generalize (rowA e').toArray = cs at *
    go_wp2_with fail
    refine (HWH.out _).mono ?_
    rintro x w8 ⟨hw, hb⟩
    have HX11 : Hid (HX49 w8 w.heap.size #[.int .i64 room, .slice a A.length cp] #[.int .i64 0, .slice none 0 0] (s.drop 4) ∧ Below w.heap.size w w8) := Lib.hid ⟨HX10.out.1.below hb, Below.chain hb HX10.out.2⟩
    have HO8 := Lib.hid (HO7.out.chain hb)
    have HB38 := Lib.hid (Below.chain hb HB37.out)
    have k0 := HX11.out.1.1
    have k1 := HX11.out.1.2.1
    have k2 := HX11.out.1.2.2
    clear hb HX10 HO7 HB37 HWH
    obtain ⟨Xj, Yj, Zj⟩ := k0.facts
    have j0 := Xj 0
    have j1 := Xj 1
    have fj0 := Yj 0
    have fj1 := Yj 1
    obtain ⟨Xr, Yr, Zr⟩ := k1.facts
    have r0 := Xr 0
    have r1 := Xr 1
    have fr0 := Yr 0
    have fr1 := Yr 1
    obtain ⟨Xq, Yq, Zq⟩ := k2.facts
    have q0 := Xq 0
    have q1 := Xq 1
    have fq0 := Yq 0
    have fq1 := Yq 1
    clear k0 Xj Yj k1 Xr Yr k2 Xq Yq
    rcases hw with ⟨hall, rfl⟩ | ⟨hall, rfl⟩
    · have hcp : A.length ≤ c4 := seg_cap HO8.out
      have hIM : i < A.length := hi
      have hj0 : (0 : Int) ≤ (i : Int) := by omega
      have hji : (i : Int) ≤ (c4 : Int) := by omega
      have hic : i < c4 := by omega
      have h5 : (i : Int) + 1 ≤ (A.length : Int) := by omega
      have h6 : (0 : Int) ≤ (i : Int) + 1 := by omega
      have h7c : (A.length : Int) ≤ (c4 : Int) := by omega
      have hl4 : 0 < s.length - 4 := by omega
      have HM3 : Hid (A.length ≤ 300) := Lib.hid (by have := HGA.out.le; omega)
      have HQ3 : Hid (0 + i ≤ maxLen ∧ (0 + i) * 4096 ≤ 140737488355328) := Lib.hid (by have := HM3.out; unfold maxLen; omega)
      have HQ4 : Hid (i + (A.length - (i + 1)) ≤ maxLen ∧ (i + (A.length - (i + 1))) * 4096 ≤ 140737488355328) := Lib.hid (by have := HM3.out; unfold maxLen; omega)
      have HR1 : Hid (RdS w8 257 (.slice (some ⟨g4, o4, none⟩) i c4) i (rowsA (A.take i))) := Lib.hid (seg_take HO8.out (Nat.le_of_lt hIM))
      have HON1 : Hid (∀ u ∈ rowsA (A.take i), u.oneCell' = true) := Lib.hid (one_rowsA _)
      have HON2 : Hid (∀ u ∈ rowsA (A.drop (i + 1)), u.oneCell' = true) := Lib.hid (one_rowsA _)
      have hkw := kw49 i A.length hIM HM3.out
      have HKW := Lib.hid hkw
      have HIMH := Lib.hid hIM
      clear hkw hcp hIM
      go_upto_region 23 with (at_builtin; refine wpList_append_rds rfl (.tmp 108) (.tmp 111) 78 rfl w8.heap.size tE i0 _ 257 4096 undSE hif hz0 hz1 hz2 zeroE_size (by decide) (.slice none 0 0) 0 [] rfl (Seg.nil _ _ _ _) (.slice (some ⟨g4, o4, none⟩) i c4) i (rowsA (A.take i)) rfl HR1.out HON1.out HQ3.out.1 HQ3.out.2 (Nat.le_refl _) ?_; intro v9 w9 hown9 hgrow9 hat9; rw [List.nil_append, Nat.zero_add] at hown9)
      have hb9 : Below w8.heap.size w8 w9 := (Only.grown (S := []) (Only.refl _ _) hgrow9 (fun x hx => by cases hx)).nil
      obtain ⟨a9, c9, rfl⟩ := hown9.form
      have HO9 := Lib.hid hown9
      have HB9 := Lib.hid hb9
      have HS9 := Lib.hid (HO8.out.chain hb9)
      have HSL : Hid (w8.heap.size ≤ w9.heap.size) := Lib.hid hb9.size
      have HX12 : Hid (HX49 w9 w.heap.size #[.int .i64 room, .slice a A.length cp] #[.int .i64 0, .slice none 0 0] (s.drop 4)) := Lib.hid (HX11.out.1.below hb9)
      clear hown9 hgrow9 hat9 hb9 HR1 HON1 Zj j0 fj0 j1 fj1 Zr r0 fr0 r1 fr1 Zq q0 fq0 q1 fq1
      have k0 := HX12.out.1
      have k1 := HX12.out.2.1
      have k2 := HX12.out.2.2
      obtain ⟨Xj, Yj, Zj⟩ := k0.facts
      have j0 := Xj 0
      have j1 := Xj 1
      have fj0 := Yj 0
      have fj1 := Yj 1
      obtain ⟨Xr, Yr, Zr⟩ := k1.facts
      have r0 := Xr 0
      have r1 := Xr 1
      have fr0 := Yr 0
      have fr1 := Yr 1
      obtain ⟨Xq, Yq, Zq⟩ := k2.facts
      have q0 := Xq 0
      have q1 := Xq 1
      have fq0 := Yq 0
      have fq1 := Yq 1
      clear k0 Xj Yj k1 Xr Yr k2 Xq Yq
      have hkw := HKW.out
      by_cases hc : i + 1 = c4
      · subst hc
        have HMM : Hid (A.length = i + 1) := Lib.hid (by have := HIMH.out; clear hkw; omega)
        have HQ5 : Hid (i + 0 ≤ maxLen ∧ (i + 0) * 4096 ≤ 140737488355328) := Lib.hid (by have h := HQ3.out; rw [Nat.zero_add] at h; exact h)
        have HR2 : Hid (RdS w9 257 (.slice (some ⟨g4, o4, none⟩) 0 0) 0 (rowsA (A.drop (i + 1)))) := Lib.hid (by have h := seg_drop HS9.out HIMH.out o4 (.inr ⟨rfl, rfl⟩); rw [Nat.sub_self, show A.length - (i + 1) = 0 by rw [HMM.out, Nat.sub_self]] at h; exact h)
        go_upto_region 24 with (at_builtin; refine wpList_append_rds rfl (.tmp 113) (.tmp 117) 78 rfl w8.heap.size tE i0 _ 257 4096 undSE hif hz0 hz1 hz2 zeroE_size (by decide) (.slice a9 i c9) i (rowsA (A.take i)) rfl HO9.out (.slice (some ⟨g4, o4, none⟩) 0 0) 0 (rowsA (A.drop (i + 1))) rfl HR2.out HON2.out HQ5.out.1 HQ5.out.2 HSL.out ?_; intro v10 w10 hown10 hgrow10 hat10; have HO10 := Lib.hid hown10; have hb10 := (Only.grown (S := []) (Only.of_below HB9.out) hgrow10 (fun x hx => .inr (HO9.out.blk x hx).1)).nil; obtain ⟨a10, c10, rfl⟩ := hown10.form; have HX13 : Hid (HX49 w10 w.heap.size #[.int .i64 room, .slice a A.length cp] #[.int .i64 0, .slice none 0 0] (s.drop 4) ∧ Below w.heap.size w w10) := Lib.hid ⟨HX11.out.1.below hb10, Below.chain hb10 HX11.out.2⟩; clear hown10 hgrow10 hat10 hb10 Zj j0 fj0 j1 fj1 Zr r0 fr0 r1 fr1 Zq q0 fq0 q1 fq1; have k0 := HX13.out.1.1; have k1 := HX13.out.1.2.1; have k2 := HX13.out.1.2.2; obtain ⟨Xj, Yj, Zj⟩ := k0.facts; have j0 := Xj 0; have j1 := Xj 1; have fj0 := Yj 0; have fj1 := Yj 1; obtain ⟨Xr, Yr, Zr⟩ := k1.facts; have r0 := Xr 0; have r1 := Xr 1; have fr0 := Yr 0; have fr1 := Yr 1; obtain ⟨Xq, Yq, Zq⟩ := k2.facts; have q0 := Xq 0; have q1 := Xq 1; have fq0 := Yq 0; have fq1 := Yq 1; clear k0 Xj Yj k1 Xr Yr k2 Xq Yq)
        go_region
        go_wp2_with fail
        refine bodyPost_ret (v := .tuple #[.agg #[.int .i64 room, .slice a10 i c10], Str (textF e'.ps n), .bool true, .int .i64 0]) (by simp [results, Try.results37, go_sem, r0, r1, Str]) rfl (PutOk.whole HI6.out HE.out.2 HPL.out HE.out.1 hall HO10.out rfl (by rw [HMM.out, Nat.sub_self]; rfl) (Nat.lt_of_lt_of_le HX11.out.1.2.2.lt (Nat.le_refl _)) HX13.out.2)
      · have hc2 : ¬ (i : Int) + 1 = (c4 : Int) := by clear hkw; omega
        have hc3 : ¬ (c4 : Int) = (i : Int) + 1 := by clear hkw; omega
        have hc4 : ¬ c4 = i + 1 := by clear hkw; omega
        have HR2 : Hid (RdS w9 257 (.slice (some ⟨g4, o4 + (i + 1) * 257, none⟩) (A.length - (i + 1)) (c4 - (i + 1))) (A.length - (i + 1)) (rowsA (A.drop (i + 1)))) := Lib.hid (seg_drop HS9.out HIMH.out _ (.inl rfl))
        go_upto_region 24 with (at_builtin; refine wpList_append_rds rfl (.tmp 113) (.tmp 117) 78 rfl w8.heap.size tE i0 _ 257 4096 undSE hif hz0 hz1 hz2 zeroE_size (by decide) (.slice a9 i c9) i (rowsA (A.take i)) rfl HO9.out (.slice (some ⟨g4, o4 + (i + 1) * 257, none⟩) (A.length - (i + 1)) (c4 - (i + 1))) (A.length - (i + 1)) (rowsA (A.drop (i + 1))) rfl HR2.out HON2.out HQ4.out.1 HQ4.out.2 HSL.out ?_; intro v10 w10 hown10 hgrow10 hat10; have HO10 := Lib.hid hown10; have hb10 := (Only.grown (S := []) (Only.of_below HB9.out) hgrow10 (fun x hx => .inr (HO9.out.blk x hx).1)).nil; obtain ⟨a10, c10, rfl⟩ := hown10.form; have HX13 : Hid (HX49 w10 w.heap.size #[.int .i64 room, .slice a A.length cp] #[.int .i64 0, .slice none 0 0] (s.drop 4) ∧ Below w.heap.size w w10) := Lib.hid ⟨HX11.out.1.below hb10, Below.chain hb10 HX11.out.2⟩; clear hown10 hgrow10 hat10 hb10 Zj j0 fj0 j1 fj1 Zr r0 fr0 r1 fr1 Zq q0 fq0 q1 fq1; have k0 := HX13.out.1.1; have k1 := HX13.out.1.2.1; have k2 := HX13.out.1.2.2; obtain ⟨Xj, Yj, Zj⟩ := k0.facts; have j0 := Xj 0; have j1 := Xj 1; have fj0 := Yj 0; have fj1 := Yj 1; obtain ⟨Xr, Yr, Zr⟩ := k1.facts; have r0 := Xr 0; have r1 := Xr 1; have fr0 := Yr 0; have fr1 := Yr 1; obtain ⟨Xq, Yq, Zq⟩ := k2.facts; have q0 := Xq 0; have q1 := Xq 1; have fq0 := Yq 0; have fq1 := Yq 1; clear k0 Xj Yj k1 Xr Yr k2 Xq Yq)
        go_region
        go_wp2_with fail
        refine bodyPost_ret (v := .tuple #[.agg #[.int .i64 room, .slice a10 (i + (A.length - (i + 1))) c10], Str (textF e'.ps n), .bool true, .int .i64 0]) (by simp [results, Try.results37, go_sem, r0, r1, Str]) rfl (PutOk.whole HI6.out HE.out.2 HPL.out HE.out.1 hall HO10.out rfl rfl (Nat.lt_of_lt_of_le HX11.out.1.2.2.lt (Nat.le_refl _)) HX13.out.2)
    · go_upto_region 24 with fail
      go_region
      go_wp2_with fail
      refine bodyPost_ret (v := .tuple #[.agg #[.int .i64 room, .slice (some ⟨g4, o4, none⟩) A.length c4], Str [], .bool false, .int .i64 0]) (by simp [results, Try.results37, go_sem, r0, r1, Str]) rfl (PutOk.more HI6.out HE.out.2 HPL.out HE.out.1 hall HO8.out rfl (Nat.lt_of_lt_of_le HS4.out (Nat.le_refl _)) HX11.out.2)
  · rw [hX] at d2
    change _ = some (Str (s.drop 6)) at d2
    have hxe : (s.drop 6).isEmpty = false := by
      have hb : s.drop 6 ≠ [] := (HGA.out.g _ (List.getElem_mem hi)).b _ (getP_mem hX)
      cases hc : s.drop 6 <;> simp_all
    have hcmp : (s.drop 6 == s.drop 6) = true := by simp
    clear hX hidx hg
    go_wp2_with fail
    go_quiet (fail)
    clear hn' hxe hcmp
    have HX9 : Hid (HX49 (w5.drewN nq) w.heap.size #[.int .i64 room, .slice a A.length cp] #[.int .i64 0, .slice none 0 0] (s.drop 4) ∧ Below w.heap.size w (w5.drewN nq)) := Lib.hid ⟨HX8.out.1, below_drewN HX8.out.2 _⟩
    have HO6 : Hid (Seg (w5.drewN nq) w3.heap.size tE 257 (.slice (some ⟨g4, o4, none⟩) A.length c4) A.length (rowsA A)) := HO5
    have HB36 : Hid (Below w3.heap.size w3 (w5.drewN nq)) := Lib.hid (below_drewN HB35.out _)
    clear HX8 HO5 HB35 d1 d2 Zj j0 fj0 j1 fj1 Zr r0 fr0 r1 fr1 Zq q0 fq0 q1 fq1
    generalize w5.drewN nq = w6 at *
    have k0 := HX9.out.1.1
    have k1 := HX9.out.1.2.1
    have k2 := HX9.out.1.2.2
    have HI6 := Lib.hid hi
    obtain ⟨Xj, Yj, Zj⟩ := k0.facts
    have j0 := Xj 0
    have j1 := Xj 1
    have fj0 := Yj 0
    have fj1 := Yj 1
    obtain ⟨Xr, Yr, Zr⟩ := k1.facts
    have r0 := Xr 0
    have r1 := Xr 1
    have fr0 := Yr 0
    have fr1 := Yr 1
    obtain ⟨Xq, Yq, Zq⟩ := k2.facts
    have q0 := Xq 0
    have q1 := Xq 1
    have fq0 := Yq 0
    have fq1 := Yq 1
    clear k0 Xj Yj k1 Xr Yr k2 Xq Yq
    go_upto_region 18 with fail
    have d3 : w6.cell? ⟨g4, o4 + i * 257 + 2 + p, none⟩ = some (Str ((getP (p : Int) (A[i]'HI6.out).ps).getD [])) := by
      have h := seg_cell HO6.out i HI6.out (2 + p) (by omega)
      rw [← Nat.add_assoc] at h
      rw [h]
      exact rowA_at _ p (by omega)
    have d4 := HO6.out.free (o4 + i * 257 + 2 + p)
    go_region
    go_upto_region 19 with fail
    have HX10 : Hid (HX49 ((w6.setCell ⟨g4, o4 + i * 257 + 2 + p, none⟩ (Str (s.drop 6))).drew) w.heap.size #[.int .i64 room, .slice a A.length cp] #[.int .i64 0, .slice none 0 0] (s.drop 4) ∧ Below w.heap.size w ((w6.setCell ⟨g4, o4 + i * 257 + 2 + p, none⟩ (Str (s.drop 6))).drew)) := Lib.hid ⟨HX9.out.1.far (Nat.lt_of_lt_of_le HS4.out hg4) _ _, (HX9.out.2.setCell (p := ⟨g4, o4 + i * 257 + 2 + p, none⟩) (by have := HS4.out; show w.heap.size ≤ g4; omega) _).drew⟩
    obtain ⟨n, hnn, hn255⟩ := (HGA.out.g _ (List.getElem_mem hi)).o.n
    obtain ⟨e', he'⟩ : ∃ e' : AE, e' = ⟨(A[i]'HI6.out).id, (n : Nat), setP (p : Int) (ptS s).body (A[i]'HI6.out).ps⟩ := ⟨_, rfl⟩
    have HO7 : Hid (Seg ((w6.setCell ⟨g4, o4 + i * 257 + 2 + p, none⟩ (Str (s.drop 6))).drew) w3.heap.size tE 257 (.slice (some ⟨g4, o4, none⟩) A.length c4) A.length (rowsA (A.set i e'))) := Lib.hid (by
      have h := seg_part HO6.out i HI6.out p (by omega) (s.drop 6)
      rw [hnn] at h
      rw [he']
      exact h)
    have HB37 : Hid (Below w3.heap.size w3 ((w6.setCell ⟨g4, o4 + i * 257 + 2 + p, none⟩ (Str (s.drop 6))).drew)) := Lib.hid (HB36.out.setCell (p := ⟨g4, o4 + i * 257 + 2 + p, none⟩) hg4 _).drew
    have HC : Hid (∀ j u, (rowA e')[j]? = some u → ((w6.setCell ⟨g4, o4 + i * 257 + 2 + p, none⟩ (Str (s.drop 6))).drew).cell? ⟨g4, o4 + i * 257 + j, none⟩ = some u) := Lib.hid (seg_row HO7.out HI6.out)
    have HWH : Hid (∀ w', Calls Try.prog 69 #[.agg (rowA e').toArray] w' fun x w'' => WholeR e'.ps n x ∧ Below w'.heap.size w' w'') := Lib.hid fun w' => by
      subst he'
      exact rwhole49 _ n _ w' hn255 (part_len (HGA.out.g _ (List.getElem_mem hi)).o hs1 _)
    have HE := Lib.hid (And.intro he' hnn)
    have hrl : (rowA e').length = 257 := rowA_len e'
    clear d3 d4 HX9 HO6 HB36 he' hnn hn255 Zj j0 fj0 j1 fj1 Zr r0 fr0 r1 fr1 Zq q0 fq0 q1 fq1
    generalize (w6.setCell ⟨g4, o4 + i * 257 + 2 + p, none⟩ (Str (s.drop 6))).drew = w7 at *
    refine wp_region_lit ?_
    iterate 3
      refine wpList_plain rfl fun K hK => ?_
      go_simp
      refine hK _ _ ?_
      clear hK K
    refine wpList_load_cells rfl tE (.tmp 102) rfl g4 (o4 + i * 257) (rowA e') rfl aggE (by rw [hrl]; exact sizeE) HC.out ?_
    clear HC hrl
    generalize (rowA e').toArray = cs at *
    go_wp2_with fail
    refine (HWH.out _).mono ?_
    rintro x w8 ⟨hw, hb⟩
    have HX11 : Hid (HX49 w8 w.heap.size #[.int .i64 room, .slice a A.length cp] #[.int .i64 0, .slice none 0 0] (s.drop 4) ∧ Below w.heap.size w w8) := Lib.hid ⟨HX10.out.1.below hb, Below.chain hb HX10.out.2⟩
    have HO8 := Lib.hid (HO7.out.chain hb)
    have HB38 := Lib.hid (Below.chain hb HB37.out)
    have k0 := HX11.out.1.1
    have k1 := HX11.out.1.2.1
    have k2 := HX11.out.1.2.2
    clear hb HX10 HO7 HB37 HWH
    obtain ⟨Xj, Yj, Zj⟩ := k0.facts
    have j0 := Xj 0
    have j1 := Xj 1
    have fj0 := Yj 0
    have fj1 := Yj 1
    obtain ⟨Xr, Yr, Zr⟩ := k1.facts
    have r0 := Xr 0
    have r1 := Xr 1
    have fr0 := Yr 0
    have fr1 := Yr 1
    obtain ⟨Xq, Yq, Zq⟩ := k2.facts
    have q0 := Xq 0
    have q1 := Xq 1
    have fq0 := Yq 0
    have fq1 := Yq 1
    clear k0 Xj Yj k1 Xr Yr k2 Xq Yq
    rcases hw with ⟨hall, rfl⟩ | ⟨hall, rfl⟩
    · have hcp : A.length ≤ c4 := seg_cap HO8.out
      have hIM : i < A.length := hi
      have hj0 : (0 : Int) ≤ (i : Int) := by omega
      have hji : (i : Int) ≤ (c4 : Int) := by omega
      have hic : i < c4 := by omega
      have h5 : (i : Int) + 1 ≤ (A.length : Int) := by omega
      have h6 : (0 : Int) ≤ (i : Int) + 1 := by omega
      have h7c : (A.length : Int) ≤ (c4 : Int) := by omega
      have hl4 : 0 < s.length - 4 := by omega
      have HM3 : Hid (A.length ≤ 300) := Lib.hid (by have := HGA.out.le; omega)
      have HQ3 : Hid (0 + i ≤ maxLen ∧ (0 + i) * 4096 ≤ 140737488355328) := Lib.hid (by have := HM3.out; unfold maxLen; omega)
      have HQ4 : Hid (i + (A.length - (i + 1)) ≤ maxLen ∧ (i + (A.length - (i + 1))) * 4096 ≤ 140737488355328) := Lib.hid (by have := HM3.out; unfold maxLen; omega)
      have HR1 : Hid (RdS w8 257 (.slice (some ⟨g4, o4, none⟩) i c4) i (rowsA (A.take i))) := Lib.hid (seg_take HO8.out (Nat.le_of_lt hIM))
      have HON1 : Hid (∀ u ∈ rowsA (A.take i), u.oneCell' = true) := Lib.hid (one_rowsA _)
      have HON2 : Hid (∀ u ∈ rowsA (A.drop (i + 1)), u.oneCell' = true) := Lib.hid (one_rowsA _)
      have hkw := kw49 i A.length hIM HM3.out
      have HKW := Lib.hid hkw
      have HIMH := Lib.hid hIM
      clear hkw hcp hIM
      go_upto_region 23 with (at_builtin; refine wpList_append_rds rfl (.tmp 108) (.tmp 111) 78 rfl w8.heap.size tE i0 _ 257 4096 undSE hif hz0 hz1 hz2 zeroE_size (by decide) (.slice none 0 0) 0 [] rfl (Seg.nil _ _ _ _) (.slice (some ⟨g4, o4, none⟩) i c4) i (rowsA (A.take i)) rfl HR1.out HON1.out HQ3.out.1 HQ3.out.2 (Nat.le_refl _) ?_; intro v9 w9 hown9 hgrow9 hat9; rw [List.nil_append, Nat.zero_add] at hown9)
      have hb9 : Below w8.heap.size w8 w9 := (Only.grown (S := []) (Only.refl _ _) hgrow9 (fun x hx => by cases hx)).nil
      obtain ⟨a9, c9, rfl⟩ := hown9.form
      have HO9 := Lib.hid hown9
      have HB9 := Lib.hid hb9
      have HS9 := Lib.hid (HO8.out.chain hb9)
      have HSL : Hid (w8.heap.size ≤ w9.heap.size) := Lib.hid hb9.size
      have HX12 : Hid (HX49 w9 w.heap.size #[.int .i64 room, .slice a A.length cp] #[.int .i64 0, .slice none 0 0] (s.drop 4)) := Lib.hid (HX11.out.1.below hb9)
      clear hown9 hgrow9 hat9 hb9 HR1 HON1 Zj j0 fj0 j1 fj1 Zr r0 fr0 r1 fr1 Zq q0 fq0 q1 fq1
      have k0 := HX12.out.1
      have k1 := HX12.out.2.1
      have k2 := HX12.out.2.2
      obtain ⟨Xj, Yj, Zj⟩ := k0.facts
      have j0 := Xj 0
      have j1 := Xj 1
      have fj0 := Yj 0
      have fj1 := Yj 1
      obtain ⟨Xr, Yr, Zr⟩ := k1.facts
      have r0 := Xr 0
      have r1 := Xr 1
      have fr0 := Yr 0
      have fr1 := Yr 1
      obtain ⟨Xq, Yq, Zq⟩ := k2.facts
      have q0 := Xq 0
      have q1 := Xq 1
      have fq0 := Yq 0
      have fq1 := Yq 1
      clear k0 Xj Yj k1 Xr Yr k2 Xq Yq
      have hkw := HKW.out
      by_cases hc : i + 1 = c4
      · subst hc
        have HMM : Hid (A.length = i + 1) := Lib.hid (by have := HIMH.out; clear hkw; omega)
        have HQ5 : Hid (i + 0 ≤ maxLen ∧ (i + 0) * 4096 ≤ 140737488355328) := Lib.hid (by have h := HQ3.out; rw [Nat.zero_add] at h; exact h)
        have HR2 : Hid (RdS w9 257 (.slice (some ⟨g4, o4, none⟩) 0 0) 0 (rowsA (A.drop (i + 1)))) := Lib.hid (by have h := seg_drop HS9.out HIMH.out o4 (.inr ⟨rfl, rfl⟩); rw [Nat.sub_self, show A.length - (i + 1) = 0 by rw [HMM.out, Nat.sub_self]] at h; exact h)
        go_upto_region 24 with (at_builtin; refine wpList_append_rds rfl (.tmp 113) (.tmp 117) 78 rfl w8.heap.size tE i0 _ 257 4096 undSE hif hz0 hz1 hz2 zeroE_size (by decide) (.slice a9 i c9) i (rowsA (A.take i)) rfl HO9.out (.slice (some ⟨g4, o4, none⟩) 0 0) 0 (rowsA (A.drop (i + 1))) rfl HR2.out HON2.out HQ5.out.1 HQ5.out.2 HSL.out ?_; intro v10 w10 hown10 hgrow10 hat10; have HO10 := Lib.hid hown10; have hb10 := (Only.grown (S := []) (Only.of_below HB9.out) hgrow10 (fun x hx => .inr (HO9.out.blk x hx).1)).nil; obtain ⟨a10, c10, rfl⟩ := hown10.form; have HX13 : Hid (HX49 w10 w.heap.size #[.int .i64 room, .slice a A.length cp] #[.int .i64 0, .slice none 0 0] (s.drop 4) ∧ Below w.heap.size w w10) := Lib.hid ⟨HX11.out.1.below hb10, Below.chain hb10 HX11.out.2⟩; clear hown10 hgrow10 hat10 hb10 Zj j0 fj0 j1 fj1 Zr r0 fr0 r1 fr1 Zq q0 fq0 q1 fq1; have k0 := HX13.out.1.1; have k1 := HX13.out.1.2.1; have k2 := HX13.out.1.2.2; obtain ⟨Xj, Yj, Zj⟩ := k0.facts; have j0 := Xj 0; have j1 := Xj 1; have fj0 := Yj 0; have fj1 := Yj 1; obtain ⟨Xr, Yr, Zr⟩ := k1.facts; have r0 := Xr 0; have r1 := Xr 1; have fr0 := Yr 0; have fr1 := Yr 1; obtain ⟨Xq, Yq, Zq⟩ := k2.facts; have q0 := Xq 0; have q1 := Xq 1; have fq0 := Yq 0; have fq1 := Yq 1; clear k0 Xj Yj k1 Xr Yr k2 Xq Yq)
        go_region
        go_wp2_with fail
        refine bodyPost_ret (v := .tuple #[.agg #[.int .i64 room, .slice a10 i c10], Str (textF e'.ps n), .bool true, .int .i64 0]) (by simp [results, Try.results37, go_sem, r0, r1, Str]) rfl (PutOk.whole HI6.out HE.out.2 HPL.out HE.out.1 hall HO10.out rfl (by rw [HMM.out, Nat.sub_self]; rfl) (Nat.lt_of_lt_of_le HX11.out.1.2.2.lt (Nat.le_refl _)) HX13.out.2)
      · have hc2 : ¬ (i : Int) + 1 = (c4 : Int) := by clear hkw; omega
        have hc3 : ¬ (c4 : Int) = (i : Int) + 1 := by clear hkw; omega
        have hc4 : ¬ c4 = i + 1 := by clear hkw; omega
        have HR2 : Hid (RdS w9 257 (.slice (some ⟨g4, o4 + (i + 1) * 257, none⟩) (A.length - (i + 1)) (c4 - (i + 1))) (A.length - (i + 1)) (rowsA (A.drop (i + 1)))) := Lib.hid (seg_drop HS9.out HIMH.out _ (.inl rfl))
        go_upto_region 24 with (at_builtin; refine wpList_append_rds rfl (.tmp 113) (.tmp 117) 78 rfl w8.heap.size tE i0 _ 257 4096 undSE hif hz0 hz1 hz2 zeroE_size (by decide) (.slice a9 i c9) i (rowsA (A.take i)) rfl HO9.out (.slice (some ⟨g4, o4 + (i + 1) * 257, none⟩) (A.length - (i + 1)) (c4 - (i + 1))) (A.length - (i + 1)) (rowsA (A.drop (i + 1))) rfl HR2.out HON2.out HQ4.out.1 HQ4.out.2 HSL.out ?_; intro v10 w10 hown10 hgrow10 hat10; have HO10 := Lib.hid hown10; have hb10 := (Only.grown (S := []) (Only.of_below HB9.out) hgrow10 (fun x hx => .inr (HO9.out.blk x hx).1)).nil; obtain ⟨a10, c10, rfl⟩ := hown10.form; have HX13 : Hid (HX49 w10 w.heap.size #[.int .i64 room, .slice a A.length cp] #[.int .i64 0, .slice none 0 0] (s.drop 4) ∧ Below w.heap.size w w10) := Lib.hid ⟨HX11.out.1.below hb10, Below.chain hb10 HX11.out.2⟩; clear hown10 hgrow10 hat10 hb10 Zj j0 fj0 j1 fj1 Zr r0 fr0 r1 fr1 Zq q0 fq0 q1 fq1; have k0 := HX13.out.1.1; have k1 := HX13.out.1.2.1; have k2 := HX13.out.1.2.2; obtain ⟨Xj, Yj, Zj⟩ := k0.facts; have j0 := Xj 0; have j1 := Xj 1; have fj0 := Yj 0; have fj1 := Yj 1; obtain ⟨Xr, Yr, Zr⟩ := k1.facts; have r0 := Xr 0; have r1 := Xr 1; have fr0 := Yr 0; have fr1 := Yr 1; obtain ⟨Xq, Yq, Zq⟩ := k2.facts; have q0 := Xq 0; have q1 := Xq 1; have fq0 := Yq 0; have fq1 := Yq 1; clear k0 Xj Yj k1 Xr Yr k2 Xq Yq)
        go_region
        go_wp2_with fail
        refine bodyPost_ret (v := .tuple #[.agg #[.int .i64 room, .slice a10 (i + (A.length - (i + 1))) c10], Str (textF e'.ps n), .bool true, .int .i64 0]) (by simp [results, Try.results37, go_sem, r0, r1, Str]) rfl (PutOk.whole HI6.out HE.out.2 HPL.out HE.out.1 hall HO10.out rfl rfl (Nat.lt_of_lt_of_le HX11.out.1.2.2.lt (Nat.le_refl _)) HX13.out.2)
    · go_upto_region 24 with fail
      go_region
      go_wp2_with fail
      refine bodyPost_ret (v := .tuple #[.agg #[.int .i64 room, .slice (some ⟨g4, o4, none⟩) A.length c4], Str [], .bool false, .int .i64 0]) (by simp [results, Try.results37, go_sem, r0, r1, Str]) rfl (PutOk.more HI6.out HE.out.2 HPL.out HE.out.1 hall HO8.out rfl (Nat.lt_of_lt_of_le HS4.out (Nat.le_refl _)) HX11.out.2)
end Go.Proofs.Ytgfbhclkpephnaa
