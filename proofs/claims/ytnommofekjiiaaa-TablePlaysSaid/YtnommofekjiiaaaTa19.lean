/-
  The table: Drop (chapter 18).
-/
import Derived.Test.YtnommofekjiiaaaTa18
namespace Go.Proofs.Ytnommofekjiiaaa
open Go Go.RowKit Go.MuLone
set_option linter.unusedVariables false
set_option linter.unusedSimpArgs false
set_option maxRecDepth 100000
set_option maxHeartbeats 2000000
/-- Without a stream's entries in the parts ahead of j. -/
def dropTo (P j : Nat) (z : Int) (es : List TE) : List TE := es.filter fun e => !(decide (partOf P e.k < j) && decide (e.k.1 = z))
theorem dropTo_zero (P : Nat) (z : Int) (es : List TE) : dropTo P 0 z es = es := by
  unfold dropTo
  exact List.filter_eq_self.2 fun e _ => by simp
theorem dropTo_succ (P j : Nat) (z : Int) (es : List TE) : dropP P j z (dropTo P j z es) = dropTo P (j + 1) z es := by
  unfold dropP dropTo
  rw [List.filter_filter]
  refine List.filter_congr fun e _ => ?_
  by_cases h1 : partOf P e.k = j <;> by_cases h2 : e.k.1 = z
  · simp [h1, h2]
  · simp [h1, h2]
  · have : partOf P e.k < j + 1 ↔ partOf P e.k < j := by omega
    simp [h1, h2, this]
  · simp [h1, h2]
theorem dropTo_all {P : Nat} (hP : 0 < P) (z : Int) (es : List TE) : dropTo P P z es = es.filter fun e => !decide (e.k.1 = z) := by
  unfold dropTo
  refine List.filter_congr fun e _ => ?_
  simp [partOf_lt hP]
theorem filter_split {α : Type} (p : α → Bool) : ∀ l : List α, (l.filter p).length + (l.filter fun x => !p x).length = l.length
  | [] => rfl
  | x :: l => by
    have ih := filter_split p l
    by_cases h : p x = true
    · rw [List.filter_cons_of_pos h, List.filter_cons_of_neg (by simp [h]), List.length_cons, List.length_cons]; omega
    · rw [List.filter_cons_of_neg h, List.filter_cons_of_pos (by simp [h]), List.length_cons, List.length_cons]; omega
theorem drop_count (P j : Nat) (z : Int) (es : List TE) : ((inP P es j).filter (hasS z)).length + (dropP P j z es).length = es.length := by
  have e1 : ((inP P es j).filter (hasS z)).length = (es.filter fun e => decide (partOf P e.k = j) && decide (e.k.1 = z)).length := by
    unfold inP
    rw [List.filter_map, List.length_map, List.filter_filter]
    congr 1
    refine List.filter_congr fun e _ => ?_
    by_cases h1 : partOf P e.k = j <;> by_cases h2 : e.k.1 = z <;> simp [TE.mp, hasS, h1, h2]
  rw [e1]
  exact filter_split _ es
theorem TabM.ptrAt {base : Nat} {w : World} {bt : Nat} {s : TS} {hd : Option Nat} (h : TabM base w bt s hd) {g off n cap : Nat} (hv : s.pv = .slice (some ⟨g, off, none⟩) n cap) {j : Nat} {p : Nat × Nat} (hp : s.ps[j]? = some p) : w.cell? ⟨g, off + j, none⟩ = some (ptr p.1) := by
  obtain ⟨a, c, he, hc⟩ := Seg.ptrAt h.pa
  rw [hv] at he
  cases he
  obtain ⟨g', off', e, _, hcell⟩ := hc j p hp
  cases e
  exact hcell
theorem drop_any (base bt room : Nat) (A : List DE) (m : Nat) (s : TS) (z : Int) (w : World) (h : Tab base w bt room A m s) (hb : base ≤ w.heap.size) :
    Calls Try.prog 15 #[ptr bt, .int .i64 z] w (TabR base bt room (A.filter fun f => !decide (f.1.1 = z)) m w (.int .i64 ((A.length - (A.filter fun f => !decide (f.1.1 = z)).length : Nat) : Int))) := by
  obtain ⟨ht, ok, ha, hr, hm⟩ := h
  subst ha hr
  have HT := Lib.hid ht
  have HOK := Lib.hid ok
  obtain ⟨a, cap, hv, hc⟩ := Seg.ptrAt ht.pa
  obtain ⟨g, off, rfl, h7, h8⟩ := hc 0 _ (List.getElem?_eq_getElem ok.p1)
  clear h7 h8
  have c0 : w.cell? ⟨bt, 0, none⟩ = some (.slice (some ⟨g, off, none⟩) s.ps.length cap) := by rw [← hv]; exact ht.tb.facts.1 0
  have HPV := Lib.hid hv
  have hpl : s.ps.length ≤ 64 := ok.p2
  obtain ⟨Q, hQ⟩ : ∃ Q, TabR base bt s.room (s.A.filter fun f => !decide (f.1.1 = z)) m w (.int .i64 ((s.A.length - (s.A.filter fun f => !decide (f.1.1 = z)).length : Nat) : Int)) = Q := ⟨_, rfl⟩
  have HQ := Lib.hid hQ
  rw [hQ]
  have HM := Lib.hid hm
  have HB := Lib.hid hb
  clear hQ ht ok hv hc hb hm
  go_enter Try.func15, Try.ntmps15
  go_wp2_with fail
  have HST : Hid (TabM base w bt { s with es := dropTo s.ps.length 0 z s.es } none ∧ Turn base KT w w) := Lib.hid ⟨by rw [dropTo_zero]; exact HT.out, Turn.refl _ _ _⟩
  have HES : Hid (s.es.length ≤ 65536) := Lib.hid (Nat.le_trans HOK.out.r HOK.out.r2)
  have HN0 : Hid (s.es.length - (dropTo s.ps.length 0 z s.es).length = 0) := Lib.hid (by rw [dropTo_zero, Nat.sub_self])
  go_loopg [5, 15] s.ps.length (fun gk v i wr => ∃ j : Nat, s.ps.length - j ≤ gk ∧ j ≤ s.ps.length ∧ i = .int .i64 (j : Int) ∧ v = .int .i64 ((s.es.length - (dropTo s.ps.length j z s.es).length : Nat) : Int) ∧ Hid (TabM base wr bt { s with es := dropTo s.ps.length j z s.es } none ∧ Turn base KT w wr))
  case atStart => exact ⟨0, by omega, Nat.zero_le _, rfl, by rw [HN0.out]; rfl, HST⟩
  case round =>
    clear HST HN0 c0
    obtain ⟨j, hjg, hj, rfl, rfl, HREL⟩ := hrel
    by_cases hlt : j < s.ps.length
    · obtain ⟨p, hp⟩ : ∃ p, s.ps[j]? = some p := ⟨_, List.getElem?_eq_getElem hlt⟩
      have cp := HREL.out.1.ptrAt HPV.out hp
      have hln : (inP s.ps.length (dropTo s.ps.length j z s.es) j).length ≤ 1000000 := by
        unfold inP
        rw [List.length_map]
        have h1 := List.length_filter_le (fun e : TE => decide (partOf s.ps.length e.k = j)) (dropTo s.ps.length j z s.es)
        have h2 : (dropTo s.ps.length j z s.es).length ≤ s.es.length := List.length_filter_le _ _
        have := HES.out
        omega
      have HD := Lib.hid (drop_part base bt { s with es := dropTo s.ps.length j z s.es } j p z wr HREL.out.1 hp hln)
      have hcnt := drop_count s.ps.length j z (dropTo s.ps.length j z s.es)
      rw [dropTo_succ] at hcnt
      have hle : (dropTo s.ps.length j z s.es).length ≤ s.es.length := List.length_filter_le _ _
      have hadd : (s.es.length - (dropTo s.ps.length j z s.es).length) + ((inP s.ps.length (dropTo s.ps.length j z s.es) j).filter (hasS z)).length = s.es.length - (dropTo s.ps.length (j + 1) z s.es).length := by omega
      have HADD := Lib.hid hadd
      have HLE := Lib.hid hle
      have hlt' : (j : Int) < (s.ps.length : Int) := by omega
      have hw : IntKind.i64.wrap (((s.es.length - (dropTo s.ps.length j z s.es).length : Nat) : Int) + (((inP s.ps.length (dropTo s.ps.length j z s.es) j).filter (hasS z)).length : Int)) = ((s.es.length - (dropTo s.ps.length (j + 1) z s.es).length : Nat) : Int) := by
        have := HES.out
        rw [IntKind.wrap_i64]
        omega
      have HW := Lib.hid hw
      clear hp hln hcnt hle hadd hw
      generalize hc1 : s.es.length - (dropTo s.ps.length j z s.es).length = c1 at *
      generalize hc2 : ((inP s.ps.length (dropTo s.ps.length j z s.es) j).filter (hasS z)).length = c2 at *
      clear hc1 hc2
      go_wp2_with fail
      refine HD.out.mono ?_
      rintro r w2 ⟨rfl, ht2, hn2⟩
      have HR2 : Hid (TabM base w2 bt { s with es := dropTo s.ps.length (j + 1) z s.es } none ∧ Turn base KT w w2) := Lib.hid ⟨by rw [← dropTo_succ]; exact ht2, HREL.out.2.trans hn2⟩
      have hww := HW.out
      clear ht2 hn2 HD cp
      go_wp2_with fail
      go_roundg (s.ps.length - (j + 1))
      case measure => omega
      case rel => exact ⟨j + 1, Nat.le_refl _, hlt, by go_num, rfl, HR2⟩
    · obtain rfl : j = s.ps.length := by omega
      have hlt' : ¬ (s.ps.length : Int) < (s.ps.length : Int) := by omega
      have HTL : Hid (Blk wr bt (tabC s) 61) := Lib.hid HREL.out.1.tb
      have hd : s.es.length - (dropTo s.ps.length s.ps.length z s.es).length ≤ s.n := by rw [HOK.out.n]; omega
      have hn6 : s.n ≤ 1000000 := by rw [HOK.out.n]; have := HES.out; omega
      have HLV := Lib.hid (leave_any bt s _ wr HTL.out hd hn6)
      clear hd hn6 hlt
      go_wp2_with fail
      refine HLV.out.mono ?_
      rintro r w2 ⟨rfl, hb2, ho2⟩
      have HT2 : Hid (TabM base w2 bt { s with es := dropTo s.ps.length s.ps.length z s.es, n := s.n - (s.es.length - (dropTo s.ps.length s.ps.length z s.es).length) } none) := Lib.hid (HREL.out.1.setTab (n := s.n - (s.es.length - (dropTo s.ps.length s.ps.length z s.es).length)) (made := s.made) ho2 hb2)
      have HN2 : Hid (Turn base KT w w2) := Lib.hid (HREL.out.2.trans (Turn.only1 ho2 HREL.out.1.lo HREL.out.1.tb (by simp)))
      clear hb2 ho2 HLV
      go_wp2_with fail
      try go_ret
      rw [← HQ.out]
      have hfl : (s.A.filter fun f => !decide (f.1.1 = z)) = (s.es.filter fun e => !decide (e.k.1 = z)).map TE.d := by
        unfold TS.A
        rw [List.filter_map]
        rfl
      have hda := dropTo_all HOK.out.p1 z s.es
      have hal : s.A.length = s.es.length := by unfold TS.A; rw [List.length_map]
      have hle : (s.es.filter fun e => !decide (e.k.1 = z)).length ≤ s.es.length := List.length_filter_le _ _
      have ht2 := HT2.out
      rw [hda] at ht2
      refine ⟨by rw [hfl, hal, List.length_map, ← hda]; rfl, ⟨_, ht2, ?_, hfl.symm, rfl, HM.out⟩, HN2.out⟩
      have h9 := HOK.out.sub (fun e => !decide (e.k.1 = z))
      have h8 : s.n - (s.es.length - (s.es.filter fun e => !decide (e.k.1 = z)).length) = (s.es.filter fun e => !decide (e.k.1 = z)).length := by rw [HOK.out.n]; omega
      rw [h8]
      exact h9
end Go.Proofs.Ytnommofekjiiaaa
