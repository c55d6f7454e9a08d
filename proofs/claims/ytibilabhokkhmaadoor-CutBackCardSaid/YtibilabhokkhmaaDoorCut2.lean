/-
  Cut: Join: its closure, slices.ContainsFunc, strings.Join, strings.Trim by their contracts (chapter 6).
-/
import Derived.Test.YtibilabhokkhmaaDoorShelf
import Derived.Test.YtibilabhokkhmaaDoorCut1
import Derived.Shelf.SlicesE.IndexFunc
namespace Go.Proofs.YtibilabhokkhmaaDoor
open Go.RowKit
set_option linter.unusedVariables false
set_option maxRecDepth 100000
set_option maxHeartbeats 1000000
def conRen : Go.Shelf.Ren := ⟨fun | 6 => 21 | 8 => 15 | n => n, fun | 22 => 23 | 23 => 9 | 25 => 42 | n => n, fun | n => n⟩
theorem conLays : Go.Proofs.SlLaysH.n8 Tryd.prog conRen := {
  mixed := by kernel_rfl
  f6 := ⟨Tryd.f21.name, by decide, Tryd.func21.trans (congrArg some (by kernel_rfl))⟩
  f8 := ⟨Tryd.f15.name, by decide, Tryd.func15.trans (congrArg some (by kernel_rfl))⟩
  t0 := Tryd.underlying0
  a0 := Tryd.isAgg0
  z0 := Tryd.sizeOf0
  v0 := Tryd.zeroValue0
  t3 := Tryd.underlying3
  a3 := Tryd.isAgg3
  z3 := Tryd.sizeOf3
  v3 := Tryd.zeroValue3
  t4 := Tryd.underlying4
  a4 := Tryd.isAgg4
  z4 := Tryd.sizeOf4
  v4 := Tryd.zeroValue4
  t22 := Tryd.underlying23
  a22 := Tryd.isAgg23
  z22 := Tryd.sizeOf23
  v22 := Tryd.zeroValue23
  a23 := Tryd.isAgg9
  z23 := Tryd.sizeOf9
  t25 := Tryd.underlying42
  a25 := Tryd.isAgg42
  z25 := Tryd.sizeOf42
  v25 := Tryd.zeroValue42 }
/-- The text of shards, or the error. -/
def joinC (ts : List (List UInt8)) (len : Int) : List UInt8 × Int :=
  if ts = [] then ([], 1) else if ts.any (fun t => decide (t.length ≠ (ts.headD []).length)) then ([], 16)
  else if len < 0 ∨ len > (ts.flatten.length : Int) then ([], 2)
  else if (ts.flatten.drop len.toNat).all (· == 0) then (ts.flatten.take len.toNat, 0) else ([], 5)
theorem trim_nil (l : List UInt8) : Lib.trimB l 0 = [] ↔ l.all (· == 0) = true := by
  unfold Lib.trimB Lib.trimLeftB Lib.trimRightB
  constructor
  · intro h
    have h1 : ∀ (l : List UInt8), l.dropWhile (· == 0) = [] → ∀ x ∈ l, (x == 0) = true := fun l hl x hx => by
      induction l with
      | nil => cases hx
      | cons a l ih =>
        rw [List.dropWhile_cons] at hl
        split at hl
        · rename_i ha
          rcases List.mem_cons.1 hx with rfl | hx
          · exact ha
          · exact ih hl hx
        · cases hl
    have h2 := h1 _ h
    have h3 : l.reverse.dropWhile (· == 0) = [] := by
      cases hd : l.reverse.dropWhile (· == 0) with
      | nil => rfl
      | cons a r =>
        have h4 := h2 a (by rw [hd]; simp)
        have h5 : (l.reverse.dropWhile (· == 0)).head? = some a := by rw [hd]; rfl
        have h6 := List.head?_dropWhile_not (p := (· == (0 : UInt8))) (l := l.reverse)
        rw [hd] at h6
        simp at h6
        simp at h4
        exact absurd h4 h6
    rw [List.all_eq_true]
    intro x hx
    exact h1 _ h3 x (by simpa using hx)
  · intro h
    rw [List.all_eq_true] at h
    have h1 : ∀ (l : List UInt8), (∀ x ∈ l, (x == 0) = true) → l.dropWhile (· == 0) = [] := fun l hl => by
      induction l with
      | nil => rfl
      | cons a l ih => rw [List.dropWhile_cons, if_pos (hl a (by simp))]; exact ih (fun x hx => hl x (by simp [hx]))
    rw [h1 l.reverse (fun x hx => h x (by simpa using hx))]
    rfl
theorem cl_join (g off n cap c : Nat) (x0 x : List UInt8) (w : World) (hb : w.cell? ⟨c, 0, none⟩ = some (.slice (some ⟨g, off, none⟩) (n + 1) cap)) (h0 : w.cell? ⟨g, off, none⟩ = some (Str x0)) :
    Calls Tryd.prog 16 #[Str x, .pointer (some ⟨c, 0, none⟩)] w fun e w' => e = .returned (.bool (decide (x.length ≠ x0.length))) ∧ ∃ q, w' = w.drewN q := by
  have hp : (0 : Int) < ((n + 1 : Nat) : Int) := by omega
  have hd : ((x.length : Int) != (x0.length : Int)) = decide (x.length ≠ x0.length) := by
    by_cases h : x.length = x0.length
    · simp [h]
    · have : ¬ (x.length : Int) = (x0.length : Int) := by omega
      simp [h, this]
  generalize decide (x.length ≠ x0.length) = d at *
  go_enter Tryd.func16, Tryd.ntmps16
  go_wp2_with fail
  go_ret
  exact ⟨rfl, 0, rfl⟩
theorem map_strs (ts : List (List UInt8)) : (ts.map fun t => (⟨t.toArray⟩ : ByteArray)).map (fun x => x.data.toList) = ts := by
  rw [List.map_map]
  conv => rhs; rw [← List.map_id ts]
  exact List.map_congr_left (fun t _ => by simp)
theorem join_flat (ts : List (List UInt8)) : Lib.join ts [] = ts.flatten := by
  match ts with
  | [] => rfl
  | x :: r =>
    rw [Lib.join_cons]
    unfold Lib.joinTail
    simp
theorem str_beq_c (a b : List UInt8) : ((⟨a.toArray⟩ : ByteArray).toList == (⟨b.toArray⟩ : ByteArray).toList) = decide (a = b) := by
  rw [ByteArray.toList_eq, ByteArray.toList_eq]
  show (a == b) = decide (a = b)
  by_cases h : a = b <;> simp [h]
theorem join_c (B : Nat) (v : Value) (T : List (List UInt8)) (len : Int) (w : World) (h : SlAt B w 9 v (T.map Str)) (hN : T.length ≤ 1000) (hT : T.flatten.length ≤ 1000000) :
    Calls Tryd.prog 12 #[v, .int .i64 len] w fun e w' => e = .returned (.tuple #[Str (joinC T len).1, .int .i64 (joinC T len).2]) ∧ Below w.heap.size w w' := by
  obtain ⟨a, cap, rfl, hc, hm, hcells⟩ := h
  rw [List.length_map] at *
  by_cases hne : T = []
  · subst hne
    have hbx := Blk.new w #[.slice a (([] : List (List UInt8)).length) cap] 23
    obtain ⟨c1, f1, l1⟩ := hbx.facts
    clear hbx
    go_enter Tryd.func12, Tryd.ntmps12
    go_wp2_with fail
    go_ret2
    exact ⟨rfl, (Below.refl _ _).alloc (Nat.le_refl _) _⟩
  · obtain ⟨g, off, rfl, hg, _, hat⟩ := hcells.resolve_left (fun e => hne (List.map_eq_nil_iff.1 e))
    obtain ⟨x0, ts, hTe⟩ : ∃ x0 ts, T = x0 :: ts := by
      cases T with
      | nil => exact absurd rfl hne
      | cons x0 ts => exact ⟨x0, ts, rfl⟩
    have hTl : T.length = ts.length + 1 := by rw [hTe]; rfl
    have hhd : T.headD [] = x0 := by rw [hTe]; rfl
    have hat' : ∀ j (h : j < T.length), w.cell? ⟨g, off + j, none⟩ = some (Str T[j]) := fun j hj => by have := hat j (by simpa using hj); simpa using this
    have h0 : w.cell? ⟨g, off, none⟩ = some (Str x0) := by
      have := hat' 0 (by omega)
      rw [Nat.add_zero] at this
      rw [this]
      simp only [hTe, List.getElem_cons_zero]
    clear hat hTe hcells
    have hbx := Blk.new w #[.slice (some ⟨g, off, none⟩) T.length cap] 23
    have hB1 : Below w.heap.size w (w.alloc (.cells #[.slice (some ⟨g, off, none⟩) T.length cap] 23)) := (Below.refl _ _).alloc (Nat.le_refl _) _
    obtain ⟨c1, f1, l1⟩ := hbx.facts
    have hl0 : ¬ (T.length : Int) = 0 := by omega
    have hlb : ((T.length : Int) == 0) = false := by simp; omega
    have HB1 := Lib.hid hB1
    have HC : ∀ (w1 : World), Below w.heap.size w w1 → Blk w1 w.heap.size #[.slice (some ⟨g, off, none⟩) T.length cap] 23 → Calls Tryd.prog 15 #[.slice (some ⟨g, off, none⟩) T.length cap, .func (.func 16) #[] #[.pointer (some ⟨w.heap.size, 0, none⟩)]] w1 fun e w' => e = .returned (.bool (T.any (fun t => decide (t.length ≠ (T.headD []).length)))) ∧ ∃ q, w' = w1.drewN q := by
      intro w1 hb1 hx1
      have hcon := AnyE.slices_ContainsFunc (α := List UInt8) conLays Str (fun t => decide (t.length ≠ x0.length)) 16 #[.pointer (some ⟨w.heap.size, 0, none⟩)] (enters_of Tryd.func16 (by kernel_rfl) rfl) g off T.length cap T w1
        (fun W x hW => by
          have hx2 := hx1.below hW hx1.lt
          have hg1 : w1.cell? ⟨g, off, none⟩ = some (Str x0) := (hb1.cell (p := ⟨g, off, none⟩) hg).trans h0
          rw [hTl] at hx2
          exact cl_join g off ts.length cap w.heap.size x0 x W (hx2.facts.1 0) ((hW.cell (p := ⟨g, off, none⟩) (Nat.lt_of_lt_of_le hg hb1.size)).trans hg1))
        (Nat.le_refl _) (by omega) (fun j hj => by
          rw [hb1.cell (p := ⟨g, off + j, none⟩) hg, hat' j hj]
          rw [getElem!_pos T j hj])
      rw [List.take_length] at hcon
      rw [hhd]
      exact hcon
    have HJ : ∀ (w1 : World), Below w.heap.size w w1 → Calls Tryd.prog 17 #[.slice (some ⟨g, off, none⟩) T.length cap, .string ⟨#[]⟩] w1 fun e w' => e = .returned (Str T.flatten) ∧ Below w1.heap.size w1 w' := by
      intro w1 hb1
      have := Tryd.strings_Join g off cap (T.map fun t => (⟨t.toArray⟩ : ByteArray)) ⟨#[]⟩ w1
        (fun j x hx => by
          rw [List.getElem?_map] at hx
          obtain ⟨t, ht, rfl⟩ := Option.map_eq_some_iff.1 hx
          obtain ⟨hj, rfl⟩ := List.getElem?_eq_some_iff.1 ht
          rw [hb1.cell (p := ⟨g, off + j, none⟩) hg, hat' j hj])
        (Nat.lt_of_lt_of_le hg hb1.size) (by simp; omega) (by simpa using hc) (by
          rw [map_strs]
          show (Lib.join T []).length ≤ _
          rw [join_flat]
          omega)
      rw [map_strs, List.length_map] at this
      have e2 : (⟨#[]⟩ : ByteArray).data.toList = ([] : List UInt8) := rfl
      rw [e2, join_flat] at this
      exact this
    have eT : joinC T len = if T.any (fun t => decide (t.length ≠ (T.headD []).length)) then ([], 16)
      else if len < 0 ∨ len > (T.flatten.length : Int) then ([], 2)
      else if (T.flatten.drop len.toNat).all (· == 0) then (T.flatten.take len.toNat, 0) else ([], 5) := by
        unfold joinC
        rw [if_neg hne]
    have HCC := Lib.hid HC
    have HJJ := Lib.hid HJ
    have HX := Lib.hid hbx
    have HE := Lib.hid eT
    clear HC HJ hB1 hbx eT hat' h0 hhd hne hTl
    generalize T.any (fun t => decide (t.length ≠ (T.headD []).length)) = bad at *
    generalize T.flatten = F at *
    generalize hJ : joinC T len = J at *
    clear hJ
    generalize T.length = N at *
    cases bad with
    | true =>
      rw [if_pos rfl] at HE
      go_enter Tryd.func12, Tryd.ntmps12
      go_wp2_with fail
      refine (HCC.out _ HB1.out HX.out).mono ?_
      rintro e w1 ⟨rfl, q, rfl⟩
      go_wp2_with fail
      go_ret2
      rw [HE.out]
      exact ⟨rfl, below_drewN HB1.out q⟩
    | false =>
      rw [if_neg (by simp)] at HE
      go_enter Tryd.func12, Tryd.ntmps12
      go_wp2_with fail
      refine (HCC.out _ HB1.out HX.out).mono ?_
      rintro e w1 ⟨rfl, q, hw1⟩
      have hb2 : Below w.heap.size w w1 := by rw [hw1]; exact below_drewN HB1.out q
      have hx2 : Blk w1 w.heap.size #[.slice (some ⟨g, off, none⟩) N cap] 23 := by
        rw [hw1]
        exact HX.out.below (below_drewN (Below.refl _ _) q) HX.out.lt
      clear hw1 c1 f1 l1
      obtain ⟨c2, f2, l2⟩ := hx2.facts
      go_wp2_with fail
      refine (HJJ.out _ hb2).mono ?_
      rintro e w3 ⟨rfl, hb3⟩
      have hb4 : Below w.heap.size w w3 := Below.chain hb3 hb2
      clear c2 f2 l2
      by_cases h1 : len < 0 ∨ len > (F.length : Int)
      · rw [if_pos h1] at HE
        by_cases h2 : len < 0
        · go_wp2_with fail
          go_ret2
          rw [HE.out]
          exact ⟨rfl, hb4⟩
        · have h3 : (F.length : Int) < len := by omega
          go_wp2_with fail
          go_ret2
          rw [HE.out]
          exact ⟨rfl, hb4⟩
      · rw [if_neg h1] at HE
        obtain ⟨L, rfl⟩ : ∃ L : Nat, len = L := ⟨len.toNat, by omega⟩
        have h2 : ¬ (L : Int) < 0 := by omega
        have h3 : ¬ (F.length : Int) < L := by omega
        have h4 : (L : Int) ≤ F.length := by omega
        have ht : Calls Tryd.prog 18 #[.string ((⟨F.toArray⟩ : ByteArray).extract L F.length), .string ⟨#[0]⟩] w3 fun e w' => e = .returned (Str (Lib.trimB (F.drop L) 0)) ∧ (w' = w3 ∨ w' = w3.drew) := by
          have := Tryd.strings_Trim_one ⟨(F.drop L).toArray⟩ 0 (by decide) w3 (by simp [ByteArray.size]; omega)
          rw [ext_list, List.take_length]
          simpa using this
        have HT := Lib.hid ht
        clear ht h1
        go_wp2_with fail
        refine HT.out.mono ?_
        rintro e w4 ⟨rfl, hw4⟩
        have hb5 : Below w.heap.size w w4 := by
          rcases hw4 with rfl | rfl
          · exact hb4
          · exact hb4.drew
        clear hw4
        have hz := str_beq_c (Lib.trimB (F.drop L) 0) []
        have hzn := trim_nil (F.drop L)
        rw [Int.toNat_natCast] at HE
        generalize Lib.trimB (F.drop L) 0 = z at *
        by_cases ha : (F.drop L).all (· == 0) = true
        · rw [if_pos ha] at HE
          obtain rfl : z = [] := hzn.2 ha
          clear hz hzn ha
          go_wp2_with fail
          go_ret2
          rw [HE.out, ext_list]
          exact ⟨rfl, hb5⟩
        · rw [if_neg ha] at HE
          have hz1 : ¬ z = [] := fun e => ha (hzn.1 e)
          have hz2 : z.isEmpty = false := by simpa using hz1
          clear hz hzn ha
          go_wp2_with fail
          go_ret2
          rw [HE.out]
          exact ⟨rfl, hb5⟩
end Go.Proofs.YtibilabhokkhmaaDoor
