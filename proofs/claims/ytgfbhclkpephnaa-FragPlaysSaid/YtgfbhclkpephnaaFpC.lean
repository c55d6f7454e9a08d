/-
  The document's joiner (lightshipref49): at, whole.
-/
import Derived.Test.YtgfbhclkpephnaaFpB
namespace Go.Proofs.Ytgfbhclkpephnaa
open Go Go.RowKit
set_option linter.unusedVariables false
set_option linter.unusedSimpArgs false
set_option maxRecDepth 100000
set_option maxHeartbeats 1000000
def AtA (A : List AE) (id r : Int) : Prop := (∃ (i : Nat) (h : i < A.length), r = (i : Int) ∧ A[i].id = id) ∨ (r = -1 ∧ ∀ q ∈ A, q.id ≠ id)
theorem kw49 (k n : Nat) (hk : k < n) (hn : n ≤ 300) : wrap64 ((k : Int) + 1) = (k : Int) + 1 := IntWalk.wrap64_in _ (by omega)
theorem rat49 (id room : Int) {v : Value} {A : List AE} (w : World) (h : SegA w v A) (hl : A.length ≤ 300) :
    Calls Try.prog 68 #[.agg #[.int .i64 room, v], .int .u32 id] w fun e w' => ∃ r, e = .returned (.int .i64 r) ∧ AtA A id r ∧ Below w.heap.size w w' := by
  obtain ⟨a, cp, rfl⟩ := Seg.form h
  have hB := Below.chainAlloc (Below.refl _ w) (.cells #[.int .i64 room, .slice a A.length cp] 80)
  have hbx := Blk.new w #[.int .i64 room, .slice a A.length cp] 80
  have c1 := hbx.facts.1 1
  have HR := Lib.hid (h.chain hB)
  have HB := Lib.hid hB
  obtain ⟨n, hn⟩ : ∃ n, A.length = n := ⟨_, rfl⟩
  rw [hn] at c1 HR HB hl ⊢
  have HN := Lib.hid hn
  have HL := Lib.hid hl
  clear h hB hbx hn hl
  go_enter Try.func68, Try.ntmps68
  go_wp2_with fail
  generalize w.alloc (.cells #[.int .i64 room, .slice a n cp] 80) = W at *
  generalize hbx : w.heap.size = bx at *
  have HS0 : Hid (∀ j (hj : j < A.length), j < 0 → A[j].id ≠ id) := Lib.hid fun j hj h => absurd h (Nat.not_lt_zero _)
  go_loopw [5] (fun i wr => ∃ k : Nat, k ≤ n ∧ i = .int .i64 (k : Nat) ∧ wr = W ∧ Hid (∀ j (hj : j < A.length), j < k → A[j].id ≠ id)) (fun i _ => n - (intOf i).toNat)
  case atStart => exact ⟨0, Nat.zero_le _, rfl, rfl, HS0⟩
  case round =>
    obtain ⟨k, hk, rfl, rfl, HS⟩ := hrel
    clear HS0
    by_cases hlt : k < n
    · have hlt' : (k : Int) < (n : Int) := Int.ofNat_lt.2 hlt
      have hk0 : (0 : Int) ≤ (k : Int) := by omega
      have HK := Lib.hid hlt
      obtain ⟨g, off, cap, ea, _⟩ := Seg.shape HR.out (by rw [HN.out]; exact Nat.zero_lt_of_lt hlt)
      rw [HN.out] at ea
      cases ea
      have hkl : k < A.length := by rw [HN.out]; exact hlt
      have d0 : wr.cell? ⟨g, off + k * 257, none⟩ = some (.int .u32 A[k].id) := SegA.cell HR.out HN.out k hkl 0 (by decide)
      by_cases hid : A[k].id = id
      · have HI := Lib.hid hid
        have hb : (A[k].id == id) = true := by rw [hid]; simp
        go_wp2_with fail
        go_ret
        subst hbx
        exact ⟨_, rfl, .inl ⟨k, hkl, rfl, HI.out⟩, HB.out⟩
      · have hb : (A[k].id == id) = false := beq_eq_false_iff_ne.2 hid
        have HI := Lib.hid hid
        have hkw := kw49 k n hlt HL.out
        have HS2 : Hid (∀ j (hj : j < A.length), j < k + 1 → A[j].id ≠ id) := Lib.hid fun j hj h => by
          by_cases e : j = k
          · subst e; exact hid
          · exact HS.out j hj (by omega)
        go_wp2_with fail
        go_roundw
        case measure => rw [hkw]; clear hkw; have := HK.out; simp [intOf]; omega
        case rel => exact ⟨k + 1, HK.out, by rw [hkw]; clear hkw; go_num, by first | rfl | trivial, HS2⟩
    · obtain rfl : k = n := Nat.le_antisymm hk (Nat.le_of_not_lt hlt)
      have hlt' : ¬ (k : Int) < (k : Int) := Int.lt_irrefl _
      clear hk hlt
      go_wp2_with fail
      go_ret
      subst hbx
      refine ⟨_, rfl, .inr ⟨rfl, fun q hq => ?_⟩, HB.out⟩
      obtain ⟨j, hj, rfl⟩ := List.getElem_of_mem hq
      exact HS.out j hj (by rw [← HN.out]; exact hj)
/-- Is each of the first n parts there? -/
def allP (ps : List (Int × List UInt8)) (n : Nat) : Prop := ∀ k : Nat, k < n → (getP (k : Int) ps).getD [] ≠ []
def WholeR (ps : List (Int × List UInt8)) (n : Nat) (e : Ending) : Prop := (allP ps n ∧ e = .returned (.tuple #[Str (textF ps n), .bool true])) ∨ (¬ allP ps n ∧ e = .returned (.tuple #[Str [], .bool false]))
theorem rwhole49 (id : Int) (n : Nat) (ps : List (Int × List UInt8)) (w : World) (hn2 : n ≤ 255) (hl : ∀ k, ((getP k ps).getD []).length ≤ 100000) :
    Calls Try.prog 69 #[.agg (rowA ⟨id, (n : Nat), ps⟩).toArray] w fun e w' => WholeR ps n e ∧ Below w.heap.size w w' := by
  have HL := Lib.hid hl
  have HT := Lib.hid (textF_len hl)
  have hbx := Blk.new w (rowA ⟨id, (n : Nat), ps⟩).toArray tE
  have HB := Lib.hid (Below.chainAlloc (Below.refl _ w) (.cells (rowA ⟨id, (n : Nat), ps⟩).toArray tE))
  have c1 : (w.alloc (.cells (rowA ⟨id, (n : Nat), ps⟩).toArray tE)).cell? ⟨w.heap.size, 1, none⟩ = some (.int .i64 (n : Nat)) := hbx.facts.1 1
  have HC : Hid (∀ p : Nat, p < 255 → (w.alloc (.cells (rowA ⟨id, (n : Nat), ps⟩).toArray tE)).cell? ⟨w.heap.size, 2 + p, none⟩ = some (Str ((getP (p : Int) ps).getD []))) := Lib.hid fun p hp => by
    rw [hbx.facts.1 (2 + p)]
    show (rowA _).toArray[2 + p]? = _
    rw [List.getElem?_toArray]
    exact rowA_at _ p hp
  clear hl hbx
  generalize hcs : (rowA ⟨id, (n : Nat), ps⟩).toArray = cs at *
  clear hcs
  go_enter Try.func69, Try.ntmps69
  go_wp2_with fail
  generalize w.alloc (.cells cs tE) = W at *
  generalize hbx : w.heap.size = bx at *
  have HS0 : Hid (allP ps 0) := Lib.hid fun k h => absurd h (Nat.not_lt_zero _)
  go_loopw [4, 5] (fun s i wr => ∃ k : Nat, k ≤ n ∧ s = Str (textF ps k) ∧ i = .int .i64 (k : Nat) ∧ wr = W ∧ Hid (allP ps k)) (fun _ i _ => n - (intOf i).toNat)
  case atStart => exact ⟨0, Nat.zero_le _, rfl, rfl, rfl, HS0⟩
  case round =>
    obtain ⟨k, hk, rfl, rfl, rfl, HS⟩ := hrel
    clear HS0
    by_cases hlt : k < n
    · have hlt' : (k : Int) < (n : Int) := Int.ofNat_lt.2 hlt
      have hk0 : (0 : Int) ≤ (k : Int) := by omega
      have hk1 : (k : Int) < 255 := by omega
      have HK := Lib.hid hlt
      have HN2 := Lib.hid hn2
      have d0 := HC.out k (by omega)
      have h1 := HL.out (k : Int)
      have h2 := HT.out k
      have HTX : Hid (textF ps k ++ (getP (k : Int) ps).getD [] = textF ps (k + 1)) := Lib.hid rfl
      by_cases hx : (getP (k : Int) ps).getD [] = []
      · rw [hx] at d0
        go_wp2_with fail
        go_ret2
        subst hbx
        exact ⟨.inr ⟨fun h => h k HK.out hx, rfl⟩, HB.out⟩
      · have HX := Lib.hid hx
        generalize hX : (getP (k : Int) ps).getD [] = X at *
        have HGX := Lib.hid hX
        have hkw := kw49 k n hlt (by omega)
        have hxe : X.isEmpty = false := by cases X <;> simp_all
        clear hX hn2
        have HS2 : Hid (allP ps (k + 1)) := Lib.hid fun j hj => by
          by_cases e : j = k
          · subst e; rw [HGX.out]; exact HX.out
          · exact HS.out j (by omega)
        go_wp2_with fail
        refine ⟨⟨k + 1, HK.out, ?_, by go_num, trivial, HS2⟩, by have := HK.out; simp [intOf]; omega⟩
        rw [← HTX.out]
        refine congrArg Value.string (ByteArray.ext ?_)
        simp
    · obtain rfl : k = n := Nat.le_antisymm hk (Nat.le_of_not_lt hlt)
      have hlt' : ¬ (k : Int) < (k : Int) := Int.lt_irrefl _
      clear hk hlt
      go_wp2_with fail
      go_ret2
      subst hbx
      exact ⟨.inl ⟨HS.out, rfl⟩, HB.out⟩
end Go.Proofs.Ytgfbhclkpephnaa
