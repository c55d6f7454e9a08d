/-
  Stats: numbers in order: plain; the least and the greatest of any (chapter 51).
-/
import Derived.Test.YtdjjienklfbalaaSta3
namespace Go.Proofs.Ytdjjienklfbalaa
open Go.RowKit
set_option linter.unusedVariables false
set_option maxRecDepth 100000
set_option maxHeartbeats 1000000
theorem ins_mem {zs : List Int} {x z : Int} : z ∈ insZ zs x ↔ z = x ∨ z ∈ zs := by
  unfold insZ
  rw [List.mem_append, List.mem_cons]
  constructor
  · rintro (h | h | h)
    · exact .inr (List.mem_of_mem_take h)
    · exact .inl h
    · exact .inr (List.mem_of_mem_drop h)
  · rintro (h | h)
    · exact .inr (.inl h)
    · rw [← List.take_append_drop (zs.countP (· < x)) zs, List.mem_append] at h
      exact h.imp id .inr
theorem insZ_cons (a : Int) (zs : List Int) (x : Int) (ho : (a :: zs).Pairwise (· ≤ ·)) : insZ (a :: zs) x = if a < x then a :: insZ zs x else x :: a :: zs := by
  unfold insZ
  by_cases h : a < x
  · rw [if_pos h, List.countP_cons_of_pos (by simpa using h)]
    simp
  · rw [if_neg h]
    have e : (a :: zs).countP (· < x) = 0 := by
      rw [List.countP_eq_zero]
      intro y hy
      rw [List.pairwise_cons] at ho
      rcases List.mem_cons.1 hy with rfl | hy
      · simpa using h
      · have := ho.1 y hy
        simp
        omega
    rw [e]
    simp
theorem insZ_sorted : ∀ (zs : List Int) (x : Int), zs.Pairwise (· ≤ ·) → (insZ zs x).Pairwise (· ≤ ·)
  | [], x, _ => by simp [insZ]
  | a :: zs, x, ho => by
    rw [insZ_cons a zs x ho]
    have ho' := List.pairwise_cons.1 ho
    by_cases h : a < x
    · rw [if_pos h, List.pairwise_cons]
      refine ⟨fun y hy => ?_, insZ_sorted zs x ho'.2⟩
      rcases ins_mem.1 hy with rfl | hy
      · omega
      · exact ho'.1 y hy
    · rw [if_neg h, List.pairwise_cons]
      refine ⟨fun y hy => ?_, ho⟩
      rcases List.mem_cons.1 hy with rfl | hy
      · omega
      · have := ho'.1 y hy; omega
theorem atZ_mono {zs : List Int} (ho : zs.Pairwise (· ≤ ·)) {i k : Nat} (hik : i ≤ k) (hk : k < zs.length) : atZ zs i ≤ atZ zs k := by
  unfold atZ
  have hi : i < zs.length := by omega
  have e1 : zs.getD k 0 = zs[k] := by simp [hk]
  have e2 : zs.getD i 0 = zs[i] := by simp [hi]
  rw [e1, e2]
  by_cases h : i = k
  · subst h; exact Int.le_refl _
  · exact List.pairwise_iff_getElem.1 ho i k (by omega) hk (by omega)
theorem partAt_mono (p : Int) (n : Nat) (hp : 1 ≤ p) : partAt p n ≤ partAt (p + 1) n := by
  unfold partAt
  have : (p + 1) * (n : Int) = p * n + n := by rw [Int.add_mul, Int.one_mul]
  omega
theorem partAt_100 {n : Nat} (h : 0 < n) : partAt 100 n = n - 1 := by
  unfold partAt
  omega
theorem part_e (b : Nat) (sum : Int) (fv : Value) (w : World) (h : St w b [] sum) : Calls Try.prog 107 #[.pointer (some ⟨b, 0, none⟩), fv] w fun e w' => e = .returned (.int .i64 0) ∧ w' = w := by
  have HL := Lib.hid (len_st b [] sum w h)
  go_enter Try.func107, Try.ntmps107
  go_wp2_with fail
  refine HL.out.mono ?_
  rintro e w1 ⟨rfl, rfl⟩
  simp only [List.length_nil]
  go_wp2_with fail
  go_ret
  exact ⟨rfl, rfl⟩
theorem least_any (b : Nat) (zs : List Int) (sum : Int) (hl : zs.length < 100000) (w : World) (h : St w b zs sum) : Calls Try.prog 57 #[.pointer (some ⟨b, 0, none⟩)] w fun e w' => e = .returned (.int .i64 (atZ zs 0)) ∧ Below w.heap.size w w' := by
  by_cases hz : zs = []
  · subst hz
    have H := Lib.hid (fun fv => part_e b sum fv w h)
    go_enter Try.func57, Try.ntmps57
    go_wp2_with fail
    refine (H.out _).mono ?_
    rintro e w1 ⟨rfl, rfl⟩
    go_wp2_with fail
    go_ret
    exact ⟨rfl, Below.refl _ _⟩
  · exact least_st b zs sum hl (List.length_pos_iff.2 hz) w h
theorem most_any (b : Nat) (zs : List Int) (sum : Int) (hl : zs.length < 100000) (w : World) (h : St w b zs sum) : Calls Try.prog 58 #[.pointer (some ⟨b, 0, none⟩)] w fun e w' => e = .returned (.int .i64 (atZ zs (zs.length - 1))) ∧ Below w.heap.size w w' := by
  by_cases hz : zs = []
  · subst hz
    have H := Lib.hid (fun fv => part_e b sum fv w h)
    go_enter Try.func58, Try.ntmps58
    go_wp2_with fail
    refine (H.out _).mono ?_
    rintro e w1 ⟨rfl, rfl⟩
    go_wp2_with fail
    go_ret
    exact ⟨rfl, Below.refl _ _⟩
  · exact most_st b zs sum hl (List.length_pos_iff.2 hz) w h
theorem part_any (b : Nat) (zs : List Int) (sum p : Int) (hp0 : 1 ≤ p) (hp1 : p ≤ 100) (hl : zs.length < 100000) (w : World) (h : St w b zs sum) : Calls Try.prog 56 #[.pointer (some ⟨b, 0, none⟩), .int .i64 p] w fun e w' => (∃ r, e = .returned (.tuple #[.int .i64 (atZ zs (partAt p zs.length)), .int .i64 r])) ∧ Below w.heap.size w w' := by
  by_cases hz : zs = []
  · subst hz
    refine (pt_none b sum p hp0 hp1 w h).mono ?_
    rintro e w' ⟨rfl, hb⟩
    exact ⟨⟨7, rfl⟩, hb⟩
  · refine (part_st b zs sum p hp0 hp1 hl (List.length_pos_iff.2 hz) w h).mono ?_
    rintro e w' ⟨rfl, hb⟩
    exact ⟨⟨0, rfl⟩, hb⟩
/-- A part lies between the least and the greatest, and not below the part ahead. -/
theorem part_order {zs : List Int} (ho : zs.Pairwise (· ≤ ·)) {p : Int} (hp0 : 1 ≤ p) (hp1 : p ≤ 100) : atZ zs 0 ≤ atZ zs (partAt p zs.length) ∧ atZ zs (partAt p zs.length) ≤ atZ zs (zs.length - 1) ∧ (1 < p → atZ zs (partAt (p - 1) zs.length) ≤ atZ zs (partAt p zs.length)) := by
  by_cases hz : zs = []
  · subst hz
    simp [atZ]
  · have hn := List.length_pos_iff.2 hz
    have h1 := (partAt_lt hp0 hp1 hn).1
    refine ⟨atZ_mono ho (Nat.zero_le _) h1, atZ_mono ho (by omega) (by omega), fun h => atZ_mono ho ?_ h1⟩
    have := partAt_mono (p - 1) zs.length (by omega)
    rw [show p - 1 + 1 = p by omega] at this
    exact this
end Go.Proofs.Ytdjjienklfbalaa
