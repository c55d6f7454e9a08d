/-
  Blocks that were sent: find, Body (chapter 22).
-/
import Derived.Test.YtgfbhclkpephnaaFl1
namespace Go.Proofs.Ytgfbhclkpephnaa
open Go Go.RowKit
set_option linter.unusedVariables false
set_option linter.unusedSimpArgs false
set_option maxRecDepth 100000
set_option maxHeartbeats 1000000
theorem FlM.row {w : World} {B bf g off c : Nat} {b z : Int} {L : List FB} {n : Nat} (h : FlM w B bf b z (.slice (some ⟨g, off, none⟩) n c) L) (hn : n = L.length) (i : Nat) (hi : i < L.length) : w.cell? ⟨g, off + i * 3, none⟩ = some (Str L[i].body) ∧ w.cell? ⟨g, off + i * 3 + 1, none⟩ = some (.int .i64 L[i].n) ∧ w.cell? ⟨g, off + i * 3 + 2, none⟩ = some (.int .i64 L[i].at') := by
  subst hn
  have h0 := h.s.at (i * 3) (by omega)
  have h1 := h.s.at (i * 3 + 1) (by omega)
  have h2 := h.s.at (i * 3 + 2) (by omega)
  rw [fbC_get L i 1 hi (by omega)] at h1
  rw [fbC_get L i 2 hi (by omega)] at h2
  have h0' := fbC_get L i 0 hi (by omega)
  rw [Nat.add_zero] at h0'
  rw [h0'] at h0
  exact ⟨h0, h1, h2⟩
theorem flfind_ok (x : Int) {w : World} {B bf g off c : Nat} {b z : Int} {L : List FB} (h : FlM w B bf b z (.slice (some ⟨g, off, none⟩) L.length c) L) (i : Nat) (hi : i < L.length) (hx : ahead b x = (i : Int)) : Calls Try.prog 55 #[.pointer (some ⟨bf, 0, none⟩), .int .u32 x] w fun e w' => e = .returned (.pointer (some ⟨g, off + i * 3, none⟩)) ∧ Below w.heap.size w w' := by
  have H1 : Hid (∀ w', Calls Try.prog 84 #[.int .u32 x, .int .u32 b, .int .i64 (L.length : Nat)] w' fun e w'' => e = .returned (.bool true) ∧ w'' = w') := Lib.hid fun w' => by
    refine (within_any x b (L.length : Nat) w').mono ?_
    rintro e w'' ⟨rfl, rfl⟩
    refine ⟨?_, rfl⟩
    rw [hx, decide_eq_true (by omega : (0 : Int) ≤ (i : Int)), decide_eq_true (Int.ofNat_lt.2 hi)]
    rfl
  have H2 : Hid (∀ w', Calls Try.prog 57 #[.int .u32 b, .int .u32 x] w' fun e w'' => e = .returned (.int .i64 (i : Nat)) ∧ w'' = w') := Lib.hid fun w' => by
    refine (ahead_any b x w').mono ?_
    rintro e w'' ⟨rfl, rfl⟩
    exact ⟨by rw [hx], rfl⟩
  have HK := Lib.hid h.k
  have c0 := h.k.facts.1 0
  have c2 := h.k.facts.1 2
  have hi0 : (0 : Int) ≤ (i : Int) := by omega
  have hii : (i : Int) < (L.length : Int) := Int.ofNat_lt.2 hi
  clear h hx hi
  go_enter Try.func55, Try.ntmps55
  go_upto_region 1 with fail
  refine wp_region_quiet_lit (by kernel_rfl) (by kernel_rfl) ?_
  repeat (first | go_big_quiet_step (exact Calls.quiet_of_same (H1.out _)) | quiet_step (exact Calls.quiet_of_same (H1.out _)))
  refine wpQuiet_nil ?_
  intro _ hw'
  obtain ⟨nq, hw''⟩ := hw'
  subst hw''
  have hb1 := below_drewN (Below.refl w.heap.size w) nq
  have HB1 := Lib.hid hb1
  have k1 := HK.out.below hb1 HK.out.lt
  have d0 := k1.facts.1 0
  have d2 := k1.facts.1 2
  clear c0 c2 hb1 k1
  generalize w.drewN nq = w1 at *
  go_upto_region 3 with fail
  refine wp_region_quiet_lit (by kernel_rfl) (by kernel_rfl) ?_
  repeat (first | go_big_quiet_step (exact Calls.quiet_of_same (H2.out _)) | quiet_step (exact Calls.quiet_of_same (H2.out _)))
  refine wpQuiet_nil ?_
  intro _ hw'
  obtain ⟨nq, hw''⟩ := hw'
  subst hw''
  have HB2 := Lib.hid (below_drewN HB1.out nq)
  clear d0 d2
  generalize w1.drewN nq = w2 at *
  go_wp2_with fail
  go_ret
  exact ⟨rfl, HB2.out⟩
theorem flbody_ok (x : Int) {w : World} {B bf g off c : Nat} {b z : Int} {L : List FB} (h : FlM w B bf b z (.slice (some ⟨g, off, none⟩) L.length c) L) (i : Nat) (hi : i < L.length) (hx : ahead b x = (i : Int)) : Calls Try.prog 24 #[.pointer (some ⟨bf, 0, none⟩), .int .u32 x] w fun e w' => e = .returned (.tuple #[Str L[i].body, .int .i64 L[i].n, .bool true]) ∧ Below w.heap.size w w' := by
  have HF := Lib.hid (flfind_ok x h i hi hx)
  have HR : Hid (∀ w', Below w.heap.size w w' → w'.cell? ⟨g, off + i * 3, none⟩ = some (Str L[i].body) ∧ w'.cell? ⟨g, off + i * 3 + 1, none⟩ = some (.int .i64 L[i].n) ∧ w'.cell? ⟨g, off + i * 3 + 2, none⟩ = some (.int .i64 L[i].at')) := Lib.hid fun w' hb => (h.chain hb).row rfl i hi
  generalize L[i] = y at *
  clear h hx
  go_enter Try.func24, Try.ntmps24
  go_wp2_with fail
  refine HF.out.mono ?_
  rintro e w1 ⟨rfl, hb⟩
  obtain ⟨d0, d1, d2⟩ := HR.out _ hb
  have HB1 := Lib.hid hb
  clear hb
  go_upto_region 4 with fail
  go_region
  go_wp2_with fail
  exact bodyPost_ret (v := .tuple #[Str y.body, .int .i64 y.n, .bool true]) (by simp [results, Try.results24, go_sem]) rfl ⟨rfl, HB1.out.drew⟩
end Go.Proofs.Ytgfbhclkpephnaa
