/-
  The law RsBack returns true for all data, every number of shards more, and every list of shards' numbers. No condition.
-/
import Derived.Test.YtibilabhokkhmaaRsB2
import Derived.Test.YtibilabhokkhmaaFlat
import Derived.Test.YtibilabhokkhmaaLift2
namespace Go.Proofs.Ytibilabhokkhmaa
open Go.ChangeShapes Go.WideShapes Go.ChangeAt Go.RowKit
set_option linter.unusedVariables false
set_option maxRecDepth 100000
theorem u8_nat5 {z : Int} (h : (Lit.int .u8 z).wf = true) : 0 ≤ z ∧ z ≤ 255 := by
  simpa [Lit.wf, IntKind.min, IntKind.max, IntKind.signed, IntKind.bits] using h
theorem u8s_toNat5 : ∀ zs : List Int, (∀ z ∈ zs, (Lit.int .u8 z).wf = true) → u8s (zs.map Int.toNat) = zs.map (Value.int .u8)
  | [], _ => rfl
  | z :: zs, h => by
    have h0 := u8_nat5 (h z (by simp))
    have ih := u8s_toNat5 zs (fun y hy => h y (by simp [hy]))
    simp only [u8s, List.map_cons] at ih ⊢
    rw [ih, Int.toNat_of_nonneg h0.1]
theorem IsInts.row5 {w : World} {a : Option Addr} {len cap : Nat} {zs : List Int} (h : IsInts .u8 w a len cap zs) : (zs.map Int.toNat).length = len ∧ RowAt w.heap.size w (.slice a len cap) (zs.map Int.toNat) := by
  obtain ⟨h1, h2, h3, h4, h5⟩ := h
  subst h1
  refine ⟨by simp, ⟨?_, fun x hx => ?_⟩⟩
  · rw [u8s_toNat5 zs h4]
    refine ⟨a, cap, by simp, by simpa using h2, h3, ?_⟩
    rcases h5 with h5 | ⟨b, off, ha, hb, hc⟩
    · exact .inl (by simp [List.eq_nil_of_length_eq_zero h5])
    · exact .inr ⟨b, off, ha, hb, .inl hb, fun j hj => by rw [hc j (by simpa using hj)]; simp⟩
  · obtain ⟨z, hz, rfl⟩ := List.mem_map.1 hx
    have := u8_nat5 (h4 z hz)
    omega
namespace rsBack
theorem own : ownKnob Try.prog.godebug = none := by kernel_rfl
theorem laidOut : laidOutB Try.prog = true := by kernel_rfl
set_option maxRecDepth 100000 in
theorem lifted (os : Os) (started : os.Started) (H : Type) (enc : TypeId × Value → H) :
    ReturnsInHanded {} Try.checked os 11 .any (Rows.rsBackSpec.pre6 enc Try.prog Try.f11 Rows.rsBackRow.domain false) (Rows.rsBackSpec.post enc Try.prog Try.f11 false true false false) := by
  refine law_lift (C := Try.checked) (tb := 4) own started (by kernel_rfl) Try.func11 laidOut rfl Try.underlying4 rfl (by kernel_rfl) (fun ds h => by match ds, h with | [d1, d2, d3], _ => rfl)
    (ChangeSpec.witness6 (enc := enc) (C := Try.checked) false ⟨#[], #[.slice none 0 0, .int .u8 0, .slice none 0 0], []⟩ 8 (by kernel_rfl) (by kernel_rfl) (by kernel_rfl) (by kernel_rfl)) ?_
  intro W base args ds ps hval hA
  rw [Try.params11] at hA hval
  obtain ⟨v0, v1, v2, d0, d1, d2, p0, p1, p2, rfl, rfl, rfl, h0, h1, h2⟩ := trodAll_three hA
  obtain ⟨at', nt, ct, rfl⟩ := okWide_slice Try.underlying60 (hval 0 60 v0 rfl rfl)
  obtain ⟨ts, rfl, wt, _⟩ := open_strs h0
  obtain ⟨k, rfl, rfl, rfl, wk⟩ := open_int Try.underlying5 (hval 1 5 v1 rfl rfl) h1
  replace wk := by simpa [Lit.wf, IntKind.min, IntKind.max, IntKind.signed, IntKind.bits] using wk
  obtain ⟨al, nl, cl, rfl⟩ := okWide_slice Try.underlying24 (hval 2 24 v2 rfl rfl)
  obtain ⟨l, wl⟩ := open_intsl (k := .u8) Try.underlying24 Try.underlying5 (by kernel_rfl) h2
  obtain ⟨m, rfl⟩ := Int.eq_ofNat_of_zero_le wk.1
  exact back5_walk _ _ _ _ ts _ m (by omega) W wt wl.row5.2
theorem proved : Rows.RsBackSaid :=
  OpenClaim.holds_of_wide 11 Try.f11 rfl rfl rfl rfl rfl rfl rfl ⟨rfl, rfl, rfl, rfl, rfl⟩ rfl rfl rfl rfl rfl (by kernel_rfl) Try.func11 (by kernel_rfl)
    (of_decide_eq_true (by kernel_rfl)) (by unfold Func.isWrapper; first | (rw [if_pos (by decide +kernel)]; kernel_rfl) | (rw [if_neg (by decide +kernel)]; exact ⟨rfl, rfl⟩))
    (fun os started H enc _ => lifted os started H enc)
end rsBack
#print axioms rsBack.proved
end Go.Proofs.Ytibilabhokkhmaa
