/-
  Arguments that are tables of bytes: opened for the walks.
-/
import Derived.Test.YtibilabhokkhmaaFlat
import Derived.Test.YtibilabhokkhmaaMx19
namespace Go.Proofs.Ytibilabhokkhmaa
open Go.ChangeShapes Go.WideShapes Go.ChangeAt Go.RowKit
set_option linter.unusedVariables false
theorem u8_nat {z : Int} (h : (Lit.int .u8 z).wf = true) : 0 ≤ z ∧ z ≤ 255 := by
  simpa [Lit.wf, IntKind.min, IntKind.max, IntKind.signed, IntKind.bits] using h
theorem u8s_toNat : ∀ zs : List Int, (∀ z ∈ zs, (Lit.int .u8 z).wf = true) → u8s (zs.map Int.toNat) = zs.map (Value.int .u8)
  | [], _ => rfl
  | z :: zs, h => by
    have h0 := u8_nat (h z (by simp))
    have ih := u8s_toNat zs (fun y hy => h y (by simp [hy]))
    simp only [u8s, List.map_cons] at ih ⊢
    rw [ih, Int.toNat_of_nonneg h0.1]
theorem IsInts.row {w : World} {a : Option Addr} {len cap : Nat} {zs : List Int} (h : IsInts .u8 w a len cap zs) : (zs.map Int.toNat).length = len ∧ RowAt w.heap.size w (.slice a len cap) (zs.map Int.toNat) := by
  obtain ⟨h1, h2, h3, h4, h5⟩ := h
  subst h1
  refine ⟨by simp, ⟨?_, fun x hx => ?_⟩⟩
  · rw [u8s_toNat zs h4]
    refine ⟨a, cap, by simp, by simpa using h2, h3, ?_⟩
    rcases h5 with h5 | ⟨b, off, ha, hb, hc⟩
    · exact .inl (by simp [List.eq_nil_of_length_eq_zero h5])
    · exact .inr ⟨b, off, ha, hb, .inl hb, fun j hj => by rw [hc j (by simpa using hj)]; simp⟩
  · obtain ⟨z, hz, rfl⟩ := List.mem_map.1 hx
    have := u8_nat (h4 z hz)
    omega
theorem open_row {H : Type} {enc : TypeId × Value → H} {W : World} {b : Nat} {sp : Nat → Bool} {hd : Bool} {m : Nat} {cs : List Value} {x : DataW H × List MemPlace} (h : DataW.trod enc Try.prog W b sp hd m 24 cs = some x) :
    ∃ r : Value × List Nat, cs = [r.1] ∧ RowAt W.heap.size W r.1 r.2 := by
  have key : ∀ a len cap d p, DataW.Trod enc Try.prog W b sp hd 24 (.slice a len cap) d p → ∃ bs, RowAt W.heap.size W (.slice a len cap) bs := fun a len cap d p h => by
    obtain ⟨zs, hz⟩ := open_intsl (k := .u8) Try.underlying24 Try.underlying5 (by kernel_rfl) h
    exact ⟨_, hz.row.2⟩
  rcases DataW.trod_slice Try.underlying24 h with ⟨rfl, _⟩ | ⟨a, len, cap, _, _, _, _, rfl, _⟩
  · obtain ⟨bs, hb⟩ := key none 0 0 _ _ ⟨m, h⟩
    exact ⟨(_, bs), rfl, hb⟩
  · obtain ⟨bs, hb⟩ := key _ _ _ _ _ ⟨m, h⟩
    exact ⟨(_, bs), rfl, hb⟩
theorem open_mat {H : Type} {enc : TypeId × Value → H} {W : World} {b : Nat} {sp : Nat → Bool} {hd : Bool} {a : Option Addr} {len cap : Nat} {d : DataW H} {p : List MemPlace} (h : DataW.Trod enc Try.prog W b sp hd 30 (.slice a len cap) d p) :
    ∃ rows : Tab, rows.length = len ∧ MatAt W.heap.size W (.slice a len cap) rows := by
  obtain ⟨ds, ⟨h1, h2, h3, h4⟩, hg⟩ := open_rows (α := Value × List Nat) 1 (fun r => [r.1]) (fun r => RowAt W.heap.size W r.1 r.2) Try.underlying30 (by kernel_rfl) (by decide) h (fun cs m x hx => open_row hx)
  subst h1
  refine ⟨ds.map Prod.snd, by simp, ds.map Prod.fst, by simp, ⟨a, cap, by simp, by simpa using h2, h3, ?_⟩, fun i hi hi' => ?_⟩
  · rcases h4 with h4 | ⟨g, off, ha, hg', hc⟩
    · exact .inl (by simp [List.eq_nil_of_length_eq_zero h4])
    · refine .inr ⟨g, off, ha, hg', .inl hg', fun j hj => ?_⟩
      have := hc j (by simpa using hj) 0 (by decide)
      simpa using this
  · simp only [List.getElem_map]
    exact hg _ (by simp)
/-- The law's calls that come first, then its example. -/
def Yes (w : World) (e : Ending) (w' : World) : Prop := e = .returned (.bool true) ∧ Below w.heap.size w w'
end Go.Proofs.Ytibilabhokkhmaa
