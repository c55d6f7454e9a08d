/-
  Blocks that were sent: memory; New, Next, Base, Len, bad, find, Body (chapter 22).
-/
import Derived.Test.YtgfbhclkpephnaaSer
namespace Go.Proofs.Ytgfbhclkpephnaa
open Go Go.RowKit
set_option linter.unusedVariables false
set_option linter.unusedSimpArgs false
set_option maxRecDepth 100000
set_option maxHeartbeats 1000000
theorem Seg.heap' {w : World} {base size n : Nat} {e : TypeId} {v : Value} {xs : List Value} (h : Seg w base e size v n xs) {g : Nat} (hg : v.ownBlock = some g) : ∃ cur, w.heap[g]? = some (.cells cur e (0, 0)) := by
  rcases h.2 with ⟨hv, _⟩ | ⟨g', off, cap, cur, hv, hb, hh, _⟩
  · rw [hv] at hg; cases hg
  · rw [hv] at hg
    obtain rfl : g' = g := by simpa [Value.ownBlock] using hg
    exact ⟨cur, hh⟩
theorem Seg.ne_blk' {w : World} {base size n : Nat} {e t : TypeId} {v : Value} {xs : List Value} {b : Nat} {cs : Array Value} (h : Seg w base e size v n xs) (hb : Blk w b cs t) (hn : e ≠ t) : ∀ g, v.ownBlock = some g → g ≠ b := fun g hg hgb => by
  obtain ⟨cur, hc⟩ := h.heap' hg
  unfold Blk at hb
  rw [hgb, hb] at hc
  cases hc
  exact hn rfl
/-- A block: its bytes, how many shards, when it was sent. -/
structure FB where
  body : List UInt8
  n : Int
  at' : Int
def FB.vals (x : FB) : List Value := [Str x.body, .int .i64 x.n, .int .i64 x.at']
def fbC (l : List FB) : List Value := l.flatMap FB.vals
theorem fbC_len : ∀ l : List FB, (fbC l).length = l.length * 3
  | [] => rfl
  | x :: l => by
    have := fbC_len l
    show (FB.vals x ++ fbC l).length = _
    rw [List.length_append, this]
    simp [FB.vals]
    omega
theorem fbC_get : ∀ (l : List FB) (i j : Nat) (hi : i < l.length) (hj : j < 3), (fbC l)[i * 3 + j]? = (l[i]).vals[j]?
  | x :: l, 0, j, _, hj => by
    show (FB.vals x ++ fbC l)[0 * 3 + j]? = _
    rw [List.getElem?_append_left (by simp [FB.vals]; omega)]
    simp
  | x :: l, i + 1, j, hi, hj => by
    show (FB.vals x ++ fbC l)[(i + 1) * 3 + j]? = _
    rw [List.getElem?_append_right (by simp [FB.vals]; omega), show (i + 1) * 3 + j - (FB.vals x).length = i * 3 + j by simp [FB.vals]; omega, fbC_get l i j (by simpa using hi) hj]
    simp
/-- A flight in memory. -/
structure FlM (w : World) (B bf : Nat) (b z : Int) (v : Value) (L : List FB) : Prop where
  k : Blk w bf #[.int .u32 b, .int .i64 z, v] 117
  s : Seg w B 119 3 v L.length (fbC L)
theorem FlM.chain {w w' : World} {B bf : Nat} {b z : Int} {v : Value} {L : List FB} (h : FlM w B bf b z v L) (hb : Below w.heap.size w w') : FlM w' B bf b z v L := ⟨h.k.below hb h.k.lt, h.s.chain hb⟩
theorem flnew_ok (b z : Int) (h1 : 1 ≤ z) (h2 : z ≤ 64) (w : World) : Calls Try.prog 61 #[.int .u32 b, .int .i64 z] w fun e w' => e = .returned (.tuple #[.pointer (some ⟨w.heap.size, 0, none⟩), .int .i64 0]) ∧ FlM w' (w.heap.size + 1) w.heap.size b z (.slice none 0 0) [] ∧ Below w.heap.size w w' := by
  have h3 : ¬ z < 1 := by omega
  have h4 : ¬ 64 < z := by omega
  have HK := Lib.hid (Blk.new w #[.int .u32 b, .int .i64 z, .slice none 0 0] 117)
  have HB := Lib.hid (Below.chainAlloc (Below.refl _ w) (.cells #[.int .u32 b, .int .i64 z, .slice none 0 0] 117))
  go_enter Try.func61, Try.ntmps61
  go_wp2_with fail
  go_ret2
  exact ⟨rfl, ⟨HK.out, Seg.nil _ _ _ _⟩, HB.out⟩
theorem flnew_bad (b : Int) (w : World) : Calls Try.prog 61 #[.int .u32 b, .int .i64 0] w fun e w' => e = .returned (.tuple #[.pointer none, .int .i64 1]) ∧ w' = w := by
  go_enter Try.func61, Try.ntmps61
  go_wp2_with fail
  go_ret2
  exact ⟨rfl, rfl⟩
theorem flnext_any {w : World} {B bf : Nat} {b z : Int} {v : Value} {L : List FB} (h : FlM w B bf b z v L) (hl : L.length ≤ 64) : Calls Try.prog 28 #[.pointer (some ⟨bf, 0, none⟩)] w fun e w' => e = .returned (.int .u32 ((b + (L.length : Int)) % 4294967296)) ∧ Below w.heap.size w w' := by
  obtain ⟨a, c, rfl⟩ := h.s.form
  have c0 := h.k.facts.1 0
  have c2 := h.k.facts.1 2
  have hm : ((L.length : Nat) : Int) % 4294967296 = (L.length : Int) := by omega
  have HM := Lib.hid hm
  clear h
  go_enter Try.func28, Try.ntmps28
  go_wp2_with fail
  go_region
  go_wp2_with fail
  go_ret
  exact ⟨rfl, (Below.refl _ _).drew⟩
theorem flbase_any {w : World} {B bf : Nat} {b z : Int} {v : Value} {L : List FB} (h : FlM w B bf b z v L) : Calls Try.prog 29 #[.pointer (some ⟨bf, 0, none⟩)] w fun e w' => e = .returned (.int .u32 b) ∧ w' = w := by
  have c0 := h.k.facts.1 0
  clear h
  go_enter Try.func29, Try.ntmps29
  go_wp2_with fail
  go_ret
  exact ⟨rfl, rfl⟩
theorem fllen_any {w : World} {B bf : Nat} {b z : Int} {v : Value} {L : List FB} (h : FlM w B bf b z v L) : Calls Try.prog 30 #[.pointer (some ⟨bf, 0, none⟩)] w fun e w' => e = .returned (.int .i64 (L.length : Nat)) ∧ w' = w := by
  obtain ⟨a, c, rfl⟩ := h.s.form
  have c2 := h.k.facts.1 2
  clear h
  go_enter Try.func30, Try.ntmps30
  go_wp2_with fail
  go_ret
  exact ⟨rfl, rfl⟩
theorem flbad_ok (t : Int) (h1 : 0 ≤ t) (h2 : t ≤ 1099511627776) (w : World) : Calls Try.prog 54 #[.int .i64 t] w fun e w' => e = .returned (.bool false) ∧ w' = w := by
  have h3 : ¬ t < 0 := by omega
  have h4 : ¬ 1099511627776 < t := by omega
  clear h1 h2
  go_enter Try.func54, Try.ntmps54
  go_wp2_with fail
  go_ret
  exact ⟨by simp [h3, h4], rfl⟩
end Go.Proofs.Ytgfbhclkpephnaa
