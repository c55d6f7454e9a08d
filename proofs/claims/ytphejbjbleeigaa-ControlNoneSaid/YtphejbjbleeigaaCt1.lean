/-
  What is to be said: plain; the closures; which one is first of those that are looked for (chapter 25).
-/
import Derived.Test.YtphejbjbleeigaaDg6
import Derived.Test.YtphejbjbleeigaaSeg
namespace Go.Proofs.Ytphejbjbleeigaa
open Go Go.RowKit
set_option linter.unusedVariables false
set_option maxRecDepth 100000
set_option maxHeartbeats 1000000
def dgC (ds : List Dg) : List Value := ds.flatMap Dg.vals
theorem dgC_length : ∀ ds : List Dg, (dgC ds).length = ds.length * 10
  | [] => rfl
  | d :: ds => by
    have h := dgC_length ds
    unfold dgC at *
    rw [List.flatMap_cons, List.length_append, h]
    simp [Dg.vals]
    omega
theorem dgC_get : ∀ (ds : List Dg) (m : Nat) (hm : m < ds.length) (o : Nat), o < 10 → (dgC ds)[m * 10 + o]? = ds[m].vals[o]?
  | [], m, hm, _, _ => by simp at hm
  | d :: ds, 0, _, o, ho => by
    unfold dgC
    rw [List.flatMap_cons, Nat.zero_mul, Nat.zero_add, List.getElem?_append_left (by simpa [Dg.vals] using ho)]
    rfl
  | d :: ds, m + 1, hm, o, ho => by
    have h := dgC_get ds m (by simpa using hm) o ho
    unfold dgC at *
    rw [List.flatMap_cons, List.getElem?_append_right (by simp [Dg.vals]; omega), show d.vals.length = 10 from rfl, show (m + 1) * 10 + o - 10 = m * 10 + o from by omega, h]
    rfl
theorem dgC_snoc (ds : List Dg) (d : Dg) : dgC (ds ++ [d]) = dgC ds ++ d.vals := by simp [dgC]
/-- A datagram among others, cell by cell. -/
theorem Seg.dg {w : World} {base g off cap : Nat} {ds : List Dg} (h : Seg w base 24 10 (.slice (some ⟨g, off, none⟩) ds.length cap) ds.length (dgC ds)) {m : Nat} (hm : m < ds.length) :
    w.cell? ⟨g, off + m * 10, none⟩ = some (.int .i64 ds[m].kind) ∧ w.cell? ⟨g, off + m * 10 + 1, none⟩ = some (.int .i64 ds[m].stream) ∧ w.cell? ⟨g, off + m * 10 + 2, none⟩ = some (.int .u32 ds[m].block) ∧ w.cell? ⟨g, off + m * 10 + 3, none⟩ = some (.int .i64 ds[m].index) ∧
    w.cell? ⟨g, off + m * 10 + 4, none⟩ = some (.int .i64 ds[m].k) ∧ w.cell? ⟨g, off + m * 10 + 5, none⟩ = some (.int .i64 ds[m].n) ∧ w.cell? ⟨g, off + m * 10 + 6, none⟩ = some (.int .i64 ds[m].len) ∧ w.cell? ⟨g, off + m * 10 + 7, none⟩ = some (.int .i64 ds[m].credit) ∧
    w.cell? ⟨g, off + m * 10 + 8, none⟩ = some (Str ds[m].have') ∧ w.cell? ⟨g, off + m * 10 + 9, none⟩ = some (Str ds[m].body) := by
  have get : ∀ o (ho : o < 10), w.cell? ⟨g, off + m * 10 + o, none⟩ = ds[m].vals[o]? := fun o ho => by
    rw [Nat.add_assoc, h.at (m * 10 + o) (by omega), dgC_get ds m hm o ho]
  exact ⟨get 0 (by decide), get 1 (by decide), get 2 (by decide), get 3 (by decide), get 4 (by decide), get 5 (by decide), get 6 (by decide), get 7 (by decide), get 8 (by decide), get 9 (by decide)⟩
/-- Does one take another one's place? -/
def likeB (x d : Dg) : Bool := x.kind == d.kind && (x.stream == d.stream && (x.kind != 3 || x.block == d.block))
theorem like_cl (x d : Dg) (b : Nat) (w : World) (hb : Blk w b d.vals.toArray 24) : Calls Try.prog 110 #[x.val, .pointer (some ⟨b, 0, none⟩)] w (RetB (.bool (likeB x d)) w) := by
  obtain ⟨xk, xs, xb, xi, xkk, xn, xl, xc, xh, xbd⟩ := x
  obtain ⟨dk, ds, db, di, dkk, dn, dl, dc, dh, dbd⟩ := d
  have hB : Below w.heap.size w (w.alloc (.cells #[.int .i64 xk, .int .i64 xs, .int .u32 xb, .int .i64 xi, .int .i64 xkk, .int .i64 xn, .int .i64 xl, .int .i64 xc, Str xh, Str xbd] 24)) := Below.chainAlloc (Below.refl _ _) _
  obtain ⟨x1, x2, x3⟩ := (hb.alloc (.cells #[.int .i64 xk, .int .i64 xs, .int .u32 xb, .int .i64 xi, .int .i64 xkk, .int .i64 xn, .int .i64 xl, .int .i64 xc, Str xh, Str xbd] 24)).facts
  have y0 : (w.alloc (.cells #[.int .i64 xk, .int .i64 xs, .int .u32 xb, .int .i64 xi, .int .i64 xkk, .int .i64 xn, .int .i64 xl, .int .i64 xc, Str xh, Str xbd] 24)).cell? ⟨b, 0, none⟩ = some (.int .i64 dk) := x1 0
  have y1 : (w.alloc (.cells #[.int .i64 xk, .int .i64 xs, .int .u32 xb, .int .i64 xi, .int .i64 xkk, .int .i64 xn, .int .i64 xl, .int .i64 xc, Str xh, Str xbd] 24)).cell? ⟨b, 1, none⟩ = some (.int .i64 ds) := x1 1
  have y2 : (w.alloc (.cells #[.int .i64 xk, .int .i64 xs, .int .u32 xb, .int .i64 xi, .int .i64 xkk, .int .i64 xn, .int .i64 xl, .int .i64 xc, Str xh, Str xbd] 24)).cell? ⟨b, 2, none⟩ = some (.int .u32 db) := x1 2
  obtain ⟨z1, _, _⟩ := (Blk.new w #[.int .i64 xk, .int .i64 xs, .int .u32 xb, .int .i64 xi, .int .i64 xkk, .int .i64 xn, .int .i64 xl, .int .i64 xc, Str xh, Str xbd] 24).facts
  have e0 := z1 0
  have e1 := z1 1
  have e2 := z1 2
  have HB := Lib.hid hB
  clear x1 x2 x3 z1 hB hb
  unfold likeB
  simp only
  by_cases h1 : xk = dk
  · by_cases h2 : xs = ds
    · by_cases h3 : xk = 3
      · by_cases h4 : xb = db
        · subst h1 h2 h3 h4
          go_enter Try.func110, Try.ntmps110
          go_wp2_with fail
          go_ret
          exact ⟨by simp, HB.out⟩
        · have h4' : (xb == db) = false := by simpa using h4
          subst h1 h2 h3
          rw [h4']
          go_enter Try.func110, Try.ntmps110
          go_wp2_with fail
          go_ret
          exact ⟨by simp, HB.out⟩
      · have h3' : (xk != 3) = true := by simpa using h3
        subst h1 h2
        rw [h3']
        go_enter Try.func110, Try.ntmps110
        go_wp2_with fail
        go_ret
        exact ⟨by simp, HB.out⟩
    · have h2' : (xs == ds) = false := by simpa using h2
      subst h1
      rw [h2']
      go_enter Try.func110, Try.ntmps110
      go_wp2_with fail
      go_ret
      exact ⟨by simp, HB.out⟩
  · have h1' : (xk == dk) = false := by simpa using h1
    rw [h1']
    go_enter Try.func110, Try.ntmps110
    go_wp2_with fail
    go_ret
    exact ⟨by simp, HB.out⟩
end Go.Proofs.Ytphejbjbleeigaa
