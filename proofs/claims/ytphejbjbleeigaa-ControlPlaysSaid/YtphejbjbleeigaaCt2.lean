/-
  What is to be said: slices.IndexFunc over datagrams (chapter 25).
-/
import Derived.Test.YtphejbjbleeigaaCt1
namespace Go.Proofs.Ytphejbjbleeigaa
open Go Go.RowKit
set_option linter.unusedVariables false
set_option maxRecDepth 100000
set_option maxHeartbeats 1000000
def idxD (p : Dg → Bool) (ds : List Dg) : Int := match ds.findIdx? p with
  | some i => (i : Int)
  | none => -1
theorem find_at (p : Dg → Bool) : ∀ (ds : List Dg) (m : Nat) (hm : m < ds.length), (∀ x ∈ ds.take m, p x = false) → p ds[m] = true → ds.findIdx? p = some m
  | [], m, hm, _, _ => by simp at hm
  | d :: ds, 0, _, _, h => by rw [List.findIdx?_cons]; simp at h; simp [h]
  | d :: ds, m + 1, hm, h0, h => by
    rw [List.findIdx?_cons, h0 d (by simp), find_at p ds m (by simpa using hm) (fun x hx => h0 x (by simp [hx])) (by simpa using h)]
    rfl
theorem idx_hit {p : Dg → Bool} {ds : List Dg} {m : Nat} (hm : m < ds.length) (h : ∀ x ∈ ds.take m, p x = false) (hp : p ds[m] = true) : idxD p ds = (m : Int) := by
  unfold idxD
  rw [find_at p ds m hm h hp]
theorem idx_none {p : Dg → Bool} {ds : List Dg} (h : ∀ x ∈ ds, p x = false) : idxD p ds = -1 := by
  unfold idxD
  rw [List.findIdx?_eq_none_iff.2 h]
theorem no_take {p : Dg → Bool} {ds : List Dg} {m : Nat} (hm : m < ds.length) (h : ∀ x ∈ ds.take m, p x = false) (hp : p ds[m] = false) : ∀ x ∈ ds.take (m + 1), p x = false := fun x hx => by
  rw [List.take_succ_eq_append_getElem hm] at hx
  rcases List.mem_append.1 hx with hx | hx
  · exact h x hx
  · rw [List.mem_singleton] at hx
    rw [hx]
    exact hp
theorem idx_dg (f : Nat) (binds : Array Value) (p : Dg → Bool) (base : Nat) (v : Value) (ds : List Dg) (w : World) (hen : ∀ args w, (callFunc f args).run Try.prog w = .ok (.enter f args) w)
    (HC : ∀ x w', Below w.heap.size w w' → Calls Try.prog f (#[Dg.val x] ++ binds) w' (RetB (.bool (p x)) w')) (hs : Seg w base 24 10 v ds.length (dgC ds)) :
    Calls Try.prog 73 #[v, .func (.func f) #[] binds] w (RetB (.int .i64 (idxD p ds)) w) := by
  have HS := Lib.hid hs
  have HCC := Lib.hid HC
  have hmx : ds.length ≤ 9223372036854775807 := by have := hs.max; unfold maxLen at this; omega
  obtain ⟨a, cap, rfl⟩ := hs.form
  clear HC hs
  go_enter Try.func73, Try.ntmps73
  go_wp2_with fail
  go_loopw [5, 8] (fun _ i wr => ∃ m : Nat, m ≤ ds.length ∧ i = .int .i64 m ∧ Hid (∀ x ∈ ds.take m, p x = false) ∧ Hid (Below w.heap.size w wr)) (fun _ i _ => ds.length - (intOf i).toNat)
  case atStart => exact ⟨0, Nat.zero_le _, rfl, Lib.hid (by simp), Lib.hid (Below.refl _ _)⟩
  case round =>
    obtain ⟨m, hm, rfl, HN, HB⟩ := hrel
    by_cases hlt : m < ds.length
    · obtain ⟨g, off, _, e, _, hgw, _⟩ := (HS.out.chain HB.out).shape (by omega)
      cases e
      obtain ⟨c0, c1, c2, c3, c4, c5, c6, c7, c8, c9⟩ := (HS.out.chain HB.out).dg hlt
      have HNO := Lib.hid (fun h => no_take hlt HN.out h)
      have HHIT := Lib.hid (fun h => idx_hit hlt HN.out h)
      have hmi : (m : Int) < (ds.length : Int) := by omega
      obtain ⟨d, hd⟩ : ∃ d, ds[m] = d := ⟨_, rfl⟩
      rw [hd] at c0 c1 c2 c3 c4 c5 c6 c7 c8 c9 HNO HHIT
      have HLT := Lib.hid hlt
      have HCL := Lib.hid (HCC.out d wr HB.out)
      obtain ⟨d0, d1, d2, d3, d4, d5, d6, d7, d8, d9⟩ := d
      simp only at c0 c1 c2 c3 c4 c5 c6 c7 c8 c9
      clear hd
      go_wp2_with fail
      refine HCL.out.mono ?_
      rintro e w1 ⟨rfl, hb1⟩
      have HB1 := Lib.hid (Below.chain hb1 HB.out)
      clear hb1 c0 c1 c2 c3 c4 c5 c6 c7 c8 c9
      cases hp : p ⟨d0, d1, d2, d3, d4, d5, d6, d7, d8, d9⟩ with
      | true =>
        have hr := HHIT.out hp
        have HR := Lib.hid hr
        clear hr
        go_wp2_with fail
        go_ret
        exact ⟨by rw [HR.out]; rfl, HB1.out⟩
      | false =>
        have HN2 := Lib.hid (HNO.out hp)
        go_wp2_with fail
        go_roundw
        case rel => exact ⟨m + 1, HLT.out, by go_num, HN2, HB1⟩
        case measure => have := HLT.out; simp [intOf]; omega
    · obtain rfl : m = ds.length := by omega
      have HR : Hid (idxD p ds = -1) := Lib.hid (by
        have h := HN.out
        rw [List.take_length] at h
        exact idx_none h)
      have hlt' : ¬ (ds.length : Int) < (ds.length : Int) := by omega
      go_wp2_with fail
      go_ret
      exact ⟨by rw [HR.out]; rfl, HB.out⟩
end Go.Proofs.Ytphejbjbleeigaa
