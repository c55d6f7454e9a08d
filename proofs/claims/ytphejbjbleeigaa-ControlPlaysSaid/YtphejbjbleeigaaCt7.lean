/-
  What is to be said: of none; Next; control.like (chapter 25).
-/
import Derived.Test.YtphejbjbleeigaaCt6
namespace Go.Proofs.Ytphejbjbleeigaa
open Go Go.RowKit
set_option linter.unusedVariables false
set_option maxRecDepth 100000
set_option maxHeartbeats 2000000
theorem ask_nil (d : Dg) (w : World) : Calls Try.prog 27 #[.pointer none, d.val] w (RetB (.int .i64 17) w) := by
  go_enter Try.func27, Try.ntmps27
  go_wp2
  go_ret
  exact ⟨rfl, Below.chainAlloc (Below.refl _ _) _⟩
theorem clen_nil (w : World) : Calls Try.prog 33 #[.pointer none] w (RetB (.int .i64 0) w) := by
  go_enter Try.func33, Try.ntmps33
  go_wp2
  go_ret
  exact ⟨rfl, Below.refl _ _⟩
theorem drop_nil (st : Int) (w : World) : Calls Try.prog 32 #[.pointer none, .int .i64 st] w (RetB (.int .i64 0) w) := by
  go_enter Try.func32, Try.ntmps32
  go_wp2
  go_ret
  exact ⟨rfl, Below.chainAlloc (Below.refl _ _) _⟩
theorem clean_nil (st b : Int) (w : World) : Calls Try.prog 30 #[.pointer none, .int .i64 st, .int .u32 b] w (RetB (.int .i64 0) w) := by
  go_enter Try.func30, Try.ntmps30
  go_wp2
  go_ret
  exact ⟨rfl, Below.chainAlloc (Below.chainAlloc (Below.refl _ _) _) _⟩
theorem next_nil (w : World) : Calls Try.prog 28 #[.pointer none] w (RetB (.tuple #[dg0.val, .bool false]) w) := by
  go_enter Try.func28, Try.ntmps28
  go_wp2
  refine bodyPost_ret (v := .tuple #[dg0.val, .bool false]) (by simp [results, Try.results28, go_sem, dg0]) rfl ⟨rfl, ?_⟩
  exact Below.chainAlloc (Below.refl _ _) _
theorem next_empty (bc base : Nat) (v : Value) (w : World) (h : Ctl w bc base v []) : Calls Try.prog 28 #[.pointer (some ⟨bc, 0, none⟩)] w (RetB (.tuple #[dg0.val, .bool false]) w) := by
  obtain ⟨a, cap, rfl⟩ := h.s.form
  obtain ⟨x1, x2, x3⟩ := h.b.facts
  have y0 := x1 0
  clear x1 x2 h
  go_enter Try.func28, Try.ntmps28
  go_wp2_with fail
  refine bodyPost_ret (v := .tuple #[dg0.val, .bool false]) (by simp [results, Try.results28, go_sem, dg0]) rfl ⟨rfl, ?_⟩
  exact Below.chainAlloc (Below.refl _ _) _
theorem next_ok (bc base : Nat) (v : Value) (d : Dg) (ds : List Dg) (w : World) (h : Ctl w bc base v (d :: ds)) :
    Calls Try.prog 28 #[.pointer (some ⟨bc, 0, none⟩)] w (CtlPost (.tuple #[d.val, .bool true]) bc base v ds w) := by
  obtain ⟨g, off, cap, rfl, hg, hgl, hnc, hcm⟩ := h.s.shape (by simp)
  have hne := h.ne g rfl
  have hne' : ∀ {x : Nat}, g = x → x ≠ bc := fun e => e ▸ hne
  have hb := h.b
  have hs := h.s
  obtain ⟨x1, x2, x3⟩ := hb.facts
  have y0 := x1 0
  have y1 := x2 0
  obtain ⟨c0, c1, c2, c3, c4, c5, c6, c7, c8, c9⟩ := hs.dg (m := 0) (by simp)
  obtain ⟨d0, d1, d2, d3, d4, d5, d6, d7, d8, d9⟩ := d
  simp only [List.getElem_cons_zero, Nat.zero_mul, Nat.add_zero] at c0 c1 c2 c3 c4 c5 c6 c7 c8 c9
  have hdr : (dgC (⟨d0, d1, d2, d3, d4, d5, d6, d7, d8, d9⟩ :: ds)).drop 10 = dgC ds := rfl
  generalize dgC (⟨d0, d1, d2, d3, d4, d5, d6, d7, d8, d9⟩ :: ds) = X at hdr hs
  have hn : ((⟨d0, d1, d2, d3, d4, d5, d6, d7, d8, d9⟩ : Dg) :: ds).length = ds.length + 1 := rfl
  rw [hn] at y0 hnc hs ⊢
  have hn0 : ¬ (((ds.length + 1 : Nat) : Int) = 0) := by omega
  have hcap : 1 ≤ cap := by omega
  have hnp : 0 < ds.length + 1 := by omega
  have HS := Lib.hid hs
  have HB := Lib.hid hb
  clear h hb hs x1 x2
  go_enter Try.func28, Try.ntmps28
  go_wp2_with fail
  all_goals try simp only [Nat.add_sub_cancel]
  · have hc1 : cap = 1 := by assumption
    have hgx : ∀ x, (Value.slice (some ⟨g, off, none⟩) ds.length 0).ownBlock = some x → x ≠ bc := fun x hx => hne' (by simpa [Value.ownBlock] using hx)
    have hs2 := (hdr ▸ HS.out.tail off (.inr ⟨hc1, rfl⟩)).setOther ⟨bc, 0, none⟩ (.slice (some ⟨g, off, none⟩) ds.length (cap - 1)) (fun x hx => hne' (by simpa [Value.ownBlock] using hx))
    rw [show cap - 1 = 0 by omega] at hs2
    refine bodyPost_ret (v := .tuple #[Dg.val ⟨d0, d1, d2, d3, d4, d5, d6, d7, d8, d9⟩, .bool true]) (by simp [results, Try.results28, go_sem]) rfl ⟨.slice (some ⟨g, off, none⟩) ds.length 0, rfl, ⟨?_, ?_, hgx⟩, ?_, .inl rfl⟩
    · exact ((HB.out.setAt 0 _ (by simp)).alloc _).alloc _
    · exact (hs2.alloc _).alloc _
    · exact (((Only.refl _ _).setCell _ _ (.inl (by simp))).alloc _).alloc _
  · have hgx : ∀ x, (Value.slice (some ⟨g, off + 10, none⟩) ds.length (cap - 1)).ownBlock = some x → x ≠ bc := fun x hx => hne' (by simpa [Value.ownBlock] using hx)
    have hs2 := (hdr ▸ HS.out.tail (off + 10) (.inl rfl)).setOther ⟨bc, 0, none⟩ (.slice (some ⟨g, off + 10, none⟩) ds.length (cap - 1)) hgx
    refine bodyPost_ret (v := .tuple #[Dg.val ⟨d0, d1, d2, d3, d4, d5, d6, d7, d8, d9⟩, .bool true]) (by simp [results, Try.results28, go_sem]) rfl ⟨.slice (some ⟨g, off + 10, none⟩) ds.length (cap - 1), rfl, ⟨?_, ?_, hgx⟩, ?_, .inl rfl⟩
    · exact ((HB.out.setAt 0 _ (by simp)).alloc _).alloc _
    · exact (hs2.alloc _).alloc _
    · exact (((Only.refl _ _).setCell _ _ (.inl (by simp))).alloc _).alloc _
/-- What tells whether another one takes its place. -/
theorem like_any (d : Dg) (w : World) : Calls Try.prog 74 #[d.val] w fun e w' => e = .returned (.func (.func 110) #[] #[.pointer (some ⟨w.heap.size, 0, none⟩)]) ∧ w' = w.alloc (.cells d.vals.toArray 24) := by
  have hmf : ∀ (fn : Fn) (first cap : Array Value) (w : World), (Instr.makeFunc fn first cap).run Try.prog w = .ok (.func fn first cap) w := fun _ _ _ _ => rfl
  go_enter Try.func74, Try.ntmps74
  go_wp2_with fail
  go_ret
  exact ⟨rfl, rfl⟩
end Go.Proofs.Ytphejbjbleeigaa
