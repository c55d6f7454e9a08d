/-
  What is to be said: gone, Drop, Clean, Len, New, Next (chapter 25).
-/
import Derived.Test.YtphejbjbleeigaaCt5
namespace Go.Proofs.Ytphejbjbleeigaa
open Go Go.RowKit
set_option linter.unusedVariables false
set_option maxRecDepth 100000
set_option maxHeartbeats 1000000
/-- What is to be said lies at bc; its list in v. -/
structure Ctl (w : World) (bc base : Nat) (v : Value) (ds : List Dg) : Prop where
  b : Blk w bc #[v] 132
  s : Seg w base 24 10 v ds.length (dgC ds)
  ne : ∀ g, v.ownBlock = some g → g ≠ bc
theorem Ctl.chain {w w' : World} {bc base : Nat} {v : Value} {ds : List Dg} (h : Ctl w bc base v ds) (hb : Below w.heap.size w w') : Ctl w' bc base v ds := ⟨h.b.below hb h.b.lt, h.s.chain hb, h.ne⟩
theorem Ctl.only {w w' : World} {bc base : Nat} {v : Value} {ds : List Dg} {S : List Nat} (h : Ctl w bc base v ds) (ho : Only S w w') (h1 : bc ∉ S) (h2 : ∀ g, v.ownBlock = some g → g ∉ S) : Ctl w' bc base v ds := ⟨h.b.only ho h1, h.s.only ho h2, h.ne⟩
/-- A call has turned it. -/
def CtlPost (R : Value) (bc base : Nat) (v : Value) (ds : List Dg) (w : World) (e : Ending) (w' : World) : Prop :=
  ∃ v', e = .returned R ∧ Ctl w' bc base v' ds ∧ Only (bc :: v.ownBlock.toList) w w' ∧ (v'.ownBlock = v.ownBlock ∨ ∃ g, v'.ownBlock = some g ∧ w.heap.size ≤ g)
theorem gone_any (f : Nat) (binds : Array Value) (p : Dg → Bool) (bc base : Nat) (v : Value) (ds : List Dg) (w : World) (hen : ∀ args w, (callFunc f args).run Try.prog w = .ok (.enter f args) w)
    (HC : ∀ x w', Only v.ownBlock.toList w w' → Calls Try.prog f (#[Dg.val x] ++ binds) w' (RetB (.bool (p x)) w')) (h : Ctl w bc base v ds) :
    Calls Try.prog 76 #[.pointer (some ⟨bc, 0, none⟩), .func (.func f) #[] binds] w (CtlPost (.int .i64 ((ds.length : Int) - ((keptD p ds).length : Int))) bc base v (keptD p ds) w) := by
  have HD := Lib.hid (del_dg f binds p base v ds w hen HC h.s)
  have HH := Lib.hid h
  have hmx : ds.length ≤ 9223372036854775807 := by have := h.s.max; unfold maxLen at this; omega
  have hkl : (keptD p ds).length ≤ ds.length := by unfold keptD; exact List.length_filter_le _ _
  obtain ⟨x1, x2, x3⟩ := h.b.facts
  have y0 := x1 0
  obtain ⟨a, cap, rfl⟩ := h.s.form
  clear HC h x1 x2
  go_enter Try.func76, Try.ntmps76
  go_wp2_with fail
  refine HD.out.mono ?_
  rintro e w1 ⟨v1, rfl, hs1, ho1, hw1⟩
  have hb1 := HH.out.b.only hw1 (by
    intro hm
    simp at hm
    exact HH.out.ne bc hm rfl)
  obtain ⟨u1, u2, u3⟩ := hb1.facts
  have z0 := u1 0
  have z1 := u2 0
  obtain ⟨a1, cap1, rfl⟩ := hs1.form
  have hne1 : ∀ g, (Value.slice a1 (keptD p ds).length cap1).ownBlock = some g → g ≠ bc := fun g hg => HH.out.ne g (by rw [← ho1]; exact hg)
  have hF : Ctl (w1.setCell ⟨bc, 0, none⟩ (.slice a1 (keptD p ds).length cap1)) bc base (.slice a1 (keptD p ds).length cap1) (keptD p ds) :=
    ⟨Blk.setAt hb1 0 _ rfl, hs1.setOther _ _ (fun g hg => hne1 g hg), hne1⟩
  have hO : Only (bc :: (Value.slice a ds.length cap).ownBlock.toList) w (w1.setCell ⟨bc, 0, none⟩ (.slice a1 (keptD p ds).length cap1)) := (hw1.mono (fun x hx => .inl (List.mem_cons_of_mem _ hx))).put _ _ (by simp)
  have HF := Lib.hid (And.intro hF (And.intro hO ho1))
  have hd : wrap64 ((ds.length : Int) - ((keptD p ds).length : Int)) = (ds.length : Int) - ((keptD p ds).length : Int) := IntWalk.wrap64_in _ (by omega)
  clear hF hO ho1 hs1 hb1 u1 u2 hw1 hne1
  generalize keptD p ds = K at *
  go_wp2_with fail
  go_ret
  exact ⟨_, rfl, HF.out.1, HF.out.2.1, .inl HF.out.2.2⟩
theorem drop_any (st : Int) (bc base : Nat) (v : Value) (ds : List Dg) (w : World) (h : Ctl w bc base v ds) :
    Calls Try.prog 32 #[.pointer (some ⟨bc, 0, none⟩), .int .i64 st] w (CtlPost (.int .i64 ((ds.length : Int) - ((keptD (dropB st) ds).length : Int))) bc base v (keptD (dropB st) ds) w) := by
  have hmf : ∀ (fn : Fn) (first cap : Array Value) (w : World), (Instr.makeFunc fn first cap).run Try.prog w = .ok (.func fn first cap) w := fun _ _ _ _ => rfl
  have hba : Below w.heap.size w (w.alloc (.cells #[.int .i64 st] 3)) := Below.chainAlloc (Below.refl _ _) _
  have kb := Blk.new w #[.int .i64 st] 3
  have HG := Lib.hid (gone_any 79 #[.pointer (some ⟨w.heap.size, 0, none⟩)] (dropB st) bc base v ds _ (enters_of Try.func79 (by kernel_rfl) rfl) (fun x w' ho => drop_cl x st w.heap.size w' (kb.only ho (fun hm => by
    have := (h.s.blk _ (by simpa using hm)).2
    omega))) (h.chain hba))
  have HBA := Lib.hid hba
  clear h kb hba
  go_enter Try.func32, Try.ntmps32
  go_wp2_with fail
  refine HG.out.mono ?_
  rintro e w1 ⟨v1, rfl, hc1, ho1, hw1⟩
  go_wp2_with fail
  go_ret
  exact ⟨v1, rfl, hc1, (Only.of_below HBA.out).trans ho1, hw1.imp id (fun ⟨g, h1, h2⟩ => ⟨g, h1, by simp at h2; omega⟩)⟩
theorem clean_any (st b : Int) (bc base : Nat) (v : Value) (ds : List Dg) (w : World) (h : Ctl w bc base v ds) :
    Calls Try.prog 30 #[.pointer (some ⟨bc, 0, none⟩), .int .i64 st, .int .u32 b] w (CtlPost (.int .i64 ((ds.length : Int) - ((keptD (cleanB st b) ds).length : Int))) bc base v (keptD (cleanB st b) ds) w) := by
  have hmf : ∀ (fn : Fn) (first cap : Array Value) (w : World), (Instr.makeFunc fn first cap).run Try.prog w = .ok (.func fn first cap) w := fun _ _ _ _ => rfl
  have hba : Below w.heap.size w ((w.alloc (.cells #[.int .i64 st] 3)).alloc (.cells #[.int .u32 b] 22)) := ((Below.refl _ w).alloc (Nat.le_refl _) _).alloc (by simp) _
  have kb := (Blk.new w #[.int .i64 st] 3).alloc (.cells #[.int .u32 b] 22)
  have kb2 := Blk.newAt (w := w.alloc (.cells #[.int .i64 st] 3)) (n := w.heap.size + 1) (cs := #[.int .u32 b]) (t := 22) (by simp)
  have HG := Lib.hid (gone_any 77 #[.pointer (some ⟨w.heap.size, 0, none⟩), .pointer (some ⟨w.heap.size + 1, 0, none⟩)] (cleanB st b) bc base v ds _ (enters_of Try.func77 (by kernel_rfl) rfl) (fun x w' ho => clean_cl x st b w.heap.size (w.heap.size + 1) w' (kb.only ho (fun hm => by
    have := (h.s.blk _ (by simpa using hm)).2
    omega)) (kb2.only ho (fun hm => by
    have := (h.s.blk _ (by simpa using hm)).2
    omega))) (h.chain hba))
  have HBA := Lib.hid hba
  clear h kb hba kb2
  go_enter Try.func30, Try.ntmps30
  go_wp2_with fail
  refine HG.out.mono ?_
  rintro e w1 ⟨v1, rfl, hc1, ho1, hw1⟩
  go_wp2_with fail
  go_ret
  exact ⟨v1, rfl, hc1, (Only.of_below HBA.out).trans ho1, hw1.imp id (fun ⟨g, h1, h2⟩ => ⟨g, h1, by simp at h2; omega⟩)⟩
theorem len_any (bc base : Nat) (v : Value) (ds : List Dg) (w : World) (h : Ctl w bc base v ds) :
    Calls Try.prog 33 #[.pointer (some ⟨bc, 0, none⟩)] w fun e w' => e = .returned (.int .i64 (ds.length : Nat)) ∧ w' = w := by
  obtain ⟨x1, x2, x3⟩ := h.b.facts
  have y0 := x1 0
  obtain ⟨a, cap, rfl⟩ := h.s.form
  clear h x1 x2
  go_enter Try.func33, Try.ntmps33
  go_wp2_with fail
  go_ret
  exact ⟨rfl, rfl⟩
theorem cnew_any (w : World) : Calls Try.prog 25 #[] w fun e w' => e = .returned (.pointer (some ⟨w.heap.size, 0, none⟩)) ∧ w' = w.alloc (.cells #[.slice none 0 0] 132) := by
  go_enter Try.func25, Try.ntmps25
  go_wp2_with fail
  go_ret
  exact ⟨rfl, rfl⟩
theorem Ctl.new (w : World) (base : Nat) : Ctl (w.alloc (.cells #[.slice none 0 0] 132)) w.heap.size base (.slice none 0 0) [] := ⟨Blk.new w _ _, Seg.nil _ _ _ _, fun g h => by cases h⟩
end Go.Proofs.Ytphejbjbleeigaa
