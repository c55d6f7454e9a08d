/-
  The table: enter, leave, Len, done, part, number (chapter 18).
-/
import Derived.Test.YteepdknnmdhckaaTa6
namespace Go.Proofs.Yteepdknnmdhckaa
open Go Go.RowKit Go.MuLone
set_option linter.unusedVariables false
set_option linter.unusedSimpArgs false
set_option maxRecDepth 100000
set_option maxHeartbeats 1000000
abbrev ptr (b : Nat) : Value := .pointer (some ⟨b, 0, none⟩)
theorem tlen_any (bt : Nat) (s : TS) (w : World) (h : Blk w bt (tabC s) 102) : Calls Try.prog 30 #[ptr bt] w fun e w' => e = .returned (.int .i64 (s.n : Int)) ∧ Blk w' bt (tabC s) 102 ∧ Only [bt] w w' := by
  have c1 := h.facts.1 1
  have c4 := h.facts.1 4
  have f1 := h.facts.2.1 1
  have HB := Lib.hid h
  clear h
  go_enter_defers Try.func30, Try.ntmps30
  go_wp2_with (go_at_call 35; refine (lock_free muLib ⟨bt, 1, none⟩ _ c1 f1).mono ?_; rintro e w' ⟨rfl, rfl⟩)
  refine leaves_cons (f := 36) (args := #[.pointer (some ⟨bt, 1, none⟩)]) (by simp) (by simp [go_sem]) ?_
  have k1 := HB.out.setAt (cs' := #[s.pv, .int .i32 1, .int .u32 0, .int .i64 (s.room : Int), .int .i64 (s.n : Int), .int .i64 (s.made : Int)]) 1 (.int .i32 1) rfl
  refine (unlock_deferred muLib ⟨bt, 1, none⟩ .returning _ (k1.facts.1 1) (k1.facts.2.1 1)).mono ?_
  rintro e u' w'' ⟨rfl, rfl, rfl⟩
  exact ⟨_, results_tmp rfl _ _ _, rfl, k1.setAt 1 _ rfl, ((Only.refl _ _).setCell _ _ (.inl (by simp))).setCell _ _ (.inl (by simp))⟩
theorem ta_hit {t xT : TypeId} {fs : Array Field} (hu : Try.prog.underlying t = some (.struct fs)) (v : Value) (w : World) : (Instr.typeAssert (.iface t v) xT t true).run Try.prog w = .ok (.tuple #[v, .bool true]) w := by
  simp [Instr.typeAssert, run_underlying hu]
theorem ta_miss {t t' xT : TypeId} {fs : Array Field} {z : Value} (hne : t ≠ t') (hu : Try.prog.underlying t' = some (.struct fs)) (hz : ∀ w, (zeroValue t').run Try.prog w = .ok z w) (v : Value) (w : World) : (Instr.typeAssert (.iface t v) xT t' true).run Try.prog w = .ok (.tuple #[z, .bool false]) w := by
  simp [Instr.typeAssert, run_underlying hu, hne, hz]
end Go.Proofs.Yteepdknnmdhckaa
