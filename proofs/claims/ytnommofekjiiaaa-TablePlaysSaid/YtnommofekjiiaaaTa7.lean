/-
  The table: enter, leave, Len, done, part, number (chapter 18).
-/
import Derived.Test.YtnommofekjiiaaaTa6
namespace Go.Proofs.Ytnommofekjiiaaa
open Go Go.RowKit Go.MuLone
set_option linter.unusedVariables false
set_option linter.unusedSimpArgs false
set_option maxRecDepth 100000
set_option maxHeartbeats 1000000
abbrev ptr (b : Nat) : Value := .pointer (some ⟨b, 0, none⟩)
theorem tlen_any (bt : Nat) (s : TS) (w : World) (h : Blk w bt (tabC s) 61) : Calls Try.prog 11 #[ptr bt] w fun e w' => e = .returned (.int .i64 (s.n : Int)) ∧ Blk w' bt (tabC s) 61 ∧ Only [bt] w w' := by
  have c1 := h.facts.1 1
  have c4 := h.facts.1 4
  have f1 := h.facts.2.1 1
  have HB := Lib.hid h
  clear h
  go_enter_defers Try.func11, Try.ntmps11
  go_wp2_with (go_at_call 22; refine (lock_free muLib ⟨bt, 1, none⟩ _ c1 f1).mono ?_; rintro e w' ⟨rfl, rfl⟩)
  refine leaves_cons (f := 23) (args := #[.pointer (some ⟨bt, 1, none⟩)]) (by simp) (by simp [go_sem]) ?_
  have k1 := HB.out.setAt (cs' := #[s.pv, .int .i32 1, .int .u32 0, .int .i64 (s.room : Int), .int .i64 (s.n : Int), .int .i64 (s.made : Int)]) 1 (.int .i32 1) rfl
  refine (unlock_deferred muLib ⟨bt, 1, none⟩ .returning _ (k1.facts.1 1) (k1.facts.2.1 1)).mono ?_
  rintro e u' w'' ⟨rfl, rfl, rfl⟩
  exact ⟨_, results_tmp rfl _ _ _, rfl, k1.setAt 1 _ rfl, ((Only.refl _ _).setCell _ _ (.inl (by simp))).setCell _ _ (.inl (by simp))⟩
theorem leave_any (bt : Nat) (s : TS) (d : Nat) (w : World) (h : Blk w bt (tabC s) 61) (hd : d ≤ s.n) (hn : s.n ≤ 1000000) : Calls Try.prog 28 #[ptr bt, .int .i64 (d : Int)] w fun e w' => e = .returned (.tuple #[]) ∧ Blk w' bt (tabC { s with n := s.n - d }) 61 ∧ Only [bt] w w' := by
  have c1 := h.facts.1 1
  have c4 := h.facts.1 4
  have f1 := h.facts.2.1 1
  have f4 := h.facts.2.1 4
  have HB := Lib.hid h
  have he : IntKind.i64.wrap ((s.n : Int) - (d : Int)) = ((s.n - d : Nat) : Int) := by rw [IntKind.wrap_i64]; omega
  clear h hd hn
  go_enter_defers Try.func28, Try.ntmps28
  go_wp2_with (go_at_call 22; refine (lock_free muLib ⟨bt, 1, none⟩ _ c1 f1).mono ?_; rintro e w' ⟨rfl, rfl⟩)
  refine leaves_cons (f := 23) (args := #[.pointer (some ⟨bt, 1, none⟩)]) (by simp) (by simp [go_sem]) ?_
  have k1 := HB.out.setAt (cs' := #[s.pv, .int .i32 1, .int .u32 0, .int .i64 (s.room : Int), .int .i64 (s.n : Int), .int .i64 (s.made : Int)]) 1 (.int .i32 1) rfl
  have k2 := k1.setAt (cs' := #[s.pv, .int .i32 1, .int .u32 0, .int .i64 (s.room : Int), .int .i64 ((s.n - d : Nat) : Int), .int .i64 (s.made : Int)]) 4 (.int .i64 ((s.n - d : Nat) : Int)) rfl
  refine (unlock_deferred muLib ⟨bt, 1, none⟩ .returning _ (k2.facts.1 1) (k2.facts.2.1 1)).mono ?_
  rintro e u' w'' ⟨rfl, rfl, rfl⟩
  exact ⟨_, results_none rfl _ _ _, rfl, k2.setAt 1 _ rfl, (((Only.refl _ _).setCell _ _ (.inl (by simp))).setCell _ _ (.inl (by simp))).setCell _ _ (.inl (by simp))⟩
theorem enter_full (bt : Nat) (s : TS) (w : World) (h : Blk w bt (tabC s) 61) (hr : s.room ≤ s.n) : Calls Try.prog 37 #[ptr bt] w fun e w' => e = .returned (.tuple #[.int .i64 0, .bool false]) ∧ Blk w' bt (tabC s) 61 ∧ Only [bt] w w' := by
  have c1 := h.facts.1 1
  have c3 := h.facts.1 3
  have c4 := h.facts.1 4
  have f1 := h.facts.2.1 1
  have HB := Lib.hid h
  have hr' : (s.room : Int) ≤ (s.n : Int) := by omega
  clear h hr
  go_enter_defers Try.func37, Try.ntmps37
  go_wp2_with (go_at_call 22; refine (lock_free muLib ⟨bt, 1, none⟩ _ c1 f1).mono ?_; rintro e w' ⟨rfl, rfl⟩)
  go_region
  go_wp2_with fail
  refine leaves_cons (f := 23) (args := #[.pointer (some ⟨bt, 1, none⟩)]) (by simp) (by simp [go_sem]) ?_
  have k1 := HB.out.setAt (cs' := #[s.pv, .int .i32 1, .int .u32 0, .int .i64 (s.room : Int), .int .i64 (s.n : Int), .int .i64 (s.made : Int)]) 1 (.int .i32 1) rfl
  refine (unlock_deferred muLib ⟨bt, 1, none⟩ .returning _ ?_ ?_).mono ?_
  · exact k1.facts.1 1
  · exact k1.facts.2.1 1
  rintro e u' w'' ⟨rfl, rfl, rfl⟩
  exact ⟨_, results_tmp2 rfl _ _ _, rfl, k1.drew.setAt 1 _ rfl, ((Only.refl _ _).setCell _ _ (.inl (by simp))).drew.setCell _ _ (.inl (by simp))⟩
theorem enter_ok (bt : Nat) (s : TS) (w : World) (h : Blk w bt (tabC s) 61) (hr : s.n < s.room) (hn : s.n ≤ 1000000) (hm : s.made ≤ 1000000) : Calls Try.prog 37 #[ptr bt] w fun e w' => e = .returned (.tuple #[.int .i64 ((s.made + 1 : Nat) : Int), .bool true]) ∧ Blk w' bt (tabC { s with n := s.n + 1, made := s.made + 1 }) 61 ∧ Only [bt] w w' := by
  have c1 := h.facts.1 1
  have c3 := h.facts.1 3
  have c4 := h.facts.1 4
  have c5 := h.facts.1 5
  have f1 := h.facts.2.1 1
  have f4 := h.facts.2.1 4
  have f5 := h.facts.2.1 5
  have HB := Lib.hid h
  have hr' : ¬ ((s.room : Int) ≤ (s.n : Int)) := by omega
  have he : IntKind.i64.wrap ((s.n : Int) + 1) = ((s.n + 1 : Nat) : Int) := by rw [IntKind.wrap_i64]; omega
  have he2 : IntKind.i64.wrap ((s.made : Int) + 1) = ((s.made + 1 : Nat) : Int) := by rw [IntKind.wrap_i64]; omega
  generalize s.n + 1 = n1 at *
  generalize s.made + 1 = m1 at *
  clear h hr hn hm
  go_enter_defers Try.func37, Try.ntmps37
  go_wp2_with (go_at_call 22; refine (lock_free muLib ⟨bt, 1, none⟩ _ c1 f1).mono ?_; rintro e w' ⟨rfl, rfl⟩)
  go_region
  go_wp2_with fail
  refine leaves_cons (f := 23) (args := #[.pointer (some ⟨bt, 1, none⟩)]) (by simp) (by simp [go_sem]) ?_
  have k1 := HB.out.setAt (cs' := #[s.pv, .int .i32 1, .int .u32 0, .int .i64 (s.room : Int), .int .i64 (s.n : Int), .int .i64 (s.made : Int)]) 1 (.int .i32 1) rfl
  have k2 := k1.setAt (cs' := #[s.pv, .int .i32 1, .int .u32 0, .int .i64 (s.room : Int), .int .i64 (n1 : Int), .int .i64 (s.made : Int)]) 4 (.int .i64 (n1 : Int)) rfl
  have k3 := k2.setAt (cs' := #[s.pv, .int .i32 1, .int .u32 0, .int .i64 (s.room : Int), .int .i64 (n1 : Int), .int .i64 (m1 : Int)]) 5 (.int .i64 (m1 : Int)) rfl
  refine (unlock_deferred muLib ⟨bt, 1, none⟩ .returning _ ?_ ?_).mono ?_
  · exact k3.facts.1 1
  · exact k3.facts.2.1 1
  rintro e u' w'' ⟨rfl, rfl, rfl⟩
  exact ⟨_, results_tmp2 rfl _ _ _, rfl, k3.drew.setAt 1 _ rfl, ((((Only.refl _ _).setCell _ _ (.inl (by simp))).setCell _ _ (.inl (by simp))).setCell _ _ (.inl (by simp))).drew.setCell _ _ (.inl (by simp))⟩
theorem done_any (e : TE) (base : Nat) (w : World) (h : EntM w base e) : Calls Try.prog 32 #[ptr e.eb] w fun x w' => x = .returned (.bool (decide (e.need ≤ (e.l.length : Int)))) ∧ Below w.heap.size w w' := by
  have c0 := h.b.facts.1 0
  have c1 := h.b.facts.1 1
  obtain ⟨a, cap, hv⟩ := h.s.form
  rw [show entC e = #[.int .i64 e.need, e.sv, .int .i64 (e.made : Int)] from rfl, hv] at c1
  clear h
  by_cases hd : e.need ≤ (e.l.length : Int)
  · go_enter Try.func32, Try.ntmps32
    go_wp2_with fail
    go_region
    go_wp2_with fail
    go_ret
    exact ⟨by simp [hd], (Below.refl _ _).drew⟩
  · go_enter Try.func32, Try.ntmps32
    go_wp2_with fail
    go_region
    go_wp2_with fail
    go_ret
    exact ⟨by simp [hd], (Below.refl _ _).drew⟩
/-- The verdicts by number. -/
def verdT : Nat → TypeId
  | 0 => 90
  | 1 => 91
  | 2 => 92
  | 3 => 93
  | 4 => 94
  | _ => 77
abbrev verd (n : Nat) : Value := .iface (verdT n) (.agg #[])
theorem ta_hit {t xT : TypeId} {fs : Array Field} (hu : Try.prog.underlying t = some (.struct fs)) (v : Value) (w : World) : (Instr.typeAssert (.iface t v) xT t true).run Try.prog w = .ok (.tuple #[v, .bool true]) w := by
  simp [Instr.typeAssert, run_underlying hu]
theorem ta_miss {t t' xT : TypeId} {fs : Array Field} {z : Value} (hne : t ≠ t') (hu : Try.prog.underlying t' = some (.struct fs)) (hz : ∀ w, (zeroValue t').run Try.prog w = .ok z w) (v : Value) (w : World) : (Instr.typeAssert (.iface t v) xT t' true).run Try.prog w = .ok (.tuple #[z, .bool false]) w := by
  simp [Instr.typeAssert, run_underlying hu, hne, hz]
theorem number_0 (w : World) : Calls Try.prog 24 #[.iface 90 (.agg #[])] w fun e w' => e = .returned (.int .i64 0) ∧ Below w.heap.size w w' := by
  have m0 : ∀ w, (Instr.typeAssert (.iface 90 (.agg #[])) 79 90 true).run Try.prog w = .ok (.tuple #[.agg #[], .bool true]) w := ta_hit Try.underlying90 _
  have m1 : ∀ w, (Instr.typeAssert (.iface 90 (.agg #[])) 79 91 true).run Try.prog w = .ok (.tuple #[.agg #[], .bool false]) w := ta_miss (by decide) Try.underlying91 Try.zeroValue91 _
  have m2 : ∀ w, (Instr.typeAssert (.iface 90 (.agg #[])) 79 92 true).run Try.prog w = .ok (.tuple #[.agg #[], .bool false]) w := ta_miss (by decide) Try.underlying92 Try.zeroValue92 _
  have m3 : ∀ w, (Instr.typeAssert (.iface 90 (.agg #[])) 79 93 true).run Try.prog w = .ok (.tuple #[.agg #[], .bool false]) w := ta_miss (by decide) Try.underlying93 Try.zeroValue93 _
  have m4 : ∀ w, (Instr.typeAssert (.iface 90 (.agg #[])) 79 94 true).run Try.prog w = .ok (.tuple #[.agg #[], .bool false]) w := ta_miss (by decide) Try.underlying94 Try.zeroValue94 _
  go_enter Try.func24, Try.ntmps24
  go_wp2_with fail
  go_ret
  exact ⟨rfl, Below.refl _ _⟩
theorem number_1 (w : World) : Calls Try.prog 24 #[.iface 91 (.agg #[])] w fun e w' => e = .returned (.int .i64 1) ∧ Below w.heap.size w w' := by
  have m0 : ∀ w, (Instr.typeAssert (.iface 91 (.agg #[])) 79 90 true).run Try.prog w = .ok (.tuple #[.agg #[], .bool false]) w := ta_miss (by decide) Try.underlying90 Try.zeroValue90 _
  have m1 : ∀ w, (Instr.typeAssert (.iface 91 (.agg #[])) 79 91 true).run Try.prog w = .ok (.tuple #[.agg #[], .bool true]) w := ta_hit Try.underlying91 _
  have m2 : ∀ w, (Instr.typeAssert (.iface 91 (.agg #[])) 79 92 true).run Try.prog w = .ok (.tuple #[.agg #[], .bool false]) w := ta_miss (by decide) Try.underlying92 Try.zeroValue92 _
  have m3 : ∀ w, (Instr.typeAssert (.iface 91 (.agg #[])) 79 93 true).run Try.prog w = .ok (.tuple #[.agg #[], .bool false]) w := ta_miss (by decide) Try.underlying93 Try.zeroValue93 _
  have m4 : ∀ w, (Instr.typeAssert (.iface 91 (.agg #[])) 79 94 true).run Try.prog w = .ok (.tuple #[.agg #[], .bool false]) w := ta_miss (by decide) Try.underlying94 Try.zeroValue94 _
  go_enter Try.func24, Try.ntmps24
  go_wp2_with fail
  go_ret
  exact ⟨rfl, Below.refl _ _⟩
theorem number_2 (w : World) : Calls Try.prog 24 #[.iface 92 (.agg #[])] w fun e w' => e = .returned (.int .i64 2) ∧ Below w.heap.size w w' := by
  have m0 : ∀ w, (Instr.typeAssert (.iface 92 (.agg #[])) 79 90 true).run Try.prog w = .ok (.tuple #[.agg #[], .bool false]) w := ta_miss (by decide) Try.underlying90 Try.zeroValue90 _
  have m1 : ∀ w, (Instr.typeAssert (.iface 92 (.agg #[])) 79 91 true).run Try.prog w = .ok (.tuple #[.agg #[], .bool false]) w := ta_miss (by decide) Try.underlying91 Try.zeroValue91 _
  have m2 : ∀ w, (Instr.typeAssert (.iface 92 (.agg #[])) 79 92 true).run Try.prog w = .ok (.tuple #[.agg #[], .bool true]) w := ta_hit Try.underlying92 _
  have m3 : ∀ w, (Instr.typeAssert (.iface 92 (.agg #[])) 79 93 true).run Try.prog w = .ok (.tuple #[.agg #[], .bool false]) w := ta_miss (by decide) Try.underlying93 Try.zeroValue93 _
  have m4 : ∀ w, (Instr.typeAssert (.iface 92 (.agg #[])) 79 94 true).run Try.prog w = .ok (.tuple #[.agg #[], .bool false]) w := ta_miss (by decide) Try.underlying94 Try.zeroValue94 _
  go_enter Try.func24, Try.ntmps24
  go_wp2_with fail
  go_ret
  exact ⟨rfl, Below.refl _ _⟩
theorem number_3 (w : World) : Calls Try.prog 24 #[.iface 93 (.agg #[])] w fun e w' => e = .returned (.int .i64 3) ∧ Below w.heap.size w w' := by
  have m0 : ∀ w, (Instr.typeAssert (.iface 93 (.agg #[])) 79 90 true).run Try.prog w = .ok (.tuple #[.agg #[], .bool false]) w := ta_miss (by decide) Try.underlying90 Try.zeroValue90 _
  have m1 : ∀ w, (Instr.typeAssert (.iface 93 (.agg #[])) 79 91 true).run Try.prog w = .ok (.tuple #[.agg #[], .bool false]) w := ta_miss (by decide) Try.underlying91 Try.zeroValue91 _
  have m2 : ∀ w, (Instr.typeAssert (.iface 93 (.agg #[])) 79 92 true).run Try.prog w = .ok (.tuple #[.agg #[], .bool false]) w := ta_miss (by decide) Try.underlying92 Try.zeroValue92 _
  have m3 : ∀ w, (Instr.typeAssert (.iface 93 (.agg #[])) 79 93 true).run Try.prog w = .ok (.tuple #[.agg #[], .bool true]) w := ta_hit Try.underlying93 _
  have m4 : ∀ w, (Instr.typeAssert (.iface 93 (.agg #[])) 79 94 true).run Try.prog w = .ok (.tuple #[.agg #[], .bool false]) w := ta_miss (by decide) Try.underlying94 Try.zeroValue94 _
  go_enter Try.func24, Try.ntmps24
  go_wp2_with fail
  go_ret
  exact ⟨rfl, Below.refl _ _⟩
theorem number_4 (w : World) : Calls Try.prog 24 #[.iface 94 (.agg #[])] w fun e w' => e = .returned (.int .i64 4) ∧ Below w.heap.size w w' := by
  have m0 : ∀ w, (Instr.typeAssert (.iface 94 (.agg #[])) 79 90 true).run Try.prog w = .ok (.tuple #[.agg #[], .bool false]) w := ta_miss (by decide) Try.underlying90 Try.zeroValue90 _
  have m1 : ∀ w, (Instr.typeAssert (.iface 94 (.agg #[])) 79 91 true).run Try.prog w = .ok (.tuple #[.agg #[], .bool false]) w := ta_miss (by decide) Try.underlying91 Try.zeroValue91 _
  have m2 : ∀ w, (Instr.typeAssert (.iface 94 (.agg #[])) 79 92 true).run Try.prog w = .ok (.tuple #[.agg #[], .bool false]) w := ta_miss (by decide) Try.underlying92 Try.zeroValue92 _
  have m3 : ∀ w, (Instr.typeAssert (.iface 94 (.agg #[])) 79 93 true).run Try.prog w = .ok (.tuple #[.agg #[], .bool false]) w := ta_miss (by decide) Try.underlying93 Try.zeroValue93 _
  have m4 : ∀ w, (Instr.typeAssert (.iface 94 (.agg #[])) 79 94 true).run Try.prog w = .ok (.tuple #[.agg #[], .bool true]) w := ta_hit Try.underlying94 _
  go_enter Try.func24, Try.ntmps24
  go_wp2_with fail
  go_ret
  exact ⟨rfl, Below.refl _ _⟩
theorem number_5 (w : World) : Calls Try.prog 24 #[.iface 77 (.agg #[])] w fun e w' => e = .returned (.int .i64 5) ∧ Below w.heap.size w w' := by
  have m0 : ∀ w, (Instr.typeAssert (.iface 77 (.agg #[])) 79 90 true).run Try.prog w = .ok (.tuple #[.agg #[], .bool false]) w := ta_miss (by decide) Try.underlying90 Try.zeroValue90 _
  have m1 : ∀ w, (Instr.typeAssert (.iface 77 (.agg #[])) 79 91 true).run Try.prog w = .ok (.tuple #[.agg #[], .bool false]) w := ta_miss (by decide) Try.underlying91 Try.zeroValue91 _
  have m2 : ∀ w, (Instr.typeAssert (.iface 77 (.agg #[])) 79 92 true).run Try.prog w = .ok (.tuple #[.agg #[], .bool false]) w := ta_miss (by decide) Try.underlying92 Try.zeroValue92 _
  have m3 : ∀ w, (Instr.typeAssert (.iface 77 (.agg #[])) 79 93 true).run Try.prog w = .ok (.tuple #[.agg #[], .bool false]) w := ta_miss (by decide) Try.underlying93 Try.zeroValue93 _
  have m4 : ∀ w, (Instr.typeAssert (.iface 77 (.agg #[])) 79 94 true).run Try.prog w = .ok (.tuple #[.agg #[], .bool false]) w := ta_miss (by decide) Try.underlying94 Try.zeroValue94 _
  go_enter Try.func24, Try.ntmps24
  go_wp2_with fail
  go_ret
  exact ⟨rfl, Below.refl _ _⟩
theorem number_any (n : Nat) (hn : n ≤ 5) (w : World) : Calls Try.prog 24 #[verd n] w fun e w' => e = .returned (.int .i64 (n : Int)) ∧ Below w.heap.size w w' := by
  have : n = 0 ∨ n = 1 ∨ n = 2 ∨ n = 3 ∨ n = 4 ∨ n = 5 := by omega
  rcases this with rfl | rfl | rfl | rfl | rfl | rfl
  · exact number_0 w
  · exact number_1 w
  · exact number_2 w
  · exact number_3 w
  · exact number_4 w
  · exact number_5 w
end Go.Proofs.Ytnommofekjiiaaa
