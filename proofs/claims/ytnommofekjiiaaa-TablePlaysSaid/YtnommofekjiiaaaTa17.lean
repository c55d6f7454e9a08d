/-
  The table: Put, Get, Take as they are called; of a table that is none (chapter 18).
-/
import Derived.Test.YtnommofekjiiaaaTa16
namespace Go.Proofs.Ytnommofekjiiaaa
open Go Go.RowKit Go.MuLone
set_option linter.unusedVariables false
set_option linter.unusedSimpArgs false
set_option maxRecDepth 100000
set_option maxHeartbeats 1000000
theorem tPut (base bt room : Nat) (A : List DE) (m : Nat) (s : TS) (k : Int × Int) (need : Int) (x : Sh) (w : World) (h : Tab base w bt room A m s) (hm : m ≤ 1000000) (hb : base ≤ w.heap.size) :
    Calls Try.prog 12 #[ptr bt, encK k, .int .i64 need, shV x] w (TabR base bt room (putA room A k need x) (m + 1) w (.int .i64 (putV room A k need x : Nat))) := by
  have HP : Hid (∀ w', Below w.heap.size w w' → Calls Try.prog 25 #[ptr bt, encK k, .int .i64 need, shV x] w' (TabR base bt room (putA room A k need x) (m + 1) w' (verd (putV room A k need x)))) := Lib.hid fun w' hb' => tput base bt room A m s k need x w' (h.chain hb') hm (Nat.le_trans hb hb'.size)
  have HB0 := Lib.hid (Below.chainAlloc (Below.chainAlloc (Below.refl _ w) (.cells #[.int .i64 k.1, .int .u32 k.2] 35)) (.cells #[.int .i64 x.1, Str x.2] 32))
  have HL := Lib.hid (putV_le room A k need x)
  unfold encK at *
  generalize putV room A k need x = v at *
  generalize putA room A k need x = A' at *
  clear h hm hb
  go_enter Try.func12, Try.ntmps12
  go_wp2_with fail
  refine (HP.out _ HB0.out).mono ?_
  rintro r w1 ⟨rfl, ht1, hn1⟩
  have HT := Lib.hid ht1
  have HN := Lib.hid ((Turn.of_below HB0.out).trans hn1)
  clear ht1 hn1
  go_wp2_with fail
  refine (number_any v HL.out w1).mono ?_
  rintro r w2 ⟨rfl, hb2⟩
  go_wp2_with fail
  go_ret
  obtain ⟨s', hs'⟩ := HT.out
  exact ⟨rfl, ⟨s', hs'.chain hb2⟩, HN.out.step hb2⟩
/-- What is found: a slice, and whether there is one. -/
def FoundR (base bt room : Nat) (A : List DE) (m : Nat) (k : Int × Int) (A' : List DE) (w : World) (e : Ending) (w' : World) : Prop :=
  ∃ sv, e = .returned (.tuple #[sv, .bool (getD k A).isSome]) ∧ ShS w' base sv (((getD k A).map fun d => d.2.2).getD []) ∧ (∃ s', Tab base w' bt room A' m s') ∧ Turn base KT w w'
theorem tfind (base bt room : Nat) (A : List DE) (m : Nat) (s : TS) (k : Int × Int) (w : World) (h : Tab base w bt room A m s) (hb : base ≤ w.heap.size) :
    Calls Try.prog 26 #[ptr bt, encK k, .bool false] w (FoundR base bt room A m k A w) ∧ Calls Try.prog 26 #[ptr bt, encK k, .bool true] w (FoundR base bt room A m k (A.filter fun f => !decide (f.1 = k)) w) := by
  obtain ⟨ht, ok, ha, hr, hm'⟩ := h
  subst ha hr
  have hg : getD k s.A = (getE k s.es).map TE.d := getD_map k s.es
  unfold FoundR
  rw [hg]
  cases hk : getE k s.es with
  | none =>
    have hall : s.A.filter (fun f => !decide (f.1 = k)) = s.A := by
      refine List.filter_eq_self.2 fun f hf => ?_
      obtain ⟨e, he, rfl⟩ := List.mem_map.1 hf
      have : ¬ e.k = k := getE_none hk e he
      simp [TE.d, this]
    rw [hall]
    refine ⟨(find_none base bt s k false w ht ok hk hb).mono ?_, (find_none base bt s k true w ht ok hk hb).mono ?_⟩
    all_goals
      rintro r w' ⟨rfl, ht', hn'⟩
      exact ⟨_, rfl, Seg.nil _ _ _ _, ⟨s, ht', ok, rfl, rfl, hm'⟩, hn'⟩
  | some e =>
    refine ⟨(find_get base bt s k e w ht ok hk hb).mono ?_, (find_take base bt s k e w ht ok hk hb).mono ?_⟩
    · rintro r w' ⟨rfl, ht', hn', hs'⟩
      exact ⟨_, rfl, hs', ⟨s, ht', ok, rfl, rfl, hm'⟩, hn'⟩
    · rintro r w' ⟨rfl, ht', hn', hs'⟩
      refine ⟨_, rfl, hs', ⟨_, ht', ?_, ?_, rfl, hm'⟩, hn'⟩
      · have := ok.sub (fun e => !decide (e.k = k))
        rw [show (s.es.filter fun e => !decide (e.k = k)) = dropK k s.es from rfl, dropK_length ok hk] at this
        exact this
      · exact dropK_d k s.es
theorem tGet (base bt room : Nat) (A : List DE) (m : Nat) (s : TS) (k : Int × Int) (w : World) (h : Tab base w bt room A m s) (hb : base ≤ w.heap.size) :
    Calls Try.prog 13 #[ptr bt, encK k] w (FoundR base bt room A m k A w) := by
  have HP : Hid (∀ w', Below w.heap.size w w' → Calls Try.prog 26 #[ptr bt, encK k, .bool false] w' (FoundR base bt room A m k A w')) := Lib.hid fun w' hb' => (tfind base bt room A m s k w' (h.chain hb') (Nat.le_trans hb hb'.size)).1
  have HB0 := Lib.hid (Below.chainAlloc (Below.refl _ w) (.cells #[.int .i64 k.1, .int .u32 k.2] 35))
  unfold encK at *
  clear h hb
  obtain ⟨Q, hQ⟩ : ∃ Q, FoundR base bt room A m k A w = Q := ⟨_, rfl⟩
  have HQ := Lib.hid hQ
  rw [hQ]
  clear hQ
  go_enter Try.func13, Try.ntmps13
  go_wp2_with fail
  refine (HP.out _ HB0.out).mono ?_
  rintro r w1 ⟨sv, rfl, h1, h2, h3⟩
  have H1 := Lib.hid (And.intro h1 (And.intro h2 ((Turn.of_below HB0.out).trans h3)))
  clear h1 h2 h3
  go_wp2_with fail
  try go_ret2
  rw [← HQ.out]
  exact ⟨sv, rfl, H1.out.1, H1.out.2.1, H1.out.2.2⟩
theorem tTake (base bt room : Nat) (A : List DE) (m : Nat) (s : TS) (k : Int × Int) (w : World) (h : Tab base w bt room A m s) (hb : base ≤ w.heap.size) :
    Calls Try.prog 14 #[ptr bt, encK k] w (FoundR base bt room A m k (A.filter fun f => !decide (f.1 = k)) w) := by
  have HP : Hid (∀ w', Below w.heap.size w w' → Calls Try.prog 26 #[ptr bt, encK k, .bool true] w' (FoundR base bt room A m k (A.filter fun f => !decide (f.1 = k)) w')) := Lib.hid fun w' hb' => (tfind base bt room A m s k w' (h.chain hb') (Nat.le_trans hb hb'.size)).2
  have HB0 := Lib.hid (Below.chainAlloc (Below.refl _ w) (.cells #[.int .i64 k.1, .int .u32 k.2] 35))
  unfold encK at *
  clear h hb
  obtain ⟨Q, hQ⟩ : ∃ Q, FoundR base bt room A m k (A.filter fun f => !decide (f.1 = k)) w = Q := ⟨_, rfl⟩
  have HQ := Lib.hid hQ
  rw [hQ]
  clear hQ
  go_enter Try.func14, Try.ntmps14
  go_wp2_with fail
  refine (HP.out _ HB0.out).mono ?_
  rintro r w1 ⟨sv, rfl, h1, h2, h3⟩
  have H1 := Lib.hid (And.intro h1 (And.intro h2 ((Turn.of_below HB0.out).trans h3)))
  clear h1 h2 h3
  go_wp2_with fail
  try go_ret2
  rw [← HQ.out]
  exact ⟨sv, rfl, H1.out.1, H1.out.2.1, H1.out.2.2⟩
theorem find_nil (k : Int × Int) (g : Bool) (w : World) : Calls Try.prog 26 #[.pointer none, encK k, .bool g] w fun e w' => e = .returned (.tuple #[.slice none 0 0, .bool false]) ∧ Below w.heap.size w w' := by
  unfold encK
  go_enter_defers Try.func26, Try.ntmps26
  go_wp2_with fail
  exact ⟨_, results_tmp2 rfl _ _ _, rfl, Below.chainAlloc (Below.refl _ _) _⟩
theorem get_nil (k : Int × Int) (w : World) : Calls Try.prog 13 #[.pointer none, encK k] w fun e w' => e = .returned (.tuple #[.slice none 0 0, .bool false]) ∧ Below w.heap.size w w' := by
  have HP := Lib.hid (fun w' => find_nil k false w')
  unfold encK at *
  go_enter Try.func13, Try.ntmps13
  go_wp2_with fail
  refine (HP.out _).mono ?_
  rintro r w1 ⟨rfl, h1⟩
  go_wp2_with fail
  go_ret2
  exact ⟨rfl, Below.chain h1 (Below.chainAlloc (Below.refl _ _) _)⟩
theorem take_nil (k : Int × Int) (w : World) : Calls Try.prog 14 #[.pointer none, encK k] w fun e w' => e = .returned (.tuple #[.slice none 0 0, .bool false]) ∧ Below w.heap.size w w' := by
  have HP := Lib.hid (fun w' => find_nil k true w')
  unfold encK at *
  go_enter Try.func14, Try.ntmps14
  go_wp2_with fail
  refine (HP.out _).mono ?_
  rintro r w1 ⟨rfl, h1⟩
  go_wp2_with fail
  go_ret2
  exact ⟨rfl, Below.chain h1 (Below.chainAlloc (Below.refl _ _) _)⟩
theorem put_nil (k : Int × Int) (need : Int) (x : Sh) (w : World) : Calls Try.prog 12 #[.pointer none, encK k, .int .i64 need, shV x] w fun e w' => e = .returned (.int .i64 5) ∧ Below w.heap.size w w' := by
  unfold encK
  go_enter Try.func12, Try.ntmps12
  go_wp2_with fail
  refine (number_any 5 (by decide) _).mono ?_
  rintro r w1 ⟨rfl, h1⟩
  go_wp2_with fail
  go_ret
  exact ⟨rfl, Below.chain h1 (Below.chainAlloc (Below.chainAlloc (Below.refl _ _) _) _)⟩
theorem len_nil (w : World) : Calls Try.prog 11 #[.pointer none] w fun e w' => e = .returned (.int .i64 0) ∧ Below w.heap.size w w' := by
  go_enter_defers Try.func11, Try.ntmps11
  go_wp2_with fail
  exact ⟨_, results_tmp rfl _ _ _, rfl, Below.refl _ _⟩
theorem drop_nil (z : Int) (w : World) : Calls Try.prog 15 #[.pointer none, .int .i64 z] w fun e w' => e = .returned (.int .i64 0) ∧ Below w.heap.size w w' := by
  go_enter Try.func15, Try.ntmps15
  go_wp2_with fail
  go_ret
  exact ⟨rfl, Below.refl _ _⟩
theorem oldest_nil (w : World) : Calls Try.prog 9 #[.pointer none] w fun e w' => e = .returned (.tuple #[encK (0, 0), .bool false]) ∧ Below w.heap.size w w' := by
  go_enter Try.func9, Try.ntmps9
  go_wp2_with fail
  refine bodyPost_ret (v := .tuple #[encK (0, 0), .bool false]) (by simp [results, Try.results9, go_sem, encK]) rfl ⟨rfl, ?_⟩
  exact Below.chainAlloc (Below.refl _ _) _
end Go.Proofs.Ytnommofekjiiaaa
