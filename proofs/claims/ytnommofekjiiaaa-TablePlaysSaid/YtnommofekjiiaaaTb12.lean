/-
  The program's table and the document's side by side (chapter 18).
-/
import Derived.Test.YtnommofekjiiaaaTb9
import Derived.Test.YtnommofekjiiaaaTb10
import Derived.Test.YtnommofekjiiaaaTb11
namespace Go.Proofs.Ytnommofekjiiaaa
open Go Go.RowKit Go.MuLone
set_option linter.unusedVariables false
set_option linter.unusedSimpArgs false
set_option maxRecDepth 100000
set_option maxHeartbeats 2000000
/-- The table with the entries A, the document's with the entries D. -/
structure J18 (base bt room : Nat) (A : List DE) (m : Nat) (v : Value) (D : List DE) (w : World) : Prop where
  t : ∃ s, Tab base w bt room A m s
  d : ∃ vs, DocA base w v D vs
  b : base ≤ w.heap.size
def foundL (k : Int × Int) (A : List DE) : List Sh := ((getD k A).map fun d => d.2.2).getD []
section
variable {base bt room m : Nat} {A D : List DE} {v : Value} {w w' : World}
theorem J18.chain (h : J18 base bt room A m v D w) (hb : Below w.heap.size w w') : J18 base bt room A m v D w' :=
  ⟨h.t.imp fun s hs => hs.chain hb, h.d.imp fun vs hv => hv.chain hb, Nat.le_trans h.b hb.size⟩
theorem J18.setT {b0 : Nat} (h : J18 base bt room A m v D w) (ht : Turn b0 [some 30] w w') : J18 base bt room A m v D w' :=
  ⟨h.t.imp fun s hs => ⟨hs.h.turn ht (by decide) (by decide) (by decide) (by decide) (by decide) (by decide), hs.ok, hs.a, hs.r, hs.m⟩, h.d.imp fun vs hv => hv.turn ht (by decide) (by decide), Nat.le_trans h.b ht.size⟩
theorem J18.dok (h : J18 base bt room A m v D w) (hl : A.length ≤ 1000) : DOkA A := by
  obtain ⟨s, hs⟩ := h.t
  exact hs.dok hl
theorem J18.dform (h : J18 base bt room A m v D w) : ∃ a cap, v = .slice a D.length cap := by
  obtain ⟨vs, hd⟩ := h.d
  exact hd.s.form
theorem found_len (hA : DOkA A) (k : Int × Int) : (foundL k A).length ≤ 1000 := by
  unfold foundL
  cases hg : getD k A with
  | none => simp
  | some d =>
    obtain ⟨i, hi, _, _⟩ := getD_at hg
    have := (hA.e d (List.mem_of_getElem? hi))
    show d.2.2.length ≤ 1000
    omega
theorem J18.rput (h : J18 base bt room A m v A w) (hl : A.length ≤ 900) (hr : room ≤ 1000000) (k1 k2 need xi : Int) (xt : List UInt8) :
    Calls Try.prog 16 #[.agg #[.int .i64 (room : Int), v], .agg #[.int .i64 k1, .int .u32 k2], .int .i64 need, .agg #[.int .i64 xi, Str xt]] w fun e w' => ∃ a cap, e = .returned (.tuple #[.agg #[.int .i64 (room : Int), .slice a (putA room A (k1, k2) need (xi, xt)).length cap], .int .i64 (putV room A (k1, k2) need (xi, xt) : Nat)]) ∧
      J18 base bt room A m (.slice a (putA room A (k1, k2) need (xi, xt)).length cap) (putA room A (k1, k2) need (xi, xt)) w' ∧ Below w.heap.size w w' := by
  obtain ⟨vs, hd⟩ := h.d
  refine (rPut base room (k1, k2) need (xi, xt) v A vs w hd h.b (h.dok (by omega)) (by omega)).mono ?_
  rintro e w' ⟨a, cap, vs', rfl, hd', hb⟩
  exact ⟨a, cap, rfl, ⟨h.t.imp fun s hs => hs.chain hb, ⟨vs', hd'⟩, Nat.le_trans h.b hb.size⟩, hb⟩
theorem J18.tput (h : J18 base bt room A m v D w) (hm : m ≤ 1000000) (k1 k2 need xi : Int) (xt : List UInt8) :
    Calls Try.prog 12 #[ptr bt, .agg #[.int .i64 k1, .int .u32 k2], .int .i64 need, .agg #[.int .i64 xi, Str xt]] w fun e w' => e = .returned (.int .i64 (putV room A (k1, k2) need (xi, xt) : Nat)) ∧
      J18 base bt room (putA room A (k1, k2) need (xi, xt)) (m + 1) v D w' ∧ Turn base KT w w' := by
  obtain ⟨s, hs⟩ := h.t
  refine (tPut base bt room A m s (k1, k2) need (xi, xt) w hs hm h.b).mono ?_
  rintro e w' ⟨rfl, hs', ht⟩
  exact ⟨rfl, ⟨hs', h.d.imp fun vs hv => hv.turn ht (by decide) (by decide), Nat.le_trans h.b ht.size⟩, ht⟩
theorem J18.rget (h : J18 base bt room A m v D w) (hl : D.length ≤ 1000) (k1 k2 : Int) :
    Calls Try.prog 17 #[.agg #[.int .i64 (room : Int), v], .agg #[.int .i64 k1, .int .u32 k2]] w fun e w' => ∃ sv, e = .returned (.tuple #[sv, .bool (getD (k1, k2) D).isSome]) ∧ ShS w' base sv (foundL (k1, k2) D) ∧ Below w.heap.size w w' := by
  obtain ⟨vs, hd⟩ := h.d
  exact rget_any base room k1 k2 v D vs w hd hl
theorem J18.tget (h : J18 base bt room A m v D w) (k1 k2 : Int) :
    Calls Try.prog 13 #[ptr bt, .agg #[.int .i64 k1, .int .u32 k2]] w fun e w' => ∃ sv, e = .returned (.tuple #[sv, .bool (getD (k1, k2) A).isSome]) ∧ ShS w' base sv (foundL (k1, k2) A) ∧ J18 base bt room A m v D w' ∧ Turn base KT w w' := by
  obtain ⟨s, hs⟩ := h.t
  refine (tGet base bt room A m s (k1, k2) w hs h.b).mono ?_
  rintro e w' ⟨sv, rfl, hsv, hs', ht⟩
  exact ⟨sv, rfl, hsv, ⟨hs', h.d.imp fun vs hv => hv.turn ht (by decide) (by decide), Nat.le_trans h.b ht.size⟩, ht⟩
theorem J18.ttake (h : J18 base bt room A m v D w) (k1 k2 : Int) :
    Calls Try.prog 14 #[ptr bt, .agg #[.int .i64 k1, .int .u32 k2]] w fun e w' => ∃ sv, e = .returned (.tuple #[sv, .bool (getD (k1, k2) A).isSome]) ∧ ShS w' base sv (foundL (k1, k2) A) ∧ J18 base bt room (A.filter fun f => !decide (f.1 = (k1, k2))) m v D w' ∧ Turn base KT w w' := by
  obtain ⟨s, hs⟩ := h.t
  refine (tTake base bt room A m s (k1, k2) w hs h.b).mono ?_
  rintro e w' ⟨sv, rfl, hsv, hs', ht⟩
  exact ⟨sv, rfl, hsv, ⟨hs', h.d.imp fun vs hv => hv.turn ht (by decide) (by decide), Nat.le_trans h.b ht.size⟩, ht⟩
theorem keepD_one (k1 k2 : Int) : keepD k1 true k2 = fun f => !decide (f.1 = (k1, k2)) := by
  funext f
  obtain ⟨⟨a, b⟩, r⟩ := f
  unfold keepD
  by_cases h1 : a = k1
  · by_cases h2 : b = k2
    · simp [h1, h2]
    · simp [h1, h2]
  · simp [h1]
theorem keepD_all (z : Int) : keepD z false 0 = fun f => !decide (f.1.1 = z) := by
  funext f
  unfold keepD
  simp
theorem J18.rdrop (h : J18 base bt room A m v D w) (hl : D.length ≤ 1000) (z : Int) (just : Bool) (blk : Int) (p : DE → Bool) (hp : keepD z just blk = p) :
    Calls Try.prog 18 #[.agg #[.int .i64 (room : Int), v], .int .i64 z, .bool just, .int .u32 blk] w fun e w' => ∃ a cap, e = .returned (.tuple #[.agg #[.int .i64 (room : Int), .slice a (D.filter p).length cap], .int .i64 ((D.length - (D.filter p).length : Nat) : Int)]) ∧
      J18 base bt room A m (.slice a (D.filter p).length cap) (D.filter p) w' ∧ Below w.heap.size w w' := by
  subst hp
  obtain ⟨vs, hd⟩ := h.d
  refine (rdrop_any base room z blk just v D vs w hd h.b hl).mono ?_
  rintro e w' ⟨a, cap, vs', rfl, hd', hb⟩
  refine ⟨a, cap, ?_, ⟨h.t.imp fun s hs => hs.chain hb, ⟨vs', hd'⟩, Nat.le_trans h.b hb.size⟩, hb⟩
  have h1 := List.length_filter_le (keepD z just blk) D
  have h2 : ((D.length : Int) - ((D.filter (keepD z just blk)).length : Int)) = ((D.length - (D.filter (keepD z just blk)).length : Nat) : Int) := by omega
  rw [h2]
theorem J18.tdrop (h : J18 base bt room A m v D w) (z : Int) :
    Calls Try.prog 15 #[ptr bt, .int .i64 z] w fun e w' => e = .returned (.int .i64 ((A.length - (A.filter fun f => !decide (f.1.1 = z)).length : Nat) : Int)) ∧ J18 base bt room (A.filter fun f => !decide (f.1.1 = z)) m v D w' ∧ Turn base KT w w' := by
  obtain ⟨s, hs⟩ := h.t
  refine (drop_any base bt room A m s z w hs h.b).mono ?_
  rintro e w' ⟨rfl, hs', ht⟩
  exact ⟨rfl, ⟨hs', h.d.imp fun vs hv => hv.turn ht (by decide) (by decide), Nat.le_trans h.b ht.size⟩, ht⟩
theorem J18.told (h : J18 base bt room A m v D w) :
    Calls Try.prog 9 #[ptr bt] w fun e w' => e = .returned (.tuple #[encK (((oldD A).map Prod.fst).getD (0, 0)), .bool (oldD A).isSome]) ∧ J18 base bt room A m v D w' ∧ Turn base KT w w' := by
  obtain ⟨s, hs⟩ := h.t
  refine (oldest_any base bt room A m s w hs).mono ?_
  rintro e w' ⟨rfl, hs', ht⟩
  exact ⟨rfl, ⟨hs', h.d.imp fun vs hv => hv.turn ht (by decide) (by decide), Nat.le_trans h.b ht.size⟩, ht⟩
theorem J18.rold (h : J18 base bt room A m v D w) (hl : D.length ≤ 1000) :
    Calls Try.prog 10 #[.agg #[.int .i64 (room : Int), v]] w fun e w' => e = .returned (.tuple #[encK (((oldD D).map Prod.fst).getD (0, 0)), .bool (oldD D).isSome]) ∧ Below w.heap.size w w' := by
  obtain ⟨vs, hd⟩ := h.d
  exact rold_any base room v D vs w hd hl
theorem J18.tlen (h : J18 base bt room A m v D w) : Calls Try.prog 11 #[ptr bt] w fun e w' => e = .returned (.int .i64 (A.length : Nat)) ∧ J18 base bt room A m v D w' ∧ Turn base KT w w' := by
  obtain ⟨s, hs⟩ := h.t
  refine (tLen base bt room A m s w hs).mono ?_
  rintro e w' ⟨rfl, hs', ht⟩
  exact ⟨rfl, ⟨hs', h.d.imp fun vs hv => hv.turn ht (by decide) (by decide), Nat.le_trans h.b ht.size⟩, ht⟩
end
/-- What the law's deed answers. -/
def Did18 (base bt room : Nat) (A' : List DE) (m' : Nat) (w : World) (e : Ending) (w' : World) : Prop :=
  ∃ a cap, e = .returned (.tuple #[.agg #[.int .i64 (room : Int), .slice a A'.length cap], .bool true]) ∧ J18 base bt room A' m' (.slice a A'.length cap) A' w' ∧ Turn base KT w w'
theorem did_fin {base bt room m' b6 : Nat} {A' : List DE} {w w5 : World} {a : Option Addr} {cap : Nat} {u0 u1 : Value} (h5 : J18 base bt room A' m' (.slice a A'.length cap) A' w5) (ht : Turn base KT w w5) (h6 : Blk w5 b6 #[u0, u1] 30) (hlo : w.heap.size ≤ b6) :
    Did18 base bt room A' m' w (.returned (.tuple #[.agg #[.int .i64 (room : Int), .slice a A'.length cap], .bool true])) ((w5.setCell ⟨b6, 0, none⟩ (.int .i64 (room : Int))).setCell ⟨b6, 1, none⟩ (.slice a A'.length cap)) := by
  have ho := only_two w5 b6 (.int .i64 (room : Int)) (.slice a A'.length cap)
  exact ⟨a, cap, rfl, h5.setT (b0 := 0) (Turn.only1 ho (Nat.zero_le _) h6 (by simp)), ht.fresh ho hlo⟩
theorem Did18.drew {base bt room m' : Nat} {A' : List DE} {w w' : World} {e : Ending} (h : Did18 base bt room A' m' w e w') : Did18 base bt room A' m' w e w'.drew := by
  obtain ⟨a, cap, h1, h2, h3⟩ := h
  exact ⟨a, cap, h1, h2.chain (Below.refl _ _).drew, h3.step (Below.refl _ _).drew⟩
end Go.Proofs.Ytnommofekjiiaaa
