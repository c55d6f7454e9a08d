/-
  Stats: a number comes in: contracts (chapter 51).
-/
import Derived.Test.YtdjjienklfbalaaIns2
import Derived.Test.YtdjjienklfbalaaShelf
namespace Go.Proofs.Ytdjjienklfbalaa
open Go.RowKit
set_option linter.unusedVariables false
set_option maxRecDepth 100000
set_option maxHeartbeats 1000000
abbrev ints (zs : List Int) : List Value := zs.map (Value.int .i64)
/-- Block b holds these numbers, in order, and their sum. -/
def St (w : World) (b : Nat) (zs : List Int) (sum : Int) : Prop := ∃ v, Blk w b #[v, .int .i64 sum] 206 ∧ Seg w (b + 1) 3 1 v zs.length (ints zs)
theorem St.lt {w : World} {b : Nat} {zs : List Int} {sum : Int} (h : St w b zs sum) : b < w.heap.size := by
  obtain ⟨v, h1, h2⟩ := h
  exact h1.lt
theorem St.below {w w' : World} {b : Nat} {zs : List Int} {sum : Int} (h : St w b zs sum) (hb : Below w.heap.size w w') : St w' b zs sum := by
  obtain ⟨v, h1, h2⟩ := h
  exact ⟨v, h1.below hb h1.lt, h2.chain hb⟩
theorem bs_any (base : Nat) (v : Value) (zs : List Int) (x : Int) (w : World) (hs : Seg w base 3 1 v zs.length (ints zs)) (hz : zs.length < 4611686018427387904) (ho : zs.Pairwise (· ≤ ·)) :
    Calls Try.prog 105 #[v, .int .i64 x] w fun e w' => (∃ bb, e = .returned (.tuple #[.int .i64 (zs.countP (· < x) : Nat), .bool bb])) ∧ Below w.heap.size w w' := by
  obtain ⟨a, cap, rfl⟩ := hs.form
  by_cases h0 : zs = []
  · subst h0
    refine (Try.slices_BinarySearch_int_empty a cap x w).mono ?_
    rintro e w' ⟨rfl, rfl⟩
    exact ⟨⟨false, rfl⟩, Below.refl _ _⟩
  · have hp : 0 < zs.length := List.length_pos_iff.2 h0
    obtain ⟨g, off, cap', hv, _⟩ := hs.shape hp
    injection hv with ha hb hc
    subst ha
    have hcells : ∀ j, j < zs.length → w.cell? ⟨g, off + j, none⟩ = some (.int .i64 (zs.getD j 0)) := fun j hj => by
      rw [hs.at j (by omega)]
      simp [hj]
    have h := Try.slices_BinarySearch_int g off zs.length cap zs x w (Nat.le_refl _) hz hcells (by rw [List.take_length]; exact ho)
    rw [List.take_length] at h
    refine h.mono ?_
    rintro e w' ⟨rfl, q, rfl⟩
    exact ⟨⟨_, rfl⟩, ⟨rfl, rfl, rfl, Nat.le_refl _, fun _ _ => rfl⟩⟩
def insZ (zs : List Int) (x : Int) : List Int := zs.take (zs.countP (· < x)) ++ x :: zs.drop (zs.countP (· < x))
theorem insZ_ints (zs : List Int) (x : Int) : insAt (ints zs) (zs.countP (· < x)) (.int .i64 x) = ints (insZ zs x) := by
  unfold insAt insZ
  simp
theorem insZ_length (zs : List Int) (x : Int) : (insZ zs x).length = zs.length + 1 := by
  have := List.countP_le_length (p := (· < x)) (l := zs)
  unfold insZ
  simp
  omega
theorem len_st (b : Nat) (zs : List Int) (sum : Int) (w : World) (h : St w b zs sum) : Calls Try.prog 55 #[.pointer (some ⟨b, 0, none⟩)] w fun e w' => e = .returned (.int .i64 (zs.length : Nat)) ∧ w' = w := by
  obtain ⟨v, h1, h2⟩ := h
  obtain ⟨a, cap, rfl⟩ := h2.form
  obtain ⟨c1, f1, l1⟩ := h1.facts
  clear h1 h2
  generalize zs.length = n at *
  go_enter Try.func55, Try.ntmps55
  go_wp2_with fail
  go_ret
  exact ⟨rfl, rfl⟩
theorem add_bad (b : Nat) (x : Int) (hx : x < 0 ∨ 1073741824 < x) (w : World) : Calls Try.prog 54 #[.pointer (some ⟨b, 0, none⟩), .int .i64 x] w fun e w' => e = .returned (.int .i64 2) ∧ w' = w := by
  by_cases h0 : x < 0
  · have d0 : decide (x < 0) = true := by simpa using h0
    clear hx
    go_enter Try.func54, Try.ntmps54
    go_wp2_with fail
    go_ret
    exact ⟨rfl, rfl⟩
  · have d0 : decide (x < 0) = false := by simpa using h0
    have d1 : decide (1073741824 < x) = true := by simp; omega
    clear hx h0
    go_enter Try.func54, Try.ntmps54
    go_wp2_with fail
    go_ret
    exact ⟨rfl, rfl⟩
theorem add_nil (x : Int) (w : World) : Calls Try.prog 54 #[.pointer none, .int .i64 x] w fun e w' => e = .returned (.int .i64 17) ∧ w' = w := by
  go_enter Try.func54, Try.ntmps54
  go_wp2_with fail
  go_ret
  exact ⟨rfl, rfl⟩
theorem add_fr (b : Nat) (v : Value) (zs : List Int) (sum x : Int) (w : World) (h1 : Blk w b #[v, .int .i64 sum] 206) (h2 : Seg w (b + 1) 3 1 v zs.length (ints zs)) (ho : zs.Pairwise (· ≤ ·)) (hl : zs.length < 65536) (hs0 : 0 ≤ sum) (hs1 : sum ≤ 1099511627776) (hx0 : 0 ≤ x) (hx1 : x ≤ 1073741824) :
    Calls Try.prog 54 #[.pointer (some ⟨b, 0, none⟩), .int .i64 x] w fun e w' => ∃ v', e = .returned (.int .i64 0) ∧ Blk w' b #[v', .int .i64 (sum + x)] 206 ∧ Seg w' (b + 1) 3 1 v' (insZ zs x).length (ints (insZ zs x)) ∧ Below b w w' ∧ Only (b :: v.ownBlock.toList) w w' ∧ ∀ q, v'.ownBlock = some q → v.ownBlock = some q ∨ w.heap.size ≤ q := by
  have hcp := List.countP_le_length (p := (· < x)) (l := zs)
  have hwr : IntKind.i64.wrap (sum + x) = sum + x := by rw [IntWalk.i64_in _ (by omega)]
  have HBS := Lib.hid (fun w hs => bs_any (b + 1) v zs x w hs (by omega) ho)
  have HLen := Lib.hid (insZ_length zs x)
  have HIns := Lib.hid (insZ_ints zs x)
  have HIA := Lib.hid (fun vb w hs hvb hne hbase => ins_any (b + 1) v zs.length (zs.countP (· < x)) (ints zs) (.int .i64 x) vb w hs (fun y hy => by obtain ⟨z, _, rfl⟩ := List.mem_map.1 hy; rfl) rfl hvb hne hcp (by omega) hbase)
  generalize zs.countP (· < x) = kk at *
  generalize insZ zs x = zs' at *
  obtain ⟨a, cap, rfl⟩ := h2.form
  generalize hn : zs.length = n at *
  obtain ⟨c1, f1, l1⟩ := h1.facts
  have d0 : decide (x < 0) = false := by simp; omega
  have d1 : decide (1073741824 < x) = false := by simp; omega
  have d2 : decide (65536 ≤ (n : Int)) = false := by simp; omega
  have HW := Lib.hid hn
  clear hn
  go_enter Try.func54, Try.ntmps54
  go_wp2_with fail
  refine (HBS.out _ h2).mono ?_
  rintro e w1 ⟨⟨bb, rfl⟩, hb⟩
  have k1 := h1.below hb h1.lt
  have s1 := h2.chain hb
  have hB1 := hb.mono (Nat.le_of_lt l1)
  have hO1 : Only (b :: (Value.slice a n cap).ownBlock.toList) w w1 := Only.of_below hb
  have hsw := hb.size
  clear h1 h2 c1 f1 hb HBS
  have k2 := k1.alloc (.cells #[.int .i64 x] 3)
  have s2 := s1.alloc (.cells #[.int .i64 x] 3)
  have x2 := Blk.new w1 #[.int .i64 x] 3
  have hB2 := hB1.alloc (Nat.le_of_lt k1.lt) (.cells #[.int .i64 x] 3)
  have hO2 := Only.alloc hO1 (.cells #[.int .i64 x] 3)
  have hlt := k1.lt
  have hob : ∀ g, (Value.slice a n cap).ownBlock = some g → b + 1 ≤ g ∧ g < w1.heap.size := fun g hg => s1.blk g hg
  obtain ⟨c1, f1, l1'⟩ := k1.facts
  clear k1 s1 hB1
  go_wp2_with fail
  refine (HIA.out _ _ s2 x2 (fun e => by have := (hob _ e).2; omega) (by simp; omega)).mono ?_
  rintro e w3 ⟨a3, cap3, rfl, s3, ho3, hq3⟩
  have k3 := k2.only ho3 (fun hm => by
    have := (hob b (by simpa using hm)).1
    omega)
  have hB3 : Below b w w3 := hB2.trans (ho3.below (by simp; omega) (fun y hy => by have := (hob y (by simpa using hy)).1; omega))
  have hO3 : Only (b :: (Value.slice a n cap).ownBlock.toList) w w3 := (hO2.trans (ho3.mono (fun y hy => .inl (List.mem_cons_of_mem _ hy))))
  clear k2 s2 x2 hB2 HIA ho3 c1 f1 hO2
  obtain ⟨c3, f3, l3⟩ := k3.facts
  go_wp2_with fail
  have k4 := (k3.set 0 (.slice a3 (n + 1) cap3)).set 1 (.int .i64 (sum + x))
  have s4 := (s3.setOther ⟨b, 0, none⟩ (.slice a3 (n + 1) cap3) (fun g hg e => by have h := (s3.blk g hg).1; simp at e; omega)).setOther ⟨b, 1, none⟩ (.int .i64 (sum + x)) (fun g hg e => by have h := (s3.blk g hg).1; simp at e; omega)
  have hB4 := (hB3.setCell (p := ⟨b, 0, none⟩) (Nat.le_refl _) (.slice a3 (n + 1) cap3)).setCell (p := ⟨b, 1, none⟩) (Nat.le_refl _) (.int .i64 (sum + x))
  have hO4 := (hO3.setCell ⟨b, 0, none⟩ (.slice a3 (n + 1) cap3) (.inl (List.mem_cons_self))).setCell ⟨b, 1, none⟩ (.int .i64 (sum + x)) (.inl (List.mem_cons_self))
  go_ret
  refine ⟨.slice a3 (n + 1) cap3, rfl, by simpa using k4, ?_, hB4, hO4, fun q hq => (hq3 q hq).imp id (fun h => by simp at h; omega)⟩
  rw [HLen.out, ← HIns.out]
  exact s4
theorem add_st (b : Nat) (zs : List Int) (sum x : Int) (w : World) (h : St w b zs sum) (ho : zs.Pairwise (· ≤ ·)) (hl : zs.length < 65536) (hs0 : 0 ≤ sum) (hs1 : sum ≤ 1099511627776) (hx0 : 0 ≤ x) (hx1 : x ≤ 1073741824) :
    Calls Try.prog 54 #[.pointer (some ⟨b, 0, none⟩), .int .i64 x] w fun e w' => e = .returned (.int .i64 0) ∧ St w' b (insZ zs x) (sum + x) ∧ Below b w w' := by
  obtain ⟨v, h1, h2⟩ := h
  refine (add_fr b v zs sum x w h1 h2 ho hl hs0 hs1 hx0 hx1).mono ?_
  rintro e w' ⟨v', rfl, k, s, hb, _, _⟩
  exact ⟨rfl, ⟨v', k, s⟩, hb⟩
end Go.Proofs.Ytdjjienklfbalaa
