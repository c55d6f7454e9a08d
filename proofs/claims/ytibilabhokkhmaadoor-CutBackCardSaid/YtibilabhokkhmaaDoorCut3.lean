/-
  Cut: the iterator over a text's shards, and Cut (chapter 6).
-/
import Derived.Test.YtibilabhokkhmaaDoorCut2
import Derived.Test.YtibilabhokkhmaaDoorRgF
namespace Go.Proofs.YtibilabhokkhmaaDoor
open Go.RowKit
set_option linter.unusedVariables false
set_option maxRecDepth 100000
set_option maxHeartbeats 2000000
attribute [local go_sem] Oper.semAt_some
/-- Shard i of a text. -/
def partC (s : List UInt8) (n i : Nat) : List UInt8 := (s.drop (i * n)).take n ++ List.replicate (n - (s.drop (i * n)).length) 0
def partsC (s : List UInt8) (n k : Nat) : List (List UInt8) := (List.range k).map (partC s n)
theorem partsC_succ (s : List UInt8) (n k : Nat) : partsC s n (k + 1) = partsC s n k ++ [partC s n k] := by simp [partsC, List.range_succ]
theorem rest_succ (s : List UInt8) (n i : Nat) : (s.drop (i * n)).drop (min n (s.drop (i * n)).length) = s.drop ((i + 1) * n) := by
  rw [Nat.succ_mul, ← List.drop_drop]
  by_cases h : n ≤ (s.drop (i * n)).length
  · rw [Nat.min_eq_left h]
  · rw [Nat.min_eq_right (by omega), List.drop_length, List.drop_of_length_le (by omega)]
theorem part_min (s : List UInt8) (n i : Nat) : partC s n i = (s.drop (i * n)).take (min n (s.drop (i * n)).length) ++ List.replicate (n - min n (s.drop (i * n)).length) 0 := by
  unfold partC
  by_cases h : n ≤ (s.drop (i * n)).length
  · rw [Nat.min_eq_left h, show n - (s.drop (i * n)).length = 0 by omega, Nat.sub_self]
  · rw [Nat.min_eq_right (by omega), List.take_of_length_le (by omega), List.take_of_length_le (Nat.le_refl _)]
/-- What a round keeps: the iterator's three boxes. -/
def KpC (b : Nat) (A B : World) : Prop := A.heap.size ≤ B.heap.size ∧ ∀ r, b ≤ r → r < b + 3 → B.heap[r]? = A.heap[r]?
theorem KpC.trans {b : Nat} {A B C : World} (h : KpC b A B) (k : KpC b B C) : KpC b A C := ⟨Nat.le_trans h.1 k.1, fun r h1 h2 => (k.2 r h1 h2).trans (h.2 r h1 h2)⟩
theorem KpC.blk {b r : Nat} {A B : World} (h : KpC b A B) {cs : Array Value} {t : TypeId} (hb : Blk A r cs t) (h1 : b ≤ r) (h2 : r < b + 3) : Blk B r cs t := (h.2 r h1 h2).trans hb
theorem grown_of_below {a b : World} (h : Below a.heap.size a b) : a.grownBy b none := ⟨h.os, h.tape, h.output, h.size, fun k hk _ => h.block k hk⟩
theorem rep_c (m : Nat) (w : World) (hm : m ≤ 100000) : Calls Tryd.prog 20 #[.string ⟨#[0]⟩, .int .i64 (m : Nat)] w fun e w' => e = .returned (Str (List.replicate m 0)) ∧ Below w.heap.size w w' := by
  have := Tryd.strings_Repeat ⟨#[0]⟩ m w (by omega) (by show 1 * m ≤ _; omega)
  have e1 : Lib.repeatL ((⟨#[0]⟩ : ByteArray).data.toList) m = List.replicate m 0 := by
    have := Lib.repeatL_replicate 0 1 m
    rw [Nat.mul_one] at this
    exact this
  rw [e1] at this
  exact this
theorem app_c (x y : List UInt8) : (⟨x.toArray⟩ ++ ⟨y.toArray⟩ : ByteArray) = ⟨(x ++ y).toArray⟩ := ByteArray.mk_append_mk x y
/-- All that a round reckons. -/
theorem round_c (s : List UInt8) (n i : Nat) (R : List UInt8) (hR : s.drop (i * n) = R) (hn : n ≤ 100000) (hs : s.length ≤ 1000000000) : ∃ (M m : Nat) (X Z : List UInt8),
    min (n : Int) (R.length : Int) = (M : Int) ∧ (0 : Int) ≤ (M : Int) ∧ (M : Int) ≤ (R.length : Int) ∧ (n : Int) - (M : Int) = (m : Int) ∧ wrap64 (m : Int) = (m : Int) ∧ IntKind.i64.wrap (m : Int) = (m : Int) ∧
    (⟨R.toArray⟩ : ByteArray).extract 0 M = ⟨X.toArray⟩ ∧ X.length ≤ 100000 ∧ Z.length ≤ 100000 ∧ Hid (partC s n i = X ++ Z) ∧ Hid (R.drop M = s.drop ((i + 1) * n)) ∧
    Hid (∀ w, Calls Tryd.prog 20 #[.string ⟨#[0]⟩, .int .i64 (m : Nat)] w fun e w' => e = .returned (Str Z) ∧ Below w.heap.size w w') := by
  have hp := part_min s n i
  have hr := rest_succ s n i
  rw [hR] at hp hr
  refine ⟨min n R.length, n - min n R.length, R.take (min n R.length), List.replicate (n - min n R.length) 0, by omega, by omega, by omega, by omega, IntWalk.wrap64_in _ (by omega), IntWalk.i64_in _ (by omega), ?_, ?_, ?_, Lib.hid hp, Lib.hid hr, Lib.hid (fun w => rep_c _ w (by omega))⟩
  · rw [ext_list, List.drop_zero]
  · simp; omega
  · simp; omega
theorem it_c (b : Nat) (s : List UInt8) (k n : Nat) (hk : k ≤ 1000) (hn : n ≤ 100000) (hs : s.length ≤ 1000000000) (w0 : World) (hK : Blk w0 (b + 1) #[.int .i64 (k : Nat)] 3) (hN : Blk w0 (b + 2) #[.int .i64 (n : Nat)] 3) (hS : Blk w0 b #[Str s] 9) :
    SeqO Fence.wide 2 Tryd.prog 19 #[.pointer (some ⟨b + 1, 0, none⟩), .pointer (some ⟨b + 2, 0, none⟩), .pointer (some ⟨b, 0, none⟩)] (fun x : List UInt8 => #[Str x]) (KpC b) (fun r => r = b) (fun ys => ys = partsC s n k) (fun _ => True) k w0 := by
  intro l J Jx W hW hJ hJx hY h0
  have hK1 : Blk W (b + 1) #[.int .i64 (k : Nat)] 3 := hK.below hW hK.lt
  have hN1 : Blk W (b + 2) #[.int .i64 (n : Nat)] 3 := hN.below hW hN.lt
  have hS1 : Blk W b #[Str s] 9 := hS.below hW hS.lt
  clear hK hN hS hW
  obtain ⟨c1, f1, l1⟩ := hK1.facts
  refine callsIn_of_wp Tryd.func19 rfl trivial ?_ rfl
  simp only [Tryd.ntmps19, List.size_toArray, List.length_cons, List.length_nil, Nat.reduceAdd, Nat.reduceSub, Array.replicate_succ, Array.replicate_zero, List.push_toArray, List.append_toArray, List.nil_append, List.cons_append]
  gi_wp2
  have HY := Lib.hid hY
  have HK := Lib.hid hK1
  clear hY c1 f1 l1 hK1
  gi_loopw [8] (fun p wr => ∃ i : Nat, i ≤ k ∧ p = .int .i64 (i : Nat) ∧ J (partsC s n i) wr ∧ Hid (Blk wr (b + 2) #[.int .i64 (n : Nat)] 3) ∧ Hid (Blk wr b #[Str (s.drop (i * n))] 9)) (fun p _ => k - (intOf p).toNat)
  case atStart =>
    exact ⟨0, Nat.zero_le _, rfl, h0, Lib.hid hN1, Lib.hid (by simpa using hS1)⟩
  case round =>
    obtain ⟨i, hi, rfl, hJi, HN, HS⟩ := hrel
    clear hN1 hS1
    by_cases hlt : i < k
    · obtain ⟨R, hR⟩ : ∃ R, s.drop (i * n) = R := ⟨_, rfl⟩
      rw [hR] at HS
      have hRl : R.length ≤ 1000000000 := by rw [← hR]; simp; omega
      obtain ⟨M, m, X, Z, hMi, hM3, hM4, hM5, hM6, hM7, hex, hX, hZ, HP, HR, HRep⟩ := round_c s n i R hR hn hs
      have HJ := Lib.hid hJi
      have hap := app_c
      clear hR hJi
      have hs5 : ¬ 9223372036854775807 < X.length + Z.length := by omega
      have hlt' : (i : Int) < (k : Int) := by omega
      obtain ⟨c2, f2, l2⟩ := HN.out.facts
      obtain ⟨c3, f3, l3⟩ := HS.out.facts
      gi_wp2
      have hmk : ∀ w', Below wr.heap.size wr w' → ((w'.cell? ⟨b + 2, 0, none⟩ = some (.int .i64 (n : Nat)) ∧ w'.cell? ⟨b, 0, none⟩ = some (Str R)) ∧ Below wr.heap.size wr w') := fun w' h =>
        ⟨⟨(h.cell (p := ⟨b + 2, 0, none⟩) l2).trans (c2 0), (h.cell (p := ⟨b, 0, none⟩) l3).trans (c3 0)⟩, h⟩
      have HMK := Lib.hid hmk
      clear hmk c2 c3 f2 f3
      refine wpIn_wide.2 ?_
      go_region_held3 (fun w' => (w'.cell? ⟨b + 2, 0, none⟩ = some (.int .i64 (n : Nat)) ∧ w'.cell? ⟨b, 0, none⟩ = some (Str R)) ∧ Below wr.heap.size wr w')
        (first
          | exact HMK.out _ (Below.refl _ _).drew
          | exact HMK.out _ (Below.refl _ _)
          | (go_split_ands; exact HMK.out _ (Below.chain hb (by first | assumption | exact (Below.refl _ _).drew | exact Below.refl _ _))))
        ((go_at_call 20; refine (HRep.out _).mono ?_; rintro x w3 ⟨rfl, hb⟩))
      rename_i hHeld
      obtain ⟨_, hbb⟩ := hHeld
      have hJ3 := hJ _ _ _ _ HJ.out (grown_of_below hbb) (fun r e => by cases e)
      have hN3 := HN.out.below hbb HN.out.lt
      have hS3 := HS.out.below hbb HS.out.lt
      clear hb hbb
      obtain ⟨fn, tmps, assign, body, hy, hR⟩ := HY.out _ (X ++ Z) w3 hJ3 (by simp [partsC]; omega)
      gi_wp2
      refine hR.mono ?_
      rintro e W4 (⟨rfl, hJ4, hk4⟩ | ⟨rfl, hJx4⟩)
      · have hN4 := hk4.blk hN3 (by omega) (by omega)
        have hS4 := hk4.blk hS3 (by omega) (by omega)
        have HN4 := Lib.hid hN4
        have HJ4 := Lib.hid hJ4
        clear hN4 hJ4 hk4 hN3 hS3 hJ3 hy hR
        obtain ⟨c5, f5, l5⟩ := hS4.facts
        gi_wp2
        have e : (⟨R.toArray⟩ : ByteArray).extract M R.length = ⟨(s.drop ((i + 1) * n)).toArray⟩ := by rw [ext_list, List.take_length, HR.out]
        rw [e]
        refine ⟨⟨i + 1, hlt, by go_num, ?_, ?_, ?_⟩, by simp [intOf]; omega⟩
        · rw [partsC_succ, HP.out]
          exact hJ _ _ _ (some b) HJ4.out (grownBy_setCell' W4 b _) (fun r e => by cases e; rfl)
        · exact Lib.hid (HN4.out.setOther _ _ (by simp))
        · exact Lib.hid (Blk.setAt hS4 0 _ rfl)
      · gi_wp2
        refine bodyPost_ret (results_none rfl _ _ _) rfl ?_
        exact ⟨⟨_, rfl⟩, .inr ⟨_, trivial, hJx4⟩⟩
    · obtain rfl : i = k := by omega
      have hlt' : ¬ (i : Int) < (i : Int) := by omega
      gi_wp2
      go_end0
      exact ⟨⟨_, rfl⟩, .inl hJi⟩
theorem shards_c (s : List UInt8) (k n : Nat) (w : World) : Calls Tryd.prog 14 #[Str s, .int .i64 (k : Nat), .int .i64 (n : Nat)] w fun e w' =>
    e = .returned (.func (.func 19) #[] #[.pointer (some ⟨w.heap.size + 1, 0, none⟩), .pointer (some ⟨w.heap.size + 2, 0, none⟩), .pointer (some ⟨w.heap.size, 0, none⟩)]) ∧
    Blk w' w.heap.size #[Str s] 9 ∧ Blk w' (w.heap.size + 1) #[.int .i64 (k : Nat)] 3 ∧ Blk w' (w.heap.size + 2) #[.int .i64 (n : Nat)] 3 ∧ Below w.heap.size w w' ∧ w'.heap.size = w.heap.size + 3 := by
  have h1 := Blk.new w #[Str s] 9
  have h2 := Blk.newAt (w := w.alloc (.cells #[Str s] 9)) (n := w.heap.size + 1) (cs := #[.int .i64 (k : Nat)]) (t := 3) (by simp)
  have h3 := Blk.newAt (w := (w.alloc (.cells #[Str s] 9)).alloc (.cells #[.int .i64 (k : Nat)] 3)) (n := w.heap.size + 2) (cs := #[.int .i64 (n : Nat)]) (t := 3) (by simp)
  have hB : Below w.heap.size w (((w.alloc (.cells #[Str s] 9)).alloc (.cells #[.int .i64 (k : Nat)] 3)).alloc (.cells #[.int .i64 (n : Nat)] 3)) := (((Below.refl _ w).alloc (Nat.le_refl _) _).alloc (by simp) _).alloc (by simp; omega) _
  have HH := Lib.hid (And.intro ((h1.alloc (.cells #[.int .i64 (k : Nat)] 3)).alloc (.cells #[.int .i64 (n : Nat)] 3)) (And.intro (h2.alloc (.cells #[.int .i64 (n : Nat)] 3)) (And.intro h3 hB)))
  clear h1 h2 h3 hB
  go_enter Tryd.func14, Tryd.ntmps14
  go_wp2_with fail
  go_ret
  exact ⟨rfl, HH.out.1, HH.out.2.1, HH.out.2.2.1, HH.out.2.2.2, by simp⟩
theorem infoStr : (Tryd.prog.info? 9).map (fun i => (i.zero, i.size, i.bytes)) = some (some (Str []), 1, 16) := by kernel_rfl
theorem owns_low {W : World} {base base' : Nat} {e : TypeId} {size : Nat} {v : Value} {n : Nat} {xs : List Value} (h : W.ownsRow base e size v n xs) (hb : base' ≤ base) : W.ownsRow base' e size v n xs :=
  ⟨h.1, h.2.imp id (fun ⟨g, cap, cur, hv, hg, r⟩ => ⟨g, cap, cur, hv, Nat.le_trans hb hg, r⟩)⟩
theorem owns_blk {W : World} {base : Nat} {e : TypeId} {size : Nat} {v : Value} {n : Nat} {xs : List Value} (h : W.ownsRow base e size v n xs) : ∀ g, v.ownBlock = some g → base ≤ g ∧ ∃ o : Obj, W.heap[g]? = some o ∧ o.isCells = true := fun g hg => by
  rcases h.2 with ⟨rfl, _⟩ | ⟨g', cap, cur, rfl, hb, hh, _⟩
  · cases hg
  · obtain rfl : g' = g := by simpa [Value.ownBlock] using hg
    exact ⟨hb, _, hh, rfl⟩
theorem owns_slAt {W : World} {base B : Nat} {e : TypeId} {v : Value} {n : Nat} {xs : List Value} (h : W.ownsRow base e 1 v n xs) : SlAt B W e v xs := by
  obtain ⟨h1, h2⟩ := h
  rw [Nat.mul_one] at h1
  rcases h2 with ⟨rfl, rfl⟩ | ⟨g, cap, cur, rfl, hb, hh, hc, hm, hs, ht⟩
  · obtain rfl := List.eq_nil_of_length_eq_zero h1
    exact SlAt.nil _ _ _
  · refine ⟨_, cap, by rw [h1], by omega, hm, .inr ⟨g, 0, rfl, (Array.getElem?_eq_some_iff.1 hh).1, .inr ⟨_, _, hh⟩, fun j hj => ?_⟩⟩
    have hb : Blk W g cur e := hh
    rw [Nat.zero_add, hb.facts.1 j]
    subst ht
    simp at hj
    simp
/-- What stands between two rounds. -/
def InvC (w : World) (pre : List (List UInt8)) (W : World) : Prop :=
  (∃ v, Boxed W w.heap.size 23 v ∧ W.ownsRow (w.heap.size + 4) 9 1 v pre.length (pre.map Str)) ∧ Below w.heap.size w W ∧ w.heap.size + 4 ≤ W.heap.size
theorem inv_own (w : World) (B : Nat) (hB : w.heap.size ≤ B) : OwnO B (fun r => r = w.heap.size + 1) (InvC w) := by
  rintro s W W' row ⟨⟨v, hv, hr⟩, hb, hsz⟩ hg hrow
  refine ⟨⟨v, hv.kept hg (fun e => ?_), hr.kept hg ?_⟩, ⟨hg.os.trans hb.os, hg.tape.trans hb.tape, hg.output.trans hb.output, Nat.le_trans hb.size hg.size, fun k hk => (hg.block k (Nat.lt_of_lt_of_le hk hb.size) (fun e => ?_)).trans (hb.block k hk)⟩, Nat.le_trans hsz hg.size⟩
  · rcases hrow _ e.symm with h | ⟨_, o, ho, hc⟩
    · omega
    · rw [show W.heap[w.heap.size]? = _ from hv] at ho
      cases ho
      cases hc
  · cases hb : v.ownBlock with
    | none => exact .inl rfl
    | some g =>
      refine .inr (fun e => ?_)
      obtain ⟨h1, o, ho, hc⟩ := owns_blk hr g hb
      rcases hrow _ e.symm with h | ⟨_, o', ho', hc'⟩
      · omega
      · rw [ho] at ho'
        cases ho'
        rw [hc] at hc'
        cases hc'
  · rcases hrow _ e.symm with h | ⟨h, _⟩ <;> omega
theorem cut_ok (s : List UInt8) (k n : Nat) (hk0 : 1 ≤ k) (hk : k ≤ 32) (hs0 : 0 < s.length) (hs : s.length ≤ k * 1024) (hn : sizeC (s.length : Nat) (k : Nat) = (n : Int)) (hn1 : n ≤ 100000) (w : World) :
    Calls Tryd.prog 7 #[Str s, .int .i64 (k : Nat)] w fun e w' => ∃ v, e = .returned (.tuple #[v, .int .i64 0]) ∧ SlAt 0 w' 9 v ((partsC s n k).map Str) ∧ Below w.heap.size w w' := by
  obtain ⟨i0, hi, hz0, hz1, hz2⟩ := info_parts infoStr
  have hsz := (sizes_c (s.length : Nat) (k : Nat) (by omega) (by omega) (w.alloc (.cells #[.slice none 0 0] 23))).1
  rw [hn] at hsz
  have HSZ := Lib.hid hsz
  have HSH := Lib.hid (shards_c s k n (w.alloc (.cells #[.slice none 0 0] 23)))
  have h1 : ¬ (k : Int) < 1 := by omega
  have h2 : ¬ (32 : Int) < (k : Int) := by omega
  have h3 : s.isEmpty = false := by cases s with | nil => simp at hs0 | cons a s => rfl
  have h4 : ¬ (k : Int) * 1024 < (s.length : Int) := by omega
  have h5 : wrap64 ((k : Int) * 1024) = (k : Int) * 1024 := IntWalk.wrap64_in _ (by omega)
  have hs9 : s.length ≤ 1000000000 := by omega
  clear hsz hs0 hs hk0
  refine (callsIn_wide (n := 3)).1 ?_
  refine callsIn_of_wp_marks Tryd.func7 rfl trivial ?_ rfl
  simp only [Tryd.ntmps7, List.size_toArray, List.length_cons, List.length_nil, Nat.reduceAdd, Nat.reduceSub, Array.replicate_succ, Array.replicate_zero, List.push_toArray, List.append_toArray, List.nil_append, List.cons_append]
  gi_wp2_with fail
  refine ⟨trivial, (callsIn_wide.2 HSZ.out).mono ?_⟩
  rintro e w1 ⟨rfl, rfl⟩
  gi_wp2_with fail
  refine ⟨trivial, (callsIn_wide.2 HSH.out).mono ?_⟩
  rintro e w1 ⟨rfl, hbS, hbK, hbN, hb1, hsz1⟩
  gi_wp2_with fail
  have eS : (w.alloc (.cells #[.slice none 0 0] 23)).heap.size = w.heap.size + 1 := by simp
  rw [eS] at hbS hbK hbN hb1 hsz1
  have bO := Boxed.new w 23 (.slice none 0 0)
  have bO1 : Boxed w1 w.heap.size 23 (.slice none 0 0) := (hb1.block _ (by omega)).trans bO
  have hB1 : Below w.heap.size w w1 := ((Below.refl _ w).alloc (Nat.le_refl _) _).trans (hb1.mono (by omega))
  clear HSZ HSH hb1 bO
  refine wpIn_rangeFunc_O rfl (by decide) (gf := 19) (lb := #[.pointer (some ⟨w.heap.size + 1 + 1, 0, none⟩), .pointer (some ⟨w.heap.size + 1 + 2, 0, none⟩), .pointer (some ⟨w.heap.size + 1, 0, none⟩)]) rfl trivial (enters_of Tryd.func19 (by kernel_rfl) rfl)
    (O := fun r => r = w.heap.size + 1) (fun r e => by omega) (it_c (w.heap.size + 1) s k n (by omega) hn1 hs9 w1 hbK hbN hbS) (fun h h' => h.trans h')
    (fun W l o' hl => ⟨by simp, fun r h1 h2 => World.putObj_heap_other (by omega)⟩) (Below.refl _ _) (fun _ => rfl)
    (InvC w) (fun _ _ _ => False) (inv_own w _ (by omega)) (fun _ _ _ _ _ hs _ _ => hs) ⟨⟨_, bO1, World.ownsRow_nil _ _ _ _⟩, hB1, by omega⟩
    (fun x => { tmps := #[Str s, .int .i64 (k : Nat), undef, undef, .slice none 0 0, .int .i64 0, .pointer (some ⟨w.heap.size, 0, none⟩), Str x, .bool false, .int .i64 (k : Nat), .bool false, .bool false, .int .i64 (k : Nat), .bool false, .bool false, .bool false, Str s, .bool false, .bool false, Str s, .int .i64 (s.length : Nat), .int .i64 (k : Nat), .int .i64 ((k : Int) * 1024), .bool false, .bool false, Str s, .int .i64 (k : Nat), Str s, .int .i64 (s.length : Nat), .int .i64 (k : Nat), .int .i64 (n : Nat), .func (.func 19) #[] #[.pointer (some ⟨w.heap.size + 1 + 1, 0, none⟩), .pointer (some ⟨w.heap.size + 1 + 2, 0, none⟩), .pointer (some ⟨w.heap.size + 1, 0, none⟩)], Str x, undef, undef, undef, undef, undef], defers := [] }) ?assign ?body ?done ?stop
  case assign =>
    intro l x W K hK
    gi_wp2
    exact hK
  case body =>
    rintro l pre x W ⟨⟨v, hv, hrow⟩, hB, hsz⟩ hlt
    have hc := hv.cell
    have hlen : pre.length + 1 ≤ 100 := by omega
    gi_wp2_with (gi_at_builtin; refine wpListIn_append_own _ rfl _ _ 23 rfl (w.heap.size + 4) 9 i0 (Str []) 1 16 Tryd.underlying23 hi hz0 hz1 hz2 rfl (by decide) _ _ _ rfl (hrow.alloc _) ⟨W.heap.size, 0, none⟩ 1 1 [Str x] rfl rfl (cell_one_new _ _ _) (by simp [Value.oneCell']) (by simp only [maxLen]; omega) (by omega) (by simp; omega) ?_; intro v' w2 hown' hgrow _; obtain ⟨g', cap', rfl⟩ := ownsRow_succ hown'; obtain ⟨hv1, hv2, hr2, hk2, hb2⟩ := hv.appended (by decide) (owns_low hrow (Nat.le_add_right _ 4)) hB.size (Nat.le_refl _) (owns_low hown' (Nat.le_add_right _ 4)) hgrow; have hc1 := hv1.cell; have hf1 := hv1.frozen)
    have hr3 := hown'.kept (grownBy_setCell' w2 w.heap.size (.slice (some ⟨g', 0, none⟩) (pre.length + 1) cap')) (.inr (hv1.not_row (by decide) hown').symm)
    refine ⟨hk2.from _, ⟨hb2.size, fun r h1 h2 => ?_⟩, ⟨⟨_, hv2, by simpa using hr3⟩, hB.trans hb2, Nat.le_trans hsz hb2.size⟩⟩
    rw [Below.heap_setCell _ _ _ _ (by simp; omega), hgrow.block r (by simp; omega) (fun e => by have := (owns_blk hrow r e.symm).1; omega)]
    exact Below.heap_alloc _ _ _ (by omega)
  case done =>
    rintro D ys W hD rfl ⟨⟨v, hv, hrow⟩, hB, hsz⟩ hK
    have hc := hv.cell
    gi_wp2
    refine ⟨by simp, .inl ⟨_, _, rfl, run_takeDeferred hK, ?_⟩⟩
    exact ⟨_, results_tmp2 rfl _ _ _, v, rfl, owns_slAt (ownsRow_putObj hrow _ hK rfl), hB.trans (belowK_b (w := w) (Nat.le_refl _) W D _ _ (by omega) hK rfl rfl)⟩
  case stop =>
    rintro D c pre W _ _ h _
    exact h.elim
end Go.Proofs.YtibilabhokkhmaaDoor
