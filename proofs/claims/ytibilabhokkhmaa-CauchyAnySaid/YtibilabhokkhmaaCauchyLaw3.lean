/-
  The law CauchyAny returns true for every k, n and list of bytes. No condition.
-/
import Derived.Test.YtibilabhokkhmaaLinD
import Derived.Deep.CutBlock
import Derived.Test.YtibilabhokkhmaaCauchyLaw
import Derived.Test.YtibilabhokkhmaaMatLawI
namespace Go.Proofs.Ytibilabhokkhmaa
open Go.ChangeShapes Go.WideShapes Go.ChangeAt Go.RowKit
set_option linter.unusedVariables false
set_option maxRecDepth 100000
set_option maxHeartbeats 4000000
def nats (xs : List Nat) : List Value := xs.map fun (n : Nat) => .int .i64 (n : Int)
theorem nats_length (xs : List Nat) : (nats xs).length = xs.length := by simp [nats]
theorem nats_get (xs : List Nat) (k : Nat) (h : k < xs.length) : (nats xs)[k]? = some (.int .i64 (xs[k] : Int)) := by
  simp [nats, List.getElem?_eq_getElem h]
def withL (xs : List Nat) (z : Nat) : List Nat := if z ∈ xs then xs else xs ++ [z]
theorem withL_in {xs : List Nat} {z k : Nat} (h : k < xs.length) (e : (xs[k] : Int) = z) : withL xs z = xs := by
  unfold withL
  rw [if_pos]
  have : xs[k] = z := by exact_mod_cast e
  rw [← this]
  simp
theorem withL_out {xs : List Nat} {z : Nat} (h : ∀ k (hk : k < xs.length), k < xs.length → (xs[k] : Int) ≠ z) : withL xs z = xs ++ [z] := by
  unfold withL
  rw [if_neg]
  intro hm
  obtain ⟨k, hk, e⟩ := List.mem_iff_getElem.1 hm
  exact h k hk hk (by rw [e])
theorem withL_facts {xs : List Nat} {z m : Nat} (hn : xs.Nodup) (hb : ∀ a ∈ xs, a < m) (hz : z < m) : (withL xs z).Nodup ∧ (∀ a ∈ withL xs z, a < m) ∧ (withL xs z).length ≤ xs.length + 1 ∧ (∀ a ∈ xs, a ∈ withL xs z) ∧ z ∈ withL xs z := by
  unfold withL
  by_cases h : z ∈ xs
  · rw [if_pos h]
    exact ⟨hn, hb, by omega, fun a ha => ha, h⟩
  · rw [if_neg h]
    refine ⟨List.nodup_append.2 ⟨hn, by simp, fun a ha b hb' => ?_⟩, fun a ha => ?_, by simp, fun a ha => by simp [ha], by simp⟩
    · rw [List.mem_singleton] at hb'
      subst hb'
      exact fun e => h (by rw [← e]; exact ha)
    · rcases List.mem_append.1 ha with h' | h'
      · exact hb a h'
      · rw [List.mem_singleton] at h'; omega
theorem Seg.clip {w : World} {base : Nat} {e : TypeId} {size n g off cap : Nat} {xs : List Value} (h : Seg w base e size (.slice (some ⟨g, off, none⟩) n cap) n xs) : Seg w base e size (.slice (some ⟨g, off, none⟩) n n) n xs := by
  obtain ⟨h1, h2⟩ := h
  refine ⟨h1, .inr ?_⟩
  rcases h2 with ⟨h0, _⟩ | ⟨g', off', cap', cur, hv, hg, hh, hn, hc, hs, ht⟩
  · cases h0
  · cases hv
    have := Nat.mul_le_mul_right size hn
    exact ⟨g, off, n, cur, rfl, hg, hh, Nat.le_refl _, by omega, by omega, ht⟩
def WithPost (base : Nat) (xs : List Nat) (w : World) (e : Ending) (w' : World) : Prop := ∃ v, e = .returned v ∧ Seg w' base 3 1 v xs.length (nats xs) ∧ Below base w w'
theorem with_any (base : Nat) (v : Value) (xs : List Nat) (z : Nat) (w : World) (hs : Seg w base 3 1 v xs.length (nats xs)) (hz : z ≤ 1000) (hl : xs.length ≤ 300) (hb : base ≤ w.heap.size) :
    Calls Try.prog 33 #[v, .int .i64 (z : Int)] w (WithPost base (withL xs z) w) := by
  obtain ⟨i0, hi, hz0, hz1, hz2⟩ := info_parts infoInt
  have hs0 := hs
  rcases hs.2 with ⟨hv, h0⟩ | ⟨g, off, cap, cur, hv, hg, hh, hnc, hcm, -, -⟩
  · subst hv
    have hx : xs = [] := List.eq_nil_of_length_eq_zero h0
    subst hx
    have HP : Hid (∀ w' v', Seg w' base 3 1 v' 1 [.int .i64 (z : Int)] → Below base w w' → WithPost base (withL [] z) w (.returned v') w') := fun w' v' h1 h2 => ⟨v', rfl, h1, h2⟩
    have hs1 : Seg w base 3 1 (.slice none 0 0) 0 [] := Seg.nil _ _ _ _
    clear hs hs0 h0 hl
    go_enter Try.func33, Try.ntmps33
    go_wp2_with fail
    go_loopg [5] 1 (fun gk i wx => i = .int .i64 0 ∧ w = wx)
    case atStart => exact ⟨rfl, rfl⟩
    case round =>
      obtain ⟨rfl, rfl⟩ := hrel
      go_wp2_with (at_builtin; refine wpList_append_seg _ rfl (.tmp 24) (.tmp 26) 22 rfl base 3 i0 _ 1 8 Try.underlying22 hi hz0 hz1 hz2 rfl (by decide) (.slice none 0 0) 0 [] rfl (hs1.alloc _) ⟨w.heap.size, 0, none⟩ 1 1 [.int .i64 (z : Int)] rfl rfl (cells_new _ _ _) (by simp [Value.oneCell']) (by decide) (by unfold maxLen; omega) (by omega) (by simp; omega) (w.heap.size + 1) (size_alloc _ _) ?_; intro g' off' cap' w4 hown hgrow hat)
      have hbb : Below base w w4 := ((Below.refl base w).alloc hb _).grown hgrow (by rw [size_alloc]; omega) (fun k hk => by simp [Value.ownBlock] at hk)
      have HF := Lib.hid (HP.out w4 _ (by simpa using hown) hbb)
      clear hown hgrow hat hbb hs1
      go_wp2_with fail
      go_ret
      exact HF.out
  · subst hv
    have hcell : ∀ k (hk : k < xs.length), w.cell? ⟨g, off + k, none⟩ = some (.int .i64 (xs[k] : Int)) := fun k hk => by
      rw [hs.at k (by omega), nats_get xs k hk]
    have HCELL := Lib.hid hcell
    have HS := Lib.hid hs
    have hgl : g < w.heap.size := (Array.getElem?_eq_some_iff.1 hh).1
    have HH := Lib.hid hh
    have hc63 : cap ≤ 9223372036854775807 := by unfold maxLen at hcm; exact hcm
    clear hs hs0 hcell hh hcm
    have HIN : Hid (∀ k (h : k < xs.length), (xs[k] : Int) = z → WithPost base (withL xs z) w (.returned (.slice (some ⟨g, off, none⟩) xs.length cap)) w) := fun k h e => ⟨_, rfl, by rw [withL_in h e]; exact HS.out, Below.refl _ _⟩
    have HOUT : Hid (∀ w' v', (∀ k (hk : k < xs.length), k < xs.length → (xs[k] : Int) ≠ z) → Seg w' base 3 1 v' (xs.length + 1) (nats xs ++ [.int .i64 (z : Int)]) → Below base w w' → WithPost base (withL xs z) w (.returned v') w') := fun w' v' h h1 h2 =>
      ⟨v', rfl, by rw [withL_out h]; simpa [nats] using h1, h2⟩
    go_enter Try.func33, Try.ntmps33
    go_wp2_with fail
    go_loopg [5] xs.length (fun gk i wx => ∃ k : Nat, k ≤ xs.length ∧ xs.length ≤ k + gk ∧ i = .int .i64 k ∧ (∀ j (hj : j < xs.length), j < k → (xs[j] : Int) ≠ z) ∧ w = wx)
    case atStart => exact ⟨0, by omega, by omega, rfl, fun j hj h => by omega, rfl⟩
    case round =>
      obtain ⟨k, hk, hgk, rfl, hne, rfl⟩ := hrel
      have HNE := Lib.hid hne
      clear hne
      by_cases hlt : k < xs.length
      · have hck := HCELL.out k hlt
        by_cases heq : (xs[k] : Int) = z
        · have HF := Lib.hid (HIN.out k hlt heq)
          have hbt : ((xs[k] : Int) == (z : Int)) = true := by simpa using heq
          clear heq
          generalize xs[k] = y at *
          go_wp2_with fail
          go_ret
          exact HF.out
        · have hbt : ((xs[k] : Int) == (z : Int)) = false := by simpa using heq
          have HN2 : Hid (∀ j (hj : j < xs.length), j < k + 1 → (xs[j] : Int) ≠ z) := fun j hj h => by
            by_cases e : j = k
            · subst e; exact heq
            · exact HNE.out j hj (by omega)
          clear heq
          generalize xs[k] = y at *
          go_wp2_with fail
          go_roundg (xs.length - (k + 1))
          case measure => omega
          case rel => exact ⟨k + 1, by omega, by omega, by go_num, HN2.out, rfl⟩
      · obtain rfl : k = xs.length := by omega
        have hkd : ¬ xs.length < xs.length := by omega
        have hcs := HS.out.clip
        go_wp2_with (at_builtin; refine wpList_append_seg _ rfl (.tmp 24) (.tmp 26) 22 rfl base 3 i0 _ 1 8 Try.underlying22 hi hz0 hz1 hz2 rfl (by decide) (.slice (some ⟨g, off, none⟩) xs.length xs.length) xs.length (nats xs) rfl (hcs.alloc _) ⟨w.heap.size, 0, none⟩ 1 1 [.int .i64 (z : Int)] rfl rfl (cells_new _ _ _) (by simp [Value.oneCell']) (by decide) (by unfold maxLen; omega) (by omega) (by simp; omega) (w.heap.size + 1) (size_alloc _ _) ?_; intro g' off' cap' w4 hown hgrow hat)
        have hbb : Below base w w4 := ((Below.refl base w).alloc hb _).grown hgrow (by rw [size_alloc]; omega) (fun k hk => by
          have : g = k := by simpa [Value.ownBlock] using hk
          omega)
        have HF := Lib.hid (HOUT.out w4 _ HNE.out hown hbb)
        clear hown hgrow hat hbb hcs
        go_wp2_with fail
        go_ret
        exact HF.out
theorem any_far (k n : Int) (a : Option Addr) (len cap : Nat) (w : World) (hk0 : 0 ≤ k) (hk1 : k ≤ 255) (hn0 : 0 ≤ n) (hn1 : n ≤ 255) (h : n < 1 ∨ (¬ n < 1 ∧ k < 1) ∨ (¬ n < 1 ∧ ¬ k < 1 ∧ n < k) ∨ (¬ n < 1 ∧ ¬ k < 1 ∧ ¬ n < k ∧ 12 < k) ∨ (¬ n < 1 ∧ ¬ k < 1 ∧ ¬ n < k ∧ ¬ 12 < k ∧ 60 < (len : Int))) :
    Calls Try.prog 9 #[.int .u8 k, .int .u8 n, .slice a len cap] w (Yes w) := by
  rcases h with h | ⟨h0, h⟩ | ⟨h0, h1, h⟩ | ⟨h0, h1, h2, h⟩ | ⟨h0, h1, h2, h3, h⟩
  all_goals
    go_enter Try.func9, Try.ntmps9
    go_wp2_with fail
    refine (awake04 _).mono ?_
    rintro x w7 ⟨rfl, hb⟩
    go_wp2_with fail
    go_ret
    exact ⟨rfl, hb⟩
def intsOf (xs : List Nat) : List Int := xs.map fun (n : Nat) => (n : Int)
theorem intsOf_map (xs : List Nat) : (intsOf xs).map (Value.int .i64) = nats xs := by simp [intsOf, nats]
theorem ints_at {base B n : Nat} {w : World} {v : Value} {xs : List Nat} (h : Seg w base 3 1 v n (nats xs)) (hb : ∀ x ∈ xs, x < 256) : IntsAt B w v (intsOf xs) := by
  refine ⟨by rw [intsOf_map]; exact SlAt.of_seg h, fun z hz => ?_⟩
  obtain ⟨x, hx, rfl⟩ := List.mem_map.1 hz
  have := hb x hx
  omega
theorem pick_facts (k n : Nat) (xs : List Nat) (hk1 : 1 ≤ k) (hkn : k ≤ n) (hn : n ≤ 255) (h1 : 1 ≤ xs.length) (h2 : xs.length ≤ 255) (hb : ∀ x ∈ xs, x < n) : pickE k n (intsOf xs) = 0 ∧ picks k n (intsOf xs) 0 = pickT k xs := by
  have hbad : badKN (k : Int) (n : Int) = false := bad0 (by omega) (by omega) (by omega)
  have hrow : ∀ x ∈ xs, rowE (k : Int) (n : Int) (x : Int) = 0 := fun x hx => by
    have := hb x hx
    unfold rowE
    rw [hbad, if_neg (by decide), if_neg (by omega)]
  refine ⟨?_, ?_⟩
  · rw [pickE_ok hbad (by simpa [intsOf] using h1) (by simpa [intsOf] using h2)]
    clear h1 h2 hb
    induction xs with
    | nil => rfl
    | cons x xs ih =>
      show firstE k n ((x : Int) :: intsOf xs) = 0
      unfold firstE
      rw [if_pos (hrow x (by simp))]
      exact ih (fun y hy => hrow y (by simp [hy]))
  · unfold picks pickT intsOf
    rw [if_pos rfl, List.map_map]
    refine List.map_congr_left (fun x hx => ?_)
    show rowV k n (x : Int) = rowL k x
    unfold rowV
    rw [if_pos (hrow x hx)]
    rfl
def SoFar (n k : Nat) (w : World) (av : Value) (wx : World) : Prop := ∃ xs : List Nat, Seg wx w.heap.size 3 1 av xs.length (nats xs) ∧ xs.Nodup ∧ (∀ x ∈ xs, x < n) ∧ xs.length ≤ k ∧ Below w.heap.size w wx
def AllOf (n k : Nat) (w : World) (av : Value) (wx : World) : Prop := ∃ ys : List Nat, Seg wx w.heap.size 3 1 av ys.length (nats ys) ∧ ys.Nodup ∧ (∀ x ∈ ys, x < n) ∧ ys.length = k ∧ Below w.heap.size w wx
theorem any_near (B k n : Nat) (v : Value) (bs : List Nat) (w : World) (h : RowAt B w v bs) (hk1 : 1 ≤ k) (hkn : k ≤ n) (hn : n ≤ 255) (hk2 : k ≤ 12) (hl : bs.length ≤ 60) :
    Calls Try.prog 9 #[.int .u8 (k : Int), .int .u8 (n : Int), v] w (Yes w) := by
  obtain ⟨a, cap, rfl, hc⟩ := h.at
  have HC := Lib.hid hc
  have HBY := Lib.hid h.2
  have d1 : decide ((n : Int) < 1) = false := by simp; omega
  have d2 : decide ((k : Int) < 1) = false := by simp; omega
  have d3 : decide (n < k) = false := by simp; omega
  have d4 : decide (12 < (k : Int)) = false := by simp; omega
  have d5 : decide (60 < (bs.length : Int)) = false := by simp; omega
  clear hc h
  go_enter Try.func9, Try.ntmps9
  go_upto_block 0 with fail
  go_cut [8] (fun av wx => SoFar n k w av wx)
  case first =>
    go_wp2_with fail
    go_loopg [8, 9] bs.length (fun gk av i wr => ∃ (j : Nat) (xs : List Nat), j ≤ bs.length ∧ bs.length ≤ j + gk ∧ i = .int .i64 j ∧ Seg wr w.heap.size 3 1 av xs.length (nats xs) ∧ xs.Nodup ∧ (∀ x ∈ xs, x < n) ∧ xs.length ≤ k ∧ Below w.heap.size w wr)
    case atStart => exact ⟨0, [], by omega, by omega, rfl, Seg.nil _ _ _ _, by simp, by simp, by simp, Below.refl _ _⟩
    case round =>
      obtain ⟨j, xs, hj, hgj, rfl, hs, hnd, hxb, hxl, hB⟩ := hrel
      obtain ⟨ax, cx, rfl⟩ := hs.form
      by_cases hgo : j < bs.length ∧ xs.length < k
      · obtain ⟨hlt, hlk⟩ := hgo
        obtain ⟨g, off, rfl, hg, hck0⟩ := HC.out j hlt
        have hck := (hB.cell (p := ⟨g, off + j, none⟩) hg).trans hck0
        have hwf := withL_facts hnd hxb (z := bs[j] % n) (Nat.mod_lt _ (by omega))
        have hmod : ((bs[j] : Int) % (n : Int)) = ((bs[j] % n : Nat) : Int) := by push_cast; rfl
        have HMOD := Lib.hid hmod
        have hz : bs[j] % n ≤ 1000 := by have := Nat.mod_lt bs[j] (show n > 0 by omega); omega
        have hb0 : (0 : Int) ≤ (bs[j] : Int) := by omega
        have hb255 : (bs[j] : Int) ≤ 255 := by have := HBY.out bs[j] (by simp); omega
        have hlen : (withL xs (bs[j] % n)).length ≤ k := by have := hwf.2.2.1; omega
        have HWF := Lib.hid (And.intro hwf.1 (And.intro hwf.2.1 hlen))
        clear hck0 hmod hwf hlen
        generalize bs[j] % n = z at *
        generalize bs[j] = y at *
        have HSX := Lib.hid hs
        clear hs hnd hxb
        go_wp2_with fail
        rw [HMOD.out]
        refine (with_any w.heap.size _ xs z _ HSX.out hz (by omega) hB.size).mono ?_
        rintro e w1 ⟨v1, rfl, hs1, hb1⟩
        have hbb : Below w.heap.size w w1 := hB.trans hb1
        clear hb1 hB hck
        go_wp2_with fail
        go_roundg (bs.length - (j + 1))
        case measure => omega
        case rel => exact ⟨j + 1, withL xs z, by omega, by omega, by go_num, hs1, HWF.out.1, HWF.out.2.1, HWF.out.2.2, hbb⟩
      · have hex : ¬ j < bs.length ∨ (j < bs.length ∧ ¬ xs.length < k) := by omega
        have HF : Hid (SoFar n k w (.slice ax xs.length cx) wr) := ⟨xs, hs, hnd, hxb, hxl, hB⟩
        clear hgo hs hnd hxb hB
        rcases hex with hx | ⟨hx, hx2⟩
        all_goals
          go_wp2_with fail
          go_meet
          exact HF.out
  case rest =>
    obtain ⟨xs, hs, hnd, hxb, hxl, hB⟩ := hcut
    have HSX := Lib.hid hs
    have HND := Lib.hid hnd
    have HXB := Lib.hid hxb
    obtain ⟨ax, cx, rfl⟩ := hs.form
    clear hs hnd hxb
    go_upto_block 2 with fail
    go_cut [8] (fun av wx => AllOf n k w av wx)
    case first =>
      go_wp2_with fail
      go_loopg [8, 10] n (fun g2 av i wx => ∃ (m : Nat) (ys : List Nat), m ≤ n ∧ n ≤ m + g2 ∧ i = .int .i64 m ∧ Seg wx w.heap.size 3 1 av ys.length (nats ys) ∧ ys.Nodup ∧ (∀ x ∈ ys, x < n) ∧ ys.length ≤ k ∧ (∀ x, x < m → x ∈ ys) ∧ Below w.heap.size w wx)
      case atStart => exact ⟨0, xs, by omega, by omega, rfl, HSX.out, HND.out, HXB.out, hxl, fun x hx => by omega, hB⟩
      case round =>
        clear hB HSX HND HXB hxl
        obtain ⟨m, ys, hm, hgm, rfl, hs, hnd, hyb, hyl, hall, hB⟩ := hrel
        obtain ⟨ay, cy, rfl⟩ := hs.form
        by_cases hgo : m < n ∧ ys.length < k
        · obtain ⟨hlt, hlk⟩ := hgo
          have hwf := withL_facts hnd hyb (z := m) hlt
          have hlen : (withL ys m).length ≤ k := by have := hwf.2.2.1; omega
          have hall2 : ∀ x, x < m + 1 → x ∈ withL ys m := fun x hx => by
            by_cases e : x = m
            · subst e; exact hwf.2.2.2.2
            · exact hwf.2.2.2.1 x (hall x (by omega))
          have HWF := Lib.hid (And.intro hwf.1 (And.intro hwf.2.1 (And.intro hlen hall2)))
          have HS2 := Lib.hid hs
          clear hwf hlen hall2 hs hnd hyb hall
          go_wp2_with fail
          refine (with_any w.heap.size _ ys m _ HS2.out (by omega) (by omega) hB.size).mono ?_
          rintro e w1 ⟨v1, rfl, hs1, hb1⟩
          have hbb : Below w.heap.size w w1 := hB.trans hb1
          clear hb1 hB
          go_wp2_with fail
          go_roundg (n - (m + 1))
          case measure => omega
          case rel => exact ⟨m + 1, withL ys m, by omega, by omega, by go_num, hs1, HWF.out.1, HWF.out.2.1, HWF.out.2.2.1, HWF.out.2.2.2, hbb⟩
        · have hlenk : ys.length = k := by
            by_cases hmn : m < n
            · omega
            · have := len_le_of_sub (List.range n) ys List.nodup_range (fun x hx => hall x (by rw [List.mem_range] at hx; omega))
              rw [List.length_range] at this
              omega
          have hex2 : ¬ m < n ∨ (m < n ∧ ¬ ys.length < k) := by omega
          have HF : Hid (AllOf n k w (.slice ay ys.length cy) wr) := ⟨ys, hs, hnd, hyb, hlenk, hB⟩
          clear hgo hnd hyb hall hs hB hlenk
          rcases hex2 with hy | ⟨hy, hy2⟩
          all_goals
            go_wp2_with fail
            go_meet
            exact HF.out
    case rest =>
      clear hB HSX HND HXB hxl
      obtain ⟨ys, hs, hnd, hyb, hlenk, hB⟩ := hcut
      have HPF := Lib.hid (pick_facts k n ys hk1 hkn hn (by omega) (by omega) hyb)
      have hinv := cauchy_inv k ys hlenk hk1 (by omega) hnd (fun x hx => by have := hyb x hx; omega)
      have HINV := Lib.hid hinv
      have hgd := inv_facts (gd_pick k ys).all hinv
      have HIL : Hid ((invV (pickT k ys)).length = k) := by
        show (invV (pickT k ys)).length = k
        rw [hgd.2.2.1.len, (gd_pick k ys).len, hlenk]
      have HIA := Lib.hid (ints_at (B := w.heap.size) hs (fun x hx => by have := hyb x hx; omega))
      obtain ⟨ay, cy, rfl⟩ := hs.form
      clear hnd hyb hinv hgd hs hlenk
      go_wp2_with fail
      refine (pick_any k n _ _ _ _ HIA.out).mono ?_
      rintro e w1 ⟨v1, rfl, m1, hb1⟩
      rw [HPF.out.1]
      rw [HPF.out.1, HPF.out.2] at m1
      replace hB := Below.chain hb1 hB
      clear hb1
      go_wp2_with fail
      refine (invert_any 0 _ (pickT k ys) _ m1).mono ?_
      rintro e w2 ⟨v2, rfl, m2, hb2⟩
      rw [HINV.out]
      obtain ⟨a2, c2, rfl, -, -⟩ := m2.at
      rw [HIL.out]
      replace hB := Below.chain hb2 hB
      clear hb2 m1 m2
      go_wp2_with fail
      refine (awake04 _).mono ?_
      rintro x w7 ⟨rfl, hb⟩
      replace hB := Below.chain hb hB
      clear hb
      go_wp2_with fail
      go_ret
      exact ⟨rfl, hB⟩
theorem walkAny (k n : Int) (a : Option Addr) (len cap : Nat) (zs : List Int) (w : World) (hk0 : 0 ≤ k) (hk1 : k ≤ 255) (hn0 : 0 ≤ n) (hn1 : n ≤ 255) (h : IsInts .u8 w a len cap zs) :
    Calls Try.prog 9 #[.int .u8 k, .int .u8 n, .slice a len cap] w (Yes w) := by
  by_cases hbad : n < 1 ∨ (¬ n < 1 ∧ k < 1) ∨ (¬ n < 1 ∧ ¬ k < 1 ∧ n < k) ∨ (¬ n < 1 ∧ ¬ k < 1 ∧ ¬ n < k ∧ 12 < k) ∨ (¬ n < 1 ∧ ¬ k < 1 ∧ ¬ n < k ∧ ¬ 12 < k ∧ 60 < (len : Int))
  · exact any_far k n a len cap w hk0 hk1 hn0 hn1 hbad
  · obtain ⟨kk, rfl⟩ := Int.eq_ofNat_of_zero_le hk0
    obtain ⟨nn, rfl⟩ := Int.eq_ofNat_of_zero_le hn0
    obtain ⟨hlen, hrow⟩ := h.row
    exact any_near w.heap.size kk nn _ _ w hrow (by omega) (by omega) (by omega) (by omega) (by omega)
namespace cauchyAny
theorem own : ownKnob Try.prog.godebug = none := by kernel_rfl
theorem laidOut : laidOutB Try.prog = true := by kernel_rfl
set_option maxRecDepth 100000 in
theorem lifted (os : Os) (started : os.Started) (H : Type) (enc : TypeId × Value → H) :
    ReturnsInHanded {} Try.checked os 9 .any (Rows.cauchyAnySpec.pre6 enc Try.prog Try.f9 Rows.cauchyAnyRow.domain false) (Rows.cauchyAnySpec.post enc Try.prog Try.f9 false true false false) := by
  refine law_lift (C := Try.checked) (tb := 4) own started (by kernel_rfl) Try.func9 laidOut rfl Try.underlying4 rfl (by kernel_rfl) (fun ds h => by match ds, h with | [d1, d2, d3], _ => rfl)
    (ChangeSpec.witness6 (enc := enc) (C := Try.checked) false ⟨#[], #[.int .u8 0, .int .u8 0, .slice none 0 0], []⟩ 8 (by kernel_rfl) (by kernel_rfl) (by kernel_rfl) (by kernel_rfl)) ?_
  intro W base args ds ps hval hA
  rw [Try.params9] at hA hval
  obtain ⟨v0, v1, v2, d0, d1, d2, p0, p1, p2, rfl, rfl, rfl, h0, h1, h2⟩ := trodAll_three hA
  obtain ⟨k, rfl, rfl, rfl, wk⟩ := open_int Try.underlying5 (hval 0 5 v0 rfl rfl) h0
  replace wk := by simpa [Lit.wf, IntKind.min, IntKind.max, IntKind.signed, IntKind.bits] using wk
  obtain ⟨n, rfl, rfl, rfl, wn⟩ := open_int Try.underlying5 (hval 1 5 v1 rfl rfl) h1
  replace wn := by simpa [Lit.wf, IntKind.min, IntKind.max, IntKind.signed, IntKind.bits] using wn
  obtain ⟨al, nl, cl, rfl⟩ := okWide_slice Try.underlying24 (hval 2 24 v2 rfl rfl)
  obtain ⟨l, wl⟩ := open_intsl (k := .u8) Try.underlying24 Try.underlying5 (by kernel_rfl) h2
  exact walkAny k n al nl cl l W wk.1 wk.2 wn.1 wn.2 wl
theorem proved : Rows.CauchyAnySaid :=
  OpenClaim.holds_of_wide 9 Try.f9 rfl rfl rfl rfl rfl rfl rfl ⟨rfl, rfl, rfl, rfl, rfl⟩ rfl rfl rfl rfl rfl (by kernel_rfl) Try.func9 (by kernel_rfl)
    (of_decide_eq_true (by kernel_rfl)) (by unfold Func.isWrapper; first | (rw [if_pos (by decide +kernel)]; kernel_rfl) | (rw [if_neg (by decide +kernel)]; exact ⟨rfl, rfl⟩))
    (fun os started H enc _ => lifted os started H enc)
end cauchyAny
#print axioms cauchyAny.proved
end Go.Proofs.Ytibilabhokkhmaa
