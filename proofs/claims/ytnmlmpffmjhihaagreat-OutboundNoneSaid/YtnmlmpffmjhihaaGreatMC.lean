/-
  Merged: Slices that read as lists, rows of bytes, tables of rows: what stays of them when memory grows, when an outer cell is stored, when an outer slice is appended to. For whatever program. | Whether two rows, two tables, are the same: the documents' questions. | Cauchy: rows, picked rows, all rows: the program's and the document's: contracts (chapter 4). | Cauchy: picked rows, all rows: the program's and the document's: contracts (chapter 4). | Cauchy: Pick and Rows, the program's and the document's; the chapter's example (chapter 4). | Cauchy: all rows, the program's and the document's; the chapter's example (chapter 4). | Slices of the call's own that are stored into: their cells by a list; tables of the call's own by a list of rows. For whatever program.
-/
import Derived.Test.YtnmlmpffmjhihaaGreatMA
import Derived.Test.YtnmlmpffmjhihaaGreatMB
import Derived.Laws.MakeOwn
namespace Go.Proofs.YtnmlmpffmjhihaaGreat
open Go.RowKit
set_option linter.unusedVariables false
/-- v reads as vs; what it lies in was there below B, or is a block of elements of type t. -/
def SlAt (B : Nat) (w : World) (t : TypeId) (v : Value) (vs : List Value) : Prop :=
  ∃ a cap, v = .slice a vs.length cap ∧ vs.length ≤ cap ∧ cap ≤ maxLen ∧
    (vs = [] ∨ ∃ g off, a = some ⟨g, off, none⟩ ∧ g < w.heap.size ∧ (g < B ∨ ∃ cs fr, w.heap[g]? = some (.cells cs t fr)) ∧ ∀ j (h : j < vs.length), w.cell? ⟨g, off + j, none⟩ = some vs[j])
/-- A block of elements of another type than t, at or above B. -/
def Apart (B : Nat) (w : World) (t : TypeId) (g : Nat) : Prop := B ≤ g ∧ ∀ cs fr, w.heap[g]? ≠ some (.cells cs t fr)
theorem Blk.apart {w : World} {g B : Nat} {cs : Array Value} {t t' : TypeId} (h : Blk w g cs t') (hB : B ≤ g) (ht : t' ≠ t) : Apart B w t g := ⟨hB, fun cs' fr e => by
  unfold Blk at h
  rw [h] at e
  cases e
  exact ht rfl⟩
section
variable {B : Nat} {w w' : World} {t : TypeId} {v : Value} {vs : List Value}
theorem SlAt.nil (B : Nat) (w : World) (t : TypeId) : SlAt B w t (.slice none 0 0) [] := ⟨none, 0, rfl, Nat.le_refl _, by simp, .inl rfl⟩
theorem SlAt.same (h : SlAt B w t v vs) (hs : w.heap.size ≤ w'.heap.size) (hk : ∀ g, g < w.heap.size → (g < B ∨ ∃ cs fr, w.heap[g]? = some (.cells cs t fr)) → w'.heap[g]? = w.heap[g]?) : SlAt B w' t v vs := by
  obtain ⟨a, cap, hv, h1, h2, h3⟩ := h
  refine ⟨a, cap, hv, h1, h2, h3.imp id ?_⟩
  rintro ⟨g, off, ha, hg, ht, hc⟩
  have e := hk g hg ht
  refine ⟨g, off, ha, by omega, by rw [e]; exact ht, fun j hj => ?_⟩
  rw [← hc j hj]
  unfold World.cell?
  simp only
  rw [e]
theorem SlAt.chain (h : SlAt B w t v vs) (hb : Below w.heap.size w w') : SlAt B w' t v vs := h.same hb.size (fun g hg _ => hb.block g hg)
theorem SlAt.drew (h : SlAt B w t v vs) : SlAt B w.drew t v vs := h
theorem SlAt.alloc (h : SlAt B w t v vs) (o : Obj) : SlAt B (w.alloc o) t v vs := h.chain (Below.chainAlloc (Below.refl _ _) o)
theorem SlAt.only {S : List Nat} (h : SlAt B w t v vs) (ho : Only S w w') (hS : ∀ x ∈ S, Apart B w t x) : SlAt B w' t v vs :=
  h.same ho.size (fun g hg ht => ho.block g hg (fun hm => by
    obtain ⟨h1, h2⟩ := hS g hm
    rcases ht with ht | ⟨cs, fr, e⟩
    · omega
    · exact h2 cs fr e))
theorem SlAt.store (h : SlAt B w t v vs) (p : Addr) (u : Value) (hp : Apart B w t p.block) : SlAt B (w.setCell p u) t v vs :=
  h.only (S := [p.block]) ((Only.refl _ _).setCell p u (.inl (by simp))) (by simpa using hp)
theorem SlAt.le {B' : Nat} (h : SlAt B w t v vs) (hB : B ≤ B') : SlAt B' w t v vs := by
  obtain ⟨a, cap, hv, h1, h2, h3⟩ := h
  refine ⟨a, cap, hv, h1, h2, h3.imp id ?_⟩
  rintro ⟨g, off, ha, hg, ht, hc⟩
  exact ⟨g, off, ha, hg, ht.imp (fun h => by omega) id, hc⟩
theorem SlAt.max (h : SlAt B w t v vs) : vs.length ≤ 9223372036854775807 := by
  obtain ⟨a, cap, hv, h1, h2, h3⟩ := h
  unfold maxLen at h2
  omega
theorem SlAt.at (h : SlAt B w t v vs) : ∃ a cap, v = .slice a vs.length cap ∧ ∀ k (hk : k < vs.length), ∃ g off, a = some ⟨g, off, none⟩ ∧ g < w.heap.size ∧ w.cell? ⟨g, off + k, none⟩ = some vs[k] := by
  obtain ⟨a, cap, hv, h1, h2, h3⟩ := h
  refine ⟨a, cap, hv, fun k hk => ?_⟩
  rcases h3 with h3 | ⟨g, off, ha, hg, _, hc⟩
  · subst h3; simp at hk
  · exact ⟨g, off, ha, hg, hc k hk⟩
end
theorem SlAt.of_blk {B : Nat} {w : World} {t : TypeId} {g : Nat} {vs : List Value} {cap : Nat} (h : Blk w g vs.toArray t) (hc : vs.length ≤ cap) (hm : cap ≤ maxLen) : SlAt B w t (.slice (some ⟨g, 0, none⟩) vs.length cap) vs := by
  refine ⟨_, cap, rfl, hc, hm, .inr ⟨g, 0, rfl, h.lt, .inr ⟨_, _, h⟩, fun j hj => ?_⟩⟩
  have := h.facts.1 j
  rw [Nat.zero_add, this]
  simp [List.getElem?_eq_getElem hj]
theorem SlAt.of_seg {B base : Nat} {w : World} {t : TypeId} {v : Value} {n : Nat} {xs : List Value} (h : Seg w base t 1 v n xs) : SlAt B w t v xs := by
  have hl := h.1
  have hn : xs.length = n := by omega
  have h0 := h
  obtain ⟨_, h2⟩ := h
  rcases h2 with ⟨rfl, h3⟩ | ⟨g, off, cap, cur, rfl, hg, hh, h3, h4, _, _⟩
  · have : xs = [] := List.eq_nil_of_length_eq_zero (by omega)
    subst this
    exact SlAt.nil _ _ _
  · refine ⟨_, cap, by rw [hn], by omega, h4, .inr ⟨g, off, rfl, (Array.getElem?_eq_some_iff.1 hh).1, .inr ⟨_, _, hh⟩, fun j hj => ?_⟩⟩
    rw [h0.at j (by omega), List.getElem?_eq_getElem hj]
/-- The value of a row of bytes. -/
def u8s (bs : List Nat) : List Value := bs.map fun (n : Nat) => .int .u8 (n : Int)
theorem u8s_length (bs : List Nat) : (u8s bs).length = bs.length := by simp [u8s]
def RowAt (B : Nat) (w : World) (v : Value) (bs : List Nat) : Prop := SlAt B w 5 v (u8s bs) ∧ ∀ x ∈ bs, x < 256
def MatAt (B : Nat) (w : World) (v : Value) (rows : List (List Nat)) : Prop :=
  ∃ vs : List Value, vs.length = rows.length ∧ SlAt B w 120 v vs ∧ ∀ i (h : i < vs.length) (h' : i < rows.length), RowAt B w vs[i] rows[i]
section
variable {B : Nat} {w w' : World} {v : Value} {bs : List Nat} {rows : List (List Nat)}
theorem RowAt.nil (B : Nat) (w : World) : RowAt B w (.slice none 0 0) [] := ⟨SlAt.nil _ _ _, by simp⟩
theorem RowAt.chain (h : RowAt B w v bs) (hb : Below w.heap.size w w') : RowAt B w' v bs := ⟨h.1.chain hb, h.2⟩
theorem RowAt.only {S : List Nat} (h : RowAt B w v bs) (ho : Only S w w') (hS : ∀ x ∈ S, Apart B w 5 x) : RowAt B w' v bs := ⟨h.1.only ho hS, h.2⟩
theorem RowAt.store (h : RowAt B w v bs) (p : Addr) (u : Value) (hp : Apart B w 5 p.block) : RowAt B (w.setCell p u) v bs := ⟨h.1.store p u hp, h.2⟩
theorem RowAt.le {B' : Nat} (h : RowAt B w v bs) (hB : B ≤ B') : RowAt B' w v bs := ⟨h.1.le hB, h.2⟩
theorem RowAt.max (h : RowAt B w v bs) : bs.length ≤ 9223372036854775807 := by have := h.1.max; rwa [u8s_length] at this
theorem RowAt.at (h : RowAt B w v bs) : ∃ a cap, v = .slice a bs.length cap ∧ ∀ k (hk : k < bs.length), ∃ g off, a = some ⟨g, off, none⟩ ∧ g < w.heap.size ∧ w.cell? ⟨g, off + k, none⟩ = some (.int .u8 (bs[k] : Nat)) := by
  obtain ⟨a, cap, hv, hc⟩ := h.1.at
  rw [u8s_length] at hv
  refine ⟨a, cap, hv, fun k hk => ?_⟩
  obtain ⟨g, off, ha, hg, e⟩ := hc k (by rw [u8s_length]; exact hk)
  exact ⟨g, off, ha, hg, by rw [e]; simp [u8s]⟩
theorem RowAt.of_blk {g : Nat} {cap : Nat} (h : Blk w g (u8s bs).toArray 5) (hc : bs.length ≤ cap) (hm : cap ≤ maxLen) (hbs : ∀ x ∈ bs, x < 256) : RowAt B w (.slice (some ⟨g, 0, none⟩) bs.length cap) bs := by
  have := SlAt.of_blk (B := B) (vs := u8s bs) (cap := cap) h (by rw [u8s_length]; exact hc) hm
  rw [u8s_length] at this
  exact ⟨this, hbs⟩
theorem MatAt.nil (B : Nat) (w : World) : MatAt B w (.slice none 0 0) [] := ⟨[], rfl, SlAt.nil _ _ _, by simp⟩
theorem MatAt.chain (h : MatAt B w v rows) (hb : Below w.heap.size w w') : MatAt B w' v rows := by
  obtain ⟨vs, h1, h2, h3⟩ := h
  exact ⟨vs, h1, h2.chain hb, fun i h h' => (h3 i h h').chain hb⟩
theorem MatAt.le {B' : Nat} (h : MatAt B w v rows) (hB : B ≤ B') : MatAt B' w v rows := by
  obtain ⟨vs, h1, h2, h3⟩ := h
  exact ⟨vs, h1, h2.le hB, fun i h h' => (h3 i h h').le hB⟩
/-- An outer slice, and the row at each place. -/
theorem MatAt.at (h : MatAt B w v rows) : ∃ a cap, v = .slice a rows.length cap ∧ rows.length ≤ 9223372036854775807 ∧ ∀ k (hk : k < rows.length), ∃ g off u, a = some ⟨g, off, none⟩ ∧ g < w.heap.size ∧ w.cell? ⟨g, off + k, none⟩ = some u ∧ RowAt B w u rows[k] := by
  obtain ⟨vs, h1, h2, h3⟩ := h
  obtain ⟨a, cap, hv, hc⟩ := h2.at
  have hm := h2.max
  rw [h1] at hv hm
  refine ⟨a, cap, hv, hm, fun k hk => ?_⟩
  obtain ⟨g, off, ha, hg, e⟩ := hc k (by omega)
  exact ⟨g, off, _, ha, hg, e, h3 k (by omega) hk⟩
end
/-- The world drew, and no more. -/
def Drawn (w w' : World) : Prop := ∃ n, w' = w.drewN n
theorem Drawn.refl (w : World) : Drawn w w := ⟨0, rfl⟩
theorem Drawn.trans {a b c : World} (h : Drawn a b) (k : Drawn b c) : Drawn a c := by
  obtain ⟨n, rfl⟩ := h
  obtain ⟨m, rfl⟩ := k
  exact ⟨n + m, by rw [World.drewN_drewN]⟩
theorem Drawn.below {w w' : World} (h : Drawn w w') : Below w.heap.size w w' := by
  obtain ⟨n, rfl⟩ := h
  exact below_drewN (Below.refl _ _) n
theorem Drawn.of_drewN (w : World) (n : Nat) : Drawn w (w.drewN n) := ⟨n, rfl⟩
end Go.Proofs.YtnmlmpffmjhihaaGreat
namespace Go.Proofs.YtnmlmpffmjhihaaGreat
open Go.RowKit
set_option linter.unusedVariables false
set_option maxRecDepth 100000
set_option maxHeartbeats 1000000
theorem take_ne {α : Type} [DecidableEq α] {xs ys : List α} {k : Nat} (h1 : k < xs.length) (h2 : k < ys.length) (h : xs[k] ≠ ys[k]) : xs ≠ ys := fun e => h (by subst e; rfl)
theorem take_succ_eq {α : Type} {xs ys : List α} {k : Nat} (h1 : k < xs.length) (h2 : k < ys.length) (h : xs[k] = ys[k]) (ht : xs.take k = ys.take k) : xs.take (k + 1) = ys.take (k + 1) := by
  rw [List.take_succ_eq_append_getElem h1, List.take_succ_eq_append_getElem h2, ht, h]
def sameB (xs ys : List Nat) : Bool := decide (xs = ys)
def sameMB (xs ys : List (List Nat)) : Bool := decide (xs = ys)
end Go.Proofs.YtnmlmpffmjhihaaGreat
namespace Go.Proofs.YtnmlmpffmjhihaaGreat
open Go.RowKit
set_option linter.unusedVariables false
set_option maxRecDepth 100000
set_option maxHeartbeats 1000000
def badKN (k n : Int) : Bool := decide (k < 1) || (decide (n < k) || decide (255 < n))
def chkKN (k n : Int) : Int := if badKN k n then 1 else 0
theorem bad1 {k n : Int} (h : k < 1) : badKN k n = true := by simp [badKN, h]
theorem bad2 {k n : Int} (h : n < k) : badKN k n = true := by simp [badKN, h]
theorem bad3 {k n : Int} (h : 255 < n) : badKN k n = true := by simp [badKN, h]
theorem bad0 {k n : Int} (h1 : ¬ k < 1) (h2 : ¬ n < k) (h3 : ¬ 255 < n) : badKN k n = false := by simp [badKN, h1, h2, h3]
theorem bad_no {k n : Int} (h : badKN k n = false) : 1 ≤ k ∧ k ≤ n ∧ n ≤ 255 := by
  simp [badKN] at h
  omega
theorem chk1 {k n : Int} (h : badKN k n = true) : chkKN k n = 1 := by simp [chkKN, h]
theorem chk0 {k n : Int} (h : badKN k n = false) : chkKN k n = 0 := by simp [chkKN, h]
theorem cchk_any (k n : Int) (w : World) : Calls Tryz.prog 89 #[.int .i64 k, .int .i64 n] w fun e w' => e = .returned (.int .i64 (chkKN k n)) ∧ w = w' := by
  by_cases h1 : k < 1
  · have H := Lib.hid (chk1 (bad1 (n := n) h1))
    go_enter Tryz.func89, Tryz.ntmps89
    go_wp2_with fail
    go_ret
    exact ⟨ret_int H.out.symm, rfl⟩
  · by_cases h2 : n < k
    · have H := Lib.hid (chk1 (bad2 h2))
      go_enter Tryz.func89, Tryz.ntmps89
      go_wp2_with fail
      go_ret
      exact ⟨ret_int H.out.symm, rfl⟩
    · by_cases h3 : 255 < n
      · have H := Lib.hid (chk1 (bad3 (k := k) h3))
        go_enter Tryz.func89, Tryz.ntmps89
        go_wp2_with fail
        go_ret
        exact ⟨ret_int H.out.symm, rfl⟩
      · have H := Lib.hid (chk0 (bad0 h1 h2 h3))
        go_enter Tryz.func89, Tryz.ntmps89
        go_wp2_with fail
        go_ret
        exact ⟨ret_int H.out.symm, rfl⟩
theorem ret_bool {a b : Bool} (h : a = b) : Ending.returned (.bool a) = .returned (.bool b) := by rw [h]
def ent (k i j : Nat) : Nat := if k ≤ i then gi (i ^^^ j) else if i = j then 1 else 0
def rowL (k i : Nat) : List Nat := (List.range k).map (ent k i)
def part (k i m : Nat) : List Nat := (List.range k).map fun l => if l < m then ent k i l else 0
theorem rowL_length (k i : Nat) : (rowL k i).length = k := by simp [rowL]
theorem ent_lt (k i j : Nat) : ent k i j < 256 := by
  unfold ent
  split
  · exact expT_lt _
  · split
    · decide
    · decide
theorem rowL_lt (k i : Nat) : ∀ x ∈ rowL k i, x < 256 := fun x hx => by
  obtain ⟨j, _, rfl⟩ := List.mem_map.1 hx
  exact ent_lt k i j
theorem part_zero (k i : Nat) : part k i 0 = List.replicate k 0 := by
  unfold part
  apply List.ext_getElem
  · simp
  · intro j h1 h2
    simp
theorem part_end (k i : Nat) : part k i k = rowL k i := by
  unfold part rowL
  refine List.map_congr_left fun l hl => ?_
  rw [if_pos (List.mem_range.1 hl)]
theorem part_set (k i m : Nat) (v : Nat) (hv : v = ent k i m) : (u8s (part k i m)).toArray.setIfInBounds m (.int .u8 (v : Int)) = (u8s (part k i (m + 1))).toArray := by
  subst hv
  apply Array.ext
  · simp [u8s, part]
  · intro j h1 h2
    have hj : j < k := by simpa [u8s, part] using h2
    rw [Array.getElem_setIfInBounds (by simpa [u8s, part] using hj)]
    simp only [u8s, part, List.map_map, List.getElem_toArray, List.getElem_map, List.getElem_range, Function.comp_apply]
    have hjs : j < (u8s (part k i m)).toArray.size := by simpa [u8s, part] using hj
    by_cases e : m = j
    · subst e; simp
    · rw [if_neg e]
      by_cases h : j < m
      · rw [if_pos h, if_pos (by omega)]
      · rw [if_neg h, if_neg (by omega)]
theorem part_same (k i m : Nat) (h : ent k i m = 0) : part k i (m + 1) = part k i m := by
  unfold part
  refine List.map_congr_left fun l _ => ?_
  by_cases e : l = m
  · subst e; rw [if_pos (by omega), if_neg (by omega), h]
  · by_cases h2 : l < m
    · rw [if_pos (by omega), if_pos h2]
    · rw [if_neg (by omega), if_neg h2]
theorem infoU8 : (Tryz.prog.info? 5).map (fun i => (i.zero, i.size, i.bytes)) = some (some (.int .u8 0), 1, 1) := by kernel_rfl
theorem made_u8 (k : Nat) : madeCells #[.int .u8 0] k = (u8s (List.replicate k 0)).toArray := by
  apply Array.ext
  · simp [madeCells, u8s]
  · intro j h1 h2
    have hj : j < k := by simpa [u8s] using h2
    simp [madeCells, u8s, Nat.mod_one]
theorem mk_u8 (k : Nat) (hk : k ≤ 16777216) (w : World) : (Instr.makeSlice 120 (.int .i64 (k : Int)) (.int .i64 (k : Int))).run Tryz.prog w = .ok (.slice (some ⟨w.heap.size, 0, none⟩) k k) (w.alloc (.cells (u8s (List.replicate k 0)).toArray 5)) := by
  obtain ⟨i0, hi, hz0, hz1, hz2⟩ := info_parts infoU8
  have := run_make (P := Tryz.prog) w 120 5 i0 (.int .u8 0) Tryz.underlying120 hi hz0 .i64 .i64 k k (by omega) (by omega) (by rw [hz2]; omega) (by omega)
  rw [this, hz1, Nat.mul_one, Int.toNat_natCast]
  rw [show (Value.int .u8 0).cells = #[.int .u8 0] from rfl, made_u8]
theorem xor_255 (i j : Nat) (hi : i < 256) (hj : j < 256) : bits .xor .i64 (i : Int) (j : Int) = ((i ^^^ j : Nat) : Int) := xor_i64 i j (by omega) (by omega)
theorem xor_pos {i j : Nat} (h : i ≠ j) : 0 < i ^^^ j := by
  rcases Nat.eq_zero_or_pos (i ^^^ j) with e | e
  · have h2 : i ^^^ (i ^^^ j) = j := by rw [← Nat.xor_assoc, Nat.xor_self, Nat.zero_xor]
    rw [e, Nat.xor_zero] at h2
    exact absurd h2 h
  · exact e
theorem row_any (k i : Nat) (hk0 : 1 ≤ k) (hk : k ≤ 255) (hi : i < 255) (w : World) : Calls Tryz.prog 90 #[.int .i64 k, .int .i64 i] w fun e w' =>
    e = .returned (.slice (some ⟨w.heap.size, 0, none⟩) k k) ∧ Blk w' w.heap.size (u8s (rowL k i)).toArray 5 ∧ Below w.heap.size w w' := by
  have hmk := mk_u8 k (by omega)
  go_enter Tryz.func90, Tryz.ntmps90
  go_wp2_with fail
  clear hmk
  have hb := Blk.new w (u8s (List.replicate k 0)).toArray 5
  have hB := Below.chainAlloc (Below.refl w.heap.size w) (.cells (u8s (List.replicate k 0)).toArray 5)
  generalize w.alloc (.cells (u8s (List.replicate k 0)).toArray 5) = W at *
  go_loopw [11] (fun v wr => ∃ m : Nat, m ≤ k ∧ v = .int .i64 m ∧ Blk wr w.heap.size (u8s (part k i m)).toArray 5 ∧ Below w.heap.size w wr) (fun v _ => k - (intOf v).toNat)
  case atStart => exact ⟨0, by omega, rfl, by rw [part_zero]; exact hb, hB⟩
  case round =>
    clear hb hB
    obtain ⟨m, hm, rfl, hb, hB⟩ := hrel
    by_cases hlt : m < k
    · have hpl : (u8s (part k i m)).toArray.size = k := by simp [u8s, part]
      have hcx : ∃ u, wr.cell? ⟨w.heap.size, m, none⟩ = some u := by
        refine ⟨(u8s (part k i m)).toArray[m]'(by rw [hpl]; exact hlt), ?_⟩
        rw [hb.facts.1 m, Array.getElem?_eq_getElem]
      obtain ⟨u, hc⟩ := hcx
      have hf := hb.facts.2.1 m
      have hl := hb.lt
      clear hpl
      by_cases hki : k ≤ i
      · have hx := xor_255 i m (by omega) (by omega)
        have hpos : 0 < i ^^^ m := xor_pos (by omega)
        have hlt2 : i ^^^ m < 256 := nat_xor_lt (by omega) (by omega)
        have hset := part_set k i m (gi (i ^^^ m)) (by unfold ent; rw [if_pos hki])
        have HS := Lib.hid hset
        have hg : gi (i ^^^ m) < 256 := expT_lt _
        have hinv := fun wx => inv_any (i ^^^ m) hpos hlt2 wx
        have HI := Lib.hid hinv
        clear hset hinv
        generalize gi (i ^^^ m) = y at *
        generalize i ^^^ m = x at *
        go_wp2_with fail
        refine (HI.out _).mono ?_
        rintro z w1 ⟨rfl, rfl⟩
        go_wp2_with fail
        go_roundw
        case rel => exact ⟨m + 1, by omega, by go_num, hb.setAt m _ HS.out.symm, hB.setCell (Nat.le_refl _) _⟩
        case measure => simp [intOf]; omega
      · by_cases him : i = m
        · subst him
          have HS := Lib.hid (part_set k i i 1 (by unfold ent; rw [if_neg hki, if_pos rfl]))
          go_wp2_with fail
          go_roundw
          case rel => exact ⟨i + 1, by omega, by go_num, hb.setAt i _ HS.out.symm, hB.setCell (Nat.le_refl _) _⟩
          case measure => simp [intOf]; omega
        · have HS := Lib.hid (part_same k i m (by unfold ent; rw [if_neg hki, if_neg him]))
          have hne : ((i : Int) == (m : Int)) = false := by simp; omega
          clear him
          go_wp2_with fail
          go_roundw
          case rel => exact ⟨m + 1, by omega, by go_num, by rw [HS.out]; exact hb, hB⟩
          case measure => simp [intOf]; omega
    · obtain rfl : m = k := by omega
      rw [part_end] at hb
      go_wp2_with fail
      go_ret
      exact ⟨rfl, hb, hB⟩
/-- What a row answers: its error, and the row. -/
def rowE (k n i : Int) : Int := if badKN k n then 1 else if i < 0 ∨ n ≤ i then 2 else 0
def rowV (k n i : Int) : List Nat := if rowE k n i = 0 then rowL k.toNat i.toNat else []
theorem rowE_bad {k n i : Int} (h : badKN k n = true) : rowE k n i = 1 := by simp [rowE, h]
theorem rowE_out {k n i : Int} (h : badKN k n = false) (h2 : i < 0 ∨ n ≤ i) : rowE k n i = 2 := by simp [rowE, h, h2]
theorem rowE_ok {k n i : Int} (h : badKN k n = false) (h1 : 0 ≤ i) (h2 : i < n) : rowE k n i = 0 := by
  unfold rowE
  rw [if_neg (by simp [h]), if_neg (by omega)]
/-- The post of a row. -/
def RowPost (k n i : Int) (w : World) (e : Ending) (w' : World) : Prop := ∃ v, e = .returned (.tuple #[v, .int .i64 (rowE k n i)]) ∧ (∀ B, RowAt B w' v (rowV k n i)) ∧ Below w.heap.size w w'
theorem RowPost.bad {k n i : Int} {w w' : World} {z : Int} (h : rowE k n i = z) (hz : z ≠ 0) (hb : Below w.heap.size w w') : RowPost k n i w (.returned (.tuple #[.slice none 0 0, .int .i64 z])) w' :=
  ⟨_, by rw [h], fun B => by unfold rowV; rw [if_neg (by omega)]; exact RowAt.nil _ _, hb⟩
theorem RowPost.ok {k n i : Nat} {w w' : World} (h : rowE k n i = 0) (hk : k ≤ 255) (hb : Below w.heap.size w w') (hr : Blk w' w.heap.size (u8s (rowL k i)).toArray 5) : RowPost k n i w (.returned (.tuple #[.slice (some ⟨w.heap.size, 0, none⟩) k k, .int .i64 0])) w' :=
  ⟨_, by rw [h], fun B => by
    unfold rowV
    rw [if_pos h, Int.toNat_natCast, Int.toNat_natCast]
    have := RowAt.of_blk (B := B) (cap := k) hr (by rw [rowL_length]; exact Nat.le_refl _) (by unfold maxLen; omega) (rowL_lt k i)
    rwa [rowL_length] at this, hb⟩
theorem crow_any (k n i : Int) (w : World) : Calls Tryz.prog 78 #[.int .i64 k, .int .i64 n, .int .i64 i] w (RowPost k n i w) := by
  cases hbad : badKN k n with
  | true =>
    have H := Lib.hid (RowPost.bad (w := w) (rowE_bad (i := i) hbad) (by decide) (Below.refl _ _))
    have hc := chk1 hbad
    have HC := Lib.hid hc
    clear hbad hc
    go_enter Tryz.func78, Tryz.ntmps78
    go_wp2_with fail
    refine (cchk_any k n _).mono ?_
    rw [HC.out]
    rintro x w1 ⟨rfl, rfl⟩
    go_wp2_with fail
    go_ret2
    exact H.out
  | false =>
    have HC := Lib.hid (chk0 hbad)
    have hno := bad_no hbad
    obtain ⟨g1, g2, g3⟩ := hno
    by_cases hi : i < 0
    · have H := Lib.hid (RowPost.bad (w := w) (rowE_out (i := i) hbad (.inl hi)) (by decide) (Below.refl _ _))
      clear hbad
      go_enter Tryz.func78, Tryz.ntmps78
      go_wp2_with fail
      refine (cchk_any k n _).mono ?_
      rw [HC.out]
      rintro x w1 ⟨rfl, rfl⟩
      go_wp2_with fail
      go_ret2
      exact H.out
    · by_cases hi2 : n ≤ i
      · have H := Lib.hid (RowPost.bad (w := w) (rowE_out (i := i) hbad (.inr hi2)) (by decide) (Below.refl _ _))
        clear hbad
        go_enter Tryz.func78, Tryz.ntmps78
        go_wp2_with fail
        refine (cchk_any k n _).mono ?_
        rw [HC.out]
        rintro x w1 ⟨rfl, rfl⟩
        go_wp2_with fail
        go_ret2
        exact H.out
      · obtain ⟨k, rfl⟩ := Int.eq_ofNat_of_zero_le (show 0 ≤ k by omega)
        obtain ⟨n, rfl⟩ := Int.eq_ofNat_of_zero_le (show 0 ≤ n by omega)
        obtain ⟨i, rfl⟩ := Int.eq_ofNat_of_zero_le (show 0 ≤ i by omega)
        have H : Hid (∀ w', Below w.heap.size w w' → Blk w' w.heap.size (u8s (rowL k i)).toArray 5 → RowPost k n i w (.returned (.tuple #[.slice (some ⟨w.heap.size, 0, none⟩) k k, .int .i64 0])) w') :=
          fun w' hb hr => RowPost.ok (rowE_ok hbad (by omega) (by omega)) (by omega) hb hr
        clear hbad
        go_enter Tryz.func78, Tryz.ntmps78
        go_wp2_with fail
        refine (cchk_any k n _).mono ?_
        rw [HC.out]
        rintro x w1 ⟨rfl, rfl⟩
        go_wp2_with fail
        refine (row_any k i (by omega) (by omega) (by omega) _).mono ?_
        rintro x w1 ⟨rfl, hr, hb⟩
        go_wp2_with fail
        go_ret2
        exact H.out _ hb hr
end Go.Proofs.YtnmlmpffmjhihaaGreat
namespace Go.Proofs.YtnmlmpffmjhihaaGreat
open Go.RowKit
set_option linter.unusedVariables false
set_option maxRecDepth 100000
set_option maxHeartbeats 1000000
def IntsAt (B : Nat) (w : World) (v : Value) (zs : List Int) : Prop := SlAt B w 3 v (zs.map (Value.int .i64)) ∧ ∀ z ∈ zs, -9223372036854775808 ≤ z ∧ z ≤ 9223372036854775807
theorem IntsAt.chain {B : Nat} {w w' : World} {v : Value} {zs : List Int} (h : IntsAt B w v zs) (hb : Below w.heap.size w w') : IntsAt B w' v zs := ⟨h.1.chain hb, h.2⟩
theorem IntsAt.at {B : Nat} {w : World} {v : Value} {zs : List Int} (h : IntsAt B w v zs) : ∃ a cap, v = .slice a zs.length cap ∧ zs.length ≤ 9223372036854775807 ∧ ∀ k (hk : k < zs.length), ∃ g off, a = some ⟨g, off, none⟩ ∧ g < w.heap.size ∧ w.cell? ⟨g, off + k, none⟩ = some (.int .i64 zs[k]) ∧ -9223372036854775808 ≤ zs[k] ∧ zs[k] ≤ 9223372036854775807 := by
  have hm := h.1.max
  obtain ⟨a, cap, hv, hc⟩ := h.1.at
  rw [List.length_map] at hv hm
  refine ⟨a, cap, hv, hm, fun k hk => ?_⟩
  obtain ⟨g, off, ha, hg, e⟩ := hc k (by simpa using hk)
  exact ⟨g, off, ha, hg, by rw [e]; simp, h.2 _ (by simp)⟩
theorem Seg.apart {B base : Nat} {w : World} {e t : TypeId} {size n : Nat} {v : Value} {xs : List Value} (h : Seg w base e size v n xs) (ht : e ≠ t) (hB : B ≤ base) : ∀ x ∈ v.ownBlock.toList, Apart B w t x := fun x hx => by
  rcases h.2 with ⟨rfl, _⟩ | ⟨g, off, cap, cur, rfl, hg, hh, _⟩
  · simp [Value.ownBlock] at hx
  · have : g = x := by simpa [Value.ownBlock, eq_comm] using hx
    subst this
    refine ⟨by omega, fun cs fr e' => ?_⟩
    rw [hh] at e'
    cases e'
    exact ht rfl
def firstE (k n : Int) : List Int → Int
  | [] => 0
  | z :: zs => if rowE k n z = 0 then firstE k n zs else rowE k n z
theorem firstE_take {k n : Int} : ∀ {zs : List Int} {m : Nat} (h : m < zs.length), firstE k n (zs.take m) = 0 → rowE k n zs[m] = 0 → firstE k n (zs.take (m + 1)) = 0
  | [], m, h, _, _ => absurd h (Nat.not_lt_zero _)
  | z :: zs, 0, h, _, hz => by
    have hz' : rowE k n z = 0 := hz
    simp [firstE, hz']
  | z :: zs, m + 1, h, h1, h2 => by
    simp only [List.take_succ_cons, firstE] at h1 ⊢
    by_cases hz : rowE k n z = 0
    · rw [if_pos hz] at h1 ⊢
      exact firstE_take (by simpa using h) h1 h2
    · rw [if_neg hz] at h1
      exact absurd h1 hz
theorem firstE_stop {k n : Int} : ∀ {zs : List Int} {m : Nat} (h : m < zs.length), firstE k n (zs.take m) = 0 → rowE k n zs[m] ≠ 0 → firstE k n zs = rowE k n zs[m]
  | [], m, h, _, _ => absurd h (Nat.not_lt_zero _)
  | z :: zs, 0, h, _, hz => by
    have hz' : ¬ rowE k n z = 0 := hz
    simp [firstE, hz']
  | z :: zs, m + 1, h, h1, h2 => by
    simp only [List.take_succ_cons, firstE] at h1 ⊢
    by_cases hz : rowE k n z = 0
    · rw [if_pos hz] at h1 ⊢
      exact firstE_stop (zs := zs) (by simpa using h) h1 h2
    · rw [if_neg hz] at h1
      exact absurd h1 hz
def picks (k n : Int) (zs : List Int) (e : Int) : List (List Nat) := if e = 0 then zs.map (rowV k n) else []
def FirstPost (k n : Int) (zs : List Int) (w : World) (e : Ending) (w' : World) : Prop := ∃ v, e = .returned (.tuple #[v, .int .i64 (firstE k n zs)]) ∧ MatAt 0 w' v (picks k n zs (firstE k n zs)) ∧ Below w.heap.size w w'
/-- The rows so far. -/
def RowsSo (k n : Int) (zs : List Int) (wr : World) (vs : List Value) : Prop := ∀ j (h : j < vs.length) (h' : j < zs.length), RowAt 0 wr vs[j] (rowV k n zs[j])
theorem RowsSo.snoc {k n : Int} {zs : List Int} {wr : World} {vs : List Value} {u : Value} {m : Nat} (h : RowsSo k n zs wr vs) (hm : vs.length = m) (hmz : m < zs.length) (hu : RowAt 0 wr u (rowV k n zs[m])) : RowsSo k n zs wr (vs ++ [u]) := fun j hj hj' => by
  by_cases e : j < vs.length
  · rw [List.getElem_append_left e]; exact h j e hj'
  · have : j = m := by simp at hj; omega
    subst this
    rw [List.getElem_append_right (by omega)]
    simpa [hm] using hu
theorem RowsSo.map {k n : Int} {zs : List Int} {wr w' : World} {vs : List Value} (h : RowsSo k n zs wr vs) (f : ∀ u bs, RowAt 0 wr u bs → RowAt 0 w' u bs) : RowsSo k n zs w' vs := fun j hj hj' => f _ _ (h j hj hj')
theorem RowsSo.mat {k n : Int} {zs : List Int} {wr : World} {v : Value} {vs : List Value} (h : RowsSo k n zs wr vs) (hl : vs.length = zs.length) (hs : SlAt 0 wr 120 v vs) (he : firstE k n zs = 0) : MatAt 0 wr v (picks k n zs (firstE k n zs)) := by
  unfold picks
  rw [if_pos he]
  refine ⟨vs, by simpa using hl, hs, fun i hi hi' => ?_⟩
  have := h i hi (by omega)
  simpa using this
theorem infoRow : (Tryz.prog.info? 120).map (fun i => (i.zero, i.size, i.bytes)) = some (some (.slice none 0 0), 1, 24) := by kernel_rfl
theorem made_rows (k : Nat) : madeCells #[.slice none 0 0] k = (Array.replicate k (Value.slice none 0 0)) := by
  apply Array.ext
  · simp [madeCells]
  · intro j h1 h2
    simp [madeCells, Nat.mod_one]
theorem set_mid (vs : List Value) (u z : Value) (k : Nat) (hk : 0 < k) : (vs ++ List.replicate k z).toArray.setIfInBounds vs.length u = ((vs ++ [u]) ++ List.replicate (k - 1) z).toArray := by
  obtain ⟨k, rfl⟩ : ∃ j, k = j + 1 := ⟨k - 1, by omega⟩
  simp [List.replicate_succ]
end Go.Proofs.YtnmlmpffmjhihaaGreat
namespace Go.Proofs.YtnmlmpffmjhihaaGreat
open Go.RowKit
set_option linter.unusedVariables false
set_option maxRecDepth 100000
set_option maxHeartbeats 1000000
def pickE (k n : Int) (zs : List Int) : Int := if badKN k n = true ∨ zs.length < 1 ∨ 255 < zs.length then 1 else firstE k n zs
theorem pickE_bad {k n : Int} {zs : List Int} (h : badKN k n = true ∨ zs.length < 1 ∨ 255 < zs.length) : pickE k n zs = 1 := by unfold pickE; rw [if_pos h]
theorem pickE_ok {k n : Int} {zs : List Int} (h : badKN k n = false) (h1 : 1 ≤ zs.length) (h2 : zs.length ≤ 255) : pickE k n zs = firstE k n zs := by
  unfold pickE
  rw [if_neg]
  rintro (h' | h' | h')
  · rw [h] at h'; cases h'
  · omega
  · omega
def PickPost (k n : Int) (zs : List Int) (w : World) (e : Ending) (w' : World) : Prop := ∃ v, e = .returned (.tuple #[v, .int .i64 (pickE k n zs)]) ∧ MatAt 0 w' v (picks k n zs (pickE k n zs)) ∧ Below w.heap.size w w'
theorem PickPost.bad {k n : Int} {zs : List Int} {w w' : World} (h : badKN k n = true ∨ zs.length < 1 ∨ 255 < zs.length) (hb : Below w.heap.size w w') : PickPost k n zs w (.returned (.tuple #[.slice none 0 0, .int .i64 1])) w' :=
  ⟨_, by rw [pickE_bad h], by unfold picks; rw [if_neg (by rw [pickE_bad h]; decide)]; exact MatAt.nil _ _, hb⟩
end Go.Proofs.YtnmlmpffmjhihaaGreat
namespace Go.Proofs.YtnmlmpffmjhihaaGreat
open Go.RowKit
set_option linter.unusedVariables false
set_option maxRecDepth 100000
set_option maxHeartbeats 1000000
def allR (k n : Int) : List (List Nat) := if badKN k n = true then [] else (List.range n.toNat).map (rowL k.toNat)
def AllPost (k n : Int) (w : World) (e : Ending) (w' : World) : Prop := ∃ v, e = .returned (.tuple #[v, .int .i64 (chkKN k n)]) ∧ MatAt 0 w' v (allR k n) ∧ Below w.heap.size w w'
def RowsN (k : Nat) (wr : World) (vs : List Value) : Prop := ∀ j (h : j < vs.length), RowAt 0 wr vs[j] (rowL k j)
theorem RowsN.snoc {k : Nat} {wr : World} {vs : List Value} {u : Value} {m : Nat} (h : RowsN k wr vs) (hm : vs.length = m) (hu : RowAt 0 wr u (rowL k m)) : RowsN k wr (vs ++ [u]) := fun j hj => by
  by_cases e : j < vs.length
  · rw [List.getElem_append_left e]; exact h j e
  · have : j = m := by simp at hj; omega
    subst this
    rw [List.getElem_append_right (by omega)]
    simpa [hm] using hu
theorem RowsN.map {k : Nat} {wr w' : World} {vs : List Value} (h : RowsN k wr vs) (f : ∀ u bs, RowAt 0 wr u bs → RowAt 0 w' u bs) : RowsN k w' vs := fun j hj => f _ _ (h j hj)
theorem infoInt : (Tryz.prog.info? 3).map (fun i => (i.zero, i.size, i.bytes)) = some (some (.int .i64 0), 1, 8) := by kernel_rfl
def ints (n : Nat) : List Int := (List.range n).map fun (j : Nat) => (j : Int)
theorem ints_snoc (m : Nat) : (ints (m + 1)).map (Value.int .i64) = (ints m).map (Value.int .i64) ++ [.int .i64 (m : Int)] := by simp [ints, List.range_succ]
theorem firstE_ints {k n : Int} (hb : badKN k n = false) : ∀ zs : List Int, (∀ z ∈ zs, 0 ≤ z ∧ z < n) → firstE k n zs = 0
  | [], _ => rfl
  | z :: zs, h => by
    have h1 := h z (by simp)
    unfold firstE
    rw [if_pos (rowE_ok hb h1.1 h1.2)]
    exact firstE_ints hb zs (fun y hy => h y (by simp [hy]))
end Go.Proofs.YtnmlmpffmjhihaaGreat
namespace Go.Proofs.YtnmlmpffmjhihaaGreat
open Go.RowKit
set_option linter.unusedVariables false
def OwnV (w : World) (g off : Nat) (t : TypeId) (vs : List Value) : Prop :=
  g < w.heap.size ∧ (∃ cs, w.heap[g]? = some (.cells cs t (0, 0))) ∧ ∀ j (h : j < vs.length), w.cell? ⟨g, off + j, none⟩ = some vs[j]
section
variable {w w' : World} {g off : Nat} {t : TypeId} {vs : List Value}
theorem OwnV.lt (h : OwnV w g off t vs) : g < w.heap.size := h.1
theorem OwnV.free (h : OwnV w g off t vs) (o : Nat) : w.frozen? ⟨g, o, none⟩ = false := by
  obtain ⟨_, ⟨cs, hc⟩, _⟩ := h
  simp [World.frozen?, hc]
theorem OwnV.same (h : OwnV w g off t vs) (hs : w'.heap[g]? = w.heap[g]?) : OwnV w' g off t vs := by
  obtain ⟨h1, ⟨cs, h2⟩, h3⟩ := h
  have h2' : w'.heap[g]? = some (.cells cs t (0, 0)) := hs.trans h2
  refine ⟨(Array.getElem?_eq_some_iff.1 h2').1, ⟨cs, h2'⟩, fun j hj => ?_⟩
  rw [← h3 j hj]
  unfold World.cell?
  simp only
  rw [hs]
theorem OwnV.chain (h : OwnV w g off t vs) (hb : Below w.heap.size w w') : OwnV w' g off t vs := h.same (hb.block g h.1)
theorem OwnV.only {S : List Nat} (h : OwnV w g off t vs) (ho : Only S w w') (hg : g ∉ S) : OwnV w' g off t vs := h.same (ho.block g h.1 hg)
theorem OwnV.other (h : OwnV w g off t vs) (p : Addr) (u : Value) (hp : g ≠ p.block) : OwnV (w.setCell p u) g off t vs := h.same (Below.heap_setCell _ _ _ _ hp)
theorem OwnV.store (h : OwnV w g off t vs) (i : Nat) (u : Value) (hi : i < vs.length) (hu : u.oneCell' = true := by rfl) : OwnV (w.setCell ⟨g, off + i, none⟩ u) g off t (vs.set i u) := by
  obtain ⟨h1, ⟨cs, h2⟩, h3⟩ := h
  have hcell := h3 i hi
  have hin : off + i < cs.size := by
    unfold World.cell? at hcell
    rw [h2] at hcell
    simp at hcell
    exact (Array.getElem?_eq_some_iff.1 hcell).1
  have hh : (w.setCell ⟨g, off + i, none⟩ u).heap[g]? = some (.cells (cs.setIfInBounds (off + i) u) t (0, 0)) := by
    simp only [World.setCell, Array.getElem?_modify]
    simp [h2]
  refine ⟨by simpa [World.setCell] using h1, ⟨_, hh⟩, fun j hj => ?_⟩
  have hj' : j < vs.length := by simpa using hj
  unfold World.cell?
  rw [hh]
  simp only [Option.isSome_none, Bool.false_eq_true, if_false]
  by_cases e : i = j
  · subst e
    simp [hin]
  · have h4 := h3 j hj'
    unfold World.cell? at h4
    rw [h2] at h4
    simp at h4
    rw [Array.getElem?_setIfInBounds_ne (by omega), h4, List.getElem_set_ne e]
theorem OwnV.of_blk {cs : Array Value} (h : Blk w g cs t) : OwnV w g 0 t cs.toList := ⟨h.lt, ⟨cs, h⟩, fun j hj => by
  rw [Nat.zero_add, h.facts.1 j]
  simp [Array.getElem?_eq_getElem (show j < cs.size by simpa using hj)]⟩
theorem OwnV.apart {B : Nat} {t' : TypeId} (h : OwnV w g off t vs) (hB : B ≤ g) (ht : t ≠ t') : Apart B w t' g := ⟨hB, fun cs fr e => by
  obtain ⟨_, ⟨cs', h2⟩, _⟩ := h
  rw [h2] at e
  cases e
  exact ht rfl⟩
theorem OwnV.slAt {B cap : Nat} (h : OwnV w g off t vs) (hc : vs.length ≤ cap) (hm : cap ≤ maxLen) : SlAt B w t (.slice (some ⟨g, off, none⟩) vs.length cap) vs :=
  ⟨_, cap, rfl, hc, hm, .inr ⟨g, off, rfl, h.1, .inr (h.2.1.imp fun cs e => ⟨_, e⟩), h.2.2⟩⟩
end
theorem OwnV.of_seg {w : World} {base : Nat} {t : TypeId} {n : Nat} {vs : List Value} {g off cap : Nat} (h : Seg w base t 1 (.slice (some ⟨g, off, none⟩) n cap) n vs) : OwnV w g off t vs := by
  have hl := h.1
  have h0 := h
  obtain ⟨_, h2⟩ := h
  rcases h2 with ⟨h2, _⟩ | ⟨g', off', cap', cur, hv, hg, hh, h3, h4, _, _⟩
  · cases h2
  · cases hv
    exact ⟨(Array.getElem?_eq_some_iff.1 hh).1, ⟨_, hh⟩, fun j hj => by rw [h0.at j (by omega), List.getElem?_eq_getElem hj]⟩
/-! A row of bytes that is stored into. -/
def OwnB (w : World) (g off : Nat) (bs : List Nat) : Prop := OwnV w g off 5 (u8s bs) ∧ ∀ x ∈ bs, x < 256
section
variable {w w' : World} {g off : Nat} {bs : List Nat}
theorem u8s_set (bs : List Nat) (i x : Nat) : (u8s bs).set i (.int .u8 (x : Int)) = u8s (bs.set i x) := by simp [u8s, List.map_set]
theorem OwnB.chain (h : OwnB w g off bs) (hb : Below w.heap.size w w') : OwnB w' g off bs := ⟨h.1.chain hb, h.2⟩
theorem OwnB.read (h : OwnB w g off bs) (i : Nat) (hi : i < bs.length) : w.cell? ⟨g, off + i, none⟩ = some (.int .u8 (bs[i] : Nat)) := by
  rw [h.1.2.2 i (by rw [u8s_length]; exact hi)]
  simp [u8s]
theorem OwnB.store (h : OwnB w g off bs) (i x : Nat) (hi : i < bs.length) (hx : x < 256) : OwnB (w.setCell ⟨g, off + i, none⟩ (.int .u8 (x : Int))) g off (bs.set i x) := by
  refine ⟨?_, fun y hy => ?_⟩
  · rw [← u8s_set]
    exact h.1.store i _ (by rw [u8s_length]; exact hi)
  · rcases List.mem_or_eq_of_mem_set hy with h' | h'
    · exact h.2 y h'
    · omega
theorem OwnB.row {B cap : Nat} (h : OwnB w g off bs) (hc : bs.length ≤ cap) (hm : cap ≤ maxLen) : RowAt B w (.slice (some ⟨g, off, none⟩) bs.length cap) bs := by
  have := h.1.slAt (B := B) (cap := cap) (by rw [u8s_length]; exact hc) hm
  rw [u8s_length] at this
  exact ⟨this, h.2⟩
end
theorem OwnB.new (w : World) (n : Nat) : OwnB (w.alloc (.cells (u8s (List.replicate n 0)).toArray 5)) w.heap.size 0 (List.replicate n 0) :=
  ⟨by have := OwnV.of_blk (Blk.new w (u8s (List.replicate n 0)).toArray 5); exact this, fun x hx => by rw [(List.mem_replicate.1 hx).2]; decide⟩
/-! A table whose rows are put in. -/
def OwnM (w : World) (g off : Nat) (rows : List (List Nat)) : Prop :=
  ∃ vs : List Value, vs.length = rows.length ∧ OwnV w g off 120 vs ∧ ∀ i (h : i < vs.length) (h' : i < rows.length), RowAt 0 w vs[i] rows[i]
section
variable {w w' : World} {g off : Nat} {rows : List (List Nat)}
theorem OwnM.lt (h : OwnM w g off rows) : g < w.heap.size := by obtain ⟨_, _, h, _⟩ := h; exact h.1
theorem OwnM.free (h : OwnM w g off rows) (o : Nat) : w.frozen? ⟨g, o, none⟩ = false := by obtain ⟨_, _, h, _⟩ := h; exact h.free o
theorem OwnM.chain (h : OwnM w g off rows) (hb : Below w.heap.size w w') : OwnM w' g off rows := by
  obtain ⟨vs, h1, h2, h3⟩ := h
  exact ⟨vs, h1, h2.chain hb, fun i hi hi' => (h3 i hi hi').chain hb⟩
theorem OwnM.apart (h : OwnM w g off rows) : Apart 0 w 5 g := by
  obtain ⟨vs, h1, h2, h3⟩ := h
  exact h2.apart (Nat.zero_le _) (by decide)
theorem OwnM.other (h : OwnM w g off rows) (p : Addr) (u : Value) (hp : g ≠ p.block) (ha : Apart 0 w 5 p.block) : OwnM (w.setCell p u) g off rows := by
  obtain ⟨vs, h1, h2, h3⟩ := h
  exact ⟨vs, h1, h2.other p u hp, fun i hi hi' => (h3 i hi hi').store p u ha⟩
theorem OwnM.read (h : OwnM w g off rows) (i : Nat) (hi : i < rows.length) : ∃ a cap, w.cell? ⟨g, off + i, none⟩ = some (.slice a rows[i].length cap) ∧ RowAt 0 w (.slice a rows[i].length cap) rows[i] := by
  obtain ⟨vs, h1, h2, h3⟩ := h
  have hr := h3 i (by omega) hi
  obtain ⟨a, cap, e, _⟩ := hr.at
  refine ⟨a, cap, ?_, by rw [← e]; exact hr⟩
  rw [h2.2.2 i (by omega), e]
theorem OwnM.store (h : OwnM w g off rows) (i : Nat) (hi : i < rows.length) (a : Option Addr) (n cap : Nat) (r : List Nat) (hr : RowAt 0 w (.slice a n cap) r) : OwnM (w.setCell ⟨g, off + i, none⟩ (.slice a n cap)) g off (rows.set i r) := by
  have ha := h.apart
  obtain ⟨vs, h1, h2, h3⟩ := h
  refine ⟨vs.set i (.slice a n cap), by simp [h1], h2.store i _ (by omega), fun j hj hj' => ?_⟩
  by_cases e : i = j
  · subst e
    simp only [List.getElem_set_self]
    exact hr.store _ _ ha
  · rw [List.getElem_set_ne e, List.getElem_set_ne e]
    exact (h3 j (by simpa using hj) (by simpa using hj')).store _ _ ha
theorem OwnM.mat {B cap n : Nat} (h : OwnM w g off rows) (hn : n = rows.length) (hc : n ≤ cap) (hm : cap ≤ maxLen) : MatAt B w (.slice (some ⟨g, off, none⟩) n cap) rows := by
  subst hn
  obtain ⟨vs, h1, h2, h3⟩ := h
  have := h2.slAt (B := B) (cap := cap) (by omega) hm
  rw [h1] at this
  exact ⟨vs, h1, this, fun i hi hi' => (h3 i hi hi').le (Nat.zero_le _)⟩
end
theorem OwnM.of_seg {w : World} {base : Nat} {n : Nat} {vs : List Value} {g off cap : Nat} {rows : List (List Nat)} (h : Seg w base 120 1 (.slice (some ⟨g, off, none⟩) n cap) n vs) (hl : vs.length = rows.length) (hr : ∀ i (h : i < vs.length) (h' : i < rows.length), RowAt 0 w vs[i] rows[i]) : OwnM w g off rows :=
  ⟨vs, hl, OwnV.of_seg h, hr⟩
theorem OwnM.new (w : World) (n : Nat) : OwnM (w.alloc (.cells (Array.replicate n (Value.slice none 0 0)) 120)) w.heap.size 0 (List.replicate n []) :=
  ⟨List.replicate n (.slice none 0 0), by simp, by have := OwnV.of_blk (Blk.new w (Array.replicate n (Value.slice none 0 0)) 120); simpa using this, fun i hi hi' => by simpa using RowAt.nil _ _⟩
/-- Rows of a table all of which are stored anew, from the front. -/
theorem set_take {α : Type} (xs ys : List α) (m : Nat) (hx : m < xs.length) (hl : xs.length = ys.length) : (xs.take m ++ ys.drop m).set m (xs[m]) = xs.take (m + 1) ++ ys.drop (m + 1) := by
  have h1 : (xs.take m).length = m := by simp; omega
  rw [List.set_append_right _ _ (by omega), h1, Nat.sub_self, List.take_succ_eq_append_getElem hx, List.append_assoc]
  congr 1
  rw [List.drop_eq_getElem_cons (show m < ys.length by omega)]
  rfl
/-! An append of a whole slice, of no element too, onto a slice of the call's own. -/
section
variable {P : Program} {w : World}
theorem run_append_zero (base : Nat) (t ty e : TypeId) (i : TypeInfo) (size : Nat) (ht : P.underlying t = some (.slice e)) (hi : P.info? e = some i)
    (v : Value) (n : Nat) (xs : List Value) (hown : Seg w base e size v n xs) (A : Option Addr) (c : Nat) : (Builtin.append_ #[t, t] ty #[v, .slice A 0 c]).run P w = .ok v w := by
  rcases hown.2 with ⟨rfl, rfl⟩ | ⟨g, off, cap, cur, rfl, _, _, hnc, _, _, _⟩
  · cases A with
    | none => simp [Builtin.append_, run_underlying ht, sizeOf, typeInfo, hi, Builtin.lenOf, Builtin.firstCells]
    | some A =>
      have hl := run_loadCells_list (P := P) w A [] (by simp)
      simp only [List.length_nil] at hl
      simp [Builtin.append_, run_underlying ht, sizeOf, typeInfo, hi, Builtin.lenOf, Builtin.firstCells, hl]
  · cases A with
    | none => simp [Builtin.append_, run_underlying ht, sizeOf, typeInfo, hi, Builtin.lenOf, Builtin.firstCells, hnc, storeCells]
    | some A =>
      have hl := run_loadCells_list (P := P) w A [] (by simp)
      simp only [List.length_nil] at hl
      simp [Builtin.append_, run_underlying ht, sizeOf, typeInfo, hi, Builtin.lenOf, Builtin.firstCells, hnc, storeCells, hl]
theorem run_append_sl (base B : Nat) (t ty e e' : TypeId) (i : TypeInfo) (z : Value) (bytes : Nat) (ht : P.underlying t = some (.slice e)) (hi : P.info? e = some i) (hz : i.zero = some z)
    (hsize : i.size = 1) (hby : i.bytes = bytes) (hzs : z.cells.size = 1)
    (v : Value) (n : Nat) (xs : List Value) (hown : Seg w base e 1 v n xs) (x : Value) (news : List Value) (hx : SlAt B w e' x news) (h1 : ∀ u ∈ news, u.oneCell' = true)
    (h63 : n + news.length ≤ maxLen) (hbytes : (n + news.length) * bytes ≤ 140737488355328) (hbase : base ≤ w.heap.size) :
    ∃ v' w', (Builtin.append_ #[t, t] ty #[v, x]).run P w = .ok v' w' ∧ Seg w' base e 1 v' (n + news.length) (xs ++ news) ∧ w.grownBy w' v.ownBlock ∧ (v'.ownBlock = v.ownBlock ∨ ∃ g, v'.ownBlock = some g ∧ w.heap.size ≤ g) := by
  obtain ⟨a, cap, rfl, hc, hm, hcells⟩ := hx
  by_cases h0 : news.length = 0
  · have hn : news = [] := List.eq_nil_of_length_eq_zero h0
    subst hn
    refine ⟨v, w, run_append_zero base t ty e i 1 ht hi v n xs hown a cap, by simpa using hown, ⟨rfl, rfl, rfl, Nat.le_refl _, fun _ _ _ => rfl⟩, .inl rfl⟩
  · obtain ⟨g, off, rfl, _, _, hat⟩ := hcells.resolve_left (fun e => h0 (by rw [e]; rfl))
    obtain ⟨g', off', cap', w', hr, h2, h3, h4⟩ := run_append_seg (P := P) w base t ty e i z 1 bytes ht hi hz hsize hby hzs (by decide) v n xs hown ⟨g, off, none⟩ news.length cap news (by simp)
      (fun j u hu => by
        obtain ⟨hj, rfl⟩ := List.getElem?_eq_some_iff.1 hu
        have ea : (⟨g, off, none⟩ : Addr).add j = ⟨g, off + j, none⟩ := by unfold Addr.add; split <;> simp_all
        rw [ea]
        exact hat j hj) h1 (by omega) h63 hbytes hbase
    refine ⟨_, _, hr, h2, h3, h4.elim (fun e => .inl (by rw [e]; rfl)) (fun e => .inr ⟨g', rfl, by omega⟩)⟩
theorem wp_append_sl {o : Oper} {a : Act} {K : Act → World → Prop} {Q : Exit → Act → World → Prop} (s y : Operand) (t : TypeId)
    (ho : o.op = .call { callee := .builtin .append, args := #[s, y], argTypes := #[t, t] })
    (base B : Nat) (e e' : TypeId) (i : TypeInfo) (z : Value) (bytes : Nat) (ht : P.underlying t = some (.slice e)) (hi : P.info? e = some i) (hz : i.zero = some z)
    (hsize : i.size = 1) (hby : i.bytes = bytes) (hzs : z.cells.size = 1)
    (v : Value) (n : Nat) (xs : List Value) (hs : a.eval s = v) (hown : Seg w base e 1 v n xs) (x : Value) (news : List Value) (hy : a.eval y = x) (hx : SlAt B w e' x news) (h1 : ∀ u ∈ news, u.oneCell' = true)
    (h63 : n + news.length ≤ maxLen) (hbytes : (n + news.length) * bytes ≤ 140737488355328) (hbase : base ≤ w.heap.size)
    (h : ∀ v' w', Seg w' base e 1 v' (n + news.length) (xs ++ news) → w.grownBy w' v.ownBlock → (v'.ownBlock = v.ownBlock ∨ ∃ g, v'.ownBlock = some g ∧ w.heap.size ≤ g) → K (a.put o.dst v') w') : o.wp P a w K Q := by
  obtain ⟨v', w', hr, h2, h3, h4⟩ := run_append_sl (P := P) (w := w) base B t o.type e e' i z bytes ht hi hz hsize hby hzs v n xs hown x news hx h1 h63 hbytes hbase
  unfold Oper.wp execOp
  simp only [ho, resolve, invoke, builtin, Sem.run_bind, Sem.run_pure, Result.andThen_ok, List.map_toArray, List.map_cons, List.map_nil, hs, hy, hr]
  exact h v' w' h2 h3 h4
theorem wpList_append_sl {ops : Array Oper} {rest : List Oper} {o : Oper} {a : Act} {Q : Exit → Act → World → Prop} (hgd : o.guard = none) (s y : Operand) (t : TypeId)
    (ho : o.op = .call { callee := .builtin .append, args := #[s, y], argTypes := #[t, t] })
    (base B : Nat) (e e' : TypeId) (i : TypeInfo) (z : Value) (bytes : Nat) (ht : P.underlying t = some (.slice e)) (hi : P.info? e = some i) (hz : i.zero = some z)
    (hsize : i.size = 1) (hby : i.bytes = bytes) (hzs : z.cells.size = 1)
    (v : Value) (n : Nat) (xs : List Value) (hs : a.eval s = v) (hown : Seg w base e 1 v n xs) (x : Value) (news : List Value) (hy : a.eval y = x) (hx : SlAt B w e' x news) (h1 : ∀ u ∈ news, u.oneCell' = true)
    (h63 : n + news.length ≤ maxLen) (hbytes : (n + news.length) * bytes ≤ 140737488355328) (hbase : base ≤ w.heap.size)
    (h : ∀ v' w', Seg w' base e 1 v' (n + news.length) (xs ++ news) → w.grownBy w' v.ownBlock → (v'.ownBlock = v.ownBlock ∨ ∃ g, v'.ownBlock = some g ∧ w.heap.size ≤ g) → wpList P ops Q rest (a.put o.dst v') w') : wpList P ops Q (o :: rest) a w :=
  wpList_plain hgd fun _ hK => wp_append_sl s y t ho base B e e' i z bytes ht hi hz hsize hby hzs v n xs hs hown x news hy hx h1 h63 hbytes hbase fun v' w' h2 h3 h4 => hK _ _ (h v' w' h2 h3 h4)
end
end Go.Proofs.YtnmlmpffmjhihaaGreat
