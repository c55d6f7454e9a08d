/-
  Whose turn it is: slices.DeleteFunc over the round (chapter 17).
-/
import Derived.Test.YtgfbhclkpephnaaDr6
import Derived.Lib.SliceRun
import Derived.Laws.Tables
import Derived.Shelf.Abstract
namespace Go.Proofs.Ytgfbhclkpephnaa
open Go Go.RowKit
set_option linter.unusedVariables false
set_option linter.unusedSimpArgs false
set_option maxRecDepth 100000
set_option maxHeartbeats 1000000
section
variable {w : World} {base : Nat} {e : TypeId} {size n g off cap : Nat} {xs : List Value}
theorem heap_set_same {w : World} {g o : Nat} {cur : Array Value} {e : TypeId} (u : Value) (h : w.heap[g]? = some (.cells cur e (0, 0))) : (w.setCell ⟨g, o, none⟩ u).heap[g]? = some (.cells (cur.setIfInBounds o u) e (0, 0)) := by
  have hb : Blk w g cur e := h
  exact Blk.setAt hb o u rfl
/-- A cell of its own is stored. -/
theorem Seg.put (h : Seg w base e size (.slice (some ⟨g, off, none⟩) n cap) n xs) (j : Nat) (u : Value) (hj : j < n * size) : Seg (w.setCell ⟨g, off + j, none⟩ u) base e size (.slice (some ⟨g, off, none⟩) n cap) n (xs.set j u) := by
  obtain ⟨h1, h2⟩ := h
  rcases h2 with ⟨h0, _⟩ | ⟨g', off', cap', cur, hv, hg, hh, hn, hc, hs, ht⟩
  · cases h0
  · cases hv
    refine ⟨by rw [List.length_set]; exact h1, .inr ⟨g, off, cap, _, rfl, hg, heap_set_same u hh, hn, hc, by simpa using hs, ?_⟩⟩
    rw [Array.toList_setIfInBounds, ← ht]
    apply List.ext_getElem?
    intro i
    rw [List.getElem?_take, List.getElem?_drop, List.getElem?_set, List.getElem?_set, List.getElem?_take, List.getElem?_drop]
    have hlen : off + j < cur.toList.length := by
      have h3 : ((cur.toList.drop off).take (n * size)).length = n * size := by rw [ht]; exact h1
      rw [List.length_take, List.length_drop] at h3
      omega
    have hlen2 : j < ((cur.toList.drop off).take (n * size)).length := by rw [ht, h1]; exact hj
    by_cases e1 : j = i
    · subst e1
      rw [if_pos hj, if_pos rfl, if_pos hlen, if_pos rfl, if_pos hlen2]
    · rw [if_neg e1]
      by_cases hi : i < n * size
      · rw [if_pos hi, if_neg (by omega), if_pos hi]
      · rw [if_neg hi, if_neg hi]
/-- A cell behind its own is stored. -/
theorem Seg.putFar (h : Seg w base e size (.slice (some ⟨g, off, none⟩) n cap) n xs) (j : Nat) (u : Value) (hj : n * size ≤ j) : Seg (w.setCell ⟨g, off + j, none⟩ u) base e size (.slice (some ⟨g, off, none⟩) n cap) n xs := by
  obtain ⟨h1, h2⟩ := h
  rcases h2 with ⟨h0, _⟩ | ⟨g', off', cap', cur, hv, hg, hh, hn, hc, hs, ht⟩
  · cases h0
  · cases hv
    refine ⟨h1, .inr ⟨g, off, cap, _, rfl, hg, heap_set_same u hh, hn, hc, by simpa using hs, ?_⟩⟩
    rw [Array.toList_setIfInBounds, ← ht]
    apply List.ext_getElem?
    intro i
    rw [List.getElem?_take, List.getElem?_drop, List.getElem?_set, List.getElem?_take, List.getElem?_drop]
    by_cases e1 : i < n * size
    · rw [if_pos e1, if_pos e1, if_neg (by omega)]
    · rw [if_neg e1, if_neg e1]
theorem Seg.putsFar : ∀ (us : List Value) (j : Nat) {w : World}, Seg w base e size (.slice (some ⟨g, off, none⟩) n cap) n xs → n * size ≤ j → Seg (w.setCells g (off + j) us) base e size (.slice (some ⟨g, off, none⟩) n cap) n xs
  | [], _, _, h, _ => h
  | u :: us, j, w, h, hj => by
    have := Seg.putsFar us (j + 1) (h.putFar j u hj) (by omega)
    exact this
/-- Fewer of them. -/
theorem Seg.fewer (h : Seg w base e size (.slice (some ⟨g, off, none⟩) n cap) n xs) (k : Nat) (hk : k ≤ n) : Seg w base e size (.slice (some ⟨g, off, none⟩) k cap) k (xs.take (k * size)) := by
  obtain ⟨h1, h2⟩ := h
  have hm : k * size ≤ n * size := Nat.mul_le_mul_right _ hk
  rcases h2 with ⟨h0, _⟩ | ⟨g', off', cap', cur, hv, hg, hh, hn, hc, hs, ht⟩
  · cases h0
  · cases hv
    refine ⟨by rw [List.length_take, h1]; omega, .inr ⟨g, off, cap, cur, rfl, hg, hh, by omega, hc, hs, ?_⟩⟩
    rw [← ht, List.take_take, Nat.min_eq_left hm]
theorem Seg.free (h : Seg w base e size (.slice (some ⟨g, off, none⟩) n cap) n xs) (o : Nat) : w.frozen? ⟨g, o, none⟩ = false := by
  rcases h.2 with ⟨h0, _⟩ | ⟨g', off', cap', cur, hv, hg, hh, _⟩
  · cases h0
  · cases hv
    simp [World.frozen?, hh]
end
theorem Only.put {S : List Nat} {a b : World} (h : Only S a b) (p : Addr) (u : Value) (hp : p.block ∈ S) : Only S a (b.setCell p u) :=
  ⟨h.os, h.tape, h.output, by simpa using h.size, fun k hk hn => by
    rw [Below.heap_setCell _ _ _ _ (fun e => hn (by rw [e]; exact hp))]
    exact h.block k hk hn⟩
theorem Only.puts {S : List Nat} {a : World} {g : Nat} (hp : g ∈ S) : ∀ (us : List Value) (o : Nat) {b : World}, Only S a b → Only S a (b.setCells g o us)
  | [], _, _, h => h
  | u :: us, o, b, h => Only.puts hp us (o + 1) (h.put ⟨g, o, none⟩ u hp)

abbrev ptB (b : Nat) : Value := .pointer (some ⟨b, 0, none⟩)
def bkC (l : List Nat) : List Value := l.map ptB
theorem bkC_length (l : List Nat) : (bkC l).length = l.length := List.length_map _
theorem bkC_set (D : List Nat) (i : Nat) (d : Nat) : (bkC D).set i (ptB d) = bkC (D.set i d) := by unfold bkC; rw [List.map_set]
theorem Seg.bk {w : World} {base : Nat} {g off cap : Nat} {ds : List Nat} (h : Seg w base 94 1 (.slice (some ⟨g, off, none⟩) ds.length cap) ds.length (bkC ds)) {m : Nat} (hm : m < ds.length) : w.cell? ⟨g, off + m, none⟩ = some (ptB ds[m]) := by
  rw [h.at m (by omega)]
  simp [bkC, hm]
def RetB (v : Value) (w : World) (e : Ending) (w' : World) : Prop := e = .returned v ∧ Below w.heap.size w w'
def idxN (p : Nat → Bool) (ds : List Nat) : Int := match ds.findIdx? p with
  | some i => (i : Int)
  | none => -1
theorem find_at (p : Nat → Bool) : ∀ (ds : List Nat) (m : Nat) (hm : m < ds.length), (∀ x ∈ ds.take m, p x = false) → p ds[m] = true → ds.findIdx? p = some m
  | [], m, hm, _, _ => by simp at hm
  | d :: ds, 0, _, _, h => by rw [List.findIdx?_cons]; simp at h; simp [h]
  | d :: ds, m + 1, hm, h0, h => by
    rw [List.findIdx?_cons, h0 d (by simp), find_at p ds m (by simpa using hm) (fun x hx => h0 x (by simp [hx])) (by simpa using h)]
    rfl
theorem idx_hit {p : Nat → Bool} {ds : List Nat} {m : Nat} (hm : m < ds.length) (h : ∀ x ∈ ds.take m, p x = false) (hp : p ds[m] = true) : idxN p ds = (m : Int) := by
  unfold idxN
  rw [find_at p ds m hm h hp]
theorem idx_none {p : Nat → Bool} {ds : List Nat} (h : ∀ x ∈ ds, p x = false) : idxN p ds = -1 := by
  unfold idxN
  rw [List.findIdx?_eq_none_iff.2 h]
theorem no_take {p : Nat → Bool} {ds : List Nat} {m : Nat} (hm : m < ds.length) (h : ∀ x ∈ ds.take m, p x = false) (hp : p ds[m] = false) : ∀ x ∈ ds.take (m + 1), p x = false := fun x hx => by
  rw [List.take_succ_eq_append_getElem hm] at hx
  rcases List.mem_append.1 hx with hx | hx
  · exact h x hx
  · rw [List.mem_singleton] at hx
    rw [hx]
    exact hp
theorem idx_bk (f : Nat) (binds : Array Value) (p : Nat → Bool) (base : Nat) (v : Value) (ds : List Nat) (w : World) (hen : ∀ args w, (callFunc f args).run Try.prog w = .ok (.enter f args) w)
    (HC : ∀ x ∈ ds, ∀ w', Below w.heap.size w w' → Calls Try.prog f (#[ptB x] ++ binds) w' (RetB (.bool (p x)) w')) (hs : Seg w base 94 1 v ds.length (bkC ds)) :
    Calls Try.prog 83 #[v, .func (.func f) #[] binds] w (RetB (.int .i64 (idxN p ds)) w) := by
  have HS := Lib.hid hs
  have HCC := Lib.hid HC
  have hmx : ds.length ≤ 9223372036854775807 := by have := hs.max; unfold maxLen at this; omega
  obtain ⟨a, cap, rfl⟩ := hs.form
  clear HC hs
  go_enter Try.func83, Try.ntmps83
  go_wp2_with fail
  go_loopw [5, 8] (fun _ i wr => ∃ m : Nat, m ≤ ds.length ∧ i = .int .i64 m ∧ Hid (∀ x ∈ ds.take m, p x = false) ∧ Hid (Below w.heap.size w wr)) (fun _ i _ => ds.length - (intOf i).toNat)
  case atStart => exact ⟨0, Nat.zero_le _, rfl, Lib.hid (by simp), Lib.hid (Below.refl _ _)⟩
  case round =>
    obtain ⟨m, hm, rfl, HN, HB⟩ := hrel
    by_cases hlt : m < ds.length
    · obtain ⟨g, off, _, e, _, hgw, _⟩ := (HS.out.chain HB.out).shape (by omega)
      cases e
      have c0 := (HS.out.chain HB.out).bk hlt
      have HNO := Lib.hid (fun h => no_take hlt HN.out h)
      have HHIT := Lib.hid (fun h => idx_hit hlt HN.out h)
      have hmi : (m : Int) < (ds.length : Int) := by omega
      have hmem := List.getElem_mem hlt
      obtain ⟨d, hd⟩ : ∃ d, ds[m] = d := ⟨_, rfl⟩
      rw [hd] at c0 HNO HHIT hmem
      have HLT := Lib.hid hlt
      have HCL := Lib.hid (HCC.out d hmem wr HB.out)
      clear hd hmem
      go_wp2_with fail
      refine HCL.out.mono ?_
      rintro e w1 ⟨rfl, hb1⟩
      have HB1 := Lib.hid (Below.chain hb1 HB.out)
      clear hb1 c0
      cases hp : p d with
      | true =>
        have hr := HHIT.out hp
        have HR := Lib.hid hr
        clear hr
        go_wp2_with fail
        go_ret
        exact ⟨by rw [HR.out]; rfl, HB1.out⟩
      | false =>
        have HN2 := Lib.hid (HNO.out hp)
        go_wp2_with fail
        go_roundw
        case rel => exact ⟨m + 1, HLT.out, by go_num, HN2, HB1⟩
        case measure => have := HLT.out; simp [intOf]; omega
    · obtain rfl : m = ds.length := by omega
      have HR : Hid (idxN p ds = -1) := Lib.hid (by
        have h := HN.out
        rw [List.take_length] at h
        exact idx_none h)
      have hlt' : ¬ (ds.length : Int) < (ds.length : Int) := by omega
      go_wp2_with fail
      go_ret
      exact ⟨by rw [HR.out]; rfl, HB.out⟩
theorem zero_cells1 (n : Nat) : (Builtin.zeroCells (Value.pointer none).cells n).size = n * 1 ∧ ∀ u ∈ (Builtin.zeroCells (Value.pointer none).cells n).toList, u.oneCell' = true := by
  refine ⟨by simp only [Builtin.zeroCells, Array.size_map, Array.size_range]; rfl, fun u hu => ?_⟩
  simp only [Builtin.zeroCells, Array.toList_map, List.mem_map] at hu
  obtain ⟨i, _, rfl⟩ := hu
  have h : i % 1 = 0 := Nat.mod_one i
  show ((Value.pointer none).cells[i % 1]!).oneCell' = true
  rw [h]
  rfl
theorem run_clear_bk (w : World) (ty : TypeId) (g o n c : Nat) (hn : 0 < n) (hc : ∀ j, j < n → (w.cell? ⟨g, o + j, none⟩).isSome = true) (hf : ∀ j, w.frozen? ⟨g, j, none⟩ = false) :
    (Builtin.clear_ #[96] ty #[.slice (some ⟨g, o, none⟩) n c]).run Try.prog w = .ok (.tuple #[]) (w.setCells g o (Builtin.zeroCells (Value.pointer none).cells n).toList) := by
  obtain ⟨z1, z2⟩ := zero_cells1 n
  have hst := run_storeCells_cells (P := Try.prog) g o (Builtin.zeroCells (Value.pointer none).cells n).toList 0 w (by intro j hj; rw [Nat.add_zero]; exact hc j (by simpa [z1] using hj)) (by intro j hj; exact hf _) z2
  rw [Nat.add_zero] at hst
  obtain ⟨m, rfl⟩ : ∃ m, n = m + 1 := ⟨n - 1, by omega⟩
  simp [Builtin.clear_, run_underlying Try.underlying96]
  change (Sem.run Try.prog (storeCells ⟨g, o, none⟩ (Builtin.zeroCells (Value.pointer none).cells (m + 1)).toList) w).andThen _ = _
  rw [hst]
  rfl
theorem idx_spec (p : Nat → Bool) (ds : List Nat) : (idxN p ds = -1 ∧ ∀ x ∈ ds, p x = false) ∨ ∃ i : Nat, idxN p ds = (i : Int) ∧ ∃ h : i < ds.length, p ds[i] = true ∧ ∀ x ∈ ds.take i, p x = false := by
  unfold idxN
  cases hf : ds.findIdx? p with
  | none => exact .inl ⟨rfl, List.findIdx?_eq_none_iff.1 hf⟩
  | some i =>
    obtain ⟨h, h1, h2⟩ := List.findIdx?_eq_some_iff_getElem.1 hf
    refine .inr ⟨i, rfl, h, h1, fun x hx => ?_⟩
    obtain ⟨j, hj, rfl⟩ := List.mem_iff_getElem.1 hx
    rw [List.getElem_take]
    have := h2 j (by rw [List.length_take] at hj; omega)
    simpa using this
def keptN (p : Nat → Bool) (ds : List Nat) : List Nat := ds.filter fun x => !p x
theorem kept_all {p : Nat → Bool} {ds : List Nat} (h : ∀ x ∈ ds, p x = false) : keptN p ds = ds := by
  unfold keptN
  rw [List.filter_eq_self]
  intro x hx
  simp [h x hx]
def DelPost (base : Nat) (v : Value) (p : Nat → Bool) (ds : List Nat) (w : World) (e : Ending) (w' : World) : Prop :=
  ∃ v', e = .returned v' ∧ Seg w' base 94 1 v' (keptN p ds).length (bkC (keptN p ds)) ∧ v'.ownBlock = v.ownBlock ∧ Only v.ownBlock.toList w w'
def DelRel (base g off cap : Nat) (p : Nat → Bool) (ds : List Nat) (w : World) (iv jv : Value) (wr : World) : Prop :=
  ∃ (i j : Nat) (D : List Nat), iv = .int .i64 i ∧ jv = .int .i64 j ∧ i < j ∧ j ≤ ds.length ∧ D.length = ds.length ∧ Hid (D.take i = keptN p (ds.take j)) ∧ Hid (D.drop j = ds.drop j) ∧
    Hid (Seg wr base 94 1 (.slice (some ⟨g, off, none⟩) ds.length cap) ds.length (bkC D)) ∧ Hid (Only [g] w wr)
theorem kept_snoc (p : Nat → Bool) {ds : List Nat} {j : Nat} (hj : j < ds.length) : keptN p (ds.take (j + 1)) = keptN p (ds.take j) ++ (if p ds[j] = true then [] else [ds[j]]) := by
  unfold keptN
  rw [List.take_succ_eq_append_getElem hj, List.filter_append]
  congr 1
  by_cases h : p ds[j] = true
  · simp [h]
  · simp [h]
theorem del_bk (f : Nat) (binds : Array Value) (p : Nat → Bool) (base : Nat) (v : Value) (ds : List Nat) (w : World) (hen : ∀ args w, (callFunc f args).run Try.prog w = .ok (.enter f args) w)
    (HC : ∀ x ∈ ds, ∀ w', Only v.ownBlock.toList w w' → Calls Try.prog f (#[ptB x] ++ binds) w' (RetB (.bool (p x)) w')) (hs : Seg w base 94 1 v ds.length (bkC ds)) :
    Calls Try.prog 52 #[v, .func (.func f) #[] binds] w (DelPost base v p ds w) := by
  have HI := Lib.hid (idx_bk f binds p base v ds w hen (fun x hx w' h => HC x hx w' (Only.of_below h)) hs)
  have HS := Lib.hid hs
  have hmx : ds.length ≤ 9223372036854775807 := by have := hs.max; unfold maxLen at this; omega
  have HCC := Lib.hid HC
  obtain ⟨a, cap, rfl⟩ := hs.form
  clear HC hs
  rcases idx_spec p ds with ⟨he, hno⟩ | ⟨i, he, hi, hp, hno⟩
  · rw [he] at HI
    have HK := Lib.hid (kept_all hno)
    clear hno he
    go_enter Try.func52, Try.ntmps52
    go_wp2_with fail
    refine HI.out.mono ?_
    rintro e w1 ⟨rfl, hb1⟩
    go_wp2_with fail
    go_ret
    exact ⟨_, rfl, by rw [HK.out]; exact HS.out.chain hb1, rfl, Only.of_below hb1⟩
  · rw [he] at HI
    obtain ⟨g, off, _, e, hgb, hgw, hcap, _⟩ := HS.out.shape (by omega)
    cases e
    have HP := Lib.hid (And.intro hp hno)
    have hne : ((i : Int) == -1) = false := beq_eq_false_iff_ne.2 (by omega)
    have hne2 : ¬ (i : Int) = -1 := by omega
    have hil : (i : Int) + 1 ≤ 9223372036854775807 := by omega
    have HII := Lib.hid hi
    clear he hp hno
    go_enter Try.func52, Try.ntmps52
    go_wp2_with fail
    refine HI.out.mono ?_
    rintro e w1 ⟨rfl, hb1⟩
    have HB1 := Lib.hid hb1
    clear hb1
    go_wp2_with fail
    go_loopw [5, 6, 7] (fun iv jv _ wr => DelRel base g off cap p ds w iv jv wr) (fun _ jv _ _ => ds.length - (intOf jv).toNat)
    case atStart =>
      refine ⟨i, i + 1, ds, rfl, rfl, Nat.lt_succ_self _, HII.out, rfl, Lib.hid ?_, Lib.hid rfl, Lib.hid (HS.out.chain HB1.out), Lib.hid (Only.of_below HB1.out)⟩
      rw [kept_snoc p HII.out, if_pos HP.out.1, List.append_nil, kept_all HP.out.2]
    case round =>
      obtain ⟨i, j, D, rfl, rfl, hij, hj, hDl, HT, HD, HSG, HO⟩ := hrel
      by_cases hlt : j < ds.length
      · have c0 := (hDl ▸ HSG.out : Seg wr base 94 1 (.slice (some ⟨g, off, none⟩) D.length cap) D.length (bkC D)).bk (m := j) (by omega)
        have hdj : D[j]'(by omega) = ds[j] := by
          have h := HD.out
          rw [List.drop_eq_getElem_cons (show j < D.length by omega), List.drop_eq_getElem_cons hlt] at h
          exact (List.cons.inj h).1
        have hdr : D.drop (j + 1) = ds.drop (j + 1) := by
          have h := congrArg (List.drop 1) HD.out
          rwa [List.drop_drop, List.drop_drop] at h
        have hks := kept_snoc p hlt
        have hmem := List.getElem_mem hlt
        obtain ⟨d, hd⟩ : ∃ d, ds[j] = d := ⟨_, rfl⟩
        rw [hdj, hd] at c0
        rw [hd] at hks hmem
        have hji : (j : Int) < (ds.length : Int) := by omega
        have HKS := Lib.hid hks
        have HDR := Lib.hid hdr
        have HLT := Lib.hid hlt
        clear hdj hks hdr hd
        have HCL2 := Lib.hid (HCC.out d hmem _ (by simpa [Value.ownBlock] using HO.out))
        clear hmem
        go_wp2_with fail
        refine HCL2.out.mono ?_
        rintro e w2 ⟨rfl, hb2⟩
        have hsg2 := HSG.out.chain hb2
        have ho2 := HO.out.trans (Only.of_below (S := [g]) hb2)
        clear hb2 c0
        cases hpd : p d with
        | true =>
          have HF := Lib.hid (And.intro hsg2 ho2)
          clear hsg2 ho2
          go_wp2_with fail
          go_roundw
          case rel => exact ⟨i, j + 1, D, rfl, by go_num, by omega, HLT.out, hDl, Lib.hid (by rw [HT.out, HKS.out, if_pos hpd, List.append_nil]), HDR, Lib.hid HF.out.1, Lib.hid HF.out.2⟩
          case measure => have := HLT.out; simp [intOf]; omega
        | false =>
          have hin : i < ds.length := by omega
          have hii : (i : Int) < (ds.length : Int) := by omega
          have hiD : i < D.length := by omega
          have hsc : w2.cell? ⟨g, off + i, none⟩ = some (ptB (D[i]'hiD)) := (hDl ▸ hsg2 : Seg w2 base 94 1 (.slice (some ⟨g, off, none⟩) D.length cap) D.length (bkC D)).bk (m := i) hiD
          have hfr := hsg2.free (off + i)
          have hS := hsg2.put i (ptB d) (by omega)
          rw [bkC_set] at hS
          have hO := ho2.put ⟨g, off + i, none⟩ (ptB d) (by simp)
          have HF := Lib.hid (And.intro hS hO)
          have HIN := Lib.hid hin
          clear hS hO hsg2 ho2
          generalize D[i]'hiD = dold at hsc
          go_wp2_with fail
          go_roundw
          case rel =>
            refine ⟨i + 1, j + 1, D.set i d, by go_num, by go_num, by omega, HLT.out, by rw [List.length_set]; exact hDl, Lib.hid ?_, Lib.hid ?_, Lib.hid HF.out.1, Lib.hid HF.out.2⟩
            · rw [HKS.out, if_neg (by simp [hpd]), ← HT.out, List.take_succ_eq_append_getElem (by rw [List.length_set]; exact hiD), List.getElem_set_self, List.take_set_of_le (Nat.le_refl i)]
            · rw [List.drop_set_of_lt (by omega)]
              exact HDR.out
          case measure => have := HLT.out; simp [intOf]; omega
      · obtain rfl : j = ds.length := by omega
        have hT := HT.out
        rw [List.take_length] at hT
        have hkl : (keptN p ds).length = i := by rw [← hT, List.length_take]; omega
        have hin : i < ds.length := by omega
        have hii : (i : Int) < (ds.length : Int) := by omega
        have hic : (i : Int) ≤ (cap : Int) := by omega
        have hic2 : i < cap := by omega
        have hlt' : ¬ (ds.length : Int) < (ds.length : Int) := by omega
        have hsg := HSG.out
        have hcl := fun ty => run_clear_bk wr ty g (off + i) (ds.length - i) (cap - i) (by omega) (fun j hj => by
          have h1 := hsg.at (i + j) (by omega)
          rw [← Nat.add_assoc] at h1
          rw [h1, List.getElem?_eq_getElem (by rw [hsg.1]; omega)]
          rfl) hsg.free
        have hfin := (hsg.fewer i (by omega)).putsFar (Builtin.zeroCells (Value.pointer none).cells (ds.length - i)).toList i (by omega)
        have htk : (bkC D).take (i * 1) = bkC (keptN p ds) := by
          rw [Nat.mul_one]
          unfold bkC
          rw [← List.map_take, hT]
        rw [htk] at hfin
        have hof := Only.puts (List.mem_singleton_self g) (Builtin.zeroCells (Value.pointer none).cells (ds.length - i)).toList (off + i) HO.out
        have HF := Lib.hid (And.intro hfin hof)
        have HKL := Lib.hid hkl
        clear hfin hof htk hsg hT hkl
        generalize (Builtin.zeroCells (Value.pointer none).cells (ds.length - i)).toList = zs at *
        go_wp2_with fail
        go_ret
        exact ⟨_, rfl, by rw [HKL.out]; exact HF.out.1, rfl, by simpa [Value.ownBlock] using HF.out.2⟩
end Go.Proofs.Ytgfbhclkpephnaa
