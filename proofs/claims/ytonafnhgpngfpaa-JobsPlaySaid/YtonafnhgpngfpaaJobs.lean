/-
  Jobs: a queue of jobs that wait: its contracts (chapter 19).
-/
import Derived.Test.YtonafnhgpngfpaaJobsIs
import Derived.Test.YtonafnhgpngfpaaSeg
import Derived.Test.YtonafnhgpngfpaaBits4
import Derived.Deep.RegionLaw
namespace Go.Proofs.Ytonafnhgpngfpaa
open Go.RowKit
set_option linter.unusedVariables false
set_option maxRecDepth 100000
set_option maxHeartbeats 2000000
/-- A job of these laws: it has no shards. -/
structure Jb where
  s : Int
  b : Int
  k : Int
  n : Int
  len : Int
def Jb.cells (j : Jb) : List Value := [.int .i64 j.s, .int .u32 j.b, .int .i64 j.k, .int .i64 j.n, .int .i64 j.len, .slice none 0 0]
abbrev jv (j : Jb) : Value := .agg #[.int .i64 j.s, .int .u32 j.b, .int .i64 j.k, .int .i64 j.n, .int .i64 j.len, .slice none 0 0]
def Jq (w : World) (b : Nat) (v : Value) (js : List Jb) (room : Nat) (closed : Bool) : Prop :=
  Blk w b #[v, .int .i64 room, .bool closed] 101 ∧ Seg w (b + 1) 84 6 v js.length (js.flatMap Jb.cells) ∧ js.length ≤ room ∧ room ≤ 4096
theorem jnew_any (z : Int) (w : World) (h0 : 1 ≤ z) (h1 : z ≤ 4096) : Calls Try.prog 50 #[.int .i64 z] w fun e w' =>
    e = .returned (.tuple #[.pointer (some ⟨w.heap.size, 0, none⟩), .int .i64 0]) ∧ Jq w' w.heap.size (.slice none 0 0) [] z.toNat false ∧ Below w.heap.size w w' ∧ w.heap.size < w'.heap.size := by
  have t1 : ¬ z < 1 := by omega
  have t2 : ¬ 4096 < z := by omega
  go_enter Try.func50, Try.ntmps50
  go_wp2_with fail
  refine bodyPost_ret (v := .tuple #[.pointer (some ⟨w.heap.size, 0, none⟩), .int .i64 0]) (by simp [results, Try.results50, go_sem]) rfl ⟨rfl, ⟨?_, Seg.nil _ _ _ _, by simp, by omega⟩, Below.chainAlloc (Below.refl _ _) _, by show w.heap.size < (w.heap.push _).size; simp⟩
  have e : ((z.toNat : Nat) : Int) = z := by omega
  rw [e]
  exact Blk.new _ _ _
theorem jnew_bad (z : Int) (w : World) (h0 : z < 1 ∨ 4096 < z) : Calls Try.prog 50 #[.int .i64 z] w fun e w' =>
    e = .returned (.tuple #[.pointer none, .int .i64 1]) ∧ w = w' := by
  go_enter Try.func50, Try.ntmps50
  by_cases h1 : z < 1
  · go_wp2_with fail
    exact bodyPost_ret (v := .tuple #[.pointer none, .int .i64 1]) (by simp [results, Try.results50, go_sem]) rfl ⟨rfl, rfl⟩
  · have h2 : 4096 < z := by omega
    clear h0
    go_wp2_with fail
    exact bodyPost_ret (v := .tuple #[.pointer none, .int .i64 1]) (by simp [results, Try.results50, go_sem]) rfl ⟨rfl, rfl⟩
theorem jlen_nil (w : World) : Calls Try.prog 54 #[.pointer none] w fun e w' => e = .returned (.int .i64 0) ∧ w = w' := by
  go_enter Try.func54, Try.ntmps54
  go_wp2
  go_ret
  exact ⟨rfl, rfl⟩
theorem jclosed_nil (w : World) : Calls Try.prog 55 #[.pointer none] w fun e w' => e = .returned (.bool false) ∧ w = w' := by
  go_enter Try.func55, Try.ntmps55
  go_wp2
  go_ret
  exact ⟨rfl, rfl⟩
theorem jclose_nil (w : World) : Calls Try.prog 53 #[.pointer none] w fun e w' => e = .returned (.int .i64 17) ∧ w = w' := by
  go_enter Try.func53, Try.ntmps53
  go_wp2
  go_ret
  exact ⟨rfl, rfl⟩
theorem jpop_nil (w : World) : Calls Try.prog 52 #[.pointer none] w fun e w' => e = .returned (.tuple #[jv ⟨0, 0, 0, 0, 0⟩, .bool false]) ∧ Below w.heap.size w w' := by
  go_enter Try.func52, Try.ntmps52
  go_wp2
  refine bodyPost_ret (v := .tuple #[jv ⟨0, 0, 0, 0, 0⟩, .bool false]) (by simp [results, Try.results52, go_sem]) rfl ⟨rfl, ?_⟩
  exact Below.chainAlloc (Below.refl _ _) _
theorem jpush_nil (j : Jb) (w : World) : Calls Try.prog 51 #[.pointer none, jv j] w fun e w' => e = .returned (.int .i64 17) ∧ Below w.heap.size w w' := by
  go_enter Try.func51, Try.ntmps51
  go_wp2
  go_ret
  exact ⟨rfl, Below.chainAlloc (Below.refl _ _) _⟩
theorem jlen_any (b : Nat) (v : Value) (js : List Jb) (room : Nat) (c : Bool) (w : World) (h : Jq w b v js room c) : Calls Try.prog 54 #[.pointer (some ⟨b, 0, none⟩)] w fun e w' => e = .returned (.int .i64 js.length) ∧ w = w' := by
  obtain ⟨hb, hs, h1, h2⟩ := h
  obtain ⟨a, cap, rfl⟩ := hs.form
  have c1 := hb.facts.1 0
  go_enter Try.func54, Try.ntmps54
  go_wp2_with fail
  go_ret
  exact ⟨rfl, rfl⟩
theorem jclosed_any (b : Nat) (v : Value) (js : List Jb) (room : Nat) (c : Bool) (w : World) (h : Jq w b v js room c) : Calls Try.prog 55 #[.pointer (some ⟨b, 0, none⟩)] w fun e w' => e = .returned (.bool c) ∧ w = w' := by
  obtain ⟨hb, hs, h1, h2⟩ := h
  have c1 := hb.facts.1 2
  go_enter Try.func55, Try.ntmps55
  go_wp2_with fail
  go_ret
  exact ⟨rfl, rfl⟩
theorem jclose_shut (b : Nat) (v : Value) (js : List Jb) (room : Nat) (w : World) (h : Jq w b v js room true) : Calls Try.prog 53 #[.pointer (some ⟨b, 0, none⟩)] w fun e w' => e = .returned (.int .i64 11) ∧ w = w' := by
  obtain ⟨hb, hs, h1, h2⟩ := h
  have c1 := hb.facts.1 2
  go_enter Try.func53, Try.ntmps53
  go_wp2_with fail
  go_ret
  exact ⟨rfl, rfl⟩
theorem jclose_open (b : Nat) (v : Value) (js : List Jb) (room : Nat) (w : World) (h : Jq w b v js room false) : Calls Try.prog 53 #[.pointer (some ⟨b, 0, none⟩)] w fun e w' => e = .returned (.int .i64 0) ∧ Jq w' b v js room true ∧ Only [b] w w' := by
  obtain ⟨hb, hs, h1, h2⟩ := h
  have c1 := hb.facts.1 2
  have f1 := hb.facts.2.1 2
  go_enter Try.func53, Try.ntmps53
  go_wp2_with fail
  go_ret
  exact ⟨rfl, ⟨hb.setAt 2 _ (by simp), hs.setOther _ _ (fun g hg => by have := (hs.blk g hg).1; simp; omega), h1, h2⟩, (Only.refl _ _).setCell _ _ (.inl (by simp))⟩
theorem infoJob : (Try.prog.info? 84).map (fun i => (i.zero, i.size, i.bytes)) = some (some (.agg #[.int .i64 0, .int .u32 0, .int .i64 0, .int .i64 0, .int .i64 0, .slice none 0 0]), 6, 64) := by kernel_rfl
theorem may_shut (b : Nat) (v : Value) (js : List Jb) (room : Nat) (w : World) (h : Jq w b v js room true) : Calls Try.prog 63 #[.pointer (some ⟨b, 0, none⟩)] w fun e w' => e = .returned (.iface 106 (Str shutL)) ∧ w = w' := by
  obtain ⟨hb, hs, h1, h2⟩ := h
  have c1 := hb.facts.1 2
  go_enter Try.func63, Try.ntmps63
  go_wp2_with fail
  go_ret
  exact ⟨rfl, rfl⟩
theorem may_open (b : Nat) (v : Value) (js : List Jb) (room : Nat) (w : World) (h : Jq w b v js room false) (hl : js.length < room) : Calls Try.prog 63 #[.pointer (some ⟨b, 0, none⟩)] w fun e w' => e = .returned .nilIface ∧ Below w.heap.size w w' := by
  obtain ⟨hb, hs, h1, h2⟩ := h
  obtain ⟨a, cap, rfl⟩ := hs.form
  have c1 := hb.facts.1 2
  have c2 := hb.facts.1 0
  have c3 := hb.facts.1 1
  have hlt : ¬ (room : Int) ≤ (js.length : Int) := by omega
  go_enter Try.func63, Try.ntmps63
  go_wp2_with fail
  go_region
  go_wp2_with fail
  go_ret
  exact ⟨rfl, (Below.refl _ _).drew⟩
theorem may_full (b : Nat) (v : Value) (js : List Jb) (room : Nat) (w : World) (h : Jq w b v js room false) (hl : room ≤ js.length) : Calls Try.prog 63 #[.pointer (some ⟨b, 0, none⟩)] w fun e w' => e = .returned (.iface 106 (Str fullL)) ∧ Below w.heap.size w w' := by
  obtain ⟨hb, hs, h1, h2⟩ := h
  obtain ⟨a, cap, rfl⟩ := hs.form
  have c1 := hb.facts.1 2
  have c2 := hb.facts.1 0
  have c3 := hb.facts.1 1
  have hlt : (room : Int) ≤ (js.length : Int) := by omega
  go_enter Try.func63, Try.ntmps63
  go_wp2_with fail
  go_region
  go_wp2_with fail
  go_ret
  exact ⟨rfl, (Below.refl _ _).drew⟩
theorem Jq.below {w w' : World} {b : Nat} {v : Value} {js : List Jb} {room : Nat} {c : Bool} (h : Jq w b v js room c) (hb : Below w.heap.size w w') : Jq w' b v js room c :=
  ⟨h.1.below hb h.1.lt, h.2.1.chain hb, h.2.2⟩
theorem jpush_shut (b : Nat) (v : Value) (js : List Jb) (room : Nat) (j : Jb) (w : World) (h : Jq w b v js room true) : Calls Try.prog 51 #[.pointer (some ⟨b, 0, none⟩), jv j] w fun e w' => e = .returned (.int .i64 11) ∧ Below w.heap.size w w' := by
  go_enter Try.func51, Try.ntmps51
  go_wp2_with fail
  refine (may_shut b v js room _ (h.below (Below.chainAlloc (Below.refl _ _) _))).mono ?_
  rintro x w1 ⟨rfl, rfl⟩
  go_wp2_with fail
  refine (is_same shutL (by decide) _).mono ?_
  rintro x w1 ⟨rfl, rfl⟩
  go_wp2_with fail
  go_ret
  exact ⟨rfl, Below.chainAlloc (Below.refl _ _) _⟩
theorem jpush_full (b : Nat) (v : Value) (js : List Jb) (room : Nat) (j : Jb) (w : World) (h : Jq w b v js room false) (hl : room ≤ js.length) : Calls Try.prog 51 #[.pointer (some ⟨b, 0, none⟩), jv j] w fun e w' => e = .returned (.int .i64 9) ∧ Below w.heap.size w w' := by
  go_enter Try.func51, Try.ntmps51
  go_wp2_with fail
  refine (may_full b v js room _ (h.below (Below.chainAlloc (Below.refl _ _) _)) hl).mono ?_
  rintro x w1 ⟨rfl, hb⟩
  have hB := Below.chain hb (Below.chainAlloc (Below.refl _ _) _)
  clear hb
  go_wp2_with fail
  refine (is_other fullL shutL (by decide) _).mono ?_
  rintro x w2 ⟨rfl, rfl⟩
  go_wp2_with fail
  refine (is_same fullL (by decide) _).mono ?_
  rintro x w2 ⟨rfl, rfl⟩
  go_wp2_with fail
  go_ret
  exact ⟨rfl, hB⟩
theorem cells_new (w : World) (cs : List Value) (t : TypeId) : ∀ i u, cs[i]? = some u → (w.alloc (.cells cs.toArray t)).cell? ((⟨w.heap.size, 0, none⟩ : Addr).add i) = some u := fun i u h => by
  have e : (⟨w.heap.size, 0, none⟩ : Addr).add i = ⟨w.heap.size, i, none⟩ := by unfold Addr.add; split <;> simp_all
  rw [e, World.cell?_alloc_mark]
  simpa using h
theorem Only.grown {S : List Nat} {a b c : World} {r : Option Nat} (h : Only S a b) (hg : b.grownBy c r) (hr : ∀ x, r = some x → x ∈ S ∨ a.heap.size ≤ x) : Only S a c :=
  h.trans' (S' := r.toList) ⟨hg.os, hg.tape, hg.output, hg.size, fun k hk hn => hg.block k hk (fun e => hn (by rw [← e]; simp))⟩ (fun x hx => hr x (by simpa using hx))
theorem size_alloc (w : World) (o : Obj) : (w.alloc o).heap.size = w.heap.size + 1 := Array.size_push _
theorem Blk.grown {w w' : World} {b : Nat} {cs : Array Value} {t : TypeId} {r : Option Nat} (h : Blk w b cs t) (hg : w.grownBy w' r) (hn : some b ≠ r) : Blk w' b cs t := by
  have hl := h.lt
  unfold Blk at *
  rw [hg.block b hl hn]; exact h
theorem jpush_ok (b : Nat) (v : Value) (js : List Jb) (room : Nat) (j : Jb) (w : World) (h : Jq w b v js room false) (hl : js.length < room) : Calls Try.prog 51 #[.pointer (some ⟨b, 0, none⟩), jv j] w fun e w' =>
    e = .returned (.int .i64 0) ∧ ∃ v', Jq w' b v' (js ++ [j]) room false ∧ Only (b :: v.ownBlock.toList) w w' ∧ (v'.ownBlock = v.ownBlock ∨ ∃ g, v'.ownBlock = some g ∧ w.heap.size ≤ g) := by
  obtain ⟨i0, hi, hz0, hz1, hz2⟩ := info_parts infoJob
  go_enter Try.func51, Try.ntmps51
  go_wp2_with fail
  have hbx := Blk.new w (Jb.cells j).toArray 84
  refine (may_open b v js room _ (h.below (Below.chainAlloc (Below.refl _ _) _)) hl).mono ?_
  rintro x w1 ⟨rfl, hb⟩
  have hB := Below.chain hb (Below.chainAlloc (Below.refl _ _) _)
  have hbx1 := hbx.below hb hbx.lt
  have hj1 := h.below hB
  clear hb hbx
  go_wp2_with fail
  refine (is_nil shutL _).mono ?_
  rintro x w2 ⟨rfl, rfl⟩
  go_wp2_with fail
  refine (is_nil fullL _).mono ?_
  rintro x w2 ⟨rfl, rfl⟩
  go_wp2_with fail
  obtain ⟨kb, ks, k1, k2⟩ := hj1
  have hvb : ∀ g, v.ownBlock = some g → b + 1 ≤ g ∧ g < w1.heap.size := ks.blk
  have hnb : b ∉ v.ownBlock.toList := fun hm => by have := (hvb b (by simpa using hm)).1; omega
  have hnx : w.heap.size ∉ v.ownBlock.toList := fun hm => by have := (h.2.1.blk _ (by simpa using hm)).2; omega
  have hlt := kb.lt
  have c0 : w1.cell? ⟨b, 0, none⟩ = some v := kb.facts.1 0
  have f0 := kb.facts.2.1 0
  have d0 : w1.cell? ⟨w.heap.size, 0, none⟩ = some (.int .i64 j.s) := hbx1.facts.1 0
  have d1 : w1.cell? ⟨w.heap.size, 1, none⟩ = some (.int .u32 j.b) := hbx1.facts.1 1
  have d2 : w1.cell? ⟨w.heap.size, 2, none⟩ = some (.int .i64 j.k) := hbx1.facts.1 2
  have d3 : w1.cell? ⟨w.heap.size, 3, none⟩ = some (.int .i64 j.n) := hbx1.facts.1 3
  have d4 : w1.cell? ⟨w.heap.size, 4, none⟩ = some (.int .i64 j.len) := hbx1.facts.1 4
  have d5 : w1.cell? ⟨w.heap.size, 5, none⟩ = some (.slice none 0 0) := hbx1.facts.1 5
  have d6 := hbx1.lt
  have hne : some b ≠ v.ownBlock := fun e => hnb (by rw [← e]; simp)
  go_region_law (refine step_append_seg _ rfl _ _ 99 rfl (b + 1) 84 i0 _ 6 64 Try.underlying99 hi hz0 hz1 hz2 rfl (by decide) v js.length (js.flatMap Jb.cells) ?g1 ?g2 ⟨w1.heap.size, 0, none⟩ 1 1 (Jb.cells j) ?g3 rfl ?g4 (by simp [Jb.cells, Value.oneCell']) (by decide) ?h1 ?h2 ?g5 (w1.heap.size + 1) ?g6 ?_; (case g1 => rfl); (case h1 => unfold maxLen; omega); (case h2 => omega); (case g2 => exact ks.alloc _); (case g3 => rfl); (case g4 => exact cells_new _ _ _); (case g5 => simp; omega); (case g6 => exact size_alloc _ _); intro g off cap w2 hown hgrow hat; have hk := (Blk.drew (kb.alloc _)).grown hgrow hne; have g0 : w2.cell? ⟨b, 0, none⟩ = some v := hk.facts.1 0; have g1 : w2.frozen? ⟨b, 0, none⟩ = false := hk.facts.2.1 0; have hO := Only.grown (S := v.ownBlock.toList) (Only.drew (Only.alloc (Only.refl _ w1) _)) hgrow (fun x hx => .inl (by rw [hx]; simp)); clear hgrow)
  all_goals
    go_wp2_with fail
    go_ret
    refine ⟨rfl, .slice (some ⟨g, off, none⟩) (js.length + 1) cap, ⟨hk.setAt 0 _ (by simp), ?_, by simp; omega, k2⟩, ?_, ?_⟩
    · have h2 := hown.setOther ⟨b, 0, none⟩ (.slice (some ⟨g, off, none⟩) (js.length + 1) cap) (fun g hg => by have := (hown.blk g hg).1; simp; omega)
      simpa [List.flatMap_append] using h2
    · exact ((Only.of_below hB).trans' (S' := v.ownBlock.toList) hO (fun x hx => .inl (by simp at hx; simp [hx]))).setCell _ _ (.inl (by simp))
    · rcases hat with hat | hat
      · exact .inl hat.symm
      · exact .inr ⟨g, rfl, by have := hB.size; omega⟩
theorem jpop_empty (b : Nat) (v : Value) (room : Nat) (c : Bool) (w : World) (h : Jq w b v [] room c) : Calls Try.prog 52 #[.pointer (some ⟨b, 0, none⟩)] w fun e w' => e = .returned (.tuple #[jv ⟨0, 0, 0, 0, 0⟩, .bool false]) ∧ Below w.heap.size w w' := by
  obtain ⟨hb, hs, h1, h2⟩ := h
  obtain ⟨a, cap, rfl⟩ := hs.form
  have c1 := hb.facts.1 0
  have l1 := hb.lt
  go_enter Try.func52, Try.ntmps52
  go_wp2_with fail
  refine bodyPost_ret (v := .tuple #[jv ⟨0, 0, 0, 0, 0⟩, .bool false]) (by simp [results, Try.results52, go_sem]) rfl ⟨rfl, ?_⟩
  exact Below.chainAlloc (Below.refl _ _) _
theorem jpop_ok (b : Nat) (v : Value) (j : Jb) (js : List Jb) (room : Nat) (c : Bool) (w : World) (h : Jq w b v (j :: js) room c) : Calls Try.prog 52 #[.pointer (some ⟨b, 0, none⟩)] w fun e w' =>
    e = .returned (.tuple #[jv j, .bool true]) ∧ ∃ v', Jq w' b v' js room c ∧ Only [b] w w' ∧ v'.ownBlock = v.ownBlock := by
  obtain ⟨hb, hs, h1, h2⟩ := h
  obtain ⟨g, off, cap, rfl, hg, hgl, hnc, hcm⟩ := hs.shape (by simp)
  have c1 := hb.facts.1 0
  have f1 := hb.facts.2.1 0
  have l1 := hb.lt
  have e0 : w.cell? ⟨g, off, none⟩ = some (.int .i64 j.s) := by simpa [Jb.cells] using hs.at 0 (by simp)
  have e1 : w.cell? ⟨g, off + 1, none⟩ = some (.int .u32 j.b) := by simpa [Jb.cells] using hs.at 1 (by simp; omega)
  have e2 : w.cell? ⟨g, off + 2, none⟩ = some (.int .i64 j.k) := by simpa [Jb.cells] using hs.at 2 (by simp; omega)
  have e3 : w.cell? ⟨g, off + 3, none⟩ = some (.int .i64 j.n) := by simpa [Jb.cells] using hs.at 3 (by simp; omega)
  have e4 : w.cell? ⟨g, off + 4, none⟩ = some (.int .i64 j.len) := by simpa [Jb.cells] using hs.at 4 (by simp; omega)
  have e5 : w.cell? ⟨g, off + 5, none⟩ = some (.slice none 0 0) := by simpa [Jb.cells] using hs.at 5 (by simp; omega)
  have hn0 : ¬ ((((j :: js).length : Nat) : Int) = 0) := by simp; omega
  have hcap : 1 ≤ cap := by simp at hnc; omega
  generalize hn : (j :: js).length = n at *
  have hnp : 0 < n := by rw [← hn]; simp
  go_enter Try.func52, Try.ntmps52
  go_wp2_with fail
  all_goals
    obtain ⟨m, rfl⟩ : ∃ m, n = m + 1 := ⟨n - 1, by omega⟩
    obtain rfl : js.length = m := by simpa using hn
    simp only [Nat.add_sub_cancel]
  · have hc1 : cap = 1 := by assumption
    have hgx : ∀ (cap' off' : Nat) x, (Value.slice (some ⟨g, off', none⟩) js.length cap').ownBlock = some x → x ≠ b := by
      intro cap' off' x hx
      have : g = x := by simpa [Value.ownBlock] using hx
      omega
    have hs2 := (hs.tail off (.inr ⟨hc1, rfl⟩)).setOther ⟨b, 0, none⟩ (.slice (some ⟨g, off, none⟩) js.length (cap - 1)) (hgx _ _)
    rw [show cap - 1 = 0 by omega] at hs2
    refine bodyPost_ret (v := .tuple #[jv j, .bool true]) (by simp [results, Try.results52, go_sem]) rfl ⟨rfl, .slice (some ⟨g, off, none⟩) js.length 0, ⟨?_, ?_, by omega, h2⟩, ?_, rfl⟩
    · exact ((hb.setAt 0 _ (by simp)).alloc _).alloc _
    · exact (hs2.alloc _).alloc _
    · exact (((Only.refl _ _).setCell _ _ (.inl (by simp))).alloc _).alloc _
  · have hgx : ∀ (cap' off' : Nat) x, (Value.slice (some ⟨g, off', none⟩) js.length cap').ownBlock = some x → x ≠ b := by
      intro cap' off' x hx
      have : g = x := by simpa [Value.ownBlock] using hx
      omega
    have hs2 := (hs.tail (off + 6) (.inl rfl)).setOther ⟨b, 0, none⟩ (.slice (some ⟨g, off + 6, none⟩) js.length (cap - 1)) (hgx _ _)
    refine bodyPost_ret (v := .tuple #[jv j, .bool true]) (by simp [results, Try.results52, go_sem]) rfl ⟨rfl, .slice (some ⟨g, off + 6, none⟩) js.length (cap - 1), ⟨?_, ?_, by omega, h2⟩, ?_, rfl⟩
    · exact ((hb.setAt 0 _ (by simp)).alloc _).alloc _
    · exact (hs2.alloc _).alloc _
    · exact (((Only.refl _ _).setCell _ _ (.inl (by simp))).alloc _).alloc _
end Go.Proofs.Ytonafnhgpngfpaa
