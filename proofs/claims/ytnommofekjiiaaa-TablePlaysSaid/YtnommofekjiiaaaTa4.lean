/-
  The table: slices.Insert of a shard (chapter 18).
-/
import Derived.Test.YtnommofekjiiaaaTa3
namespace Go.Proofs.Ytnommofekjiiaaa
open Go Go.RowKit
set_option linter.unusedVariables false
set_option linter.unusedSimpArgs false
set_option maxRecDepth 100000
set_option maxHeartbeats 2000000
theorem rds_one {w : World} {vb : Nat} {x : Sh} (hv : Blk w vb #[.int .i64 x.1, Str x.2] 32) : RdS w 2 (.slice (some ⟨vb, 0, none⟩) 1 1) 1 [.int .i64 x.1, Str x.2] := by
  refine ⟨rfl, .inr ⟨_, _, rfl, fun j u hu => ?_⟩⟩
  have e : (⟨vb, 0, none⟩ : Addr).add j = ⟨vb, j, none⟩ := by unfold Addr.add; split <;> simp_all
  rw [e, hv.facts.1 j]
  simpa using hu
theorem Seg.capOf {w : World} {base g off cap n : Nat} {e : TypeId} {size : Nat} {xs : List Value} (h : Seg w base e size (.slice (some ⟨g, off, none⟩) n cap) n xs) : n ≤ cap ∧ cap ≤ maxLen ∧ base ≤ g ∧ g < w.heap.size := by
  rcases h.2 with ⟨h0, _⟩ | ⟨g', off', cap', cur, hv, hg, hh, hn, hc, _⟩
  · cases h0
  · cases hv
    exact ⟨hn, hc, hg, (Array.getElem?_eq_some_iff.1 hh).1⟩
theorem Only.put {S : List Nat} {a b : World} (h : Only S a b) (p : Addr) (u : Value) (hp : p.block ∈ S) : Only S a (b.setCell p u) :=
  ⟨h.os, h.tape, h.output, by simpa using h.size, fun k hk hn => by
    rw [Below.heap_setCell _ _ _ _ (fun e => hn (by rw [e]; exact hp))]
    exact h.block k hk hn⟩
theorem Only.puts {S : List Nat} {a : World} {g : Nat} (hp : g ∈ S) : ∀ (us : List Value) (o : Nat) {b : World}, Only S a b → Only S a (b.setCells g o us)
  | [], _, _, h => h
  | u :: us, o, b, h => Only.puts hp us (o + 1) (h.put ⟨g, o, none⟩ u hp)
theorem drew_setCells (b : Nat) : ∀ (vs : List Value) (o : Nat) (w : World), (w.setCells b o vs).drew = w.drew.setCells b o vs
  | [], _, _ => rfl
  | v :: r, o, w => by rw [World.setCells, World.setCells, drew_setCells b r]; rfl
def InsP (w : World) (base g : Nat) (l : List Sh) (i : Nat) (x : Sh) (e : Ending) (w' : World) : Prop := ∃ g' off' cap', e = .returned (.slice (some ⟨g', off', none⟩) (l.length + 1) cap') ∧ ShS w' base (.slice (some ⟨g', off', none⟩) (l.length + 1) cap') (insL l i x) ∧ Only [g] w w'
theorem insert_end (base : Nat) (l : List Sh) (x : Sh) (g off cap vb : Nat) (w : World) (hs : ShS w base (.slice (some ⟨g, off, none⟩) l.length cap) l) (hl : l.length ≤ 1000) (hb : base ≤ w.heap.size) (hv : Blk w vb #[.int .i64 x.1, Str x.2] 32) :
    Calls Try.prog 49 #[.slice (some ⟨g, off, none⟩) l.length cap, .int .i64 (l.length : Nat), .slice (some ⟨vb, 0, none⟩) 1 1] w (InsP w base g l l.length x) := by
  obtain ⟨i0, hi, hz0, hz1, hz2⟩ := info_parts infoSh
  have HQ : Hid (l.length + 1 ≤ maxLen ∧ (l.length + 1) * 24 ≤ 140737488355328) := Lib.hid (by unfold maxLen; omega)
  have HR := Lib.hid (rds_one hv)
  have HS : Hid (Seg w base 32 2 (.slice (some ⟨g, off, none⟩) l.length cap) l.length (shC l)) := Lib.hid hs
  have HB := Lib.hid hb
  have HF : Hid (∀ g' off' cap' w', Seg w' base 32 2 (.slice (some ⟨g', off', none⟩) (l.length + 1) cap') (l.length + 1) (shC l ++ [.int .i64 x.1, Str x.2]) → Only [g] w w' → InsP w base g l l.length x (.returned (.slice (some ⟨g', off', none⟩) (l.length + 1) cap')) w') := Lib.hid fun g' off' cap' w' h ho => ⟨g', off', cap', rfl, by
    unfold ShS
    have e : insL l l.length x = l ++ [x] := by unfold insL; rw [List.take_length, List.drop_length]
    rw [e, shC_append, List.length_append]
    exact h, ho⟩
  obtain ⟨hc1, hc2, _⟩ := Seg.capOf hs
  unfold maxLen at hc2
  have HP : Hid (∀ w' v', Seg w' base 32 2 v' (l.length + 1) (shC l ++ [.int .i64 x.1, Str x.2]) → ∃ g' off' cap', v' = .slice (some ⟨g', off', none⟩) (l.length + 1) cap') := Lib.hid fun w' v' h => by
    obtain ⟨g', off', cap', e, _⟩ := h.shape (Nat.succ_pos _)
    exact ⟨g', off', cap', e⟩
  generalize hP : InsP w base g l l.length x = PP at HF ⊢
  clear hP hs hb hv
  generalize l.length = n at *
  generalize shC l = cs at *
  by_cases hcc : cap = n
  · have hcc' := hcc.symm
    subst hcc'
    go_enter Try.func49, Try.ntmps49
    go_wp2_with (at_builtin; refine wpList_append_rds rfl _ _ 47 rfl base 32 i0 _ 2 24 Try.underlying47 hi hz0 hz1 hz2 rfl (by decide) (.slice (some ⟨g, off, none⟩) n n) n cs rfl HS.out _ 1 _ rfl HR.out (by simp [Value.oneCell']) HQ.out.1 HQ.out.2 HB.out ?_; intro v3 w3 hown3 hgrow3 hat3; have HO3 := Lib.hid hown3; have HB3 : Hid (Only [g] w w3) := Lib.hid ((Only.refl _ _).grown hgrow3 (fun x hx => .inl (by cases hx; simp))); clear hown3 hgrow3 hat3)
    obtain ⟨g', off', cap', rfl⟩ := HP.out _ _ HO3.out
    try go_ret
    exact HF.out _ _ _ _ HO3.out HB3.out
  · have hcn : ¬ (cap = n) := hcc
    clear hcc
    go_enter Try.func49, Try.ntmps49
    go_wp2_with (at_builtin; refine wpList_append_rds rfl _ _ 47 rfl base 32 i0 _ 2 24 Try.underlying47 hi hz0 hz1 hz2 rfl (by decide) (.slice (some ⟨g, off, none⟩) n cap) n cs rfl HS.out _ 1 _ rfl HR.out (by simp [Value.oneCell']) HQ.out.1 HQ.out.2 HB.out ?_; intro v3 w3 hown3 hgrow3 hat3; have HO3 := Lib.hid hown3; have HB3 : Hid (Only [g] w w3) := Lib.hid ((Only.refl _ _).grown hgrow3 (fun x hx => .inl (by cases hx; simp))); clear hown3 hgrow3 hat3)
    obtain ⟨g', off', cap', rfl⟩ := HP.out _ _ HO3.out
    try go_ret
    exact HF.out _ _ _ _ HO3.out HB3.out
theorem insert_grow (base : Nat) (l : List Sh) (i : Nat) (x : Sh) (g off cap vb : Nat) (w : World) (hs : ShS w base (.slice (some ⟨g, off, none⟩) l.length cap) l) (hin : i < l.length) (hroom : cap < l.length + 1) (hl : l.length ≤ 1000) (hb : base ≤ w.heap.size) (hv : Blk w vb #[.int .i64 x.1, Str x.2] 32) :
    Calls Try.prog 49 #[.slice (some ⟨g, off, none⟩) l.length cap, .int .i64 (i : Nat), .slice (some ⟨vb, 0, none⟩) 1 1] w (InsP w base g l i x) := by
  obtain ⟨i0, hi, hz0, hz1, hz2⟩ := info_parts infoSh
  obtain ⟨hc1, hc2, _⟩ := Seg.capOf hs
  unfold maxLen at hc2
  obtain rfl : cap = l.length := by omega
  obtain ⟨c', ys, w2, hrun, hyl, hseg, hbel, hlt2⟩ := run_append_zeros_seg (P := Try.prog) (k := l.length + 1 - i) 47 3 47 i0 _ 24 Try.underlying47 Try.underlying3 hi hz0 hz1 hz2 rfl (by decide) hs (i := i) (by omega) (by omega) (by omega) (by unfold maxLen; omega) (by omega)
  have hdl : (shC (l.drop i)).length = (l.length - i) * 2 := by rw [shC_length, List.length_drop]
  have hgw : g < w.heap.size := (Seg.capOf hs).2.2.2
  have hvw := hv.lt
  have hk : ((l.length : Int) + 1 - (i : Int)) = ((l.length + 1 - i : Nat) : Int) := by omega
  have hsum : i + (l.length + 1 - i) = l.length + 1 := by omega
  rw [hsum] at hrun hseg
  -- the two copies
  have hcp1 : ∀ ty dc, (Builtin.copy_ #[47, 47] ty #[.slice (some ⟨w.heap.size, i * 2, none⟩) (l.length + 1 - i) dc, .slice (some ⟨vb, 0, none⟩) 1 1]).run Try.prog w2 = .ok (goInt 1) (w2.setCells w.heap.size (i * 2) [.int .i64 x.1, Str x.2]) := fun ty dc =>
    run_copy_k w2 _ _ ty 32 2 1 w.heap.size (i * 2) _ _ _ 1 1 [.int .i64 x.1, Str x.2] Try.underlying47 sizeSh (by simp only [Nat.min_def]; split <;> omega) rfl
      (fun j v hj => by
        have e : (⟨vb, 0, none⟩ : Addr).add j = ⟨vb, j, none⟩ := by unfold Addr.add; split <;> simp_all
        rw [e, (hv.below hbel hvw).facts.1 j]
        simpa using hj)
      (fun j hj => by
        have := hseg.at (i * 2 + j) (by simp at hj; omega)
        rw [Nat.zero_add] at this
        rw [this, List.getElem?_eq_getElem (by rw [hseg.1]; simp at hj; omega)]
        rfl)
      (fun j _ => hseg.free _) (by simp [Value.oneCell'])
  have hw3 := hseg.puts [.int .i64 x.1, Str x.2] (i * 2) (by simp; omega)
  rw [Nat.zero_add] at hw3
  have hcp2 : ∀ ty dc sc, (Builtin.copy_ #[47, 47] ty #[.slice (some ⟨w.heap.size, (i + 1) * 2, none⟩) (l.length - i) dc, .slice (some ⟨g, off + i * 2, none⟩) (l.length - i) sc]).run Try.prog (w2.setCells w.heap.size (i * 2) [.int .i64 x.1, Str x.2]).drew = .ok (goInt (l.length - i : Nat)) ((w2.setCells w.heap.size (i * 2) [.int .i64 x.1, Str x.2]).setCells w.heap.size ((i + 1) * 2) (shC (l.drop i))).drew := fun ty dc sc => by
    rw [drew_setCells w.heap.size (shC (l.drop i))]
    exact run_copy_k (w2.setCells w.heap.size (i * 2) [.int .i64 x.1, Str x.2]).drew _ _ ty 32 2 (l.length - i) w.heap.size ((i + 1) * 2) _ _ _ _ _ (shC (l.drop i)) Try.underlying47 sizeSh (by simp only [Nat.min_def]; split <;> omega) hdl
      (fun j v hj => by
        have e : (⟨g, off + i * 2, none⟩ : Addr).add j = ⟨g, off + (i * 2 + j), none⟩ := by unfold Addr.add; split <;> simp_all [Nat.add_assoc]
        have hjl := (List.getElem?_eq_some_iff.1 hj).1
        rw [hdl] at hjl
        have hb2 : Below w.heap.size w (w2.setCells w.heap.size (i * 2) [.int .i64 x.1, Str x.2]) := (((Only.of_below (S := []) hbel).trans' (Only.puts (S := [w.heap.size]) (by simp) _ _ (Only.refl _ _)) (fun y hy => .inr (by simp at hy; omega)))).nil
        rw [e]
        refine ((hs.chain hb2).at (i * 2 + j) (by omega)).trans ?_
        rw [← List.getElem?_drop, shC_drop]
        exact hj)
      (fun j hj => by
        rw [hdl] at hj
        have := hw3.at ((i + 1) * 2 + j) (by omega)
        rw [Nat.zero_add] at this
        refine (congrArg Option.isSome this).trans ?_
        rw [ List.getElem?_eq_getElem (by rw [hw3.1]; omega)]
        rfl)
      (fun j _ => hw3.free _) (shC_one _)
  have hfin := ins_new (x := x) ys hyl (by omega) hseg
  have HF : Hid (InsP w base g l i x (.returned (.slice (some ⟨w.heap.size, 0, none⟩) (l.length + 1) c')) ((w2.setCells w.heap.size (i * 2) [.int .i64 x.1, Str x.2]).setCells w.heap.size ((i + 1) * 2) (shC (l.drop i))).drew) := Lib.hid ⟨_, _, _, rfl, (hfin.le hb).drew, by
    have ho : Only [g] w w2 := Only.of_below hbel
    exact (ho.trans' (Only.puts (S := [w.heap.size]) (by simp) _ _ (Only.puts (by simp) _ _ (Only.refl _ _))) (fun y hy => .inr (by simp at hy; omega))).drew⟩
  obtain ⟨hcc1, hcc2, _⟩ := Seg.capOf hseg
  have hci : ¬ (l.length = i) := by omega
  have hci2 : ¬ (c' = i) := by omega
  have hci3 : ¬ (c' = i + 1) := by omega
  have hci4 : (l.length : Int) < (l.length : Int) + 1 := by omega
  have hci5 : ¬ ((i : Int) = (l.length : Int)) := by omega
  have hci6 : (i : Int) ≤ (l.length : Int) := by omega
  have hci7 : (i : Int) + 1 ≤ (l.length : Int) + 1 := by omega
  have hti : ((i : Int) + 1).toNat = i + 1 := by omega
  have hw1 : IntKind.i64.wrap ((i : Int) + 1) = (i : Int) + 1 := by rw [IntKind.wrap_i64]; omega
  have hz1' : (0 : Int) ≤ (i : Int) + 1 := by omega
  unfold maxLen at hcc2
  clear hfin hw3 hseg hs hv hbel hb hdl hi hz0 hz1 hz2 hyl
  generalize hP : InsP w base g l i x = PP at HF ⊢
  clear hP
  generalize hW4 : (w2.setCells w.heap.size (i * 2) [.int .i64 x.1, Str x.2]).setCells w.heap.size ((i + 1) * 2) (shC (l.drop i)) = W4 at *
  generalize hW3 : w2.setCells w.heap.size (i * 2) [.int .i64 x.1, Str x.2] = W3 at *
  generalize hWN : w.heap.size = wn at *
  clear hW4 hW3 hWN
  generalize l.length = n at *
  go_enter Try.func49, Try.ntmps49
  go_wp2_with (first
    | (at_builtin; refine Lib.wpList_append_run _ rfl _ _ 47 3 rfl _ _ rfl rfl _ _ hrun ?_)
    | (at_builtin; refine wpList_copy_k _ rfl _ _ 47 47 rfl _ _ rfl rfl (hcp1 _ _) ?_))
  go_region_law (refine step_copy_k rfl _ _ 47 47 rfl _ _ (by simp [Act.eval, Act.put]) (by simp [Act.eval, Act.put]) (hcp2 _ _ _) ?_)
  all_goals
    go_wp2_with fail
    try go_ret
    exact HF.out
end Go.Proofs.Ytnommofekjiiaaa
