/-
  The table: slices.Insert of a shard in place; at any place (chapter 18).
-/
import Derived.Test.YtnommofekjiiaaaTa4
namespace Go.Proofs.Ytnommofekjiiaaa
open Go Go.RowKit
set_option linter.unusedVariables false
set_option linter.unusedSimpArgs false
set_option maxRecDepth 100000
set_option maxHeartbeats 2000000
theorem Seg.shape? {w : World} {base g off cap n : Nat} {e : TypeId} {size : Nat} {xs : List Value} (h : Seg w base e size (.slice (some ⟨g, off, none⟩) n cap) n xs) (hc : 0 < cap) (hs : 0 < size) : ∃ k, w.shape? g = some (e, k) ∧ k ≠ 0 := by
  rcases h.2 with ⟨h0, _⟩ | ⟨g', off', cap', cur, hv, hg, hh, hn, hcm, hf, _⟩
  · cases h0
  · cases hv
    refine ⟨cur.size, by unfold World.shape?; rw [hh], ?_⟩
    have := Nat.mul_pos hc hs
    omega
theorem Blk.shape? {w : World} {b : Nat} {cs : Array Value} {t : TypeId} (h : Blk w b cs t) : w.shape? b = some (t, cs.size) := by
  unfold Blk at h
  unfold World.shape?
  rw [h]
theorem sizeOfSh (w : World) : (Go.sizeOf 32).run Try.prog w = .ok 2 w := Try.sizeOf32 w
theorem over_apart {w : World} {vb g kB : Nat} {x : Sh} (hv : Blk w vb #[.int .i64 x.1, Str x.2] 32) (hg : w.shape? g = some (32, kB)) (hk : kB ≠ 0) (hne : vb ≠ g) (off' lb cb : Nat) :
    (callFunc 59 #[.slice (some ⟨vb, 0, none⟩) 1 1, .slice (some ⟨g, off', none⟩) lb cb]).run Try.prog w = .ok (.value (.bool false)) w := by
  rw [run_callFunc_extern Try.func59 (by kernel_rfl) (by kernel_rfl) (by kernel_rfl) (e := Extern.SlicesOverlaps.overlaps #[47, 47] #[4]) (by kernel_rfl),
    Lib.run_overlaps_apart w 47 4 32 Try.underlying47 2 sizeOfSh ⟨vb, 0, none⟩ ⟨g, off', none⟩ 1 1 lb cb hne 32 32 2 kB hv.shape? hg hk (hv.facts.2.1 0) (hv.facts.2.1 2)]
  rfl
theorem insert_place (base : Nat) (l : List Sh) (i : Nat) (x : Sh) (g off cap vb : Nat) (w : World) (hs : ShS w base (.slice (some ⟨g, off, none⟩) l.length cap) l) (hin : i < l.length) (hroom : l.length + 1 ≤ cap) (hl : l.length ≤ 1000) (hv : Blk w vb #[.int .i64 x.1, Str x.2] 32) (hne : vb ≠ g) :
    Calls Try.prog 49 #[.slice (some ⟨g, off, none⟩) l.length cap, .int .i64 (i : Nat), .slice (some ⟨vb, 0, none⟩) 1 1] w (InsP w base g l i x) := by
  obtain ⟨hc1, hc2, _, hgw⟩ := Seg.capOf hs
  unfold maxLen at hc2
  obtain ⟨ys, hyl, hm⟩ := Seg.more hs hroom
  obtain ⟨kB, hk1, hk2⟩ := Seg.shape? hs (by omega) (by decide)
  have hov : ∀ off' lb cb, (callFunc 59 #[.slice (some ⟨vb, 0, none⟩) 1 1, .slice (some ⟨g, off', none⟩) lb cb]).run Try.prog w = .ok (.value (.bool false)) w := fun off' lb cb => over_apart hv hk1 hk2 hne off' lb cb
  have hdl : (shC (l.drop i)).length = (l.length - i) * 2 := by rw [shC_length, List.length_drop]
  have hfin := ins_place (i := i) (x := x) ys hyl (by omega) hm
  have hmd := hm.drew
  have hw3 := Seg.puts (n := l.length + 1) (shC (l.drop i)) ((i + 1) * 2) hmd (by rw [hdl]; omega)
  clear hmd
  have hcp1 : ∀ ty dc sc, (Builtin.copy_ #[47, 47] ty #[.slice (some ⟨g, off + (i + 1) * 2, none⟩) (l.length - i) dc, .slice (some ⟨g, off + i * 2, none⟩) (l.length + 1 - i) sc]).run Try.prog w.drew = .ok (goInt (l.length - i : Nat)) (w.drew.setCells g (off + (i + 1) * 2) (shC (l.drop i))) := fun ty dc sc =>
    run_copy_k w.drew _ _ ty 32 2 (l.length - i) g (off + (i + 1) * 2) _ _ _ _ _ (shC (l.drop i)) Try.underlying47 sizeSh (by simp only [Nat.min_def]; split <;> omega) hdl
      (fun j v hj => by
        have e : (⟨g, off + i * 2, none⟩ : Addr).add j = ⟨g, off + (i * 2 + j), none⟩ := by unfold Addr.add; split <;> simp_all [Nat.add_assoc]
        have hjl := (List.getElem?_eq_some_iff.1 hj).1
        rw [hdl] at hjl
        rw [e]
        refine (hs.at (i * 2 + j) (by omega)).trans ?_
        rw [← List.getElem?_drop, shC_drop]
        exact hj)
      (fun j hj => by
        rw [hdl] at hj
        rw [Nat.add_assoc]
        refine (congrArg Option.isSome (hm.at ((i + 1) * 2 + j) (by omega))).trans ?_
        rw [List.getElem?_eq_getElem (by rw [hm.1]; omega)]
        rfl)
      (fun j _ => hm.free _) (shC_one _)
  have hcp2 : ∀ ty dc, (Builtin.copy_ #[47, 47] ty #[.slice (some ⟨g, off + i * 2, none⟩) (l.length + 1 - i) dc, .slice (some ⟨vb, 0, none⟩) 1 1]).run Try.prog (w.drew.setCells g (off + (i + 1) * 2) (shC (l.drop i))) = .ok (goInt 1) ((w.drew.setCells g (off + (i + 1) * 2) (shC (l.drop i))).setCells g (off + i * 2) [.int .i64 x.1, Str x.2]) := fun ty dc =>
    run_copy_k _ _ _ ty 32 2 1 g (off + i * 2) _ _ _ 1 1 [.int .i64 x.1, Str x.2] Try.underlying47 sizeSh (by simp only [Nat.min_def]; split <;> omega) rfl
      (fun j v hj => by
        have e : (⟨vb, 0, none⟩ : Addr).add j = ⟨vb, j, none⟩ := by unfold Addr.add; split <;> simp_all
        have hb2 : Only [g] w (w.drew.setCells g (off + (i + 1) * 2) (shC (l.drop i))) := Only.puts (by simp) _ _ (Only.refl _ _).drew
        rw [e, (hv.only hb2 (by simpa using hne)).facts.1 j]
        simpa using hj)
      (fun j hj => by
        rw [Nat.add_assoc]
        refine (congrArg Option.isSome (hw3.at (i * 2 + j) (by simp at hj; omega))).trans ?_
        rw [List.getElem?_eq_getElem (by rw [hw3.1]; simp at hj; omega)]
        rfl)
      (fun j _ => hw3.free _) (by simp [Value.oneCell'])
  have HF : Hid (InsP w base g l i x (.returned (.slice (some ⟨g, off, none⟩) (l.length + 1) cap)) ((w.drew.setCells g (off + (i + 1) * 2) (shC (l.drop i))).setCells g (off + i * 2) [.int .i64 x.1, Str x.2])) := Lib.hid ⟨_, _, _, rfl, ins_place (x := x) ys hyl (by omega) hm.drew, Only.puts (by simp) _ _ (Only.puts (by simp) _ _ (Only.refl _ _).drew)⟩
  have hci : ¬ (cap = i) := by omega
  have hci3 : ¬ (cap = i + 1) := by omega
  have hci4 : ¬ (cap : Int) < (l.length : Int) + 1 := by omega
  have hci5 : ¬ ((i : Int) = (l.length : Int)) := by omega
  have hci6 : (i : Int) ≤ (l.length : Int) := by omega
  have hci7 : (i : Int) + 1 ≤ (l.length : Int) + 1 := by omega
  have hci8 : (i : Int) ≤ (l.length : Int) + 1 := by omega
  have hti : ((i : Int) + 1).toNat = i + 1 := by omega
  have hw1 : IntKind.i64.wrap ((i : Int) + 1) = (i : Int) + 1 := by rw [IntKind.wrap_i64]; omega
  have hz1' : (0 : Int) ≤ (i : Int) + 1 := by omega
  clear hfin hw3 hm hs hv hdl hk1 hk2 hyl
  generalize hP : InsP w base g l i x = PP at HF ⊢
  clear hP
  generalize hW4 : (w.drew.setCells g (off + (i + 1) * 2) (shC (l.drop i))).setCells g (off + i * 2) [.int .i64 x.1, Str x.2] = W4 at *
  generalize hW3 : w.drew.setCells g (off + (i + 1) * 2) (shC (l.drop i)) = W3 at *
  clear hW4 hW3
  generalize l.length = n at *
  go_enter Try.func49, Try.ntmps49
  go_wp2_with (simp only [hov])
  go_region_law (refine step_copy_k rfl _ _ 47 47 rfl _ _ (by simp [Act.eval, Act.put]) (by simp [Act.eval, Act.put]) (hcp1 _ _ _) ?_)
  all_goals
    go_wp2_with (at_builtin; refine wpList_copy_k _ rfl _ _ 47 47 rfl _ _ rfl rfl (hcp2 _ _) ?_)
    try go_ret
    exact HF.out
/-- slices.Insert of one shard into a row one's own, at any place. -/
theorem insert18 (base : Nat) (l : List Sh) (i : Nat) (x : Sh) (g off cap vb : Nat) (w : World) (hs : ShS w base (.slice (some ⟨g, off, none⟩) l.length cap) l) (hin : i ≤ l.length) (hl : l.length ≤ 1000) (hb : base ≤ w.heap.size) (hv : Blk w vb #[.int .i64 x.1, Str x.2] 32) (hne : vb ≠ g) :
    Calls Try.prog 49 #[.slice (some ⟨g, off, none⟩) l.length cap, .int .i64 (i : Nat), .slice (some ⟨vb, 0, none⟩) 1 1] w (InsP w base g l i x) := by
  by_cases h : i = l.length
  · subst h
    exact insert_end base l x g off cap vb w hs hl hb hv
  · by_cases hr : cap < l.length + 1
    · exact insert_grow base l i x g off cap vb w hs (by omega) hr hl hb hv
    · exact insert_place base l i x g off cap vb w hs (by omega) (by omega) hl hv hne
end Go.Proofs.Ytnommofekjiiaaa
