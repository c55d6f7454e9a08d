/-
  Blocks that were sent: Due, its walk (chapter 22).
-/
import Derived.Test.YtgfbhclkpephnaaFl6
import Derived.Test.YtgfbhclkpephnaaRgQ
namespace Go.Proofs.Ytgfbhclkpephnaa
open Go Go.RowKit Go.Shelf
set_option linter.unusedVariables false
set_option linter.unusedSimpArgs false
set_option maxRecDepth 100000
set_option maxHeartbeats 2000000
attribute [local go_sem] Oper.semAt_some
def DuePost (w : World) (B bf g off c n : Nat) (b z now wait : Int) (L : List FB) (e : Ending) (w' : World) : Prop :=
  ∃ v, e = .returned v ∧ Seg w' (w.heap.size + 4) 53 1 v (dueF b now wait L (List.range n)).2.length ((dueF b now wait L (List.range n)).2.map (Value.int .u32)) ∧ FlM w' B bf b z (.slice (some ⟨g, off, none⟩) n c) (dueF b now wait L (List.range n)).1 ∧ Only [g] w w'
theorem fldue_any (now wait : Int) (h1 : 0 ≤ now ∧ now ≤ 1099511627776) (h2 : 0 ≤ wait ∧ wait ≤ 1099511627776) {w : World} {B bf g off c n : Nat} {b z : Int} {L : List FB} (h : FlM w B bf b z (.slice (some ⟨g, off, none⟩) n c) L) (hn : n = L.length) (hl : n ≤ 64) :
    Calls Try.prog 27 #[.pointer (some ⟨bf, 0, none⟩), .int .i64 now, .int .i64 wait] w (DuePost w B bf g off c n b z now wait L) := by
  obtain ⟨i0, hif, hz0, hz1, hz2⟩ := info_parts infoU32
  have HB1 := Lib.hid (fun w' => flbad_ok now h1.1 h1.2 w')
  have HB2 := Lib.hid (fun w' => flbad_ok wait h2.1 h2.2 w')
  have HA := Lib.hid (fun w' => flall_any bf w')
  have HM := Lib.hid h
  have HN := Lib.hid hn
  have HW := Lib.hid (And.intro h1 h2)
  have k0 := Blk.new w #[.int .i64 now] 3
  have k1 := Blk.newAt (w := w.alloc (.cells #[.int .i64 now] 3)) (n := w.heap.size + 1) (cs := #[.int .i64 wait]) (t := 3) (by simp)
  have k2 := Blk.newAt (w := (w.alloc (.cells #[.int .i64 now] 3)).alloc (.cells #[.int .i64 wait] 3)) (n := w.heap.size + 2) (cs := #[.slice none 0 0]) (t := 64) (by simp)
  have HX : Hid (Blk (((w.alloc (.cells #[.int .i64 now] 3)).alloc (.cells #[.int .i64 wait] 3)).alloc (.cells #[.slice none 0 0] 64)) w.heap.size #[.int .i64 now] 3 ∧ Blk (((w.alloc (.cells #[.int .i64 now] 3)).alloc (.cells #[.int .i64 wait] 3)).alloc (.cells #[.slice none 0 0] 64)) (w.heap.size + 1) #[.int .i64 wait] 3 ∧ Blk (((w.alloc (.cells #[.int .i64 now] 3)).alloc (.cells #[.int .i64 wait] 3)).alloc (.cells #[.slice none 0 0] 64)) (w.heap.size + 2) #[.slice none 0 0] 64) := Lib.hid ⟨(k0.alloc _).alloc _, k1.alloc _, k2⟩
  have HBB := Lib.hid (Below.chainAlloc (Below.chainAlloc (Below.chainAlloc (Below.refl _ w) (.cells #[.int .i64 now] 3)) (.cells #[.int .i64 wait] 3)) (.cells #[.slice none 0 0] 64))
  have HSZ : Hid ((((w.alloc (.cells #[.int .i64 now] 3)).alloc (.cells #[.int .i64 wait] 3)).alloc (.cells #[.slice none 0 0] 64)).heap.size = w.heap.size + 3) := Lib.hid (by simp)
  clear h hn h1 h2 k0 k1 k2
  refine (callsIn_wide (n := 3)).1 ?_
  refine callsIn_of_wp_marks Try.func27 rfl trivial ?_ rfl
  simp only [Try.ntmps27, List.size_toArray, List.length_cons, List.length_nil, Nat.reduceAdd, Nat.reduceSub, Array.replicate_succ, Array.replicate_zero, List.push_toArray, List.append_toArray, List.nil_append, List.cons_append]
  gi_wp2_with fail
  refine ⟨trivial, (callsIn_wide.2 (HB1.out _)).mono ?_⟩
  rintro e w1 ⟨rfl, rfl⟩
  gi_wp2_with fail
  refine ⟨trivial, (callsIn_wide.2 (HB2.out _)).mono ?_⟩
  rintro e w1 ⟨rfl, rfl⟩
  gi_wp2_with fail
  refine ⟨trivial, (callsIn_wide.2 (HA.out _)).mono ?_⟩
  rintro e w2 ⟨rfl, hkx, hb2, hsz2⟩
  gi_wp2_with fail
  have hsz := hb2.size
  rw [HSZ.out] at hkx hsz hsz2 hb2
  have hx0 : Boxed w2 w.heap.size 3 (.int .i64 now) := (hb2.block _ (by omega)).trans HX.out.1
  have hx1 : Boxed w2 (w.heap.size + 1) 3 (.int .i64 wait) := (hb2.block _ (by omega)).trans HX.out.2.1
  have hx2 : Boxed w2 (w.heap.size + 2) 64 (.slice none 0 0) := (hb2.block _ (by omega)).trans HX.out.2.2
  have hbw : Below w.heap.size w w2 := HBB.out.trans (hb2.mono (by omega))
  have hm2 := HM.out.chain hbw
  have HBW := Lib.hid hbw
  have HS2 : Hid (w2.heap.size = w.heap.size + 4) := Lib.hid hsz2
  clear HB1 HB2 HA HX HBB HSZ hb2 hsz
  have hn1 : n ≤ 64 := hl
  refine wpIn_rangeFunc_O rfl (by decide) (gf := 88) (lb := #[.pointer (some ⟨w.heap.size + 3, 0, none⟩)]) rfl trivial (enters_of Try.func88 (by kernel_rfl) rfl)
    (O := fun _ => False) (fun r e => e.elim) (it_fl (w.heap.size + 3) bf g off c n b z hl w2 hkx hm2.k) (fun h h' => h.trans h')
    (fun W l o' hl' => ⟨by simp, World.putObj_heap_other (by rw [hsz2] at hl'; omega), World.putObj_heap_other (by have := hm2.k.lt; omega)⟩) (Below.refl _ _) (fun _ => rfl)
    (InvD w B bf g off c n b z now wait L) (fun _ _ _ => False) (invD_own _ hbw.size) (fun _ _ _ _ _ hs _ _ => hs) ⟨⟨_, hx2, World.ownsRow_nil _ _ _ _⟩, hx0, hx1, hkx, hm2, Only.of_below hbw, by omega⟩
    (fun x => { tmps := #[.pointer (some ⟨bf, 0, none⟩), .int .i64 now, .int .i64 wait, undef, .pointer (some ⟨w.heap.size, 0, none⟩), .pointer (some ⟨w.heap.size + 1, 0, none⟩), .slice none 0 0, .pointer (some ⟨w.heap.size + 1 + 1, 0, none⟩), .int .u32 ((b + (x.val : Int)) % 4294967296), .pointer (some ⟨g, off + x.val * 3, none⟩), .pointer (some ⟨bf, 0, none⟩), .bool false, .bool false, .int .i64 now, .bool false, .bool false, .bool false, .int .i64 wait, .bool false, .bool false, .pointer (some ⟨bf, 0, none⟩), .func (.func 88) #[] #[.pointer (some ⟨w.heap.size + 1 + 1 + 1, 0, none⟩)], .int .u32 ((b + (x.val : Int)) % 4294967296), .pointer (some ⟨g, off + x.val * 3, none⟩), undef, undef, undef, undef, undef, undef, undef, undef, undef, undef, undef, undef, undef, undef, undef, undef, undef], defers := [] }) ?assign ?body ?done ?stop
  case assign =>
    intro l x W K hK
    unfold encF
    gi_wp2
    exact hK
  case body =>
    rintro l pre x W hinv hlt
    have HI := Lib.hid hinv
    obtain ⟨⟨v, hv, hrow⟩, h0, h1, hx, hm, ho, hsz⟩ := hinv
    have hfs := dueF_snoc b now wait L (pre.map Fin.val) x.val
    have hlen := dueF_len b now wait L (pre.map Fin.val)
    have hout := dueF_out b now wait L (pre.map Fin.val)
    rw [List.length_map] at hout
    obtain ⟨st, hst⟩ : ∃ st, dueF b now wait L (pre.map Fin.val) = st := ⟨_, rfl⟩
    rw [hst] at hfs hlen hout hrow hm
    obtain ⟨L', out⟩ := st
    obtain ⟨k, hk⟩ := x
    dsimp only at hlen hout hrow hm hfs ⊢
    have hkl : k < L'.length := by rw [hlen, ← HN.out]; exact hk
    obtain ⟨r0, r1, r2⟩ := hm.row (by rw [hlen]; exact HN.out) k hkl
    obtain ⟨y, hy⟩ : ∃ y, L'[k] = y := ⟨_, rfl⟩
    rw [hy] at r0 r1 r2
    have hw1 : wrap64 (now - wait) = now - wait := IntWalk.wrap64_in _ (by have := HW.out; omega)
    have hw2 : IntKind.i64.wrap (now - wait) = now - wait := IntWalk.i64_in _ (by have := HW.out; clear hw1; omega)
    have HFS := Lib.hid hfs
    have HST := Lib.hid hst
    have HY := Lib.hid hy
    have HLEN := Lib.hid hlen
    have HOUT := Lib.hid hout
    have HSZ := Lib.hid hsz
    have HO := Lib.hid ho
    have HMM := Lib.hid hm
    have HVV := Lib.hid (And.intro hv (And.intro h0 (And.intro h1 hx)))
    have HROW := Lib.hid hrow
    have HLT := Lib.hid hlt
    have y0 : W.cell? ⟨w.heap.size, 0, none⟩ = some (.int .i64 now) := h0.cell
    have y1 : W.cell? ⟨w.heap.size + 1, 0, none⟩ = some (.int .i64 wait) := h1.cell
    have y2 : W.cell? ⟨w.heap.size + 1 + 1, 0, none⟩ = some v := hv.cell
    clear hfs hst hy hlen hout hsz ho hm hv h0 h1 hx hrow hlt r0 r1 hsz2
    have hmx : Try.prog.follows .mixedOrders = true := by kernel_rfl
    have HDS : Hid (dueS b now wait (L', out) k = if y.at' ≤ now - wait then (L'.set k ⟨y.body, y.n, now⟩, out ++ [(b + (k : Int)) % 4294967296]) else (L', out)) := Lib.hid (by
      unfold dueS
      simp only [List.getElem?_eq_getElem hkl, HY.out])
    by_cases hd : y.at' ≤ now - wait
    · have HD := Lib.hid hd
      gi_wp2
      refine wpIn_region_quiet_round (F := Fence.wide) rfl hmx (by kernel_rfl) (by kernel_rfl) ?_
      repeat (gi_big_quiet_step (fail))
      refine wpQuietIn_nil ?_
      intro _ hw'
      obtain ⟨nq, hw''⟩ := hw'
      subst hw''
      have hb1 := below_drewN (Below.refl W.heap.size W) nq
      have HI1 : Hid (InvD w B bf g off c n b z now wait L pre (W.drewN nq)) := Lib.hid (invD_own w.heap.size (Nat.le_refl _) _ _ _ none HI.out (grown_of_below hb1) (fun r e => by cases e))
      have HK1 := Lib.hid (And.intro (keeps_below hb1) hb1.size)
      clear hb1 y0 y1 y2 r2
      generalize W.drewN nq = W1 at *
      obtain ⟨⟨v1, hv, hrow⟩, h0, h1, hx, hm, ho, hsz⟩ := HI1.out
      rw [HST.out] at hrow hm
      dsimp only at hrow hm
      have HP : Hid (Push w B bf g off c n b z now wait v1 L' W1) := Lib.hid ⟨hv, h0, h1, hx, hm, ho, hsz⟩
      have y0 : W1.cell? ⟨w.heap.size, 0, none⟩ = some (.int .i64 now) := h0.cell
      have y2 : W1.cell? ⟨w.heap.size + 1 + 1, 0, none⟩ = some v1 := hv.cell
      have hol : out.length + 1 ≤ 100 := by have h1 := HOUT.out; have h2 := HLT.out; omega
      have hm1 : out.length + 1 ≤ maxLen := by unfold maxLen; omega
      have hm2' : (out.length + 1) * 4 ≤ 140737488355328 := by omega
      have hbs : w.heap.size + 4 ≤ (W1.alloc (.cells #[.int .u32 ((b + (k : Int)) % 4294967296)] 53)).heap.size := by rw [size_alloc]; omega
      obtain ⟨N, hN⟩ : ∃ N, (b + (k : Int)) % 4294967296 = N := ⟨_, rfl⟩
      rw [hN] at HDS hbs
      have HN2 := Lib.hid hN
      have HV := Lib.hid hv
      have HROW1 := Lib.hid hrow
      have HNL : Hid (n = L'.length) := Lib.hid (by rw [HLEN.out]; exact HN.out)
      have HBS := Lib.hid (And.intro hm1 (And.intro hm2' hbs))
      rw [hN]
      clear hN h0 h1 hx hm ho hsz hol hm1 hm2' hbs hv hrow HVV HROW HMM HO
      gi_wp2_with (gi_at_builtin; refine wpListIn_append_own _ rfl _ _ 64 rfl (w.heap.size + 4) 53 i0 (.int .u32 0) 1 4 Try.underlying64 hif hz0 hz1 hz2 rfl (by decide) _ _ _ rfl (HROW1.out.alloc _) ⟨W1.heap.size, 0, none⟩ 1 1 [.int .u32 N] rfl rfl (cell_one_new _ _ _) (by simp [Value.oneCell']) HBS.out.1 HBS.out.2.1 HBS.out.2.2 ?_; intro v' w3 hown' hgrow _; obtain ⟨g', cap', rfl⟩ := ownsRow_succ hown'; have hp3 := HP.out.grow HROW1.out hgrow; have HAP := Lib.hid (And.intro hown' (And.intro hp3 (HV.out.appended (by decide) (owns_low' HROW1.out (Nat.le_add_right _ 4)) (Nat.le_trans (Nat.le_add_right _ 4) HP.out.sz) (Nat.le_add_right _ 2) (owns_low' hown' (Nat.le_add_right _ 4)) hgrow).2.2.2.1)); have z0 : w3.cell? ⟨w.heap.size, 0, none⟩ = some (.int .i64 now) := hp3.k0.cell; have z2 : w3.cell? ⟨w.heap.size + 1 + 1, 0, none⟩ = some v1 := hp3.kv.cell; have fz2 : w3.frozen? ⟨w.heap.size + 1 + 1, 0, none⟩ = false := hp3.kv.frozen; obtain ⟨zc, fzc, ng⟩ := hp3.el (HNL.out) hkl; have ng2 := Ne.symm ng; clear hown' hgrow hp3 y0 y2)
      have hdone := HAP.out.2.1.done HNL.out hkl (pre' := pre ++ [⟨k, hk⟩]) (N := N) HAP.out.1 (by
        rw [List.map_append]
        show dueF b now wait L (List.map Fin.val pre ++ [k]) = _
        rw [HFS.out, HDS.out, if_pos hd, HY.out])
      exact ⟨((HK1.out.1.trans HAP.out.2.2).trans (KeepsOthers.setCell _ _ _)).from _, HI.out.kp hdone (by have h1 := HK1.out.2; have h2 := HAP.out.2.2.size; simp [World.setCell] at h2 ⊢; omega), hdone⟩
    · have HD := Lib.hid hd
      gi_wp2
      refine wpIn_region_quiet_round (F := Fence.wide) rfl hmx (by kernel_rfl) (by kernel_rfl) ?_
      repeat (gi_big_quiet_step (fail))
      refine wpQuietIn_nil ?_
      intro _ hw'
      obtain ⟨nq, hw''⟩ := hw'
      subst hw''
      have hb1 := below_drewN (Below.refl W.heap.size W) nq
      have HI1 : Hid (InvD w B bf g off c n b z now wait L pre (W.drewN nq)) := Lib.hid (invD_own w.heap.size (Nat.le_refl _) _ _ _ none HI.out (grown_of_below hb1) (fun r e => by cases e))
      have HK1 := Lib.hid (And.intro (keeps_below hb1) hb1.size)
      clear hb1 y0 y1 y2 r2
      generalize W.drewN nq = W1 at *
      gi_wp2
      have hs : InvD w B bf g off c n b z now wait L (pre ++ [⟨k, hk⟩]) W1 := HI1.out.same (by
        rw [List.map_append]
        show dueF b now wait L (List.map Fin.val pre ++ [k]) = _
        rw [HFS.out, HST.out, HDS.out, if_neg (by have := HD.out; omega)])
      exact ⟨HK1.out.1.from _, HI.out.kp hs HK1.out.2, hs⟩
  case done =>
    rintro D ys W hD hys hinv hK
    obtain ⟨⟨v, hv, hrow⟩, h0, h1, hx, hm, ho, hsz⟩ := hinv
    rw [hys] at hrow hm
    have hc : W.cell? ⟨w.heap.size + 1 + 1, 0, none⟩ = some v := hv.cell
    have HR := Lib.hid hrow
    have HM2 := Lib.hid hm
    have HO := Lib.hid ho
    have HDD : Hid (w.heap.size + 4 ≤ D) := Lib.hid (by rw [← HS2.out]; exact hD)
    have HHK := Lib.hid hK
    clear hv hrow h0 h1 hx hm ho hsz2 hys
    gi_wp2
    refine ⟨by simp, .inl ⟨_, _, rfl, run_takeDeferred hK, ?_⟩⟩
    have hg := grownBy_putObj' W D (.deferred none)
    have hnc : ∀ k cs t, W.heap[k]? = some (.cells cs t (0, 0)) → some k ≠ some D := fun k cs t hk e => by
      cases e
      rw [HHK.out] at hk
      cases hk
    have hm := HM2.out
    have ho := HO.out
    refine ⟨_, results_tmp rfl _ _ _, v, rfl, ?_, ⟨?_, ?_⟩, ⟨hg.os.trans ho.os, hg.tape.trans ho.tape, hg.output.trans ho.output, Nat.le_trans ho.size hg.size, fun k hk hn => (hg.block k (Nat.lt_of_lt_of_le hk ho.size) (fun e => by cases e; have := HDD.out; omega)).trans (ho.block k hk hn)⟩⟩
    · refine (owns_seg HR.out).same fun y hy => ?_
      obtain ⟨_, cur, hh⟩ := owns_blk' HR.out y hy
      exact hg.block _ (Array.getElem?_eq_some_iff.1 hh).1 (hnc _ _ _ hh)
    · exact (hg.block _ hm.k.lt (hnc _ _ _ hm.k)).trans hm.k
    · refine hm.s.same fun y hy => ?_
      obtain ⟨cur, hh⟩ := hm.s.heap' hy
      exact hg.block _ (Array.getElem?_eq_some_iff.1 hh).1 (hnc _ _ _ hh)
  case stop =>
    rintro D c pre W _ _ h _
    exact h.elim
end Go.Proofs.Ytgfbhclkpephnaa
