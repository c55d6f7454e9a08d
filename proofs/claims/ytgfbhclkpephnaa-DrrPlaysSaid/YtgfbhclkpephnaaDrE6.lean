/-
  The document's queues (lightshipref17): Push (whole), Next.
-/
import Derived.Test.YtgfbhclkpephnaaDrE5
namespace Go.Proofs.Ytgfbhclkpephnaa
open Go Go.RowKit
set_option linter.unusedVariables false
set_option linter.unusedSimpArgs false
set_option maxRecDepth 100000
set_option maxHeartbeats 1000000
theorem rpush_any (x : Int × Int) {qv rv : Value} {ls : List Value} {S : PS} (w : World) (h : DocR w qv rv ls S) (hS : S.Ok) (ht : totQ S.qs ≤ 60000) :
    Calls Try.prog 47 #[docV S qv rv, itV x] w (DAns w ls (pushA S x) (pushE S x)) := by
  unfold pushE pushA
  cases hg : getQ x.1 S.qs with
  | none => exact rpush_none x w h hS hg
  | some q =>
    simp only
    by_cases hx : x.2 < 1 ∨ 65536 < x.2
    · rw [if_pos hx, if_pos hx]
      exact rpush_bad x w h hS (by rw [hg]; simp) hx
    · rw [if_neg hx, if_neg hx]
      by_cases hne : q.items = []
      · exact rpush_first x q w h hS hg hx ht hne
      · exact rpush_more x q w h hS hg hx ht hne
/-- How all lies at a turn's start. -/
structure RNx (w : World) (ls0 : List Value) (S : PS) (gk : Nat) (wr : World) (T : PS) (qa : Option Addr) (qc : Nat) (ra : Option Addr) (rc : Nat) (ls : List Value) : Prop where
  mu : sumQ muQ T.qs ≤ gk
  t : Turned S T
  k0 : Blk wr w.heap.size #[.int .i64 T.quantum, .slice qa T.qs.length qc, .slice ra T.round.length rc] 31
  d : DocR wr (.slice qa T.qs.length qc) (.slice ra T.round.length rc) ls T
  b : Below w.heap.size w wr
  k1 : Blk wr (w.heap.size + 1) #[.int .i64 0, .slice none 0 0, .slice none 0 0] 31
  k2 : Blk wr (w.heap.size + 1 + 1) #[.int .i64 0, .int .i64 0] 35
  nb : ∀ v ∈ ls, ∀ g, v.ownBlock = some g → g < w.heap.size
  sub : SubL w.heap.size ls0 ls
theorem DocR.nb {w : World} {qv rv : Value} {ls : List Value} {S : PS} (h : DocR w qv rv ls S) : ∀ v ∈ ls, ∀ g, v.ownBlock = some g → g < w.heap.size := fun v hv g hg => by
  obtain ⟨i, hi, rfl⟩ := List.getElem_of_mem hv
  exact ((h.2.2.1 i (by rw [← h.1]; exact hi) hi).blk g hg).2
theorem DocR.keep2 {w' wx : World} {qv rv : Value} {ls : List Value} {S : PS} {b1 b2 B : Nat} {cs cs' : Array Value} (h : DocR w' qv rv ls S) (k1 : Blk w' b1 cs 31) (k2 : Blk w' b2 cs' 35) (nb : ∀ v ∈ ls, ∀ g, v.ownBlock = some g → g < B) (hB : B ≤ b2) (ho : Only [b1, b2] w' wx) : DocR wx qv rv ls S := by
  refine ⟨h.1, h.2.1.only ho (fun y hy hm => ?_), fun i h1 h2 => (h.2.2.1 i h1 h2).only ho (fun y hy hm => ?_), h.2.2.2.only ho (fun y hy hm => ?_)⟩
  · rcases List.mem_cons.1 hm with e | hm
    · exact h.2.1.ne_blk k1 (by decide) y hy e
    · exact h.2.1.ne_blk k2 (by decide) y hy (by simpa using hm)
  · rcases List.mem_cons.1 hm with e | hm
    · exact (h.2.2.1 i h1 h2).ne_blk k1 (by decide) y hy e
    · have := nb _ (List.getElem_mem h2) y hy
      simp at hm
      omega
  · rcases List.mem_cons.1 hm with e | hm
    · exact h.2.2.2.ne_blk k1 (by decide) y hy e
    · exact h.2.2.2.ne_blk k2 (by decide) y hy (by simpa using hm)
theorem only_ret5 (b : Nat) (w4 : World) (v2 v3 v4 v5 v6 : Value) : Only [b, b + 1] w4 (((((w4.setCell ⟨b, 0, none⟩ v2).setCell ⟨b, 1, none⟩ v3).setCell ⟨b, 2, none⟩ v4).setCell ⟨b + 1, 0, none⟩ v5).setCell ⟨b + 1, 1, none⟩ v6) :=
  (((((Only.refl _ _).setCell _ _ (.inl (by simp))).setCell _ _ (.inl (by simp))).setCell _ _ (.inl (by simp))).setCell _ _ (.inl (by simp))).setCell _ _ (.inl (by simp))
/-- What Next answers. -/
def RNextPost (w : World) (ls0 : List Value) (S : PS) (e : Ending) (w' : World) : Prop :=
  ∃ qv rv ls', ((S.round = [] ∧ e = .returned (.tuple #[docV S qv rv, itV (0, 0), .bool false]) ∧ DocR w' qv rv ls' S) ∨ ∃ S' x, NextIs S S' x ∧ e = .returned (.tuple #[docV S' qv rv, itV x, .bool true]) ∧ DocR w' qv rv ls' S') ∧ SubL w.heap.size ls0 ls' ∧ Below w.heap.size w w'
theorem Turned.rne {S T : PS} (h : Turned S T) (hr : T.round = []) : S = T ∧ S.round = [] := by
  cases h with
  | refl => exact ⟨rfl, hr⟩
  | snoc h1 h2 h3 => simp [turnP] at hr
theorem rnext_any {qv rv : Value} {ls0 : List Value} {S : PS} (w : World) (h : DocR w qv rv ls0 S) (hS : S.Ok) :
    Calls Try.prog 48 #[docV S qv rv] w (RNextPost w ls0 S) := by
  obtain ⟨aq, cq, rfl⟩ := h.2.1.form
  obtain ⟨ar, cr, rfl⟩ := h.2.2.2.form
  unfold docV
  have k0 := ((Blk.new w #[.int .i64 S.quantum, .slice aq S.qs.length cq, .slice ar S.round.length cr] 31).alloc (.cells #[.int .i64 0, .slice none 0 0, .slice none 0 0] 31)).alloc (.cells #[.int .i64 0, .int .i64 0] 35)
  have k1 := (Blk.new (w.alloc (.cells #[.int .i64 S.quantum, .slice aq S.qs.length cq, .slice ar S.round.length cr] 31)) #[.int .i64 0, .slice none 0 0, .slice none 0 0] 31).alloc (.cells #[.int .i64 0, .int .i64 0] 35)
  have k2 := Blk.new ((w.alloc (.cells #[.int .i64 S.quantum, .slice aq S.qs.length cq, .slice ar S.round.length cr] 31)).alloc (.cells #[.int .i64 0, .slice none 0 0, .slice none 0 0] 31)) #[.int .i64 0, .int .i64 0] 35
  simp only [size_alloc] at k1 k2
  have hB := Below.chainAlloc (Below.chainAlloc (Below.chainAlloc (Below.refl _ w) (.cells #[.int .i64 S.quantum, .slice aq S.qs.length cq, .slice ar S.round.length cr] 31)) (.cells #[.int .i64 0, .slice none 0 0, .slice none 0 0] 31)) (.cells #[.int .i64 0, .int .i64 0] 35)
  have HST : Hid (RNx w ls0 S (sumQ muQ S.qs) _ S aq cq ar cr ls0) := Lib.hid ⟨Nat.le_refl _, .refl, k0, h.chain hB, hB, k1, k2, h.nb, SubL.refl _ _⟩
  have HO := Lib.hid hS
  clear k0 k1 k2 hB h hS
  go_enter Try.func48, Try.ntmps48
  go_wp2_with fail
  generalize ((w.alloc (.cells #[.int .i64 S.quantum, .slice aq S.qs.length cq, .slice ar S.round.length cr] 31)).alloc (.cells #[.int .i64 0, .slice none 0 0, .slice none 0 0] 31)).alloc (.cells #[.int .i64 0, .int .i64 0] 35) = W0 at *
  go_loopg [] (sumQ muQ S.qs) (fun gk wr => ∃ (T : PS) (qa : Option Addr) (qc : Nat) (ra : Option Addr) (rc : Nat) (ls : List Value), Hid (RNx w ls0 S gk wr T qa qc ra rc ls))
  case atStart => exact ⟨_, _, _, _, _, _, HST⟩
  case round =>
    clear HST
    obtain ⟨T, qa, qc, ra, rc, ls, HR⟩ := hrel
    have HOK := Lib.hid (HR.out.t.ok HO.out)
    have u2 := HR.out.k0.facts.1 2
    by_cases hne : T.round = []
    · have hl0 : ((T.round.length : Nat) : Int) = 0 := by rw [hne]; rfl
      have hlp : ¬ (0 : Int) < ((T.round.length : Nat) : Int) := by omega
      have HNE := Lib.hid hne
      clear hl0 hne
      have k0 := HR.out.k0
      have k1 := HR.out.k1
      have k2 := HR.out.k2
      obtain ⟨Xs, Ys, Zs⟩ := k0.facts
      have s0 := Xs 0
      have s1 := Xs 1
      have s2 := Xs 2
      have fs0 := Ys 0
      have fs1 := Ys 1
      have fs2 := Ys 2
      obtain ⟨Xr, Yr, Zr⟩ := k1.facts
      have r0 := Xr 0
      have r1 := Xr 1
      have r2 := Xr 2
      have fr0 := Yr 0
      have fr1 := Yr 1
      have fr2 := Yr 2
      obtain ⟨Xi, Yi, Zi⟩ := k2.facts
      have i0 := Xi 0
      have i1 := Xi 1
      have fi0 := Yi 0
      have fi1 := Yi 1
      clear k0 Xs Ys k1 Xr Yr k2 Xi Yi
      go_wp2_with fail
      have hfin := only_ret5 (w.heap.size + 1) wr (.int .i64 T.quantum) (.slice qa T.qs.length qc) (.slice ra T.round.length rc) (.int .i64 0) (.int .i64 0)
      have hd := HR.out.d.keep2 HR.out.k1 HR.out.k2 HR.out.nb (Nat.le_succ_of_le (Nat.le_succ _)) hfin
      obtain ⟨hST, hSr⟩ := HR.out.t.rne HNE.out
      try rw [Exit.noGoto_ret]
      refine bodyPost_ret (v := .tuple #[.agg #[.int .i64 T.quantum, .slice qa T.qs.length qc, .slice ra T.round.length rc], .agg #[.int .i64 0, .int .i64 0], .bool false]) (by simp [results, Try.results48, go_sem, r0, r1, r2, i0, i1]) rfl ?_
      rw [hST] at hSr ⊢
      exact ⟨_, _, ls, .inl ⟨hSr, rfl, hd⟩, HR.out.sub, Below.only HR.out.b hfin (by simp; omega)⟩
    · obtain ⟨q, rest, x, xs, hf⟩ := HOK.out.front hne
      have HF := Lib.hid hf
      have hrl : T.round.length = rest.length + 1 := by rw [hf.r]; rfl
      have hlp : (0 : Int) < ((T.round.length : Nat) : Int) := by omega
      obtain ⟨gr, offr, _, er, _⟩ := HR.out.d.2.2.2.shape (by omega)
      cases er
      have hr0 : wr.cell? ⟨gr, offr, none⟩ = some (.int .i64 q.id) := by
        have := HR.out.d.2.2.2.at 0 (by omega)
        rw [Nat.add_zero] at this
        rw [this, hf.r]
        rfl
      have HAT := Lib.hid (rat_any q.id wr.drew HR.out.d (Nat.le_trans HOK.out.qlen (by decide)))
      unfold docV at HAT
      have k0 := HR.out.k0
      have HRL := Lib.hid hrl
      clear hf hne u2 hrl
      obtain ⟨Xs, Ys, Zs⟩ := k0.facts
      have s0 := Xs 0
      have s1 := Xs 1
      have s2 := Xs 2
      have fs0 := Ys 0
      have fs1 := Ys 1
      have fs2 := Ys 2
      clear k0 Xs Ys
      go_upto_region 2 with fail
      go_cut [5] (fun v5 wx => ∃ i : Nat, v5 = .int .i64 (i : Nat) ∧ Hid (∃ h : i < T.qs.length, T.qs[i] = q) ∧ Hid (Below wr.heap.size wr wx))
      case first =>
        go_region_law ((go_simp; go_at_call 50; with_reducible refine HAT.out.mono ?_; rintro e w5 ⟨r5, rfl, hr5, hb5⟩))
        all_goals
          go_wp2_with fail
          go_meet
          rcases hr5.get HOK.out with ⟨i, hi, rfl, hg⟩ | ⟨rfl, hg⟩
          · rw [HF.out.g] at hg
            exact ⟨i, rfl, Lib.hid ⟨hi, (Option.some.inj hg).symm⟩, Lib.hid (Below.chain hb5 (Below.refl _ wr).drew)⟩
          · rw [HF.out.g] at hg
            cases hg
      case rest =>
        obtain ⟨i, rfl, HI, HB2⟩ := hcut
        obtain ⟨wa, rfl⟩ : ∃ wa, wa = wc := ⟨_, rfl⟩
        have hbx := HB2.out
        have HBa := Lib.hid (Below.chain hbx HR.out.b)
        obtain ⟨hi, hqe⟩ := HI.out
        obtain ⟨g, off, _, er, _⟩ := HR.out.d.shape (Nat.lt_of_le_of_lt (Nat.zero_le _) hi)
        cases er
        have HDa := Lib.hid (HR.out.d.chain hbx)
        have HKa := Lib.hid (And.intro (HR.out.k0.below hbx HR.out.k0.lt) (And.intro (HR.out.k1.below hbx HR.out.k1.lt) (HR.out.k2.below hbx HR.out.k2.lt)))
        have hil : i < ls.length := by rw [HDa.out.1]; exact hi
        have d0 := HDa.out.cell rfl i 0 hi (by decide)
        have d1 := HDa.out.cell rfl i 1 hi (by decide)
        have d2 := HDa.out.cell rfl i 2 hi (by decide)
        have d3 := HDa.out.cell rfl i 3 hi (by decide)
        have d4 := HDa.out.cell rfl i 4 hi (by decide)
        have hit := HDa.out.2.2.1 i hi hil
        rw [hqe] at d0 d1 d2 d3 d4 hit
        have hnb := HR.out.nb _ (List.getElem_mem hil)
        rw [HF.out.i] at hit
        obtain ⟨gi, offi, ci, hv, _, _, hci, _⟩ := hit.shape (by simp)
        have HSBi : Hid ((∃ z ∈ ls0, z.ownBlock = some gi) ∨ w.heap.size ≤ gi) := Lib.hid (HR.out.sub _ (List.getElem_mem hil) gi (by rw [hv]; rfl))
        rw [hv] at d4 hit hnb
        have HNBi : Hid (gi < w.heap.size) := Lib.hid (hnb gi rfl)
        have HIT : Hid (Seg wa 0 35 2 (.slice (some ⟨gi, offi, none⟩) (xs.length + 1) ci) (xs.length + 1) (itC (x :: xs))) := Lib.hid hit
        have HCI : Hid (xs.length + 1 ≤ ci) := Lib.hid (by simpa using hci)
        have d0' : wa.cell? ⟨g, off + i * 5, none⟩ = some (.int .i64 q.id) := d0
        have d1' : wa.cell? ⟨g, off + i * 5 + 1, none⟩ = some (.int .i64 q.weight) := d1
        have d2' : wa.cell? ⟨g, off + i * 5 + 2, none⟩ = some (.int .i64 q.deficit) := d2
        have d3' : wa.cell? ⟨g, off + i * 5 + 3, none⟩ = some (.bool q.served) := d3
        have d4' : wa.cell? ⟨g, off + i * 5 + 4, none⟩ = some (.slice (some ⟨gi, offi, none⟩) (xs.length + 1) ci) := d4
        have hi0 : (0 : Int) ≤ (i : Int) := by omega
        have hii : (i : Int) < (T.qs.length : Int) := Int.ofNat_lt.2 hi
        have HQOK := Lib.hid (HOK.out.q q (by rw [← hqe]; exact List.getElem_mem hi))
        clear hbx hi hqe hil d0 d1 d2 d3 d4 hit hnb hv hci
        have k0 := HKa.out.1
        obtain ⟨Xs, Ys, Zs⟩ := k0.facts
        have s0 := Xs 0
        have s1 := Xs 1
        have s2 := Xs 2
        have fs0 := Ys 0
        have fs1 := Ys 1
        have fs2 := Ys 2
        clear k0 Xs Ys
        go_upto_if 25 with fail
        have HK3 := Lib.hid (And.intro (HKa.out.1.alloc (.cells #[.int .i64 q.id, .int .i64 q.weight, .int .i64 q.deficit, .bool q.served, .slice (some ⟨gi, offi, none⟩) (xs.length + 1) ci] 107)) (And.intro (HKa.out.2.1.alloc (.cells #[.int .i64 q.id, .int .i64 q.weight, .int .i64 q.deficit, .bool q.served, .slice (some ⟨gi, offi, none⟩) (xs.length + 1) ci] 107)) (And.intro (HKa.out.2.2.alloc (.cells #[.int .i64 q.id, .int .i64 q.weight, .int .i64 q.deficit, .bool q.served, .slice (some ⟨gi, offi, none⟩) (xs.length + 1) ci] 107)) (Blk.new wa #[.int .i64 q.id, .int .i64 q.weight, .int .i64 q.deficit, .bool q.served, .slice (some ⟨gi, offi, none⟩) (xs.length + 1) ci] 107))))
        have HB3 := Lib.hid (Below.chainAlloc HBa.out (.cells #[.int .i64 q.id, .int .i64 q.weight, .int .i64 q.deficit, .bool q.served, .slice (some ⟨gi, offi, none⟩) (xs.length + 1) ci] 107))
        have HD3 := Lib.hid (HDa.out.chain (Below.chainAlloc (Below.refl _ wa) (.cells #[.int .i64 q.id, .int .i64 q.weight, .int .i64 q.deficit, .bool q.served, .slice (some ⟨gi, offi, none⟩) (xs.length + 1) ci] 107)))
        have HIT3 := Lib.hid (HIT.out.alloc (.cells #[.int .i64 q.id, .int .i64 q.weight, .int .i64 q.deficit, .bool q.served, .slice (some ⟨gi, offi, none⟩) (xs.length + 1) ci] 107))
        have HSB : Hid (w.heap.size + 3 ≤ wa.heap.size) := Lib.hid (by have := HKa.out.2.2.lt; omega)
        have HBA3 := Lib.hid (Below.chainAlloc (Below.refl _ wa) (.cells #[.int .i64 q.id, .int .i64 q.weight, .int .i64 q.deficit, .bool q.served, .slice (some ⟨gi, offi, none⟩) (xs.length + 1) ci] 107))
        clear d0' d1' d2' d3' d4' hi0 hii
        generalize wa.alloc (.cells #[.int .i64 q.id, .int .i64 q.weight, .int .i64 q.deficit, .bool q.served, .slice (some ⟨gi, offi, none⟩) (xs.length + 1) ci] 107) = W3 at *
        generalize hb3 : wa.heap.size = b3 at *
        have HE3 := Lib.hid hb3
        clear hb3
        have k0 := HK3.out.1
        have k3 := HK3.out.2.2.2
        obtain ⟨Xs, Ys, Zs⟩ := k0.facts
        have s0 := Xs 0
        have s1 := Xs 1
        have s2 := Xs 2
        have fs0 := Ys 0
        have fs1 := Ys 1
        have fs2 := Ys 2
        obtain ⟨Xq, Yq, Zq⟩ := k3.facts
        have q0 := Xq 0
        have q1 := Xq 1
        have q2 := Xq 2
        have q3 := Xq 3
        have q4 := Xq 4
        have fq0 := Yq 0
        have fq1 := Yq 1
        have fq2 := Yq 2
        have fq3 := Yq 3
        have fq4 := Yq 4
        clear k0 Xs Ys k3 Xq Yq
        obtain ⟨D, hD⟩ : ∃ D, (servP T.quantum q).deficit = D := ⟨_, rfl⟩
        have HDD := Lib.hid hD
        clear hD
        go_cut [5] (fun v5 wx => v5 = .int .i64 (i : Nat) ∧ Blk wx b3 #[.int .i64 q.id, .int .i64 q.weight, .int .i64 D, .bool true, .slice (some ⟨gi, offi, none⟩) (xs.length + 1) ci] 107 ∧ Only [b3] W3 wx)
        case first =>
          cases hs : q.served with
          | true =>
            have e : D = q.deficit := by rw [← HDD.out]; unfold servP; rw [if_pos hs]
            subst e
            rw [hs] at q3 HK3
            go_wp2_with fail
            go_meet
            exact ⟨rfl, HK3.out.2.2.2, Only.refl _ _⟩
          | false =>
            have e : D = q.deficit + T.quantum * q.weight := by rw [← HDD.out]; unfold servP; rw [if_neg (by rw [hs]; simp)]
            subst e
            rw [hs] at q3 HK3
            have hmw := mul_wt HOK.out.qm.1 HOK.out.qm.2 HQOK.out.wt.1 HQOK.out.wt.2
            have hdf := HQOK.out.df
            have hw1 : wrap64 (T.quantum * q.weight) = T.quantum * q.weight := IntWalk.wrap64_in _ (by omega)
            have hw2 : wrap64 (q.deficit + T.quantum * q.weight) = q.deficit + T.quantum * q.weight := by
              clear hw1
              generalize T.quantum * q.weight = y at hmw ⊢
              exact IntWalk.wrap64_in _ (by omega)
            clear hmw hdf
            go_wp2_with fail
            go_meet
            exact ⟨rfl, (HK3.out.2.2.2.setAt 2 _ rfl).setAt 3 _ rfl, ((Only.refl _ _).setCell _ _ (.inl (by simp))).setCell _ _ (.inl (by simp))⟩
        case rest =>
          obtain ⟨rfl, hk3, ho3⟩ := hcut
          obtain ⟨w4, rfl⟩ : ∃ w4, w4 = wc := ⟨_, rfl⟩
          have hb3 : w.heap.size + 3 ≤ b3 := HSB.out
          have HB4 := Lib.hid (Below.only HB3.out ho3 (by simp; omega))
          have hba4 := Below.only (by rw [HE3.out]; exact HBA3.out) ho3 (by rw [HE3.out]; simp)
          have HBA4 := Lib.hid hba4
          have HIT4 := Lib.hid (HIT.out.chain hba4)
          have HK4 := Lib.hid (And.intro (HK3.out.1.only ho3 (by simp; omega)) (And.intro (HK3.out.2.1.only ho3 (by simp; omega)) (And.intro (HK3.out.2.2.1.only ho3 (by simp; omega)) hk3)))
          clear HB3 HK3 HIT3 HD3 HBA3 ho3 hba4 hk3 hb3 Zs s0 s1 s2 fs0 fs1 fs2 Zq q0 q1 q2 q3 q4 fq0 fq1 fq2 fq3 fq4
          have j1 : w4.cell? ⟨gi, offi + 1, none⟩ = some (.int .i64 x.2) := by
            rw [HIT4.out.at 1 (by omega)]
            rfl
          have hxl1 : (0 : Int) < (xs.length : Int) + 1 := by omega
          have k3 := HK4.out.2.2.2
          obtain ⟨Xq, Yq, Zq⟩ := k3.facts
          have q0 := Xq 0
          have q1 := Xq 1
          have q2 := Xq 2
          have q3 := Xq 3
          have q4 := Xq 4
          have fq0 := Yq 0
          have fq1 := Yq 1
          have fq2 := Yq 2
          have fq3 := Yq 3
          have fq4 := Yq 4
          clear k3 Xq Yq
          have j0 : w4.cell? ⟨gi, offi, none⟩ = some (.int .i64 x.1) := by
            have := HIT4.out.at 0 (by omega)
            rw [Nat.add_zero] at this
            rw [this]
            rfl
          by_cases hd : D < x.2
          · have HD := Lib.hid hd
            go_upto_region 7 with fail
            go_region
            have HSVI := Lib.hid (And.intro (servP_id T.quantum q) (And.intro (servP_items T.quantum q) (servP_weight T.quantum q)))
            go_upto_region 9 with fail
            have hb3 : w.heap.size + 3 ≤ b3 := HSB.out
            have HK5 := Lib.hid (And.intro (HK4.out.1.setOther ⟨b3, 3, none⟩ (.bool false) (by simp; omega)).drew (And.intro (HK4.out.2.1.setOther ⟨b3, 3, none⟩ (.bool false) (by simp; omega)).drew (And.intro (HK4.out.2.2.1.setOther ⟨b3, 3, none⟩ (.bool false) (by simp; omega)).drew (HK4.out.2.2.2.setAt 3 (.bool false) rfl).drew)))
            have HB5 := Lib.hid (HB4.out.setCell (p := ⟨b3, 3, none⟩) (by show w.heap.size ≤ b3; omega) (.bool false)).drew
            have hba5 := (HBA4.out.setCell (p := ⟨b3, 3, none⟩) (by rw [HE3.out]; exact Nat.le_refl _) (.bool false)).drew
            have HD5 := Lib.hid (HDa.out.chain hba5)
            have HIT5 := Lib.hid (HIT.out.chain hba5)
            clear hba5 j0 j1 hxl1 Zq q0 q1 q2 q3 q4 fq0 fq1 fq2 fq3 fq4 hb3 HBA4 HK4 HIT4 HB4
            generalize (w4.setCell ⟨b3, 3, none⟩ (.bool false)).drew = W5 at *
            have HSET := Lib.hid (rset_any i ⟨q.id, q.weight, D, false, x :: xs⟩ (.slice (some ⟨gi, offi, none⟩) (xs.length + 1) ci) W5 HD5.out HI.out.1 HIT5.out (Nat.le_trans HOK.out.qlen (by decide)))
            unfold docV at HSET
            dsimp only at HSET
            have k0 := HK5.out.1
            have k3 := HK5.out.2.2.2
            obtain ⟨Xs, Ys, Zs⟩ := k0.facts
            have s0 := Xs 0
            have s1 := Xs 1
            have s2 := Xs 2
            have fs0 := Ys 0
            have fs1 := Ys 1
            have fs2 := Ys 2
            obtain ⟨Xq, Yq, Zq⟩ := k3.facts
            have q0 := Xq 0
            have q1 := Xq 1
            have q2 := Xq 2
            have q3 := Xq 3
            have q4 := Xq 4
            have fq0 := Yq 0
            have fq1 := Yq 1
            have fq2 := Yq 2
            have fq3 := Yq 3
            have fq4 := Yq 4
            clear k0 Xs Ys k3 Xq Yq
            go_wp2_with fail
            refine HSET.out.mono ?_
            rintro e w6 ⟨qv6, rfl, hd6, hb6⟩
            obtain ⟨a6, c6, rfl⟩ := hd6.2.1.form
            rw [List.length_set] at hd6
            rw [List.length_set]
            have HD6 := Lib.hid hd6
            have HB6 := Lib.hid (Below.chain hb6 HB5.out)
            have HK6 := Lib.hid (And.intro (HK5.out.1.below hb6 HK5.out.1.lt) (And.intro (HK5.out.2.1.below hb6 HK5.out.2.1.lt) (And.intro (HK5.out.2.2.1.below hb6 HK5.out.2.2.1.lt) (HK5.out.2.2.2.below hb6 HK5.out.2.2.2.lt))))
            clear hd6 hb6 HSET HK5 HB5 HD5 HIT5 Zs s0 fs0 s1 fs1 s2 fs2 Zq q0 fq0 q1 fq1 q2 fq2 q3 fq3 q4 fq4
            have k0 := HK6.out.1
            have k3 := HK6.out.2.2.2
            obtain ⟨Xs, Ys, Zs⟩ := k0.facts
            have s0 := Xs 0
            have s1 := Xs 1
            have s2 := Xs 2
            have fs0 := Ys 0
            have fs1 := Ys 1
            have fs2 := Ys 2
            obtain ⟨Xq, Yq, Zq⟩ := k3.facts
            have q0 := Xq 0
            have q1 := Xq 1
            have q2 := Xq 2
            have q3 := Xq 3
            have q4 := Xq 4
            have fq0 := Yq 0
            have fq1 := Yq 1
            have fq2 := Yq 2
            have fq3 := Yq 3
            have fq4 := Yq 4
            clear k0 Xs Ys k3 Xq Yq
            go_upto_region 10 with fail
            have hF7 := only_ret1 w.heap.size w6 (.int .i64 T.quantum) (.slice a6 T.qs.length c6) (.slice (some ⟨gr, offr, none⟩) T.round.length rc)
            have hb3 : w.heap.size + 3 ≤ b3 := HSB.out
            have HK7 := Lib.hid (And.intro (((HK6.out.1.setAt 0 (.int .i64 T.quantum) rfl).setAt 1 (.slice a6 T.qs.length c6) rfl).setAt 2 (cs' := #[.int .i64 T.quantum, .slice a6 T.qs.length c6, .slice (some ⟨gr, offr, none⟩) T.round.length rc]) (.slice (some ⟨gr, offr, none⟩) T.round.length rc) rfl) (And.intro (HK6.out.2.1.only hF7 (by simp)) (And.intro (HK6.out.2.2.1.only hF7 (by simp; omega)) (HK6.out.2.2.2.only hF7 (by simp; omega)))))
            have HB7 := Lib.hid (Below.only HB6.out hF7 (by simp))
            have HD7 := Lib.hid (HD6.out.keepS HK6.out.1 hF7)
            clear hF7 hb3 HK6 HB6 HD6 Zs s0 fs0 s1 fs1 s2 fs2 Zq q0 fq0 q1 fq1 q2 fq2 q3 fq3 q4 fq4
            generalize ((w6.setCell ⟨w.heap.size, 0, none⟩ (.int .i64 T.quantum)).setCell ⟨w.heap.size, 1, none⟩ (.slice a6 T.qs.length c6)).setCell ⟨w.heap.size, 2, none⟩ (.slice (some ⟨gr, offr, none⟩) T.round.length rc) = W at *
            have HWO : Hid (wo q.id T.round = rest) := Lib.hid (by
              have h1 := HOK.out.rn
              rw [HF.out.r] at h1 ⊢
              exact wo_head h1)
            have HRW : Hid (∀ w', Below W.heap.size W w' → Calls Try.prog 81 #[.slice (some ⟨gr, offr, none⟩) T.round.length rc, .int .i64 q.id] w' fun e w5 => ∃ a c, e = .returned (.slice a rest.length c) ∧ Seg w5 W.heap.size 3 1 (.slice a rest.length c) rest.length (iv rest) ∧ Below w'.heap.size w' w5 ∧ Below W.heap.size W w5) := Lib.hid fun w' hb' => by
              refine (rwo_any q.id w' (HD7.out.2.2.2.chain hb') (Nat.le_trans HOK.out.rlen (by decide))).mono ?_
              rintro e w5 ⟨v, rfl, hs5, hb5⟩
              rw [HWO.out] at hs5
              obtain ⟨a, c, rfl⟩ := hs5.form
              exact ⟨a, c, rfl, hs5.le hb'.size, hb5, Below.chain hb5 hb'⟩
            have HCA := Lib.hid (HRW.out W.drew (Below.refl _ _).drew)
            have HCB := Lib.hid (HRW.out (W.alloc (.cells #[.int .i64 q.id] 3)).drew (Below.chainAlloc (Below.refl _ _) _).drew)
            have HKB := Lib.hid (fun (w' : World) (hb' : Below W.heap.size W w') => And.intro (HK7.out.1.below hb' HK7.out.1.lt) (HK7.out.2.2.2.below hb' HK7.out.2.2.2.lt))
            have hq1 : rest.length + 1 ≤ maxLen ∧ (rest.length + 1) * 8 ≤ 140737488355328 := by
              have h1 := HOK.out.rlen
              rw [HF.out.r, List.length_cons] at h1
              unfold maxLen
              omega
            have HQ := Lib.hid hq1
            clear hq1
            obtain ⟨n0, ni, nz0, nz1, nz2⟩ := info_parts infoIntD
            have k0 := HK7.out.1
            have k3 := HK7.out.2.2.2
            obtain ⟨Xs, Ys, Zs⟩ := k0.facts
            have s0 := Xs 0
            have s1 := Xs 1
            have s2 := Xs 2
            have fs0 := Ys 0
            have fs1 := Ys 1
            have fs2 := Ys 2
            obtain ⟨Xq, Yq, Zq⟩ := k3.facts
            have q0 := Xq 0
            have q1 := Xq 1
            have q2 := Xq 2
            have q3 := Xq 3
            have q4 := Xq 4
            have fq0 := Yq 0
            have fq1 := Yq 1
            have fq2 := Yq 2
            have fq3 := Yq 3
            have fq4 := Yq 4
            clear k0 Xs Ys k3 Xq Yq
            go_cut [5] (fun v5 wx => v5 = .int .i64 (i : Nat) ∧ RndPost W w.heap.size T.quantum (.slice a6 T.qs.length c6) (rest ++ [q.id]) wx)
            case first =>
              go_region_law (first
                | (refine step_append_seg _ rfl (.tmp 53) (.tmp 56) 29 rfl W.heap.size 3 n0 _ 1 8 Try.underlying29 ni nz0 nz1 nz2 rfl (by decide) (.slice a5 rest.length c5) rest.length (iv rest) rfl (by first | exact hs5 | exact hs5.alloc _) _ 1 1 [.int .i64 q.id] rfl rfl (by first | exact cells_blk kn | exact cells_new _ _ _) (by simp [Value.oneCell']) (by decide) HQ.out.1 HQ.out.2 (by first | exact hbW.size | (rw [size_alloc]; exact Nat.le_succ_of_le hbW.size)) _ rfl ?_; intro g6 o6 c9 w9 hs6 hgrow6 hat6; have hb6 : Below W.heap.size W w9 := (by first | exact (Only.grown (S := []) (Only.of_below hbW) hgrow6 (fun x hx => .inr (hs5.blk x hx).1)).nil | exact (Only.grown (S := []) ((Only.of_below hbW).alloc _) hgrow6 (fun x hx => .inr (hs5.blk x hx).1)).nil); have KG := HKB.out _ hb6; have t2 := KG.1.facts.1 2; have ft2 := KG.1.facts.2.1 2; clear KG)
                | (go_simp; go_at_call 81; with_reducible refine HCA.out.mono ?_; rintro e w5 ⟨a5, c5, rfl, hs5, hb5, hbW⟩; have KF := HKB.out _ hbW; have i0 := KF.2.facts.1 0; have s2 := KF.1.facts.1 2; have fs2 := KF.1.facts.2.1 2; clear KF)
                | (go_simp; go_at_call 81; with_reducible refine HCB.out.mono ?_; rintro e w5 ⟨a5, c5, rfl, hs5, hb5, hbW⟩; have KF := HKB.out _ hbW; have kn := Blk.below (Blk.new W #[.int .i64 q.id] 3).drew hb5 (by simp); have i0 := KF.2.facts.1 0; have s2 := KF.1.facts.1 2; have fs2 := KF.1.facts.2.1 2; clear KF))
              all_goals
                go_wp2_with fail
                go_meet
                exact ⟨rfl, rnd_fin' HK7.out.1 hb6 hs6⟩
            case rest =>
              obtain ⟨rfl, a8, c8, hk0, ho, hs8⟩ := hcut
              obtain ⟨wt, rfl⟩ : ∃ wt, wt = wc := ⟨_, rfl⟩
              have hb3 : w.heap.size + 3 ≤ b3 := HSB.out
              have hk1 := HK7.out.2.1.only ho (by simp)
              have hk2 := HK7.out.2.2.1.only ho (by simp; omega)
              have hbt := Below.only HB7.out ho (by simp)
              have hd8 := HD7.out.keepS HK7.out.1 ho
              have hDlt : (servP T.quantum q).deficit < x.2 := by rw [HDD.out]; exact HD.out
              have hqs : T.qs.set i ⟨q.id, q.weight, D, false, x :: xs⟩ = (turnP T q rest).qs := by
                have e : ({ servP T.quantum q with served := false } : PQ) = ⟨q.id, q.weight, D, false, x :: xs⟩ := by
                  rw [← HF.out.i, ← HSVI.out.2.1, ← HDD.out, ← HSVI.out.2.2]
                  show PQ.mk (servP T.quantum q).id _ _ _ _ = _
                  rw [HSVI.out.1]
                show _ = putQ _ T.qs
                rw [e, putQ_set T.qs i HI.out.1 HOK.out.nd (by rw [HI.out.2])]
              have hnew : RNx w ls0 S (sumQ muQ (turnP T q rest).qs) wt (turnP T q rest) a6 c6 a8 c8 (ls.set i (.slice (some ⟨gi, offi, none⟩) (xs.length + 1) ci)) := by
                have hql : (turnP T q rest).qs.length = T.qs.length := by rw [← hqs, List.length_set]
                refine ⟨Nat.le_refl _, .snoc HR.out.t HF.out hDlt, ?_, ?_, hbt, hk1, hk2, fun v hv y hy => ?_, HR.out.sub.set i (fun y hy => ?_)⟩
                · rw [hql]; exact hk0
                · refine DocR.mk' ?_ ?_ (hs8.le (Nat.zero_le _))
                  · rw [← hqs]; exact hd8.it
                  · have := hd8.2.1
                    rw [List.length_set] at this
                    rw [hql, ← hqs]
                    exact this
                · rcases List.mem_or_eq_of_mem_set hv with hv | rfl
                  · exact HR.out.nb v hv y hy
                  · obtain rfl : gi = y := by simpa [Value.ownBlock] using hy
                    exact HNBi.out
                · obtain rfl : gi = y := by simpa [Value.ownBlock] using hy
                  exact HSBi.out
              have HN9 := Lib.hid hnew
              have HMU := Lib.hid (turnP_mu HOK.out HF.out hDlt)
              clear hk1 hk2 hbt hd8 hDlt hqs hnew hb3 hk0 ho hs8
              go_wp2_with fail
              go_roundg (sumQ muQ (turnP T q rest).qs)
              case measure => have := HMU.out; have := HR.out.mu; omega
              case rel => exact ⟨_, _, _, _, _, _, HN9⟩
          · have HD := Lib.hid hd
            go_upto_region 7 with fail
            go_region
            go_upto_region 12 with fail
            have hb3 : w.heap.size + 3 ≤ b3 := HSB.out
            have HK5 := Lib.hid (And.intro (HK4.out.1.alloc (.cells #[.int .i64 x.1, .int .i64 x.2] 35)).drew (And.intro (HK4.out.2.1.alloc (.cells #[.int .i64 x.1, .int .i64 x.2] 35)).drew (And.intro (HK4.out.2.2.1.alloc (.cells #[.int .i64 x.1, .int .i64 x.2] 35)).drew (And.intro (HK4.out.2.2.2.alloc (.cells #[.int .i64 x.1, .int .i64 x.2] 35)).drew (Blk.new w4 #[.int .i64 x.1, .int .i64 x.2] 35).drew))))
            have HB5 := Lib.hid (Below.chainAlloc HB4.out (.cells #[.int .i64 x.1, .int .i64 x.2] 35)).drew
            have HBA5 : Hid (Below b3 wa (w4.alloc (.cells #[.int .i64 x.1, .int .i64 x.2] 35)).drew) := Lib.hid (by
              have h := (Below.chainAlloc HBA4.out (.cells #[.int .i64 x.1, .int .i64 x.2] 35)).drew
              rw [HE3.out] at h
              exact h)
            have HBX : Hid (b3 < w4.heap.size) := Lib.hid HK4.out.2.2.2.lt
            clear j0 j1 hxl1 Zq q0 q1 q2 q3 q4 fq0 fq1 fq2 fq3 fq4 hb3 HBA4 HK4 HIT4 HB4
            generalize (w4.alloc (.cells #[.int .i64 x.1, .int .i64 x.2] 35)).drew = W5 at *
            generalize w4.heap.size = bx at *
            have hdw : wrap64 (D - x.2) = D - x.2 := by
              have h1 := servP_df HOK.out.qm HQOK.out
              rw [HDD.out] at h1
              have h2 := HQOK.out.it x (by rw [HF.out.i]; exact List.mem_cons_self)
              exact IntWalk.wrap64_in _ (by omega)
            have k3 := HK5.out.2.2.2.1
            have k4 := HK5.out.2.2.2.2
            obtain ⟨Xq, Yq, Zq⟩ := k3.facts
            have q0 := Xq 0
            have q1 := Xq 1
            have q2 := Xq 2
            have q3 := Xq 3
            have q4 := Xq 4
            have fq0 := Yq 0
            have fq1 := Yq 1
            have fq2 := Yq 2
            have fq3 := Yq 3
            have fq4 := Yq 4
            obtain ⟨Xx, Yx, Zx⟩ := k4.facts
            have x0 := Xx 0
            have x1 := Xx 1
            have fx0 := Yx 0
            have fx1 := Yx 1
            clear k3 Xq Yq k4 Xx Yx
            go_upto_region 13 with fail
            clear hdw
            have hb3 : w.heap.size + 3 ≤ b3 := HSB.out
            have hbx : b3 < bx := HBX.out
            have HK6 := Lib.hid (And.intro (HK5.out.1.setOther ⟨b3, 2, none⟩ (.int .i64 (D - x.2)) (by simp; omega)) (And.intro (HK5.out.2.1.setOther ⟨b3, 2, none⟩ (.int .i64 (D - x.2)) (by simp; omega)) (And.intro (HK5.out.2.2.1.setOther ⟨b3, 2, none⟩ (.int .i64 (D - x.2)) (by simp; omega)) (And.intro (HK5.out.2.2.2.1.setAt 2 (.int .i64 (D - x.2)) rfl) (HK5.out.2.2.2.2.setOther ⟨b3, 2, none⟩ (.int .i64 (D - x.2)) (by simp; omega))))))
            have HB6 := Lib.hid (HB5.out.setCell (p := ⟨b3, 2, none⟩) (by show w.heap.size ≤ b3; omega) (.int .i64 (D - x.2)))
            have HBA6 := Lib.hid (HBA5.out.setCell (p := ⟨b3, 2, none⟩) (Nat.le_refl b3) (.int .i64 (D - x.2)))
            clear hb3 hbx HK5 HB5 HBA5 Zq q0 fq0 q1 fq1 q2 fq2 q3 fq3 q4 fq4 Zx x0 fx0 x1 fx1
            generalize W5.setCell ⟨b3, 2, none⟩ (.int .i64 (D - x.2)) = W6 at *
            have k3 := HK6.out.2.2.2.1
            have k3a := Lib.hid k3
            obtain ⟨Xq, Yq, Zq⟩ := k3.facts
            have q0 := Xq 0
            have q1 := Xq 1
            have q2 := Xq 2
            have q3 := Xq 3
            have q4 := Xq 4
            have fq0 := Yq 0
            have fq1 := Yq 1
            have fq2 := Yq 2
            have fq3 := Yq 3
            have fq4 := Yq 4
            clear k3 Xq Yq
            have hci : xs.length + 1 ≤ ci := HCI.out
            have HIT6 : Hid (Seg W6 0 35 2 (.slice (some ⟨gi, offi, none⟩) (xs.length + 1) ci) (xs.length + 1) (itC (x :: xs))) := Lib.hid (HIT.out.chain (by rw [HE3.out]; exact HBA6.out))
            go_cut [5] (fun v5 wx => v5 = .int .i64 (i : Nat) ∧ ∃ off' c', Blk wx b3 #[.int .i64 q.id, .int .i64 q.weight, .int .i64 (D - x.2), .bool true, .slice (some ⟨gi, off', none⟩) xs.length c'] 107 ∧ Only [b3] W6 wx ∧ Seg wx 0 35 2 (.slice (some ⟨gi, off', none⟩) xs.length c') xs.length (itC xs))
            case first =>
              have hgb : gi < b3 := by have := HNBi.out; have := HSB.out; omega
              have hl1 : (1 : Int) ≤ (xs.length : Int) + 1 := by omega
              by_cases hc1 : ci = 1
              · subst hc1
                have hl0 : xs = [] := List.eq_nil_of_length_eq_zero (by omega)
                subst hl0
                have ht := Seg.tail (n := 0) HIT6.out offi (.inr ⟨rfl, rfl⟩)
                have HTL := Lib.hid ht
                have HGB := Lib.hid hgb
                clear ht hgb
                go_wp2_with fail
                go_meet
                exact ⟨rfl, offi, 0, k3a.out.setAt 4 _ rfl, (Only.refl _ _).setCell _ _ (.inl (by simp)), HTL.out.setOther _ _ (fun y hy e => by
                  obtain rfl : gi = y := by simpa [Value.ownBlock] using hy
                  have := HGB.out
                  simp at e
                  omega)⟩
              · have hc2 : (1 : Int) ≤ (ci : Int) := by omega
                have ht := Seg.tail (n := xs.length) HIT6.out (offi + 2) (.inl rfl)
                have HTL := Lib.hid ht
                have HGB := Lib.hid hgb
                clear ht hgb
                go_wp2_with fail
                go_meet
                exact ⟨rfl, offi + 2, ci - 1, k3a.out.setAt 4 _ rfl, (Only.refl _ _).setCell _ _ (.inl (by simp)), HTL.out.setOther _ _ (fun y hy e => by
                  obtain rfl : gi = y := by simpa [Value.ownBlock] using hy
                  have := HGB.out
                  simp at e
                  omega)⟩
            case rest =>
              obtain ⟨rfl, off', c', hk3, ho6, hs6⟩ := hcut
              obtain ⟨w7, rfl⟩ : ∃ w7, w7 = wc := ⟨_, rfl⟩
              have hb3 : w.heap.size + 3 ≤ b3 := HSB.out
              have hbx : b3 < bx := HBX.out
              have HK7 := Lib.hid (And.intro (HK6.out.1.only ho6 (by simp; omega)) (And.intro (HK6.out.2.1.only ho6 (by simp; omega)) (And.intro (HK6.out.2.2.1.only ho6 (by simp; omega)) (And.intro hk3 (HK6.out.2.2.2.2.only ho6 (by simp; omega))))))
              have HB7 := Lib.hid (Below.only HB6.out ho6 (by simp; omega))
              have HBA7 : Hid (Below b3 wa w7) := Lib.hid (by
                have h := HBA6.out
                rw [← HE3.out] at h ⊢
                exact Below.only h ho6 (by rw [HE3.out]; simp))
              have HIT7 := Lib.hid hs6
              have HD7 := Lib.hid (HDa.out.chain (by rw [HE3.out]; exact HBA7.out))
              clear hb3 hbx HK6 HB6 HBA6 HIT6 hk3 ho6 hs6 Zq q0 fq0 q1 fq1 q2 fq2 q3 fq3 q4 fq4
              obtain ⟨R, hR⟩ : ∃ R, (if xs = [] then rest else T.round) = R := ⟨_, rfl⟩
              obtain ⟨DN, hDN⟩ : ∃ DN, (if xs = [] then (0 : Int) else D - x.2) = DN := ⟨_, rfl⟩
              have HRR := Lib.hid hR
              have HDN := Lib.hid hDN
              clear hR hDN
              have k0 := HK7.out.1
              have k3 := HK7.out.2.2.2.1
              obtain ⟨Xs, Ys, Zs⟩ := k0.facts
              have s0 := Xs 0
              have s1 := Xs 1
              have s2 := Xs 2
              have fs0 := Ys 0
              have fs1 := Ys 1
              have fs2 := Ys 2
              obtain ⟨Xq, Yq, Zq⟩ := k3.facts
              have q0 := Xq 0
              have q1 := Xq 1
              have q2 := Xq 2
              have q3 := Xq 3
              have q4 := Xq 4
              have fq0 := Yq 0
              have fq1 := Yq 1
              have fq2 := Yq 2
              have fq3 := Yq 3
              have fq4 := Yq 4
              clear k0 Xs Ys k3 Xq Yq
              go_upto_if 76 with fail
              go_cut [5] (fun v5 wx => v5 = .int .i64 (i : Nat) ∧ ∃ ra' rc', Blk wx w.heap.size #[.int .i64 T.quantum, .slice (some ⟨g, off, none⟩) T.qs.length qc, .slice ra' R.length rc'] 31 ∧ Blk wx b3 #[.int .i64 q.id, .int .i64 q.weight, .int .i64 DN, .bool true, .slice (some ⟨gi, off', none⟩) xs.length c'] 107 ∧ DocR wx (.slice (some ⟨g, off, none⟩) T.qs.length qc) (.slice ra' R.length rc') ls { T with round := R } ∧ Only [w.heap.size, b3] w7 wx)
              case first =>
                by_cases hxs : xs = []
                · have hl0 : (((xs.length : Nat) : Int) == 0) = true := by rw [hxs]; rfl
                  have eR : R = rest := by rw [← HRR.out, if_pos hxs]
                  have eD : DN = 0 := by rw [← HDN.out, if_pos hxs]
                  subst eR
                  subst eD
                  clear hxs
                  have hb3 : w.heap.size + 3 ≤ b3 := HSB.out
                  have HK8 := Lib.hid (And.intro (HK7.out.1.setOther ⟨b3, 2, none⟩ (.int .i64 0) (by simp; omega)) (HK7.out.2.2.2.1.setAt 2 (.int .i64 0) rfl))
                  have hba8 : Below wa.heap.size wa (w7.setCell ⟨b3, 2, none⟩ (.int .i64 0)) := by
                    rw [HE3.out]
                    exact HBA7.out.setCell (p := ⟨b3, 2, none⟩) (Nat.le_refl b3) _
                  have HD8 := Lib.hid (HDa.out.chain hba8)
                  have HO8 : Hid (Only [w.heap.size, b3] w7 (w7.setCell ⟨b3, 2, none⟩ (.int .i64 0))) := Lib.hid ((Only.refl _ _).setCell _ _ (.inl (by simp)))
                  have HWO : Hid (wo q.id T.round = R) := Lib.hid (by
                    have h1 := HOK.out.rn
                    rw [HF.out.r] at h1 ⊢
                    exact wo_head h1)
                  have HRW := Lib.hid (rwo_any q.id (w7.setCell ⟨b3, 2, none⟩ (.int .i64 0)) HD8.out.2.2.2 (Nat.le_trans HOK.out.rlen (by decide)))
                  clear hb3 hba8
                  go_wp2_with fail
                  generalize w7.setCell ⟨b3, 2, none⟩ (.int .i64 0) = W8 at *
                  refine HRW.out.mono ?_
                  rintro e w9 ⟨v9, rfl, hs9, hb9⟩
                  rw [HWO.out] at hs9
                  obtain ⟨a9, c9, rfl⟩ := hs9.form
                  have HS9 := Lib.hid hs9
                  have HK9 := Lib.hid (And.intro (HK8.out.1.below hb9 HK8.out.1.lt) (HK8.out.2.below hb9 HK8.out.2.lt))
                  have HD9 := Lib.hid (HD8.out.chain hb9)
                  have HO9 := Lib.hid (HO8.out.trans (Only.of_below hb9))
                  have HB9 : Hid (w.heap.size < b3) := Lib.hid (by have := HSB.out; omega)
                  clear hs9 hb9 HRW HK8 HD8 HO8 Zs s0 fs0 s1 fs1 s2 fs2 Zq q0 fq0 q1 fq1 q2 fq2 q3 fq3 q4 fq4
                  have k0 := HK9.out.1
                  have k3 := HK9.out.2
                  obtain ⟨Xs, Ys, Zs⟩ := k0.facts
                  have s0 := Xs 0
                  have s1 := Xs 1
                  have s2 := Xs 2
                  have fs0 := Ys 0
                  have fs1 := Ys 1
                  have fs2 := Ys 2
                  obtain ⟨Xq, Yq, Zq⟩ := k3.facts
                  have q0 := Xq 0
                  have q1 := Xq 1
                  have q2 := Xq 2
                  have q3 := Xq 3
                  have q4 := Xq 4
                  have fq0 := Yq 0
                  have fq1 := Yq 1
                  have fq2 := Yq 2
                  have fq3 := Yq 3
                  have fq4 := Yq 4
                  clear k0 Xs Ys k3 Xq Yq
                  go_wp2_with fail
                  go_meet
                  have hO := (Only.refl [w.heap.size] w9).setCell ⟨w.heap.size, 2, none⟩ (.slice a9 R.length c9) (.inl (by simp))
                  have hd := HD9.out.keepS HK9.out.1 hO
                  exact ⟨rfl, a9, c9, HK9.out.1.setAt 2 _ rfl, HK9.out.2.setOther _ _ (by have := HB9.out; simp; omega), DocR.mk' hd.it hd.2.1 ((HS9.out.le (Nat.zero_le _)).setOther _ _ (HS9.out.ne_blk HK9.out.1 (by decide))), HO9.out.setCell _ _ (.inl (by simp))⟩
                · have hl0 : (((xs.length : Nat) : Int) == 0) = false := by
                    cases h : xs with
                    | nil => exact absurd h hxs
                    | cons a l => simp; omega
                  have eR : R = T.round := by rw [← HRR.out, if_neg hxs]
                  have eD : DN = D - x.2 := by rw [← HDN.out, if_neg hxs]
                  subst eD
                  subst eR
                  clear hxs
                  go_wp2_with fail
                  go_meet
                  exact ⟨rfl, _, _, HK7.out.1, HK7.out.2.2.2.1, HD7.out, Only.refl _ _⟩
              case rest =>
                obtain ⟨rfl, ra', rc', hk0, hk3, hd10, ho10⟩ := hcut
                obtain ⟨w10, rfl⟩ : ∃ w10, w10 = wc := ⟨_, rfl⟩
                have hb3 : w.heap.size + 3 ≤ b3 := HSB.out
                have hbx : b3 < bx := HBX.out
                have HK10 := Lib.hid (And.intro hk0 (And.intro (HK7.out.2.1.only ho10 (by simp; omega)) (And.intro (HK7.out.2.2.1.only ho10 (by simp; omega)) (And.intro hk3 (HK7.out.2.2.2.2.only ho10 (by simp; omega))))))
                have HB10 := Lib.hid (Below.only HB7.out ho10 (by simp; omega))
                have hit10 := HIT7.out.only ho10 (fun y hy hm => by
                  obtain rfl : gi = y := by simpa [Value.ownBlock] using hy
                  have := HNBi.out
                  simp at hm
                  omega)
                have HSET : Hid (Calls Try.prog 82 #[.agg #[.int .i64 T.quantum, .slice (some ⟨g, off, none⟩) T.qs.length qc, .slice ra' R.length rc'], .int .i64 (i : Nat), .agg #[.int .i64 q.id, .int .i64 q.weight, .int .i64 DN, .bool true, .slice (some ⟨gi, off', none⟩) xs.length c']] w10.drew fun e w11 => ∃ a6 c6, e = .returned (.agg #[.int .i64 T.quantum, .slice a6 T.qs.length c6, .slice ra' R.length rc']) ∧ DocR w11 (.slice a6 T.qs.length c6) (.slice ra' R.length rc') (ls.set i (.slice (some ⟨gi, off', none⟩) xs.length c')) (PS.mk T.quantum (T.qs.set i ⟨q.id, q.weight, DN, true, xs⟩) R) ∧ Below w10.heap.size w10 w11) := Lib.hid (by
                  refine (rset_any i ⟨q.id, q.weight, DN, true, xs⟩ (.slice (some ⟨gi, off', none⟩) xs.length c') w10.drew hd10 HI.out.1 hit10 (Nat.le_trans HOK.out.qlen (by decide))).mono ?_
                  rintro e w11 ⟨qv6, rfl, hd6, hb6⟩
                  have hb11 := Below.chain hb6 (Below.refl _ w10).drew
                  obtain ⟨a6, c6, rfl⟩ := hd6.2.1.form
                  have e1 : (PS.mk T.quantum (T.qs.set i ⟨q.id, q.weight, DN, true, xs⟩) R).qs.length = T.qs.length := List.length_set
                  refine ⟨a6, c6, ?_, ?_, hb11⟩
                  · rw [← e1]; rfl
                  · rw [← e1]; exact hd6)
                have hKK : ∀ w', Below w10.heap.size w10 w' → Blk w' (w.heap.size + 1) #[.int .i64 0, .slice none 0 0, .slice none 0 0] 31 ∧ Blk w' (w.heap.size + 1 + 1) #[.int .i64 0, .int .i64 0] 35 ∧ Blk w' bx #[.int .i64 x.1, .int .i64 x.2] 35 := fun w' hb' => ⟨HK10.out.2.1.below hb' HK10.out.2.1.lt, HK10.out.2.2.1.below hb' HK10.out.2.2.1.lt, HK10.out.2.2.2.2.below hb' HK10.out.2.2.2.2.lt⟩
                have HKK := Lib.hid hKK
                clear hKK hb3 hbx hk0 hk3 ho10 hit10 hd10 Zs s0 fs0 s1 fs1 s2 fs2 Zq q0 fq0 q1 fq1 q2 fq2 q3 fq3 q4 fq4
                have k0 := HK10.out.1
                have k1 := HK10.out.2.1
                have k2 := HK10.out.2.2.1
                have k3 := HK10.out.2.2.2.1
                have k4 := HK10.out.2.2.2.2
                obtain ⟨Xs, Ys, Zs⟩ := k0.facts
                have s0 := Xs 0
                have s1 := Xs 1
                have s2 := Xs 2
                have fs0 := Ys 0
                have fs1 := Ys 1
                have fs2 := Ys 2
                obtain ⟨Xr, Yr, Zr⟩ := k1.facts
                have r0 := Xr 0
                have r1 := Xr 1
                have r2 := Xr 2
                have fr0 := Yr 0
                have fr1 := Yr 1
                have fr2 := Yr 2
                obtain ⟨Xi, Yi, Zi⟩ := k2.facts
                have i0 := Xi 0
                have i1 := Xi 1
                have fi0 := Yi 0
                have fi1 := Yi 1
                obtain ⟨Xq, Yq, Zq⟩ := k3.facts
                have q0 := Xq 0
                have q1 := Xq 1
                have q2 := Xq 2
                have q3 := Xq 3
                have q4 := Xq 4
                have fq0 := Yq 0
                have fq1 := Yq 1
                have fq2 := Yq 2
                have fq3 := Yq 3
                have fq4 := Yq 4
                obtain ⟨Xx, Yx, Zx⟩ := k4.facts
                have x0 := Xx 0
                have x1 := Xx 1
                have fx0 := Yx 0
                have fx1 := Yx 1
                clear k0 Xs Ys k1 Xr Yr k2 Xi Yi k3 Xq Yq k4 Xx Yx
                have hbx : w.heap.size + 1 + 1 < bx := by have h1 := HSB.out; have h2 := HBX.out; omega
                have ne1 : ¬ bx = w.heap.size + 1 := by omega
                have ne2 : ¬ w.heap.size + 1 = bx := by omega
                have ne3 : ¬ bx = w.heap.size + 1 + 1 := by omega
                have ne4 : ¬ w.heap.size + 1 + 1 = bx := by omega
                clear hbx
                have HFIN : Hid (∀ a6 c6 w11 (wx : World), DocR w11 (.slice a6 T.qs.length c6) (.slice ra' R.length rc') (ls.set i (.slice (some ⟨gi, off', none⟩) xs.length c')) (PS.mk T.quantum (T.qs.set i ⟨q.id, q.weight, DN, true, xs⟩) R) → Below w10.heap.size w10 w11 → Only [w.heap.size + 1, w.heap.size + 1 + 1] w11 wx → RNextPost w ls0 S (.returned (.tuple #[.agg #[.int .i64 T.quantum, .slice a6 T.qs.length c6, .slice ra' R.length rc'], .agg #[.int .i64 x.1, .int .i64 x.2], .bool true])) wx) := Lib.hid fun a6 c6 w11 wx hd11 hb11 ho11 => by
                  have hDle : x.2 ≤ (servP T.quantum q).deficit := by rw [HDD.out]; exact Int.not_lt.1 HD.out
                  have hPS : PS.mk T.quantum (T.qs.set i ⟨q.id, q.weight, DN, true, xs⟩) R = takeP T q rest x xs := by
                    have e : takeQ T.quantum q x xs = ⟨q.id, q.weight, DN, true, xs⟩ := by
                      rw [← HDN.out, ← HDD.out]
                      unfold takeQ
                      by_cases h0 : xs = []
                      · rw [if_pos h0, if_pos h0]
                        show PQ.mk (servP T.quantum q).id (servP T.quantum q).weight _ (servP T.quantum q).served _ = _
                        rw [servP_id, servP_weight, servP_served]
                      · rw [if_neg h0, if_neg h0]
                        show PQ.mk (servP T.quantum q).id (servP T.quantum q).weight _ (servP T.quantum q).served _ = _
                        rw [servP_id, servP_weight, servP_served]
                    unfold takeP
                    rw [e, HRR.out, putQ_set T.qs i HI.out.1 HOK.out.nd (by rw [HI.out.2])]
                  rw [hPS] at hd11
                  have hlen : (takeP T q rest x xs).qs.length = T.qs.length := by rw [← hPS, List.length_set]
                  have hk := HKK.out w11 hb11
                  have hd := hd11.keep2 hk.1 hk.2.1 (B := w.heap.size) (fun v hv y hy => by
                    rcases List.mem_or_eq_of_mem_set hv with hv | rfl
                    · exact HR.out.nb v hv y hy
                    · obtain rfl : gi = y := by simpa [Value.ownBlock] using hy
                      exact HNBi.out) (Nat.le_succ_of_le (Nat.le_succ _)) ho11
                  exact ⟨_, _, _, .inr ⟨_, x, HR.out.t.next (HF.out.take hDle), rfl, hd⟩, HR.out.sub.set i (fun y hy => by
                    obtain rfl : gi = y := by simpa [Value.ownBlock] using hy
                    exact HSBi.out), Below.only (Below.chain hb11 HB10.out) ho11 (by simp; omega)⟩
                go_upto_region 17 with fail
                go_region_law ((go_simp; go_at_call 82; with_reducible refine HSET.out.mono ?_; rintro e w11 ⟨a6, c6, rfl, hd6, hb11⟩; have HD6 := Lib.hid (And.intro hd6 hb11); have KF := HKK.out _ hb11; have g0 := KF.1.facts.1 0; have g1 := KF.1.facts.1 1; have g2 := KF.1.facts.1 2; have fg0 := KF.1.facts.2.1 0; have fg1 := KF.1.facts.2.1 1; have fg2 := KF.1.facts.2.1 2; have h0 := KF.2.1.facts.1 0; have h1 := KF.2.1.facts.1 1; have fh0 := KF.2.1.facts.2.1 0; have fh1 := KF.2.1.facts.2.1 1; have y0 := KF.2.2.facts.1 0; have y1 := KF.2.2.facts.1 1; clear KF hd6 hb11))
                all_goals
                  go_wp2_with fail
                  try rw [Exit.noGoto_ret]
                  exact bodyPost_ret (v := .tuple #[.agg #[.int .i64 T.quantum, .slice a6 T.qs.length c6, .slice ra' R.length rc'], .agg #[.int .i64 x.1, .int .i64 x.2], .bool true]) (by simp [results, Try.results48, go_sem, g0, g1, g2, h0, h1]) rfl (HFIN.out a6 c6 w11 _ HD6.out.1 HD6.out.2 ((((((Only.refl _ _).setCell _ _ (.inl (by simp))).setCell _ _ (.inl (by simp))).setCell _ _ (.inl (by simp))).setCell _ _ (.inl (by simp))).setCell _ _ (.inl (by simp))))
end Go.Proofs.Ytgfbhclkpephnaa
