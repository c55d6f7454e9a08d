/-
  The table: a part's oldest entry (chapter 18).
-/
import Derived.Test.YtnommofekjiiaaaTa19
namespace Go.Proofs.Ytnommofekjiiaaa
open Go Go.RowKit Go.MuLone
set_option linter.unusedVariables false
set_option linter.unusedSimpArgs false
set_option maxRecDepth 100000
set_option maxHeartbeats 2000000
def doneE (e : TE) : Prop := e.need ≤ (e.l.length : Int)
instance (e : TE) : Decidable (doneE e) := by unfold doneE; infer_instance
/-- The oldest one so far, of the entries that were seen. -/
def OldI (seen all : TE → Prop) (k : Int × Int) (made : Nat) : Prop :=
  (made = 0 ∧ k = (0, 0) ∧ ∀ e, seen e → doneE e) ∨ (∃ e, all e ∧ ¬ doneE e ∧ made = e.made ∧ k = e.k ∧ 0 < made ∧ ∀ f, seen f → ¬ doneE f → e.made ≤ f.made)
theorem OldI.old {seen seen' all : TE → Prop} {k : Int × Int} {made : Nat} (h : OldI seen all k made) (e : TE) (hs : ∀ f, seen' f → seen f ∨ f = e) (hd : doneE e ∨ (0 < made ∧ made ≤ e.made)) : OldI seen' all k made := by
  rcases h with ⟨h1, h2, h3⟩ | ⟨g, h1, h2, h3, h4, h6, h5⟩
  · refine .inl ⟨h1, h2, fun f hf => ?_⟩
    rcases hs f hf with h | rfl
    · exact h3 f h
    · rcases hd with hd | hd
      · exact hd
      · omega
  · refine .inr ⟨g, h1, h2, h3, h4, h6, fun f hf hn => ?_⟩
    rcases hs f hf with h | rfl
    · exact h5 f h hn
    · rcases hd with hd | hd
      · exact absurd hd hn
      · omega
theorem OldI.new {seen seen' all : TE → Prop} {k : Int × Int} {made : Nat} (h : OldI seen all k made) (e : TE) (he : all e) (he0 : 0 < e.made) (hs : ∀ f, seen' f → seen f ∨ f = e) (hd : ¬ doneE e) (hm : made = 0 ∨ e.made < made) : OldI seen' all e.k e.made := by
  refine .inr ⟨e, he, hd, rfl, rfl, he0, fun f hf hn => ?_⟩
  rcases hs f hf with hf | rfl
  · rcases h with ⟨h1, h2, h3⟩ | ⟨g, h1, h2, h3, h4, h6, h5⟩
    · exact absurd (h3 f hf) hn
    · have := h5 f hf hn
      have := (hm : made = 0 ∨ e.made < made)
      rcases this with h0 | h0
      · omega
      · omega
  · exact Nat.le_refl _
def PartE (P j : Nat) (es : List TE) (e : TE) : Prop := e ∈ es ∧ partOf P e.k = j
theorem TabM.turn {base b0 : Nat} {K : List (Option TypeId)} {w w' : World} {bt : Nat} {s : TS} {hd : Option Nat} (h : TabM base w bt s hd) (ht : Turn b0 K w w') (h1 : some 61 ∉ K) (h2 : some 62 ∉ K) (h3 : some 65 ∉ K) (h4 : none ∉ K) (h5 : some 88 ∉ K) (h6 : some 32 ∉ K) : TabM base w' bt s hd :=
  ⟨ht.blk h.tb h1, h.lo, ht.seg h.pa h2, fun j p hp => ⟨ht.blk (h.pc j p hp).1 h3, (h.pc j p hp).2⟩, fun j p hp => ⟨ht.map (h.pm j p hp).1 h4, (h.pm j p hp).2⟩, h.n1, h.n2, fun e he => ⟨ht.blk (h.pe e he).b h5, ht.seg (h.pe e he).s h6, (h.pe e he).lo⟩, h.en⟩
theorem Turn.fresh {base : Nat} {K : List (Option TypeId)} {a b c : World} {x : Nat} (h : Turn base K a b) (k : Only [x] b c) (hx : a.heap.size ≤ x) : Turn base K a c := by
  obtain ⟨S, h1, h2⟩ := h
  exact ⟨S, h1.trans' k (fun y hy => .inr (by rw [List.mem_singleton.1 hy]; exact hx)), h2⟩
theorem only_two (w : World) (b : Nat) (u v : Value) : Only [b] w ((w.setCell ⟨b, 0, none⟩ u).setCell ⟨b, 1, none⟩ v) := ((Only.refl _ _).setCell _ _ (.inl (by simp))).setCell _ _ (.inl (by simp))
theorem oldest_part (base bt : Nat) (s : TS) (j : Nat) (p : Nat × Nat) (w : World) (h : TabM base w bt s none) (ok : TOk s) (hp : s.ps[j]? = some p) :
    Calls Try.prog 20 #[ptr p.1] w fun r w' => ∃ k made, r = .returned (.tuple #[encK k, .int .i64 (made : Nat)]) ∧ OldI (PartE s.ps.length j s.es) (PartE s.ps.length j s.es) k made ∧ TabM base w' bt s none ∧ Turn base KT w w' := by
  have HP := Lib.hid hp
  have HOK := Lib.hid ok
  have HBW := Lib.hid (Below.chainAlloc (Below.refl _ w) (.cells #[.int .i64 0, .int .u32 0] 35))
  have hT0 := h.chain HBW.out
  have HBO : Hid (Blk (w.alloc (.cells #[.int .i64 0, .int .u32 0] 35)) w.heap.size #[.int .i64 0, .int .u32 0] 35) := Lib.hid (Blk.new w _ _)
  generalize hW0 : w.alloc (.cells #[.int .i64 0, .int .u32 0] 35) = W0 at *
  obtain ⟨hpc, hplo⟩ := hT0.pc _ _ hp
  have c0 : W0.cell? ⟨p.1, 0, none⟩ = some (.int .i32 0) := hpc.facts.1 0
  have f0 := hpc.facts.2.1 0
  have hpw : p.1 < w.heap.size := (h.pc _ _ hp).1.lt
  have hT1 := hT0.lock hp
  have HN1 : Hid (Turn base KT w (W0.setCell ⟨p.1, 0, none⟩ (.int .i32 1))) := Lib.hid ((Turn.of_below HBW.out).trans (Turn.one ((Only.refl _ _).setCell _ _ (.inl (by simp))) hplo hpc.kind (by simp)))
  have m2 : (W0.setCell ⟨p.1, 0, none⟩ (.int .i32 1)).cell? ⟨p.1, 2, none⟩ = some (.map (some p.2)) := (hT1.pc _ _ hp).1.facts.1 2
  have HBO1 : Hid (Blk (W0.setCell ⟨p.1, 0, none⟩ (.int .i32 1)) w.heap.size #[.int .i64 0, .int .u32 0] 35) := Lib.hid (HBO.out.setOther _ _ (by show w.heap.size ≠ p.1; omega))
  have HT1 := Lib.hid hT1
  clear h ok hp hT0 hpc hplo hT1 HBO
  go_enter_defers Try.func20, Try.ntmps20
  go_wp2_with fail
  refine (lock_free muLib ⟨p.1, 0, none⟩ _ c0 f0).mono ?_
  rintro r w2 ⟨rfl, rfl⟩
  generalize hw1 : W0.setCell ⟨p.1, 0, none⟩ (.int .i32 1) = w1 at *
  have hs1 : w.heap.size < w1.heap.size := HBO1.out.lt
  have HS1 := Lib.hid hs1
  have hmap := (HT1.out.pm _ _ HP.out).1.alloc (.cells #[.int .i64 0, .int .u32 0] 35)
  obtain ⟨W, hrange, hrng, hbW⟩ := hmap.range und63
  have hbo := Blk.new w1 #[.int .i64 0, .int .u32 0] 35
  have m3 : (w1.alloc (.cells #[.int .i64 0, .int .u32 0] 35)).cell? ⟨p.1, 2, none⟩ = some (.map (some p.2)) := ((HT1.out.pc _ _ HP.out).1.alloc _).facts.1 2
  have HST : Hid (OldI (fun e => PartE s.ps.length j s.es e ∧ e.mp ∉ inP s.ps.length s.es j) (PartE s.ps.length j s.es) (0, 0) 0 ∧ RngW encK W (w1.alloc (.cells #[.int .i64 0, .int .u32 0] 35)).heap.size p.2 (inP s.ps.length s.es j) (inP s.ps.length s.es j) ∧ Blk W w1.heap.size #[.int .i64 0, .int .u32 0] 35 ∧ Below w1.heap.size w1 W) := Lib.hid ⟨.inl ⟨rfl, rfl, fun e he => absurd (List.mem_map.2 ⟨e, List.mem_filter.2 ⟨he.1.1, decide_eq_true he.1.2⟩, rfl⟩) he.2⟩, hrng, hbo.below hbW hbo.lt, Below.chain hbW (Below.chainAlloc (Below.refl _ _) _)⟩
  clear hmap hrng hbW hbo m2
  generalize hbn : w1.heap.size = bo at *
  obtain ⟨r, hr⟩ : ∃ r, (w1.alloc (.cells #[.int .i64 0, .int .u32 0] 35)).heap.size = r := ⟨_, rfl⟩
  have hr2 : r = bo + 1 := by rw [← hr, size_alloc, hbn]
  rw [hr] at hrange HST
  clear hr
  subst hr2
  go_wp2_with fail
  go_loopg [5] (inP s.ps.length s.es j).length (fun gk v wr => ∃ (rest : List KV) (k : Int × Int) (made : Nat), rest.length ≤ gk ∧ v = .int .i64 (made : Int) ∧
    Hid (OldI (fun e => PartE s.ps.length j s.es e ∧ e.mp ∉ rest) (PartE s.ps.length j s.es) k made ∧ RngW encK wr (bo + 1) p.2 (inP s.ps.length s.es j) rest ∧ Blk wr bo #[.int .i64 k.1, .int .u32 k.2] 35 ∧ Below bo w1 wr))
  case atStart => exact ⟨_, (0, 0), 0, Nat.le_refl _, rfl, HST⟩
  case round =>
    clear HST hrange m3 c0 f0
    obtain ⟨rest, k, made, hrl, rfl, HREL⟩ := hrel
    rcases HREL.out.2.1.next keyLaw with ⟨h0, hrun⟩ | ⟨q, hq, w2, hrun, hent, hrng2, ho, hpl⟩
    · subst h0
      have hT9 : TabM base wr bt s (some j) := HT1.out.chain (by rw [hbn]; exact HREL.out.2.2.2)
      have HT9 := Lib.hid hT9
      have HN9 : Hid (Turn base KT w wr) := Lib.hid (HN1.out.step (by rw [hbn]; exact HREL.out.2.2.2))
      have HOLD : Hid (OldI (PartE s.ps.length j s.es) (PartE s.ps.length j s.es) k made) := Lib.hid (by
        rcases HREL.out.1 with ⟨h1, h2, h3⟩ | ⟨g, h1, h2, h3, h4, h6, h5⟩
        · exact .inl ⟨h1, h2, fun f hf => h3 f ⟨hf, by simp⟩⟩
        · exact .inr ⟨g, h1, h2, h3, h4, h6, fun f hf hn => h5 f ⟨hf, by simp⟩ hn⟩)
      have hpc3 := (hT9.pc _ _ HP.out).1
      have HC3 : Hid (wr.cell? ⟨p.1, 0, none⟩ = some (.int .i32 1) ∧ wr.frozen? ⟨p.1, 0, none⟩ = false) := Lib.hid ⟨by have := hpc3.facts.1 0; simpa [partC, lockOf] using this, hpc3.facts.2.1 0⟩
      have HKB := Lib.hid HREL.out.2.2.1
      have ko0 := HKB.out.facts.1 0
      have ko1 := HKB.out.facts.1 1
      have HKR : Hid (Blk wr w.heap.size #[.int .i64 0, .int .u32 0] 35) := Lib.hid (HBO1.out.below HREL.out.2.2.2 (by have := HS1.out; omega))
      have kr0 := HKR.out.facts.1 0
      have kr1 := HKR.out.facts.1 1
      have fr0 := HKR.out.facts.2.1 0
      have fr1 := HKR.out.facts.2.1 1
      have HPNE : Hid (p.1 < w.heap.size) := Lib.hid hpw
      clear HREL hpc3 hT9
      go_wp2_with fail
      have hne : p.1 ≠ w.heap.size := by have := HPNE.out; omega
      have hks := (HKR.out.setAt 0 (.int .i64 k.1) rfl).setAt 1 (.int .u32 k.2) rfl
      have ho2 := only_two wr w.heap.size (.int .i64 k.1) (.int .u32 k.2)
      have hTs : TabM base ((wr.setCell ⟨w.heap.size, 0, none⟩ (.int .i64 k.1)).setCell ⟨w.heap.size, 1, none⟩ (.int .u32 k.2)) bt s (some j) := HT9.out.turn (Turn.one (base := 0) (K := [some 35]) ho2 (Nat.zero_le _) HKR.out.kind (by simp)) (by decide) (by decide) (by decide) (by decide) (by decide) (by decide)
      have hNs : Turn base KT w ((wr.setCell ⟨w.heap.size, 0, none⟩ (.int .i64 k.1)).setCell ⟨w.heap.size, 1, none⟩ (.int .u32 k.2)) := HN9.out.fresh ho2 (Nat.le_refl _)
      generalize (wr.setCell ⟨w.heap.size, 0, none⟩ (.int .i64 k.1)).setCell ⟨w.heap.size, 1, none⟩ (.int .u32 k.2) = ws at *
      have hpc4 := (hTs.pc _ _ HP.out).1
      refine leaves_cons (f := 23) (args := #[.pointer (some ⟨p.1, 0, none⟩)]) (by simp) (by simp [go_sem]) ?_
      refine (unlock_deferred muLib ⟨p.1, 0, none⟩ .returning _ ?_ ?_).mono ?_
      · have := hpc4.facts.1 0; simpa [partC, lockOf] using this
      · exact hpc4.facts.2.1 0
      rintro r u' w4 ⟨rfl, rfl, rfl⟩
      have hk4 := hks.setOther ⟨p.1, 0, none⟩ (.int .i32 0) (by show w.heap.size ≠ p.1; omega)
      have z0 := hk4.facts.1 0
      have z1 := hk4.facts.1 1
      have hT4 := hTs.unlock HP.out
      have hN4 : Turn base KT w (ws.setCell ⟨p.1, 0, none⟩ (.int .i32 0)) := hNs.trans (Turn.one (K := KT) ((Only.refl _ _).setCell ⟨p.1, 0, none⟩ (.int .i32 0) (.inl (by simp))) (hTs.pc _ _ HP.out).2 hpc4.kind (by simp))
      generalize ws.setCell ⟨p.1, 0, none⟩ (.int .i32 0) = w4 at *
      refine ⟨.tuple #[encK k, .int .i64 (made : Int)], by simp [results, Try.results20, go_sem, encK, z0, z1], k, made, rfl, HOLD.out, hT4, hN4⟩
    · obtain ⟨e, he, rfl⟩ := List.mem_map.1 hpl
      obtain ⟨he1, he2⟩ := List.mem_filter.1 he
      have hPE : PartE s.ps.length j s.es e := ⟨he1, of_decide_eq_true he2⟩
      have hlt : (delM e.k rest).length < rest.length := by
        unfold delM
        exact List.length_filter_lt_length_iff_exists.2 ⟨e.mp, hq, by simp [TE.mp]⟩
      have hseen : ∀ f, (PartE s.ps.length j s.es f ∧ f.mp ∉ delM e.k rest) → (PartE s.ps.length j s.es f ∧ f.mp ∉ rest) ∨ f = e := fun f hf => by
        by_cases hfr : f.mp ∈ rest
        · right
          have hk : f.k = e.k := by
            by_cases hk : f.k = e.k
            · exact hk
            · exact absurd (List.mem_filter.2 ⟨hfr, by simp [TE.mp, hk]⟩) hf.2
          exact key_one HOK.out.kn he1 hf.1.1 hk
        · exact .inl ⟨hf.1, hfr⟩
      have hB2 : Below bo w1 w2 := by
        have h1 := HREL.out.2.2.2
        rw [← hbn] at h1 ⊢
        exact Below.only h1 ho (fun y hy => by rw [List.mem_singleton.1 hy, hbn]; omega)
      have HLT := Lib.hid hlt
      have HSEEN := Lib.hid hseen
      have HPE := Lib.hid hPE
      have HR2 := Lib.hid hrng2
      have HI := Lib.hid HREL.out.1
      have HB2 := Lib.hid hB2
      have HE2 : Hid (EntM w2 base e) := Lib.hid ((HT1.out.chain (by rw [hbn]; exact hB2)).pe e he1)
      have HO2 : Hid (Blk w2 bo #[.int .i64 k.1, .int .u32 k.2] 35) := Lib.hid (HREL.out.2.2.1.only ho (by simp))
      have HMB : Hid (0 < e.made) := Lib.hid (HOK.out.mb e he1).1
      have HS2 : Hid (bo + 1 < w2.heap.size) := Lib.hid hrng2.lt
      clear hpl he he1 he2 hPE hlt hseen hB2 hq hrng2 ho HREL
      unfold TE.mp encK at hrun hent
      dsimp only at hrun hent
      have HBK := Lib.hid (Below.chainAlloc (Below.refl _ w2) (.cells #[.int .i64 e.k.1, .int .u32 e.k.2] 35))
      have HKB : Hid (Blk (w2.alloc (.cells #[.int .i64 e.k.1, .int .u32 e.k.2] 35)) w2.heap.size #[.int .i64 e.k.1, .int .u32 e.k.2] 35) := Lib.hid (Blk.new w2 _ _)
      have HDN := Lib.hid (done_any e base _ (HE2.out.chain HBK.out))
      by_cases hd : e.need ≤ (e.l.length : Int)
      · rw [decide_eq_true hd] at HDN
        have HD := Lib.hid hd
        clear hd
        go_wp2_with fail
        refine HDN.out.mono ?_
        rintro r w3 ⟨rfl, hb3⟩
        have HB3 := Lib.hid (Below.chain hb3 HBK.out)
        clear hb3
        go_wp2_with fail
        go_roundg (delM e.k rest).length
        case measure => have := HLT.out; omega
        case rel => exact ⟨delM e.k rest, k, made, Nat.le_refl _, rfl, Lib.hid ⟨HI.out.old e HSEEN.out (.inl HD.out), HR2.out.chain HB3.out, HO2.out.below HB3.out HO2.out.lt, by rw [← hbn] at HB2 ⊢; exact Below.chain HB3.out HB2.out⟩⟩
      · rw [decide_eq_false hd] at HDN
        have HD := Lib.hid hd
        clear hd
        by_cases hm : made = 0 ∨ e.made < made
        · have HM := Lib.hid hm
          clear hm
          have hcase : made = 0 ∨ (¬ made = 0 ∧ e.made < made) := by have := HM.out; omega
          rcases hcase with h0 | ⟨h1, h2⟩
          · have hm0 : ((made : Int) == 0) = true := by rw [h0]; rfl
            clear h0
            go_wp2_with fail
            refine HDN.out.mono ?_
            rintro r w3 ⟨rfl, hb3⟩
            have HB3 := Lib.hid (Below.chain hb3 HBK.out)
            have e2 := (HE2.out.chain HB3.out).b.facts.1 2
            have kb := HKB.out.below hb3 HKB.out.lt
            have kb0 := kb.facts.1 0
            have kb1 := kb.facts.1 1
            have HO3 := Lib.hid (HO2.out.below HB3.out HO2.out.lt)
            have o0 := HO3.out.facts.1 0
            have o1 := HO3.out.facts.1 1
            have fo0 := HO3.out.facts.2.1 0
            have fo1 := HO3.out.facts.2.1 1
            have hne3 : w2.heap.size ≠ bo := by have := HS2.out; omega
            have hne4 : e.eb ≠ bo := by
              rintro rfl
              have h1 := (HE2.out.chain HB3.out).b.kind
              rw [HO3.out.kind] at h1
              exact absurd h1 (by decide)
            have HR3 := Lib.hid (HR2.out.chain HB3.out)
            have HBW : Hid (Below bo w1 w3) := Lib.hid (by have := HB2.out; rw [← hbn] at this ⊢; exact Below.chain HB3.out this)
            clear hb3 kb
            go_wp2_with fail
            go_region
            all_goals
              go_wp2_with fail
              have hos := only_two w3 bo (.int .i64 e.k.1) (.int .u32 e.k.2)
              have hBs : Below bo w1 ((w3.setCell ⟨bo, 0, none⟩ (.int .i64 e.k.1)).setCell ⟨bo, 1, none⟩ (.int .u32 e.k.2)) := by
                have h1 := HBW.out
                rw [← hbn] at h1 ⊢
                exact Below.only h1 (by rw [hbn]; exact hos) (fun y hy => by rw [List.mem_singleton.1 hy, hbn]; exact Nat.le_refl _)
              have HFIN : Hid (OldI (fun f => PartE s.ps.length j s.es f ∧ f.mp ∉ delM e.k rest) (PartE s.ps.length j s.es) e.k e.made ∧ RngW encK ((w3.setCell ⟨bo, 0, none⟩ (.int .i64 e.k.1)).setCell ⟨bo, 1, none⟩ (.int .u32 e.k.2)) (bo + 1) p.2 (inP s.ps.length s.es j) (delM e.k rest) ∧ Blk ((w3.setCell ⟨bo, 0, none⟩ (.int .i64 e.k.1)).setCell ⟨bo, 1, none⟩ (.int .u32 e.k.2)) bo #[.int .i64 e.k.1, .int .u32 e.k.2] 35 ∧ Below bo w1 ((w3.setCell ⟨bo, 0, none⟩ (.int .i64 e.k.1)).setCell ⟨bo, 1, none⟩ (.int .u32 e.k.2))) := Lib.hid
                ⟨HI.out.new e HPE.out HMB.out HSEEN.out (fun h9 => absurd (show e.need ≤ (e.l.length : Int) from h9) (by have h8 := HD.out; omega)) HM.out, HR3.out.only hos (by simp) (by have := (HT1.out.pm _ _ HP.out).1.lt; rw [hbn] at this; simp; omega), (HO3.out.setAt 0 _ rfl).setAt 1 _ rfl, hBs⟩
              clear hos hBs
              go_roundg (delM e.k rest).length
              case measure => have := HLT.out; omega
              case rel => exact ⟨delM e.k rest, e.k, e.made, Nat.le_refl _, rfl, Lib.hid ⟨HFIN.out.1, HFIN.out.2.1.chain (Below.refl _ _).drew, HFIN.out.2.2.1.drew, HFIN.out.2.2.2.drew⟩⟩
          · have hm1 : ((made : Int) == 0) = false := beq_eq_false_iff_ne.2 (by omega)
            have hm2 : (e.made : Int) < (made : Int) := by omega
            clear h1 h2
            go_wp2_with fail
            refine HDN.out.mono ?_
            rintro r w3 ⟨rfl, hb3⟩
            have HB3 := Lib.hid (Below.chain hb3 HBK.out)
            have e2 := (HE2.out.chain HB3.out).b.facts.1 2
            have kb := HKB.out.below hb3 HKB.out.lt
            have kb0 := kb.facts.1 0
            have kb1 := kb.facts.1 1
            have HO3 := Lib.hid (HO2.out.below HB3.out HO2.out.lt)
            have o0 := HO3.out.facts.1 0
            have o1 := HO3.out.facts.1 1
            have fo0 := HO3.out.facts.2.1 0
            have fo1 := HO3.out.facts.2.1 1
            have hne3 : w2.heap.size ≠ bo := by have := HS2.out; omega
            have hne4 : e.eb ≠ bo := by
              rintro rfl
              have h1 := (HE2.out.chain HB3.out).b.kind
              rw [HO3.out.kind] at h1
              exact absurd h1 (by decide)
            have HR3 := Lib.hid (HR2.out.chain HB3.out)
            have HBW : Hid (Below bo w1 w3) := Lib.hid (by have := HB2.out; rw [← hbn] at this ⊢; exact Below.chain HB3.out this)
            clear hb3 kb
            go_wp2_with fail
            go_region
            all_goals
              go_wp2_with fail
              have hos := only_two w3 bo (.int .i64 e.k.1) (.int .u32 e.k.2)
              have hBs : Below bo w1 ((w3.setCell ⟨bo, 0, none⟩ (.int .i64 e.k.1)).setCell ⟨bo, 1, none⟩ (.int .u32 e.k.2)) := by
                have h1 := HBW.out
                rw [← hbn] at h1 ⊢
                exact Below.only h1 (by rw [hbn]; exact hos) (fun y hy => by rw [List.mem_singleton.1 hy, hbn]; exact Nat.le_refl _)
              have HFIN : Hid (OldI (fun f => PartE s.ps.length j s.es f ∧ f.mp ∉ delM e.k rest) (PartE s.ps.length j s.es) e.k e.made ∧ RngW encK ((w3.setCell ⟨bo, 0, none⟩ (.int .i64 e.k.1)).setCell ⟨bo, 1, none⟩ (.int .u32 e.k.2)) (bo + 1) p.2 (inP s.ps.length s.es j) (delM e.k rest) ∧ Blk ((w3.setCell ⟨bo, 0, none⟩ (.int .i64 e.k.1)).setCell ⟨bo, 1, none⟩ (.int .u32 e.k.2)) bo #[.int .i64 e.k.1, .int .u32 e.k.2] 35 ∧ Below bo w1 ((w3.setCell ⟨bo, 0, none⟩ (.int .i64 e.k.1)).setCell ⟨bo, 1, none⟩ (.int .u32 e.k.2))) := Lib.hid
                ⟨HI.out.new e HPE.out HMB.out HSEEN.out (fun h9 => absurd (show e.need ≤ (e.l.length : Int) from h9) (by have h8 := HD.out; omega)) HM.out, HR3.out.only hos (by simp) (by have := (HT1.out.pm _ _ HP.out).1.lt; rw [hbn] at this; simp; omega), (HO3.out.setAt 0 _ rfl).setAt 1 _ rfl, hBs⟩
              clear hos hBs
              go_roundg (delM e.k rest).length
              case measure => have := HLT.out; omega
              case rel => exact ⟨delM e.k rest, e.k, e.made, Nat.le_refl _, rfl, Lib.hid ⟨HFIN.out.1, HFIN.out.2.1.chain (Below.refl _ _).drew, HFIN.out.2.2.1.drew, HFIN.out.2.2.2.drew⟩⟩
        · have h1 : ¬ made = 0 := fun h9 => hm (.inl h9)
          have h2 : ¬ e.made < made := fun h9 => hm (.inr h9)
          have hm1 : ((made : Int) == 0) = false := beq_eq_false_iff_ne.2 (by omega)
          have hm2 : ¬ (e.made : Int) < (made : Int) := by omega
          have HM : Hid (0 < made ∧ made ≤ e.made) := Lib.hid ⟨by omega, by omega⟩
          clear hm h1 h2
          go_wp2_with fail
          refine HDN.out.mono ?_
          rintro r w3 ⟨rfl, hb3⟩
          have HB3 := Lib.hid (Below.chain hb3 HBK.out)
          have e2 := (HE2.out.chain HB3.out).b.facts.1 2
          clear hb3
          go_wp2_with fail
          go_roundg (delM e.k rest).length
          case measure => have := HLT.out; omega
          case rel => exact ⟨delM e.k rest, k, made, Nat.le_refl _, rfl, Lib.hid ⟨HI.out.old e HSEEN.out (.inr HM.out), HR2.out.chain HB3.out, HO2.out.below HB3.out HO2.out.lt, by rw [← hbn] at HB2 ⊢; exact Below.chain HB3.out HB2.out⟩⟩
end Go.Proofs.Ytnommofekjiiaaa
