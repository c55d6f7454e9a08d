/-
  Merged: The first shard that waits, taken (chapter 27). | Shards that are let wait: what holds between (chapter 27). | Shards that are let wait (chapter 27).
-/
import Derived.Test.YtnmlmpffmjhihaaGreatMT
import Derived.Laws.StructEq
import Derived.StillTailTactics
import Derived.Test.YtnmlmpffmjhihaaGreatMN
import Derived.Deep.RegionLaw
import Derived.Deep.CutRange
namespace Go.Proofs.YtnmlmpffmjhihaaGreat
open Go Go.RowKit
set_option linter.unusedVariables false
set_option linter.unusedSimpArgs false
set_option maxRecDepth 100000
set_option maxHeartbeats 2000000
section
variable {Ow : Nat → Prop} {w w' : World} {bo : Nat} {S : OS}
/-- What is none of the stream's own turned. -/
theorem OutM.other {K : List (Option TypeId)} {Ow' : Nat → Prop} (h : OutM Ow w bo S) (ht : Turn Ow' K w w') (hK : ∀ k ∈ [some 52, some 83, some 122, some 5, some 78, some 98, some 107, some 54, none], k ∉ K) : OutM Ow w' bo S :=
  ⟨ht.blk h.k (hK _ (by simp)), ⟨ht.blk h.wk.k (hK _ (by simp)), ⟨ht.blk h.wk.r.k (hK _ (by simp)), ht.blk h.wk.r.b (hK _ (by simp)), h.wk.r.l⟩⟩, ⟨ht.blk h.f.k (hK _ (by simp)), ht.seg h.f.s (hK _ (by simp))⟩, ht.blk h.e (hK _ (by simp)), ht.map h.m (hK _ (by simp)), ht.seg h.q (hK _ (by simp)), ht.map h.d (hK _ (by simp)), h.ne, h.u.mono ht.size⟩
/-- The queue turned. -/
theorem OutM.q2 (h : OutM Ow w bo S) {qv : Value} {Q : List (Int × Int)} (ht : Turn Ow [some 52] w w') (hk : Blk w' bo (outC { S with qv := qv, Q := Q }) 52) (hs : Seg w' 0 54 2 qv Q.length (sdQ Q)) (hqv : ∀ g, qv.ownBlock = some g → Ow g) : OutM Ow w' bo { S with qv := qv, Q := Q } :=
  ⟨hk, ⟨ht.blk h.wk.k (by decide), ⟨ht.blk h.wk.r.k (by decide), ht.blk h.wk.r.b (by decide), h.wk.r.l⟩⟩, ⟨ht.blk h.f.k (by decide), ht.seg h.f.s (by decide)⟩, ht.blk h.e (by decide), ht.map h.m (by decide), hs, ht.map h.d (by decide), h.ne, h.u.bo, h.u.wb, h.u.br, h.u.bs, h.u.fb, h.u.eb, h.u.mm, h.u.qm, h.u.fv, hqv, fun b hb => h.u.up b (Nat.le_trans ht.size hb)⟩
/-- Which ones wait turned. -/
theorem OutM.d2 (h : OutM Ow w bo S) {QD : List ((Int × Int) × Value)} (ho : Only [S.qm] w w') (hm : MapW encD w' S.qm QD) : OutM Ow w' bo { S with QD := QD } := by
  have ht : Turn Ow [none] w w' := Turn.one ho h.u.qm h.d.kind (by simp)
  exact ⟨ht.blk h.k (by decide), ⟨ht.blk h.wk.k (by decide), ⟨ht.blk h.wk.r.k (by decide), ht.blk h.wk.r.b (by decide), h.wk.r.l⟩⟩, ⟨ht.blk h.f.k (by decide), ht.seg h.f.s (by decide)⟩, ht.blk h.e (by decide), h.m.only ho (by simp; exact h.ne), ht.seg h.q (by decide), hm, h.ne, h.u.mono ht.size⟩
theorem only_ten (w : World) (b : Nat) (v0 v1 v2 v3 v4 v5 v6 v7 v8 v9 : Value) : Only [b] w ((((((((((w.setCell ⟨b, 0, none⟩ v0).setCell ⟨b, 1, none⟩ v1).setCell ⟨b, 2, none⟩ v2).setCell ⟨b, 3, none⟩ v3).setCell ⟨b, 4, none⟩ v4).setCell ⟨b, 5, none⟩ v5).setCell ⟨b, 6, none⟩ v6).setCell ⟨b, 7, none⟩ v7).setCell ⟨b, 8, none⟩ v8).setCell ⟨b, 9, none⟩ v9) := ((((((((((Only.refl _ _).setCell _ _ (.inl (by simp))).setCell _ _ (.inl (by simp))).setCell _ _ (.inl (by simp))).setCell _ _ (.inl (by simp))).setCell _ _ (.inl (by simp))).setCell _ _ (.inl (by simp))).setCell _ _ (.inl (by simp))).setCell _ _ (.inl (by simp))).setCell _ _ (.inl (by simp))).setCell _ _ (.inl (by simp))
theorem pop_end {w0 w3 w4 : World} {b : Nat} {cs : Array Value} (h : OutM Ow w3 bo S) (hb : Below w3.heap.size w3 w4) (hx : Blk w3 b cs 27) (ht : Turn Ow [some 52, none] w0 w3) (hl : w0.heap.size ≤ b) (ho : Only [b] w4 w') : OutM Ow w' bo S ∧ Turn Ow [some 52, none] w0 w' := by
  have h4 : Turn (fun _ => True) [some 27] w4 w' := Turn.only1 ho trivial (hx.below hb hx.lt) (by simp)
  exact ⟨(h.chain hb).other h4 (by decide), (ht.step hb).fresh ho hl⟩
theorem opop_a (h : OutM Ow w bo S) (x1 x2 : Int) (Q' : List (Int × Int)) (hq : S.Q = (x1, x2) :: Q') (g o c : Nat) (hv : S.qv = .slice (some ⟨g, o, none⟩) (Q'.length + 1) c) (hc : c ≠ 1) (D : Dg) (okb : Bool)
    (hsh : ∀ w1, OutM Ow w1 bo ({ S with qv := .slice (some ⟨g, o + 2, none⟩) Q'.length (c - 1), Q := Q', QD := delM (x1, x2) S.QD }) → Turn Ow [some 52, none] w w1 → Calls Tryz.prog 16 #[.pointer (some ⟨bo, 0, none⟩), .agg #[.int .u32 x1, .int .i64 x2]] w1 fun e w2 => e = .returned (.tuple #[D.val, .bool okb]) ∧ Below w1.heap.size w1 w2) :
    Calls Tryz.prog 4 #[.pointer (some ⟨bo, 0, none⟩)] w fun e w' => e = .returned (.tuple #[D.val, .bool okb]) ∧ OutM Ow w' bo ({ S with qv := .slice (some ⟨g, o + 2, none⟩) Q'.length (c - 1), Q := Q', QD := delM (x1, x2) S.QD }) ∧ Turn Ow [some 52, none] w w' := by
  have hs : Seg w 0 54 2 (.slice (some ⟨g, o, none⟩) (Q'.length + 1) c) (Q'.length + 1) (sdQ ((x1, x2) :: Q')) := by
    have := h.q
    rw [hq, hv] at this
    exact this
  have hg := hs.blk g rfl
  have hat := hs.at
  have q0 : w.cell? ⟨g, o, none⟩ = some (.int .u32 x1) := hat 0 (by omega)
  have q1 : w.cell? ⟨g, o + 1, none⟩ = some (.int .i64 x2) := hat 1 (by omega)
  have o18 : w.cell? ⟨bo, 18, none⟩ = some (.slice (some ⟨g, o, none⟩) (Q'.length + 1) c) := by
    have := h.k.facts.1 18
    rw [this]
    show some S.qv = _
    rw [hv]
  have fo18 := h.k.facts.2.1 18
  have hlt := h.k.lt
  have hgl := hg.2
  have hne : g ≠ bo := fun e => by
    have h1 := hs.kind
    rw [e, h.k.kind] at h1
    exact absurd h1 (by decide)
  have hca : Q'.length + 1 ≤ c := by
    obtain ⟨a', o', c', e, _, _, h3, _⟩ := hs.shape (by omega)
    cases e
    exact h3
  have hO1 : Only [bo] w (w.setCell ⟨bo, 18, none⟩ (.slice (some ⟨g, o + 2, none⟩) Q'.length (c - 1))) := (Only.refl _ _).setCell _ _ (.inl (by simp))
  have hT1 : Turn Ow [some 52] w (w.setCell ⟨bo, 18, none⟩ (.slice (some ⟨g, o + 2, none⟩) Q'.length (c - 1))) := Turn.only1 hO1 h.u.bo h.k (by simp)
  have hs1 : Seg (w.setCell ⟨bo, 18, none⟩ (.slice (some ⟨g, o + 2, none⟩) Q'.length (c - 1))) 0 54 2 (.slice (some ⟨g, o + 2, none⟩) Q'.length (c - 1)) Q'.length (sdQ Q') := hT1.seg (hs.tail (o + 2) (.inl rfl)) (by decide)
  have hA := OutM.q2 h hT1 (h.k.setAt 18 (.slice (some ⟨g, o + 2, none⟩) Q'.length (c - 1)) rfl) hs1 (fun g' hg' => h.u.qv g' (by rw [hv]; exact hg'))
  have hsz : (w.setCell ⟨bo, 18, none⟩ (.slice (some ⟨g, o + 2, none⟩) Q'.length (c - 1))).heap.size = w.heap.size := World.size_setCell _ _ _
  have ha := Below.chainAlloc (Below.chainAlloc (Below.refl _ (w.setCell ⟨bo, 18, none⟩ (.slice (some ⟨g, o + 2, none⟩) Q'.length (c - 1)))) (.cells #[.int .i64 0, .int .i64 0, .int .u32 0, .int .i64 0, .int .i64 0, .int .i64 0, .int .i64 0, .int .i64 0, Str [], Str []] 27)) (.cells #[.int .u32 x1, .int .i64 x2] 54)
  have HX : Hid (Blk (((w.setCell ⟨bo, 18, none⟩ (.slice (some ⟨g, o + 2, none⟩) Q'.length (c - 1))).alloc (.cells #[.int .i64 0, .int .i64 0, .int .u32 0, .int .i64 0, .int .i64 0, .int .i64 0, .int .i64 0, .int .i64 0, Str [], Str []] 27)).alloc (.cells #[.int .u32 x1, .int .i64 x2] 54)) w.heap.size #[.int .i64 0, .int .i64 0, .int .u32 0, .int .i64 0, .int .i64 0, .int .i64 0, .int .i64 0, .int .i64 0, Str [], Str []] 27 ∧ Blk (((w.setCell ⟨bo, 18, none⟩ (.slice (some ⟨g, o + 2, none⟩) Q'.length (c - 1))).alloc (.cells #[.int .i64 0, .int .i64 0, .int .u32 0, .int .i64 0, .int .i64 0, .int .i64 0, .int .i64 0, .int .i64 0, Str [], Str []] 27)).alloc (.cells #[.int .u32 x1, .int .i64 x2] 54)) (w.heap.size + 1) #[.int .u32 x1, .int .i64 x2] 54) := Lib.hid ⟨(Blk.newAt hsz.symm).alloc _, Blk.newAt (by rw [size_alloc, hsz])⟩
  have H2 : Hid (OutM Ow (((w.setCell ⟨bo, 18, none⟩ (.slice (some ⟨g, o + 2, none⟩) Q'.length (c - 1))).alloc (.cells #[.int .i64 0, .int .i64 0, .int .u32 0, .int .i64 0, .int .i64 0, .int .i64 0, .int .i64 0, .int .i64 0, Str [], Str []] 27)).alloc (.cells #[.int .u32 x1, .int .i64 x2] 54)) bo ({ S with qv := .slice (some ⟨g, o + 2, none⟩) Q'.length (c - 1), Q := Q' }) ∧ Turn Ow [some 52, none] w (((w.setCell ⟨bo, 18, none⟩ (.slice (some ⟨g, o + 2, none⟩) Q'.length (c - 1))).alloc (.cells #[.int .i64 0, .int .i64 0, .int .u32 0, .int .i64 0, .int .i64 0, .int .i64 0, .int .i64 0, .int .i64 0, Str [], Str []] 27)).alloc (.cells #[.int .u32 x1, .int .i64 x2] 54))) := Lib.hid ⟨hA.chain ha, (hT1.mono (by simp)).step ha⟩
  have HSH := Lib.hid hsh
  have hc0 : (1 : Int) ≤ (c : Int) := by omega
  have hq1 : (1 : Int) ≤ ((Q'.length + 1 : Nat) : Int) := by omega
  clear h hs hat hg ha hsh hs1 hv hq hA hT1 hO1 hsz
  go_enter Tryz.func4, Tryz.ntmps4
  go_upto_region 5 with fail
  generalize ((w.setCell ⟨bo, 18, none⟩ (.slice (some ⟨g, o + 2, none⟩) Q'.length (c - 1))).alloc (.cells #[.int .i64 0, .int .i64 0, .int .u32 0, .int .i64 0, .int .i64 0, .int .i64 0, .int .i64 0, .int .i64 0, Str [], Str []] 27)).alloc (.cells #[.int .u32 x1, .int .i64 x2] 54) = W2 at *
  obtain ⟨b, hb⟩ : ∃ b, w.heap.size = b := ⟨_, rfl⟩
  rw [hb] at HX ⊢
  have HBB := Lib.hid hb
  clear hb o18 fo18 q0 q1
  have o19 : W2.cell? ⟨bo, 19, none⟩ = some (.map (some S.qm)) := H2.out.1.k.facts.1 19
  have b0 := HX.out.2.facts.1 0
  have b1 := HX.out.2.facts.1 1
  obtain ⟨W3, hrun, hm3, ho3⟩ := (H2.out.1.d.chain (Below.refl _ W2).drew).del keyS undSet (x1, x2)
  unfold encD at hrun
  have hod : Only [S.qm] W2 W3 := Only.trans (Only.refl _ _).drew ho3
  have H3 : Hid (OutM Ow W3 bo ({ S with qv := .slice (some ⟨g, o + 2, none⟩) Q'.length (c - 1), Q := Q', QD := delM (x1, x2) S.QD }) ∧ Only [S.qm] W2 W3) := Lib.hid ⟨H2.out.1.d2 hod hm3, hod⟩
  clear hm3 ho3 hod
  go_still_tail 5, (by kernel_rfl)
  change wpList _ _ _ _ _ (World.drew _)
  have HX3 : Hid (Blk W3 b #[.int .i64 0, .int .i64 0, .int .u32 0, .int .i64 0, .int .i64 0, .int .i64 0, .int .i64 0, .int .i64 0, Str [], Str []] 27 ∧ Blk W3 (b + 1) #[.int .u32 x1, .int .i64 x2] 54 ∧ Turn Ow [some 52, none] w W3) := Lib.hid (by
    have ht : Turn Ow [none] W2 W3 := Turn.one H3.out.2 H2.out.1.u.qm H2.out.1.d.kind (by simp)
    exact ⟨ht.blk HX.out.1 (by decide), ht.blk HX.out.2 (by decide), H2.out.2.trans (ht.mono (by simp))⟩)
  clear o19 b0 b1 HX
  have b0 := HX3.out.2.1.facts.1 0
  have b1 := HX3.out.2.1.facts.1 1
  go_wp2_with fail
  refine (HSH.out W3 H3.out.1 HX3.out.2.2).mono ?_
  rintro e w4 ⟨rfl, hb4⟩
  have HB4 := Lib.hid hb4
  clear b0 b1 hb4
  have z0 := (HX3.out.1.below HB4.out HX3.out.1.lt).facts.1 0
  have fz0 := (HX3.out.1.below HB4.out HX3.out.1.lt).facts.2.1 0
  have z1 := (HX3.out.1.below HB4.out HX3.out.1.lt).facts.1 1
  have fz1 := (HX3.out.1.below HB4.out HX3.out.1.lt).facts.2.1 1
  have z2 := (HX3.out.1.below HB4.out HX3.out.1.lt).facts.1 2
  have fz2 := (HX3.out.1.below HB4.out HX3.out.1.lt).facts.2.1 2
  have z3 := (HX3.out.1.below HB4.out HX3.out.1.lt).facts.1 3
  have fz3 := (HX3.out.1.below HB4.out HX3.out.1.lt).facts.2.1 3
  have z4 := (HX3.out.1.below HB4.out HX3.out.1.lt).facts.1 4
  have fz4 := (HX3.out.1.below HB4.out HX3.out.1.lt).facts.2.1 4
  have z5 := (HX3.out.1.below HB4.out HX3.out.1.lt).facts.1 5
  have fz5 := (HX3.out.1.below HB4.out HX3.out.1.lt).facts.2.1 5
  have z6 := (HX3.out.1.below HB4.out HX3.out.1.lt).facts.1 6
  have fz6 := (HX3.out.1.below HB4.out HX3.out.1.lt).facts.2.1 6
  have z7 := (HX3.out.1.below HB4.out HX3.out.1.lt).facts.1 7
  have fz7 := (HX3.out.1.below HB4.out HX3.out.1.lt).facts.2.1 7
  have z8 := (HX3.out.1.below HB4.out HX3.out.1.lt).facts.1 8
  have fz8 := (HX3.out.1.below HB4.out HX3.out.1.lt).facts.2.1 8
  have z9 := (HX3.out.1.below HB4.out HX3.out.1.lt).facts.1 9
  have fz9 := (HX3.out.1.below HB4.out HX3.out.1.lt).facts.2.1 9
  go_wp2_with fail
  refine bodyPost_ret (v := .tuple #[D.val, .bool okb]) (by simp [results, Tryz.results4, go_sem, z0, z1, z2, z3, z4, z5, z6, z7, z8, z9, Dg.val]) rfl ⟨rfl, ?_⟩
  exact pop_end H3.out.1 HB4.out HX3.out.1 HX3.out.2.2 (by rw [← HBB.out]; exact Nat.le_refl _) (only_ten _ _ _ _ _ _ _ _ _ _ _ _)
theorem opop_b (h : OutM Ow w bo S) (x1 x2 : Int) (hq : S.Q = [(x1, x2)]) (g o : Nat) (hv : S.qv = .slice (some ⟨g, o, none⟩) 1 1) (D : Dg) (okb : Bool)
    (hsh : ∀ w1, OutM Ow w1 bo ({ S with qv := .slice (some ⟨g, o, none⟩) 0 0, Q := [], QD := delM (x1, x2) S.QD }) → Turn Ow [some 52, none] w w1 → Calls Tryz.prog 16 #[.pointer (some ⟨bo, 0, none⟩), .agg #[.int .u32 x1, .int .i64 x2]] w1 fun e w2 => e = .returned (.tuple #[D.val, .bool okb]) ∧ Below w1.heap.size w1 w2) :
    Calls Tryz.prog 4 #[.pointer (some ⟨bo, 0, none⟩)] w fun e w' => e = .returned (.tuple #[D.val, .bool okb]) ∧ OutM Ow w' bo ({ S with qv := .slice (some ⟨g, o, none⟩) 0 0, Q := [], QD := delM (x1, x2) S.QD }) ∧ Turn Ow [some 52, none] w w' := by
  have hs : Seg w 0 54 2 (.slice (some ⟨g, o, none⟩) 1 1) 1 (sdQ [(x1, x2)]) := by
    have := h.q
    rw [hq, hv] at this
    exact this
  have hg := hs.blk g rfl
  have hat := hs.at
  have q0 : w.cell? ⟨g, o, none⟩ = some (.int .u32 x1) := hat 0 (by omega)
  have q1 : w.cell? ⟨g, o + 1, none⟩ = some (.int .i64 x2) := hat 1 (by omega)
  have o18 : w.cell? ⟨bo, 18, none⟩ = some (.slice (some ⟨g, o, none⟩) 1 1) := by
    have := h.k.facts.1 18
    rw [this]
    show some S.qv = _
    rw [hv]
  have fo18 := h.k.facts.2.1 18
  have hlt := h.k.lt
  have hgl := hg.2
  have hne : g ≠ bo := fun e => by
    have h1 := hs.kind
    rw [e, h.k.kind] at h1
    exact absurd h1 (by decide)
  have hca : 1 ≤ 1 := by
    obtain ⟨a', o', c', e, _, _, h3, _⟩ := hs.shape (by omega)
    cases e
    exact h3
  have hO1 : Only [bo] w (w.setCell ⟨bo, 18, none⟩ (.slice (some ⟨g, o, none⟩) 0 0)) := (Only.refl _ _).setCell _ _ (.inl (by simp))
  have hT1 : Turn Ow [some 52] w (w.setCell ⟨bo, 18, none⟩ (.slice (some ⟨g, o, none⟩) 0 0)) := Turn.only1 hO1 h.u.bo h.k (by simp)
  have hs1 : Seg (w.setCell ⟨bo, 18, none⟩ (.slice (some ⟨g, o, none⟩) 0 0)) 0 54 2 (.slice (some ⟨g, o, none⟩) 0 0) 0 (sdQ []) := hT1.seg (hs.tail (n := 0) (o) (.inr ⟨rfl, rfl⟩)) (by decide)
  have hA := OutM.q2 h hT1 (h.k.setAt 18 (.slice (some ⟨g, o, none⟩) 0 0) rfl) hs1 (fun g' hg' => h.u.qv g' (by rw [hv]; exact hg'))
  have hsz : (w.setCell ⟨bo, 18, none⟩ (.slice (some ⟨g, o, none⟩) 0 0)).heap.size = w.heap.size := World.size_setCell _ _ _
  have ha := Below.chainAlloc (Below.chainAlloc (Below.refl _ (w.setCell ⟨bo, 18, none⟩ (.slice (some ⟨g, o, none⟩) 0 0))) (.cells #[.int .i64 0, .int .i64 0, .int .u32 0, .int .i64 0, .int .i64 0, .int .i64 0, .int .i64 0, .int .i64 0, Str [], Str []] 27)) (.cells #[.int .u32 x1, .int .i64 x2] 54)
  have HX : Hid (Blk (((w.setCell ⟨bo, 18, none⟩ (.slice (some ⟨g, o, none⟩) 0 0)).alloc (.cells #[.int .i64 0, .int .i64 0, .int .u32 0, .int .i64 0, .int .i64 0, .int .i64 0, .int .i64 0, .int .i64 0, Str [], Str []] 27)).alloc (.cells #[.int .u32 x1, .int .i64 x2] 54)) w.heap.size #[.int .i64 0, .int .i64 0, .int .u32 0, .int .i64 0, .int .i64 0, .int .i64 0, .int .i64 0, .int .i64 0, Str [], Str []] 27 ∧ Blk (((w.setCell ⟨bo, 18, none⟩ (.slice (some ⟨g, o, none⟩) 0 0)).alloc (.cells #[.int .i64 0, .int .i64 0, .int .u32 0, .int .i64 0, .int .i64 0, .int .i64 0, .int .i64 0, .int .i64 0, Str [], Str []] 27)).alloc (.cells #[.int .u32 x1, .int .i64 x2] 54)) (w.heap.size + 1) #[.int .u32 x1, .int .i64 x2] 54) := Lib.hid ⟨(Blk.newAt hsz.symm).alloc _, Blk.newAt (by rw [size_alloc, hsz])⟩
  have H2 : Hid (OutM Ow (((w.setCell ⟨bo, 18, none⟩ (.slice (some ⟨g, o, none⟩) 0 0)).alloc (.cells #[.int .i64 0, .int .i64 0, .int .u32 0, .int .i64 0, .int .i64 0, .int .i64 0, .int .i64 0, .int .i64 0, Str [], Str []] 27)).alloc (.cells #[.int .u32 x1, .int .i64 x2] 54)) bo ({ S with qv := .slice (some ⟨g, o, none⟩) 0 0, Q := [] }) ∧ Turn Ow [some 52, none] w (((w.setCell ⟨bo, 18, none⟩ (.slice (some ⟨g, o, none⟩) 0 0)).alloc (.cells #[.int .i64 0, .int .i64 0, .int .u32 0, .int .i64 0, .int .i64 0, .int .i64 0, .int .i64 0, .int .i64 0, Str [], Str []] 27)).alloc (.cells #[.int .u32 x1, .int .i64 x2] 54))) := Lib.hid ⟨hA.chain ha, (hT1.mono (by simp)).step ha⟩
  have HSH := Lib.hid hsh
  have hc0 : (1 : Int) ≤ ((1 : Nat) : Int) := by omega
  have hq1 : (1 : Int) ≤ ((1 : Nat) : Int) := by omega
  clear h hs hat hg ha hsh hs1 hv hq hA hT1 hO1 hsz
  go_enter Tryz.func4, Tryz.ntmps4
  go_upto_region 5 with fail
  generalize ((w.setCell ⟨bo, 18, none⟩ (.slice (some ⟨g, o, none⟩) 0 0)).alloc (.cells #[.int .i64 0, .int .i64 0, .int .u32 0, .int .i64 0, .int .i64 0, .int .i64 0, .int .i64 0, .int .i64 0, Str [], Str []] 27)).alloc (.cells #[.int .u32 x1, .int .i64 x2] 54) = W2 at *
  obtain ⟨b, hb⟩ : ∃ b, w.heap.size = b := ⟨_, rfl⟩
  rw [hb] at HX ⊢
  have HBB := Lib.hid hb
  clear hb o18 fo18 q0 q1
  have o19 : W2.cell? ⟨bo, 19, none⟩ = some (.map (some S.qm)) := H2.out.1.k.facts.1 19
  have b0 := HX.out.2.facts.1 0
  have b1 := HX.out.2.facts.1 1
  obtain ⟨W3, hrun, hm3, ho3⟩ := (H2.out.1.d.chain (Below.refl _ W2).drew).del keyS undSet (x1, x2)
  unfold encD at hrun
  have hod : Only [S.qm] W2 W3 := Only.trans (Only.refl _ _).drew ho3
  have H3 : Hid (OutM Ow W3 bo ({ S with qv := .slice (some ⟨g, o, none⟩) 0 0, Q := [], QD := delM (x1, x2) S.QD }) ∧ Only [S.qm] W2 W3) := Lib.hid ⟨H2.out.1.d2 hod hm3, hod⟩
  clear hm3 ho3 hod
  go_still_tail 5, (by kernel_rfl)
  change wpList _ _ _ _ _ (World.drew _)
  have HX3 : Hid (Blk W3 b #[.int .i64 0, .int .i64 0, .int .u32 0, .int .i64 0, .int .i64 0, .int .i64 0, .int .i64 0, .int .i64 0, Str [], Str []] 27 ∧ Blk W3 (b + 1) #[.int .u32 x1, .int .i64 x2] 54 ∧ Turn Ow [some 52, none] w W3) := Lib.hid (by
    have ht : Turn Ow [none] W2 W3 := Turn.one H3.out.2 H2.out.1.u.qm H2.out.1.d.kind (by simp)
    exact ⟨ht.blk HX.out.1 (by decide), ht.blk HX.out.2 (by decide), H2.out.2.trans (ht.mono (by simp))⟩)
  clear o19 b0 b1 HX
  have b0 := HX3.out.2.1.facts.1 0
  have b1 := HX3.out.2.1.facts.1 1
  go_wp2_with fail
  refine (HSH.out W3 H3.out.1 HX3.out.2.2).mono ?_
  rintro e w4 ⟨rfl, hb4⟩
  have HB4 := Lib.hid hb4
  clear b0 b1 hb4
  have z0 := (HX3.out.1.below HB4.out HX3.out.1.lt).facts.1 0
  have fz0 := (HX3.out.1.below HB4.out HX3.out.1.lt).facts.2.1 0
  have z1 := (HX3.out.1.below HB4.out HX3.out.1.lt).facts.1 1
  have fz1 := (HX3.out.1.below HB4.out HX3.out.1.lt).facts.2.1 1
  have z2 := (HX3.out.1.below HB4.out HX3.out.1.lt).facts.1 2
  have fz2 := (HX3.out.1.below HB4.out HX3.out.1.lt).facts.2.1 2
  have z3 := (HX3.out.1.below HB4.out HX3.out.1.lt).facts.1 3
  have fz3 := (HX3.out.1.below HB4.out HX3.out.1.lt).facts.2.1 3
  have z4 := (HX3.out.1.below HB4.out HX3.out.1.lt).facts.1 4
  have fz4 := (HX3.out.1.below HB4.out HX3.out.1.lt).facts.2.1 4
  have z5 := (HX3.out.1.below HB4.out HX3.out.1.lt).facts.1 5
  have fz5 := (HX3.out.1.below HB4.out HX3.out.1.lt).facts.2.1 5
  have z6 := (HX3.out.1.below HB4.out HX3.out.1.lt).facts.1 6
  have fz6 := (HX3.out.1.below HB4.out HX3.out.1.lt).facts.2.1 6
  have z7 := (HX3.out.1.below HB4.out HX3.out.1.lt).facts.1 7
  have fz7 := (HX3.out.1.below HB4.out HX3.out.1.lt).facts.2.1 7
  have z8 := (HX3.out.1.below HB4.out HX3.out.1.lt).facts.1 8
  have fz8 := (HX3.out.1.below HB4.out HX3.out.1.lt).facts.2.1 8
  have z9 := (HX3.out.1.below HB4.out HX3.out.1.lt).facts.1 9
  have fz9 := (HX3.out.1.below HB4.out HX3.out.1.lt).facts.2.1 9
  go_wp2_with fail
  refine bodyPost_ret (v := .tuple #[D.val, .bool okb]) (by simp [results, Tryz.results4, go_sem, z0, z1, z2, z3, z4, z5, z6, z7, z8, z9, Dg.val]) rfl ⟨rfl, ?_⟩
  exact pop_end H3.out.1 HB4.out HX3.out.1 HX3.out.2.2 (by rw [← HBB.out]; exact Nat.le_refl _) (only_ten _ _ _ _ _ _ _ _ _ _ _ _)
theorem opop_any (h : OutM Ow w bo S) (x : Int × Int) (Q' : List (Int × Int)) (hq : S.Q = x :: Q') (D : Dg) (okb : Bool)
    (hsh : ∀ w1 qv', OutM Ow w1 bo { S with qv := qv', Q := Q', QD := delM x S.QD } → Turn Ow [some 52, none] w w1 → Calls Tryz.prog 16 #[.pointer (some ⟨bo, 0, none⟩), .agg #[.int .u32 x.1, .int .i64 x.2]] w1 fun e w2 => e = .returned (.tuple #[D.val, .bool okb]) ∧ Below w1.heap.size w1 w2) :
    Calls Tryz.prog 4 #[.pointer (some ⟨bo, 0, none⟩)] w fun e w' => e = .returned (.tuple #[D.val, .bool okb]) ∧ (∃ qv', OutM Ow w' bo { S with qv := qv', Q := Q', QD := delM x S.QD }) ∧ Turn Ow [some 52, none] w w' := by
  obtain ⟨x1, x2⟩ := x
  have hs := h.q
  rw [hq] at hs
  obtain ⟨g, o, c, hv, _, _, hca, _⟩ := hs.shape (by simp)
  by_cases hc : c = 1
  · subst hc
    have : Q' = [] := List.length_eq_zero_iff.1 (by rw [List.length_cons] at hca; omega)
    subst this
    exact (opop_b h x1 x2 hq g o hv D okb fun w1 h1 => hsh w1 _ h1).mono fun e w' ⟨a, b, d⟩ => ⟨a, ⟨_, b⟩, d⟩
  · exact (opop_a h x1 x2 Q' hq g o c hv hc D okb fun w1 h1 => hsh w1 _ h1).mono fun e w' ⟨a, b, d⟩ => ⟨a, ⟨_, b⟩, d⟩
end
end Go.Proofs.YtnmlmpffmjhihaaGreat
namespace Go.Proofs.YtnmlmpffmjhihaaGreat
open Go Go.RowKit
set_option linter.unusedVariables false
set_option linter.unusedSimpArgs false
set_option maxRecDepth 100000
set_option maxHeartbeats 1000000
/-- Items: their cells. -/
def itQ (l : List (Int × Int)) : List Value := l.flatMap fun x => [.int .i64 x.1, .int .i64 x.2]
theorem itQ_app (l m : List (Int × Int)) : itQ (l ++ m) = itQ l ++ itQ m := by simp [itQ]
theorem itQ_len : ∀ l : List (Int × Int), (itQ l).length = l.length * 2
  | [] => rfl
  | x :: l => by
    have := itQ_len l
    simp only [itQ, List.flatMap_cons, List.length_append, List.length_cons, List.length_nil] at this ⊢
    omega
theorem itQ_one (l : List (Int × Int)) : ∀ u ∈ itQ l, u.oneCell' = true := by
  intro u hu
  simp only [itQ, List.mem_flatMap] at hu
  obtain ⟨x, _, hx⟩ := hu
  simp at hx
  rcases hx with rfl | rfl <;> simp [Value.oneCell']
/-- What waits, which ones do, the items. -/
structure TQ where
  Q : List (Int × Int)
  QD : List ((Int × Int) × Value)
  its : List (Int × Int)
def wStep (st : Int) (sz : Int × Int → Int) (T : TQ) (x : Int × Int) : TQ := if (getM x T.QD).isSome then T else ⟨T.Q ++ [x], putM x (.bool true) T.QD, T.its ++ [(st, sz x)]⟩
def wFold (st : Int) (sz : Int × Int → Int) (l : List (Int × Int)) (T : TQ) : TQ := l.foldl (wStep st sz) T
theorem wFold_snoc (st : Int) (sz : Int × Int → Int) (l : List (Int × Int)) (x : Int × Int) (T : TQ) : wFold st sz (l ++ [x]) T = wStep st sz (wFold st sz l T) x := by simp [wFold]
theorem wStep_len (st : Int) (sz : Int × Int → Int) (T : TQ) (x : Int × Int) : (wStep st sz T x).Q.length ≤ T.Q.length + 1 ∧ (wStep st sz T x).its.length ≤ T.its.length + 1 := by
  unfold wStep
  by_cases h : (getM x T.QD).isSome
  · rw [if_pos h]; omega
  · rw [if_neg h]; simp
theorem wFold_len (st : Int) (sz : Int × Int → Int) : ∀ (l : List (Int × Int)) (T : TQ), (wFold st sz l T).Q.length ≤ T.Q.length + l.length ∧ (wFold st sz l T).its.length ≤ T.its.length + l.length
  | [], T => by simp [wFold]
  | x :: l, T => by
    have h1 := wFold_len st sz l (wStep st sz T x)
    have h2 := wStep_len st sz T x
    have e : wFold st sz (x :: l) T = wFold st sz l (wStep st sz T x) := rfl
    rw [e, List.length_cons]
    omega
/-- All that waits is marked. -/
def AllT (QD : List ((Int × Int) × Value)) : Prop := ∀ x v, getM x QD = some v → v = .bool true
theorem AllT.put {QD : List ((Int × Int) × Value)} (h : AllT QD) (x : Int × Int) : AllT (putM x (.bool true) QD) := fun y v hv => by
  rw [getM_putM] at hv
  by_cases e : x = y
  · rw [if_pos e] at hv; cases hv; rfl
  · rw [if_neg e] at hv; exact h y v hv
theorem AllT.del {QD : List ((Int × Int) × Value)} (h : AllT QD) (x : Int × Int) : AllT (delM x QD) := fun y v hv => by
  rw [getM_delM] at hv
  by_cases e : x = y
  · rw [if_pos e] at hv; cases hv
  · rw [if_neg e] at hv; exact h y v hv
theorem AllT.step {T : TQ} (h : AllT T.QD) (st : Int) (sz : Int × Int → Int) (x : Int × Int) : AllT (wStep st sz T x).QD := by
  unfold wStep
  by_cases hx : (getM x T.QD).isSome
  · rw [if_pos hx]; exact h
  · rw [if_neg hx]; exact h.put x
theorem AllT.fold (st : Int) (sz : Int × Int → Int) : ∀ (l : List (Int × Int)) (T : TQ), AllT T.QD → AllT (wFold st sz l T).QD
  | [], T, h => h
  | x :: l, T, h => AllT.fold st sz l _ (h.step st sz x)
structure WtR (Ow : Nat → Prop) (w0 w : World) (bo : Nat) (S : OS) (lv : Value) (l : List (Int × Int)) (qv : Value) (T : TQ) (v : Value) : Prop where
  o : OutM Ow w bo { S with qv := qv, Q := T.Q, QD := T.QD }
  ne : ∀ g, lv.ownBlock = some g → qv.ownBlock ≠ some g
  l : Seg w 0 54 2 lv l.length (sdQ l)
  i : Seg w w0.heap.size 93 2 v T.its.length (itQ T.its)
  t : Turn Ow [some 52, none, some 54] w0 w
section
variable {Ow : Nat → Prop} {w0 w w' w1 : World} {bo : Nat} {S : OS} {lv : Value} {l : List (Int × Int)} {qv : Value} {T : TQ} {v : Value}
theorem WtR.below (R : WtR Ow w0 w bo S lv l qv T v) (hb : Below w.heap.size w w') : WtR Ow w0 w' bo S lv l qv T v :=
  ⟨R.o.chain hb, R.ne, R.l.chain hb, R.i.chain hb, R.t.step hb⟩
theorem WtR.put (R : WtR Ow w0 w bo S lv l qv T v) {QD : List ((Int × Int) × Value)} (ho : Only [S.qm] w w') (hm : MapW encD w' S.qm QD) : WtR Ow w0 w' bo S lv l qv ⟨T.Q, QD, T.its⟩ v := by
  have ht : Turn Ow [none] w w' := Turn.one ho R.o.u.qm R.o.d.kind (by simp)
  exact ⟨R.o.d2 ho hm, R.ne, ht.seg R.l (by decide), ht.seg R.i (by decide), R.t.trans (ht.mono (by simp))⟩
theorem WtR.push (R : WtR Ow w0 w bo S lv l qv T v) (x : Int × Int) {g o c H : Nat} (hH : w.heap.size = H) (hg : w.grownBy w1 qv.ownBlock) (hs : Seg w1 0 54 2 (.slice (some ⟨g, o, none⟩) (T.Q.length + 1) c) (T.Q.length + 1) (sdQ T.Q ++ [.int .u32 x.1, .int .i64 x.2])) (hat : qv.ownBlock = some g ∨ g = H) :
    WtR Ow w0 (w1.setCell ⟨bo, 18, none⟩ (.slice (some ⟨g, o, none⟩) (T.Q.length + 1) c)) bo S lv l (.slice (some ⟨g, o, none⟩) (T.Q.length + 1) c) ⟨T.Q ++ [x], T.QD, T.its⟩ v := by
  have hO : Only qv.ownBlock.toList w w1 := Only.grown (Only.refl _ _) hg (fun y hy => .inl (by simp [hy]))
  have ht1 : Turn Ow [some 54] w w1 := Turn.own R.o.q R.o.u.qv hO
  have hk1 := ht1.blk R.o.k (by decide)
  have hO2 : Only [bo] w1 (w1.setCell ⟨bo, 18, none⟩ (.slice (some ⟨g, o, none⟩) (T.Q.length + 1) c)) := (Only.refl _ _).setCell _ _ (.inl (by simp))
  have ht2 : Turn Ow [some 52] w1 (w1.setCell ⟨bo, 18, none⟩ (.slice (some ⟨g, o, none⟩) (T.Q.length + 1) c)) := Turn.only1 hO2 R.o.u.bo hk1 (by simp)
  have ht : Turn Ow [some 54, some 52] w (w1.setCell ⟨bo, 18, none⟩ (.slice (some ⟨g, o, none⟩) (T.Q.length + 1) c)) := (ht1.mono (by simp)).trans (ht2.mono (by simp))
  have hq : Seg (w1.setCell ⟨bo, 18, none⟩ (.slice (some ⟨g, o, none⟩) (T.Q.length + 1) c)) 0 54 2 (.slice (some ⟨g, o, none⟩) (T.Q.length + 1) c) (T.Q ++ [x]).length (sdQ (T.Q ++ [x])) := by
    rw [List.length_append, sdQ_app]
    exact ht2.seg hs (by decide)
  have h := R.o
  have hown : ∀ g', (Value.slice (some ⟨g, o, none⟩) (T.Q.length + 1) c).ownBlock = some g' → Ow g' := fun g' hg' => by
    have he' : g = g' := by simpa [Value.ownBlock] using hg'
    subst he'
    rcases hat with hat | hat
    · exact h.u.qv g hat
    · exact h.u.up g (by omega)
  refine ⟨⟨hk1.setAt 18 _ rfl, ⟨ht.blk h.wk.k (by decide), ⟨ht.blk h.wk.r.k (by decide), ht.blk h.wk.r.b (by decide), h.wk.r.l⟩⟩, ⟨ht.blk h.f.k (by decide), ht.seg h.f.s (by decide)⟩, ht.blk h.e (by decide), ht.map h.m (by decide), hq, ht.map h.d (by decide), h.ne, h.u.bo, h.u.wb, h.u.br, h.u.bs, h.u.fb, h.u.eb, h.u.mm, h.u.qm, h.u.fv, hown, fun b hb => h.u.up b (Nat.le_trans ht.size hb)⟩, fun g' hg' he => ?_, ht2.seg (R.l.only hO (fun y hy hm => R.ne y hy (by simpa using hm))) (by decide), ht.seg R.i (by decide), R.t.trans (ht.mono (by simp))⟩
  have he' : g = g' := by simpa [Value.ownBlock] using he
  subst he'
  rcases hat with hat | hat
  · exact R.ne g hg' hat
  · have := (R.l.blk g hg').2
    omega
theorem WtR.item (R : WtR Ow w0 w bo S lv l qv T v) (y : Int × Int) {v' : Value} (hg : w.grownBy w1 v.ownBlock) (hs : Seg w1 w0.heap.size 93 2 v' (T.its.length + 1) (itQ T.its ++ [.int .i64 y.1, .int .i64 y.2])) :
    WtR Ow w0 w1 bo S lv l qv ⟨T.Q, T.QD, T.its ++ [y]⟩ v' := by
  have hO : Only v.ownBlock.toList w w1 := Only.grown (Only.refl _ _) hg (fun y hy => .inl (by simp [hy]))
  have ht : Turn (fun _ => True) [some 93] w w1 := Turn.own R.i (fun _ _ => trivial) hO
  refine ⟨R.o.other ht (by decide), R.ne, ht.seg R.l (by decide), ?_, ?_⟩
  · rw [List.length_append, itQ_app]
    exact hs
  · obtain ⟨S', h1, h2⟩ := R.t
    exact ⟨S', h1.trans' hO (fun z hz => .inr (R.i.blk z (by simpa using hz)).1), h2⟩
end
end Go.Proofs.YtnmlmpffmjhihaaGreat
namespace Go.Proofs.YtnmlmpffmjhihaaGreat
open Go Go.RowKit
set_option linter.unusedVariables false
set_option linter.unusedSimpArgs false
set_option maxRecDepth 100000
set_option maxHeartbeats 4000000
theorem infoItm : (Tryz.prog.info? 93).map (fun i => (i.zero, i.size, i.bytes)) = some (some (.agg #[.int .i64 0, .int .i64 0]), 2, 16) := by kernel_rfl
section
variable {Ow : Nat → Prop} {w : World} {bo : Nat} {S : OS}
theorem WtR.keep {w0 wr w1 : World} {lv qv v : Value} {l : List (Int × Int)} {T : TQ} (R : WtR Ow w0 wr bo S lv l qv T v) (hg : wr.grownBy w1 qv.ownBlock) (u : Value) {b : Nat} {cs : Array Value} (hb : Blk wr b cs 27) : Blk (w1.setCell ⟨bo, 18, none⟩ u) b cs 27 := by
  have ht1 : Turn Ow [some 54] wr w1 := Turn.own R.o.q R.o.u.qv (Only.grown (Only.refl _ _) hg (fun y hy => .inl (by simp [hy])))
  have ht2 : Turn Ow [some 52] w1 (w1.setCell ⟨bo, 18, none⟩ u) := Turn.only1 ((Only.refl _ _).setCell _ _ (.inl (by simp))) R.o.u.bo (ht1.blk R.o.k (by decide)) (by simp)
  exact ht2.blk (ht1.blk hb (by decide)) (by decide)
theorem owait_any (sz : Int × Int → Int) (D : Int × Int → Dg) (l : List (Int × Int)) (lv : Value) (h : OutM Ow w bo S) (hl : Seg w 0 54 2 lv l.length (sdQ l)) (hne : ∀ g, lv.ownBlock = some g → S.qv.ownBlock ≠ some g) (hlen : l.length ≤ 1000) (hql : S.Q.length ≤ 1000000) (hT : AllT S.QD)
    (hsh : ∀ (w1 : World) (qv : Value) (T : TQ), OutM Ow w1 bo { S with qv := qv, Q := T.Q, QD := T.QD } → Turn Ow [some 52, none, some 54] w w1 → ∀ x ∈ l, ∃ okb, Calls Tryz.prog 16 #[.pointer (some ⟨bo, 0, none⟩), .agg #[.int .u32 x.1, .int .i64 x.2]] w1 fun e w2 => e = .returned (.tuple #[(D x).val, .bool okb]) ∧ Below w1.heap.size w1 w2)
    (hsz : ∀ w1, ∀ x ∈ l, Calls Tryz.prog 40 #[(D x).val] w1 (RetB (.int .i64 (sz x)) w1)) :
    Calls Tryz.prog 21 #[.pointer (some ⟨bo, 0, none⟩), lv] w fun e w' => ∃ qv v, e = .returned v ∧ WtR Ow w w' bo S lv l qv (wFold S.st sz l ⟨S.Q, S.QD, []⟩) v := by
  obtain ⟨is, his, hs0, hs1, hs2⟩ := info_parts infoSend
  obtain ⟨ii, hii, hi0, hi1, hi2⟩ := info_parts infoItm
  obtain ⟨la, lc, rfl⟩ := hl.form
  have R0 : Hid (WtR Ow w w bo S (.slice la l.length lc) l S.qv (wFold S.st sz (l.take 0) ⟨S.Q, S.QD, []⟩) (.slice none 0 0) ∧ AllT (wFold S.st sz (l.take 0) ⟨S.Q, S.QD, []⟩).QD) := Lib.hid ⟨⟨h, hne, hl, Seg.nil _ _ _ _, Turn.refl _ _ _⟩, hT⟩
  have HSH := Lib.hid hsh
  have HSZ := Lib.hid hsz
  have HLN := Lib.hid (And.intro hlen hql)
  clear h hl hne hsh hsz hlen hql hT
  go_enter Tryz.func21, Tryz.ntmps21
  go_wp2_with fail
  go_loopg [5, 12] l.length (fun gk v5 v12 wr => ∃ (k : Nat) (qv : Value), l.length - k ≤ gk ∧ k ≤ l.length ∧ v12 = .int .i64 (k : Int) ∧ Hid (WtR Ow w wr bo S (.slice la l.length lc) l qv (wFold S.st sz (l.take k) ⟨S.Q, S.QD, []⟩) v5 ∧ AllT (wFold S.st sz (l.take k) ⟨S.Q, S.QD, []⟩).QD))
  case atStart => exact ⟨0, _, by omega, by omega, rfl, R0⟩
  case round =>
    clear R0
    obtain ⟨k, qv, hkg, hk, rfl, HREL⟩ := hrel
    by_cases hlt : k < l.length
    · have hlt' : (k : Int) < (l.length : Int) := by omega
      have hk0 : (0 : Int) ≤ (k : Int) := by omega
      obtain ⟨lg, lo, lc', hlv, _, hlg, _, _⟩ := HREL.out.1.l.shape (by omega)
      cases hlv
      obtain ⟨x, hx⟩ : ∃ x, l[k]? = some x := ⟨_, List.getElem?_eq_getElem hlt⟩
      have HXM : Hid (x ∈ l ∧ wFold S.st sz (l.take (k + 1)) ⟨S.Q, S.QD, []⟩ = wStep S.st sz (wFold S.st sz (l.take k) ⟨S.Q, S.QD, []⟩) x) := Lib.hid ⟨List.mem_of_getElem? hx, by rw [List.take_add_one, hx]; exact wFold_snoc _ _ _ _ _⟩
      have hat := sdQ_at _ _ _ hx
      obtain ⟨x1, x2⟩ := x
      have c0 : wr.cell? ⟨lg, lo + k * 2, none⟩ = some (.int .u32 x1) := by rw [HREL.out.1.l.at (k * 2) (by omega)]; exact hat.1
      have c1 : wr.cell? ⟨lg, lo + k * 2 + 1, none⟩ = some (.int .i64 x2) := by have := HREL.out.1.l.at (k * 2 + 1) (by omega); rw [hat.2] at this; exact this
      obtain ⟨T, hTT⟩ : ∃ T, wFold S.st sz (l.take k) ⟨S.Q, S.QD, []⟩ = T := ⟨_, rfl⟩
      have HLT : Hid (T.Q.length ≤ 1001000 ∧ T.its.length ≤ 1000) := Lib.hid (by
        have h1 := wFold_len S.st sz (l.take k) ⟨S.Q, S.QD, []⟩
        have h2 := HLN.out
        rw [hTT, List.length_take] at h1
        simp only [List.length_nil] at h1
        omega)
      rw [hTT] at HREL HXM
      have hbx := Below.chainAlloc (Below.refl _ wr) (.cells #[.int .u32 x1, .int .i64 x2] 54)
      have HX5 : Hid (Blk (wr.alloc (.cells #[.int .u32 x1, .int .i64 x2] 54)).drew wr.heap.size #[.int .u32 x1, .int .i64 x2] 54 ∧ WtR Ow w (wr.alloc (.cells #[.int .u32 x1, .int .i64 x2] 54)).drew bo S (.slice (some ⟨lg, lo, none⟩) l.length lc) l qv T u5) := Lib.hid ⟨(Blk.new wr _ _).drew, HREL.out.1.below hbx.drew⟩
      have o19 : (wr.alloc (.cells #[.int .u32 x1, .int .i64 x2] 54)).cell? ⟨bo, 19, none⟩ = some (.map (some S.qm)) := (HREL.out.1.below hbx).o.k.facts.1 19
      have hlk := HX5.out.2.o.d.look keyS undSet (x1, x2) (zeroB _) false
      have hbo : bo < wr.heap.size := HREL.out.1.o.k.lt
      have HLTK := Lib.hid hlt
      have HKN : Hid ((.int .i64 ((k : Int) + 1) : Value) = .int .i64 ((k + 1 : Nat) : Int)) := Lib.hid rfl
      have HMS : Hid (l.length - (k + 1) < gk) := Lib.hid (by omega)
      have hkw : wrap64 ((k : Int) + 1) = (k : Int) + 1 := IntWalk.wrap64_in _ (by have := HLN.out; omega)
      have b0 := (Blk.new wr #[.int .u32 x1, .int .i64 x2] 54).facts.1 0
      have b1 := (Blk.new wr #[.int .u32 x1, .int .i64 x2] 54).facts.1 1
      clear hat hx hbx hlt hlg hTT
      cases hgm : getM (x1, x2) T.QD with
      | some vv =>
        have hvv := HREL.out.2 _ _ hgm
        subst hvv
        have HN : Hid (wFold S.st sz (l.take (k + 1)) ⟨S.Q, S.QD, []⟩ = T) := Lib.hid (by rw [HXM.out.2]; unfold wStep; rw [hgm]; rfl)
        have HTT := Lib.hid HREL.out.2
        rw [hgm] at hlk
        simp only [Option.getD_some, Bool.false_eq_true, if_false] at hlk
        unfold encD at hlk
        clear hgm
        go_upto_region 5 with fail
        generalize wr.alloc (.cells #[.int .u32 x1, .int .i64 x2] 54) = W5 at *
        obtain ⟨bb, hbb⟩ : ∃ bb, wr.heap.size = bb := ⟨_, rfl⟩
        rw [hbb] at HX5 b0 b1 ⊢
        clear hbb
        go_still_tail 5, (by kernel_rfl)
        change wpList _ _ _ _ _ (World.drew _)
        go_wp2_with fail
        go_roundg (l.length - (k + 1))
        case measure => exact HMS.out
        case rel => exact ⟨k + 1, qv, Nat.le_refl _, HLTK.out, (by first | exact HKN.out | (rw [hkw]; exact HKN.out)), Lib.hid (by rw [HN.out]; exact ⟨HX5.out.2, HTT.out⟩)⟩
      | none =>
        have HN : Hid (wFold S.st sz (l.take (k + 1)) ⟨S.Q, S.QD, []⟩ = ⟨T.Q ++ [(x1, x2)], putM (x1, x2) (.bool true) T.QD, T.its ++ [(S.st, sz (x1, x2))]⟩) := Lib.hid (by rw [HXM.out.2]; unfold wStep; rw [hgm]; rfl)
        have HTT := Lib.hid (HREL.out.2.put (x1, x2))
        rw [hgm] at hlk
        simp only [Option.getD_none, Bool.false_eq_true, if_false] at hlk
        unfold encD at hlk
        clear hgm
        go_upto_region 5 with fail
        generalize wr.alloc (.cells #[.int .u32 x1, .int .i64 x2] 54) = W5 at *
        obtain ⟨bb, hbb⟩ : ∃ bb, wr.heap.size = bb := ⟨_, rfl⟩
        rw [hbb] at HX5 b0 b1 ⊢
        clear hbb
        go_still_tail 5, (by kernel_rfl)
        change wpList _ _ _ _ _ (World.drew _)
        go_upto_region 6 with fail
        clear o19 hlk
        generalize W5.drew = W5' at *
        obtain ⟨okb, hcc⟩ := HSH.out W5' qv T HX5.out.2.o HX5.out.2.t _ HXM.out.1
        have HCC := Lib.hid hcc
        clear hcc
        have HDS := Lib.hid (fun w1 => HSZ.out w1 _ HXM.out.1)
        generalize sz (x1, x2) = szx at *
        obtain ⟨dx, hdx⟩ : ∃ dx, D (x1, x2) = dx := ⟨_, rfl⟩
        rw [hdx] at HCC HDS
        clear hdx
        obtain ⟨kind, stream, block, index, k1, n1, len, credit, hv, body⟩ := dx
        have HDS2 : Hid (∀ w1, Calls Tryz.prog 40 #[.agg #[.int .i64 kind, .int .i64 stream, .int .u32 block, .int .i64 index, .int .i64 k1, .int .i64 n1, .int .i64 len, .int .i64 credit, Str hv, Str body]] w1 (RetB (.int .i64 szx) w1)) := Lib.hid HDS.out
        clear HDS
        have d0 := HX5.out.1.facts.1 0
        have d1 := HX5.out.1.facts.1 1
        clear b0 b1 c0 c1
        go_wp2_with fail
        refine HCC.out.mono ?_
        rintro e w6 ⟨rfl, hb6⟩
        have hb7 := Below.chainAlloc hb6 (.cells #[.int .i64 kind, .int .i64 stream, .int .u32 block, .int .i64 index, .int .i64 k1, .int .i64 n1, .int .i64 len, .int .i64 credit, Str hv, Str body] 27)
        have HX7 : Hid (Blk (w6.alloc (.cells #[.int .i64 kind, .int .i64 stream, .int .u32 block, .int .i64 index, .int .i64 k1, .int .i64 n1, .int .i64 len, .int .i64 credit, Str hv, Str body] 27)) bb #[.int .u32 x1, .int .i64 x2] 54 ∧ Blk (w6.alloc (.cells #[.int .i64 kind, .int .i64 stream, .int .u32 block, .int .i64 index, .int .i64 k1, .int .i64 n1, .int .i64 len, .int .i64 credit, Str hv, Str body] 27)) w6.heap.size #[.int .i64 kind, .int .i64 stream, .int .u32 block, .int .i64 index, .int .i64 k1, .int .i64 n1, .int .i64 len, .int .i64 credit, Str hv, Str body] 27 ∧ WtR Ow w (w6.alloc (.cells #[.int .i64 kind, .int .i64 stream, .int .u32 block, .int .i64 index, .int .i64 k1, .int .i64 n1, .int .i64 len, .int .i64 credit, Str hv, Str body] 27)) bo S (.slice (some ⟨lg, lo, none⟩) l.length lc) l qv T u5) := Lib.hid ⟨HX5.out.1.below hb7 HX5.out.1.lt, Blk.new _ _ _, HX5.out.2.below hb7⟩
        clear d0 d1 hb6 hb7 HX5 HCC
        go_upto_region 7 with fail
        generalize w6.alloc (.cells #[.int .i64 kind, .int .i64 stream, .int .u32 block, .int .i64 index, .int .i64 k1, .int .i64 n1, .int .i64 len, .int .i64 credit, Str hv, Str body] 27) = W7 at *
        obtain ⟨bd, hbd⟩ : ∃ bd, w6.heap.size = bd := ⟨_, rfl⟩
        rw [hbd] at HX7 ⊢
        clear hbd
        have o19 : W7.cell? ⟨bo, 19, none⟩ = some (.map (some S.qm)) := HX7.out.2.2.o.k.facts.1 19
        have d0 := HX7.out.1.facts.1 0
        have d1 := HX7.out.1.facts.1 1
        obtain ⟨W8, hrun, hm8, ho8⟩ := (HX7.out.2.2.o.d.chain (Below.refl _ W7).drew).put keyS undSet (x1, x2) (.bool true)
        have hod : Only [S.qm] W7 W8 := Only.trans (Only.refl _ _).drew ho8
        have HX8 : Hid (Blk W8 bb #[.int .u32 x1, .int .i64 x2] 54 ∧ Blk W8 bd #[.int .i64 kind, .int .i64 stream, .int .u32 block, .int .i64 index, .int .i64 k1, .int .i64 n1, .int .i64 len, .int .i64 credit, Str hv, Str body] 27 ∧ WtR Ow w W8 bo S (.slice (some ⟨lg, lo, none⟩) l.length lc) l qv ⟨T.Q, putM (x1, x2) (.bool true) T.QD, T.its⟩ u5) := Lib.hid (by
          have ht : Turn Ow [none] W7 W8 := Turn.one hod HX7.out.2.2.o.u.qm HX7.out.2.2.o.d.kind (by simp)
          exact ⟨ht.blk HX7.out.1 (by decide), ht.blk HX7.out.2.1 (by decide), HX7.out.2.2.put hod hm8⟩)
        unfold encD at hrun
        clear hm8 ho8 hod
        go_still_tail 5, (by kernel_rfl)
        change wpList _ _ _ _ _ (World.drew _)
        go_upto_region 8 with fail
        clear hrun o19 d0 d1 HX7
        have o18 : W8.cell? ⟨bo, 18, none⟩ = some qv := HX8.out.2.2.o.k.facts.1 18
        have d0 := HX8.out.1.facts.1 0
        have d1 := HX8.out.1.facts.1 1
        have HK8 : Hid (Seg (W8.drew.alloc (.cells #[.int .u32 x1, .int .i64 x2] 54)) 0 54 2 qv T.Q.length (sdQ T.Q) ∧ Blk (W8.drew.alloc (.cells #[.int .u32 x1, .int .i64 x2] 54)) bo (outC { S with qv := qv, Q := T.Q, QD := putM (x1, x2) (.bool true) T.QD }) 52) := Lib.hid ⟨HX8.out.2.2.o.q.drew.alloc _, HX8.out.2.2.o.k.drew.alloc _⟩
        have HR8 : Hid (WtR Ow w (W8.drew.alloc (.cells #[.int .u32 x1, .int .i64 x2] 54)) bo S (.slice (some ⟨lg, lo, none⟩) l.length lc) l qv ⟨T.Q, putM (x1, x2) (.bool true) T.QD, T.its⟩ u5 ∧ Blk (W8.drew.alloc (.cells #[.int .u32 x1, .int .i64 x2] 54)) bd #[.int .i64 kind, .int .i64 stream, .int .u32 block, .int .i64 index, .int .i64 k1, .int .i64 n1, .int .i64 len, .int .i64 credit, Str hv, Str body] 27) := Lib.hid ⟨HX8.out.2.2.below (Below.chainAlloc (Below.refl _ W8).drew _), HX8.out.2.1.drew.alloc _⟩
        have HNE := Lib.hid (HK8.out.1.ne_blk' HK8.out.2 (by decide))
        have HCN := Lib.hid (cells_new W8.drew [.int .u32 x1, .int .i64 x2] 54)
        have HZ : Hid (∀ u ∈ ([.int .u32 x1, .int .i64 x2] : List Value), u.oneCell' = true) := Lib.hid (by simp [Value.oneCell'])
        have HQL : Hid (T.Q.length + 1 ≤ maxLen ∧ (T.Q.length + 1) * 16 ≤ 140737488355328) := Lib.hid (by have := HLT.out; unfold maxLen; omega)
        have hbo8 : bo < W8.heap.size := HX8.out.2.2.o.k.lt
        have hbb8 : bb < W8.heap.size := HX8.out.1.lt
        go_cut [12] from 12 to 53 (fun v12 wx => v12 = .int .i64 (k : Int) ∧ Hid (∃ qv', Blk wx bd #[.int .i64 kind, .int .i64 stream, .int .u32 block, .int .i64 index, .int .i64 k1, .int .i64 n1, .int .i64 len, .int .i64 credit, Str hv, Str body] 27 ∧ WtR Ow w wx bo S (.slice (some ⟨lg, lo, none⟩) l.length lc) l qv' ⟨T.Q ++ [(x1, x2)], putM (x1, x2) (.bool true) T.QD, T.its⟩ u5))
        case first =>
          go_region_law (first
            | (refine step_append_seg _ rfl (.tmp 37) (.tmp 39) 48 rfl 0 54 is _ 2 16 Tryz.underlying48 his hs0 hs1 hs2 rfl (by decide) qv T.Q.length (sdQ T.Q) rfl HK8.out.1 _ 1 1 [.int .u32 x1, .int .i64 x2] rfl rfl HCN.out HZ.out (by decide) HQL.out.1 HQL.out.2 (Nat.zero_le _) _ rfl ?_; intro g9 o9 c9 w9 hown9 hgrow9 hat9; have hk9 := HK8.out.2.grown hgrow9 (fun e => HNE.out bo e.symm rfl); have e18 := hk9.facts.1 18; have fe18 := hk9.facts.2.1 18))
          all_goals
            go_wp2_with fail
            go_meet
            exact ⟨rfl, Lib.hid ⟨_, HR8.out.1.keep hgrow9 _ HR8.out.2, HR8.out.1.push (x1, x2) rfl hgrow9 hown9 hat9⟩⟩
        case rest =>
        obtain ⟨rfl, HC8⟩ := hcut
        obtain ⟨qv9, hbd9, hR9⟩ := HC8.out
        have HR9 := Lib.hid hR9
        have HKB9 : Hid (∀ w', Below wc.heap.size wc w' → Blk w' bo (outC { S with qv := qv9, Q := T.Q ++ [(x1, x2)], QD := putM (x1, x2) (.bool true) T.QD }) 52 ∧ Blk w' bd #[.int .i64 kind, .int .i64 stream, .int .u32 block, .int .i64 index, .int .i64 k1, .int .i64 n1, .int .i64 len, .int .i64 credit, Str hv, Str body] 27) := Lib.hid fun w' hb' => ⟨hR9.o.k.below hb' hR9.o.k.lt, hbd9.below hb' hbd9.lt⟩
        have HZ2 : Hid (∀ u ∈ ([.int .i64 S.st, .int .i64 szx] : List Value), u.oneCell' = true) := Lib.hid (by simp [Value.oneCell'])
        have HIL : Hid (T.its.length + 1 ≤ maxLen ∧ (T.its.length + 1) * 16 ≤ 140737488355328) := Lib.hid (by have := HLT.out; unfold maxLen; omega)
        have HWS := Lib.hid (hR9.t.size)
        have o11 : wc.cell? ⟨bo, 11, none⟩ = some (.int .i64 S.st) := hR9.o.k.facts.1 11
        have z0 := hbd9.facts.1 0
        have z1 := hbd9.facts.1 1
        have z2 := hbd9.facts.1 2
        have z3 := hbd9.facts.1 3
        have z4 := hbd9.facts.1 4
        have z5 := hbd9.facts.1 5
        have z6 := hbd9.facts.1 6
        have z7 := hbd9.facts.1 7
        have z8 := hbd9.facts.1 8
        have z9 := hbd9.facts.1 9
        have hbo9 : bo < wc.heap.size := hR9.o.k.lt
        clear hR9 hbd9 HC8 o18 d0 d1 HK8 HR8 HNE HCN HZ HQL HX8
        go_upto_region 9 with fail
        go_region_law (first
            | (refine step_append_seg _ rfl (.tmp 43) (.tmp 51) 35 rfl w.heap.size 93 ii _ 2 16 Tryz.underlying35 hii hi0 hi1 hi2 rfl (by decide) u5 T.its.length (itQ T.its) rfl (HR10.out.i.alloc _) _ 1 1 [.int .i64 S.st, .int .i64 szx] rfl rfl (cells_new _ _ _) HZ2.out (by decide) HIL.out.1 HIL.out.2 (by rw [size_alloc]; exact Nat.le_succ_of_le HR10.out.t.size) _ rfl ?_; intro g11 o11' c11 w11 hown11 hgrow11 hat11)
            | (try go_simp; go_at_call 40; (with_reducible refine (HDS2.out _).mono ?_); rintro e w10 ⟨rfl, hb10⟩; have hb10' : Below wc.heap.size wc w10 := Below.chain hb10 (Below.refl _ wc).drew; have HKF := HKB9.out w10 hb10'; have o11c : w10.cell? ⟨bo, 11, none⟩ = some (.int .i64 S.st) := HKF.1.facts.1 11; have HR10 := Lib.hid (HR9.out.below hb10'); clear HKF hb10))
        all_goals
          go_wp2_with fail
          go_roundg (l.length - (k + 1))
          case measure => exact HMS.out
          case rel => exact ⟨k + 1, qv9, Nat.le_refl _, HLTK.out, (by first | exact HKN.out | (rw [hkw]; exact HKN.out)), Lib.hid (by rw [HN.out]; exact ⟨(HR10.out.below (Below.chainAlloc (Below.refl _ _) _)).item (S.st, szx) hgrow11 hown11, HTT.out⟩)⟩
    · obtain rfl : k = l.length := by omega
      have hlt' : ¬ (l.length : Int) < (l.length : Int) := by omega
      clear hlt
      go_wp2_with fail
      go_ret
      exact ⟨_, _, rfl, by have := HREL.out.1; rw [List.take_length] at this; exact this⟩
end
end Go.Proofs.YtnmlmpffmjhihaaGreat
