/-
  Whose turn it is: Next (chapter 17).
-/
import Derived.Test.YtgfbhclkpephnaaDr5
namespace Go.Proofs.Ytgfbhclkpephnaa
open Go Go.RowKit
set_option linter.unusedVariables false
set_option linter.unusedSimpArgs false
set_option maxRecDepth 100000
set_option maxHeartbeats 2000000
def NextPost (base bs : Nat) (S : PS) (m : DM) (n : Int) (w : World) (e : Ending) (w' : World) : Prop :=
  ∃ T q rest x xs, Turned S T ∧ Front T q rest x xs ∧ x.2 ≤ (servP T.quantum q).deficit ∧ e = .returned (.tuple #[itV x, .bool true]) ∧ DPost base bs S m w (takeP T q rest x xs) (n - 1) w'
/-- How all lies at a turn's start. -/
structure NxtR (base bs : Nat) (S : PS) (m : DM) (n : Int) (w : World) (br gk : Nat) (T : PS) (mT : DM) (wr : World) : Prop where
  mu : sumQ muQ T.qs ≤ gk
  t : Turned S T
  ne : T.round ≠ []
  s : SchM wr base bs T mT n
  o : Only (ownM bs S m) w wr
  f : ∀ y ∈ ownM bs T mT, y ∈ ownM bs S m ∨ w.heap.size ≤ y
  nb : br ∉ ownM bs T mT
  b : Blk wr br #[.int .i64 0, .int .i64 0] 35
theorem itC_cons (x : Int × Int) (xs : List (Int × Int)) : itC (x :: xs) = .int .i64 x.1 :: .int .i64 x.2 :: itC xs := rfl
/-- The first queue of the round, and its first item, where they lie. -/
theorem front_at {base bs : Nat} {T : PS} {mT : DM} {n : Int} {wr : World} {q : PQ} {rest : List Int} {x : Int × Int} {xs : List (Int × Int)} (h : SchM wr base bs T mT n) (hf : Front T q rest x xs) :
    ∃ gr offr cr gi offi ci, mT.rv = .slice (some ⟨gr, offr, none⟩) (rest.length + 1) cr ∧ 1 ≤ cr ∧ wr.cell? ⟨bs, 257, none⟩ = some (.slice (some ⟨gr, offr, none⟩) (rest.length + 1) cr) ∧ wr.cell? ⟨gr, offr, none⟩ = some (.pointer (some ⟨mT.B q.id, 0, none⟩)) ∧
      mT.V q.id = .slice (some ⟨gi, offi, none⟩) (xs.length + 1) ci ∧ xs.length + 1 ≤ ci ∧ gr ≠ mT.B q.id ∧ gi ≠ mT.B q.id ∧ gi ≠ bs ∧ bs ≠ mT.B q.id := by
  have hq := (getQ_mem hf.g).1
  have hr := h.r
  rw [hf.r] at hr
  obtain ⟨gr, offr, cr, hv, _, _, h1, _⟩ := hr.shape (by simp)
  have hi := h.i q hq
  rw [hf.i] at hi
  obtain ⟨gi, offi, ci, hvi, _, _, h2, _⟩ := hi.shape (by simp)
  obtain ⟨cs, hcs, _⟩ := h.s
  refine ⟨gr, offr, cr, gi, offi, ci, hv, by simp at h1; omega, by rw [h.cells.2.1, hv]; rfl, ?_, hvi, by simpa using h2, hr.ne_blk (h.q q hq) (by decide) gr (by rw [hv]; rfl), hi.ne_blk (h.q q hq) (by decide) gi (by rw [hvi]; rfl), hi.ne_blk hcs (by decide) gi (by rw [hvi]; rfl), hcs.ne_ty (h.q q hq) (by decide)⟩
  rw [hv] at hr
  have := hr.at 0 (by simp)
  rw [Nat.add_zero] at this
  rw [this]
  rfl
theorem NxtR.turn {base bs : Nat} {S : PS} {m : DM} {n : Int} {w : World} {br gk : Nat} {T : PS} {mT : DM} {wr W7 w9 : World} {q : PQ} {rest : List Int} {x : Int × Int} {xs : List (Int × Int)} {rv : Value} (h : NxtR base bs S m n w br gk T mT wr) (hf : Front T q rest x xs) (hok : T.Ok) (hd : (servP T.quantum q).deficit < x.2)
    (ho7 : Only (ownM bs S m) w W7) (hb7 : Blk W7 br #[.int .i64 0, .int .i64 0] 35) (hs9 : SchM w9 base bs { ({ T with qs := putQ { servP T.quantum q with served := false } T.qs } : PS) with round := rest ++ [q.id] } { mT with rv := rv } n) (ho9 : Only (bs :: mT.rv.ownBlock.toList) W7 w9)
    (hw9 : ∀ y ∈ ownM bs { ({ T with qs := putQ { servP T.quantum q with served := false } T.qs } : PS) with round := rest ++ [q.id] } { mT with rv := rv }, y ∈ ownM bs { T with qs := putQ { servP T.quantum q with served := false } T.qs } mT ∨ W7.heap.size ≤ y) (hbr : br < W7.heap.size) :
    NxtR base bs S m n w br (sumQ muQ (turnP T q rest).qs) (turnP T q rest) { mT with rv := rv } w9 := by
  have hq := (getQ_mem hf.g).1
  have hsub : ∀ y ∈ ownM bs { T with qs := putQ { servP T.quantum q with served := false } T.qs } mT, y ∈ ownM bs T mT := own_setQ (q := q) (q' := { servP T.quantum q with served := false }) (servP_id _ _) hq
  have hX : ∀ y ∈ bs :: mT.rv.ownBlock.toList, y ∈ ownM bs T mT := fun y hy => by
    rcases List.mem_cons.1 hy with e | hy
    · rw [e]; exact own_bs _ _ _
    · exact own_rv _ _ _ hy
  refine ⟨Nat.le_refl _, .snoc h.t hf hd, by simp [turnP], hs9, ho7.trans' ho9 (fun y hy => h.f y (hX y hy)), fun y hy => ?_, fun hm => ?_, hb7.only ho9 (fun hm => h.nb (hX _ hm))⟩
  · rcases hw9 y hy with hy | hy
    · exact h.f y (hsub y hy)
    · exact .inr (Nat.le_trans ho7.size hy)
  · rcases hw9 br hm with hy | hy
    · exact h.nb (hsub _ hy)
    · omega
def PS.wq (T : PS) (q : PQ) : PS := { T with qs := putQ q T.qs }
theorem getQ_wq {T : PS} {q qa : PQ} (hg : getQ q.id T.qs = some q) (ha : qa.id = q.id) : getQ qa.id (T.wq qa).qs = some qa := by
  show getQ qa.id (putQ qa T.qs) = _
  rw [getQ_putQ (q0 := q) (by rw [ha]; exact hg), if_pos rfl]
theorem wq_wq {T : PS} {qa qb : PQ} (h : qb.id = qa.id) : ({ T.wq qa with qs := putQ qb (T.wq qa).qs } : PS) = T.wq qb := by
  show PS.mk _ (putQ qb (putQ qa T.qs)) _ = PS.mk _ _ _
  rw [putQ_putQ h]
  rfl
theorem SchM.wqQ {w : World} {base bs : Nat} {T : PS} {mT : DM} {n : Int} {q qa : PQ} (h : SchM w base bs (T.wq qa) mT n) (hg : getQ q.id T.qs = some q) (ha : qa.id = q.id) (o : Nat) (v : Value) (qb : PQ) (hb : qb.id = q.id) (hit : qb.items = qa.items) (hc : qb.cells (mT.V q.id) = (qa.cells (mT.V q.id)).setIfInBounds o v) :
    SchM (w.setCell ⟨mT.B q.id, o, none⟩ v) base bs (T.wq qb) mT n := by
  have h1 := getQ_wq hg ha
  have hbl := h.q _ (getQ_mem h1).1
  rw [ha] at hbl
  have := h.setQ (q' := qb) (w' := w.setCell ⟨mT.B q.id, o, none⟩ v) h1 (by rw [ha, hb]) hit (by rw [ha]; exact hbl.setAt o v hc) (by rw [ha]; exact (Only.refl _ _).setCell _ _ (.inl (by simp)))
  rwa [wq_wq (by rw [ha, hb])] at this
theorem SchM.wqCut {w : World} {base bs : Nat} {T : PS} {mT : DM} {n : Int} {q qa : PQ} {x : Int × Int} {xs : List (Int × Int)} (h : SchM w base bs (T.wq qa) mT n) (hg : getQ q.id T.qs = some q) (ha : qa.id = q.id) (hi : qa.items = x :: xs) {g off cp : Nat} (hv : mT.V q.id = .slice (some ⟨g, off, none⟩) (xs.length + 1) cp) (off' : Nat) (ho : off' = off + 2 ∨ cp = 1 ∧ off' = off) :
    SchM (w.setCell ⟨mT.B q.id, 4, none⟩ (.slice (some ⟨g, off', none⟩) xs.length (cp - 1))) base bs (T.wq { qa with items := xs }) (mT.setV q.id (.slice (some ⟨g, off', none⟩) xs.length (cp - 1))) n := by
  have h1 := getQ_wq hg ha
  have hq := (getQ_mem h1).1
  have hs := h.i qa hq
  have hb := h.q qa hq
  rw [← ha] at hv ⊢
  rw [hi, hv] at hs
  have ht := Seg.tail (n := xs.length) hs off' ho
  have hgb := hs.ne_blk hb (by decide) g rfl
  have hx : ∀ g', (Value.slice (some ⟨g, off', none⟩) xs.length (cp - 1)).ownBlock = some g' → g' ≠ mT.B qa.id := fun g' e => by
    obtain rfl : g = g' := by simpa [Value.ownBlock] using e
    exact hgb
  have := h.setItems (q' := { qa with items := xs }) (v := .slice (some ⟨g, off', none⟩) xs.length (cp - 1)) (w' := w.setCell ⟨mT.B qa.id, 4, none⟩ (.slice (some ⟨g, off', none⟩) xs.length (cp - 1))) h1 rfl (hb.setAt 4 _ rfl) (ht.setOther _ _ hx) ((Only.refl _ _).setCell _ _ (.inl (by simp))) (.inl (by rw [hv]; rfl))
  have e := wq_wq (T := T) (qa := qa) (qb := { qa with items := xs }) rfl
  exact e ▸ this
theorem own_wq {bs : Nat} {T : PS} {mT : DM} {q qb : PQ} {g off' k c : Nat} (hg : getQ q.id T.qs = some q) (hb : qb.id = q.id) (hv : (mT.V q.id).ownBlock = some g) : ∀ y ∈ ownM bs (T.wq qb) (mT.setV q.id (.slice (some ⟨g, off', none⟩) k c)), y ∈ ownM bs T mT := fun y hy => by
  rcases own_putQ hb (getQ_mem hg).1 hy with hy | hy
  · exact hy
  · have e : g = y := by simpa [Value.ownBlock] using hy
    exact own_V bs (getQ_mem hg).1 (by rw [hv, e]; simp)
def TakeFin (base bs br : Nat) (T : PS) (mT : DM) (n : Int) (W6 : World) (S' : PS) (W : World) : Prop :=
  ∃ m', SchM W base bs S' m' (n - 1) ∧ Only (br :: ownM bs T mT) W6 W ∧ ∀ y ∈ ownM bs S' m', y ∈ ownM bs T mT
theorem TakeFin.drew {base bs br : Nat} {T : PS} {mT : DM} {n : Int} {W6 W : World} {S' : PS} (h : TakeFin base bs br T mT n W6 S' W) : TakeFin base bs br T mT n W6 S' W.drew := by
  obtain ⟨m', h1, h2, h3⟩ := h
  exact ⟨m', h1.chain (Below.refl _ W).drew, h2.drew, h3⟩
theorem take_more {base bs br : Nat} {T : PS} {mT : DM} {n : Int} {W6 : World} {q : PQ} {rest : List Int} {x : Int × Int} {xs : List (Int × Int)} (h : SchM W6 base bs (T.wq (servP T.quantum q)) mT n) (hf : Front T q rest x xs) (hne : xs ≠ []) {g off cp : Nat} (hv : mT.V q.id = .slice (some ⟨g, off, none⟩) (xs.length + 1) cp) (off' : Nat) (ho : off' = off + 2 ∨ cp = 1 ∧ off' = off) (hbr : br ∉ ownM bs T mT) (u1 u2 : Value) :
    TakeFin base bs br T mT n W6 (takeP T q rest x xs) (((((W6.setCell ⟨mT.B q.id, 2, none⟩ (.int .i64 ((servP T.quantum q).deficit - x.2))).setCell ⟨mT.B q.id, 4, none⟩ (.slice (some ⟨g, off', none⟩) xs.length (cp - 1))).setCell ⟨bs, 258, none⟩ (.int .i64 (n - 1))).setCell ⟨br, 0, none⟩ u1).setCell ⟨br, 1, none⟩ u2) := by
  have h1 := h.wqQ hf.g (servP_id _ _) 2 (.int .i64 ((servP T.quantum q).deficit - x.2)) { servP T.quantum q with deficit := (servP T.quantum q).deficit - x.2 } (servP_id _ _) rfl rfl
  have h2 := (h1.wqCut (x := x) hf.g (servP_id _ _) ((servP_items _ _).trans hf.i) hv off' ho).setN (n - 1)
  have e : T.wq { ({ servP T.quantum q with deficit := (servP T.quantum q).deficit - x.2 } : PQ) with items := xs } = takeP T q rest x xs := by
    unfold takeP takeQ PS.wq
    rw [if_neg hne, if_neg hne]
  have how := own_wq (bs := bs) (off' := off') (k := xs.length) (c := cp - 1) (qb := { ({ servP T.quantum q with deficit := (servP T.quantum q).deficit - x.2 } : PQ) with items := xs }) hf.g (servP_id _ _) (mT := mT) (g := g) (by rw [hv]; rfl)
  rw [e] at h2 how
  have hqm := (getQ_mem hf.g).1
  have m1 : mT.B q.id ∈ br :: ownM bs T mT := List.mem_cons_of_mem _ (own_B bs hqm)
  have m2 : bs ∈ br :: ownM bs T mT := List.mem_cons_of_mem _ (own_bs _ _ _)
  refine ⟨_, h2.keep (((Only.refl [br] _).setCell ⟨br, 0, none⟩ u1 (.inl (by simp))).setCell ⟨br, 1, none⟩ u2 (.inl (by simp))) (fun y hy hm => hbr (by
    have : y = br := by simpa using hm
    exact this ▸ how y hy)), ?_, how⟩
  exact (((((Only.refl _ W6).setCell ⟨mT.B q.id, 2, none⟩ _ (.inl m1)).setCell ⟨mT.B q.id, 4, none⟩ _ (.inl m1)).setCell ⟨bs, 258, none⟩ _ (.inl m2)).setCell ⟨br, 0, none⟩ _ (.inl List.mem_cons_self)).setCell ⟨br, 1, none⟩ _ (.inl List.mem_cons_self)
theorem take_last {base bs br : Nat} {T : PS} {mT : DM} {n : Int} {W6 : World} {q : PQ} {rest : List Int} {x : Int × Int} (h : SchM W6 base bs (T.wq (servP T.quantum q)) mT n) (hf : Front T q rest x []) {g off cp : Nat} (hv : mT.V q.id = .slice (some ⟨g, off, none⟩) (0 + 1) cp) (off' : Nat) (ho : off' = off + 2 ∨ cp = 1 ∧ off' = off)
    {gr offr cr : Nat} (hr : mT.rv = .slice (some ⟨gr, offr, none⟩) (rest.length + 1) cr) (offr' : Nat) (hor : offr' = offr + 1 ∨ cr = 1 ∧ offr' = offr) (hbr : br ∉ ownM bs T mT) (u1 u2 : Value) :
    TakeFin base bs br T mT n W6 (takeP T q rest x []) (((((((W6.setCell ⟨mT.B q.id, 2, none⟩ (.int .i64 ((servP T.quantum q).deficit - x.2))).setCell ⟨mT.B q.id, 4, none⟩ (.slice (some ⟨g, off', none⟩) 0 (cp - 1))).setCell ⟨bs, 258, none⟩ (.int .i64 (n - 1))).setCell ⟨mT.B q.id, 2, none⟩ (.int .i64 0)).setCell ⟨bs, 257, none⟩ (.slice (some ⟨gr, offr', none⟩) rest.length (cr - 1))).setCell ⟨br, 0, none⟩ u1).setCell ⟨br, 1, none⟩ u2) := by
  have h1 := h.wqQ hf.g (servP_id _ _) 2 (.int .i64 ((servP T.quantum q).deficit - x.2)) { servP T.quantum q with deficit := (servP T.quantum q).deficit - x.2 } (servP_id _ _) rfl rfl
  have h2 := (h1.wqCut (x := x) (xs := []) hf.g (servP_id _ _) ((servP_items _ _).trans hf.i) hv off' ho).setN (n - 1)
  have h3 := h2.wqQ hf.g (servP_id _ _) 2 (.int .i64 0) { servP T.quantum q with deficit := 0, items := [] } (servP_id _ _) rfl rfl
  have h4 := round_cut (id := q.id) (rest := rest) h3 hf.r (show (mT.setV q.id _).rv = _ from hr) offr' hor
  have e : ({ T.wq { servP T.quantum q with deficit := 0, items := [] } with round := rest } : PS) = takeP T q rest x [] := by
    unfold takeP takeQ PS.wq
    rw [if_pos rfl, if_pos rfl]
  have how := own_wq (bs := bs) (off' := off') (k := 0) (c := cp - 1) (qb := { servP T.quantum q with deficit := 0, items := [] }) hf.g (servP_id _ _) (mT := mT) (g := g) (by rw [hv]; rfl)
  rw [e] at h4
  have how2 := fun y hy => how y (h4.2 y hy)
  have hqm := (getQ_mem hf.g).1
  have m1 : mT.B q.id ∈ br :: ownM bs T mT := List.mem_cons_of_mem _ (own_B bs hqm)
  have m2 : bs ∈ br :: ownM bs T mT := List.mem_cons_of_mem _ (own_bs _ _ _)
  refine ⟨_, h4.1.keep (((Only.refl [br] _).setCell ⟨br, 0, none⟩ u1 (.inl (by simp))).setCell ⟨br, 1, none⟩ u2 (.inl (by simp))) (fun y hy hm => hbr (by
    have : y = br := by simpa using hm
    exact this ▸ how2 y hy)), ?_, how2⟩
  exact (((((((Only.refl _ W6).setCell ⟨mT.B q.id, 2, none⟩ _ (.inl m1)).setCell ⟨mT.B q.id, 4, none⟩ _ (.inl m1)).setCell ⟨bs, 258, none⟩ _ (.inl m2)).setCell ⟨mT.B q.id, 2, none⟩ _ (.inl m1)).setCell ⟨bs, 257, none⟩ _ (.inl m2)).setCell ⟨br, 0, none⟩ _ (.inl List.mem_cons_self)).setCell ⟨br, 1, none⟩ _ (.inl List.mem_cons_self)
/-- The end of a taking. -/
theorem take_post {base bs br : Nat} {S T : PS} {m mT : DM} {n : Int} {w wr W6 W : World} {gk : Nat} {q : PQ} {rest : List Int} {x : Int × Int} {xs : List (Int × Int)} (h : NxtR base bs S m n w br gk T mT wr) (hf : Front T q rest x xs) (hd : ¬ (servP T.quantum q).deficit < x.2) (ho : Only (ownM bs S m) w W6) (hbr : w.heap.size ≤ br) (ht : TakeFin base bs br T mT n W6 (takeP T q rest x xs) W) :
    NextPost base bs S m n w (.returned (.tuple #[itV x, .bool true])) W := by
  obtain ⟨m', h1, h2, h3⟩ := ht
  refine ⟨T, q, rest, x, xs, h.t, hf, by omega, rfl, m', h1, ho.trans' h2 (fun y hy => ?_), fun y hy => h.f y (h3 y hy)⟩
  rcases List.mem_cons.1 hy with e | hy
  · exact .inr (by rw [e]; exact hbr)
  · exact h.f y hy
theorem dnext_ok (bs base : Nat) (S : PS) (m : DM) (n : Int) (w : World) (h : SchM w base bs S m n) (ho : S.Ok) (hr : S.round ≠ []) (hn : 1 ≤ n ∧ n ≤ 60001) : Calls Try.prog 20 #[.pointer (some ⟨bs, 0, none⟩)] w (NextPost base bs S m n w) := by
  have hB := Below.chainAlloc (Below.refl _ w) (.cells #[.int .i64 0, .int .i64 0] 35)
  have hst : NxtR base bs S m n w w.heap.size (sumQ muQ S.qs) S m (w.alloc (.cells #[.int .i64 0, .int .i64 0] 35)) :=
    ⟨Nat.le_refl _, .refl, hr, h.chain hB, Only.of_below hB, fun y hy => .inl hy, fun hm => by have := (h.own_lt hm).2; omega, Blk.new _ _ _⟩
  have HST := Lib.hid hst
  have HO := Lib.hid ho
  have HN := Lib.hid hn
  obtain ⟨p0, hp, hp0, hp1, hp2⟩ := info_parts infoPtr
  have hlen0 : ¬ (0 : Int) < 0 := by omega
  clear h ho hr hB hst hn hlen0
  generalize hbr : w.heap.size = br at HST
  have HBR := Lib.hid hbr
  have hnw : wrap64 (n - 1) = n - 1 := IntWalk.wrap64_in _ (by have := HN.out; omega)
  go_enter Try.func20, Try.ntmps20
  go_wp2_with fail
  go_step3
  go_wp2_with fail
  go_step3
  go_wp2_with fail
  generalize w.alloc (.cells #[.int .i64 0, .int .i64 0] 35) = W0 at *
  clear hbr
  go_loopg [] (sumQ muQ S.qs) (fun gk wr => ∃ (T : PS) (mT : DM), Hid (NxtR base bs S m n w br gk T mT wr))
  case atStart => exact ⟨_, _, HST⟩
  case round =>
    clear HST
    obtain ⟨T, mT, HR⟩ := hrel
    have hok := HR.out.t.ok HO.out
    obtain ⟨q, rest, x, xs, hf⟩ := hok.front HR.out.ne
    obtain ⟨gr, offr, cr, gi, offi, ci, hrv, hcr, c257, cr0, hiv, hci, n1, n2, n3, n4⟩ := front_at HR.out.s hf
    have HF := Lib.hid hf
    have HRV := Lib.hid hrv
    have HIV := Lib.hid hiv
    have HNE := Lib.hid (And.intro n1 (And.intro n2 (And.intro n3 n4)))
    have HSV := Lib.hid (dserve_any bs base T mT n q wr HR.out.s hok hf.g)
    have hq := hok.q q (getQ_mem hf.g).1
    have hx := hq.it x (by rw [hf.i]; exact List.mem_cons_self)
    have HDF := Lib.hid (servP_df hok.qm hq)
    have HX := Lib.hid hx
    have HG1 : Hid (getQ q.id (putQ (servP T.quantum q) T.qs) = some (servP T.quantum q)) := Lib.hid (by
      rw [getQ_putQ (by rw [servP_id]; exact hf.g), servP_id, if_pos rfl])
    have HQ := Lib.hid (getQ_mem hf.g).1
    have hrl0 : (0 : Int) < ((rest.length + 1 : Nat) : Int) := by omega
    have hrl1 : (0 : Int) < (rest.length : Int) + 1 := by omega
    have hxl1 : (0 : Int) < (xs.length : Int) + 1 := by omega
    have HCR := Lib.hid hcr
    have HCI := Lib.hid hci
    have HOK := Lib.hid hok
    clear hf hrv hiv n1 n2 n3 n4 hok hq hx hcr hci
    generalize hbe : mT.B q.id = b at *
    have HBE := Lib.hid hbe
    clear hbe
    go_wp2_with fail
    refine HSV.out.mono ?_
    rintro e w5 ⟨rfl, hs5, ho5⟩
    have hb5 := hs5.q _ (getQ_mem HG1.out).1
    have hi5 := hs5.i _ (getQ_mem HG1.out).1
    rw [servP_id, HBE.out, HIV.out] at hb5
    rw [servP_id, HIV.out, servP_items, HF.out.i] at hi5
    have i0 : w5.cell? ⟨gi, offi, none⟩ = some (.int .i64 x.1) := by
      have := hi5.at 0 (by first | omega | (simp; omega))
      rw [Nat.add_zero] at this
      rw [this]
      rfl
    have i1 : w5.cell? ⟨gi, offi + 1, none⟩ = some (.int .i64 x.2) := by
      rw [hi5.at 1 (by first | omega | (simp; omega))]
      rfl
    have k4 : w5.cell? ⟨b, 4, none⟩ = some (.slice (some ⟨gi, offi, none⟩) (xs.length + 1) ci) := hb5.facts.1 4
    have hbr5 := HR.out.b.only ho5 (fun hm => HR.out.nb (by
      have e : br = b := by simpa using hm
      rw [e, ← HBE.out]
      exact own_B bs HQ.out))
    have HS5 := Lib.hid hs5
    have HO5 := Lib.hid ho5
    have HB5 := Lib.hid hb5
    have HBR5 := Lib.hid hbr5
    clear hs5 ho5 hb5 hi5 hbr5 HSV c257 cr0
    go_upto_region 7 with fail
    have hB6 := Below.chainAlloc (Below.refl _ w5) (.cells #[.int .i64 x.1, .int .i64 x.2] 35)
    have h6 := HS5.out.chain hB6
    have hk6 := HB5.out.alloc (.cells #[.int .i64 x.1, .int .i64 x.2] 35)
    have hbr6 := HBR5.out.alloc (.cells #[.int .i64 x.1, .int .i64 x.2] 35)
    have hxb := Blk.new w5 #[.int .i64 x.1, .int .i64 x.2] 35
    have hO5 : Only (ownM bs S m) w w5 := HR.out.o.trans' HO5.out (fun y hy => by
      have e : y = mT.B q.id := by rw [HBE.out]; simpa using hy
      exact HR.out.f y (by rw [e]; exact own_B bs HQ.out))
    have hO6 := hO5.alloc (.cells #[.int .i64 x.1, .int .i64 x.2] 35)
    have hf6 : ∀ y ∈ ownM bs { T with qs := putQ (servP T.quantum q) T.qs } mT, y ∈ ownM bs T mT := own_setQ (servP_id _ _) HQ.out
    have hq1 : w5.heap.size ≠ b := by have := HB5.out.lt; omega
    have hq2 : w5.heap.size ≠ br := by have := HBR5.out.lt; omega
    have hq3 : w5.heap.size ≠ bs := by have := HS5.out.blt; omega
    have H6 := Lib.hid h6
    have HK6 := Lib.hid hk6
    have HBR6 := Lib.hid hbr6
    have HXB := Lib.hid hxb
    have HO6 := Lib.hid hO6
    have HF6 := Lib.hid hf6
    have HBQ := Lib.hid (And.intro hq1 (And.intro hq2 hq3))
    clear h6 hk6 hbr6 hxb hO5 hO6 hf6 hq1 hq2 hq3 hB6 HS5 HO5 HB5 HBR5 i0 i1 k4
    generalize w5.alloc (.cells #[.int .i64 x.1, .int .i64 x.2] 35) = W6 at *
    generalize w5.heap.size = bq at *
    have j1 : W6.cell? ⟨bq, 1, none⟩ = some (.int .i64 x.2) := HXB.out.facts.1 1
    have k2 : W6.cell? ⟨b, 2, none⟩ = some (.int .i64 (servP T.quantum q).deficit) := HK6.out.facts.1 2
    by_cases hd : (servP T.quantum q).deficit < x.2
    · have HD := Lib.hid hd
      go_region
      have k3 : W6.cell? ⟨b, 3, none⟩ = some (.bool (servP T.quantum q).served) := HK6.out.facts.1 3
      have kf := HK6.out.facts.2.1
      have h7 := (H6.out.chain (Below.refl _ W6).drew).setQ (q := servP T.quantum q) (q' := { servP T.quantum q with served := false }) (w' := (W6.setCell ⟨mT.B (servP T.quantum q).id, 3, none⟩ (.bool false)).drew) (by rw [servP_id]; exact HG1.out) rfl rfl ((H6.out.q _ (getQ_mem HG1.out).1).drew.setAt 3 _ rfl) ((Only.refl _ W6.drew).setCell ⟨mT.B (servP T.quantum q).id, 3, none⟩ (.bool false) (.inl (by simp)))
      rw [servP_id, HBE.out] at h7
      have e7 : ({ ({ T with qs := putQ (servP T.quantum q) T.qs } : PS) with qs := putQ { servP T.quantum q with served := false } (putQ (servP T.quantum q) T.qs) } : PS) = { T with qs := putQ { servP T.quantum q with served := false } T.qs } := by
        show PS.mk _ _ _ = PS.mk _ _ _
        rw [putQ_putQ (q := servP T.quantum q) (q' := { servP T.quantum q with served := false }) rfl]
      rw [e7] at h7
      have hO7 : Only (ownM bs S m) w (W6.setCell ⟨b, 3, none⟩ (.bool false)).drew := HO6.out.drew.setCell ⟨b, 3, none⟩ (.bool false) (by
        rw [← HBE.out]
        exact HR.out.f _ (own_B bs HQ.out))
      have hbr7 : Blk (W6.setCell ⟨b, 3, none⟩ (.bool false)).drew br #[.int .i64 0, .int .i64 0] 35 := HBR6.out.drew.setOther ⟨b, 3, none⟩ (.bool false) (fun e => HR.out.nb (by
        have e' : br = b := e
        rw [e', ← HBE.out]; exact own_B bs HQ.out))
      have H7 := Lib.hid h7
      have HO7 := Lib.hid hO7
      have HBR7 := Lib.hid hbr7
      clear h7 e7 hO7 hbr7
      go_upto_region 9 with fail
      clear k3 kf j1 k2
      generalize (W6.setCell ⟨b, 3, none⟩ (.bool false)).drew = W7 at *
      have c257 : W7.cell? ⟨bs, 257, none⟩ = some (.slice (some ⟨gr, offr, none⟩) (rest.length + 1) cr) := by
        rw [H7.out.cells.2.1, HRV.out]
      obtain ⟨cs, hcs, hcc⟩ := H7.out.s
      have hcc' := hcc.r
      rw [HRV.out] at hcc'
      have HCR2 := Lib.hid hcc'
      have hr7 := H7.out.r
      have e7 : ({ T with qs := putQ { servP T.quantum q with served := false } T.qs } : PS).round = q.id :: rest := HF.out.r
      rw [e7, HRV.out] at hr7
      have HSC : Hid (Blk W7 bs cs 98 ∧ some bs ≠ some gr) := Lib.hid ⟨hcs, fun e => hr7.ne_blk hcs (by decide) gr rfl (by simpa using e.symm)⟩
      have HR7 := Lib.hid hr7
      have hrl := HOK.out.rlen
      rw [HF.out.r, List.length_cons] at hrl
      have HM : Hid (rest.length + 1 ≤ maxLen ∧ (rest.length + 1) * 8 ≤ 140737488355328) := Lib.hid ⟨by simp only [maxLen]; omega, by omega⟩
      have HBW : Hid (base ≤ W7.heap.size + 1) := Lib.hid (by have := H7.out.bs; have := H7.out.blt; omega)
      have HBRW : Hid (br < W7.heap.size) := Lib.hid HBR7.out.lt
      clear hcs hcc hcc' hr7 e7 hrl
      by_cases hc1 : cr = 1
      · subst hc1
        have HTL : Hid (Seg W7 base 94 1 (.slice (some ⟨gr, offr, none⟩) rest.length 0) rest.length (rdC mT rest)) := Lib.hid (Seg.tail (n := rest.length) HR7.out offr (.inr ⟨rfl, rfl⟩))
        clear HR7
        go_wp2_with (at_builtin; refine wpList_append_seg _ rfl (.tmp 45) (.tmp 47) 96 rfl base 94 p0 _ 1 8 Try.underlying96 hp hp0 hp1 hp2 rfl (by decide) (.slice (some ⟨gr, offr, none⟩) rest.length (0)) rest.length (rdC mT rest) rfl (HTL.out.alloc _) ⟨W7.heap.size, 0, none⟩ 1 1 [.pointer (some ⟨b, 0, none⟩)] rfl rfl (cells_new _ _ _) (by simp [Value.oneCell']) (by decide) HM.out.1 HM.out.2 (by rw [size_alloc]; exact HBW.out) (W7.heap.size + 1) (size_alloc _ _) ?_; intro g off cap w8 hown hgrow hat; have hk2 := (HSC.out.1.alloc _).grown hgrow HSC.out.2; have g2 : w8.cell? ⟨bs, 257, none⟩ = some (.slice (some ⟨gr, offr, none⟩) (rest.length + 1) 1) := (hk2.facts.1 257).trans HCR2.out; have g3 : w8.frozen? ⟨bs, 257, none⟩ = false := hk2.facts.2.1 257)
        have hO8 : Only mT.rv.ownBlock.toList W7 w8 := HRV.out ▸ Only.grown (S := (Value.slice (some ⟨gr, offr, none⟩) rest.length (0)).ownBlock.toList) (Only.alloc (Only.refl _ W7) _) hgrow (fun x hx => .inl (by rw [hx]; simp))
        have hat2 : mT.rv.ownBlock = some g ∨ W7.heap.size ≤ g := HRV.out ▸ hat.imp id (fun e => by omega)
        have hown2 : Seg w8 base 94 1 (.slice (some ⟨g, off, none⟩) (rest.length + 1) cap) (rest.length + 1) (rdC mT rest ++ [.pointer (some ⟨mT.B q.id, 0, none⟩)]) := by rw [HBE.out]; exact hown
        obtain ⟨hs9, ho9, hw9⟩ := round_fin2 (id := q.id) (rest := rest) H7.out g off cap w8 hown2 hO8 hat2
        have HN9 := Lib.hid (NxtR.turn HR.out HF.out HOK.out HD.out HO7.out HBR7.out hs9 ho9 hw9 HBRW.out)
        have HMU := Lib.hid (turnP_mu HOK.out HF.out HD.out)
        clear hO8 hat2 hown2 hs9 ho9 hw9 hown hgrow hat hk2
        go_roundg (sumQ muQ (turnP T q rest).qs)
        case measure => have := HMU.out; have := HR.out.mu; omega
        case rel => exact ⟨_, _, HN9⟩
      · have hcr1 : 1 ≤ cr := HCR.out
        have HTL : Hid (Seg W7 base 94 1 (.slice (some ⟨gr, offr + 1, none⟩) rest.length (cr - 1)) rest.length (rdC mT rest)) := Lib.hid (Seg.tail (n := rest.length) HR7.out (offr + 1) (.inl rfl))
        clear HR7
        go_wp2_with (at_builtin; refine wpList_append_seg _ rfl (.tmp 45) (.tmp 47) 96 rfl base 94 p0 _ 1 8 Try.underlying96 hp hp0 hp1 hp2 rfl (by decide) (.slice (some ⟨gr, offr + 1, none⟩) rest.length (cr - 1)) rest.length (rdC mT rest) rfl (HTL.out.alloc _) ⟨W7.heap.size, 0, none⟩ 1 1 [.pointer (some ⟨b, 0, none⟩)] rfl rfl (cells_new _ _ _) (by simp [Value.oneCell']) (by decide) HM.out.1 HM.out.2 (by rw [size_alloc]; exact HBW.out) (W7.heap.size + 1) (size_alloc _ _) ?_; intro g off cap w8 hown hgrow hat; have hk2 := (HSC.out.1.alloc _).grown hgrow HSC.out.2; have g2 : w8.cell? ⟨bs, 257, none⟩ = some (.slice (some ⟨gr, offr, none⟩) (rest.length + 1) cr) := (hk2.facts.1 257).trans HCR2.out; have g3 : w8.frozen? ⟨bs, 257, none⟩ = false := hk2.facts.2.1 257)
        have hO8 : Only mT.rv.ownBlock.toList W7 w8 := HRV.out ▸ Only.grown (S := (Value.slice (some ⟨gr, offr + 1, none⟩) rest.length (cr - 1)).ownBlock.toList) (Only.alloc (Only.refl _ W7) _) hgrow (fun x hx => .inl (by rw [hx]; simp))
        have hat2 : mT.rv.ownBlock = some g ∨ W7.heap.size ≤ g := HRV.out ▸ hat.imp id (fun e => by omega)
        have hown2 : Seg w8 base 94 1 (.slice (some ⟨g, off, none⟩) (rest.length + 1) cap) (rest.length + 1) (rdC mT rest ++ [.pointer (some ⟨mT.B q.id, 0, none⟩)]) := by rw [HBE.out]; exact hown
        obtain ⟨hs9, ho9, hw9⟩ := round_fin2 (id := q.id) (rest := rest) H7.out g off cap w8 hown2 hO8 hat2
        have HN9 := Lib.hid (NxtR.turn HR.out HF.out HOK.out HD.out HO7.out HBR7.out hs9 ho9 hw9 HBRW.out)
        have HMU := Lib.hid (turnP_mu HOK.out HF.out HD.out)
        clear hO8 hat2 hown2 hs9 ho9 hw9 hown hgrow hat hk2
        go_roundg (sumQ muQ (turnP T q rest).qs)
        case measure => have := HMU.out; have := HR.out.mu; omega
        case rel => exact ⟨_, _, HN9⟩
    · have HD := Lib.hid hd
      go_region
      have HW := Lib.hid (And.intro (H6.out.chain (Below.refl _ W6).drew) (And.intro (HK6.out.drew) (And.intro HBR6.out.drew (And.intro HXB.out.drew HO6.out.drew))))
      clear H6 HK6 HBR6 HXB HO6 j1 k2
      generalize W6.drew = Wd at *
      obtain ⟨h6, hk6, hbr6, hxb, ho6⟩ := HW.out
      have H6 := Lib.hid h6
      have HO6 := Lib.hid ho6
      have hdw : wrap64 ((servP T.quantum q).deficit - x.2) = (servP T.quantum q).deficit - x.2 := IntWalk.wrap64_in _ (by have := HDF.out; have := HX.out; omega)
      have kf := hk6.facts.2.1
      have k4 : Wd.cell? ⟨b, 4, none⟩ = some (.slice (some ⟨gi, offi, none⟩) (xs.length + 1) ci) := hk6.facts.1 4
      have k2 : Wd.cell? ⟨b, 2, none⟩ = some (.int .i64 (servP T.quantum q).deficit) := hk6.facts.1 2
      have j0 : Wd.cell? ⟨bq, 0, none⟩ = some (.int .i64 x.1) := hxb.facts.1 0
      have j1 : Wd.cell? ⟨bq, 1, none⟩ = some (.int .i64 x.2) := hxb.facts.1 1
      have b0 : Wd.cell? ⟨br, 0, none⟩ = some (.int .i64 0) := hbr6.facts.1 0
      have b1 : Wd.cell? ⟨br, 1, none⟩ = some (.int .i64 0) := hbr6.facts.1 1
      have bf := hbr6.facts.2.1
      have s258 := h6.cells.2.2.1
      have s257 : Wd.cell? ⟨bs, 257, none⟩ = some (.slice (some ⟨gr, offr, none⟩) (rest.length + 1) cr) := by rw [h6.cells.2.1, HRV.out]
      have sf := h6.cells.2.2.2.1
      have v1 := HBQ.out.1
      have v2 := HBQ.out.2.1
      have v3 := HBQ.out.2.2
      have v4 : bs ≠ b := HNE.out.2.2.2
      have v5 : br ≠ b := fun e => HR.out.nb (by rw [e, ← HBE.out]; exact own_B bs HQ.out)
      have v6 : br ≠ bs := fun e => HR.out.nb (by rw [e]; exact own_bs _ _ _)
      have HBRL : Hid (w.heap.size ≤ br) := Lib.hid (by have := HBR.out; omega)
      clear h6 hk6 hbr6 hxb ho6 HW
      go_upto_region 10 with fail
      go_still_tail 9, (by kernel_rfl)
      change wpList _ _ _ _ _ Wd.drew
      have H6' : Hid (SchM Wd base bs (T.wq (servP T.quantum q)) mT n) := H6
      clear H6
      have H6 := H6'
      clear H6'
      by_cases hxs : xs = []
      · subst hxs
        have hl0 : ([] : List (Int × Int)).length = 0 := rfl
        rw [hl0] at k4
        have HIV0 : Hid (mT.V q.id = .slice (some ⟨gi, offi, none⟩) (0 + 1) ci) := HIV
        have HCI0 : Hid (1 ≤ ci) := Lib.hid (by have := HCI.out; simp at this; omega)
        have HCR0 : Hid (1 ≤ cr) := HCR
        have hcr0 : 1 ≤ cr := HCR.out
        have hci0 : 1 ≤ ci := HCI0.out
        clear hl0
        by_cases hc1 : ci = 1
        · by_cases hr1 : cr = 1
          · subst hc1
            subst hr1
            go_wp2_with fail
            try rw [Exit.noGoto_ret]
            refine bodyPost_ret (v := .tuple #[itV x, .bool true]) (by simp [results, Try.results20, go_sem, itV, b0, b1, v5, v6]) rfl ?_
            have hfin := take_last H6.out HF.out HIV0.out (offi) (.inr ⟨rfl, rfl⟩) HRV.out (offr) (.inr ⟨rfl, rfl⟩) HR.out.nb (.int .i64 x.1) (.int .i64 x.2)
            rw [HBE.out] at hfin
            try simp only [Nat.sub_self] at hfin
            with_reducible exact take_post HR.out HF.out (Int.not_lt.2 HD.out) HO6.out HBRL.out hfin.drew
          · subst hc1
            go_wp2_with fail
            try rw [Exit.noGoto_ret]
            refine bodyPost_ret (v := .tuple #[itV x, .bool true]) (by simp [results, Try.results20, go_sem, itV, b0, b1, v5, v6]) rfl ?_
            have hfin := take_last H6.out HF.out HIV0.out (offi) (.inr ⟨rfl, rfl⟩) HRV.out (offr + 1) (.inl rfl) HR.out.nb (.int .i64 x.1) (.int .i64 x.2)
            rw [HBE.out] at hfin
            try simp only [Nat.sub_self] at hfin
            with_reducible exact take_post HR.out HF.out (Int.not_lt.2 HD.out) HO6.out HBRL.out hfin.drew
        · by_cases hr1 : cr = 1
          · subst hr1
            go_wp2_with fail
            try rw [Exit.noGoto_ret]
            refine bodyPost_ret (v := .tuple #[itV x, .bool true]) (by simp [results, Try.results20, go_sem, itV, b0, b1, v5, v6]) rfl ?_
            have hfin := take_last H6.out HF.out HIV0.out (offi + 2) (.inl rfl) HRV.out (offr) (.inr ⟨rfl, rfl⟩) HR.out.nb (.int .i64 x.1) (.int .i64 x.2)
            rw [HBE.out] at hfin
            try simp only [Nat.sub_self] at hfin
            with_reducible exact take_post HR.out HF.out (Int.not_lt.2 HD.out) HO6.out HBRL.out hfin.drew
          · skip
            go_wp2_with fail
            try rw [Exit.noGoto_ret]
            refine bodyPost_ret (v := .tuple #[itV x, .bool true]) (by simp [results, Try.results20, go_sem, itV, b0, b1, v5, v6]) rfl ?_
            have hfin := take_last H6.out HF.out HIV0.out (offi + 2) (.inl rfl) HRV.out (offr + 1) (.inl rfl) HR.out.nb (.int .i64 x.1) (.int .i64 x.2)
            rw [HBE.out] at hfin
            try simp only [Nat.sub_self] at hfin
            with_reducible exact take_post HR.out HF.out (Int.not_lt.2 HD.out) HO6.out HBRL.out hfin.drew
      · have hxl : 0 < xs.length := List.length_pos_iff.2 hxs
        have hci : ci ≠ 1 := by have := HCI.out; omega
        have hxz : ((xs.length : Int) == 0) = false := beq_eq_false_iff_ne.2 (by omega)
        have HXS := Lib.hid hxs
        have HCC : Hid (1 ≤ ci) := Lib.hid (by have := HCI.out; omega)
        clear hxs hxl
        go_wp2_with fail
        try rw [Exit.noGoto_ret]
        refine bodyPost_ret (v := .tuple #[itV x, .bool true]) (by simp [results, Try.results20, go_sem, itV, b0, b1, v5, v6]) rfl ?_
        have hfin := take_more H6.out HF.out HXS.out HIV.out (offi + 2) (.inl rfl) HR.out.nb (.int .i64 x.1) (.int .i64 x.2)
        rw [HBE.out] at hfin
        try simp only [Nat.sub_self] at hfin
        with_reducible exact take_post HR.out HF.out (Int.not_lt.2 HD.out) HO6.out HBRL.out hfin.drew
end Go.Proofs.Ytgfbhclkpephnaa
