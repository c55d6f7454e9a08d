/-
  Merged: What a stream sends (outbound): what lies in memory; Write, Close, Fin, Finished, Held (chapter 27). | The first shards of a block (chapter 27). | A shard as a datagram (chapter 27). | A shard as a datagram, where its block is there (chapter 27). | The end's number; how many bytes are held (chapter 27). | The first shard that waits (chapter 27).
-/
import Derived.Test.YtnmlmpffmjhihaaGreatMS
import Derived.Test.YtnmlmpffmjhihaaGreatMR
import Derived.Test.YtnmlmpffmjhihaaGreatMQ
import Derived.BigRegion
import Derived.StillTailTactics
import Derived.Laws.StructEq
namespace Go.Proofs.YtnmlmpffmjhihaaGreat
open Go Go.RowKit
set_option linter.unusedVariables false
set_option linter.unusedSimpArgs false
set_option maxRecDepth 100000
set_option maxHeartbeats 1000000
/-- Settings. -/
structure Cf where
  (k r s wi bu q qu t wo ws ti : Int)
/-- A stream that sends: settings, number, whether closed, whether finished; bytes that wait; blocks that fly; the edge; shards; the queue; how many bytes fly. -/
structure OS where
  c : Cf
  st : Int
  cl : Bool
  fi : Bool
  wb : Nat
  br : Nat
  bs : Nat
  bl : List UInt8
  fr : Nat
  n : Nat
  size : Int
  fb : Nat
  b : Int
  fv : Value
  L : List FB
  eb : Nat
  z : Int
  mm : Nat
  M : List (Int × Value)
  qv : Value
  Q : List (Int × Int)
  qm : Nat
  QD : List ((Int × Int) × Value)
  hd : Int
  fn : Value
def encU (x : Int) : Value := .int .u32 x
def encD (x : Int × Int) : Value := .agg #[.int .u32 x.1, .int .i64 x.2]
def sdQ (l : List (Int × Int)) : List Value := l.flatMap fun x => [.int .u32 x.1, .int .i64 x.2]
abbrev outC (S : OS) : Array Value := #[.int .i64 S.c.k, .int .i64 S.c.r, .int .i64 S.c.s, .int .i64 S.c.wi, .int .i64 S.c.bu, .int .i64 S.c.q, .int .i64 S.c.qu, .int .i64 S.c.t, .int .i64 S.c.wo, .int .i64 S.c.ws, .int .i64 S.c.ti, .int .i64 S.st, .bool S.cl, .bool S.fi, .pointer (some ⟨S.wb, 0, none⟩), .pointer (some ⟨S.fb, 0, none⟩), .pointer (some ⟨S.eb, 0, none⟩), .map (some S.mm), S.qv, .map (some S.qm), .int .i64 S.hd, S.fn]
/-- Whose blocks they are. -/
structure OwnU (Ow : Nat → Prop) (w : World) (bo wb br bs fb eb mm qm : Nat) (fv qv : Value) : Prop where
  bo : Ow bo
  wb : Ow wb
  br : Ow br
  bs : Ow bs
  fb : Ow fb
  eb : Ow eb
  mm : Ow mm
  qm : Ow qm
  fv : ∀ g, fv.ownBlock = some g → Ow g
  qv : ∀ g, qv.ownBlock = some g → Ow g
  up : ∀ b, w.heap.size ≤ b → Ow b
theorem OwnU.mono {Ow : Nat → Prop} {w w' : World} {bo wb br bs fb eb mm qm : Nat} {fv qv : Value} (h : OwnU Ow w bo wb br bs fb eb mm qm fv qv) (hs : w.heap.size ≤ w'.heap.size) : OwnU Ow w' bo wb br bs fb eb mm qm fv qv :=
  ⟨h.bo, h.wb, h.br, h.bs, h.fb, h.eb, h.mm, h.qm, h.fv, h.qv, fun b hb => h.up b (Nat.le_trans hs hb)⟩
structure OutM (Ow : Nat → Prop) (w : World) (bo : Nat) (S : OS) : Prop where
  k : Blk w bo (outC S) 52
  wk : BkM w S.wb S.br S.bs S.bl S.fr S.n S.c.bu S.size
  f : FlM w 0 S.fb S.b S.c.wi S.fv S.L
  e : EgM w S.eb S.z
  m : MapW encU w S.mm S.M
  q : Seg w 0 54 2 S.qv S.Q.length (sdQ S.Q)
  d : MapW encD w S.qm S.QD
  ne : S.mm ≠ S.qm
  u : OwnU Ow w bo S.wb S.br S.bs S.fb S.eb S.mm S.qm S.fv S.qv
section
variable {Ow : Nat → Prop} {w w' : World} {bo : Nat} {S : OS}
theorem OutM.chain (h : OutM Ow w bo S) (hb : Below w.heap.size w w') : OutM Ow w' bo S :=
  ⟨h.k.below hb h.k.lt, h.wk.chain hb, h.f.chain hb, Blk.below h.e hb (Blk.lt h.e), h.m.chain hb, h.q.chain hb, h.d.chain hb, h.ne, h.u.mono hb.size⟩
theorem Blk.ne_seg {b size n : Nat} {cs : Array Value} {t e : TypeId} {base : Nat} {v : Value} {xs : List Value} (hs : Seg w base e size v n xs) (hb : Blk w b cs t) (hn : e ≠ t) : ∀ g, v.ownBlock = some g → g ≠ b := hs.ne_blk' hb hn
theorem Blk.ne_map5 {κ : Type} {enc : κ → Value} {b c : Nat} {cs : Array Value} {t : TypeId} {l : List (κ × Value)} (h : Blk w b cs t) (m : MapW enc w c l) : b ≠ c := fun e => by
  subst e
  have h1 := h.kind
  rw [m.kind] at h1
  cases h1
/-- Only the stream's own cells turned. -/
theorem OutM.own (h : OutM Ow w bo S) {S' : OS} (ho : Only [bo] w w') (hk : Blk w' bo (outC S') 52) (e1 : S'.c = S.c) (e2 : (S'.wb, S'.br, S'.bs, S'.bl, S'.fr, S'.n, S'.size) = (S.wb, S.br, S.bs, S.bl, S.fr, S.n, S.size)) (e3 : (S'.fb, S'.b, S'.fv, S'.L) = (S.fb, S.b, S.fv, S.L)) (e4 : (S'.eb, S'.z) = (S.eb, S.z)) (e5 : (S'.mm, S'.M) = (S.mm, S.M)) (e6 : (S'.qv, S'.Q) = (S.qv, S.Q)) (e7 : (S'.qm, S'.QD) = (S.qm, S.QD)) : OutM Ow w' bo S' := by
  simp only [Prod.mk.injEq] at e2 e3 e4 e5 e6 e7
  obtain ⟨a1, a2, a3, a4, a5, a6, a7⟩ := e2
  obtain ⟨b1, b2, b3, b4⟩ := e3
  obtain ⟨c1, c2⟩ := e4
  obtain ⟨d1, d2⟩ := e5
  obtain ⟨f1, f2⟩ := e6
  obtain ⟨g1, g2⟩ := e7
  have ht : Turn Ow [some 52] w w' := Turn.only1 ho h.u.bo h.k (by simp)
  refine ⟨hk, ?_, ?_, ?_, ?_, ?_, ?_, ?_, ?_⟩
  · rw [a1, a2, a3, a4, a5, a6, a7, e1]
    exact ⟨ht.blk h.wk.k (by decide), ⟨ht.blk h.wk.r.k (by decide), ht.blk h.wk.r.b (by decide), h.wk.r.l⟩⟩
  · rw [b1, b2, b3, b4, e1]
    exact ⟨ht.blk h.f.k (by decide), ht.seg h.f.s (by decide)⟩
  · rw [c1, c2]; exact ht.blk h.e (by decide)
  · rw [d1, d2]; exact ht.map h.m (by decide)
  · rw [f1, f2]; exact ht.seg h.q (by decide)
  · rw [g1, g2]; exact ht.map h.d (by decide)
  · rw [d1, g1]; exact h.ne
  · rw [a1, a2, a3, b1, b3, c1, d1, f1, g1]; exact h.u.mono ht.size
theorem oclose_ok (h : OutM Ow w bo S) (hc : S.cl = false) : Calls Tryz.prog 7 #[.pointer (some ⟨bo, 0, none⟩)] w fun e w' => e = .returned (.int .i64 0) ∧ OutM Ow w' bo { S with cl := true } ∧ Only [bo] w w' := by
  have o12 : w.cell? ⟨bo, 12, none⟩ = some (.bool S.cl) := h.k.facts.1 12
  have fo12 := h.k.facts.2.1 12
  have H := Lib.hid h
  rw [hc] at o12
  clear h hc
  go_enter Tryz.func7, Tryz.ntmps7
  go_wp2_with fail
  go_ret
  have ho : Only [bo] w (w.setCell ⟨bo, 12, none⟩ (.bool true)) := (Only.refl _ _).setCell _ _ (.inl (by simp))
  exact ⟨rfl, H.out.own ho (H.out.k.setAt 12 _ rfl) rfl rfl rfl rfl rfl rfl rfl, ho⟩
theorem oclose_no (h : OutM Ow w bo S) (hc : S.cl = true) : Calls Tryz.prog 7 #[.pointer (some ⟨bo, 0, none⟩)] w fun e w' => e = .returned (.int .i64 11) ∧ w' = w := by
  have o12 : w.cell? ⟨bo, 12, none⟩ = some (.bool S.cl) := h.k.facts.1 12
  rw [hc] at o12
  clear h hc
  go_enter Tryz.func7, Tryz.ntmps7
  go_wp2_with fail
  go_ret
  exact ⟨rfl, rfl⟩
theorem ofinished (h : OutM Ow w bo S) : Calls Tryz.prog 12 #[.pointer (some ⟨bo, 0, none⟩)] w fun e w' => e = .returned (.bool S.fi) ∧ w' = w := by
  have o13 : w.cell? ⟨bo, 13, none⟩ = some (.bool S.fi) := h.k.facts.1 13
  clear h
  go_enter Tryz.func12, Tryz.ntmps12
  go_wp2_with fail
  go_ret
  exact ⟨rfl, rfl⟩
theorem owrite_no (s : List UInt8) (h : OutM Ow w bo S) (hc : S.cl = true) : Calls Tryz.prog 6 #[.pointer (some ⟨bo, 0, none⟩), Str s] w fun e w' => e = .returned (.int .i64 0) ∧ w' = w := by
  have o12 : w.cell? ⟨bo, 12, none⟩ = some (.bool S.cl) := h.k.facts.1 12
  rw [hc] at o12
  clear h hc
  go_enter Tryz.func6, Tryz.ntmps6
  go_wp2_with fail
  go_ret
  exact ⟨rfl, rfl⟩
theorem owrite_lite (s : List UInt8) (h : OutM Ow w bo S) (hc : S.cl = false) (hs : 0 < s.length) (h1 : S.fr + S.n + s.length ≤ S.bl.length) (hm : (S.n : Int) + (s.length : Int) ≤ S.c.bu) (hm2 : S.c.bu ≤ 1048576) :
    Calls Tryz.prog 6 #[.pointer (some ⟨bo, 0, none⟩), Str s] w fun e w' => e = .returned (.int .i64 (s.length : Int)) ∧ OutM Ow w' bo { S with bl := S.bl.take (S.fr + S.n) ++ s ++ S.bl.drop (S.fr + S.n + s.length), n := S.n + s.length } ∧ Only [S.br, S.bs] w w' := by
  have o12 : w.cell? ⟨bo, 12, none⟩ = some (.bool S.cl) := h.k.facts.1 12
  have o14 : w.cell? ⟨bo, 14, none⟩ = some (.pointer (some ⟨S.wb, 0, none⟩)) := h.k.facts.1 14
  have HW := Lib.hid (bwrite_lite s h.wk hs h1 hm hm2)
  have H := Lib.hid h
  rw [hc] at o12
  clear h hc hs h1 hm hm2
  go_enter Tryz.func6, Tryz.ntmps6
  go_wp2_with fail
  refine HW.out.mono ?_
  rintro e w1 ⟨rfl, hw, ho⟩
  have HO := Lib.hid (And.intro hw ho)
  clear hw ho o12 o14
  go_wp2_with fail
  go_ret
  have ht : Turn Ow [some 122, some 5] w w1 := ⟨_, HO.out.2, fun b hb => by
    simp at hb
    rcases hb with rfl | rfl
    · exact ⟨H.out.u.br, _, by simp, H.out.wk.r.k.kind⟩
    · exact ⟨H.out.u.bs, _, by simp, H.out.wk.r.b.kind⟩⟩
  exact ⟨rfl, ⟨ht.blk H.out.k (by decide), HO.out.1, ⟨ht.blk H.out.f.k (by decide), ht.seg H.out.f.s (by decide)⟩, ht.blk H.out.e (by decide), ht.map H.out.m (by decide), ht.seg H.out.q (by decide), ht.map H.out.d (by decide), H.out.ne, H.out.u.mono ht.size⟩, HO.out.2⟩
end
end Go.Proofs.YtnmlmpffmjhihaaGreat
namespace Go.Proofs.YtnmlmpffmjhihaaGreat
open Go Go.RowKit
set_option linter.unusedVariables false
set_option linter.unusedSimpArgs false
set_option maxRecDepth 100000
set_option maxHeartbeats 1000000
theorem sdQ_len : ∀ l : List (Int × Int), (sdQ l).length = l.length * 2
  | [] => rfl
  | x :: l => by
    have := sdQ_len l
    simp only [sdQ, List.flatMap_cons, List.length_append, List.length_cons, List.length_nil] at this ⊢
    omega
theorem sdQ_at : ∀ (l : List (Int × Int)) (i : Nat) (x : Int × Int), l[i]? = some x → (sdQ l)[i * 2]? = some (.int .u32 x.1) ∧ (sdQ l)[i * 2 + 1]? = some (.int .i64 x.2)
  | [], i, x, h => by simp at h
  | y :: l, 0, x, h => by
    simp only [List.getElem?_cons_zero, Option.some.injEq] at h
    subst h
    simp [sdQ]
  | y :: l, i + 1, x, h => by
    have := sdQ_at l i x (by simpa using h)
    have e : (i + 1) * 2 = i * 2 + 1 + 1 := by omega
    rw [e]
    simpa [sdQ] using this
theorem sdQ_set : ∀ (l : List (Int × Int)) (i : Nat) (a b : Int), i < l.length → ((sdQ l).set (i * 2) (.int .u32 a)).set (i * 2 + 1) (.int .i64 b) = sdQ (l.set i (a, b))
  | [], i, a, b, h => by simp at h
  | y :: l, 0, a, b, h => by simp [sdQ]
  | y :: l, i + 1, a, b, h => by
    have := sdQ_set l i a b (by simpa using h)
    have e : (i + 1) * 2 = i * 2 + 1 + 1 := by omega
    rw [e]
    simpa [sdQ] using this
theorem sdQ_app (l m : List (Int × Int)) : sdQ (l ++ m) = sdQ l ++ sdQ m := by simp [sdQ]
/-- The first k of n are written. -/
def firQ (x : Int) (k n : Nat) : List (Int × Int) := (List.range k).map (fun i : Nat => (x, (i : Int))) ++ List.replicate (n - k) (0, 0)
theorem firQ_len (x : Int) {k n : Nat} (h : k ≤ n) : (firQ x k n).length = n := by unfold firQ; simp; omega
theorem firQ_set (x : Int) {k n : Nat} (h : k < n) : (firQ x k n).set k (x, (k : Int)) = firQ x (k + 1) n := by
  unfold firQ
  rw [show n - k = (n - (k + 1)) + 1 by omega, List.replicate_succ, List.range_succ, List.map_append, List.append_assoc, List.set_append_right _ _ (by simp)]
  simp
theorem made_sd (n : Nat) : madeCells #[.int .u32 0, .int .i64 0] (n * 2) = (sdQ (List.replicate n (0, 0))).toArray := by
  apply Array.ext
  · simp only [size_madeCells, List.size_toArray, sdQ_len, List.length_replicate]
  · intro j h1 h2
    have hj : j < n * 2 := by simpa [madeCells] using h1
    have hi : (List.replicate n ((0, 0) : Int × Int))[j / 2]? = some (0, 0) := by rw [List.getElem?_replicate, if_pos (by omega)]
    have ha := sdQ_at _ _ _ hi
    have e : (sdQ (List.replicate n ((0, 0) : Int × Int)))[j]? = some (if j % 2 = 0 then .int .u32 0 else .int .i64 0) := by
      by_cases hm : j % 2 = 0
      · rw [if_pos hm]
        have := ha.1
        rwa [show j / 2 * 2 = j by omega] at this
      · rw [if_neg hm]
        have := ha.2
        rwa [show j / 2 * 2 + 1 = j by omega] at this
    have hl : j < (sdQ (List.replicate n ((0, 0) : Int × Int))).length := by rw [sdQ_len, List.length_replicate]; exact hj
    rw [List.getElem?_eq_getElem hl] at e
    simp only [List.getElem_toArray, Option.some.inj e, madeCells]
    rcases Nat.mod_two_eq_zero_or_one j with hm | hm <;> simp [hm]
theorem mk_sd (n : Nat) (hn : n ≤ 100000) (w : World) : (Instr.makeSlice 48 (.int .i64 (n : Int)) (.int .i64 (n : Int))).run Tryz.prog w = .ok (.slice (some ⟨w.heap.size, 0, none⟩) n n) (w.alloc (.cells (sdQ (List.replicate n (0, 0))).toArray 54)) := by
  obtain ⟨i0, hi, hz0, hz1, hz2⟩ := info_parts infoSend
  have := run_make (P := Tryz.prog) w 48 54 i0 _ Tryz.underlying48 hi hz0 .i64 .i64 n n (by omega) (by omega) (by rw [hz2]; omega) (by omega)
  rw [this, hz1, Int.toNat_natCast]
  rw [show (Value.agg #[.int .u32 0, .int .i64 0]).cells = #[.int .u32 0, .int .i64 0] from rfl, made_sd]
theorem seg_sd {w : World} {b n : Nat} {l : List (Int × Int)} (h : Blk w b (sdQ l).toArray 54) (hn : l.length = n) (hm : n ≤ 100000) : Seg w b 54 2 (.slice (some ⟨b, 0, none⟩) n n) n (sdQ l) :=
  ⟨by rw [sdQ_len, hn], .inr ⟨b, 0, n, _, rfl, Nat.le_refl _, h, Nat.le_refl _, by unfold maxLen; omega, by rw [Nat.zero_add, List.size_toArray, sdQ_len, hn]; exact Nat.le_refl _, by
    rw [List.drop_zero, List.take_of_length_le]
    rw [sdQ_len, hn]
    exact Nat.le_refl _⟩⟩
theorem ofirst_any (x : Int) (n : Nat) (hn : n ≤ 255) (w : World) : Calls Tryz.prog 22 #[.int .u32 x, .int .i64 (n : Int)] w fun e w' => e = .returned (.slice (some ⟨w.heap.size, 0, none⟩) n n) ∧ Seg w' w.heap.size 54 2 (.slice (some ⟨w.heap.size, 0, none⟩) n n) n (sdQ (firQ x n n)) ∧ Below w.heap.size w w' := by
  have hmk := mk_sd n (by omega)
  have HST : Hid (Blk (w.alloc (.cells (sdQ (List.replicate n (0, 0))).toArray 54)) w.heap.size (sdQ (firQ x 0 n)).toArray 54 ∧ Below w.heap.size w (w.alloc (.cells (sdQ (List.replicate n (0, 0))).toArray 54))) := Lib.hid ⟨by
    have e : firQ x 0 n = List.replicate n (0, 0) := by unfold firQ; simp
    rw [e]
    exact Blk.new _ _ _, Below.chainAlloc (Below.refl _ _) _⟩
  have HN := Lib.hid hn
  generalize (sdQ (List.replicate n (0, 0))).toArray = c0 at *
  clear hn
  go_enter Tryz.func22, Tryz.ntmps22
  go_wp2_with fail
  obtain ⟨b, hb⟩ : ∃ b, w.heap.size = b := ⟨_, rfl⟩
  rw [hb] at HST ⊢
  have HBB := Lib.hid hb
  clear hb hmk
  go_loopg [11] n (fun gk i wr => ∃ k : Nat, n - k ≤ gk ∧ k ≤ n ∧ i = .int .i64 (k : Int) ∧ Hid (Blk wr b (sdQ (firQ x k n)).toArray 54 ∧ Below b w wr))
  case atStart => exact ⟨0, by omega, by omega, rfl, HST⟩
  case round =>
    clear HST
    obtain ⟨k, hkg, hk, rfl, HREL⟩ := hrel
    by_cases hlt : k < n
    · have hlt' : (k : Int) < (n : Int) := by omega
      have hk0 : (0 : Int) ≤ (k : Int) := by omega
      have hl : (sdQ (firQ x k n)).length = n * 2 := by rw [sdQ_len, firQ_len x hk]
      obtain ⟨q, hq⟩ : ∃ q, (firQ x k n)[k]? = some q := ⟨_, List.getElem?_eq_getElem (by rw [firQ_len x hk]; exact hlt)⟩
      have hat := sdQ_at _ _ _ hq
      have c0 : wr.cell? ⟨b, k * 2, none⟩ = some (.int .u32 q.1) := by rw [HREL.out.1.facts.1 (k * 2), List.getElem?_toArray]; exact hat.1
      have c1 : wr.cell? ⟨b, k * 2 + 1, none⟩ = some (.int .i64 q.2) := by rw [HREL.out.1.facts.1 (k * 2 + 1), List.getElem?_toArray]; exact hat.2
      have f0 := HREL.out.1.facts.2.1 (k * 2)
      have f1 := HREL.out.1.facts.2.1 (k * 2 + 1)
      have HLT := Lib.hid hlt
      have HNX : Hid (Blk ((wr.setCell ⟨b, k * 2, none⟩ (.int .u32 x)).setCell ⟨b, k * 2 + 1, none⟩ (.int .i64 (k : Int))) b (sdQ (firQ x (k + 1) n)).toArray 54 ∧ Below b w ((wr.setCell ⟨b, k * 2, none⟩ (.int .u32 x)).setCell ⟨b, k * 2 + 1, none⟩ (.int .i64 (k : Int)))) := Lib.hid ⟨by
        rw [← firQ_set x hlt, ← sdQ_set _ k x (k : Int) (by rw [firQ_len x hk]; exact hlt)]
        exact (HREL.out.1.setAt (cs' := ((sdQ (firQ x k n)).set (k * 2) (.int .u32 x)).toArray) (k * 2) _ (by simp)).setAt (k * 2 + 1) _ (by simp), (HREL.out.2.setCell (p := ⟨b, k * 2, none⟩) (Nat.le_refl b) _).setCell (p := ⟨b, k * 2 + 1, none⟩) (Nat.le_refl b) _⟩
      have hkw : wrap64 ((k : Int) + 1) = (k : Int) + 1 := IntWalk.wrap64_in _ (by have := HN.out; omega)
      clear hl hq hat hlt
      go_wp2_with fail
      go_roundg (n - (k + 1))
      case measure => have := HLT.out; omega
      case rel => exact ⟨k + 1, Nat.le_refl _, HLT.out, by go_num, HNX⟩
    · obtain rfl : k = n := by omega
      have hlt' : ¬ (k : Int) < (k : Int) := by omega
      clear hlt
      go_wp2_with fail
      go_ret
      rw [HBB.out]
      exact ⟨rfl, seg_sd HREL.out.1 (firQ_len x (Nat.le_refl _)) (by have := HN.out; omega), HREL.out.2⟩
end Go.Proofs.YtnmlmpffmjhihaaGreat
namespace Go.Proofs.YtnmlmpffmjhihaaGreat
open Go Go.RowKit
set_option linter.unusedVariables false
set_option linter.unusedSimpArgs false
set_option maxRecDepth 100000
set_option maxHeartbeats 2000000
theorem flfind_no (x : Int) {w : World} {B bf : Nat} {b z : Int} {v : Value} {L : List FB} (h : FlM w B bf b z v L) (hx : ahead b x < 0 ∨ (L.length : Int) ≤ ahead b x) : Calls Tryz.prog 41 #[.pointer (some ⟨bf, 0, none⟩), .int .u32 x] w fun e w' => e = .returned (.pointer none) ∧ Below w.heap.size w w' := by
  obtain ⟨a, c, rfl⟩ := h.s.form
  have H1 : Hid (∀ w', Calls Tryz.prog 65 #[.int .u32 x, .int .u32 b, .int .i64 (L.length : Nat)] w' fun e w'' => e = .returned (.bool false) ∧ w'' = w') := Lib.hid fun w' => by
    refine (within_any x b (L.length : Nat) w').mono ?_
    rintro e w'' ⟨rfl, rfl⟩
    refine ⟨?_, rfl⟩
    rcases hx with hx | hx
    · rw [decide_eq_false (by omega : ¬ (0 : Int) ≤ ahead b x)]; rfl
    · rw [decide_eq_false (by omega : ¬ ahead b x < (L.length : Int)), Bool.and_false]
  have c0 := h.k.facts.1 0
  have c2 := h.k.facts.1 2
  clear h hx
  go_enter Tryz.func41, Tryz.ntmps41
  go_upto_region 1 with fail
  refine wp_region_quiet_lit (by kernel_rfl) (by kernel_rfl) ?_
  repeat (first | go_big_quiet_step (exact Calls.quiet_of_same (H1.out _)) | quiet_step (exact Calls.quiet_of_same (H1.out _)))
  refine wpQuiet_nil ?_
  intro _ hw'
  obtain ⟨nq, hw''⟩ := hw'
  subst hw''
  have HB1 := Lib.hid (below_drewN (Below.refl w.heap.size w) nq)
  clear c0 c2
  generalize w.drewN nq = w1 at *
  go_wp2_with fail
  go_ret
  exact ⟨rfl, HB1.out⟩
theorem flbody_no (x : Int) {w : World} {B bf : Nat} {b z : Int} {v : Value} {L : List FB} (h : FlM w B bf b z v L) (hx : ahead b x < 0 ∨ (L.length : Int) ≤ ahead b x) : Calls Tryz.prog 32 #[.pointer (some ⟨bf, 0, none⟩), .int .u32 x] w fun e w' => e = .returned (.tuple #[Str [], .int .i64 0, .bool false]) ∧ Below w.heap.size w w' := by
  have HF := Lib.hid (flfind_no x h hx)
  clear h hx
  go_enter Tryz.func32, Tryz.ntmps32
  go_wp2_with fail
  refine HF.out.mono ?_
  rintro e w1 ⟨rfl, hb⟩
  have HB1 := Lib.hid hb
  clear hb
  go_wp2_with fail
  exact bodyPost_ret (v := .tuple #[Str [], .int .i64 0, .bool false]) (by simp [results, Tryz.results32, go_sem]) rfl ⟨rfl, HB1.out⟩
theorem keyU : KeyE Tryz.prog 22 encU := KeyE.int Tryz.underlying22
theorem undMade : Tryz.prog.underlying 47 = some (.map 22 62) := by kernel_rfl
theorem zeroMade (w : World) : (zeroValue 62).run Tryz.prog w = .ok (.agg #[.slice none 0 0, .int .i64 0]) w := by kernel_rfl
section
variable {Ow : Nat → Prop} {w w' : World} {bo : Nat} {S : OS}
theorem oshard_no (x : Int × Int) (h : OutM Ow w bo S) (hx : ahead S.b x.1 < 0 ∨ (S.L.length : Int) ≤ ahead S.b x.1) : Calls Tryz.prog 16 #[.pointer (some ⟨bo, 0, none⟩), .agg #[.int .u32 x.1, .int .i64 x.2]] w fun e w' => e = .returned (.tuple #[dg0.val, .bool false]) ∧ Below w.heap.size w w' := by
  obtain ⟨x1, x2⟩ := x
  dsimp only at hx ⊢
  have ha := Below.chainAlloc (Below.chainAlloc (Below.refl _ w) (.cells #[.int .u32 x1, .int .i64 x2] 54)) (.cells #[.int .i64 0, .int .i64 0, .int .u32 0, .int .i64 0, .int .i64 0, .int .i64 0, .int .i64 0, .int .i64 0, Str [], Str []] 27)
  have HB0 := Lib.hid ha
  have HX : Hid (Blk ((w.alloc (.cells #[.int .u32 x1, .int .i64 x2] 54)).alloc (.cells #[.int .i64 0, .int .i64 0, .int .u32 0, .int .i64 0, .int .i64 0, .int .i64 0, .int .i64 0, .int .i64 0, Str [], Str []] 27)) w.heap.size #[.int .u32 x1, .int .i64 x2] 54 ∧ Blk ((w.alloc (.cells #[.int .u32 x1, .int .i64 x2] 54)).alloc (.cells #[.int .i64 0, .int .i64 0, .int .u32 0, .int .i64 0, .int .i64 0, .int .i64 0, .int .i64 0, .int .i64 0, Str [], Str []] 27)) (w.heap.size + 1) #[.int .i64 0, .int .i64 0, .int .u32 0, .int .i64 0, .int .i64 0, .int .i64 0, .int .i64 0, .int .i64 0, Str [], Str []] 27) := Lib.hid ⟨(Blk.new w _ _).alloc _, Blk.newAt (size_alloc _ _).symm⟩
  have H0 := Lib.hid (h.chain ha)
  clear h ha
  go_enter Tryz.func16, Tryz.ntmps16
  go_wp2_with fail
  generalize (w.alloc (.cells #[.int .u32 x1, .int .i64 x2] 54)).alloc (.cells #[.int .i64 0, .int .i64 0, .int .u32 0, .int .i64 0, .int .i64 0, .int .i64 0, .int .i64 0, .int .i64 0, Str [], Str []] 27) = W0 at *
  obtain ⟨b, hb⟩ : ∃ b, w.heap.size = b := ⟨_, rfl⟩
  rw [hb] at HX HB0 ⊢
  have HBB := Lib.hid hb
  clear hb
  have HBO := Lib.hid (flbody_no x1 (H0.out.f.chain (Below.refl _ W0).drew) hx)
  have HSX : Hid (∀ w', Below W0.heap.size W0 w' → (w'.cell? ⟨bo, 15, none⟩ = some (.pointer (some ⟨S.fb, 0, none⟩)) ∧ w'.cell? ⟨b, 0, none⟩ = some (.int .u32 x1)) ∧ Below W0.heap.size W0 w') := Lib.hid fun w' hb' => ⟨⟨(H0.out.chain hb').k.facts.1 15, (HX.out.1.below hb' HX.out.1.lt).facts.1 0⟩, hb'⟩
  clear hx
  go_region_held3 (fun w' => (w'.cell? ⟨bo, 15, none⟩ = some (.pointer (some ⟨S.fb, 0, none⟩)) ∧ w'.cell? ⟨b, 0, none⟩ = some (.int .u32 x1)) ∧ Below W0.heap.size W0 w')
    (first
      | with_reducible exact HSX.out _ (Below.refl _ W0).drew
      | exact HSX.out _ HB1.out)
    ((first
      | (go_at_call 32; refine HBO.out.mono ?_; rintro e w1 ⟨rfl, hb1⟩; have HB1 : Hid (Below W0.heap.size W0 w1) := Lib.hid (Below.chain hb1 (Below.refl _ W0).drew); clear hb1)))
  have kz := HX.out.2.below HB1.out HX.out.2.lt
  have z0 := kz.facts.1 0
  have fz0 := kz.facts.2.1 0
  have z1 := kz.facts.1 1
  have fz1 := kz.facts.2.1 1
  have z2 := kz.facts.1 2
  have fz2 := kz.facts.2.1 2
  have z3 := kz.facts.1 3
  have fz3 := kz.facts.2.1 3
  have z4 := kz.facts.1 4
  have fz4 := kz.facts.2.1 4
  have z5 := kz.facts.1 5
  have fz5 := kz.facts.2.1 5
  have z6 := kz.facts.1 6
  have fz6 := kz.facts.2.1 6
  have z7 := kz.facts.1 7
  have fz7 := kz.facts.2.1 7
  have z8 := kz.facts.1 8
  have fz8 := kz.facts.2.1 8
  have z9 := kz.facts.1 9
  have fz9 := kz.facts.2.1 9
  clear kz HBO HSX
  go_wp2_with fail
  have hB : Below b w w1 := Below.trans HB0.out (HB1.out.mono (by have := HX.out.2.lt; omega))
  exact bodyPost_ret (v := .tuple #[dg0.val, .bool false]) (by simp [results, Tryz.results16, go_sem, z0, z1, z2, z3, z4, z5, z6, z7, z8, z9, dg0]) rfl ⟨rfl, by rw [HBB.out]; exact ((((((((((hB.setCell (p := ⟨b + 1, 0, none⟩) (Nat.le_succ b) _).setCell (p := ⟨b + 1, 1, none⟩) (Nat.le_succ b) _).setCell (p := ⟨b + 1, 2, none⟩) (Nat.le_succ b) _).setCell (p := ⟨b + 1, 3, none⟩) (Nat.le_succ b) _).setCell (p := ⟨b + 1, 4, none⟩) (Nat.le_succ b) _).setCell (p := ⟨b + 1, 5, none⟩) (Nat.le_succ b) _).setCell (p := ⟨b + 1, 6, none⟩) (Nat.le_succ b) _).setCell (p := ⟨b + 1, 7, none⟩) (Nat.le_succ b) _).setCell (p := ⟨b + 1, 8, none⟩) (Nat.le_succ b) _).setCell (p := ⟨b + 1, 9, none⟩) (Nat.le_succ b) _)⟩
end
end Go.Proofs.YtnmlmpffmjhihaaGreat
namespace Go.Proofs.YtnmlmpffmjhihaaGreat
open Go Go.RowKit
set_option linter.unusedVariables false
set_option linter.unusedSimpArgs false
set_option maxRecDepth 100000
set_option maxHeartbeats 4000000
section
variable {Ow : Nat → Prop} {w w' : World} {bo : Nat} {S : OS}
theorem oshard_ok (x1 : Int) (i2 : Nat) (h : OutM Ow w bo S) (i : Nat) (hi : i < S.L.length) (hx : ahead S.b x1 = (i : Int)) (sv : Value) (data : Int) (T : List (List UInt8)) (hM : getM x1 S.M = some (.agg #[sv, .int .i64 data])) (hsv : SlAt 0 w 9 sv (T.map Str)) (h2 : i2 < T.length) (kd : Int) (hkd : kd = if data ≤ (i2 : Int) then 2 else 1) :
    Calls Tryz.prog 16 #[.pointer (some ⟨bo, 0, none⟩), .agg #[.int .u32 x1, .int .i64 (i2 : Int)]] w fun e w' => e = .returned (.tuple #[Dg.val ⟨kd, S.st, x1, (i2 : Int), data, (S.L[i]).n, (S.L[i]).body.length, 0, [], T[i2]⟩, .bool true]) ∧ Below w.heap.size w w' := by
  have hf := h.f
  obtain ⟨fg, fo, fc, hv, _⟩ := hf.s.shape (by omega)
  rw [hv] at hf
  have ha := Below.chainAlloc (Below.chainAlloc (Below.refl _ w) (.cells #[.int .u32 x1, .int .i64 (i2 : Int)] 54)) (.cells #[.int .i64 0, .int .i64 0, .int .u32 0, .int .i64 0, .int .i64 0, .int .i64 0, .int .i64 0, .int .i64 0, Str [], Str []] 27)
  have HB0 := Lib.hid ha
  have HX : Hid (Blk ((w.alloc (.cells #[.int .u32 x1, .int .i64 (i2 : Int)] 54)).alloc (.cells #[.int .i64 0, .int .i64 0, .int .u32 0, .int .i64 0, .int .i64 0, .int .i64 0, .int .i64 0, .int .i64 0, Str [], Str []] 27)) w.heap.size #[.int .u32 x1, .int .i64 (i2 : Int)] 54 ∧ Blk ((w.alloc (.cells #[.int .u32 x1, .int .i64 (i2 : Int)] 54)).alloc (.cells #[.int .i64 0, .int .i64 0, .int .u32 0, .int .i64 0, .int .i64 0, .int .i64 0, .int .i64 0, .int .i64 0, Str [], Str []] 27)) (w.heap.size + 1) #[.int .i64 0, .int .i64 0, .int .u32 0, .int .i64 0, .int .i64 0, .int .i64 0, .int .i64 0, .int .i64 0, Str [], Str []] 27) := Lib.hid ⟨(Blk.new w _ _).alloc _, Blk.newAt (size_alloc _ _).symm⟩
  have H0 := Lib.hid (h.chain ha)
  have HSV := Lib.hid (hsv.chain ha)
  have HBO := Lib.hid (flbody_ok x1 (hf.chain (Below.chain (Below.refl _ _).drew ha)) i hi hx)
  have HM := Lib.hid hM
  have HKD := Lib.hid hkd
  have hTn : (T.map Str).length = T.length := List.length_map _
  obtain ⟨st, hst⟩ : ∃ st, T[i2] = st := ⟨_, rfl⟩
  rw [hst]
  obtain ⟨y, hy⟩ : ∃ y, S.L[i] = y := ⟨_, rfl⟩
  rw [hy] at HBO ⊢
  obtain ⟨sa, sc, rfl, hsa⟩ := hsv.at
  obtain ⟨sg, so, rfl, _, _⟩ := hsa i2 (by rw [hTn]; exact h2)
  rw [hTn] at *
  have HTV : Hid (∀ w', Below ((w.alloc (.cells #[.int .u32 x1, .int .i64 (i2 : Int)] 54)).alloc (.cells #[.int .i64 0, .int .i64 0, .int .u32 0, .int .i64 0, .int .i64 0, .int .i64 0, .int .i64 0, .int .i64 0, Str [], Str []] 27)).heap.size ((w.alloc (.cells #[.int .u32 x1, .int .i64 (i2 : Int)] 54)).alloc (.cells #[.int .i64 0, .int .i64 0, .int .u32 0, .int .i64 0, .int .i64 0, .int .i64 0, .int .i64 0, .int .i64 0, Str [], Str []] 27)) w' → w'.cell? ⟨sg, so + i2, none⟩ = some (Str st)) := Lib.hid fun w' hb' => by
    obtain ⟨a', c', e', hc'⟩ := (HSV.out.chain hb').at
    simp only [Value.slice.injEq] at e'
    obtain ⟨e1, _, _⟩ := e'
    subst e1
    obtain ⟨g', o', e2, _, hcc⟩ := hc' i2 (by rw [List.length_map]; exact h2)
    cases e2
    rw [hcc, List.getElem_map, hst]
  have x1' : (0 : Int) ≤ (i2 : Int) := by omega
  have x2' : (i2 : Int) < (T.length : Int) := by omega
  clear h ha hf hsv hM hkd hx hsa hTn hst hy h2 hi hv
  go_enter Tryz.func16, Tryz.ntmps16
  go_wp2_with fail
  generalize (w.alloc (.cells #[.int .u32 x1, .int .i64 (i2 : Int)] 54)).alloc (.cells #[.int .i64 0, .int .i64 0, .int .u32 0, .int .i64 0, .int .i64 0, .int .i64 0, .int .i64 0, .int .i64 0, Str [], Str []] 27) = W0 at *
  obtain ⟨b, hb⟩ : ∃ b, w.heap.size = b := ⟨_, rfl⟩
  rw [hb] at HX HB0 ⊢
  have HBB := Lib.hid hb
  clear hb
  have HSX : Hid (∀ w', Below W0.heap.size W0 w' → (w'.cell? ⟨bo, 15, none⟩ = some (.pointer (some ⟨S.fb, 0, none⟩)) ∧ w'.cell? ⟨b, 0, none⟩ = some (.int .u32 x1)) ∧ Below W0.heap.size W0 w') := Lib.hid fun w' hb' => ⟨⟨(H0.out.chain hb').k.facts.1 15, (HX.out.1.below hb' HX.out.1.lt).facts.1 0⟩, hb'⟩
  go_region_held3 (fun w' => (w'.cell? ⟨bo, 15, none⟩ = some (.pointer (some ⟨S.fb, 0, none⟩)) ∧ w'.cell? ⟨b, 0, none⟩ = some (.int .u32 x1)) ∧ Below W0.heap.size W0 w')
    (first
      | with_reducible exact HSX.out _ (Below.refl _ W0).drew
      | exact HSX.out _ HB1.out)
    ((first
      | (go_at_call 32; refine HBO.out.mono ?_; rintro e w1 ⟨rfl, hb1⟩; have HB1 : Hid (Below W0.heap.size W0 w1) := Lib.hid (Below.chain hb1 (Below.refl _ W0).drew); clear hb1)))
  clear HBO HSX
  have o17 : w1.cell? ⟨bo, 17, none⟩ = some (.map (some S.mm)) := (H0.out.chain HB1.out).k.facts.1 17
  have b0 := (HX.out.1.below HB1.out HX.out.1.lt).facts.1 0
  have hlo : bo < w1.heap.size := (H0.out.chain HB1.out).k.lt
  have hlb : b < w1.heap.size := (HX.out.1.below HB1.out HX.out.1.lt).lt
  have hl1 := ((H0.out.chain HB1.out).m.chain (Below.refl _ w1).drew).look keyU undMade x1 (zeroMade _) false
  have hl2 := ((H0.out.chain HB1.out).m.chain ((Below.chainAlloc (Below.refl _ w1) (.cells #[.slice none 0 0, .int .i64 0] 62)).drew)).look keyU undMade x1 (zeroMade _) false
  rw [HM.out] at hl1 hl2
  simp only [Option.getD_some, Bool.false_eq_true, if_false] at hl1 hl2
  unfold encU at hl1 hl2
  go_upto_region 4 with fail
  go_cut [9] (fun v9 wx => ∃ b9 : Nat, v9 = .pointer (some ⟨b9, 0, none⟩) ∧ Hid (Blk wx b9 #[.slice (some ⟨sg, so, none⟩) T.length sc, .int .i64 data] 62 ∧ Below w1.heap.size w1 wx))
  case first =>
    go_region
    all_goals
      go_wp2_with fail
      go_meet
      exact ⟨_, rfl, Lib.hid ⟨(Blk.new _ _ _).drew, (Below.chainAlloc (Below.refl _ _) _).drew⟩⟩
  case rest =>
    obtain ⟨b9, rfl, HCUT⟩ := hcut
    have HWC : Hid (OutM Ow wc bo S ∧ Blk wc b #[.int .u32 x1, .int .i64 (i2 : Int)] 54 ∧ Blk wc (b + 1) #[.int .i64 0, .int .i64 0, .int .u32 0, .int .i64 0, .int .i64 0, .int .i64 0, .int .i64 0, .int .i64 0, Str [], Str []] 27 ∧ wc.cell? ⟨sg, so + i2, none⟩ = some (Str st) ∧ Below b w wc) := Lib.hid (by
      have hbb := Below.chain HCUT.out.2 HB1.out
      exact ⟨H0.out.chain hbb, HX.out.1.below hbb HX.out.1.lt, HX.out.2.below hbb HX.out.2.lt, HTV.out _ hbb, Below.trans HB0.out (hbb.mono (by have := HX.out.2.lt; omega))⟩)
    clear o17 b0 hlo hlb hl1 hl2
    have o11 : wc.cell? ⟨bo, 11, none⟩ = some (.int .i64 S.st) := HWC.out.1.k.facts.1 11
    have b0 := HWC.out.2.1.facts.1 0
    have b1 := HWC.out.2.1.facts.1 1
    have m0 := HCUT.out.1.facts.1 0
    have m1 := HCUT.out.1.facts.1 1
    have s0 := HWC.out.2.2.2.1
    have kd0 := HKD.out
    clear HKD
    have z0 := HWC.out.2.2.1.facts.1 0
    have fz0 := HWC.out.2.2.1.facts.2.1 0
    have z1 := HWC.out.2.2.1.facts.1 1
    have fz1 := HWC.out.2.2.1.facts.2.1 1
    have z2 := HWC.out.2.2.1.facts.1 2
    have fz2 := HWC.out.2.2.1.facts.2.1 2
    have z3 := HWC.out.2.2.1.facts.1 3
    have fz3 := HWC.out.2.2.1.facts.2.1 3
    have z4 := HWC.out.2.2.1.facts.1 4
    have fz4 := HWC.out.2.2.1.facts.2.1 4
    have z5 := HWC.out.2.2.1.facts.1 5
    have fz5 := HWC.out.2.2.1.facts.2.1 5
    have z6 := HWC.out.2.2.1.facts.1 6
    have fz6 := HWC.out.2.2.1.facts.2.1 6
    have z7 := HWC.out.2.2.1.facts.1 7
    have fz7 := HWC.out.2.2.1.facts.2.1 7
    have z8 := HWC.out.2.2.1.facts.1 8
    have fz8 := HWC.out.2.2.1.facts.2.1 8
    have z9 := HWC.out.2.2.1.facts.1 9
    have fz9 := HWC.out.2.2.1.facts.2.1 9
    go_upto_if 36 with fail
    go_cut [10] (fun v10 wx => v10 = .int .i64 kd ∧ wx = wc)
    case first =>
      by_cases hge : data ≤ (i2 : Int)
      · rw [if_pos hge] at kd0
        subst kd0
        go_wp2_with fail
        go_meet
        exact ⟨rfl, rfl⟩
      · rw [if_neg hge] at kd0
        subst kd0
        go_wp2_with fail
        go_meet
        exact ⟨rfl, rfl⟩
    case rest =>
      obtain ⟨rfl, rfl⟩ := hcut
      clear kd0
      go_upto_region 8 with fail
      go_still_tail 21, (by kernel_rfl)
      change wpList _ _ _ _ _ (World.drew _)
      go_wp2_with fail
      have hB := HWC.out.2.2.2.2
      exact bodyPost_ret (v := .tuple #[Dg.val ⟨kd, S.st, x1, (i2 : Int), data, y.n, y.body.length, 0, [], st⟩, .bool true]) (by simp [results, Tryz.results16, go_sem, z0, z1, z2, z3, z4, z5, z6, z7, z8, z9]) rfl ⟨rfl, by rw [HBB.out]; exact (((((((((((hB.setCell (p := ⟨b + 1, 0, none⟩) (Nat.le_succ b) _).setCell (p := ⟨b + 1, 1, none⟩) (Nat.le_succ b) _).setCell (p := ⟨b + 1, 2, none⟩) (Nat.le_succ b) _).setCell (p := ⟨b + 1, 3, none⟩) (Nat.le_succ b) _).setCell (p := ⟨b + 1, 4, none⟩) (Nat.le_succ b) _).setCell (p := ⟨b + 1, 5, none⟩) (Nat.le_succ b) _).setCell (p := ⟨b + 1, 6, none⟩) (Nat.le_succ b) _).setCell (p := ⟨b + 1, 7, none⟩) (Nat.le_succ b) _).setCell (p := ⟨b + 1, 8, none⟩) (Nat.le_succ b) _).setCell (p := ⟨b + 1, 9, none⟩) (Nat.le_succ b) _)).drew⟩
end
end Go.Proofs.YtnmlmpffmjhihaaGreat
namespace Go.Proofs.YtnmlmpffmjhihaaGreat
open Go Go.RowKit
set_option linter.unusedVariables false
set_option linter.unusedSimpArgs false
set_option maxRecDepth 100000
set_option maxHeartbeats 2000000
theorem flnext_q {w : World} {B bf : Nat} {b z : Int} {v : Value} {L : List FB} (h : FlM w B bf b z v L) (hl : L.length ≤ 64) : Calls Tryz.prog 17 #[.pointer (some ⟨bf, 0, none⟩)] w fun e w' => e = .returned (.int .u32 ((b + (L.length : Int)) % 4294967296)) ∧ w' = w.drewN 1 := by
  obtain ⟨a, c, rfl⟩ := h.s.form
  have c0 := h.k.facts.1 0
  have c2 := h.k.facts.1 2
  have hm : ((L.length : Nat) : Int) % 4294967296 = (L.length : Int) := by omega
  have HM := Lib.hid hm
  clear h
  go_enter Tryz.func17, Tryz.ntmps17
  go_wp2_with fail
  go_region
  go_wp2_with fail
  go_ret
  exact ⟨rfl, rfl⟩
section
variable {Ow : Nat → Prop} {w w' : World} {bo : Nat} {S : OS}
theorem ofin_open (h : OutM Ow w bo S) (hl : S.L.length ≤ 64) (hc : S.cl = false) : Calls Tryz.prog 5 #[.pointer (some ⟨bo, 0, none⟩)] w fun e w' => e = .returned (.tuple #[.int .u32 ((S.b + (S.L.length : Int)) % 4294967296), .bool (false)]) ∧ Below w.heap.size w w' := by
  have o12 : w.cell? ⟨bo, 12, none⟩ = some (.bool S.cl) := h.k.facts.1 12
  have o13 : w.cell? ⟨bo, 13, none⟩ = some (.bool S.fi) := h.k.facts.1 13
  have o14 : w.cell? ⟨bo, 14, none⟩ = some (.pointer (some ⟨S.wb, 0, none⟩)) := h.k.facts.1 14
  have o15 : w.cell? ⟨bo, 15, none⟩ = some (.pointer (some ⟨S.fb, 0, none⟩)) := h.k.facts.1 15
  have HN : Hid (∀ k : Nat, Calls Tryz.prog 17 #[.pointer (some ⟨S.fb, 0, none⟩)] (w.drewN k) fun e w'' => e = .returned (.int .u32 ((S.b + (S.L.length : Int)) % 4294967296)) ∧ ∃ m, w'' = (w.drewN k).drewN m) := Lib.hid fun k => (flnext_q (h.chain (below_drewN (Below.refl _ _) k)).f hl).mono fun e w'' q => ⟨q.1, 1, q.2⟩
  have HL : Hid (∀ k : Nat, Calls Tryz.prog 18 #[.pointer (some ⟨S.wb, 0, none⟩)] (w.drewN k) fun e w'' => e = .returned (.int .i64 (S.n : Int)) ∧ w'' = w.drewN k) := Lib.hid fun k => blen_any (h.chain (below_drewN (Below.refl _ _) k)).wk
  obtain ⟨z, hz⟩ : ∃ z, (S.b + (S.L.length : Int)) % 4294967296 = z := ⟨_, rfl⟩
  rw [hz] at HN ⊢
  clear h hl hz
  rw [hc] at o12
  go_enter Tryz.func5, Tryz.ntmps5
  go_upto_region 3 with fail
  refine wp_region_quiet_lit (by kernel_rfl) (by kernel_rfl) ?_
  repeat (first | go_big_quiet_step (first | exact Calls.quiet_of (HN.out _) | exact Calls.quiet_of_same (HL.out _)) | quiet_step (first | exact Calls.quiet_of (HN.out _) | exact Calls.quiet_of_same (HL.out _)))
  refine wpQuiet_nil ?_
  intro _ hw'
  obtain ⟨nq, hw''⟩ := hw'
  subst hw''
  go_wp2_with fail
  go_ret2
  exact ⟨rfl, below_drewN (Below.refl _ _) _⟩
theorem ofin_waits (h : OutM Ow w bo S) (hl : S.L.length ≤ 64) (hc : S.cl = true) (hn : S.n ≠ 0) : Calls Tryz.prog 5 #[.pointer (some ⟨bo, 0, none⟩)] w fun e w' => e = .returned (.tuple #[.int .u32 ((S.b + (S.L.length : Int)) % 4294967296), .bool (false)]) ∧ Below w.heap.size w w' := by
  have o12 : w.cell? ⟨bo, 12, none⟩ = some (.bool S.cl) := h.k.facts.1 12
  have o13 : w.cell? ⟨bo, 13, none⟩ = some (.bool S.fi) := h.k.facts.1 13
  have o14 : w.cell? ⟨bo, 14, none⟩ = some (.pointer (some ⟨S.wb, 0, none⟩)) := h.k.facts.1 14
  have o15 : w.cell? ⟨bo, 15, none⟩ = some (.pointer (some ⟨S.fb, 0, none⟩)) := h.k.facts.1 15
  have HN : Hid (∀ k : Nat, Calls Tryz.prog 17 #[.pointer (some ⟨S.fb, 0, none⟩)] (w.drewN k) fun e w'' => e = .returned (.int .u32 ((S.b + (S.L.length : Int)) % 4294967296)) ∧ ∃ m, w'' = (w.drewN k).drewN m) := Lib.hid fun k => (flnext_q (h.chain (below_drewN (Below.refl _ _) k)).f hl).mono fun e w'' q => ⟨q.1, 1, q.2⟩
  have HL : Hid (∀ k : Nat, Calls Tryz.prog 18 #[.pointer (some ⟨S.wb, 0, none⟩)] (w.drewN k) fun e w'' => e = .returned (.int .i64 (S.n : Int)) ∧ w'' = w.drewN k) := Lib.hid fun k => blen_any (h.chain (below_drewN (Below.refl _ _) k)).wk
  obtain ⟨z, hz⟩ : ∃ z, (S.b + (S.L.length : Int)) % 4294967296 = z := ⟨_, rfl⟩
  rw [hz] at HN ⊢
  clear h hl hz
  rw [hc] at o12
  have hnb : ((S.n : Int) == 0) = false := beq_eq_false_iff_ne.2 (by omega)
  go_enter Tryz.func5, Tryz.ntmps5
  go_upto_region 3 with fail
  refine wp_region_quiet_lit (by kernel_rfl) (by kernel_rfl) ?_
  repeat (first | go_big_quiet_step (first | exact Calls.quiet_of (HN.out _) | exact Calls.quiet_of_same (HL.out _)) | quiet_step (first | exact Calls.quiet_of (HN.out _) | exact Calls.quiet_of_same (HL.out _)))
  refine wpQuiet_nil ?_
  intro _ hw'
  obtain ⟨nq, hw''⟩ := hw'
  subst hw''
  go_wp2_with fail
  go_ret2
  exact ⟨rfl, below_drewN (Below.refl _ _) _⟩
theorem ofin_end (h : OutM Ow w bo S) (hl : S.L.length ≤ 64) (hc : S.cl = true) (hn : S.n = 0) (hf : S.fi = false) : Calls Tryz.prog 5 #[.pointer (some ⟨bo, 0, none⟩)] w fun e w' => e = .returned (.tuple #[.int .u32 ((S.b + (S.L.length : Int)) % 4294967296), .bool (true)]) ∧ Below w.heap.size w w' := by
  have o12 : w.cell? ⟨bo, 12, none⟩ = some (.bool S.cl) := h.k.facts.1 12
  have o13 : w.cell? ⟨bo, 13, none⟩ = some (.bool S.fi) := h.k.facts.1 13
  have o14 : w.cell? ⟨bo, 14, none⟩ = some (.pointer (some ⟨S.wb, 0, none⟩)) := h.k.facts.1 14
  have o15 : w.cell? ⟨bo, 15, none⟩ = some (.pointer (some ⟨S.fb, 0, none⟩)) := h.k.facts.1 15
  have HN : Hid (∀ k : Nat, Calls Tryz.prog 17 #[.pointer (some ⟨S.fb, 0, none⟩)] (w.drewN k) fun e w'' => e = .returned (.int .u32 ((S.b + (S.L.length : Int)) % 4294967296)) ∧ ∃ m, w'' = (w.drewN k).drewN m) := Lib.hid fun k => (flnext_q (h.chain (below_drewN (Below.refl _ _) k)).f hl).mono fun e w'' q => ⟨q.1, 1, q.2⟩
  have HL : Hid (∀ k : Nat, Calls Tryz.prog 18 #[.pointer (some ⟨S.wb, 0, none⟩)] (w.drewN k) fun e w'' => e = .returned (.int .i64 (S.n : Int)) ∧ w'' = w.drewN k) := Lib.hid fun k => blen_any (h.chain (below_drewN (Below.refl _ _) k)).wk
  obtain ⟨z, hz⟩ : ∃ z, (S.b + (S.L.length : Int)) % 4294967296 = z := ⟨_, rfl⟩
  rw [hz] at HN ⊢
  clear h hl hz
  rw [hc] at o12
  rw [hf] at o13
  rw [hn] at HL
  go_enter Tryz.func5, Tryz.ntmps5
  go_upto_region 3 with fail
  refine wp_region_quiet_lit (by kernel_rfl) (by kernel_rfl) ?_
  repeat (first | go_big_quiet_step (first | exact Calls.quiet_of (HN.out _) | exact Calls.quiet_of_same (HL.out _)) | quiet_step (first | exact Calls.quiet_of (HN.out _) | exact Calls.quiet_of_same (HL.out _)))
  refine wpQuiet_nil ?_
  intro _ hw'
  obtain ⟨nq, hw''⟩ := hw'
  subst hw''
  go_wp2_with fail
  go_ret2
  exact ⟨rfl, below_drewN (Below.refl _ _) _⟩
theorem ofin_done (h : OutM Ow w bo S) (hl : S.L.length ≤ 64) (hc : S.cl = true) (hn : S.n = 0) (hf : S.fi = true) : Calls Tryz.prog 5 #[.pointer (some ⟨bo, 0, none⟩)] w fun e w' => e = .returned (.tuple #[.int .u32 ((S.b + (S.L.length : Int)) % 4294967296), .bool (false)]) ∧ Below w.heap.size w w' := by
  have o12 : w.cell? ⟨bo, 12, none⟩ = some (.bool S.cl) := h.k.facts.1 12
  have o13 : w.cell? ⟨bo, 13, none⟩ = some (.bool S.fi) := h.k.facts.1 13
  have o14 : w.cell? ⟨bo, 14, none⟩ = some (.pointer (some ⟨S.wb, 0, none⟩)) := h.k.facts.1 14
  have o15 : w.cell? ⟨bo, 15, none⟩ = some (.pointer (some ⟨S.fb, 0, none⟩)) := h.k.facts.1 15
  have HN : Hid (∀ k : Nat, Calls Tryz.prog 17 #[.pointer (some ⟨S.fb, 0, none⟩)] (w.drewN k) fun e w'' => e = .returned (.int .u32 ((S.b + (S.L.length : Int)) % 4294967296)) ∧ ∃ m, w'' = (w.drewN k).drewN m) := Lib.hid fun k => (flnext_q (h.chain (below_drewN (Below.refl _ _) k)).f hl).mono fun e w'' q => ⟨q.1, 1, q.2⟩
  have HL : Hid (∀ k : Nat, Calls Tryz.prog 18 #[.pointer (some ⟨S.wb, 0, none⟩)] (w.drewN k) fun e w'' => e = .returned (.int .i64 (S.n : Int)) ∧ w'' = w.drewN k) := Lib.hid fun k => blen_any (h.chain (below_drewN (Below.refl _ _) k)).wk
  obtain ⟨z, hz⟩ : ∃ z, (S.b + (S.L.length : Int)) % 4294967296 = z := ⟨_, rfl⟩
  rw [hz] at HN ⊢
  clear h hl hz
  rw [hc] at o12
  rw [hf] at o13
  rw [hn] at HL
  go_enter Tryz.func5, Tryz.ntmps5
  go_upto_region 3 with fail
  refine wp_region_quiet_lit (by kernel_rfl) (by kernel_rfl) ?_
  repeat (first | go_big_quiet_step (first | exact Calls.quiet_of (HN.out _) | exact Calls.quiet_of_same (HL.out _)) | quiet_step (first | exact Calls.quiet_of (HN.out _) | exact Calls.quiet_of_same (HL.out _)))
  refine wpQuiet_nil ?_
  intro _ hw'
  obtain ⟨nq, hw''⟩ := hw'
  subst hw''
  go_wp2_with fail
  go_ret2
  exact ⟨rfl, below_drewN (Below.refl _ _) _⟩
theorem oheld_any (h : OutM Ow w bo S) (hh : -1048576 ≤ S.hd ∧ S.hd ≤ 1048576) (hn : S.n ≤ 1048576) : Calls Tryz.prog 14 #[.pointer (some ⟨bo, 0, none⟩)] w fun e w' => e = .returned (.int .i64 ((S.n : Int) + S.hd)) ∧ Below w.heap.size w w' := by
  have HS : Hid (w.drew.cell? ⟨bo, 14, none⟩ = some (.pointer (some ⟨S.wb, 0, none⟩)) ∧ w.drew.cell? ⟨bo, 20, none⟩ = some (.int .i64 S.hd)) := Lib.hid ⟨h.k.drew.facts.1 14, h.k.drew.facts.1 20⟩
  have HL := Lib.hid (blen_any (h.chain (Below.refl _ w).drew).wk)
  have x1 : wrap64 ((S.n : Int) + S.hd) = (S.n : Int) + S.hd := IntWalk.wrap64_in _ (by omega)
  have x2 : IntKind.i64.wrap ((S.n : Int) + S.hd) = (S.n : Int) + S.hd := IntWalk.i64_in _ (by omega)
  clear h hh hn
  go_enter Tryz.func14, Tryz.ntmps14
  go_wp2_with fail
  go_region_held3 (fun w' => (w'.cell? ⟨bo, 14, none⟩ = some (.pointer (some ⟨S.wb, 0, none⟩)) ∧ w'.cell? ⟨bo, 20, none⟩ = some (.int .i64 S.hd)) ∧ w' = w.drew)
    (first
      | with_reducible exact ⟨HS.out, rfl⟩
      | exact ⟨HS.out, by with_reducible assumption⟩)
    ((first
      | (go_at_call 18; refine HL.out.mono ?_; rintro e w8 ⟨rfl, rfl⟩)))
  go_wp2_with fail
  go_ret
  exact ⟨rfl, (Below.refl _ _).drew⟩
end
end Go.Proofs.YtnmlmpffmjhihaaGreat
namespace Go.Proofs.YtnmlmpffmjhihaaGreat
open Go Go.RowKit
set_option linter.unusedVariables false
set_option linter.unusedSimpArgs false
set_option maxRecDepth 100000
set_option maxHeartbeats 2000000
theorem fieldsSend : Tryz.prog.underlying 54 = some (.struct (Tryz.prog.fieldsOf 54)) := by kernel_rfl
theorem notHeldSend : Tryz.prog.stoodInHeld 54 = false := by kernel_rfl
theorem run_eq_send (w : World) (x y : Int × Int) : (Op.equal 54 (encD x) (encD y)).run Tryz.prog w = .ok (decide (x = y)) w := by
  have h : (Op.equalIn 10000 54 (encD x) (encD y)).run Tryz.prog w = .ok (decide (x = y)) w := by
    have zI := Tryz.sizeOf3
    have zU := Tryz.sizeOf22
    obtain ⟨a, b⟩ := x
    obtain ⟨c, e⟩ := y
    unfold encD
    rw [run_equalIn_agg w 9999 54 _ _ fieldsSend notHeldSend]
    simp only [Program.fieldsOf, Tryz.underlying54]
    go_simp
    by_cases h1 : a = c <;> by_cases h2 : b = e <;> simp [h1, h2]
  exact h
theorem keyS : KeyE Tryz.prog 54 encD :=
  KeyE.wide (by kernel_rfl) (fun w em x => by cases em <;> kernel_rfl) run_eq_send
    (fun w x => by simp [Instr.keyThatStays, Instr.sameBits, encD]) (fun x y h => by
      unfold encD at h
      simp only [Value.agg.injEq] at h
      have := congrArg Array.toList h
      simp at this
      exact Prod.ext this.1 this.2)
theorem undSet : Tryz.prog.underlying 49 = some (.map 54 4) := by kernel_rfl
theorem zeroB (w : World) : (zeroValue 4).run Tryz.prog w = .ok (.bool false) w := by kernel_rfl
section
variable {Ow : Nat → Prop} {w w' : World} {bo : Nat} {S : OS}
theorem opop_none (h : OutM Ow w bo S) (hq : S.Q = []) : Calls Tryz.prog 4 #[.pointer (some ⟨bo, 0, none⟩)] w fun e w' => e = .returned (.tuple #[dg0.val, .bool false]) ∧ Below w.heap.size w w' := by
  have hf := h.q.form
  rw [hq] at hf
  obtain ⟨a, c, hv⟩ := hf
  have ha := Below.chainAlloc (Below.refl _ w) (.cells #[.int .i64 0, .int .i64 0, .int .u32 0, .int .i64 0, .int .i64 0, .int .i64 0, .int .i64 0, .int .i64 0, Str [], Str []] 27)
  have o18 : (w.alloc (.cells #[.int .i64 0, .int .i64 0, .int .u32 0, .int .i64 0, .int .i64 0, .int .i64 0, .int .i64 0, .int .i64 0, Str [], Str []] 27)).cell? ⟨bo, 18, none⟩ = some (.slice a 0 c) := by
    have := (h.chain ha).k.facts.1 18
    rw [this]
    show some S.qv = _
    rw [hv]
    rfl
  have HZ := Lib.hid (Blk.new w #[.int .i64 0, .int .i64 0, .int .u32 0, .int .i64 0, .int .i64 0, .int .i64 0, .int .i64 0, .int .i64 0, Str [], Str []] 27)
  have HB := Lib.hid ha
  have hlt := h.k.lt
  clear h hq hv ha
  go_enter Tryz.func4, Tryz.ntmps4
  go_upto_region 1 with fail
  obtain ⟨b, hb⟩ : ∃ b, w.heap.size = b := ⟨_, rfl⟩
  have HBB := Lib.hid hb
  rw [hb] at HZ HB ⊢
  generalize w.alloc (.cells #[.int .i64 0, .int .i64 0, .int .u32 0, .int .i64 0, .int .i64 0, .int .i64 0, .int .i64 0, .int .i64 0, Str [], Str []] 27) = W0 at *
  have z0 := HZ.out.facts.1 0
  have fz0 := HZ.out.facts.2.1 0
  have z1 := HZ.out.facts.1 1
  have fz1 := HZ.out.facts.2.1 1
  have z2 := HZ.out.facts.1 2
  have fz2 := HZ.out.facts.2.1 2
  have z3 := HZ.out.facts.1 3
  have fz3 := HZ.out.facts.2.1 3
  have z4 := HZ.out.facts.1 4
  have fz4 := HZ.out.facts.2.1 4
  have z5 := HZ.out.facts.1 5
  have fz5 := HZ.out.facts.2.1 5
  have z6 := HZ.out.facts.1 6
  have fz6 := HZ.out.facts.2.1 6
  have z7 := HZ.out.facts.1 7
  have fz7 := HZ.out.facts.2.1 7
  have z8 := HZ.out.facts.1 8
  have fz8 := HZ.out.facts.2.1 8
  have z9 := HZ.out.facts.1 9
  have fz9 := HZ.out.facts.2.1 9
  go_wp2_with fail
  have hB := HB.out
  exact bodyPost_ret (v := .tuple #[dg0.val, .bool false]) (by simp [results, Tryz.results4, go_sem, z0, z1, z2, z3, z4, z5, z6, z7, z8, z9, dg0]) rfl ⟨rfl, by rw [HBB.out]; exact ((((((((((hB.setCell (p := ⟨b, 0, none⟩) (Nat.le_refl b) _).setCell (p := ⟨b, 1, none⟩) (Nat.le_refl b) _).setCell (p := ⟨b, 2, none⟩) (Nat.le_refl b) _).setCell (p := ⟨b, 3, none⟩) (Nat.le_refl b) _).setCell (p := ⟨b, 4, none⟩) (Nat.le_refl b) _).setCell (p := ⟨b, 5, none⟩) (Nat.le_refl b) _).setCell (p := ⟨b, 6, none⟩) (Nat.le_refl b) _).setCell (p := ⟨b, 7, none⟩) (Nat.le_refl b) _).setCell (p := ⟨b, 8, none⟩) (Nat.le_refl b) _).setCell (p := ⟨b, 9, none⟩) (Nat.le_refl b) _)⟩
end
end Go.Proofs.YtnmlmpffmjhihaaGreat
