/-
  Merged: Nack, whatever came of a block (chapter 27). | A stream that sends is made (chapter 27).
-/
import Derived.Test.YtnmlmpffmjhihaaGreatMW
import Derived.BigQuiet
import Derived.Test.YtnmlmpffmjhihaaGreatConfig
namespace Go.Proofs.YtnmlmpffmjhihaaGreat
open Go Go.RowKit
set_option linter.unusedVariables false
set_option linter.unusedSimpArgs false
set_option maxRecDepth 100000
set_option maxHeartbeats 4000000
section
variable {Ow : Nat → Prop} {w w' : World} {bo : Nat} {S : OS}
/-- What a walk leaves that lets shards wait. -/
def WaitPost (Ow : Nat → Prop) (w : World) (bo : Nat) (S : OS) (T : TQ) (e : Ending) (w' : World) : Prop :=
  ∃ qv v, e = .returned v ∧ OutM Ow w' bo { S with qv := qv, Q := T.Q, QD := T.QD } ∧ Seg w' w.heap.size 93 2 v T.its.length (itQ T.its) ∧ Turn Ow [some 52, none, some 54] w w'
theorem onack_any (x : Int) (hv : List UInt8) (l : List (Int × Int)) (sv : Value) (data : Int) (sz : Int × Int → Int) (D : Int × Int → Dg) (h : OutM Ow w bo S)
    (hM : (getM x S.M).getD (.agg #[.slice none 0 0, .int .i64 0]) = .agg #[sv, .int .i64 data])
    (hwn : ∀ w1, OutM Ow w1 bo S → Calls Tryz.prog 23 #[.pointer (some ⟨S.fb, 0, none⟩), .int .u32 x, Str hv, .int .i64 data] w1 fun e w2 => ∃ lv, e = .returned lv ∧ Seg w2 w1.heap.size 54 2 lv l.length (sdQ l) ∧ Below w1.heap.size w1 w2)
    (hlen : l.length ≤ 1000) (hql : S.Q.length ≤ 1000000) (hT : AllT S.QD)
    (hsh : ∀ (w1 : World) (qv : Value) (T : TQ), OutM Ow w1 bo { S with qv := qv, Q := T.Q, QD := T.QD } → Turn Ow [some 52, none, some 54] w w1 → ∀ x ∈ l, ∃ okb, Calls Tryz.prog 16 #[.pointer (some ⟨bo, 0, none⟩), .agg #[.int .u32 x.1, .int .i64 x.2]] w1 fun e w2 => e = .returned (.tuple #[(D x).val, .bool okb]) ∧ Below w1.heap.size w1 w2)
    (hsz : ∀ w1, ∀ x ∈ l, Calls Tryz.prog 40 #[(D x).val] w1 (RetB (.int .i64 (sz x)) w1)) :
    Calls Tryz.prog 9 #[.pointer (some ⟨bo, 0, none⟩), .int .u32 x, Str hv] w (WaitPost Ow w bo S (wFold S.st sz l ⟨S.Q, S.QD, []⟩)) := by
  have HKM : Hid (∀ w', Below w.heap.size w w' → w'.cell? ⟨bo, 15, none⟩ = some (.pointer (some ⟨S.fb, 0, none⟩)) ∧ w'.cell? ⟨bo, 17, none⟩ = some (.map (some S.mm)) ∧ (Instr.lookup 47 (.map (some S.mm)) (.int .u32 x) false).run Tryz.prog w' = .ok (.agg #[sv, .int .i64 data]) w') := Lib.hid fun w' hb' => ⟨(h.chain hb').k.facts.1 15, (h.chain hb').k.facts.1 17, by
    have := (h.chain hb').m.look keyU undMade x (zeroMade _) false
    rw [hM] at this
    exact this⟩
  have HKX : Hid (∀ w' qv Q QD, OutM Ow w' bo { S with qv := qv, Q := Q, QD := QD } → w'.cell? ⟨bo, 15, none⟩ = some (.pointer (some ⟨S.fb, 0, none⟩)) ∧ w'.cell? ⟨bo, 17, none⟩ = some (.map (some S.mm)) ∧ (Instr.lookup 47 (.map (some S.mm)) (.int .u32 x) false).run Tryz.prog w' = .ok (.agg #[sv, .int .i64 data]) w') := Lib.hid fun w' qv Q QD h' => ⟨h'.k.facts.1 15, h'.k.facts.1 17, by
    have := h'.m.look keyU undMade x (zeroMade _) false
    rw [show getM x ({ S with qv := qv, Q := Q, QD := QD } : OS).M = getM x S.M from rfl, hM] at this
    exact this⟩
  have HWN : Hid (∀ w1, Below w.heap.size w w1 → Calls Tryz.prog 23 #[.pointer (some ⟨S.fb, 0, none⟩), .int .u32 x, Str hv, .int .i64 data] w1 fun e w2 => ∃ lv, e = .returned lv ∧ Seg w2 w1.heap.size 54 2 lv l.length (sdQ l) ∧ Below w1.heap.size w1 w2) := Lib.hid fun w1 hb1 => hwn w1 (h.chain hb1)
  have HWT : Hid (∀ w1 w2 lv, Below w.heap.size w w1 → Seg w2 w1.heap.size 54 2 lv l.length (sdQ l) → Below w1.heap.size w1 w2 → Calls Tryz.prog 21 #[.pointer (some ⟨bo, 0, none⟩), lv] w2 (WaitPost Ow w bo S (wFold S.st sz l ⟨S.Q, S.QD, []⟩))) := Lib.hid fun w1 w2 lv hb1 hs2 hb2 => by
    have hb3 := Below.chain hb2 hb1
    refine (owait_any sz D l lv (h.chain hb3) (hs2.le (Nat.zero_le _)) (fun g hg he => ?_) hlen hql hT (fun w3 qv T h3 ht3 y hy => hsh w3 qv T h3 ((Turn.of_below hb3).trans ht3) y hy) hsz).mono ?_
    · have h1 := (hs2.blk g hg).1
      have h2 := (h.q.blk g he).2
      have h3 := hb1.size
      omega
    · rintro e w4 ⟨qv, v, rfl, hr⟩
      exact ⟨qv, v, rfl, hr.o, hr.i.le hb3.size, (Turn.of_below hb3).trans hr.t⟩
  have hfd : ∀ w : World, (Instr.field 62 (.agg #[sv, .int .i64 data]) 1).run Tryz.prog w = .ok (.int .i64 data) w := fun _ => by kernel_rfl
  clear h hM hwn hlen hql hT hsh hsz
  go_enter Tryz.func9, Tryz.ntmps9
  go_upto_region 3 with fail
  go_region_held3 (fun w' => (w'.cell? ⟨bo, 15, none⟩ = some (.pointer (some ⟨S.fb, 0, none⟩)) ∧ w'.cell? ⟨bo, 17, none⟩ = some (.map (some S.mm)) ∧ (Instr.lookup 47 (.map (some S.mm)) (.int .u32 x) false).run Tryz.prog w' = .ok (.agg #[sv, .int .i64 data]) w'))
    (first
      | with_reducible exact HKM.out _ (Below.refl _ w).drew
      | with_reducible exact HKM.out _ (Below.refl _ w)
      | with_reducible exact HKM.out _ HB1.out
      | exact HKX.out _ _ _ _ HW2.out.1)
    ((first
      | (go_at_call 23; refine (HWN.out _ (Below.refl _ w).drew).mono ?_; rintro e w1 ⟨lv, rfl, hs1, hb1⟩; obtain ⟨la, lc, rfl⟩ := hs1.form; have HB1 := Lib.hid (Below.chain hb1 (Below.refl _ w).drew); have HW1 := Lib.hid (HWT.out _ _ _ (Below.refl _ w).drew hs1 hb1); clear hs1 hb1)
      | (go_at_call 21; refine HW1.out.mono ?_; rintro e w2 ⟨qv, v, rfl, hw2⟩; have HW2 := Lib.hid hw2; clear hw2)))
  all_goals
    go_wp2_with fail
    go_ret
    exact ⟨qv, _, rfl, HW2.out⟩
end
end Go.Proofs.YtnmlmpffmjhihaaGreat
namespace Go.Proofs.YtnmlmpffmjhihaaGreat
open Go Go.RowKit
set_option linter.unusedVariables false
set_option linter.unusedSimpArgs false
set_option maxRecDepth 100000
set_option maxHeartbeats 2000000
theorem mk_m1 (w : World) : (Instr.makeMap 47 none).run Tryz.prog w = .ok (.map (some w.heap.size)) (w.alloc (.map #[] 0)) := rfl
theorem mk_m2 (w : World) : (Instr.makeMap 49 none).run Tryz.prog w = .ok (.map (some w.heap.size)) (w.alloc (.map #[] 0)) := rfl
theorem onew_bad (st : Int) (k r s wi bu q qu t wo ws ti : Int) (w : World) (h : chkB k r s wi bu q qu t wo ws ti = false) : Calls Tryz.prog 29 #[.agg #[.int .i64 k, .int .i64 r, .int .i64 s, .int .i64 wi, .int .i64 bu, .int .i64 q, .int .i64 qu, .int .i64 t, .int .i64 wo, .int .i64 ws, .int .i64 ti], .int .i64 st] w fun e w' => e = .returned (.tuple #[.pointer none, .int .i64 2]) ∧ Below w.heap.size w w' := by
  have hv : chkV k r s wi bu q qu t wo ws ti = 2 := by unfold chkV; rw [h]; rfl
  have HC := Lib.hid (fun w' => check_any k r s wi bu q qu t wo ws ti w')
  rw [hv] at HC
  clear h hv
  go_enter Tryz.func29, Tryz.ntmps29
  go_wp2_with fail
  refine (HC.out _).mono ?_
  rintro e w1 ⟨rfl, hb1⟩
  have HB1 : Hid (Below w.heap.size w w1) := Lib.hid (Below.chain hb1 (Below.chainAlloc (Below.refl _ w) _))
  clear hb1
  go_wp2_with fail
  go_ret2
  exact ⟨rfl, HB1.out⟩
theorem onew_far (st : Int) (k r s wi bu q qu t wo ws ti : Int) (w : World) (h : chkB k r s wi bu q qu t wo ws ti = true) (hs : st < 0 ∨ 255 < st) : Calls Tryz.prog 29 #[.agg #[.int .i64 k, .int .i64 r, .int .i64 s, .int .i64 wi, .int .i64 bu, .int .i64 q, .int .i64 qu, .int .i64 t, .int .i64 wo, .int .i64 ws, .int .i64 ti], .int .i64 st] w fun e w' => e = .returned (.tuple #[.pointer none, .int .i64 2]) ∧ Below w.heap.size w w' := by
  have hv : chkV k r s wi bu q qu t wo ws ti = 0 := by unfold chkV; rw [h]; rfl
  have HC := Lib.hid (fun w' => check_any k r s wi bu q qu t wo ws ti w')
  rw [hv] at HC
  clear h hv
  rcases hs with hs | hs
  · go_enter Tryz.func29, Tryz.ntmps29
    go_wp2_with fail
    refine (HC.out _).mono ?_
    rintro e w1 ⟨rfl, hb1⟩
    have HB1 : Hid (Below w.heap.size w w1) := Lib.hid (Below.chain hb1 (Below.chainAlloc (Below.refl _ w) _))
    clear hb1
    go_wp2_with fail
    go_ret2
    exact ⟨rfl, HB1.out⟩
  · have hs2 : ¬ st < 0 := by omega
    go_enter Tryz.func29, Tryz.ntmps29
    go_wp2_with fail
    refine (HC.out _).mono ?_
    rintro e w1 ⟨rfl, hb1⟩
    have HB1 : Hid (Below w.heap.size w w1) := Lib.hid (Below.chain hb1 (Below.chainAlloc (Below.refl _ w) _))
    clear hb1
    go_wp2_with fail
    go_ret2
    exact ⟨rfl, HB1.out⟩
/-- A stream of which nothing was written. -/
def newS (k r s wi bu q qu t wo ws ti st : Int) (wb br bs fb eb mm qm : Nat) (fn : Value) : OS := ⟨⟨k, r, s, wi, bu, q, qu, t, wo, ws, ti⟩, st, false, false, wb, br, bs, z64, 0, 0, blockV k s, fb, 0, .slice none 0 0, [], eb, wi, mm, [], .slice none 0 0, [], qm, [], 0, fn⟩
/-- What gives what is sent anew. -/
def AnewM (w : World) (bo : Nat) (fn : Value) : Prop := ∃ px, fn = .func (.func 57) #[] #[.pointer (some ⟨px, 0, none⟩)] ∧ Blk w px #[.pointer (some ⟨bo, 0, none⟩)] 25
/-- What lies there while it is made. -/
structure NB (w W : World) (b px bo m1 m2 : Nat) (cf cs : Array Value) : Prop where
  c : Blk W b cf 43
  p : Blk W px #[.pointer (some ⟨bo, 0, none⟩)] 25
  o : Blk W bo cs 52
  m : MapW encU W m1 []
  d : MapW encD W m2 []
  ne : m1 ≠ m2
  bl : Below w.heap.size w W
  lo : w.heap.size ≤ bo ∧ w.heap.size ≤ m1 ∧ w.heap.size ≤ m2
theorem NB.below {w W W' : World} {b px bo m1 m2 : Nat} {cf cs : Array Value} (h : NB w W b px bo m1 m2 cf cs) (hb : Below W.heap.size W W') : NB w W' b px bo m1 m2 cf cs :=
  ⟨h.c.below hb h.c.lt, h.p.below hb h.p.lt, h.o.below hb h.o.lt, h.m.chain hb, h.d.chain hb, h.ne, Below.chain hb h.bl, h.lo⟩
theorem NB.set {w W : World} {b px bo m1 m2 : Nat} {cf cs : Array Value} (h : NB w W b px bo m1 m2 cf cs) (i : Nat) (v : Value) : NB w (W.setCell ⟨bo, i, none⟩ v) b px bo m1 m2 cf (cs.setIfInBounds i v) := by
  have ho : Only [bo] W (W.setCell ⟨bo, i, none⟩ v) := (Only.refl _ _).setCell _ _ (.inl (by simp))
  have ht : Turn (fun _ => True) [some 52] W (W.setCell ⟨bo, i, none⟩ v) := Turn.only1 ho trivial h.o (by simp)
  exact ⟨ht.blk h.c (by decide), ht.blk h.p (by decide), h.o.setAt i v rfl, ht.map h.m (by decide), ht.map h.d (by decide), h.ne, Below.only h.bl ho (by simp; exact h.lo.1), h.lo⟩
theorem BkM.turn {Ow : Nat → Prop} {w w' : World} {K : List (Option TypeId)} {bb br bs : Nat} {bl : List UInt8} {fr n : Nat} {most size : Int} (h : BkM w bb br bs bl fr n most size) (ht : Turn Ow K w w') (hK : ∀ k ∈ [some 83, some 122, some 5], k ∉ K) : BkM w' bb br bs bl fr n most size :=
  ⟨ht.blk h.k (hK _ (by simp)), ⟨ht.blk h.r.k (hK _ (by simp)), ht.blk h.r.b (hK _ (by simp)), h.r.l⟩⟩
theorem FlM.turn {Ow : Nat → Prop} {w w' : World} {K : List (Option TypeId)} {B bf : Nat} {b z : Int} {v : Value} {L : List FB} (h : FlM w B bf b z v L) (ht : Turn Ow K w w') (hK : ∀ k ∈ [some 78, some 98], k ∉ K) : FlM w' B bf b z v L :=
  ⟨ht.blk h.k (hK _ (by simp)), ht.seg h.s (hK _ (by simp))⟩
theorem NB.turn {w W : World} {b px bo m1 m2 : Nat} {cf cs : Array Value} (h : NB w W b px bo m1 m2 cf cs) (i : Nat) (v : Value) : Turn (fun _ => True) [some 52] W (W.setCell ⟨bo, i, none⟩ v) :=
  Turn.only1 ((Only.refl _ _).setCell _ _ (.inl (by simp))) trivial h.o (by simp)
def NewPost (Ow : Nat → Prop) (w : World) (k r s wi bu q qu t wo ws ti st : Int) (e : Ending) (w' : World) : Prop :=
  ∃ bo wb br bs fb eb mm qm fn, e = .returned (.tuple #[.pointer (some ⟨bo, 0, none⟩), .int .i64 0]) ∧ OutM Ow w' bo (newS k r s wi bu q qu t wo ws ti st wb br bs fb eb mm qm fn) ∧ AnewM w' bo fn ∧ w.heap.size ≤ bo ∧ Below w.heap.size w w'
theorem onew_ok (st : Int) (k r s wi bu q qu t wo ws ti : Int) (w : World) (h : chkB k r s wi bu q qu t wo ws ti = true) (hs : 0 ≤ st ∧ st ≤ 255) (h64 : 64 ≤ bu) {Ow : Nat → Prop} (hup : ∀ b, w.heap.size ≤ b → Ow b) : Calls Tryz.prog 29 #[.agg #[.int .i64 k, .int .i64 r, .int .i64 s, .int .i64 wi, .int .i64 bu, .int .i64 q, .int .i64 qu, .int .i64 t, .int .i64 wo, .int .i64 ws, .int .i64 ti], .int .i64 st] w (NewPost Ow w k r s wi bu q qu t wo ws ti st) := by
  have HUP := Lib.hid hup
  have hv : chkV k r s wi bu q qu t wo ws ti = 0 := by unfold chkV; rw [h]; rfl
  have HC := Lib.hid (fun w' => check_any k r s wi bu q qu t wo ws ti w')
  rw [hv] at HC
  have HQ : Hid ((1 ≤ blockV k s ∧ blockV k s ≤ 32768) ∧ (blockV k s ≤ bu ∧ bu ≤ 1048576) ∧ (1 ≤ wi ∧ wi ≤ 64)) := Lib.hid (by
    unfold chkB ckA ckB ckC ckD at h
    simp only [Bool.and_eq_true, inB_iff] at h
    obtain ⟨⟨⟨⟨⟨h1, h2⟩, _, h3⟩, h4, _⟩, _⟩, _⟩ := h
    have := Int.mul_pos (show 0 < k by omega) (show 0 < s by omega)
    have hbv := blockV_range k s
    rw [blockV_yes k s ((inB_iff _ _ _).2 h1) ((inB_iff _ _ _).2 h2)] at h4 hbv ⊢
    omega)
  have H64 := Lib.hid h64
  have hs1 : ¬ st < 0 := by omega
  have hs2 : ¬ 255 < st := by omega
  have hm1 := mk_m1
  have hm2 := mk_m2
  clear h hv hs h64 hup
  unfold NewPost
  go_enter Tryz.func29, Tryz.ntmps29
  go_wp2_with fail
  refine (HC.out _).mono ?_
  rintro e w1 ⟨rfl, hb1⟩
  have kk := (Blk.new w #[.int .i64 k, .int .i64 r, .int .i64 s, .int .i64 wi, .int .i64 bu, .int .i64 q, .int .i64 qu, .int .i64 t, .int .i64 wo, .int .i64 ws, .int .i64 ti] 43).below hb1 (Blk.new w #[.int .i64 k, .int .i64 r, .int .i64 s, .int .i64 wi, .int .i64 bu, .int .i64 q, .int .i64 qu, .int .i64 t, .int .i64 wo, .int .i64 ws, .int .i64 ti] 43).lt
  have HB1 : Hid (Below w.heap.size w w1) := Lib.hid (Below.chain hb1 (Below.chainAlloc (Below.refl _ w) _))
  have HK := Lib.hid kk
  obtain ⟨b, hb⟩ : ∃ b, w.heap.size = b := ⟨_, rfl⟩
  rw [hb] at kk HK ⊢
  clear hb1
  have ck0 : w1.cell? ⟨b, 0, none⟩ = some (.int .i64 k) := kk.facts.1 0
  have ck1 : w1.cell? ⟨b, 1, none⟩ = some (.int .i64 r) := kk.facts.1 1
  have ck2 : w1.cell? ⟨b, 2, none⟩ = some (.int .i64 s) := kk.facts.1 2
  have ck3 : w1.cell? ⟨b, 3, none⟩ = some (.int .i64 wi) := kk.facts.1 3
  have ck4 : w1.cell? ⟨b, 4, none⟩ = some (.int .i64 bu) := kk.facts.1 4
  have ck5 : w1.cell? ⟨b, 5, none⟩ = some (.int .i64 q) := kk.facts.1 5
  have ck6 : w1.cell? ⟨b, 6, none⟩ = some (.int .i64 qu) := kk.facts.1 6
  have ck7 : w1.cell? ⟨b, 7, none⟩ = some (.int .i64 t) := kk.facts.1 7
  have ck8 : w1.cell? ⟨b, 8, none⟩ = some (.int .i64 wo) := kk.facts.1 8
  have ck9 : w1.cell? ⟨b, 9, none⟩ = some (.int .i64 ws) := kk.facts.1 9
  have ck10 : w1.cell? ⟨b, 10, none⟩ = some (.int .i64 ti) := kk.facts.1 10
  have hlt := kk.lt
  clear kk
  go_upto_region 7 with fail
  have HN0 : Hid (NB w ((((w1.alloc (.map #[] 0)).alloc (.map #[] 0)).alloc (.cells #[.int .i64 k, .int .i64 r, .int .i64 s, .int .i64 wi, .int .i64 bu, .int .i64 q, .int .i64 qu, .int .i64 t, .int .i64 wo, .int .i64 ws, .int .i64 ti, .int .i64 st, .bool false, .bool false, .pointer none, .pointer none, .pointer none, .map (some w1.heap.size), .slice none 0 0, .map (some (w1.heap.size + 1)), .int .i64 0, .nilFunc] 52)).alloc (.cells #[.pointer (some ⟨w1.heap.size + 1 + 1, 0, none⟩)] 25)) b (w1.heap.size + 1 + 1 + 1) (w1.heap.size + 1 + 1) w1.heap.size (w1.heap.size + 1) #[.int .i64 k, .int .i64 r, .int .i64 s, .int .i64 wi, .int .i64 bu, .int .i64 q, .int .i64 qu, .int .i64 t, .int .i64 wo, .int .i64 ws, .int .i64 ti] #[.int .i64 k, .int .i64 r, .int .i64 s, .int .i64 wi, .int .i64 bu, .int .i64 q, .int .i64 qu, .int .i64 t, .int .i64 wo, .int .i64 ws, .int .i64 ti, .int .i64 st, .bool false, .bool false, .pointer none, .pointer none, .pointer none, .map (some w1.heap.size), .slice none 0 0, .map (some (w1.heap.size + 1)), .int .i64 0, .nilFunc]) := Lib.hid (by
    have hb4 := Below.chainAlloc (Below.chainAlloc (Below.chainAlloc (Below.chainAlloc (Below.refl _ w1) (.map #[] 0)) (.map #[] 0)) (.cells #[.int .i64 k, .int .i64 r, .int .i64 s, .int .i64 wi, .int .i64 bu, .int .i64 q, .int .i64 qu, .int .i64 t, .int .i64 wo, .int .i64 ws, .int .i64 ti, .int .i64 st, .bool false, .bool false, .pointer none, .pointer none, .pointer none, .map (some w1.heap.size), .slice none 0 0, .map (some (w1.heap.size + 1)), .int .i64 0, .nilFunc] 52)) (.cells #[.pointer (some ⟨w1.heap.size + 1 + 1, 0, none⟩)] 25)
    exact ⟨HK.out.below hb4 HK.out.lt, Blk.newAt (by simp), (Blk.newAt (by simp)).alloc _, (((MapW.new encU w1).alloc _).alloc _).alloc _, ((by have := MapW.new encD (w1.alloc (.map #[] 0)); rw [size_alloc] at this; exact this : MapW encD ((w1.alloc (.map #[] 0)).alloc (.map #[] 0)) (w1.heap.size + 1) []).alloc _).alloc _, by omega, Below.chain hb4 HB1.out, by have := HB1.out.size; omega, HB1.out.size, by have := HB1.out.size; omega⟩)
  generalize (((w1.alloc (.map #[] 0)).alloc (.map #[] 0)).alloc (.cells #[.int .i64 k, .int .i64 r, .int .i64 s, .int .i64 wi, .int .i64 bu, .int .i64 q, .int .i64 qu, .int .i64 t, .int .i64 wo, .int .i64 ws, .int .i64 ti, .int .i64 st, .bool false, .bool false, .pointer none, .pointer none, .pointer none, .map (some w1.heap.size), .slice none 0 0, .map (some (w1.heap.size + 1)), .int .i64 0, .nilFunc] 52)).alloc (.cells #[.pointer (some ⟨w1.heap.size + 1 + 1, 0, none⟩)] 25) = W0 at *
  clear ck0 ck1 ck2 ck3 ck4 ck5 ck6 ck7 ck8 ck9 ck10 hlt HB1 HK
  generalize w1.heap.size + 1 + 1 + 1 = px at *
  generalize w1.heap.size + 1 + 1 = bo at *
  generalize w1.heap.size + 1 = m2 at *
  generalize w1.heap.size = m1 at *
  have HSX : Hid (∀ w' cs, NB w w' b px bo m1 m2 #[.int .i64 k, .int .i64 r, .int .i64 s, .int .i64 wi, .int .i64 bu, .int .i64 q, .int .i64 qu, .int .i64 t, .int .i64 wo, .int .i64 ws, .int .i64 ti] cs → w'.cell? ⟨px, 0, none⟩ = some (.pointer (some ⟨bo, 0, none⟩)) ∧ w'.cell? ⟨b, 0, none⟩ = some (.int .i64 k) ∧ w'.cell? ⟨b, 1, none⟩ = some (.int .i64 r) ∧ w'.cell? ⟨b, 2, none⟩ = some (.int .i64 s) ∧ w'.cell? ⟨b, 3, none⟩ = some (.int .i64 wi) ∧ w'.cell? ⟨b, 4, none⟩ = some (.int .i64 bu) ∧ w'.cell? ⟨b, 5, none⟩ = some (.int .i64 q) ∧ w'.cell? ⟨b, 6, none⟩ = some (.int .i64 qu) ∧ w'.cell? ⟨b, 7, none⟩ = some (.int .i64 t) ∧ w'.cell? ⟨b, 8, none⟩ = some (.int .i64 wo) ∧ w'.cell? ⟨b, 9, none⟩ = some (.int .i64 ws) ∧ w'.cell? ⟨b, 10, none⟩ = some (.int .i64 ti)) := Lib.hid fun w' cs h' => ⟨h'.p.facts.1 0, h'.c.facts.1 0, h'.c.facts.1 1, h'.c.facts.1 2, h'.c.facts.1 3, h'.c.facts.1 4, h'.c.facts.1 5, h'.c.facts.1 6, h'.c.facts.1 7, h'.c.facts.1 8, h'.c.facts.1 9, h'.c.facts.1 10⟩
  have HBK := Lib.hid (fun w' => block_any k r s wi bu q qu t wo ws ti w')
  have HBN := Lib.hid (fun w' => bnew_ok (blockV k s) bu HQ.out.1.1 HQ.out.1.2 HQ.out.2.1.1 H64.out HQ.out.2.1.2 w')
  have HN1 := Lib.hid (HN0.out.below (Below.refl _ W0).drew)
  go_region_held3 (fun w' => w'.cell? ⟨px, 0, none⟩ = some (.pointer (some ⟨bo, 0, none⟩)) ∧ w'.cell? ⟨b, 0, none⟩ = some (.int .i64 k) ∧ w'.cell? ⟨b, 1, none⟩ = some (.int .i64 r) ∧ w'.cell? ⟨b, 2, none⟩ = some (.int .i64 s) ∧ w'.cell? ⟨b, 3, none⟩ = some (.int .i64 wi) ∧ w'.cell? ⟨b, 4, none⟩ = some (.int .i64 bu) ∧ w'.cell? ⟨b, 5, none⟩ = some (.int .i64 q) ∧ w'.cell? ⟨b, 6, none⟩ = some (.int .i64 qu) ∧ w'.cell? ⟨b, 7, none⟩ = some (.int .i64 t) ∧ w'.cell? ⟨b, 8, none⟩ = some (.int .i64 wo) ∧ w'.cell? ⟨b, 9, none⟩ = some (.int .i64 ws) ∧ w'.cell? ⟨b, 10, none⟩ = some (.int .i64 ti))
    (first
      | with_reducible exact HSX.out _ _ HN0.out
      | with_reducible exact HSX.out _ _ HN1.out
      | with_reducible exact HSX.out _ _ HN2.out
      | with_reducible exact HSX.out _ _ HN3.out
      | exact HSX.out _ _ (HN3.out.set 14 _))
    ((first
      | (go_at_call 54; refine (HBK.out _).mono ?_; rintro e w2 ⟨rfl, hb2⟩; have HN2 := Lib.hid (HN1.out.below hb2); clear hb2)
      | (go_at_call 53; refine (HBN.out _).mono ?_; rintro e w3 ⟨rfl, hk3, hb3⟩; have HN3 := Lib.hid (HN2.out.below hb3); have HK3 := Lib.hid hk3; have fo14 := HN3.out.o.facts.2.1 14; have o14 : w3.cell? ⟨bo, 14, none⟩ = some (.pointer none) := HN3.out.o.facts.1 14; clear hk3 hb3)))
  go_upto_region 8 with fail
  clear HBK HBN HN0 HN1
  have HL3 : Hid (Ow (w2.heap.size + 2) ∧ Ow (w2.heap.size + 1) ∧ Ow w2.heap.size) := Lib.hid (by have := HN2.out.bl.size; exact ⟨HUP.out _ (by omega), HUP.out _ (by omega), HUP.out _ (by omega)⟩)
  obtain ⟨wb, hwb⟩ : ∃ wb, w2.heap.size + 2 = wb := ⟨_, rfl⟩
  obtain ⟨br, hbr⟩ : ∃ br, w2.heap.size + 1 = br := ⟨_, rfl⟩
  obtain ⟨bs, hbs⟩ : ∃ bs, w2.heap.size = bs := ⟨_, rfl⟩
  rw [hwb] at HK3 HL3 ⊢
  rw [hbr, hbs] at HK3 HL3
  clear hwb hbr hbs o14 fo14 HN2
  have HN4 := Lib.hid (HN3.out.set 14 (.pointer (some ⟨wb, 0, none⟩)))
  have HK4 := Lib.hid (HK3.out.turn (HN3.out.turn 14 (.pointer (some ⟨wb, 0, none⟩))) (by decide))
  clear HK3 HN3
  generalize w3.setCell ⟨bo, 14, none⟩ (.pointer (some ⟨wb, 0, none⟩)) = W4 at *
  have HS4 : Hid (w.heap.size ≤ W4.heap.size) := Lib.hid HN4.out.bl.size
  have HFN := Lib.hid (flnew_ok 0 wi HQ.out.2.2.1 HQ.out.2.2.2 W4.drew)
  go_region_held3 (fun w' => w'.cell? ⟨px, 0, none⟩ = some (.pointer (some ⟨bo, 0, none⟩)) ∧ w'.cell? ⟨b, 0, none⟩ = some (.int .i64 k) ∧ w'.cell? ⟨b, 1, none⟩ = some (.int .i64 r) ∧ w'.cell? ⟨b, 2, none⟩ = some (.int .i64 s) ∧ w'.cell? ⟨b, 3, none⟩ = some (.int .i64 wi) ∧ w'.cell? ⟨b, 4, none⟩ = some (.int .i64 bu) ∧ w'.cell? ⟨b, 5, none⟩ = some (.int .i64 q) ∧ w'.cell? ⟨b, 6, none⟩ = some (.int .i64 qu) ∧ w'.cell? ⟨b, 7, none⟩ = some (.int .i64 t) ∧ w'.cell? ⟨b, 8, none⟩ = some (.int .i64 wo) ∧ w'.cell? ⟨b, 9, none⟩ = some (.int .i64 ws) ∧ w'.cell? ⟨b, 10, none⟩ = some (.int .i64 ti))
    (first
      | with_reducible exact HSX.out _ _ HN4.out
      | with_reducible exact HSX.out _ _ (HN4.out.below (Below.refl _ W4).drew)
      | with_reducible exact HSX.out _ _ HN5.out
      | exact HSX.out _ _ (HN5.out.set 15 _))
    ((first
      | (go_at_call 55; refine HFN.out.mono ?_; rintro e w5 ⟨rfl, hk5, hb5⟩; have HN5 := Lib.hid (HN4.out.below (Below.chain hb5 (Below.refl _ W4).drew)); have HK5 := Lib.hid (HK4.out.chain (Below.chain hb5 (Below.refl _ W4).drew)); have HF5 := Lib.hid (FlM.mk hk5.k (hk5.s.le (Nat.zero_le _))); have fo15 := HN5.out.o.facts.2.1 15; have o15 : w5.cell? ⟨bo, 15, none⟩ = some (.pointer none) := HN5.out.o.facts.1 15; clear hk5 hb5)))
  go_upto_region 9 with fail
  clear HFN HN4 HK4 o15 fo15
  have HF5b : Hid (FlM w5 0 W4.heap.size 0 wi (.slice none 0 0) []) := HF5
  clear HF5
  have HL5 : Hid (Ow W4.heap.size) := Lib.hid (HUP.out _ HS4.out)
  obtain ⟨fb, hfb⟩ : ∃ fb, W4.heap.size = fb := ⟨_, rfl⟩
  rw [hfb] at HF5b HL5 ⊢
  clear hfb
  have HN6 := Lib.hid (HN5.out.set 15 (.pointer (some ⟨fb, 0, none⟩)))
  have HT6 := Lib.hid (HN5.out.turn 15 (.pointer (some ⟨fb, 0, none⟩)))
  have HK6 := Lib.hid (HK5.out.turn HT6.out (by decide))
  have HF6 := Lib.hid (HF5b.out.turn HT6.out (by decide))
  clear HK5 HN5 HF5b HT6
  generalize w5.setCell ⟨bo, 15, none⟩ (.pointer (some ⟨fb, 0, none⟩)) = W6 at *
  have HEN : Hid (Calls Tryz.prog 56 #[.int .u32 0, .int .i64 wi] W6.drew fun e w' => e = .returned (.tuple #[.pointer (some ⟨W6.heap.size, 0, none⟩), .int .i64 0]) ∧ EgM w' W6.heap.size wi ∧ Below W6.heap.size W6 w') := Lib.hid ((cnew_ok2 wi (by have := HQ.out; omega) (by have := HQ.out; omega) W6.drew).mono (by
    rintro e w' ⟨rfl, h1, rfl⟩
    exact ⟨rfl, h1, Below.chainAlloc (Below.refl _ W6).drew _⟩))
  go_region_held3 (fun w' => w'.cell? ⟨px, 0, none⟩ = some (.pointer (some ⟨bo, 0, none⟩)) ∧ w'.cell? ⟨b, 0, none⟩ = some (.int .i64 k) ∧ w'.cell? ⟨b, 1, none⟩ = some (.int .i64 r) ∧ w'.cell? ⟨b, 2, none⟩ = some (.int .i64 s) ∧ w'.cell? ⟨b, 3, none⟩ = some (.int .i64 wi) ∧ w'.cell? ⟨b, 4, none⟩ = some (.int .i64 bu) ∧ w'.cell? ⟨b, 5, none⟩ = some (.int .i64 q) ∧ w'.cell? ⟨b, 6, none⟩ = some (.int .i64 qu) ∧ w'.cell? ⟨b, 7, none⟩ = some (.int .i64 t) ∧ w'.cell? ⟨b, 8, none⟩ = some (.int .i64 wo) ∧ w'.cell? ⟨b, 9, none⟩ = some (.int .i64 ws) ∧ w'.cell? ⟨b, 10, none⟩ = some (.int .i64 ti))
    (first
      | with_reducible exact HSX.out _ _ HN6.out
      | with_reducible exact HSX.out _ _ (HN6.out.below (Below.refl _ W6).drew)
      | with_reducible exact HSX.out _ _ HN7.out
      | exact HSX.out _ _ (HN7.out.set 16 _))
    ((first
      | (go_at_call 56; refine HEN.out.mono ?_; rintro e w7 ⟨rfl, he7, hb7⟩; have HN7 := Lib.hid (HN6.out.below hb7); have HK7 := Lib.hid (HK6.out.chain hb7); have HF7 := Lib.hid (HF6.out.chain hb7); have HE7 := Lib.hid he7; have fo16 := HN7.out.o.facts.2.1 16; have o16 : w7.cell? ⟨bo, 16, none⟩ = some (.pointer none) := HN7.out.o.facts.1 16; clear hb7 he7)))
  go_upto_region 10 with fail
  have HL7 : Hid (Ow W6.heap.size) := Lib.hid (HUP.out _ HN6.out.bl.size)
  clear HEN HN6 HK6 HF6 o16 fo16
  obtain ⟨eb, heb⟩ : ∃ eb, W6.heap.size = eb := ⟨_, rfl⟩
  rw [heb] at HE7 HL7 ⊢
  clear heb
  have HN8 := Lib.hid (HN7.out.set 16 (.pointer (some ⟨eb, 0, none⟩)))
  have HT8 := Lib.hid (HN7.out.turn 16 (.pointer (some ⟨eb, 0, none⟩)))
  have HK8 := Lib.hid (HK7.out.turn HT8.out (by decide))
  have HF8 := Lib.hid (HF7.out.turn HT8.out (by decide))
  have HE8 : Hid (EgM (w7.setCell ⟨bo, 16, none⟩ (.pointer (some ⟨eb, 0, none⟩))) eb wi) := Lib.hid (HT8.out.blk HE7.out (by decide))
  clear HK7 HN7 HF7 HE7 HT8
  generalize w7.setCell ⟨bo, 16, none⟩ (.pointer (some ⟨eb, 0, none⟩)) = W8 at *
  have po := HN8.out.p.facts.1 0
  have o21 : W8.cell? ⟨bo, 21, none⟩ = some .nilFunc := HN8.out.o.facts.1 21
  have fo21 := HN8.out.o.facts.2.1 21
  go_upto_region 11 with fail
  clear po o21 fo21
  have HN9 := Lib.hid (HN8.out.set 21 (.func (.func 57) #[] #[.pointer (some ⟨px, 0, none⟩)]))
  have HT9 := Lib.hid (HN8.out.turn 21 (.func (.func 57) #[] #[.pointer (some ⟨px, 0, none⟩)]))
  generalize W8.setCell ⟨bo, 21, none⟩ (.func (.func 57) #[] #[.pointer (some ⟨px, 0, none⟩)]) = W9 at *
  have po := HN9.out.p.facts.1 0
  go_wp2_with fail
  go_ret2
  refine ⟨bo, wb, br, bs, fb, eb, m1, m2, _, rfl, ⟨HN9.out.o, HK8.out.turn HT9.out (by decide), HF8.out.turn HT9.out (by decide), HT9.out.blk HE8.out (by decide), HN9.out.m, Seg.nil _ _ _ _, HN9.out.d, HN9.out.ne, HUP.out _ HN9.out.lo.1, HL3.out.1, HL3.out.2.1, HL3.out.2.2, HL5.out, HL7.out, HUP.out _ HN9.out.lo.2.1, HUP.out _ HN9.out.lo.2.2, (fun g hg => by cases hg), (fun g hg => by cases hg), fun b' hb' => HUP.out b' (Nat.le_trans HN9.out.bl.size hb')⟩, ⟨px, rfl, HN9.out.p⟩, ?_, ?_⟩
  · have := HN9.out.lo; omega
  · exact HN9.out.bl
end Go.Proofs.YtnmlmpffmjhihaaGreat
