/-
  Merged: The next block is cut (chapter 27). | The next block is cut, where there is one (chapter 27). | The shards of a new block are let wait (chapter 27). | Fill, where one block is cut (chapter 27).
-/
import Derived.Test.YtnmlmpffmjhihaaGreatMU
import Derived.Test.YtnmlmpffmjhihaaGreatMY
import Derived.BigRegion
namespace Go.Proofs.YtnmlmpffmjhihaaGreat
open Go Go.RowKit
set_option linter.unusedVariables false
set_option linter.unusedSimpArgs false
set_option maxRecDepth 100000
set_option maxHeartbeats 2000000
section
variable {Ow : Nat → Prop} {w w' : World} {bo : Nat} {S : OS}
theorem Turn.slAt {Ow' : Nat → Prop} {K : List (Option TypeId)} (ht : Turn Ow' K w w') {t : TypeId} {v : Value} {vs : List Value} (h : SlAt 0 w t v vs) (hK : some t ∉ K) : SlAt 0 w' t v vs :=
  h.same ht.size (fun g hg hc => by
    rcases hc with hc | ⟨cs, fr, hc⟩
    · omega
    · exact ht.heap (k := some t) (by unfold kindB; rw [hc]; rfl) hK)
/-- The bytes that wait turned. -/
theorem OutM.wk2 (h : OutM Ow w bo S) {fr n : Nat} (ht : Turn Ow [some 122] w w') (hk : BkM w' S.wb S.br S.bs S.bl fr n S.c.bu S.size) : OutM Ow w' bo { S with fr := fr, n := n } :=
  ⟨ht.blk h.k (by decide), hk, ⟨ht.blk h.f.k (by decide), ht.seg h.f.s (by decide)⟩, ht.blk h.e (by decide), ht.map h.m (by decide), ht.seg h.q (by decide), ht.map h.d (by decide), h.ne, h.u.mono ht.size⟩
/-- The blocks that fly turned. -/
theorem OutM.f2 (h : OutM Ow w bo S) {b : Int} {fv : Value} {L : List FB} (ht : Turn Ow [some 78, some 98] w w') (hf : FlM w' 0 S.fb b S.c.wi fv L) (hfv : ∀ g, fv.ownBlock = some g → Ow g) : OutM Ow w' bo { S with b := b, fv := fv, L := L } :=
  ⟨ht.blk h.k (by decide), ⟨ht.blk h.wk.k (by decide), ⟨ht.blk h.wk.r.k (by decide), ht.blk h.wk.r.b (by decide), h.wk.r.l⟩⟩, hf, ht.blk h.e (by decide), ht.map h.m (by decide), ht.seg h.q (by decide), ht.map h.d (by decide), h.ne, h.u.bo, h.u.wb, h.u.br, h.u.bs, h.u.fb, h.u.eb, h.u.mm, h.u.qm, hfv, h.u.qv, fun b hb => h.u.up b (Nat.le_trans ht.size hb)⟩
/-- The shards turned. -/
theorem OutM.m2 (h : OutM Ow w bo S) {M : List (Int × Value)} (ho : Only [S.mm] w w') (hm : MapW encU w' S.mm M) : OutM Ow w' bo { S with M := M } := by
  have ht : Turn Ow [none] w w' := Turn.one ho h.u.mm h.m.kind (by simp)
  exact ⟨ht.blk h.k (by decide), ⟨ht.blk h.wk.k (by decide), ⟨ht.blk h.wk.r.k (by decide), ht.blk h.wk.r.b (by decide), h.wk.r.l⟩⟩, ⟨ht.blk h.f.k (by decide), ht.seg h.f.s (by decide)⟩, ht.blk h.e (by decide), hm, ht.seg h.q (by decide), h.d.only ho (by simp; exact fun e => h.ne e.symm), h.ne, h.u.mono ht.size⟩
/-- The edge turned. -/
theorem OutM.e2 (h : OutM Ow w bo S) {z : Int} (ho : Only [S.eb] w w') (he : EgM w' S.eb z) : OutM Ow w' bo { S with z := z } := by
  have ht : Turn Ow [some 107] w w' := Turn.only1 ho h.u.eb h.e (by simp)
  exact ⟨ht.blk h.k (by decide), ⟨ht.blk h.wk.k (by decide), ⟨ht.blk h.wk.r.k (by decide), ht.blk h.wk.r.b (by decide), h.wk.r.l⟩⟩, ⟨ht.blk h.f.k (by decide), ht.seg h.f.s (by decide)⟩, he, ht.map h.m (by decide), ht.seg h.q (by decide), ht.map h.d (by decide), h.ne, h.u.mono ht.size⟩
theorem ocut_none (t : Int) (h : OutM Ow w bo S) (hcl : S.cl = false) (hl : S.L.length ≤ 64) (hw : (S.L.length : Int) < S.c.wi) (hlets : 0 < ahead ((S.b + (S.L.length : Int)) % 4294967296) S.z) (ht : 0 ≤ t ∧ t ≤ 1099511627776) (hn : S.n = 0) :
    Calls Tryz.prog 20 #[.pointer (some ⟨bo, 0, none⟩), .int .i64 t] w fun e w' => e = .returned (.tuple #[.int .u32 0, .bool false]) ∧ Below w.heap.size w w' := by
  have o3 : w.cell? ⟨bo, 3, none⟩ = some (.int .i64 S.c.wi) := h.k.facts.1 3
  have o12 : w.cell? ⟨bo, 12, none⟩ = some (.bool S.cl) := h.k.facts.1 12
  have o14 : w.cell? ⟨bo, 14, none⟩ = some (.pointer (some ⟨S.wb, 0, none⟩)) := h.k.facts.1 14
  have o15 : w.cell? ⟨bo, 15, none⟩ = some (.pointer (some ⟨S.fb, 0, none⟩)) := h.k.facts.1 15
  have o16 : w.cell? ⟨bo, 16, none⟩ = some (.pointer (some ⟨S.eb, 0, none⟩)) := h.k.facts.1 16
  rw [hcl] at o12
  have HN : Hid (∀ k : Nat, Calls Tryz.prog 17 #[.pointer (some ⟨S.fb, 0, none⟩)] (w.drewN k) fun e w'' => e = .returned (.int .u32 ((S.b + (S.L.length : Int)) % 4294967296)) ∧ ∃ m, w'' = (w.drewN k).drewN m) := Lib.hid fun k => (flnext_q (h.chain (below_drewN (Below.refl _ _) k)).f hl).mono fun e w'' q => ⟨q.1, 1, q.2⟩
  have HL : Hid (∀ k : Nat, Calls Tryz.prog 35 #[.pointer (some ⟨S.fb, 0, none⟩)] (w.drewN k) fun e w'' => e = .returned (.int .i64 (S.L.length : Nat)) ∧ w'' = w.drewN k) := Lib.hid fun k => fllen_any (h.chain (below_drewN (Below.refl _ _) k)).f
  have HE : Hid (∀ k : Nat, Calls Tryz.prog 36 #[.pointer (some ⟨S.eb, 0, none⟩), .int .u32 ((S.b + (S.L.length : Int)) % 4294967296)] (w.drewN k) fun e w'' => e = .returned (.bool true) ∧ w'' = w.drewN k) := Lib.hid fun k => by
    have := clets_any ((S.b + (S.L.length : Int)) % 4294967296) S.z (h.chain (below_drewN (Below.refl _ _) k)).e
    rw [decide_eq_true hlets] at this
    exact this
  have H := Lib.hid h
  have HNN := Lib.hid hn
  have HCL := Lib.hid hcl
  obtain ⟨z, hz⟩ : ∃ z, (S.b + (S.L.length : Int)) % 4294967296 = z := ⟨_, rfl⟩
  rw [hz] at HN HE
  have hw1 : ¬ S.c.wi ≤ (S.L.length : Int) := by omega
  have ht1 : ¬ t < 0 := by omega
  have ht2 : ¬ 1099511627776 < t := by omega
  clear h hcl hl hw hlets hz hn ht
  go_enter Tryz.func20, Tryz.ntmps20
  go_upto_region 1 with fail
  refine wp_region_quiet_lit (by kernel_rfl) (by kernel_rfl) ?_
  repeat (first | go_big_quiet_step (first | exact Calls.quiet_of (HN.out _) | exact Calls.quiet_of_same (HL.out _) | exact Calls.quiet_of_same (HE.out _)) | quiet_step (first | exact Calls.quiet_of (HN.out _) | exact Calls.quiet_of_same (HL.out _) | exact Calls.quiet_of_same (HE.out _)))
  refine wpQuiet_nil ?_
  intro _ hw'
  obtain ⟨nq, hw''⟩ := hw'
  subst hw''
  go_upto_region 3 with fail
  have HB1 := Lib.hid (below_drewN (Below.refl w.heap.size w) nq)
  have H1 := Lib.hid (H.out.chain HB1.out)
  clear o3 o12 o14 o15 o16 HN HL HE H
  generalize w.drewN nq = w1 at *
  have o12 : w1.cell? ⟨bo, 12, none⟩ = some (.bool S.cl) := H1.out.k.facts.1 12
  have o14 : w1.cell? ⟨bo, 14, none⟩ = some (.pointer (some ⟨S.wb, 0, none⟩)) := H1.out.k.facts.1 14
  have o15 : w1.cell? ⟨bo, 15, none⟩ = some (.pointer (some ⟨S.fb, 0, none⟩)) := H1.out.k.facts.1 15
  have o2 : w1.cell? ⟨bo, 2, none⟩ = some (.int .i64 S.c.s) := H1.out.k.facts.1 2
  rw [HCL.out] at o12
  have HL : Hid (∀ k : Nat, Calls Tryz.prog 35 #[.pointer (some ⟨S.fb, 0, none⟩)] (w1.drewN k) fun e w'' => e = .returned (.int .i64 (S.L.length : Nat)) ∧ w'' = w1.drewN k) := Lib.hid fun k => fllen_any (H1.out.chain (below_drewN (Below.refl _ _) k)).f
  have HB : Hid (∀ (k : Nat) (fl : Bool), Calls Tryz.prog 37 #[.pointer (some ⟨S.wb, 0, none⟩), .bool fl] (w1.drewN k) fun e w'' => e = .returned (.tuple #[Str [], .bool false]) ∧ w'' = w1.drewN k) := Lib.hid fun k fl => bnext_none fl (by have := (H1.out.chain (below_drewN (Below.refl w1.heap.size w1) k)).wk; rw [HNN.out] at this; exact this)
  refine wp_region_quiet_lit (by kernel_rfl) (by kernel_rfl) ?_
  repeat (first | go_big_quiet_step (first | exact Calls.quiet_of_same (HL.out _) | exact Calls.quiet_of_same (HB.out _ _)) | quiet_step (first | exact Calls.quiet_of_same (HL.out _) | exact Calls.quiet_of_same (HB.out _ _)))
  refine wpQuiet_nil ?_
  intro _ hw'
  obtain ⟨nr, hw''⟩ := hw'
  subst hw''
  go_wp2_with fail
  exact bodyPost_ret (v := .tuple #[.int .u32 0, .bool false]) (by simp [results, Tryz.results20, go_sem]) rfl ⟨rfl, below_drewN HB1.out _⟩
end
end Go.Proofs.YtnmlmpffmjhihaaGreat
namespace Go.Proofs.YtnmlmpffmjhihaaGreat
open Go Go.RowKit
set_option linter.unusedVariables false
set_option linter.unusedSimpArgs false
set_option maxRecDepth 100000
set_option maxHeartbeats 4000000
section
variable {Ow : Nat → Prop} {w w' : World} {bo : Nat} {S : OS}
/-- What a cut leaves. -/
def CutPost (Ow : Nat → Prop) (w : World) (bo : Nat) (S : OS) (m : Nat) (body : List UInt8) (t : Int) (e : Ending) (w' : World) : Prop :=
  ∃ sv fv, e = .returned (.tuple #[.int .u32 S.b, .bool true]) ∧ OutM Ow w' bo { S with fr := S.fr + m, n := S.n - m, fv := fv, L := [⟨body, ((shT body S.c.k S.c.r).length : Int), t⟩], M := putM S.b (.agg #[sv, .int .i64 ((shM body S.c.k : Nat) : Int)]) S.M, hd := S.hd + (body.length : Int) } ∧ SlAt 0 w' 9 sv ((shT body S.c.k S.c.r).map Str) ∧ Turn Ow [some 52, none, some 122, some 78, some 98] w w'
theorem turn_fl {B bf : Nat} {b z : Int} {v : Value} {L : List FB} (h : FlM w B bf b z v L) (hob : Ow bf) (hov : ∀ g, v.ownBlock = some g → Ow g) (ho : Only (bf :: v.ownBlock.toList) w w') : Turn Ow [some 78, some 98] w w' := by
  refine ⟨_, ho, fun x hx => ⟨(List.mem_cons.1 hx).elim (fun e => e ▸ hob) (fun e => hov x (by simpa using e)), ?_⟩⟩
  rcases List.mem_cons.1 hx with rfl | hx
  · exact ⟨_, by simp, h.k.kind⟩
  · have hg : v.ownBlock = some x := by simpa using hx
    obtain ⟨cur, hc⟩ := h.s.heap' hg
    exact ⟨some 98, by simp, by unfold kindB; rw [hc]; rfl⟩
theorem ocut_lite (t : Int) (k : Nat) (h : OutM Ow w bo S) (hcl : S.cl = false) (hL : S.L = []) (hw : (0 : Int) < S.c.wi) (hb : 0 ≤ S.b ∧ S.b < 4294967296) (hlets : 0 < ahead S.b S.z) (ht : 0 ≤ t ∧ t ≤ 1099511627776) (hk : S.size = (k : Int)) (hk1 : k ≤ 1048576) (hn : 0 < min k S.n) (hfn : S.fr + S.n < S.bl.length) (hse : dsE ((S.bl.drop S.fr).take (min k S.n)) S.c.k S.c.r = 0) (hN : 1 ≤ (shT ((S.bl.drop S.fr).take (min k S.n)) S.c.k S.c.r).length ∧ (shT ((S.bl.drop S.fr).take (min k S.n)) S.c.k S.c.r).length ≤ 255) (hhd : -1048576 ≤ S.hd ∧ S.hd ≤ 1048576) :
    Calls Tryz.prog 20 #[.pointer (some ⟨bo, 0, none⟩), .int .i64 t] w (CutPost Ow w bo S (min k S.n) ((S.bl.drop S.fr).take (min k S.n)) t) := by
  have hlen : ((S.bl.drop S.fr).take (min k S.n)).length = min k S.n := by rw [List.length_take, List.length_drop]; omega
  have hl : S.L.length ≤ 64 := by rw [hL]; exact Nat.zero_le _
  have hbm : (S.b + ((S.L.length : Nat) : Int)) % 4294967296 = S.b := by rw [hL]; simp only [List.length_nil]; omega
  have hlets0 := hlets
  rw [← hbm] at hlets
  have o3 : w.cell? ⟨bo, 3, none⟩ = some (.int .i64 S.c.wi) := h.k.facts.1 3
  have o12 : w.cell? ⟨bo, 12, none⟩ = some (.bool S.cl) := h.k.facts.1 12
  have o14 : w.cell? ⟨bo, 14, none⟩ = some (.pointer (some ⟨S.wb, 0, none⟩)) := h.k.facts.1 14
  have o15 : w.cell? ⟨bo, 15, none⟩ = some (.pointer (some ⟨S.fb, 0, none⟩)) := h.k.facts.1 15
  have o16 : w.cell? ⟨bo, 16, none⟩ = some (.pointer (some ⟨S.eb, 0, none⟩)) := h.k.facts.1 16
  rw [hcl] at o12
  have HN : Hid (∀ k : Nat, Calls Tryz.prog 17 #[.pointer (some ⟨S.fb, 0, none⟩)] (w.drewN k) fun e w'' => e = .returned (.int .u32 ((S.b + (S.L.length : Int)) % 4294967296)) ∧ ∃ m, w'' = (w.drewN k).drewN m) := Lib.hid fun k => (flnext_q (h.chain (below_drewN (Below.refl _ _) k)).f hl).mono fun e w'' q => ⟨q.1, 1, q.2⟩
  have HL : Hid (∀ k : Nat, Calls Tryz.prog 35 #[.pointer (some ⟨S.fb, 0, none⟩)] (w.drewN k) fun e w'' => e = .returned (.int .i64 (S.L.length : Nat)) ∧ w'' = w.drewN k) := Lib.hid fun k => fllen_any (h.chain (below_drewN (Below.refl _ _) k)).f
  have HE : Hid (∀ k : Nat, Calls Tryz.prog 36 #[.pointer (some ⟨S.eb, 0, none⟩), .int .u32 ((S.b + (S.L.length : Int)) % 4294967296)] (w.drewN k) fun e w'' => e = .returned (.bool true) ∧ w'' = w.drewN k) := Lib.hid fun k => by
    have := clets_any ((S.b + (S.L.length : Int)) % 4294967296) S.z (h.chain (below_drewN (Below.refl _ _) k)).e
    rw [decide_eq_true hlets] at this
    exact this
  have H := Lib.hid h
  rw [hbm] at HN HE
  rw [hL] at HL
  obtain ⟨m, hm⟩ : ∃ m, min k S.n = m := ⟨_, rfl⟩
  obtain ⟨body, hbody⟩ : ∃ body, (S.bl.drop S.fr).take (min k S.n) = body := ⟨_, rfl⟩
  rw [hbody] at hse hN hlen ⊢
  have HNX : Hid (∀ w1, OutM Ow w1 bo S → Calls Tryz.prog 37 #[.pointer (some ⟨S.wb, 0, none⟩), .bool true] w1 fun e w' => e = .returned (.tuple #[Str body, .bool true]) ∧ OutM Ow w' bo { S with fr := S.fr + m, n := S.n - m } ∧ Only [S.br] w1 w') := Lib.hid fun w1 h1 => (bnext_lite k hk h1.wk hfn hk1 hn).mono (by
    rintro e w2 ⟨rfl, hk2, ho2⟩
    rw [hm] at hk2
    exact ⟨by rw [hbody], h1.wk2 (Turn.only1 ho2 h1.u.br h1.wk.r.k (by simp)) hk2, ho2⟩)
  rw [hm] at hlen ⊢
  have HFX := Lib.hid (And.intro hlen (And.intro hN (And.intro hhd (And.intro hse (And.intro hcl (And.intro hL (And.intro hb ht)))))))
  have hw1 : ¬ S.c.wi ≤ (0 : Int) := by omega
  have ht1 : ¬ t < 0 := by omega
  have ht2 : ¬ 1099511627776 < t := by omega
  have HMK : Hid (m ≤ 1048576) := Lib.hid (by omega)
  clear h hcl hl hw hlets hlets0 hbm hn ht hlen hL hb hk hk1 hfn hse hN hhd hm hbody
  go_enter Tryz.func20, Tryz.ntmps20
  go_upto_region 1 with fail
  refine wp_region_quiet_lit (by kernel_rfl) (by kernel_rfl) ?_
  repeat (first | go_big_quiet_step (first | exact Calls.quiet_of (HN.out _) | exact Calls.quiet_of_same (HL.out _) | exact Calls.quiet_of_same (HE.out _)) | quiet_step (first | exact Calls.quiet_of (HN.out _) | exact Calls.quiet_of_same (HL.out _) | exact Calls.quiet_of_same (HE.out _)))
  refine wpQuiet_nil ?_
  intro _ hw'
  obtain ⟨nq, hw''⟩ := hw'
  subst hw''
  go_upto_region 3 with fail
  have HB1 := Lib.hid (below_drewN (Below.refl w.heap.size w) nq)
  have H1 := Lib.hid (H.out.chain HB1.out)
  clear o3 o12 o14 o15 o16 HN HL HE H
  generalize w.drewN nq = w1 at *
  have HLN : Hid (Calls Tryz.prog 35 #[.pointer (some ⟨S.fb, 0, none⟩)] w1.drew fun e w'' => e = .returned (.int .i64 0) ∧ w'' = w1.drew) := Lib.hid (by
    have := fllen_any (H1.out.chain (Below.refl _ w1).drew).f
    rw [HFX.out.2.2.2.2.2.1] at this
    exact this)
  have HNY := Lib.hid (HNX.out w1.drew (H1.out.chain (Below.refl _ w1).drew))
  have HSX : Hid (∀ w', OutM Ow w' bo S → w'.cell? ⟨bo, 14, none⟩ = some (.pointer (some ⟨S.wb, 0, none⟩)) ∧ w'.cell? ⟨bo, 15, none⟩ = some (.pointer (some ⟨S.fb, 0, none⟩)) ∧ w'.cell? ⟨bo, 12, none⟩ = some (.bool false)) := Lib.hid fun w' h' => ⟨h'.k.facts.1 14, h'.k.facts.1 15, by have := h'.k.facts.1 12; rw [this]; show some (Value.bool S.cl) = _; rw [HFX.out.2.2.2.2.1]⟩
  have HSY : Hid (∀ w', OutM Ow w' bo { S with fr := S.fr + m, n := S.n - m } → w'.cell? ⟨bo, 14, none⟩ = some (.pointer (some ⟨S.wb, 0, none⟩)) ∧ w'.cell? ⟨bo, 15, none⟩ = some (.pointer (some ⟨S.fb, 0, none⟩)) ∧ w'.cell? ⟨bo, 12, none⟩ = some (.bool false)) := Lib.hid fun w' h' => ⟨h'.k.facts.1 14, h'.k.facts.1 15, by have := h'.k.facts.1 12; rw [this]; show some (Value.bool S.cl) = _; rw [HFX.out.2.2.2.2.1]⟩
  go_region_held3 (fun w' => w'.cell? ⟨bo, 14, none⟩ = some (.pointer (some ⟨S.wb, 0, none⟩)) ∧ w'.cell? ⟨bo, 15, none⟩ = some (.pointer (some ⟨S.fb, 0, none⟩)) ∧ w'.cell? ⟨bo, 12, none⟩ = some (.bool false))
    (first
      | with_reducible exact HSX.out _ (H1.out.chain (Below.refl _ w1).drew)
      | exact HSY.out _ HW2.out.1)
    ((first
      | (go_at_call 35; refine HLN.out.mono ?_; rintro e w1' ⟨rfl, rfl⟩)
      | (go_at_call 37; refine HNY.out.mono ?_; rintro e w2 ⟨rfl, hw2⟩; have HW2 := Lib.hid hw2; clear hw2)))
  clear HNY HLN HSX HSY HNX
  have H2 := Lib.hid HW2.out.1
  have HT2 : Hid (Turn Ow [some 52, none, some 122, some 78, some 98] w w2) := Lib.hid (by
    have h1 : Turn Ow [some 122] w1.drew w2 := Turn.only1 HW2.out.2 (H1.out.u.br) (H1.out.chain (Below.refl _ w1).drew).wk.r.k (by simp)
    exact ((Turn.of_below HB1.out).step (Below.refl _ w1).drew).trans (h1.mono (by simp)))
  obtain ⟨T, hT⟩ : ∃ T, shT body S.c.k S.c.r = T := ⟨_, rfl⟩
  obtain ⟨M0, hM0⟩ : ∃ M0, shM body S.c.k = M0 := ⟨_, rfl⟩
  have hkr := dsE_zero HFX.out.2.2.2.1
  have HSH : Hid (Calls Tryz.prog 38 #[Str body, .int .i64 S.c.k, .int .i64 S.c.r] w2.drew fun e w' => ∃ sa sc, e = .returned (.tuple #[.slice sa T.length sc, .int .i64 (M0 : Int), .int .i64 0]) ∧ SlAt 0 w' 9 (.slice sa T.length sc) (T.map Str) ∧ Below w2.heap.size w2 w') := Lib.hid ((shards_any body S.c.k S.c.r (by have := HFX.out.1; have := HMK.out; omega) (by omega) (by omega) w2.drew).mono (by
    rintro e w3 ⟨sv, rfl, hsv, hb3⟩
    rw [hT] at hsv
    obtain ⟨sa, sc, rfl, _⟩ := hsv.at
    rw [List.length_map] at hsv ⊢
    refine ⟨sa, sc, ?_, hsv, Below.chain hb3 (Below.refl _ w2).drew⟩
    rw [if_pos HFX.out.2.2.2.1, HFX.out.2.2.2.1, hM0]))
  have HSZ : Hid (∀ w', Below w2.heap.size w2 w' → w'.cell? ⟨bo, 0, none⟩ = some (.int .i64 S.c.k) ∧ w'.cell? ⟨bo, 1, none⟩ = some (.int .i64 S.c.r)) := Lib.hid fun w' hb' => ⟨(H2.out.chain hb').k.facts.1 0, (H2.out.chain hb').k.facts.1 1⟩
  have HTL : Hid (1 ≤ (T.length : Int) ∧ (T.length : Int) ≤ 255 ∧ body.isEmpty = false) := Lib.hid (by
    have h1 := HFX.out.2.1
    rw [hT] at h1
    refine ⟨by omega, by omega, ?_⟩
    cases hbe : body with
    | nil => rw [hbe] at hkr; simp at hkr
    | cons y l => rfl)
  have HTE := Lib.hid (And.intro hT hM0)
  clear hkr hT hM0 HW2 H1 HB1
  go_upto_region 6 with fail
  go_region_held3 (fun w' => w'.cell? ⟨bo, 0, none⟩ = some (.int .i64 S.c.k) ∧ w'.cell? ⟨bo, 1, none⟩ = some (.int .i64 S.c.r))
    (first
      | with_reducible exact HSZ.out _ (Below.refl _ w2).drew
      | exact HSZ.out _ HW3.out.2)
    ((first
      | (go_at_call 38; refine HSH.out.mono ?_; rintro e w3 ⟨sa, sc, rfl, hw3⟩; have HW3 := Lib.hid hw3; clear hw3)))
  clear HSZ HSH
  have H3 := Lib.hid (H2.out.chain HW3.out.2)
  have HT3 := Lib.hid (HT2.out.step HW3.out.2)
  have o15 : w3.cell? ⟨bo, 15, none⟩ = some (.pointer (some ⟨S.fb, 0, none⟩)) := H3.out.k.facts.1 15
  have HAD : Hid (Calls Tryz.prog 39 #[.pointer (some ⟨S.fb, 0, none⟩), Str body, .int .i64 (T.length : Int), .int .i64 t] w3 fun e w' => ∃ fv, e = .returned (.tuple #[.int .u32 S.b, .int .i64 0]) ∧ OutM Ow w' bo { S with fr := S.fr + m, n := S.n - m, fv := fv, L := [⟨body, (T.length : Int), t⟩] } ∧ Turn Ow [some 78, some 98] w3 w') := Lib.hid (by
    have hf : FlM w3 0 S.fb S.b S.c.wi S.fv [] := by
      have := H3.out.f
      rw [HFX.out.2.2.2.2.2.1] at this
      exact this
    refine (fladd_ok body (T.length : Int) t hf HTL.out.2.2 ⟨HTL.out.1, HTL.out.2.1⟩ HFX.out.2.2.2.2.2.2.2 (by show (0 : Int) < S.c.wi; exact hw1) (by simp) (Nat.zero_le _)).mono ?_
    rintro e w4 ⟨g, off, c, rfl, hf4, ho4, hat4⟩
    have ht4 := turn_fl hf H3.out.u.fb H3.out.u.fv ho4
    refine ⟨_, ?_, H3.out.f2 ht4 hf4 (fun g' hg' => ?_), ht4⟩
    rotate_left
    · have he' : g = g' := by simpa [Value.ownBlock] using hg'
      subst he'
      exact hat4.elim (H3.out.u.fv g) (H3.out.u.up g)
    have hb := HFX.out.2.2.2.2.2.2.1
    rw [show (S.b + ((([] : List FB).length : Nat) : Int)) % 4294967296 = S.b by simp only [List.length_nil]; omega])
  go_upto_region 7 with fail
  go_wp2_with fail
  refine HAD.out.mono ?_
  rintro e w4 ⟨fv, rfl, h4, ht4⟩
  have H4 := Lib.hid h4
  have HT4 := Lib.hid (HT3.out.trans (ht4.mono (by simp)))
  have HSV := Lib.hid (ht4.slAt HW3.out.1 (by decide))
  clear h4 ht4 o15 HAD H3 HW3 HT3 HT2 H2
  obtain ⟨w5, hrun, hm5, ho5⟩ := H4.out.m.put keyU undMade S.b (.agg #[.slice sa T.length sc, .int .i64 (M0 : Int)])
  unfold encU at hrun
  have o17 : w4.cell? ⟨bo, 17, none⟩ = some (.map (some S.mm)) := H4.out.k.facts.1 17
  have H5 := Lib.hid (H4.out.m2 ho5 hm5)
  have HT5 : Hid (Turn Ow [none] w4 w5) := Lib.hid (Turn.one ho5 H4.out.u.mm H4.out.m.kind (by simp))
  clear hm5 ho5
  go_upto_region 9 with fail
  clear hrun o17
  have o20 : w5.cell? ⟨bo, 20, none⟩ = some (.int .i64 S.hd) := H5.out.k.facts.1 20
  have fo20 := H5.out.k.facts.2.1 20
  have hwr : wrap64 (S.hd + (body.length : Int)) = S.hd + (body.length : Int) := IntWalk.wrap64_in _ (by have h1 := HFX.out.1; have h2 := HMK.out; have h3 := HFX.out.2.2.1; omega)
  go_wp2_with fail
  have ho : Only [bo] w5 (w5.setCell ⟨bo, 20, none⟩ (.int .i64 (S.hd + (body.length : Int)))) := (Only.refl _ _).setCell _ _ (.inl (by simp))
  have ht6 : Turn Ow [some 52] w5 _ := Turn.only1 ho H5.out.u.bo H5.out.k (by simp)
  refine bodyPost_ret (v := .tuple #[.int .u32 S.b, .bool true]) (by simp [results, Tryz.results20, go_sem]) rfl ⟨.slice sa T.length sc, fv, rfl, ?_, ?_, (HT4.out.trans (HT5.out.mono (by simp))).trans (ht6.mono (by simp))⟩
  · rw [HTE.out.1, HTE.out.2]
    exact H5.out.own ho (H5.out.k.setAt 20 _ rfl) rfl rfl rfl rfl rfl rfl rfl
  · rw [HTE.out.1]
    exact ht6.slAt (HT5.out.slAt HSV.out (by decide)) (by decide)
end
end Go.Proofs.YtnmlmpffmjhihaaGreat
namespace Go.Proofs.YtnmlmpffmjhihaaGreat
open Go Go.RowKit
set_option linter.unusedVariables false
set_option linter.unusedSimpArgs false
set_option maxRecDepth 100000
set_option maxHeartbeats 2000000
/-- A shard as a datagram. -/
def dgOf (st b : Int) (M0 : Nat) (y : FB) (T : List (List UInt8)) (x : Int × Int) : Dg := ⟨if (M0 : Int) ≤ x.2 then 2 else 1, st, b, x.2, (M0 : Int), y.n, y.body.length, 0, [], T.getD x.2.toNat []⟩
theorem firQ_mem (b : Int) (n : Nat) (x : Int × Int) (h : x ∈ firQ b n n) : ∃ i : Nat, i < n ∧ x = (b, (i : Int)) := by
  unfold firQ at h
  rw [Nat.sub_self, List.replicate_zero, List.append_nil] at h
  obtain ⟨i, hi, rfl⟩ := List.mem_map.1 h
  exact ⟨i, List.mem_range.1 hi, rfl⟩
theorem ahead_self (b : Int) : ahead b b = 0 := by
  unfold ahead
  simp
section
variable {Ow : Nat → Prop} {w w' : World} {bo : Nat} {S : OS}
theorem oshard_of (y : FB) (hL : S.L = [y]) (M0 : Nat) (sv : Value) (T : List (List UInt8)) (hM : getM S.b S.M = some (.agg #[sv, .int .i64 (M0 : Int)])) (h : OutM Ow w bo S) (hsv : SlAt 0 w 9 sv (T.map Str)) (i : Nat) (hi : i < T.length) :
    Calls Tryz.prog 16 #[.pointer (some ⟨bo, 0, none⟩), .agg #[.int .u32 S.b, .int .i64 (i : Int)]] w fun e w2 => e = .returned (.tuple #[(dgOf S.st S.b M0 y T (S.b, (i : Int))).val, .bool true]) ∧ Below w.heap.size w w2 := by
  have h0 : 0 < S.L.length := by rw [hL]; exact Nat.zero_lt_one
  refine (oshard_ok S.b i h 0 h0 (ahead_self _) sv (M0 : Int) T hM hsv hi _ rfl).mono ?_
  rintro e w2 ⟨rfl, hb⟩
  refine ⟨?_, hb⟩
  have e1 : S.L[0] = y := by simp [hL]
  unfold dgOf
  rw [e1]
  simp only [Int.toNat_natCast, List.getD_eq_getElem?_getD, List.getElem?_eq_getElem hi, Option.getD_some]
theorem owait_first {w0 : World} (sz : Int × Int → Int) (y : FB) (hL : S.L = [y]) (M0 : Nat) (sv lv : Value) (T : List (List UInt8)) (hM : getM S.b S.M = some (.agg #[sv, .int .i64 (M0 : Int)])) (h : OutM Ow w0 bo S) (hsv : SlAt 0 w0 9 sv (T.map Str)) (hb2 : Below w0.heap.size w0 w) (hs : Seg w w0.heap.size 54 2 lv T.length (sdQ (firQ S.b T.length T.length))) (hlv : lv.ownBlock = some w0.heap.size) (hn : T.length ≤ 255) (hT : AllT S.QD) (hql : S.Q.length ≤ 1000000)
    (hsz : ∀ w1, ∀ i : Nat, i < T.length → Calls Tryz.prog 40 #[(dgOf S.st S.b M0 y T (S.b, (i : Int))).val] w1 (RetB (.int .i64 (sz (S.b, (i : Int)))) w1)) :
    Calls Tryz.prog 21 #[.pointer (some ⟨bo, 0, none⟩), lv] w fun e w' => ∃ qv v, e = .returned v ∧ WtR Ow w w' bo S lv (firQ S.b T.length T.length) qv (wFold S.st sz (firQ S.b T.length T.length) ⟨S.Q, S.QD, []⟩) v := by
  have hfl := firQ_len S.b (Nat.le_refl T.length)
  refine owait_any sz (dgOf S.st S.b M0 y T) (firQ S.b T.length T.length) lv (h.chain hb2) (by rw [hfl]; exact hs.le (Nat.zero_le _)) (fun g hg he => ?_) (by rw [hfl]; omega) hql hT (fun w1 qv TQ h1 ht1 x hx => ?_) (fun w1 x hx => ?_)
  · rw [hlv] at hg
    cases hg
    exact absurd (h.q.blk _ he).2 (Nat.lt_irrefl _)
  · obtain ⟨i, hi, rfl⟩ := firQ_mem _ _ _ hx
    exact ⟨true, oshard_of (S := { S with qv := qv, Q := TQ.Q, QD := TQ.QD }) y hL M0 sv T hM h1 (ht1.slAt (hsv.chain hb2) (by decide)) i hi⟩
  · obtain ⟨i, hi, rfl⟩ := firQ_mem _ _ _ hx
    exact hsz w1 i hi
end
end Go.Proofs.YtnmlmpffmjhihaaGreat
namespace Go.Proofs.YtnmlmpffmjhihaaGreat
open Go Go.RowKit
set_option linter.unusedVariables false
set_option linter.unusedSimpArgs false
set_option maxRecDepth 100000
set_option maxHeartbeats 4000000
section
variable {Ow : Nat → Prop} {w w' : World} {bo : Nat} {S : OS}
/-- What Fill leaves. -/
def FillPost (Ow : Nat → Prop) (w : World) (bo : Nat) (S : OS) (m : Nat) (y : FB) (M0 : Nat) (T : List (List UInt8)) (sz : Int × Int → Int) (v : Value) (w' : World) : Prop :=
  ∃ sv fv qv, Seg w' w.heap.size 93 2 v (wFold S.st sz (firQ S.b T.length T.length) ⟨S.Q, S.QD, []⟩).its.length (itQ (wFold S.st sz (firQ S.b T.length T.length) ⟨S.Q, S.QD, []⟩).its) ∧ OutM Ow w' bo { S with fr := S.fr + m, n := S.n - m, fv := fv, L := [y], M := putM S.b (.agg #[sv, .int .i64 (M0 : Int)]) S.M, hd := S.hd + (y.body.length : Int), qv := qv, Q := (wFold S.st sz (firQ S.b T.length T.length) ⟨S.Q, S.QD, []⟩).Q, QD := (wFold S.st sz (firQ S.b T.length T.length) ⟨S.Q, S.QD, []⟩).QD } ∧ SlAt 0 w' 9 sv (T.map Str) ∧ Turn Ow [some 52, none, some 122, some 78, some 98, some 54] w w'
theorem ofill_one (t : Int) (k m : Nat) (y : FB) (M0 : Nat) (T : List (List UInt8)) (sz : Int × Int → Int) (h : OutM Ow w bo S) (hcl : S.cl = false) (hL : S.L = []) (hw : (1 : Int) < S.c.wi) (hb : 0 ≤ S.b ∧ S.b < 4294967296) (hlets : 0 < ahead S.b S.z) (hlets2 : 0 < ahead ((S.b + 1) % 4294967296) S.z) (ht : 0 ≤ t ∧ t ≤ 1099511627776) (hk : S.size = (k : Int)) (hk1 : k ≤ 1048576) (hm : min k S.n = m) (hn : 0 < m) (hnm : S.n - m = 0) (hfn : S.fr + S.n < S.bl.length)
    (hse : dsE ((S.bl.drop S.fr).take m) S.c.k S.c.r = 0) (hT : shT ((S.bl.drop S.fr).take m) S.c.k S.c.r = T) (hM0 : shM ((S.bl.drop S.fr).take m) S.c.k = M0) (hN : 1 ≤ T.length ∧ T.length ≤ 255) (hy : (⟨(S.bl.drop S.fr).take m, (T.length : Int), t⟩ : FB) = y) (hhd : -1048576 ≤ S.hd ∧ S.hd ≤ 1048576) (hql : S.Q.length ≤ 1000000) (hTT : AllT S.QD)
    (hsz : ∀ w1, ∀ i : Nat, i < T.length → Calls Tryz.prog 40 #[(dgOf S.st S.b M0 y T (S.b, (i : Int))).val] w1 (RetB (.int .i64 (sz (S.b, (i : Int)))) w1)) :
    Calls Tryz.prog 8 #[.pointer (some ⟨bo, 0, none⟩), .int .i64 t] w fun e w' => ∃ v, e = .returned v ∧ FillPost Ow w bo S m y M0 T sz v w' := by
  obtain ⟨ii, hii, hi0, hi1, hi2⟩ := info_parts infoItm
  have HCUT : Hid (Calls Tryz.prog 20 #[.pointer (some ⟨bo, 0, none⟩), .int .i64 t] w fun e w' => ∃ sv fv, e = .returned (.tuple #[.int .u32 S.b, .bool true]) ∧ OutM Ow w' bo { S with fr := S.fr + m, n := S.n - m, fv := fv, L := [y], M := putM S.b (.agg #[sv, .int .i64 (M0 : Int)]) S.M, hd := S.hd + (y.body.length : Int) } ∧ SlAt 0 w' 9 sv (T.map Str) ∧ Turn Ow [some 52, none, some 122, some 78, some 98] w w') := Lib.hid ((ocut_lite t k h hcl hL (by omega) hb hlets ht hk hk1 (by omega) hfn (by rw [hm]; exact hse) (by rw [hm, hT]; exact hN) hhd).mono (by
    rintro e w1 ⟨sv, fv, rfl, h1, h2, h3⟩
    rw [hm, hT, hM0] at h1
    rw [hm, hT] at h2
    rw [hy] at h1
    refine ⟨sv, fv, rfl, ?_, h2, h3⟩
    rw [← hy] at h1 ⊢
    exact h1))
  have HNO : Hid (∀ (w1 : World) (sv fv qv : Value) (Q : List (Int × Int)) (QD : List ((Int × Int) × Value)), OutM Ow w1 bo { S with fr := S.fr + m, n := S.n - m, fv := fv, L := [y], M := putM S.b (.agg #[sv, .int .i64 (M0 : Int)]) S.M, hd := S.hd + (y.body.length : Int), qv := qv, Q := Q, QD := QD } → Calls Tryz.prog 20 #[.pointer (some ⟨bo, 0, none⟩), .int .i64 t] w1 fun e w' => e = .returned (.tuple #[.int .u32 0, .bool false]) ∧ Below w1.heap.size w1 w') := Lib.hid fun w1 sv fv qv Q QD h1 => ocut_none t h1 hcl (by simp) (by simpa using hw) (by simpa using hlets2) ht hnm
  have HWT : Hid (∀ (w0 w1 : World) (sv fv lv : Value), OutM Ow w0 bo { S with fr := S.fr + m, n := S.n - m, fv := fv, L := [y], M := putM S.b (.agg #[sv, .int .i64 (M0 : Int)]) S.M, hd := S.hd + (y.body.length : Int) } → SlAt 0 w0 9 sv (T.map Str) → Below w0.heap.size w0 w1 → Seg w1 w0.heap.size 54 2 lv T.length (sdQ (firQ S.b T.length T.length)) → lv.ownBlock = some w0.heap.size → Calls Tryz.prog 21 #[.pointer (some ⟨bo, 0, none⟩), lv] w1 fun e w' => ∃ qv v, e = .returned v ∧ WtR Ow w1 w' bo { S with fr := S.fr + m, n := S.n - m, fv := fv, L := [y], M := putM S.b (.agg #[sv, .int .i64 (M0 : Int)]) S.M, hd := S.hd + (y.body.length : Int) } lv (firQ S.b T.length T.length) qv (wFold S.st sz (firQ S.b T.length T.length) ⟨S.Q, S.QD, []⟩) v) := Lib.hid fun w0 w1 sv fv lv h0 hsv hb2 hs hlv => owait_first (S := { S with fr := S.fr + m, n := S.n - m, fv := fv, L := [y], M := putM S.b (.agg #[sv, .int .i64 (M0 : Int)]) S.M, hd := S.hd + (y.body.length : Int) }) sz y rfl M0 sv lv T (by rw [getM_putM, if_pos rfl]) h0 hsv hb2 hs hlv hN.2 hTT hql hsz
  have HFX := Lib.hid (And.intro hN hql)
  have HLQ : Hid ((wFold S.st sz (firQ S.b T.length T.length) ⟨S.Q, S.QD, []⟩).its.length ≤ 255) := Lib.hid (by
    have := (wFold_len S.st sz (firQ S.b T.length T.length) ⟨S.Q, S.QD, []⟩).2
    rw [firQ_len S.b (Nat.le_refl T.length)] at this
    simp only [List.length_nil] at this
    omega)
  unfold FillPost
  generalize (wFold S.st sz (firQ S.b T.length T.length) ⟨S.Q, S.QD, []⟩) = WQ at *
  clear h hcl hL hw hb hlets hlets2 ht hk hk1 hm hn hnm hfn hse hT hM0 hN hy hhd hql hTT hsz
  go_enter Tryz.func8, Tryz.ntmps8
  go_wp2_with fail
  refine HCUT.out.mono ?_
  rintro e w1 ⟨sv, fv, rfl, h1, hsv1, ht1⟩
  have H1 := Lib.hid (And.intro h1 (And.intro hsv1 ht1))
  obtain ⟨sa, sc, rfl, _⟩ := hsv1.at
  rw [List.length_map] at H1
  clear h1 hsv1 ht1 HCUT
  have HLK : Hid (∀ w', Below w1.heap.size w1 w' → OutM Ow w' bo { S with fr := S.fr + m, n := S.n - m, fv := fv, L := [y], M := putM S.b (.agg #[.slice sa T.length sc, .int .i64 (M0 : Int)]) S.M, hd := S.hd + (y.body.length : Int) }) := Lib.hid fun w' hb' => H1.out.1.chain hb'
  have hlk := H1.out.1.m.look keyU undMade S.b (zeroMade _) false
  rw [getM_putM, if_pos rfl] at hlk
  simp only [Option.getD_some, Bool.false_eq_true, if_false] at hlk
  unfold encU at hlk
  have o17 : w1.cell? ⟨bo, 17, none⟩ = some (.map (some S.mm)) := H1.out.1.k.facts.1 17
  have hfd : ∀ w : World, (Instr.field 62 (.agg #[.slice sa T.length sc, .int .i64 (M0 : Int)]) 0).run Tryz.prog w = .ok (.slice sa T.length sc) w := fun _ => by kernel_rfl
  have HLM : Hid (0 + WQ.its.length ≤ maxLen ∧ (0 + WQ.its.length) * 16 ≤ 140737488355328) := Lib.hid (by have := HLQ.out; unfold maxLen; omega)
  have HFI := Lib.hid (ofirst_any S.b T.length HFX.out.1.2 w1)
  go_wp2_with fail
  refine wp_loop_rounds 2 ?_
  rw [rounds_succ]
  go_wp2_with (first
    | (go_at_call 22; refine HFI.out.mono ?_; rintro e w2 ⟨rfl, hs2, hb2⟩; have HW := HWT.out w1 w2 _ fv _ H1.out.1 H1.out.2.1 hb2 hs2 rfl; have HW2 := Lib.hid HW; have HB2 := Lib.hid hb2; clear HW hs2 hb2)
    | (go_at_call 21; refine HW2.out.mono ?_; rintro e w3 ⟨qv, v, rfl, hr3⟩; obtain ⟨va, vc, rfl⟩ := hr3.i.form; have HR3 := Lib.hid hr3; have HS3 : Hid (w.heap.size ≤ w3.heap.size) := Lib.hid (Nat.le_trans H1.out.2.2.size (Nat.le_trans HB2.out.size hr3.t.size)); clear hr3)
    | (at_builtin; refine wpList_append_rds rfl (.tmp 23) (.tmp 35) 35 rfl w.heap.size 93 ii _ 2 16 Tryz.underlying35 hii hi0 hi1 hi2 rfl (by decide) (.slice none 0 0) 0 [] rfl (Seg.nil _ _ _ _) (.slice va WQ.its.length vc) WQ.its.length (itQ WQ.its) rfl HR3.out.i.rds (itQ_one _) HLM.out.1 HLM.out.2 HS3.out ?_; intro v4 w4 hown4 hgrow4 hat4; rw [List.nil_append, Nat.zero_add] at hown4; have hb4 : Below w3.heap.size w3 w4 := (Only.grown (S := []) (Only.refl _ _) hgrow4 (fun x hx => by cases hx)).nil; obtain ⟨a4, c4, rfl⟩ := hown4.form; have HO4 := Lib.hid hown4; have HB4 := Lib.hid hb4; have HNX := Lib.hid (HNO.out w4 _ fv qv _ _ (HR3.out.o.chain hb4)); clear hown4 hgrow4 hat4 hb4)
    | (go_at_call 20; refine HNX.out.mono ?_; rintro e w5 ⟨rfl, hb5⟩; have HB5 := Lib.hid hb5; clear hb5))
  rw [rounds_succ]
  go_wp2_with fail
  go_ret
  refine ⟨_, rfl, .slice sa T.length sc, fv, qv, HO4.out.chain HB5.out, (HR3.out.o.chain HB4.out).chain HB5.out, ?_, ?_⟩
  · exact (((HR3.out.t.slAt (H1.out.2.1.chain HB2.out) (by decide)).chain HB4.out).chain HB5.out)
  · exact ((((H1.out.2.2.mono (by simp)).step HB2.out).trans (HR3.out.t.mono (by simp))).step HB4.out).step HB5.out
end
end Go.Proofs.YtnmlmpffmjhihaaGreat
