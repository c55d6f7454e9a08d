/-
  Frag: Put of a part that enters (chapter 49).
-/
import Derived.Test.YtgfbhclkpephnaaFr11
import Derived.StillTailTactics
namespace Go.Proofs.Ytgfbhclkpephnaa
open Go Go.RowKit
set_option linter.unusedVariables false
set_option linter.unusedSimpArgs false
set_option maxRecDepth 100000
set_option maxHeartbeats 2000000
def MorePost (base : Nat) (w : World) (bj bm : Nat) (room : Int) (A : List AE) (p : Pt) (x : Ending) (w' : World) : Prop :=
  ∃ es e w1 w2, x = .returned (.tuple #[Str [], .bool false, .int .i64 0]) ∧ Below w.heap.size w w1 ∧ Entd base w1 w2 bj bm room A p es e ∧ PutM base w w' bj bm room A p es e
def WholePost (base : Nat) (w : World) (bj bm : Nat) (room : Int) (A : List AE) (p : Pt) (n : Nat) (x : Ending) (w' : World) : Prop :=
  ∃ es e w1 w2 w3, x = .returned (.tuple #[Str (textF (newA A p).ps n), .bool true, .int .i64 0]) ∧ Below w.heap.size w w1 ∧ Entd base w1 w2 bj bm room A p es e ∧ PutM base w w3 bj bm room A p es e ∧
    Jn w' bj bm room ((repE e (setP p.place p.body e.ps) es).filter fun f => !decide (f.id = p.id)) ∧ Only [bm] w3 w'
theorem PutM.drew {base : Nat} {w W : World} {bj bm : Nat} {room : Int} {A : List AE} {p : Pt} {es : List FE} {e : FE} (h : PutM base w W bj bm room A p es e) : PutM base w W.drew bj bm room A p es e := ⟨h.j.chain (Below.refl _ W).drew, h.o.drew⟩
theorem PutM.ent {base : Nat} {w W : World} {bj bm : Nat} {room : Int} {A : List AE} {p : Pt} {es : List FE} {e : FE} (h : PutM base w W bj bm room A p es e) (hm : e ∈ es) : EntW W (e.withP (setP p.place p.body e.ps)) :=
  h.j.e _ (by
    unfold repE
    exact List.mem_map.2 ⟨e, hm, by rw [if_pos rfl]⟩)
theorem fput_more (s : List UInt8) (p : Pt) (base bj bm : Nat) (room : Int) (A : List AE) (w : World) (hbm : bm < w.heap.size) (H : Hid (∀ w', Calls Try.prog 70 #[Str s] w' fun x w'' => x = .returned (.tuple #[p.val, .int .i64 0]) ∧ Below w'.heap.size w' w''))
    (HE : Hid (∀ w', Below w.heap.size w w' → Calls Try.prog 71 #[.pointer (some ⟨bj, 0, none⟩), p.val] w' (EntPost base w' bj bm room A p))) (HL : Hid (((newA A p).ps.length : Int) < (newA A p).n)) :
    Calls Try.prog 38 #[.pointer (some ⟨bj, 0, none⟩), Str s] w (MorePost base w bj bm room A p) := by
  obtain ⟨id, pl, n, b⟩ := p
  unfold Pt.val at H HE
  dsimp only at H HE
  go_enter Try.func38, Try.ntmps38
  go_wp2_with fail
  refine (H.out _).mono ?_
  rintro x w1 ⟨rfl, hb⟩
  have HB := Lib.hid (Below.chainAlloc hb (.cells #[.int .u32 id, .int .i64 pl, .int .i64 n, Str b] 154))
  have hk := Blk.new w1 #[.int .u32 id, .int .i64 pl, .int .i64 n, Str b] 154
  have hbx : bm ≠ w1.heap.size := by have := hb.size; omega
  have HK := Lib.hid hk
  have HBX := Lib.hid hbx
  obtain ⟨c1, f1, l1⟩ := hk.facts
  clear hb hk hbx
  go_wp2_with fail
  refine (HE.out _ HB.out).mono ?_
  clear H HE c1 f1 l1
  rintro x w2 ⟨es, e, rfl, hent⟩
  have hk2 := HK.out.only hent.o (by have := HBX.out; simp; omega)
  obtain ⟨c2, f2, l2⟩ := hk2.facts
  have z1 := c2 1
  have z3 := c2 3
  have he2 := hent.j.e e hent.m
  have y0 := he2.b.facts.1 0
  have y1 := he2.b.facts.1 1
  have hm2 : MapW (Value.int .i64) w2.drew e.bp (psM e.ps) := he2.m
  obtain ⟨W3, hrun, hm3, ho3⟩ := hm2.put keyI undP pl (Str b)
  rw [putM_ps] at hm3
  have hput := hent.put (p := ⟨id, pl, n, b⟩) HB.out ((Only.refl _ _).drew.trans ho3 : Only [e.bp] w2 W3) hm3
  have HP := Lib.hid hput
  have HT := Lib.hid hent
  have HL2 : Hid (((setP pl b e.ps).length : Int) < e.n) := Lib.hid (by
    have := HL.out
    unfold newA at this
    rw [hent.ps, hent.n]
    exact this)
  clear hk2 c2 f2 l2 he2 hm2 hm3 ho3 hput hent HK HBX HL
  go_upto_region 9 with fail
  go_still_tail 8, (by kernel_rfl)
  change wpList _ _ _ _ _ w2.drew
  have HMK : Hid (∀ w', Below W3.heap.size W3 w' → ((w'.cell? ⟨e.be, 0, none⟩ = some (.int .i64 e.n) ∧ w'.cell? ⟨e.be, 1, none⟩ = some (.map (some e.bp)) ∧ (∀ ty, (Builtin.len_ #[160] ty #[.map (some e.bp)]).run Try.prog w' = .ok (.int .i64 ((setP pl b e.ps).length : Nat)) w')) ∧ Below W3.heap.size W3 w')) := Lib.hid fun w' hb => by
    have k := (HP.out.ent HT.out.m).chain hb
    have hl := k.m.len undP
    rw [show (psM (e.withP (setP pl b e.ps)).ps).length = (setP pl b e.ps).length from List.length_map _] at hl
    exact ⟨⟨k.b.facts.1 0, k.b.facts.1 1, hl⟩, hb⟩
  have hl2 := HL2.out
  go_upto_region 10 with fail
  clear hrun z1 z3 y0 y1
  go_region_held3 (fun w' => (w'.cell? ⟨e.be, 0, none⟩ = some (.int .i64 e.n) ∧ w'.cell? ⟨e.be, 1, none⟩ = some (.map (some e.bp)) ∧ (∀ ty, (Builtin.len_ #[160] ty #[.map (some e.bp)]).run Try.prog w' = .ok (.int .i64 ((setP pl b e.ps).length : Nat)) w')) ∧ Below W3.heap.size W3 w')
    (first
      | exact HMK.out _ (Below.refl _ _).drew
      | exact HMK.out _ (Below.refl _ _)
      | exact HMK.out _ (Below.refl _ _).drew.drew)
    (fail)
  go_wp2_with fail
  go_ret3
  exact ⟨es, e, _, w2, rfl, HB.out, HT.out, HP.out.drew⟩
theorem fput_whole (s : List UInt8) (p : Pt) (base bj bm : Nat) (room : Int) (A : List AE) (m : Nat) (w : World) (hbm : bm < w.heap.size) (H : Hid (∀ w', Calls Try.prog 70 #[Str s] w' fun x w'' => x = .returned (.tuple #[p.val, .int .i64 0]) ∧ Below w'.heap.size w' w''))
    (HE : Hid (∀ w', Below w.heap.size w w' → Calls Try.prog 71 #[.pointer (some ⟨bj, 0, none⟩), p.val] w' (EntPost base w' bj bm room A p))) (HL : Hid (¬ ((newA A p).ps.length : Int) < (newA A p).n)) (HN : Hid ((newA A p).n = (m : Int) ∧ m ≤ 255)) (HS : Hid (∀ k, ((getP k (newA A p).ps).getD []).length ≤ 100000)) :
    Calls Try.prog 38 #[.pointer (some ⟨bj, 0, none⟩), Str s] w (WholePost base w bj bm room A p m) := by
  obtain ⟨id, pl, n, b⟩ := p
  unfold Pt.val at H HE
  dsimp only at H HE
  go_enter Try.func38, Try.ntmps38
  go_wp2_with fail
  refine (H.out _).mono ?_
  rintro x w1 ⟨rfl, hb⟩
  have HB := Lib.hid (Below.chainAlloc hb (.cells #[.int .u32 id, .int .i64 pl, .int .i64 n, Str b] 154))
  have hk := Blk.new w1 #[.int .u32 id, .int .i64 pl, .int .i64 n, Str b] 154
  obtain ⟨bx, hbx0⟩ : ∃ bx, w1.heap.size = bx := ⟨_, rfl⟩
  have hbx : bm ≠ bx := by have := hb.size; omega
  have HX := Lib.hid hbx0
  rw [hbx0] at hk
  have HK := Lib.hid hk
  have HBX := Lib.hid hbx
  obtain ⟨c1, f1, l1⟩ := hk.facts
  clear hb hk hbx hbx0
  go_wp2_with fail
  rw [HX.out]
  refine (HE.out _ HB.out).mono ?_
  clear H HE c1 f1 l1
  rintro x w2 ⟨es, e, rfl, hent⟩
  have hk2 := HK.out.only hent.o (by have := HBX.out; simp; omega)
  obtain ⟨c2, f2, l2⟩ := hk2.facts
  have z1 := c2 1
  have z3 := c2 3
  have he2 := hent.j.e e hent.m
  have y0 := he2.b.facts.1 0
  have y1 := he2.b.facts.1 1
  have hm2 : MapW (Value.int .i64) w2.drew e.bp (psM e.ps) := he2.m
  obtain ⟨W3, hrun, hm3, ho3⟩ := hm2.put keyI undP pl (Str b)
  rw [putM_ps] at hm3
  have ho3' : Only [e.bp] w2 W3 := (Only.refl _ _).drew.trans ho3
  have hput := hent.put (p := ⟨id, pl, n, b⟩) HB.out ho3' hm3
  have HK3 := Lib.hid (hk2.only ho3' (by simpa using hk2.ne_map he2.m))
  have HP := Lib.hid hput
  have HT := Lib.hid hent
  have hps : (newA A ⟨id, pl, n, b⟩).ps = setP pl b e.ps := by
    unfold newA
    rw [hent.ps]
  have hnn : (newA A ⟨id, pl, n, b⟩).n = e.n := hent.n.symm
  have HPS := Lib.hid hps
  have HL2 : Hid (¬ ((setP pl b e.ps).length : Int) < e.n) := Lib.hid (by
    have := HL.out
    rw [hps, hnn] at this
    omega)
  have HN2 : Hid (e.n = (m : Int) ∧ m ≤ 255) := Lib.hid (hnn ▸ HN.out)
  have HS2 : Hid (∀ k, ((getP k (setP pl b e.ps)).getD []).length ≤ 100000) := Lib.hid (hps ▸ HS.out)
  clear hk2 c2 f2 l2 he2 hm2 hm3 ho3 ho3' hput hent HK HBX HL HX hps hnn HN HS
  go_upto_region 9 with fail
  go_still_tail 8, (by kernel_rfl)
  change wpList _ _ _ _ _ w2.drew
  have HMK : Hid (∀ w', Below W3.heap.size W3 w' → ((w'.cell? ⟨e.be, 0, none⟩ = some (.int .i64 e.n) ∧ w'.cell? ⟨e.be, 1, none⟩ = some (.map (some e.bp)) ∧ (∀ ty, (Builtin.len_ #[160] ty #[.map (some e.bp)]).run Try.prog w' = .ok (.int .i64 ((setP pl b e.ps).length : Nat)) w')) ∧ Below W3.heap.size W3 w')) := Lib.hid fun w' hb => by
    have k := (HP.out.ent HT.out.m).chain hb
    have hl := k.m.len undP
    rw [show (psM (e.withP (setP pl b e.ps)).ps).length = (setP pl b e.ps).length from List.length_map _] at hl
    exact ⟨⟨k.b.facts.1 0, k.b.facts.1 1, hl⟩, hb⟩
  have hl2 : ¬ ((setP pl b e.ps).length : Int) < e.n := by have := HL2.out; omega
  have hl3 : decide (((setP pl b e.ps).length : Int) < e.n) = false := decide_eq_false hl2
  go_upto_region 10 with fail
  clear hrun z1 z3 y0 y1
  go_region_held3 (fun w' => (w'.cell? ⟨e.be, 0, none⟩ = some (.int .i64 e.n) ∧ w'.cell? ⟨e.be, 1, none⟩ = some (.map (some e.bp)) ∧ (∀ ty, (Builtin.len_ #[160] ty #[.map (some e.bp)]).run Try.prog w' = .ok (.int .i64 ((setP pl b e.ps).length : Nat)) w')) ∧ Below W3.heap.size W3 w')
    (first
      | exact HMK.out _ (Below.refl _ _).drew
      | exact HMK.out _ (Below.refl _ _)
      | exact HMK.out _ (Below.refl _ _).drew.drew)
    (fail)
  have HP4 := Lib.hid HP.out.drew
  have z0 := HK3.out.drew.facts.1 0
  clear HMK HP HK3 HL2
  generalize W3.drew = W4 at *
  have y1 := HP4.out.j.b.facts.1 1
  have hm4 : MapW (Value.int .u32) W4.drew bm ((repE e (setP pl b e.ps) es).map FE.mp) := HP4.out.j.m
  obtain ⟨W5, hrun, hm5, ho5⟩ := hm4.del keyU undF id
  have ho5' : Only [bm] W4 W5 := (Only.refl _ _).drew.trans ho5
  have HJ5 := Lib.hid (HP4.out.j.cut ho5' hm5)
  have HE5 := Lib.hid (HJ5.out.2 (e.withP (setP pl b e.ps)) (by
    unfold repE
    exact List.mem_map.2 ⟨e, HT.out.m, by rw [if_pos rfl]⟩))
  have HO5 := Lib.hid ho5'
  clear hm4 hm5 ho5 ho5'
  go_upto_region 12 with fail
  go_still_tail 6, (by kernel_rfl)
  change wpList _ _ _ _ _ W4.drew
  go_wp2_with fail
  clear hrun z0 y1
  refine (ftext_ok (e.withP (setP pl b e.ps)) m W5 HE5.out HN2.out.1 HN2.out.2 HS2.out).mono ?_
  rintro x w6 ⟨rfl, hb⟩
  have HB6 := Lib.hid hb
  clear hb
  go_wp2_with fail
  go_ret3
  refine ⟨es, e, _, w2, W4, ?_, HB.out, HT.out, HP4.out, HJ5.out.1.chain HB6.out, HO5.out.trans (Only.of_below HB6.out)⟩
  rw [HPS.out]
  rfl
end Go.Proofs.Ytgfbhclkpephnaa
