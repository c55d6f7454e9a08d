/-
  Frag: a part's entry (chapter 49).
-/
import Derived.Test.YtgfbhclkpephnaaFr5
namespace Go.Proofs.Ytgfbhclkpephnaa
open Go Go.RowKit
set_option linter.unusedVariables false
set_option linter.unusedSimpArgs false
set_option maxRecDepth 100000
set_option maxHeartbeats 1000000
theorem enter_unlike1 (p : Pt) (e : FE) (bj bm : Nat) (room : Int) (es : List FE) (w : World) (h : Jn w bj bm room es) (hg : getE p.id es = some e) (hu : e.n ≠ p.n) :
    Calls Try.prog 71 #[.pointer (some ⟨bj, 0, none⟩), p.val] w fun x w' => x = .returned (.tuple #[.pointer none, .int .i64 16]) ∧ Below w.heap.size w w' := by
  obtain ⟨id, pl, n, b⟩ := p
  have hB : Below w.heap.size w (w.alloc (.cells #[.int .u32 id, .int .i64 pl, .int .i64 n, Str b] 154)) := Below.chainAlloc (Below.refl _ _) _
  have hk := Blk.new w #[.int .u32 id, .int .i64 pl, .int .i64 n, Str b] 154
  obtain ⟨W, hW⟩ : ∃ W, w.alloc (.cells #[.int .u32 id, .int .i64 pl, .int .i64 n, Str b] 154) = W := ⟨_, rfl⟩
  rw [hW] at hB hk
  obtain ⟨bx, hbx⟩ : ∃ bx, w.heap.size = bx := ⟨_, rfl⟩
  rw [hbx] at hk
  have h' := h.chain hB
  obtain ⟨hem, hei⟩ := getE_mem hg
  have he' := h'.e e hem
  have hgv : ∀ z : Value, z = Str [] → (getM pl (psM e.ps)).getD z = Str ((getP pl e.ps).getD []) := fun z hz => by
    subst hz
    rw [getP_mp]
    cases getP pl e.ps <;> rfl
  have hgy : (getM pl (psM e.ps)).isSome = (getP pl e.ps).isSome := by rw [getP_mp, Option.isSome_map]
  obtain ⟨ei, en, be, bp, ps⟩ := e
  obtain rfl : ei = id := hei
  dsimp only at *
  generalize (getP pl ps).getD [] = v at *
  generalize (getP pl ps).isSome = y at *
  have HMK : Hid (∀ w', Below W.heap.size W w' → (w'.cell? ⟨bj, 0, none⟩ = some (.int .i64 room) ∧ w'.cell? ⟨bj, 1, none⟩ = some (.map (some bm)) ∧ w'.cell? ⟨bx, 0, none⟩ = some (.int .u32 ei) ∧ w'.cell? ⟨bx, 1, none⟩ = some (.int .i64 pl) ∧ w'.cell? ⟨bx, 2, none⟩ = some (.int .i64 n) ∧ w'.cell? ⟨bx, 3, none⟩ = some (Str b) ∧ (Instr.lookup 140 (.map (some bm)) (.int .u32 ei) false).run Try.prog w' = .ok (.pointer (some ⟨be, 0, none⟩)) w' ∧ w'.cell? ⟨be, 0, none⟩ = some (.int .i64 en) ∧ w'.cell? ⟨be, 1, none⟩ = some (.map (some bp)) ∧ (Instr.lookup 160 (.map (some bp)) (.int .i64 pl) true).run Try.prog w' = .ok (.tuple #[Str v, .bool y]) w' ∧ (∀ ty, (Builtin.len_ #[140] ty #[.map (some bm)]).run Try.prog w' = .ok (.int .i64 (es.length : Nat)) w')) ∧ Below W.heap.size W w') := Lib.hid fun w' hb => by
    have k := h'.chain hb
    have kb := hk.below hb hk.lt
    have hlk := k.m.look keyU undF ei (zeroFE _) false
    rw [getE_mp, hg] at hlk
    have ke := he'.chain hb
    have hlv := ke.m.look keyI undP pl (zeroFS _) true
    rw [hgv _ rfl, hgy] at hlv
    simp only [if_true] at hlv
    simp only [Option.map_none, Option.map_some, Option.getD_none, Option.getD_some, Bool.false_eq_true, if_false] at hlk
    have hl := k.m.len undF
    rw [List.length_map] at hl
    exact ⟨⟨k.b.facts.1 0, k.b.facts.1 1, kb.facts.1 0, kb.facts.1 1, kb.facts.1 2, kb.facts.1 3, hlk, ke.b.facts.1 0, ke.b.facts.1 1, hlv, hl⟩, hb⟩
  have hn1 : (en != n) = true := by simpa using hu
  have HW := Lib.hid hW
  have HX := Lib.hid hbx
  have HB := Lib.hid hB
  unfold Pt.val
  dsimp only at *
  clear hW hB hk h' h hg hbx hem he' hgv hgy
  go_enter Try.func71, Try.ntmps71
  go_upto_region 1 with fail
  rw [HW.out, HX.out]
  go_region_held3 (fun w' => (w'.cell? ⟨bj, 0, none⟩ = some (.int .i64 room) ∧ w'.cell? ⟨bj, 1, none⟩ = some (.map (some bm)) ∧ w'.cell? ⟨bx, 0, none⟩ = some (.int .u32 ei) ∧ w'.cell? ⟨bx, 1, none⟩ = some (.int .i64 pl) ∧ w'.cell? ⟨bx, 2, none⟩ = some (.int .i64 n) ∧ w'.cell? ⟨bx, 3, none⟩ = some (Str b) ∧ (Instr.lookup 140 (.map (some bm)) (.int .u32 ei) false).run Try.prog w' = .ok (.pointer (some ⟨be, 0, none⟩)) w' ∧ w'.cell? ⟨be, 0, none⟩ = some (.int .i64 en) ∧ w'.cell? ⟨be, 1, none⟩ = some (.map (some bp)) ∧ (Instr.lookup 160 (.map (some bp)) (.int .i64 pl) true).run Try.prog w' = .ok (.tuple #[Str v, .bool y]) w' ∧ (∀ ty, (Builtin.len_ #[140] ty #[.map (some bm)]).run Try.prog w' = .ok (.int .i64 (es.length : Nat)) w')) ∧ Below W.heap.size W w')
    (first
      | exact HMK.out _ (Below.refl _ _).drew
      | exact HMK.out _ (Below.refl _ _)
      | exact HMK.out _ (Below.refl _ _).drew.drew
      | exact HMK.out _ (Below.refl _ _).drew.drew.drew)
    (fail)
  go_upto_region 2 with fail
  go_quiet (fail)
  have HB2 : Below W.heap.size W (W.drew.drewN nq) := below_drewN (Below.refl _ _).drew nq
  have HBB := Lib.hid (Below.chain HB2 HB.out)
  clear HW HX HB
  generalize W.drew.drewN nq = W2 at *
  go_upto_region 7 with fail
  go_region_held3 (fun w' => (w'.cell? ⟨bj, 0, none⟩ = some (.int .i64 room) ∧ w'.cell? ⟨bj, 1, none⟩ = some (.map (some bm)) ∧ w'.cell? ⟨bx, 0, none⟩ = some (.int .u32 ei) ∧ w'.cell? ⟨bx, 1, none⟩ = some (.int .i64 pl) ∧ w'.cell? ⟨bx, 2, none⟩ = some (.int .i64 n) ∧ w'.cell? ⟨bx, 3, none⟩ = some (Str b) ∧ (Instr.lookup 140 (.map (some bm)) (.int .u32 ei) false).run Try.prog w' = .ok (.pointer (some ⟨be, 0, none⟩)) w' ∧ w'.cell? ⟨be, 0, none⟩ = some (.int .i64 en) ∧ w'.cell? ⟨be, 1, none⟩ = some (.map (some bp)) ∧ (Instr.lookup 160 (.map (some bp)) (.int .i64 pl) true).run Try.prog w' = .ok (.tuple #[Str v, .bool y]) w' ∧ (∀ ty, (Builtin.len_ #[140] ty #[.map (some bm)]).run Try.prog w' = .ok (.int .i64 (es.length : Nat)) w')) ∧ Below W.heap.size W w')
    (first
      | exact HMK.out _ HB2.drew
      | exact HMK.out _ HB2
      | exact HMK.out _ HB2.drew.drew
      | exact HMK.out _ HB2.drew.drew.drew)
    (fail)
  have HB4 := Lib.hid HBB.out.drew
  obtain ⟨⟨f0, f1, f2, f3, f4, f5, f6, f7, f8, f9, f10⟩, hb3⟩ := HMK.out _ HB2.drew
  clear f0 f1 f2 f3 f6 f8 f9 f10 hb3
  clear HBB HB2
  generalize W2.drew = W4 at *
  go_upto_region 8 with fail
  go_quiet (fail)
  have HB3 := Lib.hid (below_drewN HB4.out nq)
  go_wp2_with fail
  all_goals first
    | (go_ret2; exact ⟨rfl, HB3.out⟩)
    | (exfalso; simp_all)
theorem enter_unlike2 (p : Pt) (e : FE) (bj bm : Nat) (room : Int) (es : List FE) (w : World) (h : Jn w bj bm room es) (hg : getE p.id es = some e) (hn : e.n = p.n) (hy : (getP p.place e.ps).isSome = true) (hu : (getP p.place e.ps).getD [] ≠ p.body) :
    Calls Try.prog 71 #[.pointer (some ⟨bj, 0, none⟩), p.val] w fun x w' => x = .returned (.tuple #[.pointer none, .int .i64 16]) ∧ Below w.heap.size w w' := by
  obtain ⟨id, pl, n, b⟩ := p
  have hB : Below w.heap.size w (w.alloc (.cells #[.int .u32 id, .int .i64 pl, .int .i64 n, Str b] 154)) := Below.chainAlloc (Below.refl _ _) _
  have hk := Blk.new w #[.int .u32 id, .int .i64 pl, .int .i64 n, Str b] 154
  obtain ⟨W, hW⟩ : ∃ W, w.alloc (.cells #[.int .u32 id, .int .i64 pl, .int .i64 n, Str b] 154) = W := ⟨_, rfl⟩
  rw [hW] at hB hk
  obtain ⟨bx, hbx⟩ : ∃ bx, w.heap.size = bx := ⟨_, rfl⟩
  rw [hbx] at hk
  have h' := h.chain hB
  obtain ⟨hem, hei⟩ := getE_mem hg
  have he' := h'.e e hem
  have hgv : ∀ z : Value, z = Str [] → (getM pl (psM e.ps)).getD z = Str ((getP pl e.ps).getD []) := fun z hz => by
    subst hz
    rw [getP_mp]
    cases getP pl e.ps <;> rfl
  have hgy : (getM pl (psM e.ps)).isSome = (getP pl e.ps).isSome := by rw [getP_mp, Option.isSome_map]
  obtain ⟨ei, en, be, bp, ps⟩ := e
  obtain rfl : ei = id := hei
  dsimp only at *
  generalize (getP pl ps).getD [] = v at *
  generalize (getP pl ps).isSome = y at *
  have HMK : Hid (∀ w', Below W.heap.size W w' → (w'.cell? ⟨bj, 0, none⟩ = some (.int .i64 room) ∧ w'.cell? ⟨bj, 1, none⟩ = some (.map (some bm)) ∧ w'.cell? ⟨bx, 0, none⟩ = some (.int .u32 ei) ∧ w'.cell? ⟨bx, 1, none⟩ = some (.int .i64 pl) ∧ w'.cell? ⟨bx, 2, none⟩ = some (.int .i64 n) ∧ w'.cell? ⟨bx, 3, none⟩ = some (Str b) ∧ (Instr.lookup 140 (.map (some bm)) (.int .u32 ei) false).run Try.prog w' = .ok (.pointer (some ⟨be, 0, none⟩)) w' ∧ w'.cell? ⟨be, 0, none⟩ = some (.int .i64 en) ∧ w'.cell? ⟨be, 1, none⟩ = some (.map (some bp)) ∧ (Instr.lookup 160 (.map (some bp)) (.int .i64 pl) true).run Try.prog w' = .ok (.tuple #[Str v, .bool y]) w' ∧ (∀ ty, (Builtin.len_ #[140] ty #[.map (some bm)]).run Try.prog w' = .ok (.int .i64 (es.length : Nat)) w')) ∧ Below W.heap.size W w') := Lib.hid fun w' hb => by
    have k := h'.chain hb
    have kb := hk.below hb hk.lt
    have hlk := k.m.look keyU undF ei (zeroFE _) false
    rw [getE_mp, hg] at hlk
    have ke := he'.chain hb
    have hlv := ke.m.look keyI undP pl (zeroFS _) true
    rw [hgv _ rfl, hgy] at hlv
    simp only [if_true] at hlv
    simp only [Option.map_none, Option.map_some, Option.getD_none, Option.getD_some, Bool.false_eq_true, if_false] at hlk
    have hl := k.m.len undF
    rw [List.length_map] at hl
    exact ⟨⟨k.b.facts.1 0, k.b.facts.1 1, kb.facts.1 0, kb.facts.1 1, kb.facts.1 2, kb.facts.1 3, hlk, ke.b.facts.1 0, ke.b.facts.1 1, hlv, hl⟩, hb⟩
  have hn1 : (en != n) = false := by simp [hn]
  have HW := Lib.hid hW
  have HX := Lib.hid hbx
  have HB := Lib.hid hB
  unfold Pt.val
  dsimp only at *
  clear hW hB hk h' h hg hbx hem he' hgv hgy
  go_enter Try.func71, Try.ntmps71
  go_upto_region 1 with fail
  rw [HW.out, HX.out]
  go_region_held3 (fun w' => (w'.cell? ⟨bj, 0, none⟩ = some (.int .i64 room) ∧ w'.cell? ⟨bj, 1, none⟩ = some (.map (some bm)) ∧ w'.cell? ⟨bx, 0, none⟩ = some (.int .u32 ei) ∧ w'.cell? ⟨bx, 1, none⟩ = some (.int .i64 pl) ∧ w'.cell? ⟨bx, 2, none⟩ = some (.int .i64 n) ∧ w'.cell? ⟨bx, 3, none⟩ = some (Str b) ∧ (Instr.lookup 140 (.map (some bm)) (.int .u32 ei) false).run Try.prog w' = .ok (.pointer (some ⟨be, 0, none⟩)) w' ∧ w'.cell? ⟨be, 0, none⟩ = some (.int .i64 en) ∧ w'.cell? ⟨be, 1, none⟩ = some (.map (some bp)) ∧ (Instr.lookup 160 (.map (some bp)) (.int .i64 pl) true).run Try.prog w' = .ok (.tuple #[Str v, .bool y]) w' ∧ (∀ ty, (Builtin.len_ #[140] ty #[.map (some bm)]).run Try.prog w' = .ok (.int .i64 (es.length : Nat)) w')) ∧ Below W.heap.size W w')
    (first
      | exact HMK.out _ (Below.refl _ _).drew
      | exact HMK.out _ (Below.refl _ _)
      | exact HMK.out _ (Below.refl _ _).drew.drew
      | exact HMK.out _ (Below.refl _ _).drew.drew.drew)
    (fail)
  go_upto_region 2 with fail
  go_quiet (fail)
  have HB2 : Below W.heap.size W (W.drew.drewN nq) := below_drewN (Below.refl _ _).drew nq
  have HBB := Lib.hid (Below.chain HB2 HB.out)
  clear HW HX HB
  generalize W.drew.drewN nq = W2 at *
  go_upto_region 7 with fail
  go_region_held3 (fun w' => (w'.cell? ⟨bj, 0, none⟩ = some (.int .i64 room) ∧ w'.cell? ⟨bj, 1, none⟩ = some (.map (some bm)) ∧ w'.cell? ⟨bx, 0, none⟩ = some (.int .u32 ei) ∧ w'.cell? ⟨bx, 1, none⟩ = some (.int .i64 pl) ∧ w'.cell? ⟨bx, 2, none⟩ = some (.int .i64 n) ∧ w'.cell? ⟨bx, 3, none⟩ = some (Str b) ∧ (Instr.lookup 140 (.map (some bm)) (.int .u32 ei) false).run Try.prog w' = .ok (.pointer (some ⟨be, 0, none⟩)) w' ∧ w'.cell? ⟨be, 0, none⟩ = some (.int .i64 en) ∧ w'.cell? ⟨be, 1, none⟩ = some (.map (some bp)) ∧ (Instr.lookup 160 (.map (some bp)) (.int .i64 pl) true).run Try.prog w' = .ok (.tuple #[Str v, .bool y]) w' ∧ (∀ ty, (Builtin.len_ #[140] ty #[.map (some bm)]).run Try.prog w' = .ok (.int .i64 (es.length : Nat)) w')) ∧ Below W.heap.size W w')
    (first
      | exact HMK.out _ HB2.drew
      | exact HMK.out _ HB2
      | exact HMK.out _ HB2.drew.drew
      | exact HMK.out _ HB2.drew.drew.drew)
    (fail)
  have HB4 := Lib.hid HBB.out.drew
  obtain ⟨⟨f0, f1, f2, f3, f4, f5, f6, f7, f8, f9, f10⟩, hb3⟩ := HMK.out _ HB2.drew
  clear f0 f1 f2 f3 f6 f8 f9 f10 hb3
  clear HBB HB2
  generalize W2.drew = W4 at *
  go_upto_region 8 with fail
  go_quiet (fail)
  have HB3 := Lib.hid (below_drewN HB4.out nq)
  go_wp2_with fail
  all_goals first
    | (go_ret2; exact ⟨rfl, HB3.out⟩)
    | (exfalso; simp_all)
theorem enter_ok1 (p : Pt) (e : FE) (bj bm : Nat) (room : Int) (es : List FE) (w : World) (h : Jn w bj bm room es) (hg : getE p.id es = some e) (hn : e.n = p.n) (hy : (getP p.place e.ps).isSome = false) :
    Calls Try.prog 71 #[.pointer (some ⟨bj, 0, none⟩), p.val] w fun x w' => x = .returned (.tuple #[.pointer (some ⟨e.be, 0, none⟩), .int .i64 0]) ∧ Below w.heap.size w w' := by
  obtain ⟨id, pl, n, b⟩ := p
  have hB : Below w.heap.size w (w.alloc (.cells #[.int .u32 id, .int .i64 pl, .int .i64 n, Str b] 154)) := Below.chainAlloc (Below.refl _ _) _
  have hk := Blk.new w #[.int .u32 id, .int .i64 pl, .int .i64 n, Str b] 154
  obtain ⟨W, hW⟩ : ∃ W, w.alloc (.cells #[.int .u32 id, .int .i64 pl, .int .i64 n, Str b] 154) = W := ⟨_, rfl⟩
  rw [hW] at hB hk
  obtain ⟨bx, hbx⟩ : ∃ bx, w.heap.size = bx := ⟨_, rfl⟩
  rw [hbx] at hk
  have h' := h.chain hB
  obtain ⟨hem, hei⟩ := getE_mem hg
  have he' := h'.e e hem
  have hgv : ∀ z : Value, z = Str [] → (getM pl (psM e.ps)).getD z = Str ((getP pl e.ps).getD []) := fun z hz => by
    subst hz
    rw [getP_mp]
    cases getP pl e.ps <;> rfl
  have hgy : (getM pl (psM e.ps)).isSome = (getP pl e.ps).isSome := by rw [getP_mp, Option.isSome_map]
  obtain ⟨ei, en, be, bp, ps⟩ := e
  obtain rfl : ei = id := hei
  dsimp only at *
  generalize (getP pl ps).getD [] = v at *
  generalize (getP pl ps).isSome = y at *
  have HMK : Hid (∀ w', Below W.heap.size W w' → (w'.cell? ⟨bj, 0, none⟩ = some (.int .i64 room) ∧ w'.cell? ⟨bj, 1, none⟩ = some (.map (some bm)) ∧ w'.cell? ⟨bx, 0, none⟩ = some (.int .u32 ei) ∧ w'.cell? ⟨bx, 1, none⟩ = some (.int .i64 pl) ∧ w'.cell? ⟨bx, 2, none⟩ = some (.int .i64 n) ∧ w'.cell? ⟨bx, 3, none⟩ = some (Str b) ∧ (Instr.lookup 140 (.map (some bm)) (.int .u32 ei) false).run Try.prog w' = .ok (.pointer (some ⟨be, 0, none⟩)) w' ∧ w'.cell? ⟨be, 0, none⟩ = some (.int .i64 en) ∧ w'.cell? ⟨be, 1, none⟩ = some (.map (some bp)) ∧ (Instr.lookup 160 (.map (some bp)) (.int .i64 pl) true).run Try.prog w' = .ok (.tuple #[Str v, .bool y]) w' ∧ (∀ ty, (Builtin.len_ #[140] ty #[.map (some bm)]).run Try.prog w' = .ok (.int .i64 (es.length : Nat)) w')) ∧ Below W.heap.size W w') := Lib.hid fun w' hb => by
    have k := h'.chain hb
    have kb := hk.below hb hk.lt
    have hlk := k.m.look keyU undF ei (zeroFE _) false
    rw [getE_mp, hg] at hlk
    have ke := he'.chain hb
    have hlv := ke.m.look keyI undP pl (zeroFS _) true
    rw [hgv _ rfl, hgy] at hlv
    simp only [if_true] at hlv
    simp only [Option.map_none, Option.map_some, Option.getD_none, Option.getD_some, Bool.false_eq_true, if_false] at hlk
    have hl := k.m.len undF
    rw [List.length_map] at hl
    exact ⟨⟨k.b.facts.1 0, k.b.facts.1 1, kb.facts.1 0, kb.facts.1 1, kb.facts.1 2, kb.facts.1 3, hlk, ke.b.facts.1 0, ke.b.facts.1 1, hlv, hl⟩, hb⟩
  have hn1 : (en != n) = false := by simp [hn]
  have HW := Lib.hid hW
  have HX := Lib.hid hbx
  have HB := Lib.hid hB
  unfold Pt.val
  dsimp only at *
  clear hW hB hk h' h hg hbx hem he' hgv hgy
  go_enter Try.func71, Try.ntmps71
  go_upto_region 1 with fail
  rw [HW.out, HX.out]
  go_region_held3 (fun w' => (w'.cell? ⟨bj, 0, none⟩ = some (.int .i64 room) ∧ w'.cell? ⟨bj, 1, none⟩ = some (.map (some bm)) ∧ w'.cell? ⟨bx, 0, none⟩ = some (.int .u32 ei) ∧ w'.cell? ⟨bx, 1, none⟩ = some (.int .i64 pl) ∧ w'.cell? ⟨bx, 2, none⟩ = some (.int .i64 n) ∧ w'.cell? ⟨bx, 3, none⟩ = some (Str b) ∧ (Instr.lookup 140 (.map (some bm)) (.int .u32 ei) false).run Try.prog w' = .ok (.pointer (some ⟨be, 0, none⟩)) w' ∧ w'.cell? ⟨be, 0, none⟩ = some (.int .i64 en) ∧ w'.cell? ⟨be, 1, none⟩ = some (.map (some bp)) ∧ (Instr.lookup 160 (.map (some bp)) (.int .i64 pl) true).run Try.prog w' = .ok (.tuple #[Str v, .bool y]) w' ∧ (∀ ty, (Builtin.len_ #[140] ty #[.map (some bm)]).run Try.prog w' = .ok (.int .i64 (es.length : Nat)) w')) ∧ Below W.heap.size W w')
    (first
      | exact HMK.out _ (Below.refl _ _).drew
      | exact HMK.out _ (Below.refl _ _)
      | exact HMK.out _ (Below.refl _ _).drew.drew
      | exact HMK.out _ (Below.refl _ _).drew.drew.drew)
    (fail)
  go_upto_region 2 with fail
  go_quiet (fail)
  have HB2 : Below W.heap.size W (W.drew.drewN nq) := below_drewN (Below.refl _ _).drew nq
  have HBB := Lib.hid (Below.chain HB2 HB.out)
  clear HW HX HB
  generalize W.drew.drewN nq = W2 at *
  go_upto_region 7 with fail
  go_region_held3 (fun w' => (w'.cell? ⟨bj, 0, none⟩ = some (.int .i64 room) ∧ w'.cell? ⟨bj, 1, none⟩ = some (.map (some bm)) ∧ w'.cell? ⟨bx, 0, none⟩ = some (.int .u32 ei) ∧ w'.cell? ⟨bx, 1, none⟩ = some (.int .i64 pl) ∧ w'.cell? ⟨bx, 2, none⟩ = some (.int .i64 n) ∧ w'.cell? ⟨bx, 3, none⟩ = some (Str b) ∧ (Instr.lookup 140 (.map (some bm)) (.int .u32 ei) false).run Try.prog w' = .ok (.pointer (some ⟨be, 0, none⟩)) w' ∧ w'.cell? ⟨be, 0, none⟩ = some (.int .i64 en) ∧ w'.cell? ⟨be, 1, none⟩ = some (.map (some bp)) ∧ (Instr.lookup 160 (.map (some bp)) (.int .i64 pl) true).run Try.prog w' = .ok (.tuple #[Str v, .bool y]) w' ∧ (∀ ty, (Builtin.len_ #[140] ty #[.map (some bm)]).run Try.prog w' = .ok (.int .i64 (es.length : Nat)) w')) ∧ Below W.heap.size W w')
    (first
      | exact HMK.out _ HB2.drew
      | exact HMK.out _ HB2
      | exact HMK.out _ HB2.drew.drew
      | exact HMK.out _ HB2.drew.drew.drew)
    (fail)
  have HB4 := Lib.hid HBB.out.drew
  obtain ⟨⟨f0, f1, f2, f3, f4, f5, f6, f7, f8, f9, f10⟩, hb3⟩ := HMK.out _ HB2.drew
  clear f0 f1 f2 f3 f6 f8 f9 f10 hb3
  clear HBB HB2
  generalize W2.drew = W4 at *
  go_upto_region 8 with fail
  go_quiet (fail)
  have HB3 := Lib.hid (below_drewN HB4.out nq)
  go_wp2_with fail
  all_goals first
    | (go_ret2; exact ⟨rfl, HB3.out⟩)
    | (exfalso; simp_all)
theorem enter_ok2 (p : Pt) (e : FE) (bj bm : Nat) (room : Int) (es : List FE) (w : World) (h : Jn w bj bm room es) (hg : getE p.id es = some e) (hn : e.n = p.n) (hy : (getP p.place e.ps).isSome = true) (hu : (getP p.place e.ps).getD [] = p.body) :
    Calls Try.prog 71 #[.pointer (some ⟨bj, 0, none⟩), p.val] w fun x w' => x = .returned (.tuple #[.pointer (some ⟨e.be, 0, none⟩), .int .i64 0]) ∧ Below w.heap.size w w' := by
  obtain ⟨id, pl, n, b⟩ := p
  have hB : Below w.heap.size w (w.alloc (.cells #[.int .u32 id, .int .i64 pl, .int .i64 n, Str b] 154)) := Below.chainAlloc (Below.refl _ _) _
  have hk := Blk.new w #[.int .u32 id, .int .i64 pl, .int .i64 n, Str b] 154
  obtain ⟨W, hW⟩ : ∃ W, w.alloc (.cells #[.int .u32 id, .int .i64 pl, .int .i64 n, Str b] 154) = W := ⟨_, rfl⟩
  rw [hW] at hB hk
  obtain ⟨bx, hbx⟩ : ∃ bx, w.heap.size = bx := ⟨_, rfl⟩
  rw [hbx] at hk
  have h' := h.chain hB
  obtain ⟨hem, hei⟩ := getE_mem hg
  have he' := h'.e e hem
  have hgv : ∀ z : Value, z = Str [] → (getM pl (psM e.ps)).getD z = Str ((getP pl e.ps).getD []) := fun z hz => by
    subst hz
    rw [getP_mp]
    cases getP pl e.ps <;> rfl
  have hgy : (getM pl (psM e.ps)).isSome = (getP pl e.ps).isSome := by rw [getP_mp, Option.isSome_map]
  obtain ⟨ei, en, be, bp, ps⟩ := e
  obtain rfl : ei = id := hei
  dsimp only at *
  generalize (getP pl ps).getD [] = v at *
  generalize (getP pl ps).isSome = y at *
  have HMK : Hid (∀ w', Below W.heap.size W w' → (w'.cell? ⟨bj, 0, none⟩ = some (.int .i64 room) ∧ w'.cell? ⟨bj, 1, none⟩ = some (.map (some bm)) ∧ w'.cell? ⟨bx, 0, none⟩ = some (.int .u32 ei) ∧ w'.cell? ⟨bx, 1, none⟩ = some (.int .i64 pl) ∧ w'.cell? ⟨bx, 2, none⟩ = some (.int .i64 n) ∧ w'.cell? ⟨bx, 3, none⟩ = some (Str b) ∧ (Instr.lookup 140 (.map (some bm)) (.int .u32 ei) false).run Try.prog w' = .ok (.pointer (some ⟨be, 0, none⟩)) w' ∧ w'.cell? ⟨be, 0, none⟩ = some (.int .i64 en) ∧ w'.cell? ⟨be, 1, none⟩ = some (.map (some bp)) ∧ (Instr.lookup 160 (.map (some bp)) (.int .i64 pl) true).run Try.prog w' = .ok (.tuple #[Str v, .bool y]) w' ∧ (∀ ty, (Builtin.len_ #[140] ty #[.map (some bm)]).run Try.prog w' = .ok (.int .i64 (es.length : Nat)) w')) ∧ Below W.heap.size W w') := Lib.hid fun w' hb => by
    have k := h'.chain hb
    have kb := hk.below hb hk.lt
    have hlk := k.m.look keyU undF ei (zeroFE _) false
    rw [getE_mp, hg] at hlk
    have ke := he'.chain hb
    have hlv := ke.m.look keyI undP pl (zeroFS _) true
    rw [hgv _ rfl, hgy] at hlv
    simp only [if_true] at hlv
    simp only [Option.map_none, Option.map_some, Option.getD_none, Option.getD_some, Bool.false_eq_true, if_false] at hlk
    have hl := k.m.len undF
    rw [List.length_map] at hl
    exact ⟨⟨k.b.facts.1 0, k.b.facts.1 1, kb.facts.1 0, kb.facts.1 1, kb.facts.1 2, kb.facts.1 3, hlk, ke.b.facts.1 0, ke.b.facts.1 1, hlv, hl⟩, hb⟩
  have hn1 : (en != n) = false := by simp [hn]
  have HW := Lib.hid hW
  have HX := Lib.hid hbx
  have HB := Lib.hid hB
  unfold Pt.val
  dsimp only at *
  clear hW hB hk h' h hg hbx hem he' hgv hgy
  go_enter Try.func71, Try.ntmps71
  go_upto_region 1 with fail
  rw [HW.out, HX.out]
  go_region_held3 (fun w' => (w'.cell? ⟨bj, 0, none⟩ = some (.int .i64 room) ∧ w'.cell? ⟨bj, 1, none⟩ = some (.map (some bm)) ∧ w'.cell? ⟨bx, 0, none⟩ = some (.int .u32 ei) ∧ w'.cell? ⟨bx, 1, none⟩ = some (.int .i64 pl) ∧ w'.cell? ⟨bx, 2, none⟩ = some (.int .i64 n) ∧ w'.cell? ⟨bx, 3, none⟩ = some (Str b) ∧ (Instr.lookup 140 (.map (some bm)) (.int .u32 ei) false).run Try.prog w' = .ok (.pointer (some ⟨be, 0, none⟩)) w' ∧ w'.cell? ⟨be, 0, none⟩ = some (.int .i64 en) ∧ w'.cell? ⟨be, 1, none⟩ = some (.map (some bp)) ∧ (Instr.lookup 160 (.map (some bp)) (.int .i64 pl) true).run Try.prog w' = .ok (.tuple #[Str v, .bool y]) w' ∧ (∀ ty, (Builtin.len_ #[140] ty #[.map (some bm)]).run Try.prog w' = .ok (.int .i64 (es.length : Nat)) w')) ∧ Below W.heap.size W w')
    (first
      | exact HMK.out _ (Below.refl _ _).drew
      | exact HMK.out _ (Below.refl _ _)
      | exact HMK.out _ (Below.refl _ _).drew.drew
      | exact HMK.out _ (Below.refl _ _).drew.drew.drew)
    (fail)
  go_upto_region 2 with fail
  go_quiet (fail)
  have HB2 : Below W.heap.size W (W.drew.drewN nq) := below_drewN (Below.refl _ _).drew nq
  have HBB := Lib.hid (Below.chain HB2 HB.out)
  clear HW HX HB
  generalize W.drew.drewN nq = W2 at *
  go_upto_region 7 with fail
  go_region_held3 (fun w' => (w'.cell? ⟨bj, 0, none⟩ = some (.int .i64 room) ∧ w'.cell? ⟨bj, 1, none⟩ = some (.map (some bm)) ∧ w'.cell? ⟨bx, 0, none⟩ = some (.int .u32 ei) ∧ w'.cell? ⟨bx, 1, none⟩ = some (.int .i64 pl) ∧ w'.cell? ⟨bx, 2, none⟩ = some (.int .i64 n) ∧ w'.cell? ⟨bx, 3, none⟩ = some (Str b) ∧ (Instr.lookup 140 (.map (some bm)) (.int .u32 ei) false).run Try.prog w' = .ok (.pointer (some ⟨be, 0, none⟩)) w' ∧ w'.cell? ⟨be, 0, none⟩ = some (.int .i64 en) ∧ w'.cell? ⟨be, 1, none⟩ = some (.map (some bp)) ∧ (Instr.lookup 160 (.map (some bp)) (.int .i64 pl) true).run Try.prog w' = .ok (.tuple #[Str v, .bool y]) w' ∧ (∀ ty, (Builtin.len_ #[140] ty #[.map (some bm)]).run Try.prog w' = .ok (.int .i64 (es.length : Nat)) w')) ∧ Below W.heap.size W w')
    (first
      | exact HMK.out _ HB2.drew
      | exact HMK.out _ HB2
      | exact HMK.out _ HB2.drew.drew
      | exact HMK.out _ HB2.drew.drew.drew)
    (fail)
  have HB4 := Lib.hid HBB.out.drew
  obtain ⟨⟨f0, f1, f2, f3, f4, f5, f6, f7, f8, f9, f10⟩, hb3⟩ := HMK.out _ HB2.drew
  clear f0 f1 f2 f3 f6 f8 f9 f10 hb3
  clear HBB HB2
  generalize W2.drew = W4 at *
  go_upto_region 8 with fail
  go_quiet (fail)
  have HB3 := Lib.hid (below_drewN HB4.out nq)
  go_wp2_with fail
  all_goals first
    | (go_ret2; exact ⟨rfl, HB3.out⟩)
    | (exfalso; simp_all)
end Go.Proofs.Ytgfbhclkpephnaa
