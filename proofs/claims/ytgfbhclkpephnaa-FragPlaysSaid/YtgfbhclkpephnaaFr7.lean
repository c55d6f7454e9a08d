/-
  Frag: a part's entry (chapter 49).
-/
import Derived.Test.YtgfbhclkpephnaaFr6
import Derived.StillTailTactics
namespace Go.Proofs.Ytgfbhclkpephnaa
open Go Go.RowKit
set_option linter.unusedVariables false
set_option linter.unusedSimpArgs false
set_option maxRecDepth 100000
set_option maxHeartbeats 1000000
theorem Jn.add {w w' : World} {bj bm : Nat} {room : Int} {es : List FE} {id n : Int} {be bp : Nat} (h : Jn w bj bm room es) (hg : getE id es = none) (hb : Blk w be #[.int .i64 n, .map (some bp)] 162) (hm : MapW (Value.int .i64) w bp []) (hne : bp ∉ bm :: es.map FE.bp)
    (ho : Only [bm] w w') (hm' : MapW (Value.int .u32) w' bm (putM id (.pointer (some ⟨be, 0, none⟩)) (es.map FE.mp))) : Jn w' bj bm room (es ++ [⟨id, n, be, bp, []⟩]) := by
  have hn : bp ≠ bm := fun e => hne (by simp [e])
  refine ⟨h.b.only ho (by simpa using h.b.ne_map h.m), ?_, fun e he => ?_, ?_⟩
  · have : getM id (es.map FE.mp) = none := by rw [getE_mp, hg]; rfl
    rw [putM_new (getM_none.1 this)] at hm'
    rw [List.map_append]
    exact hm'
  · rcases List.mem_append.1 he with he | he
    · have hd := h.d
      rw [List.nodup_cons] at hd
      exact (h.e e he).only ho (by simpa using (h.e e he).b.ne_map h.m) (by
        simp only [List.mem_singleton]
        intro hx
        exact hd.1 (hx ▸ List.mem_map_of_mem he))
    · obtain rfl := List.mem_singleton.1 he
      exact EntW.only ⟨hb, hm⟩ ho (by simpa using hb.ne_map h.m) (by simpa using hn)
  · have hd := h.d
    rw [List.map_append, ← List.cons_append, List.nodup_append]
    refine ⟨hd, by simp, fun x hx y hy => ?_⟩
    simp at hy
    rintro rfl
    exact hne (hy ▸ hx)
theorem enter_new (p : Pt) (bj bm : Nat) (room : Int) (es : List FE) (w : World) (h : Jn w bj bm room es) (hg : getE p.id es = none) (hr : (es.length : Nat) < room) :
    Calls Try.prog 71 #[.pointer (some ⟨bj, 0, none⟩), p.val] w fun x w' => ∃ be bp, x = .returned (.tuple #[.pointer (some ⟨be, 0, none⟩), .int .i64 0]) ∧ w.heap.size ≤ be ∧ w.heap.size ≤ bp ∧ Jn w' bj bm room (es ++ [⟨p.id, p.n, be, bp, []⟩]) ∧ Only [bm] w w' := by
  obtain ⟨id, pl, n, b⟩ := p
  have hB : Below w.heap.size w (w.alloc (.cells #[.int .u32 id, .int .i64 pl, .int .i64 n, Str b] 154)) := Below.chainAlloc (Below.refl _ _) _
  have hk := Blk.new w #[.int .u32 id, .int .i64 pl, .int .i64 n, Str b] 154
  obtain ⟨W, hW⟩ : ∃ W, w.alloc (.cells #[.int .u32 id, .int .i64 pl, .int .i64 n, Str b] 154) = W := ⟨_, rfl⟩
  rw [hW] at hB hk
  obtain ⟨bx, hbx⟩ : ∃ bx, w.heap.size = bx := ⟨_, rfl⟩
  rw [hbx] at hk
  have h' := h.chain hB
  have HMK : Hid (∀ w', Below W.heap.size W w' → (w'.cell? ⟨bj, 0, none⟩ = some (.int .i64 room) ∧ w'.cell? ⟨bj, 1, none⟩ = some (.map (some bm)) ∧ w'.cell? ⟨bx, 0, none⟩ = some (.int .u32 id) ∧ w'.cell? ⟨bx, 1, none⟩ = some (.int .i64 pl) ∧ w'.cell? ⟨bx, 2, none⟩ = some (.int .i64 n) ∧ w'.cell? ⟨bx, 3, none⟩ = some (Str b) ∧ (Instr.lookup 140 (.map (some bm)) (.int .u32 id) false).run Try.prog w' = .ok (.pointer none) w' ∧ (∀ ty, (Builtin.len_ #[140] ty #[.map (some bm)]).run Try.prog w' = .ok (.int .i64 (es.length : Nat)) w')) ∧ Below W.heap.size W w') := Lib.hid fun w' hb => by
    have k := h'.chain hb
    have kb := hk.below hb hk.lt
    have hlk := k.m.look keyU undF id (zeroFE _) false
    rw [getE_mp, hg] at hlk
    simp only [Option.map_none, Option.map_some, Option.getD_none, Option.getD_some, Bool.false_eq_true, if_false] at hlk
    have hl := k.m.len undF
    rw [List.length_map] at hl
    exact ⟨⟨k.b.facts.1 0, k.b.facts.1 1, kb.facts.1 0, kb.facts.1 1, kb.facts.1 2, kb.facts.1 3, hlk, hl⟩, hb⟩
  have hr2 : ¬ room ≤ (es.length : Int) := by omega
  have HW := Lib.hid hW
  have HX := Lib.hid hbx
  have HB := Lib.hid hB
  have HJ := Lib.hid h'
  have HK := Lib.hid hk
  have HG := Lib.hid hg
  unfold Pt.val
  dsimp only at *
  clear hW hB hk h' h hg hbx hr
  go_enter Try.func71, Try.ntmps71
  go_upto_region 1 with fail
  rw [HW.out, HX.out]
  go_region_held3 (fun w' => (w'.cell? ⟨bj, 0, none⟩ = some (.int .i64 room) ∧ w'.cell? ⟨bj, 1, none⟩ = some (.map (some bm)) ∧ w'.cell? ⟨bx, 0, none⟩ = some (.int .u32 id) ∧ w'.cell? ⟨bx, 1, none⟩ = some (.int .i64 pl) ∧ w'.cell? ⟨bx, 2, none⟩ = some (.int .i64 n) ∧ w'.cell? ⟨bx, 3, none⟩ = some (Str b) ∧ (Instr.lookup 140 (.map (some bm)) (.int .u32 id) false).run Try.prog w' = .ok (.pointer none) w' ∧ (∀ ty, (Builtin.len_ #[140] ty #[.map (some bm)]).run Try.prog w' = .ok (.int .i64 (es.length : Nat)) w')) ∧ Below W.heap.size W w')
    (first
      | exact HMK.out _ (Below.refl _ _).drew
      | exact HMK.out _ (Below.refl _ _)
      | exact HMK.out _ (Below.refl _ _).drew.drew
      | exact HMK.out _ (Below.refl _ _).drew.drew.drew)
    (fail)
  go_upto_region 2 with fail
  go_region_held3 (fun w' => (w'.cell? ⟨bj, 0, none⟩ = some (.int .i64 room) ∧ w'.cell? ⟨bj, 1, none⟩ = some (.map (some bm)) ∧ w'.cell? ⟨bx, 0, none⟩ = some (.int .u32 id) ∧ w'.cell? ⟨bx, 1, none⟩ = some (.int .i64 pl) ∧ w'.cell? ⟨bx, 2, none⟩ = some (.int .i64 n) ∧ w'.cell? ⟨bx, 3, none⟩ = some (Str b) ∧ (Instr.lookup 140 (.map (some bm)) (.int .u32 id) false).run Try.prog w' = .ok (.pointer none) w' ∧ (∀ ty, (Builtin.len_ #[140] ty #[.map (some bm)]).run Try.prog w' = .ok (.int .i64 (es.length : Nat)) w')) ∧ Below W.heap.size W w')
    (first
      | exact HMK.out _ (Below.refl _ _).drew
      | exact HMK.out _ (Below.refl _ _)
      | exact HMK.out _ (Below.refl _ _).drew.drew
      | exact HMK.out _ (Below.refl _ _).drew.drew.drew)
    (fail)
  have HB2 := Lib.hid HB.out.drew.drew
  have HJ2 := Lib.hid (HJ.out.chain (Below.refl _ W).drew.drew)
  have HK2 := Lib.hid (HK.out.below (Below.refl _ W).drew.drew HK.out.lt)
  clear HMK HW HB HJ HK
  generalize W.drew.drew = W2 at *
  have x2 := HK2.out.facts.1 2
  have hmm := @run_makeMap Try.prog
  obtain ⟨bp, hbp⟩ : ∃ bp, W2.heap.size = bp := ⟨_, rfl⟩
  have HBP := Lib.hid hbp
  have HM3 := Lib.hid ((MapW.new (Value.int .i64) W2).alloc (.cells #[.int .i64 n, .map (some W2.heap.size)] 162))
  have HE3 := Lib.hid (Blk.new (W2.alloc (.map #[] 0)) #[.int .i64 n, .map (some W2.heap.size)] 162)
  have HB3' := Below.chainAlloc (Below.chainAlloc (Below.refl _ W2) (.map #[] 0)) (.cells #[.int .i64 n, .map (some W2.heap.size)] 162)
  obtain ⟨W3, hW3⟩ : ∃ W3, (W2.alloc (.map #[] 0)).alloc (.cells #[.int .i64 n, .map (some W2.heap.size)] 162) = W3 := ⟨_, rfl⟩
  rw [size_alloc] at HE3
  rw [hW3] at HM3 HE3 HB3'
  rw [hbp] at hW3 HM3 HE3
  have HW3 := Lib.hid hW3
  have HJ3 := Lib.hid (HJ2.out.chain HB3')
  have HK3 := Lib.hid (HK2.out.below HB3' HK2.out.lt)
  have HB3 := Lib.hid (Below.chain HB3' HB2.out)
  have HNE : Hid (bp ∉ bm :: es.map FE.bp) := Lib.hid (by
    intro hx
    rcases List.mem_cons.1 hx with e | e
    · have := HJ2.out.m.lt; omega
    · obtain ⟨f, hf, e⟩ := List.mem_map.1 e
      have := (HJ2.out.e f hf).m.lt
      omega)
  have HLO : Hid (w.heap.size ≤ bp) := Lib.hid (by have := HB2.out.size; omega)
  clear hW3 hbp HB3' HJ2 HK2
  go_upto_region 6 with fail
  rw [HBP.out, HW3.out]
  have hj3 : MapW (Value.int .u32) W3.drew bm (es.map FE.mp) := HJ3.out.m
  obtain ⟨W5, hrun, hm5, ho5⟩ := hj3.put keyU undF id (.pointer (some ⟨bp + 1, 0, none⟩))
  have ho : Only [bm] W3 W5 := (Only.refl _ _).drew.trans ho5
  have HJ5 := Lib.hid (HJ3.out.add HG.out HE3.out HM3.out HNE.out ho hm5)
  have HO5 := Lib.hid ((Only.of_below HB3.out).trans ho)
  have HK5 := Lib.hid (HK3.out.only ho (by simpa using HK3.out.ne_map HJ3.out.m))
  have y1 := HJ3.out.b.facts.1 1
  have x0 := HK3.out.facts.1 0
  clear x2 hmm hj3 hm5 ho5 ho HB2 HBP HW3
  go_still_tail 7, (by kernel_rfl)
  change wpList _ _ _ _ _ W3.drew
  have HMK : Hid (∀ w', Below W5.heap.size W5 w' → ((w'.cell? ⟨bp + 1, 0, none⟩ = some (.int .i64 n) ∧ w'.cell? ⟨bp + 1, 1, none⟩ = some (.map (some bp)) ∧ w'.cell? ⟨bx, 1, none⟩ = some (.int .i64 pl) ∧ w'.cell? ⟨bx, 2, none⟩ = some (.int .i64 n) ∧ w'.cell? ⟨bx, 3, none⟩ = some (Str b) ∧ (Instr.lookup 160 (.map (some bp)) (.int .i64 pl) true).run Try.prog w' = .ok (.tuple #[Str [], .bool false]) w') ∧ Below W5.heap.size W5 w')) := Lib.hid fun w' hb => by
    have k := (HJ5.out.chain hb).e _ (List.mem_append_right _ List.mem_cons_self)
    have kb := HK5.out.below hb HK5.out.lt
    exact ⟨⟨k.b.facts.1 0, k.b.facts.1 1, kb.facts.1 1, kb.facts.1 2, kb.facts.1 3, k.m.look keyI undP pl (zeroFS _) true⟩, hb⟩
  clear HJ3 HK3 HE3 HM3 HNE HB3
  go_upto_region 7 with fail
  go_region_held3 (fun w' => (w'.cell? ⟨bp + 1, 0, none⟩ = some (.int .i64 n) ∧ w'.cell? ⟨bp + 1, 1, none⟩ = some (.map (some bp)) ∧ w'.cell? ⟨bx, 1, none⟩ = some (.int .i64 pl) ∧ w'.cell? ⟨bx, 2, none⟩ = some (.int .i64 n) ∧ w'.cell? ⟨bx, 3, none⟩ = some (Str b) ∧ (Instr.lookup 160 (.map (some bp)) (.int .i64 pl) true).run Try.prog w' = .ok (.tuple #[Str [], .bool false]) w') ∧ Below W5.heap.size W5 w')
    (first
      | exact HMK.out _ (Below.refl _ _).drew
      | exact HMK.out _ (Below.refl _ _)
      | exact HMK.out _ (Below.refl _ _).drew.drew)
    (fail)
  obtain ⟨⟨f0, f1, f2, f3, f4, f5⟩, hb3⟩ := HMK.out _ (Below.refl _ W5).drew
  have HJ6 := Lib.hid (HJ5.out.chain (Below.refl _ W5).drew)
  have HO6 := Lib.hid (HO5.out.drew)
  clear f1 f2 f5 hb3 HJ5 HO5 HMK HK5
  generalize W5.drew = W6 at *
  have hnn : (n != n) = false := by simp
  go_upto_region 8 with fail
  go_quiet (fail)
  have HJ7 := Lib.hid (HJ6.out.chain (below_drewN (Below.refl _ _) nq))
  have HO7 := Lib.hid (HO6.out.trans (Only.of_below (below_drewN (Below.refl _ _) nq)))
  go_wp2_with fail
  go_ret2
  exact ⟨bp + 1, rfl, by have := HLO.out; omega, bp, HLO.out, HJ7.out, HO7.out⟩
end Go.Proofs.Ytgfbhclkpephnaa
