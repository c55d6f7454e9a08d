/-
  Merged: Bytes in a row (ring): New; what lies in memory (chapter 24). | Bytes in a row (ring), where they do not go round: Len, Room, grow, Put (chapter 24). | Blocks of bytes that wait; an edge (chapters 24, 21). | An edge that moves ahead (chapter 21).
-/
import Derived.Test.YtnmlmpffmjhihaaGreatMC
import Derived.Lib.BufferWrite
import Derived.Laws.BytesArg
import Derived.Test.YtnmlmpffmjhihaaGreatMN
import Derived.Laws.StructEq
namespace Go.Proofs.YtnmlmpffmjhihaaGreat
open Go Go.RowKit
set_option linter.unusedVariables false
set_option linter.unusedSimpArgs false
set_option maxRecDepth 100000
set_option maxHeartbeats 1000000
abbrev bU (l : List UInt8) : List Value := l.map fun b : UInt8 => Value.int .u8 (b.toNat : Int)
/-- A ring: its bytes bl, where it begins, how many there are, how many there may be. -/
structure RnM (w : World) (br bs : Nat) (bl : List UInt8) (fr n : Nat) (most : Int) : Prop where
  k : Blk w br #[.slice (some ⟨bs, 0, none⟩) bl.length bl.length, .int .i64 (fr : Int), .int .i64 (n : Int), .int .i64 most] 122
  b : Blk w bs (bU bl).toArray 5
  l : 0 < bl.length ∧ bl.length ≤ 1048576
def z64 : List UInt8 := List.replicate 64 0
theorem z64_len : z64.length = 64 := List.length_replicate
theorem mk_z64 (w : World) : (Instr.makeSlice 120 (.int .i64 64) (.int .i64 64)).run Tryz.prog w = .ok (.slice (some ⟨w.heap.size, 0, none⟩) 64 64) (w.alloc (.cells (bU z64).toArray 5)) := by
  have h := mk_u8 64 (by decide) w
  rw [show (bU z64).toArray = (u8s (List.replicate 64 0)).toArray by unfold z64 bU u8s; rw [List.map_replicate, List.map_replicate]; rfl]
  exact h
theorem rnew_sz (z : Int) (h1 : 64 ≤ z) (h2 : z ≤ 1048576) (w : World) : Calls Tryz.prog 71 #[.int .i64 z] w fun e w' => e = .returned (.tuple #[.pointer (some ⟨w.heap.size + 1, 0, none⟩), .int .i64 0]) ∧ RnM w' (w.heap.size + 1) w.heap.size z64 0 0 z ∧ Below w.heap.size w w' ∧ w'.heap.size = w.heap.size + 2 := by
  have t1 : ¬ z < 1 := by omega
  have t2 : ¬ 1048576 < z := by omega
  have t3 : (if (64 : Int) < z then (64 : Int) else z) = 64 := by split <;> omega
  have hmk := mk_z64
  have e := z64_len
  have ez : 0 < z64.length ∧ z64.length ≤ 1048576 := by rw [e]; decide
  generalize z64 = zl at *
  go_enter Tryz.func71, Tryz.ntmps71
  go_wp2_with fail
  go_ret2
  refine ⟨rfl, ⟨?_, ?_, ez⟩, Below.chainAlloc (Below.chainAlloc (Below.refl _ w) _) _, by rw [size_alloc, size_alloc]⟩
  · rw [e]
    exact Blk.newAt (size_alloc _ _).symm
  · exact (Blk.new w _ _).alloc _
end Go.Proofs.YtnmlmpffmjhihaaGreat
namespace Go.Proofs.YtnmlmpffmjhihaaGreat
open Go Go.RowKit
set_option linter.unusedVariables false
set_option linter.unusedSimpArgs false
set_option maxRecDepth 100000
set_option maxHeartbeats 1000000
theorem rlen_any {w : World} {br bs : Nat} {bl : List UInt8} {fr n : Nat} {most : Int} (h : RnM w br bs bl fr n most) : Calls Tryz.prog 33 #[.pointer (some ⟨br, 0, none⟩)] w fun e w' => e = .returned (.int .i64 (n : Int)) ∧ w' = w := by
  have c2 := h.k.facts.1 2
  clear h
  go_enter Tryz.func33, Tryz.ntmps33
  go_wp2_with fail
  go_ret
  exact ⟨rfl, rfl⟩
theorem rgrow_no {w : World} {br bs : Nat} {bl : List UInt8} {fr n : Nat} {most : Int} (h : RnM w br bs bl fr n most) (k : Nat) (hk : k ≤ bl.length) : Calls Tryz.prog 60 #[.pointer (some ⟨br, 0, none⟩), .int .i64 (k : Int)] w fun e w' => e = .returned (.tuple #[]) ∧ w' = w := by
  have c0 := h.k.facts.1 0
  have hk' : (k : Int) ≤ (bl.length : Int) := by omega
  generalize bl.length = bn at *
  clear h hk
  go_enter Tryz.func60, Tryz.ntmps60
  go_wp2_with fail
  refine bodyPost_ret (v := .tuple #[]) (by simp [results, Tryz.results60, go_sem]) rfl ⟨rfl, rfl⟩
theorem Blk.ne_ty2 {w : World} {b c : Nat} {cs cs' : Array Value} {t t' : TypeId} (h : Blk w b cs t) (h' : Blk w c cs' t') (hn : t ≠ t') : b ≠ c := fun e => by
  subst e
  unfold Blk at h h'
  rw [h] at h'
  simp only [Option.some.injEq, Obj.cells.injEq] at h'
  exact hn h'.2.1
theorem Blk.row {w : World} {b g : Nat} {cs cs' : Array Value} {t : TypeId} (h : Blk w b cs t) (hne : b ≠ g) : Blk (w.setRow g cs') b cs t := by
  unfold Blk at *
  rw [setRow_other w g b cs' hne]
  exact h
theorem Blk.rowSet {w : World} {b : Nat} {cs cs' : Array Value} {t : TypeId} (h : Blk w b cs t) : Blk (w.setRow b cs') b cs' t := by
  unfold Blk at *
  exact setRow_heap w b cs cs' t _ h
theorem Only.row {S : List Nat} {a b : World} (h : Only S a b) (g : Nat) (cs : Array Value) (hg : g ∈ S) : Only S a (b.setRow g cs) :=
  ⟨h.os, h.tape, h.output, by rw [setRow_size]; exact h.size, fun k hk hn => by rw [setRow_other b g k cs (fun e => hn (e ▸ hg))]; exact h.block k hk hn⟩
theorem byteCells_bU (l : List UInt8) : Go.Lib.byteCells l = bU l := rfl
theorem copy_str {w : World} {bs o dl dc : Nat} {bl s : List UInt8} (h : Blk w bs (bU bl).toArray 5) (h1 : o + s.length ≤ bl.length) (h2 : s.length ≤ dl) :
    (Builtin.copy_ #[120, 9] 3 #[.slice (some ⟨bs, o, none⟩) dl dc, Str s]).run Tryz.prog w = .ok (.int .i64 (s.length : Int)) (w.setRow bs (bU (bl.take o ++ s ++ bl.drop (o + s.length))).toArray) := by
  have hsz : (⟨s.toArray⟩ : ByteArray).size = s.length := rfl
  have := Go.Lib.run_copy_row_string (P := Tryz.prog) w 120 9 3 5 bs o dl dc ⟨s.toArray⟩ (bU bl).toArray 5 Tryz.underlying120 (by kernel_rfl) h (by rw [hsz]; exact h2) (by rw [hsz]; simpa using h1)
  rw [this, show (bU (bl.take o ++ s ++ bl.drop (o + s.length))) = (bU bl).toArray.toList.take o ++ Go.Lib.byteCells (⟨s.toArray⟩ : ByteArray).data.toList ++ (bU bl).toArray.toList.drop (o + (⟨s.toArray⟩ : ByteArray).size) by
    rw [hsz]
    simp only [byteCells_bU, bU, List.map_append, List.map_take, List.map_drop]]
  rfl
theorem copy_no {w : World} {bs o dl dc : Nat} (z : ByteArray) (hz : z.size = 0) :
    (Builtin.copy_ #[120, 9] 3 #[.slice (some ⟨bs, o, none⟩) dl dc, .string z]).run Tryz.prog w = .ok (.int .i64 0) w :=
  Go.Lib.run_copy_empty_string (P := Tryz.prog) w 120 9 3 5 _ dl dc z Tryz.underlying120 (by kernel_rfl) hz
theorem rput_lite (s : List UInt8) {w : World} {br bs : Nat} {bl : List UInt8} {fr n : Nat} {most : Int} (h : RnM w br bs bl fr n most) (hs : 0 < s.length) (h1 : fr + n + s.length ≤ bl.length) (hm : (n : Int) + (s.length : Int) ≤ most) (hm2 : most ≤ 1048576) :
    Calls Tryz.prog 34 #[.pointer (some ⟨br, 0, none⟩), Str s] w fun e w' => e = .returned (.int .i64 (s.length : Int)) ∧ RnM w' br bs (bl.take (fr + n) ++ s ++ bl.drop (fr + n + s.length)) fr (n + s.length) most ∧ Only [br, bs] w w' := by
  have HG : Hid (∀ w', RnM w' br bs bl fr n most → Calls Tryz.prog 60 #[.pointer (some ⟨br, 0, none⟩), .int .i64 ((n : Int) + (s.length : Int))] w' fun e w'' => e = .returned (.tuple #[]) ∧ w'' = w') := Lib.hid fun w' h' => by
    have := rgrow_no h' (n + s.length) (by omega)
    rw [Int.natCast_add] at this
    exact this
  have c0 := h.k.facts.1 0
  have c1 := h.k.facts.1 1
  have c2 := h.k.facts.1 2
  have c3 := h.k.facts.1 3
  have fc2 := h.k.facts.2.1 2
  have x1 : wrap64 (most - (n : Int)) = most - (n : Int) := IntWalk.wrap64_in _ (by omega)
  have x2 : (if most - (n : Int) < (s.length : Int) then most - (n : Int) else (s.length : Int)) = (s.length : Int) := by rw [if_neg (by omega)]
  have x3 : wrap64 ((n : Int) + (s.length : Int)) = (n : Int) + (s.length : Int) := IntWalk.wrap64_in _ (by omega)
  have hl := h.l
  have x4 : wrap64 ((fr : Int) + (n : Int)) = (fr : Int) + (n : Int) := IntWalk.wrap64_in _ (by omega)
  have x5 : ¬ (bl.length : Int) ≤ (fr : Int) + (n : Int) := by omega
  have x6 : (0 : Int) ≤ (fr : Int) + (n : Int) := by omega
  have x7 : (fr : Int) + (n : Int) ≤ (bl.length : Int) := by omega
  have x8 : (⟨s.toArray⟩ : ByteArray).extract 0 s.length = ⟨s.toArray⟩ := by rw [ext_list, List.take_length, List.drop_zero]
  have x9 : ((fr : Int) + (n : Int)).toNat = fr + n := by omega
  have x10 := copy_str (w := w.drew.drew) (o := fr + n) (dl := bl.length - (fr + n)) (dc := bl.length - (fr + n)) (bl := bl) (s := s) h.b.drew.drew (by omega) (by omega)
  obtain ⟨bl2, hbl2⟩ : ∃ bl2, bl.take (fr + n) ++ s ++ bl.drop (fr + n + s.length) = bl2 := ⟨_, rfl⟩
  have hl2 : bl2.length = bl.length := by rw [← hbl2]; simp; omega
  rw [hbl2] at x10 ⊢
  have hne : br ≠ bs := (Blk.ne_ty2 h.k h.b (by decide))
  have hk1 := h.k.drew.drew.row (g := bs) (cs' := (bU bl2).toArray) hne
  have hb1 := h.b.drew.drew.rowSet (cs' := (bU bl2).toArray)
  have ho1 : Only [br, bs] w (w.drew.drew.setRow bs (bU bl2).toArray) := ((Only.refl _ w).drew.drew).row bs _ (by simp)
  have e0 := hk1.facts.1 0
  have e1 := hk1.facts.1 1
  have e2 := hk1.facts.1 2
  have e3 := hk1.facts.1 3
  have fe2 := hk1.facts.2.1 2
  have x11 : ∀ (w' : World) (dl dc : Nat), (Builtin.copy_ #[120, 9] 3 #[.slice (some ⟨bs, 0, none⟩) dl dc, .string ByteArray.empty]).run Tryz.prog w' = .ok (.int .i64 0) w' := fun w' dl dc => copy_no _ rfl
  have H := Lib.hid h
  have HF := Lib.hid (And.intro hk1 (And.intro hb1 (And.intro ho1 hl2)))
  clear hk1 hb1 ho1 hbl2
  have HS := Lib.hid (And.intro hs (And.intro h1 (And.intro hm hm2)))
  clear h hs h1 hm hm2 hl
  go_enter Tryz.func34, Tryz.ntmps34
  go_wp2_with fail
  go_region
  go_wp2_with fail
  refine (HG.out _ ⟨H.out.k.drew, H.out.b.drew, H.out.l⟩).mono ?_
  rintro e w1 ⟨rfl, rfl⟩
  go_wp2_with fail
  go_region
  go_wp2_with fail
  generalize w.drew.drew.setRow bs (bU bl2).toArray = W1 at *
  go_region
  go_wp2_with fail
  go_ret
  have e : (n : Int) + (s.length : Int) = ((n + s.length : Nat) : Int) := by omega
  rw [e]
  refine ⟨rfl, ⟨?_, ?_, ?_⟩, (HF.out.2.2.1.setCell _ _ (.inl (by simp))).drew⟩
  · rw [HF.out.2.2.2]
    exact (HF.out.1.setAt 2 (.int .i64 ((n + s.length : Nat) : Int)) rfl).drew
  · exact (HF.out.2.1.setOther ⟨br, 2, none⟩ _ (fun e => hne e.symm)).drew
  · rw [HF.out.2.2.2]; exact H.out.l
theorem conv_part {w : World} {bs : Nat} {bl : List UInt8} (h : Blk w bs (bU bl).toArray 5) (o q cap : Nat) (hq : o + q ≤ bl.length) : (convert 120 9 (.slice (some ⟨bs, o, none⟩) q cap)).run Tryz.prog w = .ok (Str ((bl.drop o).take q)) w := by
  have hlen : ((bl.drop o).take q).length = q := by simp; omega
  have := run_str_cells (P := Tryz.prog) w 120 9 5 ⟨bs, o, none⟩ cap (((bl.drop o).take q).map fun b => (b.toNat : Int)) Tryz.underlying120 Tryz.underlying5 Tryz.underlying9 (fun j hj => by
    have e : (⟨bs, o, none⟩ : Addr).add j = ⟨bs, o + j, none⟩ := by unfold Addr.add; split <;> simp_all
    rw [List.length_map, hlen] at hj
    rw [e, h.facts.1 (o + j)]
    rw [List.getElem?_toArray, List.getElem?_map, List.getElem?_eq_getElem (show o + j < bl.length by omega)]
    simp)
  rw [List.length_map, hlen] at this
  rw [this, List.map_map]
  congr 2
  conv => rhs; rw [← List.map_id ((bl.drop o).take q)]
  congr 2
  refine List.map_congr_left fun b _ => ?_
  apply UInt8.toNat.inj
  simp [U8]
theorem str_plus_no (l : List UInt8) (h : l.length ≤ 1048576) (w : World) : (Op.stringOp .add (⟨l.toArray⟩ : ByteArray) (⟨#[]⟩ : ByteArray)).run Tryz.prog w = .ok (Str l) w := by
  unfold Op.stringOp
  have e : ¬ ((((⟨l.toArray⟩ : ByteArray).size + (⟨#[]⟩ : ByteArray).size : Nat) : Int) > IntKind.i64.max) := by
    show ¬ (((l.length + 0 : Nat) : Int) > 9223372036854775807)
    omega
  simp only [if_neg e, Sem.run_pure]
  congr 2
  apply ByteArray.ext
  simp
/-- The first bytes, where they do not go round. -/
theorem rpeek_lite (m : Nat) {w : World} {br bs : Nat} {bl : List UInt8} {fr n : Nat} {most : Int} (h : RnM w br bs bl fr n most) (h1 : fr + n ≤ bl.length) (hf : fr < bl.length) (hm : m ≤ 1048576) :
    Calls Tryz.prog 72 #[.pointer (some ⟨br, 0, none⟩), .int .i64 (m : Int)] w fun e w' => e = .returned (Str ((bl.drop fr).take (min m n))) ∧ Below w.heap.size w w' := by
  obtain ⟨q, hq⟩ : ∃ q, min m n = q := ⟨_, rfl⟩
  rw [hq]
  have c0 := h.k.facts.1 0
  have c1 := h.k.facts.1 1
  have c2 := h.k.facts.1 2
  have hl := h.l
  have x1 : (if n < m then (n : Int) else (m : Int)) = (q : Int) := by split <;> omega
  have x2 : (if 0 < q then (q : Int) else 0) = (q : Int) := by split <;> omega
  have x3 : wrap64 ((bl.length : Int) - (fr : Int)) = (bl.length : Int) - (fr : Int) := IntWalk.wrap64_in _ (by omega)
  have x4 : ¬ (bl.length : Int) - (fr : Int) < (q : Int) := by omega
  have x5 : IntKind.i64.wrap ((fr : Int) + (q : Int)) = (fr : Int) + (q : Int) := IntWalk.i64_in _ (by omega)
  have x13 : ¬ bl.length = fr := by omega
  have x14 : ¬ bl.length = 0 := by omega
  have x12 : IntKind.i64.wrap 0 = 0 := rfl
  have x6 : ((fr : Int) + (q : Int)).toNat = fr + q := by omega
  have x7 : ∀ k : Nat, (convert 120 9 (.slice (some ⟨bs, fr, none⟩) q (bl.length - fr))).run Tryz.prog (w.drew.drewN k) = .ok (Str ((bl.drop fr).take q)) (w.drew.drewN k) := fun k => conv_part (h.b.drew.below (below_drewN (Below.refl _ _) k) h.b.drew.lt) fr q (bl.length - fr) (by omega)
  have x8 : ∀ k : Nat, (convert 120 9 (.slice (some ⟨bs, 0, none⟩) 0 bl.length)).run Tryz.prog (w.drew.drewN k) = .ok (Str []) (w.drew.drewN k) := fun k => by
    have := conv_part (h.b.drew.below (below_drewN (Below.refl _ _) k) h.b.drew.lt) 0 0 bl.length (by omega)
    rw [List.take_zero] at this
    exact this
  have x9 : (0 : Int) ≤ (fr : Int) + (q : Int) := by omega
  have x10 : (fr : Int) + (q : Int) ≤ (bl.length : Int) := by omega
  have x11 : (fr : Int) ≤ (fr : Int) + (q : Int) := by omega
  have HX := Lib.hid (And.intro x5 (And.intro x6 (And.intro x7 (And.intro x8 (And.intro x9 (And.intro x10 (And.intro x11 (And.intro x12 (And.intro x13 x14)))))))))
  have HQ := Lib.hid (And.intro h1 (And.intro hf (And.intro hq hm)))
  clear h hq h1 hf hl x5 x6 x7 x8 x9 x10 x11 x12 x13 x14
  go_enter Tryz.func72, Tryz.ntmps72
  go_wp2_with fail
  clear x1 x2
  go_region
  clear x3 x4
  obtain ⟨x5, x6, x7, x8, x9, x10, x11, x12, x13, x14⟩ := HX.out
  go_wp2_with fail
  have hcat : ∀ w' : World, (Op.stringOp .add (⟨((bl.drop fr).take q).toArray⟩ : ByteArray) (⟨#[]⟩ : ByteArray)).run Tryz.prog w' = .ok (Str ((bl.drop fr).take q)) w' := str_plus_no _ (by rw [List.length_take]; have := HQ.out; omega)
  have HSX : Hid (∀ k : Nat, ((w.drew.drewN k).cell? ⟨br, 0, none⟩ = some (.slice (some ⟨bs, 0, none⟩) bl.length bl.length) ∧ (w.drew.drewN k).cell? ⟨br, 1, none⟩ = some (.int .i64 (fr : Int))) ∧ (convert 120 9 (.slice (some ⟨bs, fr, none⟩) q (bl.length - fr))).run Tryz.prog (w.drew.drewN k) = .ok (Str ((bl.drop fr).take q)) (w.drew.drewN k) ∧ (convert 120 9 (.slice (some ⟨bs, 0, none⟩) 0 bl.length)).run Tryz.prog (w.drew.drewN k) = .ok (Str []) (w.drew.drewN k)) := Lib.hid fun k => ⟨⟨by simpa using c0, by simpa using c1⟩, x7 k, x8 k⟩
  clear x7 x8 c2
  go_region_held3 (fun w' => (w'.cell? ⟨br, 0, none⟩ = some (.slice (some ⟨bs, 0, none⟩) bl.length bl.length) ∧ w'.cell? ⟨br, 1, none⟩ = some (.int .i64 (fr : Int))) ∧ (convert 120 9 (.slice (some ⟨bs, fr, none⟩) q (bl.length - fr))).run Tryz.prog w' = .ok (Str ((bl.drop fr).take q)) w' ∧ (convert 120 9 (.slice (some ⟨bs, 0, none⟩) 0 bl.length)).run Tryz.prog w' = .ok (Str []) w')
    (exact HSX.out 1)
    ((first | fail))
  go_wp2_with fail
  go_ret
  exact ⟨rfl, (Below.refl _ _).drew.drew⟩
/-- The first bytes go. -/
theorem rtake_lite (m : Nat) {w : World} {br bs : Nat} {bl : List UInt8} {fr n : Nat} {most : Int} (h : RnM w br bs bl fr n most) (h1 : fr + n < bl.length) (hm : m ≤ 1048576) (h0 : 0 < min m n) :
    Calls Tryz.prog 61 #[.pointer (some ⟨br, 0, none⟩), .int .i64 (m : Int)] w fun e w' => e = .returned (Str ((bl.drop fr).take (min m n))) ∧ RnM w' br bs bl (fr + min m n) (n - min m n) most ∧ Only [br] w w' := by
  have HP := Lib.hid (rpeek_lite m h (by omega) (by omega) hm)
  have hl := h.l
  have hlen : ((bl.drop fr).take (min m n)).length = min m n := by simp; omega
  obtain ⟨q, hq⟩ : ∃ q, min m n = q := ⟨_, rfl⟩
  rw [hq] at HP hlen h0 ⊢
  generalize (bl.drop fr).take q = l at *
  have x1 : (0 : Int) < (l.length : Int) := by omega
  have x2 : wrap64 ((fr : Int) + (l.length : Int)) = (fr : Int) + (l.length : Int) := IntWalk.wrap64_in _ (by omega)
  have x3 : IntKind.i64.wrap ((fr : Int) + (l.length : Int)) = (fr : Int) + (l.length : Int) := IntWalk.i64_in _ (by omega)
  have x4 : ((fr : Int) + (l.length : Int)).tmod (bl.length : Int) = (fr : Int) + (l.length : Int) := Int.tmod_eq_of_lt (by omega) (by omega)
  have x4' : ((fr : Int) + (l.length : Int)) % (bl.length : Int) = (fr : Int) + (l.length : Int) := Int.emod_eq_of_lt (by omega) (by omega)
  have x5 : ¬ bl.length = 0 := by omega
  have x6 : wrap64 ((n : Int) - (l.length : Int)) = (n : Int) - (l.length : Int) := IntWalk.wrap64_in _ (by omega)
  have H := Lib.hid h
  have HQ := Lib.hid (And.intro hlen (And.intro hq (And.intro h1 hl)))
  clear h hlen hq h1 hl h0 hm
  go_enter Tryz.func61, Tryz.ntmps61
  go_wp2_with fail
  refine HP.out.mono ?_
  rintro e w1 ⟨rfl, hb⟩
  have k1 := H.out.k.below hb H.out.k.lt
  have HK := Lib.hid (And.intro k1 (And.intro (H.out.b.below hb H.out.b.lt) hb))
  have c0 := k1.facts.1 0
  have c1 := k1.facts.1 1
  have c2 := k1.facts.1 2
  have fc1 := k1.facts.2.1 1
  have fc2 := k1.facts.2.1 2
  clear k1 hb
  go_wp2_with fail
  go_region
  go_wp2_with fail
  have e1 : (fr : Int) + (l.length : Int) = ((fr + q : Nat) : Int) := by have := HQ.out; omega
  have e2 : (n : Int) - (l.length : Int) = ((n - q : Nat) : Int) := by have := HQ.out; omega
  rw [e1, e2]
  go_ret
  have hne := Blk.ne_ty2 HK.out.1 HK.out.2.1 (by decide)
  exact ⟨rfl, ⟨((HK.out.1.setAt 1 _ rfl).setAt 2 _ rfl).drew, ((HK.out.2.1.setOther ⟨br, 1, none⟩ _ (fun e => hne e.symm)).setOther ⟨br, 2, none⟩ _ (fun e => hne e.symm)).drew, H.out.l⟩, (((Only.of_below HK.out.2.2).setCell _ _ (.inl (by simp))).setCell _ _ (.inl (by simp))).drew⟩
end Go.Proofs.YtnmlmpffmjhihaaGreat
namespace Go.Proofs.YtnmlmpffmjhihaaGreat
open Go Go.RowKit
set_option linter.unusedVariables false
set_option linter.unusedSimpArgs false
set_option maxRecDepth 100000
set_option maxHeartbeats 1000000
structure BkM (w : World) (bb br bs : Nat) (bl : List UInt8) (fr n : Nat) (most size : Int) : Prop where
  k : Blk w bb #[.pointer (some ⟨br, 0, none⟩), .int .i64 size] 83
  r : RnM w br bs bl fr n most
theorem BkM.chain {w w' : World} {bb br bs : Nat} {bl : List UInt8} {fr n : Nat} {most size : Int} (h : BkM w bb br bs bl fr n most size) (hb : Below w.heap.size w w') : BkM w' bb br bs bl fr n most size :=
  ⟨h.k.below hb h.k.lt, ⟨h.r.k.below hb h.r.k.lt, h.r.b.below hb h.r.b.lt, h.r.l⟩⟩
theorem bnew_ok (size room : Int) (h1 : 1 ≤ size) (h2 : size ≤ 32768) (h3 : size ≤ room) (h4 : 64 ≤ room) (h5 : room ≤ 1048576) (w : World) : Calls Tryz.prog 53 #[.int .i64 size, .int .i64 room] w fun e w' => e = .returned (.tuple #[.pointer (some ⟨w.heap.size + 2, 0, none⟩), .int .i64 0]) ∧ BkM w' (w.heap.size + 2) (w.heap.size + 1) w.heap.size z64 0 0 room size ∧ Below w.heap.size w w' := by
  have t1 : ¬ size < 1 := by omega
  have t2 : ¬ 32768 < size := by omega
  have t3 : ¬ room < size := by omega
  have HR := Lib.hid (rnew_sz room h4 h5 w)
  clear h1 h2 h3 h4 h5
  go_enter Tryz.func53, Tryz.ntmps53
  go_wp2_with fail
  refine HR.out.mono ?_
  rintro e w1 ⟨rfl, hr, hb, hsz⟩
  have H1 := Lib.hid (And.intro hr (And.intro hb hsz))
  clear hr hb hsz
  go_wp2_with fail
  rw [H1.out.2.2]
  go_ret2
  have ha := Below.chainAlloc (Below.refl _ w1) (.cells #[.pointer (some ⟨w.heap.size + 1, 0, none⟩), .int .i64 size] 83)
  exact ⟨rfl, ⟨Blk.newAt H1.out.2.2.symm, ⟨H1.out.1.k.alloc _, H1.out.1.b.alloc _, H1.out.1.l⟩⟩, Below.chain ha H1.out.2.1⟩
section
variable {w : World} {bb br bs : Nat} {bl : List UInt8} {fr n : Nat} {most size : Int}
theorem blen_any (h : BkM w bb br bs bl fr n most size) : Calls Tryz.prog 18 #[.pointer (some ⟨bb, 0, none⟩)] w fun e w' => e = .returned (.int .i64 (n : Int)) ∧ w' = w := by
  have HR := Lib.hid (rlen_any h.r)
  have c0 := h.k.facts.1 0
  clear h
  go_enter Tryz.func18, Tryz.ntmps18
  go_wp2_with fail
  refine HR.out.mono ?_
  rintro e w1 ⟨rfl, rfl⟩
  go_wp2_with fail
  go_ret
  exact ⟨rfl, rfl⟩
theorem bwrite_lite (s : List UInt8) (h : BkM w bb br bs bl fr n most size) (hs : 0 < s.length) (h1 : fr + n + s.length ≤ bl.length) (hm : (n : Int) + (s.length : Int) ≤ most) (hm2 : most ≤ 1048576) :
    Calls Tryz.prog 19 #[.pointer (some ⟨bb, 0, none⟩), Str s] w fun e w' => e = .returned (.int .i64 (s.length : Int)) ∧ BkM w' bb br bs (bl.take (fr + n) ++ s ++ bl.drop (fr + n + s.length)) fr (n + s.length) most size ∧ Only [br, bs] w w' := by
  have HR := Lib.hid (rput_lite s h.r hs h1 hm hm2)
  have H := Lib.hid h
  have c0 := h.k.facts.1 0
  clear h hs h1 hm hm2
  go_enter Tryz.func19, Tryz.ntmps19
  go_wp2_with fail
  refine HR.out.mono ?_
  rintro e w1 ⟨rfl, hr, ho⟩
  have H1 := Lib.hid (And.intro hr ho)
  clear hr ho c0
  go_wp2_with fail
  go_ret
  have h1 := Blk.ne_ty2 H.out.k H.out.r.k (by decide)
  have h2 := Blk.ne_ty2 H.out.k H.out.r.b (by decide)
  exact ⟨rfl, ⟨H.out.k.only H1.out.2 (by simp; exact ⟨h1, h2⟩), H1.out.1⟩, H1.out.2⟩
theorem bnext_none (fl : Bool) (h : BkM w bb br bs bl fr 0 most size) : Calls Tryz.prog 37 #[.pointer (some ⟨bb, 0, none⟩), .bool fl] w fun e w' => e = .returned (.tuple #[Str [], .bool false]) ∧ w' = w := by
  have HL := Lib.hid (blen_any h)
  clear h
  go_enter Tryz.func37, Tryz.ntmps37
  go_wp2_with fail
  refine HL.out.mono ?_
  rintro e w1 ⟨rfl, rfl⟩
  go_wp2_with fail
  go_ret2
  exact ⟨rfl, rfl⟩
theorem bnext_lite (k : Nat) (hk : size = (k : Int)) (h : BkM w bb br bs bl fr n most size) (h1 : fr + n < bl.length) (hm : k ≤ 1048576) (h0 : 0 < min k n) : Calls Tryz.prog 37 #[.pointer (some ⟨bb, 0, none⟩), .bool true] w fun e w' => e = .returned (.tuple #[Str ((bl.drop fr).take (min k n)), .bool true]) ∧ BkM w' bb br bs bl (fr + min k n) (n - min k n) most size ∧ Only [br] w w' := by
  subst hk
  have HL := Lib.hid (blen_any h)
  have HT : Hid (Calls Tryz.prog 61 #[.pointer (some ⟨br, 0, none⟩), .int .i64 (k : Int)] w.drew fun e w' => e = .returned (Str ((bl.drop fr).take (min k n))) ∧ RnM w' br bs bl (fr + min k n) (n - min k n) most ∧ Only [br] w.drew w') := Lib.hid (rtake_lite k ⟨h.r.k.drew, h.r.b.drew, h.r.l⟩ h1 hm h0)
  have hn : ¬ n = 0 := by omega
  have hn2 : ((n : Int) == 0) = false := beq_eq_false_iff_ne.2 (by omega)
  have c0 := h.k.facts.1 0
  have c1 := h.k.facts.1 1
  have H := Lib.hid h
  clear h h1 hm h0
  generalize (bl.drop fr).take (min k n) = l at *
  go_enter Tryz.func37, Tryz.ntmps37
  go_wp2_with fail
  refine HL.out.mono ?_
  rintro e w1 ⟨rfl, rfl⟩
  go_wp2_with fail
  all_goals
    have HSX : Hid (w1.drew.cell? ⟨bb, 0, none⟩ = some (.pointer (some ⟨br, 0, none⟩)) ∧ w1.drew.cell? ⟨bb, 1, none⟩ = some (.int .i64 (k : Int))) := Lib.hid ⟨by simpa using c0, by simpa using c1⟩
    go_region_held3 (fun w' => w'.cell? ⟨bb, 0, none⟩ = some (.pointer (some ⟨br, 0, none⟩)) ∧ w'.cell? ⟨bb, 1, none⟩ = some (.int .i64 (k : Int)))
      (first
        | with_reducible exact HSX.out
        | exact HAF.out)
      ((first
        | (go_at_call 61; refine HT.out.mono ?_; rintro e w2 ⟨rfl, hr, ho⟩; have H2 := Lib.hid (And.intro hr ho); have hkk := H.out.k.drew.only ho (by have := Blk.ne_ty2 H.out.k H.out.r.k (by decide); simp; exact this); have HAF := Lib.hid (And.intro (hkk.facts.1 0) (hkk.facts.1 1)); have HKK := Lib.hid hkk; clear hr ho hkk)))
    go_wp2_with fail
    go_ret2
    exact ⟨rfl, ⟨HKK.out, H2.out.1⟩, (Only.refl _ _).drew.trans H2.out.2⟩
end
def EgM (w : World) (be : Nat) (z : Int) : Prop := Blk w be #[.int .u32 z] 107
theorem cbad_no (n : Int) (h : 0 ≤ n) (h2 : n ≤ 65535) (w : World) : Calls Tryz.prog 49 #[.int .i64 n] w fun e w' => e = .returned (.bool false) ∧ w' = w := by
  have t1 : ¬ n < 0 := by omega
  have t2 : ¬ 65535 < n := by omega
  go_enter Tryz.func49, Tryz.ntmps49
  go_wp2_with fail
  go_ret
  exact ⟨by simp [t1, t2], rfl⟩
theorem cnew_ok2 (n : Int) (h : 0 ≤ n) (h2 : n ≤ 65535) (w : World) : Calls Tryz.prog 56 #[.int .u32 0, .int .i64 n] w fun e w' => e = .returned (.tuple #[.pointer (some ⟨w.heap.size, 0, none⟩), .int .i64 0]) ∧ EgM w' w.heap.size n ∧ w' = w.alloc (.cells #[.int .u32 n] 107) := by
  have HC := Lib.hid (cbad_no n h h2 w)
  have x1 : IntKind.u32.wrap n = n := by unfold IntKind.wrap; simp [IntKind.signed, IntKind.bits]; omega
  have x2 : IntKind.u32.wrap (0 + n) = n := by rw [Int.zero_add]; exact x1
  clear h h2
  go_enter Tryz.func56, Tryz.ntmps56
  go_wp2_with fail
  refine HC.out.mono ?_
  rintro e w1 ⟨rfl, rfl⟩
  go_wp2_with fail
  go_ret2
  exact ⟨rfl, Blk.new _ _ _, rfl⟩
end Go.Proofs.YtnmlmpffmjhihaaGreat
namespace Go.Proofs.YtnmlmpffmjhihaaGreat
open Go Go.RowKit
set_option linter.unusedVariables false
set_option linter.unusedSimpArgs false
set_option maxRecDepth 100000
set_option maxHeartbeats 1000000
theorem clets_any (x z : Int) {w : World} {be : Nat} (h : EgM w be z) : Calls Tryz.prog 36 #[.pointer (some ⟨be, 0, none⟩), .int .u32 x] w fun e w' => e = .returned (.bool (decide (0 < ahead x z))) ∧ w' = w := by
  have c0 := Blk.facts h |>.1 0
  have HL := Lib.hid (less_any x z w)
  clear h
  go_enter Tryz.func36, Tryz.ntmps36
  go_wp2_with fail
  refine HL.out.mono ?_
  rintro e w1 ⟨rfl, rfl⟩
  go_wp2_with fail
  go_ret
  exact ⟨rfl, rfl⟩
theorem smax_any (a b : Int) (w : World) : Calls Tryz.prog 50 #[.int .u32 a, .int .u32 b] w fun e w' => e = .returned (.int .u32 (if 0 < ahead a b then b else a)) ∧ w' = w := by
  have HL := Lib.hid (less_any a b w)
  by_cases h : 0 < ahead a b
  · rw [decide_eq_true h] at HL
    rw [if_pos h]
    clear h
    go_enter Tryz.func50, Tryz.ntmps50
    go_wp2_with fail
    refine HL.out.mono ?_
    rintro e w1 ⟨rfl, rfl⟩
    go_wp2_with fail
    go_ret
    exact ⟨rfl, rfl⟩
  · rw [decide_eq_false h] at HL
    rw [if_neg h]
    clear h
    go_enter Tryz.func50, Tryz.ntmps50
    go_wp2_with fail
    refine HL.out.mono ?_
    rintro e w1 ⟨rfl, rfl⟩
    go_wp2_with fail
    go_ret
    exact ⟨rfl, rfl⟩
theorem fieldsEdge : Tryz.prog.underlying 105 = some (.struct (Tryz.prog.fieldsOf 105)) := by kernel_rfl
theorem notHeldEdge : Tryz.prog.stoodInHeld 105 = false := by kernel_rfl
theorem run_neq_edge (w : World) (a b : Int) : (binOp .neq 105 (.agg #[.int .u32 a]) (.agg #[.int .u32 b])).run Tryz.prog w = .ok (.bool (!decide (a = b))) w := by
  have h : (Op.equalIn 10000 105 (.agg #[.int .u32 a]) (.agg #[.int .u32 b])).run Tryz.prog w = .ok (decide (a = b)) w := by
    have zU := Tryz.sizeOf22
    rw [run_equalIn_agg w 9999 105 _ _ fieldsEdge notHeldEdge]
    simp only [Program.fieldsOf, Tryz.underlying105]
    go_simp
    by_cases h1 : a = b <;> simp [h1]
  rw [run_neq_struct, h]
  rfl
theorem cgrant_any (base n z : Int) (h1 : 0 ≤ n) (h2 : n ≤ 65535) {w : World} {be : Nat} (h : EgM w be z) : Calls Tryz.prog 27 #[.pointer (some ⟨be, 0, none⟩), .int .u32 base, .int .i64 n] w fun e w' => (∃ b, e = .returned (.bool b)) ∧ EgM w' be (if 0 < ahead z ((base + n) % 4294967296) then (base + n) % 4294967296 else z) ∧ Only [be] w w' := by
  have c0 := Blk.facts h |>.1 0
  have f0 := Blk.facts h |>.2.1 0
  have hlt := Blk.lt h
  have HB := Lib.hid (cbad_no n h1 h2 w)
  have x1 : IntKind.u32.wrap n = n := by unfold IntKind.wrap; simp [IntKind.signed, IntKind.bits]; omega
  have x2 : IntKind.u32.wrap (base + n) = (base + n) % 4294967296 := by unfold IntKind.wrap; simp [IntKind.signed, IntKind.bits]
  have HM := Lib.hid (fun w' => smax_any z ((base + n) % 4294967296) w')
  obtain ⟨u, hu⟩ : ∃ u, (if 0 < ahead z ((base + n) % 4294967296) then (base + n) % 4294967296 else z) = u := ⟨_, rfl⟩
  rw [hu] at HM ⊢
  have hne := fun w' => run_neq_edge w' u z
  have H := Lib.hid h
  clear h h1 h2 hu
  go_enter Tryz.func27, Tryz.ntmps27
  go_wp2_with fail
  refine HB.out.mono ?_
  rintro e w1 ⟨rfl, rfl⟩
  go_wp2_with fail
  refine (HM.out _).mono ?_
  rintro e w2 ⟨rfl, rfl⟩
  go_wp2_with fail
  go_region
  go_wp2_with fail
  go_ret
  exact ⟨⟨_, rfl⟩, ((Blk.setAt H.out 0 (.int .u32 u) rfl).alloc _).drew, (((Only.refl _ _).setCell _ _ (.inl (by simp))).trans (Only.of_below (Below.chainAlloc (Below.refl _ _) _))).drew⟩
end Go.Proofs.YtnmlmpffmjhihaaGreat
