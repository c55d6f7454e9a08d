/-
  How much there is of an endpoint that was made (chapter 30).
-/
import Derived.Test.YteepdknnmdhckaaCp3
namespace Go.Proofs.Yteepdknnmdhckaa
open Go Go.RowKit
set_option linter.unusedVariables false
set_option linter.unusedSimpArgs false
set_option maxRecDepth 100000
set_option maxHeartbeats 2000000
theorem tLenO {base bt room m : Nat} {s : TS} {w : World} (h : Tab base w bt room [] m s) : Calls Try.prog 30 #[ptr bt] w fun e w' => e = .returned (.int .i64 0) ∧ Tab base w' bt room [] m s ∧ Only [bt] w w' := by
  refine (tlen_any bt s w h.h.tb).mono ?_
  rintro e w' ⟨rfl, hb, ho⟩
  have hn : s.n = 0 := by
    have h1 : s.A.length = s.n := by unfold TS.A; rw [List.length_map, h.ok.n]
    rw [h.a] at h1
    exact h1.symm
  exact ⟨by rw [hn]; rfl, ⟨h.h.setTab (n := s.n) (made := s.made) ho hb, h.ok, h.a, h.r, h.m⟩, ho⟩
theorem jlen0 (bj : Nat) (z : Int) (c : Bool) (w : World) (h : Blk w bj #[.slice none 0 0, .int .i64 z, .bool c] 108) : Calls Try.prog 31 #[ptr bj] w fun e w' => e = .returned (.int .i64 0) ∧ w = w' := by
  have c0 := h.facts.1 0
  clear h
  go_enter Try.func31, Try.ntmps31
  go_wp2_with fail
  go_ret
  exact ⟨rfl, rfl⟩
theorem clen0 (bc : Nat) (w : World) (h : Blk w bc #[.slice none 0 0] 84) : Calls Try.prog 32 #[ptr bc] w fun e w' => e = .returned (.int .i64 0) ∧ w = w' := by
  have c0 := h.facts.1 0
  clear h
  go_enter Try.func32, Try.ntmps32
  go_wp2_with fail
  go_ret
  exact ⟨rfl, rfl⟩
theorem EndN.below {base be bt bj bc : Nat} {w w' : World} (h : EndN base w be bt bj bc) (hb : Below w.heap.size w w') : EndN base w' be bt bj bc := by
  obtain ⟨⟨cs, st, he, hz⟩, ⟨b0, room, s, hlo, ht⟩, ⟨z, hj⟩, hc, hl⟩ := h
  exact ⟨⟨cs, st, he.below hb he.lt, hz⟩, ⟨b0, room, s, hlo, ht.chain hb⟩, ⟨z, hj.below hb hj.lt⟩, hc.below hb hc.lt, hl⟩
/-- What lies below its base may turn. -/
theorem EndN.other {base be bt bj bc x : Nat} {w w' : World} (h : EndN base w be bt bj bc) (ho : Only [x] w w') (hx : x < base) : EndN base w' be bt bj bc := by
  obtain ⟨⟨cs, st, he, hz⟩, ⟨b0, room, s, hlo, ht⟩, ⟨z, hj⟩, hc, hl⟩ := h
  exact ⟨⟨cs, st, he.only ho (by simp; omega), hz⟩, ⟨b0, room, s, hlo, ht.other ho (by omega)⟩, ⟨z, hj.only ho (by simp; omega)⟩, hc.only ho (by simp; omega), hl⟩
/-- The table's own cells turn. -/
theorem EndN.tab {base be bt bj bc room b0 : Nat} {s : TS} {w w' : World} (h : EndN base w be bt bj bc) (hlo : base ≤ b0) (ht : Tab b0 w bt room [] 0 s) (ht' : Tab b0 w' bt room [] 0 s) (ho : Only [bt] w w') : EndN base w' be bt bj bc := by
  obtain ⟨⟨cs, st, he, hz⟩, _, ⟨z, hj⟩, hc, hl⟩ := h
  have h1 := blk_ne ht.h.tb he (by decide)
  have h2 := blk_ne ht.h.tb hj (by decide)
  have h3 := blk_ne ht.h.tb hc (by decide)
  exact ⟨⟨cs, st, he.only ho (by simp; exact h1), hz⟩, ⟨b0, room, s, hlo, ht'⟩, ⟨z, hj.only ho (by simp; exact h2)⟩, hc.only ho (by simp; exact h3), hl⟩
theorem EndN.tlen {base be bt bj bc : Nat} {w : World} (h : EndN base w be bt bj bc) : Calls Try.prog 30 #[ptr bt] w fun e w' => e = .returned (.int .i64 0) ∧ EndN base w' be bt bj bc ∧ Only [bt] w w' := by
  obtain ⟨b0, room, s, hlo, ht⟩ := h.t
  refine (tLenO ht).mono ?_
  rintro e w' ⟨rfl, ht', ho⟩
  exact ⟨rfl, h.tab hlo ht ht' ho, ho⟩
theorem EndN.jlen {base be bt bj bc : Nat} {w : World} (h : EndN base w be bt bj bc) : Calls Try.prog 31 #[ptr bj] w fun e w' => e = .returned (.int .i64 0) ∧ w = w' := by
  obtain ⟨z, hj⟩ := h.j
  exact jlen0 bj z false w hj
theorem EndN.tne {base be bt bj bc b : Nat} {w : World} {cs : Array Value} {t : TypeId} (h : EndN base w be bt bj bc) (hb : Blk w b cs t) (ht : t ≠ 102) : b ≠ bt := by
  obtain ⟨b0, room, s, hlo, h1⟩ := h.t
  exact blk_ne h1.h.tb hb (fun e => ht e.symm)
/-- The cells that are read, and those that are written. -/
def LoadC (w : World) (be b0 bt bj bc : Nat) : Prop :=
  (w.cell? ⟨be, 267, none⟩ = some (.int .i64 0) ∧ w.cell? ⟨be, 269, none⟩ = some (ptr bt) ∧ w.cell? ⟨be, 271, none⟩ = some (ptr bj) ∧ w.cell? ⟨be, 272, none⟩ = some (.slice none 0 0) ∧ w.cell? ⟨be, 273, none⟩ = some (ptr bc)) ∧ Blk w b0 #[.int .i64 0, .int .i64 0, .int .i64 0, .int .i64 0, .int .i64 0, .int .i64 0] 24
theorem EndN.loadC {base be bt bj bc b0 : Nat} {w : World} (h : EndN base w be bt bj bc) (h0 : Blk w b0 #[.int .i64 0, .int .i64 0, .int .i64 0, .int .i64 0, .int .i64 0, .int .i64 0] 24) : LoadC w be b0 bt bj bc := by
  obtain ⟨cs, st, he, hz⟩ := h.e
  exact ⟨⟨(he.facts.1 267).trans hz.c267, (he.facts.1 269).trans hz.c269, (he.facts.1 271).trans hz.c271, (he.facts.1 272).trans hz.c272, (he.facts.1 273).trans hz.c273⟩, h0⟩
theorem index60 (cs : Array Value) (k : Nat) (hk : k < 256) (v : Value) (h : cs[k]? = some v) (w : World) : (Instr.index 60 (.agg cs) (.int .i64 (k : Int))).run Try.prog w = .ok v w := by
  have h1 : (0 : Int) ≤ (k : Int) := by omega
  have h2 : (k : Int) < 256 := by omega
  unfold Instr.index
  simp only [asIntOf, Sem.run_bind, Sem.run_pure, Result.andThen_ok]
  go_simp
theorem agg60 (w : World) : (isAgg 60).run Try.prog w = .ok true w := by kernel_rfl
theorem size60 : (Try.prog.info? 60).map (·.size) = some 256 := by kernel_rfl
def LX18 (base be bt bj bc b0 : Nat) (W1 w' : World) : Prop := EndN base w' be bt bj bc ∧ Blk w' b0 #[.int .i64 0, .int .i64 0, .int .i64 0, .int .i64 0, .int .i64 0, .int .i64 0] 24 ∧ Only [bt, b0] W1 w'
theorem LX18.cells {base be bt bj bc b0 : Nat} {W1 w' : World} (h : LX18 base be bt bj bc b0 W1 w') : ((w'.cell? ⟨be, 267, none⟩ = some (.int .i64 0) ∧ w'.cell? ⟨be, 269, none⟩ = some (.pointer (some ⟨bt, 0, none⟩)) ∧ w'.cell? ⟨be, 271, none⟩ = some (.pointer (some ⟨bj, 0, none⟩)) ∧ w'.cell? ⟨be, 272, none⟩ = some (.slice none 0 0) ∧ w'.cell? ⟨be, 273, none⟩ = some (.pointer (some ⟨bc, 0, none⟩))) ∧ (w'.cell? ⟨b0, 0, none⟩ = some (.int .i64 0) ∧ w'.frozen? ⟨b0, 0, none⟩ = false ∧ w'.cell? ⟨b0, 1, none⟩ = some (.int .i64 0) ∧ w'.frozen? ⟨b0, 1, none⟩ = false ∧ w'.cell? ⟨b0, 2, none⟩ = some (.int .i64 0) ∧ w'.frozen? ⟨b0, 2, none⟩ = false ∧ w'.cell? ⟨b0, 3, none⟩ = some (.int .i64 0) ∧ w'.frozen? ⟨b0, 3, none⟩ = false ∧ w'.cell? ⟨b0, 4, none⟩ = some (.int .i64 0) ∧ w'.frozen? ⟨b0, 4, none⟩ = false ∧ w'.cell? ⟨b0, 5, none⟩ = some (.int .i64 0) ∧ w'.frozen? ⟨b0, 5, none⟩ = false)) ∧ LX18 base be bt bj bc b0 W1 w' := by
  have hl := (h.1.loadC h.2.1)
  exact ⟨⟨hl.1, hl.2.facts.1 0, hl.2.facts.2.1 0, hl.2.facts.1 1, hl.2.facts.2.1 1, hl.2.facts.1 2, hl.2.facts.2.1 2, hl.2.facts.1 3, hl.2.facts.2.1 3, hl.2.facts.1 4, hl.2.facts.2.1 4, hl.2.facts.1 5, hl.2.facts.2.1 5⟩, h⟩
theorem LX18.stored {base be bt bj bc b0 : Nat} {W1 w' : World} (hne : ∀ w', EndN base w' be bt bj bc → Blk w' b0 #[.int .i64 0, .int .i64 0, .int .i64 0, .int .i64 0, .int .i64 0, .int .i64 0] 24 → ∀ w'', Only [b0] w' w'' → EndN base w'' be bt bj bc) (h : LX18 base be bt bj bc b0 W1 w') : LX18 base be bt bj bc b0 W1 ((((((w'.setCell ⟨b0, 0, none⟩ (.int .i64 0)).setCell ⟨b0, 1, none⟩ (.int .i64 (IntKind.i64.wrap 0))).setCell ⟨b0, 2, none⟩ (.int .i64 0)).setCell ⟨b0, 3, none⟩ (.int .i64 0)).setCell ⟨b0, 4, none⟩ (.int .i64 0)).setCell ⟨b0, 5, none⟩ (.int .i64 0)) := by
  have ho : Only [b0] w' ((((((w'.setCell ⟨b0, 0, none⟩ (.int .i64 0)).setCell ⟨b0, 1, none⟩ (.int .i64 (IntKind.i64.wrap 0))).setCell ⟨b0, 2, none⟩ (.int .i64 0)).setCell ⟨b0, 3, none⟩ (.int .i64 0)).setCell ⟨b0, 4, none⟩ (.int .i64 0)).setCell ⟨b0, 5, none⟩ (.int .i64 0)) := ((((((Only.refl _ _).setCell _ _ (.inl (by simp))).setCell _ _ (.inl (by simp))).setCell _ _ (.inl (by simp))).setCell _ _ (.inl (by simp))).setCell _ _ (.inl (by simp))).setCell _ _ (.inl (by simp))
  exact ⟨hne _ h.1 h.2.1 _ ho, (((((h.2.1.setAt (cs' := #[.int .i64 0, .int .i64 0, .int .i64 0, .int .i64 0, .int .i64 0, .int .i64 0]) 0 _ rfl).setAt (cs' := #[.int .i64 0, .int .i64 0, .int .i64 0, .int .i64 0, .int .i64 0, .int .i64 0]) 1 (.int .i64 (IntKind.i64.wrap 0)) (by rw [show IntKind.i64.wrap 0 = 0 by decide]; rfl)).setAt (cs' := #[.int .i64 0, .int .i64 0, .int .i64 0, .int .i64 0, .int .i64 0, .int .i64 0]) 2 _ rfl).setAt (cs' := #[.int .i64 0, .int .i64 0, .int .i64 0, .int .i64 0, .int .i64 0, .int .i64 0]) 3 _ rfl).setAt (cs' := #[.int .i64 0, .int .i64 0, .int .i64 0, .int .i64 0, .int .i64 0, .int .i64 0]) 4 _ rfl).setAt (cs' := #[.int .i64 0, .int .i64 0, .int .i64 0, .int .i64 0, .int .i64 0, .int .i64 0]) 5 _ rfl, h.2.2.trans' ho (fun x hx => .inl (by simp at hx; simp [hx]))⟩
theorem EndN.box {base be bt bj bc b0 : Nat} {w w' : World} (h : EndN base w be bt bj bc) (h0 : Blk w b0 #[.int .i64 0, .int .i64 0, .int .i64 0, .int .i64 0, .int .i64 0, .int .i64 0] 24) (hb : ∀ b, base ≤ b → True) (ho : Only [b0] w w') (hx : ∀ b1 room s, base ≤ b1 → Tab b1 w bt room [] 0 s → Tab b1 w' bt room [] 0 s) : EndN base w' be bt bj bc := by
  obtain ⟨⟨cs, st, he, hz⟩, ⟨b1, room, s, hlo, ht⟩, ⟨z, hj⟩, hc, hl⟩ := h
  exact ⟨⟨cs, st, he.only ho (by have := blk_ne he h0 (by decide); simp; omega), hz⟩, ⟨b1, room, s, hlo, hx b1 room s hlo ht⟩, ⟨z, hj.only ho (by have := blk_ne hj h0 (by decide); simp; omega)⟩, hc.only ho (by have := blk_ne hc h0 (by decide); simp; omega), hl⟩
theorem Tab.box {base bt b0 room m : Nat} {A : List DE} {s : TS} {w w' : World} (h : Tab base w bt room A m s) (h0 : Blk w b0 #[.int .i64 0, .int .i64 0, .int .i64 0, .int .i64 0, .int .i64 0, .int .i64 0] 24) (ho : Only [b0] w w') : Tab base w' bt room A m s :=
  ⟨h.h.turn (Turn.only1 (base := 0) (K := [some 24]) ho (Nat.zero_le _) h0 (by simp)) (by decide) (by decide) (by decide) (by decide) (by decide) (by decide), h.ok, h.a, h.r, h.m⟩
theorem eload_new {base be bt bj bc : Nat} {w : World} (h : EndN base w be bt bj bc) : Calls Try.prog 27 #[ptr be] w fun e w' => e = .returned (.agg #[.int .i64 0, .int .i64 0, .int .i64 0, .int .i64 0, .int .i64 0, .int .i64 0]) ∧ EndN base w' be bt bj bc ∧ Only [bt] w w' := by
  have ha := Below.chainAlloc (Below.refl _ w) (.cells #[.int .i64 0, .int .i64 0, .int .i64 0, .int .i64 0, .int .i64 0, .int .i64 0] 24)
  have h1 := h.below ha
  have HOW := Lib.hid ((Only.of_below (S := [bt]) ha))
  have HX : Hid (LX18 base be bt bj bc w.heap.size (w.alloc (.cells #[.int .i64 0, .int .i64 0, .int .i64 0, .int .i64 0, .int .i64 0, .int .i64 0] 24)) (w.alloc (.cells #[.int .i64 0, .int .i64 0, .int .i64 0, .int .i64 0, .int .i64 0, .int .i64 0] 24))) := Lib.hid ⟨h1, Blk.new _ _ _, Only.refl _ _⟩
  have HLO : Hid (∀ w', EndN base w' be bt bj bc → Blk w' w.heap.size #[.int .i64 0, .int .i64 0, .int .i64 0, .int .i64 0, .int .i64 0, .int .i64 0] 24 → w.heap.size ≠ bt) := Lib.hid fun w' q1 q2 => q1.tne q2 (by decide)
  clear h h1 ha
  obtain ⟨b0, hb0⟩ : ∃ b0, w.heap.size = b0 := ⟨_, rfl⟩
  have HB0 := Lib.hid hb0
  go_enter Try.func27, Try.ntmps27
  go_upto_region 4 with fail
  rw [hb0] at HX HLO
  generalize w.alloc (.cells #[.int .i64 0, .int .i64 0, .int .i64 0, .int .i64 0, .int .i64 0, .int .i64 0] 24) = W1 at *
  clear hb0
  obtain ⟨cs, st, he, hz⟩ := HX.out.1.e
  have HC : Hid (∀ j u, (List.replicate 256 (Value.pointer none))[j]? = some u → W1.cell? ⟨be, 11 + j, none⟩ = some u) := Lib.hid fun j u hu => by
    rw [List.getElem?_replicate] at hu
    split at hu
    · rename_i hj
      rw [he.facts.1 (11 + j), hz.s j hj]
      exact hu
    · cases hu
  clear he hz
  refine wp_region_lit ?_
  iterate 3
    refine wpList_plain rfl fun K hK => ?_
    go_simp
    refine hK _ _ ?_
    clear hK K
  refine wpList_load_cells rfl 60 (.tmp 12) rfl be 11 (List.replicate 256 (.pointer none)) rfl agg60 (by rw [List.length_replicate]; exact size60) HC.out ?_
  have HI : Hid (∀ k : Nat, k < 256 → (List.replicate 256 (Value.pointer none)).toArray[k]? = some (.pointer none)) := Lib.hid fun k hk => by rw [List.getElem?_toArray, List.getElem?_replicate, if_pos hk]
  generalize (List.replicate 256 (Value.pointer none)).toArray = c60 at *
  clear HC
  go_wp2_with fail
  go_loopg [3, 4, 14] 256 (fun gk v3 v4 i wr => ∃ k : Nat, 256 - k ≤ gk ∧ k ≤ 256 ∧ i = .int .i64 (k : Int) ∧ v3 = .int .i64 0 ∧ v4 = .int .i64 0 ∧ wr = W1)
  case atStart => exact ⟨0, by omega, by omega, rfl, rfl, rfl, rfl⟩
  case round =>
    obtain ⟨k, hkg, hk, rfl, rfl, rfl, rfl⟩ := hrel
    by_cases hlt : k < 256
    · have hlt' : (k : Int) < 256 := by omega
      have hk0 : (0 : Int) ≤ (k : Int) := by omega
      have hi := index60 c60 k hlt _ (HI.out k hlt)
      have HLT := Lib.hid hlt
      clear hlt
      go_wp2_with fail
      go_roundg (256 - (k + 1))
      case measure => have := HLT.out; omega
      case rel => exact ⟨k + 1, Nat.le_refl _, HLT.out, by go_num, rfl, rfl, rfl⟩
    · obtain rfl : k = 256 := by omega
      have hlt' : ¬ ((256 : Nat) : Int) < 256 := by omega
      clear hlt
      clear HI hk
      go_upto_region 10 with fail
      have HL0 : Hid (LX18 base be bt bj bc b0 wr wr.drew) := Lib.hid ⟨HX.out.1.below (Below.refl _ wr).drew, HX.out.2.1.drew, (Only.refl _ _).drew⟩
      have HTL : Hid (∀ w', LX18 base be bt bj bc b0 wr w' → Calls Try.prog 30 #[.pointer (some ⟨bt, 0, none⟩)] w' fun e w'' => e = .returned (.int .i64 0) ∧ LX18 base be bt bj bc b0 wr w'') := Lib.hid fun w' h => h.1.tlen.mono fun e w'' q => ⟨q.1, q.2.1, h.2.1.only q.2.2 (by have := HLO.out w' h.1 h.2.1; simp; exact this), h.2.2.trans' q.2.2 (fun x hx => .inl (by simp at hx; simp [hx]))⟩
      have HJL : Hid (∀ w', LX18 base be bt bj bc b0 wr w' → Calls Try.prog 31 #[.pointer (some ⟨bj, 0, none⟩)] w' fun e w'' => e = .returned (.int .i64 0) ∧ w' = w'') := Lib.hid fun w' h => h.1.jlen
      have HCL : Hid (∀ w', LX18 base be bt bj bc b0 wr w' → Calls Try.prog 32 #[.pointer (some ⟨bc, 0, none⟩)] w' fun e w'' => e = .returned (.int .i64 0) ∧ w' = w'') := Lib.hid fun w' h => clen0 bc w' h.1.c
      have HST : Hid (∀ w', EndN base w' be bt bj bc → Blk w' b0 #[.int .i64 0, .int .i64 0, .int .i64 0, .int .i64 0, .int .i64 0, .int .i64 0] 24 → ∀ w'', Only [b0] w' w'' → EndN base w'' be bt bj bc) := Lib.hid fun w' q1 q2 w'' q3 => q1.box q2 (fun _ _ => trivial) q3 (fun b1 room s _ q5 => q5.box q2 q3)
      go_region_held3 (fun w' => ((w'.cell? ⟨be, 267, none⟩ = some (.int .i64 0) ∧ w'.cell? ⟨be, 269, none⟩ = some (.pointer (some ⟨bt, 0, none⟩)) ∧ w'.cell? ⟨be, 271, none⟩ = some (.pointer (some ⟨bj, 0, none⟩)) ∧ w'.cell? ⟨be, 272, none⟩ = some (.slice none 0 0) ∧ w'.cell? ⟨be, 273, none⟩ = some (.pointer (some ⟨bc, 0, none⟩))) ∧ (w'.cell? ⟨b0, 0, none⟩ = some (.int .i64 0) ∧ w'.frozen? ⟨b0, 0, none⟩ = false ∧ w'.cell? ⟨b0, 1, none⟩ = some (.int .i64 0) ∧ w'.frozen? ⟨b0, 1, none⟩ = false ∧ w'.cell? ⟨b0, 2, none⟩ = some (.int .i64 0) ∧ w'.frozen? ⟨b0, 2, none⟩ = false ∧ w'.cell? ⟨b0, 3, none⟩ = some (.int .i64 0) ∧ w'.frozen? ⟨b0, 3, none⟩ = false ∧ w'.cell? ⟨b0, 4, none⟩ = some (.int .i64 0) ∧ w'.frozen? ⟨b0, 4, none⟩ = false ∧ w'.cell? ⟨b0, 5, none⟩ = some (.int .i64 0) ∧ w'.frozen? ⟨b0, 5, none⟩ = false)) ∧ LX18 base be bt bj bc b0 wr w')
        (first
          | with_reducible exact LX18.cells HL0.out
          | with_reducible exact LX18.cells hx
          | (go_split_ands; exact LX18.cells (by with_reducible assumption))
          | exact LX18.cells (LX18.stored HST.out hx))
        ((first
          | (go_at_call 30; refine (HTL.out _ (by go_split_ands; with_reducible assumption)).mono ?_; rintro e w2 ⟨rfl, hx⟩)
          | (go_at_call 31; refine (HJL.out _ (by go_split_ands; with_reducible assumption)).mono ?_; rintro e w3 ⟨rfl, rfl⟩)
          | (go_at_call 32; refine (HCL.out _ (by go_split_ands; with_reducible assumption)).mono ?_; rintro e w3 ⟨rfl, rfl⟩)))
      have HF := Lib.hid (LX18.stored HST.out hx)
      have z0 := HF.out.2.1.facts.1 0
      have z1 := HF.out.2.1.facts.1 1
      have z2 := HF.out.2.1.facts.1 2
      have z3 := HF.out.2.1.facts.1 3
      have z4 := HF.out.2.1.facts.1 4
      have z5 := HF.out.2.1.facts.1 5
      go_wp2_with fail
      refine bodyPost_ret (v := .agg #[.int .i64 0, .int .i64 0, .int .i64 0, .int .i64 0, .int .i64 0, .int .i64 0]) (by simp [results, Try.results27, go_sem, z0, z1, z2, z3, z4, z5]) rfl ⟨rfl, HF.out.1, HOW.out.trans' HF.out.2.2 fun x hx => ?_⟩
      have := HB0.out
      simp at hx
      rcases hx with rfl | rfl
      · exact .inl (by simp)
      · exact .inr (by omega)
end Go.Proofs.Yteepdknnmdhckaa
