/-
  Whose turn it is: Remove of a queue that is there (chapter 17).
-/
import Derived.Test.YtgfbhclkpephnaaDr8
namespace Go.Proofs.Ytgfbhclkpephnaa
open Go Go.RowKit
set_option linter.unusedVariables false
set_option linter.unusedSimpArgs false
set_option maxRecDepth 100000
set_option maxHeartbeats 2000000
theorem drem_ok (bs base : Nat) (S : PS) (m : DM) (n : Int) (k : Nat) (q : PQ) (w : World) (h : SchM w base bs S m n) (ho : S.Ok) (hg : getQ (k : Int) S.qs = some q) (hn : 0 ≤ n ∧ n ≤ 100000) (htot : totQ S.qs ≤ 60000) :
    Calls Try.prog 22 #[.pointer (some ⟨bs, 0, none⟩), .int .i64 (k : Int)] w fun e w' => e = .returned (.int .i64 0) ∧ DPost base bs S m w (remP S k) (n - (q.items.length : Nat)) w' := by
  obtain ⟨hq, hid⟩ := getQ_mem hg
  have hat := dat_any bs base S m n (k : Int) w h ho
  rw [hg, show ptrQ m (some q) = .pointer (some ⟨m.B q.id, 0, none⟩) from rfl] at hat
  have hok := ho.q q hq
  have hlen := len_le_tot hg
  have hk : k < 256 := by have := hok.id; omega
  obtain ⟨cs, hcs, hcc⟩ := h.s
  have hbc := Blk.new w #[.pointer (some ⟨m.B q.id, 0, none⟩)] 94
  have hB := Below.chainAlloc (Below.refl _ w) (.cells #[.pointer (some ⟨m.B q.id, 0, none⟩)] 94)
  have h1 := h.chain hB
  have hbs1 : bs ≠ w.heap.size := by have := h.blt; omega
  have hb1 : m.B q.id ≠ w.heap.size := by have := (h.q q hq).lt; omega
  have hbsb : bs ≠ m.B q.id := hcs.ne_ty (h.q q hq) (by decide)
  obtain ⟨ar, cr, hrv⟩ := h.r.form
  obtain ⟨ai, ci, hiv⟩ := (h.i q hq).form
  have HR := Lib.hid h
  have HO := Lib.hid ho
  have HQ := Lib.hid hq
  have HID := Lib.hid hid
  have HCC := Lib.hid hcc
  have HCS := Lib.hid hcs
  have HB := Lib.hid hB
  have H1 := Lib.hid h1
  have HBC := Lib.hid hbc
  have HRV := Lib.hid hrv
  have hc := h1.cells.2.2.2.2 k hk
  rw [hg, show ptrQ m (some q) = .pointer (some ⟨m.B q.id, 0, none⟩) from rfl] at hc
  have hf := h1.cells.2.2.2.1
  have hc258 := h1.cells.2.2.1
  have hc257 := h1.cells.2.1
  rw [hrv] at hc257
  have k4 := (h1.q q hq).facts.1 4
  have k4' : (w.alloc (.cells #[.pointer (some ⟨m.B q.id, 0, none⟩)] 94)).cell? ⟨m.B q.id, 4, none⟩ = some (.slice ai q.items.length ci) := k4.trans (by rw [hiv]; rfl)
  have e0 : (w.alloc (.cells #[.pointer (some ⟨m.B q.id, 0, none⟩)] 94)).cell? ⟨w.heap.size, 0, none⟩ = some (.pointer (some ⟨m.B q.id, 0, none⟩)) := hbc.facts.1 0
  have hw : wrap64 (n - (q.items.length : Nat)) = n - (q.items.length : Nat) := IntWalk.wrap64_in _ (by omega)
  have hwi : IntKind.i64.wrap (n - (q.items.length : Nat)) = n - (q.items.length : Nat) := IntWalk.i64_in _ (by omega)
  have hk0 : (0 : Int) ≤ (k : Int) := by omega
  have hk1 : (k : Int) < 256 := by omega
  have h258 : 1 + k ≠ 258 := by omega
  have h257 : 1 + k ≠ 257 := by omega
  have hen : ∀ args w, (callFunc 53 args).run Try.prog w = .ok (.enter 53 args) w := enters_of Try.func53 (by kernel_rfl) rfl
  have HEN := Lib.hid hen
  have HK := Lib.hid hk
  clear h ho hg hn htot hok hlen hcs hcc hbc hB h1 hrv hiv k4 hen hid hk hq
  generalize hWe : w.alloc (.cells #[.pointer (some ⟨m.B q.id, 0, none⟩)] 94) = W at *
  generalize hbe : m.B q.id = b at *
  have HBE := Lib.hid hbe
  clear hbe
  go_enter Try.func22, Try.ntmps22
  go_wp2_with fail
  refine hat.mono ?_
  rintro e w1 ⟨rfl, rfl⟩
  go_upto_region 7 with fail
  have hX : Hid (Below w.heap.size w W ∧ Blk W w.heap.size #[.pointer (some ⟨b, 0, none⟩)] 94) := Lib.hid ⟨HB.out, HBC.out⟩
  have hcs1 : Blk W bs cs 98 := HCS.out.below HB.out HCS.out.lt
  have hcs2 := hcs1.setAt (1 + k) (.pointer none) rfl
  have hO2 : Only (bs :: m.rv.ownBlock.toList) w (W.setCell ⟨bs, 1 + k, none⟩ (.pointer none)) := (Only.of_below HB.out).setCell ⟨bs, 1 + k, none⟩ (.pointer none) (.inl List.mem_cons_self)
  have hbc2 := HBC.out.setOther ⟨bs, 1 + k, none⟩ (.pointer none) (fun e => hbs1 e.symm)
  have hqb : ∀ f ∈ S.qs, Blk (W.setCell ⟨bs, 1 + k, none⟩ (.pointer none)) (m.B f.id) (f.cells (m.V f.id)) 110 := fun f hf => by
    have hb' := H1.out.q f hf
    exact hb'.setOther _ _ (hb'.ne_ty hcs1 (by decide))
  have hr2 : Seg (W.setCell ⟨bs, 1 + k, none⟩ (.pointer none)) base 94 1 m.rv S.round.length (rdC m S.round) := H1.out.r.setOther _ _ (H1.out.r.ne_blk hcs1 (by decide))
  have g258 : (W.setCell ⟨bs, 1 + k, none⟩ (.pointer none)).cell? ⟨bs, 258, none⟩ = some (.int .i64 n) := by
    rw [hcs2.facts.1 258, Array.getElem?_setIfInBounds, if_neg h258]
    exact HCC.out.n
  have g257 : (W.setCell ⟨bs, 1 + k, none⟩ (.pointer none)).cell? ⟨bs, 257, none⟩ = some (.slice ar S.round.length cr) := by
    rw [hcs2.facts.1 257, Array.getElem?_setIfInBounds, if_neg h257, HCC.out.r, HRV.out]
  have gf := hcs2.facts.2.1
  have gc : (W.setCell ⟨bs, 1 + k, none⟩ (.pointer none)).cell? ⟨w.heap.size, 0, none⟩ = some (.pointer (some ⟨b, 0, none⟩)) := hbc2.facts.1 0
  have g4 : (W.setCell ⟨bs, 1 + k, none⟩ (.pointer none)).cell? ⟨b, 4, none⟩ = some (.slice ai q.items.length ci) := by
    rw [World.cell?_setCell_other _ _ _ _ (by intro e; first | exact hbsb (congrArg Addr.block e) | exact hbsb (congrArg Addr.block e).symm)]
    exact k4'
  have HC2 := Lib.hid hcs2
  have HO2 := Lib.hid hO2
  have HBC2 := Lib.hid hbc2
  have HQB := Lib.hid hqb
  have HR2 := Lib.hid hr2
  have HLT : Hid (∀ g, m.rv.ownBlock = some g → g < w.heap.size) := Lib.hid fun g hg => (HR.out.r.blk g hg).2
  clear hX hcs1 hcs2 hO2 hbc2 hqb hr2 hat hc hf hc258 hc257 k4' e0 h258 h257 hWe H1 HBC HB HCS
  generalize W.setCell ⟨bs, 1 + k, none⟩ (.pointer none) = W2 at *
  generalize hbce : w.heap.size = bc at HBC2 gc hbs1 hb1
  have HBCE := Lib.hid hbce
  clear hbce
  go_still_tail 12, (by kernel_rfl)
  change wpList _ _ _ _ _ W2.drew
  have hcs3 := (HC2.out.setAt 258 (.int .i64 (n - (q.items.length : Nat))) rfl).drew
  have hO3 := (HO2.out.setCell ⟨bs, 258, none⟩ (.int .i64 (n - (q.items.length : Nat))) (.inl List.mem_cons_self)).drew
  have hbc3 := (HBC2.out.setOther ⟨bs, 258, none⟩ (.int .i64 (n - (q.items.length : Nat))) (fun e => hbs1 e.symm)).drew
  have hqb3 : ∀ f ∈ S.qs, Blk (W2.setCell ⟨bs, 258, none⟩ (.int .i64 (n - (q.items.length : Nat)))).drew (m.B f.id) (f.cells (m.V f.id)) 110 := fun f hf => by
    have hb' := HQB.out f hf
    exact (hb'.setOther _ _ (hb'.ne_ty HC2.out (by decide))).drew
  have hr3 : Seg (W2.setCell ⟨bs, 258, none⟩ (.int .i64 (n - (q.items.length : Nat)))).drew base 94 1 m.rv S.round.length (rdC m S.round) := (HR2.out.setOther _ _ (HR2.out.ne_blk HC2.out (by decide))).drew
  have HC3 := Lib.hid hcs3
  have HO3 := Lib.hid hO3
  have HBC3 := Lib.hid hbc3
  have HQB3 := Lib.hid hqb3
  have HR3 := Lib.hid hr3
  clear hcs3 hO3 hbc3 hqb3 hr3 HC2 HO2 HBC2 HQB HR2
  go_upto_region 8 with fail
  have hd1 := HR3.out
  rw [rdC_bk, HRV.out] at hd1
  have hlen : (S.round.map m.B).length = S.round.length := List.length_map _
  have hd2 : Seg (W2.setCell ⟨bs, 258, none⟩ (.int .i64 (n - (q.items.length : Nat)))).drew base 94 1 (.slice ar S.round.length cr) (S.round.map m.B).length (bkC (S.round.map m.B)) := hlen.symm ▸ hd1
  have HDEL := Lib.hid (del_bk 53 #[.pointer (some ⟨bc, 0, none⟩)] (fun x => decide (x = b)) base (.slice ar S.round.length cr) (S.round.map m.B) _ HEN.out (fun x hx w' ho => by
    obtain ⟨i, hi, rfl⟩ := List.mem_map.1 hx
    obtain ⟨f, hf, _⟩ := (HO.out.rm i).1 hi
    obtain ⟨hfm, rfl⟩ := getQ_mem hf
    have hno : ∀ {c : Nat} {cs' : Array Value} , Blk (W2.setCell ⟨bs, 258, none⟩ (.int .i64 (n - (q.items.length : Nat)))).drew c cs' 110 → Blk w' c cs' 110 := fun hb' => hb'.only ho (fun hm => by
      obtain ⟨cur, hh⟩ := hd1.heap (g := _) (by simpa using hm)
      exact Blk.ne_ty (cs := cur) hh hb' (by decide) rfl)
    have hbc' := HBC3.out.only ho (fun hm => by
      have h1 := HLT.out bc (by rw [HRV.out]; simpa using hm)
      rw [HBCE.out] at h1
      omega)
    have hqq := hno (HQB3.out q HQ.out)
    rw [HBE.out] at hqq
    exact rem_cl _ b bc w' hbc' (hno (HQB3.out f hfm)) hqq) hd2)
  have HRD := Lib.hid (rem_round HR.out HO.out HQ.out)
  have c257 : (W2.setCell ⟨bs, 258, none⟩ (.int .i64 (n - (q.items.length : Nat)))).drew.cell? ⟨bs, 257, none⟩ = some (.slice ar S.round.length cr) := by
    show (W2.setCell ⟨bs, 258, none⟩ (.int .i64 (n - (q.items.length : Nat)))).cell? _ = _
    rw [World.cell?_setCell_other _ _ _ _ (by intro e; first | (have := congrArg Addr.off e; simp at this) | (have := congrArg Addr.off e.symm; simp at this))]
    exact g257
  clear g258 g257 gf gc g4 hd1 hd2 hlen
  generalize (W2.setCell ⟨bs, 258, none⟩ (.int .i64 (n - (q.items.length : Nat)))).drew = W3 at *
  go_wp2_with fail
  refine HDEL.out.mono ?_
  rintro e w4 ⟨v', rfl, hs4, hv4, ho4⟩
  have hl4 : (keptN (fun x => decide (x = m.B q.id)) (S.round.map m.B)).length = (S.round.filter fun i => !decide (i = q.id)).length := by
    have := congrArg List.length HRD.out
    rw [bkC_length] at this
    rw [this]
    simp [rdC]
  rw [← HBE.out, HRD.out, hl4, HID.out] at hs4
  obtain ⟨a4, c4, hvf⟩ := hs4.form
  subst hvf
  have hrs : ∀ g, (Value.slice ar S.round.length cr).ownBlock = some g → g ≠ bs := fun g hg => by
    rw [← HRV.out] at hg
    exact HR3.out.ne_blk HC3.out (by decide) g hg
  have hcs4 := HC3.out.only ho4 (fun hm => hrs bs (by simpa using hm) rfl)
  have z257 : w4.cell? ⟨bs, 257, none⟩ = some (.slice ar S.round.length cr) := by
    rw [ho4.block bs HC3.out.lt (fun hm => hrs bs (by simpa using hm) rfl) |> fun e => (show w4.cell? ⟨bs, 257, none⟩ = W3.cell? ⟨bs, 257, none⟩ by unfold World.cell?; simp only; rw [e])]
    exact c257
  have zf := hcs4.facts.2.1 257
  have ho5 : Only (bs :: m.rv.ownBlock.toList) w w4 := HO3.out.trans (ho4.mono (fun x hx => .inl (List.mem_cons_of_mem _ (by rw [HRV.out]; exact hx))))
  have hfin := HR.out.rem HK.out HCC.out ho5 hcs4 hs4
  have hD : DPost base bs S m w (remP S k) (n - (q.items.length : Nat)) (w4.setCell ⟨bs, 257, none⟩ (.slice a4 (S.round.filter fun i => !decide (i = (k : Int))).length c4)) := by
    refine ⟨_, hfin, ?_, fun y hy => .inl (own_rem (by rw [hv4, HRV.out]) hy)⟩
    exact (ho5.mono (fun x hx => .inl (by
      rcases List.mem_cons.1 hx with e | hx
      · rw [e]; exact own_bs _ _ _
      · exact own_rv _ _ _ hx))).setCell ⟨bs, 257, none⟩ _ (.inl (own_bs _ _ _))
  have HD := Lib.hid hD
  clear hD hfin ho5 hcs4 hrs hl4 hs4 ho4 hv4 HDEL c257
  go_wp2_with fail
  go_ret
  exact ⟨rfl, HD.out⟩
end Go.Proofs.Ytgfbhclkpephnaa
