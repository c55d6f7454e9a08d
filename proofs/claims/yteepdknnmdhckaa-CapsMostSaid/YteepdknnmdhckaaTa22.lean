/-
  The table: New (chapter 18).
-/
import Derived.Test.YteepdknnmdhckaaTa21
import Derived.Deep.RegionLaw
import Derived.Deep.DeepCutAuto
namespace Go.Proofs.Yteepdknnmdhckaa
open Go Go.RowKit Go.MuLone
set_option linter.unusedVariables false
set_option linter.unusedSimpArgs false
set_option maxRecDepth 100000
set_option maxHeartbeats 2000000
theorem infoPt : (Try.prog.info? 103).map (fun i => (i.zero, i.size, i.bytes)) = some (some (.pointer none), 1, 8) := by kernel_rfl
theorem new_bad (a b : Int) (w : World) (h : a < 1 ∨ 64 < a ∨ b < 1 ∨ 65536 < b) : Calls Try.prog 24 #[.int .i64 a, .int .i64 b] w fun e w' => e = .returned (.tuple #[.pointer none, .int .i64 1]) ∧ Below w.heap.size w w' := by
  by_cases h1 : a < 1
  · clear h
    go_enter Try.func24, Try.ntmps24
    go_wp2_with fail
    go_ret2
    exact ⟨rfl, Below.refl _ _⟩
  · by_cases h2 : 64 < a
    · clear h
      go_enter Try.func24, Try.ntmps24
      go_wp2_with fail
      go_ret2
      exact ⟨rfl, Below.refl _ _⟩
    · by_cases h3 : b < 1
      · clear h
        go_enter Try.func24, Try.ntmps24
        go_wp2_with fail
        go_ret2
        exact ⟨rfl, Below.refl _ _⟩
      · have h4 : 65536 < b := by omega
        clear h
        go_enter Try.func24, Try.ntmps24
        go_wp2_with fail
        go_ret2
        exact ⟨rfl, Below.refl _ _⟩
theorem Turn.own {w w' : World} {base n size : Nat} {e : TypeId} {v : Value} {xs : List Value} (h : Seg w base e size v n xs) (ho : Only v.ownBlock.toList w w') : Turn 0 [some e] w w' := by
  refine ⟨_, ho, fun b hb => ⟨Nat.zero_le _, some e, by simp, ?_⟩⟩
  have hg : v.ownBlock = some b := by simpa using hb
  rcases h.2 with ⟨hv, _⟩ | ⟨g', off, cap, cur, hv, _, hh, _⟩
  · rw [hv] at hg; cases hg
  · rw [hv] at hg
    obtain rfl : g' = b := by simpa [Value.ownBlock] using hg
    unfold kindB; rw [hh]; rfl
/-- One part more. -/
theorem TabM.addPart {base bt b : Nat} {pv v3 : Value} {ps : List (Nat × Nat)} {wr wa w3 : World} {K : List (Option TypeId)} (h : TabM base wr bt ⟨pv, ps, [], 0, 0, b⟩ none) (ha : Below wr.heap.size wr wa) (ht : Turn 0 [some 103] wa w3)
    {pb mb : Nat} (hb : base ≤ wr.heap.size) (h1 : wr.heap.size ≤ pb) (h2 : wr.heap.size ≤ mb) (hp : Blk wa pb #[.int .i32 0, .int .u32 0, .map (some mb)] 106) (hm : MapW encK wa mb []) (hs : Seg w3 base 103 1 v3 (ps.length + 1) ((ps.map fun p => .pointer (some ⟨p.1, 0, none⟩)) ++ [.pointer (some ⟨pb, 0, none⟩)])) :
    TabM base (w3.setCell ⟨bt, 0, none⟩ v3) bt ⟨v3, ps ++ [(pb, mb)], [], 0, 0, b⟩ none := by
  have hT := h.chain ha
  have tb3 := ht.blk hT.tb (by decide)
  have hst : Turn 0 [some 102] w3 (w3.setCell ⟨bt, 0, none⟩ v3) := Turn.one ((Only.refl _ _).setCell _ _ (.inl (by simp))) (Nat.zero_le _) tb3.kind (by simp)
  refine ⟨tb3.setAt 0 v3 rfl, h.lo, ?_, fun j p hj => ?_, fun j p hj => ?_, ?_, ?_, fun e he => by simp at he, by simp⟩
  · have := hst.seg hs (by decide)
    show Seg _ base 103 1 v3 (ps ++ [(pb, mb)]).length ((ps ++ [(pb, mb)]).map fun p => .pointer (some ⟨p.1, 0, none⟩))
    rw [List.length_append, List.map_append]
    exact this
  · have hj' : (ps ++ [(pb, mb)])[j]? = some p := hj
    rw [List.getElem?_append] at hj'
    split at hj'
    · exact ⟨hst.blk (ht.blk (hT.pc j p hj').1 (by decide)) (by decide), (hT.pc j p hj').2⟩
    · have hp' : p = (pb, mb) := by
        cases hq : j - ps.length with
        | zero => rw [hq] at hj'; simpa using hj'.symm
        | succ q => rw [hq] at hj'; simp at hj'
      subst hp'
      refine ⟨hst.blk (ht.blk ?_ (by decide)) (by decide), Nat.le_trans hb h1⟩
      have : lockOf none j = 0 := rfl
      rw [this]
      exact hp
  · have hj' : (ps ++ [(pb, mb)])[j]? = some p := hj
    show MapW encK _ p.2 [] ∧ base ≤ p.2
    rw [List.getElem?_append] at hj'
    split at hj'
    · exact ⟨hst.map (ht.map (hT.pm j p hj').1 (by decide)) (by decide), (hT.pm j p hj').2⟩
    · have hp' : p = (pb, mb) := by
        cases hq : j - ps.length with
        | zero => rw [hq] at hj'; simpa using hj'.symm
        | succ q => rw [hq] at hj'; simp at hj'
      subst hp'
      exact ⟨hst.map (ht.map hm (by decide)) (by decide), Nat.le_trans hb h2⟩
  · show ((ps ++ [(pb, mb)]).map Prod.fst).Nodup
    rw [List.map_append, List.nodup_append]
    refine ⟨h.n1, by simp, fun x hx y hy => ?_⟩
    obtain ⟨p, hp', rfl⟩ := List.mem_map.1 hx
    obtain ⟨i, hi, hpi⟩ := List.getElem_of_mem hp'
    have := (h.pc i p (by show ps[i]? = some p; rw [List.getElem?_eq_getElem hi, hpi])).1.lt
    simp at hy
    omega
  · show ((ps ++ [(pb, mb)]).map Prod.snd).Nodup
    rw [List.map_append, List.nodup_append]
    refine ⟨h.n2, by simp, fun x hx y hy => ?_⟩
    obtain ⟨p, hp', rfl⟩ := List.mem_map.1 hx
    obtain ⟨i, hi, hpi⟩ := List.getElem_of_mem hp'
    have := (h.pm i p (by show ps[i]? = some p; rw [List.getElem?_eq_getElem hi, hpi])).1.lt
    simp at hy
    omega
theorem new_ok (a b : Nat) (w : World) (ha : 1 ≤ a) (ha2 : a ≤ 64) (hb : 1 ≤ b) (hb2 : b ≤ 65536) : Calls Try.prog 24 #[.int .i64 a, .int .i64 b] w fun e w' => e = .returned (.tuple #[ptr w.heap.size, .int .i64 0]) ∧ (∃ s, Tab w.heap.size w' w.heap.size b [] 0 s) ∧ Below w.heap.size w w' := by
  have h1 : ¬ (a : Int) < 1 := by omega
  have h2 : ¬ (64 : Int) < (a : Int) := by omega
  have h3 : ¬ (b : Int) < 1 := by omega
  have h4 : ¬ (65536 : Int) < (b : Int) := by omega
  have hmm : ∀ (w : World), (Instr.makeMap 104 none).run Try.prog w = .ok (.map (some w.heap.size)) (w.alloc (.map #[] 0)) := fun _ => rfl
  obtain ⟨i0, hi, hz0, hz1, hz2⟩ := info_parts infoPt
  have hbt := Blk.new w #[.slice none 0 0, .int .i32 0, .int .u32 0, .int .i64 (b : Int), .int .i64 0, .int .i64 0] 102
  have HST : Hid (TabM w.heap.size (w.alloc (.cells #[.slice none 0 0, .int .i32 0, .int .u32 0, .int .i64 (b : Int), .int .i64 0, .int .i64 0] 102)) w.heap.size ⟨.slice none 0 0, [], [], 0, 0, b⟩ none ∧ Below w.heap.size w (w.alloc (.cells #[.slice none 0 0, .int .i32 0, .int .u32 0, .int .i64 (b : Int), .int .i64 0, .int .i64 0] 102))) := Lib.hid
    ⟨⟨hbt, Nat.le_refl _, Seg.nil _ _ _ _, fun j p hp => by simp at hp, fun j p hp => by simp at hp, by simp, by simp, fun e he => by simp at he, by simp⟩, Below.chainAlloc (Below.refl _ _) _⟩
  have HAB : Hid (1 ≤ a ∧ a ≤ 64 ∧ 1 ≤ b ∧ b ≤ 65536) := Lib.hid ⟨ha, ha2, hb, hb2⟩
  clear hbt ha hb hb2
  go_enter Try.func24, Try.ntmps24
  go_wp2_with fail
  clear h1 h2 h3 h4
  go_loopg [25] a (fun gk i wr => ∃ (j : Nat) (pv : Value) (ps : List (Nat × Nat)), a - j ≤ gk ∧ j ≤ a ∧ i = .int .i64 (j : Int) ∧ ps.length = j ∧ Hid (TabM w.heap.size wr w.heap.size ⟨pv, ps, [], 0, 0, b⟩ none ∧ Below w.heap.size w wr))
  case atStart => exact ⟨0, _, [], by omega, Nat.zero_le _, rfl, rfl, HST⟩
  case round =>
    clear HST
    obtain ⟨j, pv, ps, hjg, hj, rfl, hpl, HREL⟩ := hrel
    have HPL := Lib.hid hpl
    clear hpl
    by_cases hlt : j < a
    · have hlt' : (j : Int) < (a : Int) := by omega
      have hfm : ∃ ao co, pv = .slice ao ps.length co := HREL.out.1.pa.form
      obtain ⟨ao, co, rfl⟩ := hfm
      have c0 := HREL.out.1.tb.facts.1 0
      have f0 := HREL.out.1.tb.facts.2.1 0
      have hbr := HREL.out.1.tb.lt
      have hba : Below wr.heap.size wr (((wr.alloc (.map #[] 0)).alloc (.cells #[.int .i32 0, .int .u32 0, .map (some wr.heap.size)] 106)).alloc (.cells #[.pointer (some ⟨wr.heap.size + 1, 0, none⟩)] 103)) := Below.chainAlloc (Below.chainAlloc (Below.chainAlloc (Below.refl _ wr) _) _) _
      have HA := Lib.hid (HREL.out.1.chain hba)
      have HSG : Hid (Seg (((wr.alloc (.map #[] 0)).alloc (.cells #[.int .i32 0, .int .u32 0, .map (some wr.heap.size)] 106)).alloc (.cells #[.pointer (some ⟨wr.heap.size + 1, 0, none⟩)] 103)) w.heap.size 103 1 (.slice ao ps.length co) ps.length (ps.map fun p => .pointer (some ⟨p.1, 0, none⟩))) := Lib.hid HA.out.pa
      have HMB : Hid (MapW encK (((wr.alloc (.map #[] 0)).alloc (.cells #[.int .i32 0, .int .u32 0, .map (some wr.heap.size)] 106)).alloc (.cells #[.pointer (some ⟨wr.heap.size + 1, 0, none⟩)] 103)) wr.heap.size []) := Lib.hid (((MapW.new encK wr).alloc _).alloc _)
      have hpb0 : Blk ((wr.alloc (.map #[] 0)).alloc (.cells #[.int .i32 0, .int .u32 0, .map (some wr.heap.size)] 106)) (wr.heap.size + 1) #[.int .i32 0, .int .u32 0, .map (some wr.heap.size)] 106 := Blk.newAt (size_alloc _ _).symm
      have HPB : Hid (Blk (((wr.alloc (.map #[] 0)).alloc (.cells #[.int .i32 0, .int .u32 0, .map (some wr.heap.size)] 106)).alloc (.cells #[.pointer (some ⟨wr.heap.size + 1, 0, none⟩)] 103)) (wr.heap.size + 1) #[.int .i32 0, .int .u32 0, .map (some wr.heap.size)] 106) := Lib.hid (hpb0.alloc _)
      have hvb : Blk (((wr.alloc (.map #[] 0)).alloc (.cells #[.int .i32 0, .int .u32 0, .map (some wr.heap.size)] 106)).alloc (.cells #[.pointer (some ⟨wr.heap.size + 1, 0, none⟩)] 103)) (wr.heap.size + 2) #[.pointer (some ⟨wr.heap.size + 1, 0, none⟩)] 103 := Blk.newAt (by rw [size_alloc, size_alloc])
      have HRD : Hid (RdS (((wr.alloc (.map #[] 0)).alloc (.cells #[.int .i32 0, .int .u32 0, .map (some wr.heap.size)] 106)).alloc (.cells #[.pointer (some ⟨wr.heap.size + 1, 0, none⟩)] 103)) 1 (.slice (some ⟨wr.heap.size + 2, 0, none⟩) 1 1) 1 [.pointer (some ⟨wr.heap.size + 1, 0, none⟩)]) := Lib.hid (by
        refine ⟨rfl, .inr ⟨_, _, rfl, fun i u hu => ?_⟩⟩
        have e : (⟨wr.heap.size + 2, 0, none⟩ : Addr).add i = ⟨wr.heap.size + 2, i, none⟩ := by unfold Addr.add; split <;> simp_all
        rw [e, hvb.facts.1 i]
        simpa using hu)
      have HQ : Hid (ps.length + 1 ≤ maxLen ∧ (ps.length + 1) * 8 ≤ 140737488355328 ∧ w.heap.size ≤ (((wr.alloc (.map #[] 0)).alloc (.cells #[.int .i32 0, .int .u32 0, .map (some wr.heap.size)] 106)).alloc (.cells #[.pointer (some ⟨wr.heap.size + 1, 0, none⟩)] 103)).heap.size) := Lib.hid ⟨by unfold maxLen; have := HPL.out; omega, by have := HPL.out; omega, by have := hba.size; omega⟩
      have HBA := Lib.hid hba
      clear hba hpb0 hvb
      go_wp2_with (at_builtin; refine wpList_append_rds rfl _ _ 93 rfl w.heap.size 103 i0 _ 1 8 Try.underlying93 hi hz0 hz1 hz2 rfl (by decide) (.slice ao ps.length co) ps.length (ps.map fun p => .pointer (some ⟨p.1, 0, none⟩)) rfl HSG.out _ 1 _ rfl HRD.out (by simp [Value.oneCell']) HQ.out.1 HQ.out.2.1 HQ.out.2.2 ?_; intro v3 w3 hown3 hgrow3 hat3; obtain ⟨a3, n3, rfl⟩ := Seg.form hown3; have HO3 := Lib.hid hown3; have HG3 : Hid (Only ((Value.slice ao ps.length co).ownBlock.toList) (((wr.alloc (.map #[] 0)).alloc (.cells #[.int .i32 0, .int .u32 0, .map (some wr.heap.size)] 106)).alloc (.cells #[.pointer (some ⟨wr.heap.size + 1, 0, none⟩)] 103)) w3) := Lib.hid ((Only.refl _ _).grown hgrow3 (fun x hx => .inl (by simp [hx]))); have HT3 := Lib.hid (Turn.own HA.out.pa HG3.out); have c3 := (HT3.out.blk HA.out.tb (by decide)).facts.1 0; have f3 := (HT3.out.blk HA.out.tb (by decide)).facts.2.1 0; clear hown3 hgrow3 hat3)
      have HFIN : Hid (TabM w.heap.size (w3.setCell ⟨w.heap.size, 0, none⟩ (.slice a3 (ps.length + 1) n3)) w.heap.size ⟨(.slice a3 (ps.length + 1) n3), ps ++ [(wr.heap.size + 1, wr.heap.size)], [], 0, 0, b⟩ none ∧ Below w.heap.size w (w3.setCell ⟨w.heap.size, 0, none⟩ (.slice a3 (ps.length + 1) n3))) := Lib.hid
        ⟨TabM.addPart (K := []) HREL.out.1 HBA.out HT3.out HREL.out.2.size (Nat.le_succ _) (Nat.le_refl _) HPB.out HMB.out HO3.out, (Below.only (Below.chain HBA.out HREL.out.2) HG3.out (fun x hx => (HA.out.pa.blk x (by simpa using hx)).1)).setCell (Nat.le_refl _) _⟩
      clear c3 f3 c0 f0
      go_roundg (a - (j + 1))
      case measure => omega
      case rel => exact ⟨j + 1, _, _, Nat.le_refl _, hlt, by go_num, by rw [List.length_append, HPL.out]; rfl, HFIN⟩
    · obtain rfl : j = a := by omega
      have hlt' : ¬ (j : Int) < (j : Int) := by omega
      clear hlt
      go_wp2_with fail
      go_ret2
      refine ⟨rfl, ⟨_, HREL.out.1, ⟨rfl, Nat.zero_le _, HAB.out.2.2.1, HAB.out.2.2.2, ?_, ?_, by simp, by simp, fun e he => by simp at he, fun e he => by simp at he⟩, rfl, rfl, Nat.le_refl _⟩, HREL.out.2⟩
      · show 1 ≤ ps.length
        rw [HPL.out]; exact HAB.out.1
      · show ps.length ≤ 64
        rw [HPL.out]; exact HAB.out.2.1
end Go.Proofs.Yteepdknnmdhckaa
