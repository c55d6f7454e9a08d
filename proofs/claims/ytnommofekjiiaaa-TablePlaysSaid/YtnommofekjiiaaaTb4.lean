/-
  The document's table: put, Same (chapter 18).
-/
import Derived.Test.YtnommofekjiiaaaTb3
namespace Go.Proofs.Ytnommofekjiiaaa
open Go Go.RowKit Go.MuLone
set_option linter.unusedVariables false
set_option linter.unusedSimpArgs false
set_option maxRecDepth 100000
set_option maxHeartbeats 2000000
theorem low_run {l : List Sh} {t : Int} {j : Nat} (h1 : ∀ (q : Nat) z, q < j → l[q]? = some z → z.1 < t) (h2 : ∀ z, l[j]? = some z → ¬ z.1 < t) (hj : j ≤ l.length) : lowN t l = j := lowN_eq t l j hj (fun q z hq hz => h1 q z hq hz) h2
theorem rput_any (base : Nat) (v : Value) (l : List Sh) (xi : Int) (xt : List UInt8) (w : World) (h : ShS w base v l) (h0 : 0 < l.length) (hl : l.length ≤ 1000) :
    Calls Try.prog 31 #[v, .agg #[.int .i64 xi, Str xt]] w fun e w' => ∃ a cap, e = .returned (.slice a (l.length + 1) cap) ∧ ShS w' w.heap.size (.slice a (l.length + 1) cap) (insL l (lowN xi l) (xi, xt)) ∧ Below w.heap.size w w' := by
  obtain ⟨g, off, cap, rfl, _⟩ := h.shape h0
  obtain ⟨i0, hi, hz0, hz1, hz2⟩ := info_parts infoSh
  have hcap := Seg.capOf h
  have HCAP := Lib.hid hcap
  have HS := Lib.hid h
  have HL := Lib.hid (And.intro h0 hl)
  have HB0 := Lib.hid (Below.chainAlloc (Below.refl _ w) (.cells #[.int .i64 xi, Str xt] 32))
  have HBX : Hid (Blk (w.alloc (.cells #[.int .i64 xi, Str xt] 32)) w.heap.size #[.int .i64 xi, Str xt] 32) := Lib.hid (Blk.new w _ _)
  clear h hl h0 hcap
  go_enter Try.func31, Try.ntmps31
  go_wp2_with fail
  generalize hW0 : w.alloc (.cells #[.int .i64 xi, Str xt] 32) = W0 at *
  obtain ⟨bx, hbx⟩ : ∃ bx, w.heap.size = bx := ⟨_, rfl⟩
  rw [hbx] at HBX ⊢
  have HBN := Lib.hid hbx
  clear hbx
  have HM : Hid (∀ w', Below W0.heap.size W0 w' → w'.cell? ⟨bx, 0, none⟩ = some (.int .i64 xi) ∧ ∀ (i : Nat) z, l[i]? = some z → w'.cell? ⟨g, off + i * 2, none⟩ = some (.int .i64 z.1)) := Lib.hid fun w' hb' =>
    ⟨(HBX.out.below hb' HBX.out.lt).facts.1 0, fun i z hz => (ShS.cell ((HS.out.chain HB0.out).chain hb') i z hz).1⟩
  have HC2 : Hid (l.length ≤ cap) := Lib.hid HCAP.out.1
  have hcm : cap ≤ 9223372036854775807 := by have := HCAP.out.2.1; unfold maxLen at this; omega
  go_loopg [5] l.length (fun gk i wr => ∃ j : Nat, l.length - j ≤ gk ∧ j ≤ l.length ∧ i = .int .i64 (j : Int) ∧ Hid (Below W0.heap.size W0 wr ∧ ∀ (q : Nat) z, q < j → l[q]? = some z → z.1 < xi))
  case atStart => exact ⟨0, by omega, Nat.zero_le _, rfl, Lib.hid ⟨Below.refl _ _, fun q z hq => absurd hq (Nat.not_lt_zero _)⟩⟩
  case round =>
    obtain ⟨j, hjg, hj, rfl, HREL⟩ := hrel
    obtain ⟨x0, hsh⟩ := HM.out wr HREL.out.1
    have HJ := Lib.hid hj
    have HQ : Hid (0 + j ≤ maxLen ∧ (0 + j) * 24 ≤ 140737488355328 ∧ j + 1 ≤ maxLen ∧ (j + 1) * 24 ≤ 140737488355328 ∧ j + 1 + (l.length - j) ≤ maxLen ∧ (j + 1 + (l.length - j)) * 24 ≤ 140737488355328) := Lib.hid (by unfold maxLen; have := HL.out.2; omega)
    have hjb : (j : Int) ≤ 1000 := by have := HL.out.2; omega
    have hj2 : (j : Int) ≤ (l.length : Int) := by omega
    by_cases hlt : j < l.length
    · have hlt' : (j : Int) < (l.length : Int) := by omega
      obtain ⟨z, hz⟩ : ∃ z, l[j]? = some z := ⟨_, List.getElem?_eq_getElem hlt⟩
      have s0 := hsh j z hz
      have HZ := Lib.hid hz
      have HJL := Lib.hid hlt
      clear hsh hz
      by_cases hk : z.1 < xi
      · have HNX : Hid (∀ (q : Nat) u, q < j + 1 → l[q]? = some u → u.1 < xi) := Lib.hid fun q u hq hu => by
          by_cases h9 : q = j
          · subst h9
            have := HZ.out
            rw [hu] at this
            cases this
            exact hk
          · exact HREL.out.2 q u (by omega) hu
        clear hlt
        go_wp2_with fail
        go_quiet (fail)
        go_wp2_with fail
        go_roundg (l.length - (j + 1))
        case measure => have := HJL.out; omega
        case rel => exact ⟨j + 1, Nat.le_refl _, HJL.out, by go_num, Lib.hid ⟨below_drewN HREL.out.1 _, HNX.out⟩⟩
      · have HLOW : Hid (lowN xi l = j) := Lib.hid (low_run HREL.out.2 (fun u hu => by have := HZ.out; rw [hu] at this; cases this; exact hk) HJ.out)
        have hcc : ¬ (cap = j) := by have := HC2.out; omega
        go_wp2_with fail
        go_quiet (fail)
        have HBZ := Lib.hid (below_drewN HREL.out.1 nq)
        clear x0 s0 hlt
        generalize wr.drewN nq = wz at *
        have hwz := HBZ.out
        have HSZ := Lib.hid ((HS.out.chain HB0.out).chain hwz)
        have HRU := Lib.hid (HSZ.out.upto j HJ.out).rds
        have xb := HBX.out.below hwz HBX.out.lt
        have hbz : bx ≤ wz.heap.size := by have := HBX.out.lt; have := hwz.size; omega
        have HBZ2 := Lib.hid hbz
        have HRF0 : Hid (∀ w', Below bx W0 w' → RdS w' 2 (.slice (some ⟨g, off + j * 2, none⟩) (l.length - j) (cap - j)) (l.length - j) ((shC l).drop (j * 2))) := Lib.hid fun w' hb' => by
          have h9 := (HS.out.chain HB0.out).same (w' := w') (fun g' hg' => hb'.block g' (by have h8 := (HS.out.blk g' hg').2; rw [HBN.out] at h8; exact h8))
          exact (Seg.from' h9 j HJ.out (off + j * 2) (.inl rfl)).rds
        go_wp2_with (first
          | (at_builtin; refine wpList_append_rds rfl _ _ 47 rfl bx 32 i0 _ 2 24 Try.underlying47 hi hz0 hz1 hz2 rfl (by decide) (.slice none 0 0) 0 [] rfl (Seg.nil _ _ _ _) _ j ((shC l).take (j * 2)) rfl HRU.out (fun u hu => shC_one l u (List.mem_of_mem_take hu)) HQ.out.1 HQ.out.2.1 HBZ2.out ?_; intro v3 w3 hown3 hgrow3 hat3; rw [List.nil_append, Nat.zero_add] at hown3; obtain ⟨a3, n3, rfl⟩ := Seg.form hown3; have HO3 := Lib.hid hown3; have HB3 : Hid (Below wz.heap.size wz w3) := Lib.hid ((Only.grown (S := []) (Only.refl _ _) hgrow3 (fun x hx => by cases hx)).nil); have xb3 := xb.below HB3.out xb.lt; have x30 := xb3.facts.1 0; have x31 := xb3.facts.1 1; have HR1 := Lib.hid (rds_one (x := (xi, xt)) (Blk.new w3 #[.int .i64 xi, Str xt] 32)); clear hown3 hgrow3 hat3)
          | (at_builtin; refine wpList_append_rds rfl _ _ 47 rfl bx 32 i0 _ 2 24 Try.underlying47 hi hz0 hz1 hz2 rfl (by decide) (.slice a3 j n3) j ((shC l).take (j * 2)) rfl (HO3.out.alloc _) _ 1 [.int .i64 xi, Str xt] rfl HR1.out (by simp [Value.oneCell']) HQ.out.2.2.1 HQ.out.2.2.2.1 (by rw [size_alloc]; have := HB3.out.size; have := HBZ2.out; omega) ?_; intro v5 w5 hown5 hgrow5 hat5; obtain ⟨a5, n5, rfl⟩ := Seg.form hown5; have HO5 := Lib.hid hown5; have HB5 : Hid (Below bx W0 w5) := Lib.hid (((HBZ.out.mono (by have := HBX.out.lt; omega)).trans (HB3.out.mono HBZ2.out)).trans (((Only.of_below (S := (Value.slice a3 j n3).ownBlock.toList) (Below.chainAlloc (Below.refl _ w3) _)).grown hgrow5 (fun x hx => .inl (by simp [hx]))).below (by have := HB3.out.size; have := HBZ2.out; omega) (fun x hx => (HO3.out.blk x (by simpa using hx)).1))); have HRF := Lib.hid (HRF0.out w5 (HB5.out)); clear hown5 hgrow5 hat5)
          | (at_builtin; refine wpList_append_rds rfl _ _ 47 rfl bx 32 i0 _ 2 24 Try.underlying47 hi hz0 hz1 hz2 rfl (by decide) (.slice a5 (j + 1) n5) (j + 1) ((shC l).take (j * 2) ++ [.int .i64 xi, Str xt]) rfl HO5.out _ (l.length - j) ((shC l).drop (j * 2)) rfl HRF.out (fun u hu => shC_one l u (List.mem_of_mem_drop hu)) HQ.out.2.2.2.2.1 HQ.out.2.2.2.2.2 (by have := HB5.out.size; have := HBX.out.lt; omega) ?_; intro v7 w7 hown7 hgrow7 hat7; obtain ⟨a7, n7, rfl⟩ := Seg.form hown7; have HO7 := Lib.hid hown7; have HB7 : Hid (Below bx W0 w7) := Lib.hid (HB5.out.trans (((Only.refl (Value.slice a5 (j + 1) n5).ownBlock.toList w5).grown hgrow7 (fun x hx => .inl (by simp [hx]))).below (by have := HB5.out.size; have := HBX.out.lt; omega) (fun x hx => (HO5.out.blk x (by simpa using hx)).1))); clear hown7 hgrow7 hat7))
        go_ret
        have hn : j + 1 + (l.length - j) = l.length + 1 := by have := HJ.out; omega
        have ho7 := HO7.out
        rw [hn] at ho7
        refine ⟨a7, n7, by (rw [hn]; rfl), ?_, ?_⟩
        · rw [HLOW.out]
          unfold ShS
          rw [insL_length _ _ _ HJ.out, shC_ins, ← shC_take, ← shC_drop, HBN.out]
          exact ho7
        · rw [HBN.out]
          exact (by have := HB0.out; rw [HBN.out] at this; exact this : Below bx w W0).trans HB7.out
    · have HLOW : Hid (lowN xi l = j) := Lib.hid (low_run HREL.out.2 (fun u hu => absurd (List.getElem?_eq_some_iff.1 hu).1 hlt) HJ.out)
      have hlt' : ¬ (j : Int) < (l.length : Int) := by omega
      clear hsh
      by_cases hcc : cap = j
      · go_wp2_with fail
        go_quiet (fail)
        have HBZ := Lib.hid (below_drewN HREL.out.1 nq)
        have HCC := Lib.hid hcc
        clear x0
        generalize wr.drewN nq = wz at *
        have hwz := HBZ.out
        have HSZ := Lib.hid ((HS.out.chain HB0.out).chain hwz)
        have HRU : Hid (RdS wz 2 (.slice (some ⟨g, off, none⟩) j j) j ((shC l).take (j * 2))) := Lib.hid (by have h := (HSZ.out.upto j HJ.out).rds; rw [HCC.out] at h; exact h)
        have xb := HBX.out.below hwz HBX.out.lt
        have hbz : bx ≤ wz.heap.size := by have := HBX.out.lt; have := hwz.size; omega
        have HBZ2 := Lib.hid hbz
        have HRF0 : Hid (∀ w', Below bx W0 w' → RdS w' 2 (.slice (some ⟨g, off, none⟩) (l.length - j) 0) (l.length - j) ((shC l).drop (j * 2))) := Lib.hid fun w' hb' => by
          have h0 : l.length - j = 0 := by have := HCAP.out.1; omega
          exact ⟨by rw [List.length_drop, shC_length, Nat.sub_mul], .inl ⟨h0, _, _, by rw [h0]⟩⟩
        go_wp2_with (first
          | (at_builtin; refine wpList_append_rds rfl _ _ 47 rfl bx 32 i0 _ 2 24 Try.underlying47 hi hz0 hz1 hz2 rfl (by decide) (.slice none 0 0) 0 [] rfl (Seg.nil _ _ _ _) _ j ((shC l).take (j * 2)) rfl HRU.out (fun u hu => shC_one l u (List.mem_of_mem_take hu)) HQ.out.1 HQ.out.2.1 HBZ2.out ?_; intro v3 w3 hown3 hgrow3 hat3; rw [List.nil_append, Nat.zero_add] at hown3; obtain ⟨a3, n3, rfl⟩ := Seg.form hown3; have HO3 := Lib.hid hown3; have HB3 : Hid (Below wz.heap.size wz w3) := Lib.hid ((Only.grown (S := []) (Only.refl _ _) hgrow3 (fun x hx => by cases hx)).nil); have xb3 := xb.below HB3.out xb.lt; have x30 := xb3.facts.1 0; have x31 := xb3.facts.1 1; have HR1 := Lib.hid (rds_one (x := (xi, xt)) (Blk.new w3 #[.int .i64 xi, Str xt] 32)); clear hown3 hgrow3 hat3)
          | (at_builtin; refine wpList_append_rds rfl _ _ 47 rfl bx 32 i0 _ 2 24 Try.underlying47 hi hz0 hz1 hz2 rfl (by decide) (.slice a3 j n3) j ((shC l).take (j * 2)) rfl (HO3.out.alloc _) _ 1 [.int .i64 xi, Str xt] rfl HR1.out (by simp [Value.oneCell']) HQ.out.2.2.1 HQ.out.2.2.2.1 (by rw [size_alloc]; have := HB3.out.size; have := HBZ2.out; omega) ?_; intro v5 w5 hown5 hgrow5 hat5; obtain ⟨a5, n5, rfl⟩ := Seg.form hown5; have HO5 := Lib.hid hown5; have HB5 : Hid (Below bx W0 w5) := Lib.hid (((HBZ.out.mono (by have := HBX.out.lt; omega)).trans (HB3.out.mono HBZ2.out)).trans (((Only.of_below (S := (Value.slice a3 j n3).ownBlock.toList) (Below.chainAlloc (Below.refl _ w3) _)).grown hgrow5 (fun x hx => .inl (by simp [hx]))).below (by have := HB3.out.size; have := HBZ2.out; omega) (fun x hx => (HO3.out.blk x (by simpa using hx)).1))); have HRF := Lib.hid (HRF0.out w5 (HB5.out)); clear hown5 hgrow5 hat5)
          | (at_builtin; refine wpList_append_rds rfl _ _ 47 rfl bx 32 i0 _ 2 24 Try.underlying47 hi hz0 hz1 hz2 rfl (by decide) (.slice a5 (j + 1) n5) (j + 1) ((shC l).take (j * 2) ++ [.int .i64 xi, Str xt]) rfl HO5.out _ (l.length - j) ((shC l).drop (j * 2)) rfl HRF.out (fun u hu => shC_one l u (List.mem_of_mem_drop hu)) HQ.out.2.2.2.2.1 HQ.out.2.2.2.2.2 (by have := HB5.out.size; have := HBX.out.lt; omega) ?_; intro v7 w7 hown7 hgrow7 hat7; obtain ⟨a7, n7, rfl⟩ := Seg.form hown7; have HO7 := Lib.hid hown7; have HB7 : Hid (Below bx W0 w7) := Lib.hid (HB5.out.trans (((Only.refl (Value.slice a5 (j + 1) n5).ownBlock.toList w5).grown hgrow7 (fun x hx => .inl (by simp [hx]))).below (by have := HB5.out.size; have := HBX.out.lt; omega) (fun x hx => (HO5.out.blk x (by simpa using hx)).1))); clear hown7 hgrow7 hat7))
        go_ret
        have hn : j + 1 + (l.length - j) = l.length + 1 := by have := HJ.out; omega
        have ho7 := HO7.out
        rw [hn] at ho7
        refine ⟨a7, n7, by (rw [hn]; rfl), ?_, ?_⟩
        · rw [HLOW.out]
          unfold ShS
          rw [insL_length _ _ _ HJ.out, shC_ins, ← shC_take, ← shC_drop, HBN.out]
          exact ho7
        · rw [HBN.out]
          exact (by have := HB0.out; rw [HBN.out] at this; exact this : Below bx w W0).trans HB7.out
      · go_wp2_with fail
        go_quiet (fail)
        have HBZ := Lib.hid (below_drewN HREL.out.1 nq)
        clear x0
        generalize wr.drewN nq = wz at *
        have hwz := HBZ.out
        have HSZ := Lib.hid ((HS.out.chain HB0.out).chain hwz)
        have HRU := Lib.hid (HSZ.out.upto j HJ.out).rds
        have xb := HBX.out.below hwz HBX.out.lt
        have hbz : bx ≤ wz.heap.size := by have := HBX.out.lt; have := hwz.size; omega
        have HBZ2 := Lib.hid hbz
        have HRF0 : Hid (∀ w', Below bx W0 w' → RdS w' 2 (.slice (some ⟨g, off + j * 2, none⟩) (l.length - j) (cap - j)) (l.length - j) ((shC l).drop (j * 2))) := Lib.hid fun w' hb' => by
          have h9 := (HS.out.chain HB0.out).same (w' := w') (fun g' hg' => hb'.block g' (by have h8 := (HS.out.blk g' hg').2; rw [HBN.out] at h8; exact h8))
          exact (Seg.from' h9 j HJ.out (off + j * 2) (.inl rfl)).rds
        go_wp2_with (first
          | (at_builtin; refine wpList_append_rds rfl _ _ 47 rfl bx 32 i0 _ 2 24 Try.underlying47 hi hz0 hz1 hz2 rfl (by decide) (.slice none 0 0) 0 [] rfl (Seg.nil _ _ _ _) _ j ((shC l).take (j * 2)) rfl HRU.out (fun u hu => shC_one l u (List.mem_of_mem_take hu)) HQ.out.1 HQ.out.2.1 HBZ2.out ?_; intro v3 w3 hown3 hgrow3 hat3; rw [List.nil_append, Nat.zero_add] at hown3; obtain ⟨a3, n3, rfl⟩ := Seg.form hown3; have HO3 := Lib.hid hown3; have HB3 : Hid (Below wz.heap.size wz w3) := Lib.hid ((Only.grown (S := []) (Only.refl _ _) hgrow3 (fun x hx => by cases hx)).nil); have xb3 := xb.below HB3.out xb.lt; have x30 := xb3.facts.1 0; have x31 := xb3.facts.1 1; have HR1 := Lib.hid (rds_one (x := (xi, xt)) (Blk.new w3 #[.int .i64 xi, Str xt] 32)); clear hown3 hgrow3 hat3)
          | (at_builtin; refine wpList_append_rds rfl _ _ 47 rfl bx 32 i0 _ 2 24 Try.underlying47 hi hz0 hz1 hz2 rfl (by decide) (.slice a3 j n3) j ((shC l).take (j * 2)) rfl (HO3.out.alloc _) _ 1 [.int .i64 xi, Str xt] rfl HR1.out (by simp [Value.oneCell']) HQ.out.2.2.1 HQ.out.2.2.2.1 (by rw [size_alloc]; have := HB3.out.size; have := HBZ2.out; omega) ?_; intro v5 w5 hown5 hgrow5 hat5; obtain ⟨a5, n5, rfl⟩ := Seg.form hown5; have HO5 := Lib.hid hown5; have HB5 : Hid (Below bx W0 w5) := Lib.hid (((HBZ.out.mono (by have := HBX.out.lt; omega)).trans (HB3.out.mono HBZ2.out)).trans (((Only.of_below (S := (Value.slice a3 j n3).ownBlock.toList) (Below.chainAlloc (Below.refl _ w3) _)).grown hgrow5 (fun x hx => .inl (by simp [hx]))).below (by have := HB3.out.size; have := HBZ2.out; omega) (fun x hx => (HO3.out.blk x (by simpa using hx)).1))); have HRF := Lib.hid (HRF0.out w5 (HB5.out)); clear hown5 hgrow5 hat5)
          | (at_builtin; refine wpList_append_rds rfl _ _ 47 rfl bx 32 i0 _ 2 24 Try.underlying47 hi hz0 hz1 hz2 rfl (by decide) (.slice a5 (j + 1) n5) (j + 1) ((shC l).take (j * 2) ++ [.int .i64 xi, Str xt]) rfl HO5.out _ (l.length - j) ((shC l).drop (j * 2)) rfl HRF.out (fun u hu => shC_one l u (List.mem_of_mem_drop hu)) HQ.out.2.2.2.2.1 HQ.out.2.2.2.2.2 (by have := HB5.out.size; have := HBX.out.lt; omega) ?_; intro v7 w7 hown7 hgrow7 hat7; obtain ⟨a7, n7, rfl⟩ := Seg.form hown7; have HO7 := Lib.hid hown7; have HB7 : Hid (Below bx W0 w7) := Lib.hid (HB5.out.trans (((Only.refl (Value.slice a5 (j + 1) n5).ownBlock.toList w5).grown hgrow7 (fun x hx => .inl (by simp [hx]))).below (by have := HB5.out.size; have := HBX.out.lt; omega) (fun x hx => (HO5.out.blk x (by simpa using hx)).1))); clear hown7 hgrow7 hat7))
        go_ret
        have hn : j + 1 + (l.length - j) = l.length + 1 := by have := HJ.out; omega
        have ho7 := HO7.out
        rw [hn] at ho7
        refine ⟨a7, n7, by (rw [hn]; rfl), ?_, ?_⟩
        · rw [HLOW.out]
          unfold ShS
          rw [insL_length _ _ _ HJ.out, shC_ins, ← shC_take, ← shC_drop, HBN.out]
          exact ho7
        · rw [HBN.out]
          exact (by have := HB0.out; rw [HBN.out] at this; exact this : Below bx w W0).trans HB7.out
end Go.Proofs.Ytnommofekjiiaaa
