/-
  What is to be said: slices.DeleteFunc over datagrams: its walk (chapter 25).
-/
import Derived.Test.YtphejbjbleeigaaCt3
namespace Go.Proofs.Ytphejbjbleeigaa
open Go Go.RowKit
set_option linter.unusedVariables false
set_option maxRecDepth 100000
set_option maxHeartbeats 2000000
theorem dg_zero (w : World) : (zeroValue 24).run Try.prog w = .ok dg0.val w := rfl
theorem zero_cells (n : Nat) : (Builtin.zeroCells dg0.val.cells n).size = n * 10 ∧ ∀ u ∈ (Builtin.zeroCells dg0.val.cells n).toList, u.oneCell' = true := by
  refine ⟨by simp only [Builtin.zeroCells, Array.size_map, Array.size_range]; rfl, fun u hu => ?_⟩
  simp only [Builtin.zeroCells, Array.toList_map, List.mem_map] at hu
  obtain ⟨i, _, rfl⟩ := hu
  have h : i % 10 < 10 := Nat.mod_lt _ (by decide)
  show (dg0.val.cells[i % 10]!).oneCell' = true
  generalize i % 10 = j at *
  match j, h with
  | 0, _ | 1, _ | 2, _ | 3, _ | 4, _ | 5, _ | 6, _ | 7, _ | 8, _ | 9, _ => rfl
theorem run_clear_dg (w : World) (ty : TypeId) (g o n c : Nat) (hn : 0 < n) (hc : ∀ j, j < n * 10 → (w.cell? ⟨g, o + j, none⟩).isSome = true) (hf : ∀ j, w.frozen? ⟨g, j, none⟩ = false) :
    (Builtin.clear_ #[46] ty #[.slice (some ⟨g, o, none⟩) n c]).run Try.prog w = .ok (.tuple #[]) (w.setCells g o (Builtin.zeroCells dg0.val.cells n).toList) := by
  obtain ⟨z1, z2⟩ := zero_cells n
  have hst := run_storeCells_cells (P := Try.prog) g o (Builtin.zeroCells dg0.val.cells n).toList 0 w (by intro j hj; rw [Nat.add_zero]; exact hc j (by simpa [z1] using hj)) (by intro j hj; exact hf _) z2
  rw [Nat.add_zero] at hst
  obtain ⟨m, rfl⟩ : ∃ m, n = m + 1 := ⟨n - 1, by omega⟩
  simp [Builtin.clear_, run_underlying Try.underlying46]
  change (Sem.run Try.prog (storeCells ⟨g, o, none⟩ (Builtin.zeroCells dg0.val.cells (m + 1)).toList) w).andThen _ = _
  rw [hst]
  rfl
theorem idx_spec (p : Dg → Bool) (ds : List Dg) : (idxD p ds = -1 ∧ ∀ x ∈ ds, p x = false) ∨ ∃ i : Nat, idxD p ds = (i : Int) ∧ ∃ h : i < ds.length, p ds[i] = true ∧ ∀ x ∈ ds.take i, p x = false := by
  unfold idxD
  cases hf : ds.findIdx? p with
  | none => exact .inl ⟨rfl, List.findIdx?_eq_none_iff.1 hf⟩
  | some i =>
    obtain ⟨h, h1, h2⟩ := List.findIdx?_eq_some_iff_getElem.1 hf
    refine .inr ⟨i, rfl, h, h1, fun x hx => ?_⟩
    obtain ⟨j, hj, rfl⟩ := List.mem_iff_getElem.1 hx
    rw [List.getElem_take]
    have := h2 j (by rw [List.length_take] at hj; omega)
    simpa using this
def keptD (p : Dg → Bool) (ds : List Dg) : List Dg := ds.filter fun x => !p x
theorem kept_all {p : Dg → Bool} {ds : List Dg} (h : ∀ x ∈ ds, p x = false) : keptD p ds = ds := by
  unfold keptD
  rw [List.filter_eq_self]
  intro x hx
  simp [h x hx]
/-- The answer of DeleteFunc. -/
def DelPost (base : Nat) (v : Value) (p : Dg → Bool) (ds : List Dg) (w : World) (e : Ending) (w' : World) : Prop :=
  ∃ v', e = .returned v' ∧ Seg w' base 24 10 v' (keptD p ds).length (dgC (keptD p ds)) ∧ v'.ownBlock = v.ownBlock ∧ Only v.ownBlock.toList w w'
/-- What holds at the loop's head. -/
def DelRel (base g off cap : Nat) (p : Dg → Bool) (ds : List Dg) (w : World) (iv jv : Value) (wr : World) : Prop :=
  ∃ (i j : Nat) (D : List Dg), iv = .int .i64 i ∧ jv = .int .i64 j ∧ i < j ∧ j ≤ ds.length ∧ D.length = ds.length ∧ Hid (D.take i = keptD p (ds.take j)) ∧ Hid (D.drop j = ds.drop j) ∧
    Hid (Seg wr base 24 10 (.slice (some ⟨g, off, none⟩) ds.length cap) ds.length (dgC D)) ∧ Hid (Only [g] w wr)
theorem kept_snoc (p : Dg → Bool) {ds : List Dg} {j : Nat} (hj : j < ds.length) : keptD p (ds.take (j + 1)) = keptD p (ds.take j) ++ (if p ds[j] = true then [] else [ds[j]]) := by
  unfold keptD
  rw [List.take_succ_eq_append_getElem hj, List.filter_append]
  congr 1
  by_cases h : p ds[j] = true
  · simp [h]
  · simp [h]
theorem del_dg (f : Nat) (binds : Array Value) (p : Dg → Bool) (base : Nat) (v : Value) (ds : List Dg) (w : World) (hen : ∀ args w, (callFunc f args).run Try.prog w = .ok (.enter f args) w)
    (HC : ∀ x w', Only v.ownBlock.toList w w' → Calls Try.prog f (#[Dg.val x] ++ binds) w' (RetB (.bool (p x)) w')) (hs : Seg w base 24 10 v ds.length (dgC ds)) :
    Calls Try.prog 112 #[v, .func (.func f) #[] binds] w (DelPost base v p ds w) := by
  have HI := Lib.hid (idx_dg f binds p base v ds w hen (fun x w' h => HC x w' (Only.of_below h)) hs)
  have HS := Lib.hid hs
  have hmx : ds.length ≤ 9223372036854775807 := by have := hs.max; unfold maxLen at this; omega
  have HCC := Lib.hid HC
  obtain ⟨a, cap, rfl⟩ := hs.form
  clear HC hs
  rcases idx_spec p ds with ⟨he, hno⟩ | ⟨i, he, hi, hp, hno⟩
  · rw [he] at HI
    have HK := Lib.hid (kept_all hno)
    clear hno he
    go_enter Try.func112, Try.ntmps112
    go_wp2_with fail
    refine HI.out.mono ?_
    rintro e w1 ⟨rfl, hb1⟩
    go_wp2_with fail
    go_ret
    exact ⟨_, rfl, by rw [HK.out]; exact HS.out.chain hb1, rfl, Only.of_below hb1⟩
  · rw [he] at HI
    obtain ⟨g, off, _, e, hgb, hgw, hcap, _⟩ := HS.out.shape (by omega)
    cases e
    have HP := Lib.hid (And.intro hp hno)
    have hne : ((i : Int) == -1) = false := beq_eq_false_iff_ne.2 (by omega)
    have hne2 : ¬ (i : Int) = -1 := by omega
    have hil : (i : Int) + 1 ≤ 9223372036854775807 := by omega
    have HII := Lib.hid hi
    clear he hp hno
    go_enter Try.func112, Try.ntmps112
    go_wp2_with fail
    refine HI.out.mono ?_
    rintro e w1 ⟨rfl, hb1⟩
    have HB1 := Lib.hid hb1
    clear hb1
    go_wp2_with fail
    go_loopw [5, 6, 7] (fun iv jv _ wr => DelRel base g off cap p ds w iv jv wr) (fun _ jv _ _ => ds.length - (intOf jv).toNat)
    case atStart =>
      refine ⟨i, i + 1, ds, rfl, rfl, Nat.lt_succ_self _, HII.out, rfl, Lib.hid ?_, Lib.hid rfl, Lib.hid (HS.out.chain HB1.out), Lib.hid (Only.of_below HB1.out)⟩
      rw [kept_snoc p HII.out, if_pos HP.out.1, List.append_nil, kept_all HP.out.2]
    case round =>
      obtain ⟨i, j, D, rfl, rfl, hij, hj, hDl, HT, HD, HSG, HO⟩ := hrel
      by_cases hlt : j < ds.length
      · obtain ⟨c0, c1, c2, c3, c4, c5, c6, c7, c8, c9⟩ := (hDl ▸ HSG.out : Seg wr base 24 10 (.slice (some ⟨g, off, none⟩) D.length cap) D.length (dgC D)).dg (m := j) (by omega)
        have hdj : D[j]'(by omega) = ds[j] := by
          have h := HD.out
          rw [List.drop_eq_getElem_cons (show j < D.length by omega), List.drop_eq_getElem_cons hlt] at h
          exact (List.cons.inj h).1
        have hdr : D.drop (j + 1) = ds.drop (j + 1) := by
          have h := congrArg (List.drop 1) HD.out
          rwa [List.drop_drop, List.drop_drop] at h
        have hks := kept_snoc p hlt
        obtain ⟨d, hd⟩ : ∃ d, ds[j] = d := ⟨_, rfl⟩
        rw [hdj, hd] at c0 c1 c2 c3 c4 c5 c6 c7 c8 c9
        rw [hd] at hks
        have hji : (j : Int) < (ds.length : Int) := by omega
        have HKS := Lib.hid hks
        have HDR := Lib.hid hdr
        have HLT := Lib.hid hlt
        clear hdj hks hdr hd
        have hba : Below wr.heap.size wr (wr.alloc (.cells d.vals.toArray 24)) := Below.chainAlloc (Below.refl _ _) _
        have hox : Only [g] w (wr.alloc (.cells d.vals.toArray 24)) := HO.out.alloc _
        have HCL := Lib.hid (HCC.out d _ (by simpa [Value.ownBlock] using hox.alloc (.cells d.vals.toArray 24)))
        have HCL2 := Lib.hid (HCC.out d _ (by simpa [Value.ownBlock] using hox))
        have kd := Blk.new wr d.vals.toArray 24
        have HBA := Lib.hid (And.intro kd (And.intro hba hox))
        clear kd hba hox HCL
        obtain ⟨d0, d1, d2, d3, d4, d5, d6, d7, d8, d9⟩ := d
        simp only at c0 c1 c2 c3 c4 c5 c6 c7 c8 c9
        go_wp2_with fail
        refine HCL2.out.mono ?_
        rintro e w2 ⟨rfl, hb2⟩
        have kd2 := HBA.out.1.below hb2 HBA.out.1.lt
        have hsg2 := HSG.out.chain (Below.chain hb2 HBA.out.2.1)
        have ho2 := HBA.out.2.2.trans (Only.of_below (S := [g]) hb2)
        clear hb2 c0 c1 c2 c3 c4 c5 c6 c7 c8 c9
        cases hpd : p ⟨d0, d1, d2, d3, d4, d5, d6, d7, d8, d9⟩ with
        | true =>
          have HF := Lib.hid (And.intro hsg2 ho2)
          clear kd2 hsg2 ho2
          go_wp2_with fail
          go_roundw
          case rel => exact ⟨i, j + 1, D, rfl, by go_num, by omega, HLT.out, hDl, Lib.hid (by rw [HT.out, HKS.out, if_pos hpd, List.append_nil]), HDR, Lib.hid HF.out.1, Lib.hid HF.out.2⟩
          case measure => have := HLT.out; simp [intOf]; omega
        | false =>
          have hin : i < ds.length := by omega
          have hii : (i : Int) < (ds.length : Int) := by omega
          have hiD : i < D.length := by omega
          obtain ⟨kf, _, _⟩ := kd2.facts
          have k0 : w2.cell? ⟨wr.heap.size, 0, none⟩ = some (.int .i64 d0) := kf 0
          have k1 : w2.cell? ⟨wr.heap.size, 1, none⟩ = some (.int .i64 d1) := kf 1
          have k2 : w2.cell? ⟨wr.heap.size, 2, none⟩ = some (.int .u32 d2) := kf 2
          have k3 : w2.cell? ⟨wr.heap.size, 3, none⟩ = some (.int .i64 d3) := kf 3
          have k4 : w2.cell? ⟨wr.heap.size, 4, none⟩ = some (.int .i64 d4) := kf 4
          have k5 : w2.cell? ⟨wr.heap.size, 5, none⟩ = some (.int .i64 d5) := kf 5
          have k6 : w2.cell? ⟨wr.heap.size, 6, none⟩ = some (.int .i64 d6) := kf 6
          have k7 : w2.cell? ⟨wr.heap.size, 7, none⟩ = some (.int .i64 d7) := kf 7
          have k8 : w2.cell? ⟨wr.heap.size, 8, none⟩ = some (Str d8) := kf 8
          have k9 : w2.cell? ⟨wr.heap.size, 9, none⟩ = some (Str d9) := kf 9
          have hsc : ∀ j, j < 10 → (w2.cell? ⟨g, off + i * 10 + j, none⟩).isSome = true := fun j hj => by
            have h1 := hsg2.at (i * 10 + j) (by omega)
            rw [← Nat.add_assoc] at h1
            rw [h1, List.getElem?_eq_getElem (by rw [hsg2.1]; omega)]
            rfl
          have hS := hsg2.puts (Dg.vals ⟨d0, d1, d2, d3, d4, d5, d6, d7, d8, d9⟩) (i * 10) (by simp [Dg.vals]; omega)
          rw [dgC_sets D i hiD ⟨d0, d1, d2, d3, d4, d5, d6, d7, d8, d9⟩] at hS
          have hO := Only.puts (List.mem_singleton_self g) (Dg.vals ⟨d0, d1, d2, d3, d4, d5, d6, d7, d8, d9⟩) (off + i * 10) ho2
          have HF := Lib.hid (And.intro hS hO)
          have HSC := Lib.hid (And.intro hsc hsg2.free)
          have HIN := Lib.hid hin
          clear hS hO kf kd2 hsg2 ho2 hsc
          go_upto_region 9 with fail
          refine wp_region_lit ?_
          iterate 4
            refine wpList_plain rfl fun K hK => ?_
            go_simp
            refine hK _ _ ?_
            clear hK K
          refine wpList_store_cells rfl 24 (.tmp 33) (.tmp 32) rfl rfl g (off + i * 10) #[.int .i64 d0, .int .i64 d1, .int .u32 d2, .int .i64 d3, .int .i64 d4, .int .i64 d5, .int .i64 d6, .int .i64 d7, Str d8, Str d9] rfl rfl (by kernel_rfl) HSC.out.1 HSC.out.2 (by simp [Value.oneCell']) ?_
          clear k0 k1 k2 k3 k4 k5 k6 k7 k8 k9
          go_wp2_with fail
          go_roundw
          case rel =>
            refine ⟨i + 1, j + 1, D.set i ⟨d0, d1, d2, d3, d4, d5, d6, d7, d8, d9⟩, by go_num, by go_num, by omega, HLT.out, by rw [List.length_set]; exact hDl, Lib.hid ?_, Lib.hid ?_, Lib.hid HF.out.1, Lib.hid HF.out.2⟩
            · rw [HKS.out, if_neg (by simp [hpd]), ← HT.out, List.take_succ_eq_append_getElem (by rw [List.length_set]; exact hiD), List.getElem_set_self, List.take_set_of_le (Nat.le_refl i)]
            · rw [List.drop_set_of_lt (by omega)]
              exact HDR.out
          case measure => have := HLT.out; simp [intOf]; omega
      · obtain rfl : j = ds.length := by omega
        have hT := HT.out
        rw [List.take_length] at hT
        have hkl : (keptD p ds).length = i := by rw [← hT, List.length_take]; omega
        have hin : i < ds.length := by omega
        have hii : (i : Int) < (ds.length : Int) := by omega
        have hic : (i : Int) ≤ (cap : Int) := by omega
        have hic2 : i < cap := by omega
        have hlt' : ¬ (ds.length : Int) < (ds.length : Int) := by omega
        have hsg := HSG.out
        have hcl := fun ty => run_clear_dg wr ty g (off + i * 10) (ds.length - i) (cap - i) (by omega) (fun j hj => by
          have h1 := hsg.at (i * 10 + j) (by omega)
          rw [← Nat.add_assoc] at h1
          rw [h1, List.getElem?_eq_getElem (by rw [hsg.1]; omega)]
          rfl) hsg.free
        have hfin := (hsg.fewer i (by omega)).putsFar (Builtin.zeroCells dg0.val.cells (ds.length - i)).toList (i * 10) (Nat.le_refl _)
        have htk : (dgC D).take (i * 10) = dgC (keptD p ds) := by
          have h2 : dgC D = dgC (D.take i) ++ dgC (D.drop i) := by unfold dgC; rw [← List.flatMap_append, List.take_append_drop]
          rw [h2, hT, List.take_append_of_le_length (by rw [dgC_length, hkl]; exact Nat.le_refl _), List.take_of_length_le (by rw [dgC_length, hkl]; exact Nat.le_refl _)]
        rw [htk] at hfin
        have hof := Only.puts (List.mem_singleton_self g) (Builtin.zeroCells dg0.val.cells (ds.length - i)).toList (off + i * 10) HO.out
        have HF := Lib.hid (And.intro hfin hof)
        have HKL := Lib.hid hkl
        clear hfin hof htk hsg hT hkl
        generalize (Builtin.zeroCells dg0.val.cells (ds.length - i)).toList = zs at *
        go_wp2_with fail
        go_ret
        exact ⟨_, rfl, by rw [HKL.out]; exact HF.out.1, rfl, by simpa [Value.ownBlock] using HF.out.2⟩
end Go.Proofs.Ytphejbjbleeigaa
