/-
  Scripts: steps' bytes: the document's contract (chapter 33).
-/
import Derived.Test.YtdjjienklfbalaaScs1
import Derived.Test.YtdjjienklfbalaaScr9
import Derived.Deep.RegionWith
namespace Go.Proofs.Ytdjjienklfbalaa
open Go.RowKit
set_option linter.unusedVariables false
set_option maxRecDepth 100000
set_option maxHeartbeats 1000000
theorem rput_far (a : Option Addr) (len cap : Nat) (w : World) (hm : 1024 < len) (hl : len ≤ 9223372036854775807) : Calls Try.prog 39 #[.slice a len cap] w (RetB (.tuple #[Str [], .int .i64 3]) w) := by
  go_enter Try.func39, Try.ntmps39
  go_wp2_with fail
  go_ret2
  exact ⟨rfl, Below.refl _ _⟩
theorem rput_few (a : Option Addr) (len cap : Nat) (ds : List Ac) (w : World) (hz : IsRows 8 Ac.vals w a len cap ds) (hlen : len ≤ 1024) :
    Calls Try.prog 39 #[.slice a len cap] w (RetB (.tuple #[Str (putAS ds), .int .i64 (putAE ds)]) w) := by
  obtain ⟨h1, h2, h3, h4⟩ := hz
  have hls : len ≤ 9223372036854775807 := by omega
  have hE : Hid (putAE ds = if ds.all mayA then 0 else 1) := Lib.hid (by unfold putAE; rw [if_neg (by omega)])
  have hS : Hid (putAS ds = if putAE ds = 0 then ds.flatMap encA else []) := Lib.hid rfl
  have HL := Lib.hid h1
  have H4 := Lib.hid h4
  clear h1 h2 h3 h4
  go_enter Try.func39, Try.ntmps39
  go_wp2_with fail
  go_loopg [4, 5] len (fun gk s i wr => ∃ k : Nat, k ≤ len ∧ len ≤ k + gk ∧ s = Str ((ds.take k).flatMap encA) ∧ i = .int .i64 k ∧ (∀ x ∈ ds.take k, mayA x = true) ∧ Below w.heap.size w wr)
  case atStart => exact ⟨0, by omega, by omega, by simp, rfl, by simp, Below.refl _ _⟩
  case round =>
    obtain ⟨k, hk, hgk, rfl, rfl, hmay, hB⟩ := hrel
    have HMAY := Lib.hid hmay
    clear hmay
    by_cases hlt : k < len
    · obtain ⟨g, off, rfl, hg, hc⟩ := H4.out.resolve_left (by omega)
      have hkd : k < ds.length := by rw [HL.out]; exact hlt
      have hc1 := fun j hj => (hB.cell (p := ⟨g, off + k * 8 + j, none⟩) hg).trans (hc k hkd j hj)
      have HS := Lib.hid (show ds.take (k + 1) = ds.take k ++ [ds[k]] from List.take_succ_eq_append_getElem hkd)
      have HIN := Lib.hid (show ds[k] ∈ ds from List.getElem_mem hkd)
      clear hc
      generalize hd : ds[k] = d at *
      clear hd
      have hfl := flat_le _ HMAY.out
      rw [List.length_take] at hfl
      generalize hacc : (ds.take k).flatMap encA = acc at *
      have HACC := Lib.hid hacc
      clear hacc
      have HM := Lib.hid (fun w => rmay_s d w)
      obtain ⟨kind, side, ck, cs, cn, cb, n, raw⟩ := d
      have c0 : wr.cell? ⟨g, off + k * 8, none⟩ = some (.int .i64 kind) := hc1 0 (by omega)
      have c1 : wr.cell? ⟨g, off + k * 8 + 1, none⟩ = some (.int .i64 side) := hc1 1 (by omega)
      have c2 : wr.cell? ⟨g, off + k * 8 + 2, none⟩ = some (.int .i64 ck) := hc1 2 (by omega)
      have c3 : wr.cell? ⟨g, off + k * 8 + 3, none⟩ = some (.int .i64 cs) := hc1 3 (by omega)
      have c4 : wr.cell? ⟨g, off + k * 8 + 4, none⟩ = some (.int .i64 cn) := hc1 4 (by omega)
      have c5 : wr.cell? ⟨g, off + k * 8 + 5, none⟩ = some (Str cb) := hc1 5 (by omega)
      have c6 : wr.cell? ⟨g, off + k * 8 + 6, none⟩ = some (.int .i64 n) := hc1 6 (by omega)
      have c7 : wr.cell? ⟨g, off + k * 8 + 7, none⟩ = some (Str raw) := hc1 7 (by omega)
      clear hc1
      have hlti : (k : Int) < (len : Int) := by omega
      go_wp2_with fail
      refine (HM.out _).mono ?_
      rintro e w2 ⟨rfl, hb⟩
      have kb := (Blk.new wr #[.int .i64 kind, .int .i64 side, .int .i64 ck, .int .i64 cs, .int .i64 cn, Str cb, .int .i64 n, Str raw] 160).below hb (by simp)
      have hB2 := Below.chain hb (Below.chainAlloc hB (.cells #[.int .i64 kind, .int .i64 side, .int .i64 ck, .int .i64 cs, .int .i64 cn, Str cb, .int .i64 n, Str raw] 160))
      clear hb hB HM c0 c1 c2 c3 c4 c5 c6 c7
      have hB := hB2
      clear hB2
      cases hmd : mayA ⟨kind, side, ck, cs, cn, cb, n, raw⟩ with
      | false =>
        have HE := Lib.hid (show putAE ds = 1 by
          rw [hE.out, if_neg]
          intro h
          rw [List.all_eq_true] at h
          rw [h _ HIN.out] at hmd
          cases hmd)
        have HSS := Lib.hid (show putAS ds = [] by rw [hS.out, if_neg (by rw [HE.out]; decide)])
        clear hmd
        go_wp2_with fail
        go_ret2
        refine ⟨?_, hB⟩
        rw [HE.out, HSS.out]
        rfl
      | true =>
        have hma := mayA_facts hmd
        obtain ⟨hk', hs', hn', hc', hr', h0', hw'⟩ := hma
        simp only at hk' hs' hn' hc' hr' h0' hw'
        have hmin : acc.length ≤ 2060 * 1024 := by
          have : min k ds.length ≤ 1024 := by omega
          omega
        have Q1 : putS kind 1 = be kind 1 := putS_ok kind 1 (by omega) (by omega) (by omega)
        have Q2 : putS side 1 = be side 1 := putS_ok side 1 (by omega) (by omega) (by omega)
        have Q3 : putS n 4 = be n 4 := putS_ok n 4 (by omega) (by omega) (by omega)
        have M1 : (be kind 1).length = 1 := be_length _ _
        have M2 : (be side 1).length = 1 := be_length _ _
        have M3 : (be n 4).length = 4 := be_length _ _
        have q1 : 0 ≤ kind := by omega
        have q2 : kind < 4294967296 := by omega
        have q3 : 0 ≤ side := by omega
        have q4 : side < 4294967296 := by omega
        have q5 : 0 ≤ n := by omega
        have q6 : n < 4294967296 := by omega
        have z1 : ¬ 9223372036854775807 < acc.length + 1 := by omega
        have z2 : ¬ 9223372036854775807 < acc.length + 2 := by omega
        have z6 : ¬ 9223372036854775807 < acc.length + 6 := by omega
        have HMD := Lib.hid hmd
        obtain ⟨A2, hA2⟩ : ∃ A2, acc ++ be kind 1 ++ be side 1 ++ be n 4 = A2 := ⟨_, rfl⟩
        have EH := Lib.hid (show ((⟨acc.toArray⟩ : ByteArray) ++ ⟨(be kind 1).toArray⟩ ++ ⟨(be side 1).toArray⟩ ++ ⟨(be n 4).toArray⟩) = ⟨A2.toArray⟩ by rw [← hA2]; simp only [app_lists])
        have hA2l : A2.length ≤ 2060 * 1024 + 6 := by rw [← hA2]; simp only [List.length_append, M1, M2, M3]; omega
        have HA2 := Lib.hid hA2
        clear hmd hfl hA2
        go_upto_region 10 with fail
        obtain ⟨B0, hB0⟩ : ∃ B0, wr.heap.size = B0 := ⟨_, rfl⟩
        rw [hB0] at kb ⊢
        clear hB0
        have hmk : ∀ w', Below w2.heap.size w2 w' → ((∀ o, w'.cell? ⟨B0, o, none⟩ = #[.int .i64 kind, .int .i64 side, .int .i64 ck, .int .i64 cs, .int .i64 cn, Str cb, .int .i64 n, Str raw][o]?) ∧ Below w2.heap.size w2 w') := fun w' h => ⟨fun o => (h.cell (p := ⟨B0, o, none⟩) kb.lt).trans (kb.facts.1 o), h⟩
        have HMK := Lib.hid hmk
        have HKB := Lib.hid kb
        have HWB := Lib.hid hB
        clear hmk kb hB
        go_region_held3 (fun w' => (∀ o, w'.cell? ⟨B0, o, none⟩ = #[.int .i64 kind, .int .i64 side, .int .i64 ck, .int .i64 cs, .int .i64 cn, Str cb, .int .i64 n, Str raw][o]?) ∧ Below w2.heap.size w2 w')
          (first
            | exact HMK.out _ (Below.refl _ _).drew
            | exact HMK.out _ (Below.refl _ _)
            | (go_split_ands; exact HMK.out _ (Below.chain hb (by assumption))))
          ((go_at_call 91; refine (num_r _ _ ?_ ?_ _).mono ?_; (first | omega | assumption); (first | omega | assumption); rintro x w4 ⟨rfl, hb⟩))
        rename_i hHeld
        have kb := HKB.out.below hHeld.2 HKB.out.lt
        have hB := Below.chain hHeld.2 HWB.out
        clear hHeld HMK HKB HWB
        rw [EH.out]
        clear EH M1 M2 M3 Q1 Q2 Q3 z1 z2 z6
        obtain ⟨cbk, fbk, lbk⟩ := kb.facts
        by_cases kk1 : kind = 1
        · subst kk1
          obtain ⟨rfl, x1, x2, x3, x4⟩ := hc' rfl
          have P1 : putS ck 1 = be ck 1 := putS_ok ck 1 (by omega) (by omega) (by omega)
          have P2 : putS cs 1 = be cs 1 := putS_ok cs 1 (by omega) (by omega) (by omega)
          have P3 : putS cn 2 = be cn 2 := putS_ok cn 2 (by omega) (by omega) (by omega)
          have P4 : putS (cb.length : Int) 2 = be (cb.length : Int) 2 := putS_ok (cb.length : Int) 2 (by omega) (by omega) (by omega)
          have L1 : (be ck 1).length = 1 := be_length _ _
          have L2 : (be cs 1).length = 1 := be_length _ _
          have L3 : (be cn 2).length = 2 := be_length _ _
          have L4 : (be (cb.length : Int) 2).length = 2 := be_length _ _
          have t1 : ck < 4294967296 := by omega
          have t2 : cs < 4294967296 := by omega
          have t3 : cn < 4294967296 := by omega
          have t4 : (cb.length : Int) < 4294967296 := by omega
          have t5 : 0 ≤ ck := by omega
          have z1 : ¬ 9223372036854775807 < A2.length + 1 := by omega
          have z2 : ¬ 9223372036854775807 < A2.length + 2 := by omega
          have z4 : ¬ 9223372036854775807 < A2.length + 4 := by omega
          have z6 : ¬ 9223372036854775807 < A2.length + 6 := by omega
          have z7 : ¬ 9223372036854775807 < A2.length + 6 + cb.length := by omega
          have ET := Lib.hid (show ((⟨A2.toArray⟩ : ByteArray) ++ ⟨(be ck 1).toArray⟩ ++ ⟨(be cs 1).toArray⟩ ++ ⟨(be cn 2).toArray⟩ ++ ⟨(be (cb.length : Int) 2).toArray⟩ ++ ⟨cb.toArray⟩) = ⟨(A2 ++ (be ck 1 ++ be cs 1 ++ be cn 2 ++ be (cb.length : Nat) 2 ++ cb)).toArray⟩ by simp only [app_lists]; simp)
          have HEN := Lib.hid (show acc ++ encA ⟨1, side, ck, cs, cn, cb, n, []⟩ = A2 ++ (be ck 1 ++ be cs 1 ++ be cn 2 ++ be (cb.length : Nat) 2 ++ cb) by
            unfold encA restA
            simp only; rw [if_pos trivial, ← HA2.out]; simp)
          go_upto_region 12 with fail
          clear cbk fbk lbk
          have hmk : ∀ w', Below w4.heap.size w4 w' → ((∀ o, w'.cell? ⟨B0, o, none⟩ = #[.int .i64 1, .int .i64 side, .int .i64 ck, .int .i64 cs, .int .i64 cn, Str cb, .int .i64 n, Str []][o]?) ∧ Below w4.heap.size w4 w') := fun w' h => ⟨fun o => (h.cell (p := ⟨B0, o, none⟩) kb.lt).trans (kb.facts.1 o), h⟩
          have HMK := Lib.hid hmk
          have HKB := Lib.hid kb
          have HWB := Lib.hid hB
          clear hmk kb hB
          go_region_held3 (fun w' => (∀ o, w'.cell? ⟨B0, o, none⟩ = #[.int .i64 1, .int .i64 side, .int .i64 ck, .int .i64 cs, .int .i64 cn, Str cb, .int .i64 n, Str []][o]?) ∧ Below w4.heap.size w4 w')
            (first
              | exact HMK.out _ (Below.refl _ _).drew
              | exact HMK.out _ (Below.refl _ _)
              | (go_split_ands; exact HMK.out _ (Below.chain hb (by assumption))))
            ((go_at_call 91; refine (num_r _ _ ?_ ?_ _).mono ?_; (first | omega | assumption); (first | omega | assumption); rintro x w9 ⟨rfl, hb⟩))
          rename_i hHeld
          have kb := HKB.out.below hHeld.2 HKB.out.lt
          have hB := Below.chain hHeld.2 HWB.out
          clear hHeld HMK HKB HWB
          rw [ET.out]
          clear ET L1 L2 L3 L4 P1 P2 P3 P4 z1 z2 z4 z6 z7
          obtain ⟨cbk, fbk, lbk⟩ := kb.facts
          go_wp2_with fail
          go_roundg (len - (k + 1))
          case measure => omega
          case rel =>
            refine ⟨k + 1, by omega, by omega, ?_, by go_num, ?_, hB⟩
            · rw [HS.out, List.flatMap_append, HACC.out, List.flatMap_cons, List.flatMap_nil, List.append_nil, HEN.out]
            · intro x hx
              rw [HS.out] at hx
              rcases List.mem_append.1 hx with hx | hx
              · exact HMAY.out x hx
              · obtain rfl := List.mem_singleton.1 hx
                exact HMD.out
        · by_cases kk2 : kind = 10
          · subst kk2
            obtain ⟨rfl, rfl, rfl, rfl⟩ := h0' kk1
            have x4 := hr' rfl
            have P4 : putS (raw.length : Int) 2 = be (raw.length : Int) 2 := putS_ok (raw.length : Int) 2 (by omega) (by omega) (by omega)
            have L4 : (be (raw.length : Int) 2).length = 2 := be_length _ _
            have t4 : (raw.length : Int) < 4294967296 := by omega
            have z2 : ¬ 9223372036854775807 < A2.length + 2 := by omega
            have z7 : ¬ 9223372036854775807 < A2.length + 2 + raw.length := by omega
            have ET := Lib.hid (show ((⟨A2.toArray⟩ : ByteArray) ++ ⟨(be (raw.length : Int) 2).toArray⟩ ++ ⟨raw.toArray⟩) = ⟨(A2 ++ (be (raw.length : Nat) 2 ++ raw)).toArray⟩ by simp only [app_lists]; simp)
            have HEN := Lib.hid (show acc ++ encA ⟨10, side, 0, 0, 0, [], n, raw⟩ = A2 ++ (be (raw.length : Nat) 2 ++ raw) by
              unfold encA restA
              simp only; rw [if_neg (show ¬ (10 : Int) = 1 by decide), if_pos trivial, ← HA2.out]; simp)
            go_upto_region 14 with fail
            clear cbk fbk lbk
            have hmk : ∀ w', Below w4.heap.size w4 w' → ((∀ o, w'.cell? ⟨B0, o, none⟩ = #[.int .i64 10, .int .i64 side, .int .i64 0, .int .i64 0, .int .i64 0, Str [], .int .i64 n, Str raw][o]?) ∧ Below w4.heap.size w4 w') := fun w' h => ⟨fun o => (h.cell (p := ⟨B0, o, none⟩) kb.lt).trans (kb.facts.1 o), h⟩
            have HMK := Lib.hid hmk
            have HKB := Lib.hid kb
            have HWB := Lib.hid hB
            clear hmk kb hB
            go_region_held3 (fun w' => (∀ o, w'.cell? ⟨B0, o, none⟩ = #[.int .i64 10, .int .i64 side, .int .i64 0, .int .i64 0, .int .i64 0, Str [], .int .i64 n, Str raw][o]?) ∧ Below w4.heap.size w4 w')
              (first
                | exact HMK.out _ (Below.refl _ _).drew
                | exact HMK.out _ (Below.refl _ _)
                | (go_split_ands; exact HMK.out _ (Below.chain hb (by assumption))))
              ((go_at_call 91; refine (num_r _ _ ?_ ?_ _).mono ?_; (first | omega | assumption); (first | omega | assumption); rintro x w9 ⟨rfl, hb⟩))
            rename_i hHeld
            have kb := HKB.out.below hHeld.2 HKB.out.lt
            have hB := Below.chain hHeld.2 HWB.out
            clear hHeld HMK HKB HWB
            rw [ET.out]
            clear ET L4 P4 z2 z7
            go_wp2_with fail
            go_roundg (len - (k + 1))
            case measure => omega
            case rel =>
              refine ⟨k + 1, by omega, by omega, ?_, by go_num, ?_, hB⟩
              · rw [HS.out, List.flatMap_append, HACC.out, List.flatMap_cons, List.flatMap_nil, List.append_nil, HEN.out]
              · intro x hx
                rw [HS.out] at hx
                rcases List.mem_append.1 hx with hx | hx
                · exact HMAY.out x hx
                · obtain rfl := List.mem_singleton.1 hx
                  exact HMD.out
          · obtain ⟨rfl, rfl, rfl, rfl⟩ := h0' kk1
            obtain rfl := hw' kk2
            have HEN := Lib.hid (show acc ++ encA ⟨kind, side, 0, 0, 0, [], n, []⟩ = A2 by
              unfold encA restA
              simp only; rw [if_neg kk1, if_neg kk2, ← HA2.out]; simp)
            have d1 : (kind == 1) = false := by simpa using kk1
            have d2 : (kind == 10) = false := by simpa using kk2
            go_wp2_with fail
            go_roundg (len - (k + 1))
            case measure => omega
            case rel =>
              refine ⟨k + 1, by omega, by omega, ?_, by go_num, ?_, hB⟩
              · rw [HS.out, List.flatMap_append, HACC.out, List.flatMap_cons, List.flatMap_nil, List.append_nil, HEN.out]
              · intro x hx
                rw [HS.out] at hx
                rcases List.mem_append.1 hx with hx | hx
                · exact HMAY.out x hx
                · obtain rfl := List.mem_singleton.1 hx
                  exact HMD.out
    · obtain rfl : k = len := by omega
      have hnl : ¬ (k : Int) < (k : Int) := by omega
      have hfull : ds.take k = ds := by rw [← HL.out]; exact List.take_length
      have HE := Lib.hid (show putAE ds = 0 by
        rw [hE.out, if_pos]
        rw [List.all_eq_true]
        intro x hx
        exact HMAY.out x (by rw [hfull]; exact hx))
      have HSS := Lib.hid (show putAS ds = (ds.take k).flatMap encA by rw [hS.out, if_pos HE.out, hfull])
      generalize (ds.take k).flatMap encA = acc at *
      go_wp2_with fail
      go_ret2
      refine ⟨?_, hB⟩
      rw [HE.out, HSS.out]
      rfl
theorem rput_s (a : Option Addr) (len cap : Nat) (ds : List Ac) (w : World) (hz : IsRows 8 Ac.vals w a len cap ds) : Calls Try.prog 39 #[.slice a len cap] w (RetB (.tuple #[Str (putAS ds), .int .i64 (putAE ds)]) w) := by
  obtain ⟨l1, l2⟩ := rows_len hz
  by_cases h : len ≤ 1024
  · exact rput_few a len cap ds w hz h
  · have e : putAE ds = 3 := by unfold putAE; rw [if_pos (by omega)]
    have e2 : putAS ds = [] := by unfold putAS; rw [if_neg (by rw [e]; decide)]
    rw [e, e2]
    exact rput_far a len cap w (by omega) l2
end Go.Proofs.Ytdjjienklfbalaa
