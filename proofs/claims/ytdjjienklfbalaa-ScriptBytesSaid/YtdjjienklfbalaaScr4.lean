/-
  Scripts: steps' bytes: the program's contract (chapter 33).
-/
import Derived.Test.YtdjjienklfbalaaScr3
import Derived.Test.YtdjjienklfbalaaFlat
import Derived.Shelf.Abstract
namespace Go.Proofs.Ytdjjienklfbalaa
open Go.RowKit
set_option linter.unusedVariables false
set_option maxRecDepth 100000
set_option maxHeartbeats 1000000
theorem meth_1 (ck cs cn : Int) (cb : List UInt8) (w : World) : (method 490 229 (.agg #[.int .i64 ck, .int .i64 cs, .int .i64 cn, Str cb]) "lightship/script.rest").run Try.prog w = .ok (199, .agg #[.int .i64 ck, .int .i64 cs, .int .i64 cn, Str cb]) w := by kernel_rfl
theorem meth_10 (raw : List UInt8) (w : World) : (method 490 232 (.agg #[Str raw]) "lightship/script.rest").run Try.prog w = .ok (200, .agg #[Str raw]) w := by kernel_rfl
theorem meth_o (w : World) : (method 490 234 (.agg #[]) "lightship/script.rest").run Try.prog w = .ok (201, .agg #[]) w := by kernel_rfl
theorem en_1 : ∀ args w, (callFunc 199 args).run Try.prog w = .ok (.enter 199 args) w := enters_of Try.func199 (by kernel_rfl) rfl
theorem en_10 : ∀ args w, (callFunc 200 args).run Try.prog w = .ok (.enter 200 args) w := enters_of Try.func200 (by kernel_rfl) rfl
theorem en_o : ∀ args w, (callFunc 201 args).run Try.prog w = .ok (.enter 201 args) w := enters_of Try.func201 (by kernel_rfl) rfl
theorem put_far (a : Option Addr) (len cap : Nat) (w : World) (hm : 1024 < len) (hl : len ≤ 9223372036854775807) : Calls Try.prog 38 #[.slice a len cap] w (RetB (.tuple #[Str [], .int .i64 3]) w) := by
  go_enter Try.func38, Try.ntmps38
  go_wp2_with fail
  go_ret2
  exact ⟨rfl, Below.refl _ _⟩
theorem encA_le (a : Ac) (h : mayA a = true) : (encA a).length ≤ 2060 ∧ (restA a).length ≤ 2054 := by
  obtain ⟨hk, hs, hn, hc, hr, h0, hw⟩ := mayA_facts h
  have e : (encA a).length = 6 + (restA a).length := by unfold encA; simp [be_length]; omega
  rw [e]
  have : (restA a).length ≤ 2054 := by
    unfold restA
    split
    · rename_i k1
      have := (hc k1).2.2.2.2
      simp [be_length]
      omega
    · split
      · rename_i k2
        have := hr k2
        simp [be_length]
        omega
      · simp
  omega
theorem flat_le : ∀ (l : List Ac), (∀ a ∈ l, mayA a = true) → (l.flatMap encA).length ≤ 2060 * l.length
  | [], _ => by simp
  | a :: l, h => by
    have h1 := (encA_le a (h a (by simp))).1
    have h2 := flat_le l (fun b hb => h b (by simp [hb]))
    rw [List.flatMap_cons, List.length_append, List.length_cons]
    omega
theorem Kept.blk {b k : Nat} {w w' : World} {cs : Array Value} {t : TypeId} (h : Kept b w w') (hk : Blk w k cs t) (hb : k ≠ b) (ht : t ≠ 5) : Blk w' k cs t := by
  have hl := hk.lt
  unfold Blk at *
  rw [h.2 k hl hb (fun cs' fr e => by rw [hk] at e; injection e with e; injection e with _ e2 _; exact ht e2)]
  exact hk
theorem put_few (a : Option Addr) (len cap : Nat) (ds : List Ac) (w : World) (hz : IsRows 8 Ac.vals w a len cap ds) (hlen : len ≤ 1024) :
    Calls Try.prog 38 #[.slice a len cap] w (RetB (.tuple #[Str (putAS ds), .int .i64 (putAE ds)]) w) := by
  obtain ⟨h1, h2, h3, h4⟩ := hz
  have hls : len ≤ 9223372036854775807 := by omega
  have hE : Hid (putAE ds = if ds.all mayA then 0 else 1) := Lib.hid (by unfold putAE; rw [if_neg (by omega)])
  have hS : Hid (putAS ds = if putAE ds = 0 then ds.flatMap encA else []) := Lib.hid rfl
  have HL := Lib.hid h1
  have H4 := Lib.hid h4
  clear h1 h2 h3 h4
  go_enter Try.func38, Try.ntmps38
  go_wp2_with fail
  have hb0 := Bl.new w
  have hB0 := Below.chainAlloc (Below.refl w.heap.size w) (.cells #[.pointer none, .slice none 0 0] 163)
  go_loopg [12] len (fun gk i wr => ∃ k : Nat, k ≤ len ∧ len ≤ k + gk ∧ i = .int .i64 k ∧ (∀ x ∈ ds.take k, mayA x = true) ∧ Bl w.heap.size w.heap.size ((ds.take k).flatMap encA) wr ∧ Below w.heap.size w wr ∧ w.heap.size < wr.heap.size)
  case atStart => exact ⟨0, by omega, by omega, rfl, by simp, by simpa using hb0, hB0, by simp⟩
  case round =>
    obtain ⟨k, hk, hgk, rfl, hmay, hbl, hB, hlt0⟩ := hrel
    have HMAY := Lib.hid hmay
    clear hmay
    by_cases hlt : k < len
    · obtain ⟨g, off, rfl, hg, hc⟩ := H4.out.resolve_left (by omega)
      have hkd : k < ds.length := by rw [HL.out]; exact hlt
      have hc1 := fun j hj => (hB.cell (p := ⟨g, off + k * 8 + j, none⟩) hg).trans (hc k hkd j hj)
      have HS := Lib.hid (show ds.take (k + 1) = ds.take k ++ [ds[k]] from List.take_succ_eq_append_getElem hkd)
      have HIN := Lib.hid (show ds[k] ∈ ds from List.getElem_mem hkd)
      clear hc
      generalize hd : ds[k] = d at *
      clear hd
      have hfl := flat_le _ HMAY.out
      rw [List.length_take] at hfl
      generalize hacc : (ds.take k).flatMap encA = acc at *
      have HACC := Lib.hid hacc
      clear hacc
      have HM := Lib.hid (fun w => may_s d w)
      obtain ⟨kind, side, ck, cs, cn, cb, n, raw⟩ := d
      have c0 : wr.cell? ⟨g, off + k * 8, none⟩ = some (.int .i64 kind) := hc1 0 (by omega)
      have c1 : wr.cell? ⟨g, off + k * 8 + 1, none⟩ = some (.int .i64 side) := hc1 1 (by omega)
      have c2 : wr.cell? ⟨g, off + k * 8 + 2, none⟩ = some (.int .i64 ck) := hc1 2 (by omega)
      have c3 : wr.cell? ⟨g, off + k * 8 + 3, none⟩ = some (.int .i64 cs) := hc1 3 (by omega)
      have c4 : wr.cell? ⟨g, off + k * 8 + 4, none⟩ = some (.int .i64 cn) := hc1 4 (by omega)
      have c5 : wr.cell? ⟨g, off + k * 8 + 5, none⟩ = some (Str cb) := hc1 5 (by omega)
      have c6 : wr.cell? ⟨g, off + k * 8 + 6, none⟩ = some (.int .i64 n) := hc1 6 (by omega)
      have c7 : wr.cell? ⟨g, off + k * 8 + 7, none⟩ = some (Str raw) := hc1 7 (by omega)
      clear hc1
      have hlti : (k : Int) < (len : Int) := by omega
      go_wp2_with fail
      refine (HM.out _).mono ?_
      rintro e w2 ⟨rfl, hb⟩
      have k2 := (Blk.new wr #[.int .i64 kind, .int .i64 side, .int .i64 ck, .int .i64 cs, .int .i64 cn, Str cb, .int .i64 n, Str raw] 160).below hb (by simp)
      have hbl1 := Bl.chain hbl (Below.chainAlloc (Below.refl wr.heap.size wr) (.cells #[.int .i64 kind, .int .i64 side, .int .i64 ck, .int .i64 cs, .int .i64 cn, Str cb, .int .i64 n, Str raw] 160))
      have hbl2 := Bl.chain hbl1 hb
      have hB2 := Below.chain hb (Below.chainAlloc hB (.cells #[.int .i64 kind, .int .i64 side, .int .i64 ck, .int .i64 cs, .int .i64 cn, Str cb, .int .i64 n, Str raw] 160))
      have hGw : w.heap.size ≤ wr.heap.size := by omega
      have hGb : w.heap.size < wr.heap.size := hlt0
      clear hb hbl1 hbl hB HM c0 c1 c2 c3 c4 c5 c6 c7
      obtain ⟨c2, f2, l2⟩ := k2.facts
      cases hmd : mayA ⟨kind, side, ck, cs, cn, cb, n, raw⟩ with
      | false =>
        have HE := Lib.hid (show putAE ds = 1 by
          rw [hE.out, if_neg]
          intro h
          rw [List.all_eq_true] at h
          rw [h _ HIN.out] at hmd
          cases hmd)
        have HSS := Lib.hid (show putAS ds = [] by rw [hS.out, if_neg (by rw [HE.out]; decide)])
        clear hmd
        go_wp2_with fail
        go_ret2
        refine ⟨?_, hB2⟩
        rw [HE.out, HSS.out]
        rfl
      | true =>
        have hma := mayA_facts hmd
        obtain ⟨hk', hs', hn', hc', hr', h0', hw'⟩ := hma
        simp only at hk' hs' hn' hc' hr' h0' hw'
        have hmin : acc.length ≤ 2060 * 1024 := by
          have : min k ds.length ≤ 1024 := by omega
          omega
        have P1 : putS kind 1 = be kind 1 := putS_ok kind 1 (by omega) (by omega) (by omega)
        have P2 : putS side 1 = be side 1 := putS_ok side 1 (by omega) (by omega) (by omega)
        have P3 : putS n 4 = be n 4 := putS_ok n 4 (by omega) (by omega) (by omega)
        have L1 : (be kind 1).length = 1 := be_length _ _
        have L2 : (be side 1).length = 1 := be_length _ _
        have L3 : (be n 4).length = 4 := be_length _ _
        have q1 : 0 ≤ kind := by omega
        have q2 : kind < 4294967296 := by omega
        have q3 : 0 ≤ side := by omega
        have q4 : side < 4294967296 := by omega
        have q5 : 0 ≤ n := by omega
        have q6 : n < 4294967296 := by omega
        have HMD := Lib.hid hmd
        clear hmd hfl
        by_cases kk1 : kind = 1
        · subst kk1
          obtain ⟨rfl, x1, x2, x3, x4⟩ := hc' rfl
          have HOF := Lib.hid (of_1 side ck cs cn cb n [])
          have HRF := Lib.hid (rest_1 ck cs cn cb (by omega) (by omega) (by omega) (by omega) (by omega) (by omega) x4)
          have LR : (be ck 1 ++ be cs 1 ++ be cn 2 ++ be (cb.length : Nat) 2 ++ cb).length = 6 + cb.length := by simp [be_length]; omega
          have hsz : ¬ 9223372036854775807 < 6 + (6 + cb.length) := by omega
          have hsz2 : ¬ 9223372036854775807 < 6 + (be ck 1 ++ be cs 1 ++ be cn 2 ++ be (cb.length : Nat) 2 ++ cb).length := by omega
          have hme := meth_1 ck cs cn cb
          have hen := en_1
          generalize hRR : be ck 1 ++ be cs 1 ++ be cn 2 ++ be (cb.length : Nat) 2 ++ cb = RR at *
          have HRR := Lib.hid hRR
          clear hRR hc' hr' h0' hw'
          go_upto_region 9 with fail
          generalize wr.heap.size = G at *
          have hmk : ∀ w', Blk w' G #[.int .i64 1, .int .i64 side, .int .i64 ck, .int .i64 cs, .int .i64 cn, Str cb, .int .i64 n, Str []] 160 → Below w.heap.size w w' → (Blk w' G #[.int .i64 1, .int .i64 side, .int .i64 ck, .int .i64 cs, .int .i64 cn, Str cb, .int .i64 n, Str []] 160 ∧ (∀ o, w'.cell? ⟨G, o, none⟩ = #[.int .i64 1, .int .i64 side, .int .i64 ck, .int .i64 cs, .int .i64 cn, Str cb, .int .i64 n, Str []][o]?) ∧ Below w.heap.size w w' ∧ w.heap.size < w'.heap.size) := fun w' hk hb => ⟨hk, hk.facts.1, hb, Nat.lt_of_le_of_lt hGw hk.lt⟩
          have HMK := Lib.hid hmk
          have hbd := Bl.chain hbl2 (show Below w2.heap.size w2 w2.drew from (Below.refl _ _).drew)
          have k2d : Blk w2.drew G #[.int .i64 1, .int .i64 side, .int .i64 ck, .int .i64 cs, .int .i64 cn, Str cb, .int .i64 n, Str []] 160 := k2
          have hB2d : Below w.heap.size w w2.drew := hB2.drew
          clear hmk hbl2 k2 hB2
          go_region_held3 (fun w' => Blk w' G #[.int .i64 1, .int .i64 side, .int .i64 ck, .int .i64 cs, .int .i64 cn, Str cb, .int .i64 n, Str []] 160 ∧ (∀ o, w'.cell? ⟨G, o, none⟩ = #[.int .i64 1, .int .i64 side, .int .i64 ck, .int .i64 cs, .int .i64 cn, Str cb, .int .i64 n, Str []][o]?) ∧ Below w.heap.size w w' ∧ w.heap.size < w'.heap.size)
            (first
              | exact HMK.out _ k2d hB2d
              | (go_split_ands; exact HMK.out _ (Blk.below (by assumption) hb (Blk.lt (by assumption))) (Below.chain hb (by assumption)))
              | (go_split_ands; exact HMK.out _ (Kept.blk hkp (by assumption) (by omega) (by decide)) (Below.trans (by assumption) hb)))
            (first
              | (go_at_call 87; refine (num_s _ _ ?_ ?_ _).mono ?_; (first | omega | assumption); (first | omega | assumption); rintro x w4 ⟨rfl, hb⟩; have hbd := Bl.chain hbd hb)
              | (go_at_call 88; refine (HOF.out _).mono ?_; rintro x w4 ⟨rfl, hb⟩; have hbd := Bl.chain hbd hb)
              | (go_at_call 199; refine (HRF.out _).mono ?_; rintro x w4 ⟨rfl, hb⟩; have hbd := Bl.chain hbd hb)
              | (go_at_call 86; simp only [app_lists]; refine (write_bl _ _ _ _ _ hbd ?_ ?_).mono ?_; (simp; omega); omega; rintro x w4 ⟨rfl, hbd2, hb, hkp⟩))
          rename_i hHeld
          have HEN := Lib.hid (show encA ⟨1, side, ck, cs, cn, cb, n, []⟩ = be 1 1 ++ be side 1 ++ be n 4 ++ RR by
            unfold encA restA
            simp only; rw [if_pos trivial, HRR.out])
          clear hbd hkp k2d hB2d
          go_wp2_with fail
          go_roundg (len - (k + 1))
          case measure => omega
          case rel =>
            refine ⟨k + 1, by omega, by omega, by go_num, ?_, ?_, hHeld.2.2.1, hHeld.2.2.2⟩
            · intro x hx
              rw [HS.out] at hx
              rcases List.mem_append.1 hx with hx | hx
              · exact HMAY.out x hx
              · obtain rfl := List.mem_singleton.1 hx
                exact HMD.out
            · rw [HS.out, List.flatMap_append, HACC.out, List.flatMap_cons, List.flatMap_nil, List.append_nil, HEN.out]
              simpa using hbd2
        · by_cases kk2 : kind = 10
          · subst kk2
            obtain ⟨rfl, rfl, rfl, rfl⟩ := h0' kk1
            have x4 := hr' rfl
            have HOF := Lib.hid (of_10 side 0 0 0 [] n raw)
            have HRF := Lib.hid (rest_10 raw x4)
            have LR : (be (raw.length : Nat) 2 ++ raw).length = 2 + raw.length := by simp [be_length]
            have hsz : ¬ 9223372036854775807 < 6 + (2 + raw.length) := by omega
            have hsz2 : ¬ 9223372036854775807 < 6 + (be (raw.length : Nat) 2 ++ raw).length := by omega
            have hme := meth_10 raw
            have hen := en_10
            generalize hRR : be (raw.length : Nat) 2 ++ raw = RR at *
            have HRR := Lib.hid hRR
            clear hRR hc' hr' h0' hw'
            go_upto_region 9 with fail
            generalize wr.heap.size = G at *
            have hmk : ∀ w', Blk w' G #[.int .i64 10, .int .i64 side, .int .i64 0, .int .i64 0, .int .i64 0, Str [], .int .i64 n, Str raw] 160 → Below w.heap.size w w' → (Blk w' G #[.int .i64 10, .int .i64 side, .int .i64 0, .int .i64 0, .int .i64 0, Str [], .int .i64 n, Str raw] 160 ∧ (∀ o, w'.cell? ⟨G, o, none⟩ = #[.int .i64 10, .int .i64 side, .int .i64 0, .int .i64 0, .int .i64 0, Str [], .int .i64 n, Str raw][o]?) ∧ Below w.heap.size w w' ∧ w.heap.size < w'.heap.size) := fun w' hk hb => ⟨hk, hk.facts.1, hb, Nat.lt_of_le_of_lt hGw hk.lt⟩
            have HMK := Lib.hid hmk
            have hbd := Bl.chain hbl2 (show Below w2.heap.size w2 w2.drew from (Below.refl _ _).drew)
            have k2d : Blk w2.drew G #[.int .i64 10, .int .i64 side, .int .i64 0, .int .i64 0, .int .i64 0, Str [], .int .i64 n, Str raw] 160 := k2
            have hB2d : Below w.heap.size w w2.drew := hB2.drew
            clear hmk hbl2 k2 hB2
            go_region_held3 (fun w' => Blk w' G #[.int .i64 10, .int .i64 side, .int .i64 0, .int .i64 0, .int .i64 0, Str [], .int .i64 n, Str raw] 160 ∧ (∀ o, w'.cell? ⟨G, o, none⟩ = #[.int .i64 10, .int .i64 side, .int .i64 0, .int .i64 0, .int .i64 0, Str [], .int .i64 n, Str raw][o]?) ∧ Below w.heap.size w w' ∧ w.heap.size < w'.heap.size)
              (first
                | exact HMK.out _ k2d hB2d
                | (go_split_ands; exact HMK.out _ (Blk.below (by assumption) hb (Blk.lt (by assumption))) (Below.chain hb (by assumption)))
                | (go_split_ands; exact HMK.out _ (Kept.blk hkp (by assumption) (by omega) (by decide)) (Below.trans (by assumption) hb)))
              (first
                | (go_at_call 87; refine (num_s _ _ ?_ ?_ _).mono ?_; (first | omega | assumption); (first | omega | assumption); rintro x w4 ⟨rfl, hb⟩; have hbd := Bl.chain hbd hb)
                | (go_at_call 88; refine (HOF.out _).mono ?_; rintro x w4 ⟨rfl, hb⟩; have hbd := Bl.chain hbd hb)
                | (go_at_call 200; refine (HRF.out _).mono ?_; rintro x w4 ⟨rfl, hb⟩; have hbd := Bl.chain hbd hb)
                | (go_at_call 86; simp only [app_lists]; refine (write_bl _ _ _ _ _ hbd ?_ ?_).mono ?_; (simp; omega); omega; rintro x w4 ⟨rfl, hbd2, hb, hkp⟩))
            rename_i hHeld
            have HEN := Lib.hid (show encA ⟨10, side, 0, 0, 0, [], n, raw⟩ = be 10 1 ++ be side 1 ++ be n 4 ++ RR by
              unfold encA restA
              simp only; rw [if_neg (show ¬ (10 : Int) = 1 by decide), if_pos trivial, HRR.out])
            clear hbd hkp k2d hB2d
            go_wp2_with fail
            go_roundg (len - (k + 1))
            case measure => omega
            case rel =>
              refine ⟨k + 1, by omega, by omega, by go_num, ?_, ?_, hHeld.2.2.1, hHeld.2.2.2⟩
              · intro x hx
                rw [HS.out] at hx
                rcases List.mem_append.1 hx with hx | hx
                · exact HMAY.out x hx
                · obtain rfl := List.mem_singleton.1 hx
                  exact HMD.out
              · rw [HS.out, List.flatMap_append, HACC.out, List.flatMap_cons, List.flatMap_nil, List.append_nil, HEN.out]
                simpa using hbd2
          · have d1 : (kind == 1) = false := by simpa using kk1
            have d10 : (kind == 10) = false := by simpa using kk2
            have HOF := Lib.hid (of_o kind side ck cs cn cb n raw d1 d10)
            have HRF := Lib.hid rest_o
            have hme := meth_o
            have hen := en_o
            have HKK := Lib.hid (And.intro kk1 kk2)
            clear kk1 kk2 d1 d10
            go_upto_region 9 with fail
            generalize wr.heap.size = G at *
            have hmk : ∀ w', Blk w' G #[.int .i64 kind, .int .i64 side, .int .i64 ck, .int .i64 cs, .int .i64 cn, Str cb, .int .i64 n, Str raw] 160 → Below w.heap.size w w' → (Blk w' G #[.int .i64 kind, .int .i64 side, .int .i64 ck, .int .i64 cs, .int .i64 cn, Str cb, .int .i64 n, Str raw] 160 ∧ (∀ o, w'.cell? ⟨G, o, none⟩ = #[.int .i64 kind, .int .i64 side, .int .i64 ck, .int .i64 cs, .int .i64 cn, Str cb, .int .i64 n, Str raw][o]?) ∧ Below w.heap.size w w' ∧ w.heap.size < w'.heap.size) := fun w' hk hb => ⟨hk, hk.facts.1, hb, Nat.lt_of_le_of_lt hGw hk.lt⟩
            have HMK := Lib.hid hmk
            have hbd := Bl.chain hbl2 (show Below w2.heap.size w2 w2.drew from (Below.refl _ _).drew)
            have k2d : Blk w2.drew G #[.int .i64 kind, .int .i64 side, .int .i64 ck, .int .i64 cs, .int .i64 cn, Str cb, .int .i64 n, Str raw] 160 := k2
            have hB2d : Below w.heap.size w w2.drew := hB2.drew
            clear hmk hbl2 k2 hB2
            go_region_held3 (fun w' => Blk w' G #[.int .i64 kind, .int .i64 side, .int .i64 ck, .int .i64 cs, .int .i64 cn, Str cb, .int .i64 n, Str raw] 160 ∧ (∀ o, w'.cell? ⟨G, o, none⟩ = #[.int .i64 kind, .int .i64 side, .int .i64 ck, .int .i64 cs, .int .i64 cn, Str cb, .int .i64 n, Str raw][o]?) ∧ Below w.heap.size w w' ∧ w.heap.size < w'.heap.size)
              (first
                | exact HMK.out _ k2d hB2d
                | (go_split_ands; exact HMK.out _ (Blk.below (by assumption) hb (Blk.lt (by assumption))) (Below.chain hb (by assumption)))
                | (go_split_ands; exact HMK.out _ (Kept.blk hkp (by assumption) (by omega) (by decide)) (Below.trans (by assumption) hb)))
              (first
                | (go_at_call 87; refine (num_s _ _ ?_ ?_ _).mono ?_; (first | omega | assumption); (first | omega | assumption); rintro x w4 ⟨rfl, hb⟩; have hbd := Bl.chain hbd hb)
                | (go_at_call 88; refine (HOF.out _).mono ?_; rintro x w4 ⟨rfl, hb⟩; have hbd := Bl.chain hbd hb)
                | (go_at_call 201; refine (HRF.out _).mono ?_; rintro x w4 ⟨rfl, hb⟩; have hbd := Bl.chain hbd hb)
                | (go_at_call 86; simp only [app_lists]; refine (write_bl _ _ _ _ _ hbd ?_ ?_).mono ?_; (simp; omega); omega; rintro x w4 ⟨rfl, hbd2, hb, hkp⟩))
            rename_i hHeld
            have HEN := Lib.hid (show encA ⟨kind, side, ck, cs, cn, cb, n, raw⟩ = be kind 1 ++ be side 1 ++ be n 4 ++ [] by
              unfold encA restA
              simp only; rw [if_neg HKK.out.1, if_neg HKK.out.2])
            clear hbd hkp k2d hB2d
            go_wp2_with fail
            go_roundg (len - (k + 1))
            case measure => omega
            case rel =>
              refine ⟨k + 1, by omega, by omega, by go_num, ?_, ?_, hHeld.2.2.1, hHeld.2.2.2⟩
              · intro x hx
                rw [HS.out] at hx
                rcases List.mem_append.1 hx with hx | hx
                · exact HMAY.out x hx
                · obtain rfl := List.mem_singleton.1 hx
                  exact HMD.out
              · rw [HS.out, List.flatMap_append, HACC.out, List.flatMap_cons, List.flatMap_nil, List.append_nil, HEN.out]
                simpa using hbd2
    · obtain rfl : k = len := by omega
      have HT := Lib.hid (show ds.take ds.length = ds from List.take_of_length_le (Nat.le_refl _))
      have hnlt : ¬ (k : Int) < (k : Int) := by omega
      go_wp2_with fail
      refine (string_bl _ _ _ _ hbl (by omega)).mono ?_
      rintro e w2 ⟨rfl, hb⟩
      have hB2 := Below.trans hB hb
      clear hb hbl
      go_wp2_with fail
      go_ret2
      refine ⟨?_, hB2⟩
      have e1 : ds.take k = ds := by rw [← HL.out]; exact HT.out
      have e2 : putAE ds = 0 := by
        rw [hE.out, if_pos]
        rw [List.all_eq_true]
        rw [e1] at HMAY
        exact HMAY.out
      have e3 : putAS ds = ds.flatMap encA := by rw [hS.out, if_pos e2]
      rw [e2, e3, e1]
      rfl
end Go.Proofs.Ytdjjienklfbalaa
