/-
  Merged: Blocks that were sent: Ack and Wants, whatever they are (chapter 22). | Blocks that are gone; Ack (chapter 27). | Ack, Nack, whatever they tell (chapter 27).
-/
import Derived.Test.YtnmlmpffmjhihaaGreatMV
namespace Go.Proofs.YtnmlmpffmjhihaaGreat
open Go Go.RowKit
set_option linter.unusedVariables false
set_option linter.unusedSimpArgs false
set_option maxRecDepth 100000
set_option maxHeartbeats 2000000
theorem ahead_le {b x : Int} {l n : Nat} (hx : ¬ 0 < ahead ((b + (l : Int)) % 4294967296) x) (hl : l ≤ 64) (hn : max 0 (ahead b x) = (n : Int)) : n ≤ l := by
  unfold ahead at hx hn
  split at hn <;> split at hx <;> omega
theorem fbC_drop : ∀ (n : Nat) (L : List FB), fbC (L.drop n) = (fbC L).drop (n * 3)
  | 0, L => by simp
  | n + 1, [] => by simp [fbC]
  | n + 1, y :: L => by
    show fbC (L.drop n) = _
    rw [fbC_drop n L]
    show _ = (FB.vals y ++ fbC L).drop ((n + 1) * 3)
    have hv : (FB.vals y).length = 3 := rfl
    rw [List.drop_append, hv, show (n + 1) * 3 - 3 = n * 3 by omega, List.drop_of_length_le (l := FB.vals y) (by rw [hv]; omega), List.nil_append]
def FlAckPost (w : World) (B bf : Nat) (b z : Int) (v : Value) (L : List FB) (n : Nat) (e : Ending) (w' : World) : Prop :=
  ∃ v', e = .returned (.int .i64 (n : Int)) ∧ FlM w' B bf ((b + (n : Int)) % 4294967296) z v' (L.drop n) ∧ Only [bf] w w' ∧ v'.ownBlock = v.ownBlock
theorem flack_lt (x : Int) (n : Nat) {w : World} {B bf : Nat} {g off c : Nat} {b z : Int} {L : List FB} (h : FlM w B bf b z (.slice (some ⟨g, off, none⟩) L.length c) L) (hl : L.length ≤ 64) (hx : ¬ 0 < ahead ((b + ((L.length : Nat) : Int)) % 4294967296) x) (hn : max 0 (ahead b x) = (n : Int)) (hnc : n < c) (hcm : c ≤ maxLen) :
    Calls Tryz.prog 47 #[.pointer (some ⟨bf, 0, none⟩), .int .u32 x] w (FlAckPost w B bf b z (.slice (some ⟨g, off, none⟩) L.length c) L n) := by
  have hle := ahead_le hx hl hn
  have HN := Lib.hid (flnext_any h hl)
  generalize (b + ((L.length : Nat) : Int)) % 4294967296 = N0 at *
  have HL := Lib.hid (fun w' => less_any N0 x w')
  rw [decide_eq_false hx] at HL
  have HA := Lib.hid (fun w' => ahead_any b x w')
  have HM := Lib.hid h
  have hlc : L.length ≤ c := by
    rcases h.s.2 with ⟨h0, _⟩ | ⟨_, _, _, _, hv, _, _, hq, _⟩
    · cases h0
    · cases hv
      exact hq
  generalize ahead b x = A at *
  have hm0 : 0 ≤ (n : Int) ∧ (n : Int) ≤ 64 := by omega
  have HMX := Lib.hid hn
  have hmm : (n : Int) % 4294967296 = (n : Int) := by omega
  have hcM : (c : Int) ≤ 9223372036854775807 := by unfold maxLen at hcm; omega
  have hi1 : (n : Int) ≤ (L.length : Int) := by omega
  have hi2 : (L.length : Int) ≤ (c : Int) := by omega
  have hi3 : (n : Int) ≤ (c : Int) := by omega
  have hc2 : ¬ (n : Int) = (c : Int) := by omega
  have hc3 : ¬ (c : Int) = (n : Int) := by omega
  have hc4 : ¬ n = c := by omega
  have hc5 : ¬ c = n := by omega
  have HFX := Lib.hid hle
  clear h hx hl hn hle hm0 hlc hcm hnc
  go_enter Tryz.func47, Tryz.ntmps47
  go_wp2_with fail
  refine HN.out.mono ?_
  rintro e w1 ⟨rfl, hb⟩
  have HB := Lib.hid hb
  have HM1 := Lib.hid (HM.out.chain hb)
  clear hb
  go_wp2_with fail
  refine (HL.out _).mono ?_
  rintro e w2 ⟨rfl, rfl⟩
  obtain ⟨K0, K1, K2⟩ := HM1.out.k.facts
  have c0 := K0 0
  have c2 := K0 2
  have f0 := K1 0
  have f2 := K1 2
  clear K0 K1
  go_wp2_with fail
  refine (HA.out _).mono ?_
  rintro e w3 ⟨rfl, rfl⟩
  go_upto_region 4 with fail
  rw [HMX.out]
  clear HMX HN HL HA
  go_wp2_with fail
  go_ret
  have hm := HM1.out
  have ht : Seg w3 B 98 3 (.slice (some ⟨g, off + n * 3, none⟩) (L.length - n) (c - n)) (L.drop n).length (fbC (L.drop n)) := by
    rw [List.length_drop, fbC_drop]
    exact hm.s.from' n HFX.out (off + n * 3) (.inl rfl)
  have hn := ht.ne_blk' hm.k (by decide)
  exact ⟨_, rfl, ⟨(hm.k.setAt 2 _ rfl).setAt 0 _ rfl, (ht.setOther _ _ hn).setOther _ _ hn⟩, ((Only.of_below HB.out).setCell _ _ (.inl (by simp))).setCell _ _ (.inl (by simp)), rfl⟩
theorem flack_eq (x : Int) (n : Nat) {w : World} {B bf : Nat} {g off : Nat} {b z : Int} {L : List FB} (h : FlM w B bf b z (.slice (some ⟨g, off, none⟩) L.length n) L) (hl : L.length ≤ 64) (hx : ¬ 0 < ahead ((b + ((L.length : Nat) : Int)) % 4294967296) x) (hn : max 0 (ahead b x) = (n : Int)) (hcm : n ≤ maxLen) :
    Calls Tryz.prog 47 #[.pointer (some ⟨bf, 0, none⟩), .int .u32 x] w (FlAckPost w B bf b z (.slice (some ⟨g, off, none⟩) L.length n) L n) := by
  have hle := ahead_le hx hl hn
  have HN := Lib.hid (flnext_any h hl)
  generalize (b + ((L.length : Nat) : Int)) % 4294967296 = N0 at *
  have HL := Lib.hid (fun w' => less_any N0 x w')
  rw [decide_eq_false hx] at HL
  have HA := Lib.hid (fun w' => ahead_any b x w')
  have HM := Lib.hid h
  have hlc : L.length ≤ n := by
    rcases h.s.2 with ⟨h0, _⟩ | ⟨_, _, _, _, hv, _, _, hq, _⟩
    · cases h0
    · cases hv
      exact hq
  generalize ahead b x = A at *
  have hm0 : 0 ≤ (n : Int) ∧ (n : Int) ≤ 64 := by omega
  have HMX := Lib.hid hn
  have hmm : (n : Int) % 4294967296 = (n : Int) := by omega
  have hcM : (n : Int) ≤ 9223372036854775807 := by unfold maxLen at hcm; omega
  have hLn : L.length = n := by omega
  have HLN := Lib.hid hLn
  have HFX := Lib.hid hle
  clear h hx hl hn hle hm0 hlc hcm hLn
  go_enter Tryz.func47, Tryz.ntmps47
  go_wp2_with fail
  refine HN.out.mono ?_
  rintro e w1 ⟨rfl, hb⟩
  have HB := Lib.hid hb
  have HM1 := Lib.hid (HM.out.chain hb)
  clear hb
  go_wp2_with fail
  refine (HL.out _).mono ?_
  rintro e w2 ⟨rfl, rfl⟩
  obtain ⟨K0, K1, K2⟩ := HM1.out.k.facts
  have c0 := K0 0
  have c2 := K0 2
  have f0 := K1 0
  have f2 := K1 2
  clear K0 K1
  go_wp2_with fail
  refine (HA.out _).mono ?_
  rintro e w3 ⟨rfl, rfl⟩
  go_upto_region 4 with fail
  rw [HMX.out]
  clear HMX HN HL HA
  go_wp2_with fail
  go_ret
  have hm := HM1.out
  have ht : Seg w3 B 98 3 (.slice (some ⟨g, off, none⟩) (L.length - n) 0) (L.drop n).length (fbC (L.drop n)) := by
    have h1 := hm.s
    rw [HLN.out] at h1
    have h2 := h1.from' n (Nat.le_refl _) off (.inr ⟨rfl, rfl⟩)
    rw [Nat.sub_self] at h2
    rw [List.length_drop, fbC_drop, HLN.out, Nat.sub_self]
    exact h2
  have hn := ht.ne_blk' hm.k (by decide)
  exact ⟨_, rfl, ⟨(hm.k.setAt 2 _ rfl).setAt 0 _ rfl, (ht.setOther _ _ hn).setOther _ _ hn⟩, ((Only.of_below HB.out).setCell _ _ (.inl (by simp))).setCell _ _ (.inl (by simp)), rfl⟩
theorem flack_nil (x : Int) (n : Nat) {w : World} {B bf : Nat} {b z : Int} (h : FlM w B bf b z (.slice none 0 0) ([] : List FB)) (hl : ([] : List FB).length ≤ 64) (hx : ¬ 0 < ahead ((b + ((([] : List FB).length : Nat) : Int)) % 4294967296) x) (hn : max 0 (ahead b x) = (n : Int)) :
    Calls Tryz.prog 47 #[.pointer (some ⟨bf, 0, none⟩), .int .u32 x] w (FlAckPost w B bf b z (.slice none 0 0) ([] : List FB) n) := by
  have hle := ahead_le hx hl hn
  have HN := Lib.hid (flnext_any h hl)
  generalize (b + ((([] : List FB).length : Nat) : Int)) % 4294967296 = N0 at *
  have HL := Lib.hid (fun w' => less_any N0 x w')
  rw [decide_eq_false hx] at HL
  have HA := Lib.hid (fun w' => ahead_any b x w')
  have HM := Lib.hid h
  obtain rfl : n = 0 := by simpa using hle
  generalize ahead b x = A at *
  have hm0 : 0 ≤ ((0 : Nat) : Int) ∧ ((0 : Nat) : Int) ≤ 64 := by omega
  have HMX := Lib.hid hn
  have hmm : ((0 : Nat) : Int) % 4294967296 = ((0 : Nat) : Int) := by omega
  have HFX := Lib.hid hle
  clear h hx hl hn hle hm0
  go_enter Tryz.func47, Tryz.ntmps47
  go_wp2_with fail
  refine HN.out.mono ?_
  rintro e w1 ⟨rfl, hb⟩
  have HB := Lib.hid hb
  have HM1 := Lib.hid (HM.out.chain hb)
  clear hb
  go_wp2_with fail
  refine (HL.out _).mono ?_
  rintro e w2 ⟨rfl, rfl⟩
  obtain ⟨K0, K1, K2⟩ := HM1.out.k.facts
  have c0 := K0 0
  have c2 := K0 2
  have f0 := K1 0
  have f2 := K1 2
  clear K0 K1
  go_wp2_with fail
  refine (HA.out _).mono ?_
  rintro e w3 ⟨rfl, rfl⟩
  go_upto_region 4 with fail
  rw [HMX.out]
  clear HMX HN HL HA
  go_wp2_with fail
  go_ret
  have hm := HM1.out
  have e0 : (b + ((0 : Nat) : Int)) % 4294967296 = b % 4294967296 := by simp
  have ht : Seg w3 B 98 3 (.slice none 0 0) (([] : List FB).drop 0).length (fbC (([] : List FB).drop 0)) := Seg.nil _ _ _ _
  have hn := ht.ne_blk' hm.k (by decide)
  refine ⟨.slice none 0 0, rfl, ?_, ((Only.of_below HB.out).setCell _ _ (.inl (by simp))).setCell _ _ (.inl (by simp)), rfl⟩
  rw [e0]
  exact ⟨(hm.k.setAt 2 _ rfl).setAt 0 _ rfl, Seg.nil _ _ _ _⟩
theorem flack_any (x : Int) (n : Nat) {w : World} {B bf : Nat} {b z : Int} {v : Value} {L : List FB} (h : FlM w B bf b z v L) (hl : L.length ≤ 64) (hx : ¬ 0 < ahead ((b + ((L.length : Nat) : Int)) % 4294967296) x) (hn : max 0 (ahead b x) = (n : Int)) :
    Calls Tryz.prog 47 #[.pointer (some ⟨bf, 0, none⟩), .int .u32 x] w (FlAckPost w B bf b z v L n) := by
  rcases h.s.2 with ⟨rfl, h0⟩ | ⟨g, off, c, cur, rfl, hg, hh, hlc, hcm, _⟩
  · obtain rfl : L = [] := List.eq_nil_of_length_eq_zero h0
    exact flack_nil x n h hl hx hn
  · have hle := ahead_le hx hl hn
    by_cases hc : n = c
    · subst hc
      exact flack_eq x n h hl hx hn hcm
    · exact flack_lt x n h hl hx hn (by omega) hcm
theorem misF_len (l : List UInt8) (n most : Int) (f i : Nat) (out : List Int) : (misF l n most f i out).length ≤ f + out.length := by
  induction f generalizing i out with
  | zero => exact Nat.le_of_eq (Nat.zero_add _).symm
  | succ f ih =>
    unfold misF
    split
    · refine Nat.le_trans (ih (i + 1) _) ?_
      split
      · omega
      · rw [List.length_append]; simp; omega
    · omega
theorem mis_len (l : List UInt8) (n most : Int) : (mis l n most).length ≤ 255 := by
  unfold mis
  split
  · exact misF_len l n most 255 0 []
  · simp
def WantsPost (w : World) (x : Int) (M : List Int) (e : Ending) (w' : World) : Prop :=
  ∃ v, e = .returned v ∧ Seg w' w.heap.size 54 2 v M.length (sdC x M) ∧ Below w.heap.size w w'
theorem flwants_any (x : Int) (s : List UInt8) (need : Int) {w : World} {B bf g off c : Nat} {b z : Int} {L : List FB} (h : FlM w B bf b z (.slice (some ⟨g, off, none⟩) L.length c) L) (i : Nat) (hi : i < L.length) (hx : ahead b x = (i : Int)) (hs : s.length ≤ 1000) (hn : -9223372036854775808 ≤ L[i].n ∧ L[i].n ≤ 9223372036854775807) (hn0 : 0 ≤ need ∧ need ≤ 1000) :
    Calls Tryz.prog 23 #[.pointer (some ⟨bf, 0, none⟩), .int .u32 x, Str s, .int .i64 need] w (WantsPost w x (mis s L[i].n (need - cntTo s 256))) := by
  obtain ⟨i0, hif, hz0, hz1, hz2⟩ := info_parts infoSend
  have HF := Lib.hid (flfind_ok x h i hi hx)
  have HR : Hid (∀ w', Below w.heap.size w w' → w'.cell? ⟨g, off + i * 3, none⟩ = some (Str L[i].body) ∧ w'.cell? ⟨g, off + i * 3 + 1, none⟩ = some (.int .i64 L[i].n) ∧ w'.cell? ⟨g, off + i * 3 + 2, none⟩ = some (.int .i64 L[i].at')) := Lib.hid fun w' hb => (h.chain hb).row rfl i hi
  generalize L[i] = y at *
  have hcb := cnt_bd s 256
  generalize hcnt : cntTo s 256 = cnt at *
  obtain ⟨m, hm⟩ : ∃ m, need - cnt = m := ⟨_, rfl⟩
  rw [hm]
  have HC := Lib.hid (fun w' => count_any s (by omega) w')
  rw [hcnt] at HC
  have HMI : Hid (∀ w', Calls Tryz.prog 42 #[Str s, .int .i64 y.n, .int .i64 m] w' (MisPost s y.n m w')) := Lib.hid fun w' => missing_any s (by omega) y.n m hn.1 hn.2 (by omega) (by omega) w'
  have HML := Lib.hid (mis_len s y.n m)
  unfold MisPost at HMI
  generalize mis s y.n m = M at *
  have hw : wrap64 (need - cnt) = m := by rw [hm]; exact IntWalk.wrap64_in _ (by omega)
  have hnn : max need 0 = need := by omega
  have hwi : IntKind.i64.wrap (need - cnt) = m := by rw [hm]; exact IntWalk.i64_in _ (by clear hw; omega)
  clear h hx hm hn0 hn hi hs hcnt hcb
  unfold WantsPost
  go_enter Tryz.func23, Tryz.ntmps23
  go_wp2_with fail
  refine HF.out.mono ?_
  rintro e w1 ⟨rfl, hb⟩
  have HB1 := Lib.hid hb
  have HR1 : Hid (∀ w', Below w1.heap.size w1 w' → (w'.cell? ⟨g, off + i * 3 + 1, none⟩ = some (.int .i64 y.n)) ∧ Below w1.heap.size w1 w') := Lib.hid fun w' hb' => ⟨(HR.out _ (Below.chain hb' HB1.out)).2.1, hb'⟩
  clear hb HR
  go_upto_region 5 with fail
  go_cut [28, 29, 30] (fun v28 v29 v30 wx => ∃ (a : Option Addr) (cpb : Nat), v28 = .slice a M.length cpb ∧ v29 = .int .i64 (M.length : Int) ∧ v30 = .int .i64 0 ∧ Hid (IsInts .i64 wx a M.length cpb M ∧ Below w1.heap.size w1 wx))
  case first =>
    go_region_held3 (fun w' => (w'.cell? ⟨g, off + i * 3 + 1, none⟩ = some (.int .i64 y.n)) ∧ Below w1.heap.size w1 w')
      (first
        | exact HR1.out _ (Below.refl _ _).drew
        | exact HR1.out _ (Below.refl _ _)
        | (go_split_ands; exact HR1.out _ (Below.chain hb (by first | assumption | exact (Below.refl _ _).drew | exact Below.refl _ _))))
      ((first
        | (go_at_call 43; refine (HC.out _).mono ?_; rintro e w2 ⟨rfl, hb⟩)
        | (go_at_call 42; refine (HMI.out _).mono ?_; rintro e w3 ⟨ai, cpb, rfl, hzz, hb⟩; have HZZ := Lib.hid hzz; clear hzz)))
    all_goals
      go_wp2_with fail
      go_meet
      exact ⟨ai, cpb, rfl, rfl, rfl, Lib.hid ⟨HZZ.out, by first | assumption | (go_split_ands; assumption)⟩⟩
  case rest =>
    obtain ⟨ai, cpb, rfl, rfl, rfl, HI3⟩ := hcut
    obtain ⟨w3, rfl⟩ : ∃ w3, w3 = wc := ⟨_, rfl⟩
    have HB4 := Lib.hid (Below.chain HI3.out.2 HB1.out)
    have HZ : Hid (∀ j : Int, ∀ u ∈ ([.int .u32 x, .int .i64 j] : List Value), u.oneCell' = true) := Lib.hid (by simp [Value.oneCell'])
    clear HR1 HF HC HMI hw hwi hnn
    go_wp2_with fail
    go_loopg [10, 12, 30] M.length (fun gk v v12 i wr => ∃ k : Nat, M.length - k ≤ gk ∧ k ≤ M.length ∧ i = .int .i64 (k : Int) ∧ Hid (Seg wr w3.heap.size 54 2 v k (sdC x (M.take k)) ∧ Below w3.heap.size w3 wr))
    case atStart => exact ⟨0, by omega, by omega, rfl, Lib.hid ⟨Seg.nil _ _ _ _, Below.refl _ _⟩⟩
    case round =>
      obtain ⟨k, hkg, hk, rfl, HREL⟩ := hrel
      by_cases hlt : k < M.length
      · have hlt' : (k : Int) < (M.length : Int) := by omega
        have hk0 : (0 : Int) ≤ (k : Int) := by omega
        obtain ⟨gb, ob, rfl, hgb, hcells⟩ := (HI3.out.1.below HREL.out.2).2.2.2.2.resolve_left (by omega)
        have hcell := hcells k hlt
        have HSN : Hid (sdC x (M.take (k + 1)) = sdC x (M.take k) ++ [.int .u32 x, .int .i64 M[k]]) := Lib.hid (by rw [List.take_add_one, List.getElem?_eq_getElem hlt]; exact sdC_snoc _ _ _)
        generalize M[k] = j at *
        have HQ : Hid (k + 1 ≤ maxLen ∧ (k + 1) * 16 ≤ 140737488355328) := Lib.hid (by have := HML.out; unfold maxLen; omega)
        have HB0 : Hid (w3.heap.size ≤ wr.heap.size + 1) := Lib.hid (by have := HREL.out.2.size; omega)
        have hcn := Lib.hid (cells_new wr [.int .u32 x, .int .i64 j] 54)
        have HLTK := Lib.hid hlt
        have HKN : Hid ((.int .i64 ((k : Int) + 1) : Value) = .int .i64 ((k + 1 : Nat) : Int)) := Lib.hid rfl
        have hkw : wrap64 ((k : Int) + 1) = (k : Int) + 1 := IntWalk.wrap64_in _ (by have := HML.out; omega)
        have HMS : Hid (M.length - (k + 1) < gk) := Lib.hid (by omega)
        have hg1 : ¬ gb = wr.heap.size := by omega
        clear hcells hlt hkg hgb
        go_wp2_with (at_builtin; refine wpList_append_seg _ rfl (.tmp 34) (.tmp 38) 48 rfl w3.heap.size 54 i0 _ 2 16 Tryz.underlying48 hif hz0 hz1 hz2 rfl (by decide) u10 k (sdC x (M.take k)) rfl (HREL.out.1.alloc _) ⟨wr.heap.size, 0, none⟩ 1 1 [.int .u32 x, .int .i64 j] rfl rfl hcn.out (HZ.out j) (by decide) HQ.out.1 HQ.out.2 (by rw [size_alloc]; exact HB0.out) (wr.heap.size + 1) (size_alloc _ _) ?_; intro g4 o4 c4 w4 hown4 hgrow4 hat4; have HO4 := Lib.hid hown4; have HB5 := Lib.hid (Below.only (Below.chainAlloc HREL.out.2 (.cells #[.int .u32 x, .int .i64 j] 54)) (Only.of_grown hgrow4) (fun y hy => (HREL.out.1.blk y (by simpa using hy)).1)); clear hown4 hgrow4 hat4)
        go_roundg (M.length - (k + 1))
        case measure => exact HMS.out
        case rel => exact ⟨k + 1, Nat.le_refl _, HLTK.out, (by first | exact HKN.out | (rw [hkw]; exact HKN.out)), Lib.hid ⟨by rw [HSN.out]; exact HO4.out, HB5.out⟩⟩
      · obtain rfl : k = M.length := by omega
        have hlt' : ¬ (M.length : Int) < (M.length : Int) := by omega
        clear hlt
        go_wp2_with fail
        go_ret
        exact ⟨_, rfl, by have := HREL.out.1.le HB4.out.size; rw [List.take_length] at this; exact this, Below.chain HREL.out.2 HB4.out⟩
theorem flwants_no (x : Int) (s : List UInt8) (need : Int) {w : World} {B bf : Nat} {b z : Int} {v : Value} {L : List FB} (h : FlM w B bf b z v L) (hx : ahead b x < 0 ∨ (L.length : Int) ≤ ahead b x) :
    Calls Tryz.prog 23 #[.pointer (some ⟨bf, 0, none⟩), .int .u32 x, Str s, .int .i64 need] w (WantsPost w x []) := by
  have HF := Lib.hid (flfind_no x h hx)
  clear h hx
  unfold WantsPost
  go_enter Tryz.func23, Tryz.ntmps23
  go_wp2_with fail
  refine HF.out.mono ?_
  rintro e w1 ⟨rfl, hb⟩
  have HB1 := Lib.hid hb
  clear hb
  go_wp2_with fail
  go_ret
  exact ⟨_, rfl, Seg.nil _ _ _ _, HB1.out⟩
end Go.Proofs.YtnmlmpffmjhihaaGreat
namespace Go.Proofs.YtnmlmpffmjhihaaGreat
open Go Go.RowKit
set_option linter.unusedVariables false
set_option linter.unusedSimpArgs false
set_option maxRecDepth 100000
set_option maxHeartbeats 2000000
/-- The shards of blocks that go. -/
def goneM (b : Int) : Nat → List (Int × Value) → List (Int × Value)
  | 0, M => M
  | n + 1, M => delM ((b + (n : Int)) % 4294967296) (goneM b n M)
def goneH (L : List FB) (n : Nat) (hd : Int) : Int := hd - ((L.take n).foldl (fun a y => a + (y.body.length : Int)) 0)
theorem goneH_succ (L : List FB) (n : Nat) (hd : Int) (h : n < L.length) : goneH L (n + 1) hd = goneH L n hd - (L[n].body.length : Int) := by
  unfold goneH
  rw [List.take_add_one, List.getElem?_eq_getElem h, Option.toList_some, List.foldl_append]
  show hd - (_ + _) = _
  omega
theorem goneH_bd (L : List FB) (hL : ∀ y ∈ L, y.body.length ≤ 1048576) : ∀ n : Nat, n ≤ L.length → ∀ hd : Int, hd - 1048576 * (n : Int) ≤ goneH L n hd ∧ goneH L n hd ≤ hd
  | 0, _, hd => by unfold goneH; simp
  | n + 1, hn, hd => by
    rw [goneH_succ L n hd hn]
    have h1 := goneH_bd L hL n (by omega) hd
    have h2 := hL L[n] (List.getElem_mem hn)
    omega
theorem ahead_step {b x : Int} {k n : Nat} (hb : 0 ≤ b ∧ b < 4294967296) (hn : max 0 (ahead b x) = (n : Int)) (hn64 : n ≤ 64) (hk : k ≤ n) : decide (0 < ahead ((b + (k : Int)) % 4294967296) x) = decide (k < n) := by
  have : (0 < ahead ((b + (k : Int)) % 4294967296) x) ↔ k < n := by
    unfold ahead at hn ⊢
    split at hn <;> split <;> omega
  by_cases h : k < n
  · rw [decide_eq_true h, decide_eq_true (this.2 h)]
  · rw [decide_eq_false h, decide_eq_false (fun h' => h (this.1 h'))]
theorem ahead_at {b : Int} {k l : Nat} (hb : 0 ≤ b ∧ b < 4294967296) (hl : l ≤ 64) (hk : k < l) : ahead b ((b + (k : Int)) % 4294967296) = (k : Int) ∧ ((b + (k : Int)) % 4294967296 == (b + (l : Int)) % 4294967296) = false ∧ ((b + (k : Int)) % 4294967296 + 1) % 4294967296 = (b + ((k + 1 : Nat) : Int)) % 4294967296 := by
  refine ⟨?_, ?_, by omega⟩
  · unfold ahead
    split <;> omega
  · simp
    omega
section
variable {Ow : Nat → Prop} {w w' : World} {bo : Nat} {S : OS}
/-- The shards turned, and how much is held. -/
def gnS (S : OS) (k : Nat) : OS := { S with M := goneM S.b k S.M, hd := goneH S.L k S.hd }
theorem ogone_any (x : Int) (n : Nat) (h : OutM Ow w bo S) (hb : 0 ≤ S.b ∧ S.b < 4294967296) (hl : S.L.length ≤ 64) (hx : ¬ 0 < ahead ((S.b + ((S.L.length : Nat) : Int)) % 4294967296) x) (hn : max 0 (ahead S.b x) = (n : Int)) (hhd : -1048576 * 64 ≤ S.hd ∧ S.hd ≤ 1048576 * 64) (hbd : ∀ y ∈ S.L, y.body.length ≤ 1048576) :
    Calls Tryz.prog 25 #[.pointer (some ⟨bo, 0, none⟩), .int .u32 x] w fun e w' => ∃ fv, e = .returned (.int .i64 (n : Int)) ∧ OutM Ow w' bo { S with M := goneM S.b n S.M, hd := goneH S.L n S.hd, b := (S.b + (n : Int)) % 4294967296, fv := fv, L := S.L.drop n } ∧ Turn Ow [some 52, none, some 78] w w' := by
  have hle := ahead_le hx hl hn
  have HFX := Lib.hid (And.intro hb (And.intro hl (And.intro hn (And.intro hhd (And.intro hbd (And.intro hle hx))))))
  have H0 := Lib.hid h
  have o15 : w.cell? ⟨bo, 15, none⟩ = some (.pointer (some ⟨S.fb, 0, none⟩)) := h.k.facts.1 15
  have HBA := Lib.hid (flbase_any h.f)
  have hg0 : gnS S 0 = S := by unfold gnS goneH; simp [goneM]
  have R0 : Hid (OutM Ow w bo (gnS S 0) ∧ Turn Ow [some 52, none] w w) := Lib.hid ⟨by rw [hg0]; exact h, Turn.refl _ _ _⟩
  have hw0 : (S.b + ((0 : Nat) : Int)) % 4294967296 = S.b := by simp; omega
  have HW0 := Lib.hid hw0
  clear h hb hl hx hn hhd hbd hle hg0 hw0
  go_enter Tryz.func25, Tryz.ntmps25
  go_wp2_with fail
  refine HBA.out.mono ?_
  rintro e w1 ⟨rfl, rfl⟩
  go_wp2_with fail
  clear o15 HBA
  go_loopg [6, 7, 8, 9] n (fun gk v6 v7 v8 v9 wr => ∃ k : Nat, n - k ≤ gk ∧ k ≤ n ∧ v6 = .int .u32 ((S.b + (k : Int)) % 4294967296) ∧ Hid (OutM Ow wr bo (gnS S k) ∧ Turn Ow [some 52, none] w1 wr))
  case atStart => exact ⟨0, by omega, by omega, by rw [HW0.out], R0⟩
  case round =>
    clear R0 H0
    obtain ⟨k, hkg, hk, rfl, HREL⟩ := hrel
    have HST : Hid (decide (0 < ahead ((S.b + (k : Int)) % 4294967296) x) = decide (k < n)) := Lib.hid (ahead_step HFX.out.1 HFX.out.2.2.1 (Nat.le_trans HFX.out.2.2.2.2.2.1 HFX.out.2.1) hk)
    have HLS := Lib.hid (fun w' => less_any ((S.b + (k : Int)) % 4294967296) x w')
    rw [HST.out] at HLS
    by_cases hlt : k < n
    · have hkL : k < S.L.length := Nat.lt_of_lt_of_le hlt HFX.out.2.2.2.2.2.1
      rw [decide_eq_true hlt] at HLS
      have HAT := Lib.hid (ahead_at HFX.out.1 HFX.out.2.1 hkL)
      have hne := HAT.out.2.1
      have hnx := HAT.out.2.2
      have HN : Hid (Calls Tryz.prog 17 #[.pointer (some ⟨S.fb, 0, none⟩)] wr fun e w' => e = .returned (.int .u32 ((S.b + (S.L.length : Int)) % 4294967296)) ∧ Below wr.heap.size wr w') := Lib.hid (flnext_any HREL.out.1.f HFX.out.2.1)
      obtain ⟨g, off, c, hfv, _, _, _, _⟩ := HREL.out.1.f.s.shape (by show 0 < S.L.length; omega)
      have HBD : Hid (∀ w', Below wr.heap.size wr w' → Calls Tryz.prog 32 #[.pointer (some ⟨S.fb, 0, none⟩), .int .u32 ((S.b + (k : Int)) % 4294967296)] w' fun e w'' => e = .returned (.tuple #[Str S.L[k].body, .int .i64 S.L[k].n, .bool true]) ∧ Below w'.heap.size w' w'') := Lib.hid fun w' hb' => by
        have hf := (HREL.out.1.chain hb').f
        rw [hfv] at hf
        exact flbody_ok _ hf k hkL HAT.out.1
      have HY := Lib.hid (goneH_succ S.L k S.hd hkL)
      have HY2 := Lib.hid (goneH_bd S.L HFX.out.2.2.2.2.1 k (by omega) S.hd)
      have HY3 := Lib.hid (HFX.out.2.2.2.2.1 S.L[k] (List.getElem_mem hkL))
      generalize S.L[k] = y at *
      have HMS : Hid (n - (k + 1) < gk ∧ k + 1 ≤ n) := Lib.hid (by omega)
      have hwr : wrap64 (goneH S.L k S.hd - (y.body.length : Int)) = goneH S.L (k + 1) S.hd := by
        rw [HY.out]
        exact IntWalk.wrap64_in _ (by have := HY2.out; have := HY3.out; have := HFX.out.2.2.2.1; have := HFX.out.2.1; omega)
      have HX : Hid ((.int .u32 (((S.b + (k : Int)) % 4294967296 + 1) % 4294967296) : Value) = .int .u32 ((S.b + ((k + 1 : Nat) : Int)) % 4294967296)) := Lib.hid (by rw [hnx])
      have HGM : Hid (goneM S.b (k + 1) S.M = delM ((S.b + (k : Int)) % 4294967296) (goneM S.b k S.M)) := Lib.hid rfl
      have o15 : wr.cell? ⟨bo, 15, none⟩ = some (.pointer (some ⟨S.fb, 0, none⟩)) := HREL.out.1.k.facts.1 15
      have HSTL : Hid (S.L.length ≤ 64) := Lib.hid HFX.out.2.1
      clear hlt hkg hk hkL HAT HST hfv hnx HY
      generalize (S.b + (k : Int)) % 4294967296 = X at *
      have hne2 : (X != (S.b + (S.L.length : Int)) % 4294967296) = true := by rw [bne, hne]; rfl
      go_wp2_with fail
      refine (HLS.out _).mono ?_
      rintro e w2 ⟨rfl, rfl⟩
      go_wp2_with fail
      refine HN.out.mono ?_
      rintro e w3 ⟨rfl, hb3⟩
      have H3 := Lib.hid (And.intro (HREL.out.1.chain hb3) (HREL.out.2.step hb3))
      have HBD3 := Lib.hid (HBD.out w3 hb3)
      clear o15 hb3 HBD HN HREL
      have o15 : w3.cell? ⟨bo, 15, none⟩ = some (.pointer (some ⟨S.fb, 0, none⟩)) := H3.out.1.k.facts.1 15
      go_wp2_with fail
      refine HBD3.out.mono ?_
      rintro e w4 ⟨rfl, hb4⟩
      have H4 := Lib.hid (And.intro (H3.out.1.chain hb4) (H3.out.2.step hb4))
      clear o15 hb4 HBD3 H3
      have o20 : w4.cell? ⟨bo, 20, none⟩ = some (.int .i64 (goneH S.L k S.hd)) := H4.out.1.k.facts.1 20
      have fo20 := H4.out.1.k.facts.2.1 20
      go_upto_region 7 with fail
      have ho5 : Only [bo] w4 (w4.setCell ⟨bo, 20, none⟩ (.int .i64 (goneH S.L (k + 1) S.hd))) := (Only.refl _ _).setCell _ _ (.inl (by simp))
      have H5 : Hid (OutM Ow (w4.setCell ⟨bo, 20, none⟩ (.int .i64 (goneH S.L (k + 1) S.hd))) bo { S with M := goneM S.b k S.M, hd := goneH S.L (k + 1) S.hd } ∧ Turn Ow [some 52, none] w1 (w4.setCell ⟨bo, 20, none⟩ (.int .i64 (goneH S.L (k + 1) S.hd)))) := Lib.hid ⟨H4.out.1.own ho5 (H4.out.1.k.setAt 20 _ rfl) rfl rfl rfl rfl rfl rfl rfl, H4.out.2.trans ((Turn.only1 ho5 H4.out.1.u.bo H4.out.1.k (by simp) : Turn Ow [some 52] _ _).mono (by simp))⟩
      clear o20 fo20 H4 ho5
      generalize w4.setCell ⟨bo, 20, none⟩ (.int .i64 (goneH S.L (k + 1) S.hd)) = w5 at *
      have o17 : w5.cell? ⟨bo, 17, none⟩ = some (.map (some S.mm)) := H5.out.1.k.facts.1 17
      obtain ⟨W6, hrun, hm6, ho6⟩ := H5.out.1.m.del keyU undMade X
      unfold encU at hrun
      have H6 : Hid (OutM Ow W6 bo (gnS S (k + 1)) ∧ Turn Ow [some 52, none] w1 W6) := Lib.hid ⟨by
        have := H5.out.1.m2 ho6 hm6
        unfold gnS
        rw [HGM.out]
        exact this, H5.out.2.trans ((Turn.one ho6 H5.out.1.u.mm H5.out.1.m.kind (by simp) : Turn Ow [none] _ _).mono (by simp))⟩
      clear hm6 ho6
      go_wp2_with fail
      go_roundg (n - (k + 1))
      case measure => exact HMS.out.1
      case rel => exact ⟨k + 1, Nat.le_refl _, HMS.out.2, HX.out, H6⟩
    · obtain rfl : k = n := by omega
      rw [decide_eq_false hlt] at HLS
      have HAK : Hid (Calls Tryz.prog 47 #[.pointer (some ⟨S.fb, 0, none⟩), .int .u32 x] wr (FlAckPost wr 0 S.fb S.b S.c.wi S.fv S.L k)) := Lib.hid (flack_any x k HREL.out.1.f HFX.out.2.1 (by have := HFX.out.2.2.2.2.2.2; omega) HFX.out.2.2.1)
      have o15 : wr.cell? ⟨bo, 15, none⟩ = some (.pointer (some ⟨S.fb, 0, none⟩)) := HREL.out.1.k.facts.1 15
      clear hlt hkg hk
      go_wp2_with fail
      refine (HLS.out _).mono ?_
      rintro e w2 ⟨rfl, rfl⟩
      go_wp2_with fail
      refine HAK.out.mono ?_
      rintro e w3 ⟨fv, rfl, hf3, ho3, hfv3⟩
      have ht3 : Turn Ow [some 78] w2 w3 := Turn.only1 ho3 HREL.out.1.u.fb HREL.out.1.f.k (by simp)
      have H3 : Hid (OutM Ow w3 bo { S with M := goneM S.b k S.M, hd := goneH S.L k S.hd, b := (S.b + (k : Int)) % 4294967296, fv := fv, L := S.L.drop k }) := Lib.hid (HREL.out.1.f2 (ht3.mono (by simp)) hf3 (by rw [hfv3]; exact HREL.out.1.u.fv))
      have HT3 : Hid (Turn Ow [some 52, none, some 78] w1 w3) := Lib.hid ((HREL.out.2.mono (by simp)).trans (ht3.mono (by simp)))
      clear hf3 ho3 ht3 hfv3 o15
      go_wp2_with fail
      go_ret
      exact ⟨fv, rfl, H3.out, HT3.out⟩
end
end Go.Proofs.YtnmlmpffmjhihaaGreat
namespace Go.Proofs.YtnmlmpffmjhihaaGreat
open Go Go.RowKit
set_option linter.unusedVariables false
set_option linter.unusedSimpArgs false
set_option maxRecDepth 100000
set_option maxHeartbeats 2000000
section
variable {Ow : Nat → Prop} {w w' : World} {bo : Nat} {S : OS}
theorem ofin_any (h : OutM Ow w bo S) (hl : S.L.length ≤ 64) : Calls Tryz.prog 5 #[.pointer (some ⟨bo, 0, none⟩)] w fun e w' => e = .returned (.tuple #[.int .u32 ((S.b + (S.L.length : Int)) % 4294967296), .bool (S.cl && decide (S.n = 0) && !S.fi)]) ∧ Below w.heap.size w w' := by
  cases hc : S.cl with
  | false => exact ofin_open h hl hc
  | true =>
    by_cases hn : S.n = 0
    · cases hf : S.fi with
      | false => rw [decide_eq_true hn]; exact ofin_end h hl hc hn hf
      | true => rw [decide_eq_true hn]; exact ofin_done h hl hc hn hf
    · rw [decide_eq_false hn]; exact ofin_waits h hl hc hn
/-- How far one may send then. -/
def grZ (z base more : Int) : Int := if 0 < ahead z ((base + more) % 4294967296) then (base + more) % 4294967296 else z
/-- What is left when n blocks are gone. -/
def goS (S : OS) (n : Nat) (fv : Value) (fi : Bool) (z : Int) : OS := { S with fi := fi, M := goneM S.b n S.M, hd := goneH S.L n S.hd, b := (S.b + (n : Int)) % 4294967296, fv := fv, L := S.L.drop n, z := z }
def AckPost (Ow : Nat → Prop) (w : World) (bo : Nat) (S : OS) (n : Nat) (fi : Bool) (z : Int) (e : Ending) (w' : World) : Prop :=
  ∃ fv, e = .returned (.int .i64 (n : Int)) ∧ OutM Ow w' bo (goS S n fv fi z) ∧ Turn Ow [some 52, none, some 78, some 107] w w'
theorem oack_less (x more : Int) (h : OutM Ow w bo S) (hl : S.L.length ≤ 64) (hf : (S.cl && decide (S.n = 0) && !S.fi) = true → x ≠ ((S.b + ((S.L.length : Nat) : Int)) % 4294967296 + 1) % 4294967296) (hx : 0 < ahead ((S.b + ((S.L.length : Nat) : Int)) % 4294967296) x) :
    Calls Tryz.prog 11 #[.pointer (some ⟨bo, 0, none⟩), .int .u32 x, .int .i64 more] w fun e w' => e = .returned (.int .i64 0) ∧ Below w.heap.size w w' := by
  have HFN := Lib.hid (ofin_any h hl)
  generalize (S.b + ((S.L.length : Nat) : Int)) % 4294967296 = N0 at *
  have HL := Lib.hid (fun w' => less_any N0 x w')
  rw [decide_eq_true hx] at HL
  generalize (S.cl && decide (S.n = 0) && !S.fi) = fin at *
  clear h hl hx
  cases fin with
  | false =>
    clear hf
    go_enter Tryz.func11, Tryz.ntmps11
    go_wp2_with fail
    refine HFN.out.mono ?_
    rintro e w1 ⟨rfl, hb⟩
    have HB := Lib.hid hb
    clear hb
    go_wp2_with fail
    refine (HL.out _).mono ?_
    rintro e w2 ⟨rfl, rfl⟩
    go_wp2_with fail
    go_ret
    exact ⟨rfl, HB.out⟩
  | true =>
    have hne : (x == (N0 + 1) % 4294967296) = false := beq_eq_false_iff_ne.2 (hf rfl)
    clear hf
    go_enter Tryz.func11, Tryz.ntmps11
    go_wp2_with fail
    refine HFN.out.mono ?_
    rintro e w1 ⟨rfl, hb⟩
    have HB := Lib.hid hb
    clear hb
    go_wp2_with fail
    refine (HL.out _).mono ?_
    rintro e w2 ⟨rfl, rfl⟩
    go_wp2_with fail
    go_ret
    exact ⟨rfl, HB.out⟩
theorem oack_gone_f (x more : Int) (n : Nat) (h : OutM Ow w bo S) (hb : 0 ≤ S.b ∧ S.b < 4294967296) (hl : S.L.length ≤ 64) (hfin : (S.cl && decide (S.n = 0) && !S.fi) = false) (hx : ¬ 0 < ahead ((S.b + ((S.L.length : Nat) : Int)) % 4294967296) x) (hn : max 0 (ahead S.b x) = (n : Int)) (hm : 0 ≤ more ∧ more ≤ 65535) (hhd : -1048576 * 64 ≤ S.hd ∧ S.hd ≤ 1048576 * 64) (hbd : ∀ y ∈ S.L, y.body.length ≤ 1048576) :
    Calls Tryz.prog 11 #[.pointer (some ⟨bo, 0, none⟩), .int .u32 x, .int .i64 more] w (AckPost Ow w bo S n S.fi (grZ S.z x more)) := by
  have HFN := Lib.hid (ofin_any h hl)
  rw [hfin] at HFN
  have HG : Hid (∀ w1, OutM Ow w1 bo S → Calls Tryz.prog 25 #[.pointer (some ⟨bo, 0, none⟩), .int .u32 x] w1 fun e w' => ∃ fv, e = .returned (.int .i64 (n : Int)) ∧ OutM Ow w' bo (goS S n fv S.fi S.z) ∧ Turn Ow [some 52, none, some 78] w1 w') := Lib.hid fun w1 h1 => ogone_any x n h1 hb hl hx hn hhd hbd
  have HM := Lib.hid hm
  generalize (S.b + ((S.L.length : Nat) : Int)) % 4294967296 = N0 at *
  have HL := Lib.hid (fun w' => less_any N0 x w')
  rw [decide_eq_false hx] at HL
  have H0 := Lib.hid h
  clear h hb hl hfin hm hhd hbd hx hn
  unfold AckPost
  go_enter Tryz.func11, Tryz.ntmps11
  go_wp2_with fail
  refine HFN.out.mono ?_
  rintro e w1 ⟨rfl, hb⟩
  have HB := Lib.hid hb
  have H1 := Lib.hid (H0.out.chain hb)
  clear hb
  go_wp2_with fail
  refine (HL.out _).mono ?_
  rintro e w2 ⟨rfl, rfl⟩
  go_wp2_with fail
  refine (HG.out w2 H1.out).mono ?_
  rintro e w3 ⟨fv, rfl, h3, ht3⟩
  have H3 := Lib.hid (And.intro h3 ((Turn.of_below HB.out : Turn Ow [some 52, none, some 78] _ _).trans ht3))
  clear h3 ht3 HG HFN
  have HGR : Hid (Calls Tryz.prog 27 #[.pointer (some ⟨S.eb, 0, none⟩), .int .u32 x, .int .i64 more] w3 fun e w' => (∃ b, e = .returned (.bool b)) ∧ EgM w' S.eb (grZ S.z x more) ∧ Only [S.eb] w3 w') := Lib.hid (cgrant_any x more S.z HM.out.1 HM.out.2 H3.out.1.e)
  have o16 : w3.cell? ⟨bo, 16, none⟩ = some (.pointer (some ⟨S.eb, 0, none⟩)) := H3.out.1.k.facts.1 16
  go_wp2_with fail
  refine HGR.out.mono ?_
  rintro e w4 ⟨⟨bb, rfl⟩, he4, ho4⟩
  have H4 : Hid (OutM Ow w4 bo (goS S n fv S.fi (grZ S.z x more)) ∧ Turn Ow [some 52, none, some 78, some 107] w w4) := Lib.hid ⟨H3.out.1.e2 ho4 he4, (H3.out.2.mono (by simp)).trans ((Turn.only1 ho4 H3.out.1.u.eb H3.out.1.e (by simp) : Turn Ow [some 107] _ _).mono (by simp))⟩
  clear he4 ho4 o16 HGR
  go_wp2_with fail
  go_ret
  exact ⟨fv, rfl, H4.out.1, H4.out.2⟩
theorem oack_gone_t (x more : Int) (n : Nat) (h : OutM Ow w bo S) (hb : 0 ≤ S.b ∧ S.b < 4294967296) (hl : S.L.length ≤ 64) (hfin : (S.cl && decide (S.n = 0) && !S.fi) = true) (hxe : x ≠ ((S.b + ((S.L.length : Nat) : Int)) % 4294967296 + 1) % 4294967296) (hx : ¬ 0 < ahead ((S.b + ((S.L.length : Nat) : Int)) % 4294967296) x) (hn : max 0 (ahead S.b x) = (n : Int)) (hm : 0 ≤ more ∧ more ≤ 65535) (hhd : -1048576 * 64 ≤ S.hd ∧ S.hd ≤ 1048576 * 64) (hbd : ∀ y ∈ S.L, y.body.length ≤ 1048576) :
    Calls Tryz.prog 11 #[.pointer (some ⟨bo, 0, none⟩), .int .u32 x, .int .i64 more] w (AckPost Ow w bo S n S.fi (grZ S.z x more)) := by
  have HFN := Lib.hid (ofin_any h hl)
  rw [hfin] at HFN
  have HG : Hid (∀ w1, OutM Ow w1 bo S → Calls Tryz.prog 25 #[.pointer (some ⟨bo, 0, none⟩), .int .u32 x] w1 fun e w' => ∃ fv, e = .returned (.int .i64 (n : Int)) ∧ OutM Ow w' bo (goS S n fv S.fi S.z) ∧ Turn Ow [some 52, none, some 78] w1 w') := Lib.hid fun w1 h1 => ogone_any x n h1 hb hl hx hn hhd hbd
  have HM := Lib.hid hm
  generalize (S.b + ((S.L.length : Nat) : Int)) % 4294967296 = N0 at *
  have HL := Lib.hid (fun w' => less_any N0 x w')
  rw [decide_eq_false hx] at HL
  have hne : (x == (N0 + 1) % 4294967296) = false := beq_eq_false_iff_ne.2 hxe
  have H0 := Lib.hid h
  clear h hb hl hfin hm hhd hbd hx hn hxe
  unfold AckPost
  go_enter Tryz.func11, Tryz.ntmps11
  go_wp2_with fail
  refine HFN.out.mono ?_
  rintro e w1 ⟨rfl, hb⟩
  have HB := Lib.hid hb
  have H1 := Lib.hid (H0.out.chain hb)
  clear hb
  go_wp2_with fail
  refine (HL.out _).mono ?_
  rintro e w2 ⟨rfl, rfl⟩
  go_wp2_with fail
  refine (HG.out w2 H1.out).mono ?_
  rintro e w3 ⟨fv, rfl, h3, ht3⟩
  have H3 := Lib.hid (And.intro h3 ((Turn.of_below HB.out : Turn Ow [some 52, none, some 78] _ _).trans ht3))
  clear h3 ht3 HG HFN
  have HGR : Hid (Calls Tryz.prog 27 #[.pointer (some ⟨S.eb, 0, none⟩), .int .u32 x, .int .i64 more] w3 fun e w' => (∃ b, e = .returned (.bool b)) ∧ EgM w' S.eb (grZ S.z x more) ∧ Only [S.eb] w3 w') := Lib.hid (cgrant_any x more S.z HM.out.1 HM.out.2 H3.out.1.e)
  have o16 : w3.cell? ⟨bo, 16, none⟩ = some (.pointer (some ⟨S.eb, 0, none⟩)) := H3.out.1.k.facts.1 16
  go_wp2_with fail
  refine HGR.out.mono ?_
  rintro e w4 ⟨⟨bb, rfl⟩, he4, ho4⟩
  have H4 : Hid (OutM Ow w4 bo (goS S n fv S.fi (grZ S.z x more)) ∧ Turn Ow [some 52, none, some 78, some 107] w w4) := Lib.hid ⟨H3.out.1.e2 ho4 he4, (H3.out.2.mono (by simp)).trans ((Turn.only1 ho4 H3.out.1.u.eb H3.out.1.e (by simp) : Turn Ow [some 107] _ _).mono (by simp))⟩
  clear he4 ho4 o16 HGR
  go_wp2_with fail
  go_ret
  exact ⟨fv, rfl, H4.out.1, H4.out.2⟩
theorem oack_end (x more : Int) (h : OutM Ow w bo S) (hb : 0 ≤ S.b ∧ S.b < 4294967296) (hl : S.L.length ≤ 64) (hfin : (S.cl && decide (S.n = 0) && !S.fi) = true) (hxe : x = ((S.b + ((S.L.length : Nat) : Int)) % 4294967296 + 1) % 4294967296) (hm : 0 ≤ more ∧ more ≤ 65535) (hhd : -1048576 * 64 ≤ S.hd ∧ S.hd ≤ 1048576 * 64) (hbd : ∀ y ∈ S.L, y.body.length ≤ 1048576) :
    Calls Tryz.prog 11 #[.pointer (some ⟨bo, 0, none⟩), .int .u32 x, .int .i64 more] w (AckPost Ow w bo S S.L.length true (grZ S.z x more)) := by
  have HFN := Lib.hid (ofin_any h hl)
  rw [hfin] at HFN
  have HG : Hid (∀ w1, OutM Ow w1 bo { S with fi := true } → Calls Tryz.prog 25 #[.pointer (some ⟨bo, 0, none⟩), .int .u32 ((S.b + ((S.L.length : Nat) : Int)) % 4294967296)] w1 fun e w' => ∃ fv, e = .returned (.int .i64 (S.L.length : Int)) ∧ OutM Ow w' bo (goS S S.L.length fv true S.z) ∧ Turn Ow [some 52, none, some 78] w1 w') := Lib.hid fun w1 h1 => ogone_any _ S.L.length h1 hb hl (by show ¬ 0 < ahead ((S.b + ((S.L.length : Nat) : Int)) % 4294967296) ((S.b + ((S.L.length : Nat) : Int)) % 4294967296); rw [ahead_self]; omega) (by
    show max 0 (ahead S.b ((S.b + ((S.L.length : Nat) : Int)) % 4294967296)) = _
    have e : ahead S.b ((S.b + ((S.L.length : Nat) : Int)) % 4294967296) = (S.L.length : Int) := by
      unfold ahead
      split <;> omega
    rw [e]
    omega) hhd hbd
  have o13 : w.cell? ⟨bo, 13, none⟩ = some (.bool S.fi) := h.k.facts.1 13
  have HM := Lib.hid hm
  generalize (S.b + ((S.L.length : Nat) : Int)) % 4294967296 = N0 at *
  have hne : (x == (N0 + 1) % 4294967296) = true := by rw [hxe]; exact beq_self_eq_true _
  have H0 := Lib.hid h
  clear h hb hl hfin hm hhd hbd hxe
  unfold AckPost
  go_enter Tryz.func11, Tryz.ntmps11
  go_wp2_with fail
  refine HFN.out.mono ?_
  rintro e w1 ⟨rfl, hb⟩
  have HB := Lib.hid hb
  have H1 := Lib.hid (H0.out.chain hb)
  clear hb
  have o13 : w1.cell? ⟨bo, 13, none⟩ = some (.bool S.fi) := H1.out.k.facts.1 13
  have fo13 := H1.out.k.facts.2.1 13
  go_upto_region 8 with fail
  have ho2 : Only [bo] w1 (w1.setCell ⟨bo, 13, none⟩ (.bool true)) := (Only.refl _ _).setCell _ _ (.inl (by simp))
  have H2 : Hid (OutM Ow (w1.setCell ⟨bo, 13, none⟩ (.bool true)) bo { S with fi := true } ∧ Turn Ow [some 52] w (w1.setCell ⟨bo, 13, none⟩ (.bool true))) := Lib.hid ⟨H1.out.own ho2 (H1.out.k.setAt 13 _ rfl) rfl rfl rfl rfl rfl rfl rfl, (Turn.of_below HB.out).trans (Turn.only1 ho2 H1.out.u.bo H1.out.k (by simp))⟩
  clear o13 fo13 H1 ho2
  generalize w1.setCell ⟨bo, 13, none⟩ (.bool true) = w2 at *
  go_wp2_with fail
  refine (HG.out w2 H2.out.1).mono ?_
  rintro e w3 ⟨fv, rfl, h3, ht3⟩
  have H3 := Lib.hid (And.intro h3 ((H2.out.2.mono (by simp) : Turn Ow [some 52, none, some 78] _ _).trans ht3))
  clear h3 ht3 HG HFN
  have HGR : Hid (Calls Tryz.prog 27 #[.pointer (some ⟨S.eb, 0, none⟩), .int .u32 x, .int .i64 more] w3 fun e w' => (∃ b, e = .returned (.bool b)) ∧ EgM w' S.eb (grZ S.z x more) ∧ Only [S.eb] w3 w') := Lib.hid (cgrant_any x more S.z HM.out.1 HM.out.2 H3.out.1.e)
  have o16 : w3.cell? ⟨bo, 16, none⟩ = some (.pointer (some ⟨S.eb, 0, none⟩)) := H3.out.1.k.facts.1 16
  go_wp2_with fail
  refine HGR.out.mono ?_
  rintro e w4 ⟨⟨bb, rfl⟩, he4, ho4⟩
  have H4 : Hid (OutM Ow w4 bo (goS S S.L.length fv true (grZ S.z x more)) ∧ Turn Ow [some 52, none, some 78, some 107] w w4) := Lib.hid ⟨H3.out.1.e2 ho4 he4, (H3.out.2.mono (by simp)).trans ((Turn.only1 ho4 H3.out.1.u.eb H3.out.1.e (by simp) : Turn Ow [some 107] _ _).mono (by simp))⟩
  clear he4 ho4 o16 HGR
  go_wp2_with fail
  go_ret
  exact ⟨fv, rfl, H4.out.1, H4.out.2⟩
end
end Go.Proofs.YtnmlmpffmjhihaaGreat
