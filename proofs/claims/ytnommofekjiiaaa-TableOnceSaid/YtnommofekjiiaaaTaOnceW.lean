/-
  The law TableOnce, walked (chapter 18).
-/
import Derived.Test.YtnommofekjiiaaaTaOnce0
namespace Go.Proofs.Ytnommofekjiiaaa
open Go Go.RowKit Go.MuLone
set_option linter.unusedVariables false
set_option linter.unusedSimpArgs false
set_option maxRecDepth 100000
set_option maxHeartbeats 2000000
def kyC (l : List (Int × Int)) : List Value := l.flatMap fun k => [.int .i64 k.1, .int .u32 k.2]
theorem kyC_length (l : List (Int × Int)) : (kyC l).length = l.length * 2 := by
  induction l with
  | nil => rfl
  | cons x l ih => simp only [kyC, List.flatMap_cons, List.length_append, List.length_cons, List.length_nil] at ih ⊢; omega
theorem kyC_at : ∀ (l : List (Int × Int)) (i : Nat) (x : Int × Int), l[i]? = some x → (kyC l)[i * 2]? = some (.int .i64 x.1) ∧ (kyC l)[i * 2 + 1]? = some (.int .u32 x.2)
  | [], i, x, h => by simp at h
  | y :: l, 0, x, h => by
    simp only [List.getElem?_cons_zero, Option.some.injEq] at h
    subst h
    simp [kyC]
  | y :: l, i + 1, x, h => by
    have := kyC_at l i x (by simpa using h)
    have e : (i + 1) * 2 = i * 2 + 1 + 1 := by omega
    rw [e]
    simpa [kyC] using this
theorem infoKy : (Try.prog.info? 35).map (fun i => (i.zero, i.size, i.bytes)) = some (some (.agg #[.int .i64 0, .int .u32 0]), 2, 16) := by kernel_rfl
theorem addr0 (b i : Nat) : (⟨b, 0, none⟩ : Addr).add i = ⟨b, i, none⟩ := by unfold Addr.add; split <;> simp_all
theorem rds_key (w : World) (s b : Int) : RdS (w.alloc (.cells #[.int .i64 s, .int .u32 b] 35)) 2 (.slice (some ⟨w.heap.size, 0, none⟩) 1 1) 1 [.int .i64 s, .int .u32 b] := by
  refine ⟨rfl, .inr ⟨_, _, rfl, fun i u hu => ?_⟩⟩
  rw [addr0, (Blk.new w #[.int .i64 s, .int .u32 b] 35).facts.1 i]
  simpa using hu
/-- Where the loop of TableOnce stands. -/
structure OnL (W : World) (bt room : Nat) (A : List DE) (m : Nat) (ks : List (Int × Int)) (v : Value) (w : World) : Prop where
  t : ∃ s, Tab W.heap.size w bt room A m s
  s : Seg w W.heap.size 35 2 v ks.length (kyC ks)
  d : ∀ k ∈ ks, DoneK A k
  l : ks.length ≤ m
  b : Below W.heap.size W w
theorem OnL.chain {W w w' : World} {bt room m : Nat} {A : List DE} {ks : List (Int × Int)} {v : Value} (h : OnL W bt room A m ks v w) (hb : Below w.heap.size w w') : OnL W bt room A m ks v w' :=
  ⟨h.t.imp fun s hs => hs.chain hb, h.s.chain hb, h.d, h.l, Below.chain hb h.b⟩
theorem OnL.add {W wa w3 : World} {bt room m : Nat} {A : List DE} {ks : List (Int × Int)} {v v3 : Value} (h : OnL W bt room A (m + 1) ks v wa) (k : Int × Int) (hd : DoneK A k) (hl : ks.length ≤ m)
    (hs : Seg w3 W.heap.size 35 2 v3 (ks.length + 1) (kyC ks ++ [.int .i64 k.1, .int .u32 k.2])) (ho : Only v.ownBlock.toList wa w3) (hb : Below W.heap.size W w3) : OnL W bt room A (m + 1) (ks ++ [k]) v3 w3 := by
  have ht := Turn.own h.s ho
  refine ⟨h.t.imp fun s hs' => ⟨hs'.h.turn ht (by decide) (by decide) (by decide) (by decide) (by decide) (by decide), hs'.ok, hs'.a, hs'.r, hs'.m⟩, ?_, fun k0 hk0 => ?_, ?_, hb⟩
  · have e : kyC (ks ++ [k]) = kyC ks ++ [.int .i64 k.1, .int .u32 k.2] := by simp [kyC]
    rw [e, List.length_append]
    exact hs
  · rcases List.mem_append.1 hk0 with hk0 | hk0
    · exact h.d k0 hk0
    · rw [List.mem_singleton.1 hk0]; exact hd
  · rw [List.length_append]
    exact Nat.succ_le_succ hl
theorem OnL.put {W w : World} {bt room m : Nat} {A : List DE} {ks : List (Int × Int)} {v : Value} (h : OnL W bt room A m ks v w) (hm : m ≤ 1000) (k1 k2 need x1 : Int) (x2 : List UInt8) :
    Calls Try.prog 12 #[ptr bt, .agg #[.int .i64 k1, .int .u32 k2], .int .i64 need, .agg #[.int .i64 x1, Str x2]] w fun e w' => e = .returned (.int .i64 (putV room A (k1, k2) need (x1, x2) : Nat)) ∧ OnL W bt room (putA room A (k1, k2) need (x1, x2)) (m + 1) ks v w' := by
  obtain ⟨s, hs⟩ := h.t
  refine (tPut W.heap.size bt room A m s (k1, k2) need (x1, x2) w hs (by omega) h.b.size).mono ?_
  rintro e w' ⟨rfl, hs', ht⟩
  exact ⟨rfl, hs', ht.seg h.s (by decide), fun k hk => once_keep (h.d k hk), Nat.le_succ_of_le h.l, h.b.trans (ht.below h.b.size)⟩
theorem OnL.get {W w : World} {bt room m : Nat} {A : List DE} {ks : List (Int × Int)} {v : Value} (h : OnL W bt room A m ks v w) (k1 k2 need : Int) (l : List Sh) (hg : getD (k1, k2) A = some ((k1, k2), need, l)) :
    Calls Try.prog 13 #[ptr bt, .agg #[.int .i64 k1, .int .u32 k2]] w fun e w' => ∃ a cap, e = .returned (.tuple #[.slice a l.length cap, .bool true]) ∧ OnL W bt room A m ks v w' := by
  obtain ⟨s, hs⟩ := h.t
  refine (tGet W.heap.size bt room A m s (k1, k2) w hs h.b.size).mono ?_
  rintro e w' ⟨sv, rfl, hsv, hs', ht⟩
  rw [hg] at hsv
  have hsv' : ShS w' W.heap.size sv l := hsv
  obtain ⟨a, cap, rfl⟩ := hsv'.form
  exact ⟨a, cap, by rw [hg]; rfl, hs', ht.seg h.s (by decide), h.d, h.l, h.b.trans (ht.below h.b.size)⟩
theorem OnL.len {W w : World} {bt room m : Nat} {A : List DE} {ks : List (Int × Int)} {v : Value} (h : OnL W bt room A m ks v w) :
    Calls Try.prog 11 #[ptr bt] w fun e w' => e = .returned (.int .i64 (A.length : Nat)) ∧ A.length ≤ room ∧ OnL W bt room A m ks v w' := by
  obtain ⟨s, hs⟩ := h.t
  refine (tLen W.heap.size bt room A m s w hs).mono ?_
  rintro e w' ⟨rfl, hs', ht⟩
  refine ⟨rfl, ?_, hs', ht.seg h.s (by decide), h.d, h.l, h.b.trans (ht.below h.b.size)⟩
  have h1 : s.A.length = s.es.length := by unfold TS.A; rw [List.length_map]
  rw [← hs.a, h1, ← hs.r]
  exact hs.ok.r
theorem once_many (room : Int) (a : Option Addr) (len cap : Nat) (w : World) (h : 100 < len) : Calls Try.prog 4 #[.int .u8 room, .slice a len cap] w fun e w' => e = .returned (.bool true) ∧ Below w.heap.size w w' := by
  have hl2 : (100 : Int) < (len : Int) := by omega
  go_enter Try.func4, Try.ntmps4
  go_wp2_with fail
  refine (awake18_ok _).mono ?_
  rintro e w1 ⟨rfl, hb⟩
  go_wp2_with fail
  go_ret
  exact ⟨rfl, hb⟩
theorem once_walk (room : Nat) (hr : room < 256) (a : Option Addr) (len cap : Nat) (l : List Dd) (w : World) (hz : IsRows 6 ddC w a len cap l) (h : len ≤ 100) : Calls Try.prog 4 #[.int .u8 (room : Int), .slice a len cap] w fun e w' => e = .returned (.bool true) ∧ Below w.heap.size w w' := by
  have hl2 : ¬ (100 : Int) < (len : Int) := by omega
  have HZ := Lib.hid hz
  have HL := Lib.hid h
  have hw1 : IntKind.i64.wrap ((room : Int) + 1) = ((room + 1 : Nat) : Int) := by rw [IntKind.wrap_i64]; omega
  have hwr : wrap64 (room : Int) = (room : Int) := by unfold wrap64; omega
  have hw2 : wrap64 ((room : Int) + 1) = ((room + 1 : Nat) : Int) := by unfold wrap64; omega
  have HR := Lib.hid hr
  have HN := Lib.hid (new_ok 8 (room + 1) w (by decide) (by decide) (by omega) (by omega))
  clear hz h
  generalize room + 1 = r1 at *
  go_enter Try.func4, Try.ntmps4
  go_wp2_with fail
  refine HN.out.mono ?_
  rintro e w1 ⟨rfl, hs1, hb1⟩
  have HST : Hid (OnL w w.heap.size r1 [] 0 [] (.slice none 0 0) w1) := Lib.hid ⟨hs1, Seg.nil _ _ _ _, by simp, Nat.le_refl _, hb1⟩
  clear hs1 hb1 HN hr
  go_wp2_with fail
  generalize hbt : w.heap.size = bt at HST ⊢
  have HBT := Lib.hid hbt
  clear hbt
  go_loopg [7, 8] len (fun gk v i wr => ∃ (k m : Nat) (A : List DE) (ks : List (Int × Int)), len - k ≤ gk ∧ k ≤ len ∧ i = .int .i64 (k : Int) ∧ m ≤ k ∧ Hid (OnL w bt r1 A m ks v wr))
  case atStart => exact ⟨0, 0, [], [], by omega, Nat.zero_le _, rfl, Nat.le_refl _, HST⟩
  case round =>
    clear HST
    obtain ⟨k, m, A, ks, hkg, hk, rfl, hmk, HREL⟩ := hrel
    by_cases hlt : k < len
    · obtain ⟨g, off, hk', rfl, hg, hcell⟩ := HZ.out.get18 k hlt
      obtain ⟨c, hc⟩ : ∃ c, l[k] = c := ⟨_, rfl⟩
      rw [hc] at hcell
      obtain ⟨kind, s, b, need, xi, xt⟩ := c
      have hlt' : (k : Int) < (len : Int) := Int.ofNat_lt.2 hlt
      have hk0 : (0 : Int) ≤ (k : Int) := by omega
      have HCELL : Hid (∀ w', Below w.heap.size w w' → w'.cell? ⟨g, off + k * 6 + 1, none⟩ = some (.int .i64 s) ∧ w'.cell? ⟨g, off + k * 6 + 2, none⟩ = some (.int .u32 b) ∧ w'.cell? ⟨g, off + k * 6 + 3, none⟩ = some (.int .i64 need) ∧ w'.cell? ⟨g, off + k * 6 + 4, none⟩ = some (.int .i64 xi) ∧ w'.cell? ⟨g, off + k * 6 + 5, none⟩ = some (Str xt)) := Lib.hid fun w' hb =>
        ⟨(hb.cell (p := ⟨g, _, none⟩) hg).trans (hcell 1 (by decide)), (hb.cell (p := ⟨g, _, none⟩) hg).trans (hcell 2 (by decide)), (hb.cell (p := ⟨g, _, none⟩) hg).trans (hcell 3 (by decide)), (hb.cell (p := ⟨g, _, none⟩) hg).trans (hcell 4 (by decide)), (hb.cell (p := ⟨g, _, none⟩) hg).trans (hcell 5 (by decide))⟩
      have HK := Lib.hid hlt
      have HMK := Lib.hid hmk
      obtain ⟨av, cv, rfl⟩ := HREL.out.s.form
      obtain ⟨e1, e2, e3, e4, e5⟩ := HCELL.out _ HREL.out.b
      clear hcell hc hk' hg hlt
      by_cases h3 : (300 : Int) < (xt.length : Int)
      · go_wp2_with fail
        go_roundg (len - (k + 1))
        case measure => have := HK.out; omega
        case rel => exact ⟨k + 1, m, A, ks, Nat.le_refl _, HK.out, by go_num, Nat.le_succ_of_le HMK.out, HREL⟩
      · have HPUT := Lib.hid ((HREL.out.chain (Below.refl _ wr).drew).put (by have := HMK.out; have := HK.out; have := HL.out; omega) s b need xi xt)
        have HMK2 : Hid (m + 1 ≤ k + 1) := Lib.hid (Nat.succ_le_succ HMK.out)
        obtain ⟨A', hA'⟩ : ∃ A', putA r1 A (s, b) need (xi, xt) = A' := ⟨_, rfl⟩
        obtain ⟨v, hv⟩ : ∃ v, putV r1 A (s, b) need (xi, xt) = v := ⟨_, rfl⟩
        have HA' := Lib.hid hA'
        have HV := Lib.hid hv
        rw [hA', hv] at HPUT
        have HNOT : Hid (v = 3 → ¬ DoneK A (s, b)) := Lib.hid fun h9 => once_not (hv.trans h9)
        have HRDY : Hid (v = 3 → ∃ l : List Sh, getD (s, b) A' = some ((s, b), need, l) ∧ (l.length : Int) = need) := Lib.hid fun h9 => by rw [← hA']; exact once_ready (hv.trans h9)
        have HLK := Lib.hid HREL.out.l
        have HOLDK : Hid (∀ k0 ∈ ks, DoneK A k0) := Lib.hid HREL.out.d
        clear hA' hv
        by_cases hv3 : v = 3
        · have hvb : ((v : Int) == 3) = true := by rw [hv3]; rfl
          have hnk := HNOT.out hv3
          obtain ⟨sl, hgd, hsl⟩ := HRDY.out hv3
          have HNK := Lib.hid hnk
          have HGD := Lib.hid hgd
          have HSL := Lib.hid hsl
          clear hv3 hnk hgd hsl
          go_wp2_with fail
          have HCD := Lib.hid (HCELL.out _ HREL.out.b.drew)
          go_region_held3 (fun w' => (w'.cell? ⟨g, off + k * 6 + 1, none⟩ = some (.int .i64 s) ∧ w'.cell? ⟨g, off + k * 6 + 2, none⟩ = some (.int .u32 b) ∧ w'.cell? ⟨g, off + k * 6 + 3, none⟩ = some (.int .i64 need) ∧ w'.cell? ⟨g, off + k * 6 + 4, none⟩ = some (.int .i64 xi) ∧ w'.cell? ⟨g, off + k * 6 + 5, none⟩ = some (Str xt)))
            (first
              | with_reducible exact HCD.out
              | exact HCELL.out _ H2.out.b)
            ((first
              | (go_at_call 12; refine HPUT.out.mono ?_; rintro e w2 ⟨rfl, h2⟩; have H2 := Lib.hid h2; clear h2)))
          clear e1 e2 e3 e4 e5 HPUT HREL HCD
          go_wp2_with fail
          go_loopg [9] ks.length (fun gk2 kk wq => ∃ q : Nat, ks.length - q ≤ gk2 ∧ q ≤ ks.length ∧ kk = .int .i64 (q : Int) ∧ Hid (OnL w bt r1 A' (m + 1) ks (.slice av ks.length cv) wq))
          case atStart => exact ⟨0, by omega, Nat.zero_le _, rfl, H2⟩
          case round =>
            clear H2
            obtain ⟨q, hqg, hq, rfl, H2⟩ := hrel
            by_cases hql : q < ks.length
            · have hql' : (q : Int) < (ks.length : Int) := by omega
              have hqb : (q : Int) ≤ 1000 := by have h1 := H2.out.l; have h2 := HMK.out; have h3 := HK.out; have h4 := HL.out; omega
              obtain ⟨gd, od, _, ea, _, hgd2, _⟩ := H2.out.s.shape (by omega)
              cases ea
              have hkq : ks[q]? = some ks[q] := List.getElem?_eq_getElem hql
              have hmem : ks[q] ∈ ks := List.getElem_mem hql
              obtain ⟨ky, hky⟩ : ∃ ky, ks[q] = ky := ⟨_, rfl⟩
              rw [hky] at hkq hmem
              have hne : ¬ ky = (s, b) := fun h9 => HNK.out (h9 ▸ HOLDK.out ky hmem)
              obtain ⟨c1, c2⟩ := kyC_at ks q ky hkq
              have d0 : wr.cell? ⟨gd, od + q * 2, none⟩ = some (.int .i64 ky.1) := by rw [H2.out.s.at (q * 2) (by omega), c1]
              have d1 : wr.cell? ⟨gd, od + q * 2 + 1, none⟩ = some (.int .u32 ky.2) := by rw [Nat.add_assoc, H2.out.s.at (q * 2 + 1) (by omega), c2]
              obtain ⟨e1, e2, e3, e4, e5⟩ := HCELL.out _ H2.out.b
              have hek : ∀ w, (binOp .eql 35 (.agg #[.int .i64 ky.1, .int .u32 ky.2]) (.agg #[.int .i64 s, .int .u32 b])).run Try.prog w = .ok (.bool false) w := fun w => by
                have := run_eql_key w ky (s, b)
                rw [decide_eq_false hne] at this
                exact this
              have HQ := Lib.hid hql
              clear hkq hmem hky hne c1 c2 hql
              go_wp2_with fail
              go_quiet (fail)
              go_wp2_with fail
              go_roundg (ks.length - (q + 1))
              case measure => have := HQ.out; omega
              case rel => exact ⟨q + 1, Nat.le_refl _, HQ.out, by go_num, Lib.hid (H2.out.chain (below_drewN (Below.refl _ _) _))⟩
            · have hql' : ¬ (q : Int) < (ks.length : Int) := by omega
              obtain ⟨e1, e2, e3, e4, e5⟩ := HCELL.out _ H2.out.b
              clear hql
              have HQ2 : Hid (ks.length + 1 ≤ maxLen ∧ (ks.length + 1) * 16 ≤ 140737488355328) := Lib.hid (by unfold maxLen; have h1 := H2.out.l; have h2 := HMK.out; have h3 := HK.out; have h4 := HL.out; omega)
              have HAL := Lib.hid (H2.out.chain (Below.chainAlloc (Below.refl _ wr) (.cells #[.int .i64 s, .int .u32 b] 35)))
              have HRD := Lib.hid (rds_key wr s b)
              obtain ⟨i0, hi, hz0, hz1, hz2⟩ := info_parts infoKy
              go_wp2_with (at_builtin; refine wpList_append_rds rfl _ _ 45 rfl w.heap.size 35 i0 _ 2 16 Try.underlying45 hi hz0 hz1 hz2 rfl (by decide) (.slice av ks.length cv) ks.length (kyC ks) rfl HAL.out.s _ 1 _ rfl HRD.out (by simp [Value.oneCell']) HQ2.out.1 HQ2.out.2 HAL.out.b.size ?_; intro v3 w3 hown3 hgrow3 hat3; obtain ⟨a3, n3, rfl⟩ := Seg.form hown3; have HO3 := Lib.hid hown3; have HG3 : Hid (Only ((Value.slice av ks.length cv).ownBlock.toList) (wr.alloc (.cells #[.int .i64 s, .int .u32 b] 35)) w3) := Lib.hid ((Only.refl _ _).grown hgrow3 (fun x hx => .inl (by simp [hx]))); have HB3 : Hid (Below w.heap.size w w3) := Lib.hid (Below.only HAL.out.b HG3.out (fun x hx => (HAL.out.s.blk x (by simpa using hx)).1)); obtain ⟨e1, e2, e3, e4, e5⟩ := HCELL.out _ HB3.out; clear hown3 hgrow3 hat3)
              have HFN : Hid (OnL w bt r1 A' (m + 1) (ks ++ [(s, b)]) (.slice a3 (ks.length + 1) n3) w3) := Lib.hid (HAL.out.add (s, b) ⟨_, HGD.out, by show need ≤ (sl.length : Int); have := HSL.out; omega⟩ HLK.out HO3.out HG3.out HB3.out)
              refine (HFN.out.get s b need sl HGD.out).mono ?_
              rintro e w4 ⟨a4, n4, rfl, h4⟩
              have H4 := Lib.hid h4
              obtain ⟨e1, e2, e3, e4, e5⟩ := HCELL.out _ h4.b
              have hnl : ((sl.length : Int) != need) = false := by rw [HSL.out]; simp
              have hnl2 : (sl.length : Int) = need := HSL.out
              clear h4 hnl2
              go_wp2_with fail
              refine H4.out.len.mono ?_
              rintro e w5 ⟨rfl, hle, h5⟩
              have H5 := Lib.hid h5
              have hgt : ¬ (r1 : Int) < (A'.length : Int) := by omega
              have HKL : Hid (ks.length + 1 = (ks ++ [(s, b)]).length) := Lib.hid (by simp)
              generalize A'.length = n1 at *
              clear h5 hle e1 e2 e3 e4 e5
              go_wp2_with fail
              go_roundg (len - (k + 1))
              case measure => have := HK.out; omega
              case rel => exact ⟨k + 1, m + 1, A', ks ++ [(s, b)], Nat.le_refl _, HK.out, by go_num, HMK2.out, H5⟩
        · have hvb : ((v : Int) == 3) = false := beq_eq_false_iff_ne.2 (by omega)
          clear hv3
          go_wp2_with fail
          have HCD := Lib.hid (HCELL.out _ HREL.out.b.drew)
          go_region_held3 (fun w' => (w'.cell? ⟨g, off + k * 6 + 1, none⟩ = some (.int .i64 s) ∧ w'.cell? ⟨g, off + k * 6 + 2, none⟩ = some (.int .u32 b) ∧ w'.cell? ⟨g, off + k * 6 + 3, none⟩ = some (.int .i64 need) ∧ w'.cell? ⟨g, off + k * 6 + 4, none⟩ = some (.int .i64 xi) ∧ w'.cell? ⟨g, off + k * 6 + 5, none⟩ = some (Str xt)))
            (first
              | with_reducible exact HCD.out
              | exact HCELL.out _ H2.out.b)
            ((first
              | (go_at_call 12; refine HPUT.out.mono ?_; rintro e w2 ⟨rfl, h2⟩; have H2 := Lib.hid h2; clear h2)))
          clear e1 e2 e3 e4 e5 HPUT HREL HCD
          go_wp2_with fail
          refine H2.out.len.mono ?_
          rintro e w3 ⟨rfl, hle, h3'⟩
          have H3 := Lib.hid h3'
          have hgt : ¬ (r1 : Int) < (A'.length : Int) := by omega
          generalize A'.length = n1 at *
          clear h3' hle
          go_wp2_with fail
          go_roundg (len - (k + 1))
          case measure => have := HK.out; omega
          case rel => exact ⟨k + 1, m + 1, A', ks, Nat.le_refl _, HK.out, by go_num, HMK2.out, H3⟩
    · obtain rfl : k = len := Nat.le_antisymm hk (Nat.le_of_not_lt hlt)
      have hlt' : ¬ (k : Int) < (k : Int) := Int.lt_irrefl _
      have HB := Lib.hid HREL.out.b
      clear hk hlt hmk
      go_wp2_with fail
      refine (awake18_ok _).mono ?_
      rintro e w8 ⟨rfl, hb⟩
      have HB8 := Lib.hid (Below.chain hb HB.out)
      clear hb
      go_wp2_with fail
      go_ret
      exact ⟨rfl, HB8.out⟩
theorem once_any (room : Int) (h0 : 0 ≤ room) (h1 : room < 256) (a : Option Addr) (len cap : Nat) (l : List Dd) (w : World) (hz : IsRows 6 ddC w a len cap l) : Calls Try.prog 4 #[.int .u8 room, .slice a len cap] w fun e w' => e = .returned (.bool true) ∧ Below w.heap.size w w' := by
  by_cases h : 100 < len
  · exact once_many room a len cap w h
  · obtain ⟨n, rfl⟩ : ∃ n : Nat, room = (n : Int) := ⟨room.toNat, by omega⟩
    exact once_walk n (by omega) a len cap l w hz (by omega)
end Go.Proofs.Ytnommofekjiiaaa
