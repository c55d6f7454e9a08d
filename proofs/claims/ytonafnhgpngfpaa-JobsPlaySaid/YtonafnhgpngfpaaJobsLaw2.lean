/-
  The law JobsPlay returns true for every room and every list of deeds. No condition.
-/
import Derived.Test.YtonafnhgpngfpaaJobsLaw
import Derived.Test.YtonafnhgpngfpaaFlat
namespace Go.Proofs.Ytonafnhgpngfpaa
open Go.ChangeShapes Go.WideShapes Go.ChangeAt Go.RowKit
set_option linter.unusedVariables false
set_option maxRecDepth 100000
set_option maxHeartbeats 4000000
/-- A deed. -/
structure JD where
  kind : Int
  s : Int
  b : Int
def JD.cells (d : JD) : List Value := [.int .i64 d.kind, .int .i64 d.s, .int .u32 d.b]
def JD.good (d : JD) : Prop := (-9223372036854775808 ≤ d.kind ∧ d.kind ≤ 9223372036854775807) ∧ (-9223372036854775808 ≤ d.s ∧ d.s ≤ 9223372036854775807) ∧ (0 ≤ d.b ∧ d.b ≤ 4294967295)
theorem open_jd {H : Type} {enc : TypeId × Value → H} {W : World} {b : Nat} {sp : Nat → Bool} {hd : Bool} {a : Option Addr} {len cap : Nat} {d : DataW H} {p : List MemPlace}
    (h : DataW.Trod enc Try.prog W b sp hd 72 (.slice a len cap) d p) : ∃ ds : List JD, IsRows 3 JD.cells W a len cap ds ∧ ∀ r ∈ ds, r.good := by
  refine open_rows 3 JD.cells JD.good Try.underlying72 (by kernel_rfl) (by decide) h fun cs m x hx => ?_
  have := flat_fits 9 m 80 [.int .i64, .int .i64, .int .u32] cs x (by kernel_rfl) hx
  obtain ⟨_, _, rfl, ⟨z0, rfl, w0⟩, _, _, rfl, ⟨z1, rfl, w1⟩, _, _, rfl, ⟨z2, rfl, w2⟩, rfl⟩ := this
  exact ⟨⟨z0, z1, z2⟩, rfl, wf_i64 w0, wf_i64 w1, wf_u32 w2⟩
theorem IsRows.at {α : Type} {size : Nat} {encd : α → List Value} {w : World} {a : Option Addr} {len cap : Nat} {ds : List α} (h : IsRows size encd w a len cap ds) (k : Nat) (hk : k < len) :
    ∃ (g off : Nat) (hk' : k < ds.length), a = some ⟨g, off, none⟩ ∧ g < w.heap.size ∧ ∀ j, j < size → w.cell? ⟨g, off + k * size + j, none⟩ = (encd ds[k])[j]? := by
  obtain ⟨h1, _, _, h4⟩ := h
  obtain ⟨g, off, ha, hg, hc⟩ := h4.resolve_left (by omega)
  exact ⟨g, off, by omega, ha, hg, fun j hj => hc k (by omega) j hj⟩
def Jb.key (j : Jb) : List Value := [.int .i64 j.s, .int .u32 j.b]
/-- What holds at the loop's head. -/
structure PlayRel (w : World) (room : Nat) (qb : Nat) (wr : World) (hv : Value) (c : Bool) (js : List Jb) (v : Value) : Prop where
  q : Jq wr qb v js room c
  hs : Seg wr (w.heap.size) 78 2 hv js.length (js.flatMap Jb.key)
  hne : ∀ g, hv.ownBlock = some g → g ≠ qb ∧ v.ownBlock ≠ some g
  below : Below w.heap.size w wr
  qle : w.heap.size ≤ qb
theorem Jq.only {w w' : World} {b : Nat} {v : Value} {js : List Jb} {room : Nat} {c : Bool} {S : List Nat} (h : Jq w b v js room c) (ho : Only S w w') (hb : b ∉ S) (hv : ∀ g, v.ownBlock = some g → g ∉ S) : Jq w' b v js room c :=
  ⟨h.1.only ho hb, h.2.1.only ho hv, h.2.2⟩
theorem PlayRel.chain {w wr w' : World} {room qb : Nat} {hv : Value} {c : Bool} {js : List Jb} {v : Value} (h : PlayRel w room qb wr hv c js v) (hb : Below wr.heap.size wr w') : PlayRel w room qb w' hv c js v :=
  ⟨h.q.below hb, h.hs.chain hb, h.hne, Below.chain hb h.below, h.qle⟩
/-- The queue has turned, the list has not. -/
theorem PlayRel.turned {w wr w' : World} {room qb : Nat} {hv : Value} {c c' : Bool} {js js' : List Jb} {v v' : Value} (h : PlayRel w room qb wr hv c js v) (hq : Jq w' qb v' js' room c') (ho : Only (qb :: v.ownBlock.toList) wr w')
    (hv' : v'.ownBlock = v.ownBlock ∨ ∃ g, v'.ownBlock = some g ∧ wr.heap.size ≤ g) :
    Seg w' (w.heap.size) 78 2 hv js.length (js.flatMap Jb.key) ∧ (∀ g, hv.ownBlock = some g → g ≠ qb ∧ v'.ownBlock ≠ some g) ∧ Below w.heap.size w w' := by
  refine ⟨h.hs.only ho (fun g hg hm => ?_), fun g hg => ⟨(h.hne g hg).1, ?_⟩, push_below h.q h.below h.qle ho⟩
  · rcases List.mem_cons.1 hm with e | e
    · exact (h.hne g hg).1 e
    · exact (h.hne g hg).2 (by simpa using e)
  · rcases hv' with e | ⟨g', e, hl⟩
    · rw [e]; exact (h.hne g hg).2
    · rw [e]
      have := (h.hs.blk g hg).2
      intro he
      have : g' = g := by simpa using he
      omega
/-- A key more in the list. -/
theorem PlayRel.grew {w w2 w3 : World} {room qb : Nat} {hv : Value} {js js2 : List Jb} {j : Jb} {v' : Value} {o : Obj} {g' off' cap' : Nat} (hj : js2 = js ++ [j]) (hq2 : Jq w2 qb v' js2 room false) (hs2 : Seg w2 w.heap.size 78 2 hv js.length (js.flatMap Jb.key))
    (hne2 : ∀ g, hv.ownBlock = some g → g ≠ qb ∧ v'.ownBlock ≠ some g) (hB2 : Below w.heap.size w w2) (hqle : w.heap.size ≤ qb)
    (hown : Seg w3 w.heap.size 78 2 (.slice (some ⟨g', off', none⟩) (js.length + 1) cap') (js.length + 1) (js.flatMap Jb.key ++ Jb.key j)) (hgrow : (w2.alloc o).grownBy w3 hv.ownBlock) (hat : hv.ownBlock = some g' ∨ g' = w2.heap.size + 1) :
    PlayRel w room qb w3 (.slice (some ⟨g', off', none⟩) js2.length cap') false js2 v' := by
  have hl : js2.length = js.length + 1 := by rw [hj]; simp
  have ho := Only.of_grown hgrow
  have hx := hs2.blk
  have hq := hq2.1.lt
  have hvb := hq2.2.1.blk
  refine ⟨(hq2.below (Below.chainAlloc (Below.refl _ _) o)).only ho (fun hm => ?_) (fun g hg hm => ?_), ?_, fun g hg => ?_, Below.only (Below.chainAlloc hB2 o) ho (fun x hm => (hx x (by simpa using hm)).1), hqle⟩
  · exact (hne2 qb (by simpa using hm)).1 rfl
  · exact (hne2 g (by simpa using hm)).2 hg
  · rw [hl, hj, List.flatMap_append]
    simpa using hown
  · obtain rfl : g' = g := by simpa [Value.ownBlock] using hg
    rcases hat with e | e
    · exact hne2 g' e
    · refine ⟨by omega, fun he => ?_⟩
      have := (hvb _ he).2
      omega
theorem infoKey : (Try.prog.info? 78).map (fun i => (i.zero, i.size, i.bytes)) = some (some (.agg #[.int .i64 0, .int .u32 0]), 2, 16) := by kernel_rfl
theorem play_few (room : Int) (hr0 : 1 ≤ room) (hr1 : room ≤ 4096) (a : Option Addr) (len cap : Nat) (ds : List JD) (w : World) (hz : IsRows 3 JD.cells w a len cap ds) (hgood : ∀ r ∈ ds, r.good) (hlen : len ≤ 80) :
    Calls Try.prog 11 #[.int .i64 room, .slice a len cap] w fun e w' => e = .returned (.bool true) ∧ Below w.heap.size w w' := by
  have t1 : ¬ room < 1 := by omega
  have t2 : ¬ 4096 < room := by omega
  have hl2 : ¬ (80 : Int) < (len : Int) := by omega
  go_enter Try.func11, Try.ntmps11
  go_wp2_with fail
  refine (jnew_any room _ hr0 hr1).mono ?_
  rintro x w1 ⟨rfl, hq, hb, hlt⟩
  go_wp2_with fail
  have hrows := hz.below hb
  go_loopg [7, 8, 9] len (fun gk hv cl i wr => ∃ (k : Nat) (c : Bool) (js : List Jb) (v : Value), k ≤ len ∧ len ≤ k + gk ∧ i = .int .i64 k ∧ cl = .bool c ∧ js.length ≤ k ∧ PlayRel w room.toNat w.heap.size wr hv c js v)
  case atStart => exact ⟨0, false, [], .slice none 0 0, by omega, by omega, rfl, rfl, by simp, ⟨hq, Seg.nil _ _ _ _, by simp [Value.ownBlock], hb, Nat.le_refl _⟩⟩
  case round =>
    clear hq hb hlt
    obtain ⟨k, c, js, v, hk, hgk, rfl, rfl, hjk, hR⟩ := hrel
    by_cases hlt' : k < len
    · obtain ⟨g, off, hk', rfl, hg, hcell⟩ := hz.at k hlt'
      have hgd := hgood ds[k] (by simp)
      generalize ds[k] = d at *
      obtain ⟨kind, s, b⟩ := d
      obtain ⟨⟨k0, k1⟩, ⟨s0, s1⟩, b0, b1⟩ := hgd
      dsimp only at k0 k1 s0 s1 b0 b1
      have hB := hR.below
      have e0 : wr.cell? ⟨g, off + k * 3, none⟩ = some (.int .i64 kind) := (hB.cell (p := ⟨g, _, none⟩) hg).trans (hcell 0 (by decide))
      have e1 : wr.cell? ⟨g, off + k * 3 + 1, none⟩ = some (.int .i64 s) := (hB.cell (p := ⟨g, _, none⟩) hg).trans (hcell 1 (by decide))
      have e2 : wr.cell? ⟨g, off + k * 3 + 2, none⟩ = some (.int .u32 b) := (hB.cell (p := ⟨g, _, none⟩) hg).trans (hcell 2 (by decide))
      have E1 := Lib.hid (hcell 1 (by decide))
      have E2 := Lib.hid (hcell 2 (by decide))
      clear hcell hgood hz
      by_cases h0 : kind = 0
      · subst h0
        go_wp2_with fail
        clear e0 e1 e2
        cases c with
        | true =>
          refine (jpush_shut _ _ _ _ ⟨s, b, 0, 0, 0⟩ _ hR.q).mono ?_
          rintro x w2 ⟨rfl, hb2⟩
          replace hR := hR.chain hb2
          clear hb2 hB
          obtain ⟨ah, ch, rfl⟩ := hR.hs.form
          go_wp2_with fail
          refine (jlen_any _ _ _ _ _ _ hR.q).mono ?_
          rintro x wx ⟨rfl, rfl⟩
          go_wp2_with fail
          refine (jclosed_any _ _ _ _ _ _ hR.q).mono ?_
          rintro x wx ⟨rfl, rfl⟩
          go_wp2_with fail
          go_roundg (gk - 1)
          case measure => omega
          case rel => exact ⟨k + 1, true, js, v, by omega, by omega, by go_num, rfl, by omega, hR⟩
        | false =>
          by_cases hfull : room.toNat ≤ js.length
          · refine (jpush_full _ _ _ _ ⟨s, b, 0, 0, 0⟩ _ hR.q hfull).mono ?_
            rintro x w2 ⟨rfl, hb2⟩
            replace hR := hR.chain hb2
            clear hb2 hB
            obtain ⟨ah, ch, rfl⟩ := hR.hs.form
            have hf : room ≤ (js.length : Int) := by omega
            go_wp2_with fail
            refine (jlen_any _ _ _ _ _ _ hR.q).mono ?_
            rintro x wx ⟨rfl, rfl⟩
            go_wp2_with fail
            refine (jclosed_any _ _ _ _ _ _ hR.q).mono ?_
            rintro x wx ⟨rfl, rfl⟩
            go_wp2_with fail
            go_roundg (gk - 1)
            case measure => omega
            case rel => exact ⟨k + 1, false, js, v, by omega, by omega, by go_num, rfl, by omega, hR⟩
          · refine (jpush_ok _ _ _ _ ⟨s, b, 0, 0, 0⟩ _ hR.q (by omega)).mono ?_
            rintro x w2 ⟨rfl, v', hq2, ho2, hv2⟩
            obtain ⟨hs2, hne2, hB2⟩ := hR.turned hq2 ho2 hv2
            have hqle := hR.qle
            obtain ⟨ah, ch, rfl⟩ := hR.hs.form
            have hf : ¬ room ≤ (js.length : Int) := by omega
            have e1 : w2.cell? ⟨g, off + k * 3 + 1, none⟩ = some (.int .i64 s) := (hB2.cell (p := ⟨g, _, none⟩) hg).trans E1.out
            have e2 : w2.cell? ⟨g, off + k * 3 + 2, none⟩ = some (.int .u32 b) := (hB2.cell (p := ⟨g, _, none⟩) hg).trans E2.out
            have hsz : w.heap.size ≤ w2.heap.size := hB2.size
            clear hR hB ho2 hv2
            obtain ⟨i0, hi, hz0, hz1, hz2⟩ := info_parts infoKey
            go_wp2_with (at_builtin; refine wpList_append_seg _ rfl (.tmp 73) (.tmp 79) 76 rfl w.heap.size 78 i0 _ 2 16 Try.underlying76 hi hz0 hz1 hz2 rfl (by decide) _ js.length (js.flatMap Jb.key) rfl (hs2.alloc _) ⟨w2.heap.size, 0, none⟩ 1 1 (Jb.key ⟨s, b, 0, 0, 0⟩) rfl rfl (cells_new _ _ _) (by simp [Jb.key, Value.oneCell']) (by decide) (by unfold maxLen; omega) (by omega) (by simp; omega) (w2.heap.size + 1) (size_alloc _ _) ?_; intro g' off' cap' w3 hown hgrow hat)
            have hl : js.length + 1 = (js ++ [(⟨s, b, 0, 0, 0⟩ : Jb)]).length := by simp
            have hR := PlayRel.grew rfl hq2 hs2 hne2 hB2 hqle hown hgrow hat
            rw [hl]
            have hjk2 : (js ++ [(⟨s, b, 0, 0, 0⟩ : Jb)]).length ≤ k + 1 := by simp; omega
            clear hq2 hs2 hne2 hB2 hown hgrow hat hl hjk
            generalize (js ++ [(⟨s, b, 0, 0, 0⟩ : Jb)]) = js2 at *
            refine (jlen_any _ _ _ _ _ _ hR.q).mono ?_
            rintro x wx ⟨rfl, rfl⟩
            go_wp2_with fail
            refine (jclosed_any _ _ _ _ _ _ hR.q).mono ?_
            rintro x wx ⟨rfl, rfl⟩
            go_wp2_with fail
            go_roundg (gk - 1)
            case measure => omega
            case rel => exact ⟨k + 1, false, js2, v', by omega, by omega, by go_num, rfl, by omega, hR⟩
      · by_cases h1 : kind = 1
        · subst h1
          cases js with
          | nil =>
            go_wp2_with fail
            clear e0 e1 e2 E1 E2
            refine (jpop_empty _ _ _ _ _ hR.q).mono ?_
            rintro x w2 ⟨rfl, hb2⟩
            replace hR := hR.chain hb2
            clear hb2 hB
            obtain ⟨ah, ch, rfl⟩ := hR.hs.form
            go_wp2_with fail
            replace hR := (hR.chain (Below.chainAlloc (Below.refl _ _) (.cells #[.int .i64 0, .int .u32 0, .int .i64 0, .int .i64 0, .int .i64 0, .slice none 0 0] 84)))
            generalize w2.alloc (.cells #[.int .i64 0, .int .u32 0, .int .i64 0, .int .i64 0, .int .i64 0, .slice none 0 0] 84) = w3 at *
            go_quiet (fail)
            replace hR := hR.chain (below_drewN (Below.refl _ _) nq)
            generalize w3.drewN nq = w4 at *
            go_wp2_with fail
            refine (jlen_any _ _ _ _ _ _ hR.q).mono ?_
            rintro x wx ⟨rfl, rfl⟩
            go_wp2_with fail
            refine (jclosed_any _ _ _ _ _ _ hR.q).mono ?_
            rintro x wx ⟨rfl, rfl⟩
            go_wp2_with fail
            go_roundg (gk - 1)
            case measure => omega
            case rel => exact ⟨k + 1, c, [], v, by omega, by omega, by go_num, rfl, by simp, hR⟩
          | cons j js =>
            go_wp2_with fail
            clear e0 e1 e2 E1 E2
            refine (jpop_ok _ _ _ _ _ _ _ hR.q).mono ?_
            rintro x w2 ⟨rfl, v', hq2, ho2, hv2⟩
            obtain ⟨hs2, hne2, hB2⟩ := hR.turned hq2 (ho2.mono (fun x hx => .inl (by simp at hx; simp [hx]))) (.inl hv2)
            have hqle := hR.qle
            obtain ⟨g2, o2, c2, rfl, hg2, hgl2, hnc2, hcm2⟩ := hR.hs.shape (by simp)
            clear hR hB ho2 hv2
            go_wp2_with fail
            have kb := Blk.newAt (w := w2) (cs := #[.int .i64 j.s, .int .u32 j.b, .int .i64 j.k, .int .i64 j.n, .int .i64 j.len, .slice none 0 0]) (t := 84) rfl
            replace hq2 := hq2.below (Below.chainAlloc (Below.refl _ _) (.cells #[.int .i64 j.s, .int .u32 j.b, .int .i64 j.k, .int .i64 j.n, .int .i64 j.len, .slice none 0 0] 84))
            replace hs2 := hs2.chain (Below.chainAlloc (Below.refl _ _) (.cells #[.int .i64 j.s, .int .u32 j.b, .int .i64 j.k, .int .i64 j.n, .int .i64 j.len, .slice none 0 0] 84))
            replace hB2 := Below.chainAlloc hB2 (.cells #[.int .i64 j.s, .int .u32 j.b, .int .i64 j.k, .int .i64 j.n, .int .i64 j.len, .slice none 0 0] 84)
            generalize w2.alloc (.cells #[.int .i64 j.s, .int .u32 j.b, .int .i64 j.k, .int .i64 j.n, .int .i64 j.len, .slice none 0 0] 84) = w3 at *
            generalize w2.heap.size = n2 at *
            have d0 : w3.cell? ⟨n2, 0, none⟩ = some (.int .i64 j.s) := kb.facts.1 0
            have d1 : w3.cell? ⟨n2, 1, none⟩ = some (.int .u32 j.b) := kb.facts.1 1
            have d2 : w3.cell? ⟨g2, o2, none⟩ = some (.int .i64 j.s) := by simpa [Jb.key] using hs2.at 0 (by simp)
            have d3 : w3.cell? ⟨g2, o2 + 1, none⟩ = some (.int .u32 j.b) := by simpa [Jb.key] using hs2.at 1 (by simp; omega)
            clear kb
            generalize hn : (j :: js).length = n at *
            have hnp : (0 : Int) < (n : Int) := by simp at hn; omega
            go_quiet (fail)
            have hB4 := below_drewN (Below.refl w3.heap.size w3) nq
            replace hq2 := hq2.below hB4
            replace hs2 := hs2.chain hB4
            replace hB2 := Below.chain hB4 hB2
            clear d0 d1 d2 d3 hB4
            generalize w3.drewN nq = w4 at *
            go_wp2_with fail
            all_goals
              obtain ⟨m, rfl⟩ : ∃ m, n = m + 1 := ⟨n - 1, by omega⟩
              obtain rfl : js.length = m := by simpa using hn
            · have hc1 : c2 = 1 := by assumption
              have hs5 : Seg w4 w.heap.size 78 2 (.slice (some ⟨g2, o2, none⟩) js.length 0) js.length (js.flatMap Jb.key) := by
                have := hs2.tail o2 (.inr ⟨hc1, rfl⟩)
                rw [show c2 - 1 = 0 by omega] at this
                simpa [Jb.key] using this
              have hR : PlayRel w room.toNat w.heap.size w4 _ c js v' := ⟨hq2, hs5, fun x hx => hne2 x (by simpa [Value.ownBlock] using hx), hB2, hqle⟩
              clear hs5 hs2 hne2 hB2 hqle hq2 hc1
              refine (jlen_any _ _ _ _ _ _ hR.q).mono ?_
              rintro x wx ⟨rfl, rfl⟩
              go_wp2_with fail
              refine (jclosed_any _ _ _ _ _ _ hR.q).mono ?_
              rintro x wx ⟨rfl, rfl⟩
              go_wp2_with fail
              go_roundg (gk - 1)
              case measure => omega
              case rel => exact ⟨k + 1, c, js, v', by omega, by omega, by go_num, rfl, by omega, hR⟩
            · have hs5 : Seg w4 w.heap.size 78 2 (.slice (some ⟨g2, o2 + 2, none⟩) js.length (c2 - 1)) js.length (js.flatMap Jb.key) := by
                have := hs2.tail (o2 + 2) (.inl rfl)
                simpa [Jb.key] using this
              have hR : PlayRel w room.toNat w.heap.size w4 _ c js v' := ⟨hq2, hs5, fun x hx => hne2 x (by simpa [Value.ownBlock] using hx), hB2, hqle⟩
              clear hs5 hs2 hne2 hB2 hqle hq2
              refine (jlen_any _ _ _ _ _ _ hR.q).mono ?_
              rintro x wx ⟨rfl, rfl⟩
              go_wp2_with fail
              refine (jclosed_any _ _ _ _ _ _ hR.q).mono ?_
              rintro x wx ⟨rfl, rfl⟩
              go_wp2_with fail
              go_roundg (gk - 1)
              case measure => omega
              case rel => exact ⟨k + 1, c, js, v', by omega, by omega, by go_num, rfl, by omega, hR⟩
        · have h0' : (kind == 0) = false := by simpa using h0
          have h1' : (kind == 1) = false := by simpa using h1
          cases c with
          | true =>
            go_wp2_with fail
            clear e0 e1 e2 E1 E2
            refine (jclose_shut _ _ _ _ _ hR.q).mono ?_
            rintro x w2 ⟨rfl, rfl⟩
            obtain ⟨ah, ch, rfl⟩ := hR.hs.form
            go_wp2_with fail
            refine (jlen_any _ _ _ _ _ _ hR.q).mono ?_
            rintro x wx ⟨rfl, rfl⟩
            go_wp2_with fail
            refine (jclosed_any _ _ _ _ _ _ hR.q).mono ?_
            rintro x wx ⟨rfl, rfl⟩
            go_wp2_with fail
            go_roundg (gk - 1)
            case measure => omega
            case rel => exact ⟨k + 1, true, js, v, by omega, by omega, by go_num, rfl, by omega, hR⟩
          | false =>
            go_wp2_with fail
            clear e0 e1 e2 E1 E2
            refine (jclose_open _ _ _ _ _ hR.q).mono ?_
            rintro x w2 ⟨rfl, hq2, ho2⟩
            have hT := hR.turned hq2 (ho2.mono (fun x hx => .inl (by simp at hx; simp [hx]))) (.inl rfl)
            replace hR : PlayRel w room.toNat w.heap.size w2 _ true js v := ⟨hq2, hT.1, hT.2.1, hT.2.2, hR.qle⟩
            clear hT hq2 ho2 hB
            obtain ⟨ah, ch, rfl⟩ := hR.hs.form
            go_wp2_with fail
            refine (jlen_any _ _ _ _ _ _ hR.q).mono ?_
            rintro x wx ⟨rfl, rfl⟩
            go_wp2_with fail
            refine (jclosed_any _ _ _ _ _ _ hR.q).mono ?_
            rintro x wx ⟨rfl, rfl⟩
            go_wp2_with fail
            go_roundg (gk - 1)
            case measure => omega
            case rel => exact ⟨k + 1, true, js, v, by omega, by omega, by go_num, rfl, by omega, hR⟩
    · have hlt3 := Lib.hid hlt'
      have hke : ¬ (k : Int) < (len : Int) := by omega
      clear hlt'
      go_wp2_with fail
      refine (jawake _).mono ?_
      rintro x w4 ⟨rfl, hb4⟩
      go_wp2_with fail
      go_ret
      exact ⟨rfl, Below.chain hb4 hR.below⟩
theorem play_bad (room : Int) (h : room < 1 ∨ 4096 < room) (a : Option Addr) (len cap : Nat) (w : World) (hlen : len ≤ 80) :
    Calls Try.prog 11 #[.int .i64 room, .slice a len cap] w fun e w' => e = .returned (.bool true) ∧ Below w.heap.size w w' := by
  have hl2 : ¬ (80 : Int) < (len : Int) := by omega
  have hbad := fun w0 => jnew_bad room w0 h
  by_cases t1 : room < 1
  · clear h
    go_enter Try.func11, Try.ntmps11
    go_wp2_with fail
    refine (hbad _).mono ?_
    rintro x w1 ⟨rfl, rfl⟩
    clear hbad
    go_wp2_with fail
    refine (jawake _).mono ?_
    rintro x w4 ⟨rfl, hb4⟩
    go_wp2_with fail
    go_ret
    exact ⟨rfl, hb4⟩
  · have t2 : 4096 < room := by omega
    clear h
    go_enter Try.func11, Try.ntmps11
    go_wp2_with fail
    refine (hbad _).mono ?_
    rintro x w1 ⟨rfl, rfl⟩
    clear hbad
    go_wp2_with fail
    refine (jawake _).mono ?_
    rintro x w4 ⟨rfl, hb4⟩
    go_wp2_with fail
    go_ret
    exact ⟨rfl, hb4⟩
theorem play_many (room : Int) (a : Option Addr) (len cap : Nat) (w : World) (hlen : 80 < len) :
    Calls Try.prog 11 #[.int .i64 room, .slice a len cap] w fun e w' => e = .returned (.bool true) ∧ Below w.heap.size w w' := by
  have hl2 : (80 : Int) < (len : Int) := by omega
  go_enter Try.func11, Try.ntmps11
  go_wp2_with fail
  refine (jawake _).mono ?_
  rintro x w4 ⟨rfl, hb4⟩
  go_wp2_with fail
  go_ret
  exact ⟨rfl, hb4⟩
theorem walkPlay (room : Int) (a : Option Addr) (len cap : Nat) (ds : List JD) (w : World) (hz : IsRows 3 JD.cells w a len cap ds) (hgood : ∀ r ∈ ds, r.good) :
    Calls Try.prog 11 #[.int .i64 room, .slice a len cap] w fun e w' => e = .returned (.bool true) ∧ Below w.heap.size w w' := by
  by_cases h : 80 < len
  · exact play_many room a len cap w h
  · by_cases hr : room < 1 ∨ 4096 < room
    · exact play_bad room hr a len cap w (by omega)
    · exact play_few room (by omega) (by omega) a len cap ds w hz hgood (by omega)
namespace jobsPlay
theorem own : ownKnob Try.prog.godebug = none := by kernel_rfl
theorem laidOut : laidOutB Try.prog = true := by kernel_rfl
set_option maxRecDepth 100000 in
theorem lifted (os : Os) (started : os.Started) (H : Type) (enc : TypeId × Value → H) :
    ReturnsInHanded {} Try.checked os 11 .any (Rows.jobsPlaySpec.pre6 enc Try.prog Try.f11 Rows.jobsPlayRow.domain false) (Rows.jobsPlaySpec.post enc Try.prog Try.f11 false true false false) := by
  refine law_lift (C := Try.checked) (tb := 4) own started (by kernel_rfl) Try.func11 laidOut rfl Try.underlying4 rfl (by kernel_rfl) (fun ds h => by match ds, h with | [d1, d2], _ => rfl)
    (ChangeSpec.witness6 (enc := enc) (C := Try.checked) false ⟨#[], #[.int .i64 0, .slice none 0 0], []⟩ 8 (by kernel_rfl) (by kernel_rfl) (by kernel_rfl) (by kernel_rfl)) ?_
  intro W base args ds ps hval hA
  rw [Try.params11] at hA hval
  obtain ⟨v0, v1, d0, d1, p0, p1, rfl, rfl, rfl, h0, h1⟩ := trodAll_two hA
  obtain ⟨room, rfl, rfl, rfl, wroom⟩ := open_int Try.underlying3 (hval 0 3 v0 rfl rfl) h0
  replace wroom := by simpa [Lit.wf, IntKind.min, IntKind.max, IntKind.signed, IntKind.bits] using wroom
  obtain ⟨al, nl, cl, rfl⟩ := okWide_slice Try.underlying72 (hval 1 72 v1 rfl rfl)
  obtain ⟨l, wl, gl⟩ := open_jd h1
  exact walkPlay room al nl cl l W wl gl
theorem proved : Rows.JobsPlaySaid :=
  OpenClaim.holds_of_wide 11 Try.f11 rfl rfl rfl rfl rfl rfl rfl ⟨rfl, rfl, rfl, rfl, rfl⟩ rfl rfl rfl rfl rfl (by kernel_rfl) Try.func11 (by kernel_rfl)
    (of_decide_eq_true (by kernel_rfl)) (by unfold Func.isWrapper; first | (rw [if_pos (by decide +kernel)]; kernel_rfl) | (rw [if_neg (by decide +kernel)]; exact ⟨rfl, rfl⟩))
    (fun os started H enc _ => lifted os started H enc)
end jobsPlay
#print axioms jobsPlay.proved
end Go.Proofs.Ytonafnhgpngfpaa
