/-
  The law RsDecodes returns true for every k, n and list of shards. No condition.
-/
import Derived.Test.YtibilabhokkhmaaRs9
import Derived.Test.YtibilabhokkhmaaRd3
import Derived.Test.YtibilabhokkhmaaFlat
import Derived.Test.YtibilabhokkhmaaLift2
namespace Go.Proofs.Ytibilabhokkhmaa
open Go.ChangeShapes Go.WideShapes Go.ChangeAt Go.RowKit
set_option linter.unusedVariables false
set_option maxRecDepth 100000
set_option maxHeartbeats 1000000
theorem open_shards {H : Type} {enc : TypeId × Value → H} {W : World} {b : Nat} {sp : Nat → Bool} {hd : Bool} {a : Option Addr} {len cap : Nat} {d : DataW H} {p : List MemPlace}
    (h : DataW.Trod enc Try.prog W b sp hd 58 (.slice a len cap) d p) : ∃ xs : List Sh5, ShAt W.heap.size W (.slice a len cap) xs := by
  obtain ⟨ds, ⟨h1, h2, h3, h4⟩, _⟩ := open_rows 2 (fun x : Sh5 => [.int .i64 x.1, Str x.2]) (fun _ => True) Try.underlying58 (by kernel_rfl) (by decide) h fun cs m x hx => by
    have := flat_fits 9 m 71 [.int .i64, .str] cs x (by kernel_rfl) hx
    obtain ⟨_, _, rfl, ⟨z0, rfl, _⟩, _, _, rfl, ⟨z1, rfl, _⟩, rfl⟩ := this
    exact ⟨(z0, z1), rfl, trivial⟩
  subst h1
  refine ⟨ds, a, cap, rfl, h2, h3, ?_⟩
  rcases h4 with h4 | ⟨g, off, ha, hg, hc⟩
  · exact .inl (List.eq_nil_of_length_eq_zero h4)
  · refine .inr ⟨g, off, ha, hg, .inl hg, fun i hi => ⟨?_, ?_⟩⟩
    · have := hc i hi 0 (by decide)
      simpa using this
    · have := hc i hi 1 (by decide)
      simpa using this
def SomePost (xs : List Sh5) (w : World) (e : Ending) (w' : World) : Prop := ∃ b : Bool, e = .returned (.bool b) ∧ w' = w ∧ (b = true → xs.length ≤ 40)
theorem some_any (B : Nat) (v : Value) (xs : List Sh5) (w : World) (h : ShAt B w v xs) : Calls Try.prog 34 #[v] w (SomePost xs w) := by
  obtain ⟨a, cap, rfl, hm1, hm2, hc⟩ := h
  have hm : xs.length ≤ 9223372036854775807 := by unfold maxLen at hm2; omega
  by_cases h1 : 40 < xs.length
  · have h1' : (40 : Int) < (xs.length : Int) := by omega
    go_enter Try.func34, Try.ntmps34
    go_wp2_with fail
    go_ret
    exact ⟨false, rfl, rfl, fun e => by cases e⟩
  · have h1' : ¬ (40 : Int) < (xs.length : Int) := by omega
    have HC := Lib.hid hc
    have H40 : Hid (xs.length ≤ 40) := Lib.hid (by omega)
    clear hc
    go_enter Try.func34, Try.ntmps34
    go_wp2_with fail
    go_loopw [3] (fun i wr => ∃ k : Nat, k ≤ xs.length ∧ i = .int .i64 k ∧ wr = w) (fun i _ => xs.length - (intOf i).toNat)
    case atStart => exact ⟨0, by omega, rfl, rfl⟩
    case round =>
      obtain ⟨k, hk, rfl, rfl⟩ := hrel
      by_cases hlt : k < xs.length
      · rcases HC.out with e | ⟨g, off, rfl, hg, _, hcc⟩
        · rw [e] at hlt; simp at hlt
        obtain ⟨_, c1⟩ := hcc k hlt
        have hlt' : (k : Int) < (xs.length : Int) := by omega
        have HH := Lib.hid hlt
        clear hcc
        generalize xs[k].2 = x at *
        by_cases q1 : (40 : Int) < (x.length : Int) ∧ (x.length : Int) ≤ 1024
        · obtain ⟨q2, q3⟩ := q1
          go_wp2_with fail
          go_ret
          exact ⟨false, rfl, rfl, fun e => by cases e⟩
        · by_cases q2 : (1100 : Int) < (x.length : Int)
          · have q3 : (40 : Int) < (x.length : Int) := by omega
            have q4 : ¬ (x.length : Int) ≤ 1024 := by omega
            clear q1
            go_wp2_with fail
            go_ret
            exact ⟨false, rfl, rfl, fun e => by cases e⟩
          · by_cases q3 : (40 : Int) < (x.length : Int)
            · have q4 : ¬ (x.length : Int) ≤ 1024 := fun q => q1 ⟨q3, q⟩
              clear q1
              go_wp2_with fail
              go_roundw
              case rel => exact ⟨k + 1, HH.out, by go_num, by first | rfl | trivial⟩
              case measure => have := HH.out; simp [intOf]; omega
            · clear q1
              go_wp2_with fail
              go_roundw
              case rel => exact ⟨k + 1, HH.out, by go_num, by first | rfl | trivial⟩
              case measure => have := HH.out; simp [intOf]; omega
      · have hlt' : ¬ (k : Int) < (xs.length : Int) := by omega
        go_wp2_with fail
        go_ret
        exact ⟨true, rfl, rfl, fun _ => H40.out⟩
theorem decodes_walk (B : Nat) (v : Value) (xs : List Sh5) (k n : Int) (w : World) (hs : ShAt B w v xs) :
    Calls Try.prog 10 #[.int .i64 k, .int .i64 n, v] w fun e w' => e = .returned (.bool true) ∧ Below w.heap.size w w' := by
  have HSM := Lib.hid (some_any B v xs w hs)
  have HS := Lib.hid hs
  obtain ⟨a, cap, rfl, _⟩ := hs
  by_cases hk : 12 < k ∧ k ≤ 32
  · obtain ⟨hk1, hk2⟩ := hk
    go_enter Try.func10, Try.ntmps10
    go_wp2_with fail
    refine HSM.out.mono ?_
    rintro e w0 ⟨b, rfl, rfl, _⟩
    cases b
    all_goals
      go_wp2_with fail
      refine (awake05 _).mono ?_
      rintro e w1 ⟨rfl, hb1⟩
      go_wp2_with fail
      go_ret
      exact ⟨rfl, hb1⟩
  · have hk2 : ¬ 12 < k ∨ ¬ k ≤ 32 := by omega
    clear hk
    go_enter Try.func10, Try.ntmps10
    go_wp2_with fail
    refine HSM.out.mono ?_
    rintro e w0 ⟨b, rfl, rfl, hb⟩
    cases b with
    | false =>
      go_wp2_with fail
      refine (awake05 _).mono ?_
      rintro e w1 ⟨rfl, hb1⟩
      go_wp2_with fail
      go_ret
      exact ⟨rfl, hb1⟩
    | true =>
      have hl40 := hb rfl
      have HD := Lib.hid (decode_any B _ xs k n (by omega) _ HS.out)
      have HRD := Lib.hid (fun w' (h : ShAt B w' (.slice a xs.length cap) xs) => rdecode_any B _ xs k n (by omega) w' h)
      have htt : textsB (decM k n xs).1 (decM k n xs).1 = true := decide_eq_true rfl
      have HTT := Lib.hid htt
      unfold DecPost at HD HRD
      clear hb hl40 htt
      obtain ⟨D, hD⟩ : ∃ D, decM k n xs = D := ⟨_, rfl⟩
      rw [hD] at HD HRD HTT
      obtain ⟨L, z⟩ := D
      clear hD
      have key : Code.wp Try.prog = Code.wp Try.prog := rfl
      clear key
      rcases hk2 with hk2 | hk2
      all_goals
        by_cases hk3 : 12 < k
        all_goals
          first
            | (exfalso; omega)
            | (go_wp2_with fail
               refine HD.out.mono ?_
               rintro e w1 ⟨v1, rfl, hv1, hb1⟩
               have HV1 := Lib.hid hv1
               obtain ⟨a1, c1, rfl, _⟩ := strs_at hv1
               have HB1 := Lib.hid hb1
               have HS1 := Lib.hid (HS.out.chain hb1)
               clear hv1 hb1
               go_wp2_with fail
               refine (HRD.out _ HS1.out).mono ?_
               rintro e w2 ⟨v2, rfl, hv2, hb2⟩
               have HTX := Lib.hid (texts_c w2 (HV1.out.chain hb2) hv2)
               obtain ⟨a2, c2, rfl, _⟩ := strs_at hv2
               have HB2 := Lib.hid (Below.chain hb2 HB1.out)
               rw [HTT.out] at HTX
               clear hv2 hb2
               go_wp2_with fail
               refine HTX.out.mono ?_
               rintro e w3 ⟨rfl, hd3⟩
               have HB3 := Lib.hid (Below.chain hd3.below HB2.out)
               clear hd3
               go_wp2_with fail
               refine (awake05 _).mono ?_
               rintro e w4 ⟨rfl, hb4⟩
               have hB := Below.chain hb4 HB3.out
               clear hb4
               go_wp2_with fail
               go_ret
               exact ⟨rfl, hB⟩)
namespace rsDecodes
theorem own : ownKnob Try.prog.godebug = none := by kernel_rfl
theorem laidOut : laidOutB Try.prog = true := by kernel_rfl
set_option maxRecDepth 100000 in
theorem lifted (os : Os) (started : os.Started) (H : Type) (enc : TypeId × Value → H) :
    ReturnsInHanded {} Try.checked os 10 .any (Rows.rsDecodesSpec.pre6 enc Try.prog Try.f10 Rows.rsDecodesRow.domain false) (Rows.rsDecodesSpec.post enc Try.prog Try.f10 false true false false) := by
  refine law_lift (C := Try.checked) (tb := 4) own started (by kernel_rfl) Try.func10 laidOut rfl Try.underlying4 rfl (by kernel_rfl) (fun ds h => by match ds, h with | [d1, d2, d3], _ => rfl)
    (ChangeSpec.witness6 (enc := enc) (C := Try.checked) false ⟨#[], #[.int .i64 0, .int .i64 0, .slice none 0 0], []⟩ 8 (by kernel_rfl) (by kernel_rfl) (by kernel_rfl) (by kernel_rfl)) ?_
  intro W base args ds ps hval hA
  rw [Try.params10] at hA hval
  obtain ⟨v0, v1, v2, d0, d1, d2, p0, p1, p2, rfl, rfl, rfl, h0, h1, h2⟩ := trodAll_three hA
  obtain ⟨k, rfl, rfl, rfl, wk⟩ := open_int Try.underlying3 (hval 0 3 v0 rfl rfl) h0
  obtain ⟨n, rfl, rfl, rfl, wn⟩ := open_int Try.underlying3 (hval 1 3 v1 rfl rfl) h1
  obtain ⟨al, nl, cl, rfl⟩ := okWide_slice Try.underlying58 (hval 2 58 v2 rfl rfl)
  obtain ⟨l, wl⟩ := open_shards h2
  exact decodes_walk _ _ l k n W wl
theorem proved : Rows.RsDecodesSaid :=
  OpenClaim.holds_of_wide 10 Try.f10 rfl rfl rfl rfl rfl rfl rfl ⟨rfl, rfl, rfl, rfl, rfl⟩ rfl rfl rfl rfl rfl (by kernel_rfl) Try.func10 (by kernel_rfl)
    (of_decide_eq_true (by kernel_rfl)) (by unfold Func.isWrapper; first | (rw [if_pos (by decide +kernel)]; kernel_rfl) | (rw [if_neg (by decide +kernel)]; exact ⟨rfl, rfl⟩))
    (fun os started H enc _ => lifted os started H enc)
end rsDecodes
#print axioms rsDecodes.proved
end Go.Proofs.Ytibilabhokkhmaa
