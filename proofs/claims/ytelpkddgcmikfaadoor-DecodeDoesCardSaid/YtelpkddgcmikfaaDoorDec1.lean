/-
  Blocks out of shards: must, text, and Do, which catches what must threw (chapter 20).
-/
import Derived.Test.YtelpkddgcmikfaaDoorDecP
import Derived.Defers
import Derived.Recover
namespace Go.Proofs.YtelpkddgcmikfaaDoor
open Go Go.RowKit
set_option linter.unusedVariables false
set_option maxRecDepth 100000
set_option maxHeartbeats 1000000
def wrongP (z : Int) : List PanicEntry := [{ v := .iface 57 (.agg #[.int .i64 z]), recovered := false }]
theorem must_ok (w : World) : Calls Tryd.prog 27 #[.int .i64 0] w fun e w' => e = .returned (.tuple #[]) ∧ w' = w := by
  go_enter Tryd.func27, Tryd.ntmps27
  go_wp2_with fail
  go_end0
  exact ⟨rfl, rfl⟩
theorem must_no (z : Int) (hz : z ≠ 0) (w : World) : Calls Tryd.prog 27 #[.int .i64 z] w fun e w' => e = .panicked (wrongP z) ∧ w' = w := by
  have hne : (z != 0) = true := by simpa using hz
  go_enter Tryd.func27, Tryd.ntmps27
  go_wp2_with fail
  exact ⟨rfl, rfl, rfl⟩
/-- A job's cells. -/
def jobV (st bl k n len : Int) (v : Value) : Value := .agg #[.int .i64 st, .int .u32 bl, .int .i64 k, .int .i64 n, .int .i64 len, v]
def TextPost (D : List UInt8 × Int) (w : World) (e : Ending) (w' : World) : Prop := Below w.heap.size w w' ∧ e = if D.2 = 0 then .returned (Str D.1) else .panicked (wrongP D.2)
theorem text_any (B : Nat) (st bl k n len : Int) (v : Value) (xs : List Sh5) (hl : xs.length ≤ 1000) (w : World) (hs : ShAt B w v xs) :
    Calls Tryd.prog 17 #[jobV st bl k n len v] w (TextPost (doD k n len xs) w) := by
  have hb1 := dec_bound k n xs
  obtain ⟨hb1, hb2⟩ := hb1
  have hB0 : Below w.heap.size w (w.alloc (.cells #[.int .i64 st, .int .u32 bl, .int .i64 k, .int .i64 n, .int .i64 len, v] 30)) := Below.chainAlloc (Below.refl _ _) _
  have kx := Blk.new w #[.int .i64 st, .int .u32 bl, .int .i64 k, .int .i64 n, .int .i64 len, v] 30
  have HD := Lib.hid (decode_any B v xs k n hl _ (hs.chain hB0))
  unfold DecPost at HD
  have HB0 := Lib.hid hB0
  have HKX := Lib.hid kx
  have hdo : doD k n len xs = if (decM k n xs).2 ≠ 0 then ([], (decM k n xs).2) else joinC (decM k n xs).1 len := rfl
  obtain ⟨D, hD⟩ : ∃ D, doD k n len xs = D := ⟨_, rfl⟩
  rw [hD] at hdo ⊢
  have HDO := Lib.hid hdo
  clear hdo hD kx hB0
  obtain ⟨a, cap, rfl, _⟩ := hs
  generalize decM k n xs = M at *
  obtain ⟨T, z⟩ := M
  unfold jobV
  obtain ⟨x1, x2, x3⟩ := HKX.out.facts
  go_enter Tryd.func17, Tryd.ntmps17
  go_wp2_with fail
  refine HD.out.mono ?_
  rintro e w1 ⟨v1, rfl, hv1, hb1'⟩
  obtain ⟨a1, c1, rfl, _⟩ := strs_at hv1
  have HV1 := Lib.hid hv1
  have kx1 := HKX.out.below hb1' HKX.out.lt
  have HB1 := Lib.hid (Below.chain hb1' HB0.out)
  have y3 := kx1.facts.1 4
  have HL : Hid (T.length ≤ 32 ∧ T.flatten.length ≤ 32768) := Lib.hid (And.intro hb1 hb2)
  clear hv1 hb1' x1 x2 x3 hb1 hb2
  by_cases hz : z = 0
  · subst hz
    have HJ := Lib.hid (join_c 0 _ T len w1 HV1.out (by have := HL.out.1; omega) (by have := HL.out.2; omega))
    have HMO := Lib.hid must_ok
    obtain rfl : D = joinC T len := by rw [HDO.out, if_neg (by simp)]
    generalize joinC T len = J at *
    obtain ⟨s, z2⟩ := J
    clear HDO
    go_wp2_with fail
    refine (HMO.out _).mono ?_
    rintro e w2 ⟨rfl, rfl⟩
    go_wp2_with fail
    refine HJ.out.mono ?_
    rintro e w3 ⟨rfl, hb3⟩
    have HB3 := Lib.hid (Below.chain hb3 HB1.out)
    clear hb3
    by_cases hz2 : z2 = 0
    · subst hz2
      go_wp2_with fail
      refine (HMO.out _).mono ?_
      rintro e w4 ⟨rfl, rfl⟩
      go_wp2_with fail
      go_ret
      exact ⟨HB3.out, by simp⟩
    · have HMN := Lib.hid (must_no z2 hz2)
      go_wp2_with fail
      refine (HMN.out _).mono ?_
      rintro e w4 ⟨rfl, rfl⟩
      go_wp2_with fail
      exact ⟨rfl, HB3.out, by simp [hz2]⟩
  · have HMN := Lib.hid (must_no z hz)
    obtain rfl : D = ([], z) := by rw [HDO.out, if_pos hz]
    clear HDO
    go_wp2_with fail
    refine (HMN.out _).mono ?_
    rintro e w4 ⟨rfl, rfl⟩
    go_wp2_with fail
    exact ⟨rfl, HB1.out, by simp [hz]⟩
end Go.Proofs.YtelpkddgcmikfaaDoor
