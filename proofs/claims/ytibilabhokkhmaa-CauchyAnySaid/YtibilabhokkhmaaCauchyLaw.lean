/-
  The law CauchyRows returns true for every k, n and list of rows. No condition.
-/
import Derived.Test.YtibilabhokkhmaaCauchy4
import Derived.Test.YtibilabhokkhmaaLift2
import Derived.Test.YtibilabhokkhmaaChecked
namespace Go.Proofs.Ytibilabhokkhmaa
open Go.ChangeShapes Go.WideShapes Go.ChangeAt Go.RowKit
set_option linter.unusedVariables false
set_option maxRecDepth 100000
set_option maxHeartbeats 2000000
theorem IsInts.at {w : World} {a : Option Addr} {len cap : Nat} {zs : List Int} (h : IsInts .i64 w a len cap zs) : IntsAt w.heap.size w (.slice a len cap) zs := by
  have hr := h.i64
  obtain ⟨h1, h2, h3, _, h5⟩ := h
  subst h1
  refine ⟨⟨a, cap, by simp, by simpa using h2, h3, ?_⟩, hr⟩
  rcases h5 with h5 | ⟨b, off, ha, hb, hc⟩
  · exact .inl (by simp [List.eq_nil_of_length_eq_zero h5])
  · exact .inr ⟨b, off, ha, hb, .inl hb, fun j hj => by rw [hc j (by simpa using hj)]; simp⟩
theorem sameB_self (l : List Nat) : sameB l l = true := decide_eq_true rfl
theorem sameMB_self (l : List (List Nat)) : sameMB l l = true := decide_eq_true rfl
theorem rows_nil (k n : Int) (B : Nat) (a : Option Addr) (cap : Nat) (w : World) (h0 : IntsAt B w (.slice a 0 cap) []) :
    Calls Try.prog 3 #[.int .i64 k, .int .i64 n, .slice a 0 cap] w fun e w' => e = .returned (.bool true) ∧ Below w.heap.size w w' := by
  go_enter Try.func3, Try.ntmps3
  go_wp2_with fail
  refine (crow_any k n 0 _).mono ?_
  rintro x w1 ⟨r1, rfl, hr1, hB⟩
  have k1 := hr1 0
  clear hr1
  go_wp2_with fail
  refine (rrow_any k n 0 _).mono ?_
  rintro x w2 ⟨r2, rfl, hr2, hb2⟩
  replace k1 := k1.chain hb2
  replace hB := Below.chain hb2 hB
  have k2 := hr2 0
  clear hr2 hb2
  go_wp2_with fail
  refine (pick_any k n B _ _ _ (h0.chain hB)).mono ?_
  rintro x w3 ⟨p1, rfl, m1, hb3⟩
  replace k1 := k1.chain hb3
  replace k2 := k2.chain hb3
  replace hB := Below.chain hb3 hB
  clear hb3
  go_wp2_with fail
  refine (rpick_any k n B _ _ _ (h0.chain hB)).mono ?_
  rintro x w4 ⟨p2, rfl, m2, hb4⟩
  replace k1 := k1.chain hb4
  replace k2 := k2.chain hb4
  replace m1 := m1.chain hb4
  replace hB := Below.chain hb4 hB
  clear hb4
  go_wp2_with fail
  refine (same_any _ k1 k2).mono ?_
  rw [sameB_self]
  rintro x w5 ⟨rfl, hd⟩
  replace m1 := m1.chain hd.below
  replace m2 := m2.chain hd.below
  replace hB := Below.chain hd.below hB
  clear hd k1 k2
  go_wp2_with fail
  refine (sameM_any _ m1 m2).mono ?_
  rw [sameMB_self]
  rintro x w6 ⟨rfl, hd⟩
  replace hB := Below.chain hd.below hB
  clear hd m1 m2
  go_wp2_with fail
  refine (awake04 _).mono ?_
  rintro x w7 ⟨rfl, hb⟩
  replace hB := Below.chain hb hB
  clear hb
  go_wp2_with fail
  go_ret
  exact ⟨rfl, hB⟩
theorem rows_cons (k n : Int) (B : Nat) (a : Option Addr) (cap : Nat) (z : Int) (zs : List Int) (w : World) (h0 : IntsAt B w (.slice a (z :: zs).length cap) (z :: zs)) (hl : (z :: zs).length ≤ 300) :
    Calls Try.prog 3 #[.int .i64 k, .int .i64 n, .slice a (z :: zs).length cap] w fun e w' => e = .returned (.bool true) ∧ Below w.heap.size w w' := by
  obtain ⟨_, _, e, hm, hc⟩ := h0.at
  cases e
  obtain ⟨g, off, rfl, hg, hc0, hz0, hz1⟩ := hc 0 (by simp)
  have hc1 : w.cell? ⟨g, off, none⟩ = some (.int .i64 z) := hc0
  have hz0' : -9223372036854775808 ≤ z := hz0
  have hz1' : z ≤ 9223372036854775807 := hz1
  clear hc hc0 hz0 hz1
  have hpos : 0 < (z :: zs).length := by simp
  generalize hzz : z :: zs = ys at *
  have HZ := Lib.hid hzz
  clear hzz
  go_enter Try.func3, Try.ntmps3
  go_wp2_with fail
  refine (crow_any k n z _).mono ?_
  rintro x w1 ⟨r1, rfl, hr1, hB⟩
  have k1 := hr1 0
  clear hr1
  go_wp2_with fail
  refine (rrow_any k n z _).mono ?_
  rintro x w2 ⟨r2, rfl, hr2, hb2⟩
  replace k1 := k1.chain hb2
  replace hB := Below.chain hb2 hB
  have k2 := hr2 0
  clear hr2 hb2
  go_wp2_with fail
  refine (pick_any k n B _ _ _ (h0.chain hB)).mono ?_
  rintro x w3 ⟨p1, rfl, m1, hb3⟩
  replace k1 := k1.chain hb3
  replace k2 := k2.chain hb3
  replace hB := Below.chain hb3 hB
  clear hb3
  go_wp2_with fail
  refine (rpick_any k n B _ _ _ (h0.chain hB)).mono ?_
  rintro x w4 ⟨p2, rfl, m2, hb4⟩
  replace k1 := k1.chain hb4
  replace k2 := k2.chain hb4
  replace m1 := m1.chain hb4
  replace hB := Below.chain hb4 hB
  clear hb4
  go_wp2_with fail
  refine (same_any _ k1 k2).mono ?_
  rw [sameB_self]
  rintro x w5 ⟨rfl, hd⟩
  replace m1 := m1.chain hd.below
  replace m2 := m2.chain hd.below
  replace hB := Below.chain hd.below hB
  clear hd k1 k2
  go_wp2_with fail
  refine (sameM_any _ m1 m2).mono ?_
  rw [sameMB_self]
  rintro x w6 ⟨rfl, hd⟩
  replace hB := Below.chain hd.below hB
  clear hd m1 m2
  go_wp2_with fail
  refine (awake04 _).mono ?_
  rintro x w7 ⟨rfl, hb⟩
  replace hB := Below.chain hb hB
  clear hb
  go_wp2_with fail
  go_ret
  exact ⟨rfl, hB⟩
theorem rows_many (k n : Int) (a : Option Addr) (len cap : Nat) (w : World) (hl : 300 < len) :
    Calls Try.prog 3 #[.int .i64 k, .int .i64 n, .slice a len cap] w fun e w' => e = .returned (.bool true) ∧ Below w.heap.size w w' := by
  go_enter Try.func3, Try.ntmps3
  go_wp2_with fail
  refine (awake04 _).mono ?_
  rintro x w7 ⟨rfl, hb⟩
  go_wp2_with fail
  go_ret
  exact ⟨rfl, hb⟩
theorem walkRows (k n : Int) (a : Option Addr) (len cap : Nat) (zs : List Int) (w : World) (h : IsInts .i64 w a len cap zs) :
    Calls Try.prog 3 #[.int .i64 k, .int .i64 n, .slice a len cap] w fun e w' => e = .returned (.bool true) ∧ Below w.heap.size w w' := by
  obtain rfl := h.1
  have h0 := h.at
  by_cases hl : 300 < zs.length
  · exact rows_many k n a _ cap w hl
  · cases zs with
    | nil => exact rows_nil k n _ a cap w h0
    | cons z zs => exact rows_cons k n _ a cap z zs w h0 (by omega)
namespace cauchyRows
theorem own : ownKnob Try.prog.godebug = none := by kernel_rfl
theorem laidOut : laidOutB Try.prog = true := by kernel_rfl
set_option maxRecDepth 100000 in
theorem lifted (os : Os) (started : os.Started) (H : Type) (enc : TypeId × Value → H) :
    ReturnsInHanded {} Try.checked os 3 .any (Rows.cauchyRowsSpec.pre6 enc Try.prog Try.f3 Rows.cauchyRowsRow.domain false) (Rows.cauchyRowsSpec.post enc Try.prog Try.f3 false true false false) := by
  refine law_lift (C := Try.checked) (tb := 4) own started (by kernel_rfl) Try.func3 laidOut rfl Try.underlying4 rfl (by kernel_rfl) (fun ds h => by match ds, h with | [d1, d2, d3], _ => rfl)
    (ChangeSpec.witness6 (enc := enc) (C := Try.checked) false ⟨#[], #[.int .i64 0, .int .i64 0, .slice none 0 0], []⟩ 8 (by kernel_rfl) (by kernel_rfl) (by kernel_rfl) (by kernel_rfl)) ?_
  intro W base args ds ps hval hA
  rw [Try.params3] at hA hval
  obtain ⟨v0, v1, v2, d0, d1, d2, p0, p1, p2, rfl, rfl, rfl, h0, h1, h2⟩ := trodAll_three hA
  obtain ⟨k, rfl, rfl, rfl, wk⟩ := open_int Try.underlying3 (hval 0 3 v0 rfl rfl) h0
  replace wk := by simpa [Lit.wf, IntKind.min, IntKind.max, IntKind.signed, IntKind.bits] using wk
  obtain ⟨n, rfl, rfl, rfl, wn⟩ := open_int Try.underlying3 (hval 1 3 v1 rfl rfl) h1
  replace wn := by simpa [Lit.wf, IntKind.min, IntKind.max, IntKind.signed, IntKind.bits] using wn
  obtain ⟨al, nl, cl, rfl⟩ := okWide_slice Try.underlying22 (hval 2 22 v2 rfl rfl)
  obtain ⟨l, wl⟩ := open_intsl (k := .i64) Try.underlying22 Try.underlying3 (by kernel_rfl) h2
  exact walkRows k n al nl cl l W wl
theorem proved : Rows.CauchyRowsSaid :=
  OpenClaim.holds_of_wide 3 Try.f3 rfl rfl rfl rfl rfl rfl rfl ⟨rfl, rfl, rfl, rfl, rfl⟩ rfl rfl rfl rfl rfl (by kernel_rfl) Try.func3 (by kernel_rfl)
    (of_decide_eq_true (by kernel_rfl)) (by unfold Func.isWrapper; first | (rw [if_pos (by decide +kernel)]; kernel_rfl) | (rw [if_neg (by decide +kernel)]; exact ⟨rfl, rfl⟩))
    (fun os started H enc _ => lifted os started H enc)
end cauchyRows
#print axioms cauchyRows.proved
end Go.Proofs.Ytibilabhokkhmaa
