/-
  Datagrams: the example (chapter 10).
-/
import Derived.Test.YtphejbjbleeigaaDg12
namespace Go.Proofs.Ytphejbjbleeigaa
open Go.RowKit
set_option linter.unusedVariables false
set_option maxRecDepth 100000
set_option maxHeartbeats 1000000
def one10 : Dg := ⟨1, 3, 7, 1, 2, 3, 5, 0, [], [97, 98, 99]⟩
def fin10 : Dg := ⟨5, 3, 7, 0, 0, 0, 0, 0, [], []⟩
def x10 : Dg := ⟨1, 3, 7, 2, 2, 3, 5, 0, [], [97, 98, 99]⟩
def y10 : Dg := ⟨1, 3, 7, 1, 2, 3, 5, 0, [120], [97, 98, 99]⟩
def fewB (d : Dg) : Bool := decide ((d.body.length : Int) ≤ 1100) && decide ((d.have'.length : Int) ≤ 100)
theorem one_dg (w : World) : Calls Try.prog 54 #[] w (RetB (.agg #[.int .i64 1, .int .i64 3, .int .u32 7, .int .i64 1, .int .i64 2, .int .i64 3, .int .i64 5, .int .i64 0, .string ⟨#[]⟩, .string ⟨#[97, 98, 99]⟩]) w) := by
  go_enter Try.func54, Try.ntmps54
  go_wp2_with fail
  exact bodyPost_ret (v := .agg #[.int .i64 1, .int .i64 3, .int .u32 7, .int .i64 1, .int .i64 2, .int .i64 3, .int .i64 5, .int .i64 0, .string ⟨#[]⟩, .string ⟨#[97, 98, 99]⟩]) (by simp [results, go_sem]) rfl ⟨rfl, Below.chainAlloc (Below.refl _ _) _⟩
theorem ret_bool {a b : Bool} (h : a = b) : Ending.returned (.bool a) = .returned (.bool b) := by rw [h]
theorem few_dg (kind stream block index k n len credit : Int) (hv body : List UInt8) (w : World) :
    Calls Try.prog 15 #[.agg #[.int .i64 kind, .int .i64 stream, .int .u32 block, .int .i64 index, .int .i64 k, .int .i64 n, .int .i64 len, .int .i64 credit, Str hv, Str body]] w (RetB (.bool (fewB ⟨kind, stream, block, index, k, n, len, credit, hv, body⟩)) w) := by
  have HZ : Hid (fewB ⟨kind, stream, block, index, k, n, len, credit, hv, body⟩ = (decide ((body.length : Int) ≤ 1100) && decide ((hv.length : Int) ≤ 100))) := Lib.hid rfl
  generalize fewB ⟨kind, stream, block, index, k, n, len, credit, hv, body⟩ = z at *
  cases h1 : decide ((body.length : Int) ≤ 1100) <;> cases h2 : decide ((hv.length : Int) ≤ 100)
  all_goals
    rw [h1, h2] at HZ
    go_enter Try.func15, Try.ntmps15
    go_wp2_with fail
    go_ret
    exact ⟨ret_bool HZ.out.symm, Below.chainAlloc (Below.refl _ _) _⟩
theorem fin10_E : dgE fin10 = 0 := by decide +kernel
theorem one10_E : dgE one10 = 0 := by decide +kernel
theorem x10_E : dgE x10 = 2 := by decide +kernel
theorem y10_E : dgE y10 = 5 := by decide +kernel
theorem z10_E : dgE dg0 = 1 := by decide +kernel
theorem fin10_S : (dgS fin10).length = 12 := by decide +kernel
theorem one10_S : (dgS one10).length = 20 := by decide +kernel
theorem x10_S : dgS x10 = [] := by unfold dgS; rw [if_neg (by rw [x10_E]; decide)]
theorem nil10_E : readE [] = 4 := by decide +kernel
theorem nil10_D : readD [] = dg0 := by unfold readD; rw [if_neg (by rw [nil10_E]; decide)]
theorem one10_back : readE (dgS one10) = 0 ∧ readD (dgS one10) = one10 := dg_back ⟨by decide, by decide⟩ one10_E
theorem one10_bit (c : UInt8) (h : (dgS one10)[19]? ≠ some c) : readE ((dgS one10).set 19 c) = 6 := bit_seen one10_E 19 (by rw [one10_S]; decide) c (fun e => h (by rw [List.getElem?_eq_getElem (by rw [one10_S]; decide), e]))
theorem check_dg' (kind stream block index k n len credit : Int) (hv body : List UInt8) (hh : hv.length ≤ 9223372036854775807) (hb : body.length ≤ 9223372036854775807) (w : World) :
    Calls Try.prog 19 #[.agg #[.int .i64 kind, .int .i64 stream, .int .u32 block, .int .i64 index, .int .i64 k, .int .i64 n, .int .i64 len, .int .i64 credit, Str hv, Str body]] w (RetB (.int .i64 (dgE ⟨kind, stream, block, index, k, n, len, credit, hv, body⟩)) w) := check_dg ⟨kind, stream, block, index, k, n, len, credit, hv, body⟩ hh hb w
theorem size_dg' (kind stream block index k n len credit : Int) (hv body : List UInt8) (h0 : 0 ≤ block) (h1 : block < 4294967296) (hh : hv.length ≤ 9223372036854775807) (hb : body.length ≤ 9223372036854775807) (w : World) :
    Calls Try.prog 21 #[.agg #[.int .i64 kind, .int .i64 stream, .int .u32 block, .int .i64 index, .int .i64 k, .int .i64 n, .int .i64 len, .int .i64 credit, Str hv, Str body]] w (RetB (.int .i64 (dgS ⟨kind, stream, block, index, k, n, len, credit, hv, body⟩).length) w) := size_dg ⟨kind, stream, block, index, k, n, len, credit, hv, body⟩ ⟨h0, h1⟩ hh hb w
theorem awake10 (w : World) : Calls Try.prog 16 #[] w fun e w' => e = .returned (.bool true) ∧ Below w.heap.size w w' := by
  have HP1 : Hid (∀ w, Calls Try.prog 17 #[.agg #[.int .i64 5, .int .i64 3, .int .u32 7, .int .i64 0, .int .i64 0, .int .i64 0, .int .i64 0, .int .i64 0, .string ⟨#[]⟩, .string ⟨#[]⟩]] w (RetB (.tuple #[Str (dgS fin10), .int .i64 0]) w)) := Lib.hid (fun w => by
    have h := put_dg fin10 ⟨by decide, by decide⟩ (by decide) (by decide) w
    rw [fin10_E] at h; exact h)
  have HP2 : Hid (∀ w, Calls Try.prog 17 #[.agg #[.int .i64 1, .int .i64 3, .int .u32 7, .int .i64 1, .int .i64 2, .int .i64 3, .int .i64 5, .int .i64 0, .string ⟨#[]⟩, .string ⟨#[97, 98, 99]⟩]] w (RetB (.tuple #[Str (dgS one10), .int .i64 0]) w)) := Lib.hid (fun w => by
    have h := put_dg one10 ⟨by decide, by decide⟩ (by decide) (by decide) w
    rw [one10_E] at h; exact h)
  have HR1 : Hid (∀ w, Calls Try.prog 22 #[Str (dgS one10)] w (RetB (.tuple #[.agg #[.int .i64 1, .int .i64 3, .int .u32 7, .int .i64 1, .int .i64 2, .int .i64 3, .int .i64 5, .int .i64 0, .string ⟨#[]⟩, .string ⟨#[97, 98, 99]⟩], .int .i64 0]) w)) := Lib.hid (fun w => by
    have h := read_dg (dgS one10) (by rw [one10_S]; decide) w
    rw [one10_back.1, one10_back.2] at h; exact h)
  have HR2 : Hid (∀ (c : UInt8) (_ : (dgS one10)[19]? ≠ some c) w, Calls Try.prog 22 #[Str ((dgS one10).set 19 c)] w (RetB (.tuple #[.agg #[.int .i64 0, .int .i64 0, .int .u32 0, .int .i64 0, .int .i64 0, .int .i64 0, .int .i64 0, .int .i64 0, .string ⟨#[]⟩, .string ⟨#[]⟩], .int .i64 6]) w)) := Lib.hid (fun c hc w => by
    have h := read_dg ((dgS one10).set 19 c) (by rw [List.length_set, one10_S]; decide) w
    rw [one10_bit c hc, readD_no (by rw [one10_bit c hc]; decide)] at h; exact h)
  have HR3 : Hid (∀ w, Calls Try.prog 22 #[.string ⟨#[]⟩] w (RetB (.tuple #[.agg #[.int .i64 0, .int .i64 0, .int .u32 0, .int .i64 0, .int .i64 0, .int .i64 0, .int .i64 0, .int .i64 0, .string ⟨#[]⟩, .string ⟨#[]⟩], .int .i64 4]) w)) := Lib.hid (fun w => by
    have h := read_dg [] (by decide) w
    rw [nil10_E, nil10_D] at h; exact h)
  have ex : dgE ⟨1, 3, 7, 2, 2, 3, 5, 0, [], [97, 98, 99]⟩ = 2 := x10_E
  have ey : dgE ⟨1, 3, 7, 1, 2, 3, 5, 0, [120], [97, 98, 99]⟩ = 5 := y10_E
  have ez : dgE ⟨0, 0, 0, 0, 0, 0, 0, 0, [], []⟩ = 1 := z10_E
  have sx : ((dgS ⟨1, 3, 7, 1, 2, 3, 5, 0, [], [97, 98, 99]⟩).length : Int) = 20 := by
    rw [show (⟨1, 3, 7, 1, 2, 3, 5, 0, [], [97, 98, 99]⟩ : Dg) = one10 from rfl, one10_S]; rfl
  have sy : ((dgS ⟨1, 3, 7, 2, 2, 3, 5, 0, [], [97, 98, 99]⟩).length : Int) = 0 := by
    rw [show (⟨1, 3, 7, 2, 2, 3, 5, 0, [], [97, 98, 99]⟩ : Dg) = x10 from rfl, x10_S]; rfl
  have lF := fin10_S
  have lT := one10_S
  generalize dgS fin10 = F at *
  generalize dgS one10 = T at *
  have lF' : (F.length : Int) = 12 := by omega
  have lT' : (T.length : Int) = 20 := by omega
  go_enter Try.func16, Try.ntmps16
  go_wp2_with fail
  refine (HP1.out _).mono ?_
  rintro e w1 ⟨rfl, hb⟩
  have hB := hb
  clear hb HP1
  go_wp2_with fail
  refine (one_dg _).mono ?_
  rintro e w2 ⟨rfl, hb⟩
  have hB := Below.chain hb hB
  clear hb
  go_wp2_with fail
  refine (HP2.out _).mono ?_
  rintro e w3 ⟨rfl, hb⟩
  have hB := Below.chain hb hB
  clear hb HP2
  go_wp2_with fail
  refine (HR1.out _).mono ?_
  rintro e w4 ⟨rfl, hb⟩
  have hB := Below.chain hb hB
  clear hb HR1
  have k5 := Blk.new w4 #[.int .i64 1, .int .i64 3, .int .u32 7, .int .i64 1, .int .i64 2, .int .i64 3, .int .i64 5, .int .i64 0, .string ⟨#[]⟩, .string ⟨#[97, 98, 99]⟩] 24
  have hB := Below.chainAlloc hB (.cells #[.int .i64 1, .int .i64 3, .int .u32 7, .int .i64 1, .int .i64 2, .int .i64 3, .int .i64 5, .int .i64 0, .string ⟨#[]⟩, .string ⟨#[97, 98, 99]⟩] 24)
  generalize hq5 : w4.heap.size = B5 at *
  generalize hW5 : w4.alloc (.cells #[.int .i64 1, .int .i64 3, .int .u32 7, .int .i64 1, .int .i64 2, .int .i64 3, .int .i64 5, .int .i64 0, .string ⟨#[]⟩, .string ⟨#[97, 98, 99]⟩] 24) = w5 at *
  obtain ⟨cap, w6, hcv, hby, hb6, hcap, hcap2⟩ := conv_bytes w5 T (by omega)
  rw [lT] at hcv
  have k6 := k5.below hb6 k5.lt
  have hB6 := Below.chain hb6 hB
  have hn6 : B5 ≠ w5.heap.size := by have := k5.lt; omega
  have hg0 : w.heap.size ≤ w5.heap.size := hB.size
  clear hB k5 hb6
  generalize w5.heap.size = g at *
  have h19 : 19 < T.length := by omega
  obtain ⟨c19, f19⟩ := hby.2 19 h19
  have ht := u8_lt T[19]
  have hx : bits .xor .u8 (T[19].toNat : Int) 1 = ((T[19].toNat ^^^ 1 : Nat) : Int) := u8_xor_nat _ 1 ht (by decide)
  have hxl : T[19].toNat ^^^ 1 < 256 := Nat.xor_lt_two_pow (n := 8) ht (by decide)
  have hfin := hby.setAt 19 ((T[19].toNat ^^^ 1 : Nat) : Int) (by omega) (by omega)
  have hne : T[19]? ≠ some (U8 ((T[19].toNat ^^^ 1 : Nat) : Int)) := by
    rw [List.getElem?_eq_getElem h19]
    intro e
    have e2 := congrArg UInt8.toNat (Option.some.inj e)
    have e3 := U8_toNat ((T[19].toNat ^^^ 1 : Nat) : Int) (by omega)
    have e4 : T[19].toNat ^^^ (T[19].toNat ^^^ 1) = 1 := by rw [← Nat.xor_assoc, Nat.xor_self, Nat.zero_xor]
    have e5 : T[19].toNat ^^^ 1 = T[19].toNat := by omega
    rw [e5, Nat.xor_self] at e4
    cases e4
  have HR2' := Lib.hid (HR2.out _ hne)
  have hcv2 := fun c => conv_string hfin (n := 20) (by rw [List.length_set, lT]) c
  have k7 := k6.setOther ⟨g, 19, none⟩ (.int .u8 ((T[19].toNat ^^^ 1 : Nat) : Int)) hn6
  have hB7 := hB6.setCell (p := ⟨g, 19, none⟩) hg0 (.int .u8 ((T[19].toNat ^^^ 1 : Nat) : Int))
  clear hne HR2 hfin hby k6 hB6
  generalize T[19].toNat = t at *
  generalize t ^^^ 1 = t' at *
  generalize hW7 : w6.setCell ⟨g, 19, none⟩ (.int .u8 (t' : Int)) = w7 at *
  go_wp2_with fail
  refine wp_loop_rounds 2 ?_
  iterate 2 (rw [rounds_succ]; go_wp2_with fail)
  refine (HR2'.out _).mono ?_
  rintro e w8 ⟨rfl, hb⟩
  clear hW7 hcv hcv2 c19 f19 hx hcap hcap2 HR2'
  have k8 := k7.below hb k7.lt
  have hB8 := Below.chain hb hB7
  clear hb k7 hB7
  have k9 := k8.alloc (.cells #[.int .i64 0, .int .i64 0, .int .u32 0, .int .i64 0, .int .i64 0, .int .i64 0, .int .i64 0, .int .i64 0, .string ⟨#[]⟩, .string ⟨#[]⟩] 24)
  have hB9 := Below.chainAlloc hB8 (.cells #[.int .i64 0, .int .i64 0, .int .u32 0, .int .i64 0, .int .i64 0, .int .i64 0, .int .i64 0, .int .i64 0, .string ⟨#[]⟩, .string ⟨#[]⟩] 24)
  have hn8 : B5 ≠ w8.heap.size := by have := k8.lt; omega
  go_wp2_with fail
  refine (HR3.out _).mono ?_
  rintro e w10 ⟨rfl, hb⟩
  have k10 := k9.below hb k9.lt
  have hB10 := Below.chain hb hB9
  clear hb k8 hB8 k9 hB9 HR3
  have k11 := k10.alloc (.cells #[.int .i64 0, .int .i64 0, .int .u32 0, .int .i64 0, .int .i64 0, .int .i64 0, .int .i64 0, .int .i64 0, .string ⟨#[]⟩, .string ⟨#[]⟩] 24)
  have hB11 := Below.chainAlloc hB10 (.cells #[.int .i64 0, .int .i64 0, .int .u32 0, .int .i64 0, .int .i64 0, .int .i64 0, .int .i64 0, .int .i64 0, .string ⟨#[]⟩, .string ⟨#[]⟩] 24)
  go_wp2_with fail
  refine (one_dg _).mono ?_
  rintro e w12 ⟨rfl, hb⟩
  have k12 := k11.below hb k11.lt
  have hB12 := Below.chain hb hB11
  clear hb k10 hB10 k11 hB11
  have k13 := k12.alloc (.cells #[.int .i64 1, .int .i64 3, .int .u32 7, .int .i64 2, .int .i64 2, .int .i64 3, .int .i64 5, .int .i64 0, .string ⟨#[]⟩, .string ⟨#[97, 98, 99]⟩] 24)
  have x13 := Blk.new w12 #[.int .i64 1, .int .i64 3, .int .u32 7, .int .i64 2, .int .i64 2, .int .i64 3, .int .i64 5, .int .i64 0, .string ⟨#[]⟩, .string ⟨#[97, 98, 99]⟩] 24
  have hB13 := Below.chainAlloc hB12 (.cells #[.int .i64 1, .int .i64 3, .int .u32 7, .int .i64 2, .int .i64 2, .int .i64 3, .int .i64 5, .int .i64 0, .string ⟨#[]⟩, .string ⟨#[97, 98, 99]⟩] 24)
  go_wp2_with fail
  refine (one_dg _).mono ?_
  rintro e w14 ⟨rfl, hb⟩
  have k14 := k13.below hb k13.lt
  have x14 := x13.below hb x13.lt
  have hB14 := Below.chain hb hB13
  clear hb k12 hB12 k13 hB13 x13
  have k15 := k14.alloc (.cells #[.int .i64 1, .int .i64 3, .int .u32 7, .int .i64 1, .int .i64 2, .int .i64 3, .int .i64 5, .int .i64 0, .string ⟨#[120]⟩, .string ⟨#[97, 98, 99]⟩] 24)
  have x15 := x14.alloc (.cells #[.int .i64 1, .int .i64 3, .int .u32 7, .int .i64 1, .int .i64 2, .int .i64 3, .int .i64 5, .int .i64 0, .string ⟨#[120]⟩, .string ⟨#[97, 98, 99]⟩] 24)
  have y15 := Blk.new w14 #[.int .i64 1, .int .i64 3, .int .u32 7, .int .i64 1, .int .i64 2, .int .i64 3, .int .i64 5, .int .i64 0, .string ⟨#[120]⟩, .string ⟨#[97, 98, 99]⟩] 24
  have hB15 := Below.chainAlloc hB14 (.cells #[.int .i64 1, .int .i64 3, .int .u32 7, .int .i64 1, .int .i64 2, .int .i64 3, .int .i64 5, .int .i64 0, .string ⟨#[120]⟩, .string ⟨#[97, 98, 99]⟩] 24)
  have HG := Lib.hid (fun x y w => run_eqGuard_agg (P := Try.prog) w .eql 24 x y #[.int .i64 1, .int .i64 3, .int .u32 7, .int .i64 1, .int .i64 2, .int .i64 3, .int .i64 5, .int .i64 0, .string ⟨#[]⟩, .string ⟨#[97, 98, 99]⟩] #[.int .i64 1, .int .i64 3, .int .u32 7, .int .i64 1, .int .i64 2, .int .i64 3, .int .i64 5, .int .i64 0, .string ⟨#[]⟩, .string ⟨#[97, 98, 99]⟩] guardDg)
  have HE := Lib.hid (fun w => run_eql_dg one10 one10 w)
  go_upto_region 15 with fail
  clear k14 x14 hB14
  generalize w14.alloc (.cells #[.int .i64 1, .int .i64 3, .int .u32 7, .int .i64 1, .int .i64 2, .int .i64 3, .int .i64 5, .int .i64 0, .string ⟨#[120]⟩, .string ⟨#[97, 98, 99]⟩] 24) = w15 at *
  generalize w14.heap.size = B14 at *
  generalize w12.heap.size = B13 at *
  have hmk : ∀ w', Below w15.heap.size w15 w' → ((∀ o, w'.cell? ⟨B5, o, none⟩ = #[.int .i64 1, .int .i64 3, .int .u32 7, .int .i64 1, .int .i64 2, .int .i64 3, .int .i64 5, .int .i64 0, .string ⟨#[]⟩, .string ⟨#[97, 98, 99]⟩][o]?) ∧ (∀ o, w'.cell? ⟨B13, o, none⟩ = #[.int .i64 1, .int .i64 3, .int .u32 7, .int .i64 2, .int .i64 2, .int .i64 3, .int .i64 5, .int .i64 0, .string ⟨#[]⟩, .string ⟨#[97, 98, 99]⟩][o]?) ∧ (∀ o, w'.cell? ⟨B14, o, none⟩ = #[.int .i64 1, .int .i64 3, .int .u32 7, .int .i64 1, .int .i64 2, .int .i64 3, .int .i64 5, .int .i64 0, .string ⟨#[120]⟩, .string ⟨#[97, 98, 99]⟩][o]?) ∧ Below w15.heap.size w15 w') := fun w' h =>
    ⟨fun o => (h.cell (p := ⟨B5, o, none⟩) k15.lt).trans (k15.facts.1 o), fun o => (h.cell (p := ⟨B13, o, none⟩) x15.lt).trans (x15.facts.1 o), fun o => (h.cell (p := ⟨B14, o, none⟩) y15.lt).trans (y15.facts.1 o), h⟩
  have HMK := Lib.hid hmk
  have HW := Lib.hid hB15
  clear hmk k15 x15 y15 hB15
  have hg := HG.out
  have he := HE.out
  simp only [one10, decide_true] at he
  clear HG HE
  go_region_held3 (fun w' => (∀ o, w'.cell? ⟨B5, o, none⟩ = #[.int .i64 1, .int .i64 3, .int .u32 7, .int .i64 1, .int .i64 2, .int .i64 3, .int .i64 5, .int .i64 0, .string ⟨#[]⟩, .string ⟨#[97, 98, 99]⟩][o]?) ∧ (∀ o, w'.cell? ⟨B13, o, none⟩ = #[.int .i64 1, .int .i64 3, .int .u32 7, .int .i64 2, .int .i64 2, .int .i64 3, .int .i64 5, .int .i64 0, .string ⟨#[]⟩, .string ⟨#[97, 98, 99]⟩][o]?) ∧ (∀ o, w'.cell? ⟨B14, o, none⟩ = #[.int .i64 1, .int .i64 3, .int .u32 7, .int .i64 1, .int .i64 2, .int .i64 3, .int .i64 5, .int .i64 0, .string ⟨#[120]⟩, .string ⟨#[97, 98, 99]⟩][o]?) ∧ Below w15.heap.size w15 w')
    (first
      | exact HMK.out _ (Below.refl _ _).drew
      | exact HMK.out _ (Below.refl _ _)
      | (go_split_ands; exact HMK.out _ (Below.chain hb (by assumption))))
    (first
      | (go_at_call 54; refine (one_dg _).mono ?_; rintro x w16 ⟨rfl, hb⟩)
      | (go_at_call 19; refine (check_dg' _ _ _ _ _ _ _ _ _ _ (by simp) (by simp) _).mono ?_; rintro x w16 ⟨rfl, hb⟩; (first | rw [ex] | rw [ey] | rw [ez]))
      | (go_at_call 21; refine (size_dg' _ _ _ _ _ _ _ _ _ _ (by decide) (by decide) (by simp) (by simp) _).mono ?_; rintro x w16 ⟨rfl, hb⟩; (first | rw [sx] | rw [sy])))
  rename_i hHeld
  obtain ⟨_, _, _, hbb⟩ := hHeld
  go_wp2_with fail
  go_ret
  exact ⟨rfl, Below.chain hbb HW.out⟩
end Go.Proofs.Ytphejbjbleeigaa
