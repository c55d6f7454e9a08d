/-
  What a stream sends: the example (chapter 27).
-/
import Derived.Test.YtnmlmpffmjhihaaGreatMX
import Derived.Test.YtnmlmpffmjhihaaGreatOr23
import Derived.Test.YtnmlmpffmjhihaaGreatConfig
namespace Go.Proofs.YtnmlmpffmjhihaaGreat
open Go Go.RowKit
set_option linter.unusedVariables false
set_option linter.unusedSimpArgs false
set_option maxRecDepth 100000
set_option maxHeartbeats 4000000
def b27 : List UInt8 := [97, 98]
def T27 : List (List UInt8) := [[97], [98], [107], [229]]
def y27 : FB := ⟨b27, 4, 0⟩
theorem t27 : shT b27 4 2 = T27 := by kernel_rfl
theorem m27 : shM b27 4 = 2 := by kernel_rfl
theorem e27 : dsE b27 4 2 = 0 := by kernel_rfl
def d27 (x : Int × Int) : Dg := dgOf 3 0 2 y27 T27 x
def z27 (x : Int × Int) : Int := ((dgS (d27 x)).length : Int)
theorem len27 : ∀ i : Fin 4, (T27.getD i.val []).length ≤ 9223372036854775807 := by decide
theorem size27 (w : World) (i : Nat) (hi : i < 4) : Calls Tryz.prog 40 #[(d27 (0, (i : Int))).val] w (RetB (.int .i64 (z27 (0, (i : Int)))) w) :=
  size_dg (d27 (0, (i : Int))) ⟨by show (0 : Int) ≤ 0; decide, by show (0 : Int) < 4294967296; decide⟩ (by show (0 : Nat) ≤ _; omega) (len27 ⟨i, hi⟩) w
def s27 : List UInt8 := withB zero32 [1]
theorem s27_len : s27.length = 32 := by kernel_rfl
theorem s27_cnt : cntTo s27 256 = 1 := by kernel_rfl
theorem s27_mis : mis s27 4 (2 - 1) = [0] := by kernel_rfl
abbrev q27 : List (Int × Int) := [(0, 0), (0, 1), (0, 2), (0, 3)]
def QDa : List ((Int × Int) × Value) := (wFold 3 z27 (firQ 0 4 4) ⟨[], [], []⟩).QD
theorem wa27 : (wFold 3 z27 (firQ 0 4 4) ⟨[], [], []⟩).Q = q27 ∧ (wFold 3 z27 (firQ 0 4 4) ⟨[], [], []⟩).its.length = 4 := ⟨by kernel_rfl, by kernel_rfl⟩
def QDb : List ((Int × Int) × Value) := (wFold 3 z27 [(0, 0)] ⟨[(0, 1), (0, 2), (0, 3)], delM (0, 0) QDa, []⟩).QD
theorem wb27 : (wFold 3 z27 [(0, 0)] ⟨[(0, 1), (0, 2), (0, 3)], delM (0, 0) QDa, []⟩).Q = [(0, 1), (0, 2), (0, 3), (0, 0)] ∧ (wFold 3 z27 [(0, 0)] ⟨[(0, 1), (0, 2), (0, 3)], delM (0, 0) QDa, []⟩).its.length = 1 := ⟨by kernel_rfl, by kernel_rfl⟩
def QDc : List ((Int × Int) × Value) := delM (0, 3) (delM (0, 2) (delM (0, 1) QDb))
theorem wc27 : (wFold 3 z27 [(0, 0)] ⟨[(0, 0)], QDc, []⟩).Q = [(0, 0)] ∧ (wFold 3 z27 [(0, 0)] ⟨[(0, 0)], QDc, []⟩).its.length = 0 := ⟨by kernel_rfl, by kernel_rfl⟩
theorem alla27 : AllT QDa := AllT.fold 3 z27 (firQ 0 4 4) ⟨[], [], []⟩ (fun x v h => by cases h)
theorem allb27 : AllT QDb := AllT.fold 3 z27 [(0, 0)] ⟨[(0, 1), (0, 2), (0, 3)], delM (0, 0) QDa, []⟩ (show AllT (delM (0, 0) QDa) from alla27.del _)
theorem allc27 : AllT QDc := ((allb27.del _).del _).del _
section
variable {Ow : Nat → Prop} {w w' : World} {bo : Nat} {S : OS}
/-- The shards of the block that flies, each as a datagram. -/
theorem shard27 {S' : OS} (h : OutM Ow w bo S') (hst : S'.st = 3) (hb : S'.b = 0) (hL : S'.L = [y27]) (sv : Value) (hM : getM 0 S'.M = some (.agg #[sv, .int .i64 2])) (hsv : SlAt 0 w 9 sv (T27.map Str)) (i : Nat) (hi : i < 4) :
    Calls Tryz.prog 16 #[.pointer (some ⟨bo, 0, none⟩), .agg #[.int .u32 0, .int .i64 (i : Int)]] w fun e w2 => e = .returned (.tuple #[(d27 (0, (i : Int))).val, .bool true]) ∧ Below w.heap.size w w2 := by
  have := oshard_of y27 hL 2 sv T27 (by rw [hb]; exact hM) h hsv i hi
  rw [hb, hst] at this
  exact this
/-- A shard is taken. -/
theorem pop27 (h : OutM Ow w bo S) (hst : S.st = 3) (hb : S.b = 0) (hL : S.L = [y27]) (sv : Value) (hM : getM 0 S.M = some (.agg #[sv, .int .i64 2])) (hsv : SlAt 0 w 9 sv (T27.map Str)) (i : Nat) (hi : i < 4) (Q' : List (Int × Int)) (hq : S.Q = (0, (i : Int)) :: Q') :
    Calls Tryz.prog 4 #[.pointer (some ⟨bo, 0, none⟩)] w fun e w' => e = .returned (.tuple #[(d27 (0, (i : Int))).val, .bool true]) ∧ (∃ qv', OutM Ow w' bo { S with qv := qv', Q := Q', QD := delM (0, (i : Int)) S.QD }) ∧ SlAt 0 w' 9 sv (T27.map Str) ∧ Turn Ow [some 52, none] w w' :=
  (opop_any h (0, (i : Int)) Q' hq (d27 (0, (i : Int))) true (fun w1 qv' h1 ht1 => shard27 h1 hst hb hL sv hM (ht1.slAt hsv (by decide)) i hi)).mono fun e w' ⟨h1, h2, h3⟩ => ⟨h1, h2, h3.slAt hsv (by decide), h3⟩
/-- What lacks is told. -/
theorem nack27 (h : OutM Ow w bo S) (hst : S.st = 3) (hb : S.b = 0) (hL : S.L = [y27]) (sv : Value) (hM : getM 0 S.M = some (.agg #[sv, .int .i64 2])) (hsv : SlAt 0 w 9 sv (T27.map Str)) (hql : S.Q.length ≤ 1000000) (hT : AllT S.QD) :
    Calls Tryz.prog 9 #[.pointer (some ⟨bo, 0, none⟩), .int .u32 0, Str s27] w fun e w' => WaitPost Ow w bo S (wFold 3 z27 [(0, 0)] ⟨S.Q, S.QD, []⟩) e w' ∧ SlAt 0 w' 9 sv (T27.map Str) := by
  have hw := onack_any 0 s27 [(0, 0)] sv 2 z27 d27 h (by rw [hM]; rfl) (fun w1 h1 => by
    have hf := h1.f
    obtain ⟨g, off, c, hfv, _⟩ := hf.s.shape (by rw [hL]; exact Nat.zero_lt_one)
    rw [hfv, hb] at hf
    have h0 : 0 < S.L.length := by rw [hL]; exact Nat.zero_lt_one
    have hy : S.L[0] = y27 := by simp [hL]
    have hx : ahead 0 0 = ((0 : Nat) : Int) := by decide
    have h2 := flwants_any 0 s27 2 hf 0 h0 hx (by rw [s27_len]; omega) (by rw [hy]; exact ⟨by decide, by decide⟩) (by decide)
    rw [hy] at h2
    refine h2.mono ?_
    rintro e w2 ⟨lv, rfl, hs2, hb2⟩
    have hm : mis s27 y27.n (2 - cntTo s27 256) = [0] := by rw [s27_cnt]; exact s27_mis
    rw [hm] at hs2
    exact ⟨lv, rfl, hs2, hb2⟩) (by decide) hql hT (fun w1 qv TQ h1 ht1 x hx => by
    rw [List.mem_singleton.1 hx]
    exact ⟨true, shard27 h1 hst hb hL sv hM (ht1.slAt hsv (by decide)) 0 (by decide)⟩) (fun w1 x hx => by
    rw [List.mem_singleton.1 hx]
    exact size27 w1 0 (by decide))
  rw [hst] at hw
  exact hw.mono fun e w' hp => ⟨hp, by
    obtain ⟨qv, v, _, _, _, ht⟩ := hp
    exact ht.slAt hsv (by decide)⟩
end
end Go.Proofs.YtnmlmpffmjhihaaGreat
