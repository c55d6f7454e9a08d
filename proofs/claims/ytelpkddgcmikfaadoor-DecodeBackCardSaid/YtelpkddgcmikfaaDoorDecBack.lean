/-
  Blocks out of shards: of whatever shards of a text, if there are as many unlike ones as data, a job tells the text (chapter 20). The cards list two tables of the library (unicode/utf8); the proof doesn't read them.
-/
import Derived.Test.YtelpkddgcmikfaaDoorDecW
import Derived.Test.YtelpkddgcmikfaaDoorDecB1
namespace Go.Proofs.YtelpkddgcmikfaaDoor
open Go.ChangeShapes Go.WideShapes Go.ChangeAt Go.RowKit
set_option linter.unusedVariables false
set_option maxRecDepth 100000
theorem u8_nat5 {z : Int} (h : (Lit.int .u8 z).wf = true) : 0 ≤ z ∧ z ≤ 255 := by
  simpa [Lit.wf, IntKind.min, IntKind.max, IntKind.signed, IntKind.bits] using h
theorem u8s_toNat5 : ∀ zs : List Int, (∀ z ∈ zs, (Lit.int .u8 z).wf = true) → u8s (zs.map Int.toNat) = zs.map (Value.int .u8)
  | [], _ => rfl
  | z :: zs, h => by
    have h0 := u8_nat5 (h z (by simp))
    have ih := u8s_toNat5 zs (fun y hy => h y (by simp [hy]))
    simp only [u8s, List.map_cons] at ih ⊢
    rw [ih, Int.toNat_of_nonneg h0.1]
theorem IsInts.row5 {w : World} {a : Option Addr} {len cap : Nat} {zs : List Int} (h : IsInts .u8 w a len cap zs) : (zs.map Int.toNat).length = len ∧ RowAt w.heap.size w (.slice a len cap) (zs.map Int.toNat) := by
  obtain ⟨h1, h2, h3, h4, h5⟩ := h
  subst h1
  refine ⟨by simp, ⟨?_, fun x hx => ?_⟩⟩
  · rw [u8s_toNat5 zs h4]
    refine ⟨a, cap, by simp, by simpa using h2, h3, ?_⟩
    rcases h5 with h5 | ⟨b, off, ha, hb, hc⟩
    · exact .inl (by simp [List.eq_nil_of_length_eq_zero h5])
    · exact .inr ⟨b, off, ha, hb, .inl hb, fun j hj => by rw [hc j (by simpa using hj)]; simp⟩
  · obtain ⟨z, hz, rfl⟩ := List.mem_map.1 hx
    have := u8_nat5 (h4 z hz)
    omega
theorem open_back {H : Type} {enc : TypeId × Value → H} {W : World} {r : Reach} {b0 b : Nat} {sp : Nat → Bool} {hd : Bool} {v : Value} {d : DataW H} {p : List MemPlace}
    (hv : Value.okWide Tryd.prog W r b0 47 v) (h : DataW.Trod enc Tryd.prog W b sp hd 47 v d p) :
    ∃ (s : List UInt8) (kk rr : Nat) (vl : Value) (xs : List Nat), v = .agg #[Str s, .int .u8 (kk : Nat), .int .u8 (rr : Nat), vl] ∧ s.length ≤ 9223372036854775807 ∧ kk < 256 ∧ rr < 256 ∧ RowAt W.heap.size W vl xs := by
  obtain ⟨cs, rfl, hsz⟩ := okWide_struct Tryd.underlying47 hv
  obtain ⟨l⟩ := cs
  obtain ⟨fuel, hf⟩ := h
  have := flat_fits 9 fuel 47 [.str, .int .u8, .int .u8, .sl 45] l _ (by kernel_rfl) hf
  obtain ⟨_, _, rfl, ⟨z0, rfl, w0⟩, _, _, rfl, ⟨z1, rfl, w1⟩, _, _, rfl, ⟨z2, rfl, w2⟩, _, _, rfl, ⟨a, len, cap, d3, p3, rfl, w3⟩, rfl⟩ := this
  obtain ⟨zs, hz⟩ := open_intsl (k := .u8) Tryd.underlying45 Tryd.underlying5 (by kernel_rfl) w3
  have g1 := wf_u8 w1
  have g2 := wf_u8 w2
  obtain ⟨kk, rfl⟩ := Int.eq_ofNat_of_zero_le g1.1
  obtain ⟨rr, rfl⟩ := Int.eq_ofNat_of_zero_le g2.1
  exact ⟨z0, kk, rr, _, _, rfl, w0, by omega, by omega, hz.row5.2⟩
namespace decodeBack
theorem own : ownKnob Tryd.prog.godebug = none := by kernel_rfl
theorem laidOut : laidOutB Tryd.prog = true := by kernel_rfl
theorem laid_met (os : Os) : laidMet Tryd.prog Rows.decodeBackRow.laid ((laidWorld os).forCall (fun _ _ => 0) ⟨#[], #[.agg #[.string ⟨#[]⟩, .int .u8 0, .int .u8 0, .slice none 0 0]], []⟩).memory :=
  laidMet_of_run' 8 (by kernel_rfl) (by kernel_rfl)
theorem reads (os : Os) {H : Type} (enc : TypeId × Value → H) : ∃ places, DataW.whole enc Tryd.prog ((laidWorld os).forCall (fun _ _ => 0) ⟨#[], #[.agg #[.string ⟨#[]⟩, .int .u8 0, .int .u8 0, .slice none 0 0]], []⟩).memory Tryd.f5.params.toList Rows.decodeBackSpec.vars false (#[.agg #[.string ⟨#[]⟩, .int .u8 0, .int .u8 0, .slice none 0 0]] : Array Value).toList 8 = some ([.agg [.lit (.string []), .lit (.int .u8 0), .lit (.int .u8 0), .nil]], [], places) :=
  ⟨[], by kernel_rfl⟩
set_option maxRecDepth 100000 in
theorem lifted (os : Os) (started : os.Started) (H : Type) (enc : TypeId × Value → H) (F : Stop.Interp) :
    ReturnsInHanded {} Tryd.checked os 5 .any ((OpenSpec.ofChange Rows.decodeBackSpec).preRow enc Tryd.prog Tryd.f5 Rows.decodeBackRow.domain false Rows.decodeBackRow.laid) (((OpenSpec.ofChange Rows.decodeBackSpec).at F).post enc Tryd.prog Tryd.f5 false true false false) := by
  obtain ⟨places, hx⟩ := reads os enc
  refine returnsInHanded_of_row (C := Tryd.checked) (s := OpenSpec.ofChange Rows.decodeBackSpec) own started (by kernel_rfl) Tryd.func5
    (witness_row_at (enc := enc) (C := Tryd.checked) false (laidWorld os) #[.agg #[.string ⟨#[]⟩, .int .u8 0, .int .u8 0, .slice none 0 0]] rfl (by kernel_rfl) (by kernel_rfl) (by kernel_rfl)
      (OpenSpec.preRow_of_cond 8 hx (by kernel_rfl) (fun k hk => by cases hk) (by kernel_rfl) (laid_met os))) ?_
  intro W base args ds gs before hval0 hW _ _ _ hL _ _
  have hWW := hW
  obtain ⟨ps, _, hA, _⟩ := hW
  have hval : ∀ (j : Nat) t v, Tryd.f5.params[j]? = some t → args[j]? = some v → Value.okWide Tryd.prog W .any base t v := hval0
  have walk : Calls Tryd.prog 5 args W fun e w' => e = .returned (.bool true) ∧ Below W.heap.size W w' := by
    clear hWW hval0 hL
    have hA' : DataW.TrodAll enc Tryd.prog W 0 (fun _ => true) true Tryd.f5.params.toList args.toList ds ps := hA
    clear hA
    rw [Tryd.params5] at hA' hval
    obtain ⟨v0, d0, rfl, rfl, h0⟩ := trodAll_one hA'
    obtain ⟨s, kk, rr, vl, xs, rfl, ws, wk, wr, wx⟩ := open_back (hval 0 47 v0 rfl rfl) h0
    exact decback_walk _ vl s xs kk rr ws wk wr W wx
  refine walk.mono fun e W' ⟨he, hb⟩ => ?_
  exact ⟨_, he, law_post laidOut rfl Tryd.underlying4 rfl (by kernel_rfl) (fun ds h => by match ds, h with | [d1], _ => rfl) hWW hb⟩
theorem said : Rows.DecodeBackSaid :=
  OpenClaim.holds_of_cond 5 Tryd.f5 rfl rfl rfl rfl rfl rfl rfl ⟨rfl, rfl, rfl, rfl, rfl⟩ rfl rfl rfl rfl rfl (by kernel_rfl) Tryd.func5 (by kernel_rfl)
    (of_decide_eq_true (by kernel_rfl)) (by unfold Func.isWrapper; first | (rw [if_pos (by decide +kernel)]; kernel_rfl) | (rw [if_neg (by decide +kernel)]; exact ⟨rfl, rfl⟩))
    (fun os started H enc _ F => by rw [OpenClaim.pre_eq_preRow]; exact lifted os started H enc F)
theorem plain (f : FuncId) (fn : Func) (hf : Tryd.pinned.checked.prog.funcNamed "lightship/lightshiplaw20.DecodeBack" = some f) (hfn : Tryd.pinned.checked.prog.funcs[f]? = some fn) :
    true = Tryd.pinned.checked.prog.looks [] ∧ ∀ (j : Nat) t, fn.params[j]? = some t → Tryd.pinned.checked.prog.wantsStandIn t = false := by
  obtain rfl : f = 5 := Option.some.inj ((show Tryd.prog.funcNamed "lightship/lightshiplaw20.DecodeBack" = some 5 by kernel_rfl).symm.trans hf) |>.symm
  obtain rfl : fn = Tryd.f5 := (Option.some.inj (Tryd.func5.symm.trans hfn)).symm
  refine ⟨by kernel_rfl, fun j t ht => ?_⟩
  have hall : (Tryd.f5.params.toList.all fun u => !Tryd.prog.wantsStandIn u) = true := by kernel_rfl
  have hm : t ∈ Tryd.f5.params.toList := by simpa using Array.mem_of_getElem? ht
  exact (show Tryd.prog.wantsStandIn t = false by simpa using List.all_eq_true.1 hall t hm)
theorem proved : Rows.DecodeBackCardSaid :=
  Claim7.holds_tied_plain_at .later [] _ _ _ _ said (fun _ h => by cases h) (by kernel_rfl) (fun _ h => by cases h) decodeBack_row_tie rfl ⟨rfl, rfl⟩ (by kernel_rfl) rfl plain (by kernel_rfl)
end decodeBack
#print axioms decodeBack.proved
end Go.Proofs.YtelpkddgcmikfaaDoor
