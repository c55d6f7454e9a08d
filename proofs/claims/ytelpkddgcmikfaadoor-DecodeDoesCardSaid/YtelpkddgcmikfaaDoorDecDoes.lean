/-
  Blocks out of shards: what becomes of any jobs, one by one, and all together (chapter 20). The cards list two tables of the library (unicode/utf8); the proof doesn't read them.
-/
import Derived.Test.YtelpkddgcmikfaaDoorDecW
import Derived.Test.YtelpkddgcmikfaaDoorDecD1
namespace Go.Proofs.YtelpkddgcmikfaaDoor
open Go.ChangeShapes Go.WideShapes Go.ChangeAt Go.RowKit
set_option linter.unusedVariables false
set_option maxRecDepth 100000
theorem open_shards {H : Type} {enc : TypeId × Value → H} {W : World} {b : Nat} {sp : Nat → Bool} {hd : Bool} {a : Option Addr} {len cap : Nat} {d : DataW H} {p : List MemPlace}
    (h : DataW.Trod enc Tryd.prog W b sp hd 28 (.slice a len cap) d p) : ∃ xs : List Sh5, ShAt W.heap.size W (.slice a len cap) xs := by
  obtain ⟨ds, ⟨h1, h2, h3, h4⟩, _⟩ := open_rows 2 (fun x : Sh5 => [.int .i64 x.1, Str x.2]) (fun _ => True) Tryd.underlying28 (by kernel_rfl) (by decide) h fun cs m x hx => by
    have := flat_fits 9 m 50 [.int .i64, .str] cs x (by kernel_rfl) hx
    obtain ⟨_, _, rfl, ⟨z0, rfl, _⟩, _, _, rfl, ⟨z1, rfl, _⟩, rfl⟩ := this
    exact ⟨(z0, z1), rfl, trivial⟩
  subst h1
  refine ⟨ds, a, cap, rfl, h2, h3, ?_⟩
  rcases h4 with h4 | ⟨g, off, ha, hg, hc⟩
  · exact .inl (List.eq_nil_of_length_eq_zero h4)
  · refine .inr ⟨g, off, ha, hg, .inl hg, fun i hi => ⟨?_, ?_⟩⟩
    · have := hc i hi 0 (by decide)
      simpa using this
    · have := hc i hi 1 (by decide)
      simpa using this
theorem open_jobs {H : Type} {enc : TypeId × Value → H} {W : World} {b : Nat} {sp : Nat → Bool} {hd : Bool} {a : Option Addr} {len cap : Nat} {d : DataW H} {p : List MemPlace}
    (h : DataW.Trod enc Tryd.prog W b sp hd 22 (.slice a len cap) d p) : ∃ js : List J20, JobsAt W (.slice a len cap) js := by
  obtain ⟨js, ⟨h1, h2, h3, h4⟩, hg⟩ := open_rows 6 J20.cells (fun j => ∃ B, ShAt B W j.v j.xs) Tryd.underlying22 (by kernel_rfl) (by decide) h fun cs m x hx => by
    have := flat_fits 9 m 30 [.int .i64, .int .u32, .int .i64, .int .i64, .int .i64, .sl 28] cs x (by kernel_rfl) hx
    obtain ⟨_, _, rfl, ⟨z0, rfl, _⟩, _, _, rfl, ⟨z1, rfl, _⟩, _, _, rfl, ⟨z2, rfl, _⟩, _, _, rfl, ⟨z3, rfl, _⟩, _, _, rfl, ⟨z4, rfl, _⟩, _, _, rfl, ⟨a', l', c', d', p', rfl, w5⟩, rfl⟩ := this
    obtain ⟨xs, hxs⟩ := open_shards w5
    exact ⟨⟨z0, z1, z2, z3, z4, _, xs⟩, rfl, _, hxs⟩
  subst h1
  refine ⟨js, a, cap, rfl, h2, h3, ?_, hg⟩
  rcases h4 with h4 | ⟨g, off, ha, hg', hc⟩
  · exact .inl (List.eq_nil_of_length_eq_zero h4)
  · exact .inr ⟨g, off, ha, hg', fun i hi o ho => hc i hi o ho⟩
namespace decodeDoes
theorem own : ownKnob Tryd.prog.godebug = none := by kernel_rfl
theorem laidOut : laidOutB Tryd.prog = true := by kernel_rfl
theorem laid_met (os : Os) : laidMet Tryd.prog Rows.decodeDoesRow.laid ((laidWorld os).forCall (fun _ _ => 0) ⟨#[], #[.slice none 0 0], []⟩).memory :=
  laidMet_of_run' 8 (by kernel_rfl) (by kernel_rfl)
theorem reads (os : Os) {H : Type} (enc : TypeId × Value → H) : ∃ places, DataW.whole enc Tryd.prog ((laidWorld os).forCall (fun _ _ => 0) ⟨#[], #[.slice none 0 0], []⟩).memory Tryd.f3.params.toList Rows.decodeDoesSpec.vars false (#[.slice none 0 0] : Array Value).toList 8 = some ([.nil], [], places) :=
  ⟨[], by kernel_rfl⟩
set_option maxRecDepth 100000 in
theorem lifted (os : Os) (started : os.Started) (H : Type) (enc : TypeId × Value → H) (F : Stop.Interp) :
    ReturnsInHanded {} Tryd.checked os 3 .any ((OpenSpec.ofChange Rows.decodeDoesSpec).preRow enc Tryd.prog Tryd.f3 Rows.decodeDoesRow.domain false Rows.decodeDoesRow.laid) (((OpenSpec.ofChange Rows.decodeDoesSpec).at F).post enc Tryd.prog Tryd.f3 false true false false) := by
  obtain ⟨places, hx⟩ := reads os enc
  refine returnsInHanded_of_row (C := Tryd.checked) (s := OpenSpec.ofChange Rows.decodeDoesSpec) own started (by kernel_rfl) Tryd.func3
    (witness_row_at (enc := enc) (C := Tryd.checked) false (laidWorld os) #[.slice none 0 0] rfl (by kernel_rfl) (by kernel_rfl) (by kernel_rfl)
      (OpenSpec.preRow_of_cond 8 hx (by kernel_rfl) (fun k hk => by cases hk) (by kernel_rfl) (laid_met os))) ?_
  intro W base args ds gs before hval0 hW _ _ _ hL _ _
  have hWW := hW
  obtain ⟨ps, _, hA, _⟩ := hW
  have hval : ∀ (j : Nat) t v, Tryd.f3.params[j]? = some t → args[j]? = some v → Value.okWide Tryd.prog W .any base t v := hval0
  have walk : Calls Tryd.prog 3 args W fun e w' => e = .returned (.bool true) ∧ Below W.heap.size W w' := by
    clear hWW hval0 hL
    have hA' : DataW.TrodAll enc Tryd.prog W 0 (fun _ => true) true Tryd.f3.params.toList args.toList ds ps := hA
    clear hA
    rw [Tryd.params3] at hA' hval
    obtain ⟨v0, d0, rfl, rfl, h0⟩ := trodAll_one hA'
    obtain ⟨al, nl, cl, rfl⟩ := okWide_slice Tryd.underlying22 (hval 0 22 v0 rfl rfl)
    obtain ⟨js, wj⟩ := open_jobs h0
    exact does_walk _ js W wj
  refine walk.mono fun e W' ⟨he, hb⟩ => ?_
  exact ⟨_, he, law_post laidOut rfl Tryd.underlying4 rfl (by kernel_rfl) (fun ds h => by match ds, h with | [d1], _ => rfl) hWW hb⟩
theorem said : Rows.DecodeDoesSaid :=
  OpenClaim.holds_of_cond 3 Tryd.f3 rfl rfl rfl rfl rfl rfl rfl ⟨rfl, rfl, rfl, rfl, rfl⟩ rfl rfl rfl rfl rfl (by kernel_rfl) Tryd.func3 (by kernel_rfl)
    (of_decide_eq_true (by kernel_rfl)) (by unfold Func.isWrapper; first | (rw [if_pos (by decide +kernel)]; kernel_rfl) | (rw [if_neg (by decide +kernel)]; exact ⟨rfl, rfl⟩))
    (fun os started H enc _ F => by rw [OpenClaim.pre_eq_preRow]; exact lifted os started H enc F)
theorem plain (f : FuncId) (fn : Func) (hf : Tryd.pinned.checked.prog.funcNamed "lightship/lightshiplaw20.DecodeDoes" = some f) (hfn : Tryd.pinned.checked.prog.funcs[f]? = some fn) :
    true = Tryd.pinned.checked.prog.looks [] ∧ ∀ (j : Nat) t, fn.params[j]? = some t → Tryd.pinned.checked.prog.wantsStandIn t = false := by
  obtain rfl : f = 3 := Option.some.inj ((show Tryd.prog.funcNamed "lightship/lightshiplaw20.DecodeDoes" = some 3 by kernel_rfl).symm.trans hf) |>.symm
  obtain rfl : fn = Tryd.f3 := (Option.some.inj (Tryd.func3.symm.trans hfn)).symm
  refine ⟨by kernel_rfl, fun j t ht => ?_⟩
  have hall : (Tryd.f3.params.toList.all fun u => !Tryd.prog.wantsStandIn u) = true := by kernel_rfl
  have hm : t ∈ Tryd.f3.params.toList := by simpa using Array.mem_of_getElem? ht
  exact (show Tryd.prog.wantsStandIn t = false by simpa using List.all_eq_true.1 hall t hm)
theorem proved : Rows.DecodeDoesCardSaid :=
  Claim7.holds_tied_plain_at .later [] _ _ _ _ said (fun _ h => by cases h) (by kernel_rfl) (fun _ h => by cases h) decodeDoes_row_tie rfl ⟨rfl, rfl⟩ (by kernel_rfl) rfl plain (by kernel_rfl)
end decodeDoes
#print axioms decodeDoes.proved
end Go.Proofs.YtelpkddgcmikfaaDoor
