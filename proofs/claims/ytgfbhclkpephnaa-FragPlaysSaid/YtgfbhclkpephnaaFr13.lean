/-
  Frag: Put as the lists say (chapter 49).
-/
import Derived.Test.YtgfbhclkpephnaaFr12
namespace Go.Proofs.Ytgfbhclkpephnaa
open Go Go.RowKit
set_option linter.unusedVariables false
set_option linter.unusedSimpArgs false
set_option maxRecDepth 100000
set_option maxHeartbeats 2000000
theorem getA_mem {id : Int} {e : AE} : ∀ {es : List AE}, getA id es = some e → e ∈ es ∧ e.id = id
  | [], h => by cases h
  | f :: es, h => by
    unfold getA at h
    by_cases hf : f.id = id
    · rw [if_pos hf] at h
      cases h
      exact ⟨List.mem_cons_self, hf⟩
    · rw [if_neg hf] at h
      obtain ⟨h1, h2⟩ := getA_mem h
      exact ⟨List.mem_cons_of_mem _ h1, h2⟩
theorem ptS_ok (s : List UInt8) (hs : s.length ≤ 1000) : (∃ n : Nat, (ptS s).n = (n : Int) ∧ n ≤ 255) ∧ (ptS s).body.length ≤ 1000 := by
  have hn := one_lt ((s.drop 5).take 1) (by simp; omega)
  refine ⟨⟨(unbe ((s.drop 5).take 1)).toNat, ?_, ?_⟩, ?_⟩
  · show unbe ((s.drop 5).take 1) = _
    omega
  · omega
  · show (s.drop 6).length ≤ 1000
    simp
    omega
theorem entA_ok {A : List AE} (hA : ∀ e ∈ A, AOk e) (s : List UInt8) (hs : s.length ≤ 1000) : AOk (entA A (ptS s)) := by
  have h := ptS_ok s hs
  unfold entA
  cases hg : getA (ptS s).id A with
  | none => exact ⟨h.1, by simp⟩
  | some e => exact hA e (getA_mem hg).1
theorem newA_ok {A : List AE} (hA : ∀ e ∈ A, AOk e) (s : List UInt8) (hs : s.length ≤ 1000) : AOk (newA A (ptS s)) := by
  have h := entA_ok hA s hs
  refine ⟨h.n, fun q hq => ?_⟩
  rcases setP_mem hq with hq | rfl
  · exact h.l q hq
  · exact (ptS_ok s hs).2
theorem entL_ok {A : List AE} (hA : ∀ e ∈ A, AOk e) (s : List UInt8) (hs : s.length ≤ 1000) : ∀ e ∈ entL A (ptS s), AOk e := by
  intro e he
  unfold entL at he
  split at he
  · exact hA e he
  · rcases List.mem_append.1 he with he | he
    · exact hA e he
    · obtain rfl := List.mem_singleton.1 he
      exact ⟨(ptS_ok s hs).1, by simp⟩
theorem repA_ok {e : AE} (he : AOk e) {A : List AE} (hA : ∀ f ∈ A, AOk f) : ∀ f ∈ repA e A, AOk f := by
  intro f hf
  obtain ⟨g, hg, rfl⟩ := List.mem_map.1 hf
  split
  · exact he
  · exact hA g hg
theorem MapsO.of_ent {base : Nat} {w w1 w2 w' : World} {bj bm : Nat} {room : Int} {A A0 : List AE} {p : Pt} {es : List FE} {e : FE} (h : JnA base w bj bm room A0) (hb : Below w.heap.size w w1) (he : Entd base w1 w2 bj bm room A p es e) (ho : Only [bm, e.bp] w w') : MapsO base w w' := by
  obtain ⟨es0, hj, _, hbm, _⟩ := h
  refine ⟨_, ho, fun x hx => ?_⟩
  rcases List.mem_cons.1 hx with rfl | hx
  · exact ⟨hbm, hj.m.nocells⟩
  · obtain rfl := List.mem_singleton.1 hx
    refine ⟨he.b e he.m, fun cs t fr hc => ?_⟩
    have := (Array.getElem?_eq_some_iff.1 hc).1
    exact he.c cs t fr (by rw [hb.block _ this]; exact hc)
theorem repE_mem {e : FE} {ps : List (Int × List UInt8)} {es : List FE} {f : FE} (hf : f ∈ repE e ps es) : ∃ g ∈ es, f.bp = g.bp := by
  obtain ⟨g, hg, rfl⟩ := List.mem_map.1 hf
  refine ⟨g, hg, ?_⟩
  split <;> rfl
def PutPost (R : PutR) (base : Nat) (w : World) (bj bm : Nat) (room : Int) (x : Ending) (w' : World) : Prop :=
  x = .returned (.tuple #[Str R.t, .bool R.ok, .int .i64 R.err]) ∧ JnA base w' bj bm room R.A ∧ MapsO base w w'
theorem fput_any (s : List UInt8) (base bj bm : Nat) (room : Int) (A : List AE) (w : World) (h : JnA base w bj bm room A) (hb : base ≤ w.heap.size) (hs : s.length ≤ 1000) :
    Calls Try.prog 38 #[.pointer (some ⟨bj, 0, none⟩), Str s] w (PutPost (putA room A s) base w bj bm room) := by
  unfold PutPost putA
  by_cases h6 : s.length ≤ 6
  · rw [if_pos h6]
    refine (fput_bad s 4 (by decide) bj w (Lib.hid fun w' => fread_cut s h6 w')).mono ?_
    rintro x w' ⟨rfl, hb'⟩
    exact ⟨rfl, h.chain hb', MapsO.of_below hb'⟩
  · rw [if_neg h6]
    have hrd : ∀ w', _ := fun w' => fread_ok s (by omega) (by omega) w'
    by_cases hp : (ptS s).n ≤ (ptS s).place
    · rw [if_pos hp]
      simp only [if_pos hp] at hrd
      refine (fput_bad s 5 (by decide) bj w (Lib.hid hrd)).mono ?_
      rintro x w' ⟨rfl, hb'⟩
      exact ⟨rfl, h.chain hb', MapsO.of_below hb'⟩
    · rw [if_neg hp]
      simp only [if_neg hp] at hrd
      by_cases he : entE room A (ptS s) ≠ 0
      · rw [if_pos he]
        refine (fput_refuse s (ptS s) _ he bj w (Lib.hid hrd) (Lib.hid fun w' hb' => enter_err (ptS s) base bj bm room A w' (h.chain hb') he)).mono ?_
        rintro x w' ⟨rfl, hb'⟩
        exact ⟨rfl, h.chain hb', MapsO.of_below hb'⟩
      · rw [if_neg he]
        have he0 : entE room A (ptS s) = 0 := by simpa using he
        have HE : Hid (∀ w', Below w.heap.size w w' → Calls Try.prog 71 #[.pointer (some ⟨bj, 0, none⟩), (ptS s).val] w' (EntPost base w' bj bm room A (ptS s))) :=
          Lib.hid fun w' hb' => enter_ok (ptS s) base bj bm room A w' (h.chain hb') (Nat.le_trans hb hb'.size) he0
        have hbm : bm < w.heap.size := by
          obtain ⟨_, hj, _⟩ := h
          exact hj.m.lt
        have hbb : base ≤ bm := by
          obtain ⟨_, _, _, hh, _⟩ := h
          exact hh
        have hA : ∀ e ∈ A, AOk e := by
          obtain ⟨_, _, _, _, _, hh⟩ := h
          exact hh
        have hent := newA_ok hA s hs
        have hents := entL_ok hA s hs
        by_cases hlt : ((newA A (ptS s)).ps.length : Int) < (newA A (ptS s)).n
        · rw [if_pos hlt]
          refine (fput_more s (ptS s) base bj bm room A w hbm (Lib.hid hrd) HE (Lib.hid hlt)).mono ?_
          rintro x w' ⟨es, e, w1, w2, rfl, h1, h2, h3⟩
          refine ⟨rfl, ⟨_, h3.j, ?_, hbb, fun f hf => ?_, repA_ok hent hents⟩, MapsO.of_ent h h1 h2 h3.o⟩
          · rw [repE_abs h2.m h2.j.ids, h2.a]
            congr 1
            unfold newA
            rw [h2.id, h2.n, h2.ps]
          · obtain ⟨g, hg, hgb⟩ := repE_mem hf
            rw [hgb]
            exact h2.b g hg
        · rw [if_neg hlt]
          obtain ⟨m, hm, hm2⟩ := hent.n
          refine (fput_whole s (ptS s) base bj bm room A m w hbm (Lib.hid hrd) HE (Lib.hid hlt) (Lib.hid ⟨hm, hm2⟩) (Lib.hid fun k => hent.at k)).mono ?_
          rintro x w' ⟨es, e, w1, w2, w3, rfl, h1, h2, h3, h4, h5⟩
          have hmt : (newA A (ptS s)).n.toNat = m := by rw [hm]; rfl
          rw [hmt]
          refine ⟨rfl, ⟨_, h4, ?_, hbb, fun f hf => ?_, fun f hf => hents f (List.mem_filter.1 hf).1⟩, MapsO.of_ent h h1 h2 (h3.o.trans (h5.mono (fun x hx => .inl (by simp at hx; simp [hx]))))⟩
          · rw [cut_abs, repE_abs h2.m h2.j.ids, h2.a]
            unfold cutA repA
            rw [List.filter_map]
            have hh : ∀ (f : AE), ((fun f : AE => !decide (f.id = (ptS s).id)) ∘ fun f => if f.id = (AE.mk e.id e.n (setP (ptS s).place (ptS s).body e.ps)).id then AE.mk e.id e.n (setP (ptS s).place (ptS s).body e.ps) else f) f = !decide (f.id = (ptS s).id) := by
              intro f
              simp only [Function.comp_apply]
              by_cases hf : f.id = e.id
              · rw [if_pos hf]
                simp [h2.id, hf]
              · rw [if_neg hf]
            rw [List.filter_congr (fun f _ => hh f)]
            refine (List.map_congr_left fun f hf => ?_).trans (List.map_id _)
            have := (List.mem_filter.1 hf).2
            simp at this
            rw [if_neg (show ¬ f.id = e.id by rw [h2.id]; exact this)]
            rfl
          · obtain ⟨g, hg, hgb⟩ := repE_mem (List.mem_filter.1 hf).1
            rw [hgb]
            exact h2.b g hg
end Go.Proofs.Ytgfbhclkpephnaa
