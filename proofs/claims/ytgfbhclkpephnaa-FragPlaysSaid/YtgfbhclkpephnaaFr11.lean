/-
  Frag: Put, what it answers and leaves (chapter 49).
-/
import Derived.Test.YtgfbhclkpephnaaFr10
namespace Go.Proofs.Ytgfbhclkpephnaa
open Go Go.RowKit
set_option linter.unusedVariables false
set_option linter.unusedSimpArgs false
set_option maxRecDepth 100000
set_option maxHeartbeats 1000000
theorem JnA.lenA {base : Nat} {w : World} {bj bm : Nat} {room : Int} {A : List AE} {es : List FE} (h : es.map FE.abs = A) : A.length = es.length := by rw [← h, List.length_map]
theorem enter_err (p : Pt) (base bj bm : Nat) (room : Int) (A : List AE) (w : World) (h : JnA base w bj bm room A) (he : entE room A p ≠ 0) :
    Calls Try.prog 71 #[.pointer (some ⟨bj, 0, none⟩), p.val] w fun x w' => x = .returned (.tuple #[.pointer none, .int .i64 (entE room A p)]) ∧ Below w.heap.size w w' := by
  obtain ⟨es, hj, hA, _, _, _⟩ := h
  subst hA
  have hg := getA_abs p.id (es := es)
  unfold entE at he ⊢
  rw [hg] at he ⊢
  cases hx : getE p.id es with
  | none =>
    rw [hx] at he
    simp only [Option.map_none, List.length_map] at he ⊢
    by_cases hr : room ≤ (es.length : Nat)
    · rw [if_pos hr]
      exact enter_full p bj bm room es w hj hx hr
    · rw [if_neg hr] at he
      exact absurd rfl he
  | some e =>
    rw [hx] at he
    simp only [Option.map_some] at he ⊢
    by_cases hn : e.n ≠ p.n
    · rw [if_pos (show e.abs.n ≠ p.n from hn)]
      exact enter_unlike1 p e bj bm room es w hj hx hn
    · have hn' : e.n = p.n := by simpa using hn
      rw [if_neg (show ¬ e.abs.n ≠ p.n from hn)] at he ⊢
      cases hv : getP p.place e.ps with
      | none =>
        rw [show getP p.place e.abs.ps = none from hv] at he
        exact absurd rfl he
      | some v =>
        rw [show getP p.place e.abs.ps = some v from hv] at he ⊢
        simp only at he ⊢
        by_cases hb : v = p.body
        · rw [if_pos hb] at he
          exact absurd rfl he
        · rw [if_neg hb]
          exact enter_unlike2 p e bj bm room es w hj hx hn' (by rw [hv]; rfl) (by rw [hv]; exact hb)
/-- A part has its entry e. -/
structure Entd (base : Nat) (w w' : World) (bj bm : Nat) (room : Int) (A : List AE) (p : Pt) (es : List FE) (e : FE) : Prop where
  j : Jn w' bj bm room es
  a : es.map FE.abs = entL A p
  m : e ∈ es
  id : e.id = p.id
  n : e.n = (entA A p).n
  ps : e.ps = (entA A p).ps
  o : Only [bm] w w'
  b : ∀ f ∈ es, base ≤ f.bp
  c : ∀ cs t fr, w.heap[e.bp]? ≠ some (.cells cs t fr)
def EntPost (base : Nat) (w : World) (bj bm : Nat) (room : Int) (A : List AE) (p : Pt) (x : Ending) (w' : World) : Prop :=
  ∃ es e, x = .returned (.tuple #[.pointer (some ⟨e.be, 0, none⟩), .int .i64 0]) ∧ Entd base w w' bj bm room A p es e
theorem enter_ok (p : Pt) (base bj bm : Nat) (room : Int) (A : List AE) (w : World) (h : JnA base w bj bm room A) (hb : base ≤ w.heap.size) (he : entE room A p = 0) :
    Calls Try.prog 71 #[.pointer (some ⟨bj, 0, none⟩), p.val] w (EntPost base w bj bm room A p) := by
  obtain ⟨es, hj, hA, hbm, hbp, _⟩ := h
  subst hA
  have hg := getA_abs p.id (es := es)
  unfold entE at he
  rw [hg] at he
  cases hx : getE p.id es with
  | none =>
    rw [hx] at he hg
    simp only [Option.map_none, List.length_map] at he hg
    by_cases hr : room ≤ (es.length : Nat)
    · rw [if_pos hr] at he
      cases he
    · refine (enter_new p bj bm room es w hj hx (by omega)).mono ?_
      rintro x w' ⟨be, bp, rfl, h1, h2, h3, h4⟩
      refine ⟨_, ⟨p.id, p.n, be, bp, []⟩, rfl, h3, ?_, List.mem_append_right _ List.mem_cons_self, rfl, ?_, ?_, h4, fun f hf => ?_, fun cs t fr hc => ?_⟩
      · unfold entL
        rw [hg]
        simp [FE.abs]
      · unfold entA
        rw [hg]
        rfl
      · unfold entA
        rw [hg]
        rfl
      · rcases List.mem_append.1 hf with hf | hf
        · exact hbp f hf
        · obtain rfl := List.mem_singleton.1 hf
          exact Nat.le_trans hb h2
      · have := (Array.getElem?_eq_some_iff.1 hc).1
        simp at this
        omega
  | some e =>
    rw [hx] at he hg
    simp only [Option.map_some] at he hg
    have hm := getE_mem hx
    have done : ∀ x w', x = .returned (.tuple #[.pointer (some ⟨e.be, 0, none⟩), .int .i64 0]) ∧ Below w.heap.size w w' → EntPost base w bj bm room (es.map FE.abs) p x w' := by
      rintro x w' ⟨rfl, hb⟩
      refine ⟨es, e, rfl, hj.chain hb, ?_, hm.1, hm.2, ?_, ?_, Only.of_below hb, hbp, (hj.e e hm.1).m.nocells⟩
      · unfold entL
        rw [hg]
        rfl
      · unfold entA
        rw [hg]
        rfl
      · unfold entA
        rw [hg]
        rfl
    by_cases hn : e.n ≠ p.n
    · rw [if_pos (show e.abs.n ≠ p.n from hn)] at he
      cases he
    · have hn' : e.n = p.n := by simpa using hn
      rw [if_neg (show ¬ e.abs.n ≠ p.n from hn)] at he
      cases hv : getP p.place e.ps with
      | none => exact (enter_ok1 p e bj bm room es w hj hx hn' (by rw [hv]; rfl)).mono done
      | some v =>
        rw [show getP p.place e.abs.ps = some v from hv] at he
        simp only at he
        by_cases hb : v = p.body
        · exact (enter_ok2 p e bj bm room es w hj hx hn' (by rw [hv]; rfl) (by rw [hv]; exact hb)).mono done
        · rw [if_neg hb] at he
          cases he
/-! Put. -/
theorem fput_bad (s : List UInt8) (err : Int) (he : err ≠ 0) (bj : Nat) (w : World) (H : Hid (∀ w', Calls Try.prog 70 #[Str s] w' fun x w'' => x = .returned (.tuple #[pt0.val, .int .i64 err]) ∧ Below w'.heap.size w' w'')) :
    Calls Try.prog 38 #[.pointer (some ⟨bj, 0, none⟩), Str s] w fun x w' => x = .returned (.tuple #[Str [], .bool false, .int .i64 err]) ∧ Below w.heap.size w w' := by
  have h1 : (err != 0) = true := by simpa using he
  unfold pt0 Pt.val at H
  dsimp only at H
  go_enter Try.func38, Try.ntmps38
  go_wp2_with fail
  refine (H.out _).mono ?_
  rintro x w1 ⟨rfl, hb⟩
  have HB := Lib.hid hb
  clear hb
  go_wp2_with fail
  go_ret3
  exact ⟨rfl, Below.chainAlloc HB.out _⟩
theorem fput_refuse (s : List UInt8) (p : Pt) (err : Int) (he : err ≠ 0) (bj : Nat) (w : World) (H : Hid (∀ w', Calls Try.prog 70 #[Str s] w' fun x w'' => x = .returned (.tuple #[p.val, .int .i64 0]) ∧ Below w'.heap.size w' w''))
    (HE : Hid (∀ w', Below w.heap.size w w' → Calls Try.prog 71 #[.pointer (some ⟨bj, 0, none⟩), p.val] w' fun x w'' => x = .returned (.tuple #[.pointer none, .int .i64 err]) ∧ Below w'.heap.size w' w'')) :
    Calls Try.prog 38 #[.pointer (some ⟨bj, 0, none⟩), Str s] w fun x w' => x = .returned (.tuple #[Str [], .bool false, .int .i64 err]) ∧ Below w.heap.size w w' := by
  have h1 : (err != 0) = true := by simpa using he
  obtain ⟨id, pl, n, b⟩ := p
  unfold Pt.val at H HE
  dsimp only at H HE
  go_enter Try.func38, Try.ntmps38
  go_wp2_with fail
  refine (H.out _).mono ?_
  rintro x w1 ⟨rfl, hb⟩
  have HB := Lib.hid (Below.chainAlloc hb (.cells #[.int .u32 id, .int .i64 pl, .int .i64 n, Str b] 154))
  have hk := Blk.new w1 #[.int .u32 id, .int .i64 pl, .int .i64 n, Str b] 154
  obtain ⟨c1, f1, l1⟩ := hk.facts
  clear hb hk
  go_wp2_with fail
  refine (HE.out _ HB.out).mono ?_
  rintro x w2 ⟨rfl, hb⟩
  have HB2 := Lib.hid (Below.chain hb HB.out)
  clear hb HB H HE c1 f1 l1
  go_wp2_with fail
  go_ret3
  exact ⟨rfl, HB2.out⟩
/-- What lies in memory behind the part's store. -/
structure PutM (base : Nat) (w W : World) (bj bm : Nat) (room : Int) (A : List AE) (p : Pt) (es : List FE) (e : FE) : Prop where
  j : Jn W bj bm room (repE e (setP p.place p.body e.ps) es)
  o : Only [bm, e.bp] w W
theorem Entd.put {base : Nat} {w w1 w2 w' : World} {bj bm : Nat} {room : Int} {A : List AE} {p : Pt} {es : List FE} {e : FE} (h : Entd base w1 w2 bj bm room A p es e) (hb : Below w.heap.size w w1) (ho : Only [e.bp] w2 w') (hm : MapW (Value.int .i64) w' e.bp (psM (setP p.place p.body e.ps))) :
    PutM base w w' bj bm room A p es e :=
  ⟨h.j.rep h.m ho hm, (((Only.of_below hb).trans' h.o (fun x hx => .inl (by simp at hx; simp [hx]))).trans' ho (fun x hx => .inl (by simp at hx; simp [hx])))⟩
end Go.Proofs.Ytgfbhclkpephnaa
