/-
  Whose turn it is: Push as the lists say; Next's steps in memory (chapter 17).
-/
import Derived.Test.YtgfbhclkpephnaaDr4
namespace Go.Proofs.Ytgfbhclkpephnaa
open Go Go.RowKit
set_option linter.unusedVariables false
set_option linter.unusedSimpArgs false
set_option maxRecDepth 100000
set_option maxHeartbeats 1000000
def pushE (S : PS) (x : Int × Int) : Int := match getQ x.1 S.qs with
  | none => 7
  | some _ => if x.2 < 1 ∨ 65536 < x.2 then 2 else 0
def pushA (S : PS) (x : Int × Int) : PS := match getQ x.1 S.qs with
  | none => S
  | some q => if x.2 < 1 ∨ 65536 < x.2 then S else pushP S q x
theorem dpush_any (bs base : Nat) (S : PS) (m : DM) (x : Int × Int) (w : World) (h : SchM w base bs S m (totQ S.qs : Nat)) (ho : S.Ok) (htot : totQ S.qs ≤ 60000) :
    Calls Try.prog 19 #[.pointer (some ⟨bs, 0, none⟩), itV x] w fun e w' => e = .returned (.int .i64 (pushE S x)) ∧ DPost base bs S m w (pushA S x) (totQ (pushA S x).qs : Nat) w' := by
  unfold pushE pushA
  cases hg : getQ x.1 S.qs with
  | none =>
    refine (dpush_none bs base S m _ x w h ho hg).mono ?_
    rintro e w' ⟨rfl, hb⟩
    exact ⟨rfl, DPost.of_below h hb⟩
  | some q =>
    simp only
    by_cases hx : x.2 < 1 ∨ 65536 < x.2
    · rw [if_pos hx, if_pos hx]
      refine (dpush_bad bs base S m _ x q w h ho hg hx).mono ?_
      rintro e w' ⟨rfl, hb⟩
      exact ⟨rfl, DPost.of_below h hb⟩
    · rw [if_neg hx, if_neg hx]
      have hid := (getQ_mem hg).2
      have hg' : getQ q.id S.qs = some q := by rw [hid]; exact hg
      have ht : ((totQ (pushP S q x).qs : Nat) : Int) = (totQ S.qs : Nat) + 1 := by rw [pushP_tot ho hg']; simp
      rw [ht]
      by_cases hne : q.items = []
      · exact dpush_first bs base S m _ x q w h ho hg' hid.symm (by omega) htot (by omega) hne
      · exact dpush_more bs base S m _ x q w h ho hg' hid.symm (by omega) htot (by omega) hne
theorem pushA_ok {S : PS} (h : S.Ok) (x : Int × Int) : (pushA S x).Ok := by
  unfold pushA
  cases hg : getQ x.1 S.qs with
  | none => exact h
  | some q =>
    simp only
    split
    · exact h
    · rename_i hx
      have hid := (getQ_mem hg).2
      exact pushP_ok h (by rw [hid]; exact hg) ⟨hid.symm, by omega, by omega⟩
/-! Next. -/
/-- The round turns, its first going. -/
theorem round_fin2 {base bs : Nat} {S1 : PS} {m : DM} {n : Int} {id : Int} {rest : List Int} {w1 : World} (h1 : SchM w1 base bs S1 m n) (g off cp : Nat) (w2 : World) (hs : Seg w2 base 94 1 (.slice (some ⟨g, off, none⟩) (rest.length + 1) cp) (rest.length + 1) (rdC m rest ++ [.pointer (some ⟨m.B id, 0, none⟩)])) (ho : Only m.rv.ownBlock.toList w1 w2)
    (hat : m.rv.ownBlock = some g ∨ w1.heap.size ≤ g) : SchM (w2.setCell ⟨bs, 257, none⟩ (.slice (some ⟨g, off, none⟩) (rest.length + 1) cp)) base bs { S1 with round := rest ++ [id] } { m with rv := .slice (some ⟨g, off, none⟩) (rest.length + 1) cp } n ∧
    Only (bs :: m.rv.ownBlock.toList) w1 (w2.setCell ⟨bs, 257, none⟩ (.slice (some ⟨g, off, none⟩) (rest.length + 1) cp)) ∧ ∀ y ∈ ownM bs { S1 with round := rest ++ [id] } { m with rv := .slice (some ⟨g, off, none⟩) (rest.length + 1) cp }, y ∈ ownM bs S1 m ∨ w1.heap.size ≤ y := by
  refine ⟨h1.setRound ho ?_, (ho.mono (fun y hy => .inl (List.mem_cons_of_mem _ hy))).setCell _ _ (.inl List.mem_cons_self), fun y hy => ?_⟩
  · rw [rdC_snoc, List.length_append]
    exact hs
  · rcases own_round hy with hy | hy
    · exact .inl hy
    · have e : g = y := by simpa [Value.ownBlock] using hy
      rcases hat with h | h
      · exact .inl (own_rv _ _ _ (by rw [h, e]; simp))
      · exact .inr (by omega)
/-- The round loses its first. -/
theorem round_cut {base bs : Nat} {S1 : PS} {m : DM} {n : Int} {id : Int} {rest : List Int} {w1 : World} (h1 : SchM w1 base bs S1 m n) (hr : S1.round = id :: rest) {g off cp : Nat} (hv : m.rv = .slice (some ⟨g, off, none⟩) (rest.length + 1) cp) (off' : Nat) (ho : off' = off + 1 ∨ cp = 1 ∧ off' = off) :
    SchM (w1.setCell ⟨bs, 257, none⟩ (.slice (some ⟨g, off', none⟩) rest.length (cp - 1))) base bs { S1 with round := rest } { m with rv := .slice (some ⟨g, off', none⟩) rest.length (cp - 1) } n ∧ ∀ y ∈ ownM bs { S1 with round := rest } { m with rv := .slice (some ⟨g, off', none⟩) rest.length (cp - 1) }, y ∈ ownM bs S1 m := by
  have hs := h1.r
  rw [hr, hv] at hs
  have ht := Seg.tail (n := rest.length) hs off' ho
  refine ⟨h1.setRound (Only.refl _ _) ht, fun y hy => ?_⟩
  rcases own_round hy with hy | hy
  · exact hy
  · have e : g = y := by simpa [Value.ownBlock] using hy
    exact own_rv _ _ _ (by rw [hv, e]; simp [Value.ownBlock])
/-- The items lose their first. -/
theorem items_cut {base bs : Nat} {S1 : PS} {m : DM} {n : Int} {q : PQ} {x : Int × Int} {xs : List (Int × Int)} {w1 : World} (h1 : SchM w1 base bs S1 m n) (hg : getQ q.id S1.qs = some q) (hi : q.items = x :: xs) {g off cp : Nat} (hv : m.V q.id = .slice (some ⟨g, off, none⟩) (xs.length + 1) cp) (off' : Nat) (ho : off' = off + 2 ∨ cp = 1 ∧ off' = off) (d : Int) :
    SchM ((w1.setCell ⟨m.B q.id, 2, none⟩ (.int .i64 d)).setCell ⟨m.B q.id, 4, none⟩ (.slice (some ⟨g, off', none⟩) xs.length (cp - 1))) base bs { S1 with qs := putQ { q with deficit := d, items := xs } S1.qs } (m.setV q.id (.slice (some ⟨g, off', none⟩) xs.length (cp - 1))) n ∧
    ∀ y ∈ ownM bs { S1 with qs := putQ { q with deficit := d, items := xs } S1.qs } (m.setV q.id (.slice (some ⟨g, off', none⟩) xs.length (cp - 1))), y ∈ ownM bs S1 m := by
  have hq := (getQ_mem hg).1
  have hs := h1.i q hq
  have hb := h1.q q hq
  rw [hi, hv] at hs
  have ht := Seg.tail (n := xs.length) hs off' ho
  have hgb := hs.ne_blk hb (by decide) g rfl
  have hx : ∀ g', (Value.slice (some ⟨g, off', none⟩) xs.length (cp - 1)).ownBlock = some g' → g' ≠ m.B q.id := fun g' e => by
    obtain rfl : g = g' := by simpa [Value.ownBlock] using e
    exact hgb
  refine ⟨h1.setItems (q' := { q with deficit := d, items := xs }) hg rfl ((hb.setAt 2 _ rfl).setAt 4 _ rfl) ((ht.setOther _ _ hx).setOther _ _ hx) (((Only.refl _ w1).setCell ⟨m.B q.id, 2, none⟩ (.int .i64 d) (.inl (by simp))).setCell ⟨m.B q.id, 4, none⟩ (.slice (some ⟨g, off', none⟩) xs.length (cp - 1)) (.inl (by simp))) (.inl (by rw [hv]; rfl)), fun y hy => ?_⟩
  rcases own_putQ (q := q) (q' := { q with deficit := d, items := xs }) rfl hq hy with hy | hy
  · exact hy
  · have e : g = y := by simpa [Value.ownBlock] using hy
    exact own_V bs hq (by rw [hv, e]; simp [Value.ownBlock])
theorem own_setQ {bs : Nat} {S : PS} {m : DM} {q q' : PQ} (hid : q'.id = q.id) (hq : q ∈ S.qs) : ∀ y ∈ ownM bs { S with qs := putQ q' S.qs } m, y ∈ ownM bs S m := fun y hy => by
  have e := setV_self m q.id
  rw [← e] at hy
  rcases own_putQ hid hq hy with hy | hy
  · exact hy
  · exact own_V bs hq (by rw [hy]; simp)
theorem dnext_nil (w : World) : Calls Try.prog 20 #[.pointer none] w fun e w' => e = .returned (.tuple #[itV (0, 0), .bool false]) ∧ Below w.heap.size w w' := by
  go_enter Try.func20, Try.ntmps20
  go_wp2_with fail
  go_step3
  go_wp2_with fail
  rw [Exit.noGoto_ret]
  refine bodyPost_ret (v := .tuple #[itV (0, 0), .bool false]) (by simp [results, Try.results20, go_sem, itV]) rfl ⟨rfl, ?_⟩
  exact Below.chainAlloc (Below.refl _ _) _
theorem dnext_none (bs base : Nat) (S : PS) (m : DM) (n : Int) (w : World) (h : SchM w base bs S m n) (hr : S.round = []) : Calls Try.prog 20 #[.pointer (some ⟨bs, 0, none⟩)] w fun e w' => e = .returned (.tuple #[itV (0, 0), .bool false]) ∧ Below w.heap.size w w' := by
  have hc := h.cells.2.1
  obtain ⟨a, cap, hv⟩ := h.r.form
  have hr0 : S.round.length = 0 := by rw [hr]; rfl
  rw [hv, hr0] at hc
  have hlt := h.blt
  clear h hv hr hr0
  go_enter Try.func20, Try.ntmps20
  go_wp2_with fail
  go_step3
  go_wp2_with fail
  go_step3
  go_wp2_with fail
  go_loopg [] 0 (fun gk wr => wr = w.alloc (.cells #[.int .i64 0, .int .i64 0] 35))
  case atStart => rfl
  case round =>
    subst hrel
    go_wp2_with fail
    rw [Exit.noGoto_ret]
    refine bodyPost_ret (v := .tuple #[itV (0, 0), .bool false]) (by simp [results, Try.results20, go_sem, itV]) rfl ⟨rfl, ?_⟩
    exact Below.chainAlloc (Below.refl _ _) _
end Go.Proofs.Ytgfbhclkpephnaa
