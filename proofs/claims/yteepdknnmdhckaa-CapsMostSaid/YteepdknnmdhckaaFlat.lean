/-
  Arguments that are flat (structs in structs, arrays, of integers, bools, strings, slices), and slices of such: opened to cells. For whatever program.
-/
import Derived.Test.YteepdknnmdhckaaLift3
import Derived.Deep.Slices
namespace Go.Proofs.Yteepdknnmdhckaa
open Go.ChangeShapes Go.WideShapes Go.ChangeAt Go.RowKit
/-- What one cell is. -/
inductive CK where
  | int (k : IntKind)
  | bool
  | str
  | sl (t : TypeId)
def ckSize (ks : List CK) : Nat := ks.length
def flatFields (P : Program) (rec : TypeId → Option (List CK)) : List Field → List CK → Option (List CK)
  | [], acc => some acc
  | f :: fs, acc => if f.offset = acc.length then
      match rec f.type with
      | some ks => if ks.length = P.cellsOf f.type then flatFields P rec fs (acc ++ ks) else none
      | none => none
    else none
def flatK (P : Program) : Nat → TypeId → Option (List CK)
  | 0, _ => none
  | n + 1, t => match P.underlying t with
    | some (.int k) => some [.int k]
    | some .bool => some [.bool]
    | some .string => some [.str]
    | some (.slice _) => some [.sl t]
    | some (.struct fs) => match flatFields P (flatK P n) fs.toList [] with
      | some ks => if ks.length = P.cellsOf t then some ks else none
      | none => none
    | some (.array m e) => match flatK P n e with
      | some ks => if ks.length = P.cellsOf e ∧ m * ks.length = P.cellsOf t then some (List.replicate m ks).flatten else none
      | none => none
    | _ => none
section
variable {H : Type} (enc : TypeId × Value → H) (P : Program) (w : World) (b : Nat) (sp : Nat → Bool) (hd : Bool)
def okC : CK → Value → Prop
  | .int k, c => ∃ z, c = .int k z ∧ (Lit.int k z).wf = true
  | .bool, c => ∃ z, c = .bool z
  | .str, c => ∃ l : List UInt8, c = Str l ∧ l.length ≤ 9223372036854775807
  | .sl t, c => ∃ a len cap d p, c = .slice a len cap ∧ DataW.Trod enc P w b sp hd t (.slice a len cap) d p
def Fits : List CK → List Value → Prop
  | [], cs => cs = []
  | k :: ks, cs => ∃ c cs', cs = c :: cs' ∧ okC enc P w b sp hd k c ∧ Fits ks cs'
end
section
variable {H : Type} {enc : TypeId × Value → H} {P : Program} {w : World} {b : Nat} {sp : Nat → Bool} {hd : Bool}
theorem Fits.append : ∀ {ks ls : List CK} {cs ds : List Value}, Fits enc P w b sp hd ks cs → Fits enc P w b sp hd ls ds → Fits enc P w b sp hd (ks ++ ls) (cs ++ ds)
  | [], _, _, _, h, h' => by cases h; exact h'
  | _ :: _, _, _, _, ⟨c, cs', e, h1, h2⟩, h' => by subst e; exact ⟨c, _, rfl, h1, Fits.append h2 h'⟩
theorem Fits.length : ∀ {ks : List CK} {cs : List Value}, Fits enc P w b sp hd ks cs → cs.length = ks.length
  | [], _, h => by cases h; rfl
  | _ :: _, _, ⟨c, cs', e, _, h2⟩ => by subst e; simp [Fits.length h2]
theorem flatFields_fits {n m : Nat} {cs : List Value}
    (ih : ∀ (m : Nat) (t : TypeId) (ks : List CK) (cs : List Value) (x : DataW H × List MemPlace), flatK P n t = some ks → DataW.trod enc P w b sp hd m t cs = some x → Fits enc P w b sp hd ks cs) :
    ∀ (fs : List Field) (acc ks : List CK), flatFields P (flatK P n) fs acc = some ks →
      (∀ f ∈ fs, ∃ x, DataW.trod enc P w b sp hd m f.type ((cs.drop f.offset).take (P.cellsOf f.type)) = some x) →
      Fits enc P w b sp hd acc (cs.take acc.length) → Fits enc P w b sp hd ks (cs.take ks.length)
  | [], acc, ks, h, _, hf => by cases h; exact hf
  | f :: fs, acc, ks, h, hx, hf => by
    unfold flatFields at h
    split at h
    · rename_i ho
      split at h
      · rename_i ls hl
        split at h
        · rename_i hc
          refine flatFields_fits ih fs _ _ h (fun g hg => hx g (by simp [hg])) ?_
          obtain ⟨x, hx0⟩ := hx f (by simp)
          have h1 := ih m f.type ls _ x hl hx0
          rw [ho, ← hc] at h1
          have := hf.append h1
          rwa [← List.take_add, ← List.length_append] at this
        · cases h
      · cases h
    · cases h
theorem fits_rep {ks : List CK} {cs : List Value} : ∀ (m o : Nat), (∀ i, i < m → Fits enc P w b sp hd ks ((cs.drop (o + i * ks.length)).take ks.length)) →
    Fits enc P w b sp hd (List.replicate m ks).flatten ((cs.drop o).take (m * ks.length))
  | 0, o, _ => by simp [Fits]
  | m + 1, o, h => by
    have h0 := h 0 (by omega)
    rw [Nat.zero_mul, Nat.add_zero] at h0
    have h1 := fits_rep m (o + ks.length) (fun i hi => by
      have := h (i + 1) (by omega)
      rw [Nat.succ_mul] at this
      rwa [show o + ks.length + i * ks.length = o + (i * ks.length + ks.length) by omega])
    have := h0.append h1
    rw [List.replicate_succ, List.flatten_cons, Nat.succ_mul, Nat.add_comm (m * ks.length), List.take_add, List.drop_drop]
    exact this
theorem flat_fits : ∀ (n m : Nat) (t : TypeId) (ks : List CK) (cs : List Value) (x : DataW H × List MemPlace), flatK P n t = some ks → DataW.trod enc P w b sp hd m t cs = some x → Fits enc P w b sp hd ks cs
  | 0, _, _, _, _, _, h, _ => by cases h
  | n + 1, m, t, ks, cs, x, h, hx => by
    unfold flatK at h
    split at h
    · rename_i k ht
      obtain rfl := Option.some.inj h
      obtain ⟨z, rfl, _, hw⟩ := DataW.trod_int ht hx
      exact ⟨_, [], rfl, ⟨z, rfl, hw⟩, rfl⟩
    · rename_i ht
      obtain rfl := Option.some.inj h
      obtain ⟨z, rfl, _⟩ := DataW.trod_bool ht hx
      exact ⟨_, [], rfl, ⟨z, rfl⟩, rfl⟩
    · rename_i ht
      obtain rfl := Option.some.inj h
      obtain ⟨z, rfl, _, hl⟩ := DataW.trod_string ht hx
      obtain ⟨l, rfl⟩ := str_list z
      exact ⟨_, [], rfl, ⟨l, rfl, str_len hl⟩, rfl⟩
    · rename_i e ht
      obtain rfl := Option.some.inj h
      rcases DataW.trod_slice ht hx with ⟨rfl, _⟩ | ⟨a, len, cap, _, _, _, _, rfl, _⟩
      · exact ⟨_, [], rfl, ⟨none, 0, 0, _, _, rfl, m, hx⟩, rfl⟩
      · exact ⟨_, [], rfl, ⟨_, _, _, _, _, rfl, m, hx⟩, rfl⟩
    · rename_i fs ht
      split at h
      · rename_i ls hl
        split at h
        · rename_i hc
          obtain rfl := Option.some.inj h
          obtain ⟨xs, m', _, _, hlen, hxs, hg⟩ := DataW.trod_struct ht hx
          have := flatFields_fits (m := m') (cs := cs) (fun m t ks cs x h hx => flat_fits n m t ks cs x h hx) fs.toList [] ls hl (fun f hf => by
            obtain ⟨i, hi, rfl⟩ := List.mem_iff_getElem.1 hf
            have hi' : i < fs.size := by simpa using hi
            have h1 := hg i _ (Array.getElem?_eq_getElem hi')
            rw [List.getElem?_eq_getElem (by omega)] at h1
            exact ⟨_, h1⟩) (by simp [Fits])
          rwa [List.take_of_length_le (by omega)] at this
        · cases h
      · cases h
    · rename_i k e ht
      split at h
      · rename_i ls hl
        split at h
        · rename_i hc
          obtain rfl := Option.some.inj h
          obtain ⟨xs, m', _, _, hlen, hxs, hg⟩ := DataW.trod_array ht hx
          have := fits_rep (enc := enc) (P := P) (w := w) (b := b) (sp := sp) (hd := hd) (ks := ls) (cs := cs) k 0 (fun i hi => by
            have h1 := hg i hi
            rw [List.getElem?_eq_getElem (by omega), ← hc.1] at h1
            rw [Nat.zero_add]
            exact flat_fits n m' e ls _ _ hl h1)
          rw [List.drop_zero, List.take_of_length_le (by omega)] at this
          exact this
        · cases h
      · cases h
    · cases h
/-- A slice that came in: each element's cells; they lie in a block that was there. -/
theorem open_cells {t e : TypeId} {a : Option Addr} {len cap : Nat} {d : DataW H} {p : List MemPlace} (ht : P.underlying t = some (.slice e)) (hpos : 0 < P.cellsOf e) (h : DataW.Trod enc P w b sp hd t (.slice a len cap) d p) :
    len ≤ cap ∧ cap ≤ maxLen ∧ (len = 0 ∨ ∃ g off, a = some ⟨g, off, none⟩ ∧ g < w.heap.size) ∧
    ∀ i, i < len → ∃ g off, a = some ⟨g, off, none⟩ ∧ ∃ cs m x, cs.length = P.cellsOf e ∧ (∀ j, j < P.cellsOf e → w.cell? ⟨g, off + i * P.cellsOf e + j, none⟩ = cs[j]?) ∧ DataW.trod enc P w b sp hd m e cs = some x := by
  obtain ⟨fuel, hf⟩ := h
  rcases Go.Deep.open_slice ht hf with ⟨hcs, _⟩ | ⟨x, l, c, m, n, D, Pl, hcs, _, hl, hm, hmm, _, hall⟩
  · simp [Value.cells] at hcs
    obtain ⟨rfl, rfl, rfl⟩ := hcs
    exact ⟨Nat.le_refl _, by simp, .inl rfl, fun i hi => by omega⟩
  · simp [Value.cells] at hcs
    obtain ⟨rfl, rfl, rfl⟩ := hcs
    have hlm : len ≤ m := by rw [hmm]; split <;> omega
    obtain ⟨g, off, spot⟩ := x
    have hsp : 0 < len → spot = none ∧ g < w.heap.size := fun hp => by
      obtain ⟨cs', h1, h2⟩ := hall 0 (by omega)
      obtain ⟨_, hcl, hat⟩ := World.cells?_some h1
      have h3 := hat 0 (by omega)
      rw [List.getElem?_eq_getElem (by omega)] at h3
      have h4 := World.cell?_spot h3
      have h5 := World.block_lt_of_cell? _ _ h3
      simp [Addr.add] at h4 h5
      exact ⟨h4, h5⟩
    refine ⟨hl, hm, ?_, fun i hi => ?_⟩
    · by_cases h0 : len = 0
      · exact .inl h0
      · obtain ⟨rfl, h2⟩ := hsp (by omega)
        exact .inr ⟨g, off, rfl, h2⟩
    · obtain ⟨rfl, h2⟩ := hsp (by omega)
      refine ⟨g, off, rfl, ?_⟩
      obtain ⟨cs', h1, h2⟩ := hall i (by omega)
      obtain ⟨_, hcl, hat⟩ := World.cells?_some h1
      refine ⟨cs', n, _, hcl, fun j hj => ?_, h2⟩
      rw [← hat j hj, Go.Deep.add_add]
      congr 1
      unfold Addr.add
      split <;> simp_all <;> omega
/-- A slice of things ds of a type of 'size' cells. -/
def IsRows {α : Type} (size : Nat) (encd : α → List Value) (w : World) (a : Option Addr) (len cap : Nat) (ds : List α) : Prop :=
  ds.length = len ∧ len ≤ cap ∧ cap ≤ maxLen ∧
  (len = 0 ∨ ∃ g off, a = some ⟨g, off, none⟩ ∧ g < w.heap.size ∧ ∀ i (h : i < ds.length) j, j < size → w.cell? ⟨g, off + i * size + j, none⟩ = (encd ds[i])[j]?)
theorem list_of_lt {α : Type} {p : Nat → α → Prop} : ∀ n, (∀ i, i < n → ∃ x, p i x) → ∃ l : List α, l.length = n ∧ ∀ i (h : i < l.length), p i l[i]
  | 0, _ => ⟨[], rfl, fun i h => absurd h (Nat.not_lt_zero _)⟩
  | n + 1, h => by
    obtain ⟨l, hl, hp⟩ := list_of_lt n (fun i hi => h i (by omega))
    obtain ⟨x, hx⟩ := h n (by omega)
    refine ⟨l ++ [x], by simp [hl], fun i hi => ?_⟩
    by_cases hin : i < l.length
    · rw [List.getElem_append_left hin]; exact hp i hin
    · have : i = n := by simp at hi; omega
      subst this
      rw [List.getElem_append_right (by omega)]
      simpa using hx
theorem open_rows {α : Type} {t e : TypeId} {a : Option Addr} {len cap : Nat} {d : DataW H} {p : List MemPlace} (size : Nat) (encd : α → List Value) (good : α → Prop) (ht : P.underlying t = some (.slice e)) (hs : P.cellsOf e = size) (hpos : 0 < size)
    (h : DataW.Trod enc P w b sp hd t (.slice a len cap) d p) (hone : ∀ cs m x, DataW.trod enc P w b sp hd m e cs = some x → ∃ r : α, cs = encd r ∧ good r) : ∃ ds : List α, IsRows size encd w a len cap ds ∧ ∀ r ∈ ds, good r := by
  subst hs
  obtain ⟨h1, h2, h3, h4⟩ := open_cells ht hpos h
  by_cases h0 : len = 0
  · subst h0
    exact ⟨[], ⟨rfl, h1, h2, .inl rfl⟩, by simp⟩
  · obtain ⟨g, off, rfl, hg⟩ := h3.resolve_left h0
    have : ∀ i, i < len → ∃ r : α, (∀ j, j < P.cellsOf e → w.cell? ⟨g, off + i * P.cellsOf e + j, none⟩ = (encd r)[j]?) ∧ good r := fun i hi => by
      obtain ⟨g', off', e', cs, m, x, _, hat, hx⟩ := h4 i hi
      cases e'
      obtain ⟨r, rfl, hr⟩ := hone cs m x hx
      exact ⟨r, hat, hr⟩
    obtain ⟨ds, hlen, hds⟩ := list_of_lt len this
    refine ⟨ds, ⟨hlen, h1, h2, .inr ⟨g, off, rfl, hg, fun i hi j hj => (hds i hi).1 j hj⟩⟩, fun r hr => ?_⟩
    obtain ⟨i, hi, rfl⟩ := List.mem_iff_getElem.1 hr
    exact (hds i hi).2
end
theorem IsRows.below {α : Type} {size : Nat} {encd : α → List Value} {w w' : World} {a : Option Addr} {len cap : Nat} {ds : List α} (h : IsRows size encd w a len cap ds) (hb : Below w.heap.size w w') : IsRows size encd w' a len cap ds := by
  obtain ⟨h1, h2, h3, h4⟩ := h
  refine ⟨h1, h2, h3, h4.imp id ?_⟩
  rintro ⟨g, off, ha, hg, hc⟩
  exact ⟨g, off, ha, Nat.lt_of_lt_of_le hg hb.size, fun i hi j hj => (hb.cell (p := ⟨g, _, none⟩) hg).trans (hc i hi j hj)⟩
theorem wf_u32 {z : Int} (h : (Lit.int .u32 z).wf = true) : 0 ≤ z ∧ z ≤ 4294967295 := by
  simpa [Lit.wf, IntKind.min, IntKind.max, IntKind.signed, IntKind.bits] using h
theorem wf_u8 {z : Int} (h : (Lit.int .u8 z).wf = true) : 0 ≤ z ∧ z ≤ 255 := by
  simpa [Lit.wf, IntKind.min, IntKind.max, IntKind.signed, IntKind.bits] using h
end Go.Proofs.Yteepdknnmdhckaa
