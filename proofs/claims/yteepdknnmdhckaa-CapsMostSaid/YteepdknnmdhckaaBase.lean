/-
  Small facts on worlds, used by all walks of this seat: blocks known whole, 'Below' chained.
-/
import Derived.Test.YteepdknnmdhckaaRows
import Derived.WalkKit
import Derived.WalkLawsBesides
import Derived.WalkSpells
import Derived.Deep.QuietTactic
import Derived.BigQuiet
import Derived.Deep.RegionHeld3
import Derived.Lib.Hide
namespace Go.Proofs.Yteepdknnmdhckaa
open Go.RowKit
/-- Block b is known whole: its cells, nothing frozen. A plain def: the walk does not look into it. -/
def Blk (w : World) (b : Nat) (cs : Array Value) (t : TypeId) : Prop := w.heap[b]? = some (.cells cs t (0, 0))
theorem Blk.lt {w : World} {b : Nat} {cs : Array Value} {t : TypeId} (h : Blk w b cs t) : b < w.heap.size := by
  unfold Blk at h
  exact (Array.getElem?_eq_some_iff.1 h).1
theorem Blk.facts {w : World} {b : Nat} {cs : Array Value} {t : TypeId} (h : Blk w b cs t) : (∀ o, w.cell? ⟨b, o, none⟩ = cs[o]?) ∧ (∀ o, w.frozen? ⟨b, o, none⟩ = false) ∧ b < w.heap.size := by
  refine ⟨fun o => ?_, fun o => ?_, h.lt⟩
  · unfold Blk at h; simp [World.cell?, h]
  · unfold Blk at h; simp [World.frozen?, h]
theorem Blk.below {w w' : World} {b B : Nat} {cs : Array Value} {t : TypeId} (h : Blk w b cs t) (hb : Below B w w') (hB : b < B) : Blk w' b cs t := by
  unfold Blk at *
  rw [hb.block b hB]; exact h
theorem Blk.new (w : World) (cs : Array Value) (t : TypeId) : Blk (w.alloc (.cells cs t)) w.heap.size cs t := by
  show (w.heap.push _)[w.heap.size]? = _
  simp
theorem Blk.newAt {w : World} {n : Nat} {cs : Array Value} {t : TypeId} (hn : n = w.heap.size) : Blk (w.alloc (.cells cs t)) n cs t := by subst hn; exact Blk.new w cs t
theorem Blk.alloc {w : World} {b : Nat} {cs : Array Value} {t : TypeId} (h : Blk w b cs t) (o : Obj) : Blk (w.alloc o) b cs t := by
  have := h.lt
  unfold Blk at *
  show (w.heap.push _)[b]? = _
  rw [Array.getElem?_push, if_neg (by omega)]; exact h
theorem Blk.drew {w : World} {b : Nat} {cs : Array Value} {t : TypeId} (h : Blk w b cs t) : Blk w.drew b cs t := h
theorem Blk.setOther {w : World} {b : Nat} {cs : Array Value} {t : TypeId} (h : Blk w b cs t) (a : Addr) (v : Value) (hne : b ≠ a.block) : Blk (w.setCell a v) b cs t := by
  unfold Blk at *
  rw [Below.heap_setCell _ _ _ _ hne]; exact h
theorem Blk.set {w : World} {b : Nat} {cs : Array Value} {t : TypeId} (h : Blk w b cs t) (o : Nat) (v : Value) : Blk (w.setCell ⟨b, o, none⟩ v) b (cs.setIfInBounds o v) t := by
  have hl := h.lt
  unfold Blk at *
  simp only [World.setCell, Array.getElem?_modify]
  simp [h]

theorem Below.chain {W b w' : World} (hb : Below b.heap.size b w') (h : Below W.heap.size W b) : Below W.heap.size W w' := h.trans (hb.mono h.size)
theorem Below.chainAlloc {W b : World} (h : Below W.heap.size W b) (o : Obj) : Below W.heap.size W (b.alloc o) := h.alloc h.size o
theorem bfacts {B : Nat} {W w1 : World} (hb : Below B W w1) : (∀ b o, b < B → w1.cell? ⟨b, o, none⟩ = W.cell? ⟨b, o, none⟩) ∧ (∀ b o, b < B → w1.frozen? ⟨b, o, none⟩ = W.frozen? ⟨b, o, none⟩) ∧ W.heap.size ≤ w1.heap.size :=
  ⟨fun b o h => hb.cell (p := ⟨b, o, none⟩) h, fun b o h => hb.frozen (p := ⟨b, o, none⟩) h, hb.size⟩
theorem cellsOf {w : World} {b : Nat} {cs : Array Value} {t : TypeId} (h : Blk w b cs t) : (∀ o, w.cell? ⟨b, o, none⟩ = cs[o]?) := h.facts.1
theorem bcell {B : Nat} {W w1 : World} (hb : Below B W w1) : (∀ b o, b < B → w1.cell? ⟨b, o, none⟩ = W.cell? ⟨b, o, none⟩) ∧ (∀ b o, b < B → w1.frozen? ⟨b, o, none⟩ = W.frozen? ⟨b, o, none⟩) :=
  ⟨fun b o h => hb.cell (p := ⟨b, o, none⟩) h, fun b o h => hb.frozen (p := ⟨b, o, none⟩) h⟩
theorem ret_int {k : IntKind} {a b : Int} (h : a = b) : Ending.returned (.int k a) = .returned (.int k b) := by rw [h]

/-- Of the blocks that were there, at most those of S have turned. -/
structure Only (S : List Nat) (w w' : World) : Prop where
  os : w'.os = w.os
  tape : w'.tape = w.tape
  output : w'.output = w.output
  size : w.heap.size ≤ w'.heap.size
  block : ∀ k, k < w.heap.size → k ∉ S → w'.heap[k]? = w.heap[k]?
theorem Only.refl (S : List Nat) (w : World) : Only S w w := ⟨rfl, rfl, rfl, Nat.le_refl _, fun _ _ _ => rfl⟩
/-- Two steps; what the second one turns is of S, or was not there at the start. -/
theorem Only.trans' {S S' : List Nat} {a b c : World} (h : Only S a b) (k : Only S' b c) (hs : ∀ x ∈ S', x ∈ S ∨ a.heap.size ≤ x) : Only S a c :=
  ⟨k.os.trans h.os, k.tape.trans h.tape, k.output.trans h.output, Nat.le_trans h.size k.size, fun i hi hn =>
    (k.block i (Nat.lt_of_lt_of_le hi h.size) (fun hm => (hs i hm).elim hn (fun hle => by omega))).trans (h.block i hi hn)⟩
theorem Only.trans {S : List Nat} {a b c : World} (h : Only S a b) (k : Only S b c) : Only S a c := h.trans' k (fun _ hx => .inl hx)
theorem Only.mono {S S' : List Nat} {a b : World} (h : Only S a b) (hs : ∀ x ∈ S, x ∈ S' ∨ a.heap.size ≤ x) : Only S' a b := (Only.refl S' a).trans' h hs
theorem Only.of_below {S : List Nat} {a b : World} (h : Below a.heap.size a b) : Only S a b := ⟨h.os, h.tape, h.output, h.size, fun k hk _ => h.block k hk⟩
theorem Only.below {S : List Nat} {B : Nat} {a b : World} (h : Only S a b) (hB : B ≤ a.heap.size) (hs : ∀ x ∈ S, B ≤ x) : Below B a b :=
  ⟨h.os, h.tape, h.output, h.size, fun k hk => h.block k (by omega) (fun hm => by have := hs k hm; omega)⟩
theorem Only.nil {a b : World} (h : Only [] a b) : Below a.heap.size a b := h.below (Nat.le_refl _) (by simp)
theorem Only.alloc {S : List Nat} {a b : World} (h : Only S a b) (o : Obj) : Only S a (b.alloc o) := h.trans (Only.of_below ((Below.refl _ _).alloc (Nat.le_refl _) o))
theorem Only.drew {S : List Nat} {a b : World} (h : Only S a b) : Only S a b.drew := ⟨h.os, h.tape, h.output, h.size, h.block⟩
theorem Only.setCell {S : List Nat} {a b : World} (h : Only S a b) (p : Addr) (u : Value) (hp : p.block ∈ S ∨ a.heap.size ≤ p.block) : Only S a (b.setCell p u) :=
  h.trans' (S' := [p.block]) ⟨rfl, rfl, rfl, by simp [World.setCell], fun k _ hn => Below.heap_setCell _ _ _ _ (by simpa using hn)⟩ (by simpa using hp)
theorem Below.only {S : List Nat} {W b c : World} (h : Below W.heap.size W b) (k : Only S b c) (hs : ∀ x ∈ S, W.heap.size ≤ x) : Below W.heap.size W c :=
  (((Only.of_below (S := []) h).trans' k (fun x hx => .inr (hs x hx)))).nil
theorem Blk.only {S : List Nat} {w w' : World} {b : Nat} {cs : Array Value} {t : TypeId} (h : Blk w b cs t) (ho : Only S w w') (hb : b ∉ S) : Blk w' b cs t := by
  have hl := h.lt
  unfold Blk at *
  rw [ho.block b hl hb]; exact h
theorem Blk.setAt {w : World} {b : Nat} {cs cs' : Array Value} {t : TypeId} (h : Blk w b cs t) (o : Nat) (v : Value) (hc : cs' = cs.setIfInBounds o v) : Blk (w.setCell ⟨b, o, none⟩ v) b cs' t := by
  subst hc; exact h.set o v

/-! Strings as lists of bytes. -/
abbrev Str (l : List UInt8) : Value := .string ⟨l.toArray⟩
theorem ext_list (l : List UInt8) (a b : Nat) : (⟨l.toArray⟩ : ByteArray).extract a b = ⟨((l.take b).drop a).toArray⟩ := by
  apply ByteArray.ext
  simp [ByteArray.data_extract, List.drop_take]
theorem str_list (s : ByteArray) : ∃ l : List UInt8, s = ⟨l.toArray⟩ := ⟨s.data.toList, by cases s; simp⟩
def U8 (z : Int) : UInt8 := UInt8.ofNat z.toNat
theorem foldl_push_U8 : ∀ (zs : List Int) (r : ByteArray), zs.foldl (fun r n => r.push (UInt8.ofNat n.toNat)) r = ⟨r.data ++ (zs.map U8).toArray⟩
  | [], r => by simp
  | z :: l, r => by
    simp only [List.foldl_cons]
    rw [foldl_push_U8 l]
    simp [ByteArray.push, U8]
/-- 'string(b)' where b's cells are known. -/
theorem run_str_cells {P : Program} (w : World) (src dst e : TypeId) (a : Addr) (cap : Nat) (zs : List Int) (hs : P.underlying src = some (.slice e)) (he : P.underlying e = some (.int .u8)) (hd : P.underlying dst = some .string)
    (hc : ∀ j (hj : j < zs.length), w.cell? (a.add j) = some (.int .u8 zs[j])) :
    (convert src dst (.slice (some a) zs.length cap)).run P w = .ok (.string ⟨(zs.map U8).toArray⟩) w := by
  rw [run_convert_bytes_string w src dst e (some a) zs.length cap hs he hd]
  have hl := run_loadCells_list (P := P) w a (zs.map (Value.int .u8)) (fun j v hj => by
    have hj' : j < zs.length := by
      have := (List.getElem?_eq_some_iff.1 hj).1
      simpa using this
    rw [hc j hj']
    simp [List.getElem?_eq_getElem hj'] at hj
    rw [← hj])
  simp only [List.length_map] at hl
  rw [run_bytesToString w a zs.length cap _ hl, foldl_push_U8]
  have he0 : ByteArray.empty.data = #[] := rfl
  rw [he0]
  simp
/-- .. of a block just made (or stored into since): its cells. -/
theorem run_str_new {P : Program} (w : World) (src dst e et : TypeId) (cap : Nat) (zs : List Int) (rest : List Value) (hs : P.underlying src = some (.slice e)) (he : P.underlying e = some (.int .u8)) (hd : P.underlying dst = some .string) (fr : Nat × Nat) :
    (convert src dst (.slice (some ⟨w.heap.size, 0, none⟩) zs.length cap)).run P (w.alloc (.cells (zs.map (Value.int .u8) ++ rest).toArray et fr)) = .ok (.string ⟨(zs.map U8).toArray⟩) (w.alloc (.cells (zs.map (Value.int .u8) ++ rest).toArray et fr)) :=
  run_str_cells _ src dst e _ cap zs hs he hd (fun j hj => by
    have : (⟨w.heap.size, 0, none⟩ : Addr).add j = ⟨w.heap.size, j, none⟩ := by unfold Addr.add; split <;> simp_all
    rw [this, World.cell?_alloc_mark]
    simp [List.getElem?_append, hj])
theorem str_len {l : List UInt8} (h : (⟨l.toArray⟩ : ByteArray).size ≤ maxLen) : l.length ≤ 9223372036854775807 := by
  unfold maxLen at h
  have e : (⟨l.toArray⟩ : ByteArray).size = l.length := by simp [ByteArray.size]
  omega
end Go.Proofs.Yteepdknnmdhckaa
