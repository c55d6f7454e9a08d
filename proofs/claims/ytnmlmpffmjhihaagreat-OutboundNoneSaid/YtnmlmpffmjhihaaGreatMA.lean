/-
  Merged: Small facts on worlds, used by all walks of this seat: blocks known whole, 'Below' chained. | Byte blocks, rows that grow: small facts for the walks. | Arguments that are slices of integers, and others: opened for the walks. | Arguments that are arrays of integers, slices of structs: opened for the walks. | Arguments that are flat (structs in structs, arrays, of integers, bools, strings, slices), and slices of such: opened to cells. For whatever program. | A slice that lies anywhere in a block ('q = q[1:]'; 'q = append(q, x)'), the block the call's own or a structure's: its cells, a reslice, an append. For whatever program.
-/
import Derived.Test.YtnmlmpffmjhihaaGreatRows
import Derived.WalkKit
import Derived.WalkLawsBesides
import Derived.WalkSpells
import Derived.Deep.QuietTactic
import Derived.BigQuiet
import Derived.Deep.RegionHeld3
import Derived.Lib.Hide
import Derived.Deep.LoopGhost
import Derived.Deep.DeepCutAuto
import Derived.LoopN
import Derived.OwnWalk
import Derived.ProofKit
import Derived.OpenShut
import Derived.ShutString
import Derived.ChangeOld
import Derived.Below
import Derived.Deep.Fields
import Derived.Deep.Slices
import Derived.Deep.AppendLies
namespace Go.Proofs.YtnmlmpffmjhihaaGreat
open Go.RowKit
/-- Block b is known whole: its cells, nothing frozen. A plain def: the walk does not look into it. -/
def Blk (w : World) (b : Nat) (cs : Array Value) (t : TypeId) : Prop := w.heap[b]? = some (.cells cs t (0, 0))
theorem Blk.lt {w : World} {b : Nat} {cs : Array Value} {t : TypeId} (h : Blk w b cs t) : b < w.heap.size := by
  unfold Blk at h
  exact (Array.getElem?_eq_some_iff.1 h).1
theorem Blk.facts {w : World} {b : Nat} {cs : Array Value} {t : TypeId} (h : Blk w b cs t) : (∀ o, w.cell? ⟨b, o, none⟩ = cs[o]?) ∧ (∀ o, w.frozen? ⟨b, o, none⟩ = false) ∧ b < w.heap.size := by
  refine ⟨fun o => ?_, fun o => ?_, h.lt⟩
  · unfold Blk at h; simp [World.cell?, h]
  · unfold Blk at h; simp [World.frozen?, h]
theorem Blk.below {w w' : World} {b B : Nat} {cs : Array Value} {t : TypeId} (h : Blk w b cs t) (hb : Below B w w') (hB : b < B) : Blk w' b cs t := by
  unfold Blk at *
  rw [hb.block b hB]; exact h
theorem Blk.new (w : World) (cs : Array Value) (t : TypeId) : Blk (w.alloc (.cells cs t)) w.heap.size cs t := by
  show (w.heap.push _)[w.heap.size]? = _
  simp
theorem Blk.newAt {w : World} {n : Nat} {cs : Array Value} {t : TypeId} (hn : n = w.heap.size) : Blk (w.alloc (.cells cs t)) n cs t := by subst hn; exact Blk.new w cs t
theorem Blk.alloc {w : World} {b : Nat} {cs : Array Value} {t : TypeId} (h : Blk w b cs t) (o : Obj) : Blk (w.alloc o) b cs t := by
  have := h.lt
  unfold Blk at *
  show (w.heap.push _)[b]? = _
  rw [Array.getElem?_push, if_neg (by omega)]; exact h
theorem Blk.drew {w : World} {b : Nat} {cs : Array Value} {t : TypeId} (h : Blk w b cs t) : Blk w.drew b cs t := h
theorem Blk.setOther {w : World} {b : Nat} {cs : Array Value} {t : TypeId} (h : Blk w b cs t) (a : Addr) (v : Value) (hne : b ≠ a.block) : Blk (w.setCell a v) b cs t := by
  unfold Blk at *
  rw [Below.heap_setCell _ _ _ _ hne]; exact h
theorem Blk.set {w : World} {b : Nat} {cs : Array Value} {t : TypeId} (h : Blk w b cs t) (o : Nat) (v : Value) : Blk (w.setCell ⟨b, o, none⟩ v) b (cs.setIfInBounds o v) t := by
  have hl := h.lt
  unfold Blk at *
  simp only [World.setCell, Array.getElem?_modify]
  simp [h]

theorem Below.chain {W b w' : World} (hb : Below b.heap.size b w') (h : Below W.heap.size W b) : Below W.heap.size W w' := h.trans (hb.mono h.size)
theorem Below.chainAlloc {W b : World} (h : Below W.heap.size W b) (o : Obj) : Below W.heap.size W (b.alloc o) := h.alloc h.size o
theorem bfacts {B : Nat} {W w1 : World} (hb : Below B W w1) : (∀ b o, b < B → w1.cell? ⟨b, o, none⟩ = W.cell? ⟨b, o, none⟩) ∧ (∀ b o, b < B → w1.frozen? ⟨b, o, none⟩ = W.frozen? ⟨b, o, none⟩) ∧ W.heap.size ≤ w1.heap.size :=
  ⟨fun b o h => hb.cell (p := ⟨b, o, none⟩) h, fun b o h => hb.frozen (p := ⟨b, o, none⟩) h, hb.size⟩
theorem cellsOf {w : World} {b : Nat} {cs : Array Value} {t : TypeId} (h : Blk w b cs t) : (∀ o, w.cell? ⟨b, o, none⟩ = cs[o]?) := h.facts.1
theorem bcell {B : Nat} {W w1 : World} (hb : Below B W w1) : (∀ b o, b < B → w1.cell? ⟨b, o, none⟩ = W.cell? ⟨b, o, none⟩) ∧ (∀ b o, b < B → w1.frozen? ⟨b, o, none⟩ = W.frozen? ⟨b, o, none⟩) :=
  ⟨fun b o h => hb.cell (p := ⟨b, o, none⟩) h, fun b o h => hb.frozen (p := ⟨b, o, none⟩) h⟩
theorem ret_int {k : IntKind} {a b : Int} (h : a = b) : Ending.returned (.int k a) = .returned (.int k b) := by rw [h]

/-- Of the blocks that were there, at most those of S have turned. -/
structure Only (S : List Nat) (w w' : World) : Prop where
  os : w'.os = w.os
  tape : w'.tape = w.tape
  output : w'.output = w.output
  size : w.heap.size ≤ w'.heap.size
  block : ∀ k, k < w.heap.size → k ∉ S → w'.heap[k]? = w.heap[k]?
theorem Only.refl (S : List Nat) (w : World) : Only S w w := ⟨rfl, rfl, rfl, Nat.le_refl _, fun _ _ _ => rfl⟩
/-- Two steps; what the second one turns is of S, or was not there at the start. -/
theorem Only.trans' {S S' : List Nat} {a b c : World} (h : Only S a b) (k : Only S' b c) (hs : ∀ x ∈ S', x ∈ S ∨ a.heap.size ≤ x) : Only S a c :=
  ⟨k.os.trans h.os, k.tape.trans h.tape, k.output.trans h.output, Nat.le_trans h.size k.size, fun i hi hn =>
    (k.block i (Nat.lt_of_lt_of_le hi h.size) (fun hm => (hs i hm).elim hn (fun hle => by omega))).trans (h.block i hi hn)⟩
theorem Only.trans {S : List Nat} {a b c : World} (h : Only S a b) (k : Only S b c) : Only S a c := h.trans' k (fun _ hx => .inl hx)
theorem Only.mono {S S' : List Nat} {a b : World} (h : Only S a b) (hs : ∀ x ∈ S, x ∈ S' ∨ a.heap.size ≤ x) : Only S' a b := (Only.refl S' a).trans' h hs
theorem Only.of_below {S : List Nat} {a b : World} (h : Below a.heap.size a b) : Only S a b := ⟨h.os, h.tape, h.output, h.size, fun k hk _ => h.block k hk⟩
theorem Only.below {S : List Nat} {B : Nat} {a b : World} (h : Only S a b) (hB : B ≤ a.heap.size) (hs : ∀ x ∈ S, B ≤ x) : Below B a b :=
  ⟨h.os, h.tape, h.output, h.size, fun k hk => h.block k (by omega) (fun hm => by have := hs k hm; omega)⟩
theorem Only.nil {a b : World} (h : Only [] a b) : Below a.heap.size a b := h.below (Nat.le_refl _) (by simp)
theorem Only.alloc {S : List Nat} {a b : World} (h : Only S a b) (o : Obj) : Only S a (b.alloc o) := h.trans (Only.of_below ((Below.refl _ _).alloc (Nat.le_refl _) o))
theorem Only.drew {S : List Nat} {a b : World} (h : Only S a b) : Only S a b.drew := ⟨h.os, h.tape, h.output, h.size, h.block⟩
theorem Only.setCell {S : List Nat} {a b : World} (h : Only S a b) (p : Addr) (u : Value) (hp : p.block ∈ S ∨ a.heap.size ≤ p.block) : Only S a (b.setCell p u) :=
  h.trans' (S' := [p.block]) ⟨rfl, rfl, rfl, by simp [World.setCell], fun k _ hn => Below.heap_setCell _ _ _ _ (by simpa using hn)⟩ (by simpa using hp)
theorem Below.only {S : List Nat} {W b c : World} (h : Below W.heap.size W b) (k : Only S b c) (hs : ∀ x ∈ S, W.heap.size ≤ x) : Below W.heap.size W c :=
  (((Only.of_below (S := []) h).trans' k (fun x hx => .inr (hs x hx)))).nil
theorem Blk.only {S : List Nat} {w w' : World} {b : Nat} {cs : Array Value} {t : TypeId} (h : Blk w b cs t) (ho : Only S w w') (hb : b ∉ S) : Blk w' b cs t := by
  have hl := h.lt
  unfold Blk at *
  rw [ho.block b hl hb]; exact h
theorem Blk.setAt {w : World} {b : Nat} {cs cs' : Array Value} {t : TypeId} (h : Blk w b cs t) (o : Nat) (v : Value) (hc : cs' = cs.setIfInBounds o v) : Blk (w.setCell ⟨b, o, none⟩ v) b cs' t := by
  subst hc; exact h.set o v

/-! Strings as lists of bytes. -/
abbrev Str (l : List UInt8) : Value := .string ⟨l.toArray⟩
theorem ext_list (l : List UInt8) (a b : Nat) : (⟨l.toArray⟩ : ByteArray).extract a b = ⟨((l.take b).drop a).toArray⟩ := by
  apply ByteArray.ext
  simp [ByteArray.data_extract, List.drop_take]
theorem str_list (s : ByteArray) : ∃ l : List UInt8, s = ⟨l.toArray⟩ := ⟨s.data.toList, by cases s; simp⟩
def U8 (z : Int) : UInt8 := UInt8.ofNat z.toNat
theorem foldl_push_U8 : ∀ (zs : List Int) (r : ByteArray), zs.foldl (fun r n => r.push (UInt8.ofNat n.toNat)) r = ⟨r.data ++ (zs.map U8).toArray⟩
  | [], r => by simp
  | z :: l, r => by
    simp only [List.foldl_cons]
    rw [foldl_push_U8 l]
    simp [ByteArray.push, U8]
/-- 'string(b)' where b's cells are known. -/
theorem run_str_cells {P : Program} (w : World) (src dst e : TypeId) (a : Addr) (cap : Nat) (zs : List Int) (hs : P.underlying src = some (.slice e)) (he : P.underlying e = some (.int .u8)) (hd : P.underlying dst = some .string)
    (hc : ∀ j (hj : j < zs.length), w.cell? (a.add j) = some (.int .u8 zs[j])) :
    (convert src dst (.slice (some a) zs.length cap)).run P w = .ok (.string ⟨(zs.map U8).toArray⟩) w := by
  rw [run_convert_bytes_string w src dst e (some a) zs.length cap hs he hd]
  have hl := run_loadCells_list (P := P) w a (zs.map (Value.int .u8)) (fun j v hj => by
    have hj' : j < zs.length := by
      have := (List.getElem?_eq_some_iff.1 hj).1
      simpa using this
    rw [hc j hj']
    simp [List.getElem?_eq_getElem hj'] at hj
    rw [← hj])
  simp only [List.length_map] at hl
  rw [run_bytesToString w a zs.length cap _ hl, foldl_push_U8]
  have he0 : ByteArray.empty.data = #[] := rfl
  rw [he0]
  simp
/-- .. of a block just made (or stored into since): its cells. -/
theorem run_str_new {P : Program} (w : World) (src dst e et : TypeId) (cap : Nat) (zs : List Int) (rest : List Value) (hs : P.underlying src = some (.slice e)) (he : P.underlying e = some (.int .u8)) (hd : P.underlying dst = some .string) (fr : Nat × Nat) :
    (convert src dst (.slice (some ⟨w.heap.size, 0, none⟩) zs.length cap)).run P (w.alloc (.cells (zs.map (Value.int .u8) ++ rest).toArray et fr)) = .ok (.string ⟨(zs.map U8).toArray⟩) (w.alloc (.cells (zs.map (Value.int .u8) ++ rest).toArray et fr)) :=
  run_str_cells _ src dst e _ cap zs hs he hd (fun j hj => by
    have : (⟨w.heap.size, 0, none⟩ : Addr).add j = ⟨w.heap.size, j, none⟩ := by unfold Addr.add; split <;> simp_all
    rw [this, World.cell?_alloc_mark]
    simp [List.getElem?_append, hj])
theorem str_len {l : List UInt8} (h : (⟨l.toArray⟩ : ByteArray).size ≤ maxLen) : l.length ≤ 9223372036854775807 := by
  unfold maxLen at h
  have e : (⟨l.toArray⟩ : ByteArray).size = l.length := by simp [ByteArray.size]
  omega
end Go.Proofs.YtnmlmpffmjhihaaGreat
namespace Go.Proofs.YtnmlmpffmjhihaaGreat
open Go.RowKit
/-- The first bytes of block g are bs, and may be written. -/
def Byt (w : World) (g : Nat) (bs : List UInt8) : Prop :=
  g < w.heap.size ∧ ∀ j (h : j < bs.length), w.cell? ⟨g, j, none⟩ = some (.int .u8 (bs[j].toNat : Int)) ∧ w.frozen? ⟨g, j, none⟩ = false
theorem Byt.below {w w' : World} {g B : Nat} {bs : List UInt8} (h : Byt w g bs) (hb : Below B w w') (hg : g < B) : Byt w' g bs :=
  ⟨Nat.lt_of_lt_of_le h.1 hb.size, fun j hj => ⟨(hb.cell (p := ⟨g, j, none⟩) hg).trans (h.2 j hj).1, (hb.frozen (p := ⟨g, j, none⟩) hg).trans (h.2 j hj).2⟩⟩
theorem Byt.chain {w w' : World} {g : Nat} {bs : List UInt8} (h : Byt w g bs) (hb : Below w.heap.size w w') : Byt w' g bs := h.below hb h.1
theorem frozen_setCell (w : World) (p a : Addr) (v : Value) : (w.setCell p v).frozen? a = w.frozen? a := by
  unfold World.frozen? World.setCell
  simp only [Array.getElem?_modify]
  by_cases h : p.block = a.block
  · rw [if_pos h]
    cases w.heap[a.block]? with
    | none => rfl
    | some o => cases o <;> rfl
  · rw [if_neg h]
theorem Byt.set {w : World} {g : Nat} {bs : List UInt8} (h : Byt w g bs) (i : Nat) (c : UInt8) : Byt (w.setCell ⟨g, i, none⟩ (.int .u8 (c.toNat : Int))) g (bs.set i c) := by
  refine ⟨by simpa [World.setCell] using h.1, fun j hj => ?_⟩
  have hj' : j < bs.length := by simpa using hj
  refine ⟨?_, by rw [frozen_setCell]; exact (h.2 j hj').2⟩
  by_cases e : i = j
  · subst e
    have h1 := (h.2 i hj').1
    have h2 : ∃ cs t fr, w.heap[g]? = some (.cells cs t fr) ∧ i < cs.size := by
      unfold World.cell? at h1
      split at h1
      · rename_i cs t fr hh
        refine ⟨cs, t, fr, hh, ?_⟩
        simp at h1
        exact (Array.getElem?_eq_some_iff.1 h1).1
      · cases h1
    obtain ⟨cs, t, fr, hh, hi⟩ := h2
    unfold World.cell? World.setCell
    simp only [Array.getElem?_modify, hh]
    simp [hi]
  · rw [World.cell?_setCell_other _ _ _ _ (by intro h; cases h; exact e rfl), (h.2 j hj').1]
    simp [e]
theorem Byt.setAt {w : World} {g : Nat} {bs : List UInt8} (h : Byt w g bs) (i : Nat) (z : Int) (h0 : 0 ≤ z) (h1 : z < 256) : Byt (w.setCell ⟨g, i, none⟩ (.int .u8 z)) g (bs.set i (U8 z)) := by
  have e : ((U8 z).toNat : Int) = z := by unfold U8; simp; omega
  have := h.set i (U8 z)
  rwa [e] at this
/-- '[]byte(s)'. -/
theorem conv_bytes (w : World) (l : List UInt8) (hl : l.length ≤ 9223372036854775807) : ∃ c W', (convert 9 120 (.string ⟨l.toArray⟩)).run Tryz.prog w = .ok (.slice (some ⟨w.heap.size, 0, none⟩) l.length c) W' ∧
    Byt W' w.heap.size l ∧ Below w.heap.size w W' ∧ l.length ≤ c ∧ c ≤ 9223372036854775807 := by
  have hsz : (⟨l.toArray⟩ : ByteArray).size = l.length := by simp [ByteArray.size]
  have hr := run_bytes_of_string (P := Tryz.prog) w 9 120 5 ⟨l.toArray⟩ Tryz.underlying9 Tryz.underlying120 Tryz.underlying5
  rw [hsz] at hr
  refine ⟨_, _, hr, ⟨?_, fun j hj => ?_⟩, ?_, ?_, ?_⟩
  · show w.heap.size < (w.heap.push _).size
    simp
  · have e : w.heap.size = w.drew.heap.size := rfl
    refine ⟨?_, ?_⟩
    · rw [e, World.cell?_alloc_mark, bytesRow_at _ _ _ (show j < (⟨l.toArray⟩ : ByteArray).data.size by simpa using hj)]
      simp
    · rw [e, World.frozen?_alloc_mark]
      simp [bytesRow]
      omega
  · exact ((Below.refl _ _).drew).alloc (by show w.heap.size ≤ w.heap.size; exact Nat.le_refl _) _
  · show l.length ≤ l.length + _ % _
    omega
  · show l.length + (w.tape w.drawn (Question.appendCap l.length 0 5)) % (2 ^ 63 - l.length) ≤ _
    have h : 2 ^ 63 - l.length > 0 := by omega
    have := Nat.mod_lt (w.tape w.drawn (Question.appendCap l.length 0 5)) h
    omega
/-- 'string(b)'. -/
theorem conv_string {w : World} {g n : Nat} {bs : List UInt8} (h : Byt w g bs) (hn : n = bs.length) (c : Nat) : (convert 120 9 (.slice (some ⟨g, 0, none⟩) n c)).run Tryz.prog w = .ok (.string ⟨bs.toArray⟩) w := by
  subst hn
  have := run_str_cells (P := Tryz.prog) w 120 9 5 ⟨g, 0, none⟩ c (bs.map fun b => (b.toNat : Int)) Tryz.underlying120 Tryz.underlying5 Tryz.underlying9 (fun j hj => by
    have e : (⟨g, 0, none⟩ : Addr).add j = ⟨g, j, none⟩ := by unfold Addr.add; split <;> simp_all
    rw [e, (h.2 j (by simpa using hj)).1]
    simp)
  rw [List.length_map] at this
  rw [this]
  have e2 : (bs.map fun b => (b.toNat : Int)).map U8 = bs := by
    rw [List.map_map]
    conv => rhs; rw [← List.map_id bs]
    refine List.map_congr_left fun b _ => ?_
    apply UInt8.toNat.inj
    simp [U8]
  rw [e2]
theorem Only.of_grown {w w' : World} {row : Option Nat} (h : w.grownBy w' row) : Only row.toList w w' :=
  ⟨h.os, h.tape, h.output, h.size, fun k hk hn => h.block k hk (fun e => hn (by rw [← e]; simp))⟩
/-- An append to what the call itself made (or to nil): what stood below B stays. -/
theorem Below.grow {B : Nat} {w0 w w' : World} {v : Value} {n size : Nat} {e : TypeId} {xs : List Value} (h : Below B w0 w) (hown : w.ownsRow B e size v n xs) (hg : w.grownBy w' v.ownBlock) (hB : B ≤ w.heap.size) : Below B w0 w' :=
  h.grown hg hB (fun k hk => by
    rcases hown.2 with ⟨hv, _⟩ | ⟨g, cap, cur, hv, hg', _⟩
    · rw [hv] at hk; cases hk
    · rw [hv] at hk
      obtain rfl : g = k := by simpa [Value.ownBlock] using hk
      exact hg')
end Go.Proofs.YtnmlmpffmjhihaaGreat
namespace Go.Proofs.YtnmlmpffmjhihaaGreat
open Go.ChangeShapes Go.WideShapes Go.ChangeAt Go.RowKit
open Go.ChangeMaps (open_string shut_string)
section
variable {H : Type} {enc : TypeId × Value → H} {P : Program}
theorem trodAll_below (hl : laidOutB P = true) {W W' : World} (hb : Below W.heap.size W W') :
    ∀ (ts : List TypeId) (vs : List Value) (ds : List (DataW H)) (ps : List MemPlace), (ts.all fun t => P.readableRec t && decide (t < P.types.size)) = true →
      DataW.TrodAll enc P W 0 (fun _ => true) true ts vs ds ps → (∀ x ∈ ps, x.block < W.heap.size) → DataW.TrodAll enc P W' 0 (fun b => decide (b < W.heap.size)) true ts vs ds ps
  | [], [], [], _, _, h, _ => h
  | t :: ts, v :: vs, d :: ds, ps, hr, ⟨p, q, h1, h2, h3⟩, hlt => by
    subst h3
    simp only [List.all_cons, Bool.and_eq_true, decide_eq_true_eq] at hr
    exact ⟨p, q, Below.trod hl hr.1.1 hr.1.2 h1 hb (fun x hx => hlt x (by simp [hx])), trodAll_below hl hb ts vs ds q (by simpa using hr.2) h2 (fun x hx => hlt x (by simp [hx])), rfl⟩
  | [], _ :: _, _, _, _, h, _ => h.elim
  | [], [], _ :: _, _, _, h, _ => h.elim
  | _ :: _, [], _, _, _, h, _ => h.elim
  | _ :: _, _ :: _, [], _, _, h, _ => h.elim
theorem trodAll_lt {W : World} {b : Nat} {sp : Nat → Bool} {hd : Bool} : ∀ (ts : List TypeId) (vs : List Value) (ds : List (DataW H)) (ps : List MemPlace),
      DataW.TrodAll enc P W b sp hd ts vs ds ps → ∀ x ∈ ps, x.block < W.heap.size
  | [], [], [], _, h, x, hx => by rw [show _ = [] from h] at hx; cases hx
  | t :: ts, v :: vs, d :: ds, ps, ⟨p, q, h1, h2, h3⟩, x, hx => by
    subst h3
    rcases List.mem_append.1 hx with hx | hx
    · obtain ⟨m, hm⟩ := h1; exact DataW.trod_lt m _ _ _ hm x hx
    · exact trodAll_lt ts vs ds q h2 x hx
  | [], _ :: _, _, _, h, _, _ => h.elim
  | [], [], _ :: _, _, h, _, _ => h.elim
  | _ :: _, [], _, _, h, _, _ => h.elim
  | _ :: _, _ :: _, [], _, h, _, _ => h.elim
theorem trodAll_len {W : World} {b : Nat} {sp : Nat → Bool} {hd : Bool} : ∀ (ts : List TypeId) (vs : List Value) (ds : List (DataW H)) (ps : List MemPlace),
      DataW.TrodAll enc P W b sp hd ts vs ds ps → ds.length = ts.length ∧ vs.length = ts.length
  | [], [], [], _, _ => ⟨rfl, rfl⟩
  | t :: ts, v :: vs, d :: ds, ps, ⟨p, q, h1, h2, h3⟩ => by
    have := trodAll_len ts vs ds q h2
    simp [this.1, this.2]
  | [], _ :: _, _, _, h => h.elim
  | [], [], _ :: _, _, h => h.elim
  | _ :: _, [], _, _, h => h.elim
  | _ :: _, _ :: _, [], _, h => h.elim
/-- A struct of one-cell fields, by value: its cells, each with its field's reading. -/
theorem open_agg_cells {W : World} {r : Reach} {b0 b : Nat} {sp : Nat → Bool} {hd : Bool} {t : TypeId} {fs : Array Field} {v : Value} {d : DataW H} {p : List MemPlace} (hs : P.underlying t = some (.struct fs)) (hC : P.cellsOf t = fs.size) (hone : Go.Deep.oneCellFields P fs = true)
    (hv : Value.okWide P W r b0 t v) (h : DataW.Trod enc P W b sp hd t v d p) :
    ∃ cs : List Value, v = .agg cs.toArray ∧ cs.length = fs.size ∧ ∀ (j : Nat) (f : Field), fs[j]? = some f → ∃ c y n, cs[j]? = some c ∧ DataW.trod enc P W b sp hd n f.type [c] = some y := by
  obtain ⟨cs, rfl, hsz⟩ := okWide_struct hs hv
  obtain ⟨l⟩ := cs
  refine ⟨l, rfl, by simpa using hsz.trans hC, fun j f hj => ?_⟩
  obtain ⟨fuel, hf⟩ := h
  obtain ⟨xs, n, _, _, _, hlen, hg⟩ := DataW.trod_struct hs hf
  obtain ⟨o0, k0⟩ := Go.Deep.hone_of hone j f hj
  have hjl : j < fs.size := (Array.getElem?_eq_some_iff.1 hj).1
  have hl : l.length = fs.size := by simpa using hsz.trans hC
  have h1 := hg j f hj
  rw [o0, k0] at h1
  have h2 : (l.drop j).take 1 = [l[j]'(by omega)] := by rw [List.drop_eq_getElem_cons (by omega)]; rfl
  simp only [Value.cells] at h1
  rw [h2] at h1
  have hx : xs[j]? = some (xs[j]'(by omega)) := List.getElem?_eq_getElem (by omega)
  exact ⟨l[j]'(by omega), _, n, List.getElem?_eq_getElem (by omega), h1.trans hx⟩
/-- All its fields are ints of one kind. -/
theorem open_agg_ints {W : World} {r : Reach} {b0 b : Nat} {sp : Nat → Bool} {hd : Bool} {t : TypeId} {fs : Array Field} {v : Value} {d : DataW H} {p : List MemPlace} {k : IntKind} (hs : P.underlying t = some (.struct fs)) (hC : P.cellsOf t = fs.size) (hone : Go.Deep.oneCellFields P fs = true)
    (hk : ∀ f ∈ fs.toList, P.underlying f.type = some (.int k))
    (hv : Value.okWide P W r b0 t v) (h : DataW.Trod enc P W b sp hd t v d p) :
    ∃ zs : List Int, v = .agg (zs.map (Value.int k)).toArray ∧ zs.length = fs.size ∧ ∀ z ∈ zs, (Lit.int k z).wf = true := by
  obtain ⟨cs, rfl, hlen, hc⟩ := open_agg_cells hs hC hone hv h
  have key : ∀ c ∈ cs, ∃ z, c = Value.int k z ∧ (Lit.int k z).wf = true := by
    intro c hcm
    obtain ⟨j, hj, rfl⟩ := List.mem_iff_getElem.1 hcm
    have hjf : fs[j]? = some (fs[j]'(by omega)) := Array.getElem?_eq_getElem (by omega)
    obtain ⟨c', y, n, hc', ht⟩ := hc j _ hjf
    rw [List.getElem?_eq_getElem hj] at hc'
    obtain rfl := Option.some.inj hc'
    obtain ⟨z, hz, _, hw⟩ := DataW.trod_int (hk _ (by simp)) ht
    exact ⟨z, by simpa using hz, hw⟩
  clear hc h hv
  revert hlen
  generalize fs.size = m
  intro hlen
  have : ∃ zs : List Int, cs = zs.map (Value.int k) ∧ ∀ z ∈ zs, (Lit.int k z).wf = true := by
    clear hlen
    induction cs with
    | nil => exact ⟨[], rfl, by simp⟩
    | cons c cs ih =>
      obtain ⟨z, rfl, hz⟩ := key c (by simp)
      obtain ⟨zs, rfl, hzs⟩ := ih (fun c hc => key c (by simp [hc]))
      exact ⟨z :: zs, rfl, by simpa using ⟨hz, hzs⟩⟩
  obtain ⟨zs, rfl, hzs⟩ := this
  exact ⟨zs, rfl, by simpa using hlen, hzs⟩
/-- THE LAW's STEP, at whatever law: the walk says 'true' and that nothing that was there has turned. -/
theorem law_post {fn : Func} {s : ChangeSpec} {tb : TypeId} (hl : laidOutB P = true) (hv : s.vars = []) (htb : P.underlying tb = some .bool) (hres : fn.resultTypes = #[tb])
    (hr : (fn.params.toList.all fun t => P.readableRec t && decide (t < P.types.size)) = true)
    (hs : ∀ ds : List (DataW H), ds.length = fn.params.size → s.fn H ds = { results := [.lit (.bool true)], args := ds })
    {W W' : World} {args : Array Value} {ds gs : List (DataW H)} {before : List MemPlace}
    (hW : DataW.Whole enc P fn.params.toList s.vars false W args.toList ds gs before) (hb : Below W.heap.size W W') :
    s.post enc P fn false true false false W args (.bool true) W' := by
  have hW' := hW
  obtain ⟨p, q, hA, hV, rfl, hfz, hnd⟩ := hW
  rw [hv] at hV
  obtain ⟨rfl, rfl⟩ := trodVars_none hV
  have hlen := (trodAll_len _ _ _ _ hA).1
  have hlt := trodAll_lt _ _ _ _ hA
  have e := hs ds (by simpa using hlen)
  refine ⟨ds, [], _, [], p, [], hW', ?_, ?_, ?_, hb.frame _, fun h => by cases h⟩
  · rw [List.append_nil, e, hres]
    exact trodAll_mk1 (shut_bool htb _)
  · rw [List.append_nil, e]
    exact trodAll_below hl hb _ _ _ _ hr hA hlt
  · rw [List.append_nil, e, hv]
    exact rfl
end
theorem law_lift {H : Type} {enc : TypeId × Value → H} {C : Checked} {os : Os} {f : FuncId} {fn : Func} {s : ChangeSpec} {tb : TypeId}
    (own : ownKnob C.prog.godebug = none) (started : os.Started) (noInit : C.prog.inits.idxOf? f = none) (hfn : C.prog.funcs[f]? = some fn)
    (hl : laidOutB C.prog = true) (hv : s.vars = []) (htb : C.prog.underlying tb = some .bool) (hres : fn.resultTypes = #[tb])
    (hr : (fn.params.toList.all fun t => C.prog.readableRec t && decide (t < C.prog.types.size)) = true)
    (hs : ∀ ds : List (DataW H), ds.length = fn.params.size → s.fn H ds = { results := [.lit (.bool true)], args := ds })
    (witness : ∃ (w : World) (tape : Tape) (i : Input), w.os = os ∧ (w.forCall tape i).Shaped C.prog ∧ i.vars = [] ∧ Input.okWide C.prog (w.forCall tape i) .any w.heap.size f i ∧
      s.pre6 enc C.prog fn [] false (w.forCall tape i).memory i.args ∧ Assume.holds {} C.prog (lone (Frame.enter C.prog f i.args .normal) [] (w.forCall tape i)))
    (walk : ∀ (W : World) (base : Nat) (args : Array Value) (ds : List (DataW H)) (ps : List MemPlace),
      (∀ (j : Nat) t v, fn.params[j]? = some t → args[j]? = some v → Value.okWide C.prog W .any base t v) →
      DataW.TrodAll enc C.prog W 0 (fun _ => true) true fn.params.toList args.toList ds ps →
      Calls C.prog f args W fun e w' => e = .returned (.bool true) ∧ Below W.heap.size W w') :
    ReturnsInHanded {} C os f .any (s.pre6 enc C.prog fn [] false) (s.post enc C.prog fn false true false false) := by
  refine returnsInHanded_of_change own started noInit hfn witness ?_
  intro W base args ds gs before hval hW _ _
  obtain ⟨p, q, hA, _⟩ := id hW
  refine (walk W base args ds p hval hA).mono fun e W' ⟨he, hb⟩ => ?_
  exact ⟨_, he, law_post hl hv htb hres hr hs hW hb⟩
end Go.Proofs.YtnmlmpffmjhihaaGreat
namespace Go.Proofs.YtnmlmpffmjhihaaGreat
open Go.ChangeShapes Go.WideShapes Go.ChangeAt Go.RowKit
/-- A slice of integers that came in: its elements zs; it lies in a block that was there, or is empty. -/
def IsInts (k : IntKind) (w : World) (a : Option Addr) (len cap : Nat) (zs : List Int) : Prop :=
  zs.length = len ∧ len ≤ cap ∧ cap ≤ maxLen ∧ (∀ z ∈ zs, (Lit.int k z).wf = true) ∧
  (len = 0 ∨ ∃ b off, a = some ⟨b, off, none⟩ ∧ b < w.heap.size ∧ ∀ i (h : i < zs.length), w.cell? ⟨b, off + i, none⟩ = some (.int k zs[i]))
theorem open_intsl {H : Type} {enc : TypeId × Value → H} {P : Program} {W : World} {b : Nat} {sp : Nat → Bool} {hd : Bool} {t e : TypeId} {k : IntKind} {a : Option Addr} {len cap : Nat} {d : DataW H} {p : List MemPlace}
    (ht : P.underlying t = some (.slice e)) (he : P.underlying e = some (.int k)) (hc : P.cellsOf e = 1) (h : DataW.Trod enc P W b sp hd t (.slice a len cap) d p) : ∃ zs, IsInts k W a len cap zs := by
  obtain ⟨fuel, hf⟩ := h
  rcases open_ints ht he hc hf with ⟨hcs, _⟩ | ⟨x, l, c, zs, hcs, _, hl, hm, hz, _, hcell, hwz⟩
  · simp [Value.cells] at hcs
    obtain ⟨rfl, rfl, rfl⟩ := hcs
    exact ⟨[], rfl, Nat.le_refl _, by simp, by simp, .inl rfl⟩
  · simp [Value.cells] at hcs
    obtain ⟨rfl, rfl, rfl⟩ := hcs
    have hlz : len ≤ zs.length := by
      rw [hz]
      split <;> omega
    refine ⟨zs.take len, by simp; omega, hl, hm, fun z hzm => hwz z (List.mem_of_mem_take hzm), ?_⟩
    by_cases h0 : len = 0
    · exact .inl h0
    · obtain ⟨bb, off, spot⟩ := x
      have h1 := hcell 0 (by omega)
      have hspot : spot = none := by simpa [Addr.add] using World.cell?_spot h1
      subst hspot
      refine .inr ⟨bb, off, rfl, ?_, fun i hi => ?_⟩
      · have := World.block_lt_of_cell? W _ h1
        simpa [Addr.add] using this
      · have hi' : i < zs.length := by simp at hi; omega
        have h2 := hcell i hi'
        have e : (⟨bb, off, none⟩ : Addr).add i = ⟨bb, off + i, none⟩ := by unfold Addr.add; split <;> simp_all
        rw [e] at h2
        rw [h2]
        simp [List.getD_eq_getElem?_getD, List.getElem?_eq_getElem hi']
theorem IsInts.i64 {w : World} {a : Option Addr} {len cap : Nat} {zs : List Int} (h : IsInts .i64 w a len cap zs) : ∀ z ∈ zs, -9223372036854775808 ≤ z ∧ z ≤ 9223372036854775807 := fun z hz => by
  have := h.2.2.2.1 z hz
  simpa [Lit.wf, IntKind.min, IntKind.max, IntKind.signed, IntKind.bits] using this
end Go.Proofs.YtnmlmpffmjhihaaGreat
namespace Go.Proofs.YtnmlmpffmjhihaaGreat
open Go.ChangeShapes Go.WideShapes Go.ChangeAt Go.RowKit
theorem okWide_arr {P : Program} {w : World} {r : Reach} {base : Nat} {t e : TypeId} {n : Nat} {v : Value} (ht : P.underlying t = some (.array n e)) (h : Value.okWide P w r base t v) : ∃ cs, v = .agg cs ∧ cs.size = P.cellsOf t := by
  simp only [Value.okWide, ht] at h
  obtain ⟨cs, h1, h2, _⟩ := h
  exact ⟨cs, h1, h2⟩
theorem all_ints {k : IntKind} : ∀ l : List Value, (∀ c ∈ l, ∃ z, c = Value.int k z ∧ (Lit.int k z).wf = true) → ∃ zs : List Int, l = zs.map (Value.int k) ∧ ∀ z ∈ zs, (Lit.int k z).wf = true
  | [], _ => ⟨[], rfl, by simp⟩
  | c :: cs, key => by
    obtain ⟨z, rfl, hz⟩ := key c (by simp)
    obtain ⟨zs, rfl, hzs⟩ := all_ints cs (fun c hc => key c (by simp [hc]))
    exact ⟨z :: zs, rfl, by simpa using ⟨hz, hzs⟩⟩
theorem open_arr_ints {H : Type} {enc : TypeId × Value → H} {P : Program} {W : World} {r : Reach} {b0 b : Nat} {sp : Nat → Bool} {hd : Bool} {t e : TypeId} {n : Nat} {v : Value} {d : DataW H} {p : List MemPlace} {k : IntKind}
    (ht : P.underlying t = some (.array n e)) (hC : P.cellsOf t = n) (he : P.cellsOf e = 1) (hk : P.underlying e = some (.int k)) (hv : Value.okWide P W r b0 t v) (h : DataW.Trod enc P W b sp hd t v d p) :
    ∃ zs : List Int, v = .agg (zs.map (Value.int k)).toArray ∧ zs.length = n ∧ ∀ z ∈ zs, (Lit.int k z).wf = true := by
  obtain ⟨cs, rfl, hsz⟩ := okWide_arr ht hv
  obtain ⟨l⟩ := cs
  have hl : l.length = n := by simpa using hsz.trans hC
  obtain ⟨fuel, hf⟩ := h
  obtain ⟨xs, m, _, _, _, hlen, hg⟩ := DataW.trod_array ht hf
  have key : ∀ c ∈ l, ∃ z, c = Value.int k z ∧ (Lit.int k z).wf = true := by
    intro c hcm
    obtain ⟨j, hj, rfl⟩ := List.mem_iff_getElem.1 hcm
    have h1 := hg j (by omega)
    rw [he] at h1
    have h2 : (l.drop (j * 1)).take 1 = [l[j]] := by rw [Nat.mul_one, List.drop_eq_getElem_cons hj]; rfl
    simp only [Value.cells] at h1
    rw [h2] at h1
    have hx : xs[j]? = some (xs[j]'(by omega)) := List.getElem?_eq_getElem (by omega)
    obtain ⟨z, hz, _, hw⟩ := DataW.trod_int hk (h1.trans hx)
    exact ⟨z, by simpa using hz, hw⟩
  obtain ⟨zs, rfl, hzs⟩ := all_ints l key
  exact ⟨zs, rfl, by simpa using hl, hzs⟩
theorem list2 {α : Type} {l : List α} (h : l.length = 2) : ∃ a b, l = [a, b] := by
  match l, h with
  | [a, b], _ => exact ⟨a, b, rfl⟩
theorem list5 {α : Type} {l : List α} (h : l.length = 5) : ∃ a b c d e, l = [a, b, c, d, e] := by
  match l, h with
  | [a, b, c, d, e], _ => exact ⟨a, b, c, d, e, rfl⟩
theorem wf_i64 {z : Int} (h : (Lit.int .i64 z).wf = true) : -9223372036854775808 ≤ z ∧ z ≤ 9223372036854775807 := by
  simpa [Lit.wf, IntKind.min, IntKind.max, IntKind.signed, IntKind.bits] using h
theorem wf_u16 {z : Int} (h : (Lit.int .u16 z).wf = true) : 0 ≤ z ∧ z ≤ 65535 := by
  simpa [Lit.wf, IntKind.min, IntKind.max, IntKind.signed, IntKind.bits] using h
end Go.Proofs.YtnmlmpffmjhihaaGreat
namespace Go.Proofs.YtnmlmpffmjhihaaGreat
open Go.ChangeShapes Go.WideShapes Go.ChangeAt Go.RowKit
/-- What one cell is. -/
inductive CK where
  | int (k : IntKind)
  | bool
  | str
  | sl (t : TypeId)
def ckSize (ks : List CK) : Nat := ks.length
def flatFields (P : Program) (rec : TypeId → Option (List CK)) : List Field → List CK → Option (List CK)
  | [], acc => some acc
  | f :: fs, acc => if f.offset = acc.length then
      match rec f.type with
      | some ks => if ks.length = P.cellsOf f.type then flatFields P rec fs (acc ++ ks) else none
      | none => none
    else none
def flatK (P : Program) : Nat → TypeId → Option (List CK)
  | 0, _ => none
  | n + 1, t => match P.underlying t with
    | some (.int k) => some [.int k]
    | some .bool => some [.bool]
    | some .string => some [.str]
    | some (.slice _) => some [.sl t]
    | some (.struct fs) => match flatFields P (flatK P n) fs.toList [] with
      | some ks => if ks.length = P.cellsOf t then some ks else none
      | none => none
    | some (.array m e) => match flatK P n e with
      | some ks => if ks.length = P.cellsOf e ∧ m * ks.length = P.cellsOf t then some (List.replicate m ks).flatten else none
      | none => none
    | _ => none
section
variable {H : Type} (enc : TypeId × Value → H) (P : Program) (w : World) (b : Nat) (sp : Nat → Bool) (hd : Bool)
def okC : CK → Value → Prop
  | .int k, c => ∃ z, c = .int k z ∧ (Lit.int k z).wf = true
  | .bool, c => ∃ z, c = .bool z
  | .str, c => ∃ l : List UInt8, c = Str l ∧ l.length ≤ 9223372036854775807
  | .sl t, c => ∃ a len cap d p, c = .slice a len cap ∧ DataW.Trod enc P w b sp hd t (.slice a len cap) d p
def Fits : List CK → List Value → Prop
  | [], cs => cs = []
  | k :: ks, cs => ∃ c cs', cs = c :: cs' ∧ okC enc P w b sp hd k c ∧ Fits ks cs'
end
section
variable {H : Type} {enc : TypeId × Value → H} {P : Program} {w : World} {b : Nat} {sp : Nat → Bool} {hd : Bool}
theorem Fits.append : ∀ {ks ls : List CK} {cs ds : List Value}, Fits enc P w b sp hd ks cs → Fits enc P w b sp hd ls ds → Fits enc P w b sp hd (ks ++ ls) (cs ++ ds)
  | [], _, _, _, h, h' => by cases h; exact h'
  | _ :: _, _, _, _, ⟨c, cs', e, h1, h2⟩, h' => by subst e; exact ⟨c, _, rfl, h1, Fits.append h2 h'⟩
theorem Fits.length : ∀ {ks : List CK} {cs : List Value}, Fits enc P w b sp hd ks cs → cs.length = ks.length
  | [], _, h => by cases h; rfl
  | _ :: _, _, ⟨c, cs', e, _, h2⟩ => by subst e; simp [Fits.length h2]
theorem flatFields_fits {n m : Nat} {cs : List Value}
    (ih : ∀ (m : Nat) (t : TypeId) (ks : List CK) (cs : List Value) (x : DataW H × List MemPlace), flatK P n t = some ks → DataW.trod enc P w b sp hd m t cs = some x → Fits enc P w b sp hd ks cs) :
    ∀ (fs : List Field) (acc ks : List CK), flatFields P (flatK P n) fs acc = some ks →
      (∀ f ∈ fs, ∃ x, DataW.trod enc P w b sp hd m f.type ((cs.drop f.offset).take (P.cellsOf f.type)) = some x) →
      Fits enc P w b sp hd acc (cs.take acc.length) → Fits enc P w b sp hd ks (cs.take ks.length)
  | [], acc, ks, h, _, hf => by cases h; exact hf
  | f :: fs, acc, ks, h, hx, hf => by
    unfold flatFields at h
    split at h
    · rename_i ho
      split at h
      · rename_i ls hl
        split at h
        · rename_i hc
          refine flatFields_fits ih fs _ _ h (fun g hg => hx g (by simp [hg])) ?_
          obtain ⟨x, hx0⟩ := hx f (by simp)
          have h1 := ih m f.type ls _ x hl hx0
          rw [ho, ← hc] at h1
          have := hf.append h1
          rwa [← List.take_add, ← List.length_append] at this
        · cases h
      · cases h
    · cases h
theorem fits_rep {ks : List CK} {cs : List Value} : ∀ (m o : Nat), (∀ i, i < m → Fits enc P w b sp hd ks ((cs.drop (o + i * ks.length)).take ks.length)) →
    Fits enc P w b sp hd (List.replicate m ks).flatten ((cs.drop o).take (m * ks.length))
  | 0, o, _ => by simp [Fits]
  | m + 1, o, h => by
    have h0 := h 0 (by omega)
    rw [Nat.zero_mul, Nat.add_zero] at h0
    have h1 := fits_rep m (o + ks.length) (fun i hi => by
      have := h (i + 1) (by omega)
      rw [Nat.succ_mul] at this
      rwa [show o + ks.length + i * ks.length = o + (i * ks.length + ks.length) by omega])
    have := h0.append h1
    rw [List.replicate_succ, List.flatten_cons, Nat.succ_mul, Nat.add_comm (m * ks.length), List.take_add, List.drop_drop]
    exact this
theorem flat_fits : ∀ (n m : Nat) (t : TypeId) (ks : List CK) (cs : List Value) (x : DataW H × List MemPlace), flatK P n t = some ks → DataW.trod enc P w b sp hd m t cs = some x → Fits enc P w b sp hd ks cs
  | 0, _, _, _, _, _, h, _ => by cases h
  | n + 1, m, t, ks, cs, x, h, hx => by
    unfold flatK at h
    split at h
    · rename_i k ht
      obtain rfl := Option.some.inj h
      obtain ⟨z, rfl, _, hw⟩ := DataW.trod_int ht hx
      exact ⟨_, [], rfl, ⟨z, rfl, hw⟩, rfl⟩
    · rename_i ht
      obtain rfl := Option.some.inj h
      obtain ⟨z, rfl, _⟩ := DataW.trod_bool ht hx
      exact ⟨_, [], rfl, ⟨z, rfl⟩, rfl⟩
    · rename_i ht
      obtain rfl := Option.some.inj h
      obtain ⟨z, rfl, _, hl⟩ := DataW.trod_string ht hx
      obtain ⟨l, rfl⟩ := str_list z
      exact ⟨_, [], rfl, ⟨l, rfl, str_len hl⟩, rfl⟩
    · rename_i e ht
      obtain rfl := Option.some.inj h
      rcases DataW.trod_slice ht hx with ⟨rfl, _⟩ | ⟨a, len, cap, _, _, _, _, rfl, _⟩
      · exact ⟨_, [], rfl, ⟨none, 0, 0, _, _, rfl, m, hx⟩, rfl⟩
      · exact ⟨_, [], rfl, ⟨_, _, _, _, _, rfl, m, hx⟩, rfl⟩
    · rename_i fs ht
      split at h
      · rename_i ls hl
        split at h
        · rename_i hc
          obtain rfl := Option.some.inj h
          obtain ⟨xs, m', _, _, hlen, hxs, hg⟩ := DataW.trod_struct ht hx
          have := flatFields_fits (m := m') (cs := cs) (fun m t ks cs x h hx => flat_fits n m t ks cs x h hx) fs.toList [] ls hl (fun f hf => by
            obtain ⟨i, hi, rfl⟩ := List.mem_iff_getElem.1 hf
            have hi' : i < fs.size := by simpa using hi
            have h1 := hg i _ (Array.getElem?_eq_getElem hi')
            rw [List.getElem?_eq_getElem (by omega)] at h1
            exact ⟨_, h1⟩) (by simp [Fits])
          rwa [List.take_of_length_le (by omega)] at this
        · cases h
      · cases h
    · rename_i k e ht
      split at h
      · rename_i ls hl
        split at h
        · rename_i hc
          obtain rfl := Option.some.inj h
          obtain ⟨xs, m', _, _, hlen, hxs, hg⟩ := DataW.trod_array ht hx
          have := fits_rep (enc := enc) (P := P) (w := w) (b := b) (sp := sp) (hd := hd) (ks := ls) (cs := cs) k 0 (fun i hi => by
            have h1 := hg i hi
            rw [List.getElem?_eq_getElem (by omega), ← hc.1] at h1
            rw [Nat.zero_add]
            exact flat_fits n m' e ls _ _ hl h1)
          rw [List.drop_zero, List.take_of_length_le (by omega)] at this
          exact this
        · cases h
      · cases h
    · cases h
/-- A slice that came in: each element's cells; they lie in a block that was there. -/
theorem open_cells {t e : TypeId} {a : Option Addr} {len cap : Nat} {d : DataW H} {p : List MemPlace} (ht : P.underlying t = some (.slice e)) (hpos : 0 < P.cellsOf e) (h : DataW.Trod enc P w b sp hd t (.slice a len cap) d p) :
    len ≤ cap ∧ cap ≤ maxLen ∧ (len = 0 ∨ ∃ g off, a = some ⟨g, off, none⟩ ∧ g < w.heap.size) ∧
    ∀ i, i < len → ∃ g off, a = some ⟨g, off, none⟩ ∧ ∃ cs m x, cs.length = P.cellsOf e ∧ (∀ j, j < P.cellsOf e → w.cell? ⟨g, off + i * P.cellsOf e + j, none⟩ = cs[j]?) ∧ DataW.trod enc P w b sp hd m e cs = some x := by
  obtain ⟨fuel, hf⟩ := h
  rcases Go.Deep.open_slice ht hf with ⟨hcs, _⟩ | ⟨x, l, c, m, n, D, Pl, hcs, _, hl, hm, hmm, _, hall⟩
  · simp [Value.cells] at hcs
    obtain ⟨rfl, rfl, rfl⟩ := hcs
    exact ⟨Nat.le_refl _, by simp, .inl rfl, fun i hi => by omega⟩
  · simp [Value.cells] at hcs
    obtain ⟨rfl, rfl, rfl⟩ := hcs
    have hlm : len ≤ m := by rw [hmm]; split <;> omega
    obtain ⟨g, off, spot⟩ := x
    have hsp : 0 < len → spot = none ∧ g < w.heap.size := fun hp => by
      obtain ⟨cs', h1, h2⟩ := hall 0 (by omega)
      obtain ⟨_, hcl, hat⟩ := World.cells?_some h1
      have h3 := hat 0 (by omega)
      rw [List.getElem?_eq_getElem (by omega)] at h3
      have h4 := World.cell?_spot h3
      have h5 := World.block_lt_of_cell? _ _ h3
      simp [Addr.add] at h4 h5
      exact ⟨h4, h5⟩
    refine ⟨hl, hm, ?_, fun i hi => ?_⟩
    · by_cases h0 : len = 0
      · exact .inl h0
      · obtain ⟨rfl, h2⟩ := hsp (by omega)
        exact .inr ⟨g, off, rfl, h2⟩
    · obtain ⟨rfl, h2⟩ := hsp (by omega)
      refine ⟨g, off, rfl, ?_⟩
      obtain ⟨cs', h1, h2⟩ := hall i (by omega)
      obtain ⟨_, hcl, hat⟩ := World.cells?_some h1
      refine ⟨cs', n, _, hcl, fun j hj => ?_, h2⟩
      rw [← hat j hj, Go.Deep.add_add]
      congr 1
      unfold Addr.add
      split <;> simp_all <;> omega
/-- A slice of things ds of a type of 'size' cells. -/
def IsRows {α : Type} (size : Nat) (encd : α → List Value) (w : World) (a : Option Addr) (len cap : Nat) (ds : List α) : Prop :=
  ds.length = len ∧ len ≤ cap ∧ cap ≤ maxLen ∧
  (len = 0 ∨ ∃ g off, a = some ⟨g, off, none⟩ ∧ g < w.heap.size ∧ ∀ i (h : i < ds.length) j, j < size → w.cell? ⟨g, off + i * size + j, none⟩ = (encd ds[i])[j]?)
theorem list_of_lt {α : Type} {p : Nat → α → Prop} : ∀ n, (∀ i, i < n → ∃ x, p i x) → ∃ l : List α, l.length = n ∧ ∀ i (h : i < l.length), p i l[i]
  | 0, _ => ⟨[], rfl, fun i h => absurd h (Nat.not_lt_zero _)⟩
  | n + 1, h => by
    obtain ⟨l, hl, hp⟩ := list_of_lt n (fun i hi => h i (by omega))
    obtain ⟨x, hx⟩ := h n (by omega)
    refine ⟨l ++ [x], by simp [hl], fun i hi => ?_⟩
    by_cases hin : i < l.length
    · rw [List.getElem_append_left hin]; exact hp i hin
    · have : i = n := by simp at hi; omega
      subst this
      rw [List.getElem_append_right (by omega)]
      simpa using hx
theorem open_rows {α : Type} {t e : TypeId} {a : Option Addr} {len cap : Nat} {d : DataW H} {p : List MemPlace} (size : Nat) (encd : α → List Value) (good : α → Prop) (ht : P.underlying t = some (.slice e)) (hs : P.cellsOf e = size) (hpos : 0 < size)
    (h : DataW.Trod enc P w b sp hd t (.slice a len cap) d p) (hone : ∀ cs m x, DataW.trod enc P w b sp hd m e cs = some x → ∃ r : α, cs = encd r ∧ good r) : ∃ ds : List α, IsRows size encd w a len cap ds ∧ ∀ r ∈ ds, good r := by
  subst hs
  obtain ⟨h1, h2, h3, h4⟩ := open_cells ht hpos h
  by_cases h0 : len = 0
  · subst h0
    exact ⟨[], ⟨rfl, h1, h2, .inl rfl⟩, by simp⟩
  · obtain ⟨g, off, rfl, hg⟩ := h3.resolve_left h0
    have : ∀ i, i < len → ∃ r : α, (∀ j, j < P.cellsOf e → w.cell? ⟨g, off + i * P.cellsOf e + j, none⟩ = (encd r)[j]?) ∧ good r := fun i hi => by
      obtain ⟨g', off', e', cs, m, x, _, hat, hx⟩ := h4 i hi
      cases e'
      obtain ⟨r, rfl, hr⟩ := hone cs m x hx
      exact ⟨r, hat, hr⟩
    obtain ⟨ds, hlen, hds⟩ := list_of_lt len this
    refine ⟨ds, ⟨hlen, h1, h2, .inr ⟨g, off, rfl, hg, fun i hi j hj => (hds i hi).1 j hj⟩⟩, fun r hr => ?_⟩
    obtain ⟨i, hi, rfl⟩ := List.mem_iff_getElem.1 hr
    exact (hds i hi).2
end
theorem IsRows.below {α : Type} {size : Nat} {encd : α → List Value} {w w' : World} {a : Option Addr} {len cap : Nat} {ds : List α} (h : IsRows size encd w a len cap ds) (hb : Below w.heap.size w w') : IsRows size encd w' a len cap ds := by
  obtain ⟨h1, h2, h3, h4⟩ := h
  refine ⟨h1, h2, h3, h4.imp id ?_⟩
  rintro ⟨g, off, ha, hg, hc⟩
  exact ⟨g, off, ha, Nat.lt_of_lt_of_le hg hb.size, fun i hi j hj => (hb.cell (p := ⟨g, _, none⟩) hg).trans (hc i hi j hj)⟩
theorem wf_u32 {z : Int} (h : (Lit.int .u32 z).wf = true) : 0 ≤ z ∧ z ≤ 4294967295 := by
  simpa [Lit.wf, IntKind.min, IntKind.max, IntKind.signed, IntKind.bits] using h
theorem wf_u8 {z : Int} (h : (Lit.int .u8 z).wf = true) : 0 ≤ z ∧ z ≤ 255 := by
  simpa [Lit.wf, IntKind.min, IntKind.max, IntKind.signed, IntKind.bits] using h
end Go.Proofs.YtnmlmpffmjhihaaGreat
namespace Go.Proofs.YtnmlmpffmjhihaaGreat
open Go.RowKit
/-- v is nil, or lies in block g >= base from some offset on; its n elements are the cells xs; nothing of the block is frozen. -/
def Seg (w : World) (base : Nat) (e : TypeId) (size : Nat) (v : Value) (n : Nat) (xs : List Value) : Prop :=
  xs.length = n * size ∧
  ((v = .slice none 0 0 ∧ n = 0) ∨
   ∃ g off cap cur, v = .slice (some ⟨g, off, none⟩) n cap ∧ base ≤ g ∧ w.heap[g]? = some (.cells cur e (0, 0)) ∧ n ≤ cap ∧ cap ≤ maxLen ∧ off + cap * size ≤ cur.size ∧ (cur.toList.drop off).take (n * size) = xs)
section
variable {w : World} {base : Nat} {e : TypeId} {size : Nat} {v : Value} {n : Nat} {xs : List Value}
theorem Seg.nil (w : World) (base : Nat) (e : TypeId) (size : Nat) : Seg w base e size (.slice none 0 0) 0 [] := ⟨by simp, .inl ⟨rfl, rfl⟩⟩
theorem Seg.form (h : Seg w base e size v n xs) : ∃ a cap, v = .slice a n cap := by
  rcases h.2 with ⟨h0, h1⟩ | ⟨g, off, cap, _, hv, _⟩
  · exact ⟨none, 0, by rw [h0, h1]⟩
  · exact ⟨_, cap, hv⟩
theorem Seg.le (h : Seg w base e size v n xs) {base' : Nat} (hb : base' ≤ base) : Seg w base' e size v n xs :=
  ⟨h.1, h.2.imp id (fun ⟨g, off, cap, cur, hv, hg, r⟩ => ⟨g, off, cap, cur, hv, Nat.le_trans hb hg, r⟩)⟩
theorem Seg.max (h : Seg w base e size v n xs) : n ≤ maxLen := by
  rcases h.2 with ⟨_, h1⟩ | ⟨g, off, cap, _, _, _, _, h1, h2, _⟩
  · omega
  · omega
theorem Seg.blk (h : Seg w base e size v n xs) : ∀ g, v.ownBlock = some g → base ≤ g ∧ g < w.heap.size := fun g hg => by
  rcases h.2 with ⟨hv, _⟩ | ⟨g', off, cap, cur, hv, hb, hh, _⟩
  · rw [hv] at hg; cases hg
  · rw [hv] at hg
    obtain rfl : g' = g := by simpa [Value.ownBlock] using hg
    exact ⟨hb, (Array.getElem?_eq_some_iff.1 hh).1⟩
theorem Seg.same {w' : World} (h : Seg w base e size v n xs) (hs : ∀ g, v.ownBlock = some g → w'.heap[g]? = w.heap[g]?) : Seg w' base e size v n xs := by
  obtain ⟨h1, h2⟩ := h
  refine ⟨h1, h2.imp id ?_⟩
  rintro ⟨g, off, cap, cur, hv, hg, hh, r⟩
  exact ⟨g, off, cap, cur, hv, hg, by rw [hs g (by rw [hv]; rfl)]; exact hh, r⟩
theorem Seg.only {S : List Nat} {w' : World} (h : Seg w base e size v n xs) (ho : Only S w w') (hn : ∀ g, v.ownBlock = some g → g ∉ S) : Seg w' base e size v n xs :=
  h.same (fun g hg => ho.block g (h.blk g hg).2 (hn g hg))
theorem Seg.chain {w' : World} (h : Seg w base e size v n xs) (hb : Below w.heap.size w w') : Seg w' base e size v n xs :=
  h.same (fun g hg => hb.block g (h.blk g hg).2)
theorem Seg.alloc (h : Seg w base e size v n xs) (o : Obj) : Seg (w.alloc o) base e size v n xs := h.chain (Below.chainAlloc (Below.refl _ _) o)
theorem Seg.drew (h : Seg w base e size v n xs) : Seg w.drew base e size v n xs := h
theorem Seg.setOther (h : Seg w base e size v n xs) (p : Addr) (u : Value) (hn : ∀ g, v.ownBlock = some g → g ≠ p.block) : Seg (w.setCell p u) base e size v n xs :=
  h.same (fun g hg => Below.heap_setCell _ _ _ _ (hn g hg))
/-- Where its elements lie. -/
theorem Seg.at {g off cap : Nat} (h : Seg w base e size (.slice (some ⟨g, off, none⟩) n cap) n xs) (j : Nat) (hj : j < n * size) : w.cell? ⟨g, off + j, none⟩ = xs[j]? := by
  rcases h.2 with ⟨h0, _⟩ | ⟨g', off', cap', cur, hv, hg, hh, hn, hc, hs, ht⟩
  · cases h0
  · cases hv
    unfold World.cell?
    rw [hh, ← ht]
    simp only [Option.isSome_none, Bool.false_eq_true, if_false]
    rw [List.getElem?_take, if_pos hj, List.getElem?_drop]
    simp
/-- It has an element: so it is no nil. -/
theorem Seg.shape (h : Seg w base e size v n xs) (hn : 0 < n) : ∃ g off cap, v = .slice (some ⟨g, off, none⟩) n cap ∧ base ≤ g ∧ g < w.heap.size ∧ n ≤ cap ∧ cap ≤ maxLen := by
  rcases h.2 with ⟨_, h1⟩ | ⟨g, off, cap, cur, hv, hg, hh, h1, h2, _⟩
  · omega
  · exact ⟨g, off, cap, hv, hg, (Array.getElem?_eq_some_iff.1 hh).1, h1, h2⟩
/-- 'q[1:]'. -/
theorem Seg.tail {g off cap : Nat} (h : Seg w base e size (.slice (some ⟨g, off, none⟩) (n + 1) cap) (n + 1) xs) (off' : Nat) (ho : off' = off + size ∨ cap = 1 ∧ off' = off) :
    Seg w base e size (.slice (some ⟨g, off', none⟩) n (cap - 1)) n (xs.drop size) := by
  obtain ⟨h1, h2⟩ := h
  rcases h2 with ⟨h0, _⟩ | ⟨g', off2, cap', cur, hv, hg, hh, hn, hc, hs, ht⟩
  · cases h0
  · cases hv
    have hcap : cap = cap - 1 + 1 := by omega
    refine ⟨by rw [List.length_drop, h1, Nat.succ_mul]; omega, .inr ⟨g, off', cap - 1, cur, rfl, hg, hh, by omega, by omega, ?_, ?_⟩⟩
    · rw [hcap, Nat.succ_mul] at hs
      rcases ho with rfl | ⟨h, rfl⟩ <;> omega
    · rcases ho with rfl | ⟨h, rfl⟩
      · rw [← ht, List.drop_take, List.drop_drop]
        congr 1
        rw [Nat.succ_mul]; omega
      · have : n = 0 := by omega
        subst this
        have hx : xs.drop size = [] := List.drop_of_length_le (by omega)
        rw [hx]
        simp
end
section
variable {P : Program} (w : World)
theorem run_append_room_at (t ty e : TypeId) (i : TypeInfo) (ht : P.underlying t = some (.slice e)) (hi : P.info? e = some i)
    (g off sLen sCap : Nat) (cur : Array Value) (hg : w.heap[g]? = some (.cells cur e (0, 0)))
    (a : Addr) (m c : Nat) (news : List Value) (hl : news.length = m * i.size) (hnews : ∀ j u, news[j]? = some u → w.cell? (a.add j) = some u) (h1 : ∀ u ∈ news, u.oneCell' = true)
    (hroom : sLen + m ≤ sCap) (hfit : off + sLen * i.size + news.length ≤ cur.size) :
    (Builtin.append_ #[t, t] ty #[.slice (some ⟨g, off, none⟩) sLen sCap, .slice (some a) m c]).run P w =
      .ok (.slice (some ⟨g, off, none⟩) (sLen + m) sCap) (w.setRow g (cur.toList.take (off + sLen * i.size) ++ news ++ cur.toList.drop (off + sLen * i.size + news.length)).toArray) := by
  have hf := run_firstCells_some (P := P) w i.size m a m c news hl hnews
  have hst := run_storeCells_at P g (off + sLen * i.size) e news 0 cur w hg (by simpa using hfit) h1
  simp only [Nat.add_zero] at hst
  simp [Builtin.append_, run_underlying ht, sizeOf, typeInfo, hi, Builtin.lenOf, hroom, hf, Addr.add_lit, hst]
theorem run_append_seg (base : Nat) (t ty e : TypeId) (i : TypeInfo) (z : Value) (size bytes : Nat) (ht : P.underlying t = some (.slice e)) (hi : P.info? e = some i) (hz : i.zero = some z)
    (hsize : i.size = size) (hby : i.bytes = bytes) (hzs : z.cells.size = size) (hsz : 0 < size)
    (v : Value) (n : Nat) (xs : List Value) (hown : Seg w base e size v n xs)
    (a : Addr) (m c : Nat) (news : List Value) (hl : news.length = m * size) (hnews : ∀ j u, news[j]? = some u → w.cell? (a.add j) = some u) (h1 : ∀ u ∈ news, u.oneCell' = true)
    (hm : 0 < m) (h63 : n + m ≤ maxLen) (hbytes : (n + m) * bytes ≤ 140737488355328) (hbase : base ≤ w.heap.size) :
    ∃ g off cap w', (Builtin.append_ #[t, t] ty #[v, .slice (some a) m c]).run P w = .ok (.slice (some ⟨g, off, none⟩) (n + m) cap) w' ∧ Seg w' base e size (.slice (some ⟨g, off, none⟩) (n + m) cap) (n + m) (xs ++ news) ∧
      w.grownBy w' v.ownBlock ∧ (v.ownBlock = some g ∨ g = w.heap.size) := by
  subst hsize
  subst hby
  have hsmall : n + m ≤ 9223372036854775807 := by simp only [maxLen] at h63; omega
  have hlen : (xs ++ news).length = (n + m) * i.size := by rw [List.length_append, hown.1, hl, Nat.add_mul]
  have grown : ∀ (old : Nat), ∀ (row : Option Nat),
      Seg (w.drew.alloc (.cells (xs.toArray ++ news.toArray ++ Builtin.zeroCells z.cells (grownCap w (n + m) old e - (n + m))) e)) base e i.size
        (.slice (some ⟨w.heap.size, 0, none⟩) (n + m) (grownCap w (n + m) old e)) (n + m) (xs ++ news) ∧
      w.grownBy (w.drew.alloc (.cells (xs.toArray ++ news.toArray ++ Builtin.zeroCells z.cells (grownCap w (n + m) old e - (n + m))) e)) row := by
    intro old row
    have hge := grownCap_ge w (n + m) old e
    have hcm : grownCap w (n + m) old e ≤ maxLen := grownCap_le_maxLen w (n + m) old e h63
    refine ⟨⟨hlen, .inr ⟨w.heap.size, 0, _, _, rfl, hbase, heap_alloc_new w.drew _, hge, hcm, ?_, ?_⟩⟩, ⟨rfl, rfl, rfl, by simp, fun k hk _ => Below.heap_alloc w.drew _ k hk⟩⟩
    · simp only [Array.size_append, List.size_toArray, size_zeroCells, hzs, hown.1, hl, ← Nat.add_mul]
      rw [Nat.zero_add]
      exact Nat.mul_le_mul_right _ (by omega)
    · simp only [Array.toList_append, List.append_assoc, List.drop_zero]
      rw [← List.append_assoc, ← hlen]
      exact List.take_left
  rcases hown.2 with ⟨rfl, rfl⟩ | ⟨g, off, cap, cur, rfl, hbg, hg, hnc, hcm, hcs, htake⟩
  · have hx : xs = [] := List.eq_nil_of_length_eq_zero (by simpa using hown.1)
    subst hx
    have hr := run_append_nil (P := P) w t ty e i z ht hi hz a m c news hl hnews (by omega) (by omega) (by have hb := hbytes; simp only [Nat.zero_add] at hb; omega)
    have hgr := grown 0 (Value.ownBlock (.slice none 0 0))
    simp only [Nat.zero_add, List.nil_append, Array.empty_append] at hgr ⊢
    exact ⟨_, _, _, _, hr, hgr.1, hgr.2, .inr rfl⟩
  · by_cases hroom : n + m ≤ cap
    · have hfit : off + n * i.size + news.length ≤ cur.size := by
        have := Nat.mul_le_mul_right i.size hroom
        rw [Nat.add_mul] at this
        omega
      have hr := run_append_room_at (P := P) w t ty e i ht hi g off n cap cur hg a m c news hl hnews h1 hroom hfit
      refine ⟨_, _, _, _, hr, ⟨hlen, .inr ⟨g, off, cap, _, rfl, hbg, setRow_heap w g cur _ e _ hg, hroom, hcm, ?_, ?_⟩⟩, ⟨rfl, rfl, rfl, by simp, fun k _ hk => setRow_other w g k _ (fun e => hk (by simp [Value.ownBlock, e]))⟩, .inl rfl⟩
      · simp only [List.size_toArray, List.length_append, List.length_take, List.length_drop, Array.length_toList]
        omega
      · have hd : (cur.toList.take (off + n * i.size)).drop off = xs := by rw [List.drop_take, Nat.add_sub_cancel_left, htake]
        simp only [List.append_assoc]
        rw [List.drop_append_of_le_length (by simp; omega), hd, ← List.append_assoc, ← hlen]
        exact List.take_left
    · have holds : ∀ j u, xs[j]? = some u → w.cell? ((⟨g, off, none⟩ : Addr).add j) = some u := fun j u hu => by
        have hj : j < n * i.size := by rw [← hown.1]; exact (List.getElem?_eq_some_iff.1 hu).1
        rw [Addr.add_lit, hown.at j hj, hu]
      have hr := run_append_grow (P := P) w t ty e i z ht hi hz ⟨g, off, none⟩ n cap xs hown.1 holds a m c news hl hnews (by omega) (by omega) (growslice_fits (by omega) hbytes)
      have hgr := grown cap (Value.ownBlock (.slice (some ⟨g, off, none⟩) n cap))
      exact ⟨_, _, _, _, hr, hgr.1, hgr.2, .inr rfl⟩
theorem wp_append_seg {o : Oper} {a : Act} {K : Act → World → Prop} {Q : Exit → Act → World → Prop} (s x : Operand) (t : TypeId)
    (ho : o.op = .call { callee := .builtin .append, args := #[s, x], argTypes := #[t, t] })
    (base : Nat) (e : TypeId) (i : TypeInfo) (z : Value) (size bytes : Nat) (ht : P.underlying t = some (.slice e)) (hi : P.info? e = some i) (hz : i.zero = some z)
    (hsize : i.size = size) (hby : i.bytes = bytes) (hzs : z.cells.size = size) (hsz : 0 < size)
    (v : Value) (n : Nat) (xs : List Value) (hs : a.eval s = v) (hown : Seg w base e size v n xs)
    (ad : Addr) (m c : Nat) (news : List Value) (hx : a.eval x = .slice (some ad) m c) (hl : news.length = m * size) (hnews : ∀ j u, news[j]? = some u → w.cell? (ad.add j) = some u) (h1 : ∀ u ∈ news, u.oneCell' = true)
    (hm : 0 < m) (h63 : n + m ≤ maxLen) (hbytes : (n + m) * bytes ≤ 140737488355328) (hbase : base ≤ w.heap.size) (H : Nat) (hH : w.heap.size = H)
    (h : ∀ g off cap w', Seg w' base e size (.slice (some ⟨g, off, none⟩) (n + m) cap) (n + m) (xs ++ news) → w.grownBy w' v.ownBlock → (v.ownBlock = some g ∨ g = H) → K (a.put o.dst (.slice (some ⟨g, off, none⟩) (n + m) cap)) w') : o.wp P a w K Q := by
  subst hH
  obtain ⟨g, off, cap, w', hr, h2, h3, h4⟩ := run_append_seg (P := P) w base t o.type e i z size bytes ht hi hz hsize hby hzs hsz v n xs hown ad m c news hl hnews h1 hm h63 hbytes hbase
  unfold Oper.wp execOp
  simp only [ho, resolve, invoke, builtin, Sem.run_bind, Sem.run_pure, Result.andThen_ok, List.map_toArray, List.map_cons, List.map_nil, hs, hx, hr]
  exact h g off cap w' h2 h3 h4
theorem wpList_append_seg {ops : Array Oper} {rest : List Oper} {o : Oper} {a : Act} {Q : Exit → Act → World → Prop} (hgd : o.guard = none) (s x : Operand) (t : TypeId)
    (ho : o.op = .call { callee := .builtin .append, args := #[s, x], argTypes := #[t, t] })
    (base : Nat) (e : TypeId) (i : TypeInfo) (z : Value) (size bytes : Nat) (ht : P.underlying t = some (.slice e)) (hi : P.info? e = some i) (hz : i.zero = some z)
    (hsize : i.size = size) (hby : i.bytes = bytes) (hzs : z.cells.size = size) (hsz : 0 < size)
    (v : Value) (n : Nat) (xs : List Value) (hs : a.eval s = v) (hown : Seg w base e size v n xs)
    (ad : Addr) (m c : Nat) (news : List Value) (hx : a.eval x = .slice (some ad) m c) (hl : news.length = m * size) (hnews : ∀ j u, news[j]? = some u → w.cell? (ad.add j) = some u) (h1 : ∀ u ∈ news, u.oneCell' = true)
    (hm : 0 < m) (h63 : n + m ≤ maxLen) (hbytes : (n + m) * bytes ≤ 140737488355328) (hbase : base ≤ w.heap.size) (H : Nat) (hH : w.heap.size = H)
    (h : ∀ g off cap w', Seg w' base e size (.slice (some ⟨g, off, none⟩) (n + m) cap) (n + m) (xs ++ news) → w.grownBy w' v.ownBlock → (v.ownBlock = some g ∨ g = H) → wpList P ops Q rest (a.put o.dst (.slice (some ⟨g, off, none⟩) (n + m) cap)) w') : wpList P ops Q (o :: rest) a w :=
  wpList_plain hgd fun _ hK => wp_append_seg w s x t ho base e i z size bytes ht hi hz hsize hby hzs hsz v n xs hs hown ad m c news hx hl hnews h1 hm h63 hbytes hbase H hH fun g off cap w' h2 h3 h4 => hK _ _ (h g off cap w' h2 h3 h4)
theorem step_append_seg {ops : Array Oper} {o : Oper} {a : Act} {K : Act → World → Prop} {Q : Exit → Act → World → Prop} {E : Prop} (hgd : o.guard = none) (s x : Operand) (t : TypeId)
    (ho : o.op = .call { callee := .builtin .append, args := #[s, x], argTypes := #[t, t] })
    (base : Nat) (e : TypeId) (i : TypeInfo) (z : Value) (size bytes : Nat) (ht : P.underlying t = some (.slice e)) (hi : P.info? e = some i) (hz : i.zero = some z)
    (hsize : i.size = size) (hby : i.bytes = bytes) (hzs : z.cells.size = size) (hsz : 0 < size)
    (v : Value) (n : Nat) (xs : List Value) (hs : a.eval s = v) (hown : Seg w base e size v n xs)
    (ad : Addr) (m c : Nat) (news : List Value) (hx : a.eval x = .slice (some ad) m c) (hl : news.length = m * size) (hnews : ∀ j u, news[j]? = some u → w.cell? (ad.add j) = some u) (h1 : ∀ u ∈ news, u.oneCell' = true)
    (hm : 0 < m) (h63 : n + m ≤ maxLen) (hbytes : (n + m) * bytes ≤ 140737488355328) (hbase : base ≤ w.heap.size) (H : Nat) (hH : w.heap.size = H)
    (h : ∀ g off cap w', Seg w' base e size (.slice (some ⟨g, off, none⟩) (n + m) cap) (n + m) (xs ++ news) → w.grownBy w' v.ownBlock → (v.ownBlock = some g ∨ g = H) → K (a.put o.dst (.slice (some ⟨g, off, none⟩) (n + m) cap)) w') :
    if Region.wanted o (yielded ops a.tmps) = true then Oper.wp P o a w K Q else E := by
  have hw : Region.wanted o (yielded ops a.tmps) = true := by simp [Region.wanted, hgd]
  rw [if_pos hw]
  exact wp_append_seg w s x t ho base e i z size bytes ht hi hz hsize hby hzs hsz v n xs hs hown ad m c news hx hl hnews h1 hm h63 hbytes hbase H hH h
end
section
theorem cells_new (w : World) (cs : List Value) (t : TypeId) : ∀ i u, cs[i]? = some u → (w.alloc (.cells cs.toArray t)).cell? ((⟨w.heap.size, 0, none⟩ : Addr).add i) = some u := fun i u h => by
  have e : (⟨w.heap.size, 0, none⟩ : Addr).add i = ⟨w.heap.size, i, none⟩ := by unfold Addr.add; split <;> simp_all
  rw [e, World.cell?_alloc_mark]
  simpa using h
theorem Only.grown {S : List Nat} {a b c : World} {r : Option Nat} (h : Only S a b) (hg : b.grownBy c r) (hr : ∀ x, r = some x → x ∈ S ∨ a.heap.size ≤ x) : Only S a c :=
  h.trans' (S' := r.toList) ⟨hg.os, hg.tape, hg.output, hg.size, fun k hk hn => hg.block k hk (fun e => hn (by rw [← e]; simp))⟩ (fun x hx => hr x (by simpa using hx))
theorem size_alloc (w : World) (o : Obj) : (w.alloc o).heap.size = w.heap.size + 1 := Array.size_push _
theorem Blk.grown {w w' : World} {b : Nat} {cs : Array Value} {t : TypeId} {r : Option Nat} (h : Blk w b cs t) (hg : w.grownBy w' r) (hn : some b ≠ r) : Blk w' b cs t := by
  have hl := h.lt
  unfold Blk at *
  rw [hg.block b hl hn]; exact h
end
end Go.Proofs.YtnmlmpffmjhihaaGreat
