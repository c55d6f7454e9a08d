/-
  Tables of bytes: the identity, copies, whether one is not too great: contracts (chapter 3).
-/
import Derived.Test.YtibilabhokkhmaaMx4
namespace Go.Proofs.Ytibilabhokkhmaa
open Go.RowKit
set_option linter.unusedVariables false
set_option maxRecDepth 100000
set_option maxHeartbeats 1000000
def idRow (n i : Nat) : List Nat := (List.replicate n 0).set i 1
def idM (n : Nat) : List (List Nat) := (List.range n).map (idRow n)
theorem idM_length (n : Nat) : (idM n).length = n := by simp [idM]
theorem idRow_length (n i : Nat) : (idRow n i).length = n := by simp [idRow]
theorem idRow_lt (n i : Nat) : ∀ x ∈ idRow n i, x < 256 := fun x hx => by
  unfold idRow at hx
  rcases List.mem_or_eq_of_mem_set hx with h | h
  · rw [(List.mem_replicate.1 h).2]; decide
  · omega
def IdPost (n : Int) (w : World) (e : Ending) (w' : World) : Prop := ∃ v, e = .returned (.tuple #[v, .int .i64 (if badZ n then 1 else 0)]) ∧ MatAt 0 w' v (if badZ n then [] else idM n.toNat) ∧ Below w.heap.size w w'
theorem IdPost.bad {n : Int} {w : World} (h : badZ n = true) : IdPost n w (.returned (.tuple #[.slice none 0 0, .int .i64 1])) w := ⟨_, by rw [if_pos h], by rw [if_pos h]; exact MatAt.nil _ _, Below.refl _ _⟩
theorem IdPost.ok {n : Nat} {w w' : World} {v : Value} (h : badZ n = false) (hm : MatAt 0 w' v (idM n)) (hb : Below w.heap.size w w') : IdPost n w (.returned (.tuple #[v, .int .i64 0])) w' :=
  ⟨_, by rw [if_neg (by rw [h]; decide)], by rw [if_neg (by rw [h]; decide)]; exact hm, hb⟩
theorem setCell_alloc_comm (w : World) (p : Addr) (u : Value) (o : Obj) (h : p.block < w.heap.size) : (w.setCell p u).alloc o = (w.alloc o).setCell p u := by
  unfold World.setCell World.alloc
  simp only
  congr 1
  apply Array.ext
  · simp
  · intro i h1 h2
    simp only [Array.getElem_modify, Array.getElem_push, Array.size_modify]
    by_cases e : p.block = i
    · subst e; simp [h]
    · by_cases e2 : i < w.heap.size
      · simp [e, e2]
      · simp [e, e2]
theorem OwnB.newOf (w : World) (bs : List Nat) (h : ∀ x ∈ bs, x < 256) : OwnB (w.alloc (.cells (u8s bs).toArray 5)) w.heap.size 0 bs := ⟨OwnV.of_blk (Blk.new w (u8s bs).toArray 5), h⟩
/-- A prefix of new rows, then what stood there. -/
def soFar (new old : List (List Nat)) (m : Nat) : List (List Nat) := new.take m ++ old.drop m
theorem soFar_zero (new old : List (List Nat)) : soFar new old 0 = old := by simp [soFar]
theorem soFar_end (new old : List (List Nat)) (n : Nat) (h : new.length = n) (h2 : old.length = n) : soFar new old n = new := by
  unfold soFar
  rw [List.take_of_length_le (by omega), List.drop_of_length_le (by omega), List.append_nil]
theorem soFar_length (new old : List (List Nat)) (m : Nat) (h : new.length = old.length) (hm : m ≤ new.length) : (soFar new old m).length = new.length := by
  unfold soFar
  simp
  omega
theorem soFar_set (new old : List (List Nat)) (m : Nat) (h : new.length = old.length) (hm : m < new.length) : (soFar new old m).set m new[m] = soFar new old (m + 1) := set_take new old m hm h
theorem ident_any (n : Int) (w : World) : Calls Try.prog 32 #[.int .i64 n] w (IdPost n w) := by
  cases hb : badZ n with
  | true =>
    have HP := Lib.hid (IdPost.bad (w := w) hb)
    have HB := Lib.hid hb
    clear hb
    go_enter Try.func32, Try.ntmps32
    go_wp2_with fail
    refine (mbad_any _ _).mono ?_
    rw [HB.out]
    rintro x w1 ⟨rfl, rfl⟩
    go_wp2_with fail
    go_ret2
    exact HP.out
  | false =>
    obtain ⟨h1, h2⟩ := badZ_rng hb
    obtain ⟨n, rfl⟩ := Int.eq_ofNat_of_zero_le (show 0 ≤ n by omega)
    have HB := Lib.hid hb
    have hmk := mk_rows n (by omega)
    have hmk2 := mk_u8 n (by omega)
    clear hb
    go_enter Try.func32, Try.ntmps32
    go_wp2_with fail
    refine (mbad_any _ _).mono ?_
    rw [HB.out]
    rintro x w1 ⟨rfl, rfl⟩
    go_wp2_with fail
    clear hmk
    have hb := OwnM.new w n
    have hB := Below.chainAlloc (Below.refl w.heap.size w) (.cells (Array.replicate n (Value.slice none 0 0)) 24)
    generalize w.alloc (.cells (Array.replicate n (Value.slice none 0 0)) 24) = W at *
    go_loopw [5, 12] (fun _ i wr => ∃ m : Nat, m ≤ n ∧ i = .int .i64 m ∧ OwnM wr w.heap.size 0 (soFar (idM n) (List.replicate n []) m) ∧ Below w.heap.size w wr) (fun _ i _ => n - (intOf i).toNat)
    case atStart => exact ⟨0, by omega, rfl, by rw [soFar_zero]; exact hb, hB⟩
    case round =>
      clear hb hB
      obtain ⟨m, hm, rfl, hb, hB⟩ := hrel
      by_cases hlt : m < n
      · have hl := hb.lt
        have hlen := soFar_length (idM n) (List.replicate n []) m (by simp [idM]) (by rw [idM_length]; exact hm)
        rw [idM_length] at hlen
        obtain ⟨ax, cx, hcx, -⟩ := hb.read m (by omega)
        rw [Nat.zero_add] at hcx
        have hfr := hb.free m
        have hz : (u8s (List.replicate n 0))[m]? = some (.int .u8 0) := by simp [u8s, hlt]
        have HLEN := Lib.hid hlen
        generalize ((soFar (idM n) (List.replicate n []) m)[m]'_).length = lx at *
        clear hlen
        go_wp2_with fail
        go_roundw
        case rel =>
          refine ⟨m + 1, by omega, by go_num, ?_, ?_⟩
          · rw [setCell_alloc_comm _ _ _ _ hl, show (u8s (List.replicate n 0)).set m (.int .u8 1) = u8s (idRow n m) from u8s_set _ m 1]
            have h1 := OwnB.newOf wr (idRow n m) (idRow_lt n m)
            have h2 := h1.row (B := 0) (cap := n) (by rw [idRow_length]; exact Nat.le_refl _) (by unfold maxLen; omega)
            rw [idRow_length] at h2
            have h3 := (hb.chain (Below.chainAlloc (Below.refl _ _) (.cells (u8s (idRow n m)).toArray 5))).store m (by rw [HLEN.out]; exact hlt) _ _ _ _ h2
            have h4 := soFar_set (idM n) (List.replicate n []) m (by simp [idM]) (by rw [idM_length]; exact hlt)
            rw [show (idM n)[m]'(by rw [idM_length]; exact hlt) = idRow n m by simp [idM]] at h4
            rw [h4, Nat.zero_add] at h3
            exact h3
          · exact Below.chainAlloc (hB.setCell (Nat.le_refl _) _) _
        case measure => simp [intOf]; omega
      · obtain rfl : m = n := by omega
        rw [soFar_end _ _ m (idM_length m) (by simp)] at hb
        have HP : Hid (IdPost m w (.returned (.tuple #[.slice (some ⟨w.heap.size, 0, none⟩) m m, .int .i64 0])) wr) := IdPost.ok HB.out (hb.mat (idM_length m).symm (Nat.le_refl _) (by unfold maxLen; omega)) hB
        clear hb
        go_wp2_with fail
        go_ret2
        exact HP.out
theorem RowsOf_snoc {w : World} {vs : List Value} {rows : List (List Nat)} {u : Value} {r : List Nat} (hl : vs.length = rows.length) (h : ∀ i (h : i < vs.length) (h' : i < rows.length), RowAt 0 w vs[i] rows[i]) (hu : RowAt 0 w u r) :
    (vs ++ [u]).length = (rows ++ [r]).length ∧ ∀ i (h : i < (vs ++ [u]).length) (h' : i < (rows ++ [r]).length), RowAt 0 w (vs ++ [u])[i] (rows ++ [r])[i] := by
  refine ⟨by simp [hl], fun i hi hi' => ?_⟩
  by_cases e : i < vs.length
  · rw [List.getElem_append_left e, List.getElem_append_left (by omega)]
    exact h i e (by omega)
  · have : i = vs.length := by simp at hi; omega
    subst this
    rw [List.getElem_append_right (Nat.le_refl _), List.getElem_append_right (by omega)]
    simp [hl]
    exact hu
/-- A table that is made by appends. -/
def SegM (w : World) (base : Nat) (v : Value) (rows : List (List Nat)) : Prop := ∃ vs : List Value, vs.length = rows.length ∧ Seg w base 24 1 v rows.length vs ∧ ∀ i (h : i < vs.length) (h' : i < rows.length), RowAt 0 w vs[i] rows[i]
theorem SegM.nil (w : World) (base : Nat) : SegM w base (.slice none 0 0) [] := ⟨[], rfl, Seg.nil _ _ _ _, by simp⟩
theorem SegM.chain {w w' : World} {base : Nat} {v : Value} {rows : List (List Nat)} (h : SegM w base v rows) (hb : Below w.heap.size w w') : SegM w' base v rows := by
  obtain ⟨vs, h1, h2, h3⟩ := h
  exact ⟨vs, h1, h2.chain hb, fun i hi hi' => (h3 i hi hi').chain hb⟩
theorem SegM.form {w : World} {base n : Nat} {v : Value} {rows : List (List Nat)} (h : SegM w base v rows) (hn : rows.length = n) : ∃ a cap, v = .slice a n cap := by
  subst hn
  obtain ⟨vs, h1, h2, h3⟩ := h
  exact h2.form
theorem SegM.blk {w : World} {base : Nat} {v : Value} {rows : List (List Nat)} (h : SegM w base v rows) : ∀ g, v.ownBlock = some g → base ≤ g ∧ g < w.heap.size := by
  obtain ⟨vs, h1, h2, h3⟩ := h
  exact h2.blk
theorem SegM.mat {w : World} {base : Nat} {v : Value} {rows : List (List Nat)} (h : SegM w base v rows) : MatAt 0 w v rows := by
  obtain ⟨vs, h1, h2, h3⟩ := h
  exact ⟨vs, h1, SlAt.of_seg h2, h3⟩
theorem SegM.own {w : World} {base : Nat} {g off n cap : Nat} {rows : List (List Nat)} (h : SegM w base (.slice (some ⟨g, off, none⟩) n cap) rows) (hn : n = rows.length) : OwnM w g off rows := by
  subst hn
  obtain ⟨vs, h1, h2, h3⟩ := h
  exact OwnM.of_seg h2 h1 h3
/-- The append's own part: what came behind it. -/
theorem SegM.snoc {w1 w3 : World} {base : Nat} {v v' : Value} {rows : List (List Nat)} {o : Obj} {u : Value} {r : List Nat} {vs : List Value} (hvl : vs.length = rows.length) (hs : Seg w1 base 24 1 v rows.length vs) (hrs : ∀ i (h : i < vs.length) (h' : i < rows.length), RowAt 0 w1 vs[i] rows[i])
    (hu : RowAt 0 w1 u r) (hown : Seg w3 base 24 1 v' (rows.length + 1) (vs ++ [u])) (hgrow : (w1.alloc o).grownBy w3 v.ownBlock) : SegM w3 base v' (rows ++ [r]) := by
  have hap := (hs.alloc o).apart (t := 5) (B := 0) (by decide) (Nat.zero_le _)
  have ho := Only.of_grown hgrow
  have hu3 := (hu.chain (Below.chainAlloc (Below.refl _ _) o)).only ho hap
  obtain ⟨h1, h2⟩ := RowsOf_snoc hvl (fun i hi hi' => ((hrs i hi hi').chain (Below.chainAlloc (Below.refl _ _) o)).only ho hap) hu3
  exact ⟨vs ++ [u], h1, by simpa using hown, h2⟩
theorem rident_any (n : Int) (w : World) : Calls Try.prog 31 #[.int .i64 n] w (IdPost n w) := by
  by_cases l1 : n < 1
  · have HP := Lib.hid (IdPost.bad (w := w) (badZ_lo l1))
    go_enter Try.func31, Try.ntmps31
    go_wp2_with fail
    go_ret2
    exact HP.out
  · by_cases l2 : 255 < n
    · have HP := Lib.hid (IdPost.bad (w := w) (badZ_hi l2))
      go_enter Try.func31, Try.ntmps31
      go_wp2_with fail
      go_ret2
      exact HP.out
    · obtain ⟨n, rfl⟩ := Int.eq_ofNat_of_zero_le (show 0 ≤ n by omega)
      have HB := Lib.hid (badZ_no l1 l2)
      have hmk2 := mk_u8 n (by omega)
      have q1 : decide ((n : Int) < 1) = false := decide_eq_false l1
      have q2 : decide ((255 : Int) < n) = false := decide_eq_false l2
      obtain ⟨i0, hi, hz0, hz1, hz2⟩ := info_parts infoRow
      go_enter Try.func31, Try.ntmps31
      go_wp2_with fail
      clear q1 q2
      go_loopw [4, 5, 6] (fun ov i _ wr => ∃ m : Nat, m ≤ n ∧ i = .int .i64 m ∧ SegM wr w.heap.size ov ((idM n).take m) ∧ Below w.heap.size w wr) (fun _ i _ _ => n - (intOf i).toNat)
      case atStart => exact ⟨0, by omega, rfl, SegM.nil _ _, Below.refl _ _⟩
      case round =>
        obtain ⟨m, hm, rfl, hs, hB⟩ := hrel
        have htl : ((idM n).take m).length = m := by simp [idM]; omega
        obtain ⟨ao, co, rfl⟩ := hs.form htl
        by_cases hlt : m < n
        · have hz : (u8s (List.replicate n 0))[m]? = some (.int .u8 0) := by simp [u8s, hlt]
          have hsn : (idM n).take (m + 1) = (idM n).take m ++ [idRow n m] := by
            rw [List.take_succ_eq_append_getElem (by rw [idM_length]; exact hlt)]
            simp [idM]
          have HSN := Lib.hid hsn
          have h1 := OwnB.newOf wr (idRow n m) (idRow_lt n m)
          have h2 := h1.row (B := 0) (cap := n) (by rw [idRow_length]; exact Nat.le_refl _) (by unfold maxLen; omega)
          rw [idRow_length] at h2
          replace hs := hs.chain (Below.chainAlloc (Below.refl _ _) (.cells (u8s (idRow n m)).toArray 5))
          have hB1 := Below.chainAlloc hB (.cells (u8s (idRow n m)).toArray 5)
          have hws : (u8s (List.replicate n 0)).set m (.int .u8 1) = u8s (idRow n m) := u8s_set _ m 1
          have HWS := Lib.hid hws
          clear h1 hsn hws
          go_upto_region 9 with fail
          rw [HWS.out]
          generalize wr.alloc (.cells (u8s (idRow n m)).toArray 5) = w1 at *
          have hbz : w.heap.size ≤ w1.heap.size := hB1.size
          obtain ⟨vs, hv1, hv2, hv3⟩ := hs
          have hv2' := hv2
          rw [htl] at hv2
          go_wp2_with (at_builtin; refine wpList_append_seg _ rfl (.tmp 23) (.tmp 25) 30 rfl w.heap.size 24 i0 _ 1 24 Try.underlying30 hi hz0 hz1 hz2 rfl (by decide) (.slice ao m co) m vs rfl (hv2.alloc _) ⟨w1.heap.size, 0, none⟩ 1 1 [.slice (some ⟨wr.heap.size, 0, none⟩) n n] rfl rfl (cells_new _ _ _) (by simp [Value.oneCell']) (by decide) (by unfold maxLen; omega) (by omega) (by simp; omega) (w1.heap.size + 1) (size_alloc _ _) ?_; intro g' off' cap' w3 hown hgrow hat)
          have hbb := Below.only (Below.chainAlloc hB1 _) (Only.of_grown hgrow) (fun x hm => (hv2.blk x (by simpa using hm)).1)
          have hsm := SegM.snoc hv1 hv2' hv3 h2 (by rw [htl]; exact hown) hgrow
          rw [← HSN.out] at hsm
          clear hgrow hat hv2 hv2' hv3 hB hB1 hown h2
          go_wp2_with fail
          go_roundw
          case rel => exact ⟨m + 1, by omega, by go_num, hsm, hbb⟩
          case measure => simp [intOf]; omega
        · obtain rfl : m = n := by omega
          rw [List.take_of_length_le (by rw [idM_length]; exact Nat.le_refl _)] at hs
          have HP : Hid (IdPost m w (.returned (.tuple #[.slice ao m co, .int .i64 0])) wr) := IdPost.ok HB.out hs.mat hB
          have hlt' : ¬ (m : Int) < (m : Int) := by omega
          clear hs
          go_wp2_with fail
          go_ret2
          exact HP.out
end Go.Proofs.Ytibilabhokkhmaa
