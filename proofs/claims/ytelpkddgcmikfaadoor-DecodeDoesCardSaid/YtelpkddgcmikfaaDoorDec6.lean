/-
  Blocks out of shards: All (chapter 20).
-/
import Derived.Test.YtelpkddgcmikfaaDoorDec3
namespace Go.Proofs.YtelpkddgcmikfaaDoor
open Go Go.RowKit
set_option linter.unusedVariables false
set_option maxRecDepth 100000
set_option maxHeartbeats 1000000
/-- A job. -/
structure J20 where
  st : Int
  bl : Int
  k : Int
  n : Int
  len : Int
  v : Value
  xs : List Sh5
def J20.cells (j : J20) : List Value := [.int .i64 j.st, .int .u32 j.bl, .int .i64 j.k, .int .i64 j.n, .int .i64 j.len, j.v]
def J20.out (j : J20) : List UInt8 × Int := doD j.k j.n j.len j.xs
def J20.res (j : J20) : List Value := [.int .i64 j.st, .int .u32 j.bl, Str j.out.1, .int .i64 j.out.2]
def zeroR : List Value := [.int .i64 0, .int .u32 0, Str [], .int .i64 0]
theorem infoRes : (Tryd.prog.info? 35).map (fun i => (i.zero, i.size, i.bytes)) = some (some (.agg #[.int .i64 0, .int .u32 0, Str [], .int .i64 0]), 4, 40) := by kernel_rfl
/-- v reads as the jobs js. -/
def JobsAt (w : World) (v : Value) (js : List J20) : Prop :=
  ∃ a cap, v = .slice a js.length cap ∧ js.length ≤ cap ∧ cap ≤ maxLen ∧
    (js = [] ∨ ∃ g off, a = some ⟨g, off, none⟩ ∧ g < w.heap.size ∧ ∀ i (h : i < js.length) o, o < 6 → w.cell? ⟨g, off + i * 6 + o, none⟩ = js[i].cells[o]?) ∧ ∀ j ∈ js, ∃ B, ShAt B w j.v j.xs
theorem JobsAt.chain {w w' : World} {v : Value} {js : List J20} (h : JobsAt w v js) (hb : Below w.heap.size w w') : JobsAt w' v js := by
  obtain ⟨a, cap, hv, h1, h2, h3, h4⟩ := h
  refine ⟨a, cap, hv, h1, h2, h3.imp id ?_, fun j hj => ?_⟩
  · rintro ⟨g, off, ha, hg, hc⟩
    exact ⟨g, off, ha, Nat.lt_of_lt_of_le hg hb.size, fun i hi o ho => (hb.cell (p := ⟨g, off + i * 6 + o, none⟩) hg).trans (hc i hi o ho)⟩
  · obtain ⟨B, hB⟩ := h4 j hj
    exact ⟨B, hB.chain hb⟩
def resSo (js : List J20) (m : Nat) : List Value := (js.take m).flatMap J20.res ++ (js.drop m).flatMap fun _ => zeroR
theorem flat4_length (f : J20 → List Value) (h : ∀ j, (f j).length = 4) : ∀ js : List J20, (js.flatMap f).length = js.length * 4
  | [] => rfl
  | j :: js => by rw [List.flatMap_cons, List.length_append, h, flat4_length f h js, List.length_cons]; omega
theorem resSo_length (js : List J20) (m : Nat) (h : m ≤ js.length) : (resSo js m).length = js.length * 4 := by
  unfold resSo
  rw [List.length_append, flat4_length _ (fun _ => rfl), flat4_length _ (fun _ => rfl), List.length_take, List.length_drop]
  omega
theorem set4 (a b c d z0 z1 z2 z3 : Value) (post : List Value) : ∀ pre : List Value, ((((pre ++ z0 :: z1 :: z2 :: z3 :: post).set pre.length a).set (pre.length + 1) b).set (pre.length + 2) c).set (pre.length + 3) d = pre ++ a :: b :: c :: d :: post
  | [] => rfl
  | x :: pre => by
    have h := set4 a b c d z0 z1 z2 z3 post pre
    simp only [List.cons_append, List.length_cons, List.set_cons_succ]
    exact congrArg (List.cons x) h
theorem resSo_step (js : List J20) (m : Nat) (h : m < js.length) :
    ((((resSo js m).set (m * 4) (.int .i64 js[m].st)).set (m * 4 + 1) (.int .u32 js[m].bl)).set (m * 4 + 2) (Str js[m].out.1)).set (m * 4 + 3) (.int .i64 js[m].out.2) = resSo js (m + 1) := by
  have hl : ((js.take m).flatMap J20.res).length = m * 4 := by rw [flat4_length _ (fun _ => rfl), List.length_take]; omega
  unfold resSo
  rw [List.drop_eq_getElem_cons h, List.flatMap_cons, List.take_succ_eq_append_getElem h, List.flatMap_append]
  have := set4 (.int .i64 js[m].st) (.int .u32 js[m].bl) (Str js[m].out.1) (.int .i64 js[m].out.2) (.int .i64 0) (.int .u32 0) (Str []) (.int .i64 0) ((js.drop (m + 1)).flatMap fun _ => zeroR) ((js.take m).flatMap J20.res)
  rw [hl] at this
  rw [show zeroR ++ (js.drop (m + 1)).flatMap (fun _ => zeroR) = Value.int .i64 0 :: .int .u32 0 :: Str [] :: .int .i64 0 :: (js.drop (m + 1)).flatMap (fun _ => zeroR) from rfl, this]
  simp [J20.res, List.append_assoc]
theorem resSo_end (js : List J20) : resSo js js.length = js.flatMap J20.res := by
  unfold resSo
  rw [List.take_length, List.drop_length]
  simp
theorem made_res (js : List J20) : madeCells #[.int .i64 0, .int .u32 0, Str [], .int .i64 0] (js.length * 4) = (resSo js 0).toArray := by
  have key : ∀ n, madeCells #[.int .i64 0, .int .u32 0, Str [], .int .i64 0] (n * 4) = ((List.replicate n zeroR).flatten).toArray := fun n => by
    induction n with
    | zero => simp [madeCells]
    | succ n ih =>
      have hl : ∀ m, (List.replicate m zeroR).flatten.length = m * 4 := fun m => by
        induction m with
        | zero => rfl
        | succ m ihm => rw [List.replicate_succ, List.flatten_cons, List.length_append, ihm]; simp [zeroR]; omega
      have h4 : ∀ m j, j < m * 4 → (List.replicate m zeroR).flatten[j]? = zeroR[j % 4]? := fun m => by
        induction m with
        | zero => intro j hj; omega
        | succ m ihm =>
          intro j hj
          rw [List.replicate_succ, List.flatten_cons]
          by_cases h : j < 4
          · rw [List.getElem?_append_left (by simpa [zeroR] using h), Nat.mod_eq_of_lt h]
          · rw [List.getElem?_append_right (by simp [zeroR]; omega), show zeroR.length = 4 from rfl, ihm (j - 4) (by omega)]
            congr 1
            omega
      apply Array.ext
      · simp only [size_madeCells, List.size_toArray, hl]
      · intro j h1 h2
        have hj : j < (n + 1) * 4 := by simpa [madeCells] using h1
        have e1 := h4 (n + 1) j hj
        have hm : j % 4 < 4 := Nat.mod_lt _ (by decide)
        rw [List.getElem?_eq_getElem (by rw [hl]; exact hj), List.getElem?_eq_getElem (by simpa [zeroR] using hm)] at e1
        have e2 := Option.some.inj e1
        simp only [List.getElem_toArray]
        rw [e2]
        simp only [madeCells, zeroR]
        simp
        rw [List.getElem?_eq_getElem (by simpa using hm)]
        rfl
  rw [key]
  unfold resSo
  congr 1
  simp only [List.take_zero, List.flatMap_nil, List.nil_append, List.drop_zero]
  induction js with
  | nil => rfl
  | cons j js ih => rw [List.length_cons, List.replicate_succ, List.flatten_cons, List.flatMap_cons, ih]
theorem mk_res (js : List J20) (hk : js.length ≤ 100000) (w : World) : (Instr.makeSlice 31 (.int .i64 (js.length : Int)) (.int .i64 (js.length : Int))).run Tryd.prog w = .ok (.slice (some ⟨w.heap.size, 0, none⟩) js.length js.length) (w.alloc (.cells (resSo js 0).toArray 35)) := by
  obtain ⟨i0, hi, hz0, hz1, hz2⟩ := info_parts infoRes
  have := run_make (P := Tryd.prog) w 31 35 i0 _ Tryd.underlying31 hi hz0 .i64 .i64 js.length js.length (by omega) (by omega) (by rw [hz2]; omega) (by omega)
  rw [this, hz1, Int.toNat_natCast]
  rw [show (Value.agg #[.int .i64 0, .int .u32 0, Str [], .int .i64 0]).cells = #[.int .i64 0, .int .u32 0, Str [], .int .i64 0] from rfl, made_res]
end Go.Proofs.YtelpkddgcmikfaaDoor
