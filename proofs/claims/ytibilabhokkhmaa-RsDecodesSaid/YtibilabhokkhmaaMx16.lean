/-
  Tables of bytes: products: plain; the program's contract (chapter 3).
-/
import Derived.Test.YtibilabhokkhmaaMx15
namespace Go.Proofs.Ytibilabhokkhmaa
open Go.RowKit
set_option linter.unusedVariables false
set_option maxRecDepth 100000
set_option maxHeartbeats 4000000
def dotS (r : List Nat) (Q : Tab) (j m : Nat) : Nat := (List.range m).foldl (fun x k => x ^^^ gm (r.getD k 0) (entM Q k j)) 0
def mulSo (r : List Nat) (Q : Tab) (m : Nat) : List Nat := (List.range (wid Q)).map fun j => dotS r Q j m
def mulE (A Q : Tab) : Int := if chkM A ≠ 0 then chkM A else if chkM Q ≠ 0 then chkM Q else if wid A ≠ Q.length then 16 else 0
def mulT (A Q : Tab) : Tab := A.map fun r => mulSo r Q Q.length
def mulV (A Q : Tab) : Tab := if mulE A Q = 0 then mulT A Q else []
theorem dotS_succ (r : List Nat) (Q : Tab) (j m : Nat) : dotS r Q j (m + 1) = dotS r Q j m ^^^ gm (r.getD m 0) (entM Q m j) := by
  unfold dotS
  rw [List.range_succ, List.foldl_append]
  rfl
theorem mulSo_length (r : List Nat) (Q : Tab) (m : Nat) : (mulSo r Q m).length = wid Q := by simp [mulSo]
theorem mulSo_zero (r : List Nat) (Q : Tab) : mulSo r Q 0 = List.replicate (wid Q) 0 := by
  unfold mulSo
  apply List.ext_getElem
  · simp
  · intro j h1 h2
    simp [dotS]
theorem mulSo_succ (r : List Nat) (Q : Tab) (m : Nat) (hm : m < Q.length) (hw : Q[m].length = wid Q) : mulAddL (mulSo r Q m) (r.getD m 0) Q[m] = mulSo r Q (m + 1) := by
  unfold mulAddL addL mulSo
  apply List.ext_getElem
  · simp [scaleL, hw]
  · intro j h1 h2
    have hj : j < wid Q := by simpa using h2
    simp only [List.getElem_zipWith, List.getElem_map, List.getElem_range]
    rw [dotS_succ]
    congr 1
    simp only [scaleL, List.getElem_map]
    rw [entM_get Q m j hm (by rw [hw]; exact hj)]
theorem dotS_lt (r : List Nat) (Q : Tab) (j : Nat) : ∀ m, dotS r Q j m < 256
  | 0 => by simp [dotS]
  | m + 1 => by
    rw [dotS_succ]
    exact Nat.xor_lt_two_pow (n := 8) (dotS_lt r Q j m) (gm_lt _ _)
theorem mulSo_lt (r : List Nat) (Q : Tab) (m : Nat) : ∀ x ∈ mulSo r Q m, x < 256 := fun x hx => by
  obtain ⟨j, _, rfl⟩ := List.mem_map.1 hx
  exact dotS_lt r Q j m
theorem mulT_length (A Q : Tab) : (mulT A Q).length = A.length := by simp [mulT]
def MulPost (A Q : Tab) (w : World) (e : Ending) (w' : World) : Prop := ∃ v, e = .returned (.tuple #[v, .int .i64 (mulE A Q)]) ∧ MatAt 0 w' v (mulV A Q) ∧ Below w.heap.size w w'
theorem MulPost.no {A Q : Tab} {w w' : World} {z : Int} (h : mulE A Q = z) (hz : z ≠ 0) (hb : Below w.heap.size w w') : MulPost A Q w (.returned (.tuple #[.slice none 0 0, .int .i64 z])) w' :=
  ⟨_, by rw [h], by unfold mulV; rw [if_neg (by omega)]; exact MatAt.nil _ _, hb⟩
theorem MulPost.yes {A Q : Tab} {w w' : World} {v : Value} (h : mulE A Q = 0) (hm : MatAt 0 w' v (mulT A Q)) (hb : Below w.heap.size w w') : MulPost A Q w (.returned (.tuple #[v, .int .i64 0])) w' :=
  ⟨_, by rw [h], by unfold mulV; rw [if_pos h]; exact hm, hb⟩
theorem mulE_a {A Q : Tab} (h : chkM A ≠ 0) : mulE A Q = chkM A := by unfold mulE; rw [if_pos h]
theorem mulE_q {A Q : Tab} (h : chkM A = 0) (h2 : chkM Q ≠ 0) : mulE A Q = chkM Q := by unfold mulE; rw [if_neg (by omega), if_pos h2]
theorem mulE_l {A Q : Tab} (h : chkM A = 0) (h2 : chkM Q = 0) (h3 : wid A ≠ Q.length) : mulE A Q = 16 := by unfold mulE; rw [if_neg (by omega), if_neg (by omega), if_pos h3]
theorem mulE_ok {A Q : Tab} (h : chkM A = 0) (h2 : chkM Q = 0) (h3 : wid A = Q.length) : mulE A Q = 0 := by unfold mulE; rw [if_neg (by omega), if_neg (by omega), if_neg (by omega)]
theorem run_pair (k : Nat) (hk : k < 2) (x y : Value) (w : World) : (Instr.index 79 (.agg #[x, y]) (.int .i64 k)).run Try.prog w = .ok (if k = 0 then x else y) w := by
  rcases (by omega : k = 0 ∨ k = 1) with rfl | rfl
  · kernel_rfl
  · kernel_rfl
theorem mul_tab (B : Nat) (va vb : Value) (A Q : Tab) (w : World) (ha : MatAt B w va A) (hb : MatAt B w vb Q) : Calls Try.prog 23 #[va, vb] w (MulPost A Q w) := by
  have ha0 := ha
  have hb0 := hb
  obtain ⟨aa, ca, rfl, hma, -⟩ := ha.at
  obtain ⟨ab, cb, rfl, hmb, -⟩ := hb.at
  clear ha hb
  have hp0 : ∀ wx, (Instr.index 79 (.agg #[.slice aa A.length ca, .slice ab Q.length cb]) (.int .i64 0)).run Try.prog wx = .ok (.slice aa A.length ca) wx := fun wx => run_pair 0 (by decide) _ _ wx
  have hp1 : ∀ wx, (Instr.index 79 (.agg #[.slice aa A.length ca, .slice ab Q.length cb]) (.int .i64 1)).run Try.prog wx = .ok (.slice ab Q.length cb) wx := fun wx => run_pair 1 (by decide) _ _ wx
  by_cases hca : chkM A = 0
  · by_cases hcq : chkM Q = 0
    · obtain ⟨⟨n1, n2⟩, ⟨a1, a2⟩, hwA⟩ := chkM_zero hca
      obtain ⟨⟨q1, q2⟩, ⟨b1, b2⟩, hwQ⟩ := chkM_zero hcq
      have HCA := Lib.hid hca
      have HCQ := Lib.hid hcq
      have HWA := Lib.hid (wide_of hwA)
      have HWQ := Lib.hid (wide_of hwQ)
      obtain ⟨_, _, e, -, hcA⟩ := ha0.at
      cases e
      obtain ⟨ga, oa, u0, rfl, hga, hck, hr0⟩ := hcA 0 (by omega)
      obtain ⟨ar, cr, rfl, -⟩ := hr0.at
      rw [HWA.out 0 (by omega), Nat.add_zero] at hck
      by_cases hl : wid A = Q.length
      · have hne : ((wid A : Int) != (Q.length : Int)) = false := by simp; omega
        have HP : Hid (∀ wx v, MatAt 0 wx v (mulT A Q) → Below w.heap.size w wx → MulPost A Q w (.returned (.tuple #[v, .int .i64 0])) wx) := fun wx v hm hx => MulPost.yes (mulE_ok hca hcq hl) hm hx
        have hmk := mk_rows A.length (by omega)
        have hmk2 := mk_u8 (wid Q) (by omega)
        have HTL := Lib.hid (mulT_length A Q)
        have HL := Lib.hid hl
        clear hca hcq hwA hwQ hcA hr0 hl
        go_enter Try.func23, Try.ntmps23
        go_wp2_with fail
        go_loopg [7, 8, 18] 2 (fun gk _ _ i wx => ((gk = 2 ∧ i = .int .i64 0) ∨ (gk = 1 ∧ i = .int .i64 1) ∨ (gk = 0 ∧ i = .int .i64 2)) ∧ w = wx)
        case atStart => exact ⟨.inl ⟨rfl, rfl⟩, rfl⟩
        case round =>
          obtain ⟨⟨rfl, rfl⟩ | ⟨rfl, rfl⟩ | ⟨rfl, rfl⟩, rfl⟩ := hrel
          · go_wp2_with fail
            refine (check_any B _ A _ ha0).mono ?_
            rw [HCA.out]
            rintro e wa ⟨rfl, rfl⟩
            go_wp2_with fail
            go_roundg 1
            case measure => omega
            case rel => exact ⟨.inr (.inl ⟨rfl, rfl⟩), rfl⟩
          · go_wp2_with fail
            refine (check_any B _ Q _ hb0).mono ?_
            rw [HCQ.out]
            rintro e wa ⟨rfl, rfl⟩
            go_wp2_with fail
            go_roundg 0
            case measure => omega
            case rel => exact ⟨.inr (.inr ⟨rfl, rfl⟩), rfl⟩
          · go_wp2_with fail
            have hb := OwnM.new w A.length
            have hB := Below.chainAlloc (Below.refl w.heap.size w) (.cells (Array.replicate A.length (Value.slice none 0 0)) 24)
            clear hck hmk
            generalize w.alloc (.cells (Array.replicate A.length (Value.slice none 0 0)) 24) = W at *
            go_loopg [10, 11, 12, 13, 14, 39] A.length (fun g2 _ _ _ _ _ i wx => ∃ m : Nat, m ≤ A.length ∧ A.length ≤ m + g2 ∧ i = .int .i64 m ∧ OwnM wx w.heap.size 0 (soFar (mulT A Q) (List.replicate A.length []) m) ∧ Below w.heap.size w wx)
            case atStart => exact ⟨0, by omega, by omega, rfl, by rw [soFar_zero]; exact hb, hB⟩
            case round =>
              clear hb hB
              obtain ⟨m, hm', hgm, rfl, hb, hB⟩ := hrel
              have hlS := soFar_length (mulT A Q) (List.replicate A.length []) m (by rw [HTL.out]; simp) (by rw [HTL.out]; exact hm')
              rw [HTL.out] at hlS
              have HLS := Lib.hid hlS
              clear hlS
              by_cases hlt : m < A.length
              · have hgt : (mulT A Q)[m]'(by rw [HTL.out]; exact hlt) = mulSo A[m] Q Q.length := by simp [mulT]
                have hsn := soFar_set (mulT A Q) (List.replicate A.length []) m (by rw [HTL.out]; simp) (by rw [HTL.out]; exact hlt)
                rw [hgt] at hsn
                have HSN := Lib.hid hsn
                obtain ⟨_, _, e, -, hc⟩ := (ha0.chain hB).at
                cases e
                obtain ⟨_, _, u, e, hg, hck, hru⟩ := hc m hlt
                cases e
                obtain ⟨au, cu, rfl, -⟩ := hru.at
                rw [HWA.out m hlt] at hck hru
                obtain ⟨_, _, e, -, hcq⟩ := (hb0.chain hB).at
                cases e
                obtain ⟨gq, oq, uq, rfl, hgq, hckq, hruq⟩ := hcq 0 (by omega)
                obtain ⟨aq, cq, rfl, -⟩ := hruq.at
                rw [HWQ.out 0 (by omega), Nat.add_zero] at hckq
                have HWM := Lib.hid (HWA.out m hlt)
                clear hc hcq hruq hgt hsn
                generalize soFar (mulT A Q) (List.replicate A.length []) m = R at *
                generalize A[m] = rm at *
                have hbz := OwnB.new wr (wid Q)
                have hrz := hbz.row (B := 0) (cap := wid Q) (by simp) (by unfold maxLen; omega)
                rw [List.length_replicate] at hrz
                have HZ := Lib.hid (mulSo_zero rm Q)
                have hBz := Below.chainAlloc (Below.refl wr.heap.size wr) (.cells (u8s (List.replicate (wid Q) 0)).toArray 5)
                clear hbz
                go_upto_region 15 with fail
                clear hck hckq
                generalize wr.alloc (.cells (u8s (List.replicate (wid Q) 0)).toArray 5) = w2 at *
                rw [← HZ.out] at hrz
                go_wp2_with fail
                go_loopg [12, 13, 14, 51] (wid A) (fun g3 sv _ _ i wx => ∃ k : Nat, k ≤ wid A ∧ wid A ≤ k + g3 ∧ i = .int .i64 k ∧ (∃ sa cs, sv = .slice sa (wid Q) cs ∧ RowAt 0 wx (.slice sa (wid Q) cs) (mulSo rm Q k)) ∧ Below wr.heap.size wr wx)
                case atStart => exact ⟨0, by omega, by omega, rfl, ⟨_, _, rfl, hrz⟩, hBz⟩
                case round =>
                  clear hrz hBz
                  obtain ⟨k, hk, hgk, rfl, ⟨sa, cs, rfl, hrs⟩, hbi⟩ := hrel
                  by_cases hkl : k < wid A
                  · obtain ⟨_, _, e, hc⟩ := (hru.chain hbi).at
                    rw [HWM.out] at e
                    cases e
                    obtain ⟨gr, ofr, rfl, hgr, hck⟩ := hc k (by rw [HWM.out]; exact hkl)
                    have hkQ : k < Q.length := by rw [← HL.out]; exact hkl
                    obtain ⟨_, _, e, -, hcq⟩ := ((hb0.chain hB).chain hbi).at
                    cases e
                    obtain ⟨_, _, uq, e, hgq, hckq, hruq⟩ := hcq k hkQ
                    cases e
                    obtain ⟨aq2, cq2, rfl, -⟩ := hruq.at
                    rw [HWQ.out k hkQ] at hckq hruq
                    have hy : rm[k]'(by rw [HWM.out]; exact hkl) < 256 := hru.2 _ (by simp)
                    have hms := mulSo_succ rm Q k hkQ (HWQ.out k hkQ)
                    rw [getD_get rm k 0 (by rw [HWM.out]; exact hkl)] at hms
                    have HMS := Lib.hid hms
                    have HQK := Lib.hid (HWQ.out k hkQ)
                    have HML := Lib.hid (mulSo_length rm Q k)
                    clear hc hcq hms
                    generalize mulSo rm Q k = S at *
                    generalize rm[k]'(by rw [HWM.out]; exact hkl) = y at *
                    generalize Q[k] = qk at *
                    go_wp2_with fail
                    refine (muladd_any B _ _ S qk y hy (by rw [HQK.out]; omega) _ (hrs.le (Nat.zero_le B)) hruq).mono ?_
                    rintro e w3 he
                    obtain ⟨a3, c3, rfl, r3, hb3⟩ := AddPost.eq he HML.out HQK.out
                    clear he hck hckq hruq hrs
                    rw [HMS.out] at r3
                    go_wp2_with fail
                    go_roundg (wid A - (k + 1))
                    case measure => omega
                    case rel => exact ⟨k + 1, by omega, by omega, by go_num, ⟨_, _, rfl, r3⟩, Below.chain hb3 hbi⟩
                  · obtain rfl : k = wid A := by omega
                    rw [HL.out] at hrs
                    replace hb := hb.chain hbi
                    replace hB := Below.chain hbi hB
                    obtain ⟨az, cz, hcz, -⟩ := hb.read m (by rw [HLS.out]; exact hlt)
                    rw [Nat.zero_add] at hcz
                    have hfz := hb.free m
                    have hkd : ¬ wid A < wid A := by omega
                    clear hbi hru
                    go_wp2_with fail
                    have hon := hb.store m (by rw [HLS.out]; exact hlt) _ _ _ _ hrs
                    rw [HSN.out, Nat.zero_add] at hon
                    have hBn := hB.setCell (p := ⟨w.heap.size, m, none⟩) (Nat.le_refl _) (.slice sa (wid Q) cs)
                    go_roundg (A.length - (m + 1))
                    case measure => omega
                    case rel => exact ⟨m + 1, by omega, by omega, by go_num, hon, hBn⟩
              · obtain rfl : m = A.length := by omega
                rw [soFar_end _ _ A.length HTL.out (by simp)] at hb
                have HQ := Lib.hid (HP.out wr _ (hb.mat HTL.out.symm (Nat.le_refl _) (by unfold maxLen; omega)) hB)
                clear hb
                go_wp2_with fail
                go_ret2
                exact HQ.out
      · have hne : ((wid A : Int) != (Q.length : Int)) = true := by simp; omega
        have HP := Lib.hid (MulPost.no (A := A) (Q := Q) (w := w) (mulE_l hca hcq hl) (by decide) (Below.refl _ _))
        clear hca hcq hwA hwQ hcA hr0 hl
        generalize wid A = x at *
        go_enter Try.func23, Try.ntmps23
        go_wp2_with fail
        go_loopg [7, 8, 18] 2 (fun gk _ _ i wx => ((gk = 2 ∧ i = .int .i64 0) ∨ (gk = 1 ∧ i = .int .i64 1) ∨ (gk = 0 ∧ i = .int .i64 2)) ∧ w = wx)
        case atStart => exact ⟨.inl ⟨rfl, rfl⟩, rfl⟩
        case round =>
          obtain ⟨⟨rfl, rfl⟩ | ⟨rfl, rfl⟩ | ⟨rfl, rfl⟩, rfl⟩ := hrel
          · go_wp2_with fail
            refine (check_any B _ A _ ha0).mono ?_
            rw [HCA.out]
            rintro e wa ⟨rfl, rfl⟩
            go_wp2_with fail
            go_roundg 1
            case measure => omega
            case rel => exact ⟨.inr (.inl ⟨rfl, rfl⟩), rfl⟩
          · go_wp2_with fail
            refine (check_any B _ Q _ hb0).mono ?_
            rw [HCQ.out]
            rintro e wa ⟨rfl, rfl⟩
            go_wp2_with fail
            go_roundg 0
            case measure => omega
            case rel => exact ⟨.inr (.inr ⟨rfl, rfl⟩), rfl⟩
          · go_wp2_with fail
            go_ret2
            exact HP.out
    · have hce : (chkM Q != 0) = true := by simpa using hcq
      have HP := Lib.hid (MulPost.no (A := A) (Q := Q) (w := w) (mulE_q hca hcq) hcq (Below.refl _ _))
      have HCA := Lib.hid hca
      clear hca hcq
      go_enter Try.func23, Try.ntmps23
      go_wp2_with fail
      go_loopg [7, 8, 18] 2 (fun gk _ _ i wx => ((gk = 2 ∧ i = .int .i64 0) ∨ (gk = 1 ∧ i = .int .i64 1)) ∧ w = wx)
      case atStart => exact ⟨.inl ⟨rfl, rfl⟩, rfl⟩
      case round =>
        obtain ⟨⟨rfl, rfl⟩ | ⟨rfl, rfl⟩, rfl⟩ := hrel
        · go_wp2_with fail
          refine (check_any B _ A _ ha0).mono ?_
          rw [HCA.out]
          rintro e wa ⟨rfl, rfl⟩
          go_wp2_with fail
          go_roundg 1
          case measure => omega
          case rel => exact ⟨.inr ⟨rfl, rfl⟩, rfl⟩
        · go_wp2_with fail
          refine (check_any B _ Q _ hb0).mono ?_
          rintro e wa ⟨rfl, rfl⟩
          generalize chkM Q = z at *
          go_wp2_with fail
          go_ret2
          exact HP.out
  · have hce : (chkM A != 0) = true := by simpa using hca
    have HP := Lib.hid (MulPost.no (A := A) (Q := Q) (w := w) (mulE_a hca) hca (Below.refl _ _))
    clear hca
    go_enter Try.func23, Try.ntmps23
    go_wp2_with fail
    go_loopg [7, 8, 18] 2 (fun gk _ _ i wx => gk = 2 ∧ i = .int .i64 0 ∧ w = wx)
    case atStart => exact ⟨rfl, rfl, rfl⟩
    case round =>
      obtain ⟨rfl, rfl, rfl⟩ := hrel
      go_wp2_with fail
      refine (check_any B _ A _ ha0).mono ?_
      rintro e wa ⟨rfl, rfl⟩
      generalize chkM A = z at *
      go_wp2_with fail
      go_ret2
      exact HP.out
end Go.Proofs.Ytibilabhokkhmaa
