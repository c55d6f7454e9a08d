/-
  Merged: Tables of bytes: a table is made plain: the document's way, plain and its contract (chapter 3). | Tables of bytes: the two ways to make a table plain are one; the document's rank: contract (chapter 3). | Tables of bytes: the document's inverse: contract (chapter 3). | Tables of bytes: products: plain; the program's contract (chapter 3).
-/
import Derived.Test.YtelpkddgcmikfaaDoorME
namespace Go.Proofs.YtelpkddgcmikfaaDoor
open Go.RowKit
set_option linter.unusedVariables false
set_option maxRecDepth 100000
set_option maxHeartbeats 4000000
def rstep (row place : Nat) (R : Tab) (i : Nat) : Tab := if i = row then R else addR R (entM R i place) i row
def rclr (row place : Nat) (R : Tab) (m : Nat) : Tab := (List.range m).foldl (rstep row place) R
theorem rclr_succ (row place : Nat) (R : Tab) (m : Nat) : rclr row place R (m + 1) = rstep row place (rclr row place R m) m := by
  unfold rclr
  rw [List.range_succ, List.foldl_append]
  rfl
theorem rstep_len (row place : Nat) (R : Tab) (i : Nat) : (rstep row place R i).length = R.length := by
  unfold rstep
  split
  · rfl
  · exact addR_length _ _ _ _
theorem rclr_len (row place : Nat) (R : Tab) : ∀ m, (rclr row place R m).length = R.length
  | 0 => rfl
  | m + 1 => by rw [rclr_succ, rstep_len, rclr_len row place R m]
theorem rclr_wide {row place x : Nat} {R : Tab} (h : Wide R x) (hr : row < R.length) : ∀ m, m ≤ R.length → Wide (rclr row place R m) x
  | 0, _ => h
  | m + 1, hm => by
    rw [rclr_succ]
    have h1 := rclr_wide (place := place) h hr m (by omega)
    have h2 := rclr_len row place R m
    unfold rstep
    split
    · exact h1
    · exact addR_wide h1 (by omega) (by omega)
def rput (a i place : Nat) (M : Tab) : Tab := (M.set i (M.getD a [])).set a (scaleL (gi (entM M i place)) (M.getD i []))
theorem rput_len (a i place : Nat) (M : Tab) : (rput a i place M).length = M.length := by simp [rput]
theorem rput_wide {a i place x : Nat} {M : Tab} (h : Wide M x) (ha : a < M.length) (hi : i < M.length) : Wide (rput a i place M) x := by
  unfold rput
  rw [getD_get M a _ ha, getD_get M i _ hi]
  exact (h.set (h a ha)).set (by rw [scaleL_length]; exact h i hi)
def rstepP (s : Nat × Tab) (place : Nat) : Nat × Tab :=
  if s.1 = s.2.length then s else match pivL s.2 s.1 place with
    | none => s
    | some i => (s.1 + 1, rclr s.1 place (rput s.1 i place s.2) s.2.length)
def rred (M : Tab) (p : Nat) : Nat × Tab := (List.range p).foldl rstepP (0, M)
theorem rred_succ (M : Tab) (p : Nat) : rred M (p + 1) = rstepP (rred M p) p := by
  unfold rred
  rw [List.range_succ, List.foldl_append]
  rfl
theorem rstepP_full {s : Nat × Tab} (h : s.1 = s.2.length) (p : Nat) : rstepP s p = s := by unfold rstepP; rw [if_pos h]
theorem rstepP_none {s : Nat × Tab} (h : s.1 ≠ s.2.length) (p : Nat) (hp : pivL s.2 s.1 p = none) : rstepP s p = s := by unfold rstepP; rw [if_neg h, hp]
theorem rstepP_some {s : Nat × Tab} (h : s.1 ≠ s.2.length) (p i : Nat) (hp : pivL s.2 s.1 p = some i) : rstepP s p = (s.1 + 1, rclr s.1 p (rput s.1 i p s.2) s.2.length) := by unfold rstepP; rw [if_neg h, hp]
theorem rred_full {M : Tab} {p : Nat} (h : (rred M p).1 = (rred M p).2.length) : ∀ k, rred M (p + k) = rred M p
  | 0 => rfl
  | k + 1 => by
    rw [← Nat.add_assoc, rred_succ, rred_full h k]
    exact rstepP_full h _
theorem rstepP_inv {s : Nat × Tab} {p x n : Nat} (h1 : s.2.length = n) (ha : s.1 ≤ n) (hx : Wide s.2 x) : (rstepP s p).2.length = n ∧ (rstepP s p).1 ≤ n ∧ Wide (rstepP s p).2 x := by
  by_cases hf : s.1 = s.2.length
  · rw [rstepP_full hf]; exact ⟨h1, ha, hx⟩
  · cases hp : pivL s.2 s.1 p with
    | none => rw [rstepP_none hf p hp]; exact ⟨h1, ha, hx⟩
    | some i =>
      rw [rstepP_some hf p i hp]
      have hs := pivL_spec hp
      have l1 : (rput s.1 i p s.2).length = n := by rw [rput_len, h1]
      have w1 := rput_wide (a := s.1) (i := i) (place := p) hx (by omega) (by omega)
      exact ⟨(rclr_len _ _ _ _).trans l1, by show s.1 + 1 ≤ n; omega, rclr_wide w1 (by omega) _ (by omega)⟩
theorem rred_inv {M : Tab} {x n : Nat} (h1 : M.length = n) (hx : Wide M x) : ∀ p, (rred M p).2.length = n ∧ (rred M p).1 ≤ n ∧ Wide (rred M p).2 x
  | 0 => ⟨h1, Nat.zero_le _, hx⟩
  | p + 1 => by
    rw [rred_succ]
    have h := rred_inv h1 hx p
    exact rstepP_inv h.1 h.2.1 h.2.2
theorem SegM.cap {w : World} {base n cap : Nat} {a : Option Addr} {rows : Tab} (h : SegM w base (.slice a n cap) rows) : n ≤ cap ∧ cap ≤ maxLen := by
  obtain ⟨vs, h1, h2, _⟩ := h.mat
  obtain ⟨a', c', e, h3, h4, _⟩ := h2
  cases e
  exact ⟨h3, h4⟩
theorem AddPost.eq {w w' : World} {a b : List Nat} {e : Ending} {c x : Nat} (h : AddPost w a (scaleL c b) e w') (ha : a.length = x) (hb : b.length = x) :
    ∃ a3 c3, e = .returned (.tuple #[.slice a3 x c3, .int .i64 0]) ∧ RowAt 0 w' (.slice a3 x c3) (mulAddL a c b) ∧ Below w.heap.size w w' := by
  have hlen : a.length = (scaleL c b).length := by rw [scaleL_length, ha, hb]
  obtain ⟨v, rfl, hr, hB⟩ := h
  have hV : addV a (scaleL c b) = mulAddL a c b := by unfold addV; rw [if_pos hlen]; rfl
  have hE : lenE a (scaleL c b) = 0 := by unfold lenE; rw [if_pos hlen]
  rw [hV] at hr
  obtain ⟨a3, c3, rfl, -⟩ := hr.at
  have hx : (mulAddL a c b).length = x := by unfold mulAddL; rw [addL_length _ _ hlen, ha]
  rw [hx] at hr ⊢
  exact ⟨a3, c3, by rw [hE], hr, hB⟩
def RedPost (M : Tab) (p n : Nat) (w : World) (e : Ending) (w' : World) : Prop :=
  ∃ g off cap, e = .returned (.tuple #[.slice (some ⟨g, off, none⟩) n cap, .int .i64 ((rred M p).1 : Nat)]) ∧ OwnM w' g off (rred M p).2 ∧ w.heap.size ≤ g ∧ n ≤ cap ∧ cap ≤ maxLen ∧ Below w.heap.size w w'
theorem reduced_any (B : Nat) (v : Value) (M : Tab) (n x p : Nat) (hn0 : 1 ≤ n) (hn : n ≤ 255) (hl : M.length = n) (hM : Wide M x) (hx : x ≤ 510) (hp : p ≤ x) (w : World) (h : MatAt B w v M) :
    Calls Tryd.prog 41 #[v, .int .i64 p] w (RedPost M p n w) := by
  have hcp := rcopied_any B v M (by omega) (fun i hi => by rw [hM i hi]; omega) w h
  obtain ⟨a, cap, e, hmx, -⟩ := h.at
  rw [hl] at e
  subst e
  have HC := Lib.hid hcp
  have HINV := Lib.hid (fun k => rred_inv hl hM k)
  have HL := Lib.hid hl
  clear hcp h hmx hl hM
  go_enter Tryd.func41, Tryd.ntmps41
  go_wp2_with fail
  refine HC.out.mono ?_
  rintro e w1 ⟨v', rfl, hs, hB⟩
  clear HC
  obtain ⟨ao, co, rfl⟩ := hs.form HL.out
  obtain ⟨hc1, hc2⟩ := hs.cap
  obtain ⟨_, _, e, -, hc⟩ := hs.mat.at
  rw [HL.out] at e
  cases e
  obtain ⟨g, off, u, rfl, hg, -, -⟩ := hc 0 (by rw [HL.out]; exact hn0)
  have hgb := (hs.blk g (by rfl)).1
  have ho := hs.own HL.out.symm
  clear hc hs
  go_wp2_with fail
  go_loopg [6, 7, 8, 9, 10, 11, 12, 13, 14] p (fun gk at' j _ _ _ _ _ _ _ wr => ∃ k : Nat, k ≤ p ∧ p ≤ k + gk ∧ j = .int .i64 k ∧ at' = .int .i64 ((rred M k).1 : Nat) ∧ OwnM wr g off (rred M k).2 ∧ Below w.heap.size w wr)
  case atStart => exact ⟨0, by omega, by omega, rfl, rfl, ho, hB⟩
  case round =>
    clear ho hB
    obtain ⟨k, hkp, hgk, rfl, rfl, ho, hB⟩ := hrel
    obtain ⟨i1, i2, i3⟩ := HINV.out k
    have HSTEP := Lib.hid (rred_succ M k)
    have HFULL := Lib.hid (rred_full (M := M) (p := k))
    by_cases hlt : k < p
    · have hd1 : decide ((k : Int) < (p : Int)) = true := by simp; omega
      by_cases hfull : (rred M k).1 = n
      · have hd2 : ¬ (rred M k).1 < n := by omega
        have hfin : rred M p = rred M k := by
          have := HFULL.out (by rw [i1]; exact hfull) (p - k)
          rwa [show k + (p - k) = p by omega] at this
        have HP : Hid (RedPost M p n w (.returned (.tuple #[.slice (some ⟨g, off, none⟩) n co, .int .i64 ((rred M k).1 : Nat)])) wr) := ⟨g, off, co, by rw [hfin], by rw [hfin]; exact ho, hgb, hc1, hc2, hB⟩
        clear hfin hfull HSTEP HFULL ho i1 i2 i3
        generalize rred M k = s at *
        go_wp2_with fail
        go_ret2
        exact HP.out
      · have hnf : (rred M k).1 ≠ (rred M k).2.length := by rw [i1]; exact hfull
        have HNONE := Lib.hid (fun h => HSTEP.out.trans (rstepP_none hnf k h))
        have HSOME := Lib.hid (fun i h => HSTEP.out.trans (rstepP_some hnf k i h))
        have HPS := Lib.hid (fun i h => pivL_spec (M := (rred M k).2) (a := (rred M k).1) (place := k) (j := i) h)
        have han : (rred M k).1 < n := by omega
        have hkx : k < x := by omega
        have hpl0 : pivL (rred M k).2 (rred M k).1 k = pivN (rred M k).2 k (n - (rred M k).1) (rred M k).1 := by unfold pivL; rw [i1]
        have HPL := Lib.hid hpl0
        clear hpl0 hnf hfull HSTEP HFULL
        generalize hs : rred M k = s at *
        obtain ⟨A, R⟩ := s
        dsimp only at *
        clear hs
        have I3 := Lib.hid i3
        have lg := ho.lt
        clear i3
        go_wp2_with fail
        go_loopg [8] n (fun g8 i wx => wx = wr ∧ ∃ m : Nat, A ≤ m ∧ m ≤ n ∧ n ≤ m + g8 ∧ i = .int .i64 m ∧ pivL R A k = pivN R k (n - m) m)
        case atStart => exact ⟨rfl, A, Nat.le_refl _, by omega, by omega, rfl, HPL.out⟩
        case round =>
          obtain ⟨rfl, m, hm1, hm2, hgm, rfl, hpv⟩ := hrel
          have HV := Lib.hid hpv
          clear hpv
          by_cases hmn : m < n
          · have hd3 : decide ((m : Int) < (n : Int)) = true := by simp; omega
            obtain ⟨a1, c1, m1, r1⟩ := ho.read m (by omega)
            obtain ⟨_, _, e, hc⟩ := r1.at
            cases e
            have hmR : m < R.length := by rw [i1]; exact hmn
            have HXM : Hid (R[m].length = x) := I3.out m hmR
            have hkR : k < R[m].length := by rw [HXM.out]; exact hkx
            obtain ⟨gr, ofr, rfl, hgr, hck⟩ := hc k hkR
            have HENT : Hid (entM R m k = R[m][k]) := entM_get R m k hmR hkR
            rw [← HENT.out] at hck
            rw [HXM.out] at m1 r1
            clear hc
            have hb256 : entM R m k < 256 := entM_lt ho.bytes m k
            by_cases hz : entM R m k = 0
            · have hs := pivN_step R k (n - (m + 1)) m hz
              rw [show n - (m + 1) + 1 = n - m by omega] at hs
              have HS := Lib.hid (HV.out.trans hs)
              rw [hz] at hck
              clear hs hz hb256
              go_wp2_with fail
              go_roundg (n - (m + 1))
              case measure => omega
              case rel => exact ⟨rfl, m + 1, by omega, by omega, by omega, by go_num, HS.out⟩
            · have hne : ((entM R m k : Int) == 0) = false := by simp; omega
              have hs := pivN_hit R k (n - (m + 1)) m hz
              rw [show n - (m + 1) + 1 = n - m by omega] at hs
              have hst := HSOME.out m (by rw [HV.out, hs])
              have HST := Lib.hid hst
              have hpos : 0 < entM R m k := by omega
              have hdm : ((m : Int) == (n : Int)) = false := by simp; omega
              obtain ⟨a2, c2, m2, r2⟩ := ho.read A (by omega)
              have hxa := I3.out A (by omega)
              rw [hxa] at m2 r2
              have HXA := Lib.hid hxa
              have hfr := ho.free (off + m)
              clear hs hst hz hxa
              have HRP : Hid (rput A m k R = (R.set m (R[A]'(by omega))).set A (scaleL (gi (entM R m k)) (R[m]'(by omega)))) := by
                unfold Hid rput
                rw [getD_get R A [] (by omega), getD_get R m [] (by omega)]
              generalize entM R m k = y at *
              go_upto_region 12 with fail
              have r1s := r1.store ⟨g, off + m, none⟩ (.slice a2 x c2) ho.apart
              obtain ⟨_, _, e, hcs⟩ := r1s.at
              rw [HXM.out] at e
              cases e
              obtain ⟨_, _, e, -, hck2⟩ := hcs k (by rw [HXM.out]; exact hkx)
              cases e
              have hos := ho.store m (by omega) a2 x c2 _ r2
              have hBs := hB.setCell (p := ⟨g, off + m, none⟩) hgb (.slice a2 x c2)
              clear ho hB r1 r2 m1 m2 hfr hcs hgr lg hck
              generalize wr.setCell ⟨g, off + m, none⟩ (.slice a2 x c2) = w2 at *
              have hyk : R[m][k] = y := HENT.out.symm
              rw [hyk] at hck2
              clear hyk
              have HRI := Lib.hid (fun wx => rinv_any y hpos hb256 wx)
              have hgi : gi y < 256 := expT_lt _
              generalize gi y = cc at *
              go_wp2_with fail
              refine (HRI.out _).mono ?_
              rintro e w3 ⟨rfl, rfl⟩
              clear hck2 HRI
              go_wp2_with fail
              refine (rscale_any cc hgi 0 _ _ (by rw [HXM.out]; omega) _ r1s).mono ?_
              rintro e w3 ⟨v3, rfl, r3, hB3⟩
              obtain ⟨a3, c3, rfl, -⟩ := r3.at
              have hx3 : (scaleL cc (R[m]'(by omega))).length = x := by rw [scaleL_length, HXM.out]
              rw [hx3] at r3
              replace hos := hos.chain hB3
              replace hBs := Below.chain hB3 hBs
              obtain ⟨az, cz, hcz, -⟩ := hos.read A (by simp; omega)
              have hfz := hos.free (off + A)
              rw [hx3]
              clear hB3 hx3 r1s
              go_upto_region 14 with fail
              have hot := hos.store A (by simp; omega) a3 x c3 _ r3
              rw [← HRP.out] at hot
              have hBt := hBs.setCell (p := ⟨g, off + A, none⟩) hgb (.slice a3 x c3)
              clear hos hBs r3 hcz hfz
              generalize w3.setCell ⟨g, off + A, none⟩ (.slice a3 x c3) = w4 at *
              have HR1l : Hid ((rput A m k R).length = n) := by show _ = n; rw [rput_len, i1]
              have HR1w : Hid (Wide (rput A m k R) x) := rput_wide I3.out (by omega) (by omega)
              have HRN : Hid (R.length = n) := i1
              clear HRP HXA HXM HENT HV HPL HPS HSOME HNONE
              generalize rput A m k R = R1 at *
              go_wp2_with fail
              go_loopg [12, 13, 14] n (fun g12 i _ _ wx => ∃ q : Nat, q ≤ n ∧ n ≤ q + g12 ∧ i = .int .i64 q ∧ OwnM wx g off (rclr A k R1 q) ∧ Below w.heap.size w wx)
              case atStart => exact ⟨0, by omega, by omega, rfl, hot, hBt⟩
              case round =>
                clear hot hBt
                obtain ⟨q, hq, hgq, rfl, hot, hBt⟩ := hrel
                have HS := Lib.hid (rclr_succ A k R1 q)
                have HW := Lib.hid (rclr_wide (place := k) HR1w.out (by rw [HR1l.out]; exact han) q (by rw [HR1l.out]; exact hq))
                have hlq := rclr_len A k R1 q
                rw [HR1l.out] at hlq
                by_cases hqn : q < n
                · by_cases hqA : q = A
                  · have hst := HS.out.trans (show rstep A k (rclr A k R1 q) q = _ by unfold rstep; rw [if_pos hqA])
                    have HQ := Lib.hid hst
                    have hda : ((q : Int) != (A : Int)) = false := by simp; omega
                    clear hst HS hlq
                    generalize rclr A k R1 q = R2 at *
                    clear hqA
                    go_wp2_with fail
                    go_roundg (n - (q + 1))
                    case measure => omega
                    case rel => exact ⟨q + 1, by omega, by omega, by go_num, by rw [HQ.out]; exact hot, hBt⟩
                  · have hst := HS.out.trans (show rstep A k (rclr A k R1 q) q = _ by unfold rstep; rw [if_neg hqA])
                    have HQ := Lib.hid hst
                    have hda : ((q : Int) != (A : Int)) = true := by simp; omega
                    clear hst HS hqA
                    generalize rclr A k R1 q = R2 at *
                    obtain ⟨b1, d1, m1, r1⟩ := hot.read q (by omega)
                    obtain ⟨b2, d2, m2, r2⟩ := hot.read A (by omega)
                    obtain ⟨_, _, e, hc⟩ := r1.at
                    cases e
                    obtain ⟨gr, ofr, rfl, hgr, hck⟩ := hc k (by rw [HW.out q (by omega)]; exact hkx)
                    have hent := entM_get R2 q k (by omega) (by rw [HW.out q (by omega)]; exact hkx)
                    rw [← hent] at hck
                    have hy256 : entM R2 q k < 256 := entM_lt hot.bytes q k
                    have h1 := HW.out q (by omega)
                    have h2 := HW.out A (by omega)
                    have HADD : Hid (addR R2 (entM R2 q k) q A = R2.set q (mulAddL (R2[q]'(by omega)) (entM R2 q k) (R2[A]'(by omega)))) := by
                      unfold Hid addR
                      rw [getD_get R2 A [] (by omega), getD_get R2 q [] (by omega)]
                    rw [h1] at m1 r1
                    rw [h2] at m2 r2
                    have lt := hot.lt
                    have H1 := Lib.hid h1
                    have H2 := Lib.hid h2
                    clear hc hent h1 h2
                    generalize entM R2 q k = y at *
                    have hmk : ∀ w', Below wr.heap.size wr w' → (w'.cell? ⟨g, off + q, none⟩ = some (.slice (some ⟨gr, ofr, none⟩) x d1) ∧ w'.cell? ⟨g, off + A, none⟩ = some (.slice b2 x d2) ∧ w'.cell? ⟨gr, ofr + k, none⟩ = some (.int .u8 (y : Nat)) ∧ Below wr.heap.size wr w') := fun w' h =>
                      ⟨(h.cell (p := ⟨g, off + q, none⟩) lt).trans m1, (h.cell (p := ⟨g, off + A, none⟩) lt).trans m2, (h.cell (p := ⟨gr, ofr + k, none⟩) hgr).trans hck, h⟩
                    have HMK := Lib.hid hmk
                    clear hmk m1 m2 hck
                    go_upto_region 18 with fail
                    go_region_held3 (fun w' => w'.cell? ⟨g, off + q, none⟩ = some (.slice (some ⟨gr, ofr, none⟩) x d1) ∧ w'.cell? ⟨g, off + A, none⟩ = some (.slice b2 x d2) ∧ w'.cell? ⟨gr, ofr + k, none⟩ = some (.int .u8 (y : Nat)) ∧ Below wr.heap.size wr w')
                      (first
                        | exact HMK.out _ (Below.refl _ _).drew
                        | (go_split_ands; exact HMK.out _ (Below.chain hb (by assumption))))
                      ((go_at_call 60; refine (rmuladd_any 0 _ _ _ _ y hy256 (by rw [H1.out]; omega) (by rw [H2.out]; omega) _ (r1.chain (by first | exact (Below.refl _ _).drew | assumption)) (r2.chain (by first | exact (Below.refl _ _).drew | assumption))).mono ?_; rintro e w3 he; obtain ⟨a3, c3, rfl, r3, hb⟩ := AddPost.eq he H1.out H2.out; clear he))
                    go_split_ands
                    have hb3 : Below wr.heap.size wr w3 := by assumption
                    clear hb
                    replace hot := hot.chain hb3
                    replace hBt := Below.chain hb3 hBt
                    obtain ⟨az, cz, hcz, -⟩ := hot.read q (by omega)
                    have hfz := hot.free (off + q)
                    clear hb3 HMK r1 r2
                    go_wp2_with fail
                    have hon := hot.store q (by omega) a3 x c3 _ r3
                    rw [← HADD.out] at hon
                    have hBn := hBt.setCell (p := ⟨g, off + q, none⟩) hgb (.slice a3 x c3)
                    go_roundg (n - (q + 1))
                    case measure => omega
                    case rel => exact ⟨q + 1, by omega, by omega, by go_num, by rw [HQ.out]; exact hon, hBn⟩
                · obtain rfl : q = n := by omega
                  have hdq : ¬ q < q := by omega
                  have hfin := HST.out
                  rw [HRN.out] at hfin
                  have HF := Lib.hid hfin
                  clear hfin HS hlq
                  generalize rclr A k R1 q = R2 at *
                  go_wp2_with fail
                  go_roundg (p - (k + 1))
                  case measure => omega
                  case rel => exact ⟨k + 1, by omega, by omega, by go_num, by rw [HF.out]; go_num, by rw [HF.out]; exact hot, hBt⟩
          · obtain rfl : m = n := by omega
            have hnone : pivL R A k = none := by rw [HV.out, Nat.sub_self]; rfl
            have hst := HNONE.out hnone
            have HST := Lib.hid hst
            have hd3 : ¬ m < m := by omega
            clear hst hnone
            go_wp2_with fail
            go_roundg (p - (k + 1))
            case measure => omega
            case rel => exact ⟨k + 1, by omega, by omega, by go_num, by rw [HST.out], by rw [HST.out]; exact ho, hB⟩
    · obtain rfl : k = p := by omega
      have HP : Hid (RedPost M k n w (.returned (.tuple #[.slice (some ⟨g, off, none⟩) n co, .int .i64 ((rred M k).1 : Nat)])) wr) := ⟨g, off, co, rfl, ho, hgb, hc1, hc2, hB⟩
      have hd1 : ¬ k < k := by omega
      clear ho i1 i2 i3 HSTEP HFULL
      generalize rred M k = s at *
      go_wp2_with fail
      go_ret2
      exact HP.out
end Go.Proofs.YtelpkddgcmikfaaDoor
namespace Go.Proofs.YtelpkddgcmikfaaDoor
open Go.RowKit
set_option linter.unusedVariables false
set_option maxRecDepth 100000
set_option maxHeartbeats 2000000
/-- Two tables side by side. -/
def zw (M O : Tab) : Tab := List.zipWith (fun r s => r ++ s) M O
theorem zw_length {M O : Tab} (h : O.length = M.length) : (zw M O).length = M.length := by simp [zw]; omega
theorem zw_get {M O : Tab} (h : O.length = M.length) (i : Nat) (hi : i < M.length) : (zw M O)[i]'(by rw [zw_length h]; exact hi) = M[i] ++ O[i] := by simp [zw]
theorem zw_getD {M O : Tab} (h : O.length = M.length) (i : Nat) : (zw M O).getD i [] = M.getD i [] ++ O.getD i [] := by
  by_cases hi : i < M.length
  · rw [getD_get _ i [] (by rw [zw_length h]; exact hi), getD_get M i [] hi, getD_get O i [] (by omega), zw_get h i hi]
  · have h1 : (zw M O)[i]? = none := List.getElem?_eq_none (by rw [zw_length h]; omega)
    have h2 : M[i]? = none := List.getElem?_eq_none (by omega)
    have h3 : O[i]? = none := List.getElem?_eq_none (by omega)
    simp [List.getD, h1, h2, h3]
theorem zw_set {M O : Tab} (h : O.length = M.length) (i : Nat) (r s : List Nat) : (zw M O).set i (r ++ s) = zw (M.set i r) (O.set i s) := by
  apply List.ext_getElem
  · rw [List.length_set, zw_length h, zw_length (by simpa using h), List.length_set]
  · intro j h1 h2
    rw [List.length_set, zw_length h] at h1
    rw [zw_get (by simpa using h) j (by simpa using h1)]
    by_cases e : i = j
    · subst e; simp
    · rw [List.getElem_set_ne e, List.getElem_set_ne e, List.getElem_set_ne e, zw_get h j h1]
theorem zw_wide {M O : Tab} {x y : Nat} (h : O.length = M.length) (hx : Wide M x) (hy : Wide O y) : Wide (zw M O) (x + y) := fun i hi => by
  rw [zw_length h] at hi
  rw [zw_get h i hi, List.length_append, hx i hi, hy i (by omega)]
theorem entM_zw {M O : Tab} {x : Nat} (h : O.length = M.length) (hx : Wide M x) (i j : Nat) (hi : i < M.length) (hj : j < x) : entM (zw M O) i j = entM M i j := by
  unfold entM
  rw [zw_getD h, getD_get M i [] hi]
  have hl := hx i hi
  simp only [List.getD]
  rw [List.getElem?_append_left (by omega)]
theorem pivN_zw {M O : Tab} {x : Nat} (h : O.length = M.length) (hx : Wide M x) (j : Nat) (hj : j < x) : ∀ k i, i + k ≤ M.length → pivN (zw M O) j k i = pivN M j k i
  | 0, _, _ => rfl
  | k + 1, i, hi => by
    show (if entM (zw M O) i j = 0 then _ else _) = (if entM M i j = 0 then _ else _)
    rw [entM_zw h hx i j (by omega) hj, pivN_zw h hx j hj k (i + 1) (by omega)]
theorem pivL_zw {M O : Tab} {x : Nat} (h : O.length = M.length) (hx : Wide M x) (a j : Nat) (ha : a ≤ M.length) (hj : j < x) : pivL (zw M O) a j = pivL M a j := by
  unfold pivL
  rw [zw_length h]
  exact pivN_zw h hx j hj _ _ (by omega)
theorem scaleL_app (c : Nat) (r s : List Nat) : scaleL c (r ++ s) = scaleL c r ++ scaleL c s := by simp [scaleL]
theorem mulAddL_app (r s r' s' : List Nat) (c : Nat) (h : r.length = r'.length) : mulAddL (r ++ s) c (r' ++ s') = mulAddL r c r' ++ mulAddL s c s' := by
  unfold mulAddL addL
  rw [scaleL_app, List.zipWith_append (by rw [scaleL_length]; exact h)]
theorem mulAddL_zero (r s : List Nat) (h : r.length = s.length) : mulAddL r 0 s = r := by
  unfold mulAddL addL
  apply List.ext_getElem
  · simp [scaleL]; omega
  · intro j h1 h2
    simp [scaleL, gm_zero_left]
theorem addR_zero {R : Tab} {x i row : Nat} (h : Wide R x) (hi : i < R.length) (hr : row < R.length) : addR R 0 i row = R := by
  unfold addR
  rw [getD_get R i _ hi, getD_get R row _ hr, mulAddL_zero _ _ (by rw [h i hi, h row hr])]
  simp
theorem addR_zw {M O : Tab} {x : Nat} (h : O.length = M.length) (hx : Wide M x) (c i row : Nat) (hi : i < M.length) (hr : row < M.length) : addR (zw M O) c i row = zw (addR M c i row) (addR O c i row) := by
  unfold addR
  rw [zw_getD h, zw_getD h, mulAddL_app _ _ _ _ _ (by rw [getD_get M i _ hi, getD_get M row _ hr, hx i hi, hx row hr]), zw_set h]
/-- What a step of the clearing does to the one side. -/
theorem stepC_nz (row place : Nat) (M O : Tab) (i x y : Nat) (hl : O.length = M.length) (hx : Wide M x) (hy : Wide O y) (hi : i < M.length) (hr : row < M.length) :
    stepC row place (M, O) i = (rstep row place M i, if i = row then O else addR O (entM M i place) i row) := by
  unfold stepC rstep
  by_cases h1 : i = row
  · rw [if_pos (.inl h1), if_pos h1, if_pos h1]
  · rw [if_neg h1, if_neg h1]
    by_cases h2 : entM M i place = 0
    · rw [if_pos (.inr h2)]
      show (M, O) = _
      rw [h2, addR_zero hx hi hr, addR_zero hy (by omega) (by omega)]
    · rw [if_neg (by rintro (h | h); exact h1 h; exact h2 h)]
theorem rstep_zw {M O : Tab} {x y : Nat} (h : O.length = M.length) (hx : Wide M x) (hy : Wide O y) (row place i : Nat) (hp : place < x) (hi : i < M.length) (hr : row < M.length) :
    rstep row place (zw M O) i = zw (stepC row place (M, O) i).1 (stepC row place (M, O) i).2 := by
  rw [stepC_nz row place M O i x y h hx hy hi hr]
  unfold rstep
  by_cases h1 : i = row
  · simp only [if_pos h1]
  · simp only [if_neg h1]
    rw [entM_zw h hx i place hi hp, addR_zw h hx _ _ _ hi hr]
theorem rput_swap (M O : Tab) (a i place : Nat) (ha : a < M.length) (hi : i < M.length) : rput a i place M = scR (gi (entM (swapL M a i) a place)) a (swapL M a i) := by
  have h1 : entM (swapL M a i) a place = entM M i place := entM_swap M a i place ha hi
  have h2 : (swapL M a i).getD a [] = M.getD i [] := by
    unfold swapL
    rw [getD_get M i _ hi, getD_get M a _ ha]
    rw [getD_get _ a _ (by simpa using ha)]
    by_cases e : i = a
    · subst e; simp
    · rw [List.getElem_set_ne e]; simp
  unfold scR rput
  rw [h1, h2]
  unfold swapL
  by_cases e : i = a
  · subst e; simp
  · rw [List.set_comm _ _ (Ne.symm e), List.set_set]
theorem scR_zw {M O : Tab} (h : O.length = M.length) (c row : Nat) : scR c row (zw M O) = zw (scR c row M) (scR c row O) := by
  unfold scR
  rw [zw_getD h, scaleL_app, zw_set h]
theorem swapL_zw {M O : Tab} (h : O.length = M.length) (a i : Nat) : swapL (zw M O) a i = zw (swapL M a i) (swapL O a i) := by
  unfold swapL
  rw [zw_getD h, zw_getD h, zw_set h, zw_set (by simpa using h)]
theorem rclr_zw {M O : Tab} {x y : Nat} (h : O.length = M.length) (hx : Wide M x) (hy : Wide O y) (row place : Nat) (hp : place < x) (hr : row < M.length) : ∀ m, m ≤ M.length →
    rclr row place (scR (gi (entM M row place)) row (zw M O)) m = zw (clearSo row place M O m).1 (clearSo row place M O m).2
  | 0, _ => scR_zw h _ _
  | m + 1, hm => by
    rw [rclr_succ, rclr_zw h hx hy row place hp hr m (by omega), clearSo_succ]
    have hc := clearSo_len row place M O m
    have hw := clearSo_wide (row := row) (place := place) hx hy h hr m (by omega)
    exact rstep_zw (by rw [hc.1, hc.2, h]) hw.1 hw.2 row place m hp (by rw [hc.1]; omega) (by rw [hc.1]; exact hr)
theorem rstepP_zw {a : Nat} {M O : Tab} {x y : Nat} (h : O.length = M.length) (hx : Wide M x) (hy : Wide O y) (ha : a ≤ M.length) (p : Nat) (hp : p < x) :
    rstepP (a, zw M O) p = ((stepP (a, (M, O)) p).1, zw (stepP (a, (M, O)) p).2.1 (stepP (a, (M, O)) p).2.2) := by
  by_cases hf : a = M.length
  · rw [rstepP_full (by show a = (zw M O).length; rw [zw_length h]; exact hf), stepP_full (by exact hf)]
  · cases hpc : pivL M a p with
    | none => rw [rstepP_none (by show a ≠ (zw M O).length; rw [zw_length h]; exact hf) p (by show pivL (zw M O) a p = none; rw [pivL_zw h hx a p ha hp, hpc]), stepP_none (by exact hf) p hpc]
    | some i =>
      have hs := pivL_spec hpc
      have haL : a < M.length := by omega
      rw [rstepP_some (by show a ≠ (zw M O).length; rw [zw_length h]; exact hf) p i (by show pivL (zw M O) a p = some i; rw [pivL_zw h hx a p ha hp, hpc]), stepP_some (by exact hf) p i hpc]
      show (a + 1, rclr a p (rput a i p (zw M O)) (zw M O).length) = (a + 1, zw (clearL a p (swapL M a i) (swapL O a i)).1 (clearL a p (swapL M a i) (swapL O a i)).2)
      have w1 := swapL_wide (i := a) (k := i) hx haL hs.2.1
      have w2 := swapL_wide (i := a) (k := i) hy (by omega) (by omega)
      have l1 : (swapL O a i).length = (swapL M a i).length := by rw [swapL_length, swapL_length, h]
      rw [rput_swap (zw M O) O a i p (by rw [zw_length h]; exact haL) (by rw [zw_length h]; exact hs.2.1), swapL_zw h, entM_zw l1 w1 a p (by rw [swapL_length]; exact haL) hp]
      unfold clearL
      rw [zw_length h, swapL_length, rclr_zw l1 w1 w2 a p hp (by rw [swapL_length]; exact haL) M.length (by rw [swapL_length]; exact Nat.le_refl _)]
theorem rred_zw {M O : Tab} {x y : Nat} (h : O.length = M.length) (hx : Wide M x) (hy : Wide O y) : ∀ p, p ≤ x → rred (zw M O) p = ((redSo M O p).1, zw (redSo M O p).2.1 (redSo M O p).2.2)
  | 0, _ => rfl
  | p + 1, hp => by
    have hi := redSo_inv rfl h hx hy p
    rw [rred_succ, rred_zw h hx hy p (by omega), redSo_succ]
    exact rstepP_zw (by rw [hi.1, hi.2.1]) hi.2.2.2.1 hi.2.2.2.2 (by rw [hi.1]; exact hi.2.2.1) p (by omega)
theorem zw_nil (M : Tab) : zw M (List.replicate M.length []) = M := by
  apply List.ext_getElem
  · rw [zw_length (by simp)]
  · intro j h1 h2
    rw [zw_get (by simp) j h2]
    simp
theorem rankM_eq {rows : Tab} {x : Nat} (hx : Wide rows x) : (rred rows x).1 = (redSo rows (List.replicate rows.length []) x).1 := by
  have := rred_zw (O := List.replicate rows.length []) (by simp) hx (wide_nil rows.length) x (Nat.le_refl _)
  rw [zw_nil] at this
  rw [this]
end Go.Proofs.YtelpkddgcmikfaaDoor
namespace Go.Proofs.YtelpkddgcmikfaaDoor
open Go.RowKit
set_option linter.unusedVariables false
set_option maxRecDepth 100000
set_option maxHeartbeats 4000000
theorem SlAt.drop {B : Nat} {w : World} {t : TypeId} {g off len cap n : Nat} {vs : List Value} (h : SlAt B w t (.slice (some ⟨g, off, none⟩) len cap) vs) (hn : n ≤ vs.length) : SlAt B w t (.slice (some ⟨g, off + n, none⟩) (len - n) (cap - n)) (vs.drop n) := by
  obtain ⟨a, c, e, h1, h2, h3⟩ := h
  cases e
  refine ⟨_, _, by rw [List.length_drop], by rw [List.length_drop]; omega, by omega, ?_⟩
  rcases h3 with h3 | ⟨g', off', e, hg, ht, hc⟩
  · left; rw [h3]; simp
  · cases e
    right
    refine ⟨g, off + n, rfl, hg, ht, fun j hj => ?_⟩
    rw [List.length_drop] at hj
    rw [Nat.add_assoc, hc (n + j) (by omega)]
    simp
theorem RowAt.drop {B : Nat} {w : World} {g off len cap n : Nat} {bs : List Nat} (h : RowAt B w (.slice (some ⟨g, off, none⟩) len cap) bs) (hn : n ≤ bs.length) : RowAt B w (.slice (some ⟨g, off + n, none⟩) (len - n) (cap - n)) (bs.drop n) := by
  refine ⟨?_, fun x hx => h.2 x (List.mem_of_mem_drop hx)⟩
  have := h.1.drop (n := n) (by rw [u8s_length]; exact hn)
  rwa [show (u8s bs).drop n = u8s (bs.drop n) by simp [u8s, List.map_drop]] at this
theorem RowAt.cap {B : Nat} {w : World} {a : Option Addr} {n cap : Nat} {bs : List Nat} (h : RowAt B w (.slice a n cap) bs) : n ≤ cap ∧ cap ≤ maxLen := by
  obtain ⟨a', c', e, h1, h2, _⟩ := h.1
  cases e
  exact ⟨h1, h2⟩
theorem soFar_get (new old : Tab) (m : Nat) (h : new.length = old.length) (hm : m < old.length) : (soFar new old m)[m]'(by rw [soFar_length new old m h (by omega)]; omega) = old[m] := by
  unfold soFar
  rw [List.getElem_append_right (by simp; omega)]
  simp
  congr 1
  omega
theorem idRow_get (n i j : Nat) (hj : j < n) : (idRow n i)[j]'(by rw [idRow_length]; exact hj) = if i = j then 1 else 0 := by
  unfold idRow
  rw [List.getElem_set]
  simp
theorem rinvert_any (B : Nat) (v : Value) (rows : Tab) (w : World) (h : MatAt B w v rows) : Calls Tryd.prog 24 #[v] w (InvPost rows w) := by
  have h0 := h
  obtain ⟨a, cap, rfl, hm, hc0⟩ := h.at
  clear h
  by_cases hc : chkM rows = 0
  · obtain ⟨⟨n1, n2⟩, ⟨w1, w2⟩, hw⟩ := chkM_zero hc
    have HC := Lib.hid hc
    have HW := Lib.hid (wide_of hw)
    obtain ⟨g, off, u0, rfl, hg, hck, hr0⟩ := hc0 0 (by omega)
    obtain ⟨a0, c0, rfl, -⟩ := hr0.at
    rw [wid_eq (by omega), Nat.add_zero] at hck
    clear hr0 hw hc0
    by_cases hl : rows.length = wid rows
    · have heq : ((wid rows : Int) != (rows.length : Int)) = false := by simp [hl]
      obtain ⟨n, hn⟩ : ∃ n, rows.length = n := ⟨_, rfl⟩
      have HN := Lib.hid hn
      have HSING : Hid (∀ wx, (redI rows).1 < n → Below w.heap.size w wx → InvPost rows w (.returned (.tuple #[.slice none 0 0, .int .i64 14])) wx) := fun wx h hx => InvPost.no (invE_sing hc hl (by rw [hn]; exact h)) (by decide) hx
      have HOK : Hid (∀ wx v, ¬ (redI rows).1 < n → MatAt 0 wx v (redI rows).2.2 → Below w.heap.size w wx → InvPost rows w (.returned (.tuple #[v, .int .i64 0])) wx) := fun wx v h hm hx => InvPost.yes (invE_ok hc hl (by rw [hn]; exact h)) hm hx
      have hinv := redSo_inv (M := rows) (O := idM rows.length) (n := rows.length) rfl (idM_length _) HW.out (wide_id _) rows.length
      have HINV : Hid ((redI rows).2.1.length = n ∧ (redI rows).2.2.length = n ∧ (redI rows).1 ≤ n ∧ Wide (redI rows).2.1 n ∧ Wide (redI rows).2.2 n) := by rw [← hl, hn] at hinv; unfold redI; rw [hn]; exact hinv
      have HWD : Hid (Wide rows n) := by have := HW.out; rwa [← hl, hn] at this
      have HZL : Hid ((zw rows (idM n)).length = n) := by show _ = n; rw [zw_length (by rw [idM_length, hn]), hn]
      have HZW : Hid (Wide (zw rows (idM n)) (n + n)) := zw_wide (by rw [idM_length, hn]) HWD.out (wide_id _)
      have HZG : Hid (∀ i (h : i < n), (zw rows (idM n))[i]'(by rw [HZL.out]; exact h) = (rows[i]'(by rw [HN.out]; exact h)) ++ idRow n i) := fun i hi => by
        rw [zw_get (by rw [idM_length, hn]) i (by rw [hn]; exact hi)]
        simp [idM]
      have HRED : Hid (rred (zw rows (idM n)) n = ((redI rows).1, zw (redI rows).2.1 (redI rows).2.2)) := by
        show _ = _
        rw [rred_zw (by rw [idM_length, hn]) HWD.out (wide_id _) n (Nat.le_refl _)]
        unfold redI
        rw [hn]
      have hck2 := fun w' (hb : Below w.heap.size w w') => (hb.cell (p := ⟨g, off, none⟩) hg).trans hck
      obtain ⟨i0, hi, hz0, hz1, hz2⟩ := info_parts infoU8
      obtain ⟨j0, hj, hy0, hy1, hy2⟩ := info_parts infoRow
      rw [← hl] at hck2 heq
      rw [hn] at h0 hm n1 n2 hck2 heq ⊢
      have HCK := Lib.hid hck2
      clear hc hinv hck hck2 hl hn w1 w2 HW
      go_enter Tryd.func24, Tryd.ntmps24
      go_wp2_with fail
      refine (rcheck_any B _ rows _ h0).mono ?_
      rw [HC.out]
      rintro e wa ⟨rfl, hd⟩
      have hB := hd.below
      have hck := HCK.out _ hB
      clear hd
      go_wp2_with fail
      clear hck
      generalize zw rows (idM n) = Z at *
      go_loopg [6, 7, 8, 9, 10] n (fun gk ov i _ _ _ wr => ∃ m : Nat, m ≤ n ∧ n ≤ m + gk ∧ i = .int .i64 m ∧ SegM wr w.heap.size ov (Z.take m) ∧ Below w.heap.size w wr)
      case atStart => exact ⟨0, by omega, by omega, rfl, SegM.nil _ _, hB⟩
      case round =>
        clear hB
        obtain ⟨m, hm', hgm, rfl, hs, hB⟩ := hrel
        have htl : (Z.take m).length = m := by rw [List.length_take, HZL.out]; omega
        obtain ⟨ao, co, rfl⟩ := hs.form htl
        by_cases hlt : m < n
        · obtain ⟨_, _, e, -, hc⟩ := (h0.chain hB).at
          rw [HN.out] at e
          cases e
          obtain ⟨_, _, u, e, -, hck, hru⟩ := hc m (by rw [HN.out]; exact hlt)
          cases e
          obtain ⟨au, cu, rfl, -⟩ := hru.at
          have hlw : (rows[m]'(by rw [HN.out]; exact hlt)).length = n := HWD.out m (by rw [HN.out]; exact hlt)
          rw [hlw] at hck hru
          have hsn : Z.take (m + 1) = Z.take m ++ [Z[m]'(by rw [HZL.out]; exact hlt)] := List.take_succ_eq_append_getElem (by rw [HZL.out]; exact hlt)
          rw [HZG.out m hlt] at hsn
          have HSN := Lib.hid hsn
          have HTL := Lib.hid htl
          have h256 : ∀ y ∈ (rows[m]'(by rw [HN.out]; exact hlt)) ++ idRow n m, y < 256 := fun y hy => by
            rcases List.mem_append.1 hy with h | h
            · exact hru.2 y h
            · exact idRow_lt n m y h
          have H256 := Lib.hid h256
          have hone := u8s_one (rows[m]'(by rw [HN.out]; exact hlt))
          have HONE := Lib.hid hone
          have hu8 := u8s_length (rows[m]'(by rw [HN.out]; exact hlt))
          rw [hlw] at hu8
          have HU8 := Lib.hid hu8
          have hsl := hru.1
          have HRM := Lib.hid hlw
          clear hc hsn hone h256 hru htl hlw hu8
          generalize (rows[m]'(by rw [HN.out]; exact hlt)) = rm at *
          have HL0 : Hid ((rm ++ idRow n m).take (n + 0) = rm) := by
            show _ = _
            rw [Nat.add_zero, List.take_append_of_le_length (by rw [HRM.out]; exact Nat.le_refl _), List.take_of_length_le (by rw [HRM.out]; exact Nat.le_refl _)]
          have HLL : Hid ((rm ++ idRow n m).length = n + n) := by show _ = _; rw [List.length_append, HRM.out, idRow_length]
          have HLG : Hid (∀ j (h : j < n), (rm ++ idRow n m)[n + j]'(by rw [HLL.out]; omega) = if m = j then 1 else 0) := fun j hj => by
            rw [List.getElem_append_right (by rw [HRM.out]; omega)]
            simp only [HRM.out, Nat.add_sub_cancel_left]
            exact idRow_get n m j hj
          go_upto_region 13 with (at_builtin; refine wpList_append_sl rfl (.tmp 32) (.tmp 36) 45 rfl wr.heap.size B 5 5 i0 _ 1 Tryd.underlying45 hi hz0 hz1 hz2 rfl (.slice none 0 0) 0 [] rfl (Seg.nil _ _ _ _) (.slice au n cu) (u8s rm) rfl hsl HONE.out (by rw [HU8.out]; unfold maxLen; omega) (by rw [HU8.out]; omega) (Nat.le_refl _) ?_; intro v' w3 hown hgrow hat; rw [List.nil_append, Nat.zero_add, HU8.out] at hown)
          have hb3 := below_of_grown hgrow
          clear hgrow hat hck hsl HU8 HONE
          rw [← HL0.out] at hown
          generalize rm ++ idRow n m = L at *
          obtain ⟨gb, hgb⟩ : ∃ gb, wr.heap.size = gb := ⟨_, rfl⟩
          have HGB := Lib.hid hgb
          rw [hgb] at hown hb3
          clear hgb
          have hown0 : Seg w3 gb 5 1 v' (n + 0) (u8s (L.take (n + 0))) := hown
          clear hown
          go_wp2_with fail
          go_loopg [8, 9, 10] n (fun g9 rv i _ wx => ∃ j : Nat, j ≤ n ∧ n ≤ j + g9 ∧ i = .int .i64 j ∧ Seg wx gb 5 1 rv (n + j) (u8s (L.take (n + j))) ∧ Below gb wr wx)
          case atStart => exact ⟨0, by omega, by omega, rfl, hown0, hb3⟩
          case round =>
            clear hb3 hown0
            obtain ⟨j, hj', hgj, rfl, hseg, hbi⟩ := hrel
            obtain ⟨ar, cr, rfl⟩ := hseg.form
            have hgz : gb ≤ wr.heap.size := by have := hbi.size; rw [HGB.out] at this; exact this
            by_cases hjn : j < n
            · have hsn := u8s_take_snoc L (n + j) (by rw [HLL.out]; omega)
              rw [HLG.out j hjn] at hsn
              have HS2 := Lib.hid hsn
              clear hsn
              generalize u8s (L.take (n + j)) = us at *
              by_cases hmj : m = j
              · have hq : ((m : Int) == (j : Int)) = true := by simp; omega
                rw [if_pos hmj] at HS2
                clear hmj
                go_wp2_with (at_builtin; refine wpList_append_seg _ rfl (.tmp 46) (.tmp 48) 45 rfl gb 5 i0 _ 1 1 Tryd.underlying45 hi hz0 hz1 hz2 rfl (by decide) (.slice ar (n + j) cr) (n + j) us rfl (hseg.alloc _) ⟨wr.heap.size, 0, none⟩ 1 1 [.int .u8 1] rfl rfl (cells_new _ _ _) (by simp [Value.oneCell']) (by decide) (by unfold maxLen; omega) (by omega) (by simp; omega) (wr.heap.size + 1) (size_alloc _ _) ?_; intro g' off' cap' w4 hown hgrow hat)
                have hbi2 := hbi
                rw [← HGB.out] at hbi2
                have hbb := Below.only (Below.chainAlloc hbi2 _) (Only.of_grown hgrow) (fun x hm => by rw [HGB.out]; exact (hseg.blk x (by simpa using hm)).1)
                rw [HGB.out] at hbb
                clear hbi2
                go_roundg (n - (j + 1))
                case measure => omega
                case rel => exact ⟨j + 1, by omega, by omega, by go_num, by rw [← Nat.add_assoc, HS2.out]; exact hown, hbb⟩
              · have hq : ((m : Int) == (j : Int)) = false := by simp; omega
                rw [if_neg hmj] at HS2
                clear hmj
                go_wp2_with (at_builtin; refine wpList_append_seg _ rfl (.tmp 46) (.tmp 48) 45 rfl gb 5 i0 _ 1 1 Tryd.underlying45 hi hz0 hz1 hz2 rfl (by decide) (.slice ar (n + j) cr) (n + j) us rfl (hseg.alloc _) ⟨wr.heap.size, 0, none⟩ 1 1 [.int .u8 0] rfl rfl (cells_new _ _ _) (by simp [Value.oneCell']) (by decide) (by unfold maxLen; omega) (by omega) (by simp; omega) (wr.heap.size + 1) (size_alloc _ _) ?_; intro g' off' cap' w4 hown hgrow hat)
                have hbi2 := hbi
                rw [← HGB.out] at hbi2
                have hbb := Below.only (Below.chainAlloc hbi2 _) (Only.of_grown hgrow) (fun x hm => by rw [HGB.out]; exact (hseg.blk x (by simpa using hm)).1)
                rw [HGB.out] at hbb
                clear hbi2
                go_roundg (n - (j + 1))
                case measure => omega
                case rel => exact ⟨j + 1, by omega, by omega, by go_num, by rw [← Nat.add_assoc, HS2.out]; exact hown, hbb⟩
            · obtain rfl : j = n := by omega
              rw [List.take_of_length_le (by rw [HLL.out]; exact Nat.le_refl _)] at hseg
              have hrow := RowAt.of_seg hseg H256.out
              have hll := HLL.out
              rw [← HGB.out] at hbi
              replace hs := hs.chain hbi
              replace hB := Below.chain hbi hB
              have hbz : w.heap.size ≤ wr.heap.size := hB.size
              obtain ⟨vs, hv1, hv2, hv3⟩ := hs
              have hv2' := hv2
              rw [HTL.out] at hv2
              have hdj : ¬ j < j := by omega
              clear hbi hseg hll
              go_wp2_with (at_builtin; refine wpList_append_seg _ rfl (.tmp 50) (.tmp 52) 67 rfl w.heap.size 45 j0 _ 1 24 Tryd.underlying67 hj hy0 hy1 hy2 rfl (by decide) (.slice ao m co) m vs rfl (hv2.alloc _) ⟨wr.heap.size, 0, none⟩ 1 1 [.slice ar (j + j) cr] rfl rfl (cells_new _ _ _) (by simp [Value.oneCell']) (by decide) (by unfold maxLen; omega) (by omega) (by simp; omega) (wr.heap.size + 1) (size_alloc _ _) ?_; intro g' off' cap' w4 hown2 hgrow2 hat2)
              have hbb := Below.only (Below.chainAlloc hB _) (Only.of_grown hgrow2) (fun x hm => (hv2.blk x (by simpa using hm)).1)
              have hsm := SegM.snoc hv1 hv2' hv3 hrow (by rw [HTL.out]; exact hown2) hgrow2
              rw [← HSN.out] at hsm
              clear hgrow2 hat2 hv2 hv2' hv3 hB hown2 hrow
              go_wp2_with fail
              go_roundg (j - (m + 1))
              case measure => omega
              case rel => exact ⟨m + 1, by omega, by omega, by go_num, hsm, hbb⟩
        · obtain rfl : m = n := by omega
          rw [List.take_of_length_le (by rw [HZL.out]; exact Nat.le_refl _)] at hs
          have hmat := hs.mat
          have hRD := fun wx (hx : Below wr.heap.size wr wx) => reduced_any 0 _ Z m (m + m) m n1 n2 HZL.out HZW.out (by omega) (by omega) wx (hmat.chain hx)
          have HRD := Lib.hid (hRD wr (Below.refl _ _))
          have hdm : ¬ m < m := by omega
          clear hRD hmat hs htl
          go_wp2_with fail
          refine HRD.out.mono ?_
          rintro e w4 ⟨g4, o4, c4, rfl, ho, hg4, hc4, hc5, hb4⟩
          rw [HRED.out] at ho ⊢
          have hgl : w.heap.size ≤ g4 := Nat.le_trans hB.size hg4
          replace hB := Below.chain hb4 hB
          clear hb4 HRD HRED HZG HZL HZW
          obtain ⟨hI1, hI2, hI3, hI4, hI5⟩ := HINV.out
          generalize redI rows = R at *
          obtain ⟨A, R1, R2⟩ := R
          dsimp only at *
          by_cases hsing : A < m
          · have HQ := Lib.hid (HSING.out w4 hsing hB)
            clear ho HSING HOK HINV
            go_wp2_with fail
            go_ret2
            exact HQ.out
          · have HL2 : Hid (R2.length = (zw R1 R2).length) := by show _ = _; rw [zw_length (by rw [hI2, hI1]), hI1, hI2]
            have HOK2 := Lib.hid (fun wx h hx => HOK.out wx (.slice (some ⟨g4, o4, none⟩) m c4) hsing h hx)
            have HI2 := Lib.hid hI2
            have HGETR : Hid (∀ q (h : q < m), ((soFar R2 (zw R1 R2) q)[q]'(by rw [soFar_length R2 _ q HL2.out (by rw [HI2.out]; omega), HI2.out]; exact h)) = (R1[q]'(by rw [hI1]; exact h)) ++ (R2[q]'(by rw [HI2.out]; exact h))) := fun q h => by
              rw [soFar_get R2 _ q HL2.out (by rw [← HL2.out, HI2.out]; exact h), zw_get (by rw [HI2.out, hI1]) q (by rw [hI1]; exact h)]
            have HLR1 : Hid (∀ q (h : q < m), (R1[q]'(by rw [hI1]; exact h)).length = m) := fun q h => hI4 q (by rw [hI1]; exact h)
            have HLR2 : Hid (∀ q (h : q < m), (R2[q]'(by rw [HI2.out]; exact h)).length = m) := fun q h => hI5 q (by rw [HI2.out]; exact h)
            clear HSING HOK HINV hI4 hI5
            go_wp2_with fail
            go_loopg [13] m (fun g13 i wx => ∃ q : Nat, q ≤ m ∧ m ≤ q + g13 ∧ i = .int .i64 q ∧ OwnM wx g4 o4 (soFar R2 (zw R1 R2) q) ∧ Below w.heap.size w wx)
            case atStart => exact ⟨0, by omega, by omega, rfl, by rw [soFar_zero]; exact ho, hB⟩
            case round =>
              clear ho hB
              obtain ⟨q, hq, hgq, rfl, ho, hB⟩ := hrel
              by_cases hqm : q < m
              · have hsl := soFar_length R2 (zw R1 R2) q HL2.out (by rw [HI2.out]; omega)
                rw [HI2.out] at hsl
                obtain ⟨a1, c1, m1, r1⟩ := ho.read q (by omega)
                rw [HGETR.out q hqm] at m1 r1
                rw [List.length_append, HLR1.out q hqm, HLR2.out q hqm] at m1 r1
                obtain ⟨_, _, e, hc⟩ := r1.at
                rw [List.length_append, HLR1.out q hqm, HLR2.out q hqm] at e
                cases e
                obtain ⟨gr, ofr, rfl, hgr, -⟩ := hc 0 (by rw [List.length_append, HLR1.out q hqm, HLR2.out q hqm]; omega)
                obtain ⟨hk1, hk2⟩ := r1.cap
                have hfr := ho.free (o4 + q)
                have hdrop := r1.drop (n := m) (by rw [List.length_append, HLR1.out q hqm]; omega)
                rw [List.drop_append_of_le_length (by rw [HLR1.out q hqm]; exact Nat.le_refl _), List.drop_of_length_le (by rw [HLR1.out q hqm]; exact Nat.le_refl _), List.nil_append, Nat.add_sub_cancel] at hdrop
                have hset := soFar_set R2 (zw R1 R2) q HL2.out (by rw [HI2.out]; exact hqm)
                have HSET := Lib.hid hset
                have HSL := Lib.hid hsl
                clear hc hset hsl r1
                unfold maxLen at hk2
                go_wp2_with fail
                have hon := ho.store q (by rw [HSL.out]; exact hqm) _ _ _ _ hdrop
                rw [HSET.out] at hon
                have hBn := hB.setCell (p := ⟨g4, o4 + q, none⟩) hgl (.slice (some ⟨gr, ofr + m, none⟩) m (c1 - m))
                go_roundg (m - (q + 1))
                case measure => omega
                case rel => exact ⟨q + 1, by omega, by omega, by go_num, hon, hBn⟩
              · obtain rfl : q = m := by omega
                rw [soFar_end _ _ q HI2.out (by rw [← HL2.out, HI2.out])] at ho
                have HQ := Lib.hid (HOK2.out wr (ho.mat HI2.out.symm hc4 hc5) hB)
                have hdq : ¬ q < q := by omega
                clear ho
                go_wp2_with fail
                go_ret2
                exact HQ.out
    · have heq : ((wid rows : Int) != (rows.length : Int)) = true := by simp; omega
      have HP : Hid (∀ wx, Below w.heap.size w wx → InvPost rows w (.returned (.tuple #[.slice none 0 0, .int .i64 16])) wx) := fun wx hx => InvPost.no (invE_len hc hl) (by decide) hx
      have hck2 := fun w' (hb : Below w.heap.size w w') => (hb.cell (p := ⟨g, off, none⟩) hg).trans hck
      have HCK := Lib.hid hck2
      clear hc hl hck hck2 HW
      generalize wid rows = x at *
      go_enter Tryd.func24, Tryd.ntmps24
      go_wp2_with fail
      refine (rcheck_any B _ rows _ h0).mono ?_
      rw [HC.out]
      rintro e wa ⟨rfl, hd⟩
      have hck := HCK.out _ hd.below
      have HQ := Lib.hid (HP.out _ hd.below)
      clear hd
      go_wp2_with fail
      go_ret2
      exact HQ.out
  · have hce : (chkM rows != 0) = true := by simpa using hc
    have HP : Hid (∀ wx, Below w.heap.size w wx → InvPost rows w (.returned (.tuple #[.slice none 0 0, .int .i64 (chkM rows)])) wx) := fun wx hx => InvPost.no (invE_chk hc) hc hx
    clear hc hc0
    go_enter Tryd.func24, Tryd.ntmps24
    go_wp2_with fail
    refine (rcheck_any B _ rows _ h0).mono ?_
    rintro e wa ⟨rfl, hd⟩
    have HQ := Lib.hid (HP.out _ hd.below)
    clear hd
    generalize chkM rows = z at *
    go_wp2_with fail
    go_ret2
    exact HQ.out
end Go.Proofs.YtelpkddgcmikfaaDoor
namespace Go.Proofs.YtelpkddgcmikfaaDoor
open Go.RowKit
set_option linter.unusedVariables false
set_option maxRecDepth 100000
set_option maxHeartbeats 4000000
def dotS (r : List Nat) (Q : Tab) (j m : Nat) : Nat := (List.range m).foldl (fun x k => x ^^^ gm (r.getD k 0) (entM Q k j)) 0
def mulSo (r : List Nat) (Q : Tab) (m : Nat) : List Nat := (List.range (wid Q)).map fun j => dotS r Q j m
def mulE (A Q : Tab) : Int := if chkM A ≠ 0 then chkM A else if chkM Q ≠ 0 then chkM Q else if wid A ≠ Q.length then 16 else 0
def mulT (A Q : Tab) : Tab := A.map fun r => mulSo r Q Q.length
def mulV (A Q : Tab) : Tab := if mulE A Q = 0 then mulT A Q else []
theorem dotS_succ (r : List Nat) (Q : Tab) (j m : Nat) : dotS r Q j (m + 1) = dotS r Q j m ^^^ gm (r.getD m 0) (entM Q m j) := by
  unfold dotS
  rw [List.range_succ, List.foldl_append]
  rfl
theorem mulSo_length (r : List Nat) (Q : Tab) (m : Nat) : (mulSo r Q m).length = wid Q := by simp [mulSo]
theorem mulSo_zero (r : List Nat) (Q : Tab) : mulSo r Q 0 = List.replicate (wid Q) 0 := by
  unfold mulSo
  apply List.ext_getElem
  · simp
  · intro j h1 h2
    simp [dotS]
theorem mulSo_succ (r : List Nat) (Q : Tab) (m : Nat) (hm : m < Q.length) (hw : Q[m].length = wid Q) : mulAddL (mulSo r Q m) (r.getD m 0) Q[m] = mulSo r Q (m + 1) := by
  unfold mulAddL addL mulSo
  apply List.ext_getElem
  · simp [scaleL, hw]
  · intro j h1 h2
    have hj : j < wid Q := by simpa using h2
    simp only [List.getElem_zipWith, List.getElem_map, List.getElem_range]
    rw [dotS_succ]
    congr 1
    simp only [scaleL, List.getElem_map]
    rw [entM_get Q m j hm (by rw [hw]; exact hj)]
theorem dotS_lt (r : List Nat) (Q : Tab) (j : Nat) : ∀ m, dotS r Q j m < 256
  | 0 => by simp [dotS]
  | m + 1 => by
    rw [dotS_succ]
    exact Nat.xor_lt_two_pow (n := 8) (dotS_lt r Q j m) (gm_lt _ _)
theorem mulSo_lt (r : List Nat) (Q : Tab) (m : Nat) : ∀ x ∈ mulSo r Q m, x < 256 := fun x hx => by
  obtain ⟨j, _, rfl⟩ := List.mem_map.1 hx
  exact dotS_lt r Q j m
theorem mulT_length (A Q : Tab) : (mulT A Q).length = A.length := by simp [mulT]
def MulPost (A Q : Tab) (w : World) (e : Ending) (w' : World) : Prop := ∃ v, e = .returned (.tuple #[v, .int .i64 (mulE A Q)]) ∧ MatAt 0 w' v (mulV A Q) ∧ Below w.heap.size w w'
theorem MulPost.no {A Q : Tab} {w w' : World} {z : Int} (h : mulE A Q = z) (hz : z ≠ 0) (hb : Below w.heap.size w w') : MulPost A Q w (.returned (.tuple #[.slice none 0 0, .int .i64 z])) w' :=
  ⟨_, by rw [h], by unfold mulV; rw [if_neg (by omega)]; exact MatAt.nil _ _, hb⟩
theorem MulPost.yes {A Q : Tab} {w w' : World} {v : Value} (h : mulE A Q = 0) (hm : MatAt 0 w' v (mulT A Q)) (hb : Below w.heap.size w w') : MulPost A Q w (.returned (.tuple #[v, .int .i64 0])) w' :=
  ⟨_, by rw [h], by unfold mulV; rw [if_pos h]; exact hm, hb⟩
theorem mulE_a {A Q : Tab} (h : chkM A ≠ 0) : mulE A Q = chkM A := by unfold mulE; rw [if_pos h]
theorem mulE_q {A Q : Tab} (h : chkM A = 0) (h2 : chkM Q ≠ 0) : mulE A Q = chkM Q := by unfold mulE; rw [if_neg (by omega), if_pos h2]
theorem mulE_l {A Q : Tab} (h : chkM A = 0) (h2 : chkM Q = 0) (h3 : wid A ≠ Q.length) : mulE A Q = 16 := by unfold mulE; rw [if_neg (by omega), if_neg (by omega), if_pos h3]
theorem mulE_ok {A Q : Tab} (h : chkM A = 0) (h2 : chkM Q = 0) (h3 : wid A = Q.length) : mulE A Q = 0 := by unfold mulE; rw [if_neg (by omega), if_neg (by omega), if_neg (by omega)]
end Go.Proofs.YtelpkddgcmikfaaDoor
