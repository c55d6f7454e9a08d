/-
  Tables of bytes: a table is made plain: the document's way, plain and its contract (chapter 3).
-/
import Derived.Test.YtibilabhokkhmaaMx12
namespace Go.Proofs.Ytibilabhokkhmaa
open Go.RowKit
set_option linter.unusedVariables false
set_option maxRecDepth 100000
set_option maxHeartbeats 4000000
def rstep (row place : Nat) (R : Tab) (i : Nat) : Tab := if i = row then R else addR R (entM R i place) i row
def rclr (row place : Nat) (R : Tab) (m : Nat) : Tab := (List.range m).foldl (rstep row place) R
theorem rclr_succ (row place : Nat) (R : Tab) (m : Nat) : rclr row place R (m + 1) = rstep row place (rclr row place R m) m := by
  unfold rclr
  rw [List.range_succ, List.foldl_append]
  rfl
theorem rstep_len (row place : Nat) (R : Tab) (i : Nat) : (rstep row place R i).length = R.length := by
  unfold rstep
  split
  · rfl
  · exact addR_length _ _ _ _
theorem rclr_len (row place : Nat) (R : Tab) : ∀ m, (rclr row place R m).length = R.length
  | 0 => rfl
  | m + 1 => by rw [rclr_succ, rstep_len, rclr_len row place R m]
theorem rclr_wide {row place x : Nat} {R : Tab} (h : Wide R x) (hr : row < R.length) : ∀ m, m ≤ R.length → Wide (rclr row place R m) x
  | 0, _ => h
  | m + 1, hm => by
    rw [rclr_succ]
    have h1 := rclr_wide (place := place) h hr m (by omega)
    have h2 := rclr_len row place R m
    unfold rstep
    split
    · exact h1
    · exact addR_wide h1 (by omega) (by omega)
def rput (a i place : Nat) (M : Tab) : Tab := (M.set i (M.getD a [])).set a (scaleL (gi (entM M i place)) (M.getD i []))
theorem rput_len (a i place : Nat) (M : Tab) : (rput a i place M).length = M.length := by simp [rput]
theorem rput_wide {a i place x : Nat} {M : Tab} (h : Wide M x) (ha : a < M.length) (hi : i < M.length) : Wide (rput a i place M) x := by
  unfold rput
  rw [getD_get M a _ ha, getD_get M i _ hi]
  exact (h.set (h a ha)).set (by rw [scaleL_length]; exact h i hi)
def rstepP (s : Nat × Tab) (place : Nat) : Nat × Tab :=
  if s.1 = s.2.length then s else match pivL s.2 s.1 place with
    | none => s
    | some i => (s.1 + 1, rclr s.1 place (rput s.1 i place s.2) s.2.length)
def rred (M : Tab) (p : Nat) : Nat × Tab := (List.range p).foldl rstepP (0, M)
theorem rred_succ (M : Tab) (p : Nat) : rred M (p + 1) = rstepP (rred M p) p := by
  unfold rred
  rw [List.range_succ, List.foldl_append]
  rfl
theorem rstepP_full {s : Nat × Tab} (h : s.1 = s.2.length) (p : Nat) : rstepP s p = s := by unfold rstepP; rw [if_pos h]
theorem rstepP_none {s : Nat × Tab} (h : s.1 ≠ s.2.length) (p : Nat) (hp : pivL s.2 s.1 p = none) : rstepP s p = s := by unfold rstepP; rw [if_neg h, hp]
theorem rstepP_some {s : Nat × Tab} (h : s.1 ≠ s.2.length) (p i : Nat) (hp : pivL s.2 s.1 p = some i) : rstepP s p = (s.1 + 1, rclr s.1 p (rput s.1 i p s.2) s.2.length) := by unfold rstepP; rw [if_neg h, hp]
theorem rred_full {M : Tab} {p : Nat} (h : (rred M p).1 = (rred M p).2.length) : ∀ k, rred M (p + k) = rred M p
  | 0 => rfl
  | k + 1 => by
    rw [← Nat.add_assoc, rred_succ, rred_full h k]
    exact rstepP_full h _
theorem rstepP_inv {s : Nat × Tab} {p x n : Nat} (h1 : s.2.length = n) (ha : s.1 ≤ n) (hx : Wide s.2 x) : (rstepP s p).2.length = n ∧ (rstepP s p).1 ≤ n ∧ Wide (rstepP s p).2 x := by
  by_cases hf : s.1 = s.2.length
  · rw [rstepP_full hf]; exact ⟨h1, ha, hx⟩
  · cases hp : pivL s.2 s.1 p with
    | none => rw [rstepP_none hf p hp]; exact ⟨h1, ha, hx⟩
    | some i =>
      rw [rstepP_some hf p i hp]
      have hs := pivL_spec hp
      have l1 : (rput s.1 i p s.2).length = n := by rw [rput_len, h1]
      have w1 := rput_wide (a := s.1) (i := i) (place := p) hx (by omega) (by omega)
      exact ⟨(rclr_len _ _ _ _).trans l1, by show s.1 + 1 ≤ n; omega, rclr_wide w1 (by omega) _ (by omega)⟩
theorem rred_inv {M : Tab} {x n : Nat} (h1 : M.length = n) (hx : Wide M x) : ∀ p, (rred M p).2.length = n ∧ (rred M p).1 ≤ n ∧ Wide (rred M p).2 x
  | 0 => ⟨h1, Nat.zero_le _, hx⟩
  | p + 1 => by
    rw [rred_succ]
    have h := rred_inv h1 hx p
    exact rstepP_inv h.1 h.2.1 h.2.2
theorem SegM.cap {w : World} {base n cap : Nat} {a : Option Addr} {rows : Tab} (h : SegM w base (.slice a n cap) rows) : n ≤ cap ∧ cap ≤ maxLen := by
  obtain ⟨vs, h1, h2, _⟩ := h.mat
  obtain ⟨a', c', e, h3, h4, _⟩ := h2
  cases e
  exact ⟨h3, h4⟩
theorem AddPost.eq {w w' : World} {a b : List Nat} {e : Ending} {c x : Nat} (h : AddPost w a (scaleL c b) e w') (ha : a.length = x) (hb : b.length = x) :
    ∃ a3 c3, e = .returned (.tuple #[.slice a3 x c3, .int .i64 0]) ∧ RowAt 0 w' (.slice a3 x c3) (mulAddL a c b) ∧ Below w.heap.size w w' := by
  have hlen : a.length = (scaleL c b).length := by rw [scaleL_length, ha, hb]
  obtain ⟨v, rfl, hr, hB⟩ := h
  have hV : addV a (scaleL c b) = mulAddL a c b := by unfold addV; rw [if_pos hlen]; rfl
  have hE : lenE a (scaleL c b) = 0 := by unfold lenE; rw [if_pos hlen]
  rw [hV] at hr
  obtain ⟨a3, c3, rfl, -⟩ := hr.at
  have hx : (mulAddL a c b).length = x := by unfold mulAddL; rw [addL_length _ _ hlen, ha]
  rw [hx] at hr ⊢
  exact ⟨a3, c3, by rw [hE], hr, hB⟩
def RedPost (M : Tab) (p n : Nat) (w : World) (e : Ending) (w' : World) : Prop :=
  ∃ g off cap, e = .returned (.tuple #[.slice (some ⟨g, off, none⟩) n cap, .int .i64 ((rred M p).1 : Nat)]) ∧ OwnM w' g off (rred M p).2 ∧ w.heap.size ≤ g ∧ n ≤ cap ∧ cap ≤ maxLen ∧ Below w.heap.size w w'
theorem reduced_any (B : Nat) (v : Value) (M : Tab) (n x p : Nat) (hn0 : 1 ≤ n) (hn : n ≤ 255) (hl : M.length = n) (hM : Wide M x) (hx : x ≤ 510) (hp : p ≤ x) (w : World) (h : MatAt B w v M) :
    Calls Try.prog 51 #[v, .int .i64 p] w (RedPost M p n w) := by
  have hcp := rcopied_any B v M (by omega) (fun i hi => by rw [hM i hi]; omega) w h
  obtain ⟨a, cap, e, hmx, -⟩ := h.at
  rw [hl] at e
  subst e
  have HC := Lib.hid hcp
  have HINV := Lib.hid (fun k => rred_inv hl hM k)
  have HL := Lib.hid hl
  clear hcp h hmx hl hM
  go_enter Try.func51, Try.ntmps51
  go_wp2_with fail
  refine HC.out.mono ?_
  rintro e w1 ⟨v', rfl, hs, hB⟩
  clear HC
  obtain ⟨ao, co, rfl⟩ := hs.form HL.out
  obtain ⟨hc1, hc2⟩ := hs.cap
  obtain ⟨_, _, e, -, hc⟩ := hs.mat.at
  rw [HL.out] at e
  cases e
  obtain ⟨g, off, u, rfl, hg, -, -⟩ := hc 0 (by rw [HL.out]; exact hn0)
  have hgb := (hs.blk g (by rfl)).1
  have ho := hs.own HL.out.symm
  clear hc hs
  go_wp2_with fail
  go_loopg [6, 7, 8, 9, 10, 11, 12, 13, 14] p (fun gk at' j _ _ _ _ _ _ _ wr => ∃ k : Nat, k ≤ p ∧ p ≤ k + gk ∧ j = .int .i64 k ∧ at' = .int .i64 ((rred M k).1 : Nat) ∧ OwnM wr g off (rred M k).2 ∧ Below w.heap.size w wr)
  case atStart => exact ⟨0, by omega, by omega, rfl, rfl, ho, hB⟩
  case round =>
    clear ho hB
    obtain ⟨k, hkp, hgk, rfl, rfl, ho, hB⟩ := hrel
    obtain ⟨i1, i2, i3⟩ := HINV.out k
    have HSTEP := Lib.hid (rred_succ M k)
    have HFULL := Lib.hid (rred_full (M := M) (p := k))
    by_cases hlt : k < p
    · have hd1 : decide ((k : Int) < (p : Int)) = true := by simp; omega
      by_cases hfull : (rred M k).1 = n
      · have hd2 : ¬ (rred M k).1 < n := by omega
        have hfin : rred M p = rred M k := by
          have := HFULL.out (by rw [i1]; exact hfull) (p - k)
          rwa [show k + (p - k) = p by omega] at this
        have HP : Hid (RedPost M p n w (.returned (.tuple #[.slice (some ⟨g, off, none⟩) n co, .int .i64 ((rred M k).1 : Nat)])) wr) := ⟨g, off, co, by rw [hfin], by rw [hfin]; exact ho, hgb, hc1, hc2, hB⟩
        clear hfin hfull HSTEP HFULL ho i1 i2 i3
        generalize rred M k = s at *
        go_wp2_with fail
        go_ret2
        exact HP.out
      · have hnf : (rred M k).1 ≠ (rred M k).2.length := by rw [i1]; exact hfull
        have HNONE := Lib.hid (fun h => HSTEP.out.trans (rstepP_none hnf k h))
        have HSOME := Lib.hid (fun i h => HSTEP.out.trans (rstepP_some hnf k i h))
        have HPS := Lib.hid (fun i h => pivL_spec (M := (rred M k).2) (a := (rred M k).1) (place := k) (j := i) h)
        have han : (rred M k).1 < n := by omega
        have hkx : k < x := by omega
        have hpl0 : pivL (rred M k).2 (rred M k).1 k = pivN (rred M k).2 k (n - (rred M k).1) (rred M k).1 := by unfold pivL; rw [i1]
        have HPL := Lib.hid hpl0
        clear hpl0 hnf hfull HSTEP HFULL
        generalize hs : rred M k = s at *
        obtain ⟨A, R⟩ := s
        dsimp only at *
        clear hs
        have I3 := Lib.hid i3
        have lg := ho.lt
        clear i3
        go_wp2_with fail
        go_loopg [8] n (fun g8 i wx => wx = wr ∧ ∃ m : Nat, A ≤ m ∧ m ≤ n ∧ n ≤ m + g8 ∧ i = .int .i64 m ∧ pivL R A k = pivN R k (n - m) m)
        case atStart => exact ⟨rfl, A, Nat.le_refl _, by omega, by omega, rfl, HPL.out⟩
        case round =>
          obtain ⟨rfl, m, hm1, hm2, hgm, rfl, hpv⟩ := hrel
          have HV := Lib.hid hpv
          clear hpv
          by_cases hmn : m < n
          · have hd3 : decide ((m : Int) < (n : Int)) = true := by simp; omega
            obtain ⟨a1, c1, m1, r1⟩ := ho.read m (by omega)
            obtain ⟨_, _, e, hc⟩ := r1.at
            cases e
            have hmR : m < R.length := by rw [i1]; exact hmn
            have HXM : Hid (R[m].length = x) := I3.out m hmR
            have hkR : k < R[m].length := by rw [HXM.out]; exact hkx
            obtain ⟨gr, ofr, rfl, hgr, hck⟩ := hc k hkR
            have HENT : Hid (entM R m k = R[m][k]) := entM_get R m k hmR hkR
            rw [← HENT.out] at hck
            rw [HXM.out] at m1 r1
            clear hc
            have hb256 : entM R m k < 256 := entM_lt ho.bytes m k
            by_cases hz : entM R m k = 0
            · have hs := pivN_step R k (n - (m + 1)) m hz
              rw [show n - (m + 1) + 1 = n - m by omega] at hs
              have HS := Lib.hid (HV.out.trans hs)
              rw [hz] at hck
              clear hs hz hb256
              go_wp2_with fail
              go_roundg (n - (m + 1))
              case measure => omega
              case rel => exact ⟨rfl, m + 1, by omega, by omega, by omega, by go_num, HS.out⟩
            · have hne : ((entM R m k : Int) == 0) = false := by simp; omega
              have hs := pivN_hit R k (n - (m + 1)) m hz
              rw [show n - (m + 1) + 1 = n - m by omega] at hs
              have hst := HSOME.out m (by rw [HV.out, hs])
              have HST := Lib.hid hst
              have hpos : 0 < entM R m k := by omega
              have hdm : ((m : Int) == (n : Int)) = false := by simp; omega
              obtain ⟨a2, c2, m2, r2⟩ := ho.read A (by omega)
              have hxa := I3.out A (by omega)
              rw [hxa] at m2 r2
              have HXA := Lib.hid hxa
              have hfr := ho.free (off + m)
              clear hs hst hz hxa
              have HRP : Hid (rput A m k R = (R.set m (R[A]'(by omega))).set A (scaleL (gi (entM R m k)) (R[m]'(by omega)))) := by
                unfold Hid rput
                rw [getD_get R A [] (by omega), getD_get R m [] (by omega)]
              generalize entM R m k = y at *
              go_upto_region 12 with fail
              have r1s := r1.store ⟨g, off + m, none⟩ (.slice a2 x c2) ho.apart
              obtain ⟨_, _, e, hcs⟩ := r1s.at
              rw [HXM.out] at e
              cases e
              obtain ⟨_, _, e, -, hck2⟩ := hcs k (by rw [HXM.out]; exact hkx)
              cases e
              have hos := ho.store m (by omega) a2 x c2 _ r2
              have hBs := hB.setCell (p := ⟨g, off + m, none⟩) hgb (.slice a2 x c2)
              clear ho hB r1 r2 m1 m2 hfr hcs hgr lg hck
              generalize wr.setCell ⟨g, off + m, none⟩ (.slice a2 x c2) = w2 at *
              have hyk : R[m][k] = y := HENT.out.symm
              rw [hyk] at hck2
              clear hyk
              have HRI := Lib.hid (fun wx => rinv_any y hpos hb256 wx)
              have hgi : gi y < 256 := expT_lt _
              generalize gi y = cc at *
              go_wp2_with fail
              refine (HRI.out _).mono ?_
              rintro e w3 ⟨rfl, rfl⟩
              clear hck2 HRI
              go_wp2_with fail
              refine (rscale_any cc hgi 0 _ _ (by rw [HXM.out]; omega) _ r1s).mono ?_
              rintro e w3 ⟨v3, rfl, r3, hB3⟩
              obtain ⟨a3, c3, rfl, -⟩ := r3.at
              have hx3 : (scaleL cc (R[m]'(by omega))).length = x := by rw [scaleL_length, HXM.out]
              rw [hx3] at r3
              replace hos := hos.chain hB3
              replace hBs := Below.chain hB3 hBs
              obtain ⟨az, cz, hcz, -⟩ := hos.read A (by simp; omega)
              have hfz := hos.free (off + A)
              rw [hx3]
              clear hB3 hx3 r1s
              go_upto_region 14 with fail
              have hot := hos.store A (by simp; omega) a3 x c3 _ r3
              rw [← HRP.out] at hot
              have hBt := hBs.setCell (p := ⟨g, off + A, none⟩) hgb (.slice a3 x c3)
              clear hos hBs r3 hcz hfz
              generalize w3.setCell ⟨g, off + A, none⟩ (.slice a3 x c3) = w4 at *
              have HR1l : Hid ((rput A m k R).length = n) := by show _ = n; rw [rput_len, i1]
              have HR1w : Hid (Wide (rput A m k R) x) := rput_wide I3.out (by omega) (by omega)
              have HRN : Hid (R.length = n) := i1
              clear HRP HXA HXM HENT HV HPL HPS HSOME HNONE
              generalize rput A m k R = R1 at *
              go_wp2_with fail
              go_loopg [12, 13, 14] n (fun g12 i _ _ wx => ∃ q : Nat, q ≤ n ∧ n ≤ q + g12 ∧ i = .int .i64 q ∧ OwnM wx g off (rclr A k R1 q) ∧ Below w.heap.size w wx)
              case atStart => exact ⟨0, by omega, by omega, rfl, hot, hBt⟩
              case round =>
                clear hot hBt
                obtain ⟨q, hq, hgq, rfl, hot, hBt⟩ := hrel
                have HS := Lib.hid (rclr_succ A k R1 q)
                have HW := Lib.hid (rclr_wide (place := k) HR1w.out (by rw [HR1l.out]; exact han) q (by rw [HR1l.out]; exact hq))
                have hlq := rclr_len A k R1 q
                rw [HR1l.out] at hlq
                by_cases hqn : q < n
                · by_cases hqA : q = A
                  · have hst := HS.out.trans (show rstep A k (rclr A k R1 q) q = _ by unfold rstep; rw [if_pos hqA])
                    have HQ := Lib.hid hst
                    have hda : ((q : Int) != (A : Int)) = false := by simp; omega
                    clear hst HS hlq
                    generalize rclr A k R1 q = R2 at *
                    clear hqA
                    go_wp2_with fail
                    go_roundg (n - (q + 1))
                    case measure => omega
                    case rel => exact ⟨q + 1, by omega, by omega, by go_num, by rw [HQ.out]; exact hot, hBt⟩
                  · have hst := HS.out.trans (show rstep A k (rclr A k R1 q) q = _ by unfold rstep; rw [if_neg hqA])
                    have HQ := Lib.hid hst
                    have hda : ((q : Int) != (A : Int)) = true := by simp; omega
                    clear hst HS hqA
                    generalize rclr A k R1 q = R2 at *
                    obtain ⟨b1, d1, m1, r1⟩ := hot.read q (by omega)
                    obtain ⟨b2, d2, m2, r2⟩ := hot.read A (by omega)
                    obtain ⟨_, _, e, hc⟩ := r1.at
                    cases e
                    obtain ⟨gr, ofr, rfl, hgr, hck⟩ := hc k (by rw [HW.out q (by omega)]; exact hkx)
                    have hent := entM_get R2 q k (by omega) (by rw [HW.out q (by omega)]; exact hkx)
                    rw [← hent] at hck
                    have hy256 : entM R2 q k < 256 := entM_lt hot.bytes q k
                    have h1 := HW.out q (by omega)
                    have h2 := HW.out A (by omega)
                    have HADD : Hid (addR R2 (entM R2 q k) q A = R2.set q (mulAddL (R2[q]'(by omega)) (entM R2 q k) (R2[A]'(by omega)))) := by
                      unfold Hid addR
                      rw [getD_get R2 A [] (by omega), getD_get R2 q [] (by omega)]
                    rw [h1] at m1 r1
                    rw [h2] at m2 r2
                    have lt := hot.lt
                    have H1 := Lib.hid h1
                    have H2 := Lib.hid h2
                    clear hc hent h1 h2
                    generalize entM R2 q k = y at *
                    have hmk : ∀ w', Below wr.heap.size wr w' → (w'.cell? ⟨g, off + q, none⟩ = some (.slice (some ⟨gr, ofr, none⟩) x d1) ∧ w'.cell? ⟨g, off + A, none⟩ = some (.slice b2 x d2) ∧ w'.cell? ⟨gr, ofr + k, none⟩ = some (.int .u8 (y : Nat)) ∧ Below wr.heap.size wr w') := fun w' h =>
                      ⟨(h.cell (p := ⟨g, off + q, none⟩) lt).trans m1, (h.cell (p := ⟨g, off + A, none⟩) lt).trans m2, (h.cell (p := ⟨gr, ofr + k, none⟩) hgr).trans hck, h⟩
                    have HMK := Lib.hid hmk
                    clear hmk m1 m2 hck
                    go_upto_region 18 with fail
                    go_region_held3 (fun w' => w'.cell? ⟨g, off + q, none⟩ = some (.slice (some ⟨gr, ofr, none⟩) x d1) ∧ w'.cell? ⟨g, off + A, none⟩ = some (.slice b2 x d2) ∧ w'.cell? ⟨gr, ofr + k, none⟩ = some (.int .u8 (y : Nat)) ∧ Below wr.heap.size wr w')
                      (first
                        | exact HMK.out _ (Below.refl _ _).drew
                        | (go_split_ands; exact HMK.out _ (Below.chain hb (by assumption))))
                      ((go_at_call 70; refine (rmuladd_any 0 _ _ _ _ y hy256 (by rw [H1.out]; omega) (by rw [H2.out]; omega) _ (r1.chain (by first | exact (Below.refl _ _).drew | assumption)) (r2.chain (by first | exact (Below.refl _ _).drew | assumption))).mono ?_; rintro e w3 he; obtain ⟨a3, c3, rfl, r3, hb⟩ := AddPost.eq he H1.out H2.out; clear he))
                    go_split_ands
                    have hb3 : Below wr.heap.size wr w3 := by assumption
                    clear hb
                    replace hot := hot.chain hb3
                    replace hBt := Below.chain hb3 hBt
                    obtain ⟨az, cz, hcz, -⟩ := hot.read q (by omega)
                    have hfz := hot.free (off + q)
                    clear hb3 HMK r1 r2
                    go_wp2_with fail
                    have hon := hot.store q (by omega) a3 x c3 _ r3
                    rw [← HADD.out] at hon
                    have hBn := hBt.setCell (p := ⟨g, off + q, none⟩) hgb (.slice a3 x c3)
                    go_roundg (n - (q + 1))
                    case measure => omega
                    case rel => exact ⟨q + 1, by omega, by omega, by go_num, by rw [HQ.out]; exact hon, hBn⟩
                · obtain rfl : q = n := by omega
                  have hdq : ¬ q < q := by omega
                  have hfin := HST.out
                  rw [HRN.out] at hfin
                  have HF := Lib.hid hfin
                  clear hfin HS hlq
                  generalize rclr A k R1 q = R2 at *
                  go_wp2_with fail
                  go_roundg (p - (k + 1))
                  case measure => omega
                  case rel => exact ⟨k + 1, by omega, by omega, by go_num, by rw [HF.out]; go_num, by rw [HF.out]; exact hot, hBt⟩
          · obtain rfl : m = n := by omega
            have hnone : pivL R A k = none := by rw [HV.out, Nat.sub_self]; rfl
            have hst := HNONE.out hnone
            have HST := Lib.hid hst
            have hd3 : ¬ m < m := by omega
            clear hst hnone
            go_wp2_with fail
            go_roundg (p - (k + 1))
            case measure => omega
            case rel => exact ⟨k + 1, by omega, by omega, by go_num, by rw [HST.out], by rw [HST.out]; exact ho, hB⟩
    · obtain rfl : k = p := by omega
      have HP : Hid (RedPost M k n w (.returned (.tuple #[.slice (some ⟨g, off, none⟩) n co, .int .i64 ((rred M k).1 : Nat)])) wr) := ⟨g, off, co, rfl, ho, hgb, hc1, hc2, hB⟩
      have hd1 : ¬ k < k := by omega
      clear ho i1 i2 i3 HSTEP HFULL
      generalize rred M k = s at *
      go_wp2_with fail
      go_ret2
      exact HP.out
end Go.Proofs.Ytibilabhokkhmaa
