/-
  Bytes as numbers of a field: the product by shifts and the document's product are the same, by powers and logs; inverses; the field's laws. Plain: no program.
-/
import Derived.Test.YtibilabhokkhmaaBase
namespace Go.Proofs.Ytibilabhokkhmaa
/-- Times two. -/
def xt (a : Nat) : Nat := (a * 2) ^^^ (285 * (a / 128))
/-- The program's product: 'p' what is there, n rounds. -/
def mulGo : Nat → Nat → Nat → Nat → Nat
  | 0, p, _, _ => p
  | n + 1, p, a, b => mulGo n (p ^^^ (a * (b % 2))) (xt a) (b / 2)
def gmul (a b : Nat) : Nat := mulGo 8 0 a b
def mu1 (p a b : Nat) : Nat := p ^^^ (a * (b % 2))
def mu2 (p a b : Nat) : Nat := mu1 (p ^^^ (a * (b % 2))) (xt a) (b / 2)
def mu3 (p a b : Nat) : Nat := mu2 (p ^^^ (a * (b % 2))) (xt a) (b / 2)
def mu4 (p a b : Nat) : Nat := mu3 (p ^^^ (a * (b % 2))) (xt a) (b / 2)
def mu5 (p a b : Nat) : Nat := mu4 (p ^^^ (a * (b % 2))) (xt a) (b / 2)
def mu6 (p a b : Nat) : Nat := mu5 (p ^^^ (a * (b % 2))) (xt a) (b / 2)
def mu7 (p a b : Nat) : Nat := mu6 (p ^^^ (a * (b % 2))) (xt a) (b / 2)
def mu8 (p a b : Nat) : Nat := mu7 (p ^^^ (a * (b % 2))) (xt a) (b / 2)
theorem gmul_mu (a b : Nat) : gmul a b = mu8 0 a b := rfl
/-- The document's product. -/
def rmulA (a b : Nat) : Nat → Nat → Nat
  | 0, p => p
  | n + 1, p => rmulA a b n (p ^^^ ((a <<< (7 - n)) * ((b >>> (7 - n)) % 2)))
def rmulB : Nat → Nat → Nat
  | 0, p => p
  | n + 1, p => rmulB n (p ^^^ ((285 <<< n) * ((p >>> (n + 8)) % 2)))
def rmul (a b : Nat) : Nat := rmulB 8 (rmulA a b 8 0) % 256
def rb1 (p : Nat) : Nat := p ^^^ ((285 <<< 0) * ((p >>> 8) % 2))
def rb2 (p : Nat) : Nat := rb1 (p ^^^ ((285 <<< 1) * ((p >>> 9) % 2)))
def rb3 (p : Nat) : Nat := rb2 (p ^^^ ((285 <<< 2) * ((p >>> 10) % 2)))
def rb4 (p : Nat) : Nat := rb3 (p ^^^ ((285 <<< 3) * ((p >>> 11) % 2)))
def rb5 (p : Nat) : Nat := rb4 (p ^^^ ((285 <<< 4) * ((p >>> 12) % 2)))
def rb6 (p : Nat) : Nat := rb5 (p ^^^ ((285 <<< 5) * ((p >>> 13) % 2)))
def rb7 (p : Nat) : Nat := rb6 (p ^^^ ((285 <<< 6) * ((p >>> 14) % 2)))
def rb8 (p : Nat) : Nat := rb7 (p ^^^ ((285 <<< 7) * ((p >>> 15) % 2)))
def rmU (a b : Nat) : Nat := rb8 ((((((((0 ^^^ ((a <<< 0) * ((b >>> 0) % 2))) ^^^ ((a <<< 1) * ((b >>> 1) % 2))) ^^^ ((a <<< 2) * ((b >>> 2) % 2))) ^^^ ((a <<< 3) * ((b >>> 3) % 2))) ^^^ ((a <<< 4) * ((b >>> 4) % 2))) ^^^ ((a <<< 5) * ((b >>> 5) % 2))) ^^^ ((a <<< 6) * ((b >>> 6) % 2))) ^^^ ((a <<< 7) * ((b >>> 7) % 2))) % 256
theorem rmul_rmU (a b : Nat) : rmul a b = rmU a b := rfl
def EXP : Nat := 70160881166704368827218703435136616750530459438269794890424969378298545675077208731798828898087927652446353395360628748027273188182808436399538186061104243134188885576122562338679313492324190829158544377810568631194580132524405266702234305646236648896994794467054525044798919765581988418950285252905306116225263236585714808161311289784028762024137133735135393922581566890382566480334369299400480864790538739986285574563168380416343369614948461817839620668187777978661530364712890858126432457562886306102556561631759900551331094983229723298224611133722330829711659991602983068895685602467964643306841827719562658305
def LOG : Nat := 22135253156888987530748098150270024343632497605293634117281264061560962248099620766229961468867162294233796152347975563017024165690400661622462404646302566225833645086064538892198543335321514950294300187779610338557442029018619797274438901674641748676613670242915365385819254959901651105240253464034662486586186382979728982817772067067513442677601938078891989292316012868233806586592927239821351197800766822366321181463280924672822998103315976779850880337712374790938628529953751181886374687897611504386983350015558142994211516619836411558782076806704747441947939324473761869443721989389604670425385080942269787340800
def expT (i : Nat) : Nat := (EXP >>> (8 * i)) % 256
def logT (a : Nat) : Nat := (LOG >>> (8 * a)) % 256
/-- The product. -/
def gm (a b : Nat) : Nat := if a = 0 ∨ b = 0 then 0 else expT ((logT a + logT b) % 255)
/-- The inverse of what is not 0. -/
def gi (a : Nat) : Nat := expT ((255 - logT a) % 255)
def allLt : Nat → (Nat → Bool) → Bool
  | 0, _ => true
  | n + 1, p => p n && allLt n p
theorem allLt_spec {p : Nat → Bool} : ∀ {n : Nat}, allLt n p = true → ∀ i, i < n → p i = true
  | 0, _, i, h => absurd h (Nat.not_lt_zero _)
  | n + 1, h, i, hi => by
    unfold allLt at h
    rw [Bool.and_eq_true] at h
    by_cases e : i = n
    · subst e; exact h.1
    · exact allLt_spec h.2 i (by omega)
theorem gmul_gm0 : (allLt 64 fun a => allLt 256 fun b => Nat.beq (mu8 0 (0 + a) b) (gm (0 + a) b)) = true := by decide +kernel
theorem gmul_gm1 : (allLt 64 fun a => allLt 256 fun b => Nat.beq (mu8 0 (64 + a) b) (gm (64 + a) b)) = true := by decide +kernel
theorem gmul_gm2 : (allLt 64 fun a => allLt 256 fun b => Nat.beq (mu8 0 (128 + a) b) (gm (128 + a) b)) = true := by decide +kernel
theorem gmul_gm3 : (allLt 64 fun a => allLt 256 fun b => Nat.beq (mu8 0 (192 + a) b) (gm (192 + a) b)) = true := by decide +kernel
theorem rmul_gm0 : (allLt 64 fun a => allLt 256 fun b => Nat.beq (rmU (0 + a) b) (gm (0 + a) b)) = true := by decide +kernel
theorem rmul_gm1 : (allLt 64 fun a => allLt 256 fun b => Nat.beq (rmU (64 + a) b) (gm (64 + a) b)) = true := by decide +kernel
theorem rmul_gm2 : (allLt 64 fun a => allLt 256 fun b => Nat.beq (rmU (128 + a) b) (gm (128 + a) b)) = true := by decide +kernel
theorem rmul_gm3 : (allLt 64 fun a => allLt 256 fun b => Nat.beq (rmU (192 + a) b) (gm (192 + a) b)) = true := by decide +kernel
theorem gmul_gm (a b : Nat) (ha : a < 256) (hb : b < 256) : gmul a b = gm a b := by
  by_cases h0 : a < 64
  · have := Nat.eq_of_beq_eq_true (allLt_spec (allLt_spec gmul_gm0 (a - 0) (by omega)) b hb)
    rwa [show 0 + (a - 0) = a by omega] at this
  by_cases h1 : a < 128
  · have := Nat.eq_of_beq_eq_true (allLt_spec (allLt_spec gmul_gm1 (a - 64) (by omega)) b hb)
    rwa [show 64 + (a - 64) = a by omega] at this
  by_cases h2 : a < 192
  · have := Nat.eq_of_beq_eq_true (allLt_spec (allLt_spec gmul_gm2 (a - 128) (by omega)) b hb)
    rwa [show 128 + (a - 128) = a by omega] at this
  by_cases h3 : a < 256
  · have := Nat.eq_of_beq_eq_true (allLt_spec (allLt_spec gmul_gm3 (a - 192) (by omega)) b hb)
    rwa [show 192 + (a - 192) = a by omega] at this
  omega
theorem rmul_gm (a b : Nat) (ha : a < 256) (hb : b < 256) : rmul a b = gm a b := by
  by_cases h0 : a < 64
  · have := Nat.eq_of_beq_eq_true (allLt_spec (allLt_spec rmul_gm0 (a - 0) (by omega)) b hb)
    rwa [show 0 + (a - 0) = a by omega] at this
  by_cases h1 : a < 128
  · have := Nat.eq_of_beq_eq_true (allLt_spec (allLt_spec rmul_gm1 (a - 64) (by omega)) b hb)
    rwa [show 64 + (a - 64) = a by omega] at this
  by_cases h2 : a < 192
  · have := Nat.eq_of_beq_eq_true (allLt_spec (allLt_spec rmul_gm2 (a - 128) (by omega)) b hb)
    rwa [show 128 + (a - 128) = a by omega] at this
  by_cases h3 : a < 256
  · have := Nat.eq_of_beq_eq_true (allLt_spec (allLt_spec rmul_gm3 (a - 192) (by omega)) b hb)
    rwa [show 192 + (a - 192) = a by omega] at this
  omega
theorem expT_lt (i : Nat) : expT i < 256 := Nat.mod_lt _ (by decide)
theorem gm_lt (a b : Nat) : gm a b < 256 := by unfold gm; split; · omega
                                               · exact expT_lt _
theorem gm_zero_left (b : Nat) : gm 0 b = 0 := by simp [gm]
theorem gm_zero_right (a : Nat) : gm a 0 = 0 := by simp [gm]
theorem gm_comm (a b : Nat) : gm a b = gm b a := by
  unfold gm
  by_cases ha : a = 0 <;> by_cases hb : b = 0 <;> simp [ha, hb, Nat.add_comm]
theorem log_all : (allLt 255 fun i => Nat.ble 1 (expT i) && (Nat.beq (logT (expT i)) i && (Nat.beq (expT (logT (i + 1))) (i + 1) && Nat.blt (logT (i + 1)) 255))) = true := by decide +kernel
theorem log_facts (i : Nat) (h : i < 255) : 0 < expT i ∧ logT (expT i) = i ∧ expT (logT (i + 1)) = i + 1 ∧ logT (i + 1) < 255 := by
  have := allLt_spec log_all i h
  simp only [Bool.and_eq_true] at this
  obtain ⟨h1, h2, h3, h4⟩ := this
  exact ⟨Nat.le_of_ble_eq_true h1, Nat.eq_of_beq_eq_true h2, Nat.eq_of_beq_eq_true h3, by simpa [Nat.blt_eq] using h4⟩
theorem exp_log (a : Nat) (h0 : 0 < a) (ha : a < 256) : expT (logT a) = a ∧ logT a < 255 := by
  have := log_facts (a - 1) (by omega)
  rw [show a - 1 + 1 = a by omega] at this
  exact this.2.2
theorem gm_pos (a b : Nat) (ha : 0 < a) (hb : 0 < b) : 0 < gm a b ∧ gm a b = expT ((logT a + logT b) % 255) := by
  have h : gm a b = expT ((logT a + logT b) % 255) := by
    unfold gm; rw [if_neg (by omega)]
  exact ⟨by rw [h]; exact (log_facts _ (Nat.mod_lt _ (by decide))).1, h⟩
theorem gm_assoc (a b c : Nat) : gm (gm a b) c = gm a (gm b c) := by
  by_cases ha : a = 0
  · subst ha; simp [gm_zero_left]
  by_cases hb : b = 0
  · subst hb; simp [gm_zero_left, gm_zero_right]
  by_cases hc : c = 0
  · subst hc; simp [gm_zero_right]
  obtain ⟨p1, e1⟩ := gm_pos a b (by omega) (by omega)
  obtain ⟨p2, e2⟩ := gm_pos b c (by omega) (by omega)
  rw [(gm_pos (gm a b) c p1 (by omega)).2, (gm_pos a (gm b c) (by omega) p2).2, e1, e2, (log_facts _ (Nat.mod_lt _ (by decide))).2.1, (log_facts _ (Nat.mod_lt _ (by decide))).2.1]
  congr 1
  omega
theorem log_one : logT 1 = 0 := by decide +kernel
theorem exp_zero : expT 0 = 1 := by decide +kernel
theorem gm_one_left (a : Nat) (ha : a < 256) : gm 1 a = a := by
  by_cases h : a = 0
  · subst h; exact gm_zero_right 1
  · obtain ⟨e, l⟩ := exp_log a (by omega) ha
    rw [(gm_pos 1 a (by omega) (by omega)).2, log_one, Nat.zero_add, Nat.mod_eq_of_lt l, e]
theorem gm_one_right (a : Nat) (ha : a < 256) : gm a 1 = a := by rw [gm_comm, gm_one_left a ha]
theorem gi_facts (a : Nat) (h0 : 0 < a) (ha : a < 256) : 0 < gi a ∧ gi a < 256 ∧ gm a (gi a) = 1 := by
  obtain ⟨e, l⟩ := exp_log a h0 ha
  have hp : 0 < gi a := (log_facts _ (Nat.mod_lt _ (by decide))).1
  refine ⟨hp, expT_lt _, ?_⟩
  rw [(gm_pos a (gi a) h0 hp).2]
  unfold gi
  rw [(log_facts _ (Nat.mod_lt _ (by decide))).2.1, show (logT a + (255 - logT a) % 255) % 255 = 0 by omega, exp_zero]
theorem gi_unique (a b : Nat) (h0 : 0 < a) (ha : a < 256) (hb : b < 256) (h : gm a b = 1) : b = gi a := by
  obtain ⟨_, h2, h3⟩ := gi_facts a h0 ha
  have e := gm_assoc (gi a) a b
  rw [gm_comm (gi a) a, h3, h, gm_one_left b hb, gm_one_right _ h2] at e
  exact e
/-- The program's inverse: to the power of 254. -/
def ginvGo : Nat → Nat → Nat → Nat
  | 0, out, _ => out
  | n + 1, out, x => ginvGo n (gm out (gm x x)) (gm x x)
def ginv (a : Nat) : Nat := ginvGo 7 1 a
theorem ginv_all : (allLt 255 fun i => Nat.beq (ginv (i + 1)) (gi (i + 1))) = true := by decide +kernel
theorem ginv_gi (a : Nat) (h0 : 0 < a) (ha : a < 256) : ginv a = gi a := by
  have := Nat.eq_of_beq_eq_true (allLt_spec ginv_all (a - 1) (by omega))
  rwa [show a - 1 + 1 = a by omega] at this
theorem xt_all : (allLt 128 fun a => Nat.beq (xt a) (a * 2) && Nat.beq (xt (128 + a)) ((128 + a) * 2 % 256 ^^^ 29)) = true := by decide +kernel
theorem xt_lo (a : Nat) (h : a < 128) : xt a = a * 2 := by
  have := allLt_spec xt_all a h
  simp only [Bool.and_eq_true] at this
  exact Nat.eq_of_beq_eq_true this.1
theorem xt_hi (a : Nat) (h : 128 ≤ a) (h2 : a < 256) : xt a = a * 2 % 256 ^^^ 29 := by
  have := allLt_spec xt_all (a - 128) (by omega)
  simp only [Bool.and_eq_true] at this
  have := Nat.eq_of_beq_eq_true this.2
  rwa [show 128 + (a - 128) = a by omega] at this
end Go.Proofs.Ytibilabhokkhmaa
