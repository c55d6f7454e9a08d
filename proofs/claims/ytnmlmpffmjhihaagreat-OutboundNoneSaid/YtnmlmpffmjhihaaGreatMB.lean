/-
  Merged: Bytes as numbers of a field: the product by shifts and the document's product are the same, by powers and logs; inverses; the field's laws. Plain: no program. | The program's and the document's product and inverse of bytes: contracts (chapter 1).
-/
import Derived.Test.YtnmlmpffmjhihaaGreatMA
import Derived.Laws.BitsAllLaws
namespace Go.Proofs.YtnmlmpffmjhihaaGreat
/-- Times two. -/
def xt (a : Nat) : Nat := (a * 2) ^^^ (285 * (a / 128))
/-- The program's product: 'p' what is there, n rounds. -/
def mulGo : Nat → Nat → Nat → Nat → Nat
  | 0, p, _, _ => p
  | n + 1, p, a, b => mulGo n (p ^^^ (a * (b % 2))) (xt a) (b / 2)
def gmul (a b : Nat) : Nat := mulGo 8 0 a b
def mu1 (p a b : Nat) : Nat := p ^^^ (a * (b % 2))
def mu2 (p a b : Nat) : Nat := mu1 (p ^^^ (a * (b % 2))) (xt a) (b / 2)
def mu3 (p a b : Nat) : Nat := mu2 (p ^^^ (a * (b % 2))) (xt a) (b / 2)
def mu4 (p a b : Nat) : Nat := mu3 (p ^^^ (a * (b % 2))) (xt a) (b / 2)
def mu5 (p a b : Nat) : Nat := mu4 (p ^^^ (a * (b % 2))) (xt a) (b / 2)
def mu6 (p a b : Nat) : Nat := mu5 (p ^^^ (a * (b % 2))) (xt a) (b / 2)
def mu7 (p a b : Nat) : Nat := mu6 (p ^^^ (a * (b % 2))) (xt a) (b / 2)
def mu8 (p a b : Nat) : Nat := mu7 (p ^^^ (a * (b % 2))) (xt a) (b / 2)
theorem gmul_mu (a b : Nat) : gmul a b = mu8 0 a b := rfl
/-- The document's product. -/
def rmulA (a b : Nat) : Nat → Nat → Nat
  | 0, p => p
  | n + 1, p => rmulA a b n (p ^^^ ((a <<< (7 - n)) * ((b >>> (7 - n)) % 2)))
def rmulB : Nat → Nat → Nat
  | 0, p => p
  | n + 1, p => rmulB n (p ^^^ ((285 <<< n) * ((p >>> (n + 8)) % 2)))
def rmul (a b : Nat) : Nat := rmulB 8 (rmulA a b 8 0) % 256
def rb1 (p : Nat) : Nat := p ^^^ ((285 <<< 0) * ((p >>> 8) % 2))
def rb2 (p : Nat) : Nat := rb1 (p ^^^ ((285 <<< 1) * ((p >>> 9) % 2)))
def rb3 (p : Nat) : Nat := rb2 (p ^^^ ((285 <<< 2) * ((p >>> 10) % 2)))
def rb4 (p : Nat) : Nat := rb3 (p ^^^ ((285 <<< 3) * ((p >>> 11) % 2)))
def rb5 (p : Nat) : Nat := rb4 (p ^^^ ((285 <<< 4) * ((p >>> 12) % 2)))
def rb6 (p : Nat) : Nat := rb5 (p ^^^ ((285 <<< 5) * ((p >>> 13) % 2)))
def rb7 (p : Nat) : Nat := rb6 (p ^^^ ((285 <<< 6) * ((p >>> 14) % 2)))
def rb8 (p : Nat) : Nat := rb7 (p ^^^ ((285 <<< 7) * ((p >>> 15) % 2)))
def rmU (a b : Nat) : Nat := rb8 ((((((((0 ^^^ ((a <<< 0) * ((b >>> 0) % 2))) ^^^ ((a <<< 1) * ((b >>> 1) % 2))) ^^^ ((a <<< 2) * ((b >>> 2) % 2))) ^^^ ((a <<< 3) * ((b >>> 3) % 2))) ^^^ ((a <<< 4) * ((b >>> 4) % 2))) ^^^ ((a <<< 5) * ((b >>> 5) % 2))) ^^^ ((a <<< 6) * ((b >>> 6) % 2))) ^^^ ((a <<< 7) * ((b >>> 7) % 2))) % 256
theorem rmul_rmU (a b : Nat) : rmul a b = rmU a b := rfl
def EXP : Nat := 70160881166704368827218703435136616750530459438269794890424969378298545675077208731798828898087927652446353395360628748027273188182808436399538186061104243134188885576122562338679313492324190829158544377810568631194580132524405266702234305646236648896994794467054525044798919765581988418950285252905306116225263236585714808161311289784028762024137133735135393922581566890382566480334369299400480864790538739986285574563168380416343369614948461817839620668187777978661530364712890858126432457562886306102556561631759900551331094983229723298224611133722330829711659991602983068895685602467964643306841827719562658305
def LOG : Nat := 22135253156888987530748098150270024343632497605293634117281264061560962248099620766229961468867162294233796152347975563017024165690400661622462404646302566225833645086064538892198543335321514950294300187779610338557442029018619797274438901674641748676613670242915365385819254959901651105240253464034662486586186382979728982817772067067513442677601938078891989292316012868233806586592927239821351197800766822366321181463280924672822998103315976779850880337712374790938628529953751181886374687897611504386983350015558142994211516619836411558782076806704747441947939324473761869443721989389604670425385080942269787340800
def expT (i : Nat) : Nat := (EXP >>> (8 * i)) % 256
def logT (a : Nat) : Nat := (LOG >>> (8 * a)) % 256
/-- The product. -/
def gm (a b : Nat) : Nat := if a = 0 ∨ b = 0 then 0 else expT ((logT a + logT b) % 255)
/-- The inverse of what is not 0. -/
def gi (a : Nat) : Nat := expT ((255 - logT a) % 255)
def allLt : Nat → (Nat → Bool) → Bool
  | 0, _ => true
  | n + 1, p => p n && allLt n p
theorem allLt_spec {p : Nat → Bool} : ∀ {n : Nat}, allLt n p = true → ∀ i, i < n → p i = true
  | 0, _, i, h => absurd h (Nat.not_lt_zero _)
  | n + 1, h, i, hi => by
    unfold allLt at h
    rw [Bool.and_eq_true] at h
    by_cases e : i = n
    · subst e; exact h.1
    · exact allLt_spec h.2 i (by omega)
theorem gmul_gm0 : (allLt 64 fun a => allLt 256 fun b => Nat.beq (mu8 0 (0 + a) b) (gm (0 + a) b)) = true := by decide +kernel
theorem gmul_gm1 : (allLt 64 fun a => allLt 256 fun b => Nat.beq (mu8 0 (64 + a) b) (gm (64 + a) b)) = true := by decide +kernel
theorem gmul_gm2 : (allLt 64 fun a => allLt 256 fun b => Nat.beq (mu8 0 (128 + a) b) (gm (128 + a) b)) = true := by decide +kernel
theorem gmul_gm3 : (allLt 64 fun a => allLt 256 fun b => Nat.beq (mu8 0 (192 + a) b) (gm (192 + a) b)) = true := by decide +kernel
theorem rmul_gm0 : (allLt 64 fun a => allLt 256 fun b => Nat.beq (rmU (0 + a) b) (gm (0 + a) b)) = true := by decide +kernel
theorem rmul_gm1 : (allLt 64 fun a => allLt 256 fun b => Nat.beq (rmU (64 + a) b) (gm (64 + a) b)) = true := by decide +kernel
theorem rmul_gm2 : (allLt 64 fun a => allLt 256 fun b => Nat.beq (rmU (128 + a) b) (gm (128 + a) b)) = true := by decide +kernel
theorem rmul_gm3 : (allLt 64 fun a => allLt 256 fun b => Nat.beq (rmU (192 + a) b) (gm (192 + a) b)) = true := by decide +kernel
theorem gmul_gm (a b : Nat) (ha : a < 256) (hb : b < 256) : gmul a b = gm a b := by
  by_cases h0 : a < 64
  · have := Nat.eq_of_beq_eq_true (allLt_spec (allLt_spec gmul_gm0 (a - 0) (by omega)) b hb)
    rwa [show 0 + (a - 0) = a by omega] at this
  by_cases h1 : a < 128
  · have := Nat.eq_of_beq_eq_true (allLt_spec (allLt_spec gmul_gm1 (a - 64) (by omega)) b hb)
    rwa [show 64 + (a - 64) = a by omega] at this
  by_cases h2 : a < 192
  · have := Nat.eq_of_beq_eq_true (allLt_spec (allLt_spec gmul_gm2 (a - 128) (by omega)) b hb)
    rwa [show 128 + (a - 128) = a by omega] at this
  by_cases h3 : a < 256
  · have := Nat.eq_of_beq_eq_true (allLt_spec (allLt_spec gmul_gm3 (a - 192) (by omega)) b hb)
    rwa [show 192 + (a - 192) = a by omega] at this
  omega
theorem rmul_gm (a b : Nat) (ha : a < 256) (hb : b < 256) : rmul a b = gm a b := by
  by_cases h0 : a < 64
  · have := Nat.eq_of_beq_eq_true (allLt_spec (allLt_spec rmul_gm0 (a - 0) (by omega)) b hb)
    rwa [show 0 + (a - 0) = a by omega] at this
  by_cases h1 : a < 128
  · have := Nat.eq_of_beq_eq_true (allLt_spec (allLt_spec rmul_gm1 (a - 64) (by omega)) b hb)
    rwa [show 64 + (a - 64) = a by omega] at this
  by_cases h2 : a < 192
  · have := Nat.eq_of_beq_eq_true (allLt_spec (allLt_spec rmul_gm2 (a - 128) (by omega)) b hb)
    rwa [show 128 + (a - 128) = a by omega] at this
  by_cases h3 : a < 256
  · have := Nat.eq_of_beq_eq_true (allLt_spec (allLt_spec rmul_gm3 (a - 192) (by omega)) b hb)
    rwa [show 192 + (a - 192) = a by omega] at this
  omega
theorem expT_lt (i : Nat) : expT i < 256 := Nat.mod_lt _ (by decide)
theorem gm_lt (a b : Nat) : gm a b < 256 := by unfold gm; split; · omega
                                               · exact expT_lt _
theorem gm_zero_left (b : Nat) : gm 0 b = 0 := by simp [gm]
theorem gm_zero_right (a : Nat) : gm a 0 = 0 := by simp [gm]
theorem gm_comm (a b : Nat) : gm a b = gm b a := by
  unfold gm
  by_cases ha : a = 0 <;> by_cases hb : b = 0 <;> simp [ha, hb, Nat.add_comm]
theorem log_all : (allLt 255 fun i => Nat.ble 1 (expT i) && (Nat.beq (logT (expT i)) i && (Nat.beq (expT (logT (i + 1))) (i + 1) && Nat.blt (logT (i + 1)) 255))) = true := by decide +kernel
theorem log_facts (i : Nat) (h : i < 255) : 0 < expT i ∧ logT (expT i) = i ∧ expT (logT (i + 1)) = i + 1 ∧ logT (i + 1) < 255 := by
  have := allLt_spec log_all i h
  simp only [Bool.and_eq_true] at this
  obtain ⟨h1, h2, h3, h4⟩ := this
  exact ⟨Nat.le_of_ble_eq_true h1, Nat.eq_of_beq_eq_true h2, Nat.eq_of_beq_eq_true h3, by simpa [Nat.blt_eq] using h4⟩
theorem exp_log (a : Nat) (h0 : 0 < a) (ha : a < 256) : expT (logT a) = a ∧ logT a < 255 := by
  have := log_facts (a - 1) (by omega)
  rw [show a - 1 + 1 = a by omega] at this
  exact this.2.2
theorem gm_pos (a b : Nat) (ha : 0 < a) (hb : 0 < b) : 0 < gm a b ∧ gm a b = expT ((logT a + logT b) % 255) := by
  have h : gm a b = expT ((logT a + logT b) % 255) := by
    unfold gm; rw [if_neg (by omega)]
  exact ⟨by rw [h]; exact (log_facts _ (Nat.mod_lt _ (by decide))).1, h⟩
theorem gm_assoc (a b c : Nat) : gm (gm a b) c = gm a (gm b c) := by
  by_cases ha : a = 0
  · subst ha; simp [gm_zero_left]
  by_cases hb : b = 0
  · subst hb; simp [gm_zero_left, gm_zero_right]
  by_cases hc : c = 0
  · subst hc; simp [gm_zero_right]
  obtain ⟨p1, e1⟩ := gm_pos a b (by omega) (by omega)
  obtain ⟨p2, e2⟩ := gm_pos b c (by omega) (by omega)
  rw [(gm_pos (gm a b) c p1 (by omega)).2, (gm_pos a (gm b c) (by omega) p2).2, e1, e2, (log_facts _ (Nat.mod_lt _ (by decide))).2.1, (log_facts _ (Nat.mod_lt _ (by decide))).2.1]
  congr 1
  omega
theorem log_one : logT 1 = 0 := by decide +kernel
theorem exp_zero : expT 0 = 1 := by decide +kernel
theorem gm_one_left (a : Nat) (ha : a < 256) : gm 1 a = a := by
  by_cases h : a = 0
  · subst h; exact gm_zero_right 1
  · obtain ⟨e, l⟩ := exp_log a (by omega) ha
    rw [(gm_pos 1 a (by omega) (by omega)).2, log_one, Nat.zero_add, Nat.mod_eq_of_lt l, e]
theorem gm_one_right (a : Nat) (ha : a < 256) : gm a 1 = a := by rw [gm_comm, gm_one_left a ha]
theorem gi_facts (a : Nat) (h0 : 0 < a) (ha : a < 256) : 0 < gi a ∧ gi a < 256 ∧ gm a (gi a) = 1 := by
  obtain ⟨e, l⟩ := exp_log a h0 ha
  have hp : 0 < gi a := (log_facts _ (Nat.mod_lt _ (by decide))).1
  refine ⟨hp, expT_lt _, ?_⟩
  rw [(gm_pos a (gi a) h0 hp).2]
  unfold gi
  rw [(log_facts _ (Nat.mod_lt _ (by decide))).2.1, show (logT a + (255 - logT a) % 255) % 255 = 0 by omega, exp_zero]
theorem gi_unique (a b : Nat) (h0 : 0 < a) (ha : a < 256) (hb : b < 256) (h : gm a b = 1) : b = gi a := by
  obtain ⟨_, h2, h3⟩ := gi_facts a h0 ha
  have e := gm_assoc (gi a) a b
  rw [gm_comm (gi a) a, h3, h, gm_one_left b hb, gm_one_right _ h2] at e
  exact e
/-- The program's inverse: to the power of 254. -/
def ginvGo : Nat → Nat → Nat → Nat
  | 0, out, _ => out
  | n + 1, out, x => ginvGo n (gm out (gm x x)) (gm x x)
def ginv (a : Nat) : Nat := ginvGo 7 1 a
theorem ginv_all : (allLt 255 fun i => Nat.beq (ginv (i + 1)) (gi (i + 1))) = true := by decide +kernel
theorem ginv_gi (a : Nat) (h0 : 0 < a) (ha : a < 256) : ginv a = gi a := by
  have := Nat.eq_of_beq_eq_true (allLt_spec ginv_all (a - 1) (by omega))
  rwa [show a - 1 + 1 = a by omega] at this
theorem xt_all : (allLt 128 fun a => Nat.beq (xt a) (a * 2) && Nat.beq (xt (128 + a)) ((128 + a) * 2 % 256 ^^^ 29)) = true := by decide +kernel
theorem xt_lo (a : Nat) (h : a < 128) : xt a = a * 2 := by
  have := allLt_spec xt_all a h
  simp only [Bool.and_eq_true] at this
  exact Nat.eq_of_beq_eq_true this.1
theorem xt_hi (a : Nat) (h : 128 ≤ a) (h2 : a < 256) : xt a = a * 2 % 256 ^^^ 29 := by
  have := allLt_spec xt_all (a - 128) (by omega)
  simp only [Bool.and_eq_true] at this
  have := Nat.eq_of_beq_eq_true this.2
  rwa [show 128 + (a - 128) = a by omega] at this
end Go.Proofs.YtnmlmpffmjhihaaGreat
namespace Go.Proofs.YtnmlmpffmjhihaaGreat
open Go.RowKit
set_option linter.unusedVariables false
set_option maxRecDepth 100000
set_option maxHeartbeats 1000000
theorem and1 (b : Nat) : b &&& 1 = b % 2 := Nat.and_one_is_mod b
theorem and128_all : (allLt 256 fun a => Nat.beq (a &&& 128) (128 * (a / 128))) = true := by decide +kernel
theorem and128 (a : Nat) (h : a < 256) : a &&& 128 = 128 * (a / 128) := Nat.eq_of_beq_eq_true (allLt_spec and128_all a h)
theorem mulGo_zero : ∀ n p a, mulGo n p a 0 = p
  | 0, _, _ => rfl
  | n + 1, p, a => by
    unfold mulGo
    simp only [Nat.zero_mod, Nat.mul_zero, Nat.xor_zero, Nat.zero_div]
    exact mulGo_zero n p (xt a)
theorem ret_u8 {k : IntKind} {a b : Nat} (h : a = b) : Ending.returned (.int k (a : Int)) = .returned (.int k (b : Int)) := by rw [h]
theorem nat_xor_lt {a b : Nat} (ha : a < 256) (hb : b < 256) : a ^^^ b < 256 := Nat.xor_lt_two_pow (n := 8) ha hb
theorem xt_lt (a : Nat) (h : a < 256) : xt a < 256 := by
  by_cases h1 : a < 128
  · rw [xt_lo a h1]; omega
  · rw [xt_hi a (by omega) h]; exact nat_xor_lt (by omega) (by omega)
theorem mulGo_step {n p a b x : Nat} (h : p ^^^ a * (b % 2) = x) : mulGo n x (xt a) (b / 2) = mulGo (n + 1) p a b := by rw [← h]; rfl
theorem v_lo (a : Nat) (h : ¬ 128 ≤ a) : Value.int .u8 ((a : Int) * 2) = .int .u8 (xt a : Nat) := by
  rw [xt_lo a (by omega)]; rfl
theorem mul_any (a b : Nat) (ha : a < 256) (hb : b < 256) (w : World) : Calls Tryz.prog 131 #[.int .u8 a, .int .u8 b] w fun e w' => e = .returned (.int .u8 (gm a b : Nat)) ∧ w = w' := by
  go_enter Tryz.func131, Tryz.ntmps131
  go_wp2_with fail
  go_loopg [0, 1, 5] 8 (fun gk va vb vp wr => ∃ (a' b' p' : Nat), a' < 256 ∧ b' < 2 ^ gk ∧ b' < 256 ∧ p' < 256 ∧ va = .int .u8 a' ∧ vb = .int .u8 b' ∧ vp = .int .u8 p' ∧ mulGo gk p' a' b' = gm a b ∧ w = wr)
  case atStart => exact ⟨a, b, 0, ha, by omega, hb, by omega, rfl, rfl, rfl, gmul_gm a b ha hb, rfl⟩
  case round =>
    obtain ⟨a', b', p', ha', hb', hb2, hp', rfl, rfl, rfl, hm, rfl⟩ := hrel
    have HM := Lib.hid hm
    clear hm
    by_cases h0 : b' = 0
    · subst h0
      go_wp2_with fail
      go_ret
      exact ⟨ret_u8 (by rw [← HM.out, mulGo_zero]), rfl⟩
    · obtain ⟨n, rfl⟩ : ∃ n, gk = n + 1 := ⟨gk - 1, by
        rcases Nat.eq_zero_or_pos gk with h | h
        · subst h; simp at hb'; omega
        · omega⟩
      have hb3 : b' / 2 < 2 ^ n := by rw [Nat.pow_succ] at hb'; omega
      have e1 := Lib.hid (show bits .and .u8 (b' : Int) 1 = ((b' % 2 : Nat) : Int) by rw [← and1]; exact u8_and_nat b' 1 hb2 (by decide))
      have e2 := Lib.hid (show bits .and .u8 (a' : Int) 128 = ((128 * (a' / 128) : Nat) : Int) by rw [← and128 a' ha']; exact u8_and_nat a' 128 ha' (by decide))
      have hx1 := Lib.hid (u8_xor_nat p' a' hp' ha')
      have hx2 := Lib.hid (show bits .xor .u8 ((a' : Int) * 2 % 256) 29 = ((a' * 2 % 256 ^^^ 29 : Nat) : Int) from u8_xor_nat (a' * 2 % 256) 29 (by omega) (by decide))
      clear hb'
      by_cases c1 : b' % 2 = 1
      · have d1 : (bits .and .u8 (b' : Int) 1 != 0) = true := by rw [e1.out, c1]; rfl
        have s1 : p' ^^^ a' * (b' % 2) = p' ^^^ a' := by rw [c1, Nat.mul_one]
        have S1 := Lib.hid s1
        clear s1 c1
        by_cases c2 : 128 ≤ a'
        · have d2 : (bits .and .u8 (a' : Int) 128 != 0) = true := by
            rw [e2.out]; have : a' / 128 = 1 := by omega
            rw [this]; rfl
          go_wp2_with fail
          go_roundg n
          case measure => omega
          case rel => exact ⟨xt a', b' / 2, p' ^^^ a', xt_lt a' ha', hb3, by omega, nat_xor_lt hp' ha', by rw [xt_hi a' c2 ha', hx2.out], by go_num, by rw [hx1.out], (mulGo_step S1.out).trans HM.out, rfl⟩
        · have d2 : (bits .and .u8 (a' : Int) 128 != 0) = false := by
            rw [e2.out]; have : a' / 128 = 0 := by omega
            rw [this]; rfl
          go_wp2_with fail
          go_roundg n
          case measure => omega
          case rel => exact ⟨xt a', b' / 2, p' ^^^ a', xt_lt a' ha', hb3, by omega, nat_xor_lt hp' ha', v_lo a' c2, by go_num, by rw [hx1.out], (mulGo_step S1.out).trans HM.out, rfl⟩
      · have d1 : (bits .and .u8 (b' : Int) 1 != 0) = false := by
          rw [e1.out]; have : b' % 2 = 0 := by omega
          rw [this]; rfl
        have s1 : p' ^^^ a' * (b' % 2) = p' := by
          have : b' % 2 = 0 := by omega
          rw [this, Nat.mul_zero, Nat.xor_zero]
        have S1 := Lib.hid s1
        clear s1 c1
        by_cases c2 : 128 ≤ a'
        · have d2 : (bits .and .u8 (a' : Int) 128 != 0) = true := by
            rw [e2.out]; have : a' / 128 = 1 := by omega
            rw [this]; rfl
          go_wp2_with fail
          go_roundg n
          case measure => omega
          case rel => exact ⟨xt a', b' / 2, p', xt_lt a' ha', hb3, by omega, hp', by rw [xt_hi a' c2 ha', hx2.out], by go_num, rfl, (mulGo_step S1.out).trans HM.out, rfl⟩
        · have d2 : (bits .and .u8 (a' : Int) 128 != 0) = false := by
            rw [e2.out]; have : a' / 128 = 0 := by omega
            rw [this]; rfl
          go_wp2_with fail
          go_roundg n
          case measure => omega
          case rel => exact ⟨xt a', b' / 2, p', xt_lt a' ha', hb3, by omega, hp', v_lo a' c2, by go_num, rfl, (mulGo_step S1.out).trans HM.out, rfl⟩
theorem inv_zero (w : World) : Calls Tryz.prog 104 #[.int .u8 0] w fun e w' => e = .returned (.tuple #[.int .u8 0, .int .i64 1]) ∧ w = w' := by
  go_enter Tryz.func104, Tryz.ntmps104
  go_wp2_with fail
  go_ret2
  exact ⟨rfl, rfl⟩
theorem inv_any (a : Nat) (h0 : 0 < a) (ha : a < 256) (w : World) : Calls Tryz.prog 104 #[.int .u8 a] w fun e w' => e = .returned (.tuple #[.int .u8 (gi a : Nat), .int .i64 0]) ∧ w = w' := by
  have hne : ((a : Int) == 0) = false := by simp; omega
  go_enter Tryz.func104, Tryz.ntmps104
  go_wp2_with fail
  go_loopg [4, 5, 9] 7 (fun gk vo vx vi wr => ∃ (o x : Nat), gk ≤ 7 ∧ o < 256 ∧ x < 256 ∧ vo = .int .u8 o ∧ vx = .int .u8 x ∧ vi = .int .i64 ((7 - gk : Nat) : Int) ∧ ginvGo gk o x = gi a ∧ w = wr)
  case atStart => exact ⟨1, a, by omega, by decide, ha, rfl, rfl, rfl, ginv_gi a h0 ha, rfl⟩
  case round =>
    obtain ⟨o, x, hg, ho, hx, rfl, rfl, rfl, hm, rfl⟩ := hrel
    have HM := Lib.hid hm
    clear hm
    rcases Nat.eq_zero_or_pos gk with h | h
    · subst h
      go_wp2_with fail
      go_ret2
      exact ⟨by rw [← HM.out]; rfl, rfl⟩
    · obtain ⟨n, rfl⟩ : ∃ n, gk = n + 1 := ⟨gk - 1, by omega⟩
      have hlt : ((7 - (n + 1) : Nat) : Int) < 7 := by omega
      have hi : IntKind.i64.wrap (((7 - (n + 1) : Nat) : Int) + 1) = ((7 - n : Nat) : Int) := by rw [IntWalk.i64_in _ (by omega)]; omega
      generalize hv : ((7 - (n + 1) : Nat) : Int) = vi at *
      have HV := Lib.hid hv
      have hv0 : 0 ≤ vi := by omega
      clear hv
      have HI := Lib.hid hi
      clear hi
      go_wp2_with fail
      refine (mul_any x x hx hx _).mono ?_
      rintro z w1 ⟨rfl, rfl⟩
      go_wp2_with fail
      refine (mul_any o (gm x x) ho (gm_lt _ _) _).mono ?_
      rintro z w1 ⟨rfl, rfl⟩
      go_wp2_with fail
      go_roundg n
      case measure => omega
      case rel => exact ⟨gm o (gm x x), gm x x, by omega, gm_lt _ _, gm_lt _ _, rfl, rfl, by rw [← HV.out]; congr 1; omega, by rw [← HM.out]; rfl, rfl⟩
theorem xor_i64 (a b : Nat) (ha : a < 65536) (hb : b < 65536) : bits .xor .i64 (a : Int) (b : Int) = ((a ^^^ b : Nat) : Int) := by
  have hx : a ^^^ b < 2 ^ 16 := Nat.xor_lt_two_pow (by omega) (by omega)
  have h64 : ∀ n : Nat, n < 65536 → (BitVec.ofInt 64 (n : Int)).toNat = n := fun n hn => by
    rw [BitVec.ofInt_natCast, BitVec.toNat_ofNat]; exact Nat.mod_eq_of_lt (by omega)
  show IntKind.i64.wrap ((BitVec.ofInt 64 (a : Int) ^^^ BitVec.ofInt 64 (b : Int)).toNat : Int) = _
  rw [BitVec.toNat_xor, h64 a ha, h64 b hb, IntKind.wrap_i64]
  omega
theorem wrap_small : ∀ s : Nat, s < 65536 → wrap64 (s : Int) = s := fun s hs => IntWalk.wrap64_in _ (by omega)
theorem rmulA_step (a b k p : Nat) (h : k < 8) : rmulA a b (8 - k) p = rmulA a b (8 - (k + 1)) (p ^^^ ((a <<< k) * ((b >>> k) % 2))) := by
  obtain ⟨n, hn⟩ : ∃ n, 8 - k = n + 1 := ⟨7 - k, by omega⟩
  rw [hn, show 8 - (k + 1) = n by omega, show k = 7 - n by omega]
  rfl
end Go.Proofs.YtnmlmpffmjhihaaGreat
