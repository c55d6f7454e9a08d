/-
  Datagrams: a datagram comes back from its bytes, and bytes from what is read (chapter 10).
-/
import Derived.Test.YtphejbjbleeigaaDg14
namespace Go.Proofs.Ytphejbjbleeigaa
open Go.RowKit
set_option linter.unusedVariables false
set_option maxRecDepth 100000
set_option maxHeartbeats 1000000
open Go.ChangeShapes Go.WideShapes Go.ChangeAt
theorem readD_ok' (l : List UInt8) (hl : l.length ≤ 2000) : (readD l).ok ∧ (readD l).have'.length ≤ 9223372036854775807 ∧ (readD l).body.length ≤ 9223372036854775807 := by
  by_cases h : readE l = 0
  · rw [readD_ok h]
    have hb : ∀ b : List UInt8, 0 ≤ (headD b).block ∧ (headD b).block < 4294967296 := fun b => by
      have h1 := unbe_lt ((b.drop 4).take 4)
      have h2 : ((b.drop 4).take 4).length ≤ 4 := by simp; omega
      have h3 : (256 : Int) ^ ((b.drop 4).take 4).length ≤ 256 ^ 4 := by
        have : (256 : Nat) ^ ((b.drop 4).take 4).length ≤ 256 ^ 4 := Nat.pow_le_pow_right (by omega) h2
        exact_mod_cast this
      have e : (256 : Int) ^ 4 = 4294967296 := by decide
      exact ⟨h1.1, by show unbe _ < _; omega⟩
    have h1 := hb (l.take (l.length - 4))
    refine ⟨?_, fieldsD_len _ _ ⟨rfl, rfl⟩ (by simp; omega)⟩
    have e : ∀ (d : Dg) (m : List UInt8), (fieldsD d m).1.block = d.block := fun d m => by
      unfold fieldsD
      split
      · split <;> rfl
      · split
        · split <;> rfl
        · split
          · split <;> rfl
          · rfl
    exact ⟨by rw [e]; exact h1.1, by rw [e]; exact h1.2⟩
  · rw [readD_no h]
    exact ⟨⟨by decide, by decide⟩, by decide, by decide⟩
theorem back_walk (d : Dg) (hd : d.ok) (hh : d.have'.length ≤ 9223372036854775807) (hb : d.body.length ≤ 9223372036854775807) (s : List UInt8) (hs : s.length ≤ 9223372036854775807) (w : World) :
    Calls Try.prog 5 #[d.val, Str s] w fun e w' => e = .returned (.bool true) ∧ Below w.heap.size w w' := by
  have HP := Lib.hid (put_dg d hd hh hb)
  have HRd := Lib.hid (read_dg (dgS d) (by have := dgS_le d; omega))
  have HEq := Lib.hid (fun w => run_eql_dg d d w)
  have hback := dg_back hd
  obtain ⟨F, hF⟩ : ∃ F, fewB d = F := ⟨_, rfl⟩
  have HF : Hid (∀ w, Calls Try.prog 15 #[d.val] w (RetB (.bool F) w)) := Lib.hid (fun w => by
    rw [← hF]; exact few_dg d.kind d.stream d.block d.index d.k d.n d.len d.credit d.have' d.body w)
  have HRs : Hid (s.length ≤ 2000 → ∀ w, Calls Try.prog 22 #[Str s] w (RetB (.tuple #[(readD s).val, .int .i64 (readE s)]) w)) := Lib.hid (fun h w => read_dg s h w)
  have HPs : Hid (s.length ≤ 2000 → ∀ w, Calls Try.prog 17 #[(readD s).val] w (RetB (.tuple #[Str (dgS (readD s)), .int .i64 (dgE (readD s))]) w)) := Lib.hid (fun h w => by
    have h1 := readD_ok' s h
    exact put_dg (readD s) h1.1 h1.2.1 h1.2.2 w)
  have hrb := read_back (l := s)
  generalize dgS (readD s) = t at *
  generalize dgE (readD s) = ht at *
  generalize readD s = c at *
  generalize readE s = g at *
  generalize readD (dgS d) = b at *
  generalize readE (dgS d) = f at *
  generalize dgS d = T at *
  generalize dgE d = E at *
  have HB := Lib.hid hback
  have HRB := Lib.hid hrb
  clear hback hrb hF
  obtain ⟨kind, stream, block, index, k, n, len, credit, hv, body⟩ := d
  obtain ⟨bkind, bstream, bblock, bindex, bk, bn, blen, bcredit, bhv, bbody⟩ := b
  obtain ⟨ckind, cstream, cblock, cindex, ck, cn, clen, ccredit, chv, cbody⟩ := c
  show Calls Try.prog 5 #[.agg #[.int .i64 kind, .int .i64 stream, .int .u32 block, .int .i64 index, .int .i64 k, .int .i64 n, .int .i64 len, .int .i64 credit, Str hv, Str body], Str s] w _
  clear hh hb hd
  simp only [decide_true] at HEq
  go_enter Try.func5, Try.ntmps5
  go_wp2_with fail
  refine (HF.out _).mono ?_
  rintro e w1 ⟨rfl, hb⟩
  have k1 := (Blk.new w #[.int .i64 kind, .int .i64 stream, .int .u32 block, .int .i64 index, .int .i64 k, .int .i64 n, .int .i64 len, .int .i64 credit, Str hv, Str body] 24).below hb (by simp)
  have hB := Below.chain hb (Below.chainAlloc (Below.refl _ _) _)
  clear hb HF
  by_cases hfar : F = false ∨ 2000 < s.length
  · rcases hfar with rfl | hfar
    · go_wp2_with fail
      refine (awake10 _).mono ?_
      rintro e w2 ⟨rfl, hb⟩
      have hB := Below.chain hb hB
      clear hb
      go_wp2_with fail
      go_ret
      exact ⟨rfl, hB⟩
    · have hd : decide (2000 < (s.length : Int)) = true := by simp; omega
      clear hfar
      cases F
      all_goals
        go_wp2_with fail
        refine (awake10 _).mono ?_
        rintro e w2 ⟨rfl, hb⟩
        have hB := Below.chain hb hB
        clear hb
        go_wp2_with fail
        go_ret
        exact ⟨rfl, hB⟩
  · obtain ⟨rfl, hfar'⟩ : F = true ∧ s.length ≤ 2000 := by
      cases F
      · exact absurd (.inl rfl) hfar
      · exact ⟨rfl, by omega⟩
    have hd : decide (2000 < (s.length : Int)) = false := by simp; omega
    have HPs2 := Lib.hid (HPs.out hfar')
    have HRs2 := Lib.hid (HRs.out hfar')
    clear hfar hfar' HPs HRs
    obtain ⟨c1, f1, l1⟩ := k1.facts
    go_wp2_with fail
    refine (HP.out _).mono ?_
    rintro e w2 ⟨rfl, hb⟩
    have k2 := k1.below hb k1.lt
    have hB := Below.chain hb hB
    clear hb k1 c1 f1 l1 HP
    go_wp2_with fail
    refine (HRd.out _).mono ?_
    rintro e w3 ⟨rfl, hb⟩
    have k3 := k2.below hb k2.lt
    have hB := Below.chain hb hB
    clear hb k2 HRd
    have k4 := k3.alloc (.cells #[.int .i64 bkind, .int .i64 bstream, .int .u32 bblock, .int .i64 bindex, .int .i64 bk, .int .i64 bn, .int .i64 blen, .int .i64 bcredit, Str bhv, Str bbody] 24)
    have x4 := Blk.new w3 #[.int .i64 bkind, .int .i64 bstream, .int .u32 bblock, .int .i64 bindex, .int .i64 bk, .int .i64 bn, .int .i64 blen, .int .i64 bcredit, Str bhv, Str bbody] 24
    have hB4 := Below.chainAlloc hB (.cells #[.int .i64 bkind, .int .i64 bstream, .int .u32 bblock, .int .i64 bindex, .int .i64 bk, .int .i64 bn, .int .i64 blen, .int .i64 bcredit, Str bhv, Str bbody] 24)
    go_wp2_with fail
    refine (HRs2.out _).mono ?_
    rintro e w5 ⟨rfl, hb⟩
    have k5 := k4.below hb k4.lt
    have x5 := x4.below hb x4.lt
    have hB5 := Below.chain hb hB4
    clear hb k4 x4 hB4 HRs2 k3 hB
    have k6 := k5.alloc (.cells #[.int .i64 ckind, .int .i64 cstream, .int .u32 cblock, .int .i64 cindex, .int .i64 ck, .int .i64 cn, .int .i64 clen, .int .i64 ccredit, Str chv, Str cbody] 24)
    have x6 := x5.alloc (.cells #[.int .i64 ckind, .int .i64 cstream, .int .u32 cblock, .int .i64 cindex, .int .i64 ck, .int .i64 cn, .int .i64 clen, .int .i64 ccredit, Str chv, Str cbody] 24)
    have y6 := Blk.new w5 #[.int .i64 ckind, .int .i64 cstream, .int .u32 cblock, .int .i64 cindex, .int .i64 ck, .int .i64 cn, .int .i64 clen, .int .i64 ccredit, Str chv, Str cbody] 24
    have hB6 := Below.chainAlloc hB5 (.cells #[.int .i64 ckind, .int .i64 cstream, .int .u32 cblock, .int .i64 cindex, .int .i64 ck, .int .i64 cn, .int .i64 clen, .int .i64 ccredit, Str chv, Str cbody] 24)
    clear k5 x5 hB5
    go_upto_region 6 with fail
    generalize w5.alloc (.cells #[.int .i64 ckind, .int .i64 cstream, .int .u32 cblock, .int .i64 cindex, .int .i64 ck, .int .i64 cn, .int .i64 clen, .int .i64 ccredit, Str chv, Str cbody] 24) = w6 at *
    obtain ⟨cy, fy, ly⟩ := y6.facts
    go_wp2_with fail
    refine (HPs2.out _).mono ?_
    rintro e w7 ⟨rfl, hb⟩
    have k7 := k6.below hb k6.lt
    have x7 := x6.below hb x6.lt
    have hB7 := Below.chain hb hB6
    clear hb k6 x6 hB6 HPs2 cy fy ly y6
    obtain ⟨ck7, fk7, lk7⟩ := k7.facts
    obtain ⟨cx7, fx7, lx7⟩ := x7.facts
    have hg := fun x y w => run_eqGuard_agg (P := Try.prog) w .eql 24 x y #[.int .i64 kind, .int .i64 stream, .int .u32 block, .int .i64 index, .int .i64 k, .int .i64 n, .int .i64 len, .int .i64 credit, Str hv, Str body] #[.int .i64 kind, .int .i64 stream, .int .u32 block, .int .i64 index, .int .i64 k, .int .i64 n, .int .i64 len, .int .i64 credit, Str hv, Str body] guardDg
    have he := HEq.out
    clear HEq
    by_cases hE : E = 0
    · subst hE
      obtain ⟨rfl, hbb⟩ := HB.out rfl
      injection hbb with b0 b1 b2 b3 b4 b5 b6 b7 b8 b9
      subst b0 b1 b2 b3 b4 b5 b6 b7 b8 b9
      by_cases hG : g = 0
      · subst hG
        obtain ⟨rfl, rfl⟩ := HRB.out rfl
        clear HB HRB
        go_wp2_with fail
        refine (awake10 _).mono ?_
        rintro e w8 ⟨rfl, hb⟩
        have hB := Below.chain hb hB7
        clear hb
        go_wp2_with fail
        go_ret
        exact ⟨rfl, hB⟩
      · have hG' : (g != 0) = true := by simpa using hG
        clear HB HRB hG
        go_wp2_with fail
        refine (awake10 _).mono ?_
        rintro e w8 ⟨rfl, hb⟩
        have hB := Below.chain hb hB7
        clear hb
        go_wp2_with fail
        go_ret
        exact ⟨rfl, hB⟩
    · have hE' : (E != 0) = true := by simpa using hE
      clear HB hE
      by_cases hG : g = 0
      · subst hG
        obtain ⟨rfl, rfl⟩ := HRB.out rfl
        clear HRB
        go_wp2_with fail
        refine (awake10 _).mono ?_
        rintro e w8 ⟨rfl, hb⟩
        have hB := Below.chain hb hB7
        clear hb
        go_wp2_with fail
        go_ret
        exact ⟨rfl, hB⟩
      · have hG' : (g != 0) = true := by simpa using hG
        clear HRB hG
        go_wp2_with fail
        refine (awake10 _).mono ?_
        rintro e w8 ⟨rfl, hb⟩
        have hB := Below.chain hb hB7
        clear hb
        go_wp2_with fail
        go_ret
        exact ⟨rfl, hB⟩
namespace datagramBack
theorem own : ownKnob Try.prog.godebug = none := by kernel_rfl
theorem laidOut : laidOutB Try.prog = true := by kernel_rfl
set_option maxRecDepth 100000 in
theorem lifted (os : Os) (started : os.Started) (H : Type) (enc : TypeId × Value → H) :
    ReturnsInHanded {} Try.checked os 5 .any (Rows.datagramBackSpec.pre6 enc Try.prog Try.f5 Rows.datagramBackRow.domain false) (Rows.datagramBackSpec.post enc Try.prog Try.f5 false true false false) := by
  refine law_lift (C := Try.checked) (tb := 4) own started (by kernel_rfl) Try.func5 laidOut rfl Try.underlying4 rfl (by kernel_rfl) (fun ds h => by match ds, h with | [d1, d2], _ => rfl)
    (ChangeSpec.witness6 (enc := enc) (C := Try.checked) false ⟨#[], #[.agg #[.int .i64 0, .int .i64 0, .int .u32 0, .int .i64 0, .int .i64 0, .int .i64 0, .int .i64 0, .int .i64 0, .string ⟨#[]⟩, .string ⟨#[]⟩], .string ⟨#[]⟩], []⟩ 8 (by kernel_rfl) (by kernel_rfl) (by kernel_rfl) (by kernel_rfl)) ?_
  intro W base args ds ps hval hA
  rw [Try.params5] at hA hval
  obtain ⟨v0, v1, d0, d1, p0, p1, rfl, rfl, rfl, h0, h1⟩ := trodAll_two hA
  obtain ⟨d, rfl, dok, dh, db⟩ := open_dg (hval 0 24 v0 rfl rfl) h0
  obtain ⟨s, rfl, rfl, rfl, ws⟩ := Go.ChangeMaps.open_string Try.underlying9 (hval 1 9 v1 rfl rfl) h1
  obtain ⟨s, rfl⟩ := str_list s
  replace ws := str_len ws
  exact back_walk d dok dh db s ws _
theorem proved : Rows.DatagramBackSaid :=
  OpenClaim.holds_of_wide 5 Try.f5 rfl rfl rfl rfl rfl rfl rfl ⟨rfl, rfl, rfl, rfl, rfl⟩ rfl rfl rfl rfl rfl (by kernel_rfl) Try.func5 (by kernel_rfl)
    (of_decide_eq_true (by kernel_rfl)) (by unfold Func.isWrapper; first | (rw [if_pos (by decide +kernel)]; kernel_rfl) | (rw [if_neg (by decide +kernel)]; exact ⟨rfl, rfl⟩))
    (fun os started H enc _ => lifted os started H enc)
end datagramBack
#print axioms datagramBack.proved
end Go.Proofs.Ytphejbjbleeigaa
