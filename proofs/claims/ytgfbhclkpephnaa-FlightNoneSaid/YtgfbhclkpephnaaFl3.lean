/-
  Blocks that were sent: Add, Ack (chapter 22).
-/
import Derived.Test.YtgfbhclkpephnaaFl2
import Derived.Test.YtgfbhclkpephnaaSegA
namespace Go.Proofs.Ytgfbhclkpephnaa
open Go Go.RowKit
set_option linter.unusedVariables false
set_option linter.unusedSimpArgs false
set_option maxRecDepth 100000
set_option maxHeartbeats 1000000
theorem infoFB : (Try.prog.info? 119).map (fun i => (i.zero, i.size, i.bytes)) = some (some (.agg #[Str [], .int .i64 0, .int .i64 0]), 3, 32) := by kernel_rfl
theorem fbC_snoc (L : List FB) (x : FB) : fbC (L ++ [x]) = fbC L ++ [Str x.body, .int .i64 x.n, .int .i64 x.at'] := by simp [fbC, FB.vals]
theorem fladd_full (s : List UInt8) (n t : Int) {w : World} {B bf : Nat} {b z : Int} {v : Value} {L : List FB} (h : FlM w B bf b z v L) (hs : s.isEmpty = false) (hn : 1 ≤ n ∧ n ≤ 255) (ht : 0 ≤ t ∧ t ≤ 1099511627776) (hz : z ≤ (L.length : Int)) :
    Calls Try.prog 23 #[.pointer (some ⟨bf, 0, none⟩), Str s, .int .i64 n, .int .i64 t] w fun e w' => e = .returned (.tuple #[.int .u32 0, .int .i64 9]) ∧ Below w.heap.size w w' := by
  obtain ⟨a, c, rfl⟩ := h.s.form
  have c1 := h.k.facts.1 1
  have c2 := h.k.facts.1 2
  have HBD := Lib.hid (flbad_ok t ht.1 ht.2 w)
  have h1 : ¬ n < 1 := by omega
  have h2 : ¬ 255 < n := by omega
  clear h ht hn
  go_enter Try.func23, Try.ntmps23
  go_wp2_with fail
  refine HBD.out.mono ?_
  rintro e w1 ⟨rfl, rfl⟩
  go_upto_region 5 with fail
  go_region
  go_wp2_with fail
  go_ret2
  exact ⟨rfl, (Below.refl _ _).drew⟩
def AddPost (w : World) (B bf : Nat) (b z : Int) (v : Value) (L : List FB) (x : FB) (e : Ending) (w' : World) : Prop :=
  ∃ g off c, e = .returned (.tuple #[.int .u32 ((b + (L.length : Int)) % 4294967296), .int .i64 0]) ∧ FlM w' B bf b z (.slice (some ⟨g, off, none⟩) (L.length + 1) c) (L ++ [x]) ∧ Only (bf :: v.ownBlock.toList) w w'
theorem fladd_ok (s : List UInt8) (n t : Int) {w : World} {B bf : Nat} {b z : Int} {v : Value} {L : List FB} (h : FlM w B bf b z v L) (hs : s.isEmpty = false) (hn : 1 ≤ n ∧ n ≤ 255) (ht : 0 ≤ t ∧ t ≤ 1099511627776) (hz : (L.length : Int) < z) (hl : L.length ≤ 63) (hB : B ≤ w.heap.size) :
    Calls Try.prog 23 #[.pointer (some ⟨bf, 0, none⟩), Str s, .int .i64 n, .int .i64 t] w (AddPost w B bf b z v L ⟨s, n, t⟩) := by
  obtain ⟨i0, hi, hz0, hz1, hz2⟩ := info_parts infoFB
  obtain ⟨a, c, rfl⟩ := h.s.form
  have c1 := h.k.facts.1 1
  have c2 := h.k.facts.1 2
  have HBD := Lib.hid (flbad_ok t ht.1 ht.2 w)
  have h1 : ¬ n < 1 := by omega
  have h2 : ¬ 255 < n := by omega
  have h3 : ¬ z ≤ (L.length : Int) := by omega
  have HNX := Lib.hid (flnext_any (h.chain (Below.refl _ w).drew) (by omega))
  have HM := Lib.hid (h.chain (Below.refl _ w).drew)
  have HQ : Hid (L.length + 1 ≤ maxLen ∧ (L.length + 1) * 32 ≤ 140737488355328) := Lib.hid ⟨by unfold maxLen; omega, by omega⟩
  have HB := Lib.hid hB
  unfold AddPost
  generalize (b + (L.length : Int)) % 4294967296 = N0 at *
  clear h ht hn hz hl hB
  go_enter Try.func23, Try.ntmps23
  go_wp2_with fail
  refine HBD.out.mono ?_
  rintro e w1 ⟨rfl, rfl⟩
  go_upto_region 5 with fail
  go_region
  clear c1 c2
  go_wp2_with fail
  refine HNX.out.mono ?_
  rintro e w2 ⟨rfl, hb⟩
  have HM2 := Lib.hid (HM.out.chain hb)
  have HO2 := Lib.hid (Only.of_below (S := bf :: (Value.slice a L.length c).ownBlock.toList) (Below.chain hb (Below.refl _ w1).drew))
  have hsz : B ≤ w2.heap.size + 1 := by have h1 := hb.size; have h2 := HB.out; simp at h1; omega
  have HSZ := Lib.hid hsz
  have d2 := HM2.out.k.facts.1 2
  have hcn := Lib.hid (cells_new w2 [Str s, .int .i64 n, .int .i64 t] 119)
  have HZ : Hid (∀ u ∈ ([Str s, .int .i64 n, .int .i64 t] : List Value), u.oneCell' = true) := Lib.hid (by simp [Value.oneCell'])
  have hne := HM2.out.s.ne_blk' HM2.out.k (by decide)
  clear hb hsz
  go_wp2_with (at_builtin; refine wpList_append_seg _ rfl (.tmp 46) (.tmp 51) 115 rfl B 119 i0 _ 3 32 Try.underlying115 hi hz0 hz1 hz2 rfl (by decide) (.slice a L.length c) L.length (fbC L) rfl (HM2.out.s.alloc _) ⟨w2.heap.size, 0, none⟩ 1 1 [Str s, .int .i64 n, .int .i64 t] rfl rfl hcn.out HZ.out (by decide) HQ.out.1 HQ.out.2 (by rw [size_alloc]; exact HSZ.out) (w2.heap.size + 1) (size_alloc _ _) ?_; intro g4 o4 c4 w4 hown4 hgrow4 hat4; have hk4 := (HM2.out.k.alloc (.cells #[Str s, .int .i64 n, .int .i64 t] 119)).grown hgrow4 (fun e => hne bf e.symm rfl); have e2 := hk4.facts.1 2; have fe2 := hk4.facts.2.1 2; have HK4 := Lib.hid hk4; have HO4 := Lib.hid hown4; have HG4 := Lib.hid (Only.grown (S := bf :: (Value.slice a L.length c).ownBlock.toList) (HO2.out.alloc (.cells #[Str s, .int .i64 n, .int .i64 t] 119)) hgrow4 (fun x hx => .inl (List.mem_cons_of_mem _ (by simp [hx])))); clear hk4 hown4 hgrow4 hat4 d2)
  go_ret2
  refine ⟨g4, o4, c4, rfl, ⟨HK4.out.setAt 2 _ rfl, ?_⟩, HG4.out.setCell _ _ (.inl List.mem_cons_self)⟩
  rw [List.length_append, fbC_snoc]
  exact HO4.out.setOther _ _ (HO4.out.ne_blk' HK4.out (by decide))
/-- All of a flight is behind a number: nothing goes. -/
theorem flack_none (x : Int) {w : World} {B bf : Nat} {b z : Int} {v : Value} {L : List FB} (h : FlM w B bf b z v L) (hl : L.length ≤ 64) (hx : 0 < ahead ((b + (L.length : Int)) % 4294967296) x) :
    Calls Try.prog 25 #[.pointer (some ⟨bf, 0, none⟩), .int .u32 x] w fun e w' => e = .returned (.int .i64 0) ∧ Below w.heap.size w w' := by
  have HN := Lib.hid (flnext_any h hl)
  generalize (b + (L.length : Int)) % 4294967296 = N0 at *
  have HL := Lib.hid (fun w' => less_any N0 x w')
  rw [decide_eq_true hx] at HL
  clear h hx hl
  go_enter Try.func25, Try.ntmps25
  go_wp2_with fail
  refine HN.out.mono ?_
  rintro e w1 ⟨rfl, hb⟩
  have HB := Lib.hid hb
  clear hb
  go_wp2_with fail
  refine (HL.out _).mono ?_
  rintro e w2 ⟨rfl, rfl⟩
  go_wp2_with fail
  go_ret
  exact ⟨rfl, HB.out⟩
/-- One goes. -/
theorem flack_one (x : Int) {w : World} {B bf g off c : Nat} {b z : Int} {y : FB} {L : List FB} (h : FlM w B bf b z (.slice (some ⟨g, off, none⟩) (L.length + 1) c) (y :: L)) (hl : L.length ≤ 60) (hx : ¬ 0 < ahead ((b + ((L.length + 1 : Nat) : Int)) % 4294967296) x) (hx1 : ahead b x = 1) (hc : 2 ≤ c) (hcm : c ≤ maxLen) :
    Calls Try.prog 25 #[.pointer (some ⟨bf, 0, none⟩), .int .u32 x] w fun e w' => e = .returned (.int .i64 1) ∧ FlM w' B bf ((b + 1) % 4294967296) z (.slice (some ⟨g, off + 3, none⟩) L.length (c - 1)) L ∧ Only [bf] w w' := by
  have HN := Lib.hid (flnext_any h (by simp; omega))
  have e0 : ((y :: L).length : Int) = ((L.length + 1 : Nat) : Int) := by simp
  rw [e0] at HN
  generalize (b + ((L.length + 1 : Nat) : Int)) % 4294967296 = N0 at *
  have HL := Lib.hid (fun w' => less_any N0 x w')
  rw [decide_eq_false hx] at HL
  have HA := Lib.hid (fun w' => ahead_any b x w')
  rw [hx1] at HA
  have HM := Lib.hid h
  have hc1 : (1 : Int) ≤ (c : Int) := by omega
  have hc2 : ¬ c = 1 := by omega
  have hc3 : ¬ (c : Int) = 1 := by omega
  have hc4 : (L.length : Int) + 1 ≤ (c : Int) := by
    rcases h.s.2 with ⟨h0, _⟩ | ⟨_, _, _, _, hv, _, _, hn, _⟩
    · cases h0
    · cases hv
      simp at hn
      omega
  have hl1 : (1 : Int) ≤ (L.length : Int) + 1 := by omega
  have hcM : (c : Int) ≤ 9223372036854775807 := by unfold maxLen at hcm; omega
  clear h hx hl hx1 e0 hcm hc
  go_enter Try.func25, Try.ntmps25
  go_wp2_with fail
  refine HN.out.mono ?_
  rintro e w1 ⟨rfl, hb⟩
  have HB := Lib.hid hb
  have HM1 := Lib.hid (HM.out.chain hb)
  clear hb
  go_wp2_with fail
  refine (HL.out _).mono ?_
  rintro e w2 ⟨rfl, rfl⟩
  obtain ⟨K0, K1, K2⟩ := HM1.out.k.facts
  have c0 := K0 0
  have c2 := K0 2
  have f0 := K1 0
  have f2 := K1 2
  clear K0 K1
  go_wp2_with fail
  refine (HA.out _).mono ?_
  rintro e w3 ⟨rfl, rfl⟩
  go_wp2_with fail
  go_ret
  have hm := HM1.out
  have ht : Seg _ B 119 3 (.slice (some ⟨g, off + 3, none⟩) L.length (c - 1)) L.length (fbC L) := Seg.tail (n := L.length) hm.s (off + 3) (.inl rfl)
  have hn := ht.ne_blk' hm.k (by decide)
  exact ⟨rfl, ⟨(hm.k.setAt 2 _ rfl).setAt 0 _ rfl, (ht.setOther _ _ hn).setOther _ _ hn⟩, ((Only.of_below HB.out).setCell _ _ (.inl (by simp))).setCell _ _ (.inl (by simp))⟩
end Go.Proofs.Ytgfbhclkpephnaa
