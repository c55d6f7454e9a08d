/-
  Merged: Blocks that were sent: memory; New, Next, Base, Len, bad, find, Body (chapter 22). | Blocks that were sent: find, Body (chapter 22). | Blocks that were sent: Add, Ack (chapter 22). | Blocks that were sent: Wants (chapter 22).
-/
import Derived.Test.YtnmlmpffmjhihaaGreatMN
import Derived.Test.YtnmlmpffmjhihaaGreatMO
namespace Go.Proofs.YtnmlmpffmjhihaaGreat
open Go Go.RowKit
set_option linter.unusedVariables false
set_option linter.unusedSimpArgs false
set_option maxRecDepth 100000
set_option maxHeartbeats 1000000
theorem Seg.heap' {w : World} {base size n : Nat} {e : TypeId} {v : Value} {xs : List Value} (h : Seg w base e size v n xs) {g : Nat} (hg : v.ownBlock = some g) : ∃ cur, w.heap[g]? = some (.cells cur e (0, 0)) := by
  rcases h.2 with ⟨hv, _⟩ | ⟨g', off, cap, cur, hv, hb, hh, _⟩
  · rw [hv] at hg; cases hg
  · rw [hv] at hg
    obtain rfl : g' = g := by simpa [Value.ownBlock] using hg
    exact ⟨cur, hh⟩
theorem Seg.ne_blk' {w : World} {base size n : Nat} {e t : TypeId} {v : Value} {xs : List Value} {b : Nat} {cs : Array Value} (h : Seg w base e size v n xs) (hb : Blk w b cs t) (hn : e ≠ t) : ∀ g, v.ownBlock = some g → g ≠ b := fun g hg hgb => by
  obtain ⟨cur, hc⟩ := h.heap' hg
  unfold Blk at hb
  rw [hgb, hb] at hc
  cases hc
  exact hn rfl
/-- A block: its bytes, how many shards, when it was sent. -/
structure FB where
  body : List UInt8
  n : Int
  at' : Int
def FB.vals (x : FB) : List Value := [Str x.body, .int .i64 x.n, .int .i64 x.at']
def fbC (l : List FB) : List Value := l.flatMap FB.vals
theorem fbC_len : ∀ l : List FB, (fbC l).length = l.length * 3
  | [] => rfl
  | x :: l => by
    have := fbC_len l
    show (FB.vals x ++ fbC l).length = _
    rw [List.length_append, this]
    simp [FB.vals]
    omega
theorem fbC_get : ∀ (l : List FB) (i j : Nat) (hi : i < l.length) (hj : j < 3), (fbC l)[i * 3 + j]? = (l[i]).vals[j]?
  | x :: l, 0, j, _, hj => by
    show (FB.vals x ++ fbC l)[0 * 3 + j]? = _
    rw [List.getElem?_append_left (by simp [FB.vals]; omega)]
    simp
  | x :: l, i + 1, j, hi, hj => by
    show (FB.vals x ++ fbC l)[(i + 1) * 3 + j]? = _
    rw [List.getElem?_append_right (by simp [FB.vals]; omega), show (i + 1) * 3 + j - (FB.vals x).length = i * 3 + j by simp [FB.vals]; omega, fbC_get l i j (by simpa using hi) hj]
    simp
/-- A flight in memory. -/
structure FlM (w : World) (B bf : Nat) (b z : Int) (v : Value) (L : List FB) : Prop where
  k : Blk w bf #[.int .u32 b, .int .i64 z, v] 78
  s : Seg w B 98 3 v L.length (fbC L)
theorem FlM.chain {w w' : World} {B bf : Nat} {b z : Int} {v : Value} {L : List FB} (h : FlM w B bf b z v L) (hb : Below w.heap.size w w') : FlM w' B bf b z v L := ⟨h.k.below hb h.k.lt, h.s.chain hb⟩
theorem flnew_ok (b z : Int) (h1 : 1 ≤ z) (h2 : z ≤ 64) (w : World) : Calls Tryz.prog 55 #[.int .u32 b, .int .i64 z] w fun e w' => e = .returned (.tuple #[.pointer (some ⟨w.heap.size, 0, none⟩), .int .i64 0]) ∧ FlM w' (w.heap.size + 1) w.heap.size b z (.slice none 0 0) [] ∧ Below w.heap.size w w' := by
  have h3 : ¬ z < 1 := by omega
  have h4 : ¬ 64 < z := by omega
  have HK := Lib.hid (Blk.new w #[.int .u32 b, .int .i64 z, .slice none 0 0] 78)
  have HB := Lib.hid (Below.chainAlloc (Below.refl _ w) (.cells #[.int .u32 b, .int .i64 z, .slice none 0 0] 78))
  go_enter Tryz.func55, Tryz.ntmps55
  go_wp2_with fail
  go_ret2
  exact ⟨rfl, ⟨HK.out, Seg.nil _ _ _ _⟩, HB.out⟩
theorem flnew_bad (b : Int) (w : World) : Calls Tryz.prog 55 #[.int .u32 b, .int .i64 0] w fun e w' => e = .returned (.tuple #[.pointer none, .int .i64 1]) ∧ w' = w := by
  go_enter Tryz.func55, Tryz.ntmps55
  go_wp2_with fail
  go_ret2
  exact ⟨rfl, rfl⟩
theorem flnext_any {w : World} {B bf : Nat} {b z : Int} {v : Value} {L : List FB} (h : FlM w B bf b z v L) (hl : L.length ≤ 64) : Calls Tryz.prog 17 #[.pointer (some ⟨bf, 0, none⟩)] w fun e w' => e = .returned (.int .u32 ((b + (L.length : Int)) % 4294967296)) ∧ Below w.heap.size w w' := by
  obtain ⟨a, c, rfl⟩ := h.s.form
  have c0 := h.k.facts.1 0
  have c2 := h.k.facts.1 2
  have hm : ((L.length : Nat) : Int) % 4294967296 = (L.length : Int) := by omega
  have HM := Lib.hid hm
  clear h
  go_enter Tryz.func17, Tryz.ntmps17
  go_wp2_with fail
  go_region
  go_wp2_with fail
  go_ret
  exact ⟨rfl, (Below.refl _ _).drew⟩
theorem flbase_any {w : World} {B bf : Nat} {b z : Int} {v : Value} {L : List FB} (h : FlM w B bf b z v L) : Calls Tryz.prog 46 #[.pointer (some ⟨bf, 0, none⟩)] w fun e w' => e = .returned (.int .u32 b) ∧ w' = w := by
  have c0 := h.k.facts.1 0
  clear h
  go_enter Tryz.func46, Tryz.ntmps46
  go_wp2_with fail
  go_ret
  exact ⟨rfl, rfl⟩
theorem fllen_any {w : World} {B bf : Nat} {b z : Int} {v : Value} {L : List FB} (h : FlM w B bf b z v L) : Calls Tryz.prog 35 #[.pointer (some ⟨bf, 0, none⟩)] w fun e w' => e = .returned (.int .i64 (L.length : Nat)) ∧ w' = w := by
  obtain ⟨a, c, rfl⟩ := h.s.form
  have c2 := h.k.facts.1 2
  clear h
  go_enter Tryz.func35, Tryz.ntmps35
  go_wp2_with fail
  go_ret
  exact ⟨rfl, rfl⟩
theorem flbad_ok (t : Int) (h1 : 0 ≤ t) (h2 : t ≤ 1099511627776) (w : World) : Calls Tryz.prog 44 #[.int .i64 t] w fun e w' => e = .returned (.bool false) ∧ w' = w := by
  have h3 : ¬ t < 0 := by omega
  have h4 : ¬ 1099511627776 < t := by omega
  clear h1 h2
  go_enter Tryz.func44, Tryz.ntmps44
  go_wp2_with fail
  go_ret
  exact ⟨by simp [h3, h4], rfl⟩
end Go.Proofs.YtnmlmpffmjhihaaGreat
namespace Go.Proofs.YtnmlmpffmjhihaaGreat
open Go Go.RowKit
set_option linter.unusedVariables false
set_option linter.unusedSimpArgs false
set_option maxRecDepth 100000
set_option maxHeartbeats 1000000
theorem FlM.row {w : World} {B bf g off c : Nat} {b z : Int} {L : List FB} {n : Nat} (h : FlM w B bf b z (.slice (some ⟨g, off, none⟩) n c) L) (hn : n = L.length) (i : Nat) (hi : i < L.length) : w.cell? ⟨g, off + i * 3, none⟩ = some (Str L[i].body) ∧ w.cell? ⟨g, off + i * 3 + 1, none⟩ = some (.int .i64 L[i].n) ∧ w.cell? ⟨g, off + i * 3 + 2, none⟩ = some (.int .i64 L[i].at') := by
  subst hn
  have h0 := h.s.at (i * 3) (by omega)
  have h1 := h.s.at (i * 3 + 1) (by omega)
  have h2 := h.s.at (i * 3 + 2) (by omega)
  rw [fbC_get L i 1 hi (by omega)] at h1
  rw [fbC_get L i 2 hi (by omega)] at h2
  have h0' := fbC_get L i 0 hi (by omega)
  rw [Nat.add_zero] at h0'
  rw [h0'] at h0
  exact ⟨h0, h1, h2⟩
theorem flfind_ok (x : Int) {w : World} {B bf g off c : Nat} {b z : Int} {L : List FB} (h : FlM w B bf b z (.slice (some ⟨g, off, none⟩) L.length c) L) (i : Nat) (hi : i < L.length) (hx : ahead b x = (i : Int)) : Calls Tryz.prog 41 #[.pointer (some ⟨bf, 0, none⟩), .int .u32 x] w fun e w' => e = .returned (.pointer (some ⟨g, off + i * 3, none⟩)) ∧ Below w.heap.size w w' := by
  have H1 : Hid (∀ w', Calls Tryz.prog 65 #[.int .u32 x, .int .u32 b, .int .i64 (L.length : Nat)] w' fun e w'' => e = .returned (.bool true) ∧ w'' = w') := Lib.hid fun w' => by
    refine (within_any x b (L.length : Nat) w').mono ?_
    rintro e w'' ⟨rfl, rfl⟩
    refine ⟨?_, rfl⟩
    rw [hx, decide_eq_true (by omega : (0 : Int) ≤ (i : Int)), decide_eq_true (Int.ofNat_lt.2 hi)]
    rfl
  have H2 : Hid (∀ w', Calls Tryz.prog 48 #[.int .u32 b, .int .u32 x] w' fun e w'' => e = .returned (.int .i64 (i : Nat)) ∧ w'' = w') := Lib.hid fun w' => by
    refine (ahead_any b x w').mono ?_
    rintro e w'' ⟨rfl, rfl⟩
    exact ⟨by rw [hx], rfl⟩
  have HK := Lib.hid h.k
  have c0 := h.k.facts.1 0
  have c2 := h.k.facts.1 2
  have hi0 : (0 : Int) ≤ (i : Int) := by omega
  have hii : (i : Int) < (L.length : Int) := Int.ofNat_lt.2 hi
  clear h hx hi
  go_enter Tryz.func41, Tryz.ntmps41
  go_upto_region 1 with fail
  refine wp_region_quiet_lit (by kernel_rfl) (by kernel_rfl) ?_
  repeat (first | go_big_quiet_step (exact Calls.quiet_of_same (H1.out _)) | quiet_step (exact Calls.quiet_of_same (H1.out _)))
  refine wpQuiet_nil ?_
  intro _ hw'
  obtain ⟨nq, hw''⟩ := hw'
  subst hw''
  have hb1 := below_drewN (Below.refl w.heap.size w) nq
  have HB1 := Lib.hid hb1
  have k1 := HK.out.below hb1 HK.out.lt
  have d0 := k1.facts.1 0
  have d2 := k1.facts.1 2
  clear c0 c2 hb1 k1
  generalize w.drewN nq = w1 at *
  go_upto_region 3 with fail
  refine wp_region_quiet_lit (by kernel_rfl) (by kernel_rfl) ?_
  repeat (first | go_big_quiet_step (exact Calls.quiet_of_same (H2.out _)) | quiet_step (exact Calls.quiet_of_same (H2.out _)))
  refine wpQuiet_nil ?_
  intro _ hw'
  obtain ⟨nq, hw''⟩ := hw'
  subst hw''
  have HB2 := Lib.hid (below_drewN HB1.out nq)
  clear d0 d2
  generalize w1.drewN nq = w2 at *
  go_wp2_with fail
  go_ret
  exact ⟨rfl, HB2.out⟩
theorem flbody_ok (x : Int) {w : World} {B bf g off c : Nat} {b z : Int} {L : List FB} (h : FlM w B bf b z (.slice (some ⟨g, off, none⟩) L.length c) L) (i : Nat) (hi : i < L.length) (hx : ahead b x = (i : Int)) : Calls Tryz.prog 32 #[.pointer (some ⟨bf, 0, none⟩), .int .u32 x] w fun e w' => e = .returned (.tuple #[Str L[i].body, .int .i64 L[i].n, .bool true]) ∧ Below w.heap.size w w' := by
  have HF := Lib.hid (flfind_ok x h i hi hx)
  have HR : Hid (∀ w', Below w.heap.size w w' → w'.cell? ⟨g, off + i * 3, none⟩ = some (Str L[i].body) ∧ w'.cell? ⟨g, off + i * 3 + 1, none⟩ = some (.int .i64 L[i].n) ∧ w'.cell? ⟨g, off + i * 3 + 2, none⟩ = some (.int .i64 L[i].at')) := Lib.hid fun w' hb => (h.chain hb).row rfl i hi
  generalize L[i] = y at *
  clear h hx
  go_enter Tryz.func32, Tryz.ntmps32
  go_wp2_with fail
  refine HF.out.mono ?_
  rintro e w1 ⟨rfl, hb⟩
  obtain ⟨d0, d1, d2⟩ := HR.out _ hb
  have HB1 := Lib.hid hb
  clear hb
  go_upto_region 4 with fail
  go_region
  go_wp2_with fail
  exact bodyPost_ret (v := .tuple #[Str y.body, .int .i64 y.n, .bool true]) (by simp [results, Tryz.results32, go_sem]) rfl ⟨rfl, HB1.out.drew⟩
end Go.Proofs.YtnmlmpffmjhihaaGreat
namespace Go.Proofs.YtnmlmpffmjhihaaGreat
open Go Go.RowKit
set_option linter.unusedVariables false
set_option linter.unusedSimpArgs false
set_option maxRecDepth 100000
set_option maxHeartbeats 1000000
theorem infoFB : (Tryz.prog.info? 98).map (fun i => (i.zero, i.size, i.bytes)) = some (some (.agg #[Str [], .int .i64 0, .int .i64 0]), 3, 32) := by kernel_rfl
theorem fbC_snoc (L : List FB) (x : FB) : fbC (L ++ [x]) = fbC L ++ [Str x.body, .int .i64 x.n, .int .i64 x.at'] := by simp [fbC, FB.vals]
theorem fladd_full (s : List UInt8) (n t : Int) {w : World} {B bf : Nat} {b z : Int} {v : Value} {L : List FB} (h : FlM w B bf b z v L) (hs : s.isEmpty = false) (hn : 1 ≤ n ∧ n ≤ 255) (ht : 0 ≤ t ∧ t ≤ 1099511627776) (hz : z ≤ (L.length : Int)) :
    Calls Tryz.prog 39 #[.pointer (some ⟨bf, 0, none⟩), Str s, .int .i64 n, .int .i64 t] w fun e w' => e = .returned (.tuple #[.int .u32 0, .int .i64 9]) ∧ Below w.heap.size w w' := by
  obtain ⟨a, c, rfl⟩ := h.s.form
  have c1 := h.k.facts.1 1
  have c2 := h.k.facts.1 2
  have HBD := Lib.hid (flbad_ok t ht.1 ht.2 w)
  have h1 : ¬ n < 1 := by omega
  have h2 : ¬ 255 < n := by omega
  clear h ht hn
  go_enter Tryz.func39, Tryz.ntmps39
  go_wp2_with fail
  refine HBD.out.mono ?_
  rintro e w1 ⟨rfl, rfl⟩
  go_upto_region 5 with fail
  go_region
  go_wp2_with fail
  go_ret2
  exact ⟨rfl, (Below.refl _ _).drew⟩
def FlAddPost (w : World) (B bf : Nat) (b z : Int) (v : Value) (L : List FB) (x : FB) (e : Ending) (w' : World) : Prop :=
  ∃ g off c, e = .returned (.tuple #[.int .u32 ((b + (L.length : Int)) % 4294967296), .int .i64 0]) ∧ FlM w' B bf b z (.slice (some ⟨g, off, none⟩) (L.length + 1) c) (L ++ [x]) ∧ Only (bf :: v.ownBlock.toList) w w' ∧ (v.ownBlock = some g ∨ w.heap.size ≤ g)
theorem fladd_ok (s : List UInt8) (n t : Int) {w : World} {B bf : Nat} {b z : Int} {v : Value} {L : List FB} (h : FlM w B bf b z v L) (hs : s.isEmpty = false) (hn : 1 ≤ n ∧ n ≤ 255) (ht : 0 ≤ t ∧ t ≤ 1099511627776) (hz : (L.length : Int) < z) (hl : L.length ≤ 63) (hB : B ≤ w.heap.size) :
    Calls Tryz.prog 39 #[.pointer (some ⟨bf, 0, none⟩), Str s, .int .i64 n, .int .i64 t] w (FlAddPost w B bf b z v L ⟨s, n, t⟩) := by
  obtain ⟨i0, hi, hz0, hz1, hz2⟩ := info_parts infoFB
  obtain ⟨a, c, rfl⟩ := h.s.form
  have c1 := h.k.facts.1 1
  have c2 := h.k.facts.1 2
  have HBD := Lib.hid (flbad_ok t ht.1 ht.2 w)
  have h1 : ¬ n < 1 := by omega
  have h2 : ¬ 255 < n := by omega
  have h3 : ¬ z ≤ (L.length : Int) := by omega
  have HNX := Lib.hid (flnext_any (h.chain (Below.refl _ w).drew) (by omega))
  have HM := Lib.hid (h.chain (Below.refl _ w).drew)
  have HQ : Hid (L.length + 1 ≤ maxLen ∧ (L.length + 1) * 32 ≤ 140737488355328) := Lib.hid ⟨by unfold maxLen; omega, by omega⟩
  have HB := Lib.hid hB
  unfold FlAddPost
  generalize (b + (L.length : Int)) % 4294967296 = N0 at *
  clear h ht hn hz hl hB
  go_enter Tryz.func39, Tryz.ntmps39
  go_wp2_with fail
  refine HBD.out.mono ?_
  rintro e w1 ⟨rfl, rfl⟩
  go_upto_region 5 with fail
  go_region
  clear c1 c2
  go_wp2_with fail
  refine HNX.out.mono ?_
  rintro e w2 ⟨rfl, hb⟩
  have HM2 := Lib.hid (HM.out.chain hb)
  have HO2 := Lib.hid (Only.of_below (S := bf :: (Value.slice a L.length c).ownBlock.toList) (Below.chain hb (Below.refl _ w1).drew))
  have hsz : B ≤ w2.heap.size + 1 := by have h1 := hb.size; have h2 := HB.out; simp at h1; omega
  have HSZ := Lib.hid hsz
  have d2 := HM2.out.k.facts.1 2
  have hcn := Lib.hid (cells_new w2 [Str s, .int .i64 n, .int .i64 t] 98)
  have HZ : Hid (∀ u ∈ ([Str s, .int .i64 n, .int .i64 t] : List Value), u.oneCell' = true) := Lib.hid (by simp [Value.oneCell'])
  have hne := HM2.out.s.ne_blk' HM2.out.k (by decide)
  have HB5 : Hid (w1.heap.size ≤ w2.heap.size) := Lib.hid hb.size
  clear hb hsz
  go_wp2_with (at_builtin; refine wpList_append_seg _ rfl (.tmp 46) (.tmp 51) 76 rfl B 98 i0 _ 3 32 Tryz.underlying76 hi hz0 hz1 hz2 rfl (by decide) (.slice a L.length c) L.length (fbC L) rfl (HM2.out.s.alloc _) ⟨w2.heap.size, 0, none⟩ 1 1 [Str s, .int .i64 n, .int .i64 t] rfl rfl hcn.out HZ.out (by decide) HQ.out.1 HQ.out.2 (by rw [size_alloc]; exact HSZ.out) (w2.heap.size + 1) (size_alloc _ _) ?_; intro g4 o4 c4 w4 hown4 hgrow4 hat4; have hk4 := (HM2.out.k.alloc (.cells #[Str s, .int .i64 n, .int .i64 t] 98)).grown hgrow4 (fun e => hne bf e.symm rfl); have e2 := hk4.facts.1 2; have fe2 := hk4.facts.2.1 2; have HK4 := Lib.hid hk4; have HO4 := Lib.hid hown4; have HAT := Lib.hid hat4; have HG4 := Lib.hid (Only.grown (S := bf :: (Value.slice a L.length c).ownBlock.toList) (HO2.out.alloc (.cells #[Str s, .int .i64 n, .int .i64 t] 98)) hgrow4 (fun x hx => .inl (List.mem_cons_of_mem _ (by simp [hx])))); clear hk4 hown4 hgrow4 hat4 d2)
  go_ret2
  refine ⟨g4, o4, c4, rfl, ⟨HK4.out.setAt 2 _ rfl, ?_⟩, HG4.out.setCell _ _ (.inl List.mem_cons_self), HAT.out.imp id fun h => by have := HB5.out; omega⟩
  rw [List.length_append, fbC_snoc]
  exact HO4.out.setOther _ _ (HO4.out.ne_blk' HK4.out (by decide))
/-- All of a flight is behind a number: nothing goes. -/
theorem flack_none (x : Int) {w : World} {B bf : Nat} {b z : Int} {v : Value} {L : List FB} (h : FlM w B bf b z v L) (hl : L.length ≤ 64) (hx : 0 < ahead ((b + (L.length : Int)) % 4294967296) x) :
    Calls Tryz.prog 47 #[.pointer (some ⟨bf, 0, none⟩), .int .u32 x] w fun e w' => e = .returned (.int .i64 0) ∧ Below w.heap.size w w' := by
  have HN := Lib.hid (flnext_any h hl)
  generalize (b + (L.length : Int)) % 4294967296 = N0 at *
  have HL := Lib.hid (fun w' => less_any N0 x w')
  rw [decide_eq_true hx] at HL
  clear h hx hl
  go_enter Tryz.func47, Tryz.ntmps47
  go_wp2_with fail
  refine HN.out.mono ?_
  rintro e w1 ⟨rfl, hb⟩
  have HB := Lib.hid hb
  clear hb
  go_wp2_with fail
  refine (HL.out _).mono ?_
  rintro e w2 ⟨rfl, rfl⟩
  go_wp2_with fail
  go_ret
  exact ⟨rfl, HB.out⟩
/-- One goes. -/
theorem flack_one (x : Int) {w : World} {B bf g off c : Nat} {b z : Int} {y : FB} {L : List FB} (h : FlM w B bf b z (.slice (some ⟨g, off, none⟩) (L.length + 1) c) (y :: L)) (hl : L.length ≤ 60) (hx : ¬ 0 < ahead ((b + ((L.length + 1 : Nat) : Int)) % 4294967296) x) (hx1 : ahead b x = 1) (hc : 2 ≤ c) (hcm : c ≤ maxLen) :
    Calls Tryz.prog 47 #[.pointer (some ⟨bf, 0, none⟩), .int .u32 x] w fun e w' => e = .returned (.int .i64 1) ∧ FlM w' B bf ((b + 1) % 4294967296) z (.slice (some ⟨g, off + 3, none⟩) L.length (c - 1)) L ∧ Only [bf] w w' := by
  have HN := Lib.hid (flnext_any h (by simp; omega))
  have e0 : ((y :: L).length : Int) = ((L.length + 1 : Nat) : Int) := by simp
  rw [e0] at HN
  generalize (b + ((L.length + 1 : Nat) : Int)) % 4294967296 = N0 at *
  have HL := Lib.hid (fun w' => less_any N0 x w')
  rw [decide_eq_false hx] at HL
  have HA := Lib.hid (fun w' => ahead_any b x w')
  rw [hx1] at HA
  have HM := Lib.hid h
  have hc1 : (1 : Int) ≤ (c : Int) := by omega
  have hc2 : ¬ c = 1 := by omega
  have hc3 : ¬ (c : Int) = 1 := by omega
  have hc4 : (L.length : Int) + 1 ≤ (c : Int) := by
    rcases h.s.2 with ⟨h0, _⟩ | ⟨_, _, _, _, hv, _, _, hn, _⟩
    · cases h0
    · cases hv
      simp at hn
      omega
  have hl1 : (1 : Int) ≤ (L.length : Int) + 1 := by omega
  have hcM : (c : Int) ≤ 9223372036854775807 := by unfold maxLen at hcm; omega
  clear h hx hl hx1 e0 hcm hc
  go_enter Tryz.func47, Tryz.ntmps47
  go_wp2_with fail
  refine HN.out.mono ?_
  rintro e w1 ⟨rfl, hb⟩
  have HB := Lib.hid hb
  have HM1 := Lib.hid (HM.out.chain hb)
  clear hb
  go_wp2_with fail
  refine (HL.out _).mono ?_
  rintro e w2 ⟨rfl, rfl⟩
  obtain ⟨K0, K1, K2⟩ := HM1.out.k.facts
  have c0 := K0 0
  have c2 := K0 2
  have f0 := K1 0
  have f2 := K1 2
  clear K0 K1
  go_wp2_with fail
  refine (HA.out _).mono ?_
  rintro e w3 ⟨rfl, rfl⟩
  go_wp2_with fail
  go_ret
  have hm := HM1.out
  have ht : Seg _ B 98 3 (.slice (some ⟨g, off + 3, none⟩) L.length (c - 1)) L.length (fbC L) := Seg.tail (n := L.length) hm.s (off + 3) (.inl rfl)
  have hn := ht.ne_blk' hm.k (by decide)
  exact ⟨rfl, ⟨(hm.k.setAt 2 _ rfl).setAt 0 _ rfl, (ht.setOther _ _ hn).setOther _ _ hn⟩, ((Only.of_below HB.out).setCell _ _ (.inl (by simp))).setCell _ _ (.inl (by simp))⟩
end Go.Proofs.YtnmlmpffmjhihaaGreat
namespace Go.Proofs.YtnmlmpffmjhihaaGreat
open Go Go.RowKit
set_option linter.unusedVariables false
set_option linter.unusedSimpArgs false
set_option maxRecDepth 100000
set_option maxHeartbeats 1000000
theorem infoSend : (Tryz.prog.info? 54).map (fun i => (i.zero, i.size, i.bytes)) = some (some (.agg #[.int .u32 0, .int .i64 0]), 2, 16) := by kernel_rfl
/-- What is to be sent, as cells. -/
def sdC (x : Int) (l : List Int) : List Value := l.flatMap fun i => [.int .u32 x, .int .i64 i]
theorem sdC_snoc (x : Int) (l : List Int) (i : Int) : sdC x (l ++ [i]) = sdC x l ++ [.int .u32 x, .int .i64 i] := by simp [sdC]
theorem flwants_ok (x : Int) (s : List UInt8) (need m cnt j : Int) {w : World} {B bf g off c : Nat} {b z : Int} {L : List FB} (h : FlM w B bf b z (.slice (some ⟨g, off, none⟩) L.length c) L) (i : Nat) (hi : i < L.length) (hx : ahead b x = (i : Int)) (hs : s.length ≤ 1000) (hn : -9223372036854775808 ≤ L[i].n ∧ L[i].n ≤ 9223372036854775807) (hn0 : 0 ≤ need ∧ need ≤ 1000) (hc : cntTo s 256 = cnt) (hm : need - cnt = m) (hm0 : -1000 ≤ m ∧ m ≤ 1000) (hj : mis s L[i].n m = [j]) :
    Calls Tryz.prog 23 #[.pointer (some ⟨bf, 0, none⟩), .int .u32 x, Str s, .int .i64 need] w fun e w' => ∃ v, e = .returned v ∧ Seg w' w.heap.size 54 2 v 1 [.int .u32 x, .int .i64 j] ∧ Below w.heap.size w w' := by
  obtain ⟨i0, hif, hz0, hz1, hz2⟩ := info_parts infoSend
  have HF := Lib.hid (flfind_ok x h i hi hx)
  have HR : Hid (∀ w', Below w.heap.size w w' → w'.cell? ⟨g, off + i * 3, none⟩ = some (Str L[i].body) ∧ w'.cell? ⟨g, off + i * 3 + 1, none⟩ = some (.int .i64 L[i].n) ∧ w'.cell? ⟨g, off + i * 3 + 2, none⟩ = some (.int .i64 L[i].at')) := Lib.hid fun w' hb => (h.chain hb).row rfl i hi
  generalize L[i] = y at *
  have HC := Lib.hid (fun w' => count_any s (by omega) w')
  rw [hc] at HC
  have HMI : Hid (∀ w', Calls Tryz.prog 42 #[Str s, .int .i64 y.n, .int .i64 m] w' fun e w'' => ∃ gb ob cap, e = .returned (.slice (some ⟨gb, ob, none⟩) 1 cap) ∧ gb < w''.heap.size ∧ w''.cell? ⟨gb, ob, none⟩ = some (.int .i64 j) ∧ Below w'.heap.size w' w'') := Lib.hid fun w' => by
    refine (missing_any s (by omega) y.n m hn.1 hn.2 (by omega) (by omega) w').mono ?_
    rintro e w'' ⟨a, cap, rfl, hz, hb⟩
    rw [hj] at hz ⊢
    obtain ⟨_, _, _, _, hcells⟩ := hz
    obtain ⟨gb, ob, rfl, hgb, hcell⟩ := hcells.resolve_left (by simp)
    exact ⟨gb, ob, cap, rfl, hgb, by simpa using hcell 0 (by simp), hb⟩
  have hw : wrap64 (need - cnt) = m := by rw [hm]; exact IntWalk.wrap64_in _ (by omega)
  have hnn : max need 0 = need := by omega
  have hwi : IntKind.i64.wrap (need - cnt) = m := by rw [hm]; exact IntWalk.i64_in _ (by clear hw; omega)
  clear h hx hc hm hm0 hn0 hj hn hi hs
  go_enter Tryz.func23, Tryz.ntmps23
  go_wp2_with fail
  refine HF.out.mono ?_
  rintro e w1 ⟨rfl, hb⟩
  have HB1 := Lib.hid hb
  have HR1 : Hid (∀ w', Below w1.heap.size w1 w' → (w'.cell? ⟨g, off + i * 3 + 1, none⟩ = some (.int .i64 y.n)) ∧ Below w1.heap.size w1 w') := Lib.hid fun w' hb' => ⟨(HR.out _ (Below.chain hb' HB1.out)).2.1, hb'⟩
  clear hb HR
  go_upto_region 5 with fail
  go_cut [28, 29, 30] (fun v28 v29 v30 wx => ∃ gb ob cpb : Nat, v28 = .slice (some ⟨gb, ob, none⟩) 1 cpb ∧ v29 = .int .i64 1 ∧ v30 = .int .i64 0 ∧ gb < wx.heap.size ∧ wx.cell? ⟨gb, ob, none⟩ = some (.int .i64 j) ∧ Hid (Below w1.heap.size w1 wx))
  case first =>
    go_region_held3 (fun w' => (w'.cell? ⟨g, off + i * 3 + 1, none⟩ = some (.int .i64 y.n)) ∧ Below w1.heap.size w1 w')
      (first
        | exact HR1.out _ (Below.refl _ _).drew
        | exact HR1.out _ (Below.refl _ _)
        | (go_split_ands; exact HR1.out _ (Below.chain hb (by first | assumption | exact (Below.refl _ _).drew | exact Below.refl _ _))))
      ((first
        | (go_at_call 43; refine (HC.out _).mono ?_; rintro e w2 ⟨rfl, hb⟩)
        | (go_at_call 42; refine (HMI.out _).mono ?_; rintro e w3 ⟨gb, ob, cpb, rfl, hgb, hcb, hb⟩)))
    all_goals
      go_wp2_with fail
      go_meet
      exact ⟨gb, ob, cpb, rfl, rfl, rfl, hgb, hcb, Lib.hid (by first | assumption | (go_split_ands; assumption))⟩
  case rest =>
    obtain ⟨gb, ob, cpb, rfl, rfl, rfl, hgb, hcb, HB3⟩ := hcut
    obtain ⟨w3, rfl⟩ : ∃ w3, w3 = wc := ⟨_, rfl⟩
    have HB4 := Lib.hid (Below.chain HB3.out HB1.out)
    have hg1 : ¬ gb = w3.heap.size := by omega
    have HB0 : Hid (w.heap.size ≤ w3.heap.size + 1) := Lib.hid (by have := HB4.out.size; omega)
    have hcn := Lib.hid (cells_new w3 [.int .u32 x, .int .i64 j] 54)
    have HZ : Hid (∀ u ∈ ([.int .u32 x, .int .i64 j] : List Value), u.oneCell' = true) := Lib.hid (by simp [Value.oneCell'])
    have HS0 := Lib.hid (Seg.nil (w3.alloc (.cells #[.int .u32 x, .int .i64 j] 54)) w.heap.size 54 2)
    have HQ : Hid (0 + 1 ≤ maxLen ∧ (0 + 1) * 16 ≤ 140737488355328) := Lib.hid (by unfold maxLen; omega)
    go_wp2_with fail
    go_loopg [10, 12, 30] 1 (fun gk v v12 i wr => (gk = 1 ∧ v = .slice none 0 0 ∧ i = .int .i64 0 ∧ wr = w3) ∨ (gk = 0 ∧ i = .int .i64 1 ∧ Hid (Seg wr w.heap.size 54 2 v 1 [.int .u32 x, .int .i64 j]) ∧ Hid (Below w.heap.size w wr)))
    case atStart => exact .inl ⟨rfl, rfl, rfl, rfl⟩
    case round =>
      rcases hrel with ⟨rfl, rfl, rfl, rfl⟩ | ⟨rfl, rfl, HS, HBW⟩
      · go_wp2_with (at_builtin; refine wpList_append_seg _ rfl (.tmp 34) (.tmp 38) 48 rfl w.heap.size 54 i0 _ 2 16 Tryz.underlying48 hif hz0 hz1 hz2 rfl (by decide) (.slice none 0 0) 0 [] rfl HS0.out ⟨wr.heap.size, 0, none⟩ 1 1 [.int .u32 x, .int .i64 j] rfl rfl hcn.out HZ.out (by decide) HQ.out.1 HQ.out.2 (by rw [size_alloc]; exact HB0.out) (wr.heap.size + 1) (size_alloc _ _) ?_; intro g4 o4 c4 w4 hown4 hgrow4 hat4; rw [List.nil_append, Nat.zero_add] at hown4; have HO4 := Lib.hid hown4; have HB5 := Lib.hid (Below.only (Below.chainAlloc HB4.out (.cells #[.int .u32 x, .int .i64 j] 54)) (Only.of_grown hgrow4) (by simp [Value.ownBlock])); clear hown4 hgrow4 hat4)
        go_roundg 0
        case measure => omega
        case rel => exact .inr ⟨rfl, rfl, HO4, HB5⟩
      · clear hcb hgb hg1
        go_wp2_with fail
        go_ret
        exact ⟨_, rfl, HS.out, HBW.out⟩
end Go.Proofs.YtnmlmpffmjhihaaGreat
