/-
  What is to be said: the example (chapter 25).
-/
import Derived.Test.YtphejbjbleeigaaCt11
namespace Go.Proofs.Ytphejbjbleeigaa
open Go Go.RowKit
set_option linter.unusedVariables false
set_option maxRecDepth 100000
set_option maxHeartbeats 4000000
def zero32' : List UInt8 := List.replicate 32 0
theorem rempty_any' (w : World) : Calls Try.prog 71 #[] w (RetB (Str zero32') w) := by
  have hmk : ∀ w, (Instr.makeSlice 40 (.int .i64 32) (.int .i64 32)).run Try.prog w = .ok (.slice (some ⟨w.heap.size, 0, none⟩) 32 32) (w.alloc (.cells #[.int .u8 0, .int .u8 0, .int .u8 0, .int .u8 0, .int .u8 0, .int .u8 0, .int .u8 0, .int .u8 0, .int .u8 0, .int .u8 0, .int .u8 0, .int .u8 0, .int .u8 0, .int .u8 0, .int .u8 0, .int .u8 0, .int .u8 0, .int .u8 0, .int .u8 0, .int .u8 0, .int .u8 0, .int .u8 0, .int .u8 0, .int .u8 0, .int .u8 0, .int .u8 0, .int .u8 0, .int .u8 0, .int .u8 0, .int .u8 0, .int .u8 0, .int .u8 0] 5)) := fun _ => by kernel_rfl
  have hcv : (convert 40 9 (.slice (some ⟨w.heap.size, 0, none⟩) 32 32)).run Try.prog (w.alloc (.cells #[.int .u8 0, .int .u8 0, .int .u8 0, .int .u8 0, .int .u8 0, .int .u8 0, .int .u8 0, .int .u8 0, .int .u8 0, .int .u8 0, .int .u8 0, .int .u8 0, .int .u8 0, .int .u8 0, .int .u8 0, .int .u8 0, .int .u8 0, .int .u8 0, .int .u8 0, .int .u8 0, .int .u8 0, .int .u8 0, .int .u8 0, .int .u8 0, .int .u8 0, .int .u8 0, .int .u8 0, .int .u8 0, .int .u8 0, .int .u8 0, .int .u8 0, .int .u8 0] 5)) = .ok (Str zero32') (w.alloc (.cells #[.int .u8 0, .int .u8 0, .int .u8 0, .int .u8 0, .int .u8 0, .int .u8 0, .int .u8 0, .int .u8 0, .int .u8 0, .int .u8 0, .int .u8 0, .int .u8 0, .int .u8 0, .int .u8 0, .int .u8 0, .int .u8 0, .int .u8 0, .int .u8 0, .int .u8 0, .int .u8 0, .int .u8 0, .int .u8 0, .int .u8 0, .int .u8 0, .int .u8 0, .int .u8 0, .int .u8 0, .int .u8 0, .int .u8 0, .int .u8 0, .int .u8 0, .int .u8 0] 5)) :=
    run_str_new (P := Try.prog) w 40 9 5 5 32 (List.replicate 32 0) [] Try.underlying40 Try.underlying5 Try.underlying9 (0, 0)
  go_enter Try.func71, Try.ntmps71
  go_wp2_with fail
  go_ret
  exact ⟨rfl, (Below.refl _ _).alloc (Nat.le_refl _) _⟩
theorem ack_any (s b : Int) (w : World) : Calls Try.prog 70 #[.int .i64 s, .int .u32 b] w (RetB (.agg #[.int .i64 4, .int .i64 s, .int .u32 b, .int .i64 0, .int .i64 0, .int .i64 0, .int .i64 0, .int .i64 3, .string ⟨#[]⟩, .string ⟨#[]⟩]) w) := by
  go_enter Try.func70, Try.ntmps70
  go_wp2_with fail
  exact bodyPost_ret (v := .agg #[.int .i64 4, .int .i64 s, .int .u32 b, .int .i64 0, .int .i64 0, .int .i64 0, .int .i64 0, .int .i64 3, .string ⟨#[]⟩, .string ⟨#[]⟩]) (by simp [results, Try.results70, go_sem]) rfl ⟨rfl, Below.chainAlloc (Below.refl _ _) _⟩
/-- What is to be said lies behind w0's memory; other datagrams lie there too, apart from it. -/
def Said (w0 : World) (bc : Nat) (ds : List Dg) (K : List (Nat × Array Value)) (w : World) : Prop :=
  w0.heap.size ≤ bc ∧ (∃ v, Ctl w bc w0.heap.size v ds ∧ ∀ k ∈ K, Blk w k.1 k.2 24 ∧ k.1 ≠ bc ∧ v.ownBlock ≠ some k.1) ∧ Below w0.heap.size w0 w
theorem Said.chain {w0 w w' : World} {bc : Nat} {ds : List Dg} {K : List (Nat × Array Value)} (h : Said w0 bc ds K w) (hb : Below w.heap.size w w') : Said w0 bc ds K w' := by
  obtain ⟨h1, ⟨v, h2, hk⟩, h3⟩ := h
  exact ⟨h1, ⟨v, h2.chain hb, fun k hm => ⟨(hk k hm).1.below hb (hk k hm).1.lt, (hk k hm).2⟩⟩, Below.chain hb h3⟩
theorem Said.box {w0 w : World} {bc : Nat} {ds : List Dg} {K : List (Nat × Array Value)} (h : Said w0 bc ds K w) (cs : Array Value) : Said w0 bc ds ((w.heap.size, cs) :: K) (w.alloc (.cells cs 24)) := by
  obtain ⟨h1, ⟨v, h2, hk⟩, h3⟩ := h
  have hb : Below w.heap.size w (w.alloc (.cells cs 24)) := Below.chainAlloc (Below.refl _ _) _
  refine ⟨h1, ⟨v, h2.chain hb, fun k hm => ?_⟩, Below.chain hb h3⟩
  rcases List.mem_cons.1 hm with rfl | hm
  · exact ⟨Blk.new w _ _, by have := h2.b.lt; simp only; omega, fun e => by have := (h2.s.blk _ e).2; simp only at this; omega⟩
  · exact ⟨(hk k hm).1.below hb (hk k hm).1.lt, (hk k hm).2⟩
theorem Said.post {w0 w w' : World} {bc : Nat} {v R : Value} {ds ds' : List Dg} {K : List (Nat × Array Value)} {e : Ending} (h1 : w0.heap.size ≤ bc) (h2 : Ctl w bc w0.heap.size v ds) (hk : ∀ k ∈ K, Blk w k.1 k.2 24 ∧ k.1 ≠ bc ∧ v.ownBlock ≠ some k.1) (h3 : Below w0.heap.size w0 w) (h : CtlPost R bc w0.heap.size v ds' w e w') : e = .returned R ∧ Said w0 bc ds' K w' := by
  obtain ⟨v', he, hc, ho, hv⟩ := h
  refine ⟨he, h1, ⟨v', hc, fun k hm => ?_⟩, Below.only h3 ho (fun x hx => ?_)⟩
  · obtain ⟨k1, k2, k3⟩ := hk k hm
    refine ⟨k1.only ho (fun hx => ?_), k2, fun e => ?_⟩
    · rcases List.mem_cons.1 hx with hx | hx
      · exact k2 hx
      · exact k3 (by simpa using hx)
    · rcases hv with hv | ⟨g, hg, hl⟩
      · exact k3 (hv ▸ e)
      · rw [hg] at e
        have := k1.lt
        cases e
        omega
  · rcases List.mem_cons.1 hx with rfl | hx
    · exact h1
    · exact (h2.s.blk x (by simpa using hx)).1
section
variable {w0 w : World} {bc : Nat} {ds : List Dg} {K : List (Nat × Array Value)}
theorem said_ask (d : Dg) (hh : d.have'.length ≤ 9223372036854775807) (hl : d.body.length ≤ 9223372036854775807) (hds : ds.length ≤ 1000) (h : Said w0 bc ds K w) :
    Calls Try.prog 27 #[.pointer (some ⟨bc, 0, none⟩), d.val] w fun e w' => e = .returned (.int .i64 (askE d)) ∧ Said w0 bc (if askE d = 0 then askL ds d else ds) K w' := by
  have hS := h
  obtain ⟨h1, ⟨v, h2, hk⟩, h3⟩ := h
  by_cases he : askE d = 0
  · rw [if_pos he, he]
    exact (ask_ok d bc w0.heap.size v ds w hh hl h2 h3.size hds he).mono fun e w' h => Said.post h1 h2 hk h3 h
  · rw [if_neg he]
    exact (ask_bad d bc w hh hl he).mono fun e w' h => ⟨h.1, hS.chain h.2⟩
theorem said_next (d : Dg) (h : Said w0 bc (d :: ds) K w) :
    Calls Try.prog 28 #[.pointer (some ⟨bc, 0, none⟩)] w fun e w' => e = .returned (.tuple #[d.val, .bool true]) ∧ Said w0 bc ds K w' := by
  obtain ⟨h1, ⟨v, h2, hk⟩, h3⟩ := h
  exact (next_ok bc w0.heap.size v d ds w h2).mono fun e w' h => Said.post h1 h2 hk h3 h
theorem said_none (h : Said w0 bc [] K w) :
    Calls Try.prog 28 #[.pointer (some ⟨bc, 0, none⟩)] w fun e w' => e = .returned (.tuple #[dg0.val, .bool false]) ∧ Said w0 bc [] K w' := by
  have hS := h
  obtain ⟨h1, ⟨v, h2, hk⟩, h3⟩ := h
  exact (next_empty bc w0.heap.size v w h2).mono fun e w' h => ⟨h.1, hS.chain h.2⟩
theorem said_len (h : Said w0 bc ds K w) :
    Calls Try.prog 33 #[.pointer (some ⟨bc, 0, none⟩)] w fun e w' => e = .returned (.int .i64 (ds.length : Nat)) ∧ Said w0 bc ds K w' := by
  have hS := h
  obtain ⟨h1, ⟨v, h2, hk⟩, h3⟩ := h
  exact (len_any bc w0.heap.size v ds w h2).mono fun e w' h => ⟨h.1, h.2 ▸ hS⟩
theorem said_drop (st : Int) (h : Said w0 bc ds K w) :
    Calls Try.prog 32 #[.pointer (some ⟨bc, 0, none⟩), .int .i64 st] w fun e w' => e = .returned (.int .i64 ((ds.length : Int) - ((keptD (dropB st) ds).length : Int))) ∧ Said w0 bc (keptD (dropB st) ds) K w' := by
  obtain ⟨h1, ⟨v, h2, hk⟩, h3⟩ := h
  exact (drop_any st bc w0.heap.size v ds w h2).mono fun e w' h => Said.post h1 h2 hk h3 h
theorem said_clean (st b : Int) (h : Said w0 bc ds K w) :
    Calls Try.prog 30 #[.pointer (some ⟨bc, 0, none⟩), .int .i64 st, .int .u32 b] w fun e w' => e = .returned (.int .i64 ((ds.length : Int) - ((keptD (cleanB st b) ds).length : Int))) ∧ Said w0 bc (keptD (cleanB st b) ds) K w' := by
  obtain ⟨h1, ⟨v, h2, hk⟩, h3⟩ := h
  exact (clean_any st b bc w0.heap.size v ds w h2).mono fun e w' h => Said.post h1 h2 hk h3 h
end
def a15 : Dg := ⟨4, 1, 5, 0, 0, 0, 0, 3, [], []⟩
def a20 : Dg := ⟨4, 2, 0, 0, 0, 0, 0, 3, [], []⟩
def a16 : Dg := ⟨4, 1, 6, 0, 0, 0, 0, 3, [], []⟩
def n25 : Dg := ⟨3, 1, 0, 0, 0, 0, 0, 0, zero32', []⟩
def x25 : Dg := ⟨1, 1, 0, 0, 1, 1, 1, 0, [], [120]⟩
theorem awake25_ok (w : World) : Calls Try.prog 24 #[] w (RetB (.bool true) w) := by
  have s1 : Hid (∀ bc K w', Said w bc [] K w' → Calls Try.prog 27 #[.pointer (some ⟨bc, 0, none⟩), .agg #[.int .i64 4, .int .i64 1, .int .u32 5, .int .i64 0, .int .i64 0, .int .i64 0, .int .i64 0, .int .i64 3, .string ⟨#[]⟩, .string ⟨#[]⟩]] w' fun e w2 => e = .returned (.int .i64 0) ∧ Said w bc [a15] K w2) :=
    Lib.hid fun bc K w' h => said_ask a15 (by decide) (by decide) (by decide) h
  have s2 : Hid (∀ bc K w', Said w bc [a15] K w' → Calls Try.prog 27 #[.pointer (some ⟨bc, 0, none⟩), .agg #[.int .i64 4, .int .i64 2, .int .u32 0, .int .i64 0, .int .i64 0, .int .i64 0, .int .i64 0, .int .i64 3, .string ⟨#[]⟩, .string ⟨#[]⟩]] w' fun e w2 => e = .returned (.int .i64 0) ∧ Said w bc [a15, a20] K w2) :=
    Lib.hid fun bc K w' h => said_ask a20 (by decide) (by decide) (by decide) h
  have s3 : Hid (∀ bc K w', Said w bc [a15, a20] K w' → Calls Try.prog 27 #[.pointer (some ⟨bc, 0, none⟩), .agg #[.int .i64 4, .int .i64 1, .int .u32 6, .int .i64 0, .int .i64 0, .int .i64 0, .int .i64 0, .int .i64 3, .string ⟨#[]⟩, .string ⟨#[]⟩]] w' fun e w2 => e = .returned (.int .i64 0) ∧ Said w bc [a16, a20] K w2) :=
    Lib.hid fun bc K w' h => said_ask a16 (by decide) (by decide) (by decide) h
  have s4 : Hid (∀ bc K w', Said w bc [a16, a20] K w' → Calls Try.prog 27 #[.pointer (some ⟨bc, 0, none⟩), .agg #[.int .i64 3, .int .i64 1, .int .u32 0, .int .i64 0, .int .i64 0, .int .i64 0, .int .i64 0, .int .i64 0, Str zero32', .string ⟨#[]⟩]] w' fun e w2 => e = .returned (.int .i64 0) ∧ Said w bc [a16, a20, n25] K w2) :=
    Lib.hid fun bc K w' h => said_ask n25 (by decide) (by decide) (by decide) h
  have s5 : Hid (∀ bc K w', Said w bc [a16, a20, n25] K w' → Calls Try.prog 27 #[.pointer (some ⟨bc, 0, none⟩), .agg #[.int .i64 1, .int .i64 1, .int .u32 0, .int .i64 0, .int .i64 1, .int .i64 1, .int .i64 1, .int .i64 0, .string ⟨#[]⟩, .string ⟨#[120]⟩]] w' fun e w2 => e = .returned (.int .i64 1) ∧ Said w bc [a16, a20, n25] K w2) :=
    Lib.hid fun bc K w' h => said_ask x25 (by decide) (by decide) (by decide) h
  have s6 : Hid (∀ bc K w', Said w bc [a16, a20, n25] K w' → Calls Try.prog 33 #[.pointer (some ⟨bc, 0, none⟩)] w' fun e w2 => e = .returned (.int .i64 3) ∧ Said w bc [a16, a20, n25] K w2) := Lib.hid fun bc K w' h => said_len h
  have s7 : Hid (∀ bc K w', Said w bc [a16, a20, n25] K w' → Calls Try.prog 28 #[.pointer (some ⟨bc, 0, none⟩)] w' fun e w2 => e = .returned (.tuple #[.agg #[.int .i64 4, .int .i64 1, .int .u32 6, .int .i64 0, .int .i64 0, .int .i64 0, .int .i64 0, .int .i64 3, .string ⟨#[]⟩, .string ⟨#[]⟩], .bool true]) ∧ Said w bc [a20, n25] K w2) := Lib.hid fun bc K w' h => said_next a16 h
  have s8 : Hid (∀ bc K w', Said w bc [a20, n25] K w' → Calls Try.prog 32 #[.pointer (some ⟨bc, 0, none⟩), .int .i64 1] w' fun e w2 => e = .returned (.int .i64 1) ∧ Said w bc [a20] K w2) := Lib.hid fun bc K w' h => said_drop 1 h
  have s9 : Hid (∀ bc K w', Said w bc [a20] K w' → Calls Try.prog 28 #[.pointer (some ⟨bc, 0, none⟩)] w' fun e w2 => e = .returned (.tuple #[.agg #[.int .i64 4, .int .i64 2, .int .u32 0, .int .i64 0, .int .i64 0, .int .i64 0, .int .i64 0, .int .i64 3, .string ⟨#[]⟩, .string ⟨#[]⟩], .bool true]) ∧ Said w bc [] K w2) := Lib.hid fun bc K w' h => said_next a20 h
  have s10 : Hid (∀ bc K w', Said w bc [] K w' → Calls Try.prog 28 #[.pointer (some ⟨bc, 0, none⟩)] w' fun e w2 => e = .returned (.tuple #[.agg #[.int .i64 0, .int .i64 0, .int .u32 0, .int .i64 0, .int .i64 0, .int .i64 0, .int .i64 0, .int .i64 0, .string ⟨#[]⟩, .string ⟨#[]⟩], .bool false]) ∧ Said w bc [] K w2) := Lib.hid fun bc K w' h => said_none h
  go_enter Try.func24, Try.ntmps24
  go_wp2_with fail
  refine (cnew_any _).mono ?_
  rintro e w1 ⟨rfl, hw1⟩
  have hS : Said w w.heap.size [] [] w1 := hw1 ▸ ⟨Nat.le_refl _, ⟨_, Ctl.new w w.heap.size, by simp⟩, Below.chainAlloc (Below.refl _ _) _⟩
  clear hw1
  generalize hbc : w.heap.size = bc at *
  clear hbc
  go_wp2_with fail
  refine (ack_any _ _ _).mono ?_
  rintro e w2 ⟨rfl, hb⟩
  replace hS := hS.chain hb
  clear hb
  go_wp2_with fail
  refine (s1.out _ _ _ hS).mono ?_
  rintro e w3 ⟨rfl, hS⟩
  go_wp2_with fail
  refine (ack_any _ _ _).mono ?_
  rintro e w4 ⟨rfl, hb⟩
  replace hS := hS.chain hb
  clear hb
  go_wp2_with fail
  refine (s2.out _ _ _ hS).mono ?_
  rintro e w5 ⟨rfl, hS⟩
  go_wp2_with fail
  refine (ack_any _ _ _).mono ?_
  rintro e w6 ⟨rfl, hb⟩
  replace hS := hS.chain hb
  clear hb
  go_wp2_with fail
  refine (s3.out _ _ _ hS).mono ?_
  rintro e w7 ⟨rfl, hS⟩
  go_wp2_with fail
  refine (rempty_any' _).mono ?_
  rintro e w8 ⟨rfl, hb⟩
  replace hS := hS.chain hb
  clear hb
  go_wp2_with fail
  refine (s4.out _ _ _ hS).mono ?_
  rintro e w9 ⟨rfl, hS⟩
  go_wp2_with fail
  refine (s5.out _ _ _ hS).mono ?_
  rintro e w10 ⟨rfl, hS⟩
  go_wp2_with fail
  refine (s6.out _ _ _ hS).mono ?_
  rintro e w11 ⟨rfl, hS⟩
  go_wp2_with fail
  refine (s7.out _ _ _ hS).mono ?_
  rintro e w12 ⟨rfl, hS⟩
  replace hS := hS.box #[.int .i64 4, .int .i64 1, .int .u32 6, .int .i64 0, .int .i64 0, .int .i64 0, .int .i64 0, .int .i64 3, .string ⟨#[]⟩, .string ⟨#[]⟩]
  go_wp2_with fail
  refine (s8.out _ _ _ hS).mono ?_
  rintro e w13 ⟨rfl, hS⟩
  generalize w12.heap.size = B8 at *
  go_wp2_with fail
  refine (s9.out _ _ _ hS).mono ?_
  rintro e w14 ⟨rfl, hS⟩
  replace hS := hS.box #[.int .i64 4, .int .i64 2, .int .u32 0, .int .i64 0, .int .i64 0, .int .i64 0, .int .i64 0, .int .i64 3, .string ⟨#[]⟩, .string ⟨#[]⟩]
  go_wp2_with fail
  refine (s10.out _ _ _ hS).mono ?_
  rintro e w15 ⟨rfl, hS⟩
  generalize w14.heap.size = B11 at *
  replace hS := hS.box #[.int .i64 0, .int .i64 0, .int .u32 0, .int .i64 0, .int .i64 0, .int .i64 0, .int .i64 0, .int .i64 0, .string ⟨#[]⟩, .string ⟨#[]⟩]
  go_upto_region 13 with fail
  generalize hw16 : w15.alloc (.cells #[.int .i64 0, .int .i64 0, .int .u32 0, .int .i64 0, .int .i64 0, .int .i64 0, .int .i64 0, .int .i64 0, .string ⟨#[]⟩, .string ⟨#[]⟩] 24) = w16 at *
  generalize w15.heap.size = B13 at *
  clear hw16 s1 s2 s3 s4 s5 s6 s7 s8 s9 s10
  obtain ⟨_, ⟨_, _, hk⟩, hB⟩ := hS
  have k8 := (hk (B8, #[.int .i64 4, .int .i64 1, .int .u32 6, .int .i64 0, .int .i64 0, .int .i64 0, .int .i64 0, .int .i64 3, .string ⟨#[]⟩, .string ⟨#[]⟩]) (by simp)).1
  have k11 := (hk (B11, #[.int .i64 4, .int .i64 2, .int .u32 0, .int .i64 0, .int .i64 0, .int .i64 0, .int .i64 0, .int .i64 3, .string ⟨#[]⟩, .string ⟨#[]⟩]) (by simp)).1
  have HMK : Hid (∀ w', Below w16.heap.size w16 w' → (∀ o, w'.cell? ⟨B8, o, none⟩ = #[.int .i64 4, .int .i64 1, .int .u32 6, .int .i64 0, .int .i64 0, .int .i64 0, .int .i64 0, .int .i64 3, .string ⟨#[]⟩, .string ⟨#[]⟩][o]?) ∧ (∀ o, w'.cell? ⟨B11, o, none⟩ = #[.int .i64 4, .int .i64 2, .int .u32 0, .int .i64 0, .int .i64 0, .int .i64 0, .int .i64 0, .int .i64 3, .string ⟨#[]⟩, .string ⟨#[]⟩][o]?) ∧ Below w16.heap.size w16 w') := Lib.hid fun w' h =>
    ⟨fun o => (h.cell (p := ⟨B8, o, none⟩) k8.lt).trans (k8.facts.1 o), fun o => (h.cell (p := ⟨B11, o, none⟩) k11.lt).trans (k11.facts.1 o), h⟩
  have HW := Lib.hid hB
  have hg1 := fun x y w => run_eqGuard_agg (P := Try.prog) w .eql 24 x y #[.int .i64 4, .int .i64 1, .int .u32 6, .int .i64 0, .int .i64 0, .int .i64 0, .int .i64 0, .int .i64 3, .string ⟨#[]⟩, .string ⟨#[]⟩] #[.int .i64 4, .int .i64 1, .int .u32 6, .int .i64 0, .int .i64 0, .int .i64 0, .int .i64 0, .int .i64 3, .string ⟨#[]⟩, .string ⟨#[]⟩] guardDg
  have hg2 := fun x y w => run_eqGuard_agg (P := Try.prog) w .eql 24 x y #[.int .i64 4, .int .i64 2, .int .u32 0, .int .i64 0, .int .i64 0, .int .i64 0, .int .i64 0, .int .i64 3, .string ⟨#[]⟩, .string ⟨#[]⟩] #[.int .i64 4, .int .i64 2, .int .u32 0, .int .i64 0, .int .i64 0, .int .i64 0, .int .i64 0, .int .i64 3, .string ⟨#[]⟩, .string ⟨#[]⟩] guardDg
  have he1 : ∀ w, (binOp .eql 24 (.agg #[.int .i64 4, .int .i64 1, .int .u32 6, .int .i64 0, .int .i64 0, .int .i64 0, .int .i64 0, .int .i64 3, .string ⟨#[]⟩, .string ⟨#[]⟩]) (.agg #[.int .i64 4, .int .i64 1, .int .u32 6, .int .i64 0, .int .i64 0, .int .i64 0, .int .i64 0, .int .i64 3, .string ⟨#[]⟩, .string ⟨#[]⟩])).run Try.prog w = .ok (.bool true) w := fun w => run_eql_dg a16 a16 w
  have he2 : ∀ w, (binOp .eql 24 (.agg #[.int .i64 4, .int .i64 2, .int .u32 0, .int .i64 0, .int .i64 0, .int .i64 0, .int .i64 0, .int .i64 3, .string ⟨#[]⟩, .string ⟨#[]⟩]) (.agg #[.int .i64 4, .int .i64 2, .int .u32 0, .int .i64 0, .int .i64 0, .int .i64 0, .int .i64 0, .int .i64 3, .string ⟨#[]⟩, .string ⟨#[]⟩])).run Try.prog w = .ok (.bool true) w := fun w => run_eql_dg a20 a20 w
  clear hk k8 k11 hB
  go_region_held3 (fun w' => (∀ o, w'.cell? ⟨B8, o, none⟩ = #[.int .i64 4, .int .i64 1, .int .u32 6, .int .i64 0, .int .i64 0, .int .i64 0, .int .i64 0, .int .i64 3, .string ⟨#[]⟩, .string ⟨#[]⟩][o]?) ∧ (∀ o, w'.cell? ⟨B11, o, none⟩ = #[.int .i64 4, .int .i64 2, .int .u32 0, .int .i64 0, .int .i64 0, .int .i64 0, .int .i64 0, .int .i64 3, .string ⟨#[]⟩, .string ⟨#[]⟩][o]?) ∧ Below w16.heap.size w16 w')
    (first
      | exact HMK.out _ (Below.refl _ _).drew
      | exact HMK.out _ (Below.refl _ _)
      | (go_split_ands; exact HMK.out _ (Below.chain hb (by assumption))))
    ((go_at_call 70; refine (ack_any _ _ _).mono ?_; rintro x w17 ⟨rfl, hb⟩))
  rename_i hHeld
  obtain ⟨_, _, hbb⟩ := hHeld
  go_wp2_with fail
  go_ret
  exact ⟨rfl, Below.chain hbb HW.out⟩
end Go.Proofs.Ytphejbjbleeigaa
