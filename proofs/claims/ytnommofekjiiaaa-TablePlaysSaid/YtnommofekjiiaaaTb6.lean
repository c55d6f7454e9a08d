/-
  The document's table: Put refuses (chapter 18).
-/
import Derived.Test.YtnommofekjiiaaaTb5
namespace Go.Proofs.Ytnommofekjiiaaa
open Go Go.RowKit Go.MuLone
set_option linter.unusedVariables false
set_option linter.unusedSimpArgs false
set_option maxRecDepth 100000
set_option maxHeartbeats 2000000
theorem rput18_bad (base room : Nat) (kk1 kk2 need xi : Int) (xt : List UInt8) (v : Value) (A : List DE) (vs : List Value) (w : World) (h : DocA base w v A vs) (hbase : base ≤ w.heap.size) (hA : DOkA A) (hroom : (room : Int) ≤ 1000000) (hb : badX need (xi, xt)) :
    Calls Try.prog 16 #[.agg #[.int .i64 (room : Int), v], .agg #[.int .i64 kk1, .int .u32 kk2], .int .i64 need, .agg #[.int .i64 xi, Str xt]] w (DPut base w room A 5) := by
  obtain ⟨a, cap, rfl⟩ := h.s.form
  have hpb : PB ((((w.alloc (.cells #[.int .i64 (room : Int), .slice a A.length cap] 30)).alloc (.cells #[.int .i64 kk1, .int .u32 kk2] 35)).alloc (.cells #[.int .i64 xi, Str xt] 32)).alloc (.cells #[.int .i64 0, .slice none 0 0] 30)) w.heap.size #[.int .i64 (room : Int), .slice a A.length cap] #[.int .i64 0, .slice none 0 0] kk1 kk2 xi xt := ⟨(((Blk.new w _ _).alloc _).alloc _).alloc _, ((Blk.newAt (size_alloc _ _).symm).alloc _).alloc _, (Blk.newAt (by simp only [size_alloc])).alloc _, Blk.newAt (by simp only [size_alloc])⟩
  have HB0 := Lib.hid (Below.chainAlloc (Below.chainAlloc (Below.chainAlloc (Below.chainAlloc (Below.refl _ w) (.cells #[.int .i64 (room : Int), .slice a A.length cap] 30)) (.cells #[.int .i64 kk1, .int .u32 kk2] 35)) (.cells #[.int .i64 xi, Str xt] 32)) (.cells #[.int .i64 0, .slice none 0 0] 30))
  have HPB := Lib.hid hpb
  have HD := Lib.hid h
  have HA := Lib.hid hA
  have HBASE := Lib.hid hbase
  clear h hA hbase hpb
  unfold badX at hb
  have CA : Hid (∀ o1 o2 o3 o4, Below w.heap.size w ((((w.alloc o1).alloc o2).alloc o3).alloc o4)) := Lib.hid fun o1 o2 o3 o4 => Below.chainAlloc (Below.chainAlloc (Below.chainAlloc (Below.chainAlloc (Below.refl _ w) _) _) _) _
  have t := HPB.out
  have hlw := t.2.2.2.lt
  by_cases c1 : need < 1
  · clear hb
    have kpb := HPB.out
    have t0 := kpb.1.facts.1 0
    have t1 := kpb.1.facts.1 1
    have k0 := kpb.2.1.facts.1 0
    have k1 := kpb.2.1.facts.1 1
    have x0 := kpb.2.2.1.facts.1 0
    have x1 := kpb.2.2.1.facts.1 1
    have z0 := kpb.2.2.2.facts.1 0
    have z1 := kpb.2.2.2.facts.1 1
    have ft1 := kpb.1.facts.2.1 1
    have fz0 := kpb.2.2.2.facts.2.1 0
    have fz1 := kpb.2.2.2.facts.2.1 1
    clear kpb
    go_enter Try.func16, Try.ntmps16
    go_wp2_with fail
    try rw [Exit.noGoto_ret]
    exact bodyPost_ret (v := .tuple #[.agg #[.int .i64 (room : Int), .slice a A.length cap], .int .i64 5]) (by simp [results, Try.results16, go_sem, z0, z1]) rfl (by
      first
      | exact ⟨a, cap, vs, rfl, HD.out.chain (CA.out _ _ _ _), CA.out _ _ _ _⟩
      | exact ⟨a, cap, vs, rfl, HD.out.chain (Below.only HB0.out (fin_set _ _ _ _) (by simp; omega)), Below.only HB0.out (fin_set _ _ _ _) (by simp; omega)⟩)
  · by_cases c2 : 32 < need
    · clear hb
      have kpb := HPB.out
      have t0 := kpb.1.facts.1 0
      have t1 := kpb.1.facts.1 1
      have k0 := kpb.2.1.facts.1 0
      have k1 := kpb.2.1.facts.1 1
      have x0 := kpb.2.2.1.facts.1 0
      have x1 := kpb.2.2.1.facts.1 1
      have z0 := kpb.2.2.2.facts.1 0
      have z1 := kpb.2.2.2.facts.1 1
      have ft1 := kpb.1.facts.2.1 1
      have fz0 := kpb.2.2.2.facts.2.1 0
      have fz1 := kpb.2.2.2.facts.2.1 1
      clear kpb
      go_enter Try.func16, Try.ntmps16
      go_wp2_with fail
      try rw [Exit.noGoto_ret]
      exact bodyPost_ret (v := .tuple #[.agg #[.int .i64 (room : Int), .slice a A.length cap], .int .i64 5]) (by simp [results, Try.results16, go_sem, z0, z1]) rfl (by
        first
        | exact ⟨a, cap, vs, rfl, HD.out.chain (CA.out _ _ _ _), CA.out _ _ _ _⟩
        | exact ⟨a, cap, vs, rfl, HD.out.chain (Below.only HB0.out (fin_set _ _ _ _) (by simp; omega)), Below.only HB0.out (fin_set _ _ _ _) (by simp; omega)⟩)
    · by_cases c3 : xi < 0
      · clear hb
        have kpb := HPB.out
        have t0 := kpb.1.facts.1 0
        have t1 := kpb.1.facts.1 1
        have k0 := kpb.2.1.facts.1 0
        have k1 := kpb.2.1.facts.1 1
        have x0 := kpb.2.2.1.facts.1 0
        have x1 := kpb.2.2.1.facts.1 1
        have z0 := kpb.2.2.2.facts.1 0
        have z1 := kpb.2.2.2.facts.1 1
        have ft1 := kpb.1.facts.2.1 1
        have fz0 := kpb.2.2.2.facts.2.1 0
        have fz1 := kpb.2.2.2.facts.2.1 1
        clear kpb
        go_enter Try.func16, Try.ntmps16
        go_wp2_with fail
        try rw [Exit.noGoto_ret]
        exact bodyPost_ret (v := .tuple #[.agg #[.int .i64 (room : Int), .slice a A.length cap], .int .i64 5]) (by simp [results, Try.results16, go_sem, z0, z1]) rfl (by
          first
          | exact ⟨a, cap, vs, rfl, HD.out.chain (CA.out _ _ _ _), CA.out _ _ _ _⟩
          | exact ⟨a, cap, vs, rfl, HD.out.chain (Below.only HB0.out (fin_set _ _ _ _) (by simp; omega)), Below.only HB0.out (fin_set _ _ _ _) (by simp; omega)⟩)
      · have c4 : 254 < xi := by omega
        clear hb
        have kpb := HPB.out
        have t0 := kpb.1.facts.1 0
        have t1 := kpb.1.facts.1 1
        have k0 := kpb.2.1.facts.1 0
        have k1 := kpb.2.1.facts.1 1
        have x0 := kpb.2.2.1.facts.1 0
        have x1 := kpb.2.2.1.facts.1 1
        have z0 := kpb.2.2.2.facts.1 0
        have z1 := kpb.2.2.2.facts.1 1
        have ft1 := kpb.1.facts.2.1 1
        have fz0 := kpb.2.2.2.facts.2.1 0
        have fz1 := kpb.2.2.2.facts.2.1 1
        clear kpb
        go_enter Try.func16, Try.ntmps16
        go_wp2_with fail
        try rw [Exit.noGoto_ret]
        exact bodyPost_ret (v := .tuple #[.agg #[.int .i64 (room : Int), .slice a A.length cap], .int .i64 5]) (by simp [results, Try.results16, go_sem, z0, z1]) rfl (by
          first
          | exact ⟨a, cap, vs, rfl, HD.out.chain (CA.out _ _ _ _), CA.out _ _ _ _⟩
          | exact ⟨a, cap, vs, rfl, HD.out.chain (Below.only HB0.out (fin_set _ _ _ _) (by simp; omega)), Below.only HB0.out (fin_set _ _ _ _) (by simp; omega)⟩)
end Go.Proofs.Ytnommofekjiiaaa
