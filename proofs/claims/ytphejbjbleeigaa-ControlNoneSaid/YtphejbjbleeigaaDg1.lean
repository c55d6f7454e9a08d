/-
  Datagrams: how a kind is; which shards may be: contracts (chapter 10).
-/
import Derived.Test.YtphejbjbleeigaaDgL
import Derived.Test.YtphejbjbleeigaaBase2
import Derived.Laws.EntriesVeiled
namespace Go.Proofs.Ytphejbjbleeigaa
open Go.RowKit
set_option linter.unusedVariables false
set_option maxRecDepth 100000
set_option maxHeartbeats 1000000
abbrev fnV (n : Nat) : Value := .func (Fn.func n) #[] #[]
abbrev kdSh : Array Value := #[fnV 129, fnV 130, fnV 131, fnV 132]
abbrev kdNk : Array Value := #[fnV 134, fnV 135, fnV 136, fnV 137]
abbrev kdAk : Array Value := #[fnV 138, fnV 139, fnV 140, fnV 141]
abbrev kdPl : Array Value := #[fnV 142, fnV 143, fnV 144, fnV 133]
abbrev kdNo : Array Value := #[.nilFunc, .nilFunc, .nilFunc, .nilFunc]
def RetB (v : Value) (w : World) (e : Ending) (w' : World) : Prop := e = .returned v ∧ Below w.heap.size w w'
theorem shard_kd (w : World) : Calls Try.prog 99 #[] w (RetB (.agg kdSh) w) := by
  go_enter Try.func99, Try.ntmps99
  go_wp2_with fail
  exact bodyPost_ret (v := .agg kdSh) (by simp [results, go_sem]) rfl ⟨rfl, (Below.refl _ _).alloc (Nat.le_refl _) _⟩
theorem nack_kd (w : World) : Calls Try.prog 100 #[] w (RetB (.agg kdNk) w) := by
  go_enter Try.func100, Try.ntmps100
  go_wp2_with fail
  exact bodyPost_ret (v := .agg kdNk) (by simp [results, go_sem]) rfl ⟨rfl, (Below.refl _ _).alloc (Nat.le_refl _) _⟩
theorem ack_kd (w : World) : Calls Try.prog 101 #[] w (RetB (.agg kdAk) w) := by
  go_enter Try.func101, Try.ntmps101
  go_wp2_with fail
  exact bodyPost_ret (v := .agg kdAk) (by simp [results, go_sem]) rfl ⟨rfl, (Below.refl _ _).alloc (Nat.le_refl _) _⟩
theorem plain_kd (w : World) : Calls Try.prog 102 #[] w (RetB (.agg kdPl) w) := by
  go_enter Try.func102, Try.ntmps102
  go_wp2_with fail
  exact bodyPost_ret (v := .agg kdPl) (by simp [results, go_sem]) rfl ⟨rfl, (Below.refl _ _).alloc (Nat.le_refl _) _⟩
theorem of_end {w w1 : World} {a b c d : Value} {kd : Array Value} {A : Act} (kb : Blk w1 w.heap.size #[.nilFunc, .nilFunc, .nilFunc, .nilFunc] 111) (hB : Below w.heap.size w w1) (hk : kd = #[a, b, c, d]) (h2 : A.tmps[2]? = some (.pointer (some ⟨w.heap.size, 0, none⟩))) (h3 : A.tmps[3]? = some (.bool true)) (hd : A.defers = []) :
    bodyPost Try.prog Try.f55 (RetB (.tuple #[.agg kd, .bool true]) w) Exit.ret A ((((w1.setCell ⟨w.heap.size, 0, none⟩ a).setCell ⟨w.heap.size, 1, none⟩ b).setCell ⟨w.heap.size, 2, none⟩ c).setCell ⟨w.heap.size, 3, none⟩ d) := by
  subst hk
  have k4 := (((kb.setAt 0 a rfl).setAt 1 b rfl).setAt 2 c rfl).setAt 3 d rfl
  have hB4 := (((hB.setCell (p := ⟨w.heap.size, 0, none⟩) (Nat.le_refl _) a).setCell (p := ⟨w.heap.size, 1, none⟩) (Nat.le_refl _) b).setCell (p := ⟨w.heap.size, 2, none⟩) (Nat.le_refl _) c).setCell (p := ⟨w.heap.size, 3, none⟩) (Nat.le_refl _) d
  generalize ((((w1.setCell ⟨w.heap.size, 0, none⟩ a).setCell ⟨w.heap.size, 1, none⟩ b).setCell ⟨w.heap.size, 2, none⟩ c).setCell ⟨w.heap.size, 3, none⟩ d) = W at *
  have hc := k4.facts.1
  refine bodyPost_ret (v := .tuple #[.agg #[a, b, c, d], .bool true]) ?_ hd ⟨rfl, hB4⟩
  simp [results, go_sem, h2, h3, hc]
theorem of_sh (z : Int) (h : z = 1 ∨ z = 2) (w : World) : Calls Try.prog 55 #[.int .i64 z] w (RetB (.tuple #[.agg kdSh, .bool true]) w) := by
  rcases h with rfl | rfl
  all_goals
    go_enter Try.func55, Try.ntmps55
    go_wp2_with fail
    refine (shard_kd _).mono ?_
    rintro e w1 ⟨rfl, hb⟩
    have kb := (Blk.new w #[.nilFunc, .nilFunc, .nilFunc, .nilFunc] 111).below hb (by simp)
    have hB := Below.chain hb (Below.chainAlloc (Below.refl _ _) _)
    obtain ⟨hc, hfr, hl⟩ := kb.facts
    clear hb
    go_wp2_with fail
    exact of_end (kd := kdSh) kb hB rfl rfl rfl rfl
theorem of_nk (z : Int) (h : z = 3) (w : World) : Calls Try.prog 55 #[.int .i64 z] w (RetB (.tuple #[.agg kdNk, .bool true]) w) := by
  subst h
  all_goals
    go_enter Try.func55, Try.ntmps55
    go_wp2_with fail
    refine (nack_kd _).mono ?_
    rintro e w1 ⟨rfl, hb⟩
    have kb := (Blk.new w #[.nilFunc, .nilFunc, .nilFunc, .nilFunc] 111).below hb (by simp)
    have hB := Below.chain hb (Below.chainAlloc (Below.refl _ _) _)
    obtain ⟨hc, hfr, hl⟩ := kb.facts
    clear hb
    go_wp2_with fail
    exact of_end (kd := kdNk) kb hB rfl rfl rfl rfl
theorem of_ak (z : Int) (h : z = 4) (w : World) : Calls Try.prog 55 #[.int .i64 z] w (RetB (.tuple #[.agg kdAk, .bool true]) w) := by
  subst h
  all_goals
    go_enter Try.func55, Try.ntmps55
    go_wp2_with fail
    refine (ack_kd _).mono ?_
    rintro e w1 ⟨rfl, hb⟩
    have kb := (Blk.new w #[.nilFunc, .nilFunc, .nilFunc, .nilFunc] 111).below hb (by simp)
    have hB := Below.chain hb (Below.chainAlloc (Below.refl _ _) _)
    obtain ⟨hc, hfr, hl⟩ := kb.facts
    clear hb
    go_wp2_with fail
    exact of_end (kd := kdAk) kb hB rfl rfl rfl rfl
theorem of_pl (z : Int) (h : z = 5 ∨ z = 6) (w : World) : Calls Try.prog 55 #[.int .i64 z] w (RetB (.tuple #[.agg kdPl, .bool true]) w) := by
  rcases h with rfl | rfl
  all_goals
    go_enter Try.func55, Try.ntmps55
    go_wp2_with fail
    refine (plain_kd _).mono ?_
    rintro e w1 ⟨rfl, hb⟩
    have kb := (Blk.new w #[.nilFunc, .nilFunc, .nilFunc, .nilFunc] 111).below hb (by simp)
    have hB := Below.chain hb (Below.chainAlloc (Below.refl _ _) _)
    obtain ⟨hc, hfr, hl⟩ := kb.facts
    clear hb
    go_wp2_with fail
    exact of_end (kd := kdPl) kb hB rfl rfl rfl rfl
theorem of_no (z : Int) (h1 : z ≠ 1) (h2 : z ≠ 2) (h3 : z ≠ 3) (h4 : z ≠ 4) (h5 : z ≠ 5) (h6 : z ≠ 6) (w : World) : Calls Try.prog 55 #[.int .i64 z] w (RetB (.tuple #[.agg kdNo, .bool false]) w) := by
  have e1 : (z == 1) = false := by simpa using h1
  have e2 : (z == 2) = false := by simpa using h2
  have e3 : (z == 3) = false := by simpa using h3
  have e4 : (z == 4) = false := by simpa using h4
  have e5 : (z == 5) = false := by simpa using h5
  have e6 : (z == 6) = false := by simpa using h6
  clear h1 h2 h3 h4 h5 h6
  go_enter Try.func55, Try.ntmps55
  go_wp2_with fail
  exact bodyPost_ret (v := .tuple #[.agg kdNo, .bool false]) (by simp [results, go_sem]) rfl ⟨rfl, (Below.refl _ _).alloc (Nat.le_refl _) _⟩
end Go.Proofs.Ytphejbjbleeigaa
