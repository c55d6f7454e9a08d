/-
  Scripts: arguments that are steps; the calls that the laws make (chapter 33).
-/
import Derived.Test.YtdjjienklfbalaaScr8
import Derived.Test.YtdjjienklfbalaaLift
namespace Go.Proofs.Ytdjjienklfbalaa
open Go.RowKit
set_option linter.unusedVariables false
set_option maxRecDepth 100000
set_option maxHeartbeats 1000000
open Go.ChangeShapes Go.WideShapes Go.ChangeAt
theorem open_acts {H : Type} {enc : TypeId × Value → H} {W : World} {b : Nat} {sp : Nat → Bool} {hd : Bool} {a : Option Addr} {len cap : Nat} {d : DataW H} {p : List MemPlace}
    (h : DataW.Trod enc Try.prog W b sp hd 68 (.slice a len cap) d p) : ∃ ds : List Ac, IsRows 8 Ac.vals W a len cap ds := by
  obtain ⟨ds, h1, _⟩ := open_rows 8 Ac.vals (fun _ => True) Try.underlying68 (by kernel_rfl) (by decide) h fun cs m x hx => by
    have := flat_fits 9 m 160 [.int .i64, .int .i64, .int .i64, .int .i64, .int .i64, .str, .int .i64, .str] cs x (by kernel_rfl) hx
    obtain ⟨_, _, rfl, ⟨z0, rfl, _⟩, _, _, rfl, ⟨z1, rfl, _⟩, _, _, rfl, ⟨z2, rfl, _⟩, _, _, rfl, ⟨z3, rfl, _⟩, _, _, rfl, ⟨z4, rfl, _⟩, _, _, rfl, ⟨z5, rfl, _⟩, _, _, rfl, ⟨z6, rfl, _⟩, _, _, rfl, ⟨z7, rfl, _⟩, rfl⟩ := this
    exact ⟨⟨z0, z1, z2, z3, z4, z5, z6, z7⟩, rfl, trivial⟩
  exact ⟨ds, h1⟩
theorem put_s (a : Option Addr) (len cap : Nat) (ds : List Ac) (w : World) (hz : IsRows 8 Ac.vals w a len cap ds) : Calls Try.prog 38 #[.slice a len cap] w (RetB (.tuple #[Str (putAS ds), .int .i64 (putAE ds)]) w) := by
  obtain ⟨l1, l2⟩ := rows_len hz
  by_cases h : len ≤ 1024
  · exact put_few a len cap ds w hz h
  · have e : putAE ds = 3 := by unfold putAE; rw [if_pos (by omega)]
    have e2 : putAS ds = [] := by unfold putAS; rw [if_neg (by rw [e]; decide)]
    rw [e, e2]
    exact put_far a len cap w (by omega) l2
theorem putAS_le (ds : List Ac) : (putAS ds).length ≤ 2109440 := by
  unfold putAS
  split
  · rename_i h
    obtain ⟨h1, h2⟩ := putAE_zero h
    have := flat_le ds h2
    omega
  · simp
theorem readR_some {l : List UInt8} (h : readR l = 0) : readA l = some (readS l) := by
  unfold readR readS at *
  cases e : readA l with
  | none => rw [e] at h; simp at h
  | some o => rfl
def Read2 (S : List Ac) (R : Int) (w : World) (e : Ending) (w' : World) : Prop := ∃ a cap, e = .returned (.tuple #[.slice a S.length cap, .int .i64 R]) ∧ Below w.heap.size w w' ∧ IsRows 8 Ac.vals w' a S.length cap S
theorem read_2 (l : List UInt8) (hl : l.length ≤ 9223372036854775807) (w : World) : Calls Try.prog 40 #[Str l] w (Read2 (readS l) (readR l) w) := by
  refine (read_s l hl w).mono ?_
  rintro e w' ⟨v, h1, h2, h3⟩
  obtain ⟨a, cap, rfl⟩ := h3.form
  exact ⟨a, cap, h1, h2, IsRows.of_seg h3⟩
end Go.Proofs.Ytdjjienklfbalaa
