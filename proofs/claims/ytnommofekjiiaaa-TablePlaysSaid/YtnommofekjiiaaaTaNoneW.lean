/-
  The table: deeds; the law TableNone, walked (chapter 18).
-/
import Derived.Test.YtnommofekjiiaaaTa23
import Derived.Test.YtnommofekjiiaaaLift3
import Derived.Test.YtnommofekjiiaaaFlat
namespace Go.Proofs.Ytnommofekjiiaaa
open Go Go.RowKit Go.MuLone
set_option linter.unusedVariables false
set_option linter.unusedSimpArgs false
set_option maxRecDepth 100000
set_option maxHeartbeats 2000000
open Go.ChangeShapes Go.WideShapes Go.ChangeAt
/-- A deed: what kind it is, a key, how many are needed, a shard. -/
structure Dd where
  kind : Int
  s : Int
  b : Int
  need : Int
  i : Int
  t : List UInt8
def ddC (d : Dd) : List Value := [.int .i64 d.kind, .int .i64 d.s, .int .u32 d.b, .int .i64 d.need, .int .i64 d.i, Str d.t]
theorem open_dd1 {H : Type} {enc : TypeId × Value → H} {W : World} {r : Reach} {b0 b : Nat} {sp : Nat → Bool} {hd : Bool} {v : Value} {d : DataW H} {p : List MemPlace}
    (hv : Value.okWide Try.prog W r b0 37 v) (h : DataW.Trod enc Try.prog W b sp hd 37 v d p) : ∃ d : Dd, v = .agg #[.int .i64 d.kind, .int .i64 d.s, .int .u32 d.b, .int .i64 d.need, .int .i64 d.i, Str d.t] := by
  obtain ⟨cs, rfl, hsz⟩ := okWide_struct Try.underlying37 hv
  obtain ⟨l⟩ := cs
  obtain ⟨fuel, hf⟩ := h
  have := flat_fits 9 fuel 37 [.int .i64, .int .i64, .int .u32, .int .i64, .int .i64, .str] l _ (by kernel_rfl) hf
  obtain ⟨_, _, rfl, ⟨z0, rfl, w0⟩, _, _, rfl, ⟨z1, rfl, w1⟩, _, _, rfl, ⟨z2, rfl, w2⟩, _, _, rfl, ⟨z3, rfl, w3⟩, _, _, rfl, ⟨z4, rfl, w4⟩, _, _, rfl, ⟨z5, rfl, w5⟩, rfl⟩ := this
  exact ⟨⟨z0, z1, z2, z3, z4, z5⟩, rfl⟩
theorem open_dds {H : Type} {enc : TypeId × Value → H} {W : World} {b : Nat} {sp : Nat → Bool} {hd : Bool} {a : Option Addr} {len cap : Nat} {d : DataW H} {p : List MemPlace}
    (h : DataW.Trod enc Try.prog W b sp hd 22 (.slice a len cap) d p) : ∃ ds : List Dd, IsRows 6 ddC W a len cap ds := by
  obtain ⟨ds, h1, _⟩ := open_rows 6 ddC (fun _ => True) Try.underlying22 (by kernel_rfl) (by decide) h fun cs m x hx => by
    have := flat_fits 9 m 37 [.int .i64, .int .i64, .int .u32, .int .i64, .int .i64, .str] cs x (by kernel_rfl) hx
    obtain ⟨_, _, rfl, ⟨z0, rfl, w0⟩, _, _, rfl, ⟨z1, rfl, w1⟩, _, _, rfl, ⟨z2, rfl, w2⟩, _, _, rfl, ⟨z3, rfl, w3⟩, _, _, rfl, ⟨z4, rfl, w4⟩, _, _, rfl, ⟨z5, rfl, w5⟩, rfl⟩ := this
    exact ⟨⟨z0, z1, z2, z3, z4, z5⟩, rfl, trivial⟩
  exact ⟨ds, h1⟩
theorem IsRows.get18 {α : Type} {size : Nat} {encd : α → List Value} {w : World} {a : Option Addr} {len cap : Nat} {ds : List α} (h : IsRows size encd w a len cap ds) (k : Nat) (hk : k < len) :
    ∃ (g off : Nat) (hk' : k < ds.length), a = some ⟨g, off, none⟩ ∧ g < w.heap.size ∧ ∀ j, j < size → w.cell? ⟨g, off + k * size + j, none⟩ = (encd ds[k])[j]? := by
  obtain ⟨h1, _, _, h4⟩ := h
  obtain ⟨g, off, ha, hg, hc⟩ := h4.resolve_left (by omega)
  exact ⟨g, off, by omega, ha, hg, fun j hj => hc k (by omega) j hj⟩
theorem tnone_walk (d : Dd) (w : World) : Calls Try.prog 5 #[.agg #[.int .i64 d.kind, .int .i64 d.s, .int .u32 d.b, .int .i64 d.need, .int .i64 d.i, Str d.t]] w fun e w' => e = .returned (.bool true) ∧ Below w.heap.size w w' := by
  obtain ⟨kind, s, b, need, i, t⟩ := d
  dsimp only
  have HG := Lib.hid (fun w' => get_nil (s, b) w')
  have HT := Lib.hid (fun w' => take_nil (s, b) w')
  have HO := Lib.hid (fun w' => oldest_nil w')
  have HP := Lib.hid (fun w' => put_nil (s, b) need (i, t) w')
  have HD := Lib.hid (fun w' => drop_nil s w')
  have hek : ∀ w, (binOp .eql 35 (.agg #[.int .i64 0, .int .u32 0]) (.agg #[.int .i64 0, .int .u32 0])).run Try.prog w = .ok (.bool true) w := fun w => run_eql_key w (0, 0) (0, 0)
  have hB := Below.chainAlloc (Below.refl _ w) (.cells #[.int .i64 kind, .int .i64 s, .int .u32 b, .int .i64 need, .int .i64 i, Str t] 37)
  have HX : Hid (∀ w', Below (w.alloc (.cells #[.int .i64 kind, .int .i64 s, .int .u32 b, .int .i64 need, .int .i64 i, Str t] 37)).heap.size (w.alloc (.cells #[.int .i64 kind, .int .i64 s, .int .u32 b, .int .i64 need, .int .i64 i, Str t] 37)) w' → Blk w' w.heap.size #[.int .i64 kind, .int .i64 s, .int .u32 b, .int .i64 need, .int .i64 i, Str t] 37) := Lib.hid fun w' hb' => (Blk.new w _ _).below hb' (Blk.new w _ _).lt
  unfold encK at HG HT HO HP
  dsimp only at HG HT HO HP
  have HB := Lib.hid hB
  clear hB
  go_enter Try.func5, Try.ntmps5
  go_wp2_with fail
  generalize w.alloc (.cells #[.int .i64 kind, .int .i64 s, .int .u32 b, .int .i64 need, .int .i64 i, Str t] 37) = W0 at *
  refine (HG.out _).mono ?_
  rintro e w1 ⟨rfl, h1⟩
  have H1 := Lib.hid h1
  obtain ⟨x1, _, _⟩ := (HX.out w1 h1).facts
  have y1 := x1 1
  have y2 := x1 2
  clear h1 x1
  go_wp2_with fail
  refine (HT.out _).mono ?_
  rintro e w2 ⟨rfl, h2⟩
  have H2 := Lib.hid (Below.chain h2 H1.out)
  clear h2 y1 y2
  go_wp2_with fail
  refine (HO.out _).mono ?_
  rintro e w3 ⟨rfl, h3⟩
  have H3 := Lib.hid (Below.chain h3 H2.out)
  clear h3
  have H4 := Lib.hid (Below.chainAlloc H3.out (.cells #[.int .i64 0, .int .u32 0] 35))
  obtain ⟨x1, _, _⟩ := (HX.out w3 H3.out).facts
  have y1 := x1 1
  have y2 := x1 2
  have y3 := x1 3
  have y4 := x1 4
  have y5 := x1 5
  have yl := (HX.out w3 H3.out).lt
  have HKB : Hid (Blk (w3.alloc (.cells #[.int .i64 0, .int .u32 0] 35)) w3.heap.size #[.int .i64 0, .int .u32 0] 35) := Lib.hid (Blk.new w3 _ _)
  clear x1
  go_wp2_with fail
  refine (HP.out _).mono ?_
  rintro e w5 ⟨rfl, h5⟩
  have H5 := Lib.hid (Below.chain h5 H4.out)
  have HK5 := Lib.hid (HKB.out.below h5 HKB.out.lt)
  obtain ⟨x1, _, _⟩ := (HX.out w5 H5.out).facts
  have z1 := x1 1
  clear h5 x1 y1 y2 y3 y4 y5 yl HKB
  go_wp2_with fail
  refine (HD.out _).mono ?_
  rintro e w6 ⟨rfl, h6⟩
  have H6 := Lib.hid (Below.chain h6 H5.out)
  have k6 := HK5.out.below h6 HK5.out.lt
  have k60 := k6.facts.1 0
  have k61 := k6.facts.1 1
  clear h6 z1 k6
  go_wp2_with fail
  refine (len_nil _).mono ?_
  rintro e w7 ⟨rfl, h7⟩
  have H7 := Lib.hid (Below.chain h7 H6.out)
  clear h7
  go_wp2_with fail
  refine (awake18_ok _).mono ?_
  rintro e w8 ⟨rfl, h8⟩
  have H8 := Lib.hid (Below.chain h8 H7.out)
  clear h8
  go_wp2_with fail
  go_ret
  exact ⟨rfl, Below.chain H8.out HB.out⟩
end Go.Proofs.Ytnommofekjiiaaa
