/-
  Datagrams (chapter 10): plain: which may be, their bytes, what bytes say.
-/
import Derived.Test.YtphejbjbleeigaaCrcP
import Derived.Test.YtphejbjbleeigaaWire
namespace Go.Proofs.Ytphejbjbleeigaa
set_option linter.unusedVariables false
structure Dg where
  kind : Int
  stream : Int
  block : Int
  index : Int
  k : Int
  n : Int
  len : Int
  credit : Int
  have' : List UInt8
  body : List UInt8
def dg0 : Dg := ⟨0, 0, 0, 0, 0, 0, 0, 0, [], []⟩
def Dg.vals (d : Dg) : List Value := [.int .i64 d.kind, .int .i64 d.stream, .int .u32 d.block, .int .i64 d.index, .int .i64 d.k, .int .i64 d.n, .int .i64 d.len, .int .i64 d.credit, Str d.have', Str d.body]
abbrev Dg.val (d : Dg) : Value := .agg #[.int .i64 d.kind, .int .i64 d.stream, .int .u32 d.block, .int .i64 d.index, .int .i64 d.k, .int .i64 d.n, .int .i64 d.len, .int .i64 d.credit, Str d.have', Str d.body]
instance : DecidableEq Dg := fun a b =>
  if h : a.kind = b.kind ∧ a.stream = b.stream ∧ a.block = b.block ∧ a.index = b.index ∧ a.k = b.k ∧ a.n = b.n ∧ a.len = b.len ∧ a.credit = b.credit ∧ a.have' = b.have' ∧ a.body = b.body then
    isTrue (by
      cases a; cases b
      simp only at h
      obtain ⟨h1, h2, h3, h4, h5, h6, h7, h8, h9, h10⟩ := h
      subst h1 h2 h3 h4 h5 h6 h7 h8 h9 h10
      rfl)
  else isFalse (fun e => h (by subst e; simp))
def isSh (z : Int) : Bool := z == 1 || z == 2
/-- Just the fields that a kind has. -/
def ownD (d : Dg) : Dg :=
  if d.kind = 1 ∨ d.kind = 2 then ⟨d.kind, d.stream, d.block, d.index, d.k, d.n, d.len, 0, [], d.body⟩
  else if d.kind = 3 then ⟨d.kind, d.stream, d.block, 0, 0, 0, 0, 0, d.have', []⟩
  else if d.kind = 4 then ⟨d.kind, d.stream, d.block, 0, 0, 0, 0, d.credit, [], []⟩
  else ⟨d.kind, d.stream, d.block, 0, 0, 0, 0, 0, [], []⟩
/-- A shard's fields. -/
def shE (d : Dg) : Int :=
  if d.k < 1 ∨ 32 < d.k ∨ d.n < d.k ∨ 255 < d.n ∨ d.index < 0 ∨ d.n ≤ d.index then 2
  else if (decide (d.index < d.k) != (d.kind == 1)) = true ∨ d.len < 1 ∨ 32768 < d.len then 2
  else if (d.body.length : Int) ≠ (d.len - 1) / d.k + 1 ∨ 1024 < (d.body.length : Int) then 3
  else 0
def kdE (d : Dg) : Int :=
  if d.kind = 1 ∨ d.kind = 2 then shE d
  else if d.kind = 3 then (if d.have'.length = 32 then 0 else 5)
  else if d.kind = 4 then (if d.credit < 0 ∨ 65535 < d.credit then 2 else 0)
  else 0
def dgE (d : Dg) : Int :=
  if d.kind < 1 ∨ 6 < d.kind then 1
  else if d.stream < 0 ∨ 255 < d.stream then 2
  else if kdE d ≠ 0 then kdE d
  else if ownD d ≠ d then 5 else 0
/-- What is behind the head. -/
def restS (d : Dg) : List UInt8 :=
  if d.kind = 1 ∨ d.kind = 2 then be d.index 1 ++ be d.k 1 ++ be d.n 1 ++ be (d.len - 1) 2 ++ d.body
  else if d.kind = 3 then d.have'
  else if d.kind = 4 then be d.credit 2
  else []
def rawS (d : Dg) : List UInt8 := [76, 83] ++ be d.kind 1 ++ be d.stream 1 ++ be d.block 4 ++ restS d
def dgS (d : Dg) : List UInt8 := if dgE d = 0 then rawS d ++ be (crcS (rawS d) : Nat) 4 else []
/-- What is read behind the head. -/
def fieldsD (d : Dg) (l : List UInt8) : Dg × Int :=
  if d.kind = 1 ∨ d.kind = 2 then
    (if l.length < 5 then (d, 4) else ({ d with index := unbe (l.take 1), k := unbe ((l.drop 1).take 1), n := unbe ((l.drop 2).take 1), len := unbe ((l.drop 3).take 2) + 1, body := l.drop 5 }, 0))
  else if d.kind = 3 then
    (if l.length < 32 then (d, 4) else ({ d with have' := l.take 32 }, if l.length = 32 then 0 else 5))
  else if d.kind = 4 then
    (if l.length < 2 then (d, 4) else ({ d with credit := unbe (l.take 2) }, if l.length = 2 then 0 else 5))
  else (d, if l = [] then 0 else 5)
def headD (l : List UInt8) : Dg := ⟨unbe ((l.drop 2).take 1), unbe ((l.drop 3).take 1), unbe ((l.drop 4).take 4), 0, 0, 0, 0, 0, [], []⟩
/-- Of bytes whose sum is right: why they are none. -/
def bodyE (b : List UInt8) : Int :=
  if b.take 2 ≠ [76, 83] then 5
  else if (headD b).kind < 1 ∨ 6 < (headD b).kind then 1
  else if (fieldsD (headD b) (b.drop 8)).2 ≠ 0 then (fieldsD (headD b) (b.drop 8)).2
  else dgE (fieldsD (headD b) (b.drop 8)).1
def readE (l : List UInt8) : Int :=
  if l.length < 12 then 4
  else if unbe (l.drop (l.length - 4)) ≠ (crcS (l.take (l.length - 4)) : Nat) then 6
  else bodyE (l.take (l.length - 4))
def readD (l : List UInt8) : Dg := if readE l = 0 then (fieldsD (headD (l.take (l.length - 4))) ((l.take (l.length - 4)).drop 8)).1 else dg0
end Go.Proofs.Ytphejbjbleeigaa
