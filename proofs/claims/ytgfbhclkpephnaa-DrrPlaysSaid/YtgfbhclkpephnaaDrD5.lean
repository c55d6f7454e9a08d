/-
  The document's queues: the round without a queue, in plain Lean.
-/
import Derived.Test.YtgfbhclkpephnaaDrD4
namespace Go.Proofs.Ytgfbhclkpephnaa
open Go Go.RowKit
theorem wo_none {id : Int} {l : List Int} (h : id ∉ l) : wo id l = l := by
  unfold wo
  rw [List.filter_eq_self]
  intro x hx
  have : x ≠ id := fun e => h (e ▸ hx)
  simp [this]
theorem wo_head {id : Int} {l : List Int} (h : (id :: l).Nodup) : wo id (id :: l) = l := by
  have h1 := (List.nodup_cons.1 h).1
  have h2 := wo_none h1
  unfold wo at *
  rw [List.filter_cons]
  simpa using h2
theorem putQ_set {q : PQ} : ∀ (l : List PQ) (i : Nat) (hi : i < l.length), (l.map PQ.id).Nodup → l[i].id = q.id → putQ q l = l.set i q
  | f :: l, 0, _, hn, he => by
    have h1 := (List.nodup_cons.1 (by simpa using hn : (f.id :: l.map PQ.id).Nodup)).1
    have he' : f.id = q.id := he
    have h2 : putQ q l = l := putQ_none fun g hg e => h1 (by rw [he', ← e]; exact List.mem_map_of_mem hg)
    show (if f.id = q.id then q else f) :: putQ q l = _
    rw [if_pos he', h2]
    rfl
  | f :: l, i + 1, hi, hn, he => by
    have h1 := List.nodup_cons.1 (by simpa using hn : (f.id :: l.map PQ.id).Nodup)
    have hi' : i < l.length := by simpa using hi
    have he' : l[i].id = q.id := he
    have hf : f.id ≠ q.id := fun e => h1.1 (by rw [e, ← he']; exact List.mem_map_of_mem (List.getElem_mem hi'))
    show (if f.id = q.id then q else f) :: putQ q l = f :: l.set i q
    rw [if_neg hf, putQ_set l i hi' h1.2 he']
end Go.Proofs.Ytgfbhclkpephnaa
