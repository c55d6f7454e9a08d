/-
  More shards than needed: plain: what is decoded (chapter 5).
-/
import Derived.Test.YtibilabhokkhmaaRs6
namespace Go.Proofs.Ytibilabhokkhmaa
set_option linter.unusedVariables false
set_option maxRecDepth 100000
/-- Shards that may be: numbers below n, no two alike, bodies of one length. -/
structure Good5 (n : Int) (L0 : Nat) (xs : List Sh5) : Prop where
  num : ∀ x ∈ xs, 0 ≤ x.1 ∧ x.1 < n
  len : ∀ x ∈ xs, x.2.length = L0
  nod : (xs.map (·.1)).Nodup
theorem unl_good {n : Int} {L0 : Nat} : ∀ (xs acc : List Sh5), Good5 n L0 acc → (unlGo n L0 acc xs).2 = 0 → Good5 n L0 (unlGo n L0 acc xs).1
  | [], acc, h, _ => h
  | x :: xs, acc, h, he => by
    by_cases h1 : x.1 < 0 ∨ n ≤ x.1
    · rw [unl_idx h1] at he; cases he
    · by_cases h2 : x.2.length < 1 ∨ 1024 < x.2.length
      · rw [unl_len h1 h2] at he; cases he
      · by_cases h3 : x.2.length = L0
        · cases hf : acc.find? (fun y => y.1 == x.1) with
          | none =>
            rw [unl_new h1 h2 h3 hf] at he ⊢
            rw [List.find?_eq_none] at hf
            refine unl_good xs _ ⟨fun y hy => ?_, fun y hy => ?_, ?_⟩ he
            · rcases List.mem_append.1 hy with hy | hy
              · exact h.num y hy
              · rw [List.mem_singleton.1 hy]; omega
            · rcases List.mem_append.1 hy with hy | hy
              · exact h.len y hy
              · rw [List.mem_singleton.1 hy]; exact h3
            · rw [List.map_append, List.nodup_append]
              refine ⟨h.nod, by simp, fun a ha b hb => ?_⟩
              obtain ⟨y, hy, rfl⟩ := List.mem_map.1 ha
              have : b = x.1 := by simpa using hb
              subst this
              simpa using hf y hy
          | some y =>
            by_cases h4 : y.2 = x.2
            · rw [unl_old h1 h2 h3 hf h4] at he ⊢
              exact unl_good xs _ h he
            · rw [unl_dif h1 h2 h3 hf h4] at he; cases he
        · rw [unl_unl h1 h2 h3] at he; cases he
/-- How long the bodies are, if there is a shard. -/
theorem unl_pos {n : Int} {L0 : Nat} : ∀ (xs acc : List Sh5), (∀ x ∈ acc, 1 ≤ x.2.length ∧ x.2.length ≤ 1024) → (unlGo n L0 acc xs).2 = 0 → ∀ x ∈ (unlGo n L0 acc xs).1, 1 ≤ x.2.length ∧ x.2.length ≤ 1024
  | [], acc, h, _ => h
  | x :: xs, acc, h, he => by
    by_cases h1 : x.1 < 0 ∨ n ≤ x.1
    · rw [unl_idx h1] at he; cases he
    · by_cases h2 : x.2.length < 1 ∨ 1024 < x.2.length
      · rw [unl_len h1 h2] at he; cases he
      · by_cases h3 : x.2.length = L0
        · cases hf : acc.find? (fun y => y.1 == x.1) with
          | none =>
            rw [unl_new h1 h2 h3 hf] at he ⊢
            refine unl_pos xs _ (fun y hy => ?_) he
            rcases List.mem_append.1 hy with hy | hy
            · exact h y hy
            · rw [List.mem_singleton.1 hy]; omega
          | some y =>
            by_cases h4 : y.2 = x.2
            · rw [unl_old h1 h2 h3 hf h4] at he ⊢
              exact unl_pos xs _ h he
            · rw [unl_dif h1 h2 h3 hf h4] at he; cases he
        · rw [unl_unl h1 h2 h3] at he; cases he
def badD (k n : Int) : Bool := decide (k < 1) || (decide (32 < k) || (decide (n < k) || decide (255 < n)))
/-- The numbers and the bodies of shards. -/
def idx5 (q : List Sh5) : List Nat := q.map fun x => x.1.toNat
def txt5 (q : List Sh5) : List (List UInt8) := q.map (·.2)
def decD (k : Nat) (q : List Sh5) : List (List UInt8) := (invV (pickT k (idx5 q))).map fun r => mixS r (txt5 q)
/-- The data of shards, or the error. -/
def decM (k n : Int) (xs : List Sh5) : List (List UInt8) × Int :=
  if badD k n = true then ([], 1) else if (unlM n xs).2 ≠ 0 then ([], (unlM n xs).2) else if ((unlM n xs).1.length : Int) < k then ([], 15) else (decD k.toNat ((unlM n xs).1.take k.toNat), 0)
theorem Good5.take {n : Int} {L0 : Nat} {xs : List Sh5} (h : Good5 n L0 xs) (k : Nat) : Good5 n L0 (xs.take k) :=
  ⟨fun x hx => h.num x (List.mem_of_mem_take hx), fun x hx => h.len x (List.mem_of_mem_take hx), by
    rw [List.map_take]
    exact h.nod.sublist (List.take_sublist _ _)⟩
theorem Good5.idx {n : Int} {L0 : Nat} {q : List Sh5} (h : Good5 n L0 q) : (idx5 q).Nodup := by
  have e : q.map (·.1) = (idx5 q).map fun (i : Nat) => (i : Int) := by
    unfold idx5
    rw [List.map_map]
    refine List.map_congr_left (fun x hx => ?_)
    have := (h.num x hx).1
    simp
    omega
  have := h.nod
  rw [e] at this
  exact (List.pairwise_map.1 this).imp (fun h e => h (by rw [e]))
/-- Whole data, put in place, are what is decoded. -/
theorem dec_plain {k : Nat} {n : Int} {L0 : Nat} {q : List Sh5} (h : Good5 n L0 q) (hk : 1 ≤ k) (hk2 : k ≤ 32) (hq : q.length = k) (hL : 1 ≤ L0) (ha : allK k q = true) : decD k q = putN k q := by
  have h1 : (q.map tn5).map Prod.fst = idx5 q := by unfold idx5; rw [List.map_map]; rfl
  have h2 : (q.map tn5).map Prod.snd = txt5 q := by unfold txt5; rw [List.map_map]; rfl
  have := decode_plain (k := k) (x := L0) (xs := q.map tn5) (by rw [List.length_map]; exact hq) ⟨hk, by omega⟩ hL (fun t ht => by
    obtain ⟨x, hx, rfl⟩ := List.mem_map.1 ht
    exact h.len x hx) (by rw [h1]; exact h.idx) (fun t ht => by
    obtain ⟨x, hx, rfl⟩ := List.mem_map.1 ht
    unfold allK at ha
    rw [List.all_eq_true] at ha
    have h3 := ha x hx
    have h4 := (h.num x hx).1
    simp at h3
    show x.1.toNat < k
    omega)
  rw [h1, h2] at this
  exact this
theorem dec_inv {k : Nat} {n : Int} {L0 : Nat} {q : List Sh5} (h : Good5 n L0 q) (hn : n ≤ 255) (hk : 1 ≤ k) (hk2 : k ≤ 32) (hq : q.length = k) : invE (pickT k (idx5 q)) = 0 :=
  cauchy_inv k (idx5 q) (by unfold idx5; rw [List.length_map]; exact hq) hk (by omega) h.idx (fun a ha => by
    obtain ⟨x, hx, rfl⟩ := List.mem_map.1 ha
    have := h.num x hx
    omega)
end Go.Proofs.Ytibilabhokkhmaa
