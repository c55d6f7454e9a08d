/-
  The table: put, where there is no entry (chapter 18).
-/
import Derived.Test.YteepdknnmdhckaaTa13
import Derived.Deep.Cut
namespace Go.Proofs.Yteepdknnmdhckaa
open Go Go.RowKit Go.MuLone
set_option linter.unusedVariables false
set_option linter.unusedSimpArgs false
set_option maxRecDepth 100000
set_option maxHeartbeats 2000000
theorem Turn.only1 {base : Nat} {K : List (Option TypeId)} {w w' : World} {b : Nat} {cs : Array Value} {t : TypeId} (h : Only [b] w w') (hb : base ≤ b) (hk : Blk w b cs t) (hK : some t ∈ K) : Turn base K w w' := Turn.one h hb hk.kind hK
theorem TabM.addEnt {base : Nat} {W w' : World} {bt : Nat} {s : TS} {hd : Option Nat} (h : TabM base W bt s hd) {k : Int × Int} {p : Nat × Nat} (hj : s.ps[partOf s.ps.length k]? = some p) (hnone : getE k s.es = none) (e : TE) (hek : e.k = k) (hm : EntM W base e) (hfr : ∀ f ∈ s.es, f.eb ≠ e.eb)
    (ho : Only [p.2] W w') (hp : MapW encK w' p.2 (putM k (ptr e.eb) (inP s.ps.length s.es (partOf s.ps.length k)))) : TabM base w' bt { s with es := s.es ++ [e] } hd := by
  have hnew : ∀ q ∈ inP s.ps.length s.es (partOf s.ps.length k), q.1 ≠ k := fun q hq => by
    obtain ⟨f, hf, rfl⟩ := List.mem_map.1 hq
    exact getE_none hnone f (List.mem_filter.1 hf).1
  rw [putM_new hnew] at hp
  refine h.setMap hj (s.es ++ [e]) ho ?_ (fun i hi => ?_) (fun f hf => ?_) ?_
  · have : inP s.ps.length (s.es ++ [e]) (partOf s.ps.length k) = inP s.ps.length s.es (partOf s.ps.length k) ++ [(k, ptr e.eb)] := by
      unfold inP
      rw [List.filter_append, List.map_append, List.filter_cons_of_pos (by simp [hek])]
      simp [TE.mp, hek]
    rw [this]
    exact hp
  · unfold inP
    rw [List.filter_append, List.filter_cons_of_neg (by simp [hek]; exact fun e' => hi e'.symm)]
    simp
  · rcases List.mem_append.1 hf with hf | hf
    · exact h.pe f hf
    · rw [List.mem_singleton.1 hf]; exact hm
  · rw [List.map_append, List.nodup_append]
    refine ⟨h.en, by simp, fun a ha b hb => ?_⟩
    obtain ⟨f, hf, rfl⟩ := List.mem_map.1 ha
    simp at hb
    rw [hb]
    exact hfr f hf
end Go.Proofs.Yteepdknnmdhckaa
