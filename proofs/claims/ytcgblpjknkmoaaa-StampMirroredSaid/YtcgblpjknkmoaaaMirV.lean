/- Mirrored values: they are values again, and mirrored twice they are the first ones. -/
import Derived.Test.YtcgblpjknkmoaaaGMirrored
import Derived.Test.YtcgblpjknkmoaaaBestV
namespace Go.Proofs.Ytcgblpjknkmoaaa.B
open Go.RowKit Go.Proofs.Ytcgblpjknkmoaaa.Stamp

theorem asc_of {p : Int} {l : List Int} (h1 : ∀ v ∈ l, 1 ≤ v ∧ v ≤ 200 ∧ p < v) (h2 : l.Pairwise (· < ·)) : asc p l = true := by
  induction l generalizing p with
  | nil => rfl
  | cons v l ih =>
    have hv := h1 v (by simp)
    have hp := List.pairwise_cons.1 h2
    simp [asc, hv.1, hv.2.1, hv.2.2]
    exact ih (fun x hx => ⟨(h1 x (by simp [hx])).1, (h1 x (by simp [hx])).2.1, hp.1 x hx⟩) hp.2

theorem mirV_snoc (I : List Int) (M : Int) : mirV (I ++ [M]) = I.reverse.map (fun v => M - v) ++ [M] := by
  unfold mirV; rw [lastV_append]; simp
theorem mirV_twice (I : List Int) (M : Int) : mirV (mirV (I ++ [M])) = I ++ [M] := by
  rw [mirV_snoc, mirV_snoc]
  simp only [List.map_reverse, List.reverse_reverse, List.map_map]
  congr 1
  rw [show ((fun v => M - v) ∘ fun v => M - v) = id from funext (fun v => by simp; omega)]
  simp

theorem Tick.snoc {h : Int} {V : List Int} (tk : Tick h V) : ∃ I, V = I ++ [lastV V] := by
  have hne : V ≠ [] := fun e => by have := tk.pos; rw [e] at this; simp at this
  refine ⟨V.dropLast, ?_⟩
  have h1 := List.dropLast_concat_getLast hne
  have h2 : V.getLast hne = lastV V := by
    have h3 := lastV_append V.dropLast (V.getLast hne)
    rw [h1] at h3; exact h3.symm
  rw [h2] at h1; exact h1.symm

theorem mir_tick {h M : Int} {I : List Int} (tk : Tick h (I ++ [M])) : Tick h (mirV (I ++ [M])) := by
  have hr := tk.range
  have hp := asc_pairwise tk.asc
  have hM := hr M (by simp)
  have hlt : ∀ v ∈ I, 1 ≤ v ∧ v < M := fun v hv => ⟨(hr v (by simp [hv])).1, (List.pairwise_append.1 hp).2.2 v hv M (by simp)⟩
  rw [mirV_snoc]
  refine ⟨tk.h1, tk.h6, by have := tk.len; simpa using this, by simp, asc_of (fun v hv => ?_) ?_⟩
  · rcases List.mem_append.1 hv with hv | hv
    · obtain ⟨x, hx, rfl⟩ := List.mem_map.1 hv
      have := hlt x (List.mem_reverse.1 hx)
      omega
    · simp at hv; subst hv; omega
  · rw [List.pairwise_append]
    refine ⟨?_, by simp, fun v hv w hw => ?_⟩
    · rw [List.pairwise_map, List.pairwise_reverse]
      exact (List.pairwise_append.1 hp).1.imp (fun {a b} hab => by omega)
    · obtain ⟨x, hx, rfl⟩ := List.mem_map.1 hv
      have := hlt x (List.mem_reverse.1 hx)
      simp at hw; omega
theorem mir_is (I : List Int) (M : Int) : IsMirror (I ++ [M]) (mirV (I ++ [M])) M := by
  rw [mirV_snoc]
  refine ⟨fun v hv => ?_, fun v hv => ?_, by simp, by simp⟩
  · rcases List.mem_append.1 hv with hv | hv
    · exact .inr (List.mem_append_left _ (List.mem_map.2 ⟨v, List.mem_reverse.2 hv, rfl⟩))
    · exact .inl (by simpa using hv)
  · rcases List.mem_append.1 hv with hv | hv
    · obtain ⟨x, hx, rfl⟩ := List.mem_map.1 hv
      refine .inr (List.mem_append_left _ ?_)
      have e : M - (M - x) = x := by omega
      rw [e]; exact List.mem_reverse.1 hx
    · exact .inl (by simpa using hv)

end Go.Proofs.Ytcgblpjknkmoaaa.B
