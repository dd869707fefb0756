/- What Fewest comes to: the table, or the error. Mirrored values: they are values again, and mirrored twice they are the first ones. The values with another one: values again; what they pay; the look whether a value is among values. -/
import Derived.Test.YtcgblpjknkmoaaaEv
import Derived.Test.YtcgblpjknkmoaaaB5
import Derived.Test.YtcgblpjknkmoaaaGMirrored
import Derived.Test.YtcgblpjknkmoaaaGWith
namespace Go.Proofs.Ytcgblpjknkmoaaa.Pure
open Go.RowKit Go.Proofs.Ytcgblpjknkmoaaa.B Go.Proofs.YtcgblpjknkmoaaaW.PrintWords Go.Proofs.YtcgblpjknkmoaaaW.PrintLast

def fewestV (h : Int) (V : List Int) : List Int × Int := if ticketErr h V = 0 then (tab h V, 0) else ([], ticketErr h V)
theorem Fewest_f (h : Int) (V : List Int) (k : Nat) (hk : 10000 ≤ k) : stamp_Fewest.f k h V = some (fewestV h V) := by
  unfold stamp_Fewest.f fewestV
  rw [read_f h V k (by omega)]
  simp only [Option.bind_some]
  by_cases c : ticketErr h V = 0
  · rw [if_pos c, if_pos c, fewest_f ((ticket_iff h V).1 c) k hk]; rfl
  · rw [if_neg c, if_neg c]
theorem fewestV_short (h : Int) (V : List Int) : (fewestV h V).1.length ≤ 1201 := by
  unfold fewestV
  split
  · rename_i c
    have := ((ticket_iff h V).1 c).top
    simp only [tab_length]; omega
  · simp


end Go.Proofs.Ytcgblpjknkmoaaa.Pure

namespace Go.Proofs.Ytcgblpjknkmoaaa.B
open Go.RowKit Go.Proofs.Ytcgblpjknkmoaaa.Stamp

theorem asc_of {p : Int} {l : List Int} (h1 : ∀ v ∈ l, 1 ≤ v ∧ v ≤ 200 ∧ p < v) (h2 : l.Pairwise (· < ·)) : asc p l = true := by
  induction l generalizing p with
  | nil => rfl
  | cons v l ih =>
    have hv := h1 v (by simp)
    have hp := List.pairwise_cons.1 h2
    simp [asc, hv.1, hv.2.1, hv.2.2]
    exact ih (fun x hx => ⟨(h1 x (by simp [hx])).1, (h1 x (by simp [hx])).2.1, hp.1 x hx⟩) hp.2

theorem mirV_snoc (I : List Int) (M : Int) : mirV (I ++ [M]) = I.reverse.map (fun v => M - v) ++ [M] := by
  unfold mirV; rw [lastV_append]; simp
theorem mirV_twice (I : List Int) (M : Int) : mirV (mirV (I ++ [M])) = I ++ [M] := by
  rw [mirV_snoc, mirV_snoc]
  simp only [List.map_reverse, List.reverse_reverse, List.map_map]
  congr 1
  rw [show ((fun v => M - v) ∘ fun v => M - v) = id from funext (fun v => by simp; omega)]
  simp

theorem Tick.snoc {h : Int} {V : List Int} (tk : Tick h V) : ∃ I, V = I ++ [lastV V] := by
  have hne : V ≠ [] := fun e => by have := tk.pos; rw [e] at this; simp at this
  refine ⟨V.dropLast, ?_⟩
  have h1 := List.dropLast_concat_getLast hne
  have h2 : V.getLast hne = lastV V := by
    have h3 := lastV_append V.dropLast (V.getLast hne)
    rw [h1] at h3; exact h3.symm
  rw [h2] at h1; exact h1.symm

theorem mir_tick {h M : Int} {I : List Int} (tk : Tick h (I ++ [M])) : Tick h (mirV (I ++ [M])) := by
  have hr := tk.range
  have hp := asc_pairwise tk.asc
  have hM := hr M (by simp)
  have hlt : ∀ v ∈ I, 1 ≤ v ∧ v < M := fun v hv => ⟨(hr v (by simp [hv])).1, (List.pairwise_append.1 hp).2.2 v hv M (by simp)⟩
  rw [mirV_snoc]
  refine ⟨tk.h1, tk.h6, by have := tk.len; simpa using this, by simp, asc_of (fun v hv => ?_) ?_⟩
  · rcases List.mem_append.1 hv with hv | hv
    · obtain ⟨x, hx, rfl⟩ := List.mem_map.1 hv
      have := hlt x (List.mem_reverse.1 hx)
      omega
    · simp at hv; subst hv; omega
  · rw [List.pairwise_append]
    refine ⟨?_, by simp, fun v hv w hw => ?_⟩
    · rw [List.pairwise_map, List.pairwise_reverse]
      exact (List.pairwise_append.1 hp).1.imp (fun {a b} hab => by omega)
    · obtain ⟨x, hx, rfl⟩ := List.mem_map.1 hv
      have := hlt x (List.mem_reverse.1 hx)
      simp at hw; omega
theorem mir_is (I : List Int) (M : Int) : IsMirror (I ++ [M]) (mirV (I ++ [M])) M := by
  rw [mirV_snoc]
  refine ⟨fun v hv => ?_, fun v hv => ?_, by simp, by simp⟩
  · rcases List.mem_append.1 hv with hv | hv
    · exact .inr (List.mem_append_left _ (List.mem_map.2 ⟨v, List.mem_reverse.2 hv, rfl⟩))
    · exact .inl (by simpa using hv)
  · rcases List.mem_append.1 hv with hv | hv
    · obtain ⟨x, hx, rfl⟩ := List.mem_map.1 hv
      refine .inr (List.mem_append_left _ ?_)
      have e : M - (M - x) = x := by omega
      rw [e]; exact List.mem_reverse.1 hx
    · exact .inl (by simpa using hv)

end Go.Proofs.Ytcgblpjknkmoaaa.B

namespace Go.Proofs.Ytcgblpjknkmoaaa.B
open Go.RowKit Go.Proofs.YtcgblpjknkmoaaaW.PrintWords Go.Proofs.YtcgblpjknkmoaaaW.PrintLast Go.Proofs.Ytcgblpjknkmoaaa.Stamp

theorem withV_length (l : List Int) (x : Int) : (withV l x).length = l.length + 1 := by
  have := withAt_le l x
  simp [withV]; omega
theorem mem_withV {l : List Int} {x v : Int} : v ∈ withV l x ↔ v = x ∨ v ∈ l := by
  unfold withV
  rw [List.mem_append, List.mem_append, List.mem_singleton]
  constructor
  · rintro ((h | h) | h)
    · exact .inr (List.mem_of_mem_take h)
    · exact .inl h
    · exact .inr (List.mem_of_mem_drop h)
  · rintro (h | h)
    · exact .inl (.inr h)
    · rw [← List.take_append_drop (withAt l x) l, List.mem_append] at h
      rcases h with h | h
      · exact .inl (.inl h)
      · exact .inr h
theorem take_lt {l : List Int} {x v : Int} (h : v ∈ l.take (withAt l x)) : v < x := by
  obtain ⟨i, hi, rfl⟩ := List.mem_iff_getElem.1 h
  have h1 : i < withAt l x := by simp at hi; omega
  have h2 : i < l.length := by simp at hi; omega
  have := withAt_lt h1
  rw [rd_nat, List.getD_eq_getElem?_getD, List.getElem?_eq_getElem h2] at this
  simpa using this
theorem drop_gt {l : List Int} {x v : Int} (hs : l.Pairwise (· < ·)) (hx : x ∉ l) (h : v ∈ l.drop (withAt l x)) : x < v := by
  have hl : withAt l x < l.length := by
    rcases Nat.lt_or_ge (withAt l x) l.length with c | c
    · exact c
    · rw [List.drop_of_length_le c] at h; simp at h
  have h1 := withAt_at hl
  have hm : v ∈ l := List.mem_of_mem_drop h
  have hne : v ≠ x := fun e => hx (e ▸ hm)
  have hs2 := (hs.sublist (List.drop_sublist (withAt l x) l))
  rw [drop_rd hl] at h hs2
  rcases List.mem_cons.1 h with rfl | h
  · omega
  · have := (List.pairwise_cons.1 hs2).1 v h; omega
theorem withV_pairwise {l : List Int} {x : Int} (hs : l.Pairwise (· < ·)) (hx : x ∉ l) : (withV l x).Pairwise (· < ·) := by
  unfold withV
  rw [List.pairwise_append, List.pairwise_append]
  refine ⟨⟨hs.sublist (List.take_sublist _ _), by simp, fun a ha b hb => ?_⟩, hs.sublist (List.drop_sublist _ _), fun a ha b hb => ?_⟩
  · simp at hb; subst hb; exact take_lt ha
  · have h2 := drop_gt hs hx hb
    rcases List.mem_append.1 ha with h | h
    · have := take_lt h; omega
    · simp at h; omega
theorem Tick.withV {h x : Int} {V : List Int} (tk : Tick h V) (hl : V.length ≤ 5) (hx : x ∉ V) (h1 : 1 ≤ x) (h2 : x ≤ 200) : Tick h (withV V x) := by
  refine ⟨tk.h1, tk.h6, by rw [withV_length]; omega, by rw [withV_length]; omega, asc_of (fun v hv => ?_) (withV_pairwise (asc_pairwise tk.asc) hx)⟩
  rcases mem_withV.1 hv with rfl | hv
  · omega
  · have := tk.range v hv; omega
theorem lastV_withV {h x : Int} {V : List Int} (tk : Tick h V) (tk2 : Tick h (withV V x)) : lastV V ≤ lastV (withV V x) := tk2.le_last _ (mem_withV.2 (.inr tk.last))
theorem Tick.more {h : Int} {V : List Int} (tk : Tick h V) (h6 : h + 1 ≤ 6) : Tick (h + 1) V := ⟨by have := tk.h1; omega, h6, tk.len, tk.pos, tk.asc⟩

theorem few_mono {h : Int} {V W : List Int} (h0 : 0 ≤ h) (hs : ∀ v ∈ V, v ∈ W) {a : Int} (ha : 0 ≤ fewV h V a) : 0 ≤ fewV h W a ∧ fewV h W a ≤ fewV h V a := by
  rcases fewV_few h0 V a with ⟨e, _⟩ | ⟨k, e, hk, p, _⟩
  · omega
  · have q := p.mono hs
    rcases fewV_few h0 W a with ⟨e2, hx⟩ | ⟨j, e2, hj, _, hl⟩
    · exact absurd q (hx k hk)
    · refine ⟨by omega, ?_⟩
      rcases Nat.lt_or_ge k j with c | c
      · exact absurd q (hl k c)
      · omega
theorem few_more {h : Int} {V : List Int} (h0 : 0 ≤ h) (a : Int) : (0 ≤ fewV h V a → fewV (h + 1) V a = fewV h V a) ∧ (fewV h V a < 0 → 0 ≤ fewV (h + 1) V a → fewV (h + 1) V a = h + 1) := by
  rcases fewV_few h0 V a with ⟨e, hx⟩ | ⟨k, e, hk, p, hl⟩
  · refine ⟨fun h => by omega, fun _ h2 => ?_⟩
    rcases fewV_few (show 0 ≤ h + 1 by omega) V a with ⟨e2, _⟩ | ⟨j, e2, hj, q, _⟩
    · omega
    · rcases Int.lt_or_le h (j : Int) with c | c
      · omega
      · exact absurd q (hx j c)
  · refine ⟨fun _ => ?_, fun h => by omega⟩
    exact (fewV_few (show 0 ≤ h + 1 by omega) V a).unique (.inr ⟨k, e, by omega, p, hl⟩)
theorem range_ge' {h : Int} {V : List Int} (tk : Tick h V) {r : Int} (h2 : r ≤ h * lastV V) (h3 : ∀ a, 0 ≤ a → a ≤ r → 0 ≤ fewV h V a) : r ≤ rangeV h V := by
  obtain ⟨g1, g2, g3, g4⟩ := rangeV_spec tk
  rcases Int.lt_or_le (rangeV h V) r with c | c
  · rcases g4 with e | e
    · omega
    · have := h3 (rangeV h V + 1) (by omega) (by omega); omega
  · exact c
theorem range_withV {h x : Int} {V : List Int} (tk : Tick h V) (tk2 : Tick h (withV V x)) : rangeV h V ≤ rangeV h (withV V x) := by
  obtain ⟨g1, g2, g3, g4⟩ := rangeV_spec tk
  have h1 := tk.h1
  refine range_ge' tk2 ?_ (fun a h0 h2 => (few_mono (by omega) (fun v hv => mem_withV.2 (.inr hv)) (g3 a h0 h2)).1)
  have := Int.mul_le_mul_of_nonneg_left (lastV_withV tk tk2) (show 0 ≤ h by omega)
  omega
theorem range_more {h : Int} {V : List Int} (tk : Tick h V) (tk2 : Tick (h + 1) V) : rangeV h V ≤ rangeV (h + 1) V := by
  obtain ⟨g1, g2, g3, g4⟩ := rangeV_spec tk
  have h1 := tk.h1
  have hl := tk.last_range
  refine range_ge' tk2 ?_ (fun a h0 h2 => by have := (few_more (V := V) (show 0 ≤ h by omega) a).1 (g3 a h0 h2); have := g3 a h0 h2; omega)
  rw [Int.add_mul]; omega

theorem In_l0 (l : List Int) (x : Int) (hl : l.length ≤ 1000) (d : Nat) : ∀ (i k : Nat), i + d = l.length → d < k → trishawref04_In.l0 k l x (i : Int) = some (decide (x ∈ l.drop i)) := by
  induction d with
  | zero =>
    intro i k hi hk
    obtain ⟨k, rfl⟩ : ∃ m, k = m + 1 := ⟨k - 1, by omega⟩
    simp only [trishawref04_In.l0]
    rw [if_neg (by omega), List.drop_of_length_le (by omega)]
    simp
  | succ d ih =>
    intro i k hi hk
    obtain ⟨k, rfl⟩ : ∃ m, k = m + 1 := ⟨k - 1, by omega⟩
    have e1 : wrap64 ((i : Int) + 1) = ((i + 1 : Nat) : Int) := by rw [w64 (by omega)]; omega
    simp only [trishawref04_In.l0]
    rw [if_pos (by omega), if_pos (by omega), e1, ih (i + 1) k (by omega) (by omega), drop_rd (l := l) (i := i) (by omega)]
    by_cases c : rd l (i : Int) = x
    · rw [if_pos c]; simp [c]
    · rw [if_neg c]
      have : x ≠ rd l (i : Int) := fun e => c e.symm
      simp [this]
theorem In_f (l : List Int) (x : Int) (hl : l.length ≤ 1000) (k : Nat) (hk : l.length < k) : trishawref04_In.f k l x = some (decide (x ∈ l)) := by
  unfold trishawref04_In.f
  have := In_l0 l x hl l.length 0 k (by omega) hk
  simpa using this

end Go.Proofs.Ytcgblpjknkmoaaa.B
