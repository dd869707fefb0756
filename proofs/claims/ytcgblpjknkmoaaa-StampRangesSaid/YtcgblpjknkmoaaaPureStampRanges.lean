import Derived.Test.YtcgblpjknkmoaaaB14
import Derived.Test.YtcgblpjknkmoaaaEv4
namespace Go.Proofs.Ytcgblpjknkmoaaa.Pure
open Go.RowKit Go.Proofs.Ytcgblpjknkmoaaa.B Go.Proofs.YtcgblpjknkmoaaaW.PrintWords Go.Proofs.YtcgblpjknkmoaaaW.PrintLast Go.Proofs.Ytcgblpjknkmoaaa.Stamp

/-- the amounts from i on that are not payable -/
def hol (t : List Int) (i d : Nat) : List Int := ((List.range' i d).filter (fun a : Nat => decide (rd t (a : Int) = -1))).map (fun a : Nat => (a : Int))
theorem hol_succ (t : List Int) (i d : Nat) : hol t i (d + 1) = (if rd t (i : Int) = -1 then [(i : Int)] else []) ++ hol t (i + 1) d := by
  unfold hol
  rw [List.range'_succ, List.filter_cons]
  by_cases c : rd t (i : Int) = -1
  · rw [if_pos (by simpa using c), if_pos c]; rfl
  · rw [if_neg (by simpa using c), if_neg c]; rfl
theorem hol_len (t : List Int) (i d : Nat) : (hol t i d).length ≤ d := by
  unfold hol
  rw [List.length_map]
  exact Nat.le_trans (List.length_filter_le _ _) (by simp)

theorem Holes_l0 (t : List Int) (ht : t.length ≤ 1201) : ∀ (d i k : Nat) (acc : List Int), i + d = t.length → d < k → acc.length + d ≤ 2000 → stamp_Holes.l0 k acc t (t.length : Int) (i : Int) = some (acc ++ hol t i d, 0)
  | 0, i, k, acc, hi, hk, ha => by
    obtain ⟨k, rfl⟩ : ∃ m, k = m + 1 := ⟨k - 1, by omega⟩
    simp only [stamp_Holes.l0]
    rw [if_neg (by omega)]
    simp [hol]
  | d + 1, i, k, acc, hi, hk, ha => by
    obtain ⟨k, rfl⟩ : ∃ m, k = m + 1 := ⟨k - 1, by omega⟩
    have e1 : wrap64 ((i : Int) + 1) = ((i + 1 : Nat) : Int) := by rw [w64 (by omega)]; omega
    simp only [stamp_Holes.l0]
    rw [if_pos (by omega), if_pos (by omega), if_pos (by omega), e1, hol_succ]
    by_cases c : rd t (i : Int) = -1
    · rw [if_pos c, if_pos (by omega), if_pos c, Holes_l0 t ht d (i + 1) k _ (by omega) (by omega) (by simp; omega)]
      simp
    · rw [if_neg c, if_neg c, Holes_l0 t ht d (i + 1) k _ (by omega) (by omega) (by omega)]
      simp

theorem refHoles_l0 (t : List Int) (ht : t.length ≤ 1201) (hge : ∀ a : Nat, a < t.length → -1 ≤ rd t (a : Int)) : ∀ (d i k : Nat) (acc : List Int), i + d = t.length → d < k → acc.length + d ≤ 2000 → trishawref04_Holes.l0 k t acc (i : Int) = some (acc ++ hol t i d, 0)
  | 0, i, k, acc, hi, hk, ha => by
    obtain ⟨k, rfl⟩ : ∃ m, k = m + 1 := ⟨k - 1, by omega⟩
    simp only [trishawref04_Holes.l0]
    rw [if_neg (by omega)]
    simp [hol]
  | d + 1, i, k, acc, hi, hk, ha => by
    obtain ⟨k, rfl⟩ : ∃ m, k = m + 1 := ⟨k - 1, by omega⟩
    have e1 : wrap64 ((i : Int) + 1) = ((i + 1 : Nat) : Int) := by rw [w64 (by omega)]; omega
    have hg := hge i (by omega)
    simp only [trishawref04_Holes.l0]
    rw [if_pos (by omega), if_pos (by omega), e1, hol_succ]
    by_cases c : rd t (i : Int) = -1
    · rw [if_pos (show rd t (i : Int) < 0 by omega), if_pos (by omega), if_pos c, refHoles_l0 t ht hge d (i + 1) k _ (by omega) (by omega) (by simp; omega)]
      simp
    · rw [if_neg (show ¬ rd t (i : Int) < 0 by omega), if_neg c, refHoles_l0 t ht hge d (i + 1) k _ (by omega) (by omega) (by omega)]
      simp

def holesV (h : Int) (V : List Int) : List Int × Int := if ticketErr h V = 0 then (hol (tab h V) 0 (tab h V).length, 0) else ([], ticketErr h V)
theorem Holes_f (h : Int) (V : List Int) (k : Nat) (hk : 10000 ≤ k) : stamp_Holes.f k h V = some (holesV h V) := by
  unfold stamp_Holes.f holesV
  rw [read_f h V k (by omega)]
  simp only [Option.bind_some]
  by_cases c : ticketErr h V = 0
  · have tk := (ticket_iff h V).1 c
    have ht := tk.top
    have hl := tab_length h V
    rw [if_pos c, if_pos c, fewest_f tk k hk]
    have := Holes_l0 (tab h V) (by omega) (tab h V).length 0 k [] (by omega) (by omega) (by simp; omega)
    simpa using this
  · rw [if_neg c, if_neg c]
theorem refHoles_f (h : Int) (V : List Int) (k : Nat) (hk : 10000 ≤ k) : trishawref04_Holes.f k h V = some (holesV h V) := by
  unfold trishawref04_Holes.f holesV
  rw [refTicket_f h V k (by omega)]
  simp only [Option.bind_some]
  by_cases c : ticketErr h V = 0
  · have tk := (ticket_iff h V).1 c
    have ht := tk.top
    have hh := tk.h1
    have hl := tab_length h V
    have hge : ∀ a : Nat, a < (tab h V).length → -1 ≤ rd (tab h V) (a : Int) := fun a ha => by
      rw [rd_tab (by omega) (by omega)]; exact (fewV_few (by omega) V a).ge
    obtain ⟨d, hd⟩ : ∃ d, (tab h V).length = d + 1 := ⟨(tab h V).length - 1, by omega⟩
    rw [if_pos c, if_pos c, reffew_f tk k hk]
    have := refHoles_l0 (tab h V) (by omega) hge d 1 k [] (by omega) (by omega) (by simp; omega)
    have h0 : rd (tab h V) ((0 : Nat) : Int) ≠ -1 := by
      rw [rd_tab (by omega) (by simp; omega)]
      have := ((fewV_few (h := h) (by omega) V 0).nonneg_iff).2 ⟨0, by simp; omega, .zero⟩
      simp; omega
    rw [hd, hol_succ, if_neg h0]
    simpa using this
  · rw [if_neg c, if_neg c]
theorem holesV_short (h : Int) (V : List Int) : (holesV h V).1.length ≤ 1201 := by
  unfold holesV
  split
  · rename_i c
    have := ((ticket_iff h V).1 c).top
    have h1 := hol_len (tab h V) 0 (tab h V).length
    have h2 := tab_length h V
    simp only; omega
  · simp

theorem refRange_f (h : Int) (V : List Int) (k : Nat) (hk : 10000 ≤ k) : trishawref04_Range.f k h V = some (if ticketErr h V = 0 then (rangeV h V, 0) else (0, ticketErr h V)) := by
  unfold trishawref04_Range.f
  rw [refTicket_f h V k (by omega)]
  simp only [Option.bind_some]
  by_cases c : ticketErr h V = 0
  · rw [if_pos c, if_pos c, refreach_f ((ticket_iff h V).1 c) k hk]; rfl
  · rw [if_neg c, if_neg c]

theorem StampRanges : trishawlaw04_StampRanges.Pure := by
  intro a0 l1 _ _ _ _
  refine ⟨20000, ?_⟩
  unfold trishawlaw04_StampRanges.f
  have hal : trishawlaw04_alive.f = some true := rfl
  by_cases hl : (l1.length : Int) > 30
  · rw [if_pos hl, hal]; rfl
  · have hs := holesV_short a0 l1
    rw [if_neg hl, Range_f a0 l1 20000 (by omega), refRange_f a0 l1 20000 (by omega)]
    simp only [Option.bind_some, if_true, bne_self_eq_false]
    show trishawlaw04_StampRanges.j0 (19999 + 1) a0 l1 false = some true
    simp only [trishawlaw04_StampRanges.j0]
    rw [Holes_f a0 l1 19999 (by omega), refHoles_f a0 l1 19999 (by omega), hal]
    simp only [Option.bind_some]
    rw [same_f _ _ (by omega) _ (by omega)]
    simp

end Go.Proofs.Ytcgblpjknkmoaaa.Pure
