/- The same lists; the range: the program's and the specification's are one and the same number. -/
import Derived.Test.YtcgblpjknkmoaaaEv2
namespace Go.Proofs.Ytcgblpjknkmoaaa.B
open Go.RowKit Go.Proofs.YtcgblpjknkmoaaaW.PrintWords Go.Proofs.YtcgblpjknkmoaaaW.PrintLast Go.Proofs.YtcgblpjknkmoaaaW.PrintMore
open Go.Proofs.Ytcgblpjknkmoaaa.Stamp

theorem same_l0 (a b : List Int) (he : a.length = b.length) (hl : a.length < 1000000) (d : Nat) : ∀ (i k : Nat), i + d = a.length → d < k →
    trishawlaw04_same.l0 k a b (i : Int) = some (decide (a.drop i = b.drop i)) := by
  induction d with
  | zero =>
    intro i k hi hk
    obtain ⟨k, rfl⟩ : ∃ m, k = m + 1 := ⟨k - 1, by omega⟩
    simp only [trishawlaw04_same.l0]
    rw [if_neg (by omega), List.drop_of_length_le (by omega), List.drop_of_length_le (by omega)]
    simp
  | succ d ih =>
    intro i k hi hk
    obtain ⟨k, rfl⟩ : ∃ m, k = m + 1 := ⟨k - 1, by omega⟩
    have h1 := ih (i + 1) k (by omega) (by omega)
    have e1 : wrap64 ((i : Int) + 1) = ((i + 1 : Nat) : Int) := by rw [w64 (by omega)]; omega
    simp only [trishawlaw04_same.l0]
    rw [if_pos (by omega), if_pos (by omega), if_pos (by omega), e1, h1, drop_rd (l := a) (i := i) (by omega), drop_rd (l := b) (i := i) (by omega)]
    by_cases c : rd a (i : Int) = rd b (i : Int)
    · rw [if_pos c, c]; simp
    · rw [if_neg c]; simp [c]
theorem same_f (a b : List Int) (hl : a.length < 1000000) (k : Nat) (hk : a.length < k) : trishawlaw04_same.f k a b = some (decide (a = b)) := by
  unfold trishawlaw04_same.f
  by_cases h : (a.length : Int) = (b.length : Int)
  · rw [if_pos h]
    have := same_l0 a b (by omega) hl a.length 0 k (by omega) hk
    simpa using this
  · rw [if_neg h]
    have : a ≠ b := fun e => h (by rw [e])
    simp [this]

theorem Index_l0 (t : List Int) (v : Int) (hl : t.length < 1000000) (d : Nat) : ∀ (i k : Nat), i + d = t.length → d < k →
    slices_Index_int_int.l0 k t v (t.length : Int) (i : Int) = some (if (t.drop i).findIdx (· == v) < d then ((i + (t.drop i).findIdx (· == v) : Nat) : Int) else -1) := by
  induction d with
  | zero =>
    intro i k hi hk
    obtain ⟨k, rfl⟩ : ∃ m, k = m + 1 := ⟨k - 1, by omega⟩
    simp only [slices_Index_int_int.l0]
    rw [if_neg (by omega), if_neg (by omega)]
  | succ d ih =>
    intro i k hi hk
    obtain ⟨k, rfl⟩ : ∃ m, k = m + 1 := ⟨k - 1, by omega⟩
    have h1 := ih (i + 1) k (by omega) (by omega)
    have e1 : wrap64 ((i : Int) + 1) = ((i + 1 : Nat) : Int) := by rw [w64 (by omega)]; omega
    simp only [slices_Index_int_int.l0]
    rw [if_pos (by omega), if_pos (by omega), if_pos (by omega), e1, h1, drop_rd (l := t) (i := i) (by omega), List.findIdx_cons]
    by_cases c : v = rd t (i : Int)
    · rw [if_pos c, c]; simp
    · rw [if_neg c]
      have : (rd t (i : Int) == v) = false := by simp; exact fun e => c e.symm
      rw [this]
      simp only [cond_false]
      by_cases c2 : (t.drop (i + 1)).findIdx (· == v) < d
      · rw [if_pos c2, if_pos (by omega)]; congr 1; omega
      · rw [if_neg c2, if_neg (by omega)]
theorem Index_f (t : List Int) (v : Int) (hl : t.length < 1000000) (k : Nat) (hk : t.length < k) :
    slices_Index_int_int.f k t v = some (if t.findIdx (· == v) < t.length then (t.findIdx (· == v) : Int) else -1) := by
  unfold slices_Index_int_int.f
  have := Index_l0 t v hl t.length 0 k (by omega) hk
  simpa using this

/-- the range -/
def rangeV (h : Int) (V : List Int) : Int := ((tab h V).findIdx (· == -1) : Int) - 1

theorem findIdx_le (t : List Int) (p : Int → Bool) : t.findIdx p ≤ t.length := List.findIdx_le_length

theorem tab_pos {h : Int} {V : List Int} (tk : Tick h V) : 0 < (tab h V).findIdx (· == -1) := by
  have ht := tk.top
  have h0 : 0 < (tab h V).length := by rw [tab_length]; omega
  rcases Nat.eq_zero_or_pos ((tab h V).findIdx (· == -1)) with e | e
  · have h1 : (tab h V).findIdx (· == -1) < (tab h V).length := by omega
    have := List.findIdx_getElem (w := h1)
    have e2 : (tab h V)[(tab h V).findIdx (· == -1)] = rd (tab h V) 0 := by
      have : ((tab h V).findIdx (· == -1)) = 0 := e
      simp only [this]
      unfold rd; simp [List.getD, h0]
    rw [e2, rd_tab (by omega) (by omega)] at this
    have hz := (fewV_few (by have := tk.h1; omega : 0 ≤ h) V 0).unique (Few.zero (by have := tk.h1; omega) V)
    rw [hz] at this; simp at this
  · exact e

theorem reach_f {h : Int} {V : List Int} (tk : Tick h V) (k : Nat) (hk : 10000 ≤ k) : stamp_reach.f k h V = some (rangeV h V) := by
  have ht := tk.top
  have hl : (tab h V).length ≤ 1201 := by rw [tab_length]; omega
  have hle := findIdx_le (tab h V) (· == -1)
  unfold stamp_reach.f
  rw [fewest_f tk k hk]
  simp only [Option.bind_some]
  rw [Index_f _ _ (by omega) k (by omega)]
  simp only [Option.bind_some]
  unfold rangeV
  by_cases c : (tab h V).findIdx (· == -1) < (tab h V).length
  · rw [if_pos c, if_pos (by omega), w64 (by omega)]
  · rw [if_neg c, if_neg (by omega), w64 (by omega)]
    have : (tab h V).findIdx (· == -1) = (tab h V).length := by omega
    rw [this]

theorem findIdx_before {t : List Int} {j : Nat} (hj : j < t.findIdx (· == -1)) : rd t (j : Int) ≠ -1 := by
  have h1 := List.not_of_lt_findIdx hj
  have : j < t.length := by have := findIdx_le t (· == -1); omega
  rw [rd_nat]
  simp [this] at h1 ⊢
  exact h1
theorem findIdx_at {t : List Int} (h : t.findIdx (· == -1) < t.length) : rd t ((t.findIdx (· == -1) : Nat) : Int) = -1 := by
  have h1 := List.findIdx_getElem (w := h)
  rw [rd_nat]
  simp [h] at h1 ⊢
  exact h1

theorem tab_ge {h : Int} {V : List Int} (h0 : 0 ≤ h) {j : Nat} (hj : j < (tab h V).length) : -1 ≤ rd (tab h V) (j : Int) := by
  rw [tab_length] at hj
  rw [rd_tab (by omega) (by omega)]
  exact (fewV_few h0 V _).ge

theorem refreach_l0 {h : Int} {V : List Int} (tk : Tick h V) (d : Nat) : ∀ (i k : Nat), i + 1 + d = (tab h V).findIdx (· == -1) → d < k →
    trishawref04_reach.l0 k (tab h V) (i : Int) = some (rangeV h V) := by
  have ht := tk.top
  have hl : (tab h V).length ≤ 1201 := by rw [tab_length]; omega
  have hle := findIdx_le (tab h V) (· == -1)
  have h0 : 0 ≤ h := by have := tk.h1; omega
  induction d with
  | zero =>
    intro i k hi hk
    obtain ⟨k, rfl⟩ : ∃ m, k = m + 1 := ⟨k - 1, by omega⟩
    have e1 : wrap64 ((i : Int) + 1) = ((i + 1 : Nat) : Int) := by rw [w64 (by omega)]; omega
    simp only [trishawref04_reach.l0]
    rw [e1]
    by_cases c : (((i + 1 : Nat) : Int)) < ((tab h V).length : Int)
    · rw [if_pos c, if_pos (by omega)]
      have h2 := findIdx_at (t := tab h V) (by omega)
      have h3 : i + 1 = (tab h V).findIdx (· == -1) := by omega
      rw [← h3] at h2
      rw [h2, if_neg (by omega)]
      unfold rangeV; rw [← h3]; congr 1; omega
    · rw [if_neg c]
      unfold rangeV; congr 1; omega
  | succ d ih =>
    intro i k hi hk
    obtain ⟨k, rfl⟩ : ∃ m, k = m + 1 := ⟨k - 1, by omega⟩
    have e1 : wrap64 ((i : Int) + 1) = ((i + 1 : Nat) : Int) := by rw [w64 (by omega)]; omega
    simp only [trishawref04_reach.l0]
    rw [e1, if_pos (by omega), if_pos (by omega)]
    have h2 := findIdx_before (t := tab h V) (j := i + 1) (by omega)
    have h3 := tab_ge (V := V) h0 (j := i + 1) (by omega)
    rw [if_pos (by omega)]
    exact ih (i + 1) k (by omega) (by omega)

theorem refreach_f {h : Int} {V : List Int} (tk : Tick h V) (k : Nat) (hk : 10000 ≤ k) : trishawref04_reach.f k h V = some (rangeV h V) := by
  unfold trishawref04_reach.f
  rw [reffew_f tk k hk]
  simp only [Option.bind_some]
  have ht := tk.top
  have hl : (tab h V).length ≤ 1201 := by rw [tab_length]; omega
  have hle := findIdx_le (tab h V) (· == -1)
  have hp := tab_pos tk
  exact refreach_l0 tk ((tab h V).findIdx (· == -1) - 1) 0 k (by omega) (by omega)

/-- what the range is -/
theorem rangeV_spec {h : Int} {V : List Int} (tk : Tick h V) : 0 ≤ rangeV h V ∧ rangeV h V ≤ h * lastV V ∧ (∀ a, 0 ≤ a → a ≤ rangeV h V → 0 ≤ fewV h V a) ∧ (rangeV h V = h * lastV V ∨ fewV h V (rangeV h V + 1) = -1) := by
  have ht := tk.top
  have h0 : 0 ≤ h := by have := tk.h1; omega
  have hl : (tab h V).length = (h * lastV V + 1).toNat := tab_length h V
  have hle := findIdx_le (tab h V) (· == -1)
  have hp := tab_pos tk
  unfold rangeV
  refine ⟨by omega, by omega, fun a ha1 ha2 => ?_, ?_⟩
  · have h1 := findIdx_before (t := tab h V) (j := a.toNat) (by omega)
    have e : ((a.toNat : Nat) : Int) = a := by omega
    rw [e, rd_tab ha1 (by omega)] at h1
    have := (fewV_few h0 V a).ge
    omega
  · by_cases c : (tab h V).findIdx (· == -1) < (tab h V).length
    · right
      have h1 := findIdx_at c
      rw [rd_tab (by omega) (by omega)] at h1
      rw [Int.sub_add_cancel]; exact h1
    · left; omega
theorem rangeV_unique {h : Int} {V : List Int} (tk : Tick h V) {r : Int} (h1 : 0 ≤ r) (h2 : r ≤ h * lastV V) (h3 : ∀ a, 0 ≤ a → a ≤ r → 0 ≤ fewV h V a) (h4 : r = h * lastV V ∨ fewV h V (r + 1) = -1) : r = rangeV h V := by
  obtain ⟨g1, g2, g3, g4⟩ := rangeV_spec tk
  rcases Int.lt_trichotomy r (rangeV h V) with c | c | c
  · rcases h4 with e | e
    · omega
    · have := g3 (r + 1) (by omega) (by omega); omega
  · exact c
  · rcases g4 with e | e
    · omega
    · have := h3 (rangeV h V + 1) (by omega) (by omega); omega

theorem Range_f (h : Int) (V : List Int) (k : Nat) (hk : 10000 ≤ k) : stamp_Range.f k h V = some (if ticketErr h V = 0 then (rangeV h V, 0) else (0, ticketErr h V)) := by
  unfold stamp_Range.f
  rw [read_f h V k (by omega)]
  simp only [Option.bind_some]
  by_cases c : ticketErr h V = 0
  · rw [if_pos c, if_pos c, reach_f ((ticket_iff h V).1 c) k hk]; rfl
  · rw [if_neg c, if_neg c]

end Go.Proofs.Ytcgblpjknkmoaaa.B
