/- What the program's and the specification's looks at places, values and amounts come to: the same error. -/
import Derived.Test.YtcgblpjknkmoaaaMath
import Derived.Test.YtcgblpjknkmoaaaB3
namespace Go.Proofs.Ytcgblpjknkmoaaa.B
open Go.RowKit Go.Proofs.YtcgblpjknkmoaaaW.PrintWords Go.Proofs.YtcgblpjknkmoaaaW.PrintLast Go.Proofs.YtcgblpjknkmoaaaW.PrintMore
open Go.Proofs.Ytcgblpjknkmoaaa.Stamp

theorem w64 {x : Int} (h : -9223372036854775808 ≤ x ∧ x < 9223372036854775808) : wrap64 x = x := by unfold wrap64; omega

/-- strictly ascending from above p on, from 1 to 200 -/
def asc : Int → List Int → Bool
  | _, [] => true
  | p, v :: t => decide (1 ≤ v) && (decide (v ≤ 200) && (decide (p < v) && asc v t))
def valuesErr (l : List Int) : Int := if 6 < l.length then 3 else if l.length = 0 then 2 else if asc 0 l = true then 0 else 2
def ticketErr (h : Int) (l : List Int) : Int := if h < 1 ∨ 6 < h then 2 else valuesErr l
def lastV (l : List Int) : Int := rd l (l.length - 1)
def askedErr (h : Int) (l : List Int) (a : Int) : Int := if ticketErr h l = 0 then (if a < 0 ∨ h * lastV l < a then 4 else 0) else ticketErr h l

def prevV (l : List Int) (i : Nat) : Int := if i = 0 then 0 else rd l ((i : Int) - 1)
theorem rd_nat (l : List Int) (i : Nat) : rd l (i : Int) = l.getD i 0 := by simp [rd]
theorem drop_rd {l : List Int} {i : Nat} (h : i < l.length) : l.drop i = rd l (i : Int) :: l.drop (i + 1) := by
  rw [rd_nat, List.drop_eq_getElem_cons h]; simp [h]
theorem prevV_succ (l : List Int) (i : Nat) : prevV l (i + 1) = rd l (i : Int) := by
  unfold prevV; rw [if_neg (by omega)]; congr 1; omega

/-- one element looked at -/
theorem asc_step {l : List Int} {i : Nat} (h : i < l.length) : asc (prevV l i) (l.drop i) = (decide (1 ≤ rd l (i : Int)) && (decide (rd l (i : Int) ≤ 200) && (decide (prevV l i < rd l (i : Int)) && asc (prevV l (i + 1)) (l.drop (i + 1))))) := by
  rw [drop_rd h, asc, prevV_succ]

theorem valued_l0 (l : List Int) (hl : l.length ≤ 6) (d : Nat) : ∀ (i k : Nat), i + d = l.length → d < k →
    stamp_valued.l0 k l l (l.length : Int) (i : Int) = some (if asc (prevV l i) (l.drop i) = true then 0 else 2) := by
  induction d with
  | zero =>
    intro i k hi hk
    obtain ⟨k, rfl⟩ : ∃ m, k = m + 1 := ⟨k - 1, by omega⟩
    simp only [stamp_valued.l0]
    rw [if_neg (by omega), List.drop_of_length_le (by omega)]
    simp [asc]
  | succ d ih =>
    intro i k hi hk
    obtain ⟨k, rfl⟩ : ∃ m, k = m + 1 := ⟨k - 1, by omega⟩
    have h1 := ih (i + 1) k (by omega) (by omega)
    have e1 : wrap64 ((i : Int) + 1) = ((i + 1 : Nat) : Int) := by rw [w64 (by omega)]; omega
    simp only [stamp_valued.l0]
    rw [if_pos (by omega), if_pos (by omega), if_pos (by omega), asc_step (by omega), e1, h1]
    by_cases c1 : rd l (i : Int) < 1
    · rw [if_pos c1]; have : ¬ 1 ≤ rd l (i : Int) := by omega
      simp [this]
    · rw [if_neg c1]
      have c1' : 1 ≤ rd l (i : Int) := by omega
      by_cases c2 : rd l (i : Int) > 200
      · rw [if_pos c2]; have : ¬ rd l (i : Int) ≤ 200 := by omega
        simp [this]
      · rw [if_neg c2]
        have c2' : rd l (i : Int) ≤ 200 := by omega
        by_cases c3 : (i : Int) > 0
        · have e2 : wrap64 ((i : Int) - 1) = (i : Int) - 1 := w64 (by omega)
          have e3 : prevV l i = rd l ((i : Int) - 1) := by unfold prevV; rw [if_neg (by omega)]
          rw [if_pos c3, e2, if_pos (by omega), if_pos (by omega), e3]
          by_cases c4 : rd l (i : Int) ≤ rd l ((i : Int) - 1)
          · rw [if_pos c4]; have : ¬ rd l ((i : Int) - 1) < rd l (i : Int) := by omega
            simp [this]
          · rw [if_neg c4]; have : rd l ((i : Int) - 1) < rd l (i : Int) := by omega
            simp [this, c1', c2']
        · have e3 : prevV l i = 0 := by unfold prevV; rw [if_pos (by omega)]
          rw [if_neg c3, e3]
          have : (0 : Int) < rd l (i : Int) := by omega
          simp [this, c1', c2']

theorem refValues_l0 (l : List Int) (hl : l.length ≤ 6) (d : Nat) : ∀ (i k : Nat), i + d = l.length → d < k →
    trishawref04_Values.l0 k l (i : Int) = some (if asc (prevV l i) (l.drop i) = true then 0 else 2) := by
  induction d with
  | zero =>
    intro i k hi hk
    obtain ⟨k, rfl⟩ : ∃ m, k = m + 1 := ⟨k - 1, by omega⟩
    simp only [trishawref04_Values.l0]
    rw [if_neg (by omega), List.drop_of_length_le (by omega)]
    simp [asc]
  | succ d ih =>
    intro i k hi hk
    obtain ⟨k, rfl⟩ : ∃ m, k = m + 1 := ⟨k - 1, by omega⟩
    have h1 := ih (i + 1) k (by omega) (by omega)
    have e1 : wrap64 ((i : Int) + 1) = ((i + 1 : Nat) : Int) := by rw [w64 (by omega)]; omega
    simp only [trishawref04_Values.l0]
    rw [if_pos (by omega), if_pos (by omega), asc_step (by omega), e1, h1]
    by_cases c1 : rd l (i : Int) < 1
    · rw [if_pos c1]; have : ¬ 1 ≤ rd l (i : Int) := by omega
      simp [this]
    · rw [if_neg c1]
      have c1' : 1 ≤ rd l (i : Int) := by omega
      by_cases c2 : rd l (i : Int) > 200
      · rw [if_pos c2]; have : ¬ rd l (i : Int) ≤ 200 := by omega
        simp [this]
      · rw [if_neg c2]
        have c2' : rd l (i : Int) ≤ 200 := by omega
        by_cases c3 : (i : Int) > 0
        · have e2 : wrap64 ((i : Int) - 1) = (i : Int) - 1 := w64 (by omega)
          have e3 : prevV l i = rd l ((i : Int) - 1) := by unfold prevV; rw [if_neg (by omega)]
          rw [if_pos c3, e2, if_pos (by omega), if_pos (by omega), e3]
          by_cases c4 : rd l (i : Int) ≤ rd l ((i : Int) - 1)
          · rw [if_pos c4]; have : ¬ rd l ((i : Int) - 1) < rd l (i : Int) := by omega
            simp [this]
          · rw [if_neg c4]; have : rd l ((i : Int) - 1) < rd l (i : Int) := by omega
            simp [this, c1', c2']
        · have e3 : prevV l i = 0 := by unfold prevV; rw [if_pos (by omega)]
          rw [if_neg c3, e3]
          have : (0 : Int) < rd l (i : Int) := by omega
          simp [this, c1', c2']

theorem valued_f (l : List Int) (k : Nat) (hk : 7 ≤ k) : stamp_valued.f k l = some (valuesErr l) := by
  unfold stamp_valued.f valuesErr
  by_cases h1 : (l.length : Int) > 6
  · rw [if_pos h1, if_pos (show 6 < l.length by omega)]
  · rw [if_neg h1, if_neg (show ¬ 6 < l.length by omega)]
    by_cases h2 : (l.length : Int) = 0
    · rw [if_pos h2, if_pos (show l.length = 0 by omega)]
    · rw [if_neg h2, if_neg (show ¬ l.length = 0 by omega)]
      have := valued_l0 l (by omega) l.length 0 k (by omega) (by omega)
      simpa [prevV] using this
theorem refValues_f (l : List Int) (k : Nat) (hk : 7 ≤ k) : trishawref04_Values.f k l = some (valuesErr l) := by
  unfold trishawref04_Values.f valuesErr
  by_cases h1 : (l.length : Int) > 6
  · rw [if_pos h1, if_pos (show 6 < l.length by omega)]
  · rw [if_neg h1, if_neg (show ¬ 6 < l.length by omega)]
    by_cases h2 : (l.length : Int) = 0
    · rw [if_pos h2, if_pos (show l.length = 0 by omega)]
    · rw [if_neg h2, if_neg (show ¬ l.length = 0 by omega)]
      have := refValues_l0 l (by omega) l.length 0 k (by omega) (by omega)
      simpa [prevV] using this
theorem read_f (h : Int) (l : List Int) (k : Nat) (hk : 7 ≤ k) : stamp_read.f k h l = some (ticketErr h l) := by
  unfold stamp_read.f ticketErr
  by_cases h1 : h < 1
  · rw [if_pos h1, if_pos (.inl h1)]
  · rw [if_neg h1]
    by_cases h2 : h > 6
    · rw [if_pos h2, if_pos (.inr h2)]
    · rw [if_neg h2, if_neg (by omega), valued_f l k hk]; rfl
theorem refTicket_f (h : Int) (l : List Int) (k : Nat) (hk : 7 ≤ k) : trishawref04_Ticket.f k h l = some (ticketErr h l) := by
  unfold trishawref04_Ticket.f ticketErr
  by_cases h1 : h < 1
  · rw [if_pos h1, if_pos (.inl h1)]
  · rw [if_neg h1]
    by_cases h2 : h > 6
    · rw [if_pos h2, if_pos (.inr h2)]
    · rw [if_neg h2, if_neg (by omega), refValues_f l k hk]; rfl

/-- what a ticket without an error is -/
structure Tick (h : Int) (l : List Int) : Prop where
  h1 : 1 ≤ h
  h6 : h ≤ 6
  len : l.length ≤ 6
  pos : 0 < l.length
  asc : asc 0 l = true
theorem ticket_iff (h : Int) (l : List Int) : ticketErr h l = 0 ↔ Tick h l := by
  unfold ticketErr valuesErr
  constructor
  · intro e
    split at e
    · omega
    · split at e
      · omega
      · split at e
        · omega
        · split at e
          · exact ⟨by omega, by omega, by omega, by omega, by assumption⟩
          · omega
  · rintro ⟨h1, h6, hl, hp, ha⟩
    rw [if_neg (by omega), if_neg (by omega), if_neg (by omega), if_pos ha]

theorem asc_all {p : Int} {l : List Int} (h : asc p l = true) : ∀ v ∈ l, 1 ≤ v ∧ v ≤ 200 ∧ p < v := by
  induction l generalizing p with
  | nil => intro v hv; simp at hv
  | cons x t ih =>
    simp only [asc, Bool.and_eq_true, decide_eq_true_eq] at h
    intro v hv
    rcases List.mem_cons.1 hv with rfl | hv
    · exact ⟨h.1, h.2.1, h.2.2.1⟩
    · have := ih h.2.2.2 v hv; exact ⟨this.1, this.2.1, by omega⟩
theorem asc_pairwise {p : Int} {l : List Int} (h : asc p l = true) : l.Pairwise (· < ·) := by
  induction l generalizing p with
  | nil => exact .nil
  | cons x t ih =>
    simp only [asc, Bool.and_eq_true, decide_eq_true_eq] at h
    exact List.pairwise_cons.2 ⟨fun v hv => (asc_all h.2.2.2 v hv).2.2, ih h.2.2.2⟩
theorem rd_mem {l : List Int} {i : Int} (h0 : 0 ≤ i) (h : i < l.length) : rd l i ∈ l := by
  unfold rd
  have : i.toNat < l.length := by omega
  simp [List.getD, this]
theorem Tick.last {h : Int} {l : List Int} (t : Tick h l) : lastV l ∈ l := rd_mem (by have := t.pos; omega) (by have := t.pos; omega)
theorem Tick.range {h : Int} {l : List Int} (t : Tick h l) : ∀ v ∈ l, 1 ≤ v ∧ v ≤ 200 := fun v hv => ⟨(asc_all t.asc v hv).1, (asc_all t.asc v hv).2.1⟩
theorem Tick.Pos {h : Int} {l : List Int} (t : Tick h l) : Pos l := fun v hv => (t.range v hv).1
theorem Tick.le_last {h : Int} {l : List Int} (t : Tick h l) : ∀ v ∈ l, v ≤ lastV l := by
  intro v hv
  obtain ⟨i, hi, rfl⟩ := List.mem_iff_getElem.1 hv
  have hp := asc_pairwise t.asc
  have e : lastV l = l[l.length - 1]'(by have := t.pos; omega) := by
    unfold lastV rd
    have : ((l.length : Int) - 1).toNat = l.length - 1 := by omega
    have h2 : l.length - 1 < l.length := by have := t.pos; omega
    simp [this, List.getD, h2]
  rw [e]
  rcases Nat.lt_or_ge i (l.length - 1) with h | h
  · exact Int.le_of_lt (List.pairwise_iff_getElem.1 hp i (l.length - 1) hi _ h)
  · have : i = l.length - 1 := by omega
    subst this; exact Int.le_refl _
theorem Tick.last_range {h : Int} {l : List Int} (t : Tick h l) : 1 ≤ lastV l ∧ lastV l ≤ 200 := t.range _ t.last
/-- h times the greatest value is small -/
theorem Tick.top {h : Int} {l : List Int} (t : Tick h l) : 1 ≤ h * lastV l ∧ h * lastV l ≤ 1200 := by
  have h1 := t.h1; have h6 := t.h6; obtain ⟨l1, l2⟩ := t.last_range
  constructor
  · have := Int.mul_le_mul h1 l1 (by omega) (by omega); omega
  · have := Int.mul_le_mul h6 l2 (by omega) (by omega); omega

theorem lastV_eq (l : List Int) : rd l ((l.length : Int) - 1) = lastV l := rfl

theorem asked_f (h : Int) (l : List Int) (a : Int) (k : Nat) (hk : 7 ≤ k) : stamp_asked.f k h l a = some (askedErr h l a) := by
  unfold stamp_asked.f askedErr
  rw [read_f h l k hk]
  simp only [Option.bind_some]
  by_cases h0 : ticketErr h l = 0
  · have t := (ticket_iff h l).1 h0
    have hp := t.pos; have hl := t.len; have ht := t.top
    have e1 : wrap64 ((l.length : Int) - 1) = (l.length : Int) - 1 := w64 (by omega)
    rw [if_pos h0, if_pos h0, e1, lastV_eq, w64 (by omega)]
    by_cases h1 : a < 0
    · rw [if_pos h1, if_pos (.inl h1)]
    · rw [if_neg h1, if_pos (by omega), if_pos (by omega)]
      by_cases h2 : a > h * lastV l
      · rw [if_pos h2, if_pos (.inr h2)]
      · rw [if_neg h2, if_neg (by omega), h0]
  · rw [if_neg h0, if_neg h0]
theorem refAsked_f (h : Int) (l : List Int) (a : Int) (k : Nat) (hk : 7 ≤ k) : trishawref04_asked.f k h l a = some (askedErr h l a) := by
  unfold trishawref04_asked.f askedErr
  rw [refTicket_f h l k hk]
  simp only [Option.bind_some]
  by_cases h0 : ticketErr h l = 0
  · have t := (ticket_iff h l).1 h0
    have hp := t.pos; have hl := t.len; have ht := t.top
    have e1 : wrap64 ((l.length : Int) - 1) = (l.length : Int) - 1 := w64 (by omega)
    rw [if_pos h0, if_pos h0, e1, lastV_eq, w64 (by omega)]
    by_cases h1 : a < 0
    · rw [if_pos h1, if_pos (.inl h1)]
    · rw [if_neg h1, if_pos (by omega), if_pos (by omega)]
      by_cases h2 : a > h * lastV l
      · rw [if_pos h2, if_pos (.inr h2)]
      · rw [if_neg h2, if_neg (by omega), h0]
  · rw [if_neg h0, if_neg h0]

end Go.Proofs.Ytcgblpjknkmoaaa.B
