import Derived.Test.YtcgblpjknkmoaaaB10
import Derived.Test.YtcgblpjknkmoaaaEv4
namespace Go.Proofs.Ytcgblpjknkmoaaa.Pure
open Go.RowKit Go.Proofs.Ytcgblpjknkmoaaa.B Go.Proofs.YtcgblpjknkmoaaaW.PrintWords Go.Proofs.YtcgblpjknkmoaaaW.PrintLast Go.Proofs.Ytcgblpjknkmoaaa.Stamp

theorem sumTo_le (f : Int → Nat) {n m : Nat} (h : n ≤ m) : sumTo f n ≤ sumTo f m := by
  induction m with
  | zero => obtain rfl : n = 0 := by omega
            exact Nat.le_refl _
  | succ m ih =>
    rcases Nat.lt_or_ge m n with c | c
    · obtain rfl : n = m + 1 := by omega
      exact Nat.le_refl _
    · have := ih c; simp only [sumTo]; omega
theorem sumTo_ge (f : Int → Nat) : ∀ (n : Nat), (∀ i : Nat, i < n → 0 < f i) → n ≤ sumTo f n
  | 0, _ => Nat.zero_le _
  | n + 1, h => by
    have h1 := sumTo_ge f n (fun i hi => h i (by omega))
    have h2 := h n (by omega)
    simp only [sumTo]; omega

theorem W_few {h : Int} {V : List Int} (tk : Tick h V) (a : Int) : 0 < W V h.toNat a ↔ 0 ≤ fewV h V a := by
  have h1 := tk.h1
  rw [W_pos_iff, (fewV_few (by omega) V a).nonneg_iff]
  constructor
  · rintro ⟨n, hn, p⟩; exact ⟨n, by omega, p⟩
  · rintro ⟨n, hn, p⟩; exact ⟨n, by omega, p⟩
theorem waysV_ok {h : Int} {V : List Int} (tk : Tick h V) {a : Int} (h0 : 0 ≤ a) (h1 : a ≤ h * lastV V) : waysV h V a = (((W V h.toNat a : Nat) : Int), 0) := by
  have e : askedErr h V a = 0 := by unfold askedErr; rw [if_pos ((ticket_iff h V).2 tk), if_neg (by omega)]
  unfold waysV; rw [if_pos e]

theorem sum_all {h : Int} {V : List Int} (tk : Tick h V) : sumTo (W V h.toNat) (h * lastV V + 1).toNat = tot V.length h.toNat := by
  have h1 := tk.h1
  have hl := tk.last_range
  have ht := tk.top
  refine sum_W V tk.Pos (lastV V).toNat (fun v hv => by have := tk.le_last v hv; omega) h.toNat _ ?_
  have e : ((h.toNat * (lastV V).toNat : Nat) : Int) = h * lastV V := by
    rw [Int.natCast_mul]
    have e1 : ((h.toNat : Nat) : Int) = h := by omega
    have e2 : (((lastV V).toNat : Nat) : Int) = lastV V := by omega
    rw [e1, e2]
  omega
theorem range_tot {h : Int} {V : List Int} (tk : Tick h V) : rangeV h V + 1 ≤ (tot V.length h.toNat : Nat) := by
  obtain ⟨g1, g2, g3, g4⟩ := rangeV_spec tk
  have h1 := sumTo_ge (W V h.toNat) (rangeV h V + 1).toNat (fun i hi => (W_few tk _).2 (g3 _ (by omega) (by omega)))
  have h2 := sumTo_le (W V h.toNat) (n := (rangeV h V + 1).toNat) (m := (h * lastV V + 1).toNat) (by omega)
  rw [sum_all tk] at h2
  omega

theorem ch1_1 : trishawlaw04_choose.f 10 2 1 = some 2 := by kernel_rfl
theorem ch1_2 : trishawlaw04_choose.f 10 3 1 = some 3 := by kernel_rfl
theorem ch1_3 : trishawlaw04_choose.f 10 4 1 = some 4 := by kernel_rfl
theorem ch1_4 : trishawlaw04_choose.f 10 5 1 = some 5 := by kernel_rfl
theorem ch1_5 : trishawlaw04_choose.f 10 6 1 = some 6 := by kernel_rfl
theorem ch1_6 : trishawlaw04_choose.f 10 7 1 = some 7 := by kernel_rfl
theorem ch2_1 : trishawlaw04_choose.f 10 3 2 = some 3 := by kernel_rfl
theorem ch2_2 : trishawlaw04_choose.f 10 4 2 = some 6 := by kernel_rfl
theorem ch2_3 : trishawlaw04_choose.f 10 5 2 = some 10 := by kernel_rfl
theorem ch2_4 : trishawlaw04_choose.f 10 6 2 = some 15 := by kernel_rfl
theorem ch2_5 : trishawlaw04_choose.f 10 7 2 = some 21 := by kernel_rfl
theorem ch2_6 : trishawlaw04_choose.f 10 8 2 = some 28 := by kernel_rfl
theorem ch3_1 : trishawlaw04_choose.f 10 4 3 = some 4 := by kernel_rfl
theorem ch3_2 : trishawlaw04_choose.f 10 5 3 = some 10 := by kernel_rfl
theorem ch3_3 : trishawlaw04_choose.f 10 6 3 = some 20 := by kernel_rfl
theorem ch3_4 : trishawlaw04_choose.f 10 7 3 = some 35 := by kernel_rfl
theorem ch3_5 : trishawlaw04_choose.f 10 8 3 = some 56 := by kernel_rfl
theorem ch3_6 : trishawlaw04_choose.f 10 9 3 = some 84 := by kernel_rfl
theorem ch4_1 : trishawlaw04_choose.f 10 5 4 = some 5 := by kernel_rfl
theorem ch4_2 : trishawlaw04_choose.f 10 6 4 = some 15 := by kernel_rfl
theorem ch4_3 : trishawlaw04_choose.f 10 7 4 = some 35 := by kernel_rfl
theorem ch4_4 : trishawlaw04_choose.f 10 8 4 = some 70 := by kernel_rfl
theorem ch4_5 : trishawlaw04_choose.f 10 9 4 = some 126 := by kernel_rfl
theorem ch4_6 : trishawlaw04_choose.f 10 10 4 = some 210 := by kernel_rfl
theorem ch5_1 : trishawlaw04_choose.f 10 6 5 = some 6 := by kernel_rfl
theorem ch5_2 : trishawlaw04_choose.f 10 7 5 = some 21 := by kernel_rfl
theorem ch5_3 : trishawlaw04_choose.f 10 8 5 = some 56 := by kernel_rfl
theorem ch5_4 : trishawlaw04_choose.f 10 9 5 = some 126 := by kernel_rfl
theorem ch5_5 : trishawlaw04_choose.f 10 10 5 = some 252 := by kernel_rfl
theorem ch5_6 : trishawlaw04_choose.f 10 11 5 = some 462 := by kernel_rfl
theorem ch6_1 : trishawlaw04_choose.f 10 7 6 = some 7 := by kernel_rfl
theorem ch6_2 : trishawlaw04_choose.f 10 8 6 = some 28 := by kernel_rfl
theorem ch6_3 : trishawlaw04_choose.f 10 9 6 = some 84 := by kernel_rfl
theorem ch6_4 : trishawlaw04_choose.f 10 10 6 = some 210 := by kernel_rfl
theorem ch6_5 : trishawlaw04_choose.f 10 11 6 = some 462 := by kernel_rfl
theorem ch6_6 : trishawlaw04_choose.f 10 12 6 = some 924 := by kernel_rfl
theorem choose_f (h n : Nat) (hh : 1 ≤ h ∧ h ≤ 6) (hn : 1 ≤ n ∧ n ≤ 6) : trishawlaw04_choose.f 10 ((h : Int) + (n : Int)) (h : Int) = some ((tot n h : Nat) : Int) := by
  have c1 : h = 1 ∨ h = 2 ∨ h = 3 ∨ h = 4 ∨ h = 5 ∨ h = 6 := by omega
  have c2 : n = 1 ∨ n = 2 ∨ n = 3 ∨ n = 4 ∨ n = 5 ∨ n = 6 := by omega
  rcases c1 with rfl | rfl | rfl | rfl | rfl | rfl <;> rcases c2 with rfl | rfl | rfl | rfl | rfl | rfl
  · rw [show tot 1 1 = 2 by simp [tot]]; exact ch1_1
  · rw [show tot 2 1 = 3 by simp [tot]]; exact ch1_2
  · rw [show tot 3 1 = 4 by simp [tot]]; exact ch1_3
  · rw [show tot 4 1 = 5 by simp [tot]]; exact ch1_4
  · rw [show tot 5 1 = 6 by simp [tot]]; exact ch1_5
  · rw [show tot 6 1 = 7 by simp [tot]]; exact ch1_6
  · rw [show tot 1 2 = 3 by simp [tot]]; exact ch2_1
  · rw [show tot 2 2 = 6 by simp [tot]]; exact ch2_2
  · rw [show tot 3 2 = 10 by simp [tot]]; exact ch2_3
  · rw [show tot 4 2 = 15 by simp [tot]]; exact ch2_4
  · rw [show tot 5 2 = 21 by simp [tot]]; exact ch2_5
  · rw [show tot 6 2 = 28 by simp [tot]]; exact ch2_6
  · rw [show tot 1 3 = 4 by simp [tot]]; exact ch3_1
  · rw [show tot 2 3 = 10 by simp [tot]]; exact ch3_2
  · rw [show tot 3 3 = 20 by simp [tot]]; exact ch3_3
  · rw [show tot 4 3 = 35 by simp [tot]]; exact ch3_4
  · rw [show tot 5 3 = 56 by simp [tot]]; exact ch3_5
  · rw [show tot 6 3 = 84 by simp [tot]]; exact ch3_6
  · rw [show tot 1 4 = 5 by simp [tot]]; exact ch4_1
  · rw [show tot 2 4 = 15 by simp [tot]]; exact ch4_2
  · rw [show tot 3 4 = 35 by simp [tot]]; exact ch4_3
  · rw [show tot 4 4 = 70 by simp [tot]]; exact ch4_4
  · rw [show tot 5 4 = 126 by simp [tot]]; exact ch4_5
  · rw [show tot 6 4 = 210 by simp [tot]]; exact ch4_6
  · rw [show tot 1 5 = 6 by simp [tot]]; exact ch5_1
  · rw [show tot 2 5 = 21 by simp [tot]]; exact ch5_2
  · rw [show tot 3 5 = 56 by simp [tot]]; exact ch5_3
  · rw [show tot 4 5 = 126 by simp [tot]]; exact ch5_4
  · rw [show tot 5 5 = 252 by simp [tot]]; exact ch5_5
  · rw [show tot 6 5 = 462 by simp [tot]]; exact ch5_6
  · rw [show tot 1 6 = 7 by simp [tot]]; exact ch6_1
  · rw [show tot 2 6 = 28 by simp [tot]]; exact ch6_2
  · rw [show tot 3 6 = 84 by simp [tot]]; exact ch6_3
  · rw [show tot 4 6 = 210 by simp [tot]]; exact ch6_4
  · rw [show tot 5 6 = 462 by simp [tot]]; exact ch6_5
  · rw [show tot 6 6 = 924 by simp [tot]]; exact ch6_6

theorem sum_end {h : Int} {V : List Int} (tk : Tick h V) {i : Nat} (hi : i + 0 = (h * lastV V + 1).toNat) : sumTo (W V h.toNat) i = tot V.length h.toNat := by
  rw [← sum_all tk, ← hi, Nat.add_zero]
theorem add_small {A B C : Nat} (h : A + B ≤ C) (hc : C ≤ 924) : wrap64 ((A : Int) + (B : Int)) = ((A + B : Nat) : Int) := by rw [w64 (by omega)]; omega
theorem sum_step {h : Int} {V : List Int} (tk : Tick h V) {i : Nat} (hi : i + 1 ≤ (h * lastV V + 1).toNat) : wrap64 (((sumTo (W V h.toNat) i : Nat) : Int) + ((W V h.toNat (i : Int) : Nat) : Int)) = ((sumTo (W V h.toNat) (i + 1) : Nat) : Int) := by
  have b1 := sumTo_le (W V h.toNat) hi
  rw [sum_all tk] at b1
  exact add_small b1 (tot_le tk.len (by have := tk.h6; omega))
theorem Counted_end {h : Int} {V : List Int} (tk : Tick h V) (i k : Nat) (hi : i + 0 = (h * lastV V + 1).toNat) :
    trishawlaw04_StampCounted.l0 (k + 1) h V ((tot V.length h.toNat : Nat) : Int) (rangeV h V) ((sumTo (W V h.toNat) i : Nat) : Int) (i : Int) = some true := by
  have ht := tk.top
  have hp := tk.pos
  have hl := tk.len
  have e1 : wrap64 ((V.length : Int) - 1) = (V.length : Int) - 1 := w64 (by omega)
  have e2 : rd V ((V.length : Int) - 1) = lastV V := rfl
  simp only [trishawlaw04_StampCounted.l0]
  rw [e1, e2]
  rw [if_pos (by omega)]
  rw [if_pos (by omega)]
  rw [w64 (x := h * lastV V) (by omega)]
  rw [if_neg (by omega)]
  rw [if_pos (by rw [sum_end tk hi])]
  have hal : trishawlaw04_alive.f = some true := rfl
  rw [hal]
  rfl

theorem Counted_step {h : Int} {V : List Int} (tk : Tick h V) (i k : Nat) (hi : i + 1 ≤ (h * lastV V + 1).toNat)
    (ih : trishawlaw04_StampCounted.l0 k h V ((tot V.length h.toNat : Nat) : Int) (rangeV h V) ((sumTo (W V h.toNat) (i + 1) : Nat) : Int) ((i + 1 : Nat) : Int) = some true) :
    trishawlaw04_StampCounted.l0 (k + 1) h V ((tot V.length h.toNat : Nat) : Int) (rangeV h V) ((sumTo (W V h.toNat) i : Nat) : Int) (i : Int) = some true := by
  have ht := tk.top
  have hp := tk.pos
  have hl := tk.len
  obtain ⟨g1, g2, g3, g4⟩ := rangeV_spec tk
  have e1 : wrap64 ((V.length : Int) - 1) = (V.length : Int) - 1 := w64 (by omega)
  have e2 : rd V ((V.length : Int) - 1) = lastV V := rfl
  have e3 : wrap64 ((i : Int) + 1) = ((i + 1 : Nat) : Int) := by rw [w64 (by omega)]; omega
  have e4 : wrap64 (rangeV h V + 1) = rangeV h V + 1 := w64 (by omega)
  have e5 := sum_step tk (i := i) hi
  have hW := W_few tk (i : Int)
  have ew : stamp_Ways.f h V (i : Int) = some (((W V h.toNat (i : Int) : Nat) : Int), 0) := by unfold stamp_Ways.f; rw [waysV_ok tk (by omega) (by omega)]
  have hi2 : (i : Int) ≤ h * lastV V := by omega
  generalize rangeV h V = r at *
  generalize W V h.toNat (i : Int) = wi at *
  generalize ((sumTo (W V h.toNat) (i + 1) : Nat) : Int) = s1 at *
  generalize ((sumTo (W V h.toNat) i : Nat) : Int) = s0 at *
  generalize ((tot V.length h.toNat : Nat) : Int) = c at *
  simp only [trishawlaw04_StampCounted.l0]
  rw [e1, e2, if_pos (by omega), if_pos (by omega), w64 (x := h * lastV V) (by omega), if_pos hi2, ew]
  simp only [Option.bind_some, if_true]
  rw [if_neg (by omega), e4, e5, e3, ih]
  by_cases c : (i : Int) ≤ r
  · have := hW.2 (g3 _ (by omega) c)
    rw [if_pos c, if_neg (by omega), if_neg (by omega)]
  · rw [if_neg c]
    by_cases c2 : (i : Int) = r + 1
    · have h3 : ¬ 0 ≤ fewV h V (i : Int) := by
        rcases g4 with e | e
        · omega
        · rw [← c2] at e; omega
      have := mt hW.1 h3
      rw [if_pos c2, if_neg (by omega)]
    · rw [if_neg c2]

theorem Counted_l0 {h : Int} {V : List Int} (tk : Tick h V) (d : Nat) : ∀ (i k : Nat), i + d = (h * lastV V + 1).toNat → d < k →
    trishawlaw04_StampCounted.l0 k h V ((tot V.length h.toNat : Nat) : Int) (rangeV h V) ((sumTo (W V h.toNat) i : Nat) : Int) (i : Int) = some true := by
  induction d with
  | zero =>
    intro i k hi hk
    obtain ⟨k, rfl⟩ : ∃ m, k = m + 1 := ⟨k - 1, by omega⟩
    exact Counted_end tk i k hi
  | succ d ih =>
    intro i k hi hk
    obtain ⟨k, rfl⟩ : ∃ m, k = m + 1 := ⟨k - 1, by omega⟩
    exact Counted_step tk i k (by omega) (ih (i + 1) k (by omega) (by omega))

theorem StampCounted : trishawlaw04_StampCounted.Pure := by
  intro a0 l1 _ _ _ _
  refine ⟨20010, ?_⟩
  unfold trishawlaw04_StampCounted.f
  have hal : trishawlaw04_alive.f = some true := rfl
  have halive : trishawlaw04_StampCounted.j0 20010 a0 l1 true = some true := by
    show trishawlaw04_StampCounted.j0 (20009 + 1) a0 l1 true = some true
    simp only [trishawlaw04_StampCounted.j0, if_true]
    rw [hal]; rfl
  by_cases hl : (l1.length : Int) > 30
  · rw [if_pos hl, halive]
  · rw [if_neg hl, refTicket_f a0 l1 20010 (by omega)]
    simp only [Option.bind_some]
    by_cases c : ticketErr a0 l1 = 0
    · have tk := (ticket_iff a0 l1).1 c
      have ht := tk.top
      have hp := tk.pos
      have hl := tk.len
      have h1 := tk.h1
      have h6 := tk.h6
      obtain ⟨g1, g2, g3, g4⟩ := rangeV_spec tk
      have b2 := tot_le (n := l1.length) (h := a0.toNat) hl (by omega)
      have b4 := range_tot tk
      have hch : trishawlaw04_choose.f 20009 (wrap64 (a0 + (l1.length : Int))) a0 = some ((tot l1.length a0.toNat : Nat) : Int) := by
        rw [w64 (by omega)]
        have h2 := choose_f a0.toNat l1.length (by omega) (by omega)
        have e : ((a0.toNat : Nat) : Int) = a0 := by omega
        rw [e] at h2
        exact more_rounds (fun k => trishawlaw04_choose.mono _ _ k) 10 19999 _ h2
      rw [c]
      show trishawlaw04_StampCounted.j0 (20009 + 1) a0 l1 false = some true
      simp only [trishawlaw04_StampCounted.j0]
      rw [hch, Range_f a0 l1 20009 (by omega), if_pos c]
      simp only [Option.bind_some, if_true]
      rw [if_neg (by simp), if_neg (by omega), w64 (by omega), decide_eq_false (by omega)]
      show trishawlaw04_StampCounted.j1 (20008 + 1) a0 l1 _ _ false = some true
      simp only [trishawlaw04_StampCounted.j1]
      rw [if_neg (by simp)]
      exact Counted_l0 tk (a0 * lastV l1 + 1).toNat 0 20008 (by omega) (by omega)
    · rw [show (ticketErr a0 l1 != 0) = true by simp [c], halive]

end Go.Proofs.Ytcgblpjknkmoaaa.Pure
