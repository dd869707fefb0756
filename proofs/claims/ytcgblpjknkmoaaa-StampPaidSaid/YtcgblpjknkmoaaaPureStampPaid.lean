import Derived.Test.YtcgblpjknkmoaaaB15D
import Derived.Test.YtcgblpjknkmoaaaWithV
namespace Go.Proofs.Ytcgblpjknkmoaaa.Pure
open Go.RowKit Go.Proofs.Ytcgblpjknkmoaaa.B Go.Proofs.YtcgblpjknkmoaaaW.PrintWords Go.Proofs.YtcgblpjknkmoaaaW.PrintLast Go.Proofs.Ytcgblpjknkmoaaa.Stamp

theorem W_few' {h : Int} {V : List Int} (tk : Tick h V) (a : Int) : 0 < W V h.toNat a ↔ 0 ≤ fewV h V a := by
  have h1 := tk.h1
  rw [W_pos_iff, (fewV_few (by omega) V a).nonneg_iff]
  constructor
  · rintro ⟨n, hn, p⟩; exact ⟨n, by omega, p⟩
  · rintro ⟨n, hn, p⟩; exact ⟨n, by omega, p⟩

/-- the loop that takes the greatest stamps -/
theorem Paid_l1 {h : Int} {V : List Int} (tk : Tick h V) {a : Int} (ha : a ≤ 1200) (n : Nat) : ∀ (k : Nat) (s : Int × Int), n ≤ V.length → n < k → GOk a s →
    trishawlaw04_StampPaid.l1 k h V s.2 s.1 ((n : Int) - 1) = (if ((V.take n).reverse.foldl gstep s).1 = 0 then (if ((V.take n).reverse.foldl gstep s).2 ≤ h then some true else some false) else some false) := by
  induction n with
  | zero =>
    intro k s hn hk hs
    obtain ⟨k, rfl⟩ : ∃ m, k = m + 1 := ⟨k - 1, by omega⟩
    have hal : trishawlaw04_alive.f = some true := rfl
    simp only [trishawlaw04_StampPaid.l1]
    rw [if_neg (by omega), hal]
    rfl
  | succ n ih =>
    intro k s hn hk hs
    obtain ⟨k, rfl⟩ : ∃ m, k = m + 1 := ⟨k - 1, by omega⟩
    have e1 : (((n + 1 : Nat) : Int) - 1) = (n : Int) := by omega
    have hv := tk.range _ (rd_mem (l := V) (i := (n : Int)) (by omega) (by omega))
    have hs2 := gstep_ok hv.1 hs
    have e2 : (V.take (n + 1)).reverse.foldl gstep s = (V.take n).reverse.foldl gstep (gstep s (rd V (n : Int))) := by
      rw [take_snoc_rd (by omega), List.reverse_append]; rfl
    have hlen := tk.len
    have e3 : wrap64 ((n : Int) - 1) = (n : Int) - 1 := w64 (by omega)
    have e4 : wrap64 (s.2 + wrap64 (Int.tdiv s.1 (rd V (n : Int)))) = s.2 + Int.tdiv s.1 (rd V (n : Int)) := by
      obtain ⟨h1, h2, h3⟩ := hs
      obtain ⟨g1, g2, g3⟩ := hs2
      simp only [gstep] at g1 g2 g3
      have q1 := Int.tdiv_eq_ediv_of_nonneg (b := rd V (n : Int)) h1
      have q2 := Int.ediv_nonneg h1 (show 0 ≤ rd V (n : Int) by omega)
      rw [← q1] at q2
      generalize Int.tdiv s.1 (rd V (n : Int)) = q at *
      rw [w64 (x := q) (by omega), w64 (by omega)]
    rw [e1, e2]
    simp only [trishawlaw04_StampPaid.l1]
    rw [if_pos (by omega), if_pos (by omega), if_pos (by omega), if_neg (by omega), e4, e3]
    exact ih k (gstep s (rd V (n : Int))) (by omega) (by omega) hs2

theorem gAll_zero {V : List Int} (hp : ∀ v ∈ V, 1 ≤ v) : gAll V 0 = (0, 0) := by
  have h := gfold_ok (a := 0) V.reverse (0, 0) (fun v hv => hp v (List.mem_reverse.1 hv)) ⟨Int.le_refl _, Int.le_refl _, by simp⟩
  unfold gAll
  obtain ⟨h1, h2, h3⟩ := h
  exact Prod.ext (by show _ = (0 : Int); omega) (by show _ = (0 : Int); omega)

/-- what Greedy hands back -/
theorem greedy_cases {h : Int} {V : List Int} (tk : Tick h V) :
    (∃ b : Nat, greedyV h V = ((b : Int), 0) ∧ 1 ≤ b ∧ (b : Int) ≤ h * lastV V ∧ 0 ≤ fewV h V b ∧ ∀ j, j < b → badAt h V j = false) ∨ (greedyV h V = (0, 10) ∧ ∀ j : Nat, (j : Int) ≤ h * lastV V → badAt h V j = false) := by
  have ht := tk.top
  have h1 := tk.h1
  have htl := tab_length h V
  unfold greedyV
  rw [if_pos ((ticket_iff h V).2 tk)]
  cases hf : (List.range (tab h V).length).find? (badAt h V) with
  | none =>
    right
    refine ⟨rfl, fun j hj => ?_⟩
    have := List.find?_range_eq_none.1 hf j (by omega)
    simpa using this
  | some b =>
    left
    obtain ⟨g1, g2, g3⟩ := List.find?_range_eq_some.1 hf
    have g2' : b < (tab h V).length := List.mem_range.1 g2
    have hge := (fewV_few (show 0 ≤ h by omega) V (b : Int)).ge
    have hb : 1 ≤ b := by
      rcases Nat.eq_zero_or_pos b with e | e
      · subst e
        have := gAll_zero (V := V) (fun v hv => (tk.range v hv).1)
        simp [badAt, this] at g1
        omega
      · exact e
    refine ⟨b, rfl, hb, by omega, ?_, fun j hj => by have := g3 j hj; simpa using this⟩
    simp [badAt] at g1
    omega

theorem not_bad {h : Int} {V : List Int} (tk : Tick h V) {a : Int} (h0 : 0 ≤ a) (hf : 0 ≤ fewV h V a) (hb : badAt h V a.toNat = false) : (gAll V a).1 = 0 ∧ (gAll V a).2 ≤ h := by
  have hg := gfold_ok (a := a) V.reverse (a, 0) (fun v hv => (tk.range v (List.mem_reverse.1 hv)).1) ⟨h0, Int.le_refl _, by simp⟩
  have e : ((a.toNat : Nat) : Int) = a := by omega
  unfold badAt at hb
  rw [e] at hb
  have hne : decide (fewV h V a ≠ -1) = true := by simp; omega
  rw [hne] at hb
  simp at hb
  have hg2 : GOk a (gAll V a) := hg
  obtain ⟨g1, g2, g3⟩ := hg2
  exact ⟨by omega, hb.2⟩

theorem alive_some : trishawlaw04_alive.f = some true := rfl

/-- behind the look at what Pay handed back -/
theorem Paid_j3 {h : Int} {V : List Int} (tk : Tick h V) {a : Int} (h0 : 0 ≤ a) (hat : a ≤ h * lastV V) (hf : 0 ≤ fewV h V a) (k : Nat) (hk : 100 ≤ k) : trishawlaw04_StampPaid.j3 k h V (h * lastV V) a (tab h V) false = some true := by
  have ht := tk.top
  have hp := tk.pos
  have hlen := tk.len
  have htl := tab_length h V
  have hj5 : ∀ k, 20 ≤ k → badAt h V a.toNat = false → trishawlaw04_StampPaid.j5 k h V a false = some true := by
    intro k hk hb
    obtain ⟨k, rfl⟩ : ∃ m, k = m + 1 := ⟨k - 1, by omega⟩
    obtain ⟨n1, n2⟩ := not_bad tk h0 hf hb
    have h1 := Paid_l1 tk (a := a) (by omega) V.length k (a, 0) (Nat.le_refl _) (by omega) ⟨h0, Int.le_refl _, by simp⟩
    rw [List.take_of_length_le (Nat.le_refl _)] at h1
    have e : V.reverse.foldl gstep (a, 0) = gAll V a := rfl
    rw [e, if_pos n1, if_pos n2] at h1
    simp only [trishawlaw04_StampPaid.j5]
    rw [if_neg (by simp), w64 (x := (V.length : Int) - 1) (by omega)]
    exact h1
  have hj5t : ∀ k, 20 ≤ k → trishawlaw04_StampPaid.j5 k h V a true = some true := by
    intro k hk
    obtain ⟨k, rfl⟩ : ∃ m, k = m + 1 := ⟨k - 1, by omega⟩
    simp only [trishawlaw04_StampPaid.j5, if_true]
    rw [alive_some]; rfl
  obtain ⟨k, rfl⟩ : ∃ m, k = m + 1 := ⟨k - 1, by omega⟩
  simp only [trishawlaw04_StampPaid.j3]
  unfold stamp_Greedy.f
  rcases greedy_cases tk with ⟨b, e, hb1, hb2, hb3, hb4⟩ | ⟨e, hb⟩
  · rw [e, if_neg (by simp)]
    simp only [Option.bind_some, if_true]
    have hrd := rd_tab (h := h) (V := V) (a := (b : Int)) (by omega) hb2
    rw [if_neg (by omega), if_neg (by omega), if_pos (by omega), if_pos (by omega), hrd, decide_eq_false (by omega)]
    obtain ⟨k, rfl⟩ : ∃ m, k = m + 1 := ⟨k - 1, by omega⟩
    simp only [trishawlaw04_StampPaid.j4, if_true]
    rw [if_neg (by simp)]
    by_cases c : a ≥ (b : Int)
    · rw [decide_eq_true c, hj5t k (by omega)]
    · rw [decide_eq_false c, hj5 k (by omega) (hb4 _ (by omega))]
  · rw [e, if_neg (by simp)]
    simp only [Option.bind_some, if_true]
    rw [if_neg (by decide)]
    obtain ⟨k, rfl⟩ : ∃ m, k = m + 1 := ⟨k - 1, by omega⟩
    simp only [trishawlaw04_StampPaid.j4]
    rw [if_neg (by simp), if_neg (by decide), hj5 k (by omega) (hb _ (by omega))]

/-- the stamps that Pay hands back, looked at one by one -/
theorem Paid_l0 {h : Int} {V : List Int} (tk : Tick h V) {a : Int} (h0 : 0 ≤ a) (hat : a ≤ h * lastV V) (hf : 0 ≤ fewV h V a) {p : List Int} (hpl : (p.length : Int) = fewV h V a) (hps : p.sum = a) (hpm : ∀ v ∈ p, v ∈ V) (hpa : p.Pairwise (· ≤ ·)) (d : Nat) :
    ∀ (i k : Nat), i + d = p.length → d + 200 ≤ k → trishawlaw04_StampPaid.l0 k h V (h * lastV V) a p (tab h V) ((p.take i).sum) (i : Int) = some true := by
  have ht := tk.top
  have hlen := tk.len
  have h1 := tk.h1
  have h6 := tk.h6
  have htl := tab_length h V
  have hle := (fewV_few (show 0 ≤ h by omega) V a).le (by omega)
  have hsum : ∀ i, 0 ≤ (p.take i).sum ∧ (p.take i).sum ≤ a := by
    intro i
    have hnn : ∀ l : List Int, (∀ v ∈ l, v ∈ V) → 0 ≤ l.sum := by
      intro l
      induction l with
      | nil => intro _; simp
      | cons x l ih =>
        intro hx
        have := ih (fun v hv => hx v (by simp [hv]))
        have := tk.range x (hx x (by simp))
        simp; omega
    have g1 := hnn (p.take i) (fun v hv => hpm v (List.mem_of_mem_take hv))
    have g2 := hnn (p.drop i) (fun v hv => hpm v (List.mem_of_mem_drop hv))
    have g3 : (p.take i).sum + (p.drop i).sum = p.sum := by rw [← List.sum_append, List.take_append_drop]
    omega
  induction d with
  | zero =>
    intro i k hi hk
    obtain ⟨k, rfl⟩ : ∃ m, k = m + 1 := ⟨k - 1, by omega⟩
    have hrd := rd_tab (h := h) (V := V) h0 hat
    simp only [trishawlaw04_StampPaid.l0]
    rw [if_neg (by omega), List.take_of_length_le (by omega), if_pos hps, if_pos h0, if_pos (by omega), hrd, if_pos hpl, decide_eq_false (by omega), Paid_j3 tk h0 hat hf k (by omega)]
  | succ d ih =>
    intro i k hi hk
    obtain ⟨k, rfl⟩ : ∃ m, k = m + 1 := ⟨k - 1, by omega⟩
    have hilt : i < p.length := by omega
    have hm := hpm _ (rd_mem (l := p) (i := (i : Int)) (by omega) (by omega))
    have hnext := ih (i + 1) k (by omega) (by omega)
    have hin := In_f V (rd p (i : Int)) (by omega) k (by omega)
    rw [decide_eq_true hm] at hin
    have q1 : (i : Int) < (p.length : Int) := by omega
    have q2 : (0 : Int) ≤ (i : Int) := by omega
    have q3 : ((i - 1 : Nat) : Int) < (p.length : Int) := by omega
    have q4 : (0 : Int) ≤ ((i - 1 : Nat) : Int) := by omega
    have e2 : (p.take (i + 1)).sum = (p.take i).sum + rd p (i : Int) := by rw [take_snoc_rd hilt, List.sum_append]; simp
    have hs1 := hsum (i + 1)
    have hb : -9223372036854775808 ≤ (p.take (i + 1)).sum ∧ (p.take (i + 1)).sum < 9223372036854775808 := by omega
    have hord : 0 < i → ¬ rd p (i : Int) < rd p ((i - 1 : Nat) : Int) := by
      intro hpos
      have := List.pairwise_iff_getElem.1 hpa (i - 1) i (by omega) hilt (by omega)
      rw [rd_nat, rd_nat]
      simp [hilt, show i - 1 < p.length by omega]
      omega
    have hnat : (i : Int) > 0 → 0 < i := fun h => by omega
    have e4 : 0 < i → wrap64 ((i : Int) - 1) = ((i - 1 : Nat) : Int) := fun h => by rw [w64 (by omega)]; omega
    have e1 : wrap64 ((i : Int) + 1) = ((i + 1 : Nat) : Int) := by rw [w64 (by omega)]; omega
    have e3 : wrap64 ((p.take i).sum + rd p (i : Int)) = (p.take (i + 1)).sum := by rw [← e2]; exact w64 hb
    simp only [trishawlaw04_StampPaid.l0]
    rw [if_pos q1, if_pos q2, hin, e1, e3, hnext]
    simp only [Option.bind_some, if_true]
    by_cases c : (i : Int) > 0
    · rw [if_pos c, e4 (hnat c), if_pos q4, if_pos q3, if_neg (hord (hnat c))]
    · rw [if_neg c]

theorem StampPaid : trishawlaw04_StampPaid.Pure := by
  intro a0 l1 a2 _ _ _ _ w2
  refine ⟨20010, ?_⟩
  unfold trishawlaw04_StampPaid.f
  have halive : trishawlaw04_StampPaid.j0 20010 a0 l1 a2 true = some true := by
    show trishawlaw04_StampPaid.j0 (20009 + 1) a0 l1 a2 true = some true
    simp only [trishawlaw04_StampPaid.j0, if_true]
    rw [alive_some]; rfl
  by_cases hl : (l1.length : Int) > 30
  · rw [if_pos hl, halive]
  · rw [if_neg hl, refTicket_f a0 l1 20010 (by omega)]
    simp only [Option.bind_some]
    by_cases c : ticketErr a0 l1 = 0
    · have tk := (ticket_iff a0 l1).1 c
      have ht := tk.top
      have hp := tk.pos
      have hlen := tk.len
      have h1 := tk.h1
      have h6 := tk.h6
      have htl := tab_length a0 l1
      have w2' : 0 ≤ a2 ∧ a2 ≤ 65535 := by simpa [Lit.wf, IntKind.min, IntKind.max, IntKind.signed, IntKind.bits] using w2
      have e1 : wrap64 ((l1.length : Int) - 1) = (l1.length : Int) - 1 := w64 (by omega)
      have e2 : rd l1 ((l1.length : Int) - 1) = lastV l1 := rfl
      have e3 : wrap64 (a0 * lastV l1) = a0 * lastV l1 := w64 (by omega)
      have e4 : wrap64 (a0 * lastV l1 + 1) = a0 * lastV l1 + 1 := w64 (by omega)
      have e5 : wrap64 a2 = a2 := w64 (by omega)
      have b1 : (0 : Int) ≤ (l1.length : Int) - 1 := by omega
      have b2 : (l1.length : Int) - 1 < (l1.length : Int) := by omega
      have b3 : ¬ a0 * lastV l1 + 1 = 0 := by omega
      have b4 : ((tab a0 l1).length : Int) = a0 * lastV l1 + 1 := by omega
      have hF : stamp_Fewest.f 20009 a0 l1 = some (tab a0 l1, 0) := by rw [Fewest_f a0 l1 20009 (by omega)]; unfold fewestV; rw [if_pos c]
      rw [c]
      show trishawlaw04_StampPaid.j0 (20009 + 1) a0 l1 a2 false = some true
      simp only [trishawlaw04_StampPaid.j0]
      rw [e1, e2, e3, e4, e5, hF, if_neg (by simp), if_pos b1, if_pos b2, if_neg b3]
      have hm1 : Int.tmod a2 (a0 * lastV l1 + 1) = a2 % (a0 * lastV l1 + 1) := Int.tmod_eq_emod_of_nonneg w2'.1
      have hm2 := Int.emod_nonneg a2 (show a0 * lastV l1 + 1 ≠ 0 by omega)
      have hm3 := Int.emod_lt_of_pos a2 (show 0 < a0 * lastV l1 + 1 by omega)
      rw [hm1]
      generalize a2 % (a0 * lastV l1 + 1) = a at *
      clear hm1 e1 e3 e4 e5
      have ea : askedErr a0 l1 a = 0 := by unfold askedErr; rw [if_pos c, if_neg (by omega)]
      have hW : stamp_Ways.f a0 l1 a = some (((W l1 a0.toNat a : Nat) : Int), 0) := by unfold stamp_Ways.f waysV; rw [if_pos ea]
      have hrd := rd_tab (h := a0) (V := l1) hm2 (by omega)
      have hdec : (decide (((W l1 a0.toNat a : Nat) : Int) > 0) != decide (fewV a0 l1 a ≥ 0)) = false := by
        have := W_few' tk a
        by_cases q : 0 ≤ fewV a0 l1 a
        · have := this.2 q
          rw [decide_eq_true (by omega), decide_eq_true (by omega)]; rfl
        · have := mt this.1 q
          rw [decide_eq_false (by omega), decide_eq_false (by omega)]; rfl
      unfold stamp_Pay.f
      rw [hW]
      simp only [Option.bind_some, if_true]
      rw [b4, if_pos rfl, if_pos hm2, if_pos hm3, hrd, hdec]
      show trishawlaw04_StampPaid.j1 (20008 + 1) a0 l1 (a0 * lastV l1) a (payV a0 l1 a).1 (payV a0 l1 a).2 (tab a0 l1) false = some true
      simp only [trishawlaw04_StampPaid.j1]
      rw [if_neg (by simp)]
      rcases fewV_payV ea with ⟨hf, hpv⟩ | ⟨n, hf, hn, hg, hpv⟩
      · rw [hpv, if_neg (by decide), if_pos rfl, if_pos hm2, if_pos (by omega), hrd, if_pos hf, if_pos (by simp), alive_some]
        rfl
      · rw [hpv, if_pos rfl]
        obtain ⟨p, t, hgp⟩ : ∃ p t, gen l1 n a = p :: t := by
          cases hgp : gen l1 n a with
          | nil => exact absurd hgp hg
          | cons p t => exact ⟨p, t, rfl⟩
        rw [hgp]
        have hmem : p ∈ gen l1 n a := by rw [hgp]; simp
        obtain ⟨g1, g2, g3⟩ := gen_mem l1 n a p hmem
        have g4 := gen_sorted l1 (asc_pairwise tk.asc) n a p hmem
        have := Paid_l0 tk hm2 (by omega) (by omega) (p := p) (by rw [g1, hf]) g2 g3 g4 p.length 0 20008 (by omega) (by omega)
        simpa using this
    · rw [show (ticketErr a0 l1 != 0) = true by simp [c], halive]

end Go.Proofs.Ytcgblpjknkmoaaa.Pure
