import Derived.Test.YtcgblpjknkmoaaaB12D
import Derived.Test.YtcgblpjknkmoaaaWithV
namespace Go.Proofs.Ytcgblpjknkmoaaa.Pure
open Go.RowKit Go.Proofs.Ytcgblpjknkmoaaa.B Go.Proofs.YtcgblpjknkmoaaaW.PrintWords Go.Proofs.YtcgblpjknkmoaaaW.PrintLast Go.Proofs.Ytcgblpjknkmoaaa.Stamp

/-- where all values but 1 are above an amount, it is paid with as many stamps as it says -/
theorem pays_ones {V : List Int} {m : Int} (hp : Pos V) (hv : ∀ v ∈ V, v = 1 ∨ m < v) {n : Nat} {a : Int} (p : Pays V n a) : a ≤ m → a = n := by
  induction p with
  | zero => intro _; rfl
  | @step n b v q hm ih =>
    intro h
    have h1 := hp v hm
    have h2 := q.ge hp
    have h3 := ih (by omega)
    rcases hv v hm with e | e
    · omega
    · omega
theorem range_gap {h : Int} {V : List Int} (tk : Tick h V) (hl : 1 < V.length) (hg : h + 1 < rd V 1) : rangeV h V ≤ h := by
  obtain ⟨g1, g2, g3, g4⟩ := rangeV_spec tk
  have h1 := tk.h1
  rcases Int.lt_or_le h (rangeV h V) with c | c
  · exfalso
    obtain ⟨a, b, t, rfl⟩ : ∃ a b t, V = a :: b :: t := by
      match V, hl with
      | a :: b :: t, _ => exact ⟨a, b, t, rfl⟩
    have hb : rd (a :: b :: t) 1 = b := rfl
    rw [hb] at hg
    have hs := asc_pairwise tk.asc
    have hp := tk.Pos
    have hbt : ∀ v ∈ b :: t, h + 1 < v := fun v hv => by
      rcases List.mem_cons.1 hv with rfl | hv
      · exact hg
      · have := (List.pairwise_cons.1 (List.pairwise_cons.1 hs).2).1 v hv; omega
    have h1' := g3 1 (by omega) (by omega)
    obtain ⟨n, hn, p⟩ := (fewV_few (show 0 ≤ h by omega) (a :: b :: t) 1).nonneg_iff.1 h1'
    have ha : a = 1 := by
      cases n with
      | zero => rw [Pays.zero_iff] at p; omega
      | succ n =>
        obtain ⟨v, hv, q⟩ := Pays.succ_iff.1 p
        have h2 := q.ge hp
        have h3 := hp v hv
        rcases List.mem_cons.1 hv with rfl | hv
        · omega
        · have := hbt v hv; omega
    have h2' := g3 (h + 1) (by omega) (by omega)
    obtain ⟨n, hn, p⟩ := (fewV_few (show 0 ≤ h by omega) (a :: b :: t) (h + 1)).nonneg_iff.1 h2'
    have := pays_ones (m := h + 1) hp (fun v hv => by
      rcases List.mem_cons.1 hv with rfl | hv
      · exact .inl ha
      · exact .inr (hbt v hv)) p (Int.le_refl _)
    omega
  · exact c

theorem More_l0 (h : Int) (V : List Int) (r : Int) (t u : List Int) (ht : t.length ≤ u.length) (hn : t.length ≤ 1201) (hx : ∀ a : Nat, a < t.length → 0 ≤ rd t (a : Int) → 0 ≤ rd u (a : Int) ∧ rd u (a : Int) ≤ rd t (a : Int)) (K : Nat)
    (hj : ∀ k, K ≤ k → trishawlaw04_StampMore.j5 k h V r t = some true) (d : Nat) : ∀ (i k : Nat), i + d = t.length → K + d < k → trishawlaw04_StampMore.l0 k h V r t u (i : Int) = some true := by
  induction d with
  | zero =>
    intro i k hi hk
    obtain ⟨k, rfl⟩ : ∃ m, k = m + 1 := ⟨k - 1, by omega⟩
    simp only [trishawlaw04_StampMore.l0]
    rw [if_neg (by omega), hj k (by omega)]
  | succ d ih =>
    intro i k hi hk
    obtain ⟨k, rfl⟩ : ∃ m, k = m + 1 := ⟨k - 1, by omega⟩
    have e1 : wrap64 ((i : Int) + 1) = ((i + 1 : Nat) : Int) := by rw [w64 (by omega)]; omega
    have hx1 := hx i (by omega)
    simp only [trishawlaw04_StampMore.l0]
    rw [if_pos (by omega), if_pos (by omega), e1, ih (i + 1) k (by omega) (by omega)]
    by_cases c : rd t (i : Int) ≥ 0
    · obtain ⟨h1, h2⟩ := hx1 c
      rw [if_pos c, if_pos (by omega), if_neg (by omega), if_neg (by omega)]
    · rw [if_neg c]

theorem More_l1 (h : Int) (hh : 1 ≤ h ∧ h ≤ 6) (t u : List Int) (ht : t.length ≤ u.length) (hn : t.length ≤ 1201) (hx : ∀ a : Nat, a < t.length → (0 ≤ rd t (a : Int) → rd u (a : Int) = rd t (a : Int)) ∧ (rd t (a : Int) < 0 → 0 ≤ rd u (a : Int) → rd u (a : Int) = h + 1)) (d : Nat) :
    ∀ (i k : Nat), i + d = t.length → d < k → trishawlaw04_StampMore.l1 k h t u (i : Int) = some true := by
  induction d with
  | zero =>
    intro i k hi hk
    obtain ⟨k, rfl⟩ : ∃ m, k = m + 1 := ⟨k - 1, by omega⟩
    have hal : trishawlaw04_alive.f = some true := rfl
    simp only [trishawlaw04_StampMore.l1]
    rw [if_neg (by omega), hal]
    rfl
  | succ d ih =>
    intro i k hi hk
    obtain ⟨k, rfl⟩ : ∃ m, k = m + 1 := ⟨k - 1, by omega⟩
    have e1 : wrap64 ((i : Int) + 1) = ((i + 1 : Nat) : Int) := by rw [w64 (by omega)]; omega
    have e2 : wrap64 (h + 1) = h + 1 := w64 (by omega)
    obtain ⟨hx1, hx2⟩ := hx i (by omega)
    simp only [trishawlaw04_StampMore.l1]
    rw [if_pos (by omega), if_pos (by omega), e1, e2, ih (i + 1) k (by omega) (by omega)]
    by_cases c : rd t (i : Int) ≥ 0
    · rw [if_pos c, if_pos (by omega), if_pos (hx1 c), if_neg (by omega)]
    · rw [if_neg c, if_pos (by omega), if_pos (by omega)]
      by_cases c2 : rd u (i : Int) ≥ 0
      · rw [if_pos c2, if_pos (hx2 (by omega) c2)]
      · rw [if_neg c2]

theorem Fewest_tick {h : Int} {V : List Int} (tk : Tick h V) (k : Nat) (hk : 10000 ≤ k) : stamp_Fewest.f k h V = some (tab h V, 0) := by rw [Fewest_f h V k hk]; unfold fewestV; rw [if_pos ((ticket_iff h V).2 tk)]
theorem Range_tick {h : Int} {V : List Int} (tk : Tick h V) (k : Nat) (hk : 10000 ≤ k) : stamp_Range.f k h V = some (rangeV h V, 0) := by rw [Range_f h V k hk, if_pos ((ticket_iff h V).2 tk)]

theorem More_j5 {h : Int} {V : List Int} (tk : Tick h V) (k : Nat) (hk : 12000 ≤ k) : trishawlaw04_StampMore.j5 k h V (rangeV h V) (tab h V) = some true := by
  obtain ⟨k, rfl⟩ : ∃ m, k = m + 1 := ⟨k - 1, by omega⟩
  have hal : trishawlaw04_alive.f = some true := rfl
  have h1 := tk.h1
  have h6 := tk.h6
  simp only [trishawlaw04_StampMore.j5]
  by_cases c : h = 6
  · rw [if_pos c, hal]; rfl
  · have tk2 := tk.more (by omega)
    have hr := range_more tk tk2
    have ht := tk.top
    have ht2 := tk2.top
    have hl := tk.last_range
    have hlt : h * lastV V ≤ (h + 1) * lastV V := by rw [Int.add_mul]; omega
    have htl := tab_length h V
    have htl2 := tab_length (h + 1) V
    rw [if_neg c, w64 (x := h + 1) (by omega), Range_tick tk2 k (by omega), Fewest_tick tk2 k (by omega)]
    simp only [Option.bind_some, if_true]
    rw [if_neg (by omega), decide_eq_false (by omega)]
    obtain ⟨k, rfl⟩ : ∃ m, k = m + 1 := ⟨k - 1, by omega⟩
    simp only [trishawlaw04_StampMore.j6]
    rw [if_neg (by simp)]
    refine More_l1 h ⟨h1, by omega⟩ _ _ (by omega) (by omega) (fun a ha => ?_) (tab h V).length 0 k (by omega) (by omega)
    rw [rd_tab (by omega) (by omega), rd_tab (by omega) (by omega)]
    exact few_more (by omega) (a : Int)

theorem StampMore : trishawlaw04_StampMore.Pure := by
  intro a0 l1 a2 _ _ _ _ w2
  refine ⟨20010, ?_⟩
  unfold trishawlaw04_StampMore.f
  have hal : trishawlaw04_alive.f = some true := rfl
  have halive : trishawlaw04_StampMore.j0 20010 a0 l1 a2 true = some true := by
    show trishawlaw04_StampMore.j0 (20009 + 1) a0 l1 a2 true = some true
    simp only [trishawlaw04_StampMore.j0, if_true]
    rw [hal]; rfl
  by_cases hl : (l1.length : Int) > 30
  · rw [if_pos hl, halive]
  · rw [if_neg hl, refTicket_f a0 l1 20010 (by omega)]
    simp only [Option.bind_some]
    by_cases c : ticketErr a0 l1 = 0
    · have tk := (ticket_iff a0 l1).1 c
      have ht := tk.top
      have hp := tk.pos
      have hlen := tk.len
      have h1 := tk.h1
      have h6 := tk.h6
      have htl := tab_length a0 l1
      have w2' : 0 ≤ a2 ∧ a2 ≤ 255 := by simpa [Lit.wf, IntKind.min, IntKind.max, IntKind.signed, IntKind.bits] using w2
      have hm := Int.tmod_eq_emod_of_nonneg (b := 200) w2'.1
      -- the range's gap
      have hj1 : ∀ k, 15000 ≤ k → trishawlaw04_StampMore.j1 k a0 l1 a2 (rangeV a0 l1) (tab a0 l1) false = some true := by
        intro k hk
        obtain ⟨k, rfl⟩ : ∃ m, k = m + 1 := ⟨k - 1, by omega⟩
        simp only [trishawlaw04_StampMore.j1]
        rw [if_neg (by simp), w64 (x := a2) (by omega), hm, w64 (x := 1 + a2 % 200) (by omega)]
        obtain ⟨x, hx⟩ : ∃ x, 1 + a2 % 200 = x := ⟨_, rfl⟩
        have hx1 : 1 ≤ x ∧ x ≤ 200 := by omega
        rw [hx]
        have hj2f : trishawlaw04_StampMore.j2 k a0 l1 (rangeV a0 l1) (tab a0 l1) x false = some true := by
          obtain ⟨k, rfl⟩ : ∃ m, k = m + 1 := ⟨k - 1, by omega⟩
          simp only [trishawlaw04_StampMore.j2]
          rw [if_neg (by simp), More_j5 tk k (by omega)]
        by_cases cl : (l1.length : Int) < 6
        · rw [if_pos cl, In_f l1 x (by omega) k (by omega)]
          simp only [Option.bind_some]
          by_cases cm : x ∈ l1
          · rw [decide_eq_true cm]; exact hj2f
          · rw [decide_eq_false cm]
            have tk2 := tk.withV (x := x) (by omega) cm hx1.1 hx1.2
            have hr := range_withV tk tk2
            have ht2 := tk2.top
            have hla := lastV_withV tk tk2
            have hlt := Int.mul_le_mul_of_nonneg_left hla (show 0 ≤ a0 by omega)
            have htl2 := tab_length a0 (withV l1 x)
            have hw : trishawref04_With.f l1 x = some (withV l1 x) := by unfold trishawref04_With.f; rw [if_pos ⟨hp, by omega⟩]
            obtain ⟨k, rfl⟩ : ∃ m, k = m + 1 := ⟨k - 1, by omega⟩
            simp only [trishawlaw04_StampMore.j2]
            rw [hw, if_pos (by simp)]
            simp only [Option.bind_some]
            rw [Range_tick tk2 k (by omega), Fewest_tick tk2 k (by omega)]
            simp only [Option.bind_some, if_true]
            rw [if_neg (by omega), decide_eq_false (by omega)]
            obtain ⟨k, rfl⟩ : ∃ m, k = m + 1 := ⟨k - 1, by omega⟩
            simp only [trishawlaw04_StampMore.j3]
            rw [if_neg (by simp)]
            refine More_l0 a0 l1 _ _ _ (by omega) (by omega) (fun a ha h0 => ?_) 12000 (fun k hk => More_j5 tk k hk) (tab a0 l1).length 0 k (by omega) (by omega)
            rw [rd_tab (by omega) (by omega)] at h0 ⊢
            rw [rd_tab (by omega) (by omega)]
            exact few_mono (by omega) (fun v hv => mem_withV.2 (.inr hv)) h0
        · rw [if_neg cl]; exact hj2f
      rw [c]
      show trishawlaw04_StampMore.j0 (20009 + 1) a0 l1 a2 false = some true
      simp only [trishawlaw04_StampMore.j0]
      rw [Range_tick tk 20009 (by omega), Fewest_tick tk 20009 (by omega), if_neg (by simp), w64 (x := a0 + 1) (by omega)]
      simp only [Option.bind_some, if_true]
      by_cases c1 : (l1.length : Int) > 1
      · rw [if_pos c1, if_pos (by omega)]
        by_cases c2 : rd l1 1 > a0 + 1
        · have := range_gap tk (by omega) (by omega)
          rw [if_pos c2, decide_eq_false (by omega)]; exact hj1 _ (by omega)
        · rw [if_neg c2]; exact hj1 _ (by omega)
      · rw [if_neg c1]; exact hj1 _ (by omega)
    · rw [show (ticketErr a0 l1 != 0) = true by simp [c], halive]

end Go.Proofs.Ytcgblpjknkmoaaa.Pure
