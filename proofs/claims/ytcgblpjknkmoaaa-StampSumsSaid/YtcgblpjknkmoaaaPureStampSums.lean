import Derived.Test.YtcgblpjknkmoaaaB13D
import Derived.Test.YtcgblpjknkmoaaaWithV
namespace Go.Proofs.Ytcgblpjknkmoaaa.Pure
open Go.RowKit Go.Proofs.Ytcgblpjknkmoaaa.B Go.Proofs.YtcgblpjknkmoaaaW.PrintWords Go.Proofs.YtcgblpjknkmoaaaW.PrintLast Go.Proofs.Ytcgblpjknkmoaaa.Stamp

/-- two payable amounts: their sum is paid with both together -/
theorem few_sum {h : Int} {V : List Int} (h0 : 0 ≤ h) {a b : Int} (ha : 0 ≤ fewV h V a) (hb : 0 ≤ fewV h V b) (hs : fewV h V a + fewV h V b ≤ h) : 0 ≤ fewV h V (a + b) ∧ fewV h V (a + b) ≤ fewV h V a + fewV h V b := by
  have ea := fewV_few h0 V a
  have eb := fewV_few h0 V b
  have es := fewV_few h0 V (a + b)
  generalize fewV h V a = x at *
  generalize fewV h V b = y at *
  generalize fewV h V (a + b) = z at *
  rcases ea with ⟨rfl, _⟩ | ⟨n, rfl, hn, pn, _⟩
  · omega
  · rcases eb with ⟨rfl, _⟩ | ⟨m, rfl, hm, pm, _⟩
    · omega
    · have p := pn.add pm
      rcases es with ⟨rfl, hx⟩ | ⟨k, rfl, hk, _, hl⟩
      · exact absurd p (hx (n + m) (by omega))
      · refine ⟨by omega, ?_⟩
        rcases Nat.lt_or_ge (n + m) k with c | c
        · exact absurd p (hl _ c)
        · omega

theorem mod_range {x t : Int} (hx : 0 ≤ x) (ht : 0 ≤ t) : 0 ≤ Int.tmod x (t + 1) ∧ Int.tmod x (t + 1) ≤ t := by
  rw [Int.tmod_eq_emod_of_nonneg hx]
  have h1 := Int.emod_nonneg x (show t + 1 ≠ 0 by omega)
  have h2 := Int.emod_lt_of_pos x (show 0 < t + 1 by omega)
  omega

theorem StampSums : trishawlaw04_StampSums.Pure := by
  intro a0 l1 a2 a3 _ _ _ _ w2 w3
  refine ⟨20010, ?_⟩
  unfold trishawlaw04_StampSums.f
  have hal : trishawlaw04_alive.f = some true := rfl
  have halive : trishawlaw04_StampSums.j0 20010 a0 l1 a2 a3 true = some true := by
    show trishawlaw04_StampSums.j0 (20009 + 1) a0 l1 a2 a3 true = some true
    simp only [trishawlaw04_StampSums.j0, if_true]
    rw [hal]; rfl
  have hal2 : ∀ t x y, trishawlaw04_StampSums.j2 20008 t x y true = some true := fun t x y => by
    show trishawlaw04_StampSums.j2 (20007 + 1) t x y true = some true
    simp only [trishawlaw04_StampSums.j2, if_true]
    rw [hal]; rfl
  by_cases hl : (l1.length : Int) > 30
  · rw [if_pos hl, halive]
  · rw [if_neg hl, refTicket_f a0 l1 20010 (by omega)]
    simp only [Option.bind_some]
    by_cases c : ticketErr a0 l1 = 0
    · have tk := (ticket_iff a0 l1).1 c
      have ht := tk.top
      have hp := tk.pos
      have hlen := tk.len
      have h1 := tk.h1
      have h6 := tk.h6
      have e1 : wrap64 ((l1.length : Int) - 1) = (l1.length : Int) - 1 := w64 (by omega)
      have e2 : rd l1 ((l1.length : Int) - 1) = lastV l1 := rfl
      have hF : stamp_Fewest.f 20009 a0 l1 = some (tab a0 l1, 0) := by rw [Fewest_f a0 l1 20009 (by omega)]; unfold fewestV; rw [if_pos c]
      have htl := tab_length a0 l1
      rw [c]
      show trishawlaw04_StampSums.j0 (20009 + 1) a0 l1 a2 a3 false = some true
      simp only [trishawlaw04_StampSums.j0]
      rw [hF, e1, e2]
      simp only [Option.bind_some, if_true]
      rw [if_neg (by simp), if_pos (by omega), if_pos (by omega), w64 (x := a0 * lastV l1) (by omega), w64 (x := a0 * lastV l1 + 1) (by omega), if_pos (by omega), if_pos (by omega)]
      have hz : rd (tab a0 l1) 0 = 0 := by
        rw [rd_tab (by omega) (by omega)]
        exact (fewV_few (by omega) l1 0).unique (Few.zero (by omega) l1)
      rw [hz]
      show trishawlaw04_StampSums.j1 (20008 + 1) a0 a2 a3 (tab a0 l1) (a0 * lastV l1) false = some true
      have w2' : 0 ≤ a2 ∧ a2 ≤ 65535 := by simpa [Lit.wf, IntKind.min, IntKind.max, IntKind.signed, IntKind.bits] using w2
      have w3' : 0 ≤ a3 ∧ a3 ≤ 65535 := by simpa [Lit.wf, IntKind.min, IntKind.max, IntKind.signed, IntKind.bits] using w3
      obtain ⟨top, htop⟩ : ∃ top, a0 * lastV l1 = top := ⟨_, rfl⟩
      rw [htop] at ht htl ⊢
      have r2 := mod_range w2'.1 (show 0 ≤ top by omega)
      have r3 := mod_range w3'.1 (show 0 ≤ top by omega)
      have t2 := rd_tab (h := a0) (V := l1) r2.1 (by rw [htop]; exact r2.2)
      have t3 := rd_tab (h := a0) (V := l1) r3.1 (by rw [htop]; exact r3.2)
      simp only [trishawlaw04_StampSums.j1]
      rw [w64 (x := top + 1) (by omega), w64 (x := a2) (by omega), w64 (x := a3) (by omega)]
      generalize Int.tmod a2 (top + 1) = x at *
      generalize Int.tmod a3 (top + 1) = y at *
      have hs := few_sum (h := a0) (V := l1) (by omega) (a := x) (b := y)
      have lx := (fewV_few (h := a0) (by omega) l1 x).le (by omega)
      have ly := (fewV_few (h := a0) (by omega) l1 y).le (by omega)
      have gx := (fewV_few (h := a0) (by omega) l1 x).ge
      have gy := (fewV_few (h := a0) (by omega) l1 y).ge
      rw [t2, t3, if_neg (by simp), if_neg (by omega), w64 (x := x + y) (by omega)]
      by_cases c1 : x + y > top
      · rw [if_pos c1, hal2]
      · rw [if_neg c1, if_pos (by omega), if_pos (by omega)]
        by_cases c2 : fewV a0 l1 x < 0
        · rw [if_pos c2, hal2]
        · rw [if_neg c2, if_pos (by omega), if_pos (by omega)]
          by_cases c3 : fewV a0 l1 y < 0
          · rw [if_pos c3, hal2]
          · rw [if_neg c3, w64 (x := fewV a0 l1 x + fewV a0 l1 y) (by omega)]
            by_cases c4 : fewV a0 l1 x + fewV a0 l1 y > a0
            · rw [decide_eq_true c4, hal2]
            · rw [decide_eq_false c4]
              show trishawlaw04_StampSums.j2 (20007 + 1) (tab a0 l1) x y false = some true
              obtain ⟨s1, s2⟩ := hs (by omega) (by omega) (by omega)
              have t4 := rd_tab (h := a0) (V := l1) (a := x + y) (by omega) (by omega)
              simp only [trishawlaw04_StampSums.j2]
              rw [if_neg (by simp), w64 (x := x + y) (by omega), if_pos (by omega), if_pos (by omega), t4, if_pos (by omega), if_pos (by omega), if_pos (by omega), if_pos (by omega), if_pos (by omega), t2, t3, w64 (x := fewV a0 l1 x + fewV a0 l1 y) (by omega), if_pos s2, hal]
              rfl
    · rw [show (ticketErr a0 l1 != 0) = true by simp [c], halive]

end Go.Proofs.Ytcgblpjknkmoaaa.Pure
