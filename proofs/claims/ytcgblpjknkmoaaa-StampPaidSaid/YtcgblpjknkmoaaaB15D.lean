-- written for this claim by a program of this session, a turned copy of the kit's print (GIVEN contracts); Lean checks it
import Derived.Test.YtcgblpjknkmoaaaB0
import Derived.Test.YtcgblpjknkmoaaaB3
import Derived.Test.YtcgblpjknkmoaaaB5
import Derived.Test.YtcgblpjknkmoaaaGAlive
import Derived.Test.YtcgblpjknkmoaaaGGreedy
import Derived.Test.YtcgblpjknkmoaaaGPay
import Derived.Test.YtcgblpjknkmoaaaGWays
namespace Go.Proofs.Ytcgblpjknkmoaaa.B
open Go.RowKit Go.Proofs.YtcgblpjknkmoaaaW.PrintWords Go.Proofs.YtcgblpjknkmoaaaW.PrintLast Go.Proofs.YtcgblpjknkmoaaaW.PrintMore
attribute [local go_sem] max2_int min2_int max_two min_two max_three min_three max_four min_four   -- for this text's walks alone
set_option linter.unusedVariables false
set_option linter.unusedSimpArgs false

/-! ### trishawlaw04_StampPaid: function 13 -/
mutual
def trishawlaw04_StampPaid.j0 : Nat → Int → List Int → Int → Bool → Option (Bool)
  | 0, _, _, _, _ => none
  | k + 1, x0, x1, x2, x29 => if x29 = true then ((trishawlaw04_alive.f).bind fun t436 => (some t436)) else (if 0 ≤ (wrap64 ((x1.length : Int) - 1)) then (if (wrap64 ((x1.length : Int) - 1)) < (x1.length : Int) then (if (wrap64 ((wrap64 (x0 * (rd x1 (wrap64 ((x1.length : Int) - 1))))) + 1)) = 0 then (none) else ((stamp_Pay.f x0 x1 (Int.tmod (wrap64 (x2)) (wrap64 ((wrap64 (x0 * (rd x1 (wrap64 ((x1.length : Int) - 1))))) + 1)))).bind fun bt438 => ((stamp_Fewest.f k x0 x1).bind fun bt442 => ((stamp_Ways.f x0 x1 (Int.tmod (wrap64 (x2)) (wrap64 ((wrap64 (x0 * (rd x1 (wrap64 ((x1.length : Int) - 1))))) + 1)))).bind fun bt446 => (if bt442.2 = 0 then (if bt446.2 = 0 then (if (bt442.1.length : Int) = (wrap64 ((wrap64 (x0 * (rd x1 (wrap64 ((x1.length : Int) - 1))))) + 1)) then (if 0 ≤ (Int.tmod (wrap64 (x2)) (wrap64 ((wrap64 (x0 * (rd x1 (wrap64 ((x1.length : Int) - 1))))) + 1))) then (if (Int.tmod (wrap64 (x2)) (wrap64 ((wrap64 (x0 * (rd x1 (wrap64 ((x1.length : Int) - 1))))) + 1))) < (bt442.1.length : Int) then (trishawlaw04_StampPaid.j1 k x0 x1 (wrap64 (x0 * (rd x1 (wrap64 ((x1.length : Int) - 1))))) (Int.tmod (wrap64 (x2)) (wrap64 ((wrap64 (x0 * (rd x1 (wrap64 ((x1.length : Int) - 1))))) + 1))) bt438.1 bt438.2 bt442.1 ((decide (bt446.1 > 0)) != (decide ((rd bt442.1 (Int.tmod (wrap64 (x2)) (wrap64 ((wrap64 (x0 * (rd x1 (wrap64 ((x1.length : Int) - 1))))) + 1)))) ≥ 0)))) else (none)) else (none)) else (trishawlaw04_StampPaid.j1 k x0 x1 (wrap64 (x0 * (rd x1 (wrap64 ((x1.length : Int) - 1))))) (Int.tmod (wrap64 (x2)) (wrap64 ((wrap64 (x0 * (rd x1 (wrap64 ((x1.length : Int) - 1))))) + 1))) bt438.1 bt438.2 bt442.1 true)) else (trishawlaw04_StampPaid.j1 k x0 x1 (wrap64 (x0 * (rd x1 (wrap64 ((x1.length : Int) - 1))))) (Int.tmod (wrap64 (x2)) (wrap64 ((wrap64 (x0 * (rd x1 (wrap64 ((x1.length : Int) - 1))))) + 1))) bt438.1 bt438.2 bt442.1 true)) else (trishawlaw04_StampPaid.j1 k x0 x1 (wrap64 (x0 * (rd x1 (wrap64 ((x1.length : Int) - 1))))) (Int.tmod (wrap64 (x2)) (wrap64 ((wrap64 (x0 * (rd x1 (wrap64 ((x1.length : Int) - 1))))) + 1))) bt438.1 bt438.2 bt442.1 true)))))) else (none)) else (none))
def trishawlaw04_StampPaid.j1 : Nat → Int → List Int → Int → Int → List Int → Int → List Int → Bool → Option (Bool)
  | 0, _, _, _, _, _, _, _, _ => none
  | k + 1, x0, x1, x7, x8, x9, x10, x11, x86 => if x86 = true then (some false) else (if x10 = 0 then (trishawlaw04_StampPaid.l0 k x0 x1 x7 x8 x9 x11 0 0) else (if x10 = 10 then (if 0 ≤ x8 then (if x8 < (x11.length : Int) then (if (rd x11 x8) = (-1) then (if (x9.length : Int) = 0 then ((trishawlaw04_alive.f).bind fun t450 => (some t450)) else (some false)) else (some false)) else (none)) else (none)) else (some false)))
def trishawlaw04_StampPaid.l0 : Nat → Int → List Int → Int → Int → List Int → List Int → Int → Int → Option (Bool)
  | 0, _, _, _, _, _, _, _, _ => none
  | k + 1, x0, x1, x7, x8, x9, x11, x15, x16 => if x16 < (x9.length : Int) then (if 0 ≤ x16 then ((trishawref04_In.f k x1 (rd x9 x16)).bind fun t452 => (if t452 = true then (if x16 > 0 then (if 0 ≤ (wrap64 (x16 - 1)) then (if (wrap64 (x16 - 1)) < (x9.length : Int) then (if (rd x9 x16) < (rd x9 (wrap64 (x16 - 1))) then (some false) else (trishawlaw04_StampPaid.l0 k x0 x1 x7 x8 x9 x11 (wrap64 (x15 + (rd x9 x16))) (wrap64 (x16 + 1)))) else (none)) else (none)) else (trishawlaw04_StampPaid.l0 k x0 x1 x7 x8 x9 x11 (wrap64 (x15 + (rd x9 x16))) (wrap64 (x16 + 1)))) else (some false))) else (none)) else (if x15 = x8 then (if 0 ≤ x8 then (if x8 < (x11.length : Int) then (if (x9.length : Int) = (rd x11 x8) then (trishawlaw04_StampPaid.j3 k x0 x1 x7 x8 x11 (decide ((x9.length : Int) > x0))) else (trishawlaw04_StampPaid.j3 k x0 x1 x7 x8 x11 true)) else (none)) else (none)) else (trishawlaw04_StampPaid.j3 k x0 x1 x7 x8 x11 true))
def trishawlaw04_StampPaid.j3 : Nat → Int → List Int → Int → Int → List Int → Bool → Option (Bool)
  | 0, _, _, _, _, _, _ => none
  | k + 1, x0, x1, x7, x8, x11, x158 => if x158 = true then (some false) else ((stamp_Greedy.f x0 x1).bind fun bt458 => (if bt458.2 = 0 then (if bt458.1 < 1 then (trishawlaw04_StampPaid.j4 k x0 x1 x8 bt458.2 bt458.1 true) else (if bt458.1 > x7 then (trishawlaw04_StampPaid.j4 k x0 x1 x8 bt458.2 bt458.1 true) else (if 0 ≤ bt458.1 then (if bt458.1 < (x11.length : Int) then (trishawlaw04_StampPaid.j4 k x0 x1 x8 bt458.2 bt458.1 (decide ((rd x11 bt458.1) < 0))) else (none)) else (none)))) else (if bt458.2 = 10 then (trishawlaw04_StampPaid.j4 k x0 x1 x8 bt458.2 bt458.1 false) else (trishawlaw04_StampPaid.j4 k x0 x1 x8 bt458.2 bt458.1 true))))
def trishawlaw04_StampPaid.j4 : Nat → Int → List Int → Int → Int → Int → Bool → Option (Bool)
  | 0, _, _, _, _, _, _ => none
  | k + 1, x0, x1, x8, x10, x17, x190 => if x190 = true then (some false) else (if x10 = 0 then (trishawlaw04_StampPaid.j5 k x0 x1 x8 (decide (x8 ≥ x17))) else (trishawlaw04_StampPaid.j5 k x0 x1 x8 false))
def trishawlaw04_StampPaid.j5 : Nat → Int → List Int → Int → Bool → Option (Bool)
  | 0, _, _, _, _ => none
  | k + 1, x0, x1, x8, x197 => if x197 = true then ((trishawlaw04_alive.f).bind fun t461 => (some t461)) else (trishawlaw04_StampPaid.l1 k x0 x1 0 x8 (wrap64 ((x1.length : Int) - 1)))
def trishawlaw04_StampPaid.l1 : Nat → Int → List Int → Int → Int → Int → Option (Bool)
  | 0, _, _, _, _, _ => none
  | k + 1, x0, x1, x18, x19, x20 => if x20 ≥ 0 then (if 0 ≤ x20 then (if x20 < (x1.length : Int) then (if (rd x1 x20) = 0 then (none) else (trishawlaw04_StampPaid.l1 k x0 x1 (wrap64 (x18 + (wrap64 (Int.tdiv x19 (rd x1 x20))))) (Int.tmod x19 (rd x1 x20)) (wrap64 (x20 - 1)))) else (none)) else (none)) else (if x19 = 0 then (if x18 ≤ x0 then ((trishawlaw04_alive.f).bind fun t464 => (some t464)) else (some false)) else (some false))
end
def trishawlaw04_StampPaid.f (k : Nat) (a0 : Int) (l1 : List Int) (a2 : Int) : Option (Bool) := if (l1.length : Int) > 30 then (trishawlaw04_StampPaid.j0 k a0 l1 a2 true) else ((trishawref04_Ticket.f k a0 l1).bind fun t435 => (trishawlaw04_StampPaid.j0 k a0 l1 a2 (t435 != 0)))
theorem trishawlaw04_StampPaid.mono_l : ∀ k, (∀ y0 y1 y2 y3, LeO (trishawlaw04_StampPaid.j0 k y0 y1 y2 y3) (trishawlaw04_StampPaid.j0 (k + 1) y0 y1 y2 y3)) ∧ (∀ y0 y1 y2 y3 y4 y5 y6 y7, LeO (trishawlaw04_StampPaid.j1 k y0 y1 y2 y3 y4 y5 y6 y7) (trishawlaw04_StampPaid.j1 (k + 1) y0 y1 y2 y3 y4 y5 y6 y7)) ∧ (∀ y0 y1 y2 y3 y4 y5 y6 y7, LeO (trishawlaw04_StampPaid.l0 k y0 y1 y2 y3 y4 y5 y6 y7) (trishawlaw04_StampPaid.l0 (k + 1) y0 y1 y2 y3 y4 y5 y6 y7)) ∧ (∀ y0 y1 y2 y3 y4 y5, LeO (trishawlaw04_StampPaid.j3 k y0 y1 y2 y3 y4 y5) (trishawlaw04_StampPaid.j3 (k + 1) y0 y1 y2 y3 y4 y5)) ∧ (∀ y0 y1 y2 y3 y4 y5, LeO (trishawlaw04_StampPaid.j4 k y0 y1 y2 y3 y4 y5) (trishawlaw04_StampPaid.j4 (k + 1) y0 y1 y2 y3 y4 y5)) ∧ (∀ y0 y1 y2 y3, LeO (trishawlaw04_StampPaid.j5 k y0 y1 y2 y3) (trishawlaw04_StampPaid.j5 (k + 1) y0 y1 y2 y3)) ∧ (∀ y0 y1 y2 y3 y4, LeO (trishawlaw04_StampPaid.l1 k y0 y1 y2 y3 y4) (trishawlaw04_StampPaid.l1 (k + 1) y0 y1 y2 y3 y4))
  | 0 => ⟨fun _ _ _ _ r h => by simp [trishawlaw04_StampPaid.j0] at h, fun _ _ _ _ _ _ _ _ r h => by simp [trishawlaw04_StampPaid.j1] at h, fun _ _ _ _ _ _ _ _ r h => by simp [trishawlaw04_StampPaid.l0] at h, fun _ _ _ _ _ _ r h => by simp [trishawlaw04_StampPaid.j3] at h, fun _ _ _ _ _ _ r h => by simp [trishawlaw04_StampPaid.j4] at h, fun _ _ _ _ r h => by simp [trishawlaw04_StampPaid.j5] at h, fun _ _ _ _ _ r h => by simp [trishawlaw04_StampPaid.l1] at h⟩
  | k + 1 => by
    obtain ⟨ih0, ih1, ih2, ih3, ih4, ih5, ih6⟩ := trishawlaw04_StampPaid.mono_l k
    refine ⟨?_, ?_, ?_, ?_, ?_, ?_, ?_⟩
    · intro y0 y1 y2 y3
      unfold trishawlaw04_StampPaid.j0
      repeat' first
      | (with_reducible exact ih0 _ _ _ _)
      | (with_reducible exact ih1 _ _ _ _ _ _ _ _)
      | (with_reducible exact ih2 _ _ _ _ _ _ _ _)
      | (with_reducible exact ih3 _ _ _ _ _ _)
      | (with_reducible exact ih4 _ _ _ _ _ _)
      | (with_reducible exact ih5 _ _ _ _)
      | (with_reducible exact ih6 _ _ _ _ _)
      | (with_reducible exact stamp_Fewest.mono _ _ _)
      | (with_reducible exact trishawref04_In.mono _ _ _)
      | (with_reducible exact trishawref04_Ticket.mono _ _ _)
      | (with_reducible exact LeO.refl _)
      | (with_reducible exact LeO.none _)
      | (with_reducible refine LeO.ite ?_ ?_)
      | (with_reducible refine LeO.bind ?_ (fun _ => ?_))
      | exact ih0 _ _ _ _
      | exact ih1 _ _ _ _ _ _ _ _
      | exact ih2 _ _ _ _ _ _ _ _
      | exact ih3 _ _ _ _ _ _
      | exact ih4 _ _ _ _ _ _
      | exact ih5 _ _ _ _
      | exact ih6 _ _ _ _ _
      | exact stamp_Fewest.mono _ _ _
      | exact trishawref04_In.mono _ _ _
      | exact trishawref04_Ticket.mono _ _ _
      | exact LeO.none _
      | refine LeO.ite ?_ ?_
      | refine LeO.bind ?_ (fun _ => ?_)
    · intro y0 y1 y2 y3 y4 y5 y6 y7
      unfold trishawlaw04_StampPaid.j1
      repeat' first
      | (with_reducible exact ih0 _ _ _ _)
      | (with_reducible exact ih1 _ _ _ _ _ _ _ _)
      | (with_reducible exact ih2 _ _ _ _ _ _ _ _)
      | (with_reducible exact ih3 _ _ _ _ _ _)
      | (with_reducible exact ih4 _ _ _ _ _ _)
      | (with_reducible exact ih5 _ _ _ _)
      | (with_reducible exact ih6 _ _ _ _ _)
      | (with_reducible exact stamp_Fewest.mono _ _ _)
      | (with_reducible exact trishawref04_In.mono _ _ _)
      | (with_reducible exact trishawref04_Ticket.mono _ _ _)
      | (with_reducible exact LeO.refl _)
      | (with_reducible exact LeO.none _)
      | (with_reducible refine LeO.ite ?_ ?_)
      | (with_reducible refine LeO.bind ?_ (fun _ => ?_))
      | exact ih0 _ _ _ _
      | exact ih1 _ _ _ _ _ _ _ _
      | exact ih2 _ _ _ _ _ _ _ _
      | exact ih3 _ _ _ _ _ _
      | exact ih4 _ _ _ _ _ _
      | exact ih5 _ _ _ _
      | exact ih6 _ _ _ _ _
      | exact stamp_Fewest.mono _ _ _
      | exact trishawref04_In.mono _ _ _
      | exact trishawref04_Ticket.mono _ _ _
      | exact LeO.none _
      | refine LeO.ite ?_ ?_
      | refine LeO.bind ?_ (fun _ => ?_)
    · intro y0 y1 y2 y3 y4 y5 y6 y7
      unfold trishawlaw04_StampPaid.l0
      repeat' first
      | (with_reducible exact ih0 _ _ _ _)
      | (with_reducible exact ih1 _ _ _ _ _ _ _ _)
      | (with_reducible exact ih2 _ _ _ _ _ _ _ _)
      | (with_reducible exact ih3 _ _ _ _ _ _)
      | (with_reducible exact ih4 _ _ _ _ _ _)
      | (with_reducible exact ih5 _ _ _ _)
      | (with_reducible exact ih6 _ _ _ _ _)
      | (with_reducible exact stamp_Fewest.mono _ _ _)
      | (with_reducible exact trishawref04_In.mono _ _ _)
      | (with_reducible exact trishawref04_Ticket.mono _ _ _)
      | (with_reducible exact LeO.refl _)
      | (with_reducible exact LeO.none _)
      | (with_reducible refine LeO.ite ?_ ?_)
      | (with_reducible refine LeO.bind ?_ (fun _ => ?_))
      | exact ih0 _ _ _ _
      | exact ih1 _ _ _ _ _ _ _ _
      | exact ih2 _ _ _ _ _ _ _ _
      | exact ih3 _ _ _ _ _ _
      | exact ih4 _ _ _ _ _ _
      | exact ih5 _ _ _ _
      | exact ih6 _ _ _ _ _
      | exact stamp_Fewest.mono _ _ _
      | exact trishawref04_In.mono _ _ _
      | exact trishawref04_Ticket.mono _ _ _
      | exact LeO.none _
      | refine LeO.ite ?_ ?_
      | refine LeO.bind ?_ (fun _ => ?_)
    · intro y0 y1 y2 y3 y4 y5
      unfold trishawlaw04_StampPaid.j3
      repeat' first
      | (with_reducible exact ih0 _ _ _ _)
      | (with_reducible exact ih1 _ _ _ _ _ _ _ _)
      | (with_reducible exact ih2 _ _ _ _ _ _ _ _)
      | (with_reducible exact ih3 _ _ _ _ _ _)
      | (with_reducible exact ih4 _ _ _ _ _ _)
      | (with_reducible exact ih5 _ _ _ _)
      | (with_reducible exact ih6 _ _ _ _ _)
      | (with_reducible exact stamp_Fewest.mono _ _ _)
      | (with_reducible exact trishawref04_In.mono _ _ _)
      | (with_reducible exact trishawref04_Ticket.mono _ _ _)
      | (with_reducible exact LeO.refl _)
      | (with_reducible exact LeO.none _)
      | (with_reducible refine LeO.ite ?_ ?_)
      | (with_reducible refine LeO.bind ?_ (fun _ => ?_))
      | exact ih0 _ _ _ _
      | exact ih1 _ _ _ _ _ _ _ _
      | exact ih2 _ _ _ _ _ _ _ _
      | exact ih3 _ _ _ _ _ _
      | exact ih4 _ _ _ _ _ _
      | exact ih5 _ _ _ _
      | exact ih6 _ _ _ _ _
      | exact stamp_Fewest.mono _ _ _
      | exact trishawref04_In.mono _ _ _
      | exact trishawref04_Ticket.mono _ _ _
      | exact LeO.none _
      | refine LeO.ite ?_ ?_
      | refine LeO.bind ?_ (fun _ => ?_)
    · intro y0 y1 y2 y3 y4 y5
      unfold trishawlaw04_StampPaid.j4
      repeat' first
      | (with_reducible exact ih0 _ _ _ _)
      | (with_reducible exact ih1 _ _ _ _ _ _ _ _)
      | (with_reducible exact ih2 _ _ _ _ _ _ _ _)
      | (with_reducible exact ih3 _ _ _ _ _ _)
      | (with_reducible exact ih4 _ _ _ _ _ _)
      | (with_reducible exact ih5 _ _ _ _)
      | (with_reducible exact ih6 _ _ _ _ _)
      | (with_reducible exact stamp_Fewest.mono _ _ _)
      | (with_reducible exact trishawref04_In.mono _ _ _)
      | (with_reducible exact trishawref04_Ticket.mono _ _ _)
      | (with_reducible exact LeO.refl _)
      | (with_reducible exact LeO.none _)
      | (with_reducible refine LeO.ite ?_ ?_)
      | (with_reducible refine LeO.bind ?_ (fun _ => ?_))
      | exact ih0 _ _ _ _
      | exact ih1 _ _ _ _ _ _ _ _
      | exact ih2 _ _ _ _ _ _ _ _
      | exact ih3 _ _ _ _ _ _
      | exact ih4 _ _ _ _ _ _
      | exact ih5 _ _ _ _
      | exact ih6 _ _ _ _ _
      | exact stamp_Fewest.mono _ _ _
      | exact trishawref04_In.mono _ _ _
      | exact trishawref04_Ticket.mono _ _ _
      | exact LeO.none _
      | refine LeO.ite ?_ ?_
      | refine LeO.bind ?_ (fun _ => ?_)
    · intro y0 y1 y2 y3
      unfold trishawlaw04_StampPaid.j5
      repeat' first
      | (with_reducible exact ih0 _ _ _ _)
      | (with_reducible exact ih1 _ _ _ _ _ _ _ _)
      | (with_reducible exact ih2 _ _ _ _ _ _ _ _)
      | (with_reducible exact ih3 _ _ _ _ _ _)
      | (with_reducible exact ih4 _ _ _ _ _ _)
      | (with_reducible exact ih5 _ _ _ _)
      | (with_reducible exact ih6 _ _ _ _ _)
      | (with_reducible exact stamp_Fewest.mono _ _ _)
      | (with_reducible exact trishawref04_In.mono _ _ _)
      | (with_reducible exact trishawref04_Ticket.mono _ _ _)
      | (with_reducible exact LeO.refl _)
      | (with_reducible exact LeO.none _)
      | (with_reducible refine LeO.ite ?_ ?_)
      | (with_reducible refine LeO.bind ?_ (fun _ => ?_))
      | exact ih0 _ _ _ _
      | exact ih1 _ _ _ _ _ _ _ _
      | exact ih2 _ _ _ _ _ _ _ _
      | exact ih3 _ _ _ _ _ _
      | exact ih4 _ _ _ _ _ _
      | exact ih5 _ _ _ _
      | exact ih6 _ _ _ _ _
      | exact stamp_Fewest.mono _ _ _
      | exact trishawref04_In.mono _ _ _
      | exact trishawref04_Ticket.mono _ _ _
      | exact LeO.none _
      | refine LeO.ite ?_ ?_
      | refine LeO.bind ?_ (fun _ => ?_)
    · intro y0 y1 y2 y3 y4
      unfold trishawlaw04_StampPaid.l1
      repeat' first
      | (with_reducible exact ih0 _ _ _ _)
      | (with_reducible exact ih1 _ _ _ _ _ _ _ _)
      | (with_reducible exact ih2 _ _ _ _ _ _ _ _)
      | (with_reducible exact ih3 _ _ _ _ _ _)
      | (with_reducible exact ih4 _ _ _ _ _ _)
      | (with_reducible exact ih5 _ _ _ _)
      | (with_reducible exact ih6 _ _ _ _ _)
      | (with_reducible exact stamp_Fewest.mono _ _ _)
      | (with_reducible exact trishawref04_In.mono _ _ _)
      | (with_reducible exact trishawref04_Ticket.mono _ _ _)
      | (with_reducible exact LeO.refl _)
      | (with_reducible exact LeO.none _)
      | (with_reducible refine LeO.ite ?_ ?_)
      | (with_reducible refine LeO.bind ?_ (fun _ => ?_))
      | exact ih0 _ _ _ _
      | exact ih1 _ _ _ _ _ _ _ _
      | exact ih2 _ _ _ _ _ _ _ _
      | exact ih3 _ _ _ _ _ _
      | exact ih4 _ _ _ _ _ _
      | exact ih5 _ _ _ _
      | exact ih6 _ _ _ _ _
      | exact stamp_Fewest.mono _ _ _
      | exact trishawref04_In.mono _ _ _
      | exact trishawref04_Ticket.mono _ _ _
      | exact LeO.none _
      | refine LeO.ite ?_ ?_
      | refine LeO.bind ?_ (fun _ => ?_)
theorem trishawlaw04_StampPaid.mono : ∀ a0 a1 a2 k, LeO (trishawlaw04_StampPaid.f k a0 a1 a2) (trishawlaw04_StampPaid.f (k + 1) a0 a1 a2) := by
  intro a0 a1 a2 k
  obtain ⟨ih0, ih1, ih2, ih3, ih4, ih5, ih6⟩ := trishawlaw04_StampPaid.mono_l k
  unfold trishawlaw04_StampPaid.f
  repeat' first
      | (with_reducible exact ih0 _ _ _ _)
      | (with_reducible exact ih1 _ _ _ _ _ _ _ _)
      | (with_reducible exact ih2 _ _ _ _ _ _ _ _)
      | (with_reducible exact ih3 _ _ _ _ _ _)
      | (with_reducible exact ih4 _ _ _ _ _ _)
      | (with_reducible exact ih5 _ _ _ _)
      | (with_reducible exact ih6 _ _ _ _ _)
      | (with_reducible exact stamp_Fewest.mono _ _ _)
      | (with_reducible exact trishawref04_In.mono _ _ _)
      | (with_reducible exact trishawref04_Ticket.mono _ _ _)
      | (with_reducible exact LeO.refl _)
      | (with_reducible exact LeO.none _)
      | (with_reducible refine LeO.ite ?_ ?_)
      | (with_reducible refine LeO.bind ?_ (fun _ => ?_))
      | exact ih0 _ _ _ _
      | exact ih1 _ _ _ _ _ _ _ _
      | exact ih2 _ _ _ _ _ _ _ _
      | exact ih3 _ _ _ _ _ _
      | exact ih4 _ _ _ _ _ _
      | exact ih5 _ _ _ _
      | exact ih6 _ _ _ _ _
      | exact stamp_Fewest.mono _ _ _
      | exact trishawref04_In.mono _ _ _
      | exact trishawref04_Ticket.mono _ _ _
      | exact LeO.none _
      | refine LeO.ite ?_ ?_
      | refine LeO.bind ?_ (fun _ => ?_)
def trishawlaw04_StampPaid.Pure : Prop := ∀ (a0 : Int) (l1 : List Int) (a2 : Int), (Lit.int .i64 a0).wf = true → l1.length ≤ maxLen → l1.length * 8 ≤ 140737488351232 → (∀ x ∈ l1, (Lit.int .i64 x).wf = true) → (Lit.int .u16 a2).wf = true → ∃ k, trishawlaw04_StampPaid.f k a0 l1 a2 = some true

end Go.Proofs.Ytcgblpjknkmoaaa.B
