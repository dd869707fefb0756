-- written for this claim by a program of this session, a turned copy of the kit's print (GIVEN contracts); Lean checks it
import Derived.Test.YtcgblpjknkmoaaaB0
import Derived.Test.YtcgblpjknkmoaaaB3
import Derived.Test.YtcgblpjknkmoaaaB5
import Derived.Test.YtcgblpjknkmoaaaGAlive
import Derived.Test.YtcgblpjknkmoaaaGWith
namespace Go.Proofs.Ytcgblpjknkmoaaa.B
open Go.RowKit Go.Proofs.YtcgblpjknkmoaaaW.PrintWords Go.Proofs.YtcgblpjknkmoaaaW.PrintLast Go.Proofs.YtcgblpjknkmoaaaW.PrintMore
attribute [local go_sem] max2_int min2_int max_two min_two max_three min_three max_four min_four   -- for this text's walks alone
set_option linter.unusedVariables false
set_option linter.unusedSimpArgs false

/-! ### trishawlaw04_StampMore: function 10 -/
mutual
def trishawlaw04_StampMore.j0 : Nat → Int → List Int → Int → Bool → Option (Bool)
  | 0, _, _, _, _ => none
  | k + 1, x0, x1, x2, x30 => if x30 = true then ((trishawlaw04_alive.f).bind fun t360 => (some t360)) else ((stamp_Range.f k x0 x1).bind fun bt361 => ((stamp_Fewest.f k x0 x1).bind fun bt363 => (if bt361.2 = 0 then (if bt363.2 = 0 then (if (x1.length : Int) > 1 then (if 1 < (x1.length : Int) then (if (rd x1 1) > (wrap64 (x0 + 1)) then (trishawlaw04_StampMore.j1 k x0 x1 x2 bt361.1 bt363.1 (decide (bt361.1 > x0))) else (trishawlaw04_StampMore.j1 k x0 x1 x2 bt361.1 bt363.1 false)) else (none)) else (trishawlaw04_StampMore.j1 k x0 x1 x2 bt361.1 bt363.1 false)) else (trishawlaw04_StampMore.j1 k x0 x1 x2 bt361.1 bt363.1 true)) else (trishawlaw04_StampMore.j1 k x0 x1 x2 bt361.1 bt363.1 true))))
def trishawlaw04_StampMore.j1 : Nat → Int → List Int → Int → Int → List Int → Bool → Option (Bool)
  | 0, _, _, _, _, _, _ => none
  | k + 1, x0, x1, x2, x7, x9, x67 => if x67 = true then (some false) else (if (x1.length : Int) < 6 then ((trishawref04_In.f k x1 (wrap64 (1 + (Int.tmod (wrap64 (x2)) 200)))).bind fun t368 => (trishawlaw04_StampMore.j2 k x0 x1 x7 x9 (wrap64 (1 + (Int.tmod (wrap64 (x2)) 200))) (!t368))) else (trishawlaw04_StampMore.j2 k x0 x1 x7 x9 (wrap64 (1 + (Int.tmod (wrap64 (x2)) 200))) false))
def trishawlaw04_StampMore.j2 : Nat → Int → List Int → Int → List Int → Int → Bool → Option (Bool)
  | 0, _, _, _, _, _, _ => none
  | k + 1, x0, x1, x7, x9, x11, x80 => if x80 = true then ((trishawref04_With.f x1 x11).bind fun t369 => ((stamp_Range.f k x0 t369).bind fun bt372 => ((trishawref04_With.f x1 x11).bind fun t374 => ((stamp_Fewest.f k x0 t374).bind fun bt377 => (if bt372.2 = 0 then (if bt377.2 = 0 then (if bt372.1 < x7 then (trishawlaw04_StampMore.j3 k x0 x1 x7 x9 bt377.1 true) else (trishawlaw04_StampMore.j3 k x0 x1 x7 x9 bt377.1 (decide ((bt377.1.length : Int) < (x9.length : Int))))) else (trishawlaw04_StampMore.j3 k x0 x1 x7 x9 bt377.1 true)) else (trishawlaw04_StampMore.j3 k x0 x1 x7 x9 bt377.1 true)))))) else (trishawlaw04_StampMore.j5 k x0 x1 x7 x9)
def trishawlaw04_StampMore.j5 : Nat → Int → List Int → Int → List Int → Option (Bool)
  | 0, _, _, _, _ => none
  | k + 1, x0, x1, x7, x9 => if x0 = 6 then ((trishawlaw04_alive.f).bind fun t385 => (some t385)) else ((stamp_Range.f k (wrap64 (x0 + 1)) x1).bind fun bt386 => ((stamp_Fewest.f k (wrap64 (x0 + 1)) x1).bind fun bt388 => (if bt386.2 = 0 then (if bt388.2 = 0 then (if bt386.1 < x7 then (trishawlaw04_StampMore.j6 k x0 x9 bt388.1 true) else (trishawlaw04_StampMore.j6 k x0 x9 bt388.1 (decide ((bt388.1.length : Int) < (x9.length : Int))))) else (trishawlaw04_StampMore.j6 k x0 x9 bt388.1 true)) else (trishawlaw04_StampMore.j6 k x0 x9 bt388.1 true))))
def trishawlaw04_StampMore.j6 : Nat → Int → List Int → List Int → Bool → Option (Bool)
  | 0, _, _, _, _ => none
  | k + 1, x0, x9, x19, x178 => if x178 = true then (some false) else (trishawlaw04_StampMore.l1 k x0 x9 x19 0)
def trishawlaw04_StampMore.l1 : Nat → Int → List Int → List Int → Int → Option (Bool)
  | 0, _, _, _, _ => none
  | k + 1, x0, x9, x19, x21 => if x21 < (x9.length : Int) then (if 0 ≤ x21 then (if (rd x9 x21) ≥ 0 then (if x21 < (x19.length : Int) then (if (rd x19 x21) = (rd x9 x21) then (if (rd x9 x21) < 0 then (if (rd x19 x21) ≥ 0 then (if (rd x19 x21) = (wrap64 (x0 + 1)) then (trishawlaw04_StampMore.l1 k x0 x9 x19 (wrap64 (x21 + 1))) else (some false)) else (trishawlaw04_StampMore.l1 k x0 x9 x19 (wrap64 (x21 + 1)))) else (trishawlaw04_StampMore.l1 k x0 x9 x19 (wrap64 (x21 + 1)))) else (some false)) else (none)) else (if (rd x9 x21) < 0 then (if x21 < (x19.length : Int) then (if (rd x19 x21) ≥ 0 then (if (rd x19 x21) = (wrap64 (x0 + 1)) then (trishawlaw04_StampMore.l1 k x0 x9 x19 (wrap64 (x21 + 1))) else (some false)) else (trishawlaw04_StampMore.l1 k x0 x9 x19 (wrap64 (x21 + 1)))) else (none)) else (trishawlaw04_StampMore.l1 k x0 x9 x19 (wrap64 (x21 + 1))))) else (none)) else ((trishawlaw04_alive.f).bind fun t401 => (some t401))
def trishawlaw04_StampMore.j3 : Nat → Int → List Int → Int → List Int → List Int → Bool → Option (Bool)
  | 0, _, _, _, _, _, _ => none
  | k + 1, x0, x1, x7, x9, x14, x114 => if x114 = true then (some false) else (trishawlaw04_StampMore.l0 k x0 x1 x7 x9 x14 0)
def trishawlaw04_StampMore.l0 : Nat → Int → List Int → Int → List Int → List Int → Int → Option (Bool)
  | 0, _, _, _, _, _, _ => none
  | k + 1, x0, x1, x7, x9, x14, x16 => if x16 < (x9.length : Int) then (if 0 ≤ x16 then (if (rd x9 x16) ≥ 0 then (if x16 < (x14.length : Int) then (if (rd x14 x16) < 0 then (some false) else (if (rd x14 x16) > (rd x9 x16) then (some false) else (trishawlaw04_StampMore.l0 k x0 x1 x7 x9 x14 (wrap64 (x16 + 1))))) else (none)) else (trishawlaw04_StampMore.l0 k x0 x1 x7 x9 x14 (wrap64 (x16 + 1)))) else (none)) else (trishawlaw04_StampMore.j5 k x0 x1 x7 x9)
end
def trishawlaw04_StampMore.f (k : Nat) (a0 : Int) (l1 : List Int) (a2 : Int) : Option (Bool) := if (l1.length : Int) > 30 then (trishawlaw04_StampMore.j0 k a0 l1 a2 true) else ((trishawref04_Ticket.f k a0 l1).bind fun t359 => (trishawlaw04_StampMore.j0 k a0 l1 a2 (t359 != 0)))
theorem trishawlaw04_StampMore.mono_l : ∀ k, (∀ y0 y1 y2 y3, LeO (trishawlaw04_StampMore.j0 k y0 y1 y2 y3) (trishawlaw04_StampMore.j0 (k + 1) y0 y1 y2 y3)) ∧ (∀ y0 y1 y2 y3 y4 y5, LeO (trishawlaw04_StampMore.j1 k y0 y1 y2 y3 y4 y5) (trishawlaw04_StampMore.j1 (k + 1) y0 y1 y2 y3 y4 y5)) ∧ (∀ y0 y1 y2 y3 y4 y5, LeO (trishawlaw04_StampMore.j2 k y0 y1 y2 y3 y4 y5) (trishawlaw04_StampMore.j2 (k + 1) y0 y1 y2 y3 y4 y5)) ∧ (∀ y0 y1 y2 y3, LeO (trishawlaw04_StampMore.j5 k y0 y1 y2 y3) (trishawlaw04_StampMore.j5 (k + 1) y0 y1 y2 y3)) ∧ (∀ y0 y1 y2 y3, LeO (trishawlaw04_StampMore.j6 k y0 y1 y2 y3) (trishawlaw04_StampMore.j6 (k + 1) y0 y1 y2 y3)) ∧ (∀ y0 y1 y2 y3, LeO (trishawlaw04_StampMore.l1 k y0 y1 y2 y3) (trishawlaw04_StampMore.l1 (k + 1) y0 y1 y2 y3)) ∧ (∀ y0 y1 y2 y3 y4 y5, LeO (trishawlaw04_StampMore.j3 k y0 y1 y2 y3 y4 y5) (trishawlaw04_StampMore.j3 (k + 1) y0 y1 y2 y3 y4 y5)) ∧ (∀ y0 y1 y2 y3 y4 y5, LeO (trishawlaw04_StampMore.l0 k y0 y1 y2 y3 y4 y5) (trishawlaw04_StampMore.l0 (k + 1) y0 y1 y2 y3 y4 y5))
  | 0 => ⟨fun _ _ _ _ r h => by simp [trishawlaw04_StampMore.j0] at h, fun _ _ _ _ _ _ r h => by simp [trishawlaw04_StampMore.j1] at h, fun _ _ _ _ _ _ r h => by simp [trishawlaw04_StampMore.j2] at h, fun _ _ _ _ r h => by simp [trishawlaw04_StampMore.j5] at h, fun _ _ _ _ r h => by simp [trishawlaw04_StampMore.j6] at h, fun _ _ _ _ r h => by simp [trishawlaw04_StampMore.l1] at h, fun _ _ _ _ _ _ r h => by simp [trishawlaw04_StampMore.j3] at h, fun _ _ _ _ _ _ r h => by simp [trishawlaw04_StampMore.l0] at h⟩
  | k + 1 => by
    obtain ⟨ih0, ih1, ih2, ih3, ih4, ih5, ih6, ih7⟩ := trishawlaw04_StampMore.mono_l k
    refine ⟨?_, ?_, ?_, ?_, ?_, ?_, ?_, ?_⟩
    · intro y0 y1 y2 y3
      unfold trishawlaw04_StampMore.j0
      repeat' first
      | (with_reducible exact ih0 _ _ _ _)
      | (with_reducible exact ih1 _ _ _ _ _ _)
      | (with_reducible exact ih2 _ _ _ _ _ _)
      | (with_reducible exact ih3 _ _ _ _)
      | (with_reducible exact ih4 _ _ _ _)
      | (with_reducible exact ih5 _ _ _ _)
      | (with_reducible exact ih6 _ _ _ _ _ _)
      | (with_reducible exact ih7 _ _ _ _ _ _)
      | (with_reducible exact stamp_Fewest.mono _ _ _)
      | (with_reducible exact stamp_Range.mono _ _ _)
      | (with_reducible exact trishawref04_In.mono _ _ _)
      | (with_reducible exact trishawref04_Ticket.mono _ _ _)
      | (with_reducible exact LeO.refl _)
      | (with_reducible exact LeO.none _)
      | (with_reducible refine LeO.ite ?_ ?_)
      | (with_reducible refine LeO.bind ?_ (fun _ => ?_))
      | exact ih0 _ _ _ _
      | exact ih1 _ _ _ _ _ _
      | exact ih2 _ _ _ _ _ _
      | exact ih3 _ _ _ _
      | exact ih4 _ _ _ _
      | exact ih5 _ _ _ _
      | exact ih6 _ _ _ _ _ _
      | exact ih7 _ _ _ _ _ _
      | exact stamp_Fewest.mono _ _ _
      | exact stamp_Range.mono _ _ _
      | exact trishawref04_In.mono _ _ _
      | exact trishawref04_Ticket.mono _ _ _
      | exact LeO.none _
      | refine LeO.ite ?_ ?_
      | refine LeO.bind ?_ (fun _ => ?_)
    · intro y0 y1 y2 y3 y4 y5
      unfold trishawlaw04_StampMore.j1
      repeat' first
      | (with_reducible exact ih0 _ _ _ _)
      | (with_reducible exact ih1 _ _ _ _ _ _)
      | (with_reducible exact ih2 _ _ _ _ _ _)
      | (with_reducible exact ih3 _ _ _ _)
      | (with_reducible exact ih4 _ _ _ _)
      | (with_reducible exact ih5 _ _ _ _)
      | (with_reducible exact ih6 _ _ _ _ _ _)
      | (with_reducible exact ih7 _ _ _ _ _ _)
      | (with_reducible exact stamp_Fewest.mono _ _ _)
      | (with_reducible exact stamp_Range.mono _ _ _)
      | (with_reducible exact trishawref04_In.mono _ _ _)
      | (with_reducible exact trishawref04_Ticket.mono _ _ _)
      | (with_reducible exact LeO.refl _)
      | (with_reducible exact LeO.none _)
      | (with_reducible refine LeO.ite ?_ ?_)
      | (with_reducible refine LeO.bind ?_ (fun _ => ?_))
      | exact ih0 _ _ _ _
      | exact ih1 _ _ _ _ _ _
      | exact ih2 _ _ _ _ _ _
      | exact ih3 _ _ _ _
      | exact ih4 _ _ _ _
      | exact ih5 _ _ _ _
      | exact ih6 _ _ _ _ _ _
      | exact ih7 _ _ _ _ _ _
      | exact stamp_Fewest.mono _ _ _
      | exact stamp_Range.mono _ _ _
      | exact trishawref04_In.mono _ _ _
      | exact trishawref04_Ticket.mono _ _ _
      | exact LeO.none _
      | refine LeO.ite ?_ ?_
      | refine LeO.bind ?_ (fun _ => ?_)
    · intro y0 y1 y2 y3 y4 y5
      unfold trishawlaw04_StampMore.j2
      repeat' first
      | (with_reducible exact ih0 _ _ _ _)
      | (with_reducible exact ih1 _ _ _ _ _ _)
      | (with_reducible exact ih2 _ _ _ _ _ _)
      | (with_reducible exact ih3 _ _ _ _)
      | (with_reducible exact ih4 _ _ _ _)
      | (with_reducible exact ih5 _ _ _ _)
      | (with_reducible exact ih6 _ _ _ _ _ _)
      | (with_reducible exact ih7 _ _ _ _ _ _)
      | (with_reducible exact stamp_Fewest.mono _ _ _)
      | (with_reducible exact stamp_Range.mono _ _ _)
      | (with_reducible exact trishawref04_In.mono _ _ _)
      | (with_reducible exact trishawref04_Ticket.mono _ _ _)
      | (with_reducible exact LeO.refl _)
      | (with_reducible exact LeO.none _)
      | (with_reducible refine LeO.ite ?_ ?_)
      | (with_reducible refine LeO.bind ?_ (fun _ => ?_))
      | exact ih0 _ _ _ _
      | exact ih1 _ _ _ _ _ _
      | exact ih2 _ _ _ _ _ _
      | exact ih3 _ _ _ _
      | exact ih4 _ _ _ _
      | exact ih5 _ _ _ _
      | exact ih6 _ _ _ _ _ _
      | exact ih7 _ _ _ _ _ _
      | exact stamp_Fewest.mono _ _ _
      | exact stamp_Range.mono _ _ _
      | exact trishawref04_In.mono _ _ _
      | exact trishawref04_Ticket.mono _ _ _
      | exact LeO.none _
      | refine LeO.ite ?_ ?_
      | refine LeO.bind ?_ (fun _ => ?_)
    · intro y0 y1 y2 y3
      unfold trishawlaw04_StampMore.j5
      repeat' first
      | (with_reducible exact ih0 _ _ _ _)
      | (with_reducible exact ih1 _ _ _ _ _ _)
      | (with_reducible exact ih2 _ _ _ _ _ _)
      | (with_reducible exact ih3 _ _ _ _)
      | (with_reducible exact ih4 _ _ _ _)
      | (with_reducible exact ih5 _ _ _ _)
      | (with_reducible exact ih6 _ _ _ _ _ _)
      | (with_reducible exact ih7 _ _ _ _ _ _)
      | (with_reducible exact stamp_Fewest.mono _ _ _)
      | (with_reducible exact stamp_Range.mono _ _ _)
      | (with_reducible exact trishawref04_In.mono _ _ _)
      | (with_reducible exact trishawref04_Ticket.mono _ _ _)
      | (with_reducible exact LeO.refl _)
      | (with_reducible exact LeO.none _)
      | (with_reducible refine LeO.ite ?_ ?_)
      | (with_reducible refine LeO.bind ?_ (fun _ => ?_))
      | exact ih0 _ _ _ _
      | exact ih1 _ _ _ _ _ _
      | exact ih2 _ _ _ _ _ _
      | exact ih3 _ _ _ _
      | exact ih4 _ _ _ _
      | exact ih5 _ _ _ _
      | exact ih6 _ _ _ _ _ _
      | exact ih7 _ _ _ _ _ _
      | exact stamp_Fewest.mono _ _ _
      | exact stamp_Range.mono _ _ _
      | exact trishawref04_In.mono _ _ _
      | exact trishawref04_Ticket.mono _ _ _
      | exact LeO.none _
      | refine LeO.ite ?_ ?_
      | refine LeO.bind ?_ (fun _ => ?_)
    · intro y0 y1 y2 y3
      unfold trishawlaw04_StampMore.j6
      repeat' first
      | (with_reducible exact ih0 _ _ _ _)
      | (with_reducible exact ih1 _ _ _ _ _ _)
      | (with_reducible exact ih2 _ _ _ _ _ _)
      | (with_reducible exact ih3 _ _ _ _)
      | (with_reducible exact ih4 _ _ _ _)
      | (with_reducible exact ih5 _ _ _ _)
      | (with_reducible exact ih6 _ _ _ _ _ _)
      | (with_reducible exact ih7 _ _ _ _ _ _)
      | (with_reducible exact stamp_Fewest.mono _ _ _)
      | (with_reducible exact stamp_Range.mono _ _ _)
      | (with_reducible exact trishawref04_In.mono _ _ _)
      | (with_reducible exact trishawref04_Ticket.mono _ _ _)
      | (with_reducible exact LeO.refl _)
      | (with_reducible exact LeO.none _)
      | (with_reducible refine LeO.ite ?_ ?_)
      | (with_reducible refine LeO.bind ?_ (fun _ => ?_))
      | exact ih0 _ _ _ _
      | exact ih1 _ _ _ _ _ _
      | exact ih2 _ _ _ _ _ _
      | exact ih3 _ _ _ _
      | exact ih4 _ _ _ _
      | exact ih5 _ _ _ _
      | exact ih6 _ _ _ _ _ _
      | exact ih7 _ _ _ _ _ _
      | exact stamp_Fewest.mono _ _ _
      | exact stamp_Range.mono _ _ _
      | exact trishawref04_In.mono _ _ _
      | exact trishawref04_Ticket.mono _ _ _
      | exact LeO.none _
      | refine LeO.ite ?_ ?_
      | refine LeO.bind ?_ (fun _ => ?_)
    · intro y0 y1 y2 y3
      unfold trishawlaw04_StampMore.l1
      repeat' first
      | (with_reducible exact ih0 _ _ _ _)
      | (with_reducible exact ih1 _ _ _ _ _ _)
      | (with_reducible exact ih2 _ _ _ _ _ _)
      | (with_reducible exact ih3 _ _ _ _)
      | (with_reducible exact ih4 _ _ _ _)
      | (with_reducible exact ih5 _ _ _ _)
      | (with_reducible exact ih6 _ _ _ _ _ _)
      | (with_reducible exact ih7 _ _ _ _ _ _)
      | (with_reducible exact stamp_Fewest.mono _ _ _)
      | (with_reducible exact stamp_Range.mono _ _ _)
      | (with_reducible exact trishawref04_In.mono _ _ _)
      | (with_reducible exact trishawref04_Ticket.mono _ _ _)
      | (with_reducible exact LeO.refl _)
      | (with_reducible exact LeO.none _)
      | (with_reducible refine LeO.ite ?_ ?_)
      | (with_reducible refine LeO.bind ?_ (fun _ => ?_))
      | exact ih0 _ _ _ _
      | exact ih1 _ _ _ _ _ _
      | exact ih2 _ _ _ _ _ _
      | exact ih3 _ _ _ _
      | exact ih4 _ _ _ _
      | exact ih5 _ _ _ _
      | exact ih6 _ _ _ _ _ _
      | exact ih7 _ _ _ _ _ _
      | exact stamp_Fewest.mono _ _ _
      | exact stamp_Range.mono _ _ _
      | exact trishawref04_In.mono _ _ _
      | exact trishawref04_Ticket.mono _ _ _
      | exact LeO.none _
      | refine LeO.ite ?_ ?_
      | refine LeO.bind ?_ (fun _ => ?_)
    · intro y0 y1 y2 y3 y4 y5
      unfold trishawlaw04_StampMore.j3
      repeat' first
      | (with_reducible exact ih0 _ _ _ _)
      | (with_reducible exact ih1 _ _ _ _ _ _)
      | (with_reducible exact ih2 _ _ _ _ _ _)
      | (with_reducible exact ih3 _ _ _ _)
      | (with_reducible exact ih4 _ _ _ _)
      | (with_reducible exact ih5 _ _ _ _)
      | (with_reducible exact ih6 _ _ _ _ _ _)
      | (with_reducible exact ih7 _ _ _ _ _ _)
      | (with_reducible exact stamp_Fewest.mono _ _ _)
      | (with_reducible exact stamp_Range.mono _ _ _)
      | (with_reducible exact trishawref04_In.mono _ _ _)
      | (with_reducible exact trishawref04_Ticket.mono _ _ _)
      | (with_reducible exact LeO.refl _)
      | (with_reducible exact LeO.none _)
      | (with_reducible refine LeO.ite ?_ ?_)
      | (with_reducible refine LeO.bind ?_ (fun _ => ?_))
      | exact ih0 _ _ _ _
      | exact ih1 _ _ _ _ _ _
      | exact ih2 _ _ _ _ _ _
      | exact ih3 _ _ _ _
      | exact ih4 _ _ _ _
      | exact ih5 _ _ _ _
      | exact ih6 _ _ _ _ _ _
      | exact ih7 _ _ _ _ _ _
      | exact stamp_Fewest.mono _ _ _
      | exact stamp_Range.mono _ _ _
      | exact trishawref04_In.mono _ _ _
      | exact trishawref04_Ticket.mono _ _ _
      | exact LeO.none _
      | refine LeO.ite ?_ ?_
      | refine LeO.bind ?_ (fun _ => ?_)
    · intro y0 y1 y2 y3 y4 y5
      unfold trishawlaw04_StampMore.l0
      repeat' first
      | (with_reducible exact ih0 _ _ _ _)
      | (with_reducible exact ih1 _ _ _ _ _ _)
      | (with_reducible exact ih2 _ _ _ _ _ _)
      | (with_reducible exact ih3 _ _ _ _)
      | (with_reducible exact ih4 _ _ _ _)
      | (with_reducible exact ih5 _ _ _ _)
      | (with_reducible exact ih6 _ _ _ _ _ _)
      | (with_reducible exact ih7 _ _ _ _ _ _)
      | (with_reducible exact stamp_Fewest.mono _ _ _)
      | (with_reducible exact stamp_Range.mono _ _ _)
      | (with_reducible exact trishawref04_In.mono _ _ _)
      | (with_reducible exact trishawref04_Ticket.mono _ _ _)
      | (with_reducible exact LeO.refl _)
      | (with_reducible exact LeO.none _)
      | (with_reducible refine LeO.ite ?_ ?_)
      | (with_reducible refine LeO.bind ?_ (fun _ => ?_))
      | exact ih0 _ _ _ _
      | exact ih1 _ _ _ _ _ _
      | exact ih2 _ _ _ _ _ _
      | exact ih3 _ _ _ _
      | exact ih4 _ _ _ _
      | exact ih5 _ _ _ _
      | exact ih6 _ _ _ _ _ _
      | exact ih7 _ _ _ _ _ _
      | exact stamp_Fewest.mono _ _ _
      | exact stamp_Range.mono _ _ _
      | exact trishawref04_In.mono _ _ _
      | exact trishawref04_Ticket.mono _ _ _
      | exact LeO.none _
      | refine LeO.ite ?_ ?_
      | refine LeO.bind ?_ (fun _ => ?_)
theorem trishawlaw04_StampMore.mono : ∀ a0 a1 a2 k, LeO (trishawlaw04_StampMore.f k a0 a1 a2) (trishawlaw04_StampMore.f (k + 1) a0 a1 a2) := by
  intro a0 a1 a2 k
  obtain ⟨ih0, ih1, ih2, ih3, ih4, ih5, ih6, ih7⟩ := trishawlaw04_StampMore.mono_l k
  unfold trishawlaw04_StampMore.f
  repeat' first
      | (with_reducible exact ih0 _ _ _ _)
      | (with_reducible exact ih1 _ _ _ _ _ _)
      | (with_reducible exact ih2 _ _ _ _ _ _)
      | (with_reducible exact ih3 _ _ _ _)
      | (with_reducible exact ih4 _ _ _ _)
      | (with_reducible exact ih5 _ _ _ _)
      | (with_reducible exact ih6 _ _ _ _ _ _)
      | (with_reducible exact ih7 _ _ _ _ _ _)
      | (with_reducible exact stamp_Fewest.mono _ _ _)
      | (with_reducible exact stamp_Range.mono _ _ _)
      | (with_reducible exact trishawref04_In.mono _ _ _)
      | (with_reducible exact trishawref04_Ticket.mono _ _ _)
      | (with_reducible exact LeO.refl _)
      | (with_reducible exact LeO.none _)
      | (with_reducible refine LeO.ite ?_ ?_)
      | (with_reducible refine LeO.bind ?_ (fun _ => ?_))
      | exact ih0 _ _ _ _
      | exact ih1 _ _ _ _ _ _
      | exact ih2 _ _ _ _ _ _
      | exact ih3 _ _ _ _
      | exact ih4 _ _ _ _
      | exact ih5 _ _ _ _
      | exact ih6 _ _ _ _ _ _
      | exact ih7 _ _ _ _ _ _
      | exact stamp_Fewest.mono _ _ _
      | exact stamp_Range.mono _ _ _
      | exact trishawref04_In.mono _ _ _
      | exact trishawref04_Ticket.mono _ _ _
      | exact LeO.none _
      | refine LeO.ite ?_ ?_
      | refine LeO.bind ?_ (fun _ => ?_)
def trishawlaw04_StampMore.Pure : Prop := ∀ (a0 : Int) (l1 : List Int) (a2 : Int), (Lit.int .i64 a0).wf = true → l1.length ≤ maxLen → l1.length * 8 ≤ 140737488351232 → (∀ x ∈ l1, (Lit.int .i64 x).wf = true) → (Lit.int .u8 a2).wf = true → ∃ k, trishawlaw04_StampMore.f k a0 l1 a2 = some true

end Go.Proofs.Ytcgblpjknkmoaaa.B
