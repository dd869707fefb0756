-- written for this claim by a program of this session, a turned copy of the kit's print (GIVEN contracts); Lean checks it
import Derived.Test.YtcgblpjknkmoaaaB0
import Derived.Test.YtcgblpjknkmoaaaB3
import Derived.Test.YtcgblpjknkmoaaaB5
import Derived.Test.YtcgblpjknkmoaaaGAlive
namespace Go.Proofs.Ytcgblpjknkmoaaa.B
open Go.RowKit Go.Proofs.YtcgblpjknkmoaaaW.PrintWords Go.Proofs.YtcgblpjknkmoaaaW.PrintLast Go.Proofs.YtcgblpjknkmoaaaW.PrintMore
attribute [local go_sem] max2_int min2_int max_two min_two max_three min_three max_four min_four   -- for this text's walks alone
set_option linter.unusedVariables false
set_option linter.unusedSimpArgs false

/-! ### trishawlaw04_StampSums: function 11 -/
mutual
def trishawlaw04_StampSums.j0 : Nat → Int → List Int → Int → Int → Bool → Option (Bool)
  | 0, _, _, _, _, _ => none
  | k + 1, x0, x1, x2, x3, x22 => if x22 = true then ((trishawlaw04_alive.f).bind fun t403 => (some t403)) else ((stamp_Fewest.f k x0 x1).bind fun bt404 => (if 0 ≤ (wrap64 ((x1.length : Int) - 1)) then (if (wrap64 ((x1.length : Int) - 1)) < (x1.length : Int) then (if bt404.2 = 0 then (if (bt404.1.length : Int) = (wrap64 ((wrap64 (x0 * (rd x1 (wrap64 ((x1.length : Int) - 1))))) + 1)) then (if 0 < (bt404.1.length : Int) then (trishawlaw04_StampSums.j1 k x0 x2 x3 bt404.1 (wrap64 (x0 * (rd x1 (wrap64 ((x1.length : Int) - 1))))) ((rd bt404.1 0) != 0)) else (none)) else (trishawlaw04_StampSums.j1 k x0 x2 x3 bt404.1 (wrap64 (x0 * (rd x1 (wrap64 ((x1.length : Int) - 1))))) true)) else (trishawlaw04_StampSums.j1 k x0 x2 x3 bt404.1 (wrap64 (x0 * (rd x1 (wrap64 ((x1.length : Int) - 1))))) true)) else (none)) else (none)))
def trishawlaw04_StampSums.j1 : Nat → Int → Int → Int → List Int → Int → Bool → Option (Bool)
  | 0, _, _, _, _, _, _ => none
  | k + 1, x0, x2, x3, x9, x11, x52 => if x52 = true then (some false) else (if (wrap64 (x11 + 1)) = 0 then (none) else (if (wrap64 ((Int.tmod (wrap64 (x2)) (wrap64 (x11 + 1))) + (Int.tmod (wrap64 (x3)) (wrap64 (x11 + 1))))) > x11 then (trishawlaw04_StampSums.j2 k x9 (Int.tmod (wrap64 (x2)) (wrap64 (x11 + 1))) (Int.tmod (wrap64 (x3)) (wrap64 (x11 + 1))) true) else (if 0 ≤ (Int.tmod (wrap64 (x2)) (wrap64 (x11 + 1))) then (if (Int.tmod (wrap64 (x2)) (wrap64 (x11 + 1))) < (x9.length : Int) then (if (rd x9 (Int.tmod (wrap64 (x2)) (wrap64 (x11 + 1)))) < 0 then (trishawlaw04_StampSums.j2 k x9 (Int.tmod (wrap64 (x2)) (wrap64 (x11 + 1))) (Int.tmod (wrap64 (x3)) (wrap64 (x11 + 1))) true) else (if 0 ≤ (Int.tmod (wrap64 (x3)) (wrap64 (x11 + 1))) then (if (Int.tmod (wrap64 (x3)) (wrap64 (x11 + 1))) < (x9.length : Int) then (if (rd x9 (Int.tmod (wrap64 (x3)) (wrap64 (x11 + 1)))) < 0 then (trishawlaw04_StampSums.j2 k x9 (Int.tmod (wrap64 (x2)) (wrap64 (x11 + 1))) (Int.tmod (wrap64 (x3)) (wrap64 (x11 + 1))) true) else (trishawlaw04_StampSums.j2 k x9 (Int.tmod (wrap64 (x2)) (wrap64 (x11 + 1))) (Int.tmod (wrap64 (x3)) (wrap64 (x11 + 1))) (decide ((wrap64 ((rd x9 (Int.tmod (wrap64 (x2)) (wrap64 (x11 + 1)))) + (rd x9 (Int.tmod (wrap64 (x3)) (wrap64 (x11 + 1)))))) > x0)))) else (none)) else (none))) else (none)) else (none))))
def trishawlaw04_StampSums.j2 : Nat → List Int → Int → Int → Bool → Option (Bool)
  | 0, _, _, _, _ => none
  | k + 1, x9, x12, x13, x94 => if x94 = true then ((trishawlaw04_alive.f).bind fun t414 => (some t414)) else (if 0 ≤ (wrap64 (x12 + x13)) then (if (wrap64 (x12 + x13)) < (x9.length : Int) then (if (rd x9 (wrap64 (x12 + x13))) ≥ 0 then (if 0 ≤ x12 then (if x12 < (x9.length : Int) then (if 0 ≤ x13 then (if x13 < (x9.length : Int) then (if (rd x9 (wrap64 (x12 + x13))) ≤ (wrap64 ((rd x9 x12) + (rd x9 x13))) then ((trishawlaw04_alive.f).bind fun t419 => (some t419)) else (some false)) else (none)) else (none)) else (none)) else (none)) else (some false)) else (none)) else (none))
end
def trishawlaw04_StampSums.f (k : Nat) (a0 : Int) (l1 : List Int) (a2 : Int) (a3 : Int) : Option (Bool) := if (l1.length : Int) > 30 then (trishawlaw04_StampSums.j0 k a0 l1 a2 a3 true) else ((trishawref04_Ticket.f k a0 l1).bind fun t402 => (trishawlaw04_StampSums.j0 k a0 l1 a2 a3 (t402 != 0)))
theorem trishawlaw04_StampSums.mono_l : ∀ k, (∀ y0 y1 y2 y3 y4, LeO (trishawlaw04_StampSums.j0 k y0 y1 y2 y3 y4) (trishawlaw04_StampSums.j0 (k + 1) y0 y1 y2 y3 y4)) ∧ (∀ y0 y1 y2 y3 y4 y5, LeO (trishawlaw04_StampSums.j1 k y0 y1 y2 y3 y4 y5) (trishawlaw04_StampSums.j1 (k + 1) y0 y1 y2 y3 y4 y5)) ∧ (∀ y0 y1 y2 y3, LeO (trishawlaw04_StampSums.j2 k y0 y1 y2 y3) (trishawlaw04_StampSums.j2 (k + 1) y0 y1 y2 y3))
  | 0 => ⟨fun _ _ _ _ _ r h => by simp [trishawlaw04_StampSums.j0] at h, fun _ _ _ _ _ _ r h => by simp [trishawlaw04_StampSums.j1] at h, fun _ _ _ _ r h => by simp [trishawlaw04_StampSums.j2] at h⟩
  | k + 1 => by
    obtain ⟨ih0, ih1, ih2⟩ := trishawlaw04_StampSums.mono_l k
    refine ⟨?_, ?_, ?_⟩
    · intro y0 y1 y2 y3 y4
      unfold trishawlaw04_StampSums.j0
      repeat' first
      | (with_reducible exact ih0 _ _ _ _ _)
      | (with_reducible exact ih1 _ _ _ _ _ _)
      | (with_reducible exact ih2 _ _ _ _)
      | (with_reducible exact stamp_Fewest.mono _ _ _)
      | (with_reducible exact trishawref04_Ticket.mono _ _ _)
      | (with_reducible exact LeO.refl _)
      | (with_reducible exact LeO.none _)
      | (with_reducible refine LeO.ite ?_ ?_)
      | (with_reducible refine LeO.bind ?_ (fun _ => ?_))
      | exact ih0 _ _ _ _ _
      | exact ih1 _ _ _ _ _ _
      | exact ih2 _ _ _ _
      | exact stamp_Fewest.mono _ _ _
      | exact trishawref04_Ticket.mono _ _ _
      | exact LeO.none _
      | refine LeO.ite ?_ ?_
      | refine LeO.bind ?_ (fun _ => ?_)
    · intro y0 y1 y2 y3 y4 y5
      unfold trishawlaw04_StampSums.j1
      repeat' first
      | (with_reducible exact ih0 _ _ _ _ _)
      | (with_reducible exact ih1 _ _ _ _ _ _)
      | (with_reducible exact ih2 _ _ _ _)
      | (with_reducible exact stamp_Fewest.mono _ _ _)
      | (with_reducible exact trishawref04_Ticket.mono _ _ _)
      | (with_reducible exact LeO.refl _)
      | (with_reducible exact LeO.none _)
      | (with_reducible refine LeO.ite ?_ ?_)
      | (with_reducible refine LeO.bind ?_ (fun _ => ?_))
      | exact ih0 _ _ _ _ _
      | exact ih1 _ _ _ _ _ _
      | exact ih2 _ _ _ _
      | exact stamp_Fewest.mono _ _ _
      | exact trishawref04_Ticket.mono _ _ _
      | exact LeO.none _
      | refine LeO.ite ?_ ?_
      | refine LeO.bind ?_ (fun _ => ?_)
    · intro y0 y1 y2 y3
      unfold trishawlaw04_StampSums.j2
      repeat' first
      | (with_reducible exact ih0 _ _ _ _ _)
      | (with_reducible exact ih1 _ _ _ _ _ _)
      | (with_reducible exact ih2 _ _ _ _)
      | (with_reducible exact stamp_Fewest.mono _ _ _)
      | (with_reducible exact trishawref04_Ticket.mono _ _ _)
      | (with_reducible exact LeO.refl _)
      | (with_reducible exact LeO.none _)
      | (with_reducible refine LeO.ite ?_ ?_)
      | (with_reducible refine LeO.bind ?_ (fun _ => ?_))
      | exact ih0 _ _ _ _ _
      | exact ih1 _ _ _ _ _ _
      | exact ih2 _ _ _ _
      | exact stamp_Fewest.mono _ _ _
      | exact trishawref04_Ticket.mono _ _ _
      | exact LeO.none _
      | refine LeO.ite ?_ ?_
      | refine LeO.bind ?_ (fun _ => ?_)
theorem trishawlaw04_StampSums.mono : ∀ a0 a1 a2 a3 k, LeO (trishawlaw04_StampSums.f k a0 a1 a2 a3) (trishawlaw04_StampSums.f (k + 1) a0 a1 a2 a3) := by
  intro a0 a1 a2 a3 k
  obtain ⟨ih0, ih1, ih2⟩ := trishawlaw04_StampSums.mono_l k
  unfold trishawlaw04_StampSums.f
  repeat' first
      | (with_reducible exact ih0 _ _ _ _ _)
      | (with_reducible exact ih1 _ _ _ _ _ _)
      | (with_reducible exact ih2 _ _ _ _)
      | (with_reducible exact stamp_Fewest.mono _ _ _)
      | (with_reducible exact trishawref04_Ticket.mono _ _ _)
      | (with_reducible exact LeO.refl _)
      | (with_reducible exact LeO.none _)
      | (with_reducible refine LeO.ite ?_ ?_)
      | (with_reducible refine LeO.bind ?_ (fun _ => ?_))
      | exact ih0 _ _ _ _ _
      | exact ih1 _ _ _ _ _ _
      | exact ih2 _ _ _ _
      | exact stamp_Fewest.mono _ _ _
      | exact trishawref04_Ticket.mono _ _ _
      | exact LeO.none _
      | refine LeO.ite ?_ ?_
      | refine LeO.bind ?_ (fun _ => ?_)
def trishawlaw04_StampSums.Pure : Prop := ∀ (a0 : Int) (l1 : List Int) (a2 : Int) (a3 : Int), (Lit.int .i64 a0).wf = true → l1.length ≤ maxLen → l1.length * 8 ≤ 140737488351232 → (∀ x ∈ l1, (Lit.int .i64 x).wf = true) → (Lit.int .u16 a2).wf = true → (Lit.int .u16 a3).wf = true → ∃ k, trishawlaw04_StampSums.f k a0 l1 a2 a3 = some true

end Go.Proofs.Ytcgblpjknkmoaaa.B
