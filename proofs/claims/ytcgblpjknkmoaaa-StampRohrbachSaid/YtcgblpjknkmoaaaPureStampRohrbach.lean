import Derived.Test.YtcgblpjknkmoaaaB10
import Derived.Test.YtcgblpjknkmoaaaEv4
namespace Go.Proofs.Ytcgblpjknkmoaaa.Pure
open Go.RowKit Go.Proofs.Ytcgblpjknkmoaaa.B Go.Proofs.YtcgblpjknkmoaaaW.PrintWords Go.Proofs.YtcgblpjknkmoaaaW.PrintLast

theorem tick1 {h : Int} (hh : 1 ≤ h ∧ h ≤ 6) : Tick h [1] := ⟨hh.1, hh.2, by simp, by simp, by simp [asc]⟩
theorem tick2 {h v : Int} (hh : 1 ≤ h ∧ h ≤ 6) (hv : 2 ≤ v ∧ v ≤ 200) : Tick h [1, v] := ⟨hh.1, hh.2, by simp, by simp, by simp [asc]; omega⟩
theorem range_of {h : Int} {V : List Int} (tk : Tick h V) {r : Int} (h2 : stamp_reach.f 10000 h V = some r) : rangeV h V = r := Option.some.inj ((reach_f tk 10000 (Nat.le_refl _)).symm.trans h2)
theorem q1 : rangeV 1 [1] = 1 := range_of (tick1 (by omega)) (by kernel_rfl)
theorem q1_2 : rangeV 1 [1, 2] = 2 := range_of (tick2 (by omega) (by omega)) (by kernel_rfl)
theorem b1_1 : stamp_Best.f 1 1 = some ([1], 1, 0) := by
  simp [stamp_Best.f, bestV, bestErr, bestGo, q1]
theorem s1 : valsOf 1 [1] = [2] := by simp [valsOf, valCnt, q1, valAt, lastV, rd, List.range_succ]
theorem b1_2 : stamp_Best.f 1 2 = some ([1, 2], 2, 0) := by
  simp [stamp_Best.f, bestV, bestErr, bestGo, s1, q1_2]
theorem p1 : stamp_Range.f 10000 1 [1, 2] = some (2, 0) := by
  rw [Range_f _ _ _ (Nat.le_refl _), (ticket_iff _ _).2 (tick2 (by omega) (by omega)), if_pos rfl, q1_2]
theorem q2 : rangeV 2 [1] = 2 := range_of (tick1 (by omega)) (by kernel_rfl)
theorem q2_2 : rangeV 2 [1, 2] = 4 := range_of (tick2 (by omega) (by omega)) (by kernel_rfl)
theorem q2_3 : rangeV 2 [1, 3] = 4 := range_of (tick2 (by omega) (by omega)) (by kernel_rfl)
theorem b2_1 : stamp_Best.f 2 1 = some ([1], 2, 0) := by
  simp [stamp_Best.f, bestV, bestErr, bestGo, q2]
theorem s2 : valsOf 2 [1] = [2, 3] := by simp [valsOf, valCnt, q2, valAt, lastV, rd, List.range_succ]
theorem b2_2 : stamp_Best.f 2 2 = some ([1, 2], 4, 0) := by
  simp [stamp_Best.f, bestV, bestErr, bestGo, s2, q2_2, q2_3]
theorem p2 : stamp_Range.f 10000 2 [1, 2] = some (4, 0) := by
  rw [Range_f _ _ _ (Nat.le_refl _), (ticket_iff _ _).2 (tick2 (by omega) (by omega)), if_pos rfl, q2_2]
theorem q3 : rangeV 3 [1] = 3 := range_of (tick1 (by omega)) (by kernel_rfl)
theorem q3_2 : rangeV 3 [1, 2] = 6 := range_of (tick2 (by omega) (by omega)) (by kernel_rfl)
theorem q3_3 : rangeV 3 [1, 3] = 7 := range_of (tick2 (by omega) (by omega)) (by kernel_rfl)
theorem q3_4 : rangeV 3 [1, 4] = 6 := range_of (tick2 (by omega) (by omega)) (by kernel_rfl)
theorem b3_1 : stamp_Best.f 3 1 = some ([1], 3, 0) := by
  simp [stamp_Best.f, bestV, bestErr, bestGo, q3]
theorem s3 : valsOf 3 [1] = [2, 3, 4] := by simp [valsOf, valCnt, q3, valAt, lastV, rd, List.range_succ]
theorem b3_2 : stamp_Best.f 3 2 = some ([1, 3], 7, 0) := by
  simp [stamp_Best.f, bestV, bestErr, bestGo, s3, q3_2, q3_3, q3_4]
theorem p3 : stamp_Range.f 10000 3 [1, 3] = some (7, 0) := by
  rw [Range_f _ _ _ (Nat.le_refl _), (ticket_iff _ _).2 (tick2 (by omega) (by omega)), if_pos rfl, q3_3]
theorem q4 : rangeV 4 [1] = 4 := range_of (tick1 (by omega)) (by kernel_rfl)
theorem q4_2 : rangeV 4 [1, 2] = 8 := range_of (tick2 (by omega) (by omega)) (by kernel_rfl)
theorem q4_3 : rangeV 4 [1, 3] = 10 := range_of (tick2 (by omega) (by omega)) (by kernel_rfl)
theorem q4_4 : rangeV 4 [1, 4] = 10 := range_of (tick2 (by omega) (by omega)) (by kernel_rfl)
theorem q4_5 : rangeV 4 [1, 5] = 8 := range_of (tick2 (by omega) (by omega)) (by kernel_rfl)
theorem b4_1 : stamp_Best.f 4 1 = some ([1], 4, 0) := by
  simp [stamp_Best.f, bestV, bestErr, bestGo, q4]
theorem s4 : valsOf 4 [1] = [2, 3, 4, 5] := by simp [valsOf, valCnt, q4, valAt, lastV, rd, List.range_succ]
theorem b4_2 : stamp_Best.f 4 2 = some ([1, 3], 10, 0) := by
  simp [stamp_Best.f, bestV, bestErr, bestGo, s4, q4_2, q4_3, q4_4, q4_5]
theorem p4 : stamp_Range.f 10000 4 [1, 3] = some (10, 0) := by
  rw [Range_f _ _ _ (Nat.le_refl _), (ticket_iff _ _).2 (tick2 (by omega) (by omega)), if_pos rfl, q4_3]
theorem q5 : rangeV 5 [1] = 5 := range_of (tick1 (by omega)) (by kernel_rfl)
theorem q5_2 : rangeV 5 [1, 2] = 10 := range_of (tick2 (by omega) (by omega)) (by kernel_rfl)
theorem q5_3 : rangeV 5 [1, 3] = 13 := range_of (tick2 (by omega) (by omega)) (by kernel_rfl)
theorem q5_4 : rangeV 5 [1, 4] = 14 := range_of (tick2 (by omega) (by omega)) (by kernel_rfl)
theorem q5_5 : rangeV 5 [1, 5] = 13 := range_of (tick2 (by omega) (by omega)) (by kernel_rfl)
theorem q5_6 : rangeV 5 [1, 6] = 10 := range_of (tick2 (by omega) (by omega)) (by kernel_rfl)
theorem b5_1 : stamp_Best.f 5 1 = some ([1], 5, 0) := by
  simp [stamp_Best.f, bestV, bestErr, bestGo, q5]
theorem s5 : valsOf 5 [1] = [2, 3, 4, 5, 6] := by simp [valsOf, valCnt, q5, valAt, lastV, rd, List.range_succ]
theorem b5_2 : stamp_Best.f 5 2 = some ([1, 4], 14, 0) := by
  simp [stamp_Best.f, bestV, bestErr, bestGo, s5, q5_2, q5_3, q5_4, q5_5, q5_6]
theorem p5 : stamp_Range.f 10000 5 [1, 4] = some (14, 0) := by
  rw [Range_f _ _ _ (Nat.le_refl _), (ticket_iff _ _).2 (tick2 (by omega) (by omega)), if_pos rfl, q5_4]
theorem q6 : rangeV 6 [1] = 6 := range_of (tick1 (by omega)) (by kernel_rfl)
theorem q6_2 : rangeV 6 [1, 2] = 12 := range_of (tick2 (by omega) (by omega)) (by kernel_rfl)
theorem q6_3 : rangeV 6 [1, 3] = 16 := range_of (tick2 (by omega) (by omega)) (by kernel_rfl)
theorem q6_4 : rangeV 6 [1, 4] = 18 := range_of (tick2 (by omega) (by omega)) (by kernel_rfl)
theorem q6_5 : rangeV 6 [1, 5] = 18 := range_of (tick2 (by omega) (by omega)) (by kernel_rfl)
theorem q6_6 : rangeV 6 [1, 6] = 16 := range_of (tick2 (by omega) (by omega)) (by kernel_rfl)
theorem q6_7 : rangeV 6 [1, 7] = 12 := range_of (tick2 (by omega) (by omega)) (by kernel_rfl)
theorem b6_1 : stamp_Best.f 6 1 = some ([1], 6, 0) := by
  simp [stamp_Best.f, bestV, bestErr, bestGo, q6]
theorem s6 : valsOf 6 [1] = [2, 3, 4, 5, 6, 7] := by simp [valsOf, valCnt, q6, valAt, lastV, rd, List.range_succ]
theorem b6_2 : stamp_Best.f 6 2 = some ([1, 4], 18, 0) := by
  simp [stamp_Best.f, bestV, bestErr, bestGo, s6, q6_2, q6_3, q6_4, q6_5, q6_6, q6_7]
theorem p6 : stamp_Range.f 10000 6 [1, 4] = some (18, 0) := by
  rw [Range_f _ _ _ (Nat.le_refl _), (ticket_iff _ _).2 (tick2 (by omega) (by omega)), if_pos rfl, q6_4]
theorem StampRohrbach : trishawlaw04_StampRohrbach.Pure := by
  intro a0 hw
  refine ⟨10000, ?_⟩
  have h0 : 0 ≤ a0 ∧ a0 ≤ 255 := by simpa [Lit.wf, IntKind.min, IntKind.max, IntKind.signed, IntKind.bits] using hw
  have ht : Int.tmod a0 6 = a0 % 6 := Int.tmod_eq_emod_of_nonneg h0.1
  have hm : 0 ≤ a0 % 6 ∧ a0 % 6 < 6 := by omega
  have e1 : wrap64 (Int.tmod a0 6) = a0 % 6 := by rw [ht, w64 (by omega)]
  unfold trishawlaw04_StampRohrbach.f
  have hal : trishawlaw04_alive.f = some true := rfl
  rw [e1, hal]
  have hc : a0 % 6 = 0 ∨ a0 % 6 = 1 ∨ a0 % 6 = 2 ∨ a0 % 6 = 3 ∨ a0 % 6 = 4 ∨ a0 % 6 = 5 := by omega
  rcases hc with e | e | e | e | e | e <;> rw [e]
  · rw [show wrap64 (1 + 0) = 1 by kernel_rfl, b1_1, b1_2]
    simp only [Option.bind_some]
    rw [p1]
    rw [same_f _ _ (by simp) _ (by simp)]
    show (_ : Option Bool) = some true
    kernel_rfl
  · rw [show wrap64 (1 + 1) = 2 by kernel_rfl, b2_1, b2_2]
    simp only [Option.bind_some]
    rw [p2]
    rw [same_f _ _ (by simp) _ (by simp)]
    show (_ : Option Bool) = some true
    kernel_rfl
  · rw [show wrap64 (1 + 2) = 3 by kernel_rfl, b3_1, b3_2]
    simp only [Option.bind_some]
    rw [p3]
    rw [same_f _ _ (by simp) _ (by simp)]
    show (_ : Option Bool) = some true
    kernel_rfl
  · rw [show wrap64 (1 + 3) = 4 by kernel_rfl, b4_1, b4_2]
    simp only [Option.bind_some]
    rw [p4]
    rw [same_f _ _ (by simp) _ (by simp)]
    show (_ : Option Bool) = some true
    kernel_rfl
  · rw [show wrap64 (1 + 4) = 5 by kernel_rfl, b5_1, b5_2]
    simp only [Option.bind_some]
    rw [p5]
    rw [same_f _ _ (by simp) _ (by simp)]
    show (_ : Option Bool) = some true
    kernel_rfl
  · rw [show wrap64 (1 + 5) = 6 by kernel_rfl, b6_1, b6_2]
    simp only [Option.bind_some]
    rw [p6]
    rw [same_f _ _ (by simp) _ (by simp)]
    show (_ : Option Bool) = some true
    kernel_rfl
end Go.Proofs.Ytcgblpjknkmoaaa.Pure
