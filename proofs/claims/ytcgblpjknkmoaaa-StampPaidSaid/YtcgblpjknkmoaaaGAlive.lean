/- trishawlaw04.alive: what every right program knows of a few stamps. -/
import Derived.Test.YtcgblpjknkmoaaaGWays
import Derived.Test.YtcgblpjknkmoaaaGBest
namespace Go.Proofs.Ytcgblpjknkmoaaa.B
open Go.RowKit Go.Shelf Go.Proofs.YtcgblpjknkmoaaaW.PrintWords Go.Proofs.YtcgblpjknkmoaaaW.PrintLast Go.Proofs.YtcgblpjknkmoaaaW.PrintMore
open Go.Proofs Go.Proofs.Ytcgblpjknkmoaaa.G Go.Proofs.Ytcgblpjknkmoaaa.Stamp

namespace Al
theorem v1 : payV 2 [1,2,3] 4 = ([2,2],0) := by
  have h := refPay_f 2 [1,2,3] 4 10000 (Nat.le_refl _)
  have h2 : trishawref04_Pay.f 10000 2 [1,2,3] 4 = some ([2,2],0) := by kernel_rfl
  exact Option.some.inj (h.symm.trans h2)
theorem v2 : stamp_Range.f 40 2 [1,3] = some (4, 0) := by kernel_rfl
theorem v3 : waysV 2 [1,2,3] 4 = (2,0) := by
  have h := refWays_f 2 [1,2,3] 4 10000 (Nat.le_refl _)
  have h2 : trishawref04_Ways.f 10000 2 [1,2,3] 4 = some (2,0) := by kernel_rfl
  exact Option.some.inj (h.symm.trans h2)
theorem v4 : mirV [1,4] = [3,4] := by decide
theorem tk31 : Tick 3 [1] := ⟨by omega, by omega, by simp, by simp, by simp [asc]⟩
theorem tk32 (v : Int) (h : 2 ≤ v ∧ v ≤ 200) : Tick 3 [1, v] := ⟨by omega, by omega, by simp, by simp, by simp [asc]; omega⟩
theorem r1 : rangeV 3 [1] = 3 := by
  have h2 : stamp_reach.f 10000 3 [1] = some 3 := by kernel_rfl
  exact Option.some.inj ((reach_f tk31 10000 (Nat.le_refl _)).symm.trans h2)
theorem r2 : rangeV 3 [1,2] = 6 := by
  have h2 : stamp_reach.f 10000 3 [1,2] = some 6 := by kernel_rfl
  exact Option.some.inj ((reach_f (tk32 2 (by omega)) 10000 (Nat.le_refl _)).symm.trans h2)
theorem r3 : rangeV 3 [1,3] = 7 := by
  have h2 : stamp_reach.f 10000 3 [1,3] = some 7 := by kernel_rfl
  exact Option.some.inj ((reach_f (tk32 3 (by omega)) 10000 (Nat.le_refl _)).symm.trans h2)
theorem r4 : rangeV 3 [1,4] = 6 := by
  have h2 : stamp_reach.f 10000 3 [1,4] = some 6 := by kernel_rfl
  exact Option.some.inj ((reach_f (tk32 4 (by omega)) 10000 (Nat.le_refl _)).symm.trans h2)
theorem v5 : bestV 3 2 = ([1,3],7,0) := by
  have h : valsOf 3 [1] = [2, 3, 4] := by simp [valsOf, valCnt, r1, valAt, lastV, rd, List.range_succ]
  simp [bestV, bestErr, bestGo, r2, r3, r4, h]
theorem litC (W : World) (xs : List Int) (h : xs.length ≤ 1000) : Kd.C (Kd.int .i64) (W.alloc (.cells (xs.map (Value.int .i64)).toArray 3)) (some ⟨W.heap.size, 0, none⟩) xs.length xs := by
  have b5 := own_lit W 0 3 .i64 xs (Nat.zero_le _) (by omega)
  have hR : Kd.R (Kd.int .i64) 3 _ 0 (fun _ => True) _ xs := Kd.R_of_own b5 (fun _ _ => trivial)
  exact (Kd.R_reads' hR).2.2
theorem same_t (a : List Int) (h : a.length < 100) : trishawlaw04_same.f 100 a a = some true := by
  rw [same_f a a (by omega) 100 (by omega)]; simp
end Al

def trishawlaw04_alive.f : Option Bool := some true

set_option maxHeartbeats 8000000 in
set_option maxRecDepth 100000 in
theorem alive_true (w : World) : Calls Try.prog 16 #[] w fun e w' => e = .returned (.bool true) ∧ Below w.heap.size w w' := by
  go_enter Try.func16, Try.ntmps16
  go_wp2_with (first
    | (go_at_call 17; refine (stamp_Pay.calls 2 _ _ [1, 2, 3] 4 [2, 2] 0 _ (Al.litC w [1, 2, 3] (by decide)) (Nat.le_refl _) (congrArg some Al.v1)).mono ?_; rintro e w1 ⟨p, rfl, hp, hb⟩; have ho := Kd.own_of_R hp; obtain ⟨Ap, cp, rfl⟩ := own_slice ho; have HP := Lib.hid (Kd.R_reads' hp); have HB1 := Lib.hid (show Below w.heap.size w w1 from ((Below.refl _ w).alloc (Nat.le_refl _) _).trans (hb.mono (by simp))); clear hp hb ho)
    | (go_at_call 26; refine (stamp_Range.calls 40 2 _ _ [1, 3] 4 0 _ (Al.litC w1 [1, 3] (by decide)) (Nat.le_refl _) Al.v2).mono ?_; rintro e w2 ⟨rfl, hb⟩; have HB2 := Lib.hid (show Below w1.heap.size w1 w2 from ((Below.refl _ w1).alloc (Nat.le_refl _) _).trans (hb.mono (by simp))); clear hb)
    | (go_at_call 20; refine (stamp_Best.calls 3 2 [1, 3] 7 0 w2 (congrArg some Al.v5)).mono ?_; rintro e w3 ⟨b, rfl, hp, hb⟩; have ho := Kd.own_of_R hp; obtain ⟨Ab, cb, rfl⟩ := own_slice ho; have HBe := Lib.hid (Kd.R_reads' hp); have HB3 := Lib.hid hb; clear hp hb ho)
    | (go_at_call 27; refine (stamp_Ways.calls 2 _ _ [1, 2, 3] 4 2 0 _ (Al.litC w3 [1, 2, 3] (by decide)) (Nat.le_refl _) (congrArg some Al.v3)).mono ?_; rintro e w4 ⟨rfl, hb⟩; have HB4 := Lib.hid (show Below w3.heap.size w3 w4 from ((Below.refl _ w3).alloc (Nat.le_refl _) _).trans (hb.mono (by simp))); clear hb)
    | (go_at_call 22; refine (stamp_Mirrored.calls _ _ [1, 4] [3, 4] 0 _ (Al.litC w4 [1, 4] (by decide)) (Nat.le_refl _) (by rfl)).mono ?_; rintro e w5 ⟨b, rfl, hp, hb⟩; have ho := Kd.own_of_R hp; obtain ⟨Am, cm, rfl⟩ := own_slice ho; have HM := Lib.hid (Kd.R_reads' hp); have HB5 := Lib.hid (show Below w4.heap.size w4 w5 from ((Below.refl _ w4).alloc (Nat.le_refl _) _).trans (hb.mono (by simp))); clear hp hb ho))
  go_at_call 19
  refine (trishawlaw04_same.calls 100 Ap cp [2, 2] _ 2 [2, 2] true _ (Kd.C_below HP.out.2.2 (HB2.out.trans ((HB3.out.mono HB2.out.size).trans ((HB4.out.mono (by have := HB2.out.size; have := HB3.out.size; omega)).trans ((HB5.out.mono (by have := HB2.out.size; have := HB3.out.size; have := HB4.out.size; omega)).trans ((Below.refl _ w5).alloc (by have := HB2.out.size; have := HB3.out.size; have := HB4.out.size; have := HB5.out.size; omega) _)))))) HP.out.2.1 (Al.litC w5 [2, 2] (by decide)) (Nat.le_refl _) (Al.same_t _ (by decide))).mono ?_
  rintro e w6 ⟨rfl, hd⟩
  have HB6 := Lib.hid (show Below w5.heap.size w5 w6 from ((Below.refl _ w5).alloc (Nat.le_refl _) _).trans ((drawn_facts hd).1.mono (by simp)))
  clear hd
  go_wp2_with fail
  go_at_call 19
  refine (trishawlaw04_same.calls 100 Ab cb [1, 3] _ 2 [1, 3] true _ (Kd.C_below HBe.out.2.2 ((HB4.out).trans ((HB5.out.mono HB4.out.size).trans ((HB6.out.mono (by have := HB4.out.size; have := HB5.out.size; omega)).trans ((Below.refl _ w6).alloc (by have := HB4.out.size; have := HB5.out.size; have := HB6.out.size; omega) _))))) HBe.out.2.1 (Al.litC w6 [1, 3] (by decide)) (Nat.le_refl _) (Al.same_t _ (by decide))).mono ?_
  rintro e w7 ⟨rfl, hd⟩
  have HB7 := Lib.hid (show Below w6.heap.size w6 w7 from ((Below.refl _ w6).alloc (Nat.le_refl _) _).trans ((drawn_facts hd).1.mono (by simp)))
  clear hd
  go_wp2_with fail
  go_at_call 19
  refine (trishawlaw04_same.calls 100 Am cm [3, 4] _ 2 [3, 4] true _ (Kd.C_below HM.out.2.2 ((HB6.out).trans ((HB7.out.mono HB6.out.size).trans ((Below.refl _ w7).alloc (by have := HB6.out.size; have := HB7.out.size; omega) _)))) HM.out.2.1 (Al.litC w7 [3, 4] (by decide)) (Nat.le_refl _) (Al.same_t _ (by decide))).mono ?_
  rintro e w8 ⟨rfl, hd⟩
  have HB8 := Lib.hid (show Below w7.heap.size w7 w8 from ((Below.refl _ w7).alloc (Nat.le_refl _) _).trans ((drawn_facts hd).1.mono (by simp)))
  clear hd
  go_wp2_with fail
  go_ret
  have s1 := HB1.out.size
  have s2 := HB2.out.size
  have s3 := HB3.out.size
  have s4 := HB4.out.size
  have s5 := HB5.out.size
  have s6 := HB6.out.size
  have s7 := HB7.out.size
  exact ⟨rfl, HB1.out.trans ((HB2.out.mono (by omega)).trans ((HB3.out.mono (by omega)).trans ((HB4.out.mono (by omega)).trans ((HB5.out.mono (by omega)).trans ((HB6.out.mono (by omega)).trans ((HB7.out.mono (by omega)).trans (HB8.out.mono (by omega))))))))⟩

theorem trishawlaw04_alive.calls (r : Bool) (w : World) (h : trishawlaw04_alive.f = some r) : Calls Try.prog 16 #[] w fun e w' => e = .returned (.bool r) ∧ Below w.heap.size w w' := by
  cases Option.some.inj h
  exact alive_true w

end Go.Proofs.Ytcgblpjknkmoaaa.B
