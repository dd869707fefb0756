-- written for this claim by a program of this session, a turned copy of the kit's print (GIVEN contracts); Lean checks it
import Derived.Test.YtcgblpjknkmoaaaB15D
import Derived.Test.YtcgblpjknkmoaaaB0
import Derived.Test.YtcgblpjknkmoaaaB3
import Derived.Test.YtcgblpjknkmoaaaB5
import Derived.Test.YtcgblpjknkmoaaaGAlive
import Derived.Test.YtcgblpjknkmoaaaGGreedy
import Derived.Test.YtcgblpjknkmoaaaGPay
import Derived.Test.YtcgblpjknkmoaaaGWays
namespace Go.Proofs.Ytcgblpjknkmoaaa.B
open Go.RowKit Go.Proofs.YtcgblpjknkmoaaaW.PrintWords Go.Proofs.YtcgblpjknkmoaaaW.PrintLast Go.Proofs.YtcgblpjknkmoaaaW.PrintMore
attribute [local go_sem] max2_int min2_int max_two min_two max_three min_three max_four min_four   -- for this text's walks alone
set_option linter.unusedVariables false
set_option linter.unusedSimpArgs false


set_option maxHeartbeats 8000000 in
set_option maxRecDepth 100000 in
theorem trishawlaw04_StampPaid.calls (k : Nat) (a0 : Int) (A1 : Option Addr) (c1 : Nat) (l1 : List Int) (a2 : Int) (r : Bool) (w : World) (hr1 : Kd.C (Kd.int .i64) w A1 l1.length l1) (hc1 : l1.length ≤ c1) (h : trishawlaw04_StampPaid.f k a0 l1 a2 = some r) :
    Calls Try.prog 13 #[.int .i64 a0, .slice A1 l1.length c1, .int .u16 a2] w fun e w' => e = .returned (.bool r) ∧ Below w.heap.size w w' := by
  have HR1 := Aside0.mk hr1
  have HC1 := Aside0.mk hc1
  clear hr1 hc1
  have HB := Aside0.mk (Below.refl w.heap.size w)
  have H : (if (l1.length : Int) > 30 then (trishawlaw04_StampPaid.j0 k a0 l1 a2 true) else ((trishawref04_Ticket.f k a0 l1).bind fun t435 => (trishawlaw04_StampPaid.j0 k a0 l1 a2 (t435 != 0)))) = some r := h
  clear h
  have HC4 := Aside0.mk H
  clear H
  go_enter Try.func13, Try.ntmps13
  go_upto_region 1 with (fail)
  repeat (go_quiet (fail); go_upto_region 1 with (fail))
  go_cut [29] (fun v29 wc => ∃ (kq : Nat) (x29_3 : Bool), v29 = .bool x29_3 ∧ Aside0 (trishawlaw04_StampPaid.j0 kq a0 l1 a2 x29_3 = some r) ∧ Aside0 (kq ≤ k) ∧ Aside0 (Below w.heap.size w wc))
  case first => as_aux_lemma =>
    have H := HC4.out
    clear HC4
    by_cases c5 : (l1.length : Int) > 30
    · rw [if_pos c5] at H
      have c5b0 : decide (30 < (l1.length : Int)) = true := decide_eq_true c5
      have c5b1 : decide (30 < l1.length) = true := decide_eq_true (by omega)
      clear c5
      (first | rw [c5b0] | (simp only [i64_w, i32_w]; rw [c5b0]) | skip)
      have H' := Aside0.mk H
      clear H
      go_wp2
      repeat (go_quiet (fail); try go_wp2)
      go_meet
      case rel => exact ⟨_, (true), (by first | rfl | (simp; done) | (simp [*]; done)), H', ⟨by first | omega | exact Nat.le_refl _⟩, ⟨by repeat (first | (with_reducible first | exact HB.out | apply below_alloc | apply pw_below_drewN | apply below_drew1) | exact HB.out)⟩⟩
    · rw [if_neg c5] at H
      have c5b0 : decide (30 < (l1.length : Int)) = false := decide_eq_false c5
      have c5b1 : decide (30 < l1.length) = false := decide_eq_false (by omega)
      clear c5
      (first | rw [c5b0] | (simp only [i64_w, i32_w]; rw [c5b0]) | skip)
      replace H := Option.bind_eq_some_iff.mp H
      obtain ⟨t435, A60, H⟩ := H
      replace H : (trishawlaw04_StampPaid.j0 k a0 l1 a2 (t435 != 0)) = some r := H
      have A6 := Aside0.mk A60
      clear A60
      have H' := Aside0.mk H
      clear H
      go_wp2_with (first | (go_at_call 24; (with_reducible refine (trishawref04_Ticket.calls k a0 _ _ l1 t435 _ ?side1 ?side2 A6.out).mono ?_); (case side1 => repeat (first | exact (Kd.C_below HR1.out HB.out) | (with_reducible refine Kd.C_alloc ?_ _) | (with_reducible refine Kd.C_drewN ?_ _) | (with_reducible refine Kd.C_drew ?_))); (case side2 => exact HC1.out); rintro e w' ⟨rfl, ⟨nd, rfl⟩⟩; (try first | exact ⟨rfl, _, World.drewN_drewN _ _ _⟩ | exact ⟨rfl, _, Eq.trans (World.drewN_drewN _ _ _) (congrArg (World.drewN _) (Nat.add_assoc _ _ _))⟩)))
      repeat (go_quiet (first | (go_at_call 24; (with_reducible refine (trishawref04_Ticket.calls k a0 _ _ l1 t435 _ ?side1 ?side2 A6.out).mono ?_); (case side1 => repeat (first | exact (Kd.C_below HR1.out HB.out) | (with_reducible refine Kd.C_alloc ?_ _) | (with_reducible refine Kd.C_drewN ?_ _) | (with_reducible refine Kd.C_drew ?_))); (case side2 => exact HC1.out); rintro e w' ⟨rfl, ⟨nd, rfl⟩⟩; (try first | exact ⟨rfl, _, World.drewN_drewN _ _ _⟩ | exact ⟨rfl, _, Eq.trans (World.drewN_drewN _ _ _) (congrArg (World.drewN _) (Nat.add_assoc _ _ _))⟩))); try go_wp2_with (first | (go_at_call 24; (with_reducible refine (trishawref04_Ticket.calls k a0 _ _ l1 t435 _ ?side1 ?side2 A6.out).mono ?_); (case side1 => repeat (first | exact (Kd.C_below HR1.out HB.out) | (with_reducible refine Kd.C_alloc ?_ _) | (with_reducible refine Kd.C_drewN ?_ _) | (with_reducible refine Kd.C_drew ?_))); (case side2 => exact HC1.out); rintro e w' ⟨rfl, ⟨nd, rfl⟩⟩; (try first | exact ⟨rfl, _, World.drewN_drewN _ _ _⟩ | exact ⟨rfl, _, Eq.trans (World.drewN_drewN _ _ _) (congrArg (World.drewN _) (Nat.add_assoc _ _ _))⟩))))
      go_meet
      case rel => exact ⟨_, ((t435 != 0)), (by first | rfl | (simp; done) | (simp [*]; done)), H', ⟨by first | omega | exact Nat.le_refl _⟩, ⟨by repeat (first | (with_reducible first | exact HB.out | apply below_alloc | apply pw_below_drewN | apply below_drew1) | exact HB.out)⟩⟩
  case rest => as_aux_lemma =>
    clear HC4
    try clear c1
    try clear p2
    try clear c5
    try clear c5b0
    try clear c5b1
    obtain ⟨kq, x29_3, rfl, HA, HJ3, HB⟩ := hcut
    cases kq with
    | zero => exact absurd HA.out (by simp [trishawlaw04_StampPaid.j0])
    | succ kj3 =>
      have H := HA.out
      clear HA
      simp only [trishawlaw04_StampPaid.j0] at H
      by_cases c7 : x29_3 = true
      · subst c7
        have H1 : ((trishawlaw04_alive.f).bind fun t436 => (some t436)) = some r := by rw [if_pos rfl] at H; exact H
        clear H
        have H := H1
        clear H1
        replace H := Option.bind_eq_some_iff.mp H
        obtain ⟨t436, A80, H⟩ := H
        replace H : (some t436) = some r := H
        have A8 := Aside0.mk A80
        clear A80
        obtain rfl := Option.some.inj H
        go_wp2_with (first | (go_at_call 16; (with_reducible refine (trishawlaw04_alive.calls  t436 _ A8.out).mono ?_); rintro e w9 ⟨rfl, hb⟩; have n0_ := Aside0.mk (below_step (by repeat (first | (with_reducible first | exact HB.out | apply below_alloc | apply pw_below_drewN | apply below_drew1) | exact HB.out)) hb); clear HB; have HB := n0_; clear n0_; (try clear hb); (try clear hb2); (try clear hk); (try clear hi)))
        repeat (go_quiet (first | (go_at_call 16; (with_reducible refine (trishawlaw04_alive.calls  t436 _ A8.out).mono ?_); rintro e w9 ⟨rfl, hb⟩; have n0_ := Aside0.mk (below_step (by repeat (first | (with_reducible first | exact HB.out | apply below_alloc | apply pw_below_drewN | apply below_drew1) | exact HB.out)) hb); clear HB; have HB := n0_; clear n0_; (try clear hb); (try clear hb2); (try clear hk); (try clear hi))); try go_wp2_with (first | (go_at_call 16; (with_reducible refine (trishawlaw04_alive.calls  t436 _ A8.out).mono ?_); rintro e w9 ⟨rfl, hb⟩; have n0_ := Aside0.mk (below_step (by repeat (first | (with_reducible first | exact HB.out | apply below_alloc | apply pw_below_drewN | apply below_drew1) | exact HB.out)) hb); clear HB; have HB := n0_; clear n0_; (try clear hb); (try clear hb2); (try clear hk); (try clear hi))))
        go_ret
        exact ⟨by first | rfl | (simp [errW_none, errW_some] <;> rfl) | (simp [*, errW_none, errW_some] <;> rfl), by repeat (first | (with_reducible first | exact HB.out | apply below_alloc | apply pw_below_drewN | apply below_drew1) | exact HB.out)⟩
      · replace c7 := Bool.eq_false_iff.mpr c7
        subst c7
        have H1 : (if 0 ≤ (wrap64 ((l1.length : Int) - 1)) then (if (wrap64 ((l1.length : Int) - 1)) < (l1.length : Int) then (if (wrap64 ((wrap64 (a0 * (rd l1 (wrap64 ((l1.length : Int) - 1))))) + 1)) = 0 then (none) else ((stamp_Pay.f a0 l1 (Int.tmod (wrap64 (a2)) (wrap64 ((wrap64 (a0 * (rd l1 (wrap64 ((l1.length : Int) - 1))))) + 1)))).bind fun bt438 => ((stamp_Fewest.f kj3 a0 l1).bind fun bt442 => ((stamp_Ways.f a0 l1 (Int.tmod (wrap64 (a2)) (wrap64 ((wrap64 (a0 * (rd l1 (wrap64 ((l1.length : Int) - 1))))) + 1)))).bind fun bt446 => (if bt442.2 = 0 then (if bt446.2 = 0 then (if (bt442.1.length : Int) = (wrap64 ((wrap64 (a0 * (rd l1 (wrap64 ((l1.length : Int) - 1))))) + 1)) then (if 0 ≤ (Int.tmod (wrap64 (a2)) (wrap64 ((wrap64 (a0 * (rd l1 (wrap64 ((l1.length : Int) - 1))))) + 1))) then (if (Int.tmod (wrap64 (a2)) (wrap64 ((wrap64 (a0 * (rd l1 (wrap64 ((l1.length : Int) - 1))))) + 1))) < (bt442.1.length : Int) then (trishawlaw04_StampPaid.j1 kj3 a0 l1 (wrap64 (a0 * (rd l1 (wrap64 ((l1.length : Int) - 1))))) (Int.tmod (wrap64 (a2)) (wrap64 ((wrap64 (a0 * (rd l1 (wrap64 ((l1.length : Int) - 1))))) + 1))) bt438.1 bt438.2 bt442.1 ((decide (bt446.1 > 0)) != (decide ((rd bt442.1 (Int.tmod (wrap64 (a2)) (wrap64 ((wrap64 (a0 * (rd l1 (wrap64 ((l1.length : Int) - 1))))) + 1)))) ≥ 0)))) else (none)) else (none)) else (trishawlaw04_StampPaid.j1 kj3 a0 l1 (wrap64 (a0 * (rd l1 (wrap64 ((l1.length : Int) - 1))))) (Int.tmod (wrap64 (a2)) (wrap64 ((wrap64 (a0 * (rd l1 (wrap64 ((l1.length : Int) - 1))))) + 1))) bt438.1 bt438.2 bt442.1 true)) else (trishawlaw04_StampPaid.j1 kj3 a0 l1 (wrap64 (a0 * (rd l1 (wrap64 ((l1.length : Int) - 1))))) (Int.tmod (wrap64 (a2)) (wrap64 ((wrap64 (a0 * (rd l1 (wrap64 ((l1.length : Int) - 1))))) + 1))) bt438.1 bt438.2 bt442.1 true)) else (trishawlaw04_StampPaid.j1 kj3 a0 l1 (wrap64 (a0 * (rd l1 (wrap64 ((l1.length : Int) - 1))))) (Int.tmod (wrap64 (a2)) (wrap64 ((wrap64 (a0 * (rd l1 (wrap64 ((l1.length : Int) - 1))))) + 1))) bt438.1 bt438.2 bt442.1 true)))))) else (none)) else (none)) = some r := by rw [if_neg (show ¬ (false = true) by decide)] at H; exact H
        clear H
        have H := H1
        clear H1
        obtain ⟨ji10, hji10⟩ : ∃ j_ : Int, (wrap64 ((l1.length : Int) - 1)) = j_ := ⟨_, rfl⟩
        replace H : (if 0 ≤ (ji10) then (if (ji10) < (l1.length : Int) then (if (wrap64 ((wrap64 (a0 * (rd l1 (ji10)))) + 1)) = 0 then (none) else ((stamp_Pay.f a0 l1 (Int.tmod (wrap64 (a2)) (wrap64 ((wrap64 (a0 * (rd l1 (ji10)))) + 1)))).bind fun bt438 => ((stamp_Fewest.f kj3 a0 l1).bind fun bt442 => ((stamp_Ways.f a0 l1 (Int.tmod (wrap64 (a2)) (wrap64 ((wrap64 (a0 * (rd l1 (ji10)))) + 1)))).bind fun bt446 => (if bt442.2 = 0 then (if bt446.2 = 0 then (if (bt442.1.length : Int) = (wrap64 ((wrap64 (a0 * (rd l1 (ji10)))) + 1)) then (if 0 ≤ (Int.tmod (wrap64 (a2)) (wrap64 ((wrap64 (a0 * (rd l1 (ji10)))) + 1))) then (if (Int.tmod (wrap64 (a2)) (wrap64 ((wrap64 (a0 * (rd l1 (ji10)))) + 1))) < (bt442.1.length : Int) then (trishawlaw04_StampPaid.j1 kj3 a0 l1 (wrap64 (a0 * (rd l1 (ji10)))) (Int.tmod (wrap64 (a2)) (wrap64 ((wrap64 (a0 * (rd l1 (ji10)))) + 1))) bt438.1 bt438.2 bt442.1 ((decide (bt446.1 > 0)) != (decide ((rd bt442.1 (Int.tmod (wrap64 (a2)) (wrap64 ((wrap64 (a0 * (rd l1 (ji10)))) + 1)))) ≥ 0)))) else (none)) else (none)) else (trishawlaw04_StampPaid.j1 kj3 a0 l1 (wrap64 (a0 * (rd l1 (ji10)))) (Int.tmod (wrap64 (a2)) (wrap64 ((wrap64 (a0 * (rd l1 (ji10)))) + 1))) bt438.1 bt438.2 bt442.1 true)) else (trishawlaw04_StampPaid.j1 kj3 a0 l1 (wrap64 (a0 * (rd l1 (ji10)))) (Int.tmod (wrap64 (a2)) (wrap64 ((wrap64 (a0 * (rd l1 (ji10)))) + 1))) bt438.1 bt438.2 bt442.1 true)) else (trishawlaw04_StampPaid.j1 kj3 a0 l1 (wrap64 (a0 * (rd l1 (ji10)))) (Int.tmod (wrap64 (a2)) (wrap64 ((wrap64 (a0 * (rd l1 (ji10)))) + 1))) bt438.1 bt438.2 bt442.1 true)))))) else (none)) else (none)) = some r := by first | (rw [hji10] at H; exact H) | (simp only [hji10] at H ⊢; exact H)
        have hji10w : (IntKind.i64.wrap ((l1.length : Int) - 1)) = ji10 := (i64_w _).trans hji10
        by_cases c11 : 0 ≤ (ji10)
        · rw [if_pos c11] at H
          have c11b0 : decide (0 ≤ (ji10)) = true := decide_eq_true c11
          clear c11
          by_cases c12 : (ji10) < (l1.length : Int)
          · rw [if_pos c12] at H
            have c12b0 : decide ((ji10) < (l1.length : Int)) = true := decide_eq_true c12
            clear c12
            by_cases c13 : (wrap64 ((wrap64 (a0 * (rd l1 (ji10)))) + 1)) = 0
            · rw [if_pos c13] at H
              exact absurd H (by simp)
            · rw [if_neg c13] at H
              have c13b0 : ((wrap64 ((wrap64 (a0 * (rd l1 (ji10)))) + 1)) == 0) = false := beq_eq_false_iff_ne.mpr c13
              have c13b1 : ((wrap64 ((wrap64 (a0 * (rd l1 (ji10)))) + 1)) != 0) = true := bne_iff_ne.mpr c13
              replace H := Option.bind_eq_some_iff.mp H
              obtain ⟨⟨t438, t439⟩, A140, H⟩ := H
              replace H : ((stamp_Fewest.f kj3 a0 l1).bind fun bt442 => ((stamp_Ways.f a0 l1 (Int.tmod (wrap64 (a2)) (wrap64 ((wrap64 (a0 * (rd l1 (ji10)))) + 1)))).bind fun bt446 => (if bt442.2 = 0 then (if bt446.2 = 0 then (if (bt442.1.length : Int) = (wrap64 ((wrap64 (a0 * (rd l1 (ji10)))) + 1)) then (if 0 ≤ (Int.tmod (wrap64 (a2)) (wrap64 ((wrap64 (a0 * (rd l1 (ji10)))) + 1))) then (if (Int.tmod (wrap64 (a2)) (wrap64 ((wrap64 (a0 * (rd l1 (ji10)))) + 1))) < (bt442.1.length : Int) then (trishawlaw04_StampPaid.j1 kj3 a0 l1 (wrap64 (a0 * (rd l1 (ji10)))) (Int.tmod (wrap64 (a2)) (wrap64 ((wrap64 (a0 * (rd l1 (ji10)))) + 1))) t438 t439 bt442.1 ((decide (bt446.1 > 0)) != (decide ((rd bt442.1 (Int.tmod (wrap64 (a2)) (wrap64 ((wrap64 (a0 * (rd l1 (ji10)))) + 1)))) ≥ 0)))) else (none)) else (none)) else (trishawlaw04_StampPaid.j1 kj3 a0 l1 (wrap64 (a0 * (rd l1 (ji10)))) (Int.tmod (wrap64 (a2)) (wrap64 ((wrap64 (a0 * (rd l1 (ji10)))) + 1))) t438 t439 bt442.1 true)) else (trishawlaw04_StampPaid.j1 kj3 a0 l1 (wrap64 (a0 * (rd l1 (ji10)))) (Int.tmod (wrap64 (a2)) (wrap64 ((wrap64 (a0 * (rd l1 (ji10)))) + 1))) t438 t439 bt442.1 true)) else (trishawlaw04_StampPaid.j1 kj3 a0 l1 (wrap64 (a0 * (rd l1 (ji10)))) (Int.tmod (wrap64 (a2)) (wrap64 ((wrap64 (a0 * (rd l1 (ji10)))) + 1))) t438 t439 bt442.1 true)))) = some r := H
              have A14 := Aside0.mk A140
              clear A140
              replace H := Option.bind_eq_some_iff.mp H
              obtain ⟨⟨t442, t443⟩, A150, H⟩ := H
              replace H : ((stamp_Ways.f a0 l1 (Int.tmod (wrap64 (a2)) (wrap64 ((wrap64 (a0 * (rd l1 (ji10)))) + 1)))).bind fun bt446 => (if t443 = 0 then (if bt446.2 = 0 then (if (t442.length : Int) = (wrap64 ((wrap64 (a0 * (rd l1 (ji10)))) + 1)) then (if 0 ≤ (Int.tmod (wrap64 (a2)) (wrap64 ((wrap64 (a0 * (rd l1 (ji10)))) + 1))) then (if (Int.tmod (wrap64 (a2)) (wrap64 ((wrap64 (a0 * (rd l1 (ji10)))) + 1))) < (t442.length : Int) then (trishawlaw04_StampPaid.j1 kj3 a0 l1 (wrap64 (a0 * (rd l1 (ji10)))) (Int.tmod (wrap64 (a2)) (wrap64 ((wrap64 (a0 * (rd l1 (ji10)))) + 1))) t438 t439 t442 ((decide (bt446.1 > 0)) != (decide ((rd t442 (Int.tmod (wrap64 (a2)) (wrap64 ((wrap64 (a0 * (rd l1 (ji10)))) + 1)))) ≥ 0)))) else (none)) else (none)) else (trishawlaw04_StampPaid.j1 kj3 a0 l1 (wrap64 (a0 * (rd l1 (ji10)))) (Int.tmod (wrap64 (a2)) (wrap64 ((wrap64 (a0 * (rd l1 (ji10)))) + 1))) t438 t439 t442 true)) else (trishawlaw04_StampPaid.j1 kj3 a0 l1 (wrap64 (a0 * (rd l1 (ji10)))) (Int.tmod (wrap64 (a2)) (wrap64 ((wrap64 (a0 * (rd l1 (ji10)))) + 1))) t438 t439 t442 true)) else (trishawlaw04_StampPaid.j1 kj3 a0 l1 (wrap64 (a0 * (rd l1 (ji10)))) (Int.tmod (wrap64 (a2)) (wrap64 ((wrap64 (a0 * (rd l1 (ji10)))) + 1))) t438 t439 t442 true))) = some r := H
              have A15 := Aside0.mk A150
              clear A150
              replace H := Option.bind_eq_some_iff.mp H
              obtain ⟨⟨t446, t447⟩, A160, H⟩ := H
              replace H : (if t443 = 0 then (if t447 = 0 then (if (t442.length : Int) = (wrap64 ((wrap64 (a0 * (rd l1 (ji10)))) + 1)) then (if 0 ≤ (Int.tmod (wrap64 (a2)) (wrap64 ((wrap64 (a0 * (rd l1 (ji10)))) + 1))) then (if (Int.tmod (wrap64 (a2)) (wrap64 ((wrap64 (a0 * (rd l1 (ji10)))) + 1))) < (t442.length : Int) then (trishawlaw04_StampPaid.j1 kj3 a0 l1 (wrap64 (a0 * (rd l1 (ji10)))) (Int.tmod (wrap64 (a2)) (wrap64 ((wrap64 (a0 * (rd l1 (ji10)))) + 1))) t438 t439 t442 ((decide (t446 > 0)) != (decide ((rd t442 (Int.tmod (wrap64 (a2)) (wrap64 ((wrap64 (a0 * (rd l1 (ji10)))) + 1)))) ≥ 0)))) else (none)) else (none)) else (trishawlaw04_StampPaid.j1 kj3 a0 l1 (wrap64 (a0 * (rd l1 (ji10)))) (Int.tmod (wrap64 (a2)) (wrap64 ((wrap64 (a0 * (rd l1 (ji10)))) + 1))) t438 t439 t442 true)) else (trishawlaw04_StampPaid.j1 kj3 a0 l1 (wrap64 (a0 * (rd l1 (ji10)))) (Int.tmod (wrap64 (a2)) (wrap64 ((wrap64 (a0 * (rd l1 (ji10)))) + 1))) t438 t439 t442 true)) else (trishawlaw04_StampPaid.j1 kj3 a0 l1 (wrap64 (a0 * (rd l1 (ji10)))) (Int.tmod (wrap64 (a2)) (wrap64 ((wrap64 (a0 * (rd l1 (ji10)))) + 1))) t438 t439 t442 true)) = some r := H
              have A16 := Aside0.mk A160
              clear A160
              have HC17 := Aside0.mk H
              clear H
              have p437 : 0 ≤ ((ji10) : Int) := of_decide_eq_true (by first | (with_reducible assumption) | assumption)
              have q437 : (ji10) < (l1.length : Int) := of_decide_eq_true (by first | (with_reducible assumption) | assumption)
              obtain ⟨ad437, e437, hx437_0⟩ := Kd.at_int HR1.out (ji10) p437 q437
              cases e437
              replace hx437_0 := (HB.out.cell (World.block_lt_of_cell? w _ hx437_0)).trans hx437_0
              replace p437 := eq_true p437
              replace q437 := eq_true q437
              go_upto_region 8 with (first | (go_at_call 17; (with_reducible refine (stamp_Pay.calls a0 _ _ l1 (Int.tmod (wrap64 (a2)) (wrap64 ((wrap64 (a0 * (rd l1 (ji10)))) + 1))) t438 t439 _ ?side1 ?side2 A14.out).mono ?_); (case side1 => repeat (first | exact (Kd.C_below HR1.out HB.out) | (with_reducible refine Kd.C_alloc ?_ _) | (with_reducible refine Kd.C_drewN ?_ _) | (with_reducible refine Kd.C_drew ?_))); (case side2 => exact HC1.out); rintro e w18 ⟨v440, rfl, ho0, hb⟩; have n0_ := Aside0.mk (Kd.R_lower ho0 (below_size (by repeat (first | (with_reducible first | exact HB.out | apply below_alloc | apply pw_below_drewN | apply below_drew1) | exact HB.out)))); have n1_ := Aside0.mk (below_step (by repeat (first | (with_reducible first | exact HB.out | apply below_alloc | apply pw_below_drewN | apply below_drew1) | exact HB.out)) hb); clear HB; have HO441 := n0_; have HB := n1_; clear n0_ n1_; (try clear hb); (try clear hb2); (try clear hk); (try clear hi); (try clear ho0)) | (go_at_call 28; (with_reducible refine (stamp_Fewest.calls kj3 a0 _ _ l1 t442 t443 _ ?side1 ?side2 A15.out).mono ?_); (case side1 => repeat (first | exact (Kd.C_below HR1.out HB.out) | (with_reducible refine Kd.C_alloc ?_ _) | (with_reducible refine Kd.C_drewN ?_ _) | (with_reducible refine Kd.C_drew ?_))); (case side2 => exact HC1.out); rintro e w19 ⟨v444, rfl, ho0, hb⟩; have n0_ := Aside0.mk (Kd.R_elder' (by (with_reducible repeat (first | apply Kd.R_alloc | apply Kd.R_drewN | apply Kd.R_drew)); exact HO441.out) (Kd.R_base ho0) hb); have n1_ := Aside0.mk (Kd.R_lower (Kd.R_new' ho0 (Kd.R_lt (by (with_reducible repeat (first | apply Kd.R_alloc | apply Kd.R_drewN | apply Kd.R_drew)); exact HO441.out))) (below_size (by repeat (first | (with_reducible first | exact HB.out | apply below_alloc | apply pw_below_drewN | apply below_drew1) | exact HB.out)))); have n2_ := Aside0.mk (below_step (by repeat (first | (with_reducible first | exact HB.out | apply below_alloc | apply pw_below_drewN | apply below_drew1) | exact HB.out)) hb); clear HO441; clear HB; have HO441 := n0_; have HO445 := n1_; have HB := n2_; clear n0_ n1_ n2_; (try clear hb); (try clear hb2); (try clear hk); (try clear hi); (try clear ho0)) | (go_at_call 27; (with_reducible refine (stamp_Ways.calls a0 _ _ l1 (Int.tmod (wrap64 (a2)) (wrap64 ((wrap64 (a0 * (rd l1 (ji10)))) + 1))) t446 t447 _ ?side1 ?side2 A16.out).mono ?_); (case side1 => repeat (first | exact (Kd.C_below HR1.out HB.out) | (with_reducible refine Kd.C_alloc ?_ _) | (with_reducible refine Kd.C_drewN ?_ _) | (with_reducible refine Kd.C_drew ?_))); (case side2 => exact HC1.out); rintro e w20 ⟨rfl, hb⟩; have n0_ := Aside0.mk (Kd.R_below (by (with_reducible repeat (first | apply Kd.R_alloc | apply Kd.R_drewN | apply Kd.R_drew)); exact HO441.out) hb); have n1_ := Aside0.mk (Kd.R_below (by (with_reducible repeat (first | apply Kd.R_alloc | apply Kd.R_drewN | apply Kd.R_drew)); exact HO445.out) hb); have n2_ := Aside0.mk (below_step (by repeat (first | (with_reducible first | exact HB.out | apply below_alloc | apply pw_below_drewN | apply below_drew1) | exact HB.out)) hb); clear HO441; clear HO445; clear HB; have HO441 := n0_; have HO445 := n1_; have HB := n2_; clear n0_ n1_ n2_; (try clear hb); (try clear hb2); (try clear hk); (try clear hi)))
              repeat (go_quiet (first | (go_at_call 17; (with_reducible refine (stamp_Pay.calls a0 _ _ l1 (Int.tmod (wrap64 (a2)) (wrap64 ((wrap64 (a0 * (rd l1 (ji10)))) + 1))) t438 t439 _ ?side1 ?side2 A14.out).mono ?_); (case side1 => repeat (first | exact (Kd.C_below HR1.out HB.out) | (with_reducible refine Kd.C_alloc ?_ _) | (with_reducible refine Kd.C_drewN ?_ _) | (with_reducible refine Kd.C_drew ?_))); (case side2 => exact HC1.out); rintro e w18 ⟨v440, rfl, ho0, hb⟩; have n0_ := Aside0.mk (Kd.R_lower ho0 (below_size (by repeat (first | (with_reducible first | exact HB.out | apply below_alloc | apply pw_below_drewN | apply below_drew1) | exact HB.out)))); have n1_ := Aside0.mk (below_step (by repeat (first | (with_reducible first | exact HB.out | apply below_alloc | apply pw_below_drewN | apply below_drew1) | exact HB.out)) hb); clear HB; have HO441 := n0_; have HB := n1_; clear n0_ n1_; (try clear hb); (try clear hb2); (try clear hk); (try clear hi); (try clear ho0)) | (go_at_call 28; (with_reducible refine (stamp_Fewest.calls kj3 a0 _ _ l1 t442 t443 _ ?side1 ?side2 A15.out).mono ?_); (case side1 => repeat (first | exact (Kd.C_below HR1.out HB.out) | (with_reducible refine Kd.C_alloc ?_ _) | (with_reducible refine Kd.C_drewN ?_ _) | (with_reducible refine Kd.C_drew ?_))); (case side2 => exact HC1.out); rintro e w19 ⟨v444, rfl, ho0, hb⟩; have n0_ := Aside0.mk (Kd.R_elder' (by (with_reducible repeat (first | apply Kd.R_alloc | apply Kd.R_drewN | apply Kd.R_drew)); exact HO441.out) (Kd.R_base ho0) hb); have n1_ := Aside0.mk (Kd.R_lower (Kd.R_new' ho0 (Kd.R_lt (by (with_reducible repeat (first | apply Kd.R_alloc | apply Kd.R_drewN | apply Kd.R_drew)); exact HO441.out))) (below_size (by repeat (first | (with_reducible first | exact HB.out | apply below_alloc | apply pw_below_drewN | apply below_drew1) | exact HB.out)))); have n2_ := Aside0.mk (below_step (by repeat (first | (with_reducible first | exact HB.out | apply below_alloc | apply pw_below_drewN | apply below_drew1) | exact HB.out)) hb); clear HO441; clear HB; have HO441 := n0_; have HO445 := n1_; have HB := n2_; clear n0_ n1_ n2_; (try clear hb); (try clear hb2); (try clear hk); (try clear hi); (try clear ho0)) | (go_at_call 27; (with_reducible refine (stamp_Ways.calls a0 _ _ l1 (Int.tmod (wrap64 (a2)) (wrap64 ((wrap64 (a0 * (rd l1 (ji10)))) + 1))) t446 t447 _ ?side1 ?side2 A16.out).mono ?_); (case side1 => repeat (first | exact (Kd.C_below HR1.out HB.out) | (with_reducible refine Kd.C_alloc ?_ _) | (with_reducible refine Kd.C_drewN ?_ _) | (with_reducible refine Kd.C_drew ?_))); (case side2 => exact HC1.out); rintro e w20 ⟨rfl, hb⟩; have n0_ := Aside0.mk (Kd.R_below (by (with_reducible repeat (first | apply Kd.R_alloc | apply Kd.R_drewN | apply Kd.R_drew)); exact HO441.out) hb); have n1_ := Aside0.mk (Kd.R_below (by (with_reducible repeat (first | apply Kd.R_alloc | apply Kd.R_drewN | apply Kd.R_drew)); exact HO445.out) hb); have n2_ := Aside0.mk (below_step (by repeat (first | (with_reducible first | exact HB.out | apply below_alloc | apply pw_below_drewN | apply below_drew1) | exact HB.out)) hb); clear HO441; clear HO445; clear HB; have HO441 := n0_; have HO445 := n1_; have HB := n2_; clear n0_ n1_ n2_; (try clear hb); (try clear hb2); (try clear hk); (try clear hi))); go_upto_region 8 with (first | (go_at_call 17; (with_reducible refine (stamp_Pay.calls a0 _ _ l1 (Int.tmod (wrap64 (a2)) (wrap64 ((wrap64 (a0 * (rd l1 (ji10)))) + 1))) t438 t439 _ ?side1 ?side2 A14.out).mono ?_); (case side1 => repeat (first | exact (Kd.C_below HR1.out HB.out) | (with_reducible refine Kd.C_alloc ?_ _) | (with_reducible refine Kd.C_drewN ?_ _) | (with_reducible refine Kd.C_drew ?_))); (case side2 => exact HC1.out); rintro e w18 ⟨v440, rfl, ho0, hb⟩; have n0_ := Aside0.mk (Kd.R_lower ho0 (below_size (by repeat (first | (with_reducible first | exact HB.out | apply below_alloc | apply pw_below_drewN | apply below_drew1) | exact HB.out)))); have n1_ := Aside0.mk (below_step (by repeat (first | (with_reducible first | exact HB.out | apply below_alloc | apply pw_below_drewN | apply below_drew1) | exact HB.out)) hb); clear HB; have HO441 := n0_; have HB := n1_; clear n0_ n1_; (try clear hb); (try clear hb2); (try clear hk); (try clear hi); (try clear ho0)) | (go_at_call 28; (with_reducible refine (stamp_Fewest.calls kj3 a0 _ _ l1 t442 t443 _ ?side1 ?side2 A15.out).mono ?_); (case side1 => repeat (first | exact (Kd.C_below HR1.out HB.out) | (with_reducible refine Kd.C_alloc ?_ _) | (with_reducible refine Kd.C_drewN ?_ _) | (with_reducible refine Kd.C_drew ?_))); (case side2 => exact HC1.out); rintro e w19 ⟨v444, rfl, ho0, hb⟩; have n0_ := Aside0.mk (Kd.R_elder' (by (with_reducible repeat (first | apply Kd.R_alloc | apply Kd.R_drewN | apply Kd.R_drew)); exact HO441.out) (Kd.R_base ho0) hb); have n1_ := Aside0.mk (Kd.R_lower (Kd.R_new' ho0 (Kd.R_lt (by (with_reducible repeat (first | apply Kd.R_alloc | apply Kd.R_drewN | apply Kd.R_drew)); exact HO441.out))) (below_size (by repeat (first | (with_reducible first | exact HB.out | apply below_alloc | apply pw_below_drewN | apply below_drew1) | exact HB.out)))); have n2_ := Aside0.mk (below_step (by repeat (first | (with_reducible first | exact HB.out | apply below_alloc | apply pw_below_drewN | apply below_drew1) | exact HB.out)) hb); clear HO441; clear HB; have HO441 := n0_; have HO445 := n1_; have HB := n2_; clear n0_ n1_ n2_; (try clear hb); (try clear hb2); (try clear hk); (try clear hi); (try clear ho0)) | (go_at_call 27; (with_reducible refine (stamp_Ways.calls a0 _ _ l1 (Int.tmod (wrap64 (a2)) (wrap64 ((wrap64 (a0 * (rd l1 (ji10)))) + 1))) t446 t447 _ ?side1 ?side2 A16.out).mono ?_); (case side1 => repeat (first | exact (Kd.C_below HR1.out HB.out) | (with_reducible refine Kd.C_alloc ?_ _) | (with_reducible refine Kd.C_drewN ?_ _) | (with_reducible refine Kd.C_drew ?_))); (case side2 => exact HC1.out); rintro e w20 ⟨rfl, hb⟩; have n0_ := Aside0.mk (Kd.R_below (by (with_reducible repeat (first | apply Kd.R_alloc | apply Kd.R_drewN | apply Kd.R_drew)); exact HO441.out) hb); have n1_ := Aside0.mk (Kd.R_below (by (with_reducible repeat (first | apply Kd.R_alloc | apply Kd.R_drewN | apply Kd.R_drew)); exact HO445.out) hb); have n2_ := Aside0.mk (below_step (by repeat (first | (with_reducible first | exact HB.out | apply below_alloc | apply pw_below_drewN | apply below_drew1) | exact HB.out)) hb); clear HO441; clear HO445; clear HB; have HO441 := n0_; have HO445 := n1_; have HB := n2_; clear n0_ n1_ n2_; (try clear hb); (try clear hb2); (try clear hk); (try clear hi))))
              (try simp only [Act.put, List.setIfInBounds_toArray, List.set_cons_zero, List.set_cons_succ])
              go_cut [86] (fun v86 wc => ∃ (kq : Nat) (x86_16 : Bool), v86 = .bool x86_16 ∧ Aside0 (trishawlaw04_StampPaid.j1 kq a0 l1 (wrap64 (a0 * (rd l1 (ji10)))) (Int.tmod (wrap64 (a2)) (wrap64 ((wrap64 (a0 * (rd l1 (ji10)))) + 1))) t438 t439 t442 x86_16 = some r) ∧ Aside0 (kq ≤ kj3) ∧ Aside0 (Kd.R (Kd.int .i64) 3 wc w.heap.size (fun k_ => some k_ ≠ (v444 : Value).ownBlock) v440 t438) ∧ Aside0 (Kd.R (Kd.int .i64) 3 wc w.heap.size (fun k_ => some k_ ≠ (v440 : Value).ownBlock) v444 t442) ∧ Aside0 (Below w.heap.size w wc))
              case first => as_aux_lemma =>
                have H := HC17.out
                clear HC17
                by_cases c21 : t443 = 0
                · rw [if_pos c21] at H
                  have c21b0 : (t443 == 0) = true := beq_iff_eq.mpr c21
                  have c21b1 : (t443 != 0) = false := bne_eq_false_iff_eq.mpr c21
                  clear c21
                  (first | rw [c21b0] | (simp only [i64_w, i32_w]; rw [c21b0]) | skip)
                  by_cases c22 : t447 = 0
                  · rw [if_pos c22] at H
                    have c22b0 : (t447 == 0) = true := beq_iff_eq.mpr c22
                    have c22b1 : (t447 != 0) = false := bne_eq_false_iff_eq.mpr c22
                    clear c22
                    by_cases c23 : (t442.length : Int) = (wrap64 ((wrap64 (a0 * (rd l1 (ji10)))) + 1))
                    · rw [if_pos c23] at H
                      have c23b0 : ((t442.length : Int) == (wrap64 ((wrap64 (a0 * (rd l1 (ji10)))) + 1))) = true := beq_iff_eq.mpr c23
                      have c23b1 : ((t442.length : Int) != (wrap64 ((wrap64 (a0 * (rd l1 (ji10)))) + 1))) = false := bne_eq_false_iff_eq.mpr c23
                      clear c23
                      obtain ⟨ji24, hji24⟩ : ∃ j_ : Int, (Int.tmod (wrap64 (a2)) (wrap64 ((wrap64 (a0 * (rd l1 (ji10)))) + 1))) = j_ := ⟨_, rfl⟩
                      replace H : (if 0 ≤ (ji24) then (if (ji24) < (t442.length : Int) then (trishawlaw04_StampPaid.j1 kj3 a0 l1 (wrap64 (a0 * (rd l1 (ji10)))) ji24 t438 t439 t442 ((decide (t446 > 0)) != (decide ((rd t442 (ji24)) ≥ 0)))) else (none)) else (none)) = some r := by first | (rw [hji24] at H; exact H) | (simp only [hji24] at H ⊢; exact H)
                      by_cases c25 : 0 ≤ (ji24)
                      · rw [if_pos c25] at H
                        have c25b0 : decide (0 ≤ (ji24)) = true := decide_eq_true c25
                        clear c25
                        by_cases c26 : (ji24) < (t442.length : Int)
                        · rw [if_pos c26] at H
                          have c26b0 : decide ((ji24) < (t442.length : Int)) = true := decide_eq_true c26
                          clear c26
                          have H' := Aside0.mk H
                          clear H
                          obtain ⟨Ao27, co27, eo27⟩ := Kd.R_slice HO445.out
                          subst eo27
                          have p448 : 0 ≤ ((ji24) : Int) := of_decide_eq_true (by first | (with_reducible assumption) | assumption)
                          have q448 : (ji24) < (t442.length : Int) := of_decide_eq_true (by first | (with_reducible assumption) | assumption)
                          obtain ⟨ad448, e448, hx448_0⟩ := Kd.at_int (Kd.R_reads' HO445.out).2.2 (ji24) p448 q448
                          cases e448
                          replace p448 := eq_true p448
                          replace q448 := eq_true q448
                          go_wp2
                          repeat (go_quiet (fail); try go_wp2)
                          go_meet
                          case rel => exact ⟨_, (((decide (t446 > 0)) != (decide ((rd t442 (ji24)) ≥ 0)))), (by first | rfl | (simp; done) | (simp only [← hji24] <;> (first | rfl | simp)) | (simp [*]; done)), (by first | exact H' | (rw [hji24]; exact H')), ⟨by have := HJ3.out; first | omega | exact Nat.le_refl _⟩, ⟨by (with_reducible repeat (first | apply Kd.R_alloc | apply Kd.R_drewN | apply Kd.R_drew)); exact Kd.R_mono HO441.out (fun _ hk => hk.2)⟩, ⟨by (with_reducible repeat (first | apply Kd.R_alloc | apply Kd.R_drewN | apply Kd.R_drew)); exact Kd.R_mono HO445.out (fun _ hk => hk.2)⟩, ⟨by repeat (first | (with_reducible first | exact HB.out | apply below_alloc | apply pw_below_drewN | apply below_drew1) | exact HB.out)⟩⟩
                        · rw [if_neg c26] at H
                          exact absurd H (by simp)
                      · rw [if_neg c25] at H
                        exact absurd H (by simp)
                    · rw [if_neg c23] at H
                      have c23b0 : ((t442.length : Int) == (wrap64 ((wrap64 (a0 * (rd l1 (ji10)))) + 1))) = false := beq_eq_false_iff_ne.mpr c23
                      have c23b1 : ((t442.length : Int) != (wrap64 ((wrap64 (a0 * (rd l1 (ji10)))) + 1))) = true := bne_iff_ne.mpr c23
                      have H' := Aside0.mk H
                      clear H
                      obtain ⟨Ao28, co28, eo28⟩ := Kd.R_slice HO445.out
                      subst eo28
                      go_wp2
                      repeat (go_quiet (fail); try go_wp2)
                      go_meet
                      case rel => exact ⟨_, (true), (by first | rfl | (simp; done) | (simp [*]; done)), H', ⟨by have := HJ3.out; first | omega | exact Nat.le_refl _⟩, ⟨by (with_reducible repeat (first | apply Kd.R_alloc | apply Kd.R_drewN | apply Kd.R_drew)); exact Kd.R_mono HO441.out (fun _ hk => hk.2)⟩, ⟨by (with_reducible repeat (first | apply Kd.R_alloc | apply Kd.R_drewN | apply Kd.R_drew)); exact Kd.R_mono HO445.out (fun _ hk => hk.2)⟩, ⟨by repeat (first | (with_reducible first | exact HB.out | apply below_alloc | apply pw_below_drewN | apply below_drew1) | exact HB.out)⟩⟩
                  · rw [if_neg c22] at H
                    have c22b0 : (t447 == 0) = false := beq_eq_false_iff_ne.mpr c22
                    have c22b1 : (t447 != 0) = true := bne_iff_ne.mpr c22
                    have H' := Aside0.mk H
                    clear H
                    go_wp2
                    repeat (go_quiet (fail); try go_wp2)
                    go_meet
                    case rel => exact ⟨_, (true), (by first | rfl | (simp; done) | (simp [*]; done)), H', ⟨by have := HJ3.out; first | omega | exact Nat.le_refl _⟩, ⟨by (with_reducible repeat (first | apply Kd.R_alloc | apply Kd.R_drewN | apply Kd.R_drew)); exact Kd.R_mono HO441.out (fun _ hk => hk.2)⟩, ⟨by (with_reducible repeat (first | apply Kd.R_alloc | apply Kd.R_drewN | apply Kd.R_drew)); exact Kd.R_mono HO445.out (fun _ hk => hk.2)⟩, ⟨by repeat (first | (with_reducible first | exact HB.out | apply below_alloc | apply pw_below_drewN | apply below_drew1) | exact HB.out)⟩⟩
                · rw [if_neg c21] at H
                  have c21b0 : (t443 == 0) = false := beq_eq_false_iff_ne.mpr c21
                  have c21b1 : (t443 != 0) = true := bne_iff_ne.mpr c21
                  (first | rw [c21b0] | (simp only [i64_w, i32_w]; rw [c21b0]) | skip)
                  have H' := Aside0.mk H
                  clear H
                  go_wp2
                  repeat (go_quiet (fail); try go_wp2)
                  go_meet
                  case rel => exact ⟨_, (true), (by first | rfl | (simp; done) | (simp [*]; done)), H', ⟨by have := HJ3.out; first | omega | exact Nat.le_refl _⟩, ⟨by (with_reducible repeat (first | apply Kd.R_alloc | apply Kd.R_drewN | apply Kd.R_drew)); exact Kd.R_mono HO441.out (fun _ hk => hk.2)⟩, ⟨by (with_reducible repeat (first | apply Kd.R_alloc | apply Kd.R_drewN | apply Kd.R_drew)); exact Kd.R_mono HO445.out (fun _ hk => hk.2)⟩, ⟨by repeat (first | (with_reducible first | exact HB.out | apply below_alloc | apply pw_below_drewN | apply below_drew1) | exact HB.out)⟩⟩
              case rest => as_aux_lemma =>
                clear HC17
                try clear c1
                try clear c2
                try clear p2
                try clear p4
                try clear q4
                try clear hx4
                try clear c5
                try clear c5b0
                try clear c5b1
                try clear p6
                try clear c7
                try clear c11
                try clear c11b0
                try clear c12
                try clear c12b0
                try clear c13
                try clear c13b0
                try clear c13b1
                try clear c21
                try clear c21b0
                try clear c21b1
                try clear c22
                try clear c22b0
                try clear c22b1
                try clear c23
                try clear c23b0
                try clear c23b1
                try clear c25
                try clear c25b0
                try clear c26
                try clear c26b0
                try clear hx437_0
                try clear hx448_0
                try clear p2
                try clear p437
                try clear p448
                try clear q437
                try clear q448
                obtain ⟨kq, x86_16, rfl, HA, HJ16, HO_9, HO_11, HB⟩ := hcut
                cases kq with
                | zero => exact absurd HA.out (by simp [trishawlaw04_StampPaid.j1])
                | succ kj16 =>
                  have H := HA.out
                  clear HA
                  simp only [trishawlaw04_StampPaid.j1] at H
                  generalize hX8 : Int.tmod (wrap64 a2) (wrap64 (wrap64 (a0 * rd l1 ji10) + 1)) = X8 at H ⊢
                  generalize hT7 : wrap64 (a0 * rd l1 ji10) = T7 at H ⊢
                  clear hX8 hT7
                  by_cases c29 : x86_16 = true
                  · subst c29
                    have H1 : (some false) = some r := by rw [if_pos rfl] at H; exact H
                    clear H
                    have H := H1
                    clear H1
                    obtain rfl := Option.some.inj H
                    go_wp2
                    repeat (go_quiet (fail); try go_wp2)
                    go_ret
                    exact ⟨by first | rfl | (simp [errW_none, errW_some] <;> rfl) | (simp only [← hji10]; first | rfl | (simp [errW_none, errW_some] <;> rfl)) | (simp [*, errW_none, errW_some] <;> rfl), by repeat (first | (with_reducible first | exact HB.out | apply below_alloc | apply pw_below_drewN | apply below_drew1) | exact HB.out)⟩
                  · replace c29 := Bool.eq_false_iff.mpr c29
                    subst c29
                    have H1 : (if t439 = 0 then (trishawlaw04_StampPaid.l0 kj16 a0 l1 (T7) (X8) t438 t442 0 0) else (if t439 = 10 then (if 0 ≤ (X8) then (if (X8) < (t442.length : Int) then (if (rd t442 (X8)) = (-1) then (if (t438.length : Int) = 0 then ((trishawlaw04_alive.f).bind fun t450 => (some t450)) else (some false)) else (some false)) else (none)) else (none)) else (some false))) = some r := by rw [if_neg (show ¬ (false = true) by decide)] at H; exact H
                    clear H
                    have H := H1
                    clear H1
                    by_cases c30 : t439 = 0
                    · rw [if_pos c30] at H
                      have c30b0 : (t439 == 0) = true := beq_iff_eq.mpr c30
                      have c30b1 : (t439 != 0) = false := bne_eq_false_iff_eq.mpr c30
                      clear c30
                      have H' := Aside0.mk H
                      clear H
                      go_wp2
                      repeat (go_quiet (fail); try go_wp2)
                      go_loopg [15, 16] kj16 (fun kq v15 v16 w' => ∃ (x15_3 : Int) (x16_3 : Int), v15 = .int .i64 x15_3 ∧ v16 = .int .i64 x16_3 ∧ Aside0 (trishawlaw04_StampPaid.l0 kq a0 l1 (T7) (X8) t438 t442 x15_3 x16_3 = some r) ∧ Aside0 (kq ≤ kj16) ∧ Aside0 (Kd.R (Kd.int .i64) 3 w' w.heap.size (fun k_ => some k_ ≠ (v444 : Value).ownBlock) v440 t438) ∧ Aside0 (Kd.R (Kd.int .i64) 3 w' w.heap.size (fun k_ => some k_ ≠ (v440 : Value).ownBlock) v444 t442) ∧ Aside0 (Below w.heap.size w w'))
                      case atStart => exact ⟨(0), (0), (by first | rfl | (simp; done) | (simp [*]; done)), (by first | rfl | (simp; done) | (simp [*]; done)), H', ⟨Nat.le_refl _⟩, ⟨by (with_reducible repeat (first | apply Kd.R_alloc | apply Kd.R_drewN | apply Kd.R_drew)); exact HO_9.out⟩, ⟨by (with_reducible repeat (first | apply Kd.R_alloc | apply Kd.R_drewN | apply Kd.R_drew)); exact HO_11.out⟩, ⟨by repeat (first | (with_reducible first | exact HB.out | apply below_alloc | apply pw_below_drewN | apply below_drew1) | exact HB.out)⟩⟩
                      case round => as_aux_lemma =>
                        clear H'
                        try clear c1
                        try clear c2
                        try clear p2
                        try clear c3
                        try clear p4
                        try clear q4
                        try clear hx4
                        try clear c5
                        try clear c5b0
                        try clear c5b1
                        try clear p6
                        try clear c7
                        try clear c11
                        try clear c11b0
                        try clear c12
                        try clear c12b0
                        try clear c13
                        try clear c13b0
                        try clear c13b1
                        try clear c21
                        try clear c21b0
                        try clear c21b1
                        try clear c22
                        try clear c22b0
                        try clear c22b1
                        try clear c23
                        try clear c23b0
                        try clear c23b1
                        try clear c25
                        try clear c25b0
                        try clear c26
                        try clear c26b0
                        try clear c29
                        try clear c30
                        try clear c30b0
                        try clear c30b1
                        try clear hx437_0
                        try clear hx448_0
                        try clear p2
                        try clear p4
                        try clear p437
                        try clear p448
                        try clear p6
                        try clear q4
                        try clear q437
                        try clear q448
                        obtain ⟨x15_3, x16_3, rfl, rfl, HA, HK3, HO_9, HO_11, HB⟩ := hrel
                        cases gk with
                        | zero => exact absurd HA.out (by simp [trishawlaw04_StampPaid.l0])
                        | succ k3 =>
                          have H := HA.out
                          clear HA
                          simp only [trishawlaw04_StampPaid.l0] at H
                          by_cases c31 : x16_3 < (t438.length : Int)
                          · rw [if_pos c31] at H
                            have c31b0 : decide (x16_3 < (t438.length : Int)) = true := decide_eq_true c31
                            clear c31
                            by_cases c32 : 0 ≤ x16_3
                            · rw [if_pos c32] at H
                              have c32b0 : decide (0 ≤ x16_3) = true := decide_eq_true c32
                              clear c32
                              replace H := Option.bind_eq_some_iff.mp H
                              obtain ⟨t452, A330, H⟩ := H
                              replace H : (if t452 = true then (if x16_3 > 0 then (if 0 ≤ (wrap64 (x16_3 - 1)) then (if (wrap64 (x16_3 - 1)) < (t438.length : Int) then (if (rd t438 x16_3) < (rd t438 (wrap64 (x16_3 - 1))) then (some false) else (trishawlaw04_StampPaid.l0 k3 a0 l1 (T7) (X8) t438 t442 (wrap64 (x15_3 + (rd t438 x16_3))) (wrap64 (x16_3 + 1)))) else (none)) else (none)) else (trishawlaw04_StampPaid.l0 k3 a0 l1 (T7) (X8) t438 t442 (wrap64 (x15_3 + (rd t438 x16_3))) (wrap64 (x16_3 + 1)))) else (some false)) = some r := H
                              have A33 := Aside0.mk A330
                              clear A330
                              by_cases c34 : t452 = true
                              · subst c34
                                have H1 : (if x16_3 > 0 then (if 0 ≤ (wrap64 (x16_3 - 1)) then (if (wrap64 (x16_3 - 1)) < (t438.length : Int) then (if (rd t438 x16_3) < (rd t438 (wrap64 (x16_3 - 1))) then (some false) else (trishawlaw04_StampPaid.l0 k3 a0 l1 (T7) (X8) t438 t442 (wrap64 (x15_3 + (rd t438 x16_3))) (wrap64 (x16_3 + 1)))) else (none)) else (none)) else (trishawlaw04_StampPaid.l0 k3 a0 l1 (T7) (X8) t438 t442 (wrap64 (x15_3 + (rd t438 x16_3))) (wrap64 (x16_3 + 1)))) = some r := by rw [if_pos rfl] at H; exact H
                                clear H
                                have H := H1
                                clear H1
                                by_cases c35 : x16_3 > 0
                                · rw [if_pos c35] at H
                                  have c35b0 : decide (0 < x16_3) = true := decide_eq_true c35
                                  clear c35
                                  obtain ⟨ji36, hji36⟩ : ∃ j_ : Int, (wrap64 (x16_3 - 1)) = j_ := ⟨_, rfl⟩
                                  replace H : (if 0 ≤ (ji36) then (if (ji36) < (t438.length : Int) then (if (rd t438 x16_3) < (rd t438 (ji36)) then (some false) else (trishawlaw04_StampPaid.l0 k3 a0 l1 (T7) (X8) t438 t442 (wrap64 (x15_3 + (rd t438 x16_3))) (wrap64 (x16_3 + 1)))) else (none)) else (none)) = some r := by first | (rw [hji36] at H; exact H) | (simp only [hji36] at H ⊢; exact H)
                                  (try rw [hji36] at A33)
                                  have hji36w : (IntKind.i64.wrap (x16_3 - 1)) = ji36 := (i64_w _).trans hji36
                                  by_cases c37 : 0 ≤ (ji36)
                                  · rw [if_pos c37] at H
                                    have c37b0 : decide (0 ≤ (ji36)) = true := decide_eq_true c37
                                    clear c37
                                    by_cases c38 : (ji36) < (t438.length : Int)
                                    · rw [if_pos c38] at H
                                      have c38b0 : decide ((ji36) < (t438.length : Int)) = true := decide_eq_true c38
                                      clear c38
                                      by_cases c39 : (rd t438 x16_3) < (rd t438 (ji36))
                                      · rw [if_pos c39] at H
                                        have c39b0 : decide ((rd t438 x16_3) < (rd t438 (ji36))) = true := decide_eq_true c39
                                        clear c39
                                        obtain rfl := Option.some.inj H
                                        obtain ⟨Ao40, co40, eo40⟩ := Kd.R_slice HO_9.out
                                        subst eo40
                                        have p451 : 0 ≤ (x16_3 : Int) := of_decide_eq_true (by first | (with_reducible assumption) | assumption)
                                        have q451 : x16_3 < (t438.length : Int) := of_decide_eq_true (by first | (with_reducible assumption) | assumption)
                                        obtain ⟨ad451, e451, hx451_0⟩ := Kd.at_int (Kd.R_reads' HO_9.out).2.2 x16_3 p451 q451
                                        cases e451
                                        replace p451 := eq_true p451
                                        replace q451 := eq_true q451
                                        go_wp2_with (first | (go_at_call 31; (with_reducible refine (trishawref04_In.calls k3 _ _ l1 (rd t438 x16_3) true _ ?side1 ?side2 A33.out).mono ?_); (case side1 => repeat (first | exact (Kd.C_below HR1.out HB.out) | (with_reducible refine Kd.C_alloc ?_ _) | (with_reducible refine Kd.C_drewN ?_ _) | (with_reducible refine Kd.C_drew ?_))); (case side2 => exact HC1.out); rintro e w' ⟨rfl, ⟨nd, rfl⟩⟩; (try first | exact ⟨rfl, _, World.drewN_drewN _ _ _⟩ | exact ⟨rfl, _, Eq.trans (World.drewN_drewN _ _ _) (congrArg (World.drewN _) (Nat.add_assoc _ _ _))⟩); have p453 : 0 ≤ (x16_3 : Int) := of_decide_eq_true (by first | (with_reducible assumption) | assumption); have q453 : x16_3 < (t438.length : Int) := of_decide_eq_true (by first | (with_reducible assumption) | assumption); obtain ⟨ad453, e453, hx453_0⟩ := Kd.at_int (Kd.R_reads' HO_9.out).2.2 x16_3 p453 q453; obtain rfl : ad451 = ad453 := (by injection e453); replace p453 := eq_true p453; replace q453 := eq_true q453; have p454 : 0 ≤ ((ji36) : Int) := of_decide_eq_true (by first | (with_reducible assumption) | assumption); have q454 : (ji36) < (t438.length : Int) := of_decide_eq_true (by first | (with_reducible assumption) | assumption); obtain ⟨ad454, e454, hx454_0⟩ := Kd.at_int (Kd.R_reads' HO_9.out).2.2 (ji36) p454 q454; obtain rfl : ad451 = ad454 := (by injection e454); replace p454 := eq_true p454; replace q454 := eq_true q454))
                                        repeat (go_quiet (first | (go_at_call 31; (with_reducible refine (trishawref04_In.calls k3 _ _ l1 (rd t438 x16_3) true _ ?side1 ?side2 A33.out).mono ?_); (case side1 => repeat (first | exact (Kd.C_below HR1.out HB.out) | (with_reducible refine Kd.C_alloc ?_ _) | (with_reducible refine Kd.C_drewN ?_ _) | (with_reducible refine Kd.C_drew ?_))); (case side2 => exact HC1.out); rintro e w' ⟨rfl, ⟨nd, rfl⟩⟩; (try first | exact ⟨rfl, _, World.drewN_drewN _ _ _⟩ | exact ⟨rfl, _, Eq.trans (World.drewN_drewN _ _ _) (congrArg (World.drewN _) (Nat.add_assoc _ _ _))⟩); have p453 : 0 ≤ (x16_3 : Int) := of_decide_eq_true (by first | (with_reducible assumption) | assumption); have q453 : x16_3 < (t438.length : Int) := of_decide_eq_true (by first | (with_reducible assumption) | assumption); obtain ⟨ad453, e453, hx453_0⟩ := Kd.at_int (Kd.R_reads' HO_9.out).2.2 x16_3 p453 q453; obtain rfl : ad451 = ad453 := (by injection e453); replace p453 := eq_true p453; replace q453 := eq_true q453; have p454 : 0 ≤ ((ji36) : Int) := of_decide_eq_true (by first | (with_reducible assumption) | assumption); have q454 : (ji36) < (t438.length : Int) := of_decide_eq_true (by first | (with_reducible assumption) | assumption); obtain ⟨ad454, e454, hx454_0⟩ := Kd.at_int (Kd.R_reads' HO_9.out).2.2 (ji36) p454 q454; obtain rfl : ad451 = ad454 := (by injection e454); replace p454 := eq_true p454; replace q454 := eq_true q454)); try go_wp2_with (first | (go_at_call 31; (with_reducible refine (trishawref04_In.calls k3 _ _ l1 (rd t438 x16_3) true _ ?side1 ?side2 A33.out).mono ?_); (case side1 => repeat (first | exact (Kd.C_below HR1.out HB.out) | (with_reducible refine Kd.C_alloc ?_ _) | (with_reducible refine Kd.C_drewN ?_ _) | (with_reducible refine Kd.C_drew ?_))); (case side2 => exact HC1.out); rintro e w' ⟨rfl, ⟨nd, rfl⟩⟩; (try first | exact ⟨rfl, _, World.drewN_drewN _ _ _⟩ | exact ⟨rfl, _, Eq.trans (World.drewN_drewN _ _ _) (congrArg (World.drewN _) (Nat.add_assoc _ _ _))⟩); have p453 : 0 ≤ (x16_3 : Int) := of_decide_eq_true (by first | (with_reducible assumption) | assumption); have q453 : x16_3 < (t438.length : Int) := of_decide_eq_true (by first | (with_reducible assumption) | assumption); obtain ⟨ad453, e453, hx453_0⟩ := Kd.at_int (Kd.R_reads' HO_9.out).2.2 x16_3 p453 q453; obtain rfl : ad451 = ad453 := (by injection e453); replace p453 := eq_true p453; replace q453 := eq_true q453; have p454 : 0 ≤ ((ji36) : Int) := of_decide_eq_true (by first | (with_reducible assumption) | assumption); have q454 : (ji36) < (t438.length : Int) := of_decide_eq_true (by first | (with_reducible assumption) | assumption); obtain ⟨ad454, e454, hx454_0⟩ := Kd.at_int (Kd.R_reads' HO_9.out).2.2 (ji36) p454 q454; obtain rfl : ad451 = ad454 := (by injection e454); replace p454 := eq_true p454; replace q454 := eq_true q454)))
                                        go_ret
                                        exact ⟨by first | rfl | (simp [errW_none, errW_some] <;> rfl) | (simp only [← hji10, ← hji36]; first | rfl | (simp [errW_none, errW_some] <;> rfl)) | (simp [*, errW_none, errW_some] <;> rfl), by repeat (first | (with_reducible first | exact HB.out | apply below_alloc | apply pw_below_drewN | apply below_drew1) | exact HB.out)⟩
                                      · rw [if_neg c39] at H
                                        have c39b0 : decide ((rd t438 x16_3) < (rd t438 (ji36))) = false := decide_eq_false c39
                                        clear c39
                                        have H' := Aside0.mk H
                                        clear H
                                        obtain ⟨Ao41, co41, eo41⟩ := Kd.R_slice HO_9.out
                                        subst eo41
                                        have p451 : 0 ≤ (x16_3 : Int) := of_decide_eq_true (by first | (with_reducible assumption) | assumption)
                                        have q451 : x16_3 < (t438.length : Int) := of_decide_eq_true (by first | (with_reducible assumption) | assumption)
                                        obtain ⟨ad451, e451, hx451_0⟩ := Kd.at_int (Kd.R_reads' HO_9.out).2.2 x16_3 p451 q451
                                        cases e451
                                        replace p451 := eq_true p451
                                        replace q451 := eq_true q451
                                        go_wp2_with (first | (go_at_call 31; (with_reducible refine (trishawref04_In.calls k3 _ _ l1 (rd t438 x16_3) true _ ?side1 ?side2 A33.out).mono ?_); (case side1 => repeat (first | exact (Kd.C_below HR1.out HB.out) | (with_reducible refine Kd.C_alloc ?_ _) | (with_reducible refine Kd.C_drewN ?_ _) | (with_reducible refine Kd.C_drew ?_))); (case side2 => exact HC1.out); rintro e w' ⟨rfl, ⟨nd, rfl⟩⟩; (try first | exact ⟨rfl, _, World.drewN_drewN _ _ _⟩ | exact ⟨rfl, _, Eq.trans (World.drewN_drewN _ _ _) (congrArg (World.drewN _) (Nat.add_assoc _ _ _))⟩); have p453 : 0 ≤ (x16_3 : Int) := of_decide_eq_true (by first | (with_reducible assumption) | assumption); have q453 : x16_3 < (t438.length : Int) := of_decide_eq_true (by first | (with_reducible assumption) | assumption); obtain ⟨ad453, e453, hx453_0⟩ := Kd.at_int (Kd.R_reads' HO_9.out).2.2 x16_3 p453 q453; obtain rfl : ad451 = ad453 := (by injection e453); replace p453 := eq_true p453; replace q453 := eq_true q453; have p454 : 0 ≤ ((ji36) : Int) := of_decide_eq_true (by first | (with_reducible assumption) | assumption); have q454 : (ji36) < (t438.length : Int) := of_decide_eq_true (by first | (with_reducible assumption) | assumption); obtain ⟨ad454, e454, hx454_0⟩ := Kd.at_int (Kd.R_reads' HO_9.out).2.2 (ji36) p454 q454; obtain rfl : ad451 = ad454 := (by injection e454); replace p454 := eq_true p454; replace q454 := eq_true q454; have p455 : 0 ≤ (x16_3 : Int) := of_decide_eq_true (by first | (with_reducible assumption) | assumption); have q455 : x16_3 < (t438.length : Int) := of_decide_eq_true (by first | (with_reducible assumption) | assumption); obtain ⟨ad455, e455, hx455_0⟩ := Kd.at_int (Kd.R_reads' HO_9.out).2.2 x16_3 p455 q455; obtain rfl : ad451 = ad455 := (by injection e455); replace p455 := eq_true p455; replace q455 := eq_true q455))
                                        repeat (go_quiet (first | (go_at_call 31; (with_reducible refine (trishawref04_In.calls k3 _ _ l1 (rd t438 x16_3) true _ ?side1 ?side2 A33.out).mono ?_); (case side1 => repeat (first | exact (Kd.C_below HR1.out HB.out) | (with_reducible refine Kd.C_alloc ?_ _) | (with_reducible refine Kd.C_drewN ?_ _) | (with_reducible refine Kd.C_drew ?_))); (case side2 => exact HC1.out); rintro e w' ⟨rfl, ⟨nd, rfl⟩⟩; (try first | exact ⟨rfl, _, World.drewN_drewN _ _ _⟩ | exact ⟨rfl, _, Eq.trans (World.drewN_drewN _ _ _) (congrArg (World.drewN _) (Nat.add_assoc _ _ _))⟩); have p453 : 0 ≤ (x16_3 : Int) := of_decide_eq_true (by first | (with_reducible assumption) | assumption); have q453 : x16_3 < (t438.length : Int) := of_decide_eq_true (by first | (with_reducible assumption) | assumption); obtain ⟨ad453, e453, hx453_0⟩ := Kd.at_int (Kd.R_reads' HO_9.out).2.2 x16_3 p453 q453; obtain rfl : ad451 = ad453 := (by injection e453); replace p453 := eq_true p453; replace q453 := eq_true q453; have p454 : 0 ≤ ((ji36) : Int) := of_decide_eq_true (by first | (with_reducible assumption) | assumption); have q454 : (ji36) < (t438.length : Int) := of_decide_eq_true (by first | (with_reducible assumption) | assumption); obtain ⟨ad454, e454, hx454_0⟩ := Kd.at_int (Kd.R_reads' HO_9.out).2.2 (ji36) p454 q454; obtain rfl : ad451 = ad454 := (by injection e454); replace p454 := eq_true p454; replace q454 := eq_true q454; have p455 : 0 ≤ (x16_3 : Int) := of_decide_eq_true (by first | (with_reducible assumption) | assumption); have q455 : x16_3 < (t438.length : Int) := of_decide_eq_true (by first | (with_reducible assumption) | assumption); obtain ⟨ad455, e455, hx455_0⟩ := Kd.at_int (Kd.R_reads' HO_9.out).2.2 x16_3 p455 q455; obtain rfl : ad451 = ad455 := (by injection e455); replace p455 := eq_true p455; replace q455 := eq_true q455)); try go_wp2_with (first | (go_at_call 31; (with_reducible refine (trishawref04_In.calls k3 _ _ l1 (rd t438 x16_3) true _ ?side1 ?side2 A33.out).mono ?_); (case side1 => repeat (first | exact (Kd.C_below HR1.out HB.out) | (with_reducible refine Kd.C_alloc ?_ _) | (with_reducible refine Kd.C_drewN ?_ _) | (with_reducible refine Kd.C_drew ?_))); (case side2 => exact HC1.out); rintro e w' ⟨rfl, ⟨nd, rfl⟩⟩; (try first | exact ⟨rfl, _, World.drewN_drewN _ _ _⟩ | exact ⟨rfl, _, Eq.trans (World.drewN_drewN _ _ _) (congrArg (World.drewN _) (Nat.add_assoc _ _ _))⟩); have p453 : 0 ≤ (x16_3 : Int) := of_decide_eq_true (by first | (with_reducible assumption) | assumption); have q453 : x16_3 < (t438.length : Int) := of_decide_eq_true (by first | (with_reducible assumption) | assumption); obtain ⟨ad453, e453, hx453_0⟩ := Kd.at_int (Kd.R_reads' HO_9.out).2.2 x16_3 p453 q453; obtain rfl : ad451 = ad453 := (by injection e453); replace p453 := eq_true p453; replace q453 := eq_true q453; have p454 : 0 ≤ ((ji36) : Int) := of_decide_eq_true (by first | (with_reducible assumption) | assumption); have q454 : (ji36) < (t438.length : Int) := of_decide_eq_true (by first | (with_reducible assumption) | assumption); obtain ⟨ad454, e454, hx454_0⟩ := Kd.at_int (Kd.R_reads' HO_9.out).2.2 (ji36) p454 q454; obtain rfl : ad451 = ad454 := (by injection e454); replace p454 := eq_true p454; replace q454 := eq_true q454; have p455 : 0 ≤ (x16_3 : Int) := of_decide_eq_true (by first | (with_reducible assumption) | assumption); have q455 : x16_3 < (t438.length : Int) := of_decide_eq_true (by first | (with_reducible assumption) | assumption); obtain ⟨ad455, e455, hx455_0⟩ := Kd.at_int (Kd.R_reads' HO_9.out).2.2 x16_3 p455 q455; obtain rfl : ad451 = ad455 := (by injection e455); replace p455 := eq_true p455; replace q455 := eq_true q455)))
                                        go_roundg k3
                                        case measure => have := HJ3.out; have := HJ16.out; have := HK3.out; omega
                                        case rel => exact ⟨(wrap64 (x15_3 + (rd t438 x16_3))), (wrap64 (x16_3 + 1)), (by first | rfl | (simp; done) | (simp [*]; done)), (by first | rfl | (simp; done) | (simp [*]; done)), H', ⟨by have := HJ3.out; have := HJ16.out; have := HK3.out; omega⟩, ⟨by (with_reducible repeat (first | apply Kd.R_alloc | apply Kd.R_drewN | apply Kd.R_drew)); exact HO_9.out⟩, ⟨by (with_reducible repeat (first | apply Kd.R_alloc | apply Kd.R_drewN | apply Kd.R_drew)); exact HO_11.out⟩, ⟨by repeat (first | (with_reducible first | exact HB.out | apply below_alloc | apply pw_below_drewN | apply below_drew1) | exact HB.out)⟩⟩
                                    · rw [if_neg c38] at H
                                      exact absurd H (by simp)
                                  · rw [if_neg c37] at H
                                    exact absurd H (by simp)
                                · rw [if_neg c35] at H
                                  have c35b0 : decide (0 < x16_3) = false := decide_eq_false c35
                                  clear c35
                                  have H' := Aside0.mk H
                                  clear H
                                  obtain ⟨Ao42, co42, eo42⟩ := Kd.R_slice HO_9.out
                                  subst eo42
                                  have p451 : 0 ≤ (x16_3 : Int) := of_decide_eq_true (by first | (with_reducible assumption) | assumption)
                                  have q451 : x16_3 < (t438.length : Int) := of_decide_eq_true (by first | (with_reducible assumption) | assumption)
                                  obtain ⟨ad451, e451, hx451_0⟩ := Kd.at_int (Kd.R_reads' HO_9.out).2.2 x16_3 p451 q451
                                  cases e451
                                  replace p451 := eq_true p451
                                  replace q451 := eq_true q451
                                  go_wp2_with (first | (go_at_call 31; (with_reducible refine (trishawref04_In.calls k3 _ _ l1 (rd t438 x16_3) true _ ?side1 ?side2 A33.out).mono ?_); (case side1 => repeat (first | exact (Kd.C_below HR1.out HB.out) | (with_reducible refine Kd.C_alloc ?_ _) | (with_reducible refine Kd.C_drewN ?_ _) | (with_reducible refine Kd.C_drew ?_))); (case side2 => exact HC1.out); rintro e w' ⟨rfl, ⟨nd, rfl⟩⟩; (try first | exact ⟨rfl, _, World.drewN_drewN _ _ _⟩ | exact ⟨rfl, _, Eq.trans (World.drewN_drewN _ _ _) (congrArg (World.drewN _) (Nat.add_assoc _ _ _))⟩); have p456 : 0 ≤ (x16_3 : Int) := of_decide_eq_true (by first | (with_reducible assumption) | assumption); have q456 : x16_3 < (t438.length : Int) := of_decide_eq_true (by first | (with_reducible assumption) | assumption); obtain ⟨ad456, e456, hx456_0⟩ := Kd.at_int (Kd.R_reads' HO_9.out).2.2 x16_3 p456 q456; obtain rfl : ad451 = ad456 := (by injection e456); replace p456 := eq_true p456; replace q456 := eq_true q456))
                                  repeat (go_quiet (first | (go_at_call 31; (with_reducible refine (trishawref04_In.calls k3 _ _ l1 (rd t438 x16_3) true _ ?side1 ?side2 A33.out).mono ?_); (case side1 => repeat (first | exact (Kd.C_below HR1.out HB.out) | (with_reducible refine Kd.C_alloc ?_ _) | (with_reducible refine Kd.C_drewN ?_ _) | (with_reducible refine Kd.C_drew ?_))); (case side2 => exact HC1.out); rintro e w' ⟨rfl, ⟨nd, rfl⟩⟩; (try first | exact ⟨rfl, _, World.drewN_drewN _ _ _⟩ | exact ⟨rfl, _, Eq.trans (World.drewN_drewN _ _ _) (congrArg (World.drewN _) (Nat.add_assoc _ _ _))⟩))); try go_wp2_with (first | (go_at_call 31; (with_reducible refine (trishawref04_In.calls k3 _ _ l1 (rd t438 x16_3) true _ ?side1 ?side2 A33.out).mono ?_); (case side1 => repeat (first | exact (Kd.C_below HR1.out HB.out) | (with_reducible refine Kd.C_alloc ?_ _) | (with_reducible refine Kd.C_drewN ?_ _) | (with_reducible refine Kd.C_drew ?_))); (case side2 => exact HC1.out); rintro e w' ⟨rfl, ⟨nd, rfl⟩⟩; (try first | exact ⟨rfl, _, World.drewN_drewN _ _ _⟩ | exact ⟨rfl, _, Eq.trans (World.drewN_drewN _ _ _) (congrArg (World.drewN _) (Nat.add_assoc _ _ _))⟩); have p456 : 0 ≤ (x16_3 : Int) := of_decide_eq_true (by first | (with_reducible assumption) | assumption); have q456 : x16_3 < (t438.length : Int) := of_decide_eq_true (by first | (with_reducible assumption) | assumption); obtain ⟨ad456, e456, hx456_0⟩ := Kd.at_int (Kd.R_reads' HO_9.out).2.2 x16_3 p456 q456; obtain rfl : ad451 = ad456 := (by injection e456); replace p456 := eq_true p456; replace q456 := eq_true q456)))
                                  go_roundg k3
                                  case measure => have := HJ3.out; have := HJ16.out; have := HK3.out; omega
                                  case rel => exact ⟨(wrap64 (x15_3 + (rd t438 x16_3))), (wrap64 (x16_3 + 1)), (by first | rfl | (simp; done) | (simp [*]; done)), (by first | rfl | (simp; done) | (simp [*]; done)), H', ⟨by have := HJ3.out; have := HJ16.out; have := HK3.out; omega⟩, ⟨by (with_reducible repeat (first | apply Kd.R_alloc | apply Kd.R_drewN | apply Kd.R_drew)); exact HO_9.out⟩, ⟨by (with_reducible repeat (first | apply Kd.R_alloc | apply Kd.R_drewN | apply Kd.R_drew)); exact HO_11.out⟩, ⟨by repeat (first | (with_reducible first | exact HB.out | apply below_alloc | apply pw_below_drewN | apply below_drew1) | exact HB.out)⟩⟩
                              · replace c34 := Bool.eq_false_iff.mpr c34
                                subst c34
                                have H1 : (some false) = some r := by rw [if_neg (show ¬ (false = true) by decide)] at H; exact H
                                clear H
                                have H := H1
                                clear H1
                                obtain rfl := Option.some.inj H
                                obtain ⟨Ao43, co43, eo43⟩ := Kd.R_slice HO_9.out
                                subst eo43
                                have p451 : 0 ≤ (x16_3 : Int) := of_decide_eq_true (by first | (with_reducible assumption) | assumption)
                                have q451 : x16_3 < (t438.length : Int) := of_decide_eq_true (by first | (with_reducible assumption) | assumption)
                                obtain ⟨ad451, e451, hx451_0⟩ := Kd.at_int (Kd.R_reads' HO_9.out).2.2 x16_3 p451 q451
                                cases e451
                                replace p451 := eq_true p451
                                replace q451 := eq_true q451
                                go_wp2_with (first | (go_at_call 31; (with_reducible refine (trishawref04_In.calls k3 _ _ l1 (rd t438 x16_3) false _ ?side1 ?side2 A33.out).mono ?_); (case side1 => repeat (first | exact (Kd.C_below HR1.out HB.out) | (with_reducible refine Kd.C_alloc ?_ _) | (with_reducible refine Kd.C_drewN ?_ _) | (with_reducible refine Kd.C_drew ?_))); (case side2 => exact HC1.out); rintro e w' ⟨rfl, ⟨nd, rfl⟩⟩; (try first | exact ⟨rfl, _, World.drewN_drewN _ _ _⟩ | exact ⟨rfl, _, Eq.trans (World.drewN_drewN _ _ _) (congrArg (World.drewN _) (Nat.add_assoc _ _ _))⟩)))
                                repeat (go_quiet (first | (go_at_call 31; (with_reducible refine (trishawref04_In.calls k3 _ _ l1 (rd t438 x16_3) false _ ?side1 ?side2 A33.out).mono ?_); (case side1 => repeat (first | exact (Kd.C_below HR1.out HB.out) | (with_reducible refine Kd.C_alloc ?_ _) | (with_reducible refine Kd.C_drewN ?_ _) | (with_reducible refine Kd.C_drew ?_))); (case side2 => exact HC1.out); rintro e w' ⟨rfl, ⟨nd, rfl⟩⟩; (try first | exact ⟨rfl, _, World.drewN_drewN _ _ _⟩ | exact ⟨rfl, _, Eq.trans (World.drewN_drewN _ _ _) (congrArg (World.drewN _) (Nat.add_assoc _ _ _))⟩))); try go_wp2_with (first | (go_at_call 31; (with_reducible refine (trishawref04_In.calls k3 _ _ l1 (rd t438 x16_3) false _ ?side1 ?side2 A33.out).mono ?_); (case side1 => repeat (first | exact (Kd.C_below HR1.out HB.out) | (with_reducible refine Kd.C_alloc ?_ _) | (with_reducible refine Kd.C_drewN ?_ _) | (with_reducible refine Kd.C_drew ?_))); (case side2 => exact HC1.out); rintro e w' ⟨rfl, ⟨nd, rfl⟩⟩; (try first | exact ⟨rfl, _, World.drewN_drewN _ _ _⟩ | exact ⟨rfl, _, Eq.trans (World.drewN_drewN _ _ _) (congrArg (World.drewN _) (Nat.add_assoc _ _ _))⟩))))
                                go_ret
                                exact ⟨by first | rfl | (simp [errW_none, errW_some] <;> rfl) | (simp only [← hji10]; first | rfl | (simp [errW_none, errW_some] <;> rfl)) | (simp [*, errW_none, errW_some] <;> rfl), by repeat (first | (with_reducible first | exact HB.out | apply below_alloc | apply pw_below_drewN | apply below_drew1) | exact HB.out)⟩
                            · rw [if_neg c32] at H
                              exact absurd H (by simp)
                          · rw [if_neg c31] at H
                            have c31b0 : decide (x16_3 < (t438.length : Int)) = false := decide_eq_false c31
                            clear c31
                            have HC44 := Aside0.mk H
                            clear H
                            obtain ⟨Ao45, co45, eo45⟩ := Kd.R_slice HO_9.out
                            subst eo45
                            go_upto_region 19 with (fail)
                            repeat (go_quiet (fail); go_upto_region 19 with (fail))
                            go_cut [158] (fun v158 wc => ∃ (kq : Nat) (x158_43 : Bool), v158 = .bool x158_43 ∧ Aside0 (trishawlaw04_StampPaid.j3 kq a0 l1 (T7) (X8) t442 x158_43 = some r) ∧ Aside0 (kq ≤ k3) ∧ Aside0 (Kd.R (Kd.int .i64) 3 wc w.heap.size (fun _ => True) v444 t442) ∧ Aside0 (Below w.heap.size w wc))
                            case first => as_aux_lemma =>
                              have H := HC44.out
                              clear HC44
                              by_cases c46 : x15_3 = (X8)
                              · rw [if_pos c46] at H
                                have c46b0 : (x15_3 == (X8)) = true := beq_iff_eq.mpr c46
                                have c46b1 : (x15_3 != (X8)) = false := bne_eq_false_iff_eq.mpr c46
                                clear c46
                                (first | rw [c46b0] | (simp only [i64_w, i32_w]; rw [c46b0]) | skip)
                                replace H : (if 0 ≤ (X8) then (if (X8) < (t442.length : Int) then (if (t438.length : Int) = (rd t442 (X8)) then (trishawlaw04_StampPaid.j3 k3 a0 l1 (T7) (X8) t442 (decide ((t438.length : Int) > a0))) else (trishawlaw04_StampPaid.j3 k3 a0 l1 (T7) (X8) t442 true)) else (none)) else (none)) = some r := H
                                (try rw [hji47] at c46b0)
                                (try rw [hji47] at c46b1)
                                by_cases c48 : 0 ≤ (X8)
                                · rw [if_pos c48] at H
                                  have c48b0 : decide (0 ≤ (X8)) = true := decide_eq_true c48
                                  clear c48
                                  by_cases c49 : (X8) < (t442.length : Int)
                                  · rw [if_pos c49] at H
                                    have c49b0 : decide ((X8) < (t442.length : Int)) = true := decide_eq_true c49
                                    clear c49
                                    by_cases c50 : (t438.length : Int) = (rd t442 (X8))
                                    · rw [if_pos c50] at H
                                      have c50b0 : ((t438.length : Int) == (rd t442 (X8))) = true := beq_iff_eq.mpr c50
                                      have c50b1 : ((t438.length : Int) != (rd t442 (X8))) = false := bne_eq_false_iff_eq.mpr c50
                                      clear c50
                                      have H' := Aside0.mk H
                                      clear H
                                      obtain ⟨Ao51, co51, eo51⟩ := Kd.R_slice HO_11.out
                                      subst eo51
                                      have p457 : 0 ≤ ((X8) : Int) := of_decide_eq_true (by first | (with_reducible assumption) | assumption)
                                      have q457 : (X8) < (t442.length : Int) := of_decide_eq_true (by first | (with_reducible assumption) | assumption)
                                      obtain ⟨ad457, e457, hx457_0⟩ := Kd.at_int (Kd.R_reads' HO_11.out).2.2 (X8) p457 q457
                                      cases e457
                                      replace p457 := eq_true p457
                                      replace q457 := eq_true q457
                                      go_wp2
                                      repeat (go_quiet (fail); try go_wp2)
                                      go_meet
                                      case rel => exact ⟨_, (decide ((t438.length : Int) > a0)), (by first | rfl | (simp; done) | (simp [*]; done)), H', ⟨by have := HJ3.out; have := HJ16.out; have := HK3.out; first | omega | exact Nat.le_refl _⟩, ⟨by (with_reducible repeat (first | apply Kd.R_alloc | apply Kd.R_drewN | apply Kd.R_drew)); exact Kd.R_mono HO_11.out (fun _ hk => trivial)⟩, ⟨by repeat (first | (with_reducible first | exact HB.out | apply below_alloc | apply pw_below_drewN | apply below_drew1) | exact HB.out)⟩⟩
                                    · rw [if_neg c50] at H
                                      have c50b0 : ((t438.length : Int) == (rd t442 (X8))) = false := beq_eq_false_iff_ne.mpr c50
                                      have c50b1 : ((t438.length : Int) != (rd t442 (X8))) = true := bne_iff_ne.mpr c50
                                      have H' := Aside0.mk H
                                      clear H
                                      obtain ⟨Ao52, co52, eo52⟩ := Kd.R_slice HO_11.out
                                      subst eo52
                                      have p457 : 0 ≤ ((X8) : Int) := of_decide_eq_true (by first | (with_reducible assumption) | assumption)
                                      have q457 : (X8) < (t442.length : Int) := of_decide_eq_true (by first | (with_reducible assumption) | assumption)
                                      obtain ⟨ad457, e457, hx457_0⟩ := Kd.at_int (Kd.R_reads' HO_11.out).2.2 (X8) p457 q457
                                      cases e457
                                      replace p457 := eq_true p457
                                      replace q457 := eq_true q457
                                      go_wp2
                                      repeat (go_quiet (fail); try go_wp2)
                                      go_meet
                                      case rel => exact ⟨_, (true), (by first | rfl | (simp; done) | (simp [*]; done)), H', ⟨by have := HJ3.out; have := HJ16.out; have := HK3.out; first | omega | exact Nat.le_refl _⟩, ⟨by (with_reducible repeat (first | apply Kd.R_alloc | apply Kd.R_drewN | apply Kd.R_drew)); exact Kd.R_mono HO_11.out (fun _ hk => trivial)⟩, ⟨by repeat (first | (with_reducible first | exact HB.out | apply below_alloc | apply pw_below_drewN | apply below_drew1) | exact HB.out)⟩⟩
                                  · rw [if_neg c49] at H
                                    exact absurd H (by simp)
                                · rw [if_neg c48] at H
                                  exact absurd H (by simp)
                              · rw [if_neg c46] at H
                                have c46b0 : (x15_3 == (X8)) = false := beq_eq_false_iff_ne.mpr c46
                                have c46b1 : (x15_3 != (X8)) = true := bne_iff_ne.mpr c46
                                (first | rw [c46b0] | (simp only [i64_w, i32_w]; rw [c46b0]) | skip)
                                have H' := Aside0.mk H
                                clear H
                                go_wp2
                                repeat (go_quiet (fail); try go_wp2)
                                go_meet
                                case rel => exact ⟨_, (true), (by first | rfl | (simp; done) | (simp [*]; done)), H', ⟨by have := HJ3.out; have := HJ16.out; have := HK3.out; first | omega | exact Nat.le_refl _⟩, ⟨by (with_reducible repeat (first | apply Kd.R_alloc | apply Kd.R_drewN | apply Kd.R_drew)); exact Kd.R_mono HO_11.out (fun _ hk => trivial)⟩, ⟨by repeat (first | (with_reducible first | exact HB.out | apply below_alloc | apply pw_below_drewN | apply below_drew1) | exact HB.out)⟩⟩
                            case rest => as_aux_lemma =>
                              clear HC44
                              try clear c1
                              try clear c2
                              try clear p2
                              try clear c3
                              try clear c4
                              try clear p4
                              try clear q4
                              try clear hx4
                              try clear c5
                              try clear c5b0
                              try clear c5b1
                              try clear p6
                              try clear c7
                              try clear c11
                              try clear c11b0
                              try clear c12
                              try clear c12b0
                              try clear c13
                              try clear c13b0
                              try clear c13b1
                              try clear c21
                              try clear c21b0
                              try clear c21b1
                              try clear c22
                              try clear c22b0
                              try clear c22b1
                              try clear c23
                              try clear c23b0
                              try clear c23b1
                              try clear c25
                              try clear c25b0
                              try clear c26
                              try clear c26b0
                              try clear c29
                              try clear c30
                              try clear c30b0
                              try clear c30b1
                              try clear c31
                              try clear c31b0
                              try clear c32
                              try clear c32b0
                              try clear c34
                              try clear c35
                              try clear c35b0
                              try clear c37
                              try clear c37b0
                              try clear c38
                              try clear c38b0
                              try clear c39
                              try clear c39b0
                              try clear p43
                              try clear q43
                              try clear hx43
                              try clear p44
                              try clear q44
                              try clear hx44
                              try clear p45
                              try clear q45
                              try clear hx45
                              try clear c46
                              try clear c46b0
                              try clear c46b1
                              try clear c48
                              try clear c48b0
                              try clear c49
                              try clear c49b0
                              try clear c50
                              try clear c50b0
                              try clear c50b1
                              try clear hx437_0
                              try clear hx448_0
                              try clear hx451_0
                              try clear hx453_0
                              try clear hx454_0
                              try clear hx455_0
                              try clear hx456_0
                              try clear hx457_0
                              try clear p2
                              try clear p4
                              try clear p437
                              try clear p448
                              try clear p451
                              try clear p453
                              try clear p454
                              try clear p455
                              try clear p456
                              try clear p457
                              try clear p6
                              try clear q4
                              try clear q437
                              try clear q448
                              try clear q451
                              try clear q453
                              try clear q454
                              try clear q455
                              try clear q456
                              try clear q457
                              obtain ⟨kq, x158_43, rfl, HA, HJ43, HO_11, HB⟩ := hcut
                              cases kq with
                              | zero => exact absurd HA.out (by simp [trishawlaw04_StampPaid.j3])
                              | succ kj43 =>
                                have H := HA.out
                                clear HA
                                simp only [trishawlaw04_StampPaid.j3] at H
                                by_cases c53 : x158_43 = true
                                · subst c53
                                  have H1 : (some false) = some r := by rw [if_pos rfl] at H; exact H
                                  clear H
                                  have H := H1
                                  clear H1
                                  obtain rfl := Option.some.inj H
                                  go_wp2
                                  repeat (go_quiet (fail); try go_wp2)
                                  go_ret
                                  exact ⟨by first | rfl | (simp [errW_none, errW_some] <;> rfl) | (simp only [← hji10]; first | rfl | (simp [errW_none, errW_some] <;> rfl)) | (simp [*, errW_none, errW_some] <;> rfl), by repeat (first | (with_reducible first | exact HB.out | apply below_alloc | apply pw_below_drewN | apply below_drew1) | exact HB.out)⟩
                                · replace c53 := Bool.eq_false_iff.mpr c53
                                  subst c53
                                  have H1 : ((stamp_Greedy.f a0 l1).bind fun bt458 => (if bt458.2 = 0 then (if bt458.1 < 1 then (trishawlaw04_StampPaid.j4 kj43 a0 l1 (X8) bt458.2 bt458.1 true) else (if bt458.1 > (T7) then (trishawlaw04_StampPaid.j4 kj43 a0 l1 (X8) bt458.2 bt458.1 true) else (if 0 ≤ bt458.1 then (if bt458.1 < (t442.length : Int) then (trishawlaw04_StampPaid.j4 kj43 a0 l1 (X8) bt458.2 bt458.1 (decide ((rd t442 bt458.1) < 0))) else (none)) else (none)))) else (if bt458.2 = 10 then (trishawlaw04_StampPaid.j4 kj43 a0 l1 (X8) bt458.2 bt458.1 false) else (trishawlaw04_StampPaid.j4 kj43 a0 l1 (X8) bt458.2 bt458.1 true)))) = some r := by rw [if_neg (show ¬ (false = true) by decide)] at H; exact H
                                  clear H
                                  have H := H1
                                  clear H1
                                  replace H := Option.bind_eq_some_iff.mp H
                                  obtain ⟨⟨t458, t459⟩, A540, H⟩ := H
                                  replace H : (if t459 = 0 then (if t458 < 1 then (trishawlaw04_StampPaid.j4 kj43 a0 l1 (X8) t459 t458 true) else (if t458 > (T7) then (trishawlaw04_StampPaid.j4 kj43 a0 l1 (X8) t459 t458 true) else (if 0 ≤ t458 then (if t458 < (t442.length : Int) then (trishawlaw04_StampPaid.j4 kj43 a0 l1 (X8) t459 t458 (decide ((rd t442 t458) < 0))) else (none)) else (none)))) else (if t459 = 10 then (trishawlaw04_StampPaid.j4 kj43 a0 l1 (X8) t459 t458 false) else (trishawlaw04_StampPaid.j4 kj43 a0 l1 (X8) t459 t458 true))) = some r := H
                                  have A54 := Aside0.mk A540
                                  clear A540
                                  have HC55 := Aside0.mk H
                                  clear H
                                  go_upto_region 22 with (first | (go_at_call 36; (with_reducible refine (stamp_Greedy.calls a0 _ _ l1 t458 t459 _ ?side1 ?side2 A54.out).mono ?_); (case side1 => repeat (first | exact (Kd.C_below HR1.out HB.out) | (with_reducible refine Kd.C_alloc ?_ _) | (with_reducible refine Kd.C_drewN ?_ _) | (with_reducible refine Kd.C_drew ?_))); (case side2 => exact HC1.out); rintro e w56 ⟨rfl, hb⟩; have n0_ := Aside0.mk (Kd.R_below (by (with_reducible repeat (first | apply Kd.R_alloc | apply Kd.R_drewN | apply Kd.R_drew)); exact HO_11.out) hb); have n1_ := Aside0.mk (below_step (by repeat (first | (with_reducible first | exact HB.out | apply below_alloc | apply pw_below_drewN | apply below_drew1) | exact HB.out)) hb); clear HO_11; clear HB; have HO_11 := n0_; have HB := n1_; clear n0_ n1_; (try clear hb); (try clear hb2); (try clear hk); (try clear hi)))
                                  repeat (go_quiet (first | (go_at_call 36; (with_reducible refine (stamp_Greedy.calls a0 _ _ l1 t458 t459 _ ?side1 ?side2 A54.out).mono ?_); (case side1 => repeat (first | exact (Kd.C_below HR1.out HB.out) | (with_reducible refine Kd.C_alloc ?_ _) | (with_reducible refine Kd.C_drewN ?_ _) | (with_reducible refine Kd.C_drew ?_))); (case side2 => exact HC1.out); rintro e w56 ⟨rfl, hb⟩; have n0_ := Aside0.mk (Kd.R_below (by (with_reducible repeat (first | apply Kd.R_alloc | apply Kd.R_drewN | apply Kd.R_drew)); exact HO_11.out) hb); have n1_ := Aside0.mk (below_step (by repeat (first | (with_reducible first | exact HB.out | apply below_alloc | apply pw_below_drewN | apply below_drew1) | exact HB.out)) hb); clear HO_11; clear HB; have HO_11 := n0_; have HB := n1_; clear n0_ n1_; (try clear hb); (try clear hb2); (try clear hk); (try clear hi))); go_upto_region 22 with (first | (go_at_call 36; (with_reducible refine (stamp_Greedy.calls a0 _ _ l1 t458 t459 _ ?side1 ?side2 A54.out).mono ?_); (case side1 => repeat (first | exact (Kd.C_below HR1.out HB.out) | (with_reducible refine Kd.C_alloc ?_ _) | (with_reducible refine Kd.C_drewN ?_ _) | (with_reducible refine Kd.C_drew ?_))); (case side2 => exact HC1.out); rintro e w56 ⟨rfl, hb⟩; have n0_ := Aside0.mk (Kd.R_below (by (with_reducible repeat (first | apply Kd.R_alloc | apply Kd.R_drewN | apply Kd.R_drew)); exact HO_11.out) hb); have n1_ := Aside0.mk (below_step (by repeat (first | (with_reducible first | exact HB.out | apply below_alloc | apply pw_below_drewN | apply below_drew1) | exact HB.out)) hb); clear HO_11; clear HB; have HO_11 := n0_; have HB := n1_; clear n0_ n1_; (try clear hb); (try clear hb2); (try clear hk); (try clear hi))))
                                  (try simp only [Act.put, List.setIfInBounds_toArray, List.set_cons_zero, List.set_cons_succ])
                                  go_cut [190] (fun v190 wc => ∃ (kq : Nat) (x190_54 : Bool), v190 = .bool x190_54 ∧ Aside0 (trishawlaw04_StampPaid.j4 kq a0 l1 (X8) t459 t458 x190_54 = some r) ∧ Aside0 (kq ≤ kj43) ∧ Aside0 (Below w.heap.size w wc))
                                  case first => as_aux_lemma =>
                                    have H := HC55.out
                                    clear HC55
                                    by_cases c57 : t459 = 0
                                    · rw [if_pos c57] at H
                                      have c57b0 : (t459 == 0) = true := beq_iff_eq.mpr c57
                                      have c57b1 : (t459 != 0) = false := bne_eq_false_iff_eq.mpr c57
                                      clear c57
                                      (first | rw [c57b0] | (simp only [i64_w, i32_w]; rw [c57b0]) | skip)
                                      by_cases c58 : t458 < 1
                                      · rw [if_pos c58] at H
                                        have c58b0 : decide (t458 < 1) = true := decide_eq_true c58
                                        clear c58
                                        have H' := Aside0.mk H
                                        clear H
                                        go_wp2
                                        repeat (go_quiet (fail); try go_wp2)
                                        go_meet
                                        case rel => exact ⟨_, (true), (by first | rfl | (simp; done) | (simp [*]; done)), H', ⟨by have := HJ3.out; have := HJ16.out; have := HK3.out; have := HJ43.out; first | omega | exact Nat.le_refl _⟩, ⟨by repeat (first | (with_reducible first | exact HB.out | apply below_alloc | apply pw_below_drewN | apply below_drew1) | exact HB.out)⟩⟩
                                      · rw [if_neg c58] at H
                                        have c58b0 : decide (t458 < 1) = false := decide_eq_false c58
                                        clear c58
                                        by_cases c59 : t458 > (T7)
                                        · rw [if_pos c59] at H
                                          have c59b0 : decide ((T7) < t458) = true := decide_eq_true c59
                                          clear c59
                                          have H' := Aside0.mk H
                                          clear H
                                          go_wp2
                                          repeat (go_quiet (fail); try go_wp2)
                                          go_meet
                                          case rel => exact ⟨_, (true), (by first | rfl | (simp; done) | (simp [*]; done)), H', ⟨by have := HJ3.out; have := HJ16.out; have := HK3.out; have := HJ43.out; first | omega | exact Nat.le_refl _⟩, ⟨by repeat (first | (with_reducible first | exact HB.out | apply below_alloc | apply pw_below_drewN | apply below_drew1) | exact HB.out)⟩⟩
                                        · rw [if_neg c59] at H
                                          have c59b0 : decide ((T7) < t458) = false := decide_eq_false c59
                                          clear c59
                                          by_cases c60 : 0 ≤ t458
                                          · rw [if_pos c60] at H
                                            have c60b0 : decide (0 ≤ t458) = true := decide_eq_true c60
                                            clear c60
                                            by_cases c61 : t458 < (t442.length : Int)
                                            · rw [if_pos c61] at H
                                              have c61b0 : decide (t458 < (t442.length : Int)) = true := decide_eq_true c61
                                              clear c61
                                              have H' := Aside0.mk H
                                              clear H
                                              obtain ⟨Ao62, co62, eo62⟩ := Kd.R_slice HO_11.out
                                              subst eo62
                                              have p460 : 0 ≤ (t458 : Int) := of_decide_eq_true (by first | (with_reducible assumption) | assumption)
                                              have q460 : t458 < (t442.length : Int) := of_decide_eq_true (by first | (with_reducible assumption) | assumption)
                                              obtain ⟨ad460, e460, hx460_0⟩ := Kd.at_int (Kd.R_reads' HO_11.out).2.2 t458 p460 q460
                                              cases e460
                                              replace p460 := eq_true p460
                                              replace q460 := eq_true q460
                                              go_wp2
                                              repeat (go_quiet (fail); try go_wp2)
                                              go_meet
                                              case rel => exact ⟨_, (decide ((rd t442 t458) < 0)), (by first | rfl | (simp; done) | (simp [*]; done)), H', ⟨by have := HJ3.out; have := HJ16.out; have := HK3.out; have := HJ43.out; first | omega | exact Nat.le_refl _⟩, ⟨by repeat (first | (with_reducible first | exact HB.out | apply below_alloc | apply pw_below_drewN | apply below_drew1) | exact HB.out)⟩⟩
                                            · rw [if_neg c61] at H
                                              exact absurd H (by simp)
                                          · rw [if_neg c60] at H
                                            exact absurd H (by simp)
                                    · rw [if_neg c57] at H
                                      have c57b0 : (t459 == 0) = false := beq_eq_false_iff_ne.mpr c57
                                      have c57b1 : (t459 != 0) = true := bne_iff_ne.mpr c57
                                      (first | rw [c57b0] | (simp only [i64_w, i32_w]; rw [c57b0]) | skip)
                                      by_cases c63 : t459 = 10
                                      · rw [if_pos c63] at H
                                        have c63b0 : (t459 == 10) = true := beq_iff_eq.mpr c63
                                        have c63b1 : (t459 != 10) = false := bne_eq_false_iff_eq.mpr c63
                                        clear c63
                                        have H' := Aside0.mk H
                                        clear H
                                        go_wp2
                                        repeat (go_quiet (fail); try go_wp2)
                                        go_meet
                                        case rel => exact ⟨_, (false), (by first | rfl | (simp; done) | (simp [*]; done)), H', ⟨by have := HJ3.out; have := HJ16.out; have := HK3.out; have := HJ43.out; first | omega | exact Nat.le_refl _⟩, ⟨by repeat (first | (with_reducible first | exact HB.out | apply below_alloc | apply pw_below_drewN | apply below_drew1) | exact HB.out)⟩⟩
                                      · rw [if_neg c63] at H
                                        have c63b0 : (t459 == 10) = false := beq_eq_false_iff_ne.mpr c63
                                        have c63b1 : (t459 != 10) = true := bne_iff_ne.mpr c63
                                        have H' := Aside0.mk H
                                        clear H
                                        go_wp2
                                        repeat (go_quiet (fail); try go_wp2)
                                        go_meet
                                        case rel => exact ⟨_, (true), (by first | rfl | (simp; done) | (simp [*]; done)), H', ⟨by have := HJ3.out; have := HJ16.out; have := HK3.out; have := HJ43.out; first | omega | exact Nat.le_refl _⟩, ⟨by repeat (first | (with_reducible first | exact HB.out | apply below_alloc | apply pw_below_drewN | apply below_drew1) | exact HB.out)⟩⟩
                                  case rest => as_aux_lemma =>
                                    clear HC55
                                    try clear c1
                                    try clear c2
                                    try clear p2
                                    try clear c3
                                    try clear c4
                                    try clear p4
                                    try clear q4
                                    try clear hx4
                                    try clear c5
                                    try clear c5b0
                                    try clear c5b1
                                    try clear c6
                                    try clear p6
                                    try clear c7
                                    try clear c11
                                    try clear c11b0
                                    try clear c12
                                    try clear c12b0
                                    try clear c13
                                    try clear c13b0
                                    try clear c13b1
                                    try clear c21
                                    try clear c21b0
                                    try clear c21b1
                                    try clear c22
                                    try clear c22b0
                                    try clear c22b1
                                    try clear c23
                                    try clear c23b0
                                    try clear c23b1
                                    try clear c25
                                    try clear c25b0
                                    try clear c26
                                    try clear c26b0
                                    try clear c29
                                    try clear c30
                                    try clear c30b0
                                    try clear c30b1
                                    try clear c31
                                    try clear c31b0
                                    try clear c32
                                    try clear c32b0
                                    try clear c34
                                    try clear c35
                                    try clear c35b0
                                    try clear c37
                                    try clear c37b0
                                    try clear c38
                                    try clear c38b0
                                    try clear c39
                                    try clear c39b0
                                    try clear p43
                                    try clear q43
                                    try clear hx43
                                    try clear p44
                                    try clear q44
                                    try clear hx44
                                    try clear p45
                                    try clear q45
                                    try clear hx45
                                    try clear c46
                                    try clear c46b0
                                    try clear c46b1
                                    try clear p46
                                    try clear q46
                                    try clear hx46
                                    try clear c48
                                    try clear c48b0
                                    try clear c49
                                    try clear c49b0
                                    try clear c50
                                    try clear c50b0
                                    try clear c50b1
                                    try clear c53
                                    try clear c57
                                    try clear c57b0
                                    try clear c57b1
                                    try clear c58
                                    try clear c58b0
                                    try clear c59
                                    try clear c59b0
                                    try clear c60
                                    try clear c60b0
                                    try clear c61
                                    try clear c61b0
                                    try clear c63
                                    try clear c63b0
                                    try clear c63b1
                                    try clear hx437_0
                                    try clear hx448_0
                                    try clear hx451_0
                                    try clear hx453_0
                                    try clear hx454_0
                                    try clear hx455_0
                                    try clear hx456_0
                                    try clear hx457_0
                                    try clear hx460_0
                                    try clear p2
                                    try clear p4
                                    try clear p43
                                    try clear p437
                                    try clear p44
                                    try clear p448
                                    try clear p45
                                    try clear p451
                                    try clear p453
                                    try clear p454
                                    try clear p455
                                    try clear p456
                                    try clear p457
                                    try clear p460
                                    try clear p6
                                    try clear q4
                                    try clear q43
                                    try clear q437
                                    try clear q44
                                    try clear q448
                                    try clear q45
                                    try clear q451
                                    try clear q453
                                    try clear q454
                                    try clear q455
                                    try clear q456
                                    try clear q457
                                    try clear q460
                                    obtain ⟨kq, x190_54, rfl, HA, HJ54, HB⟩ := hcut
                                    cases kq with
                                    | zero => exact absurd HA.out (by simp [trishawlaw04_StampPaid.j4])
                                    | succ kj54 =>
                                      have H := HA.out
                                      clear HA
                                      simp only [trishawlaw04_StampPaid.j4] at H
                                      by_cases c64 : x190_54 = true
                                      · subst c64
                                        have H1 : (some false) = some r := by rw [if_pos rfl] at H; exact H
                                        clear H
                                        have H := H1
                                        clear H1
                                        obtain rfl := Option.some.inj H
                                        go_wp2
                                        repeat (go_quiet (fail); try go_wp2)
                                        go_ret
                                        exact ⟨by first | rfl | (simp [errW_none, errW_some] <;> rfl) | (simp only [← hji10]; first | rfl | (simp [errW_none, errW_some] <;> rfl)) | (simp [*, errW_none, errW_some] <;> rfl), by repeat (first | (with_reducible first | exact HB.out | apply below_alloc | apply pw_below_drewN | apply below_drew1) | exact HB.out)⟩
                                      · replace c64 := Bool.eq_false_iff.mpr c64
                                        subst c64
                                        have H1 : (if t459 = 0 then (trishawlaw04_StampPaid.j5 kj54 a0 l1 (X8) (decide ((X8) ≥ t458))) else (trishawlaw04_StampPaid.j5 kj54 a0 l1 (X8) false)) = some r := by rw [if_neg (show ¬ (false = true) by decide)] at H; exact H
                                        clear H
                                        have H := H1
                                        clear H1
                                        have HC65 := Aside0.mk H
                                        clear H
                                        go_upto_region 24 with (fail)
                                        repeat (go_quiet (fail); go_upto_region 24 with (fail))
                                        go_cut [197] (fun v197 wc => ∃ (kq : Nat) (x197_64 : Bool), v197 = .bool x197_64 ∧ Aside0 (trishawlaw04_StampPaid.j5 kq a0 l1 (X8) x197_64 = some r) ∧ Aside0 (kq ≤ kj54) ∧ Aside0 (Below w.heap.size w wc))
                                        case first => as_aux_lemma =>
                                          have H := HC65.out
                                          clear HC65
                                          by_cases c66 : t459 = 0
                                          · rw [if_pos c66] at H
                                            have c66b0 : (t459 == 0) = true := beq_iff_eq.mpr c66
                                            have c66b1 : (t459 != 0) = false := bne_eq_false_iff_eq.mpr c66
                                            clear c66
                                            (first | rw [c66b0] | (simp only [i64_w, i32_w]; rw [c66b0]) | skip)
                                            have H' := Aside0.mk H
                                            clear H
                                            go_wp2
                                            repeat (go_quiet (fail); try go_wp2)
                                            go_meet
                                            case rel => exact ⟨_, (decide ((X8) ≥ t458)), (by first | rfl | (simp; done) | (simp only [← hji10] <;> (first | rfl | simp)) | (simp [*]; done)), H', ⟨by have := HJ3.out; have := HJ16.out; have := HK3.out; have := HJ43.out; have := HJ54.out; first | omega | exact Nat.le_refl _⟩, ⟨by repeat (first | (with_reducible first | exact HB.out | apply below_alloc | apply pw_below_drewN | apply below_drew1) | exact HB.out)⟩⟩
                                          · rw [if_neg c66] at H
                                            have c66b0 : (t459 == 0) = false := beq_eq_false_iff_ne.mpr c66
                                            have c66b1 : (t459 != 0) = true := bne_iff_ne.mpr c66
                                            (first | rw [c66b0] | (simp only [i64_w, i32_w]; rw [c66b0]) | skip)
                                            have H' := Aside0.mk H
                                            clear H
                                            go_wp2
                                            repeat (go_quiet (fail); try go_wp2)
                                            go_meet
                                            case rel => exact ⟨_, (false), (by first | rfl | (simp; done) | (simp [*]; done)), H', ⟨by have := HJ3.out; have := HJ16.out; have := HK3.out; have := HJ43.out; have := HJ54.out; first | omega | exact Nat.le_refl _⟩, ⟨by repeat (first | (with_reducible first | exact HB.out | apply below_alloc | apply pw_below_drewN | apply below_drew1) | exact HB.out)⟩⟩
                                        case rest => as_aux_lemma =>
                                          clear HC65
                                          try clear c1
                                          try clear c2
                                          try clear p2
                                          try clear c3
                                          try clear c4
                                          try clear p4
                                          try clear q4
                                          try clear hx4
                                          try clear c5
                                          try clear c5b0
                                          try clear c5b1
                                          try clear c6
                                          try clear p6
                                          try clear c7
                                          try clear c11
                                          try clear c11b0
                                          try clear c12
                                          try clear c12b0
                                          try clear c13
                                          try clear c13b0
                                          try clear c13b1
                                          try clear c21
                                          try clear c21b0
                                          try clear c21b1
                                          try clear c22
                                          try clear c22b0
                                          try clear c22b1
                                          try clear c23
                                          try clear c23b0
                                          try clear c23b1
                                          try clear c25
                                          try clear c25b0
                                          try clear c26
                                          try clear c26b0
                                          try clear c29
                                          try clear c30
                                          try clear c30b0
                                          try clear c30b1
                                          try clear c31
                                          try clear c31b0
                                          try clear c32
                                          try clear c32b0
                                          try clear c34
                                          try clear c35
                                          try clear c35b0
                                          try clear c37
                                          try clear c37b0
                                          try clear c38
                                          try clear c38b0
                                          try clear c39
                                          try clear c39b0
                                          try clear p43
                                          try clear q43
                                          try clear hx43
                                          try clear p44
                                          try clear q44
                                          try clear hx44
                                          try clear p45
                                          try clear q45
                                          try clear hx45
                                          try clear c46
                                          try clear c46b0
                                          try clear c46b1
                                          try clear p46
                                          try clear q46
                                          try clear hx46
                                          try clear c48
                                          try clear c48b0
                                          try clear c49
                                          try clear c49b0
                                          try clear c50
                                          try clear c50b0
                                          try clear c50b1
                                          try clear c53
                                          try clear c57
                                          try clear c57b0
                                          try clear c57b1
                                          try clear c58
                                          try clear c58b0
                                          try clear c59
                                          try clear c59b0
                                          try clear c60
                                          try clear c60b0
                                          try clear c61
                                          try clear c61b0
                                          try clear c63
                                          try clear c63b0
                                          try clear c63b1
                                          try clear c64
                                          try clear p64
                                          try clear c66
                                          try clear c66b0
                                          try clear c66b1
                                          try clear hx437_0
                                          try clear hx448_0
                                          try clear hx451_0
                                          try clear hx453_0
                                          try clear hx454_0
                                          try clear hx455_0
                                          try clear hx456_0
                                          try clear hx457_0
                                          try clear hx460_0
                                          try clear p2
                                          try clear p4
                                          try clear p43
                                          try clear p437
                                          try clear p44
                                          try clear p448
                                          try clear p45
                                          try clear p451
                                          try clear p453
                                          try clear p454
                                          try clear p455
                                          try clear p456
                                          try clear p457
                                          try clear p46
                                          try clear p460
                                          try clear p6
                                          try clear q4
                                          try clear q43
                                          try clear q437
                                          try clear q44
                                          try clear q448
                                          try clear q45
                                          try clear q451
                                          try clear q453
                                          try clear q454
                                          try clear q455
                                          try clear q456
                                          try clear q457
                                          try clear q46
                                          try clear q460
                                          obtain ⟨kq, x197_64, rfl, HA, HJ64, HB⟩ := hcut
                                          cases kq with
                                          | zero => exact absurd HA.out (by simp [trishawlaw04_StampPaid.j5])
                                          | succ kj64 =>
                                            have H := HA.out
                                            clear HA
                                            simp only [trishawlaw04_StampPaid.j5] at H
                                            by_cases c67 : x197_64 = true
                                            · subst c67
                                              have H1 : ((trishawlaw04_alive.f).bind fun t461 => (some t461)) = some r := by rw [if_pos rfl] at H; exact H
                                              clear H
                                              have H := H1
                                              clear H1
                                              replace H := Option.bind_eq_some_iff.mp H
                                              obtain ⟨t461, A680, H⟩ := H
                                              replace H : (some t461) = some r := H
                                              have A68 := Aside0.mk A680
                                              clear A680
                                              obtain rfl := Option.some.inj H
                                              go_wp2_with (first | (go_at_call 16; (with_reducible refine (trishawlaw04_alive.calls  t461 _ A68.out).mono ?_); rintro e w69 ⟨rfl, hb⟩; have n0_ := Aside0.mk (below_step (by repeat (first | (with_reducible first | exact HB.out | apply below_alloc | apply pw_below_drewN | apply below_drew1) | exact HB.out)) hb); clear HB; have HB := n0_; clear n0_; (try clear hb); (try clear hb2); (try clear hk); (try clear hi)))
                                              repeat (go_quiet (first | (go_at_call 16; (with_reducible refine (trishawlaw04_alive.calls  t461 _ A68.out).mono ?_); rintro e w69 ⟨rfl, hb⟩; have n0_ := Aside0.mk (below_step (by repeat (first | (with_reducible first | exact HB.out | apply below_alloc | apply pw_below_drewN | apply below_drew1) | exact HB.out)) hb); clear HB; have HB := n0_; clear n0_; (try clear hb); (try clear hb2); (try clear hk); (try clear hi))); try go_wp2_with (first | (go_at_call 16; (with_reducible refine (trishawlaw04_alive.calls  t461 _ A68.out).mono ?_); rintro e w69 ⟨rfl, hb⟩; have n0_ := Aside0.mk (below_step (by repeat (first | (with_reducible first | exact HB.out | apply below_alloc | apply pw_below_drewN | apply below_drew1) | exact HB.out)) hb); clear HB; have HB := n0_; clear n0_; (try clear hb); (try clear hb2); (try clear hk); (try clear hi))))
                                              go_ret
                                              exact ⟨by first | rfl | (simp [errW_none, errW_some] <;> rfl) | (simp only [← hji10]; first | rfl | (simp [errW_none, errW_some] <;> rfl)) | (simp [*, errW_none, errW_some] <;> rfl), by repeat (first | (with_reducible first | exact HB.out | apply below_alloc | apply pw_below_drewN | apply below_drew1) | exact HB.out)⟩
                                            · replace c67 := Bool.eq_false_iff.mpr c67
                                              subst c67
                                              have H1 : (trishawlaw04_StampPaid.l1 kj64 a0 l1 0 (X8) (wrap64 ((l1.length : Int) - 1))) = some r := by rw [if_neg (show ¬ (false = true) by decide)] at H; exact H
                                              clear H
                                              have H := H1
                                              clear H1
                                              have H' := Aside0.mk H
                                              clear H
                                              go_wp2
                                              repeat (go_quiet (fail); try go_wp2)
                                              go_loopg [18, 19, 20] kj64 (fun kq v18 v19 v20 w' => ∃ (x18_7 : Int) (x19_7 : Int) (x20_7 : Int), v18 = .int .i64 x18_7 ∧ v19 = .int .i64 x19_7 ∧ v20 = .int .i64 x20_7 ∧ Aside0 (trishawlaw04_StampPaid.l1 kq a0 l1 x18_7 x19_7 x20_7 = some r) ∧ Aside0 (kq ≤ kj64) ∧ Aside0 (Below w.heap.size w w'))
                                              case atStart => exact ⟨(0), ((X8)), (wrap64 ((l1.length : Int) - 1)), (by first | rfl | (simp; done) | (simp [*]; done)), (by first | rfl | (simp; done) | (simp only [← hji10] <;> (first | rfl | simp)) | (simp [*]; done)), (by first | rfl | (simp; done) | (simp [*]; done)), H', ⟨Nat.le_refl _⟩, ⟨by repeat (first | (with_reducible first | exact HB.out | apply below_alloc | apply pw_below_drewN | apply below_drew1) | exact HB.out)⟩⟩
                                              case round => as_aux_lemma =>
                                                clear H'
                                                try clear c1
                                                try clear c2
                                                try clear p2
                                                try clear c3
                                                try clear c4
                                                try clear p4
                                                try clear q4
                                                try clear hx4
                                                try clear c5
                                                try clear c5b0
                                                try clear c5b1
                                                try clear c6
                                                try clear p6
                                                try clear c7
                                                try clear c11
                                                try clear c11b0
                                                try clear c12
                                                try clear c12b0
                                                try clear c13
                                                try clear c13b0
                                                try clear c13b1
                                                try clear c21
                                                try clear c21b0
                                                try clear c21b1
                                                try clear c22
                                                try clear c22b0
                                                try clear c22b1
                                                try clear c23
                                                try clear c23b0
                                                try clear c23b1
                                                try clear c25
                                                try clear c25b0
                                                try clear c26
                                                try clear c26b0
                                                try clear c29
                                                try clear c30
                                                try clear c30b0
                                                try clear c30b1
                                                try clear c31
                                                try clear c31b0
                                                try clear c32
                                                try clear c32b0
                                                try clear c34
                                                try clear c35
                                                try clear c35b0
                                                try clear c37
                                                try clear c37b0
                                                try clear c38
                                                try clear c38b0
                                                try clear c39
                                                try clear c39b0
                                                try clear p43
                                                try clear q43
                                                try clear hx43
                                                try clear p44
                                                try clear q44
                                                try clear hx44
                                                try clear p45
                                                try clear q45
                                                try clear hx45
                                                try clear c46
                                                try clear c46b0
                                                try clear c46b1
                                                try clear p46
                                                try clear q46
                                                try clear hx46
                                                try clear c48
                                                try clear c48b0
                                                try clear c49
                                                try clear c49b0
                                                try clear c50
                                                try clear c50b0
                                                try clear c50b1
                                                try clear c53
                                                try clear c57
                                                try clear c57b0
                                                try clear c57b1
                                                try clear c58
                                                try clear c58b0
                                                try clear c59
                                                try clear c59b0
                                                try clear c60
                                                try clear c60b0
                                                try clear c61
                                                try clear c61b0
                                                try clear c63
                                                try clear c63b0
                                                try clear c63b1
                                                try clear c64
                                                try clear p64
                                                try clear c66
                                                try clear c66b0
                                                try clear c66b1
                                                try clear c67
                                                try clear hx437_0
                                                try clear hx448_0
                                                try clear hx451_0
                                                try clear hx453_0
                                                try clear hx454_0
                                                try clear hx455_0
                                                try clear hx456_0
                                                try clear hx457_0
                                                try clear hx460_0
                                                try clear p2
                                                try clear p4
                                                try clear p43
                                                try clear p437
                                                try clear p44
                                                try clear p448
                                                try clear p45
                                                try clear p451
                                                try clear p453
                                                try clear p454
                                                try clear p455
                                                try clear p456
                                                try clear p457
                                                try clear p46
                                                try clear p460
                                                try clear p6
                                                try clear p64
                                                try clear q4
                                                try clear q43
                                                try clear q437
                                                try clear q44
                                                try clear q448
                                                try clear q45
                                                try clear q451
                                                try clear q453
                                                try clear q454
                                                try clear q455
                                                try clear q456
                                                try clear q457
                                                try clear q46
                                                try clear q460
                                                obtain ⟨x18_7, x19_7, x20_7, rfl, rfl, rfl, HA, HK7, HB⟩ := hrel
                                                cases gk with
                                                | zero => exact absurd HA.out (by simp [trishawlaw04_StampPaid.l1])
                                                | succ k7 =>
                                                  have H := HA.out
                                                  clear HA
                                                  simp only [trishawlaw04_StampPaid.l1] at H
                                                  by_cases c70 : x20_7 ≥ 0
                                                  · rw [if_pos c70] at H
                                                    have c70b0 : decide (0 ≤ x20_7) = true := decide_eq_true c70
                                                    clear c70
                                                    by_cases c71 : 0 ≤ x20_7
                                                    · rw [if_pos c71] at H
                                                      have c71b0 : decide (0 ≤ x20_7) = true := decide_eq_true c71
                                                      clear c71
                                                      by_cases c72 : x20_7 < (l1.length : Int)
                                                      · rw [if_pos c72] at H
                                                        have c72b0 : decide (x20_7 < (l1.length : Int)) = true := decide_eq_true c72
                                                        clear c72
                                                        by_cases c73 : (rd l1 x20_7) = 0
                                                        · rw [if_pos c73] at H
                                                          exact absurd H (by simp)
                                                        · rw [if_neg c73] at H
                                                          have c73b0 : ((rd l1 x20_7) == 0) = false := beq_eq_false_iff_ne.mpr c73
                                                          have c73b1 : ((rd l1 x20_7) != 0) = true := bne_iff_ne.mpr c73
                                                          have H' := Aside0.mk H
                                                          clear H
                                                          have p462 : 0 ≤ (x20_7 : Int) := of_decide_eq_true (by first | (with_reducible assumption) | assumption)
                                                          have q462 : x20_7 < (l1.length : Int) := of_decide_eq_true (by first | (with_reducible assumption) | assumption)
                                                          obtain ⟨ad462, e462, hx462_0⟩ := Kd.at_int HR1.out x20_7 p462 q462
                                                          obtain rfl : ad437 = ad462 := (by injection e462)
                                                          replace hx462_0 := (HB.out.cell (World.block_lt_of_cell? w _ hx462_0)).trans hx462_0
                                                          replace p462 := eq_true p462
                                                          replace q462 := eq_true q462
                                                          have p463 : 0 ≤ (x20_7 : Int) := of_decide_eq_true (by first | (with_reducible assumption) | assumption)
                                                          have q463 : x20_7 < (l1.length : Int) := of_decide_eq_true (by first | (with_reducible assumption) | assumption)
                                                          obtain ⟨ad463, e463, hx463_0⟩ := Kd.at_int HR1.out x20_7 p463 q463
                                                          obtain rfl : ad437 = ad463 := (by injection e463)
                                                          replace hx463_0 := (HB.out.cell (World.block_lt_of_cell? w _ hx463_0)).trans hx463_0
                                                          replace p463 := eq_true p463
                                                          replace q463 := eq_true q463
                                                          go_wp2
                                                          repeat (go_quiet (fail); try go_wp2)
                                                          go_roundg k7
                                                          case measure => have := HJ3.out; have := HJ16.out; have := HK3.out; have := HJ43.out; have := HJ54.out; have := HJ64.out; have := HK7.out; omega
                                                          case rel => exact ⟨(wrap64 (x18_7 + (wrap64 (Int.tdiv x19_7 (rd l1 x20_7))))), (Int.tmod x19_7 (rd l1 x20_7)), (wrap64 (x20_7 - 1)), (by first | rfl | (simp; done) | (simp [*]; done)), (by first | rfl | (simp; done) | (simp [*]; done)), (by first | rfl | (simp; done) | (simp [*]; done)), H', ⟨by have := HJ3.out; have := HJ16.out; have := HK3.out; have := HJ43.out; have := HJ54.out; have := HJ64.out; have := HK7.out; omega⟩, ⟨by repeat (first | (with_reducible first | exact HB.out | apply below_alloc | apply pw_below_drewN | apply below_drew1) | exact HB.out)⟩⟩
                                                      · rw [if_neg c72] at H
                                                        exact absurd H (by simp)
                                                    · rw [if_neg c71] at H
                                                      exact absurd H (by simp)
                                                  · rw [if_neg c70] at H
                                                    have c70b0 : decide (0 ≤ x20_7) = false := decide_eq_false c70
                                                    clear c70
                                                    by_cases c74 : x19_7 = 0
                                                    · rw [if_pos c74] at H
                                                      have c74b0 : (x19_7 == 0) = true := beq_iff_eq.mpr c74
                                                      have c74b1 : (x19_7 != 0) = false := bne_eq_false_iff_eq.mpr c74
                                                      clear c74
                                                      by_cases c75 : x18_7 ≤ a0
                                                      · rw [if_pos c75] at H
                                                        have c75b0 : decide (x18_7 ≤ a0) = true := decide_eq_true c75
                                                        clear c75
                                                        replace H := Option.bind_eq_some_iff.mp H
                                                        obtain ⟨t464, A760, H⟩ := H
                                                        replace H : (some t464) = some r := H
                                                        have A76 := Aside0.mk A760
                                                        clear A760
                                                        obtain rfl := Option.some.inj H
                                                        go_wp2_with (first | (go_at_call 16; (with_reducible refine (trishawlaw04_alive.calls  t464 _ A76.out).mono ?_); rintro e w77 ⟨rfl, hb⟩; have n0_ := Aside0.mk (below_step (by repeat (first | (with_reducible first | exact HB.out | apply below_alloc | apply pw_below_drewN | apply below_drew1) | exact HB.out)) hb); clear HB; have HB := n0_; clear n0_; (try clear hb); (try clear hb2); (try clear hk); (try clear hi)))
                                                        repeat (go_quiet (first | (go_at_call 16; (with_reducible refine (trishawlaw04_alive.calls  t464 _ A76.out).mono ?_); rintro e w77 ⟨rfl, hb⟩; have n0_ := Aside0.mk (below_step (by repeat (first | (with_reducible first | exact HB.out | apply below_alloc | apply pw_below_drewN | apply below_drew1) | exact HB.out)) hb); clear HB; have HB := n0_; clear n0_; (try clear hb); (try clear hb2); (try clear hk); (try clear hi))); try go_wp2_with (first | (go_at_call 16; (with_reducible refine (trishawlaw04_alive.calls  t464 _ A76.out).mono ?_); rintro e w77 ⟨rfl, hb⟩; have n0_ := Aside0.mk (below_step (by repeat (first | (with_reducible first | exact HB.out | apply below_alloc | apply pw_below_drewN | apply below_drew1) | exact HB.out)) hb); clear HB; have HB := n0_; clear n0_; (try clear hb); (try clear hb2); (try clear hk); (try clear hi))))
                                                        go_ret
                                                        exact ⟨by first | rfl | (simp [errW_none, errW_some] <;> rfl) | (simp only [← hji10]; first | rfl | (simp [errW_none, errW_some] <;> rfl)) | (simp [*, errW_none, errW_some] <;> rfl), by repeat (first | (with_reducible first | exact HB.out | apply below_alloc | apply pw_below_drewN | apply below_drew1) | exact HB.out)⟩
                                                      · rw [if_neg c75] at H
                                                        have c75b0 : decide (x18_7 ≤ a0) = false := decide_eq_false c75
                                                        clear c75
                                                        obtain rfl := Option.some.inj H
                                                        go_wp2
                                                        repeat (go_quiet (fail); try go_wp2)
                                                        go_ret
                                                        exact ⟨by first | rfl | (simp [errW_none, errW_some] <;> rfl) | (simp only [← hji10]; first | rfl | (simp [errW_none, errW_some] <;> rfl)) | (simp [*, errW_none, errW_some] <;> rfl), by repeat (first | (with_reducible first | exact HB.out | apply below_alloc | apply pw_below_drewN | apply below_drew1) | exact HB.out)⟩
                                                    · rw [if_neg c74] at H
                                                      have c74b0 : (x19_7 == 0) = false := beq_eq_false_iff_ne.mpr c74
                                                      have c74b1 : (x19_7 != 0) = true := bne_iff_ne.mpr c74
                                                      obtain rfl := Option.some.inj H
                                                      go_wp2
                                                      repeat (go_quiet (fail); try go_wp2)
                                                      go_ret
                                                      exact ⟨by first | rfl | (simp [errW_none, errW_some] <;> rfl) | (simp only [← hji10]; first | rfl | (simp [errW_none, errW_some] <;> rfl)) | (simp [*, errW_none, errW_some] <;> rfl), by repeat (first | (with_reducible first | exact HB.out | apply below_alloc | apply pw_below_drewN | apply below_drew1) | exact HB.out)⟩
                    · rw [if_neg c30] at H
                      have c30b0 : (t439 == 0) = false := beq_eq_false_iff_ne.mpr c30
                      have c30b1 : (t439 != 0) = true := bne_iff_ne.mpr c30
                      by_cases c78 : t439 = 10
                      · rw [if_pos c78] at H
                        have c78b0 : (t439 == 10) = true := beq_iff_eq.mpr c78
                        have c78b1 : (t439 != 10) = false := bne_eq_false_iff_eq.mpr c78
                        clear c78
                        replace H : (if 0 ≤ (X8) then (if (X8) < (t442.length : Int) then (if (rd t442 (X8)) = (-1) then (if (t438.length : Int) = 0 then ((trishawlaw04_alive.f).bind fun t450 => (some t450)) else (some false)) else (some false)) else (none)) else (none)) = some r := H
                        by_cases c80 : 0 ≤ (X8)
                        · rw [if_pos c80] at H
                          have c80b0 : decide (0 ≤ (X8)) = true := decide_eq_true c80
                          clear c80
                          by_cases c81 : (X8) < (t442.length : Int)
                          · rw [if_pos c81] at H
                            have c81b0 : decide ((X8) < (t442.length : Int)) = true := decide_eq_true c81
                            clear c81
                            by_cases c82 : (rd t442 (X8)) = (-1)
                            · rw [if_pos c82] at H
                              have c82b0 : ((rd t442 (X8)) == (-1)) = true := beq_iff_eq.mpr c82
                              have c82b1 : ((rd t442 (X8)) != (-1)) = false := bne_eq_false_iff_eq.mpr c82
                              clear c82
                              by_cases c83 : (t438.length : Int) = 0
                              · rw [if_pos c83] at H
                                have c83b0 : ((t438.length : Int) == 0) = true := beq_iff_eq.mpr c83
                                have c83b1 : ((t438.length : Int) != 0) = false := bne_eq_false_iff_eq.mpr c83
                                clear c83
                                replace H := Option.bind_eq_some_iff.mp H
                                obtain ⟨t450, A840, H⟩ := H
                                replace H : (some t450) = some r := H
                                have A84 := Aside0.mk A840
                                clear A840
                                obtain rfl := Option.some.inj H
                                obtain ⟨Ao85, co85, eo85⟩ := Kd.R_slice HO_11.out
                                subst eo85
                                have p449 : 0 ≤ ((X8) : Int) := of_decide_eq_true (by first | (with_reducible assumption) | assumption)
                                have q449 : (X8) < (t442.length : Int) := of_decide_eq_true (by first | (with_reducible assumption) | assumption)
                                obtain ⟨ad449, e449, hx449_0⟩ := Kd.at_int (Kd.R_reads' HO_11.out).2.2 (X8) p449 q449
                                cases e449
                                replace p449 := eq_true p449
                                replace q449 := eq_true q449
                                obtain ⟨Ao86, co86, eo86⟩ := Kd.R_slice HO_9.out
                                subst eo86
                                go_wp2_with (first | (go_at_call 16; (with_reducible refine (trishawlaw04_alive.calls  t450 _ A84.out).mono ?_); rintro e w87 ⟨rfl, hb⟩; have n0_ := Aside0.mk (Kd.R_below (by (with_reducible repeat (first | apply Kd.R_alloc | apply Kd.R_drewN | apply Kd.R_drew)); exact HO_9.out) hb); have n1_ := Aside0.mk (Kd.R_below (by (with_reducible repeat (first | apply Kd.R_alloc | apply Kd.R_drewN | apply Kd.R_drew)); exact HO_11.out) hb); have n2_ := Aside0.mk (below_step (by repeat (first | (with_reducible first | exact HB.out | apply below_alloc | apply pw_below_drewN | apply below_drew1) | exact HB.out)) hb); clear HO_9; clear HO_11; clear HB; have HO_9 := n0_; have HO_11 := n1_; have HB := n2_; clear n0_ n1_ n2_; (try clear hb); (try clear hb2); (try clear hk); (try clear hi)))
                                repeat (go_quiet (first | (go_at_call 16; (with_reducible refine (trishawlaw04_alive.calls  t450 _ A84.out).mono ?_); rintro e w87 ⟨rfl, hb⟩; have n0_ := Aside0.mk (Kd.R_below (by (with_reducible repeat (first | apply Kd.R_alloc | apply Kd.R_drewN | apply Kd.R_drew)); exact HO_9.out) hb); have n1_ := Aside0.mk (Kd.R_below (by (with_reducible repeat (first | apply Kd.R_alloc | apply Kd.R_drewN | apply Kd.R_drew)); exact HO_11.out) hb); have n2_ := Aside0.mk (below_step (by repeat (first | (with_reducible first | exact HB.out | apply below_alloc | apply pw_below_drewN | apply below_drew1) | exact HB.out)) hb); clear HO_9; clear HO_11; clear HB; have HO_9 := n0_; have HO_11 := n1_; have HB := n2_; clear n0_ n1_ n2_; (try clear hb); (try clear hb2); (try clear hk); (try clear hi))); try go_wp2_with (first | (go_at_call 16; (with_reducible refine (trishawlaw04_alive.calls  t450 _ A84.out).mono ?_); rintro e w87 ⟨rfl, hb⟩; have n0_ := Aside0.mk (Kd.R_below (by (with_reducible repeat (first | apply Kd.R_alloc | apply Kd.R_drewN | apply Kd.R_drew)); exact HO_9.out) hb); have n1_ := Aside0.mk (Kd.R_below (by (with_reducible repeat (first | apply Kd.R_alloc | apply Kd.R_drewN | apply Kd.R_drew)); exact HO_11.out) hb); have n2_ := Aside0.mk (below_step (by repeat (first | (with_reducible first | exact HB.out | apply below_alloc | apply pw_below_drewN | apply below_drew1) | exact HB.out)) hb); clear HO_9; clear HO_11; clear HB; have HO_9 := n0_; have HO_11 := n1_; have HB := n2_; clear n0_ n1_ n2_; (try clear hb); (try clear hb2); (try clear hk); (try clear hi))))
                                go_ret
                                exact ⟨by first | rfl | (simp [errW_none, errW_some] <;> rfl) | (simp only [← hji10, ← hji79]; first | rfl | (simp [errW_none, errW_some] <;> rfl)) | (simp [*, errW_none, errW_some] <;> rfl), by repeat (first | (with_reducible first | exact HB.out | apply below_alloc | apply pw_below_drewN | apply below_drew1) | exact HB.out)⟩
                              · rw [if_neg c83] at H
                                have c83b0 : ((t438.length : Int) == 0) = false := beq_eq_false_iff_ne.mpr c83
                                have c83b1 : ((t438.length : Int) != 0) = true := bne_iff_ne.mpr c83
                                have c83b2 : ¬ (t438 = []) := fun h_ => c83 (by rw [h_]; rfl)
                                obtain rfl := Option.some.inj H
                                obtain ⟨Ao88, co88, eo88⟩ := Kd.R_slice HO_11.out
                                subst eo88
                                have p449 : 0 ≤ ((X8) : Int) := of_decide_eq_true (by first | (with_reducible assumption) | assumption)
                                have q449 : (X8) < (t442.length : Int) := of_decide_eq_true (by first | (with_reducible assumption) | assumption)
                                obtain ⟨ad449, e449, hx449_0⟩ := Kd.at_int (Kd.R_reads' HO_11.out).2.2 (X8) p449 q449
                                cases e449
                                replace p449 := eq_true p449
                                replace q449 := eq_true q449
                                obtain ⟨Ao89, co89, eo89⟩ := Kd.R_slice HO_9.out
                                subst eo89
                                go_wp2
                                repeat (go_quiet (fail); try go_wp2)
                                go_ret
                                exact ⟨by first | rfl | (simp [errW_none, errW_some] <;> rfl) | (simp only [← hji10, ← hji79]; first | rfl | (simp [errW_none, errW_some] <;> rfl)) | (simp [*, errW_none, errW_some] <;> rfl), by repeat (first | (with_reducible first | exact HB.out | apply below_alloc | apply pw_below_drewN | apply below_drew1) | exact HB.out)⟩
                            · rw [if_neg c82] at H
                              have c82b0 : ((rd t442 (X8)) == (-1)) = false := beq_eq_false_iff_ne.mpr c82
                              have c82b1 : ((rd t442 (X8)) != (-1)) = true := bne_iff_ne.mpr c82
                              obtain rfl := Option.some.inj H
                              obtain ⟨Ao90, co90, eo90⟩ := Kd.R_slice HO_11.out
                              subst eo90
                              have p449 : 0 ≤ ((X8) : Int) := of_decide_eq_true (by first | (with_reducible assumption) | assumption)
                              have q449 : (X8) < (t442.length : Int) := of_decide_eq_true (by first | (with_reducible assumption) | assumption)
                              obtain ⟨ad449, e449, hx449_0⟩ := Kd.at_int (Kd.R_reads' HO_11.out).2.2 (X8) p449 q449
                              cases e449
                              replace p449 := eq_true p449
                              replace q449 := eq_true q449
                              go_wp2
                              repeat (go_quiet (fail); try go_wp2)
                              go_ret
                              exact ⟨by first | rfl | (simp [errW_none, errW_some] <;> rfl) | (simp only [← hji10, ← hji79]; first | rfl | (simp [errW_none, errW_some] <;> rfl)) | (simp [*, errW_none, errW_some] <;> rfl), by repeat (first | (with_reducible first | exact HB.out | apply below_alloc | apply pw_below_drewN | apply below_drew1) | exact HB.out)⟩
                          · rw [if_neg c81] at H
                            exact absurd H (by simp)
                        · rw [if_neg c80] at H
                          exact absurd H (by simp)
                      · rw [if_neg c78] at H
                        have c78b0 : (t439 == 10) = false := beq_eq_false_iff_ne.mpr c78
                        have c78b1 : (t439 != 10) = true := bne_iff_ne.mpr c78
                        obtain rfl := Option.some.inj H
                        go_wp2
                        repeat (go_quiet (fail); try go_wp2)
                        go_ret
                        exact ⟨by first | rfl | (simp [errW_none, errW_some] <;> rfl) | (simp only [← hji10]; first | rfl | (simp [errW_none, errW_some] <;> rfl)) | (simp [*, errW_none, errW_some] <;> rfl), by repeat (first | (with_reducible first | exact HB.out | apply below_alloc | apply pw_below_drewN | apply below_drew1) | exact HB.out)⟩
          · rw [if_neg c12] at H
            exact absurd H (by simp)
        · rw [if_neg c11] at H
          exact absurd H (by simp)

/-- THE ONE PURE STATEMENT of trishawlaw04_StampPaid: yours. -/
theorem trishawlaw04_StampPaid.walk (P : trishawlaw04_StampPaid.Pure) (a0 : Int) (a1 : Option Addr) (len1 cap1 : Nat) (z1 : List Int) (a2 : Int) (w : World) (w0 : (Lit.int .i64 a0).wf = true) (w1 : (a1 = none ∧ len1 = 0 ∧ cap1 = 0 ∧ z1 = []) ∨ ∃ x, a1 = some x ∧ len1 ≤ cap1 ∧ cap1 ≤ maxLen ∧ z1.length = cap1 ∧ (∀ i, i < z1.length → w.cell? (x.add i) = some (.int .i64 (z1.getD i 0))) ∧ ∀ n ∈ z1, (Lit.int .i64 n).wf = true) (y1 : len1 * 8 ≤ 140737488351232) (w2 : (Lit.int .u16 a2).wf = true) :
    Calls Try.prog 13 #[.int .i64 a0, .slice a1 len1 cap1, .int .u16 a2] w fun e w' => e = .returned (.bool true) ∧ Below w.heap.size w w' := by
  obtain ⟨l1, rfl, hr1, hm1, hw1, hc1⟩ := ReadsInt.ofRowC w1
  obtain ⟨k, h⟩ := P a0 l1 a2 w0 hm1 y1 hw1 w2
  refine (trishawlaw04_StampPaid.calls k a0 _ _ l1 a2 true w (Kd.C_of_reads (d := (0 : Int)) (h1 := fun _ => rfl) hr1) hc1 h).mono ?_
  rintro e w' ⟨rfl, hd⟩
  exact ⟨rfl, hd⟩

end Go.Proofs.Ytcgblpjknkmoaaa.B
