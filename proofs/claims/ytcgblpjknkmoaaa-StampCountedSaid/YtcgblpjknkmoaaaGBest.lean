/- stamp.Best: what it returns, in new memory. -/
import Derived.Test.YtcgblpjknkmoaaaGBest2
import Derived.Laws.EntriesVeiled
namespace Go.Proofs.Ytcgblpjknkmoaaa.B
open Go.RowKit Go.Proofs.YtcgblpjknkmoaaaW.PrintWords Go.Proofs.YtcgblpjknkmoaaaW.PrintLast Go.Proofs.YtcgblpjknkmoaaaW.PrintMore
open Go.Proofs Go.Proofs.Ytcgblpjknkmoaaa.G

def stamp_Best.f (a0 : Int) (a1 : Int) : Option (List Int × Int × Int) := some (bestV a0 a1)

theorem on_all (B : Nat) (h k : Int) : ∀ n, OnSaid B h k n
  | 0 => on_zero B h k
  | n + 1 => on_succ B h k n (on_all B h k n)

def onFn (B : Nat) : Value := .func (.func 46) #[] #[.pointer (some ⟨B, 0, none⟩), .pointer (some ⟨B + 1, 0, none⟩), .pointer (some ⟨B + 3, 0, none⟩), .pointer (some ⟨B + 2, 0, none⟩), .pointer (some ⟨B + 4, 0, none⟩)]

theorem bestErr_false {h k : Int} (e : bestErr h k = false) : 1 ≤ h ∧ h ≤ 6 ∧ 1 ≤ k ∧ k ≤ 4 ∧ h * k ≤ 16 := by
  simp [bestErr] at e; omega

set_option maxHeartbeats 4000000 in
set_option maxRecDepth 100000 in
theorem best_err (h k : Int) (w : World) (he : bestErr h k = true) :
    Calls Try.prog 20 #[.int .i64 h, .int .i64 k] w fun e w' => ∃ v0_ : Value, e = .returned (.tuple #[v0_, .int .i64 0, .int .i64 2]) ∧ Kd.R (Kd.int .i64) 3 w' w.heap.size (fun _ => True) v0_ [] ∧ Below w.heap.size w w' := by
  by_cases c1 : h < 1
  · go_enter Try.func20, Try.ntmps20
    go_wp2
    go_ret3
    exact ⟨_, rfl, Kd.R_nil _ _ _ _ _, ((Below.refl _ w).alloc (Nat.le_refl _) _).alloc (by simp) _⟩
  · have c1' : 1 ≤ h := by omega
    clear c1
    by_cases c2 : 6 < h
    · go_enter Try.func20, Try.ntmps20
      go_wp2
      go_ret3
      exact ⟨_, rfl, Kd.R_nil _ _ _ _ _, ((Below.refl _ w).alloc (Nat.le_refl _) _).alloc (by simp) _⟩
    · have c2' : h ≤ 6 := by omega
      clear c2
      by_cases c3 : k < 1
      · go_enter Try.func20, Try.ntmps20
        go_wp2
        go_ret3
        exact ⟨_, rfl, Kd.R_nil _ _ _ _ _, ((Below.refl _ w).alloc (Nat.le_refl _) _).alloc (by simp) _⟩
      · have c3' : 1 ≤ k := by omega
        clear c3
        by_cases c4 : 4 < k
        · go_enter Try.func20, Try.ntmps20
          go_wp2
          go_ret3
          exact ⟨_, rfl, Kd.R_nil _ _ _ _ _, ((Below.refl _ w).alloc (Nat.le_refl _) _).alloc (by simp) _⟩
        · have c4' : k ≤ 4 := by omega
          clear c4
          have c5 : 16 < h * k := by simp [bestErr] at he; omega
          have c6 : h * k ≤ 24 := by have := Int.mul_le_mul c2' c4' (by omega) (by omega); omega
          clear he
          go_enter Try.func20, Try.ntmps20
          go_wp2
          go_ret3
          exact ⟨_, rfl, Kd.R_nil _ _ _ _ _, ((Below.refl _ w).alloc (Nat.le_refl _) _).alloc (by simp) _⟩

set_option maxHeartbeats 4000000 in
set_option maxRecDepth 100000 in
theorem best_ok (h k : Int) (w : World) (he : bestErr h k = false) :
    Calls Try.prog 20 #[.int .i64 h, .int .i64 k] w fun e w' => ∃ v0_ : Value, e = .returned (.tuple #[v0_, .int .i64 (bestGo (k.toNat - 1) h [1] ([], 0)).2, .int .i64 0]) ∧ Kd.R (Kd.int .i64) 3 w' w.heap.size (fun _ => True) v0_ (bestGo (k.toNat - 1) h [1] ([], 0)).1 ∧ Below w.heap.size w w' := by
  obtain ⟨h1, h6, k1, k4, hk⟩ := bestErr_false he
  have hk1 : 1 ≤ h * k := by have := Int.mul_le_mul h1 k1 (by omega) (by omega); omega
  have tk : Tick h [1] := ⟨h1, h6, by simp, by simp, by simp [asc]⟩
  have ek : ((k.toNat : Nat) : Int) = k := by omega
  have hLb : Lb h (k.toNat - 1) ≤ 85 := Lb_le h1 h6 (by omega) (by omega) (by rw [ek]; exact hk)
  have hon := on_all w.heap.size h k (k.toNat - 1) [1]
  generalize hn : k.toNat - 1 = n at *
  have HON := Lib.hid hon
  have HT := Lib.hid tk
  have HL := Lib.hid hLb
  have HN := Lib.hid hn
  clear hon tk hLb hn he ek
  go_enter Try.func20, Try.ntmps20
  go_wp2_with fail
  have hnew : ∀ Wz : World, (((((w.alloc (.cells #[.int .i64 h] 3)).alloc (.cells #[.int .i64 k] 3)).alloc (.cells #[.slice none 0 0] 22)).alloc (.cells #[.int .i64 0] 3)).alloc (.cells #[onFn w.heap.size] 58)).alloc (.cells #[.int .i64 1] 3) = Wz →
      BSt w.heap.size h k Wz ([], 0) ∧ Kd.C (Kd.int .i64) Wz (some ⟨w.heap.size + 5, 0, none⟩) 1 [1] ∧ Below w.heap.size w Wz := fun Wz e => by
    subst e
    have b0 := ((((Boxed.new w 3 (.int .i64 h)).alloc (.cells #[.int .i64 k] 3)).alloc (.cells #[.slice none 0 0] 22)).alloc (.cells #[.int .i64 0] 3)).alloc (.cells #[onFn w.heap.size] 58) |>.alloc (.cells #[.int .i64 1] 3)
    have b1 := ((((Boxed.new (w.alloc (.cells #[.int .i64 h] 3)) 3 (.int .i64 k)).alloc (.cells #[.slice none 0 0] 22)).alloc (.cells #[.int .i64 0] 3)).alloc (.cells #[onFn w.heap.size] 58)).alloc (.cells #[.int .i64 1] 3)
    have b2 := (((Boxed.new ((w.alloc (.cells #[.int .i64 h] 3)).alloc (.cells #[.int .i64 k] 3)) 22 (.slice none 0 0)).alloc (.cells #[.int .i64 0] 3)).alloc (.cells #[onFn w.heap.size] 58)).alloc (.cells #[.int .i64 1] 3)
    have b3 := ((Boxed.new (((w.alloc (.cells #[.int .i64 h] 3)).alloc (.cells #[.int .i64 k] 3)).alloc (.cells #[.slice none 0 0] 22)) 3 (.int .i64 0)).alloc (.cells #[onFn w.heap.size] 58)).alloc (.cells #[.int .i64 1] 3)
    have b4 := (Boxed.new ((((w.alloc (.cells #[.int .i64 h] 3)).alloc (.cells #[.int .i64 k] 3)).alloc (.cells #[.slice none 0 0] 22)).alloc (.cells #[.int .i64 0] 3)) 58 (onFn w.heap.size)).alloc (.cells #[.int .i64 1] 3)
    have b5 := own_lit (((((w.alloc (.cells #[.int .i64 h] 3)).alloc (.cells #[.int .i64 k] 3)).alloc (.cells #[.slice none 0 0] 22)).alloc (.cells #[.int .i64 0] 3)).alloc (.cells #[onFn w.heap.size] 58)) 0 3 .i64 [1] (Nat.zero_le _) (by simp)
    simp only [World.size_alloc] at b1 b2 b3 b4 b5
    refine ⟨⟨b0, b1, ⟨_, b2, own_nil _ _ _ _⟩, b3, b4⟩, ?_, ?_⟩
    · have hR : Kd.R (Kd.int .i64) 3 _ 0 (fun _ => True) _ [1] := Kd.R_of_own b5 (fun _ _ => trivial)
      exact (Kd.R_reads' hR).2.2
    · exact (((((((Below.refl _ w).alloc (Nat.le_refl _) _).alloc (by simp) _).alloc (by simp; omega) _).alloc (by simp; omega) _).alloc (by simp; omega) _).alloc (by simp; omega) _)
  unfold onFn at hnew
  obtain ⟨Wz, hWz⟩ : ∃ Wz, (((((w.alloc (.cells #[.int .i64 h] 3)).alloc (.cells #[.int .i64 k] 3)).alloc (.cells #[.slice none 0 0] 22)).alloc (.cells #[.int .i64 0] 3)).alloc (.cells #[.func (.func 46) #[] #[.pointer (some ⟨w.heap.size, 0, none⟩), .pointer (some ⟨w.heap.size + 1, 0, none⟩), .pointer (some ⟨w.heap.size + 1 + 1 + 1, 0, none⟩), .pointer (some ⟨w.heap.size + 1 + 1, 0, none⟩), .pointer (some ⟨w.heap.size + 1 + 1 + 1 + 1, 0, none⟩)]] 58)).alloc (.cells #[.int .i64 1] 3) = Wz := ⟨_, rfl⟩
  obtain ⟨hs0, hc0, hb0⟩ := hnew Wz hWz
  rw [hWz]
  have hcall : Calls Try.prog 46 #[.slice (some ⟨w.heap.size + 1 + 1 + 1 + 1 + 1, 0, none⟩) 1 1, .pointer (some ⟨w.heap.size, 0, none⟩), .pointer (some ⟨w.heap.size + 1, 0, none⟩), .pointer (some ⟨w.heap.size + 1 + 1 + 1, 0, none⟩), .pointer (some ⟨w.heap.size + 1 + 1, 0, none⟩), .pointer (some ⟨w.heap.size + 1 + 1 + 1 + 1, 0, none⟩)] Wz
      fun e W' => e = .returned (.tuple #[]) ∧ BSt w.heap.size h k W' (bestGo n h [1] ([], 0)) ∧ BFr w.heap.size Wz W' :=
    HON.out (some ⟨w.heap.size + 5, 0, none⟩) 1 ([], 0) Wz HT.out (by have := HN.out; simp; omega) (by have := HN.out; simp; omega) (by simp [lastV, rd, Lb]) (by rw [show ([1] : List Int).length + n - 1 = n by simp]; have := HL.out; omega) hs0 hc0 (by simp) (fun ad e => by cases e; exact ⟨by simp, by simp⟩)
  have HB0 := Lib.hid hb0
  clear hWz hnew hs0 hc0 hb0
  obtain ⟨st, hst⟩ : ∃ st, bestGo n h [1] ([], 0) = st := ⟨_, rfl⟩
  rw [hst] at hcall
  have HST := Lib.hid hst
  clear hst
  refine hcall.mono ?_
  rintro e W3 ⟨rfl, hs, hf⟩
  obtain ⟨bv, hbv, hbo⟩ := hs.best
  obtain ⟨A2, c2, rfl⟩ := own_slice hbo
  have cb := hbv.cell
  have cm := hs.most.cell
  have HBO := Lib.hid hbo
  have HF := Lib.hid hf
  clear hs hf hbv hbo hcall
  go_wp2
  go_quiet (fail)
  go_wp2
  go_ret3
  rw [HST.out]
  refine ⟨.slice A2 st.1.length c2, by rfl, ?_, ?_⟩
  · exact Kd.R_of_own (own_weaken (pw_own_below HBO.out (pw_below_drewN (Below.refl _ _) _)) (show w.heap.size ≤ w.heap.size + 5 by omega)) (fun _ _ => trivial)
  · exact pw_below_drewN (HB0.out.trans HF.out.1) _

theorem stamp_Best.calls (a0 : Int) (a1 : Int) (r1 : List Int) (r2 : Int) (r3 : Int) (w : World) (h : stamp_Best.f a0 a1 = some (r1, r2, r3)) :
    Calls Try.prog 20 #[.int .i64 a0, .int .i64 a1] w fun e w' => ∃ v0_ : Value, e = .returned (.tuple #[v0_, .int .i64 r2, .int .i64 r3]) ∧ Kd.R (Kd.int .i64) 3 w' w.heap.size (fun _ => True) v0_ r1 ∧ Below w.heap.size w w' := by
  unfold stamp_Best.f bestV at h
  cases he : bestErr a0 a1 with
  | true =>
    rw [if_pos he] at h
    simp only [Option.some.injEq, Prod.mk.injEq] at h
    obtain ⟨rfl, rfl, rfl⟩ := h
    exact best_err a0 a1 w he
  | false =>
    rw [if_neg (by rw [he]; simp)] at h
    simp only [Option.some.injEq, Prod.mk.injEq] at h
    obtain ⟨rfl, rfl, rfl⟩ := h
    exact best_ok a0 a1 w he

end Go.Proofs.Ytcgblpjknkmoaaa.B
