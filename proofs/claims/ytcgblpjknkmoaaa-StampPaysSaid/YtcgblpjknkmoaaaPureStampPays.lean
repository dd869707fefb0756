import Derived.Test.YtcgblpjknkmoaaaB9P
import Derived.Test.YtcgblpjknkmoaaaEv4
namespace Go.Proofs.Ytcgblpjknkmoaaa.Pure
open Go.RowKit Go.Proofs.Ytcgblpjknkmoaaa.B Go.Proofs.YtcgblpjknkmoaaaW.PrintWords Go.Proofs.YtcgblpjknkmoaaaW.PrintLast

theorem payV_short (h : Int) (V : List Int) (a : Int) : (payV h V a).1.length < 10 := by
  unfold payV
  split
  · rename_i e
    split
    · rename_i n hf
      have h1 := List.mem_of_find?_eq_some hf
      have h6 := (asked_tick e).1.h6
      have h0 := (asked_tick e).1.h1
      simp at h1
      cases hg : Stamp.gen V n a with
      | nil => simp
      | cons l t =>
        have := (Stamp.gen_mem V n a l (by rw [hg]; exact List.mem_cons_self ..)).1
        simp; omega
    · simp
  · simp

theorem StampPays : trishawlaw04_StampPays.Pure := by
  intro a0 l1 a2 _ _ _ _ _
  refine ⟨10000, ?_⟩
  unfold trishawlaw04_StampPays.f
  have hal : trishawlaw04_alive.f = some true := rfl
  by_cases hl : (l1.length : Int) > 30
  · rw [if_pos hl, hal]; rfl
  · rw [if_neg hl]
    simp only [Option.bind_some, List.nil_append, List.length_nil, Nat.zero_add]
    rw [if_pos (by omega), refPay_f a0 l1 a2 10000 (Nat.le_refl _), hal]
    simp only [stamp_Pay.f, Option.bind_some]
    have hs := payV_short a0 l1 a2
    rw [same_f _ _ (by omega) _ (by omega), same_f _ _ (by omega) _ (by omega)]
    simp

end Go.Proofs.Ytcgblpjknkmoaaa.Pure
