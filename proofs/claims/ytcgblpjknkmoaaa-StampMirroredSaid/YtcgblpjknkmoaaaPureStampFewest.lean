import Derived.Test.YtcgblpjknkmoaaaB11
import Derived.Test.YtcgblpjknkmoaaaEv4
namespace Go.Proofs.Ytcgblpjknkmoaaa.Pure
open Go.RowKit Go.Proofs.Ytcgblpjknkmoaaa.B Go.Proofs.YtcgblpjknkmoaaaW.PrintWords Go.Proofs.YtcgblpjknkmoaaaW.PrintLast

def fewestV (h : Int) (V : List Int) : List Int × Int := if ticketErr h V = 0 then (tab h V, 0) else ([], ticketErr h V)
theorem Fewest_f (h : Int) (V : List Int) (k : Nat) (hk : 10000 ≤ k) : stamp_Fewest.f k h V = some (fewestV h V) := by
  unfold stamp_Fewest.f fewestV
  rw [read_f h V k (by omega)]
  simp only [Option.bind_some]
  by_cases c : ticketErr h V = 0
  · rw [if_pos c, if_pos c, fewest_f ((ticket_iff h V).1 c) k hk]; rfl
  · rw [if_neg c, if_neg c]
theorem refFewest_f (h : Int) (V : List Int) (k : Nat) (hk : 10000 ≤ k) : trishawref04_Fewest.f k h V = some (fewestV h V) := by
  unfold trishawref04_Fewest.f fewestV
  rw [refTicket_f h V k (by omega)]
  simp only [Option.bind_some]
  by_cases c : ticketErr h V = 0
  · rw [if_pos c, if_pos c, reffew_f ((ticket_iff h V).1 c) k hk]; rfl
  · rw [if_neg c, if_neg c]
theorem fewestV_short (h : Int) (V : List Int) : (fewestV h V).1.length ≤ 1201 := by
  unfold fewestV
  split
  · rename_i c
    have := ((ticket_iff h V).1 c).top
    simp only [tab_length]; omega
  · simp

theorem StampFewest : trishawlaw04_StampFewest.Pure := by
  intro a0 l1 a2 _ _ _ _ _
  refine ⟨20000, ?_⟩
  unfold trishawlaw04_StampFewest.f
  have hal : trishawlaw04_alive.f = some true := rfl
  by_cases hl : (l1.length : Int) > 30
  · rw [if_pos hl, hal]; rfl
  · have hs := fewestV_short a0 l1
    rw [if_neg hl, Fewest_f a0 l1 20000 (by omega), refFewest_f a0 l1 20000 (by omega)]
    simp only [Option.bind_some]
    rw [same_f _ _ (by omega) _ (by omega)]
    simp only [Option.bind_some, decide_true, if_true, bne_self_eq_false]
    show trishawlaw04_StampFewest.j0 (19999 + 1) a0 l1 a2 false = some true
    simp only [trishawlaw04_StampFewest.j0]
    rw [refWays_f a0 l1 a2 19999 (by omega), hal]
    simp [stamp_Ways.f]

end Go.Proofs.Ytcgblpjknkmoaaa.Pure
