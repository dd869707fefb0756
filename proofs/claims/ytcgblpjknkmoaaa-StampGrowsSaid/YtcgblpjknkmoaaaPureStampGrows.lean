import Derived.Test.YtcgblpjknkmoaaaB16
import Derived.Test.YtcgblpjknkmoaaaNextV
namespace Go.Proofs.Ytcgblpjknkmoaaa.Pure
open Go.RowKit Go.Proofs.Ytcgblpjknkmoaaa.B Go.Proofs.YtcgblpjknkmoaaaW.PrintWords Go.Proofs.YtcgblpjknkmoaaaW.PrintLast Go.Proofs.Ytcgblpjknkmoaaa.Stamp

theorem Grows_range {h : Int} {V : List Int} (tk : Tick h V) (k : Nat) (hk : 10000 ≤ k) : stamp_Range.f k h V = some (rangeV h V, 0) := by rw [Range_f h V k hk, if_pos ((ticket_iff h V).2 tk)]
theorem Grows_with {V : List Int} (x : Int) (hp : 0 < V.length) (hl : V.length ≤ 6) : trishawref04_With.f V x = some (withV V x) := by unfold trishawref04_With.f; rw [if_pos ⟨hp, by omega⟩]
theorem Grows_alive : trishawlaw04_alive.f = some true := rfl

theorem Grows_j2 {h : Int} {V : List Int} (tk : Tick h V) (hl : V.length ≤ 5) {y a2 : Int} (h2 : 0 ≤ a2 ∧ a2 ≤ 255) (hy : y = 1 + a2 % 200) (k : Nat) (hk : 12000 ≤ k) :
    trishawlaw04_StampGrows.j2 k h V a2 (nextTo h V 200).1 (nextTo h V 200).2 false = some true := by
  obtain ⟨k, rfl⟩ : ∃ m, k = m + 1 := ⟨k - 1, by omega⟩
  have hy1 : 1 ≤ y ∧ y ≤ 200 := by omega
  have hpos := tk.pos
  have e1 : wrap64 (1 + (Int.tmod (wrap64 a2) 200)) = y := by
    rw [w64 (x := a2) (by omega), Int.tmod_eq_emod_of_nonneg h2.1, w64 (by omega), hy]
  have hin := In_f V y (by omega) k (by omega)
  obtain ⟨n1, n2, n3, n4, n5⟩ := next_is tk hl
  simp only [trishawlaw04_StampGrows.j2]
  rw [e1, hin, if_neg (by simp)]
  simp only [Option.bind_some]
  by_cases cm : y ∈ V
  · rw [if_pos (by simpa using cm), Grows_alive]; rfl
  · obtain ⟨m1, m2⟩ := n5 y hy1.1 hy1.2 cm
    have tk2 := tk.withV hl cm hy1.1 hy1.2
    rw [if_neg (by simpa using cm), Grows_with y hpos (by omega)]
    simp only [Option.bind_some]
    rw [Grows_range tk2 k (by omega)]
    simp only [Option.bind_some, if_true]
    rw [if_pos m1]
    by_cases cl : rangeV h (withV V y) < (nextTo h V 200).2
    · rw [if_pos cl, Grows_alive]; rfl
    · rw [if_neg cl, if_pos (by have := m2 (by omega); omega), Grows_alive]; rfl

theorem StampGrows : trishawlaw04_StampGrows.Pure := by
  intro a0 l1 a2 _ _ _ _ w2
  refine ⟨20010, ?_⟩
  unfold trishawlaw04_StampGrows.f
  have halive : trishawlaw04_StampGrows.j0 20010 a0 l1 a2 true = some true := by
    show trishawlaw04_StampGrows.j0 (20009 + 1) a0 l1 a2 true = some true
    simp only [trishawlaw04_StampGrows.j0, if_true]
    rw [Grows_alive]; rfl
  by_cases hl : (l1.length : Int) > 30
  · rw [if_pos hl, halive]
  · rw [if_neg hl, refTicket_f a0 l1 20010 (by omega)]
    simp only [Option.bind_some]
    by_cases c : ticketErr a0 l1 = 0
    · have tk := (ticket_iff a0 l1).1 c
      have hp := tk.pos
      have hlen := tk.len
      have w2' : 0 ≤ a2 ∧ a2 ≤ 255 := by simpa [Lit.wf, IntKind.min, IntKind.max, IntKind.signed, IntKind.bits] using w2
      rw [c]
      show trishawlaw04_StampGrows.j0 (20009 + 1) a0 l1 a2 false = some true
      simp only [trishawlaw04_StampGrows.j0]
      unfold stamp_Next.f nextV
      rw [if_neg (by simp), if_pos c]
      simp only [Option.bind_some]
      by_cases c6 : l1.length = 6
      · rw [if_pos c6, if_pos (by omega), if_pos rfl]
        have : wrap64 ((0 : Int) + 0) = 0 := w64 (by omega)
        rw [if_pos this, Grows_alive]; rfl
      · have h5 : l1.length ≤ 5 := by omega
        obtain ⟨n1, n2, n3, n4, n5⟩ := next_is tk h5
        have tk2 := tk.withV h5 n3 n1 n2
        have hr := range_withV tk tk2
        have hr2 : rangeV a0 l1 < 200 → rangeV a0 l1 < (nextTo a0 l1 200).2 := fun h => by
          have h3 := rangeV_spec tk
          have h1 := range_next tk h5 h (range_notin tk)
          have := (n5 (rangeV a0 l1 + 1) (by omega) (by omega) (range_notin tk)).1
          omega
        have hin := In_f l1 (nextTo a0 l1 200).1 (by omega) 20009 (by omega)
        rw [decide_eq_false n3] at hin
        rw [if_neg c6, if_neg (by omega), if_pos rfl]
        rw [if_neg (by simp only []; omega), if_neg (by simp only []; omega)]
        simp only [hin, Option.bind_some]
        show trishawlaw04_StampGrows.j1 (20008 + 1) a0 l1 a2 (nextTo a0 l1 200).1 (nextTo a0 l1 200).2 false = some true
        simp only [trishawlaw04_StampGrows.j1]
        rw [if_neg (by simp), Grows_range tk 20008 (by omega), Grows_with _ hp hlen]
        simp only [Option.bind_some]
        rw [Grows_range tk2 20008 (by omega)]
        simp only [Option.bind_some, if_true]
        rw [if_pos n4.symm, if_neg (by rw [n4]; omega)]
        have hj := Grows_j2 tk h5 w2' rfl 20008 (by omega)
        by_cases c2 : rangeV a0 l1 < 200
        · rw [if_pos c2, decide_eq_false (by have := hr2 c2; omega)]; exact hj
        · rw [if_neg c2]; exact hj
    · rw [show (ticketErr a0 l1 != 0) = true by simp [c], halive]

end Go.Proofs.Ytcgblpjknkmoaaa.Pure
