import Derived.Test.YtcgblpjknkmoaaaB9M
import Derived.Test.YtcgblpjknkmoaaaEv3
namespace Go.Proofs.Ytcgblpjknkmoaaa.Pure
open Go.RowKit Go.Proofs.Ytcgblpjknkmoaaa.B Go.Proofs.YtcgblpjknkmoaaaW.PrintWords Go.Proofs.YtcgblpjknkmoaaaW.PrintLast

theorem take_rd {V : List Int} {n : Nat} (h : n < V.length) : (V.take (n + 1)).reverse = rd V (n : Int) :: (V.take n).reverse := by
  rw [List.take_add_one, List.getElem?_eq_getElem h]
  simp [rd_nat, List.getD_eq_getElem?_getD, List.getElem?_eq_getElem h]

theorem refMirrored_l0 {V : List Int} (tk : Tick 1 V) : ∀ (n k : Nat) (acc : List Int), n < V.length → n < k → acc.length + n ≤ 100 →
    trishawref04_Mirrored.l0 k V acc ((n : Int) - 1) = some (acc ++ (V.take n).reverse.map (fun v => lastV V - v) ++ [lastV V], 0)
  | 0, k, acc, hn, hk, ha => by
    obtain ⟨k, rfl⟩ : ∃ m, k = m + 1 := ⟨k - 1, by omega⟩
    have hl := tk.len; have hp := tk.pos
    have e1 : wrap64 ((V.length : Int) - 1) = (V.length : Int) - 1 := w64 (by omega)
    simp only [trishawref04_Mirrored.l0]
    rw [if_neg (by omega), e1, if_pos (by omega), if_pos (by omega), if_pos (by omega)]
    simp [lastV]
  | n + 1, k, acc, hn, hk, ha => by
    obtain ⟨k, rfl⟩ : ∃ m, k = m + 1 := ⟨k - 1, by omega⟩
    have hl := tk.len; have hp := tk.pos
    have e1 : wrap64 ((V.length : Int) - 1) = (V.length : Int) - 1 := w64 (by omega)
    have e0 : ((n + 1 : Nat) : Int) - 1 = n := by omega
    have b1 := tk.last_range
    have b2 := tk.range _ (rd_mem (l := V) (i := (n : Int)) (by omega) (by omega))
    have e2 : wrap64 ((n : Int) - 1) = (n : Int) - 1 := w64 (by omega)
    have hla : rd V ((V.length : Int) - 1) = lastV V := rfl
    simp only [trishawref04_Mirrored.l0]
    rw [e0, if_pos (by omega), e1, if_pos (by omega), if_pos (by omega), if_pos (by omega), if_pos (by omega), if_pos (by omega), hla, w64 (x := lastV V - rd V (n : Int)) (by omega), e2,
      refMirrored_l0 tk n k (acc ++ [lastV V - rd V (n : Int)]) (by omega) (by omega) (by simp; omega), take_rd (by omega)]
    simp

theorem refMirrored_f (V : List Int) (k : Nat) (hk : 100 ≤ k) : trishawref04_Mirrored.f k V = some (if valuesErr V = 0 then (mirV V, 0) else ([], valuesErr V)) := by
  unfold trishawref04_Mirrored.f
  rw [refValues_f V k (by omega)]
  simp only [Option.bind_some]
  by_cases c : valuesErr V = 0
  · have tk : Tick 1 V := (ticket_iff 1 V).1 (by unfold ticketErr; rw [if_neg (by omega), c])
    have hl := tk.len; have hp := tk.pos
    obtain ⟨n, hn⟩ : ∃ n, V.length = n + 1 := ⟨V.length - 1, by omega⟩
    have e1 : wrap64 ((V.length : Int) - 2) = (n : Int) - 1 := by rw [w64 (by omega)]; omega
    rw [if_pos c, if_pos c, e1, refMirrored_l0 tk n k [] (by omega) (by omega) (by simp; omega)]
    have e2 : V.dropLast = V.take n := by rw [List.dropLast_eq_take]; congr 1; omega
    simp [mirV, e2]
  · rw [if_neg c, if_neg c]

theorem StampMirrors : trishawlaw04_StampMirrors.Pure := by
  intro l1 _ _ _
  refine ⟨10000, ?_⟩
  unfold trishawlaw04_StampMirrors.f
  have hal : trishawlaw04_alive.f = some true := rfl
  by_cases hl : (l1.length : Int) > 30
  · rw [if_pos hl, hal]; rfl
  · rw [if_neg hl]
    simp only [Option.bind_some, List.nil_append, List.length_nil, Nat.zero_add]
    rw [if_pos (by omega), refMirrored_f l1 10000 (by omega), hal]
    simp only [stamp_Mirrored.f, Option.bind_some]
    have hs : (if valuesErr l1 = 0 then (mirV l1, (0 : Int)) else ([], valuesErr l1)).1.length < 100 := by
      split
      · simp [mirV]; omega
      · simp
    rw [same_f _ _ (by omega) _ (by omega), same_f _ _ (by omega) _ (by omega)]
    simp

end Go.Proofs.Ytcgblpjknkmoaaa.Pure
