import Derived.Test.YtcgblpjknkmoaaaB11
import Derived.Test.YtcgblpjknkmoaaaEv4
import Derived.Test.YtcgblpjknkmoaaaMirV
import Derived.Test.YtcgblpjknkmoaaaPureStampFewest
namespace Go.Proofs.Ytcgblpjknkmoaaa.Pure
open Go.RowKit Go.Proofs.Ytcgblpjknkmoaaa.B Go.Proofs.YtcgblpjknkmoaaaW.PrintWords Go.Proofs.YtcgblpjknkmoaaaW.PrintLast Go.Proofs.Ytcgblpjknkmoaaa.Stamp

theorem few_iff {h : Int} {V : List Int} (tk : Tick h V) (a : Int) : 0 ≤ fewV h V a ↔ ∃ n : Nat, (n : Int) ≤ h ∧ Pays V n a := (fewV_few (by have := tk.h1; omega) V a).nonneg_iff

/-- an amount is payable exactly if what is left of all is payable with the mirrored values -/
theorem few_mirror {h M : Int} {I : List Int} (tk : Tick h (I ++ [M])) (a : Int) : 0 ≤ fewV h (I ++ [M]) a ↔ 0 ≤ fewV h (mirV (I ++ [M])) (h * M - a) := by
  have h1 := tk.h1
  rw [few_iff tk, few_iff (mir_tick tk)]
  have e : ((h.toNat : Nat) : Int) = h := by omega
  have := mirror_pays (mir_is I M) (h := h.toNat) (a := a)
  rw [e] at this
  constructor
  · rintro ⟨n, hn, p⟩
    obtain ⟨m, hm, q⟩ := this.1 ⟨n, by omega, p⟩
    exact ⟨m, by omega, q⟩
  · rintro ⟨n, hn, p⟩
    obtain ⟨m, hm, q⟩ := this.2 ⟨n, by omega, p⟩
    exact ⟨m, by omega, q⟩

theorem Mirrored_l0 (t u : List Int) (n : Nat) (ht : t.length = n + 1) (hu : u.length = n + 1) (hn : n ≤ 1200) (h : ∀ a : Nat, a ≤ n → (0 ≤ rd t (a : Int) ↔ 0 ≤ rd u ((n : Int) - a))) : ∀ (d i k : Nat), i + d = n + 1 → d < k → trishawlaw04_StampMirrored.l0 k t u (i : Int) = some true
  | 0, i, k, hi, hk => by
    obtain ⟨k, rfl⟩ : ∃ m, k = m + 1 := ⟨k - 1, by omega⟩
    simp only [trishawlaw04_StampMirrored.l0]
    rw [if_neg (by omega)]
    rfl
  | d + 1, i, k, hi, hk => by
    obtain ⟨k, rfl⟩ : ∃ m, k = m + 1 := ⟨k - 1, by omega⟩
    have e1 : wrap64 ((i : Int) + 1) = ((i + 1 : Nat) : Int) := by rw [w64 (by omega)]; omega
    have e2 : wrap64 (wrap64 ((u.length : Int) - 1) - (i : Int)) = (n : Int) - i := by rw [w64 (x := (u.length : Int) - 1) (by omega), w64 (by omega)]; omega
    have h1 := h i (by omega)
    simp only [trishawlaw04_StampMirrored.l0]
    rw [e2, if_pos (by omega), if_pos (by omega), if_pos (by omega), if_pos (by omega), e1, Mirrored_l0 t u n ht hu hn h d (i + 1) k (by omega) (by omega), if_neg]
    by_cases c : 0 ≤ rd t (i : Int)
    · simp [c, h1.1 c]
    · have c2 : ¬ 0 ≤ rd u ((n : Int) - i) := fun x => c (h1.2 x)
      simp [c, c2]

theorem mirrored_of {h : Int} {V : List Int} (tk : Tick h V) : stamp_Mirrored.f V = some (mirV V, 0) := by
  have e : valuesErr V = 0 := by
    have := (ticket_iff h V).2 tk
    unfold ticketErr at this
    rwa [if_neg (by have := tk.h1; have := tk.h6; omega)] at this
  unfold stamp_Mirrored.f
  rw [if_pos e]

theorem StampMirrored : trishawlaw04_StampMirrored.Pure := by
  intro a0 l1 _ _ _ _
  refine ⟨20010, ?_⟩
  unfold trishawlaw04_StampMirrored.f
  have hal : trishawlaw04_alive.f = some true := rfl
  have halive : trishawlaw04_StampMirrored.j0 20010 a0 l1 true = some true := by
    show trishawlaw04_StampMirrored.j0 (20009 + 1) a0 l1 true = some true
    simp only [trishawlaw04_StampMirrored.j0, if_true]
    rw [hal]; rfl
  by_cases hl : (l1.length : Int) > 30
  · rw [if_pos hl, halive]
  · rw [if_neg hl, refTicket_f a0 l1 20010 (by omega)]
    simp only [Option.bind_some]
    by_cases c : ticketErr a0 l1 = 0
    · have tk := (ticket_iff a0 l1).1 c
      obtain ⟨I, hI⟩ := tk.snoc
      have tk2 : Tick a0 (mirV l1) := by rw [hI]; rw [hI] at tk; exact mir_tick tk
      have hback : mirV (mirV l1) = l1 := by rw [hI]; exact mirV_twice _ _
      have hlast : lastV (mirV l1) = lastV l1 := by
        have : mirV l1 = l1.dropLast.reverse.map (fun v => lastV l1 - v) ++ [lastV l1] := rfl
        rw [this, lastV_append]
      have ht := tk.top
      have hp := tk.pos
      have h6 := tk.len
      obtain ⟨n, hn⟩ : ∃ n : Nat, a0 * lastV l1 = n := ⟨(a0 * lastV l1).toNat, by omega⟩
      have ht1 : (tab a0 l1).length = n + 1 := by rw [tab_length, hn]; omega
      have ht2 : (tab a0 (mirV l1)).length = n + 1 := by rw [tab_length, hlast, hn]; omega
      have hF1 : ∀ k, 10000 ≤ k → stamp_Fewest.f k a0 l1 = some (tab a0 l1, 0) := fun k hk => by rw [Fewest_f a0 l1 k hk]; unfold fewestV; rw [if_pos c]
      have hF2 : ∀ k, 10000 ≤ k → stamp_Fewest.f k a0 (mirV l1) = some (tab a0 (mirV l1), 0) := fun k hk => by rw [Fewest_f a0 (mirV l1) k hk]; unfold fewestV; rw [if_pos ((ticket_iff a0 _).2 tk2)]
      rw [c]
      show trishawlaw04_StampMirrored.j0 (20009 + 1) a0 l1 false = some true
      simp only [trishawlaw04_StampMirrored.j0]
      rw [mirrored_of tk]
      simp only [Option.bind_some]
      rw [mirrored_of tk2, hback]
      simp only [Option.bind_some, if_true]
      rw [same_f _ _ (by omega) _ (by omega)]
      simp only [Option.bind_some, decide_true, Bool.not_true]
      show trishawlaw04_StampMirrored.j1 (20008 + 1) a0 l1 (mirV l1) false = some true
      simp only [trishawlaw04_StampMirrored.j1]
      rw [hF1 20008 (by omega), hF2 20008 (by omega)]
      have e1 : wrap64 ((l1.length : Int) - 1) = (l1.length : Int) - 1 := w64 (by omega)
      have e2 : rd l1 ((l1.length : Int) - 1) = lastV l1 := rfl
      simp only [Option.bind_some, if_true, e1, e2, ht1, ht2]
      rw [if_neg (by simp), if_pos (by omega), if_pos (by omega), w64 (x := a0 * lastV l1) (by omega), hn, w64 (by omega), if_pos (by omega)]
      simp only [bne_self_eq_false]
      show trishawlaw04_StampMirrored.j2 (20007 + 1) (tab a0 l1) (tab a0 (mirV l1)) false = some true
      simp only [trishawlaw04_StampMirrored.j2]
      rw [if_neg (by simp)]
      refine Mirrored_l0 _ _ n ht1 ht2 (by omega) (fun a ha => ?_) (n + 1) 0 20007 (by omega) (by omega)
      rw [rd_tab (by omega) (by omega), rd_tab (by omega) (by rw [hlast]; omega)]
      have := few_mirror (h := a0) (M := lastV l1) (I := I) (by rw [← hI]; exact tk) (a : Int)
      rw [← hI, hn] at this
      exact this
    · rw [show (ticketErr a0 l1 != 0) = true by simp [c], halive]

end Go.Proofs.Ytcgblpjknkmoaaa.Pure
