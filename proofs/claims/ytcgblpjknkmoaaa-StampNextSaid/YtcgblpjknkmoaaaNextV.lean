/- What Next hands back: of all values that are not there the one with the greatest range, the least one of these. -/
import Derived.Test.YtcgblpjknkmoaaaGNext
namespace Go.Proofs.Ytcgblpjknkmoaaa.B
open Go.RowKit Go.Proofs.YtcgblpjknkmoaaaW.PrintWords Go.Proofs.YtcgblpjknkmoaaaW.PrintLast Go.Proofs.Ytcgblpjknkmoaaa.Stamp

theorem rangeV_ge_zero {h x : Int} {V : List Int} (tk : Tick h V) (hl : V.length ≤ 5) (hx : x ∉ V) (h1 : 1 ≤ x) (h2 : x ≤ 200) : 0 ≤ rangeV h (withV V x) := (rangeV_spec (tk.withV hl hx h1 h2)).1

/-- what the loop knows: its pair is one of the values looked at, and none is better, and none that is less is as good -/
theorem nextTo_spec {h : Int} {V : List Int} (_tk : Tick h V) (_hl : V.length ≤ 5) (n : Nat) : n ≤ 200 →
    (∀ y : Int, 1 ≤ y → y ≤ n → y ∉ V → rangeV h (withV V y) ≤ (nextTo h V n).2 ∧ (rangeV h (withV V y) = (nextTo h V n).2 → (nextTo h V n).1 ≤ y)) ∧
    ((nextTo h V n = (0, -1)) ∨ (1 ≤ (nextTo h V n).1 ∧ (nextTo h V n).1 ≤ n ∧ (nextTo h V n).1 ∉ V ∧ (nextTo h V n).2 = rangeV h (withV V (nextTo h V n).1))) := by
  induction n with
  | zero => exact fun _ => ⟨fun y h1 h2 => by omega, .inl rfl⟩
  | succ n ih =>
    intro hn
    obtain ⟨h1, h2⟩ := ih (by omega)
    have hex : nextTo h V (n + 1) = if ((n + 1 : Nat) : Int) ∈ V then nextTo h V n else if (nextTo h V n).2 < rangeV h (withV V ((n + 1 : Nat) : Int)) then (((n + 1 : Nat) : Int), rangeV h (withV V ((n + 1 : Nat) : Int))) else nextTo h V n := rfl
    rw [hex]
    by_cases cm : ((n + 1 : Nat) : Int) ∈ V
    · rw [if_pos cm]
      refine ⟨fun y hy1 hy2 hy3 => ?_, ?_⟩
      · rcases Int.lt_or_le (n : Int) y with c | c
        · have : y = ((n + 1 : Nat) : Int) := by omega
          rw [this] at hy3; exact absurd cm hy3
        · exact h1 y hy1 c hy3
      · rcases h2 with e | ⟨a, b, c, d⟩
        · exact .inl e
        · exact .inr ⟨a, by omega, c, d⟩
    · rw [if_neg cm]
      by_cases cg : (nextTo h V n).2 < rangeV h (withV V ((n + 1 : Nat) : Int))
      · rw [if_pos cg]
        refine ⟨fun y hy1 hy2 hy3 => ?_, .inr ⟨by show (1 : Int) ≤ ((n + 1 : Nat) : Int); omega, Int.le_refl _, cm, rfl⟩⟩
        rcases Int.lt_or_le (n : Int) y with c | c
        · have : y = ((n + 1 : Nat) : Int) := by omega
          subst this
          exact ⟨Int.le_refl _, fun _ => Int.le_refl _⟩
        · have := (h1 y hy1 c hy3).1
          refine ⟨by show _ ≤ rangeV h (withV V ((n + 1 : Nat) : Int)); omega, fun e => ?_⟩
          have e' : rangeV h (withV V y) = rangeV h (withV V ((n + 1 : Nat) : Int)) := e
          omega
      · rw [if_neg cg]
        refine ⟨fun y hy1 hy2 hy3 => ?_, ?_⟩
        · rcases Int.lt_or_le (n : Int) y with c | c
          · have : y = ((n + 1 : Nat) : Int) := by omega
            subst this
            refine ⟨by omega, fun e => ?_⟩
            rcases h2 with e2 | ⟨a, b, _, _⟩
            · rw [e2]; show (0 : Int) ≤ _; omega
            · omega
          · exact h1 y hy1 c hy3
        · rcases h2 with e | ⟨a, b, c, d⟩
          · exact .inl e
          · exact .inr ⟨a, by omega, c, d⟩

/-- one of the values from 1 to 200 is not there -/
theorem one_free {V : List Int} (hl : V.length ≤ 5) : ∃ y : Int, 1 ≤ y ∧ y ≤ 200 ∧ y ∉ V := by
  have key : ∀ (n : Nat) (U : List Int), U.length < n → ∃ y : Int, 1 ≤ y ∧ y ≤ n ∧ y ∉ U := by
    intro n
    induction n with
    | zero => intro U hU; omega
    | succ n ih =>
      intro U hU
      by_cases c : ((n + 1 : Nat) : Int) ∈ U
      · have hlen : (U.erase ((n + 1 : Nat) : Int)).length < n := by rw [List.length_erase_of_mem c]; have := List.length_pos_of_mem c; omega
        obtain ⟨y, h1, h2, h3⟩ := ih _ hlen
        refine ⟨y, h1, by omega, fun hy => h3 ?_⟩
        exact (List.mem_erase_of_ne (by omega)).2 hy
      · exact ⟨_, by omega, Int.le_refl _, c⟩
  obtain ⟨y, h1, h2, h3⟩ := key 200 V (by omega)
  exact ⟨y, h1, by omega, h3⟩

theorem next_is {h : Int} {V : List Int} (tk : Tick h V) (hl : V.length ≤ 5) : 1 ≤ (nextTo h V 200).1 ∧ (nextTo h V 200).1 ≤ 200 ∧ (nextTo h V 200).1 ∉ V ∧ (nextTo h V 200).2 = rangeV h (withV V (nextTo h V 200).1) ∧
    (∀ y : Int, 1 ≤ y → y ≤ 200 → y ∉ V → rangeV h (withV V y) ≤ (nextTo h V 200).2 ∧ (rangeV h (withV V y) = (nextTo h V 200).2 → (nextTo h V 200).1 ≤ y)) := by
  obtain ⟨h1, h2⟩ := nextTo_spec tk hl 200 (Nat.le_refl _)
  rcases h2 with e | ⟨a, b, c, d⟩
  · exfalso
    obtain ⟨y, y1, y2, y3⟩ := one_free hl
    have := (h1 y y1 y2 y3).1
    have := rangeV_ge_zero tk hl y3 y1 y2
    rw [e] at *
    simp at *
    omega
  · exact ⟨a, b, c, d, h1⟩

/-- a value just above the range makes it greater -/
theorem range_next {h : Int} {V : List Int} (tk : Tick h V) (hl : V.length ≤ 5) (hr : rangeV h V < 200) (hn : rangeV h V + 1 ∉ V) : rangeV h V + 1 ≤ rangeV h (withV V (rangeV h V + 1)) := by
  obtain ⟨g1, g2, g3, g4⟩ := rangeV_spec tk
  have h1 := tk.h1
  have tk2 := tk.withV hl hn (by omega) (by omega)
  have hm : rangeV h V + 1 ∈ withV V (rangeV h V + 1) := mem_withV.2 (.inl rfl)
  refine range_ge' tk2 ?_ (fun a h0 h2 => ?_)
  · have h3 := tk2.le_last _ hm
    have h4 := Int.mul_le_mul_of_nonneg_right h1 (show 0 ≤ lastV (withV V (rangeV h V + 1)) by omega)
    omega
  · rcases Int.lt_or_le (rangeV h V) a with c | c
    · have : a = rangeV h V + 1 := by omega
      subst this
      refine (fewV_few (by omega) _ _).nonneg_iff.2 ⟨1, by omega, ?_⟩
      have := Pays.step (V := withV V (rangeV h V + 1)) .zero hm
      simpa using this
    · exact (few_mono (by omega) (fun v hv => mem_withV.2 (.inr hv)) (g3 a h0 c)).1
/-- .. and it is not among the values, as it is not payable -/
theorem range_notin {h : Int} {V : List Int} (tk : Tick h V) : rangeV h V + 1 ∉ V := by
  obtain ⟨g1, g2, g3, g4⟩ := rangeV_spec tk
  have h1 := tk.h1
  intro hm
  have hle := tk.le_last _ hm
  have hl := tk.last_range
  have h4 := Int.mul_le_mul_of_nonneg_right h1 (show 0 ≤ lastV V by omega)
  rcases g4 with e | e
  · omega
  · have h2 : 0 ≤ fewV h V (rangeV h V + 1) := (fewV_few (by omega) _ _).nonneg_iff.2 ⟨1, by omega, by have := Pays.step (V := V) .zero hm; simpa using this⟩
    omega

end Go.Proofs.Ytcgblpjknkmoaaa.B
