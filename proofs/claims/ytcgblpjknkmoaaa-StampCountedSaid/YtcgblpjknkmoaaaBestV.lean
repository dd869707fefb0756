/- The search for the values with the greatest range, as a plain function: the program's order. -/
import Derived.Test.YtcgblpjknkmoaaaEv3
namespace Go.Proofs.Ytcgblpjknkmoaaa.B
open Go.RowKit Go.Proofs.YtcgblpjknkmoaaaW.PrintWords Go.Proofs.YtcgblpjknkmoaaaW.PrintLast Go.Proofs.YtcgblpjknkmoaaaW.PrintMore
open Go.Proofs.Ytcgblpjknkmoaaa.Stamp

def valCnt (h : Int) (l : List Int) : Nat := (rangeV h l + 1 - lastV l).toNat
def valAt (l : List Int) (i : Nat) : Int := lastV l + 1 + i
def valsOf (h : Int) (l : List Int) : List Int := (List.range (valCnt h l)).map (valAt l)

/-- all values that begin with l and have n more: the best so far, and its range -/
def bestGo : Nat → Int → List Int → List Int × Int → List Int × Int
  | 0, h, l, st => if st.2 < rangeV h l then (l, rangeV h l) else st
  | n + 1, h, l, st => (valsOf h l).foldl (fun s v => bestGo n h (l ++ [v]) s) st

def bestErr (h k : Int) : Bool := decide (h < 1) || decide (6 < h) || decide (k < 1) || decide (4 < k) || decide (16 < h * k)
def bestV (h k : Int) : List Int × Int × Int :=
  if bestErr h k = true then ([], 0, 2) else ((bestGo (k.toNat - 1) h [1] ([], 0)).1, (bestGo (k.toNat - 1) h [1] ([], 0)).2, 0)

theorem asc_append {p : Int} {l : List Int} {v : Int} (h : asc p l = true) (h1 : 1 ≤ v) (h2 : v ≤ 200) (h3 : ∀ x ∈ l, x < v) (h4 : p < v) : asc p (l ++ [v]) = true := by
  induction l generalizing p with
  | nil => simp [asc, h1, h2, h4]
  | cons x t ih =>
    simp only [asc, Bool.and_eq_true, decide_eq_true_eq] at h
    simp only [List.cons_append, asc, Bool.and_eq_true, decide_eq_true_eq]
    exact ⟨h.1, h.2.1, h.2.2.1, ih h.2.2.2 (fun y hy => h3 y (by simp [hy])) (h3 x (by simp))⟩

theorem lastV_append (l : List Int) (v : Int) : lastV (l ++ [v]) = v := by
  unfold lastV rd
  have : (((l ++ [v]).length : Int) - 1).toNat = l.length := by simp
  rw [this]; simp

theorem Tick.append {h : Int} {l : List Int} {v : Int} (t : Tick h l) (hl : l.length ≤ 5) (h1 : lastV l < v) (h2 : v ≤ 200) : Tick h (l ++ [v]) := by
  have := t.last_range
  exact ⟨t.h1, t.h6, by simp; omega, by simp, asc_append t.asc (by omega) h2 (fun x hx => by have := t.le_last x hx; omega) (by omega)⟩

/-- how great the last value can be -/
def Lb (h : Int) : Nat → Int
  | 0 => 1
  | i + 1 => h * Lb h i + 1
theorem Lb_pos {h : Int} (h1 : 1 ≤ h) (i : Nat) : 1 ≤ Lb h i := by
  induction i with
  | zero => simp [Lb]
  | succ i ih => have := Int.mul_le_mul h1 ih (by omega) (by omega); simp only [Lb]; omega
theorem Lb_mono {h : Int} (h1 : 1 ≤ h) {i j : Nat} (hij : i ≤ j) : Lb h i ≤ Lb h j := by
  induction j with
  | zero => obtain rfl : i = 0 := by omega
            exact Int.le_refl _
  | succ j ih =>
    rcases Nat.lt_or_ge j i with h2 | h2
    · obtain rfl : i = j + 1 := by omega
      exact Int.le_refl _
    · have a := ih h2
      have b := Lb_pos h1 j
      have c := Int.mul_le_mul h1 (Int.le_refl (Lb h j)) (by omega) (by omega)
      simp only [Lb]; omega
theorem Lb_le {h : Int} {k : Nat} (h1 : 1 ≤ h) (h6 : h ≤ 6) (k1 : 1 ≤ k) (k4 : k ≤ 4) (hk : h * k ≤ 16) : Lb h (k - 1) ≤ 85 := by
  have : k = 1 ∨ k = 2 ∨ k = 3 ∨ k = 4 := by omega
  have hh : h = 1 ∨ h = 2 ∨ h = 3 ∨ h = 4 ∨ h = 5 ∨ h = 6 := by omega
  rcases this with rfl | rfl | rfl | rfl <;> rcases hh with rfl | rfl | rfl | rfl | rfl | rfl <;> first | (simp [Lb]; done) | omega

theorem valAt_bound {h : Int} {l : List Int} (t : Tick h l) {i : Nat} (hi : i < valCnt h l) : lastV l < valAt l i ∧ valAt l i ≤ h * lastV l + 1 := by
  have := rangeV_spec t
  unfold valCnt at hi
  unfold valAt
  omega

end Go.Proofs.Ytcgblpjknkmoaaa.B
