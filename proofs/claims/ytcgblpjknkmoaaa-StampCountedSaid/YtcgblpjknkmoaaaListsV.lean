/- The lists of stamps as the program goes through them: the values from an index on, the last one first. -/
import Derived.Test.YtcgblpjknkmoaaaEv4
namespace Go.Proofs.Ytcgblpjknkmoaaa.B
open Go.RowKit Go.Proofs.YtcgblpjknkmoaaaW.PrintWords Go.Proofs.YtcgblpjknkmoaaaW.PrintLast Go.Proofs.YtcgblpjknkmoaaaW.PrintMore
open Go.Proofs.Ytcgblpjknkmoaaa.Stamp

/-- what the value with an index brings -/
def contr (V : List Int) (m : Nat) (left : Int) (i : Nat) : List (List Int) := (gen (V.drop i) m (left - rd V (i : Int))).map (rd V (i : Int) :: ·)

theorem gen_up (V : List Int) (m : Nat) (left : Int) (d : Nat) : ∀ least, least + d = V.length → gen (V.drop least) (m + 1) left = ((List.range d).map (fun k => contr V m left (least + (d - 1 - k)))).flatten := by
  induction d with
  | zero => intro least h; rw [List.drop_of_length_le (by omega), gen_nil]; rfl
  | succ d ih =>
    intro least h
    rw [drop_rd (by omega), gen_cons, ih (least + 1) (by omega), List.range_succ, List.map_append, List.flatten_append]
    have e1 : (List.range d).map (fun k => contr V m left (least + 1 + (d - 1 - k))) = (List.range d).map (fun k => contr V m left (least + (d + 1 - 1 - k))) :=
      List.map_congr_left (fun k hk => by
        have : k < d := by simpa using hk
        have e : least + 1 + (d - 1 - k) = least + (d + 1 - 1 - k) := by omega
        rw [e])
    rw [e1]
    simp [contr, ← drop_rd (l := V) (i := least) (by omega)]

theorem contr_low {V : List Int} {m : Nat} {left : Int} {i : Nat} (hlow : ∀ v ∈ V.drop i, rd V (i : Int) ≤ v) (h : left < ((m : Int) + 1) * rd V (i : Int)) : contr V m left i = [] := by
  unfold contr
  rw [gen_none_low hlow (by rw [Int.add_mul] at h; omega)]; rfl
theorem contr_high {V : List Int} {m : Nat} {left : Int} {i : Nat} {M : Int} (hM : ∀ v ∈ V, v ≤ M) (hi : i < V.length) (h : ((m : Int) + 1) * M < left) : contr V m left i = [] := by
  unfold contr
  have := hM _ (rd_mem (l := V) (i := (i : Int)) (by omega) (by omega))
  rw [gen_none_high (M := M) (fun v hv => hM v (List.mem_of_mem_drop hv)) (by rw [Int.add_mul] at h; omega)]; rfl
theorem drop_low {p : Int} {V : List Int} (h : asc p V = true) {i : Nat} (hi : i < V.length) : ∀ v ∈ V.drop i, rd V (i : Int) ≤ v := by
  have hp := asc_pairwise h
  intro v hv
  rw [drop_rd hi] at hv
  rcases List.mem_cons.1 hv with rfl | hv
  · exact Int.le_refl _
  · have hd : (V.drop i).Pairwise (· < ·) := hp.sublist (List.drop_sublist _ _)
    rw [drop_rd hi] at hd
    exact Int.le_of_lt ((List.pairwise_cons.1 hd).1 v hv)

end Go.Proofs.Ytcgblpjknkmoaaa.B
