/- trishawref04.With: the values with another one, in new memory. -/
import Derived.Test.YtcgblpjknkmoaaaB0
import Derived.Test.YtcgblpjknkmoaaaEv
import Derived.Lib.Hide
import Derived.RowKit3
namespace Go.Proofs.Ytcgblpjknkmoaaa.B
open Go.RowKit Go.Proofs.YtcgblpjknkmoaaaW.PrintWords Go.Proofs.YtcgblpjknkmoaaaW.PrintLast Go.Proofs.YtcgblpjknkmoaaaW.PrintMore
open Go.Proofs Go.Proofs.Ytcgblpjknkmoaaa.Stamp

/-- how many values are less, before the first that is not -/
def withAt (l : List Int) (x : Int) : Nat := l.findIdx (fun v => !decide (v < x))
def withV (l : List Int) (x : Int) : List Int := l.take (withAt l x) ++ [x] ++ l.drop (withAt l x)
def trishawref04_With.f (l : List Int) (x : Int) : Option (List Int) := if 0 < l.length ∧ l.length ≤ 1000 then some (withV l x) else none

theorem withAt_le (l : List Int) (x : Int) : withAt l x ≤ l.length := List.findIdx_le_length
theorem withAt_lt {l : List Int} {x : Int} {i : Nat} (h : i < withAt l x) : rd l (i : Int) < x := by
  have hl : i < l.length := Nat.lt_of_lt_of_le h (withAt_le l x)
  have := List.not_of_lt_findIdx h
  rw [rd_nat, List.getD_eq_getElem?_getD, List.getElem?_eq_getElem hl]
  simpa using this
theorem withAt_at {l : List Int} {x : Int} (h : withAt l x < l.length) : ¬ rd l ((withAt l x : Nat) : Int) < x := by
  have h2 := List.findIdx_getElem (p := fun v => !decide (v < x)) (w := h)
  rw [rd_nat, List.getD_eq_getElem?_getD, List.getElem?_eq_getElem h]
  intro h3
  have h4 : l[withAt l x] < x := by simpa using h3
  have h7 := h2
  simp only [Bool.not_eq_true', decide_eq_false_iff_not, Int.not_lt] at h7
  have h8 : x ≤ l[withAt l x] := h7
  omega

theorem lit_C (W : World) (xs : List Int) (h : xs.length ≤ 1000) : Kd.C (Kd.int .i64) (W.alloc (.cells (xs.map (Value.int .i64)).toArray 3)) (some ⟨W.heap.size, 0, none⟩) xs.length xs := by
  have b5 := own_lit W 0 3 .i64 xs (Nat.zero_le _) (by omega)
  have hR : Kd.R (Kd.int .i64) 3 _ 0 (fun _ => True) _ xs := Kd.R_of_own b5 (fun _ _ => trivial)
  exact (Kd.R_reads' hR).2.2

set_option maxHeartbeats 4000000 in
set_option maxRecDepth 100000 in
theorem with_calls (ad : Addr) (c : Nat) (l : List Int) (x : Int) (w : World) (hr : Kd.C (Kd.int .i64) w (some ad) l.length l) (hc : l.length ≤ c) (hlen : l.length ≤ 1000) :
    Calls Try.prog 32 #[.slice (some ad) l.length c, .int .i64 x] w fun e w' => ∃ v : Value, e = .returned v ∧ Kd.R (Kd.int .i64) 3 w' w.heap.size (fun _ => True) v (withV l x) ∧ Below w.heap.size w w' := by
  have HR := Lib.hid hr
  have HC := Lib.hid hc
  have hw := withAt_le l x
  have HL := Lib.hid (⟨hlen, hw⟩ : _ ∧ _)
  have hcells : ∀ j : Nat, j < l.length → w.cell? (ad.add j) = some (.int .i64 (rd l (j : Int))) := fun j hj => by
    obtain ⟨ad', e', hx⟩ := Kd.at_int hr (j : Int) (by omega) (by omega)
    cases e'
    simpa using hx
  have HCE := Lib.hid hcells
  clear hr hc hlen hw hcells
  go_enter Try.func32, Try.ntmps32
  go_wp2
  go_loopw [6] (fun v6 wr => ∃ i : Nat, i ≤ withAt l x ∧ v6 = .int .i64 i ∧ Below w.heap.size w wr) (fun v6 _ => ((l.length : Int) - intOf v6).toNat)
  case atStart => exact ⟨0, by omega, rfl, Below.refl _ _⟩
  case round =>
    obtain ⟨i, hi, rfl, hb⟩ := hrel
    have HB := Lib.hid hb
    have hle : i ≤ l.length := by have := HL.out.2; omega
    clear hb
    by_cases hlt : i < withAt l x
    · have h1 : i < l.length := by have := HL.out.2; omega
      have h2 : (i : Int) < (l.length : Int) := by omega
      have h3 := withAt_lt hlt
      have hx := pw_cell_below HB.out (HCE.out i h1)
      have hsm : (l.length : Int) ≤ 1000 := by have := HL.out.1; omega
      have HI := Lib.hid hlt
      clear hlt hi
      go_wp2
      go_roundw
      case rel => exact ⟨i + 1, by have := HI.out; omega, by first | rfl | (congr 1), HB.out⟩
      case measure => simp [intOf]; omega
    · obtain rfl : i = withAt l x := by omega
      have hend : (withAt l x < l.length ∧ ¬ rd l ((withAt l x : Nat) : Int) < x) ∨ withAt l x = l.length := by
        rcases Nat.lt_or_ge (withAt l x) l.length with h | h
        · exact .inl ⟨h, withAt_at h⟩
        · exact .inr (by omega)
      obtain ⟨i0, hi0, _, hsz, _⟩ := info_parts info3
      obtain ⟨hcut1, hA1, hC1⟩ := print_take_of (P := Try.prog) (Value.int .i64) 0 22 3 .i64 Try.underlying22 hi0 hsz (some ad) c l ((withAt l x : Nat) : Int) (by omega) (by omega) HC.out
      obtain ⟨A2, hcut2, hA2, hC2⟩ := print_drop_of (P := Try.prog) (Value.int .i64) 0 22 3 .i64 Try.underlying22 hi0 hsz (some ad) c l ((withAt l x : Nat) : Int) (by omega) (by omega) HC.out
      have HR1 := Lib.hid (Kd.C_of_reads (h1 := fun _ => rfl) (hA1 _ (Kd.reads_of_C HR.out)))
      have HR2 := Lib.hid (Kd.C_of_reads (h1 := fun _ => rfl) (hA2 _ (Kd.reads_of_C HR.out)))
      have HE := Lib.hid (show withV l x = l.take (withAt l x) ++ [x] ++ l.drop (withAt l x) from rfl)
      simp only [Int.toNat_natCast] at hcut1 hcut2 HR1 HR2
      clear hA1 hA2 hC1 hC2 hi0 hsz
      generalize withAt l x = n at *
      have hl1 : (l.take n).length ≤ 1000 := by simp; have := HL.out.1; omega
      have hl2 : (l.drop n).length ≤ 1000 := by simp; have := HL.out.1; omega
      have HL1 := Lib.hid (⟨hl1, hl2⟩ : _ ∧ _)
      generalize hT : l.take n = T at *
      generalize hD : l.drop n = D at *
      have HLE := Lib.hid hle
      have HHI := Lib.hid hi
      clear hT hD hl1 hl2 hi
      obtain ⟨h1, h2⟩ | h1 := hend
      · have h3 : (n : Int) < (l.length : Int) := by omega
        have hx := pw_cell_below HB.out (HCE.out n h1)
        have h4 : ¬ rd l (n : Int) < x := h2
        clear h2
        go_wp2_with (first
          | ((with_reducible refine gate_builtin (b := .append) (xs := #[.tmp 21, .tmp 24]) rfl ?_); refine Kd.R_append_row (Value.int .i64) (0 : Int) (h1 := fun _ => rfl) (w0 := w) w.heap.size rfl (.tmp 21) (.tmp 24) 22 3 (.int .i64 0) 8 rfl Try.underlying22 info3 rfl (by omega) (.slice none 0 0) [] T (some ad) T.length c (fun _ => True) rfl rfl (fun _ _ => trivial) ?aO ?aR ?aB ?aS ?aL ?_; (case aO => exact Kd.R_nil _ _ _ _ _); (case aR => exact Kd.C_below HR1.out HB.out); (case aB => exact HB.out); (case aS => exact HB.out.size); (case aL => have := HL1.out.1; simp; omega); intro v1 w1 hR hb _ _; have H1 := Lib.hid hR; have HB1 := Lib.hid hb; clear hR hb)
          | ((with_reducible refine gate_builtin (b := .append) (xs := #[.tmp 26, .tmp 28]) rfl ?_); refine Kd.R_append_row (Value.int .i64) (0 : Int) (h1 := fun _ => rfl) (w0 := w) w.heap.size rfl (.tmp 26) (.tmp 28) 22 3 (.int .i64 0) 8 rfl Try.underlying22 info3 rfl (by omega) v1 ([] ++ T) [x] (some ⟨w1.heap.size, 0, none⟩) 1 1 (fun _ => True) rfl rfl (fun _ _ => trivial) ?aO ?aR ?aB ?aS ?aL ?_; (case aO => exact Kd.R_alloc H1.out _); (case aR => exact lit_C w1 [x] (by simp)); (case aB => exact below_alloc HB1.out _); (case aS => have := HB1.out.size; simp; omega); (case aL => have := HL1.out.1; simp; omega); intro v2 w2 hR hb _ _; have H2 := Lib.hid hR; have HB2 := Lib.hid hb; clear hR hb)
          | ((with_reducible refine gate_builtin (b := .append) (xs := #[.tmp 30, .tmp 33]) rfl ?_); refine Kd.R_append_row (Value.int .i64) (0 : Int) (h1 := fun _ => rfl) (w0 := w) w.heap.size rfl (.tmp 30) (.tmp 33) 22 3 (.int .i64 0) 8 rfl Try.underlying22 info3 rfl (by omega) v2 ([] ++ T ++ [x]) D A2 D.length (c - n) (fun _ => True) rfl rfl (fun _ _ => trivial) ?aO ?aR ?aB ?aS ?aL ?_; (case aO => exact H2.out); (case aR => exact Kd.C_below HR2.out HB2.out); (case aB => exact HB2.out); (case aS => exact HB2.out.size); (case aL => have := HL1.out; simp; omega); intro v3 w3 hR hb _ _; have H3 := Lib.hid hR; have HB3 := Lib.hid hb; clear hR hb))
        go_ret
        exact ⟨_, rfl, by rw [HE.out]; exact H3.out, HB3.out⟩
      · have h3 : ¬ (n : Int) < (l.length : Int) := by omega
        clear h1 hlt
        go_wp2_with (first
          | ((with_reducible refine gate_builtin (b := .append) (xs := #[.tmp 21, .tmp 24]) rfl ?_); refine Kd.R_append_row (Value.int .i64) (0 : Int) (h1 := fun _ => rfl) (w0 := w) w.heap.size rfl (.tmp 21) (.tmp 24) 22 3 (.int .i64 0) 8 rfl Try.underlying22 info3 rfl (by omega) (.slice none 0 0) [] T (some ad) T.length c (fun _ => True) rfl rfl (fun _ _ => trivial) ?aO ?aR ?aB ?aS ?aL ?_; (case aO => exact Kd.R_nil _ _ _ _ _); (case aR => exact Kd.C_below HR1.out HB.out); (case aB => exact HB.out); (case aS => exact HB.out.size); (case aL => have := HL1.out.1; simp; omega); intro v1 w1 hR hb _ _; have H1 := Lib.hid hR; have HB1 := Lib.hid hb; clear hR hb)
          | ((with_reducible refine gate_builtin (b := .append) (xs := #[.tmp 26, .tmp 28]) rfl ?_); refine Kd.R_append_row (Value.int .i64) (0 : Int) (h1 := fun _ => rfl) (w0 := w) w.heap.size rfl (.tmp 26) (.tmp 28) 22 3 (.int .i64 0) 8 rfl Try.underlying22 info3 rfl (by omega) v1 ([] ++ T) [x] (some ⟨w1.heap.size, 0, none⟩) 1 1 (fun _ => True) rfl rfl (fun _ _ => trivial) ?aO ?aR ?aB ?aS ?aL ?_; (case aO => exact Kd.R_alloc H1.out _); (case aR => exact lit_C w1 [x] (by simp)); (case aB => exact below_alloc HB1.out _); (case aS => have := HB1.out.size; simp; omega); (case aL => have := HL1.out.1; simp; omega); intro v2 w2 hR hb _ _; have H2 := Lib.hid hR; have HB2 := Lib.hid hb; clear hR hb)
          | ((with_reducible refine gate_builtin (b := .append) (xs := #[.tmp 30, .tmp 33]) rfl ?_); refine Kd.R_append_row (Value.int .i64) (0 : Int) (h1 := fun _ => rfl) (w0 := w) w.heap.size rfl (.tmp 30) (.tmp 33) 22 3 (.int .i64 0) 8 rfl Try.underlying22 info3 rfl (by omega) v2 ([] ++ T ++ [x]) D A2 D.length (c - n) (fun _ => True) rfl rfl (fun _ _ => trivial) ?aO ?aR ?aB ?aS ?aL ?_; (case aO => exact H2.out); (case aR => exact Kd.C_below HR2.out HB2.out); (case aB => exact HB2.out); (case aS => exact HB2.out.size); (case aL => have := HL1.out; simp; omega); intro v3 w3 hR hb _ _; have H3 := Lib.hid hR; have HB3 := Lib.hid hb; clear hR hb))
        go_ret
        exact ⟨_, rfl, by rw [HE.out]; exact H3.out, HB3.out⟩

theorem trishawref04_With.calls (A : Option Addr) (c : Nat) (l : List Int) (x : Int) (r : List Int) (w : World) (hr : Kd.C (Kd.int .i64) w A l.length l) (hc : l.length ≤ c) (h : trishawref04_With.f l x = some r) :
    Calls Try.prog 32 #[.slice A l.length c, .int .i64 x] w fun e w' => ∃ v0_ : Value, e = .returned v0_ ∧ Kd.R (Kd.int .i64) 3 w' w.heap.size (fun _ => True) v0_ r ∧ Below w.heap.size w w' := by
  unfold trishawref04_With.f at h
  split at h
  · rename_i hl
    obtain rfl := Option.some.inj h
    obtain ⟨ad, rfl, _⟩ := hr.2.2 hl.1
    exact with_calls ad c l x w hr hc hl.2
  · cases h

end Go.Proofs.Ytcgblpjknkmoaaa.B
