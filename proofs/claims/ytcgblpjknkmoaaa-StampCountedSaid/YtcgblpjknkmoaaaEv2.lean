/- The tables of fewest stamps, the program's and the specification's, are one and the same: at each amount the least number of stamps. -/
import Derived.Test.YtcgblpjknkmoaaaEv1
import Derived.Test.YtcgblpjknkmoaaaB4
namespace Go.Proofs.Ytcgblpjknkmoaaa.B
open Go.RowKit Go.Proofs.YtcgblpjknkmoaaaW.PrintWords Go.Proofs.YtcgblpjknkmoaaaW.PrintLast Go.Proofs.YtcgblpjknkmoaaaW.PrintMore
open Go.Proofs.Ytcgblpjknkmoaaa.Stamp

/-- the least number of stamps for an amount; -1: it is not payable -/
def fewV (h : Int) (V : List Int) (a : Int) : Int :=
  match (List.range (h.toNat + 1)).find? (fun n => decide (0 < N V n a)) with
  | some n => n
  | none => -1

theorem fewV_few {h : Int} (h0 : 0 ≤ h) (V : List Int) (a : Int) : Few h V a (fewV h V a) := by
  unfold fewV
  cases hf : (List.range (h.toNat + 1)).find? (fun n => decide (0 < N V n a)) with
  | none =>
    refine .inl ⟨rfl, fun n hn hp => ?_⟩
    have := List.find?_eq_none.1 hf n (by simp; omega)
    have h2 := (N_pos_iff V n a).2 hp
    simp at this; omega
  | some n =>
    obtain ⟨h1, us, bs, h2, h3⟩ := List.find?_eq_some_iff_append.1 hf
    have hn : n ∈ List.range (h.toNat + 1) := by rw [h2]; simp
    refine .inr ⟨n, rfl, by simp at hn; omega, (N_pos_iff V n a).1 (by simpa using h1), fun j hj hp => ?_⟩
    have hj' : j ∈ us := by
      have hs : (List.range (h.toNat + 1)).Pairwise (· < ·) := List.pairwise_lt_range
      have hm : j ∈ List.range (h.toNat + 1) := by simp at hn ⊢; omega
      rw [h2] at hm hs
      rcases List.mem_append.1 hm with h | h
      · exact h
      · rw [List.pairwise_append] at hs
        rcases List.mem_cons.1 h with rfl | h
        · omega
        · have := (List.pairwise_cons.1 hs.2.1).1 j h; omega
    have := h3 j hj'
    have h4 := (N_pos_iff V j a).2 hp
    simp at this; omega

def tab (h : Int) (V : List Int) : List Int := (List.range (h * lastV V + 1).toNat).map (fun (a : Nat) => fewV h V (a : Int))
theorem tab_length (h : Int) (V : List Int) : (tab h V).length = (h * lastV V + 1).toNat := by simp [tab]
theorem rd_tab {h : Int} {V : List Int} {a : Int} (h0 : 0 ≤ a) (h1 : a ≤ h * lastV V) : rd (tab h V) a = fewV h V a := by
  unfold rd tab
  have : a.toNat < (h * lastV V + 1).toNat := by omega
  simp [List.getD, this]
  congr 1; omega
theorem tab_of {h : Int} (h0 : 0 ≤ h) {V t : List Int} (hl : t.length = (h * lastV V + 1).toNat) (ht : ∀ j : Nat, j < t.length → Few h V j (rd t j)) : t = tab h V := by
  apply List.ext_getElem
  · rw [tab_length, hl]
  · intro i h1 h2
    have e1 := ht i h1
    have e2 := fewV_few h0 V (i : Int)
    have := e1.unique e2
    rw [rd_nat] at this
    simp only [tab, List.getElem_map, List.getElem_range]
    rw [← this]; simp [h1]

theorem rd_set {t : List Int} {a j : Nat} {b : Int} (ha : a < t.length) : rd (t.set a b) (j : Int) = if j = a then b else rd t (j : Int) := by
  rw [rd_nat, rd_nat]
  by_cases h : j = a
  · subst h; simp [ha]
  · rw [if_neg h]
    simp [List.getD, List.getElem?_set_ne (Ne.symm h)]

theorem take_snoc_rd {V : List Int} {i : Nat} (h : i < V.length) : V.take (i + 1) = V.take i ++ [rd V (i : Int)] := by
  rw [rd_nat, List.take_succ_eq_append_getElem h]; simp [h]

theorem fewest_l1 {h : Int} {V : List Int} (tk : Tick h V) {a : Nat} (ha : 0 < a) (d : Nat) : ∀ (i : Nat) (t : List Int) (k : Nat), i + d = V.length → a < t.length → t.length ≤ 1201 →
    Cand h V (V.take i) a (rd t a) → (∀ j : Nat, j < a → Few h V j (rd t j)) →
    ∃ b, Cand h V V a b ∧ stamp_fewest.l1 (k + d + 1) h V t (a : Int) V (V.length : Int) (i : Int) = stamp_fewest.l0 k h V (t.set a b) ((a : Int) + 1) := by
  induction d with
  | zero =>
    intro i t k hi hat ht hc hlow
    refine ⟨rd t a, ?_, ?_⟩
    · rw [List.take_of_length_le (by omega)] at hc; exact hc
    · simp only [stamp_fewest.l1]
      rw [if_neg (by omega), w64 (by omega)]
      congr 1
      apply List.ext_getElem
      · simp
      · intro j h1 h2
        rw [List.getElem_set]
        split
        · next e => subst e; rw [rd_nat]; simp [h1]
        · rfl
  | succ d ih =>
    intro i t k hi hat ht hc hlow
    have hV := tk.len
    have hil : i < V.length := by omega
    have hrv := tk.range _ (rd_mem (l := V) (i := (i : Int)) (by omega) (by omega))
    have e1 : wrap64 ((i : Int) + 1) = ((i + 1 : Nat) : Int) := by rw [w64 (by omega)]; omega
    have e2 : wrap64 ((a : Int) - rd V (i : Int)) = (a : Int) - rd V (i : Int) := w64 (by omega)
    have ek : k + (d + 1) + 1 = (k + d + 1) + 1 := by omega
    rw [ek]
    simp only [stamp_fewest.l1]
    rw [if_pos (by omega), if_pos (by omega), if_pos (by omega), e1]
    have go : ∀ t', t'.length = t.length → Cand h V (V.take (i + 1)) a (rd t' a) → (∀ j : Nat, j < a → rd t' j = rd t j) → (∀ b, t'.set a b = t.set a b) →
        ∃ b, Cand h V V a b ∧ stamp_fewest.l1 (k + d + 1) h V t' (a : Int) V (V.length : Int) ((i + 1 : Nat) : Int) = stamp_fewest.l0 k h V (t.set a b) ((a : Int) + 1) := by
      intro t' hl hc' hlow' hs
      obtain ⟨b, hb, e⟩ := ih (i + 1) t' k (by omega) (by omega) (by omega) hc' (fun j hj => by rw [hlow' j hj]; exact hlow j hj)
      exact ⟨b, hb, by rw [e, hs]⟩
    by_cases c1 : rd V (i : Int) ≤ (a : Int)
    · rw [if_pos c1, e2, if_pos (by omega), if_pos (by omega)]
      -- the number at a - v
      obtain ⟨j, hj⟩ : ∃ j : Nat, (a : Int) - rd V (i : Int) = j := ⟨((a : Int) - rd V (i : Int)).toNat, by omega⟩
      have hfj := hlow j (by omega)
      rw [← hj] at hfj
      have hge := hfj.ge
      have hle := hfj.le (by have := tk.h1; omega)
      have hh := tk.h6
      have hmx : (∃ b, rd t (a : Int) = b ∧ -1 ≤ b ∧ b ≤ 7) := ⟨_, rfl, by rcases hc with ⟨e, _⟩ | ⟨k, e, h1, _⟩ <;> omega, by rcases hc with ⟨e, _⟩ | ⟨k, e, h1, _⟩ <;> omega⟩
      by_cases c2 : rd t ((a : Int) - rd V (i : Int)) = -1
      · rw [if_pos c2]
        exact go t rfl (by rw [take_snoc_rd hil]; exact hc.keep hfj (.inl c2)) (fun _ _ => rfl) (fun _ => rfl)
      · rw [if_neg c2]
        by_cases c3 : rd t ((a : Int) - rd V (i : Int)) < h
        · have e3 : wrap64 (rd t ((a : Int) - rd V (i : Int)) + 1) = rd t ((a : Int) - rd V (i : Int)) + 1 := w64 (by omega)
          have eN : ((a : Int)).toNat = a := by omega
          rw [if_pos c3, if_pos (by omega), if_pos (by omega), e3, eN]
          have take : rd t (a : Int) = -1 ∨ rd t ((a : Int) - rd V (i : Int)) + 1 < rd t (a : Int) →
              ∃ b, Cand h V V a b ∧ stamp_fewest.l1 (k + d + 1) h V (t.set a (rd t ((a : Int) - rd V (i : Int)) + 1)) (a : Int) V (V.length : Int) ((i + 1 : Nat) : Int) = stamp_fewest.l0 k h V (t.set a b) ((a : Int) + 1) := fun h3 =>
            go _ (by simp) (by rw [take_snoc_rd hil, rd_set hat, if_pos rfl]; exact hc.take hfj c2 c3 h3) (fun j hj => by rw [rd_set hat, if_neg (by omega)]) (fun b => by simp)
          by_cases c4 : rd t (a : Int) = -1
          · rw [if_pos c4]; exact take (.inl c4)
          · rw [if_neg c4]
            by_cases c5 : rd t ((a : Int) - rd V (i : Int)) + 1 < rd t (a : Int)
            · rw [if_pos c5]; exact take (.inr c5)
            · rw [if_neg c5]
              exact go t rfl (by rw [take_snoc_rd hil]; exact hc.keep hfj (.inr (.inr ⟨c4, by omega⟩))) (fun _ _ => rfl) (fun _ => rfl)
        · rw [if_neg c3]
          exact go t rfl (by rw [take_snoc_rd hil]; exact hc.keep hfj (.inr (.inl (by omega)))) (fun _ _ => rfl) (fun _ => rfl)
    · rw [if_neg c1]
      exact go t rfl (by rw [take_snoc_rd hil]; exact hc.skip tk.Pos (by omega)) (fun _ _ => rfl) (fun _ => rfl)

theorem fewest_l0 {h : Int} {V : List Int} (tk : Tick h V) (d : Nat) : ∀ (a : Nat) (t : List Int) (k : Nat), a + d = t.length → 0 < a → t.length ≤ 1201 → d * (V.length + 2) + 1 ≤ k → (∀ j : Nat, j < a → Few h V j (rd t j)) →
    ∃ t', t'.length = t.length ∧ (∀ j : Nat, j < t.length → Few h V j (rd t' j)) ∧ stamp_fewest.l0 k h V t (a : Int) = some t' := by
  induction d with
  | zero =>
    intro a t k hi ha ht hk hlow
    obtain ⟨k, rfl⟩ : ∃ m, k = m + 1 := ⟨k - 1, by omega⟩
    exact ⟨t, rfl, fun j hj => hlow j (by omega), by simp only [stamp_fewest.l0]; rw [if_neg (by omega)]⟩
  | succ d ih =>
    intro a t k hi ha ht hk hlow
    rw [Nat.succ_mul] at hk
    obtain ⟨m, rfl⟩ : ∃ m, k = (m + V.length + 1) + 1 := ⟨k - V.length - 2, by omega⟩
    have eN : ((a : Int)).toNat = a := by omega
    simp only [stamp_fewest.l0]
    rw [if_pos (by omega), if_pos (by omega), eN]
    obtain ⟨b, hb, e⟩ := fewest_l1 tk ha V.length 0 (t.set a (-1)) m (by omega) (by simp; omega) (by simp; omega)
      (by rw [rd_set (by omega), if_pos rfl]; simpa using Cand.nil h V a) (fun j hj => by rw [rd_set (by omega), if_neg (by omega)]; exact hlow j hj)
    have e' : stamp_fewest.l1 (m + V.length + 1) h V (t.set a (-1)) (a : Int) V (V.length : Int) 0 = stamp_fewest.l0 m h V ((t.set a (-1)).set a b) ((a : Int) + 1) := e
    rw [e', List.set_set]
    have hf : Few h V a b := hb.few (by omega)
    obtain ⟨t', h1, h2, h3⟩ := ih (a + 1) (t.set a b) m (by simp; omega) (by omega) (by simp; omega) (by omega)
      (fun j hj => by
        rw [rd_set (by omega)]
        split
        · next e => subst e; exact hf
        · exact hlow j (by omega))
    refine ⟨t', by simpa using h1, fun j hj => h2 j (by simpa using hj), ?_⟩
    have e2 : ((a : Int) + 1) = ((a + 1 : Nat) : Int) := by omega
    rw [e2]; exact h3

theorem rd_replicate (n : Nat) (j : Int) : rd (List.replicate n 0) j = 0 := by
  unfold rd; simp [List.getD, List.getElem?_replicate]; split <;> rfl

theorem fewest_f {h : Int} {V : List Int} (tk : Tick h V) (k : Nat) (hk : 10000 ≤ k) : stamp_fewest.f k h V = some (tab h V) := by
  have ht := tk.top; have hp := tk.pos; have hl := tk.len
  have e1 : wrap64 ((V.length : Int) - 1) = (V.length : Int) - 1 := w64 (by omega)
  unfold stamp_fewest.f
  rw [e1, lastV_eq, w64 (x := h * lastV V) (by omega), w64 (x := h * lastV V + 1) (by omega), if_pos (by omega), if_pos (by omega), if_pos (by omega), if_pos (by omega)]
  obtain ⟨d, hd⟩ : ∃ d : Nat, 1 + d = (h * lastV V + 1).toNat := ⟨(h * lastV V).toNat, by omega⟩
  have hd2 : d * (V.length + 2) ≤ 1200 * 8 := Nat.mul_le_mul (by omega) (by omega)
  obtain ⟨t', h1, h2, h3⟩ := fewest_l0 tk d 1 (List.replicate (h * lastV V + 1).toNat 0) k (by simpa using hd) (by omega) (by simp; omega) (by omega)
    (fun j hj => by obtain rfl : j = 0 := by omega
                    rw [rd_replicate]; exact Few.zero (by have := tk.h1; omega) V)
  have h3' : stamp_fewest.l0 k h V (List.replicate (h * lastV V + 1).toNat 0) 1 = some t' := h3
  rw [h3', tab_of (by have := tk.h1; omega) (by rw [h1]; simp) (fun j hj => h2 j (by rw [h1] at hj; exact hj))]

/-! the specification's table -/
def refBest (h best : Int) : Int := if best = -1 then h + 1 else best

theorem reffew_l1 {h : Int} {V : List Int} (tk : Tick h V) {a : Nat} (ha : 0 < a) (d : Nat) : ∀ (i : Nat) (t : List Int) (k : Nat) (best : Int), i + d = V.length → a < t.length → t.length ≤ 1201 →
    Cand h V (V.take i) a best → (∀ j : Nat, j < a → Few h V j (rd t j)) →
    ∃ b, Cand h V V a b ∧ trishawref04_few.l1 (k + d + 1) h V t (a : Int) (refBest h best) (i : Int) = trishawref04_few.l0 k h V (t.set a b) ((a : Int) + 1) := by
  induction d with
  | zero =>
    intro i t k best hi hat ht hc hlow
    refine ⟨best, ?_, ?_⟩
    · rw [List.take_of_length_le (by omega)] at hc; exact hc
    · have h1 := tk.h1
      have eN : ((a : Int)).toNat = a := by omega
      simp only [trishawref04_few.l1]
      rw [if_neg (by omega), w64 (by omega), eN]
      unfold refBest
      by_cases c : best = -1
      · rw [if_pos c, if_pos (by omega), if_pos (by omega), if_pos (by omega), c]
      · rw [if_neg c]
        have : best ≤ h := by rcases hc with ⟨e, _⟩ | ⟨k, e, h1, _⟩ <;> omega
        rw [if_neg (by omega), if_pos (by omega), if_pos (by omega)]
  | succ d ih =>
    intro i t k best hi hat ht hc hlow
    have hV := tk.len; have h1 := tk.h1; have h6 := tk.h6
    have hil : i < V.length := by omega
    have hrv := tk.range _ (rd_mem (l := V) (i := (i : Int)) (by omega) (by omega))
    have e1 : wrap64 ((i : Int) + 1) = ((i + 1 : Nat) : Int) := by rw [w64 (by omega)]; omega
    have e2 : wrap64 ((a : Int) - rd V (i : Int)) = (a : Int) - rd V (i : Int) := w64 (by omega)
    have ek : k + (d + 1) + 1 = (k + d + 1) + 1 := by omega
    have hbest : best = -1 ∨ (1 ≤ best ∧ best ≤ h) := by rcases hc with ⟨e, _⟩ | ⟨k, e, h1, _⟩ <;> omega
    rw [ek]
    simp only [trishawref04_few.l1]
    rw [if_pos (by omega), if_pos (by omega), e1]
    have go : ∀ best', Cand h V (V.take (i + 1)) a best' →
        ∃ b, Cand h V V a b ∧ trishawref04_few.l1 (k + d + 1) h V t (a : Int) (refBest h best') ((i + 1 : Nat) : Int) = trishawref04_few.l0 k h V (t.set a b) ((a : Int) + 1) :=
      fun best' hc' => ih (i + 1) t k best' (by omega) (by omega) (by omega) hc' hlow
    by_cases c1 : rd V (i : Int) ≤ (a : Int)
    · rw [if_pos c1, e2, if_pos (by omega), if_pos (by omega)]
      obtain ⟨j, hj⟩ : ∃ j : Nat, (a : Int) - rd V (i : Int) = j := ⟨((a : Int) - rd V (i : Int)).toNat, by omega⟩
      have hfj := hlow j (by omega)
      rw [← hj] at hfj
      have hge := hfj.ge
      have hle := hfj.le (by omega)
      by_cases c2 : rd t ((a : Int) - rd V (i : Int)) ≥ 0
      · have e3 : wrap64 (rd t ((a : Int) - rd V (i : Int)) + 1) = rd t ((a : Int) - rd V (i : Int)) + 1 := w64 (by omega)
        rw [if_pos c2, e3]
        by_cases c3 : rd t ((a : Int) - rd V (i : Int)) < h ∧ (best = -1 ∨ rd t ((a : Int) - rd V (i : Int)) + 1 < best)
        · have e4 : mn (refBest h best) (rd t ((a : Int) - rd V (i : Int)) + 1) = refBest h (rd t ((a : Int) - rd V (i : Int)) + 1) := by
            unfold refBest mn; split <;> split <;> omega
          rw [e4]
          exact go _ (by rw [take_snoc_rd hil]; exact hc.take hfj (by omega) c3.1 c3.2)
        · have e4 : mn (refBest h best) (rd t ((a : Int) - rd V (i : Int)) + 1) = refBest h best := by
            unfold refBest mn; split <;> omega
          rw [e4]
          exact go _ (by rw [take_snoc_rd hil]; exact hc.keep hfj (by omega))
      · rw [if_neg c2]
        exact go _ (by rw [take_snoc_rd hil]; exact hc.keep hfj (.inl (by omega)))
    · rw [if_neg c1]
      exact go _ (by rw [take_snoc_rd hil]; exact hc.skip tk.Pos (by omega))

theorem reffew_l0 {h : Int} {V : List Int} (tk : Tick h V) (d : Nat) : ∀ (a : Nat) (t : List Int) (k : Nat), a + d = t.length → 0 < a → t.length ≤ 1201 → d * (V.length + 2) + 1 ≤ k → (∀ j : Nat, j < a → Few h V j (rd t j)) →
    ∃ t', t'.length = t.length ∧ (∀ j : Nat, j < t.length → Few h V j (rd t' j)) ∧ trishawref04_few.l0 k h V t (a : Int) = some t' := by
  induction d with
  | zero =>
    intro a t k hi ha ht hk hlow
    obtain ⟨k, rfl⟩ : ∃ m, k = m + 1 := ⟨k - 1, by omega⟩
    exact ⟨t, rfl, fun j hj => hlow j (by omega), by simp only [trishawref04_few.l0]; rw [if_neg (by omega)]⟩
  | succ d ih =>
    intro a t k hi ha ht hk hlow
    rw [Nat.succ_mul] at hk
    obtain ⟨m, rfl⟩ : ∃ m, k = (m + V.length + 1) + 1 := ⟨k - V.length - 2, by omega⟩
    have h1 := tk.h1; have h6 := tk.h6
    simp only [trishawref04_few.l0]
    rw [if_pos (by omega), w64 (by omega)]
    obtain ⟨b, hb, e⟩ := reffew_l1 tk ha V.length 0 t m (-1) (by omega) (by omega) (by omega) (by simpa using Cand.nil h V a) hlow
    have e' : trishawref04_few.l1 (m + V.length + 1) h V t (a : Int) (h + 1) 0 = trishawref04_few.l0 m h V (t.set a b) ((a : Int) + 1) := e
    rw [e']
    have hf : Few h V a b := hb.few (by omega)
    obtain ⟨t', h1, h2, h3⟩ := ih (a + 1) (t.set a b) m (by simp; omega) (by omega) (by simp; omega) (by omega)
      (fun j hj => by
        rw [rd_set (by omega)]
        split
        · next e => subst e; exact hf
        · exact hlow j (by omega))
    refine ⟨t', by simpa using h1, fun j hj => h2 j (by simpa using hj), ?_⟩
    have e2 : ((a : Int) + 1) = ((a + 1 : Nat) : Int) := by omega
    rw [e2]; exact h3

theorem reffew_f {h : Int} {V : List Int} (tk : Tick h V) (k : Nat) (hk : 10000 ≤ k) : trishawref04_few.f k h V = some (tab h V) := by
  have ht := tk.top; have hp := tk.pos; have hl := tk.len
  have e1 : wrap64 ((V.length : Int) - 1) = (V.length : Int) - 1 := w64 (by omega)
  unfold trishawref04_few.f
  rw [e1, lastV_eq, w64 (x := h * lastV V) (by omega), w64 (x := h * lastV V + 1) (by omega), if_pos (by omega), if_pos (by omega), if_pos (by omega), if_pos (by omega)]
  obtain ⟨d, hd⟩ : ∃ d : Nat, 1 + d = (h * lastV V + 1).toNat := ⟨(h * lastV V).toNat, by omega⟩
  have hd2 : d * (V.length + 2) ≤ 1200 * 8 := Nat.mul_le_mul (by omega) (by omega)
  obtain ⟨t', h1, h2, h3⟩ := reffew_l0 tk d 1 (List.replicate (h * lastV V + 1).toNat 0) k (by simpa using hd) (by omega) (by simp; omega) (by omega)
    (fun j hj => by obtain rfl : j = 0 := by omega
                    rw [rd_replicate]; exact Few.zero (by have := tk.h1; omega) V)
  have h3' : trishawref04_few.l0 k h V (List.replicate (h * lastV V + 1).toNat 0) 1 = some t' := h3
  rw [h3', tab_of (by have := tk.h1; omega) (by rw [h1]; simp) (fun j hj => h2 j (by rw [h1] at hj; exact hj))]

end Go.Proofs.Ytcgblpjknkmoaaa.B
