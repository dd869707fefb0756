import Derived.Test.YtcgblpjknkmoaaaB9S
import Derived.Test.YtcgblpjknkmoaaaEv4
namespace Go.Proofs.Ytcgblpjknkmoaaa.Pure
open Go.RowKit Go.Proofs.Ytcgblpjknkmoaaa.B Go.Proofs.YtcgblpjknkmoaaaW.PrintWords Go.Proofs.YtcgblpjknkmoaaaW.PrintLast Go.Proofs.Ytcgblpjknkmoaaa.Stamp

/-- the better of two, the first one at equal ranges -/
def comb (a b : List Int × Int) : List Int × Int := if a.2 < b.2 then b else a
theorem comb_assoc (a b c : List Int × Int) : comb (comb a b) c = comb a (comb b c) := by
  unfold comb
  by_cases h1 : a.2 < b.2 <;> by_cases h2 : b.2 < c.2 <;> by_cases h3 : a.2 < c.2 <;> simp [h1, h2, h3] <;> omega
theorem comb_least {a : List Int × Int} (h : -1 ≤ a.2) : comb a ([], -1) = a := by unfold comb; rw [if_neg (by simp; omega)]
theorem comb_ge (a b : List Int × Int) : a.2 ≤ (comb a b).2 ∧ b.2 ≤ (comb a b).2 := by unfold comb; split <;> omega
theorem foldl_comb (g : Int → List Int × Int) (vs : List Int) : ∀ (a e : List Int × Int), vs.foldl (fun s v => comb s (g v)) (comb a e) = comb a (vs.foldl (fun s v => comb s (g v)) e) := by
  induction vs with
  | nil => intro a e; rfl
  | cons v vs ih => intro a e; simp only [List.foldl_cons]; rw [comb_assoc, ih]
theorem foldl_comb_ge (g : Int → List Int × Int) (vs : List Int) : ∀ (e : List Int × Int), e.2 ≤ (vs.foldl (fun s v => comb s (g v)) e).2 := by
  induction vs with
  | nil => intro e; exact Int.le_refl _
  | cons v vs ih => intro e; simp only [List.foldl_cons]; exact Int.le_trans (comb_ge e (g v)).1 (ih _)

theorem refGo_succ (n : Nat) (h : Int) (l : List Int) : refGo (n + 1) h l = (refVals h l).foldl (fun s v => comb s (refGo n h (l ++ [v]))) ([], -1) := rfl

theorem foldl_congr_ge (f : List Int × Int → Int → List Int × Int) (g : Int → List Int × Int) (hfg : ∀ s v, -1 ≤ s.2 → f s v = comb s (g v)) : ∀ (vs : List Int) (s : List Int × Int), -1 ≤ s.2 → vs.foldl f s = vs.foldl (fun s v => comb s (g v)) s
  | [], _, _ => rfl
  | v :: vs, s, hs => by
    simp only [List.foldl_cons]
    rw [hfg s v hs]
    exact foldl_congr_ge f g hfg vs _ (Int.le_trans hs (comb_ge _ _).1)

theorem bestGo_ref (h : Int) : ∀ (n : Nat) (l : List Int) (st : List Int × Int), l ≠ [] → -1 ≤ st.2 → bestGo n h l st = comb st (refGo n h l)
  | 0, l, st, _, _ => rfl
  | n + 1, l, st, hl, hs => by
    have e1 : refVals h l = valsOf h l := by unfold refVals; rw [if_neg hl]
    rw [refGo_succ, e1, ← foldl_comb, comb_least hs]
    exact foldl_congr_ge _ _ (fun s v hsv => bestGo_ref h n (l ++ [v]) s (by simp) hsv) _ _ hs

theorem range_ge {h : Int} {V : List Int} (tk : Tick h V) {r : Int} (h2 : r ≤ h * lastV V) (h3 : ∀ a, 0 ≤ a → a ≤ r → 0 ≤ fewV h V a) : r ≤ rangeV h V := by
  obtain ⟨g1, g2, g3, g4⟩ := rangeV_spec tk
  rcases Int.lt_or_le (rangeV h V) r with c | c
  · rcases g4 with e | e
    · omega
    · have := h3 (rangeV h V + 1) (by omega) (by omega); omega
  · exact c
theorem few_iff {h : Int} {V : List Int} (tk : Tick h V) (a : Int) : 0 ≤ fewV h V a ↔ ∃ n : Nat, (n : Int) ≤ h ∧ Pays V n a := (fewV_few (by have := tk.h1; omega) V a).nonneg_iff

theorem range_append {h v : Int} {l : List Int} (tk : Tick h l) (tk2 : Tick h (l ++ [v])) (h1 : v ≤ rangeV h l + 1) : v ≤ rangeV h (l ++ [v]) := by
  have hh := tk.h1
  have hv : 1 ≤ v := (tk2.range v (by simp)).1
  have hlast : lastV (l ++ [v]) = v := by rw [lastV_append]
  refine range_ge tk2 ?_ (fun a h0 ha => (few_iff tk2 a).2 ?_)
  · rw [hlast]
    have := Int.mul_le_mul_of_nonneg_right hh (show 0 ≤ v by omega)
    omega
  · rcases Int.lt_or_le a v with c | c
    · obtain ⟨n, hn, hp⟩ := (few_iff tk a).1 ((rangeV_spec tk).2.2.1 a h0 (by omega))
      exact ⟨n, hn, hp.mono (fun x hx => List.mem_append_left _ hx)⟩
    · obtain rfl : a = v := by omega
      exact ⟨1, by simpa using hh, by simpa using Pays.step (.zero) (show a ∈ l ++ [a] by simp)⟩

theorem refGo_pos {h : Int} : ∀ (n : Nat) (l : List Int), Tick h l → lastV l ≤ rangeV h l → l.length + n ≤ 4 → lastV l ≤ Lb h (l.length - 1) → Lb h (l.length + n - 1) ≤ 199 → 1 ≤ (refGo n h l).2
  | 0, l, tk, hr, _, _, _ => by
    have := tk.last_range
    show 1 ≤ rangeV h l
    omega
  | n + 1, l, tk, hr, hn, hlb, hLb => by
    have hne : l ≠ [] := fun e => by have := tk.pos; rw [e] at this; simp at this
    have e1 : refVals h l = valsOf h l := by unfold refVals; rw [if_neg hne]
    have hcnt : 0 < valCnt h l := by unfold valCnt; omega
    obtain ⟨m, hm⟩ : ∃ m, valCnt h l = m + 1 := ⟨valCnt h l - 1, by omega⟩
    have hb := valAt_bound tk hcnt
    have e2 : l.length = (l.length - 1) + 1 := by have := tk.pos; omega
    have hv2 : valAt l 0 ≤ Lb h l.length := by
      rw [e2]; simp only [Lb]
      have := Int.mul_le_mul_of_nonneg_left hlb (show 0 ≤ h by have := tk.h1; omega)
      omega
    have hmono : Lb h l.length ≤ Lb h (l.length + (n + 1) - 1) := Lb_mono tk.h1 (by omega)
    have hva : valAt l 0 = lastV l + 1 := by simp [valAt]
    have tk2 : Tick h (l ++ [valAt l 0]) := tk.append (by omega) hb.1 (by omega)
    have hap := range_append tk tk2 (by rw [hva]; omega)
    have ih := refGo_pos n (l ++ [valAt l 0]) tk2 (by rw [lastV_append]; exact hap) (by simp; omega) (by rw [lastV_append]; simpa using hv2) (by simpa [Nat.add_assoc, Nat.add_comm 1 n] using hLb)
    rw [refGo_succ, e1]
    have e3 : valsOf h l = valAt l 0 :: ((List.range' 1 m).map (valAt l)) := by
      unfold valsOf
      rw [hm, List.range_eq_range', List.range'_succ]
      rfl
    rw [e3]
    simp only [List.foldl_cons]
    exact Int.le_trans (Int.le_trans ih (comb_ge _ _).2) (foldl_comb_ge _ _ _)

theorem bestV_ref (h k : Int) : bestV h k = refBestV h k := by
  unfold bestV refBestV
  cases he : bestErr h k with
  | true => rfl
  | false =>
    obtain ⟨h1, h6, k1, k4, hk⟩ := bestErr_false' he
    obtain ⟨n, hn⟩ : ∃ n, k.toNat = n + 1 := ⟨k.toNat - 1, by omega⟩
    have hLb : Lb h n ≤ 85 := by
      have := Lb_le (k := n + 1) h1 h6 (by omega) (by omega) (by have e : ((n + 1 : Nat) : Int) = k := (by omega); rw [e]; exact hk)
      simpa using this
    have tk : Tick h [1] := ⟨h1, h6, by simp, by simp, by simp [asc]⟩
    have hla : lastV [1] = 1 := by simp [lastV, rd]
    have hr1 : 1 ≤ rangeV h [1] := by
      refine range_ge tk (by rw [hla]; omega) (fun a h0 ha => (few_iff tk a).2 ?_)
      have : a = 0 ∨ a = 1 := by omega
      rcases this with rfl | rfl
      · exact ⟨0, by simp; omega, .zero⟩
      · exact ⟨1, by simpa using h1, by simpa using Pays.step (.zero) (show (1 : Int) ∈ [1] by simp)⟩
    have hpos := refGo_pos n [1] tk (by rw [hla]; exact hr1) (by simp; omega) (by rw [hla]; simp [Lb]) (by simp; omega)
    have e1 : bestGo (k.toNat - 1) h [1] ([], 0) = refGo n h [1] := by
      rw [hn, Nat.add_sub_cancel, bestGo_ref h n [1] ([], 0) (by simp) (by simp)]
      unfold comb
      rw [if_pos (by simp; omega)]
    have e2 : refGo k.toNat h [] = refGo n h [1] := by
      rw [hn, refGo_succ]
      simp only [refVals, if_true, List.foldl_cons, List.foldl_nil, List.nil_append]
      unfold comb
      rw [if_pos (by simp; omega)]
    rw [e1, e2]

theorem refGo_len (h : Int) : ∀ (n : Nat) (l : List Int), (refGo n h l).1.length ≤ l.length + n
  | 0, l => by simp [refGo]
  | n + 1, l => by
    rw [refGo_succ]
    have : ∀ (vs : List Int) (e : List Int × Int), e.1.length ≤ l.length + (n + 1) → (vs.foldl (fun s v => comb s (refGo n h (l ++ [v]))) e).1.length ≤ l.length + (n + 1) := fun vs => by
      induction vs with
      | nil => exact fun e he => he
      | cons v vs ih =>
        intro e he
        simp only [List.foldl_cons]
        refine ih _ ?_
        have h1 := refGo_len h n (l ++ [v])
        simp at h1
        unfold comb
        split
        · omega
        · exact he
    exact this _ _ (by simp)

theorem StampBest : trishawlaw04_StampBest.Pure := by
  intro a0 a1 _ _
  refine ⟨10000, ?_⟩
  unfold trishawlaw04_StampBest.f
  have hal : trishawlaw04_alive.f = some true := rfl
  rw [hal]
  simp only [stamp_Best.f, trishawref04_Best.f, Option.bind_some, bestV_ref]
  have hl : (refBestV a0 a1).1.length < 100 := by
    unfold refBestV
    cases he : bestErr a0 a1 with
    | true => simp
    | false =>
      obtain ⟨h1, h6, k1, k4, hk⟩ := bestErr_false' he
      have := refGo_len a0 a1.toNat []
      simp at this ⊢
      omega
  rw [same_f _ _ (by omega) _ (by omega)]
  simp

end Go.Proofs.Ytcgblpjknkmoaaa.Pure
