import Derived.Test.YtcgblpjknkmoaaaB17
import Derived.Test.YtcgblpjknkmoaaaNextV
namespace Go.Proofs.Ytcgblpjknkmoaaa.Pure
open Go.RowKit Go.Proofs.Ytcgblpjknkmoaaa.B Go.Proofs.YtcgblpjknkmoaaaW.PrintWords Go.Proofs.YtcgblpjknkmoaaaW.PrintLast Go.Proofs.Ytcgblpjknkmoaaa.Stamp

theorem Next_alive : trishawlaw04_alive.f = some true := rfl
theorem Next_with {V : List Int} (x : Int) (hp : 0 < V.length) (hl : V.length ≤ 6) : trishawref04_With.f V x = some (withV V x) := by unfold trishawref04_With.f; rw [if_pos ⟨hp, by omega⟩]

theorem refNext_l0 {h : Int} {V : List Int} (tk : Tick h V) (hl : V.length ≤ 5) (d : Nat) : ∀ (n k : Nat), n + d = 200 → d + 11000 ≤ k →
    trishawref04_Next.l0 k h V (nextTo h V n).1 (nextTo h V n).2 ((n + 1 : Nat) : Int) = some ((nextTo h V 200).1, (nextTo h V 200).2, 0) := by
  induction d with
  | zero =>
    intro n k hn hk
    obtain ⟨k, rfl⟩ : ∃ m, k = m + 1 := ⟨k - 1, by omega⟩
    obtain rfl : n = 200 := by omega
    simp only [trishawref04_Next.l0]
    rw [if_neg (by omega)]
  | succ d ih =>
    intro n k hn hk
    obtain ⟨k, rfl⟩ : ∃ m, k = m + 1 := ⟨k - 1, by omega⟩
    have hpos := tk.pos
    have hin := In_f V ((n + 1 : Nat) : Int) (by omega) k (by omega)
    have hw := Next_with (V := V) ((n + 1 : Nat) : Int) hpos (by omega)
    have q1 : ((n + 1 : Nat) : Int) ≤ 200 := by omega
    have q2 : (1 : Int) ≤ ((n + 1 : Nat) : Int) := by omega
    have q3 : 10000 ≤ k := by omega
    have hih := ih (n + 1) k (by omega) (by omega)
    have hex : nextTo h V (n + 1) = if ((n + 1 : Nat) : Int) ∈ V then nextTo h V n else if (nextTo h V n).2 < rangeV h (withV V ((n + 1 : Nat) : Int)) then (((n + 1 : Nat) : Int), rangeV h (withV V ((n + 1 : Nat) : Int))) else nextTo h V n := rfl
    have e1 : wrap64 (((n + 1 : Nat) : Int) + 1) = ((n + 1 + 1 : Nat) : Int) := by rw [w64 (by omega)]; omega
    simp only [trishawref04_Next.l0]
    rw [if_pos q1, hin, e1]
    simp only [Option.bind_some]
    by_cases cm : ((n + 1 : Nat) : Int) ∈ V
    · rw [if_pos cm] at hex
      rw [hex] at hih
      rw [if_pos (by simpa using cm)]; exact hih
    · have tk2 := tk.withV hl cm q2 q1
      have hre := refreach_f tk2 k q3
      rw [if_neg cm] at hex
      rw [if_neg (by simpa using cm), hw]
      simp only [Option.bind_some]
      rw [hre]
      simp only [Option.bind_some]
      by_cases cg : (nextTo h V n).2 < rangeV h (withV V ((n + 1 : Nat) : Int))
      · rw [if_pos cg] at hex
        rw [hex] at hih
        rw [if_pos cg]; exact hih
      · rw [if_neg cg] at hex
        rw [hex] at hih
        rw [if_neg cg]; exact hih
theorem refNext_f (h : Int) (V : List Int) (k : Nat) (hk : 12000 ≤ k) : trishawref04_Next.f k h V = some (nextV h V) := by
  unfold trishawref04_Next.f nextV
  rw [refTicket_f h V k (by omega)]
  simp only [Option.bind_some]
  by_cases c : ticketErr h V = 0
  · have tk := (ticket_iff h V).1 c
    have hlen := tk.len
    rw [if_pos c, if_pos c]
    by_cases c6 : V.length = 6
    · rw [if_pos c6, if_pos (by omega)]
    · rw [if_neg c6, if_neg (by omega)]
      exact refNext_l0 tk (by omega) 200 0 k (by omega) (by omega)
  · rw [if_neg c, if_neg c]

theorem refgreedy_l0 {h : Int} {V : List Int} (tk : Tick h V) {a : Int} (ha : a ≤ 1200) (n : Nat) : ∀ (k : Nat) (s : Int × Int), n ≤ V.length → n < k → GOk a s →
    trishawref04_greedy.l0 k V s.1 s.2 ((n : Int) - 1) = some (if 0 < ((V.take n).reverse.foldl gstep s).1 then -1 else ((V.take n).reverse.foldl gstep s).2) := by
  induction n with
  | zero =>
    intro k s hn hk hs
    obtain ⟨k, rfl⟩ : ∃ m, k = m + 1 := ⟨k - 1, by omega⟩
    simp only [trishawref04_greedy.l0]
    rw [if_neg (by omega)]
    have e : (V.take 0).reverse.foldl gstep s = s := rfl
    rw [e]
    by_cases c : s.1 > 0
    · rw [if_pos c, if_pos c]
    · rw [if_neg c, if_neg c]
  | succ n ih =>
    intro k s hn hk hs
    obtain ⟨k, rfl⟩ : ∃ m, k = m + 1 := ⟨k - 1, by omega⟩
    have e1 : (((n + 1 : Nat) : Int) - 1) = (n : Int) := by omega
    have hv := tk.range _ (rd_mem (l := V) (i := (n : Int)) (by omega) (by omega))
    have hs2 := gstep_ok hv.1 hs
    have e2 : (V.take (n + 1)).reverse.foldl gstep s = (V.take n).reverse.foldl gstep (gstep s (rd V (n : Int))) := by
      rw [take_snoc_rd (by omega), List.reverse_append]; rfl
    have hlen := tk.len
    have q1 : (n : Int) ≥ 0 := by omega
    have q2 : (n : Int) < (V.length : Int) := by omega
    have q3 : ¬ rd V (n : Int) = 0 := by omega
    have hih := ih k (gstep s (rd V (n : Int))) (by omega) (by omega) hs2
    have e3 : wrap64 ((n : Int) - 1) = (n : Int) - 1 := w64 (by omega)
    have e4 : wrap64 (s.2 + wrap64 (Int.tdiv s.1 (rd V (n : Int)))) = s.2 + Int.tdiv s.1 (rd V (n : Int)) := by
      obtain ⟨h1, h2, h3⟩ := hs
      obtain ⟨g1, g2, g3⟩ := hs2
      simp only [gstep] at g1 g2 g3
      have p1 := Int.tdiv_eq_ediv_of_nonneg (b := rd V (n : Int)) h1
      have p2 := Int.ediv_nonneg h1 (show 0 ≤ rd V (n : Int) by omega)
      rw [← p1] at p2
      generalize Int.tdiv s.1 (rd V (n : Int)) = q at *
      clear e3
      rw [w64 (x := q) (by omega), w64 (by omega)]
    rw [e1, e2]
    simp only [trishawref04_greedy.l0]
    rw [if_pos q1, if_pos q1, if_pos q2, if_neg q3, e4, e3]
    exact hih
theorem refgreedy_f {h : Int} {V : List Int} (tk : Tick h V) {a : Int} (h0 : 0 ≤ a) (ha : a ≤ 1200) (k : Nat) (hk : 20 ≤ k) : trishawref04_greedy.f k V a = some (if 0 < (gAll V a).1 then -1 else (gAll V a).2) := by
  have hlen := tk.len
  unfold trishawref04_greedy.f
  have h1 := refgreedy_l0 tk ha V.length k (a, 0) (Nat.le_refl _) (by omega) ⟨h0, Int.le_refl _, by simp⟩
  rw [List.take_of_length_le (Nat.le_refl _)] at h1
  rw [w64 (x := (V.length : Int) - 1) (by omega)]
  exact h1

theorem gAll_zero' {V : List Int} (hp : ∀ v ∈ V, 1 ≤ v) : gAll V 0 = (0, 0) := by
  have h := gfold_ok (a := 0) V.reverse (0, 0) (fun v hv => hp v (List.mem_reverse.1 hv)) ⟨Int.le_refl _, Int.le_refl _, by simp⟩
  have h2 : GOk 0 (gAll V 0) := h
  obtain ⟨h1, h2, h3⟩ := h2
  exact Prod.ext (by show _ = (0 : Int); omega) (by show _ = (0 : Int); omega)

theorem refGreedy_l0 {h : Int} {V : List Int} (tk : Tick h V) (d : Nat) : ∀ (i k : Nat), i + d = (tab h V).length → d + 50 ≤ k → (∀ j, j < i → badAt h V j = false) →
    trishawref04_Greedy.l0 k h V (tab h V) (i : Int) = some (greedyV h V) := by
  have ht := tk.top
  have h1 := tk.h1
  have htl := tab_length h V
  have hgv : greedyV h V = (match (List.range (tab h V).length).find? (badAt h V) with | some a => ((a : Int), 0) | none => (0, 10)) := by unfold greedyV; rw [if_pos ((ticket_iff h V).2 tk)]; rfl
  induction d with
  | zero =>
    intro i k hi hk hb
    obtain ⟨k, rfl⟩ : ∃ m, k = m + 1 := ⟨k - 1, by omega⟩
    simp only [trishawref04_Greedy.l0]
    rw [if_neg (by omega), hgv, List.find?_range_eq_none.2 (fun j hj => by simp [hb j (by omega)])]
  | succ d ih =>
    intro i k hi hk hb
    obtain ⟨k, rfl⟩ : ∃ m, k = m + 1 := ⟨k - 1, by omega⟩
    have q1 : (i : Int) < ((tab h V).length : Int) := by omega
    have q2 : (0 : Int) ≤ (i : Int) := by omega
    have hg := refgreedy_f tk (a := (i : Int)) q2 (by omega) k (by omega)
    have hrd := rd_tab (h := h) (V := V) (a := (i : Int)) q2 (by omega)
    have hge := (fewV_few (show 0 ≤ h by omega) V (i : Int)).ge
    have hgo : GOk (i : Int) (gAll V (i : Int)) := gfold_ok (a := (i : Int)) V.reverse ((i : Int), 0) (fun v hv => (tk.range v (List.mem_reverse.1 hv)).1) ⟨q2, Int.le_refl _, by simp⟩
    have hfound : badAt h V i = true → greedyV h V = ((i : Int), 0) := fun hbi => by
      have hf : (List.range (tab h V).length).find? (badAt h V) = some i := List.find?_range_eq_some.2 ⟨hbi, List.mem_range.2 (by omega), fun j hj => by simp [hb j hj]⟩
      rw [hgv, hf]
    have hnext : badAt h V i = false → trishawref04_Greedy.l0 k h V (tab h V) ((i + 1 : Nat) : Int) = some (greedyV h V) := fun hbi => ih (i + 1) k (by omega) (by omega) (fun j hj => by
      rcases Nat.lt_or_ge j i with c | c
      · exact hb j c
      · have : j = i := by omega
        rw [this]; exact hbi)
    have e1 : wrap64 ((i : Int) + 1) = ((i + 1 : Nat) : Int) := by rw [w64 (by omega)]; omega
    simp only [trishawref04_Greedy.l0]
    rw [if_pos q1, hg, e1]
    simp only [Option.bind_some]
    rw [if_pos q2, hrd]
    clear e1
    obtain ⟨g1, g2, g3⟩ := hgo
    unfold badAt at hfound hnext
    generalize gAll V (i : Int) = s at *
    generalize fewV h V (i : Int) = m at *
    by_cases c1 : m ≥ 0
    · have hm : decide (m ≠ -1) = true := by simp; omega
      rw [hm] at hfound hnext
      rw [if_pos c1]
      by_cases c2 : 0 < s.1
      · rw [if_pos c2, if_pos (by omega), hfound (by simp [c2])]
      · rw [if_neg c2, if_neg (by omega)]
        by_cases c3 : s.2 > h
        · rw [if_pos c3, hfound (by simp; omega)]
        · rw [if_neg c3, hnext (by simp; omega)]
    · have hm : decide (m ≠ -1) = false := by simp; omega
      rw [hm] at hnext
      rw [if_neg c1, hnext (by simp)]
theorem refGreedy_f (h : Int) (V : List Int) (k : Nat) (hk : 12000 ≤ k) : trishawref04_Greedy.f k h V = some (greedyV h V) := by
  unfold trishawref04_Greedy.f
  rw [refTicket_f h V k (by omega)]
  simp only [Option.bind_some]
  by_cases c : ticketErr h V = 0
  · have tk := (ticket_iff h V).1 c
    have ht := tk.top
    have htl := tab_length h V
    rw [if_pos c, reffew_f tk k (by omega)]
    simp only [Option.bind_some]
    refine refGreedy_l0 tk ((tab h V).length - 1) 1 k (by omega) (by omega) (fun j hj => ?_)
    have : j = 0 := by omega
    subst this
    have h1 := tk.h1
    have := gAll_zero' (V := V) (fun v hv => (tk.range v hv).1)
    simp [badAt, this]
    omega
  · rw [if_neg c]
    unfold greedyV; rw [if_neg c]

theorem StampNext : trishawlaw04_StampNext.Pure := by
  intro a0 l1 _ _ _ _
  refine ⟨20010, ?_⟩
  unfold trishawlaw04_StampNext.f
  by_cases hl : (l1.length : Int) > 30
  · rw [if_pos hl, Next_alive]; rfl
  · rw [if_neg hl, refNext_f a0 l1 20010 (by omega)]
    unfold stamp_Next.f
    simp only [Option.bind_some, if_true, bne_self_eq_false]
    show trishawlaw04_StampNext.j0 (20009 + 1) a0 l1 false = some true
    simp only [trishawlaw04_StampNext.j0]
    rw [refGreedy_f a0 l1 20009 (by omega)]
    unfold stamp_Greedy.f
    rw [if_neg (by simp)]
    simp only [Option.bind_some, if_true]
    rw [Next_alive]; rfl

end Go.Proofs.Ytcgblpjknkmoaaa.Pure
