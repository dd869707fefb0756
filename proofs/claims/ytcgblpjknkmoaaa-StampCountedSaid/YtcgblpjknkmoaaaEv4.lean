/- In how many ways an amount is paid, and by which stamps first: the specification's numbers and lists. -/
import Derived.Test.YtcgblpjknkmoaaaEv3
import Derived.Test.YtcgblpjknkmoaaaB5
namespace Go.Proofs.Ytcgblpjknkmoaaa.B
open Go.RowKit Go.Proofs.YtcgblpjknkmoaaaW.PrintWords Go.Proofs.YtcgblpjknkmoaaaW.PrintLast Go.Proofs.YtcgblpjknkmoaaaW.PrintMore
open Go.Proofs.Ytcgblpjknkmoaaa.Stamp

theorem W_le_tot (S : List Int) : ∀ (k : Nat) (a : Int), W S k a ≤ tot S.length k := by
  induction S with
  | nil => intro k a; rw [W_nil]; simp only [List.length_nil, tot]; split <;> omega
  | cons x S ih =>
    intro k
    induction k with
    | zero => intro a; rw [W_zero]; simp only [List.length_cons, tot]; split <;> omega
    | succ k ihk =>
      intro a
      rw [W_cons]
      have h1 := ih (k + 1) a
      have h2 := ihk (a - x)
      simp only [List.length_cons] at h2 ⊢
      have : tot (S.length + 1) (k + 1) = tot S.length (k + 1) + tot (S.length + 1) k := by rw [tot]
      omega
theorem tot_mono_l (n : Nat) : ∀ h, tot n h ≤ tot (n + 1) h
  | 0 => by cases n <;> simp [tot]
  | h + 1 => by rw [show tot (n + 1) (h + 1) = tot n (h + 1) + tot (n + 1) h by rw [tot]]; omega
theorem tot_mono_r (n h : Nat) : tot n h ≤ tot n (h + 1) := by
  cases n with
  | zero => simp [tot]
  | succ n => rw [show tot (n + 1) (h + 1) = tot n (h + 1) + tot (n + 1) h by rw [tot]]; omega
theorem tot_le {n h : Nat} (hn : n ≤ 6) (hh : h ≤ 6) : tot n h ≤ 924 := by
  have h1 : ∀ d n, tot n h ≤ tot (n + d) h := fun d => by
    induction d with
    | zero => intro n; exact Nat.le_refl _
    | succ d ih => intro n; exact Nat.le_trans (ih n) (tot_mono_l _ _)
  have h2 : ∀ d m, tot 6 m ≤ tot 6 (m + d) := fun d => by
    induction d with
    | zero => intro n; exact Nat.le_refl _
    | succ d ih => intro n; exact Nat.le_trans (ih n) (tot_mono_r _ _)
  have a := h1 (6 - n) n
  have b := h2 (6 - h) h
  rw [Nat.add_sub_cancel' hn] at a
  rw [Nat.add_sub_cancel' hh] at b
  have : tot 6 6 = 924 := by simp [tot]
  omega

/-- the values up to an index, the last one first -/
def upto (V : List Int) (last : Int) : List Int := (V.take (last + 1).toNat).reverse
theorem upto_cons {V : List Int} {last : Int} (h0 : 0 ≤ last) (h1 : last < V.length) : upto V last = rd V last :: upto V (last - 1) := by
  unfold upto
  obtain ⟨i, rfl⟩ : ∃ i : Nat, last = i := ⟨last.toNat, by omega⟩
  have e1 : ((i : Int) + 1).toNat = i + 1 := by omega
  have e2 : ((i : Int) - 1 + 1).toNat = i := by omega
  rw [e1, e2, take_snoc_rd (by omega), List.reverse_append]; rfl
theorem upto_length {V : List Int} {last : Int} (h1 : last < V.length) : (upto V last).length = (last + 1).toNat := by unfold upto; simp; omega
theorem upto_all (V : List Int) : upto V ((V.length : Int) - 1) = V.reverse := by
  unfold upto; rw [List.take_of_length_le (by omega)]

theorem ways_f {V : List Int} (hp : Pos V) (hl : V.length ≤ 6) (hv : ∀ v ∈ V, v ≤ 200) (n : Nat) : ∀ (many : Nat) (last amount : Int) (k : Nat), many + (last + 1).toNat = n → -1 ≤ last → last < V.length → many ≤ 6 → -2000 ≤ amount → amount ≤ 2000 →
    2 * n + 2 ≤ k → 0 ≤ amount → trishawref04_ways.f k V many last amount = some ((W (upto V last) many amount : Nat) : Int) := by
  induction n with
  | zero =>
    intro many last amount k hn hl0 hl1 hm ha0 ha1 hk hz
    obtain ⟨k, rfl⟩ : ∃ m, k = (m + 1) + 1 := ⟨k - 2, by omega⟩
    obtain rfl : many = 0 := by omega
    simp only [trishawref04_ways.f, trishawref04_ways.j0]
    rw [W_zero]
    by_cases c : amount = 0
    · rw [if_pos c, if_pos c]; rfl
    · rw [if_neg c, if_neg c]; simp
  | succ n ih =>
    intro many last amount k hn hl0 hl1 hm ha0 ha1 hk hz
    obtain ⟨k, rfl⟩ : ∃ m, k = (m + 1) + 1 := ⟨k - 2, by omega⟩
    have hpu : Pos (upto V last) := fun v hv => hp v (by unfold upto at hv; exact List.mem_of_mem_take (List.mem_reverse.1 hv))
    simp only [trishawref04_ways.f]
    by_cases c : amount = 0
    · rw [if_pos c, c, W_amount_zero hpu]; rfl
    · rw [if_neg c]
      by_cases c1 : (many : Int) = 0
      · obtain rfl : many = 0 := by omega
        rw [if_pos c1, W_zero, if_neg c]
        simp only [trishawref04_ways.j0]; simp
      · rw [if_neg c1]
        by_cases c2 : last < 0
        · obtain rfl : last = -1 := by omega
          simp only [trishawref04_ways.j0]
          have : upto V (-1) = [] := by simp [upto]
          rw [this, W_nil, if_neg c]; simp
        · obtain ⟨j, rfl⟩ : ∃ j, many = j + 1 := ⟨many - 1, by omega⟩
          have hx := hp _ (rd_mem (l := V) (i := last) (by omega) (by omega))
          have hx2 := hv _ (rd_mem (l := V) (i := last) (by omega) (by omega))
          have e1 : wrap64 (last - 1) = last - 1 := w64 (by omega)
          have e2 : wrap64 (((j + 1 : Nat) : Int) - 1) = (j : Int) := by rw [w64 (by omega)]; omega
          have e3 : wrap64 (amount - rd V last) = amount - rd V last := w64 (by omega)
          have h1 := ih (j + 1) (last - 1) amount k (by omega) (by omega) (by omega) (by omega) ha0 ha1 (by omega) hz
          simp only [trishawref04_ways.j0]
          rw [if_neg (by simpa using c2), e1, h1, e2, e3]
          simp only [Option.bind_some]
          rw [if_pos (by omega), if_pos (by omega), upto_cons (V := V) (last := last) (by omega) (by omega), W_cons]
          have b1 := W_le_tot (upto V (last - 1)) (j + 1) amount
          rw [upto_length (by omega)] at b1
          have b2 := tot_le (n := (last - 1 + 1).toNat) (h := j + 1) (by omega) hm
          by_cases c3 : rd V last ≤ amount
          · have h2 := ih j last (amount - rd V last) k (by omega) (by omega) (by omega) (by omega) (by omega) (by omega) (by omega) (by omega)
            rw [if_pos c3, h2]
            simp only [Option.bind_some]
            rw [upto_cons (V := V) (last := last) (by omega) (by omega)]
            have b3 := W_le_tot (rd V last :: upto V (last - 1)) j (amount - rd V last)
            rw [← upto_cons (V := V) (last := last) (by omega) (by omega), upto_length (by omega)] at b3
            have b4 := tot_le (n := (last + 1).toNat) (h := j) (by omega) (by omega)
            rw [← upto_cons (V := V) (last := last) (by omega) (by omega)]
            rw [w64 (by omega)]; congr 1
          · rw [if_neg c3]
            have : W (rd V last :: upto V (last - 1)) j (amount - rd V last) = 0 := by
              rw [← upto_cons (V := V) (last := last) (by omega) (by omega)]
              exact W_neg hpu (by omega)
            rw [this]; simp

/-- Ways, of both -/
def waysV (h : Int) (V : List Int) (a : Int) : Int × Int := if askedErr h V a = 0 then ((W V h.toNat a : Nat), 0) else (0, askedErr h V a)

theorem asked_tick {h : Int} {V : List Int} {a : Int} (e : askedErr h V a = 0) : Tick h V ∧ 0 ≤ a ∧ a ≤ h * lastV V := by
  unfold askedErr at e
  by_cases c : ticketErr h V = 0
  · rw [if_pos c] at e
    have tk := (ticket_iff h V).1 c
    split at e
    · omega
    · exact ⟨tk, by omega, by omega⟩
  · rw [if_neg c] at e; exact absurd e c

theorem refWays_f (h : Int) (V : List Int) (a : Int) (k : Nat) (hk : 10000 ≤ k) : trishawref04_Ways.f k h V a = some (waysV h V a) := by
  unfold trishawref04_Ways.f waysV
  rw [refAsked_f h V a k (by omega)]
  simp only [Option.bind_some]
  by_cases c : askedErr h V a = 0
  · obtain ⟨tk, h0, h1⟩ := asked_tick c
    have ht := tk.top; have hp := tk.pos; have hl := tk.len; have t1 := tk.h1; have t6 := tk.h6
    rw [if_pos c, if_pos c, w64 (by omega)]
    have := ways_f tk.Pos hl (fun v hv => (tk.range v hv).2) (h.toNat + V.length) h.toNat ((V.length : Int) - 1) a k (by omega) (by omega) (by omega) (by omega) (by omega) (by omega) (by omega) h0
    have e : ((h.toNat : Nat) : Int) = h := by omega
    rw [e] at this
    rw [this, upto_all, W_perm (List.reverse_perm V)]; rfl
  · rw [if_neg c, if_neg c]

/-! exactly -/
theorem gen_drop_prefix (V : List Int) (m : Nat) (a : Int) (i j : Nat) (h : i ≤ j) : ∃ t, gen (V.drop i) (m + 1) a = gen (V.drop j) (m + 1) a ++ t := by
  induction j with
  | zero => obtain rfl : i = 0 := by omega
            exact ⟨[], by simp⟩
  | succ j ih =>
    rcases Nat.lt_or_ge j i with h1 | h1
    · obtain rfl : i = j + 1 := by omega
      exact ⟨[], by simp⟩
    · obtain ⟨t, ht⟩ := ih h1
      rcases Nat.lt_or_ge j V.length with h2 | h2
      · rw [drop_rd h2, gen_cons] at ht
        exact ⟨_, by rw [ht, List.append_assoc]⟩
      · rw [List.drop_of_length_le h2] at ht
        exact ⟨t, by rw [ht, List.drop_of_length_le (by omega)]⟩

def exactV (V : List Int) (many : Nat) (from_ : Nat) (a : Int) : List Int × Bool :=
  match (gen (V.drop from_) many a).head? with
  | some l => (l, true)
  | none => ([], false)

theorem exactV_snd {V : List Int} {m i : Nat} {a : Int} : (exactV V m i a).2 = true ↔ gen (V.drop i) m a ≠ [] := by
  unfold exactV; cases gen (V.drop i) m a <;> simp
theorem exactV_of {V : List Int} {m i : Nat} {a : Int} {l : List Int} {t : List (List Int)} (h : gen (V.drop i) m a = l :: t) : exactV V m i a = (l, true) := by
  unfold exactV; rw [h]; rfl
theorem exactV_none {V : List Int} {m i : Nat} {a : Int} (h : gen (V.drop i) m a = []) : exactV V m i a = ([], false) := by
  unfold exactV; rw [h]; rfl
theorem gen_len_le {S : List Int} {m : Nat} {a : Int} {l : List Int} {t : List (List Int)} (h : gen S m a = l :: t) : l.length = m := (gen_mem S m a l (by rw [h]; simp)).1

theorem exactly_l0 {V : List Int} (hp : Pos V) (hl : V.length ≤ 6) (hv : ∀ v ∈ V, v ≤ 200) (m : Nat) (hm : m ≤ 6) (from_ : Nat) (a : Int) (ha : -2000 ≤ a ∧ a ≤ 2000) (K : Nat)
    (ih : ∀ (i : Nat) (b : Int) (k : Nat), -2000 ≤ b → b ≤ 2000 → K ≤ k → trishawref04_exactly.f k V (m : Int) (i : Int) b = some (exactV V m i b)) (d : Nat) :
    ∀ (i : Int) (k : Nat), i + 1 - from_ = d → i < V.length → K + d + 1 ≤ k → gen (V.drop (i + 1).toNat) (m + 1) a = [] →
    trishawref04_exactly.l0 k V ((m + 1 : Nat) : Int) (from_ : Int) a i = some (exactV V (m + 1) from_ a) := by
  induction d with
  | zero =>
    intro i k hi hil hk hg
    obtain ⟨k, rfl⟩ : ∃ m, k = m + 1 := ⟨k - 1, by omega⟩
    simp only [trishawref04_exactly.l0]
    rw [if_neg (by omega)]
    have : (i + 1).toNat = from_ := by omega
    rw [this] at hg
    rw [exactV_none hg]
  | succ d ihd =>
    intro i k hi hil hk hg
    obtain ⟨k, rfl⟩ : ∃ m, k = m + 1 := ⟨k - 1, by omega⟩
    obtain ⟨j, rfl⟩ : ∃ j : Nat, i = j := ⟨i.toNat, by omega⟩
    have hx := hp _ (rd_mem (l := V) (i := (j : Int)) (by omega) (by omega))
    have hx2 := hv _ (rd_mem (l := V) (i := (j : Int)) (by omega) (by omega))
    have e1 : wrap64 ((j : Int) - 1) = (j : Int) - 1 := w64 (by omega)
    have e2 : wrap64 (((m + 1 : Nat) : Int) - 1) = (m : Int) := by rw [w64 (by omega)]; omega
    have ej : ((j : Int) + 1).toNat = j + 1 := by omega
    rw [ej] at hg
    have hgj : gen (V.drop j) (m + 1) a = (gen (V.drop j) m (a - rd V (j : Int))).map (rd V (j : Int) :: ·) := by
      rw [drop_rd (l := V) (i := j) (by omega), gen_cons, hg, List.nil_append]
    have next : gen (V.drop j) m (a - rd V (j : Int)) = [] → trishawref04_exactly.l0 k V ((m + 1 : Nat) : Int) (from_ : Int) a ((j : Int) - 1) = some (exactV V (m + 1) from_ a) := fun h0 => by
      refine ihd ((j : Int) - 1) k (by omega) (by omega) (by omega) ?_
      have : ((j : Int) - 1 + 1).toNat = j := by omega
      rw [this, hgj, h0]; rfl
    simp only [trishawref04_exactly.l0]
    rw [if_pos (by omega), if_pos (by omega), if_pos (by omega), e1, e2]
    by_cases c : rd V (j : Int) > a
    · rw [if_pos c]
      refine next ?_
      have hpd : Pos (V.drop j) := fun v hv => hp v (List.mem_of_mem_drop hv)
      exact gen_none_low (m := 0) (fun v hv => by have := hpd v hv; omega) (by omega)
    · rw [if_neg c, w64 (by omega), ih j (a - rd V (j : Int)) k (by omega) (by omega) (by omega)]
      simp only [Option.bind_some]
      cases hh : gen (V.drop j) m (a - rd V (j : Int)) with
      | nil =>
        rw [exactV_none hh, if_neg (by simp)]
        exact next hh
      | cons l t =>
        rw [exactV_of hh, if_pos rfl]
        have hlen := gen_len_le hh
        obtain ⟨t', ht'⟩ := gen_drop_prefix V m a from_ j (by omega)
        rw [hgj, hh, List.map_cons, List.cons_append] at ht'
        rw [exactV_of ht', if_pos (by simp; omega)]
        rfl

theorem exactly_f {V : List Int} (hp : Pos V) (hl : V.length ≤ 6) (hv : ∀ v ∈ V, v ≤ 200) (m : Nat) : m ≤ 6 → ∀ (i : Nat) (a : Int) (k : Nat), -2000 ≤ a → a ≤ 2000 → 9 * m + 1 ≤ k →
    trishawref04_exactly.f k V (m : Int) (i : Int) a = some (exactV V m i a) := by
  induction m with
  | zero =>
    intro _ i a k h1 h2 hk
    obtain ⟨k, rfl⟩ : ∃ m, k = m + 1 := ⟨k - 1, by omega⟩
    simp only [trishawref04_exactly.f]
    rw [if_pos (by omega)]
    by_cases c : a = 0
    · rw [exactV_of (l := []) (t := []) (by rw [gen_zero, if_pos c]), c]; rfl
    · rw [exactV_none (by rw [gen_zero, if_neg c])]
      have : (a == 0) = false := by simp [c]
      rw [this]
  | succ m ih =>
    intro hm i a k h1 h2 hk
    obtain ⟨k, rfl⟩ : ∃ m, k = m + 1 := ⟨k - 1, by omega⟩
    simp only [trishawref04_exactly.f]
    rw [if_neg (by omega), w64 (by omega)]
    have hnil : gen (V.drop V.length) (m + 1) a = [] := by rw [List.drop_of_length_le (Nat.le_refl _), gen_nil]
    rcases Nat.lt_or_ge V.length i with c | c
    · -- from beyond the list: no round
      obtain ⟨k, rfl⟩ : ∃ m, k = m + 1 := ⟨k - 1, by omega⟩
      simp only [trishawref04_exactly.l0]
      rw [if_neg (by omega), exactV_none (by rw [List.drop_of_length_le (by omega), gen_nil])]
    · refine exactly_l0 hp hl hv m (by omega) i a ⟨h1, h2⟩ (9 * m + 1) (fun i b k hb1 hb2 hk => ih (by omega) i b k hb1 hb2 hk) (V.length - i) ((V.length : Int) - 1) k (by omega) (by omega) (by omega) ?_
      have : ((V.length : Int) - 1 + 1).toNat = V.length := by omega
      rw [this]; exact hnil

/-- Pay, of both -/
def payV (h : Int) (V : List Int) (a : Int) : List Int × Int :=
  if askedErr h V a = 0 then
    (match (List.range (h.toNat + 1)).find? (fun n => !(gen V n a).isEmpty) with
     | some n => ((gen V n a).headD [], 0)
     | none => ([], 10))
  else ([], askedErr h V a)

theorem refPay_l0 {h : Int} {V : List Int} (tk : Tick h V) {a : Int} (ha : 0 ≤ a ∧ a ≤ 1200) (d : Nat) : ∀ (i k : Nat), i + d = h.toNat + 1 → d + 100 ≤ k →
    trishawref04_Pay.l0 k h V a (i : Int) = some (match (List.range' i d).find? (fun n => !(gen V n a).isEmpty) with | some n => ((gen V n a).headD [], 0) | none => ([], 10)) := by
  have t1 := tk.h1; have t6 := tk.h6
  induction d with
  | zero =>
    intro i k hi hk
    obtain ⟨k, rfl⟩ : ∃ m, k = m + 1 := ⟨k - 1, by omega⟩
    simp only [trishawref04_Pay.l0]
    rw [if_neg (by omega)]; rfl
  | succ d ih =>
    intro i k hi hk
    obtain ⟨k, rfl⟩ : ∃ m, k = m + 1 := ⟨k - 1, by omega⟩
    have h1 := ih (i + 1) k (by omega) (by omega)
    have e1 : wrap64 ((i : Int) + 1) = ((i + 1 : Nat) : Int) := by rw [w64 (by omega)]; omega
    simp only [trishawref04_Pay.l0]
    rw [if_pos (by omega)]
    have hx := exactly_f tk.Pos tk.len (fun v hv => (tk.range v hv).2) i (by omega) 0 a k (by omega) (by omega) (by omega)
    have hx' : trishawref04_exactly.f k V (i : Int) 0 a = some (exactV V i 0 a) := hx
    rw [hx', e1, h1]
    simp only [Option.bind_some, List.range'_succ, List.find?_cons]
    cases hh : gen V i a with
    | nil =>
      rw [exactV_none (by simpa using hh)]
      simp
    | cons l t =>
      rw [exactV_of (l := l) (t := t) (by simpa using hh)]
      simp [hh]

theorem refPay_f (h : Int) (V : List Int) (a : Int) (k : Nat) (hk : 10000 ≤ k) : trishawref04_Pay.f k h V a = some (payV h V a) := by
  unfold trishawref04_Pay.f payV
  rw [refAsked_f h V a k (by omega)]
  simp only [Option.bind_some]
  by_cases c : askedErr h V a = 0
  · obtain ⟨tk, h0, h1⟩ := asked_tick c
    have ht := tk.top; have t1 := tk.h1; have t6 := tk.h6
    rw [if_pos c, if_pos c]
    have := refPay_l0 tk (a := a) ⟨h0, by omega⟩ (h.toNat + 1) 0 k (by omega) (by omega)
    rw [List.range_eq_range']
    exact this
  · rw [if_neg c, if_neg c]

end Go.Proofs.Ytcgblpjknkmoaaa.B
