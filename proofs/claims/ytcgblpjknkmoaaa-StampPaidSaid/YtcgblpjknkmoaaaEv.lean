/- The plain mathematics of stamps: which amounts some stamps pay, with how many, in how many ways; mirrored values; the sum of all ways. No program in sight. What the program's and the specification's looks at places, values and amounts come to: the same error. The tables of fewest stamps, the program's and the specification's, are one and the same: at each amount the least number of stamps. The same lists; the range: the program's and the specification's are one and the same number. In how many ways an amount is paid, and by which stamps first: the specification's numbers and lists. The search for the values with the greatest range, as a plain function: the program's order. -/
import Derived.Test.YtcgblpjknkmoaaaB3
import Derived.Test.YtcgblpjknkmoaaaB4
import Derived.Test.YtcgblpjknkmoaaaB5
namespace Go.Proofs.Ytcgblpjknkmoaaa.Stamp

/-- 'n' stamps of the values V sum to 'a'. -/
inductive Pays (V : List Int) : Nat → Int → Prop
  | zero : Pays V 0 0
  | step {n : Nat} {a v : Int} : Pays V n a → v ∈ V → Pays V (n + 1) (a + v)

theorem Pays.zero_iff {V : List Int} {a : Int} : Pays V 0 a ↔ a = 0 := by
  constructor
  · intro h; cases h; rfl
  · rintro rfl; exact .zero

theorem Pays.succ_iff {V : List Int} {n : Nat} {a : Int} : Pays V (n + 1) a ↔ ∃ v ∈ V, Pays V n (a - v) := by
  constructor
  · intro h
    generalize hm : n + 1 = m at h
    cases h with
    | zero => omega
    | @step k b v h hv =>
      obtain rfl : n = k := by omega
      exact ⟨v, hv, by rwa [Int.add_sub_cancel]⟩
  · rintro ⟨v, hv, h⟩
    have := Pays.step h hv
    rwa [Int.sub_add_cancel] at this

theorem Pays.mono {V W : List Int} (hs : ∀ v ∈ V, v ∈ W) {n : Nat} {a : Int} (h : Pays V n a) : Pays W n a := by
  induction h with
  | zero => exact .zero
  | step _ hv ih => exact .step ih (hs _ hv)

theorem Pays.add {V : List Int} {n m : Nat} {a b : Int} (h : Pays V n a) (k : Pays V m b) : Pays V (n + m) (a + b) := by
  induction k with
  | zero => simpa using h
  | @step m c v _ hv ih =>
    have := Pays.step ih hv
    rw [Int.add_assoc] at this
    exact this

/-- Values: all at least 1. -/
def Pos (V : List Int) : Prop := ∀ v ∈ V, 1 ≤ v

theorem Pays.ge {V : List Int} (hp : Pos V) {n : Nat} {a : Int} (h : Pays V n a) : (n : Int) ≤ a := by
  induction h with
  | zero => simp
  | @step n a v _ hv ih => have := hp v hv; omega

theorem Pays.le {V : List Int} {M : Int} (hM : ∀ v ∈ V, v ≤ M) {n : Nat} {a : Int} (h : Pays V n a) : a ≤ n * M := by
  induction h with
  | zero => simp
  | @step n a v _ hv ih =>
    have := hM v hv
    have e : ((n + 1 : Nat) : Int) * M = n * M + M := by rw [Int.natCast_add, Int.add_mul]; simp
    omega

/-- what the table holds at a: -1: not payable with at most h stamps; else the least number. -/
def Few (h : Int) (V : List Int) (a m : Int) : Prop :=
  (m = -1 ∧ ∀ n : Nat, (n : Int) ≤ h → ¬ Pays V n a) ∨ (∃ k : Nat, m = k ∧ (k : Int) ≤ h ∧ Pays V k a ∧ ∀ n : Nat, n < k → ¬ Pays V n a)

theorem Few.unique {h : Int} {V : List Int} {a m m' : Int} (x : Few h V a m) (y : Few h V a m') : m = m' := by
  rcases x with ⟨rfl, hx⟩ | ⟨k, rfl, hk, hp, hl⟩ <;> rcases y with ⟨rfl, hy⟩ | ⟨k', rfl, hk', hp', hl'⟩
  · rfl
  · exact absurd hp' (hx _ hk')
  · exact absurd hp (hy _ hk)
  · rcases Nat.lt_trichotomy k k' with h1 | h1 | h1
    · exact absurd hp (hl' _ h1)
    · rw [h1]
    · exact absurd hp' (hl _ h1)

theorem Few.ge {h : Int} {V : List Int} {a m : Int} (x : Few h V a m) : -1 ≤ m := by
  rcases x with ⟨rfl, _⟩ | ⟨k, rfl, _⟩ <;> omega
theorem Few.le {h : Int} (h0 : 0 ≤ h) {V : List Int} {a m : Int} (x : Few h V a m) : m ≤ h := by
  rcases x with ⟨rfl, _⟩ | ⟨k, rfl, hk, _⟩ <;> omega
theorem Few.nonneg_iff {h : Int} {V : List Int} {a m : Int} (x : Few h V a m) : 0 ≤ m ↔ ∃ n : Nat, (n : Int) ≤ h ∧ Pays V n a := by
  rcases x with ⟨rfl, hx⟩ | ⟨k, rfl, hk, hp, _⟩
  · constructor
    · intro h; omega
    · rintro ⟨n, h1, h2⟩; exact absurd h2 (hx n h1)
  · constructor
    · intro _; exact ⟨k, hk, hp⟩
    · intro _; omega
theorem Few.zero {h : Int} (h0 : 0 ≤ h) (V : List Int) : Few h V 0 0 := .inr ⟨0, rfl, by simpa using h0, .zero, fun n hn => by omega⟩

/-- The next amount: the least over all values of what is left, and 1. 'best' is the least found in a part of the values. -/
def Cand (h : Int) (V U : List Int) (a best : Int) : Prop :=
  (best = -1 ∧ ∀ v ∈ U, ∀ n : Nat, (n : Int) + 1 ≤ h → ¬ Pays V n (a - v)) ∨
  (∃ k : Nat, best = (k : Int) + 1 ∧ (k : Int) + 1 ≤ h ∧ (∃ v ∈ U, Pays V k (a - v)) ∧ ∀ v ∈ U, ∀ n : Nat, n < k → ¬ Pays V n (a - v))

theorem Cand.nil (h : Int) (V : List Int) (a : Int) : Cand h V [] a (-1) := .inl ⟨rfl, fun v hv => by simp at hv⟩

theorem Cand.few {h : Int} {V : List Int} {a best : Int} (ha : 0 < a) (x : Cand h V V a best) : Few h V a best := by
  rcases x with ⟨rfl, hx⟩ | ⟨k, rfl, hk, ⟨v, hv, hp⟩, hl⟩
  · refine .inl ⟨rfl, fun n hn hp => ?_⟩
    cases n with
    | zero => rw [Pays.zero_iff] at hp; omega
    | succ n => obtain ⟨v, hv, h2⟩ := Pays.succ_iff.1 hp; exact hx v hv n (by omega) h2
  · refine .inr ⟨k + 1, by omega, by omega, Pays.succ_iff.2 ⟨v, hv, hp⟩, fun n hn hp' => ?_⟩
    cases n with
    | zero => rw [Pays.zero_iff] at hp'; omega
    | succ n => obtain ⟨v, hv, h2⟩ := Pays.succ_iff.1 hp'; exact hl v hv n (by omega) h2

/-- one value more: m is the table's number at a - v (where v ≤ a) -/
theorem Cand.skip {h : Int} {V U : List Int} (hp : Pos V) {a best v : Int} (x : Cand h V U a best) (hva : a < v) : Cand h V (U ++ [v]) a best := by
  have key : ∀ n : Nat, ¬ Pays V n (a - v) := fun n hn => by have := hn.ge hp; omega
  rcases x with ⟨rfl, hx⟩ | ⟨k, rfl, hk, ⟨u, hu, hpu⟩, hl⟩
  · refine .inl ⟨rfl, fun u hu n hn => ?_⟩
    rcases List.mem_append.1 hu with hu | hu
    · exact hx u hu n hn
    · simp at hu; subst hu; exact key n
  · refine .inr ⟨k, rfl, hk, ⟨u, by simp [hu], hpu⟩, fun u hu n hn => ?_⟩
    rcases List.mem_append.1 hu with hu | hu
    · exact hl u hu n hn
    · simp at hu; subst hu; exact key n

/-- keep: v brings nothing better -/
theorem Cand.keep {h : Int} {V U : List Int} {a best v m : Int} (x : Cand h V U a best) (hm : Few h V (a - v) m) (hk : m = -1 ∨ h ≤ m ∨ (best ≠ -1 ∧ best ≤ m + 1)) : Cand h V (U ++ [v]) a best := by
  rcases x with ⟨rfl, hx⟩ | ⟨k, rfl, hk', ⟨u, hu, hpu⟩, hl⟩
  · refine .inl ⟨rfl, fun u hu n hn => ?_⟩
    rcases List.mem_append.1 hu with hu | hu
    · exact hx u hu n hn
    · simp at hu; subst hu
      rcases hm with ⟨rfl, hm⟩ | ⟨j, rfl, hj, hpj, hlj⟩
      · exact hm n (by omega)
      · exact hlj n (by omega)
  · refine .inr ⟨k, rfl, hk', ⟨u, by simp [hu], hpu⟩, fun u hu n hn => ?_⟩
    rcases List.mem_append.1 hu with hu | hu
    · exact hl u hu n hn
    · simp at hu; subst hu
      rcases hm with ⟨rfl, hm⟩ | ⟨j, rfl, hj, hpj, hlj⟩
      · exact hm n (by omega)
      · exact hlj n (by omega)

theorem Cand.take {h : Int} {V U : List Int} {a best v m : Int} (x : Cand h V U a best) (hm : Few h V (a - v) m) (h1 : m ≠ -1) (h2 : m < h) (h3 : best = -1 ∨ m + 1 < best) : Cand h V (U ++ [v]) a (m + 1) := by
  rcases hm with ⟨rfl, hm⟩ | ⟨j, rfl, hj, hpj, hlj⟩
  · exact absurd rfl h1
  · refine .inr ⟨j, rfl, by omega, ⟨v, by simp, hpj⟩, fun u hu n hn => ?_⟩
    rcases List.mem_append.1 hu with hu | hu
    · rcases x with ⟨rfl, hx⟩ | ⟨k, rfl, hk', _, hl⟩
      · exact hx u hu n (by omega)
      · exact hl u hu n (by omega)
    · simp at hu; subst hu; exact hlj n hn


/-- number of multisets of k elements of the list S that sum to a -/
def N : List Int → Nat → Int → Nat
  | _, 0, a => if a = 0 then 1 else 0
  | [], _ + 1, _ => 0
  | x :: S, k + 1, a => N S (k + 1) a + N (x :: S) k (a - x)
termination_by S k => (S.length, k)

theorem N_zero (S : List Int) (a : Int) : N S 0 a = if a = 0 then 1 else 0 := by
  cases S <;> simp [N]
theorem N_nil (k : Nat) (a : Int) : N [] (k + 1) a = 0 := by simp [N]
theorem N_cons (x : Int) (S : List Int) (k : Nat) (a : Int) : N (x :: S) (k + 1) a = N S (k + 1) a + N (x :: S) k (a - x) := by
  rw [N]

theorem N_swap (x y : Int) (S : List Int) : ∀ (k : Nat) (a : Int), N (x :: y :: S) k a = N (y :: x :: S) k a
  | 0, a => by simp [N_zero]
  | k + 1, a => by
    have h1 := N_swap x y S k
    rw [N_cons x, N_cons y S k a, N_cons y (x :: S), N_cons x S k a, h1 (a - x)]
    cases k with
    | zero => simp [N_zero]; omega
    | succ j =>
      have h2 := N_swap x y S j
      rw [← h1 (a - x), ← h1 (a - y)]
      rw [h1 (a - x), N_cons y (x :: S) j (a - x), N_cons x (y :: S) j (a - y), h2 (a - y - x)]
      have e : a - y - x = a - x - y := by omega
      rw [e]; omega

theorem N_cons_congr (x : Int) {S T : List Int} (h : ∀ k a, N S k a = N T k a) : ∀ (k : Nat) (a : Int), N (x :: S) k a = N (x :: T) k a
  | 0, a => by simp [N_zero]
  | k + 1, a => by rw [N_cons, N_cons, h, N_cons_congr x h k]

theorem N_perm {S T : List Int} (h : S.Perm T) : ∀ (k : Nat) (a : Int), N S k a = N T k a := by
  induction h with
  | nil => intros; rfl
  | cons x _ ih => exact N_cons_congr x ih
  | swap x y l => exact fun k a => N_swap y x l k a
  | trans _ _ h1 h2 => exact fun k a => (h1 k a).trans (h2 k a)

theorem N_pos_iff (S : List Int) : ∀ (k : Nat) (a : Int), 0 < N S k a ↔ Pays S k a := by
  induction S with
  | nil =>
    intro k a
    cases k with
    | zero => rw [N_zero, Pays.zero_iff]; split <;> simp_all
    | succ k => rw [N_nil, Pays.succ_iff]; simp
  | cons x S ih =>
    intro k
    induction k with
    | zero => intro a; rw [N_zero, Pays.zero_iff]; split <;> simp_all
    | succ k ihk =>
      intro a
      rw [N_cons]
      constructor
      · intro h
        rcases Nat.eq_zero_or_pos (N S (k + 1) a) with h0 | h0
        · have : 0 < N (x :: S) k (a - x) := by omega
          exact Pays.succ_iff.2 ⟨x, by simp, (ihk _).1 this⟩
        · exact ((ih _ _).1 h0).mono (fun v hv => by simp [hv])
      · intro h
        -- either no stamp is x, or one is
        have key : ∀ (k : Nat) (a : Int), Pays (x :: S) k a → Pays S k a ∨ ∃ j, k = j + 1 ∧ Pays (x :: S) j (a - x) := by
          intro k a h
          induction h with
          | zero => exact .inl .zero
          | @step n b v hp hv ih2 =>
            rcases List.mem_cons.1 hv with rfl | hv'
            · exact .inr ⟨n, rfl, by rwa [Int.add_sub_cancel]⟩
            · rcases ih2 with h1 | ⟨j, rfl, h1⟩
              · exact .inl (.step h1 hv')
              · refine .inr ⟨j + 1, rfl, ?_⟩
                have := Pays.step h1 hv
                have e : b - x + v = b + v - x := by omega
                rwa [e] at this
        rcases key _ _ h with h1 | ⟨j, hj, h1⟩
        · have := (ih _ _).2 h1; omega
        · obtain rfl : k = j := by omega
          have := (ihk _).2 h1; omega

/-- all ascending lists of k values, from index 'least' on, that sum to 'left'; the lexicographically greatest first -/
def gen : List Int → Nat → Int → List (List Int)
  | _, 0, a => if a = 0 then [[]] else []
  | [], _ + 1, _ => []
  | x :: S, k + 1, a => gen S (k + 1) a ++ (gen (x :: S) k (a - x)).map (x :: ·)
termination_by S k => (S.length, k)

theorem gen_zero (S : List Int) (a : Int) : gen S 0 a = if a = 0 then [[]] else [] := by cases S <;> simp [gen]
theorem gen_nil (k : Nat) (a : Int) : gen [] (k + 1) a = [] := by simp [gen]
theorem gen_cons (x : Int) (S : List Int) (k : Nat) (a : Int) : gen (x :: S) (k + 1) a = gen S (k + 1) a ++ (gen (x :: S) k (a - x)).map (x :: ·) := by rw [gen]

theorem gen_length (S : List Int) : ∀ (k : Nat) (a : Int), (gen S k a).length = N S k a := by
  induction S with
  | nil => intro k a; cases k with
    | zero => rw [gen_zero, N_zero]; split <;> rfl
    | succ k => rw [gen_nil, N_nil]; rfl
  | cons x S ih =>
    intro k
    induction k with
    | zero => intro a; rw [gen_zero, N_zero]; split <;> rfl
    | succ k ihk => intro a; rw [gen_cons, N_cons, List.length_append, List.length_map, ih, ihk]

theorem gen_ne_nil (S : List Int) (k : Nat) (a : Int) : gen S k a ≠ [] ↔ Pays S k a := by
  rw [← N_pos_iff, ← gen_length, List.length_pos_iff]

theorem gen_mem (S : List Int) : ∀ (k : Nat) (a : Int) (l : List Int), l ∈ gen S k a → l.length = k ∧ l.sum = a ∧ (∀ v ∈ l, v ∈ S) := by
  induction S with
  | nil => intro k a l; cases k with
    | zero => rw [gen_zero]; split <;> simp_all
    | succ k => rw [gen_nil]; simp
  | cons x S ih =>
    intro k
    induction k with
    | zero => intro a l; rw [gen_zero]; split <;> simp_all
    | succ k ihk =>
      intro a l h
      rw [gen_cons, List.mem_append, List.mem_map] at h
      rcases h with h | ⟨t, h, rfl⟩
      · obtain ⟨h1, h2, h3⟩ := ih _ _ _ h
        exact ⟨h1, h2, fun v hv => by simp [h3 v hv]⟩
      · obtain ⟨h1, h2, h3⟩ := ihk _ _ h
        refine ⟨by simp [h1], by simp [h2]; omega, fun v hv => ?_⟩
        rcases List.mem_cons.1 hv with rfl | hv
        · simp
        · exact h3 v hv

/-- ascending: each list of gen is, where S is -/
theorem gen_sorted (S : List Int) (hS : S.Pairwise (· < ·)) : ∀ (k : Nat) (a : Int) (l : List Int), l ∈ gen S k a → l.Pairwise (· ≤ ·) := by
  induction S with
  | nil => intro k a l; cases k with
    | zero => rw [gen_zero]; split <;> simp_all
    | succ k => rw [gen_nil]; simp
  | cons x S ih =>
    rw [List.pairwise_cons] at hS
    intro k
    induction k with
    | zero => intro a l; rw [gen_zero]; split <;> simp_all
    | succ k ihk =>
      intro a l h
      rw [gen_cons, List.mem_append, List.mem_map] at h
      rcases h with h | ⟨t, h, rfl⟩
      · exact ih hS.2 _ _ _ h
      · refine List.pairwise_cons.2 ⟨fun v hv => ?_, ihk _ _ h⟩
        have := (gen_mem _ _ _ _ h).2.2 v hv
        rcases List.mem_cons.1 this with rfl | h1
        · exact Int.le_refl _
        · exact Int.le_of_lt (hS.1 v h1)

/-- ways, as the specification counts them: at most k stamps -/
def W : List Int → Nat → Int → Nat
  | S, 0, a => N S 0 a
  | S, k + 1, a => W S k a + N S (k + 1) a

theorem W_nil (k : Nat) (a : Int) : W [] k a = if a = 0 then 1 else 0 := by
  induction k with
  | zero => rw [W, N_zero]
  | succ k ih => rw [W, ih, N_nil]; rfl
theorem W_cons (x : Int) (S : List Int) (k : Nat) (a : Int) : W (x :: S) (k + 1) a = W S (k + 1) a + W (x :: S) k (a - x) := by
  induction k generalizing a with
  | zero => simp only [W]; rw [N_cons, N_zero, N_zero, N_zero]; omega
  | succ k ih =>
    have e1 : W (x :: S) (k + 1 + 1) a = W (x :: S) (k + 1) a + N (x :: S) (k + 1 + 1) a := rfl
    have e2 : W S (k + 1 + 1) a = W S (k + 1) a + N S (k + 1 + 1) a := rfl
    have e3 : W (x :: S) (k + 1) (a - x) = W (x :: S) k (a - x) + N (x :: S) (k + 1) (a - x) := rfl
    rw [e1, e2, e3, ih, N_cons]
    omega
theorem W_zero (S : List Int) (a : Int) : W S 0 a = if a = 0 then 1 else 0 := by rw [W, N_zero]
theorem W_perm {S T : List Int} (h : S.Perm T) (k : Nat) (a : Int) : W S k a = W T k a := by
  induction k with
  | zero => rw [W, W, N_perm h]
  | succ k ih => rw [W, W, ih, N_perm h]
theorem W_neg {S : List Int} (hp : Pos S) {k : Nat} {a : Int} (ha : a < 0) : W S k a = 0 := by
  have : ∀ j, N S j a = 0 := fun j => by
    rcases Nat.eq_zero_or_pos (N S j a) with h | h
    · exact h
    · have := ((N_pos_iff _ _ _).1 h).ge hp; omega
  induction k with
  | zero => rw [W, this]
  | succ k ih => rw [W, ih, this]
/-- amount 0: one way -/
theorem W_amount_zero {S : List Int} (hp : Pos S) (k : Nat) : W S k 0 = 1 := by
  induction k with
  | zero => rw [W, N_zero]; rfl
  | succ k ih =>
    rw [W, ih]
    have : N S (k + 1) 0 = 0 := by
      rcases Nat.eq_zero_or_pos (N S (k + 1) 0) with h | h
      · exact h
      · have := ((N_pos_iff _ _ _).1 h).ge hp; omega
    rw [this]
theorem W_pos_iff (S : List Int) (k : Nat) (a : Int) : 0 < W S k a ↔ ∃ n, n ≤ k ∧ Pays S n a := by
  induction k with
  | zero => rw [W, N_pos_iff]; constructor
            · intro h; exact ⟨0, Nat.le_refl _, h⟩
            · rintro ⟨n, hn, h⟩; obtain rfl : n = 0 := by omega
              exact h
  | succ k ih =>
    rw [W]
    constructor
    · intro h
      rcases Nat.eq_zero_or_pos (W S k a) with h0 | h0
      · exact ⟨k + 1, Nat.le_refl _, (N_pos_iff _ _ _).1 (by omega)⟩
      · obtain ⟨n, hn, h⟩ := ih.1 h0; exact ⟨n, by omega, h⟩
    · rintro ⟨n, hn, h⟩
      rcases Nat.lt_or_ge k n with h1 | h1
      · obtain rfl : n = k + 1 := by omega
        have := (N_pos_iff _ _ _).2 h; omega
      · have := ih.2 ⟨n, h1, h⟩; omega


/-! mirrored -/
theorem pays_pad {V : List Int} {h : Nat} {a : Int} : Pays (0 :: V) h a ↔ ∃ n, n ≤ h ∧ Pays V n a := by
  constructor
  · intro p
    induction p with
    | zero => exact ⟨0, Nat.le_refl _, .zero⟩
    | @step n b v _ hv ih =>
      obtain ⟨m, hm, hp⟩ := ih
      rcases List.mem_cons.1 hv with rfl | hv
      · exact ⟨m, by omega, by simpa using hp⟩
      · exact ⟨m + 1, by omega, .step hp hv⟩
  · rintro ⟨n, hn, p⟩
    have h1 : ∀ j, Pays (0 :: V) (n + j) a := by
      intro j
      induction j with
      | zero => exact p.mono (fun v hv => by simp [hv])
      | succ j ih => have := Pays.step ih (v := 0) (by simp); simpa [Nat.add_assoc] using this
    have := h1 (h - n)
    rwa [Nat.add_sub_cancel' hn] at this

theorem pays_flip {U U' : List Int} {M : Int} (hc : ∀ v ∈ U, M - v ∈ U') {h : Nat} {a : Int} (p : Pays U h a) : Pays U' h (h * M - a) := by
  induction p with
  | zero => simpa using Pays.zero
  | @step n b v _ hv ih =>
    have := Pays.step ih (hc v hv)
    have e : (n : Int) * M - b + (M - v) = ((n + 1 : Nat) : Int) * M - (b + v) := by
      rw [Int.natCast_add, Int.add_mul]; simp; omega
    rwa [e] at this

/-- V' is the mirror of V with the greatest value M. -/
def IsMirror (V V' : List Int) (M : Int) : Prop := (∀ v ∈ V, v = M ∨ M - v ∈ V') ∧ (∀ v ∈ V', v = M ∨ M - v ∈ V) ∧ M ∈ V ∧ M ∈ V'

theorem mirror_pays {V V' : List Int} {M : Int} (hm : IsMirror V V' M) {h : Nat} {a : Int} :
    (∃ n, n ≤ h ∧ Pays V n a) ↔ (∃ n, n ≤ h ∧ Pays V' n (h * M - a)) := by
  rw [← pays_pad, ← pays_pad]
  have h1 : ∀ {A B : List Int}, (∀ v ∈ A, v = M ∨ M - v ∈ B) → M ∈ B → ∀ v ∈ (0 :: A), M - v ∈ (0 :: B) := by
    intro A B hA hB v hv
    rcases List.mem_cons.1 hv with rfl | hv
    · simp [hB]
    · rcases hA v hv with rfl | h
      · simp
      · simp [h]
  constructor
  · exact fun p => pays_flip (h1 hm.1 hm.2.2.2) p
  · intro p
    have := pays_flip (h1 hm.2.1 hm.2.2.1) p
    have e : (h : Int) * M - (h * M - a) = a := by omega
    rwa [e] at this

/-! counted -/
def sumTo (f : Int → Nat) : Nat → Nat
  | 0 => 0
  | n + 1 => sumTo f n + f n

theorem sumTo_add (f g : Int → Nat) (n : Nat) : sumTo (fun i => f i + g i) n = sumTo f n + sumTo g n := by
  induction n with
  | zero => rfl
  | succ n ih => simp only [sumTo, ih]; omega

theorem sumTo_congr {f g : Int → Nat} {n : Nat} (h : ∀ i : Nat, i < n → f i = g i) : sumTo f n = sumTo g n := by
  induction n with
  | zero => rfl
  | succ n ih => simp only [sumTo]; rw [ih (fun i hi => h i (by omega)), h n (by omega)]

theorem sumTo_shift (g : Int → Nat) (hg : ∀ a < 0, g a = 0) (x : Nat) : ∀ B : Nat, sumTo (fun i => g (i - x)) B = sumTo g (B - x)
  | 0 => by simp [sumTo]
  | B + 1 => by
    rw [sumTo, sumTo_shift g hg x B]
    rcases Nat.lt_or_ge B x with h | h
    · rw [hg _ (by omega)]
      have e1 : B - x = 0 := by omega
      have e2 : B + 1 - x = 0 := by omega
      rw [e1, e2]; rfl
    · have e1 : B + 1 - x = (B - x) + 1 := by omega
      rw [e1, sumTo]
      have e2 : ((B : Int) - (x : Int)) = ((B - x : Nat) : Int) := by omega
      rw [e2]

def tot : Nat → Nat → Nat
  | 0, _ => 1
  | _ + 1, 0 => 1
  | n + 1, h + 1 => tot n (h + 1) + tot (n + 1) h

theorem sumTo_ite_zero (n : Nat) : sumTo (fun a => if a = 0 then 1 else 0) (n + 1) = 1 := by
  induction n with
  | zero => rfl
  | succ n ih =>
    rw [sumTo, ih]
    have : ¬ ((n + 1 : Nat) : Int) = 0 := by omega
    rw [if_neg this]

theorem sum_W (S : List Int) (hp : Pos S) (M : Nat) (hM : ∀ v ∈ S, v ≤ (M : Int)) : ∀ (h B : Nat), h * M < B → sumTo (W S h) B = tot S.length h := by
  induction S with
  | nil =>
    intro h B hB
    obtain ⟨B, rfl⟩ : ∃ b, B = b + 1 := ⟨B - 1, by omega⟩
    have : sumTo (W [] h) (B + 1) = sumTo (fun a => if a = 0 then 1 else 0) (B + 1) := sumTo_congr (fun i _ => W_nil h i)
    rw [this, sumTo_ite_zero]; simp [tot]
  | cons x S ih =>
    have hp' : Pos S := fun v hv => hp v (by simp [hv])
    have hM' : ∀ v ∈ S, v ≤ (M : Int) := fun v hv => hM v (by simp [hv])
    intro h
    induction h with
    | zero =>
      intro B hB
      obtain ⟨B, rfl⟩ : ∃ b, B = b + 1 := ⟨B - 1, by omega⟩
      have : sumTo (W (x :: S) 0) (B + 1) = sumTo (fun a => if a = 0 then 1 else 0) (B + 1) := sumTo_congr (fun i _ => W_zero _ i)
      rw [this, sumTo_ite_zero]; simp [tot]
    | succ h ihh =>
      intro B hB
      have hx1 := hp x (by simp)
      have hx2 := hM x (by simp)
      have e : sumTo (W (x :: S) (h + 1)) B = sumTo (fun a => W S (h + 1) a + W (x :: S) h (a - x.toNat)) B :=
        sumTo_congr (fun i _ => by rw [W_cons]; have : ((x.toNat : Nat) : Int) = x := by omega
                                   rw [this])
      rw [e, sumTo_add, ih hp' hM' _ _ hB, sumTo_shift (fun a => W (x :: S) h a) (fun a ha => W_neg hp ha)]
      rw [ihh (B - x.toNat) (by rw [Nat.succ_mul] at hB; omega)]
      simp [tot]

/-! gen, as the program goes: the values from an index on, the greatest first -/
theorem gen_none_low {S : List Int} {m : Int} (hm : ∀ v ∈ S, m ≤ v) {k : Nat} {a : Int} (h : a < k * m) : gen S k a = [] := by
  rcases hg : gen S k a with _ | ⟨l, t⟩
  · rfl
  · have h1 := (gen_ne_nil S k a).1 (by rw [hg]; simp)
    have : ∀ {n : Nat} {b : Int}, Pays S n b → (n : Int) * m ≤ b := by
      intro n b p
      induction p with
      | zero => simp
      | @step n b v _ hv ih =>
        have := hm v hv
        have e : ((n + 1 : Nat) : Int) * m = n * m + m := by rw [Int.natCast_add, Int.add_mul]; simp
        omega
    have := this h1
    omega
theorem gen_none_high {S : List Int} {M : Int} (hM : ∀ v ∈ S, v ≤ M) {k : Nat} {a : Int} (h : k * M < a) : gen S k a = [] := by
  rcases hg : gen S k a with _ | ⟨l, t⟩
  · rfl
  · have := ((gen_ne_nil S k a).1 (by rw [hg]; simp)).le hM
    omega

end Go.Proofs.Ytcgblpjknkmoaaa.Stamp

namespace Go.Proofs.Ytcgblpjknkmoaaa.B
open Go.RowKit Go.Proofs.YtcgblpjknkmoaaaW.PrintWords Go.Proofs.YtcgblpjknkmoaaaW.PrintLast Go.Proofs.YtcgblpjknkmoaaaW.PrintMore
open Go.Proofs.Ytcgblpjknkmoaaa.Stamp

theorem w64 {x : Int} (h : -9223372036854775808 ≤ x ∧ x < 9223372036854775808) : wrap64 x = x := by unfold wrap64; omega

/-- strictly ascending from above p on, from 1 to 200 -/
def asc : Int → List Int → Bool
  | _, [] => true
  | p, v :: t => decide (1 ≤ v) && (decide (v ≤ 200) && (decide (p < v) && asc v t))
def valuesErr (l : List Int) : Int := if 6 < l.length then 3 else if l.length = 0 then 2 else if asc 0 l = true then 0 else 2
def ticketErr (h : Int) (l : List Int) : Int := if h < 1 ∨ 6 < h then 2 else valuesErr l
def lastV (l : List Int) : Int := rd l (l.length - 1)
def askedErr (h : Int) (l : List Int) (a : Int) : Int := if ticketErr h l = 0 then (if a < 0 ∨ h * lastV l < a then 4 else 0) else ticketErr h l

def prevV (l : List Int) (i : Nat) : Int := if i = 0 then 0 else rd l ((i : Int) - 1)
theorem rd_nat (l : List Int) (i : Nat) : rd l (i : Int) = l.getD i 0 := by simp [rd]
theorem drop_rd {l : List Int} {i : Nat} (h : i < l.length) : l.drop i = rd l (i : Int) :: l.drop (i + 1) := by
  rw [rd_nat, List.drop_eq_getElem_cons h]; simp [h]
theorem prevV_succ (l : List Int) (i : Nat) : prevV l (i + 1) = rd l (i : Int) := by
  unfold prevV; rw [if_neg (by omega)]; congr 1; omega

/-- one element looked at -/
theorem asc_step {l : List Int} {i : Nat} (h : i < l.length) : asc (prevV l i) (l.drop i) = (decide (1 ≤ rd l (i : Int)) && (decide (rd l (i : Int) ≤ 200) && (decide (prevV l i < rd l (i : Int)) && asc (prevV l (i + 1)) (l.drop (i + 1))))) := by
  rw [drop_rd h, asc, prevV_succ]

theorem valued_l0 (l : List Int) (hl : l.length ≤ 6) (d : Nat) : ∀ (i k : Nat), i + d = l.length → d < k →
    stamp_valued.l0 k l l (l.length : Int) (i : Int) = some (if asc (prevV l i) (l.drop i) = true then 0 else 2) := by
  induction d with
  | zero =>
    intro i k hi hk
    obtain ⟨k, rfl⟩ : ∃ m, k = m + 1 := ⟨k - 1, by omega⟩
    simp only [stamp_valued.l0]
    rw [if_neg (by omega), List.drop_of_length_le (by omega)]
    simp [asc]
  | succ d ih =>
    intro i k hi hk
    obtain ⟨k, rfl⟩ : ∃ m, k = m + 1 := ⟨k - 1, by omega⟩
    have h1 := ih (i + 1) k (by omega) (by omega)
    have e1 : wrap64 ((i : Int) + 1) = ((i + 1 : Nat) : Int) := by rw [w64 (by omega)]; omega
    simp only [stamp_valued.l0]
    rw [if_pos (by omega), if_pos (by omega), if_pos (by omega), asc_step (by omega), e1, h1]
    by_cases c1 : rd l (i : Int) < 1
    · rw [if_pos c1]; have : ¬ 1 ≤ rd l (i : Int) := by omega
      simp [this]
    · rw [if_neg c1]
      have c1' : 1 ≤ rd l (i : Int) := by omega
      by_cases c2 : rd l (i : Int) > 200
      · rw [if_pos c2]; have : ¬ rd l (i : Int) ≤ 200 := by omega
        simp [this]
      · rw [if_neg c2]
        have c2' : rd l (i : Int) ≤ 200 := by omega
        by_cases c3 : (i : Int) > 0
        · have e2 : wrap64 ((i : Int) - 1) = (i : Int) - 1 := w64 (by omega)
          have e3 : prevV l i = rd l ((i : Int) - 1) := by unfold prevV; rw [if_neg (by omega)]
          rw [if_pos c3, e2, if_pos (by omega), if_pos (by omega), e3]
          by_cases c4 : rd l (i : Int) ≤ rd l ((i : Int) - 1)
          · rw [if_pos c4]; have : ¬ rd l ((i : Int) - 1) < rd l (i : Int) := by omega
            simp [this]
          · rw [if_neg c4]; have : rd l ((i : Int) - 1) < rd l (i : Int) := by omega
            simp [this, c1', c2']
        · have e3 : prevV l i = 0 := by unfold prevV; rw [if_pos (by omega)]
          rw [if_neg c3, e3]
          have : (0 : Int) < rd l (i : Int) := by omega
          simp [this, c1', c2']

theorem refValues_l0 (l : List Int) (hl : l.length ≤ 6) (d : Nat) : ∀ (i k : Nat), i + d = l.length → d < k →
    trishawref04_Values.l0 k l (i : Int) = some (if asc (prevV l i) (l.drop i) = true then 0 else 2) := by
  induction d with
  | zero =>
    intro i k hi hk
    obtain ⟨k, rfl⟩ : ∃ m, k = m + 1 := ⟨k - 1, by omega⟩
    simp only [trishawref04_Values.l0]
    rw [if_neg (by omega), List.drop_of_length_le (by omega)]
    simp [asc]
  | succ d ih =>
    intro i k hi hk
    obtain ⟨k, rfl⟩ : ∃ m, k = m + 1 := ⟨k - 1, by omega⟩
    have h1 := ih (i + 1) k (by omega) (by omega)
    have e1 : wrap64 ((i : Int) + 1) = ((i + 1 : Nat) : Int) := by rw [w64 (by omega)]; omega
    simp only [trishawref04_Values.l0]
    rw [if_pos (by omega), if_pos (by omega), asc_step (by omega), e1, h1]
    by_cases c1 : rd l (i : Int) < 1
    · rw [if_pos c1]; have : ¬ 1 ≤ rd l (i : Int) := by omega
      simp [this]
    · rw [if_neg c1]
      have c1' : 1 ≤ rd l (i : Int) := by omega
      by_cases c2 : rd l (i : Int) > 200
      · rw [if_pos c2]; have : ¬ rd l (i : Int) ≤ 200 := by omega
        simp [this]
      · rw [if_neg c2]
        have c2' : rd l (i : Int) ≤ 200 := by omega
        by_cases c3 : (i : Int) > 0
        · have e2 : wrap64 ((i : Int) - 1) = (i : Int) - 1 := w64 (by omega)
          have e3 : prevV l i = rd l ((i : Int) - 1) := by unfold prevV; rw [if_neg (by omega)]
          rw [if_pos c3, e2, if_pos (by omega), if_pos (by omega), e3]
          by_cases c4 : rd l (i : Int) ≤ rd l ((i : Int) - 1)
          · rw [if_pos c4]; have : ¬ rd l ((i : Int) - 1) < rd l (i : Int) := by omega
            simp [this]
          · rw [if_neg c4]; have : rd l ((i : Int) - 1) < rd l (i : Int) := by omega
            simp [this, c1', c2']
        · have e3 : prevV l i = 0 := by unfold prevV; rw [if_pos (by omega)]
          rw [if_neg c3, e3]
          have : (0 : Int) < rd l (i : Int) := by omega
          simp [this, c1', c2']

theorem valued_f (l : List Int) (k : Nat) (hk : 7 ≤ k) : stamp_valued.f k l = some (valuesErr l) := by
  unfold stamp_valued.f valuesErr
  by_cases h1 : (l.length : Int) > 6
  · rw [if_pos h1, if_pos (show 6 < l.length by omega)]
  · rw [if_neg h1, if_neg (show ¬ 6 < l.length by omega)]
    by_cases h2 : (l.length : Int) = 0
    · rw [if_pos h2, if_pos (show l.length = 0 by omega)]
    · rw [if_neg h2, if_neg (show ¬ l.length = 0 by omega)]
      have := valued_l0 l (by omega) l.length 0 k (by omega) (by omega)
      simpa [prevV] using this
theorem refValues_f (l : List Int) (k : Nat) (hk : 7 ≤ k) : trishawref04_Values.f k l = some (valuesErr l) := by
  unfold trishawref04_Values.f valuesErr
  by_cases h1 : (l.length : Int) > 6
  · rw [if_pos h1, if_pos (show 6 < l.length by omega)]
  · rw [if_neg h1, if_neg (show ¬ 6 < l.length by omega)]
    by_cases h2 : (l.length : Int) = 0
    · rw [if_pos h2, if_pos (show l.length = 0 by omega)]
    · rw [if_neg h2, if_neg (show ¬ l.length = 0 by omega)]
      have := refValues_l0 l (by omega) l.length 0 k (by omega) (by omega)
      simpa [prevV] using this
theorem read_f (h : Int) (l : List Int) (k : Nat) (hk : 7 ≤ k) : stamp_read.f k h l = some (ticketErr h l) := by
  unfold stamp_read.f ticketErr
  by_cases h1 : h < 1
  · rw [if_pos h1, if_pos (.inl h1)]
  · rw [if_neg h1]
    by_cases h2 : h > 6
    · rw [if_pos h2, if_pos (.inr h2)]
    · rw [if_neg h2, if_neg (by omega), valued_f l k hk]; rfl
theorem refTicket_f (h : Int) (l : List Int) (k : Nat) (hk : 7 ≤ k) : trishawref04_Ticket.f k h l = some (ticketErr h l) := by
  unfold trishawref04_Ticket.f ticketErr
  by_cases h1 : h < 1
  · rw [if_pos h1, if_pos (.inl h1)]
  · rw [if_neg h1]
    by_cases h2 : h > 6
    · rw [if_pos h2, if_pos (.inr h2)]
    · rw [if_neg h2, if_neg (by omega), refValues_f l k hk]; rfl

/-- what a ticket without an error is -/
structure Tick (h : Int) (l : List Int) : Prop where
  h1 : 1 ≤ h
  h6 : h ≤ 6
  len : l.length ≤ 6
  pos : 0 < l.length
  asc : asc 0 l = true
theorem ticket_iff (h : Int) (l : List Int) : ticketErr h l = 0 ↔ Tick h l := by
  unfold ticketErr valuesErr
  constructor
  · intro e
    split at e
    · omega
    · split at e
      · omega
      · split at e
        · omega
        · split at e
          · exact ⟨by omega, by omega, by omega, by omega, by assumption⟩
          · omega
  · rintro ⟨h1, h6, hl, hp, ha⟩
    rw [if_neg (by omega), if_neg (by omega), if_neg (by omega), if_pos ha]

theorem asc_all {p : Int} {l : List Int} (h : asc p l = true) : ∀ v ∈ l, 1 ≤ v ∧ v ≤ 200 ∧ p < v := by
  induction l generalizing p with
  | nil => intro v hv; simp at hv
  | cons x t ih =>
    simp only [asc, Bool.and_eq_true, decide_eq_true_eq] at h
    intro v hv
    rcases List.mem_cons.1 hv with rfl | hv
    · exact ⟨h.1, h.2.1, h.2.2.1⟩
    · have := ih h.2.2.2 v hv; exact ⟨this.1, this.2.1, by omega⟩
theorem asc_pairwise {p : Int} {l : List Int} (h : asc p l = true) : l.Pairwise (· < ·) := by
  induction l generalizing p with
  | nil => exact .nil
  | cons x t ih =>
    simp only [asc, Bool.and_eq_true, decide_eq_true_eq] at h
    exact List.pairwise_cons.2 ⟨fun v hv => (asc_all h.2.2.2 v hv).2.2, ih h.2.2.2⟩
theorem rd_mem {l : List Int} {i : Int} (h0 : 0 ≤ i) (h : i < l.length) : rd l i ∈ l := by
  unfold rd
  have : i.toNat < l.length := by omega
  simp [List.getD, this]
theorem Tick.last {h : Int} {l : List Int} (t : Tick h l) : lastV l ∈ l := rd_mem (by have := t.pos; omega) (by have := t.pos; omega)
theorem Tick.range {h : Int} {l : List Int} (t : Tick h l) : ∀ v ∈ l, 1 ≤ v ∧ v ≤ 200 := fun v hv => ⟨(asc_all t.asc v hv).1, (asc_all t.asc v hv).2.1⟩
theorem Tick.Pos {h : Int} {l : List Int} (t : Tick h l) : Pos l := fun v hv => (t.range v hv).1
theorem Tick.le_last {h : Int} {l : List Int} (t : Tick h l) : ∀ v ∈ l, v ≤ lastV l := by
  intro v hv
  obtain ⟨i, hi, rfl⟩ := List.mem_iff_getElem.1 hv
  have hp := asc_pairwise t.asc
  have e : lastV l = l[l.length - 1]'(by have := t.pos; omega) := by
    unfold lastV rd
    have : ((l.length : Int) - 1).toNat = l.length - 1 := by omega
    have h2 : l.length - 1 < l.length := by have := t.pos; omega
    simp [this, List.getD, h2]
  rw [e]
  rcases Nat.lt_or_ge i (l.length - 1) with h | h
  · exact Int.le_of_lt (List.pairwise_iff_getElem.1 hp i (l.length - 1) hi _ h)
  · have : i = l.length - 1 := by omega
    subst this; exact Int.le_refl _
theorem Tick.last_range {h : Int} {l : List Int} (t : Tick h l) : 1 ≤ lastV l ∧ lastV l ≤ 200 := t.range _ t.last
/-- h times the greatest value is small -/
theorem Tick.top {h : Int} {l : List Int} (t : Tick h l) : 1 ≤ h * lastV l ∧ h * lastV l ≤ 1200 := by
  have h1 := t.h1; have h6 := t.h6; obtain ⟨l1, l2⟩ := t.last_range
  constructor
  · have := Int.mul_le_mul h1 l1 (by omega) (by omega); omega
  · have := Int.mul_le_mul h6 l2 (by omega) (by omega); omega

theorem lastV_eq (l : List Int) : rd l ((l.length : Int) - 1) = lastV l := rfl

theorem asked_f (h : Int) (l : List Int) (a : Int) (k : Nat) (hk : 7 ≤ k) : stamp_asked.f k h l a = some (askedErr h l a) := by
  unfold stamp_asked.f askedErr
  rw [read_f h l k hk]
  simp only [Option.bind_some]
  by_cases h0 : ticketErr h l = 0
  · have t := (ticket_iff h l).1 h0
    have hp := t.pos; have hl := t.len; have ht := t.top
    have e1 : wrap64 ((l.length : Int) - 1) = (l.length : Int) - 1 := w64 (by omega)
    rw [if_pos h0, if_pos h0, e1, lastV_eq, w64 (by omega)]
    by_cases h1 : a < 0
    · rw [if_pos h1, if_pos (.inl h1)]
    · rw [if_neg h1, if_pos (by omega), if_pos (by omega)]
      by_cases h2 : a > h * lastV l
      · rw [if_pos h2, if_pos (.inr h2)]
      · rw [if_neg h2, if_neg (by omega), h0]
  · rw [if_neg h0, if_neg h0]
theorem refAsked_f (h : Int) (l : List Int) (a : Int) (k : Nat) (hk : 7 ≤ k) : trishawref04_asked.f k h l a = some (askedErr h l a) := by
  unfold trishawref04_asked.f askedErr
  rw [refTicket_f h l k hk]
  simp only [Option.bind_some]
  by_cases h0 : ticketErr h l = 0
  · have t := (ticket_iff h l).1 h0
    have hp := t.pos; have hl := t.len; have ht := t.top
    have e1 : wrap64 ((l.length : Int) - 1) = (l.length : Int) - 1 := w64 (by omega)
    rw [if_pos h0, if_pos h0, e1, lastV_eq, w64 (by omega)]
    by_cases h1 : a < 0
    · rw [if_pos h1, if_pos (.inl h1)]
    · rw [if_neg h1, if_pos (by omega), if_pos (by omega)]
      by_cases h2 : a > h * lastV l
      · rw [if_pos h2, if_pos (.inr h2)]
      · rw [if_neg h2, if_neg (by omega), h0]
  · rw [if_neg h0, if_neg h0]

end Go.Proofs.Ytcgblpjknkmoaaa.B

namespace Go.Proofs.Ytcgblpjknkmoaaa.B
open Go.RowKit Go.Proofs.YtcgblpjknkmoaaaW.PrintWords Go.Proofs.YtcgblpjknkmoaaaW.PrintLast Go.Proofs.YtcgblpjknkmoaaaW.PrintMore
open Go.Proofs.Ytcgblpjknkmoaaa.Stamp

/-- the least number of stamps for an amount; -1: it is not payable -/
def fewV (h : Int) (V : List Int) (a : Int) : Int :=
  match (List.range (h.toNat + 1)).find? (fun n => decide (0 < N V n a)) with
  | some n => n
  | none => -1

theorem fewV_few {h : Int} (h0 : 0 ≤ h) (V : List Int) (a : Int) : Few h V a (fewV h V a) := by
  unfold fewV
  cases hf : (List.range (h.toNat + 1)).find? (fun n => decide (0 < N V n a)) with
  | none =>
    refine .inl ⟨rfl, fun n hn hp => ?_⟩
    have := List.find?_eq_none.1 hf n (by simp; omega)
    have h2 := (N_pos_iff V n a).2 hp
    simp at this; omega
  | some n =>
    obtain ⟨h1, us, bs, h2, h3⟩ := List.find?_eq_some_iff_append.1 hf
    have hn : n ∈ List.range (h.toNat + 1) := by rw [h2]; simp
    refine .inr ⟨n, rfl, by simp at hn; omega, (N_pos_iff V n a).1 (by simpa using h1), fun j hj hp => ?_⟩
    have hj' : j ∈ us := by
      have hs : (List.range (h.toNat + 1)).Pairwise (· < ·) := List.pairwise_lt_range
      have hm : j ∈ List.range (h.toNat + 1) := by simp at hn ⊢; omega
      rw [h2] at hm hs
      rcases List.mem_append.1 hm with h | h
      · exact h
      · rw [List.pairwise_append] at hs
        rcases List.mem_cons.1 h with rfl | h
        · omega
        · have := (List.pairwise_cons.1 hs.2.1).1 j h; omega
    have := h3 j hj'
    have h4 := (N_pos_iff V j a).2 hp
    simp at this; omega

def tab (h : Int) (V : List Int) : List Int := (List.range (h * lastV V + 1).toNat).map (fun (a : Nat) => fewV h V (a : Int))
theorem tab_length (h : Int) (V : List Int) : (tab h V).length = (h * lastV V + 1).toNat := by simp [tab]
theorem rd_tab {h : Int} {V : List Int} {a : Int} (h0 : 0 ≤ a) (h1 : a ≤ h * lastV V) : rd (tab h V) a = fewV h V a := by
  unfold rd tab
  have : a.toNat < (h * lastV V + 1).toNat := by omega
  simp [List.getD, this]
  congr 1; omega
theorem tab_of {h : Int} (h0 : 0 ≤ h) {V t : List Int} (hl : t.length = (h * lastV V + 1).toNat) (ht : ∀ j : Nat, j < t.length → Few h V j (rd t j)) : t = tab h V := by
  apply List.ext_getElem
  · rw [tab_length, hl]
  · intro i h1 h2
    have e1 := ht i h1
    have e2 := fewV_few h0 V (i : Int)
    have := e1.unique e2
    rw [rd_nat] at this
    simp only [tab, List.getElem_map, List.getElem_range]
    rw [← this]; simp [h1]

theorem rd_set {t : List Int} {a j : Nat} {b : Int} (ha : a < t.length) : rd (t.set a b) (j : Int) = if j = a then b else rd t (j : Int) := by
  rw [rd_nat, rd_nat]
  by_cases h : j = a
  · subst h; simp [ha]
  · rw [if_neg h]
    simp [List.getD, List.getElem?_set_ne (Ne.symm h)]

theorem take_snoc_rd {V : List Int} {i : Nat} (h : i < V.length) : V.take (i + 1) = V.take i ++ [rd V (i : Int)] := by
  rw [rd_nat, List.take_succ_eq_append_getElem h]; simp [h]

theorem fewest_l1 {h : Int} {V : List Int} (tk : Tick h V) {a : Nat} (ha : 0 < a) (d : Nat) : ∀ (i : Nat) (t : List Int) (k : Nat), i + d = V.length → a < t.length → t.length ≤ 1201 →
    Cand h V (V.take i) a (rd t a) → (∀ j : Nat, j < a → Few h V j (rd t j)) →
    ∃ b, Cand h V V a b ∧ stamp_fewest.l1 (k + d + 1) h V t (a : Int) V (V.length : Int) (i : Int) = stamp_fewest.l0 k h V (t.set a b) ((a : Int) + 1) := by
  induction d with
  | zero =>
    intro i t k hi hat ht hc hlow
    refine ⟨rd t a, ?_, ?_⟩
    · rw [List.take_of_length_le (by omega)] at hc; exact hc
    · simp only [stamp_fewest.l1]
      rw [if_neg (by omega), w64 (by omega)]
      congr 1
      apply List.ext_getElem
      · simp
      · intro j h1 h2
        rw [List.getElem_set]
        split
        · next e => subst e; rw [rd_nat]; simp [h1]
        · rfl
  | succ d ih =>
    intro i t k hi hat ht hc hlow
    have hV := tk.len
    have hil : i < V.length := by omega
    have hrv := tk.range _ (rd_mem (l := V) (i := (i : Int)) (by omega) (by omega))
    have e1 : wrap64 ((i : Int) + 1) = ((i + 1 : Nat) : Int) := by rw [w64 (by omega)]; omega
    have e2 : wrap64 ((a : Int) - rd V (i : Int)) = (a : Int) - rd V (i : Int) := w64 (by omega)
    have ek : k + (d + 1) + 1 = (k + d + 1) + 1 := by omega
    rw [ek]
    simp only [stamp_fewest.l1]
    rw [if_pos (by omega), if_pos (by omega), if_pos (by omega), e1]
    have go : ∀ t', t'.length = t.length → Cand h V (V.take (i + 1)) a (rd t' a) → (∀ j : Nat, j < a → rd t' j = rd t j) → (∀ b, t'.set a b = t.set a b) →
        ∃ b, Cand h V V a b ∧ stamp_fewest.l1 (k + d + 1) h V t' (a : Int) V (V.length : Int) ((i + 1 : Nat) : Int) = stamp_fewest.l0 k h V (t.set a b) ((a : Int) + 1) := by
      intro t' hl hc' hlow' hs
      obtain ⟨b, hb, e⟩ := ih (i + 1) t' k (by omega) (by omega) (by omega) hc' (fun j hj => by rw [hlow' j hj]; exact hlow j hj)
      exact ⟨b, hb, by rw [e, hs]⟩
    by_cases c1 : rd V (i : Int) ≤ (a : Int)
    · rw [if_pos c1, e2, if_pos (by omega), if_pos (by omega)]
      -- the number at a - v
      obtain ⟨j, hj⟩ : ∃ j : Nat, (a : Int) - rd V (i : Int) = j := ⟨((a : Int) - rd V (i : Int)).toNat, by omega⟩
      have hfj := hlow j (by omega)
      rw [← hj] at hfj
      have hge := hfj.ge
      have hle := hfj.le (by have := tk.h1; omega)
      have hh := tk.h6
      have hmx : (∃ b, rd t (a : Int) = b ∧ -1 ≤ b ∧ b ≤ 7) := ⟨_, rfl, by rcases hc with ⟨e, _⟩ | ⟨k, e, h1, _⟩ <;> omega, by rcases hc with ⟨e, _⟩ | ⟨k, e, h1, _⟩ <;> omega⟩
      by_cases c2 : rd t ((a : Int) - rd V (i : Int)) = -1
      · rw [if_pos c2]
        exact go t rfl (by rw [take_snoc_rd hil]; exact hc.keep hfj (.inl c2)) (fun _ _ => rfl) (fun _ => rfl)
      · rw [if_neg c2]
        by_cases c3 : rd t ((a : Int) - rd V (i : Int)) < h
        · have e3 : wrap64 (rd t ((a : Int) - rd V (i : Int)) + 1) = rd t ((a : Int) - rd V (i : Int)) + 1 := w64 (by omega)
          have eN : ((a : Int)).toNat = a := by omega
          rw [if_pos c3, if_pos (by omega), if_pos (by omega), e3, eN]
          have take : rd t (a : Int) = -1 ∨ rd t ((a : Int) - rd V (i : Int)) + 1 < rd t (a : Int) →
              ∃ b, Cand h V V a b ∧ stamp_fewest.l1 (k + d + 1) h V (t.set a (rd t ((a : Int) - rd V (i : Int)) + 1)) (a : Int) V (V.length : Int) ((i + 1 : Nat) : Int) = stamp_fewest.l0 k h V (t.set a b) ((a : Int) + 1) := fun h3 =>
            go _ (by simp) (by rw [take_snoc_rd hil, rd_set hat, if_pos rfl]; exact hc.take hfj c2 c3 h3) (fun j hj => by rw [rd_set hat, if_neg (by omega)]) (fun b => by simp)
          by_cases c4 : rd t (a : Int) = -1
          · rw [if_pos c4]; exact take (.inl c4)
          · rw [if_neg c4]
            by_cases c5 : rd t ((a : Int) - rd V (i : Int)) + 1 < rd t (a : Int)
            · rw [if_pos c5]; exact take (.inr c5)
            · rw [if_neg c5]
              exact go t rfl (by rw [take_snoc_rd hil]; exact hc.keep hfj (.inr (.inr ⟨c4, by omega⟩))) (fun _ _ => rfl) (fun _ => rfl)
        · rw [if_neg c3]
          exact go t rfl (by rw [take_snoc_rd hil]; exact hc.keep hfj (.inr (.inl (by omega)))) (fun _ _ => rfl) (fun _ => rfl)
    · rw [if_neg c1]
      exact go t rfl (by rw [take_snoc_rd hil]; exact hc.skip tk.Pos (by omega)) (fun _ _ => rfl) (fun _ => rfl)

theorem fewest_l0 {h : Int} {V : List Int} (tk : Tick h V) (d : Nat) : ∀ (a : Nat) (t : List Int) (k : Nat), a + d = t.length → 0 < a → t.length ≤ 1201 → d * (V.length + 2) + 1 ≤ k → (∀ j : Nat, j < a → Few h V j (rd t j)) →
    ∃ t', t'.length = t.length ∧ (∀ j : Nat, j < t.length → Few h V j (rd t' j)) ∧ stamp_fewest.l0 k h V t (a : Int) = some t' := by
  induction d with
  | zero =>
    intro a t k hi ha ht hk hlow
    obtain ⟨k, rfl⟩ : ∃ m, k = m + 1 := ⟨k - 1, by omega⟩
    exact ⟨t, rfl, fun j hj => hlow j (by omega), by simp only [stamp_fewest.l0]; rw [if_neg (by omega)]⟩
  | succ d ih =>
    intro a t k hi ha ht hk hlow
    rw [Nat.succ_mul] at hk
    obtain ⟨m, rfl⟩ : ∃ m, k = (m + V.length + 1) + 1 := ⟨k - V.length - 2, by omega⟩
    have eN : ((a : Int)).toNat = a := by omega
    simp only [stamp_fewest.l0]
    rw [if_pos (by omega), if_pos (by omega), eN]
    obtain ⟨b, hb, e⟩ := fewest_l1 tk ha V.length 0 (t.set a (-1)) m (by omega) (by simp; omega) (by simp; omega)
      (by rw [rd_set (by omega), if_pos rfl]; simpa using Cand.nil h V a) (fun j hj => by rw [rd_set (by omega), if_neg (by omega)]; exact hlow j hj)
    have e' : stamp_fewest.l1 (m + V.length + 1) h V (t.set a (-1)) (a : Int) V (V.length : Int) 0 = stamp_fewest.l0 m h V ((t.set a (-1)).set a b) ((a : Int) + 1) := e
    rw [e', List.set_set]
    have hf : Few h V a b := hb.few (by omega)
    obtain ⟨t', h1, h2, h3⟩ := ih (a + 1) (t.set a b) m (by simp; omega) (by omega) (by simp; omega) (by omega)
      (fun j hj => by
        rw [rd_set (by omega)]
        split
        · next e => subst e; exact hf
        · exact hlow j (by omega))
    refine ⟨t', by simpa using h1, fun j hj => h2 j (by simpa using hj), ?_⟩
    have e2 : ((a : Int) + 1) = ((a + 1 : Nat) : Int) := by omega
    rw [e2]; exact h3

theorem rd_replicate (n : Nat) (j : Int) : rd (List.replicate n 0) j = 0 := by
  unfold rd; simp [List.getD, List.getElem?_replicate]; split <;> rfl

theorem fewest_f {h : Int} {V : List Int} (tk : Tick h V) (k : Nat) (hk : 10000 ≤ k) : stamp_fewest.f k h V = some (tab h V) := by
  have ht := tk.top; have hp := tk.pos; have hl := tk.len
  have e1 : wrap64 ((V.length : Int) - 1) = (V.length : Int) - 1 := w64 (by omega)
  unfold stamp_fewest.f
  rw [e1, lastV_eq, w64 (x := h * lastV V) (by omega), w64 (x := h * lastV V + 1) (by omega), if_pos (by omega), if_pos (by omega), if_pos (by omega), if_pos (by omega)]
  obtain ⟨d, hd⟩ : ∃ d : Nat, 1 + d = (h * lastV V + 1).toNat := ⟨(h * lastV V).toNat, by omega⟩
  have hd2 : d * (V.length + 2) ≤ 1200 * 8 := Nat.mul_le_mul (by omega) (by omega)
  obtain ⟨t', h1, h2, h3⟩ := fewest_l0 tk d 1 (List.replicate (h * lastV V + 1).toNat 0) k (by simpa using hd) (by omega) (by simp; omega) (by omega)
    (fun j hj => by obtain rfl : j = 0 := by omega
                    rw [rd_replicate]; exact Few.zero (by have := tk.h1; omega) V)
  have h3' : stamp_fewest.l0 k h V (List.replicate (h * lastV V + 1).toNat 0) 1 = some t' := h3
  rw [h3', tab_of (by have := tk.h1; omega) (by rw [h1]; simp) (fun j hj => h2 j (by rw [h1] at hj; exact hj))]

/-! the specification's table -/
def refBest (h best : Int) : Int := if best = -1 then h + 1 else best

theorem reffew_l1 {h : Int} {V : List Int} (tk : Tick h V) {a : Nat} (ha : 0 < a) (d : Nat) : ∀ (i : Nat) (t : List Int) (k : Nat) (best : Int), i + d = V.length → a < t.length → t.length ≤ 1201 →
    Cand h V (V.take i) a best → (∀ j : Nat, j < a → Few h V j (rd t j)) →
    ∃ b, Cand h V V a b ∧ trishawref04_few.l1 (k + d + 1) h V t (a : Int) (refBest h best) (i : Int) = trishawref04_few.l0 k h V (t.set a b) ((a : Int) + 1) := by
  induction d with
  | zero =>
    intro i t k best hi hat ht hc hlow
    refine ⟨best, ?_, ?_⟩
    · rw [List.take_of_length_le (by omega)] at hc; exact hc
    · have h1 := tk.h1
      have eN : ((a : Int)).toNat = a := by omega
      simp only [trishawref04_few.l1]
      rw [if_neg (by omega), w64 (by omega), eN]
      unfold refBest
      by_cases c : best = -1
      · rw [if_pos c, if_pos (by omega), if_pos (by omega), if_pos (by omega), c]
      · rw [if_neg c]
        have : best ≤ h := by rcases hc with ⟨e, _⟩ | ⟨k, e, h1, _⟩ <;> omega
        rw [if_neg (by omega), if_pos (by omega), if_pos (by omega)]
  | succ d ih =>
    intro i t k best hi hat ht hc hlow
    have hV := tk.len; have h1 := tk.h1; have h6 := tk.h6
    have hil : i < V.length := by omega
    have hrv := tk.range _ (rd_mem (l := V) (i := (i : Int)) (by omega) (by omega))
    have e1 : wrap64 ((i : Int) + 1) = ((i + 1 : Nat) : Int) := by rw [w64 (by omega)]; omega
    have e2 : wrap64 ((a : Int) - rd V (i : Int)) = (a : Int) - rd V (i : Int) := w64 (by omega)
    have ek : k + (d + 1) + 1 = (k + d + 1) + 1 := by omega
    have hbest : best = -1 ∨ (1 ≤ best ∧ best ≤ h) := by rcases hc with ⟨e, _⟩ | ⟨k, e, h1, _⟩ <;> omega
    rw [ek]
    simp only [trishawref04_few.l1]
    rw [if_pos (by omega), if_pos (by omega), e1]
    have go : ∀ best', Cand h V (V.take (i + 1)) a best' →
        ∃ b, Cand h V V a b ∧ trishawref04_few.l1 (k + d + 1) h V t (a : Int) (refBest h best') ((i + 1 : Nat) : Int) = trishawref04_few.l0 k h V (t.set a b) ((a : Int) + 1) :=
      fun best' hc' => ih (i + 1) t k best' (by omega) (by omega) (by omega) hc' hlow
    by_cases c1 : rd V (i : Int) ≤ (a : Int)
    · rw [if_pos c1, e2, if_pos (by omega), if_pos (by omega)]
      obtain ⟨j, hj⟩ : ∃ j : Nat, (a : Int) - rd V (i : Int) = j := ⟨((a : Int) - rd V (i : Int)).toNat, by omega⟩
      have hfj := hlow j (by omega)
      rw [← hj] at hfj
      have hge := hfj.ge
      have hle := hfj.le (by omega)
      by_cases c2 : rd t ((a : Int) - rd V (i : Int)) ≥ 0
      · have e3 : wrap64 (rd t ((a : Int) - rd V (i : Int)) + 1) = rd t ((a : Int) - rd V (i : Int)) + 1 := w64 (by omega)
        rw [if_pos c2, e3]
        by_cases c3 : rd t ((a : Int) - rd V (i : Int)) < h ∧ (best = -1 ∨ rd t ((a : Int) - rd V (i : Int)) + 1 < best)
        · have e4 : mn (refBest h best) (rd t ((a : Int) - rd V (i : Int)) + 1) = refBest h (rd t ((a : Int) - rd V (i : Int)) + 1) := by
            unfold refBest mn; split <;> split <;> omega
          rw [e4]
          exact go _ (by rw [take_snoc_rd hil]; exact hc.take hfj (by omega) c3.1 c3.2)
        · have e4 : mn (refBest h best) (rd t ((a : Int) - rd V (i : Int)) + 1) = refBest h best := by
            unfold refBest mn; split <;> omega
          rw [e4]
          exact go _ (by rw [take_snoc_rd hil]; exact hc.keep hfj (by omega))
      · rw [if_neg c2]
        exact go _ (by rw [take_snoc_rd hil]; exact hc.keep hfj (.inl (by omega)))
    · rw [if_neg c1]
      exact go _ (by rw [take_snoc_rd hil]; exact hc.skip tk.Pos (by omega))

theorem reffew_l0 {h : Int} {V : List Int} (tk : Tick h V) (d : Nat) : ∀ (a : Nat) (t : List Int) (k : Nat), a + d = t.length → 0 < a → t.length ≤ 1201 → d * (V.length + 2) + 1 ≤ k → (∀ j : Nat, j < a → Few h V j (rd t j)) →
    ∃ t', t'.length = t.length ∧ (∀ j : Nat, j < t.length → Few h V j (rd t' j)) ∧ trishawref04_few.l0 k h V t (a : Int) = some t' := by
  induction d with
  | zero =>
    intro a t k hi ha ht hk hlow
    obtain ⟨k, rfl⟩ : ∃ m, k = m + 1 := ⟨k - 1, by omega⟩
    exact ⟨t, rfl, fun j hj => hlow j (by omega), by simp only [trishawref04_few.l0]; rw [if_neg (by omega)]⟩
  | succ d ih =>
    intro a t k hi ha ht hk hlow
    rw [Nat.succ_mul] at hk
    obtain ⟨m, rfl⟩ : ∃ m, k = (m + V.length + 1) + 1 := ⟨k - V.length - 2, by omega⟩
    have h1 := tk.h1; have h6 := tk.h6
    simp only [trishawref04_few.l0]
    rw [if_pos (by omega), w64 (by omega)]
    obtain ⟨b, hb, e⟩ := reffew_l1 tk ha V.length 0 t m (-1) (by omega) (by omega) (by omega) (by simpa using Cand.nil h V a) hlow
    have e' : trishawref04_few.l1 (m + V.length + 1) h V t (a : Int) (h + 1) 0 = trishawref04_few.l0 m h V (t.set a b) ((a : Int) + 1) := e
    rw [e']
    have hf : Few h V a b := hb.few (by omega)
    obtain ⟨t', h1, h2, h3⟩ := ih (a + 1) (t.set a b) m (by simp; omega) (by omega) (by simp; omega) (by omega)
      (fun j hj => by
        rw [rd_set (by omega)]
        split
        · next e => subst e; exact hf
        · exact hlow j (by omega))
    refine ⟨t', by simpa using h1, fun j hj => h2 j (by simpa using hj), ?_⟩
    have e2 : ((a : Int) + 1) = ((a + 1 : Nat) : Int) := by omega
    rw [e2]; exact h3

theorem reffew_f {h : Int} {V : List Int} (tk : Tick h V) (k : Nat) (hk : 10000 ≤ k) : trishawref04_few.f k h V = some (tab h V) := by
  have ht := tk.top; have hp := tk.pos; have hl := tk.len
  have e1 : wrap64 ((V.length : Int) - 1) = (V.length : Int) - 1 := w64 (by omega)
  unfold trishawref04_few.f
  rw [e1, lastV_eq, w64 (x := h * lastV V) (by omega), w64 (x := h * lastV V + 1) (by omega), if_pos (by omega), if_pos (by omega), if_pos (by omega), if_pos (by omega)]
  obtain ⟨d, hd⟩ : ∃ d : Nat, 1 + d = (h * lastV V + 1).toNat := ⟨(h * lastV V).toNat, by omega⟩
  have hd2 : d * (V.length + 2) ≤ 1200 * 8 := Nat.mul_le_mul (by omega) (by omega)
  obtain ⟨t', h1, h2, h3⟩ := reffew_l0 tk d 1 (List.replicate (h * lastV V + 1).toNat 0) k (by simpa using hd) (by omega) (by simp; omega) (by omega)
    (fun j hj => by obtain rfl : j = 0 := by omega
                    rw [rd_replicate]; exact Few.zero (by have := tk.h1; omega) V)
  have h3' : trishawref04_few.l0 k h V (List.replicate (h * lastV V + 1).toNat 0) 1 = some t' := h3
  rw [h3', tab_of (by have := tk.h1; omega) (by rw [h1]; simp) (fun j hj => h2 j (by rw [h1] at hj; exact hj))]

end Go.Proofs.Ytcgblpjknkmoaaa.B

namespace Go.Proofs.Ytcgblpjknkmoaaa.B
open Go.RowKit Go.Proofs.YtcgblpjknkmoaaaW.PrintWords Go.Proofs.YtcgblpjknkmoaaaW.PrintLast Go.Proofs.YtcgblpjknkmoaaaW.PrintMore
open Go.Proofs.Ytcgblpjknkmoaaa.Stamp

theorem same_l0 (a b : List Int) (he : a.length = b.length) (hl : a.length < 1000000) (d : Nat) : ∀ (i k : Nat), i + d = a.length → d < k →
    trishawlaw04_same.l0 k a b (i : Int) = some (decide (a.drop i = b.drop i)) := by
  induction d with
  | zero =>
    intro i k hi hk
    obtain ⟨k, rfl⟩ : ∃ m, k = m + 1 := ⟨k - 1, by omega⟩
    simp only [trishawlaw04_same.l0]
    rw [if_neg (by omega), List.drop_of_length_le (by omega), List.drop_of_length_le (by omega)]
    simp
  | succ d ih =>
    intro i k hi hk
    obtain ⟨k, rfl⟩ : ∃ m, k = m + 1 := ⟨k - 1, by omega⟩
    have h1 := ih (i + 1) k (by omega) (by omega)
    have e1 : wrap64 ((i : Int) + 1) = ((i + 1 : Nat) : Int) := by rw [w64 (by omega)]; omega
    simp only [trishawlaw04_same.l0]
    rw [if_pos (by omega), if_pos (by omega), if_pos (by omega), e1, h1, drop_rd (l := a) (i := i) (by omega), drop_rd (l := b) (i := i) (by omega)]
    by_cases c : rd a (i : Int) = rd b (i : Int)
    · rw [if_pos c, c]; simp
    · rw [if_neg c]; simp [c]
theorem same_f (a b : List Int) (hl : a.length < 1000000) (k : Nat) (hk : a.length < k) : trishawlaw04_same.f k a b = some (decide (a = b)) := by
  unfold trishawlaw04_same.f
  by_cases h : (a.length : Int) = (b.length : Int)
  · rw [if_pos h]
    have := same_l0 a b (by omega) hl a.length 0 k (by omega) hk
    simpa using this
  · rw [if_neg h]
    have : a ≠ b := fun e => h (by rw [e])
    simp [this]

theorem Index_l0 (t : List Int) (v : Int) (hl : t.length < 1000000) (d : Nat) : ∀ (i k : Nat), i + d = t.length → d < k →
    slices_Index_int_int.l0 k t v (t.length : Int) (i : Int) = some (if (t.drop i).findIdx (· == v) < d then ((i + (t.drop i).findIdx (· == v) : Nat) : Int) else -1) := by
  induction d with
  | zero =>
    intro i k hi hk
    obtain ⟨k, rfl⟩ : ∃ m, k = m + 1 := ⟨k - 1, by omega⟩
    simp only [slices_Index_int_int.l0]
    rw [if_neg (by omega), if_neg (by omega)]
  | succ d ih =>
    intro i k hi hk
    obtain ⟨k, rfl⟩ : ∃ m, k = m + 1 := ⟨k - 1, by omega⟩
    have h1 := ih (i + 1) k (by omega) (by omega)
    have e1 : wrap64 ((i : Int) + 1) = ((i + 1 : Nat) : Int) := by rw [w64 (by omega)]; omega
    simp only [slices_Index_int_int.l0]
    rw [if_pos (by omega), if_pos (by omega), if_pos (by omega), e1, h1, drop_rd (l := t) (i := i) (by omega), List.findIdx_cons]
    by_cases c : v = rd t (i : Int)
    · rw [if_pos c, c]; simp
    · rw [if_neg c]
      have : (rd t (i : Int) == v) = false := by simp; exact fun e => c e.symm
      rw [this]
      simp only [cond_false]
      by_cases c2 : (t.drop (i + 1)).findIdx (· == v) < d
      · rw [if_pos c2, if_pos (by omega)]; congr 1; omega
      · rw [if_neg c2, if_neg (by omega)]
theorem Index_f (t : List Int) (v : Int) (hl : t.length < 1000000) (k : Nat) (hk : t.length < k) :
    slices_Index_int_int.f k t v = some (if t.findIdx (· == v) < t.length then (t.findIdx (· == v) : Int) else -1) := by
  unfold slices_Index_int_int.f
  have := Index_l0 t v hl t.length 0 k (by omega) hk
  simpa using this

/-- the range -/
def rangeV (h : Int) (V : List Int) : Int := ((tab h V).findIdx (· == -1) : Int) - 1

theorem findIdx_le (t : List Int) (p : Int → Bool) : t.findIdx p ≤ t.length := List.findIdx_le_length

theorem tab_pos {h : Int} {V : List Int} (tk : Tick h V) : 0 < (tab h V).findIdx (· == -1) := by
  have ht := tk.top
  have h0 : 0 < (tab h V).length := by rw [tab_length]; omega
  rcases Nat.eq_zero_or_pos ((tab h V).findIdx (· == -1)) with e | e
  · have h1 : (tab h V).findIdx (· == -1) < (tab h V).length := by omega
    have := List.findIdx_getElem (w := h1)
    have e2 : (tab h V)[(tab h V).findIdx (· == -1)] = rd (tab h V) 0 := by
      have : ((tab h V).findIdx (· == -1)) = 0 := e
      simp only [this]
      unfold rd; simp [List.getD, h0]
    rw [e2, rd_tab (by omega) (by omega)] at this
    have hz := (fewV_few (by have := tk.h1; omega : 0 ≤ h) V 0).unique (Few.zero (by have := tk.h1; omega) V)
    rw [hz] at this; simp at this
  · exact e

theorem reach_f {h : Int} {V : List Int} (tk : Tick h V) (k : Nat) (hk : 10000 ≤ k) : stamp_reach.f k h V = some (rangeV h V) := by
  have ht := tk.top
  have hl : (tab h V).length ≤ 1201 := by rw [tab_length]; omega
  have hle := findIdx_le (tab h V) (· == -1)
  unfold stamp_reach.f
  rw [fewest_f tk k hk]
  simp only [Option.bind_some]
  rw [Index_f _ _ (by omega) k (by omega)]
  simp only [Option.bind_some]
  unfold rangeV
  by_cases c : (tab h V).findIdx (· == -1) < (tab h V).length
  · rw [if_pos c, if_pos (by omega), w64 (by omega)]
  · rw [if_neg c, if_neg (by omega), w64 (by omega)]
    have : (tab h V).findIdx (· == -1) = (tab h V).length := by omega
    rw [this]

theorem findIdx_before {t : List Int} {j : Nat} (hj : j < t.findIdx (· == -1)) : rd t (j : Int) ≠ -1 := by
  have h1 := List.not_of_lt_findIdx hj
  have : j < t.length := by have := findIdx_le t (· == -1); omega
  rw [rd_nat]
  simp [this] at h1 ⊢
  exact h1
theorem findIdx_at {t : List Int} (h : t.findIdx (· == -1) < t.length) : rd t ((t.findIdx (· == -1) : Nat) : Int) = -1 := by
  have h1 := List.findIdx_getElem (w := h)
  rw [rd_nat]
  simp [h] at h1 ⊢
  exact h1

theorem tab_ge {h : Int} {V : List Int} (h0 : 0 ≤ h) {j : Nat} (hj : j < (tab h V).length) : -1 ≤ rd (tab h V) (j : Int) := by
  rw [tab_length] at hj
  rw [rd_tab (by omega) (by omega)]
  exact (fewV_few h0 V _).ge

theorem refreach_l0 {h : Int} {V : List Int} (tk : Tick h V) (d : Nat) : ∀ (i k : Nat), i + 1 + d = (tab h V).findIdx (· == -1) → d < k →
    trishawref04_reach.l0 k (tab h V) (i : Int) = some (rangeV h V) := by
  have ht := tk.top
  have hl : (tab h V).length ≤ 1201 := by rw [tab_length]; omega
  have hle := findIdx_le (tab h V) (· == -1)
  have h0 : 0 ≤ h := by have := tk.h1; omega
  induction d with
  | zero =>
    intro i k hi hk
    obtain ⟨k, rfl⟩ : ∃ m, k = m + 1 := ⟨k - 1, by omega⟩
    have e1 : wrap64 ((i : Int) + 1) = ((i + 1 : Nat) : Int) := by rw [w64 (by omega)]; omega
    simp only [trishawref04_reach.l0]
    rw [e1]
    by_cases c : (((i + 1 : Nat) : Int)) < ((tab h V).length : Int)
    · rw [if_pos c, if_pos (by omega)]
      have h2 := findIdx_at (t := tab h V) (by omega)
      have h3 : i + 1 = (tab h V).findIdx (· == -1) := by omega
      rw [← h3] at h2
      rw [h2, if_neg (by omega)]
      unfold rangeV; rw [← h3]; congr 1; omega
    · rw [if_neg c]
      unfold rangeV; congr 1; omega
  | succ d ih =>
    intro i k hi hk
    obtain ⟨k, rfl⟩ : ∃ m, k = m + 1 := ⟨k - 1, by omega⟩
    have e1 : wrap64 ((i : Int) + 1) = ((i + 1 : Nat) : Int) := by rw [w64 (by omega)]; omega
    simp only [trishawref04_reach.l0]
    rw [e1, if_pos (by omega), if_pos (by omega)]
    have h2 := findIdx_before (t := tab h V) (j := i + 1) (by omega)
    have h3 := tab_ge (V := V) h0 (j := i + 1) (by omega)
    rw [if_pos (by omega)]
    exact ih (i + 1) k (by omega) (by omega)

theorem refreach_f {h : Int} {V : List Int} (tk : Tick h V) (k : Nat) (hk : 10000 ≤ k) : trishawref04_reach.f k h V = some (rangeV h V) := by
  unfold trishawref04_reach.f
  rw [reffew_f tk k hk]
  simp only [Option.bind_some]
  have ht := tk.top
  have hl : (tab h V).length ≤ 1201 := by rw [tab_length]; omega
  have hle := findIdx_le (tab h V) (· == -1)
  have hp := tab_pos tk
  exact refreach_l0 tk ((tab h V).findIdx (· == -1) - 1) 0 k (by omega) (by omega)

/-- what the range is -/
theorem rangeV_spec {h : Int} {V : List Int} (tk : Tick h V) : 0 ≤ rangeV h V ∧ rangeV h V ≤ h * lastV V ∧ (∀ a, 0 ≤ a → a ≤ rangeV h V → 0 ≤ fewV h V a) ∧ (rangeV h V = h * lastV V ∨ fewV h V (rangeV h V + 1) = -1) := by
  have ht := tk.top
  have h0 : 0 ≤ h := by have := tk.h1; omega
  have hl : (tab h V).length = (h * lastV V + 1).toNat := tab_length h V
  have hle := findIdx_le (tab h V) (· == -1)
  have hp := tab_pos tk
  unfold rangeV
  refine ⟨by omega, by omega, fun a ha1 ha2 => ?_, ?_⟩
  · have h1 := findIdx_before (t := tab h V) (j := a.toNat) (by omega)
    have e : ((a.toNat : Nat) : Int) = a := by omega
    rw [e, rd_tab ha1 (by omega)] at h1
    have := (fewV_few h0 V a).ge
    omega
  · by_cases c : (tab h V).findIdx (· == -1) < (tab h V).length
    · right
      have h1 := findIdx_at c
      rw [rd_tab (by omega) (by omega)] at h1
      rw [Int.sub_add_cancel]; exact h1
    · left; omega
theorem rangeV_unique {h : Int} {V : List Int} (tk : Tick h V) {r : Int} (h1 : 0 ≤ r) (h2 : r ≤ h * lastV V) (h3 : ∀ a, 0 ≤ a → a ≤ r → 0 ≤ fewV h V a) (h4 : r = h * lastV V ∨ fewV h V (r + 1) = -1) : r = rangeV h V := by
  obtain ⟨g1, g2, g3, g4⟩ := rangeV_spec tk
  rcases Int.lt_trichotomy r (rangeV h V) with c | c | c
  · rcases h4 with e | e
    · omega
    · have := g3 (r + 1) (by omega) (by omega); omega
  · exact c
  · rcases g4 with e | e
    · omega
    · have := h3 (rangeV h V + 1) (by omega) (by omega); omega

theorem Range_f (h : Int) (V : List Int) (k : Nat) (hk : 10000 ≤ k) : stamp_Range.f k h V = some (if ticketErr h V = 0 then (rangeV h V, 0) else (0, ticketErr h V)) := by
  unfold stamp_Range.f
  rw [read_f h V k (by omega)]
  simp only [Option.bind_some]
  by_cases c : ticketErr h V = 0
  · rw [if_pos c, if_pos c, reach_f ((ticket_iff h V).1 c) k hk]; rfl
  · rw [if_neg c, if_neg c]

end Go.Proofs.Ytcgblpjknkmoaaa.B

namespace Go.Proofs.Ytcgblpjknkmoaaa.B
open Go.RowKit Go.Proofs.YtcgblpjknkmoaaaW.PrintWords Go.Proofs.YtcgblpjknkmoaaaW.PrintLast Go.Proofs.YtcgblpjknkmoaaaW.PrintMore
open Go.Proofs.Ytcgblpjknkmoaaa.Stamp

theorem W_le_tot (S : List Int) : ∀ (k : Nat) (a : Int), W S k a ≤ tot S.length k := by
  induction S with
  | nil => intro k a; rw [W_nil]; simp only [List.length_nil, tot]; split <;> omega
  | cons x S ih =>
    intro k
    induction k with
    | zero => intro a; rw [W_zero]; simp only [List.length_cons, tot]; split <;> omega
    | succ k ihk =>
      intro a
      rw [W_cons]
      have h1 := ih (k + 1) a
      have h2 := ihk (a - x)
      simp only [List.length_cons] at h2 ⊢
      have : tot (S.length + 1) (k + 1) = tot S.length (k + 1) + tot (S.length + 1) k := by rw [tot]
      omega
theorem tot_mono_l (n : Nat) : ∀ h, tot n h ≤ tot (n + 1) h
  | 0 => by cases n <;> simp [tot]
  | h + 1 => by rw [show tot (n + 1) (h + 1) = tot n (h + 1) + tot (n + 1) h by rw [tot]]; omega
theorem tot_mono_r (n h : Nat) : tot n h ≤ tot n (h + 1) := by
  cases n with
  | zero => simp [tot]
  | succ n => rw [show tot (n + 1) (h + 1) = tot n (h + 1) + tot (n + 1) h by rw [tot]]; omega
theorem tot_le {n h : Nat} (hn : n ≤ 6) (hh : h ≤ 6) : tot n h ≤ 924 := by
  have h1 : ∀ d n, tot n h ≤ tot (n + d) h := fun d => by
    induction d with
    | zero => intro n; exact Nat.le_refl _
    | succ d ih => intro n; exact Nat.le_trans (ih n) (tot_mono_l _ _)
  have h2 : ∀ d m, tot 6 m ≤ tot 6 (m + d) := fun d => by
    induction d with
    | zero => intro n; exact Nat.le_refl _
    | succ d ih => intro n; exact Nat.le_trans (ih n) (tot_mono_r _ _)
  have a := h1 (6 - n) n
  have b := h2 (6 - h) h
  rw [Nat.add_sub_cancel' hn] at a
  rw [Nat.add_sub_cancel' hh] at b
  have : tot 6 6 = 924 := by simp [tot]
  omega

/-- the values up to an index, the last one first -/
def vupto (V : List Int) (last : Int) : List Int := (V.take (last + 1).toNat).reverse
theorem vupto_cons {V : List Int} {last : Int} (h0 : 0 ≤ last) (h1 : last < V.length) : vupto V last = rd V last :: vupto V (last - 1) := by
  unfold vupto
  obtain ⟨i, rfl⟩ : ∃ i : Nat, last = i := ⟨last.toNat, by omega⟩
  have e1 : ((i : Int) + 1).toNat = i + 1 := by omega
  have e2 : ((i : Int) - 1 + 1).toNat = i := by omega
  rw [e1, e2, take_snoc_rd (by omega), List.reverse_append]; rfl
theorem vupto_length {V : List Int} {last : Int} (h1 : last < V.length) : (vupto V last).length = (last + 1).toNat := by unfold vupto; simp; omega
theorem vupto_all (V : List Int) : vupto V ((V.length : Int) - 1) = V.reverse := by
  unfold vupto; rw [List.take_of_length_le (by omega)]

theorem ways_f {V : List Int} (hp : Pos V) (hl : V.length ≤ 6) (hv : ∀ v ∈ V, v ≤ 200) (n : Nat) : ∀ (many : Nat) (last amount : Int) (k : Nat), many + (last + 1).toNat = n → -1 ≤ last → last < V.length → many ≤ 6 → -2000 ≤ amount → amount ≤ 2000 →
    2 * n + 2 ≤ k → 0 ≤ amount → trishawref04_ways.f k V many last amount = some ((W (vupto V last) many amount : Nat) : Int) := by
  induction n with
  | zero =>
    intro many last amount k hn hl0 hl1 hm ha0 ha1 hk hz
    obtain ⟨k, rfl⟩ : ∃ m, k = (m + 1) + 1 := ⟨k - 2, by omega⟩
    obtain rfl : many = 0 := by omega
    simp only [trishawref04_ways.f, trishawref04_ways.j0]
    rw [W_zero]
    by_cases c : amount = 0
    · rw [if_pos c, if_pos c]; rfl
    · rw [if_neg c, if_neg c]; simp
  | succ n ih =>
    intro many last amount k hn hl0 hl1 hm ha0 ha1 hk hz
    obtain ⟨k, rfl⟩ : ∃ m, k = (m + 1) + 1 := ⟨k - 2, by omega⟩
    have hpu : Pos (vupto V last) := fun v hv => hp v (by unfold vupto at hv; exact List.mem_of_mem_take (List.mem_reverse.1 hv))
    simp only [trishawref04_ways.f]
    by_cases c : amount = 0
    · rw [if_pos c, c, W_amount_zero hpu]; rfl
    · rw [if_neg c]
      by_cases c1 : (many : Int) = 0
      · obtain rfl : many = 0 := by omega
        rw [if_pos c1, W_zero, if_neg c]
        simp only [trishawref04_ways.j0]; simp
      · rw [if_neg c1]
        by_cases c2 : last < 0
        · obtain rfl : last = -1 := by omega
          simp only [trishawref04_ways.j0]
          have : vupto V (-1) = [] := by simp [vupto]
          rw [this, W_nil, if_neg c]; simp
        · obtain ⟨j, rfl⟩ : ∃ j, many = j + 1 := ⟨many - 1, by omega⟩
          have hx := hp _ (rd_mem (l := V) (i := last) (by omega) (by omega))
          have hx2 := hv _ (rd_mem (l := V) (i := last) (by omega) (by omega))
          have e1 : wrap64 (last - 1) = last - 1 := w64 (by omega)
          have e2 : wrap64 (((j + 1 : Nat) : Int) - 1) = (j : Int) := by rw [w64 (by omega)]; omega
          have e3 : wrap64 (amount - rd V last) = amount - rd V last := w64 (by omega)
          have h1 := ih (j + 1) (last - 1) amount k (by omega) (by omega) (by omega) (by omega) ha0 ha1 (by omega) hz
          simp only [trishawref04_ways.j0]
          rw [if_neg (by simpa using c2), e1, h1, e2, e3]
          simp only [Option.bind_some]
          rw [if_pos (by omega), if_pos (by omega), vupto_cons (V := V) (last := last) (by omega) (by omega), W_cons]
          have b1 := W_le_tot (vupto V (last - 1)) (j + 1) amount
          rw [vupto_length (by omega)] at b1
          have b2 := tot_le (n := (last - 1 + 1).toNat) (h := j + 1) (by omega) hm
          by_cases c3 : rd V last ≤ amount
          · have h2 := ih j last (amount - rd V last) k (by omega) (by omega) (by omega) (by omega) (by omega) (by omega) (by omega) (by omega)
            rw [if_pos c3, h2]
            simp only [Option.bind_some]
            rw [vupto_cons (V := V) (last := last) (by omega) (by omega)]
            have b3 := W_le_tot (rd V last :: vupto V (last - 1)) j (amount - rd V last)
            rw [← vupto_cons (V := V) (last := last) (by omega) (by omega), vupto_length (by omega)] at b3
            have b4 := tot_le (n := (last + 1).toNat) (h := j) (by omega) (by omega)
            rw [← vupto_cons (V := V) (last := last) (by omega) (by omega)]
            rw [w64 (by omega)]; congr 1
          · rw [if_neg c3]
            have : W (rd V last :: vupto V (last - 1)) j (amount - rd V last) = 0 := by
              rw [← vupto_cons (V := V) (last := last) (by omega) (by omega)]
              exact W_neg hpu (by omega)
            rw [this]; simp

/-- Ways, of both -/
def waysV (h : Int) (V : List Int) (a : Int) : Int × Int := if askedErr h V a = 0 then ((W V h.toNat a : Nat), 0) else (0, askedErr h V a)

theorem asked_tick {h : Int} {V : List Int} {a : Int} (e : askedErr h V a = 0) : Tick h V ∧ 0 ≤ a ∧ a ≤ h * lastV V := by
  unfold askedErr at e
  by_cases c : ticketErr h V = 0
  · rw [if_pos c] at e
    have tk := (ticket_iff h V).1 c
    split at e
    · omega
    · exact ⟨tk, by omega, by omega⟩
  · rw [if_neg c] at e; exact absurd e c

theorem refWays_f (h : Int) (V : List Int) (a : Int) (k : Nat) (hk : 10000 ≤ k) : trishawref04_Ways.f k h V a = some (waysV h V a) := by
  unfold trishawref04_Ways.f waysV
  rw [refAsked_f h V a k (by omega)]
  simp only [Option.bind_some]
  by_cases c : askedErr h V a = 0
  · obtain ⟨tk, h0, h1⟩ := asked_tick c
    have ht := tk.top; have hp := tk.pos; have hl := tk.len; have t1 := tk.h1; have t6 := tk.h6
    rw [if_pos c, if_pos c, w64 (by omega)]
    have := ways_f tk.Pos hl (fun v hv => (tk.range v hv).2) (h.toNat + V.length) h.toNat ((V.length : Int) - 1) a k (by omega) (by omega) (by omega) (by omega) (by omega) (by omega) (by omega) h0
    have e : ((h.toNat : Nat) : Int) = h := by omega
    rw [e] at this
    rw [this, vupto_all, W_perm (List.reverse_perm V)]; rfl
  · rw [if_neg c, if_neg c]

/-! exactly -/
theorem gen_drop_prefix (V : List Int) (m : Nat) (a : Int) (i j : Nat) (h : i ≤ j) : ∃ t, gen (V.drop i) (m + 1) a = gen (V.drop j) (m + 1) a ++ t := by
  induction j with
  | zero => obtain rfl : i = 0 := by omega
            exact ⟨[], by simp⟩
  | succ j ih =>
    rcases Nat.lt_or_ge j i with h1 | h1
    · obtain rfl : i = j + 1 := by omega
      exact ⟨[], by simp⟩
    · obtain ⟨t, ht⟩ := ih h1
      rcases Nat.lt_or_ge j V.length with h2 | h2
      · rw [drop_rd h2, gen_cons] at ht
        exact ⟨_, by rw [ht, List.append_assoc]⟩
      · rw [List.drop_of_length_le h2] at ht
        exact ⟨t, by rw [ht, List.drop_of_length_le (by omega)]⟩

def exactV (V : List Int) (many : Nat) (from_ : Nat) (a : Int) : List Int × Bool :=
  match (gen (V.drop from_) many a).head? with
  | some l => (l, true)
  | none => ([], false)

theorem exactV_snd {V : List Int} {m i : Nat} {a : Int} : (exactV V m i a).2 = true ↔ gen (V.drop i) m a ≠ [] := by
  unfold exactV; cases gen (V.drop i) m a <;> simp
theorem exactV_of {V : List Int} {m i : Nat} {a : Int} {l : List Int} {t : List (List Int)} (h : gen (V.drop i) m a = l :: t) : exactV V m i a = (l, true) := by
  unfold exactV; rw [h]; rfl
theorem exactV_none {V : List Int} {m i : Nat} {a : Int} (h : gen (V.drop i) m a = []) : exactV V m i a = ([], false) := by
  unfold exactV; rw [h]; rfl
theorem gen_len_le {S : List Int} {m : Nat} {a : Int} {l : List Int} {t : List (List Int)} (h : gen S m a = l :: t) : l.length = m := (gen_mem S m a l (by rw [h]; simp)).1

theorem exactly_l0 {V : List Int} (hp : Pos V) (hl : V.length ≤ 6) (hv : ∀ v ∈ V, v ≤ 200) (m : Nat) (hm : m ≤ 6) (from_ : Nat) (a : Int) (ha : -2000 ≤ a ∧ a ≤ 2000) (K : Nat)
    (ih : ∀ (i : Nat) (b : Int) (k : Nat), -2000 ≤ b → b ≤ 2000 → K ≤ k → trishawref04_exactly.f k V (m : Int) (i : Int) b = some (exactV V m i b)) (d : Nat) :
    ∀ (i : Int) (k : Nat), i + 1 - from_ = d → i < V.length → K + d + 1 ≤ k → gen (V.drop (i + 1).toNat) (m + 1) a = [] →
    trishawref04_exactly.l0 k V ((m + 1 : Nat) : Int) (from_ : Int) a i = some (exactV V (m + 1) from_ a) := by
  induction d with
  | zero =>
    intro i k hi hil hk hg
    obtain ⟨k, rfl⟩ : ∃ m, k = m + 1 := ⟨k - 1, by omega⟩
    simp only [trishawref04_exactly.l0]
    rw [if_neg (by omega)]
    have : (i + 1).toNat = from_ := by omega
    rw [this] at hg
    rw [exactV_none hg]
  | succ d ihd =>
    intro i k hi hil hk hg
    obtain ⟨k, rfl⟩ : ∃ m, k = m + 1 := ⟨k - 1, by omega⟩
    obtain ⟨j, rfl⟩ : ∃ j : Nat, i = j := ⟨i.toNat, by omega⟩
    have hx := hp _ (rd_mem (l := V) (i := (j : Int)) (by omega) (by omega))
    have hx2 := hv _ (rd_mem (l := V) (i := (j : Int)) (by omega) (by omega))
    have e1 : wrap64 ((j : Int) - 1) = (j : Int) - 1 := w64 (by omega)
    have e2 : wrap64 (((m + 1 : Nat) : Int) - 1) = (m : Int) := by rw [w64 (by omega)]; omega
    have ej : ((j : Int) + 1).toNat = j + 1 := by omega
    rw [ej] at hg
    have hgj : gen (V.drop j) (m + 1) a = (gen (V.drop j) m (a - rd V (j : Int))).map (rd V (j : Int) :: ·) := by
      rw [drop_rd (l := V) (i := j) (by omega), gen_cons, hg, List.nil_append]
    have next : gen (V.drop j) m (a - rd V (j : Int)) = [] → trishawref04_exactly.l0 k V ((m + 1 : Nat) : Int) (from_ : Int) a ((j : Int) - 1) = some (exactV V (m + 1) from_ a) := fun h0 => by
      refine ihd ((j : Int) - 1) k (by omega) (by omega) (by omega) ?_
      have : ((j : Int) - 1 + 1).toNat = j := by omega
      rw [this, hgj, h0]; rfl
    simp only [trishawref04_exactly.l0]
    rw [if_pos (by omega), if_pos (by omega), if_pos (by omega), e1, e2]
    by_cases c : rd V (j : Int) > a
    · rw [if_pos c]
      refine next ?_
      have hpd : Pos (V.drop j) := fun v hv => hp v (List.mem_of_mem_drop hv)
      exact gen_none_low (m := 0) (fun v hv => by have := hpd v hv; omega) (by omega)
    · rw [if_neg c, w64 (by omega), ih j (a - rd V (j : Int)) k (by omega) (by omega) (by omega)]
      simp only [Option.bind_some]
      cases hh : gen (V.drop j) m (a - rd V (j : Int)) with
      | nil =>
        rw [exactV_none hh, if_neg (by simp)]
        exact next hh
      | cons l t =>
        rw [exactV_of hh, if_pos rfl]
        have hlen := gen_len_le hh
        obtain ⟨t', ht'⟩ := gen_drop_prefix V m a from_ j (by omega)
        rw [hgj, hh, List.map_cons, List.cons_append] at ht'
        rw [exactV_of ht', if_pos (by simp; omega)]
        rfl

theorem exactly_f {V : List Int} (hp : Pos V) (hl : V.length ≤ 6) (hv : ∀ v ∈ V, v ≤ 200) (m : Nat) : m ≤ 6 → ∀ (i : Nat) (a : Int) (k : Nat), -2000 ≤ a → a ≤ 2000 → 9 * m + 1 ≤ k →
    trishawref04_exactly.f k V (m : Int) (i : Int) a = some (exactV V m i a) := by
  induction m with
  | zero =>
    intro _ i a k h1 h2 hk
    obtain ⟨k, rfl⟩ : ∃ m, k = m + 1 := ⟨k - 1, by omega⟩
    simp only [trishawref04_exactly.f]
    rw [if_pos (by omega)]
    by_cases c : a = 0
    · rw [exactV_of (l := []) (t := []) (by rw [gen_zero, if_pos c]), c]; rfl
    · rw [exactV_none (by rw [gen_zero, if_neg c])]
      have : (a == 0) = false := by simp [c]
      rw [this]
  | succ m ih =>
    intro hm i a k h1 h2 hk
    obtain ⟨k, rfl⟩ : ∃ m, k = m + 1 := ⟨k - 1, by omega⟩
    simp only [trishawref04_exactly.f]
    rw [if_neg (by omega), w64 (by omega)]
    have hnil : gen (V.drop V.length) (m + 1) a = [] := by rw [List.drop_of_length_le (Nat.le_refl _), gen_nil]
    rcases Nat.lt_or_ge V.length i with c | c
    · -- from beyond the list: no round
      obtain ⟨k, rfl⟩ : ∃ m, k = m + 1 := ⟨k - 1, by omega⟩
      simp only [trishawref04_exactly.l0]
      rw [if_neg (by omega), exactV_none (by rw [List.drop_of_length_le (by omega), gen_nil])]
    · refine exactly_l0 hp hl hv m (by omega) i a ⟨h1, h2⟩ (9 * m + 1) (fun i b k hb1 hb2 hk => ih (by omega) i b k hb1 hb2 hk) (V.length - i) ((V.length : Int) - 1) k (by omega) (by omega) (by omega) ?_
      have : ((V.length : Int) - 1 + 1).toNat = V.length := by omega
      rw [this]; exact hnil

/-- Pay, of both -/
def payV (h : Int) (V : List Int) (a : Int) : List Int × Int :=
  if askedErr h V a = 0 then
    (match (List.range (h.toNat + 1)).find? (fun n => !(gen V n a).isEmpty) with
     | some n => ((gen V n a).headD [], 0)
     | none => ([], 10))
  else ([], askedErr h V a)

theorem refPay_l0 {h : Int} {V : List Int} (tk : Tick h V) {a : Int} (ha : 0 ≤ a ∧ a ≤ 1200) (d : Nat) : ∀ (i k : Nat), i + d = h.toNat + 1 → d + 100 ≤ k →
    trishawref04_Pay.l0 k h V a (i : Int) = some (match (List.range' i d).find? (fun n => !(gen V n a).isEmpty) with | some n => ((gen V n a).headD [], 0) | none => ([], 10)) := by
  have t1 := tk.h1; have t6 := tk.h6
  induction d with
  | zero =>
    intro i k hi hk
    obtain ⟨k, rfl⟩ : ∃ m, k = m + 1 := ⟨k - 1, by omega⟩
    simp only [trishawref04_Pay.l0]
    rw [if_neg (by omega)]; rfl
  | succ d ih =>
    intro i k hi hk
    obtain ⟨k, rfl⟩ : ∃ m, k = m + 1 := ⟨k - 1, by omega⟩
    have h1 := ih (i + 1) k (by omega) (by omega)
    have e1 : wrap64 ((i : Int) + 1) = ((i + 1 : Nat) : Int) := by rw [w64 (by omega)]; omega
    simp only [trishawref04_Pay.l0]
    rw [if_pos (by omega)]
    have hx := exactly_f tk.Pos tk.len (fun v hv => (tk.range v hv).2) i (by omega) 0 a k (by omega) (by omega) (by omega)
    have hx' : trishawref04_exactly.f k V (i : Int) 0 a = some (exactV V i 0 a) := hx
    rw [hx', e1, h1]
    simp only [Option.bind_some, List.range'_succ, List.find?_cons]
    cases hh : gen V i a with
    | nil =>
      rw [exactV_none (by simpa using hh)]
      simp
    | cons l t =>
      rw [exactV_of (l := l) (t := t) (by simpa using hh)]
      simp [hh]

theorem refPay_f (h : Int) (V : List Int) (a : Int) (k : Nat) (hk : 10000 ≤ k) : trishawref04_Pay.f k h V a = some (payV h V a) := by
  unfold trishawref04_Pay.f payV
  rw [refAsked_f h V a k (by omega)]
  simp only [Option.bind_some]
  by_cases c : askedErr h V a = 0
  · obtain ⟨tk, h0, h1⟩ := asked_tick c
    have ht := tk.top; have t1 := tk.h1; have t6 := tk.h6
    rw [if_pos c, if_pos c]
    have := refPay_l0 tk (a := a) ⟨h0, by omega⟩ (h.toNat + 1) 0 k (by omega) (by omega)
    rw [List.range_eq_range']
    exact this
  · rw [if_neg c, if_neg c]

end Go.Proofs.Ytcgblpjknkmoaaa.B

namespace Go.Proofs.Ytcgblpjknkmoaaa.B
open Go.RowKit Go.Proofs.YtcgblpjknkmoaaaW.PrintWords Go.Proofs.YtcgblpjknkmoaaaW.PrintLast Go.Proofs.YtcgblpjknkmoaaaW.PrintMore
open Go.Proofs.Ytcgblpjknkmoaaa.Stamp

def valCnt (h : Int) (l : List Int) : Nat := (rangeV h l + 1 - lastV l).toNat
def valAt (l : List Int) (i : Nat) : Int := lastV l + 1 + i
def valsOf (h : Int) (l : List Int) : List Int := (List.range (valCnt h l)).map (valAt l)

/-- all values that begin with l and have n more: the best so far, and its range -/
def bestGo : Nat → Int → List Int → List Int × Int → List Int × Int
  | 0, h, l, st => if st.2 < rangeV h l then (l, rangeV h l) else st
  | n + 1, h, l, st => (valsOf h l).foldl (fun s v => bestGo n h (l ++ [v]) s) st

def bestErr (h k : Int) : Bool := decide (h < 1) || decide (6 < h) || decide (k < 1) || decide (4 < k) || decide (16 < h * k)
def bestV (h k : Int) : List Int × Int × Int :=
  if bestErr h k = true then ([], 0, 2) else ((bestGo (k.toNat - 1) h [1] ([], 0)).1, (bestGo (k.toNat - 1) h [1] ([], 0)).2, 0)

theorem asc_append {p : Int} {l : List Int} {v : Int} (h : asc p l = true) (h1 : 1 ≤ v) (h2 : v ≤ 200) (h3 : ∀ x ∈ l, x < v) (h4 : p < v) : asc p (l ++ [v]) = true := by
  induction l generalizing p with
  | nil => simp [asc, h1, h2, h4]
  | cons x t ih =>
    simp only [asc, Bool.and_eq_true, decide_eq_true_eq] at h
    simp only [List.cons_append, asc, Bool.and_eq_true, decide_eq_true_eq]
    exact ⟨h.1, h.2.1, h.2.2.1, ih h.2.2.2 (fun y hy => h3 y (by simp [hy])) (h3 x (by simp))⟩

theorem lastV_append (l : List Int) (v : Int) : lastV (l ++ [v]) = v := by
  unfold lastV rd
  have : (((l ++ [v]).length : Int) - 1).toNat = l.length := by simp
  rw [this]; simp

theorem Tick.append {h : Int} {l : List Int} {v : Int} (t : Tick h l) (hl : l.length ≤ 5) (h1 : lastV l < v) (h2 : v ≤ 200) : Tick h (l ++ [v]) := by
  have := t.last_range
  exact ⟨t.h1, t.h6, by simp; omega, by simp, asc_append t.asc (by omega) h2 (fun x hx => by have := t.le_last x hx; omega) (by omega)⟩

/-- how great the last value can be -/
def Lb (h : Int) : Nat → Int
  | 0 => 1
  | i + 1 => h * Lb h i + 1
theorem Lb_pos {h : Int} (h1 : 1 ≤ h) (i : Nat) : 1 ≤ Lb h i := by
  induction i with
  | zero => simp [Lb]
  | succ i ih => have := Int.mul_le_mul h1 ih (by omega) (by omega); simp only [Lb]; omega
theorem Lb_mono {h : Int} (h1 : 1 ≤ h) {i j : Nat} (hij : i ≤ j) : Lb h i ≤ Lb h j := by
  induction j with
  | zero => obtain rfl : i = 0 := by omega
            exact Int.le_refl _
  | succ j ih =>
    rcases Nat.lt_or_ge j i with h2 | h2
    · obtain rfl : i = j + 1 := by omega
      exact Int.le_refl _
    · have a := ih h2
      have b := Lb_pos h1 j
      have c := Int.mul_le_mul h1 (Int.le_refl (Lb h j)) (by omega) (by omega)
      simp only [Lb]; omega
theorem Lb_le {h : Int} {k : Nat} (h1 : 1 ≤ h) (h6 : h ≤ 6) (k1 : 1 ≤ k) (k4 : k ≤ 4) (hk : h * k ≤ 16) : Lb h (k - 1) ≤ 85 := by
  have : k = 1 ∨ k = 2 ∨ k = 3 ∨ k = 4 := by omega
  have hh : h = 1 ∨ h = 2 ∨ h = 3 ∨ h = 4 ∨ h = 5 ∨ h = 6 := by omega
  rcases this with rfl | rfl | rfl | rfl <;> rcases hh with rfl | rfl | rfl | rfl | rfl | rfl <;> first | (simp [Lb]; done) | omega

theorem valAt_bound {h : Int} {l : List Int} (t : Tick h l) {i : Nat} (hi : i < valCnt h l) : lastV l < valAt l i ∧ valAt l i ≤ h * lastV l + 1 := by
  have := rangeV_spec t
  unfold valCnt at hi
  unfold valAt
  omega

end Go.Proofs.Ytcgblpjknkmoaaa.B
