/- The plain mathematics of stamps: which amounts some stamps pay, with how many, in how many ways; mirrored values; the sum of all ways. No program in sight. -/
namespace Go.Proofs.Ytcgblpjknkmoaaa.Stamp

/-- 'n' stamps of the values V sum to 'a'. -/
inductive Pays (V : List Int) : Nat → Int → Prop
  | zero : Pays V 0 0
  | step {n : Nat} {a v : Int} : Pays V n a → v ∈ V → Pays V (n + 1) (a + v)

theorem Pays.zero_iff {V : List Int} {a : Int} : Pays V 0 a ↔ a = 0 := by
  constructor
  · intro h; cases h; rfl
  · rintro rfl; exact .zero

theorem Pays.succ_iff {V : List Int} {n : Nat} {a : Int} : Pays V (n + 1) a ↔ ∃ v ∈ V, Pays V n (a - v) := by
  constructor
  · intro h
    generalize hm : n + 1 = m at h
    cases h with
    | zero => omega
    | @step k b v h hv =>
      obtain rfl : n = k := by omega
      exact ⟨v, hv, by rwa [Int.add_sub_cancel]⟩
  · rintro ⟨v, hv, h⟩
    have := Pays.step h hv
    rwa [Int.sub_add_cancel] at this

theorem Pays.mono {V W : List Int} (hs : ∀ v ∈ V, v ∈ W) {n : Nat} {a : Int} (h : Pays V n a) : Pays W n a := by
  induction h with
  | zero => exact .zero
  | step _ hv ih => exact .step ih (hs _ hv)

theorem Pays.add {V : List Int} {n m : Nat} {a b : Int} (h : Pays V n a) (k : Pays V m b) : Pays V (n + m) (a + b) := by
  induction k with
  | zero => simpa using h
  | @step m c v _ hv ih =>
    have := Pays.step ih hv
    rw [Int.add_assoc] at this
    exact this

/-- Values: all at least 1. -/
def Pos (V : List Int) : Prop := ∀ v ∈ V, 1 ≤ v

theorem Pays.ge {V : List Int} (hp : Pos V) {n : Nat} {a : Int} (h : Pays V n a) : (n : Int) ≤ a := by
  induction h with
  | zero => simp
  | @step n a v _ hv ih => have := hp v hv; omega

theorem Pays.le {V : List Int} {M : Int} (hM : ∀ v ∈ V, v ≤ M) {n : Nat} {a : Int} (h : Pays V n a) : a ≤ n * M := by
  induction h with
  | zero => simp
  | @step n a v _ hv ih =>
    have := hM v hv
    have e : ((n + 1 : Nat) : Int) * M = n * M + M := by rw [Int.natCast_add, Int.add_mul]; simp
    omega

/-- what the table holds at a: -1: not payable with at most h stamps; else the least number. -/
def Few (h : Int) (V : List Int) (a m : Int) : Prop :=
  (m = -1 ∧ ∀ n : Nat, (n : Int) ≤ h → ¬ Pays V n a) ∨ (∃ k : Nat, m = k ∧ (k : Int) ≤ h ∧ Pays V k a ∧ ∀ n : Nat, n < k → ¬ Pays V n a)

theorem Few.unique {h : Int} {V : List Int} {a m m' : Int} (x : Few h V a m) (y : Few h V a m') : m = m' := by
  rcases x with ⟨rfl, hx⟩ | ⟨k, rfl, hk, hp, hl⟩ <;> rcases y with ⟨rfl, hy⟩ | ⟨k', rfl, hk', hp', hl'⟩
  · rfl
  · exact absurd hp' (hx _ hk')
  · exact absurd hp (hy _ hk)
  · rcases Nat.lt_trichotomy k k' with h1 | h1 | h1
    · exact absurd hp (hl' _ h1)
    · rw [h1]
    · exact absurd hp' (hl _ h1)

theorem Few.ge {h : Int} {V : List Int} {a m : Int} (x : Few h V a m) : -1 ≤ m := by
  rcases x with ⟨rfl, _⟩ | ⟨k, rfl, _⟩ <;> omega
theorem Few.le {h : Int} (h0 : 0 ≤ h) {V : List Int} {a m : Int} (x : Few h V a m) : m ≤ h := by
  rcases x with ⟨rfl, _⟩ | ⟨k, rfl, hk, _⟩ <;> omega
theorem Few.nonneg_iff {h : Int} {V : List Int} {a m : Int} (x : Few h V a m) : 0 ≤ m ↔ ∃ n : Nat, (n : Int) ≤ h ∧ Pays V n a := by
  rcases x with ⟨rfl, hx⟩ | ⟨k, rfl, hk, hp, _⟩
  · constructor
    · intro h; omega
    · rintro ⟨n, h1, h2⟩; exact absurd h2 (hx n h1)
  · constructor
    · intro _; exact ⟨k, hk, hp⟩
    · intro _; omega
theorem Few.zero {h : Int} (h0 : 0 ≤ h) (V : List Int) : Few h V 0 0 := .inr ⟨0, rfl, by simpa using h0, .zero, fun n hn => by omega⟩

/-- The next amount: the least over all values of what is left, and 1. 'best' is the least found in a part of the values. -/
def Cand (h : Int) (V U : List Int) (a best : Int) : Prop :=
  (best = -1 ∧ ∀ v ∈ U, ∀ n : Nat, (n : Int) + 1 ≤ h → ¬ Pays V n (a - v)) ∨
  (∃ k : Nat, best = (k : Int) + 1 ∧ (k : Int) + 1 ≤ h ∧ (∃ v ∈ U, Pays V k (a - v)) ∧ ∀ v ∈ U, ∀ n : Nat, n < k → ¬ Pays V n (a - v))

theorem Cand.nil (h : Int) (V : List Int) (a : Int) : Cand h V [] a (-1) := .inl ⟨rfl, fun v hv => by simp at hv⟩

theorem Cand.few {h : Int} {V : List Int} {a best : Int} (ha : 0 < a) (x : Cand h V V a best) : Few h V a best := by
  rcases x with ⟨rfl, hx⟩ | ⟨k, rfl, hk, ⟨v, hv, hp⟩, hl⟩
  · refine .inl ⟨rfl, fun n hn hp => ?_⟩
    cases n with
    | zero => rw [Pays.zero_iff] at hp; omega
    | succ n => obtain ⟨v, hv, h2⟩ := Pays.succ_iff.1 hp; exact hx v hv n (by omega) h2
  · refine .inr ⟨k + 1, by omega, by omega, Pays.succ_iff.2 ⟨v, hv, hp⟩, fun n hn hp' => ?_⟩
    cases n with
    | zero => rw [Pays.zero_iff] at hp'; omega
    | succ n => obtain ⟨v, hv, h2⟩ := Pays.succ_iff.1 hp'; exact hl v hv n (by omega) h2

/-- one value more: m is the table's number at a - v (where v ≤ a) -/
theorem Cand.skip {h : Int} {V U : List Int} (hp : Pos V) {a best v : Int} (x : Cand h V U a best) (hva : a < v) : Cand h V (U ++ [v]) a best := by
  have key : ∀ n : Nat, ¬ Pays V n (a - v) := fun n hn => by have := hn.ge hp; omega
  rcases x with ⟨rfl, hx⟩ | ⟨k, rfl, hk, ⟨u, hu, hpu⟩, hl⟩
  · refine .inl ⟨rfl, fun u hu n hn => ?_⟩
    rcases List.mem_append.1 hu with hu | hu
    · exact hx u hu n hn
    · simp at hu; subst hu; exact key n
  · refine .inr ⟨k, rfl, hk, ⟨u, by simp [hu], hpu⟩, fun u hu n hn => ?_⟩
    rcases List.mem_append.1 hu with hu | hu
    · exact hl u hu n hn
    · simp at hu; subst hu; exact key n

/-- keep: v brings nothing better -/
theorem Cand.keep {h : Int} {V U : List Int} {a best v m : Int} (x : Cand h V U a best) (hm : Few h V (a - v) m) (hk : m = -1 ∨ h ≤ m ∨ (best ≠ -1 ∧ best ≤ m + 1)) : Cand h V (U ++ [v]) a best := by
  rcases x with ⟨rfl, hx⟩ | ⟨k, rfl, hk', ⟨u, hu, hpu⟩, hl⟩
  · refine .inl ⟨rfl, fun u hu n hn => ?_⟩
    rcases List.mem_append.1 hu with hu | hu
    · exact hx u hu n hn
    · simp at hu; subst hu
      rcases hm with ⟨rfl, hm⟩ | ⟨j, rfl, hj, hpj, hlj⟩
      · exact hm n (by omega)
      · exact hlj n (by omega)
  · refine .inr ⟨k, rfl, hk', ⟨u, by simp [hu], hpu⟩, fun u hu n hn => ?_⟩
    rcases List.mem_append.1 hu with hu | hu
    · exact hl u hu n hn
    · simp at hu; subst hu
      rcases hm with ⟨rfl, hm⟩ | ⟨j, rfl, hj, hpj, hlj⟩
      · exact hm n (by omega)
      · exact hlj n (by omega)

theorem Cand.take {h : Int} {V U : List Int} {a best v m : Int} (x : Cand h V U a best) (hm : Few h V (a - v) m) (h1 : m ≠ -1) (h2 : m < h) (h3 : best = -1 ∨ m + 1 < best) : Cand h V (U ++ [v]) a (m + 1) := by
  rcases hm with ⟨rfl, hm⟩ | ⟨j, rfl, hj, hpj, hlj⟩
  · exact absurd rfl h1
  · refine .inr ⟨j, rfl, by omega, ⟨v, by simp, hpj⟩, fun u hu n hn => ?_⟩
    rcases List.mem_append.1 hu with hu | hu
    · rcases x with ⟨rfl, hx⟩ | ⟨k, rfl, hk', _, hl⟩
      · exact hx u hu n (by omega)
      · exact hl u hu n (by omega)
    · simp at hu; subst hu; exact hlj n hn


/-- number of multisets of k elements of the list S that sum to a -/
def N : List Int → Nat → Int → Nat
  | _, 0, a => if a = 0 then 1 else 0
  | [], _ + 1, _ => 0
  | x :: S, k + 1, a => N S (k + 1) a + N (x :: S) k (a - x)
termination_by S k => (S.length, k)

theorem N_zero (S : List Int) (a : Int) : N S 0 a = if a = 0 then 1 else 0 := by
  cases S <;> simp [N]
theorem N_nil (k : Nat) (a : Int) : N [] (k + 1) a = 0 := by simp [N]
theorem N_cons (x : Int) (S : List Int) (k : Nat) (a : Int) : N (x :: S) (k + 1) a = N S (k + 1) a + N (x :: S) k (a - x) := by
  rw [N]

theorem N_swap (x y : Int) (S : List Int) : ∀ (k : Nat) (a : Int), N (x :: y :: S) k a = N (y :: x :: S) k a
  | 0, a => by simp [N_zero]
  | k + 1, a => by
    have h1 := N_swap x y S k
    rw [N_cons x, N_cons y S k a, N_cons y (x :: S), N_cons x S k a, h1 (a - x)]
    cases k with
    | zero => simp [N_zero]; omega
    | succ j =>
      have h2 := N_swap x y S j
      rw [← h1 (a - x), ← h1 (a - y)]
      rw [h1 (a - x), N_cons y (x :: S) j (a - x), N_cons x (y :: S) j (a - y), h2 (a - y - x)]
      have e : a - y - x = a - x - y := by omega
      rw [e]; omega

theorem N_cons_congr (x : Int) {S T : List Int} (h : ∀ k a, N S k a = N T k a) : ∀ (k : Nat) (a : Int), N (x :: S) k a = N (x :: T) k a
  | 0, a => by simp [N_zero]
  | k + 1, a => by rw [N_cons, N_cons, h, N_cons_congr x h k]

theorem N_perm {S T : List Int} (h : S.Perm T) : ∀ (k : Nat) (a : Int), N S k a = N T k a := by
  induction h with
  | nil => intros; rfl
  | cons x _ ih => exact N_cons_congr x ih
  | swap x y l => exact fun k a => N_swap y x l k a
  | trans _ _ h1 h2 => exact fun k a => (h1 k a).trans (h2 k a)

theorem N_pos_iff (S : List Int) : ∀ (k : Nat) (a : Int), 0 < N S k a ↔ Pays S k a := by
  induction S with
  | nil =>
    intro k a
    cases k with
    | zero => rw [N_zero, Pays.zero_iff]; split <;> simp_all
    | succ k => rw [N_nil, Pays.succ_iff]; simp
  | cons x S ih =>
    intro k
    induction k with
    | zero => intro a; rw [N_zero, Pays.zero_iff]; split <;> simp_all
    | succ k ihk =>
      intro a
      rw [N_cons]
      constructor
      · intro h
        rcases Nat.eq_zero_or_pos (N S (k + 1) a) with h0 | h0
        · have : 0 < N (x :: S) k (a - x) := by omega
          exact Pays.succ_iff.2 ⟨x, by simp, (ihk _).1 this⟩
        · exact ((ih _ _).1 h0).mono (fun v hv => by simp [hv])
      · intro h
        -- either no stamp is x, or one is
        have key : ∀ (k : Nat) (a : Int), Pays (x :: S) k a → Pays S k a ∨ ∃ j, k = j + 1 ∧ Pays (x :: S) j (a - x) := by
          intro k a h
          induction h with
          | zero => exact .inl .zero
          | @step n b v hp hv ih2 =>
            rcases List.mem_cons.1 hv with rfl | hv'
            · exact .inr ⟨n, rfl, by rwa [Int.add_sub_cancel]⟩
            · rcases ih2 with h1 | ⟨j, rfl, h1⟩
              · exact .inl (.step h1 hv')
              · refine .inr ⟨j + 1, rfl, ?_⟩
                have := Pays.step h1 hv
                have e : b - x + v = b + v - x := by omega
                rwa [e] at this
        rcases key _ _ h with h1 | ⟨j, hj, h1⟩
        · have := (ih _ _).2 h1; omega
        · obtain rfl : k = j := by omega
          have := (ihk _).2 h1; omega

/-- all ascending lists of k values, from index 'least' on, that sum to 'left'; the lexicographically greatest first -/
def gen : List Int → Nat → Int → List (List Int)
  | _, 0, a => if a = 0 then [[]] else []
  | [], _ + 1, _ => []
  | x :: S, k + 1, a => gen S (k + 1) a ++ (gen (x :: S) k (a - x)).map (x :: ·)
termination_by S k => (S.length, k)

theorem gen_zero (S : List Int) (a : Int) : gen S 0 a = if a = 0 then [[]] else [] := by cases S <;> simp [gen]
theorem gen_nil (k : Nat) (a : Int) : gen [] (k + 1) a = [] := by simp [gen]
theorem gen_cons (x : Int) (S : List Int) (k : Nat) (a : Int) : gen (x :: S) (k + 1) a = gen S (k + 1) a ++ (gen (x :: S) k (a - x)).map (x :: ·) := by rw [gen]

theorem gen_length (S : List Int) : ∀ (k : Nat) (a : Int), (gen S k a).length = N S k a := by
  induction S with
  | nil => intro k a; cases k with
    | zero => rw [gen_zero, N_zero]; split <;> rfl
    | succ k => rw [gen_nil, N_nil]; rfl
  | cons x S ih =>
    intro k
    induction k with
    | zero => intro a; rw [gen_zero, N_zero]; split <;> rfl
    | succ k ihk => intro a; rw [gen_cons, N_cons, List.length_append, List.length_map, ih, ihk]

theorem gen_ne_nil (S : List Int) (k : Nat) (a : Int) : gen S k a ≠ [] ↔ Pays S k a := by
  rw [← N_pos_iff, ← gen_length, List.length_pos_iff]

theorem gen_mem (S : List Int) : ∀ (k : Nat) (a : Int) (l : List Int), l ∈ gen S k a → l.length = k ∧ l.sum = a ∧ (∀ v ∈ l, v ∈ S) := by
  induction S with
  | nil => intro k a l; cases k with
    | zero => rw [gen_zero]; split <;> simp_all
    | succ k => rw [gen_nil]; simp
  | cons x S ih =>
    intro k
    induction k with
    | zero => intro a l; rw [gen_zero]; split <;> simp_all
    | succ k ihk =>
      intro a l h
      rw [gen_cons, List.mem_append, List.mem_map] at h
      rcases h with h | ⟨t, h, rfl⟩
      · obtain ⟨h1, h2, h3⟩ := ih _ _ _ h
        exact ⟨h1, h2, fun v hv => by simp [h3 v hv]⟩
      · obtain ⟨h1, h2, h3⟩ := ihk _ _ h
        refine ⟨by simp [h1], by simp [h2]; omega, fun v hv => ?_⟩
        rcases List.mem_cons.1 hv with rfl | hv
        · simp
        · exact h3 v hv

/-- ascending: each list of gen is, where S is -/
theorem gen_sorted (S : List Int) (hS : S.Pairwise (· < ·)) : ∀ (k : Nat) (a : Int) (l : List Int), l ∈ gen S k a → l.Pairwise (· ≤ ·) := by
  induction S with
  | nil => intro k a l; cases k with
    | zero => rw [gen_zero]; split <;> simp_all
    | succ k => rw [gen_nil]; simp
  | cons x S ih =>
    rw [List.pairwise_cons] at hS
    intro k
    induction k with
    | zero => intro a l; rw [gen_zero]; split <;> simp_all
    | succ k ihk =>
      intro a l h
      rw [gen_cons, List.mem_append, List.mem_map] at h
      rcases h with h | ⟨t, h, rfl⟩
      · exact ih hS.2 _ _ _ h
      · refine List.pairwise_cons.2 ⟨fun v hv => ?_, ihk _ _ h⟩
        have := (gen_mem _ _ _ _ h).2.2 v hv
        rcases List.mem_cons.1 this with rfl | h1
        · exact Int.le_refl _
        · exact Int.le_of_lt (hS.1 v h1)

/-- ways, as the specification counts them: at most k stamps -/
def W : List Int → Nat → Int → Nat
  | S, 0, a => N S 0 a
  | S, k + 1, a => W S k a + N S (k + 1) a

theorem W_nil (k : Nat) (a : Int) : W [] k a = if a = 0 then 1 else 0 := by
  induction k with
  | zero => rw [W, N_zero]
  | succ k ih => rw [W, ih, N_nil]; rfl
theorem W_cons (x : Int) (S : List Int) (k : Nat) (a : Int) : W (x :: S) (k + 1) a = W S (k + 1) a + W (x :: S) k (a - x) := by
  induction k generalizing a with
  | zero => simp only [W]; rw [N_cons, N_zero, N_zero, N_zero]; omega
  | succ k ih =>
    have e1 : W (x :: S) (k + 1 + 1) a = W (x :: S) (k + 1) a + N (x :: S) (k + 1 + 1) a := rfl
    have e2 : W S (k + 1 + 1) a = W S (k + 1) a + N S (k + 1 + 1) a := rfl
    have e3 : W (x :: S) (k + 1) (a - x) = W (x :: S) k (a - x) + N (x :: S) (k + 1) (a - x) := rfl
    rw [e1, e2, e3, ih, N_cons]
    omega
theorem W_zero (S : List Int) (a : Int) : W S 0 a = if a = 0 then 1 else 0 := by rw [W, N_zero]
theorem W_perm {S T : List Int} (h : S.Perm T) (k : Nat) (a : Int) : W S k a = W T k a := by
  induction k with
  | zero => rw [W, W, N_perm h]
  | succ k ih => rw [W, W, ih, N_perm h]
theorem W_neg {S : List Int} (hp : Pos S) {k : Nat} {a : Int} (ha : a < 0) : W S k a = 0 := by
  have : ∀ j, N S j a = 0 := fun j => by
    rcases Nat.eq_zero_or_pos (N S j a) with h | h
    · exact h
    · have := ((N_pos_iff _ _ _).1 h).ge hp; omega
  induction k with
  | zero => rw [W, this]
  | succ k ih => rw [W, ih, this]
/-- amount 0: one way -/
theorem W_amount_zero {S : List Int} (hp : Pos S) (k : Nat) : W S k 0 = 1 := by
  induction k with
  | zero => rw [W, N_zero]; rfl
  | succ k ih =>
    rw [W, ih]
    have : N S (k + 1) 0 = 0 := by
      rcases Nat.eq_zero_or_pos (N S (k + 1) 0) with h | h
      · exact h
      · have := ((N_pos_iff _ _ _).1 h).ge hp; omega
    rw [this]
theorem W_pos_iff (S : List Int) (k : Nat) (a : Int) : 0 < W S k a ↔ ∃ n, n ≤ k ∧ Pays S n a := by
  induction k with
  | zero => rw [W, N_pos_iff]; constructor
            · intro h; exact ⟨0, Nat.le_refl _, h⟩
            · rintro ⟨n, hn, h⟩; obtain rfl : n = 0 := by omega
              exact h
  | succ k ih =>
    rw [W]
    constructor
    · intro h
      rcases Nat.eq_zero_or_pos (W S k a) with h0 | h0
      · exact ⟨k + 1, Nat.le_refl _, (N_pos_iff _ _ _).1 (by omega)⟩
      · obtain ⟨n, hn, h⟩ := ih.1 h0; exact ⟨n, by omega, h⟩
    · rintro ⟨n, hn, h⟩
      rcases Nat.lt_or_ge k n with h1 | h1
      · obtain rfl : n = k + 1 := by omega
        have := (N_pos_iff _ _ _).2 h; omega
      · have := ih.2 ⟨n, h1, h⟩; omega


/-! mirrored -/
theorem pays_pad {V : List Int} {h : Nat} {a : Int} : Pays (0 :: V) h a ↔ ∃ n, n ≤ h ∧ Pays V n a := by
  constructor
  · intro p
    induction p with
    | zero => exact ⟨0, Nat.le_refl _, .zero⟩
    | @step n b v _ hv ih =>
      obtain ⟨m, hm, hp⟩ := ih
      rcases List.mem_cons.1 hv with rfl | hv
      · exact ⟨m, by omega, by simpa using hp⟩
      · exact ⟨m + 1, by omega, .step hp hv⟩
  · rintro ⟨n, hn, p⟩
    have h1 : ∀ j, Pays (0 :: V) (n + j) a := by
      intro j
      induction j with
      | zero => exact p.mono (fun v hv => by simp [hv])
      | succ j ih => have := Pays.step ih (v := 0) (by simp); simpa [Nat.add_assoc] using this
    have := h1 (h - n)
    rwa [Nat.add_sub_cancel' hn] at this

theorem pays_flip {U U' : List Int} {M : Int} (hc : ∀ v ∈ U, M - v ∈ U') {h : Nat} {a : Int} (p : Pays U h a) : Pays U' h (h * M - a) := by
  induction p with
  | zero => simpa using Pays.zero
  | @step n b v _ hv ih =>
    have := Pays.step ih (hc v hv)
    have e : (n : Int) * M - b + (M - v) = ((n + 1 : Nat) : Int) * M - (b + v) := by
      rw [Int.natCast_add, Int.add_mul]; simp; omega
    rwa [e] at this

/-- V' is the mirror of V with the greatest value M. -/
def IsMirror (V V' : List Int) (M : Int) : Prop := (∀ v ∈ V, v = M ∨ M - v ∈ V') ∧ (∀ v ∈ V', v = M ∨ M - v ∈ V) ∧ M ∈ V ∧ M ∈ V'

theorem mirror_pays {V V' : List Int} {M : Int} (hm : IsMirror V V' M) {h : Nat} {a : Int} :
    (∃ n, n ≤ h ∧ Pays V n a) ↔ (∃ n, n ≤ h ∧ Pays V' n (h * M - a)) := by
  rw [← pays_pad, ← pays_pad]
  have h1 : ∀ {A B : List Int}, (∀ v ∈ A, v = M ∨ M - v ∈ B) → M ∈ B → ∀ v ∈ (0 :: A), M - v ∈ (0 :: B) := by
    intro A B hA hB v hv
    rcases List.mem_cons.1 hv with rfl | hv
    · simp [hB]
    · rcases hA v hv with rfl | h
      · simp
      · simp [h]
  constructor
  · exact fun p => pays_flip (h1 hm.1 hm.2.2.2) p
  · intro p
    have := pays_flip (h1 hm.2.1 hm.2.2.1) p
    have e : (h : Int) * M - (h * M - a) = a := by omega
    rwa [e] at this

/-! counted -/
def sumTo (f : Int → Nat) : Nat → Nat
  | 0 => 0
  | n + 1 => sumTo f n + f n

theorem sumTo_add (f g : Int → Nat) (n : Nat) : sumTo (fun i => f i + g i) n = sumTo f n + sumTo g n := by
  induction n with
  | zero => rfl
  | succ n ih => simp only [sumTo, ih]; omega

theorem sumTo_congr {f g : Int → Nat} {n : Nat} (h : ∀ i : Nat, i < n → f i = g i) : sumTo f n = sumTo g n := by
  induction n with
  | zero => rfl
  | succ n ih => simp only [sumTo]; rw [ih (fun i hi => h i (by omega)), h n (by omega)]

theorem sumTo_shift (g : Int → Nat) (hg : ∀ a < 0, g a = 0) (x : Nat) : ∀ B : Nat, sumTo (fun i => g (i - x)) B = sumTo g (B - x)
  | 0 => by simp [sumTo]
  | B + 1 => by
    rw [sumTo, sumTo_shift g hg x B]
    rcases Nat.lt_or_ge B x with h | h
    · rw [hg _ (by omega)]
      have e1 : B - x = 0 := by omega
      have e2 : B + 1 - x = 0 := by omega
      rw [e1, e2]; rfl
    · have e1 : B + 1 - x = (B - x) + 1 := by omega
      rw [e1, sumTo]
      have e2 : ((B : Int) - (x : Int)) = ((B - x : Nat) : Int) := by omega
      rw [e2]

def tot : Nat → Nat → Nat
  | 0, _ => 1
  | _ + 1, 0 => 1
  | n + 1, h + 1 => tot n (h + 1) + tot (n + 1) h

theorem sumTo_ite_zero (n : Nat) : sumTo (fun a => if a = 0 then 1 else 0) (n + 1) = 1 := by
  induction n with
  | zero => rfl
  | succ n ih =>
    rw [sumTo, ih]
    have : ¬ ((n + 1 : Nat) : Int) = 0 := by omega
    rw [if_neg this]

theorem sum_W (S : List Int) (hp : Pos S) (M : Nat) (hM : ∀ v ∈ S, v ≤ (M : Int)) : ∀ (h B : Nat), h * M < B → sumTo (W S h) B = tot S.length h := by
  induction S with
  | nil =>
    intro h B hB
    obtain ⟨B, rfl⟩ : ∃ b, B = b + 1 := ⟨B - 1, by omega⟩
    have : sumTo (W [] h) (B + 1) = sumTo (fun a => if a = 0 then 1 else 0) (B + 1) := sumTo_congr (fun i _ => W_nil h i)
    rw [this, sumTo_ite_zero]; simp [tot]
  | cons x S ih =>
    have hp' : Pos S := fun v hv => hp v (by simp [hv])
    have hM' : ∀ v ∈ S, v ≤ (M : Int) := fun v hv => hM v (by simp [hv])
    intro h
    induction h with
    | zero =>
      intro B hB
      obtain ⟨B, rfl⟩ : ∃ b, B = b + 1 := ⟨B - 1, by omega⟩
      have : sumTo (W (x :: S) 0) (B + 1) = sumTo (fun a => if a = 0 then 1 else 0) (B + 1) := sumTo_congr (fun i _ => W_zero _ i)
      rw [this, sumTo_ite_zero]; simp [tot]
    | succ h ihh =>
      intro B hB
      have hx1 := hp x (by simp)
      have hx2 := hM x (by simp)
      have e : sumTo (W (x :: S) (h + 1)) B = sumTo (fun a => W S (h + 1) a + W (x :: S) h (a - x.toNat)) B :=
        sumTo_congr (fun i _ => by rw [W_cons]; have : ((x.toNat : Nat) : Int) = x := by omega
                                   rw [this])
      rw [e, sumTo_add, ih hp' hM' _ _ hB, sumTo_shift (fun a => W (x :: S) h a) (fun a ha => W_neg hp ha)]
      rw [ihh (B - x.toNat) (by rw [Nat.succ_mul] at hB; omega)]
      simp [tot]

/-! gen, as the program goes: the values from an index on, the greatest first -/
theorem gen_none_low {S : List Int} {m : Int} (hm : ∀ v ∈ S, m ≤ v) {k : Nat} {a : Int} (h : a < k * m) : gen S k a = [] := by
  rcases hg : gen S k a with _ | ⟨l, t⟩
  · rfl
  · have h1 := (gen_ne_nil S k a).1 (by rw [hg]; simp)
    have : ∀ {n : Nat} {b : Int}, Pays S n b → (n : Int) * m ≤ b := by
      intro n b p
      induction p with
      | zero => simp
      | @step n b v _ hv ih =>
        have := hm v hv
        have e : ((n + 1 : Nat) : Int) * m = n * m + m := by rw [Int.natCast_add, Int.add_mul]; simp
        omega
    have := this h1
    omega
theorem gen_none_high {S : List Int} {M : Int} (hM : ∀ v ∈ S, v ≤ M) {k : Nat} {a : Int} (h : k * M < a) : gen S k a = [] := by
  rcases hg : gen S k a with _ | ⟨l, t⟩
  · rfl
  · have := ((gen_ne_nil S k a).1 (by rw [hg]; simp)).le hM
    omega

end Go.Proofs.Ytcgblpjknkmoaaa.Stamp
