/- slices.Insert of one number into a row of the call's own: the row with the number in its place; nothing that lay below is changed. (The library's four roads, by the shelf's contracts.) -/
import Derived.Test.YtcgblpjknkmoaaaGWith
import Derived.Shelf.Spec.SlicesInsertGrow
import Derived.Lib.EndianMore
namespace Go.Proofs.Ytcgblpjknkmoaaa.B
open Go.RowKit Go.Shelf Go.Lib Go.Proofs
open Go.Proofs.YtcgblpjknkmoaaaW.PrintWords

def insRen : Ren := ⟨fun x => if x = 21 then 57 else if x = 27 then 65 else if x = 28 then 66 else if x = 35 then 68 else 69, fun t => t, fun g => g⟩
theorem insLay : Lays2.n21 Try.prog insRen where
  mixed := by kernel_rfl
  f21 := by kernel_rfl
  f27 := by kernel_rfl
  f28 := by kernel_rfl
  f35 := by kernel_rfl
  f39 := by kernel_rfl
  t0 := by kernel_rfl
  a0 := fun w => by rfl
  z0 := fun w => by rfl
  v0 := fun w => by rfl
  t3 := by kernel_rfl
  a3 := fun w => by rfl
  z3 := fun w => by rfl
  v3 := fun w => by rfl
  t4 := by kernel_rfl
  a4 := fun w => by rfl
  z4 := fun w => by rfl
  v4 := fun w => by rfl
  t22 := by kernel_rfl
  a22 := fun w => by rfl
  z22 := fun w => by rfl
  v22 := fun w => by rfl
  i3 := by kernel_rfl

def ints (l : List Int) : List Value := l.map (Value.int .i64)
theorem ints_get {l : List Int} {j : Nat} {v : Value} (h : (ints l)[j]? = some v) : ∃ hj : j < l.length, v = .int .i64 l[j] := by
  unfold ints at h
  rw [List.getElem?_map, Option.map_eq_some_iff] at h
  obtain ⟨x, hx, rfl⟩ := h
  obtain ⟨hj, rfl⟩ := List.getElem?_eq_some_iff.1 hx
  exact ⟨hj, rfl⟩
theorem ints_at {l : List Int} {j : Nat} (hj : j < (ints l).length) : (ints l)[j] = .int .i64 (rd l (j : Int)) := by
  have h2 : j < l.length := by simpa [ints] using hj
  rw [rd_nat]
  simp [ints, h2]
theorem ints_one (l : List Int) : ∀ v ∈ ints l, v.oneCell' = true := by
  intro v hv
  obtain ⟨x, _, rfl⟩ := List.mem_map.1 hv
  rfl
theorem ins_rd (l : List Int) (x : Int) (i j : Nat) (hi : i ≤ l.length) : rd (l.take i ++ [x] ++ l.drop i) (j : Int) = if j < i then rd l (j : Int) else if j = i then x else rd l ((j - 1 : Nat) : Int) := by
  have e : l.take i ++ [x] ++ l.drop i = l.take i ++ (x :: l.drop i) := by simp
  rw [e, rd_nat, rd_nat, rd_nat]
  rcases Nat.lt_trichotomy j i with h | h | h
  · rw [if_pos h]
    have h2 : j < l.length := by omega
    simp only [List.getD_eq_getElem?_getD]
    rw [List.getElem?_append_left (by simp; omega), List.getElem?_take, if_pos h]
  · subst h
    rw [if_neg (by omega), if_pos rfl]
    simp only [List.getD_eq_getElem?_getD]
    rw [List.getElem?_append_right (by rw [List.length_take]; omega)]
    have : j - (List.take j l).length = 0 := by rw [List.length_take]; omega
    rw [this]; rfl
  · rw [if_neg (by omega), if_neg (by omega)]
    simp only [List.getD_eq_getElem?_getD]
    rw [List.getElem?_append_right (by simp; omega)]
    have h3 : j - (List.take i l).length = (j - 1 - i) + 1 := by rw [List.length_take]; omega
    rw [h3, List.getElem?_cons_succ, List.getElem?_drop]
    congr 2; omega

theorem cell_blk {w : World} {g : Nat} {cur : Array Value} {t : TypeId} (h : w.heap[g]? = some (.cells cur t (0, 0))) (j : Nat) : w.cell? ⟨g, j, none⟩ = cur[j]? := by
  simp [World.cell?, h]
theorem frozen_blk {w : World} {g : Nat} {cur : Array Value} {t : TypeId} (h : w.heap[g]? = some (.cells cur t (0, 0))) (j : Nat) : w.frozen? ⟨g, j, none⟩ = false := by
  simp [World.frozen?, h]

/-- two runs of stores, side by side -/
theorem two_runs {W : World} {b i n : Nat} {l : List Int} {x : Int} (hl : l.length = n) (hi : i ≤ n) (hs : ∀ j, j < n + 1 → (W.cell? ⟨b, j, none⟩).isSome = true) (h0 : ∀ j, j < i → W.cell? ⟨b, j, none⟩ = some (.int .i64 (rd l (j : Int)))) (first : Bool) (j : Nat) (hj : j < n + 1) :
    (if first = true then (W.setCells b (i + 1) ((ints l).drop i)).setCells b i (ints [x]) else (W.setCells b i (ints [x])).setCells b (i + 1) ((ints l).drop i)).cell? ⟨b, j, none⟩ = some (.int .i64 (if j < i then rd l (j : Int) else if j = i then x else rd l ((j - 1 : Nat) : Int))) := by
  have hil : (ints l).length = n := by simp [ints, hl]
  have hx1 : (ints [x]).length = 1 := rfl
  have hdl : ((ints l).drop i).length = n - i := by simp [hil]
  have s1 : ∀ k, k < n + 1 → ((W.setCells b (i + 1) ((ints l).drop i)).cell? ⟨b, k, none⟩).isSome = true := fun k hk => isSome_setCells b _ _ W (fun q hq => hs _ (by omega)) k (hs k hk)
  have s2 : ∀ k, k < n + 1 → ((W.setCells b i (ints [x])).cell? ⟨b, k, none⟩).isSome = true := fun k hk => isSome_setCells b _ _ W (fun q hq => hs _ (by omega)) k (hs k hk)
  have D : ∀ q, (hq : q < ((ints l).drop i).length) → ((ints l).drop i)[q] = .int .i64 (rd l ((i + q : Nat) : Int)) := fun q hq => by
    rw [List.getElem_drop, ints_at]
  have hx0 : 0 < (ints [x]).length := Nat.one_pos
  cases first with
  | true =>
    rw [if_pos rfl]
    rcases Nat.lt_trichotomy j i with h | h | h
    · rw [if_pos h, ← h0 j h, World.cell?_setCells_out b _ _ _ _ (fun _ _ => .inl h), World.cell?_setCells_out b _ _ _ _ (fun _ _ => .inl (by show j < i + 1; omega))]
    · subst h
      rw [if_neg (by omega), if_pos rfl]
      exact World.cell?_setCells_in b (ints [x]) j (W.setCells b (j + 1) ((ints l).drop j)) (fun q hq => s1 _ (by omega)) 0 hx0
    · rw [if_neg (by omega), if_neg (by omega)]
      have hq : j - (i + 1) < ((ints l).drop i).length := by omega
      have e : i + 1 + (j - (i + 1)) = j := by omega
      have e2 : ((i + (j - (i + 1)) : Nat) : Int) = ((j - 1 : Nat) : Int) := by omega
      rw [World.cell?_setCells_out b _ _ _ _ (fun _ _ => .inr (by show i + (ints [x]).length ≤ j; omega))]
      have := World.cell?_setCells_in b ((ints l).drop i) (i + 1) W (fun q hq => hs _ (by omega)) (j - (i + 1)) hq
      rw [e, D _ hq, e2] at this
      exact this
  | false =>
    rw [if_neg (by simp)]
    rcases Nat.lt_trichotomy j i with h | h | h
    · rw [if_pos h, ← h0 j h, World.cell?_setCells_out b _ _ _ _ (fun _ _ => .inl (by show j < i + 1; omega)), World.cell?_setCells_out b _ _ _ _ (fun _ _ => .inl h)]
    · subst h
      rw [if_neg (by omega), if_pos rfl, World.cell?_setCells_out b _ _ _ _ (fun _ _ => .inl (by show j < j + 1; omega))]
      exact World.cell?_setCells_in b (ints [x]) j W (fun q hq => hs _ (by omega)) 0 hx0
    · rw [if_neg (by omega), if_neg (by omega)]
      have hq : j - (i + 1) < ((ints l).drop i).length := by omega
      have e : i + 1 + (j - (i + 1)) = j := by omega
      have e2 : ((i + (j - (i + 1)) : Nat) : Int) = ((j - 1 : Nat) : Int) := by omega
      have := World.cell?_setCells_in b ((ints l).drop i) (i + 1) (W.setCells b i (ints [x])) (fun q hq => s2 _ (by omega)) (j - (i + 1)) hq
      rw [e, D _ hq, e2] at this
      exact this

set_option maxHeartbeats 1000000 in
theorem insert_calls (w : World) (B g cap i : Nat) (l : List Int) (x : Int) (vb : Nat) (hi : i ≤ l.length) (hn : l.length ≤ 1000) (hB : B ≤ w.heap.size)
    (hown : w.ownsRow B 3 1 (.slice (some ⟨g, 0, none⟩) l.length cap) l.length (ints l)) (hvb : w.heap[vb]? = some (.cells #[.int .i64 x] 3 (0, 0))) (hne : vb ≠ g) :
    Calls Try.prog 57 #[.slice (some ⟨g, 0, none⟩) l.length cap, .int .i64 (i : Int), .slice (some ⟨vb, 0, none⟩) 1 1] w fun e w' => ∃ (ad : Addr) (c : Nat), e = .returned (.slice (some ad) (l.length + 1) c) ∧ l.length + 1 ≤ c ∧
      (∀ j : Nat, j < l.length + 1 → w'.cell? (ad.add j) = some (.int .i64 (rd (l.take i ++ [x] ++ l.drop i) (j : Int)))) ∧ Below B w w' := by
  obtain ⟨_, h2⟩ := hown
  rcases h2 with ⟨h, _⟩ | ⟨g', cap', cur, he, hBg, hh, hnc, hmax, hsz, htk⟩
  · cases h
  · obtain ⟨rfl, rfl⟩ : g = g' ∧ cap = cap' := by
      injection he with h1 _ h3
      injection h1 with h1
      injection h1 with h1
      exact ⟨h1, h3⟩
    have hsz' : cur.size = cap := by omega
    have htk' : cur.toList.take l.length = ints l := by simpa using htk
    have hcap : cap ≤ 9223372036854775807 := by simpa [maxLen] using hmax
    have hcur : ∀ j : Nat, j < l.length → cur[j]? = some (.int .i64 (rd l (j : Int))) := fun j hj => by
      have h1 : (ints l)[j]? = cur.toList[j]? := by rw [← htk', List.getElem?_take, if_pos hj]
      have h2 : j < (ints l).length := by simpa [ints] using hj
      rw [List.getElem?_eq_getElem h2, ints_at h2] at h1
      simpa using h1.symm
    have hcell : ∀ j : Nat, j < l.length → w.cell? ⟨g, j, none⟩ = some (.int .i64 (rd l (j : Int))) := fun j hj => by rw [cell_blk hh, hcur j hj]
    have hcs : ∀ j v, (ints l)[j]? = some v → w.cell? ⟨g, 0 + j, none⟩ = some v := fun j v hv => by
      obtain ⟨hj, rfl⟩ := ints_get hv
      rw [Nat.zero_add, hcell j hj, rd_nat]; simp [hj]
    have hvs : ∀ j v, (ints [x])[j]? = some v → w.cell? ⟨vb, 0 + j, none⟩ = some v := fun j v hv => by
      obtain ⟨hj, rfl⟩ := ints_get hv
      have : j = 0 := by simp at hj; exact hj
      subst this
      rw [cell_blk hvb]; rfl
    have hsome : ∀ j, j < cap → (w.cell? ⟨g, j, none⟩).isSome = true := fun j hj => by
      rw [cell_blk hh, Array.getElem?_eq_getElem (by omega)]; rfl
    have hil : (ints l).length = l.length := by simp [ints]
    have hxl : (ints [x]).length = 1 := rfl
    have key : ∀ (ad : Addr) (c : Nat) (w' : World), l.length + 1 ≤ c → (∀ j : Nat, j < l.length + 1 → w'.cell? (ad.add j) = some (.int .i64 (if j < i then rd l (j : Int) else if j = i then x else rd l ((j - 1 : Nat) : Int)))) → Below B w w' →
        ∃ (ad' : Addr) (c' : Nat), Ending.returned (.slice (some ad) (l.length + 1) c) = .returned (.slice (some ad') (l.length + 1) c') ∧ l.length + 1 ≤ c' ∧
        (∀ j : Nat, j < l.length + 1 → w'.cell? (ad'.add j) = some (.int .i64 (rd (l.take i ++ [x] ++ l.drop i) (j : Int)))) ∧ Below B w w' := fun ad c w' h1 h2 h3 =>
      ⟨ad, c, rfl, h1, fun j hj => by rw [ins_rd l x i j hi]; exact h2 j hj, h3⟩
    rcases Nat.lt_or_ge cap (l.length + 1) with hroom | hroom
    · -- no room
      rcases Nat.lt_or_ge i l.length with hlt | hge
      · refine (Any2.slices_Insert_int_grow insLay g 0 l.length cap i vb 0 1 1 (ints l) (ints [x]) w hlt (by omega) hnc hroom (by omega) hil hxl hcs hvs (ints_one _) (ints_one _)).mono ?_
        rintro e w' ⟨rfl, rfl⟩
        have hG := grownCap_ge w (l.length + 1) cap (insRen.t 3)
        generalize grownCap w (l.length + 1) cap (insRen.t 3) = G at *
        obtain ⟨ROW, hROW⟩ : ∃ ROW : Array Value, ((ints l).take i).toArray ++ Builtin.zeroCells (Value.int .i64 0).cells (l.length + 1 - i) ++ Builtin.zeroCells (Value.int .i64 0).cells (G - (l.length + 1)) = ROW := ⟨_, rfl⟩
        have hRs : l.length + 1 ≤ ROW.size := by rw [← hROW]; simp [Builtin.zeroCells, Value.cells, ints]; omega
        have hR0 : ∀ j, j < i → ROW[j]? = some (.int .i64 (rd l (j : Int))) := fun j hj => by
          have h2 : j < (ints l).length := by rw [hil]; omega
          have h3 : j < (((ints l).take i).toArray).size := by simp [ints]; omega
          rw [← hROW, Array.getElem?_append_left (by simp [ints]; omega), Array.getElem?_append_left h3]
          simp only [List.getElem?_toArray, List.getElem?_take]
          rw [if_pos hj, List.getElem?_eq_getElem h2, ints_at h2]
        rw [hROW]
        have hc1 : ∀ j, (w.alloc (.cells ROW (insRen.t 3))).drew.cell? ⟨w.heap.size, j, none⟩ = ROW[j]? := fun j => World.cell?_alloc_at (w := w) ROW (insRen.t 3) w.heap.size j rfl
        have hs1 : ∀ j, j < l.length + 1 → ((w.alloc (.cells ROW (insRen.t 3))).drew.cell? ⟨w.heap.size, j, none⟩).isSome = true := fun j hj => by
          rw [hc1, Array.getElem?_eq_getElem (by omega)]; rfl
        have hb1 : Below B w (w.alloc (.cells ROW (insRen.t 3))).drew := below_drew ((Below.refl B w).alloc hB _)
        obtain ⟨W1, hW1⟩ : ∃ W1, (w.alloc (.cells ROW (insRen.t 3))).drew = W1 := ⟨_, rfl⟩
        rw [hW1] at hc1 hs1 hb1 ⊢
        rw [← drew_setCells]
        refine key ⟨w.heap.size, 0, none⟩ _ _ hG (fun j hj => ?_) ?_
        · rw [Addr.add_lit, Nat.zero_add]
          exact two_runs (x := x) rfl hi hs1 (fun j hj => by rw [hc1, hR0 j hj]) false j hj
        · exact below_drew (hb1.trans (((below_setCells_w hB _ _ _).trans (below_setCells_w hB _ _ _))))
      · obtain rfl : i = l.length := by omega
        refine (Any2.slices_Insert_int_end_grow insLay (some ⟨g, 0, none⟩) l.length cap vb 0 1 1 (ints l) (ints [x]) w (by omega) hnc hroom (by omega) hil hxl (fun h => by cases h) (fun a ha j v hv => by cases ha; rw [Addr.add_lit]; exact hcs j v hv) hvs (ints_one _)).mono ?_
        rintro e w' ⟨rfl, rfl⟩
        have hG := grownCap_ge w (l.length + 1) cap (insRen.t 3)
        generalize grownCap w (l.length + 1) cap (insRen.t 3) = G at *
        refine key ⟨w.heap.size, 0, none⟩ _ _ hG (fun j hj => ?_) (((Below.refl B w).drew).alloc hB _)
        rw [Addr.add_lit, Nat.zero_add]
        have hj2 : j < (ints l ++ ints [x]).length := by simp [ints]; omega
        have hj3 : j < ((ints l ++ ints [x]).toArray).size := by simpa using hj2
        have := World.cell?_alloc_at (w := w.drew) ((ints l ++ ints [x]).toArray ++ Builtin.zeroCells (Value.int .i64 0).cells (G - (l.length + 1))) (insRen.t 3) w.heap.size j rfl
        rw [this, Array.getElem?_append_left hj3]
        simp only [List.getElem?_toArray]
        rcases Nat.lt_or_ge j l.length with h | h
        · rw [if_pos h, List.getElem?_append_left (by rw [hil]; exact h), List.getElem?_eq_getElem (by rw [hil]; exact h), ints_at]
        · obtain rfl : j = l.length := by omega
          rw [if_neg (by omega), if_pos rfl, List.getElem?_append_right (by rw [hil]; omega), hil, Nat.sub_self]; rfl
    · -- room
      have hfz : ∀ j, j < l.length + 1 → w.frozen? ⟨g, 0 + j, none⟩ = false := fun j _ => frozen_blk hh _
      rcases Nat.lt_or_ge i l.length with hlt | hge
      · refine (Any2.slices_Insert_int_shift insLay g 0 l.length cap i vb 0 1 1 (ints l) (ints [x]) w hlt (by omega) hroom hcap hne hil hxl hcs (fun j hj => by rw [Nat.zero_add]; exact hsome j (by omega)) hfz hvs (ints_one _) (ints_one _)
          3 3 1 cap (by simp [World.shape?, hvb]) (by simp [World.shape?, hh, hsz']) (by omega) (frozen_blk hvb _) (frozen_blk hvb _)).mono ?_
        rintro e w' ⟨rfl, rfl⟩
        rw [Nat.zero_add, Nat.zero_add]
        refine key ⟨g, 0, none⟩ _ _ hroom (fun j hj => ?_) ?_
        · rw [Addr.add_lit, Nat.zero_add]
          exact two_runs (W := w.drew) (x := x) rfl hi (fun j hj => hsome j (by omega)) (fun j hj => hcell j (by omega)) true j hj
        · exact ((Below.refl B w).drew).trans ((below_setCells_w hBg _ _ _).trans (below_setCells_w hBg _ _ _))
      · obtain rfl : i = l.length := by omega
        refine (Any2.slices_Insert_int_end_room insLay g 0 l.length cap vb 0 1 1 (ints [x]) w (by omega) hroom hcap hxl (fun j hj => hsome _ (by omega)) (fun j hj => frozen_blk hh _) hvs (ints_one _)).mono ?_
        rintro e w' ⟨rfl, rfl⟩
        rw [Nat.zero_add]
        refine key ⟨g, 0, none⟩ _ _ hroom (fun j hj => ?_) (below_setCells_w hBg _ _ _)
        rw [Addr.add_lit, Nat.zero_add]
        rcases Nat.lt_or_ge j l.length with h | h
        · rw [if_pos h, World.cell?_setCells_out g _ _ _ _ (fun _ _ => .inl h)]; exact hcell j h
        · obtain rfl : j = l.length := by omega
          rw [if_neg (by omega), if_pos rfl]
          exact World.cell?_setCells_in g (ints [x]) l.length w (fun q hq => hsome _ (by omega)) 0 (show 0 < (ints [x]).length from Nat.one_pos)

end Go.Proofs.Ytcgblpjknkmoaaa.B
