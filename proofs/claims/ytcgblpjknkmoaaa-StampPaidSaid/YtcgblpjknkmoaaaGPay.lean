/- stamp.Pay: what it returns, in new memory. -/
import Derived.Test.YtcgblpjknkmoaaaGLists
import Derived.Test.YtcgblpjknkmoaaaGMirrored
import Derived.Test.YtcgblpjknkmoaaaB2
import Derived.Test.YtcgblpjknkmoaaaGBase
namespace Go.Proofs.Ytcgblpjknkmoaaa.B
open Go.RowKit Go.Shelf Go.Proofs.YtcgblpjknkmoaaaW.PrintWords Go.Proofs.YtcgblpjknkmoaaaW.PrintLast Go.Proofs.YtcgblpjknkmoaaaW.PrintMore
open Go.Proofs Go.Proofs.Ytcgblpjknkmoaaa.G Go.Proofs.Ytcgblpjknkmoaaa.Stamp
attribute [local go_sem] Oper.semAt_some

def stamp_Pay.f (a0 : Int) (l1 : List Int) (a2 : Int) : Option (List Int × Int) := some (payV a0 l1 a2)

theorem fewV_payV {h : Int} {V : List Int} {a : Int} (e : askedErr h V a = 0) : (fewV h V a = -1 ∧ payV h V a = ([], 10)) ∨
    ∃ k : Nat, fewV h V a = k ∧ (k : Int) ≤ h ∧ gen V k a ≠ [] ∧ payV h V a = ((gen V k a).headD [], 0) := by
  have hp : (fun n => decide (0 < N V n a)) = (fun n => !(gen V n a).isEmpty) := by
    funext n
    rw [← gen_length]
    cases gen V n a <;> simp
  unfold fewV payV
  rw [if_pos e, hp]
  cases hf : (List.range (h.toNat + 1)).find? (fun n => !(gen V n a).isEmpty) with
  | none => exact .inl ⟨rfl, rfl⟩
  | some k =>
    refine .inr ⟨k, rfl, ?_, ?_, rfl⟩
    · have h1 := List.mem_of_find?_eq_some hf
      have h2 : 1 ≤ h := (asked_tick e).1.h1
      simp at h1; omega
    · have h1 := List.find?_some hf
      intro h2; rw [h2] at h1; simp at h1

set_option maxHeartbeats 4000000 in
set_option maxRecDepth 100000 in
theorem pay_err (a0 : Int) (A1 : Option Addr) (c1 : Nat) (l1 : List Int) (a2 : Int) (w : World) (hr1 : Kd.C (Kd.int .i64) w A1 l1.length l1) (hc1 : l1.length ≤ c1) (he : askedErr a0 l1 a2 ≠ 0) :
    Calls Try.prog 17 #[.int .i64 a0, .slice A1 l1.length c1, .int .i64 a2] w fun e w' => ∃ v0_ : Value, e = .returned (.tuple #[v0_, .int .i64 (askedErr a0 l1 a2)]) ∧ Kd.R (Kd.int .i64) 3 w' w.heap.size (fun _ => True) v0_ [] ∧ Below w.heap.size w w' := by
  have hasked := asked_f a0 l1 a2 7 (Nat.le_refl _)
  generalize askedErr a0 l1 a2 = ev at *
  have HA := Lib.hid hasked
  have HR := Lib.hid hr1
  have HC := Lib.hid hc1
  have e1 : (ev == 0) = false := by simp [he]
  have e2 : (ev != 0) = true := by simp [he]
  clear hasked hr1 hc1 he
  go_enter Try.func17, Try.ntmps17
  go_wp2_with (go_at_call 40; refine (stamp_asked.calls 7 a0 A1 c1 l1 a2 ev _ (Kd.C_alloc (Kd.C_alloc HR.out _) _) HC.out HA.out).mono ?_; rintro e w' ⟨rfl, ⟨nd, rfl⟩⟩)
  refine bodyPost_ret (v := .tuple #[.slice none 0 0, .int .i64 ev]) (by simp [results, Try.f17, go_sem]) rfl ⟨_, rfl, Kd.R_nil _ _ _ _ _, ?_⟩
  exact ((pw_below_drewN (((Below.refl _ w).alloc (Nat.le_refl _) _).alloc (by simp) _) nd).setCell (p := ⟨w.heap.size, 0, none⟩) (Nat.le_refl _) _).setCell (p := ⟨w.heap.size + 1, 0, none⟩) (Nat.le_succ _) _

/-- what the table of the fewest hands out -/
theorem tab_at {w : World} {h : Int} {V : List Int} {a : Int} {base : Nat} {v : Value} (hr : Kd.R (Kd.int .i64) 3 w base (fun _ => True) v (tab h V)) (ha : 0 ≤ a) (hb : a ≤ h * lastV V) (hd : h * lastV V ≤ 1200) :
    ∃ ad c, v = .slice (some ad) (tab h V).length c ∧ a < (tab h V).length ∧ (tab h V).length ≤ 1201 ∧ w.cell? (ad.add a.toNat) = some (.int .i64 (fewV h V a)) := by
  have hl := tab_length h V
  have hlt : a < (tab h V).length := by omega
  obtain ⟨inner, ho⟩ := Kd.R_own hr
  obtain ⟨A, c, rfl⟩ := own_slice ho
  have hC := (Kd.R_reads' hr).2.2
  obtain ⟨ad, rfl, hx⟩ := Kd.at_int hC a ha hlt
  rw [rd_tab ha hb] at hx
  exact ⟨ad, c, rfl, hlt, by omega, hx⟩

set_option maxHeartbeats 4000000 in
set_option maxRecDepth 100000 in
theorem pay_none (a0 : Int) (A1 : Option Addr) (c1 : Nat) (l1 : List Int) (a2 : Int) (w : World) (hr1 : Kd.C (Kd.int .i64) w A1 l1.length l1) (hc1 : l1.length ≤ c1) (he : askedErr a0 l1 a2 = 0) (hf : fewV a0 l1 a2 = -1) :
    Calls Try.prog 17 #[.int .i64 a0, .slice A1 l1.length c1, .int .i64 a2] w fun e w' => ∃ v0_ : Value, e = .returned (.tuple #[v0_, .int .i64 10]) ∧ Kd.R (Kd.int .i64) 3 w' w.heap.size (fun _ => True) v0_ [] ∧ Below w.heap.size w w' := by
  obtain ⟨tk, h0, h1⟩ := asked_tick he
  have ht := tk.top
  have hasked := asked_f a0 l1 a2 7 (Nat.le_refl _)
  rw [he] at hasked
  have HA := Lib.hid hasked
  have HF := Lib.hid (fewest_f tk 10000 (Nat.le_refl _))
  have HR := Lib.hid hr1
  have HC := Lib.hid hc1
  have HH := Lib.hid (⟨h1, ht.2, hf⟩ : _ ∧ _ ∧ _)
  clear hasked hr1 hc1 he tk h1 ht hf
  go_enter Try.func17, Try.ntmps17
  go_wp2_with (first
    | (go_at_call 40; refine (stamp_asked.calls 7 a0 A1 c1 l1 a2 0 _ (Kd.C_alloc (Kd.C_alloc HR.out _) _) HC.out HA.out).mono ?_; rintro e w1 ⟨rfl, hd⟩; have HD := Lib.hid (drawn_facts hd); clear hd; have b1 := ((Boxed.new w 22 (.slice none 0 0)).alloc (.cells #[.int .i64 0] 24)); have b2 := Boxed.new (w.alloc (.cells #[.slice none 0 0] 22)) 24 (.int .i64 0); simp only [World.size_alloc] at b2; have B1 := Lib.hid ((HD.out.1.block _ b1.lt).trans b1); have B2 := Lib.hid ((HD.out.1.block _ b2.lt).trans b2); clear b1 b2)
    | (go_at_call 41; refine (stamp_fewest.calls 10000 a0 A1 c1 l1 (tab a0 l1) w1 (Kd.C_below (Kd.C_alloc (Kd.C_alloc HR.out _) _) HD.out.1) HC.out HF.out).mono ?_; rintro e w2 ⟨v0, rfl, hR, hB⟩; obtain ⟨adt, ct, rfl, hlt, hl2, hx⟩ := tab_at hR h0 HH.out.1 HH.out.2.1; rw [HH.out.2.2] at hx; generalize (tab a0 l1).length = tl at *; have HB := Lib.hid hB; have c6 := (show Boxed w2 w.heap.size 22 (.slice none 0 0) from (hB.block _ (show w.heap.size < w1.heap.size from Boxed.lt B1.out)).trans B1.out); have c7 := (show Boxed w2 (w.heap.size + 1) 24 (.int .i64 0) from (hB.block _ (show w.heap.size + 1 < w1.heap.size from Boxed.lt B2.out)).trans B2.out); have e6 := c6.cell; have e7 := c7.cell; have f6 := c6.frozen; have f7 := c7.frozen; clear hB hR c6 c7))
  refine bodyPost_ret (v := .tuple #[.slice none 0 0, .int .i64 10]) (by simp [results, Try.f17, go_sem, *]) rfl ⟨_, rfl, Kd.R_nil _ _ _ _ _, ?_⟩
  have hb1 : Below w.heap.size w w1 := (((Below.refl _ w).alloc (Nat.le_refl _) _).alloc (by simp) _).trans (HD.out.1.mono (by simp; omega))
  exact ((hb1.trans (HB.out.mono hb1.size)).setCell (p := ⟨w.heap.size, 0, none⟩) (Nat.le_refl _) _).setCell (p := ⟨w.heap.size + 1, 0, none⟩) (Nat.le_succ _) _

set_option maxHeartbeats 4000000 in
set_option maxRecDepth 100000 in
theorem pay_some (a0 : Int) (A1 : Option Addr) (c1 : Nat) (l1 : List Int) (a2 : Int) (m : Nat) (w : World) (hr1 : Kd.C (Kd.int .i64) w A1 l1.length l1) (hc1 : l1.length ≤ c1) (he : askedErr a0 l1 a2 = 0) (hf : fewV a0 l1 a2 = m) (hm : (m : Int) ≤ a0) (hg : gen l1 m a2 ≠ []) :
    Calls Try.prog 17 #[.int .i64 a0, .slice A1 l1.length c1, .int .i64 a2] w fun e w' => ∃ v0_ : Value, e = .returned (.tuple #[v0_, .int .i64 0]) ∧ Kd.R (Kd.int .i64) 3 w' w.heap.size (fun _ => True) v0_ ((gen l1 m a2).headD []) ∧ Below w.heap.size w w' := by
  obtain ⟨tk, h0, h1⟩ := asked_tick he
  have ht := tk.top
  have ht6 := tk.h6
  have hasked := asked_f a0 l1 a2 7 (Nat.le_refl _)
  rw [he] at hasked
  obtain ⟨ad, rfl, hcells⟩ : ∃ ad, A1 = some ad ∧ ∀ j : Nat, j < l1.length → w.cell? (ad.add j) = some (.int .i64 (rd l1 (j : Int))) := by
    obtain ⟨ad, e, _⟩ := hr1.2.2 tk.pos
    refine ⟨ad, e, fun j hj => ?_⟩
    obtain ⟨ad', e', hx⟩ := Kd.at_int hr1 (j : Int) (by omega) (by omega)
    rw [e] at e'; cases e'
    simpa using hx
  have hadw : ad.block < w.heap.size := by
    have := World.block_lt_of_cell? w _ (hcells 0 tk.pos); rwa [G.add_block] at this
  have HA := Lib.hid hasked
  have HF := Lib.hid (fewest_f tk 10000 (Nat.le_refl _))
  have HR := Lib.hid hr1
  have HC := Lib.hid hc1
  have HH := Lib.hid (⟨h1, ht.2, hf⟩ : _ ∧ _ ∧ _)
  have HT := Lib.hid tk
  have HG := Lib.hid hg
  have HCE := Lib.hid hcells
  have hm6 : m ≤ 6 := by omega
  have hmb : ((m : Int) != -1) = true := by simp
  have h1200 : a2 ≤ 1200 := by omega
  clear hasked hr1 hc1 he tk h1 ht hf hg hcells
  refine (callsIn_wide (n := 10)).1 ?_
  refine callsIn_of_wp_marks Try.func17 rfl trivial ?_ rfl
  simp only [Try.ntmps17, List.size_toArray, List.length_cons, List.length_nil, Nat.reduceAdd, Nat.reduceSub, Array.replicate_succ, Array.replicate_zero, List.push_toArray, List.append_toArray, List.nil_append, List.cons_append]
  gi_wp2_with (first
    | (refine ⟨trivial, ?_⟩; gi_at_call 40; refine (callsIn_wide.2 (stamp_asked.calls 7 a0 (some ad) c1 l1 a2 0 _ (Kd.C_alloc (Kd.C_alloc HR.out _) _) HC.out HA.out)).mono ?_; rintro e w1 ⟨rfl, hd⟩; have HD := Lib.hid (drawn_facts hd); clear hd; have b1 := ((Boxed.new w 22 (.slice none 0 0)).alloc (.cells #[.int .i64 0] 24)); have b2 := Boxed.new (w.alloc (.cells #[.slice none 0 0] 22)) 24 (.int .i64 0); simp only [World.size_alloc] at b2; have B1 := Lib.hid ((HD.out.1.block _ b1.lt).trans b1); have B2 := Lib.hid ((HD.out.1.block _ b2.lt).trans b2); clear b1 b2)
    | (refine ⟨trivial, ?_⟩; gi_at_call 41; refine (callsIn_wide.2 (stamp_fewest.calls 10000 a0 (some ad) c1 l1 (tab a0 l1) w1 (Kd.C_below (Kd.C_alloc (Kd.C_alloc HR.out _) _) HD.out.1) HC.out HF.out)).mono ?_; rintro e w2 ⟨v0, rfl, hR, hB⟩; obtain ⟨adt, ct, rfl, hlt, hl2, hx⟩ := tab_at hR h0 HH.out.1 HH.out.2.1; rw [HH.out.2.2] at hx; generalize (tab a0 l1).length = tl at *; have HB := Lib.hid hB; have C6 := Lib.hid (show Boxed w2 w.heap.size 22 (.slice none 0 0) from (hB.block _ (show w.heap.size < w1.heap.size from Boxed.lt B1.out)).trans B1.out); have C7 := Lib.hid (show Boxed w2 (w.heap.size + 1) 24 (.int .i64 0) from (hB.block _ (show w.heap.size + 1 < w1.heap.size from Boxed.lt B2.out)).trans B2.out); clear hB hR)
    | (refine ⟨trivial, ?_⟩; gi_at_call 42; refine (lists_in 9 _ _ _ _ _ _).mono ?_; rintro e w' ⟨rfl, rfl⟩))
  have hw1 : Below w.heap.size w w1 := (((Below.refl _ w).alloc (Nat.le_refl _) _).alloc (by simp) _).trans (HD.out.1.mono (by simp; omega))
  have hw2 : Below w.heap.size w w2 := hw1.trans (HB.out.mono hw1.size)
  have hw2s : w.heap.size + 2 ≤ w2.heap.size := by have h1 := HB.out.size; have h2 := HD.out.2.1; simp at h2; omega
  have hi := lin_start (w := w2) (c := c1) (m := m) (amount := a2) HT.out.asc HT.out.pos HT.out.len HC.out hm6 h0 h1200 (fun j hj => (World.cell?_of_block (by rw [G.add_block]; exact hw2.block _ hadw)).trans (HCE.out j hj))
  have hWb : Below w2.heap.size w2 (((w2.alloc (.cells #[.slice (some ad) l1.length c1] 22)).alloc (.cells #[.int .i64 (m : Int)] 3)).alloc (.cells #[.int .i64 a2] 3)) := (((Below.refl _ w2).alloc (Nat.le_refl _) _).alloc (by simp) _).alloc (by simp; omega) _
  have hW0s : (((w2.alloc (.cells #[.slice (some ad) l1.length c1] 22)).alloc (.cells #[.int .i64 (m : Int)] 3)).alloc (.cells #[.int .i64 a2] 3)).heap.size = w2.heap.size + 3 := by simp
  have c60 := (hWb.block _ (show w.heap.size < w2.heap.size by omega)).trans C6.out
  have c70 := (hWb.block _ (show w.heap.size + 1 < w2.heap.size by omega)).trans C7.out
  have hw0 : Below w.heap.size w _ := hw2.trans (hWb.mono (by omega))
  generalize hW0 : ((w2.alloc (.cells #[.slice (some ad) l1.length c1] 22)).alloc (.cells #[.int .i64 (m : Int)] 3)).alloc (.cells #[.int .i64 a2] 3) = W0 at *
  clear hW0
  refine wpIn_rangeFunc_lists hi rfl
    (fun pre W => pre = [] ∧ Boxed W w.heap.size 22 (.slice none 0 0) ∧ Boxed W (w.heap.size + 1) 24 (.int .i64 0) ∧ Below w.heap.size w W)
    (fun t q W => ∃ x v, q = [x] ∧ Boxed W w.heap.size 22 v ∧ Boxed W (w.heap.size + 1) 24 (.int .i64 0) ∧ W.ownsRow t 3 1 v x.length (x.map (Value.int .i64)) ∧ w.heap.size ≤ t ∧ Below w.heap.size w W)
    (fun ys A B ⟨h1, h2, h3, h4⟩ hb => ⟨h1, (hb.block _ (by omega)).trans h2, (hb.block _ (by omega)).trans h3, h4.trans (hb.mono (by omega))⟩)
    (fun t ys A B ⟨x, v, h1, h2, h3, h4, h5, h6⟩ hb => ⟨x, v, h1, (hb.1.block _ (by omega)).trans h2, (hb.1.block _ (by omega)).trans h3,
      own_move h4 (fun k e => by obtain ⟨cells, hc⟩ := own_typed h4 k e; exact (hb.2 k _ (own_base h4 k e) hc rfl).trans hc.symm), h5, h6.trans (hb.1.mono (by omega))⟩)
    ⟨rfl, c60, c70, hw0⟩
    (fun v => { tmps := #[.int .i64 a0, .slice (some ad) l1.length c1, .int .i64 a2, undef, undef, undef, .pointer (some ⟨w.heap.size, 0, none⟩), .pointer (some ⟨w.heap.size + 1, 0, none⟩), .int .i64 0, .int .i64 m, v, .int .i64 a0, .slice (some ad) l1.length c1, .int .i64 a2, .int .i64 0, .int .i64 0, .bool false, undef, .int .i64 a0, .slice (some ad) l1.length c1, .slice (some adt) tl ct, .int .i64 a2, .pointer (some (adt.add a2.toNat)), .int .i64 m, .int .i64 m, .bool true, .slice (some ad) l1.length c1, .int .i64 m, .int .i64 a2, .func (.func 59) #[] #[.pointer (some ⟨w2.heap.size + 1, 0, none⟩), .pointer (some ⟨w2.heap.size, 0, none⟩), .pointer (some ⟨w2.heap.size + 1 + 1, 0, none⟩)], v, undef, undef], defers := [] }) ?assign ?body ?done ?stop
  case assign =>
    intro k l v W K hK
    gi_wp2
    exact hK
  case body =>
    rintro k l pre x v W ⟨rfl, h6, h7, hb⟩ hx hrow
    obtain ⟨A, cap, rfl⟩ := own_slice hrow
    have hR : Kd.R (Kd.int .i64) 3 W W0.heap.size (fun _ => True) (.slice A x.length cap) x := Kd.R_of_own hrow (fun _ _ => trivial)
    have hcl := clone_calls A cap x W (Kd.R_reads' hR).2.2 (Kd.R_reads' hR).2.1 (by omega)
    have HCL := Lib.hid hcl
    have H6 := Lib.hid h6
    have H7 := Lib.hid h7
    have HBW := Lib.hid hb
    have hWs : w.heap.size + 2 ≤ W.heap.size := by have : w.heap.size + 1 < W.heap.size := h7.lt; omega
    have HX := Lib.hid hx
    clear hR hcl h6 h7 hb hrow hx
    gi_wp2_with (refine ⟨trivial, fun h => absurd h (by simp [Fence.wide]), ?_⟩; gi_at_call 43; refine (CallsIn.inRound l ((callsIn_wide (n := k - 1)).2 HCL.out)).mono ?_; rintro e W2 ⟨v2, rfl, hR2, hB2⟩; have ho2 : W2.ownsRow W.heap.size 3 1 v2 x.length (x.map (Value.int .i64)) := Kd.own_of_R hR2; obtain ⟨A2, cap2, rfl⟩ := own_slice ho2; have HR2 := Lib.hid ho2; have HB2 := Lib.hid hB2; have b6 := (show Boxed W2 w.heap.size 22 _ from (hB2.block _ (by omega)).trans H6.out); have b7 := (show Boxed W2 (w.heap.size + 1) 24 _ from (hB2.block _ (by omega)).trans H7.out); have e6 := b6.cell; have f6 := b6.frozen; have b72 := b7.other (B' := w.heap.size) (by omega) (.slice A2 x.length cap2); have e7 := b72.cell; have f7 := b72.frozen; have Q6 := Lib.hid ((b6.set (.slice A2 x.length cap2)).other (B' := w.heap.size + 1) (by omega) (.int .i64 0)); have Q7 := Lib.hid (b72.set (.int .i64 0)); clear b6 b7 b72 hR2 hB2 ho2)
    have hk : ∀ j, j < W.heap.size → j ≠ w.heap.size → j ≠ w.heap.size + 1 → ((W2.setCell ⟨w.heap.size, 0, none⟩ (.slice A2 x.length cap2)).setCell ⟨w.heap.size + 1, 0, none⟩ (.int .i64 0)).heap[j]? = W.heap[j]? := fun j hj n1 n2 =>
      (Below.heap_setCell _ ⟨w.heap.size + 1, 0, none⟩ _ j n2).trans ((Below.heap_setCell _ ⟨w.heap.size, 0, none⟩ _ j n1).trans (HB2.out.block j hj))
    refine ⟨⟨by have := HB2.out.size; simpa using this, fun j hj ho => hk j hj (by omega) (by omega)⟩, x, _, rfl, Q6.out, Q7.out, ?_, by omega, ?_⟩
    · refine own_move HR2.out (fun j e => ?_)
      have hj := own_base HR2.out j e
      exact (Below.heap_setCell _ ⟨w.heap.size + 1, 0, none⟩ _ j (show j ≠ w.heap.size + 1 by omega)).trans (Below.heap_setCell _ ⟨w.heap.size, 0, none⟩ _ j (show j ≠ w.heap.size by omega))
    · exact ((HBW.out.trans (HB2.out.mono HBW.out.size)).setCell (p := ⟨w.heap.size, 0, none⟩) (Nat.le_refl _) _).setCell (p := ⟨w.heap.size + 1, 0, none⟩) (Nat.le_succ _) _
  case done =>
    rintro D W hD ⟨h, -, -, -⟩
    exact absurd h HG.out
  case stop =>
    rintro D t q W hD hq hq0 ⟨x, v, rfl, h6, h7, hrow, ht, hb⟩ hK
    have hne : ∀ k : Nat, (∃ (t : TypeId) (cs : Array Value) (z : Nat × Nat), W.heap[k]? = some (.cells cs t z)) → k ≠ D := fun k ⟨t, cs, z, hc⟩ e => by
      subst e; rw [hK] at hc; cases hc
    have e6 := (show Boxed (W.putObj D (.deferred none)) w.heap.size 22 v from (World.putObj_heap_other (hne _ ⟨_, _, _, h6⟩)).trans h6).cell
    have e7 := (show Boxed (W.putObj D (.deferred none)) (w.heap.size + 1) 24 (.int .i64 0) from (World.putObj_heap_other (hne _ ⟨_, _, _, h7⟩)).trans h7).cell
    have HROW := Lib.hid (ownsRow_putObj (own_weaken hrow ht) (.deferred none) hK rfl)
    have HBD := Lib.hid (hb.trans ((belowK_b (w := W0) (Nat.le_refl _) W D _ (.deferred none) hD hK rfl rfl).mono hw0.size))
    have HQ := Lib.hid hq
    have HKK := Lib.hid hK
    clear h6 h7 hrow hb hq hK hne
    gi_wp2
    refine ⟨by simp, .inl ⟨_, _, rfl, run_takeDeferred HKK.out, ?_⟩⟩
    refine ⟨.tuple #[v, .int .i64 0], by simp [results, Try.f17, go_sem, e6, e7], v, rfl, ?_, HBD.out⟩
    have e1 : (gen l1 m a2).headD [] = x := by
      obtain ⟨z, hz⟩ := HQ.out
      rw [← hz]; rfl
    rw [e1]
    exact Kd.R_of_own HROW.out (fun _ _ => trivial)

theorem stamp_Pay.calls (a0 : Int) (A1 : Option Addr) (c1 : Nat) (l1 : List Int) (a2 : Int) (r1 : List Int) (r2 : Int) (w : World) (hr1 : Kd.C (Kd.int .i64) w A1 l1.length l1) (hc1 : l1.length ≤ c1) (h : stamp_Pay.f a0 l1 a2 = some (r1, r2)) :
    Calls Try.prog 17 #[.int .i64 a0, .slice A1 l1.length c1, .int .i64 a2] w fun e w' => ∃ v0_ : Value, e = .returned (.tuple #[v0_, .int .i64 r2]) ∧ Kd.R (Kd.int .i64) 3 w' w.heap.size (fun _ => True) v0_ r1 ∧ Below w.heap.size w w' := by
  unfold stamp_Pay.f at h
  have h := Option.some.inj h
  by_cases he : askedErr a0 l1 a2 = 0
  · rcases fewV_payV he with ⟨h1, h2⟩ | ⟨m, h1, h2, h3, h4⟩
    · rw [h2] at h; cases h
      exact pay_none a0 A1 c1 l1 a2 w hr1 hc1 he h1
    · rw [h4] at h; cases h
      exact pay_some a0 A1 c1 l1 a2 m w hr1 hc1 he h1 h2 h3
  · have h2 : payV a0 l1 a2 = ([], askedErr a0 l1 a2) := by unfold payV; rw [if_neg he]
    rw [h2] at h; cases h
    exact pay_err a0 A1 c1 l1 a2 w hr1 hc1 he

end Go.Proofs.Ytcgblpjknkmoaaa.B
