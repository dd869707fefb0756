/- stamp.Ways: how many lists its iterators bring. -/
import Derived.Test.YtcgblpjknkmoaaaGPay
namespace Go.Proofs.Ytcgblpjknkmoaaa.B
open Go.RowKit Go.Shelf Go.Proofs.YtcgblpjknkmoaaaW.PrintWords Go.Proofs.YtcgblpjknkmoaaaW.PrintLast Go.Proofs.YtcgblpjknkmoaaaW.PrintMore
open Go.Proofs Go.Proofs.Ytcgblpjknkmoaaa.G Go.Proofs.Ytcgblpjknkmoaaa.Stamp
attribute [local go_sem] Oper.semAt_some

def stamp_Ways.f (a0 : Int) (l1 : List Int) (a2 : Int) : Option (Int × Int) := some (waysV a0 l1 a2)

/-- a mark -/
def markOf (D : Nat) : Deferred := { target := .collected D, args := #[] }

/-- a function that leaves with marks among its deferred calls -/
theorem leaves_marks {F : Fence} {n : Nat} {P : Program} {fn : Func} {tmps : Array Value} {R : Ending → World → Prop} {B : Nat} : ∀ (Ds : List Nat) (W : World), (∀ D ∈ Ds, B ≤ D ∧ W.heap[D]? = some (.deferred (some []))) → Ds.Nodup →
    (∀ W', Below B W W' → LeavesIn F n P fn tmps R [] .returning W') → B ≤ W.heap.size → LeavesInM F n P fn tmps R (Ds.map markOf) .returning W
  | [], W, _, _, h, _ => h W (Below.refl _ _)
  | D :: Ds, W, hD, hn, h, hB => by
    have h0 := hD D (List.mem_cons_self ..)
    have hb : Below B W (W.putObj D (.deferred none)) := (Below.refl B W).grown (grownBy_putObj' W D _) hB (fun k e => by cases e; exact h0.1)
    refine ⟨by simp, .inl ⟨D, _, rfl, run_takeDeferred h0.2, leaves_marks Ds _ (fun E hE => ?_) (List.nodup_cons.1 hn).2 (fun W' hW' => h W' (hb.trans hW')) (by simpa using hB)⟩⟩
    have h1 := hD E (List.mem_cons_of_mem _ hE)
    exact ⟨h1.1, (World.putObj_heap_other (fun e => by subst e; exact (List.nodup_cons.1 hn).1 hE)).trans h1.2⟩

/-- how many lists of fewer than i values there are -/
def cntW (l : List Int) (a : Int) : Nat → Nat
  | 0 => 0
  | i + 1 => cntW l a i + N l i a
theorem cntW_all (l : List Int) (a : Int) : ∀ k, cntW l a (k + 1) = W l k a
  | 0 => by simp [cntW, W]
  | k + 1 => by rw [cntW, cntW_all l a k, W]

theorem wrap_succ (x : Int) : wrap64 (wrap64 x + 1) = wrap64 (x + 1) := by unfold wrap64; omega

set_option maxHeartbeats 4000000 in
set_option maxRecDepth 100000 in
theorem ways_err (a0 : Int) (A1 : Option Addr) (c1 : Nat) (l1 : List Int) (a2 : Int) (w : World) (hr1 : Kd.C (Kd.int .i64) w A1 l1.length l1) (hc1 : l1.length ≤ c1) (he : askedErr a0 l1 a2 ≠ 0) :
    Calls Try.prog 27 #[.int .i64 a0, .slice A1 l1.length c1, .int .i64 a2] w fun e w' => e = .returned (.tuple #[.int .i64 0, .int .i64 (askedErr a0 l1 a2)]) ∧ Below w.heap.size w w' := by
  have hasked := asked_f a0 l1 a2 7 (Nat.le_refl _)
  generalize askedErr a0 l1 a2 = ev at *
  have HA := Lib.hid hasked
  have HR := Lib.hid hr1
  have HC := Lib.hid hc1
  have e1 : (ev == 0) = false := by simp [he]
  have e2 : (ev != 0) = true := by simp [he]
  clear hasked hr1 hc1 he
  go_enter Try.func27, Try.ntmps27
  go_wp2_with (go_at_call 40; refine (stamp_asked.calls 7 a0 A1 c1 l1 a2 ev _ HR.out HC.out HA.out).mono ?_; rintro e w' ⟨rfl, ⟨nd, rfl⟩⟩)
  go_ret2
  exact ⟨rfl, pw_below_drewN (Below.refl _ _) _⟩

set_option maxHeartbeats 4000000 in
set_option maxRecDepth 100000 in
theorem ways_ok (a0 : Int) (A1 : Option Addr) (c1 : Nat) (l1 : List Int) (a2 : Int) (w : World) (hr1 : Kd.C (Kd.int .i64) w A1 l1.length l1) (hc1 : l1.length ≤ c1) (he : askedErr a0 l1 a2 = 0) :
    Calls Try.prog 27 #[.int .i64 a0, .slice A1 l1.length c1, .int .i64 a2] w fun e w' => e = .returned (.tuple #[.int .i64 (W l1 a0.toNat a2 : Nat), .int .i64 0]) ∧ Below w.heap.size w w' := by
  obtain ⟨tk, h0, h1⟩ := asked_tick he
  have ht := tk.top
  have ht6 := tk.h6
  have ht1 := tk.h1
  have hasked := asked_f a0 l1 a2 7 (Nat.le_refl _)
  rw [he] at hasked
  obtain ⟨ad, rfl, hcells⟩ : ∃ ad, A1 = some ad ∧ ∀ j : Nat, j < l1.length → w.cell? (ad.add j) = some (.int .i64 (rd l1 (j : Int))) := by
    obtain ⟨ad, e, _⟩ := hr1.2.2 tk.pos
    refine ⟨ad, e, fun j hj => ?_⟩
    obtain ⟨ad', e', hx⟩ := Kd.at_int hr1 (j : Int) (by omega) (by omega)
    rw [e] at e'; cases e'
    simpa using hx
  have hadw : ad.block < w.heap.size := by
    have := World.block_lt_of_cell? w _ (hcells 0 tk.pos); rwa [G.add_block] at this
  have HA := Lib.hid hasked
  have HR := Lib.hid hr1
  have HC := Lib.hid hc1
  have HT := Lib.hid tk
  have HCE := Lib.hid hcells
  have h1200 : a2 ≤ 1200 := by omega
  clear hasked hr1 hc1 he tk h1 ht hcells
  refine (callsIn_wide (n := 10)).1 ?_
  refine callsIn_of_wp_marks Try.func27 rfl trivial ?_ rfl
  simp only [Try.ntmps27, List.size_toArray, List.length_cons, List.length_nil, Nat.reduceAdd, Nat.reduceSub, Array.replicate_succ, Array.replicate_zero, List.push_toArray, List.append_toArray, List.nil_append, List.cons_append]
  gi_wp2_with (refine ⟨trivial, ?_⟩; gi_at_call 40; refine (callsIn_wide.2 (stamp_asked.calls 7 a0 (some ad) c1 l1 a2 0 _ HR.out HC.out HA.out)).mono ?_; rintro e w1 ⟨rfl, hd⟩; have HD := Lib.hid (drawn_facts hd); clear hd)
  have hb0 : Boxed (w1.alloc (.cells #[.int .i64 0] 3)) w1.heap.size 3 (.int .i64 0) := Boxed.new w1 3 (.int .i64 0)
  have hw0 : Below w.heap.size w (w1.alloc (.cells #[.int .i64 0] 3)) := HD.out.1.trans ((Below.refl _ w1).alloc (by rw [HD.out.2.1]; exact Nat.le_refl _) _)
  have hB : w1.heap.size = w.heap.size := HD.out.2.1
  have hBw : w.heap.size ≤ w1.heap.size := by omega
  clear hB HD
  generalize w1.heap.size = B at *
  have hw0s := hb0.lt
  generalize w1.alloc (.cells #[.int .i64 0] 3) = W0 at *
  refine wpIn_loop (fun a wr => ∃ (i : Nat) (v10 v21 v22 v23 v24 v25 v26 v27 v28 v29 v30 : Value) (Ds : List Nat), (i : Int) ≤ a0 + 1 ∧
      a = { tmps := #[.int .i64 a0, .slice (some ad) l1.length c1, .int .i64 a2, undef, undef, undef, .int .i64 0, .int .i64 0, .int .i64 0, .pointer (some ⟨B, 0, none⟩), v10, .int .i64 a0, .slice (some ad) l1.length c1, .int .i64 a2, .int .i64 0, .int .i64 0, .bool false, undef, .int .i64 a0, .int .i64 (a0 + 1), .int .i64 i, v21, v22, v23, v24, v25, v26, v27, v28, v29, v30, undef], defers := Ds.map markOf } ∧
      Boxed wr B 3 (.int .i64 (wrap64 (cntW l1 a2 i : Nat))) ∧ Below w.heap.size w wr ∧ (∀ D ∈ Ds, w.heap.size ≤ D ∧ wr.heap[D]? = some (.deferred (some []))) ∧ Ds.Nodup)
    (fun a _ => (a0 + 1 - intOf (a.tmps[20]?.getD undef)).toNat) ?start ?round
  case start => exact ⟨0, undef, undef, undef, undef, undef, undef, undef, undef, undef, undef, undef, [], by omega, by rfl, by have e : wrap64 ((cntW l1 a2 0 : Nat) : Int) = 0 := (by simp [cntW, wrap64]); rw [e]; exact hb0, hw0, by simp, by simp⟩
  case round =>
    rintro a wr ⟨i, v10, v21, v22, v23, v24, v25, v26, v27, v28, v29, v30, Ds, hi, rfl, hbox, hbl, hds, hnd⟩
    by_cases hlt : (i : Int) < a0 + 1
    · have hcell := hbox.cell
      gi_wp2_with (refine ⟨trivial, ?_⟩; gi_at_call 42; refine (lists_in 9 _ _ _ _ _ _).mono ?_; rintro e w' ⟨rfl, rfl⟩)
      have hi2 := lin_start (w := wr) (c := c1) (m := i) (amount := a2) HT.out.asc HT.out.pos HT.out.len HC.out (by omega) h0 h1200 (fun j hj => (World.cell?_of_block (by rw [G.add_block]; exact hbl.block _ hadw)).trans (HCE.out j hj))
      have hWb : Below wr.heap.size wr (((wr.alloc (.cells #[.slice (some ad) l1.length c1] 22)).alloc (.cells #[.int .i64 (i : Int)] 3)).alloc (.cells #[.int .i64 a2] 3)) := (((Below.refl _ wr).alloc (Nat.le_refl _) _).alloc (by simp) _).alloc (by simp; omega) _
      have hW2s : (((wr.alloc (.cells #[.slice (some ad) l1.length c1] 22)).alloc (.cells #[.int .i64 (i : Int)] 3)).alloc (.cells #[.int .i64 a2] 3)).heap.size = wr.heap.size + 3 := by simp
      have hBwr : B < wr.heap.size := hbox.lt
      have hwrs := hbl.size
      have hds2 : ∀ D ∈ Ds, w.heap.size ≤ D ∧ D < wr.heap.size ∧ wr.heap[D]? = some (.deferred (some [])) := fun D hD => ⟨(hds D hD).1, (Array.getElem?_eq_some_iff.1 (hds D hD).2).1, (hds D hD).2⟩
      have hbl2 : Below w.heap.size w _ := hbl.trans (hWb.mono hwrs)
      have hbox2 := (hWb.block _ hBwr).trans hbox
      have hds3 : ∀ D ∈ Ds, _ := fun D hD => (hWb.block D (hds2 D hD).2.1).trans (hds2 D hD).2.2
      generalize hW2 : ((wr.alloc (.cells #[.slice (some ad) l1.length c1] 22)).alloc (.cells #[.int .i64 (i : Int)] 3)).alloc (.cells #[.int .i64 a2] 3) = W2 at *
      clear hW2 hWb
      refine wpIn_rangeFunc_lists hi2 rfl
        (fun pre W => Boxed W B 3 (.int .i64 (wrap64 ((cntW l1 a2 i + pre.length : Nat) : Int))) ∧ Below w.heap.size w W ∧ ∀ D ∈ Ds, W.heap[D]? = some (.deferred (some [])))
        (fun _ _ _ => False)
        (fun ys A B' ⟨h1, h2, h3⟩ hb => ⟨(hb.block _ (by omega)).trans h1, h2.trans (hb.mono (by omega)), fun D hD => (hb.block D (by have := hds2 D hD; omega)).trans (h3 D hD)⟩)
        (fun _ _ _ _ h _ => h)
        ⟨by rw [List.length_nil, Nat.add_zero]; exact hbox2, hbl2, hds3⟩
        (fun v => { tmps := #[.int .i64 a0, .slice (some ad) l1.length c1, .int .i64 a2, undef, undef, undef, .int .i64 0, .int .i64 0, .int .i64 0, .pointer (some ⟨B, 0, none⟩), .int .i64 i, .int .i64 a0, .slice (some ad) l1.length c1, .int .i64 a2, .int .i64 0, .int .i64 0, .bool false, undef, .int .i64 a0, .int .i64 (a0 + 1), .int .i64 i, .bool true, .int .i64 i, .slice (some ad) l1.length c1, .int .i64 i, .int .i64 a2, .func (.func 59) #[] #[.pointer (some ⟨wr.heap.size + 1, 0, none⟩), .pointer (some ⟨wr.heap.size, 0, none⟩), .pointer (some ⟨wr.heap.size + 1 + 1, 0, none⟩)], v, v28, v29, v30, undef], defers := [] }) ?assign ?body ?done ?stop
      case assign =>
        intro k l v W K hK
        gi_wp2
        simpa using hK
      case body =>
        rintro k l pre x v W ⟨h6, hb, hd⟩ hx hrow
        have e6 := h6.cell
        have f6 := h6.frozen
        have HH := Lib.hid (⟨h6, hb, hd⟩ : _ ∧ _ ∧ _)
        clear h6 hb hd hx hrow
        gi_wp2
        refine ⟨⟨by simp, fun j hj ho => Below.heap_setCell _ _ _ j (show j ≠ B by omega)⟩, ?_, HH.out.2.1.setCell (p := ⟨B, 0, none⟩) hBw _, fun D hD => (Below.heap_setCell _ _ _ D (show D ≠ B from ?_)).trans (HH.out.2.2 D hD)⟩
        · rw [wrap_succ]
          have := HH.out.1.set (.int .i64 (wrap64 ((cntW l1 a2 i : Int) + (pre.length : Int) + 1)))
          have e : ((cntW l1 a2 i + (pre ++ [x]).length : Nat) : Int) = (cntW l1 a2 i : Int) + (pre.length : Int) + 1 := by simp; omega
          rw [e]; exact this
        · intro e
          have h1 := HH.out.2.2 D hD
          rw [e] at h1
          have h2 := h1.symm.trans (show _ = _ from HH.out.1)
          cases h2
      case done =>
        rintro D W hD ⟨h6, hb, hd⟩ hK
        have hne : D ∉ Ds := fun h => by have := hds2 D h; omega
        have HH := Lib.hid (⟨h6, hb, hd, hK, hne, hnd⟩ : _ ∧ _ ∧ _ ∧ _ ∧ _ ∧ _)
        clear h6 hb hd hK hne hnd
        gi_wp2
        obtain ⟨h6, hb, hd, hK, hne, hnd⟩ := HH.out
        refine ⟨⟨i + 1, .int .i64 i, .bool true, .int .i64 i, .slice (some ad) l1.length c1, .int .i64 i, .int .i64 a2, .func (.func 59) #[] #[.pointer (some ⟨wr.heap.size + 1, 0, none⟩), .pointer (some ⟨wr.heap.size, 0, none⟩), .pointer (some ⟨wr.heap.size + 1 + 1, 0, none⟩)], v27, v28, v29, .int .i64 ((i : Int) + 1), D :: Ds, by omega, by rfl, ?_, hb, ?_, List.nodup_cons.2 ⟨hne, hnd⟩⟩, ?_⟩
        · rw [cntW, ← gen_length]; exact h6
        · intro E hE
          rcases List.mem_cons.1 hE with rfl | hE
          · exact ⟨by omega, hK⟩
          · exact ⟨(hds E hE).1, hd E hE⟩
        · simp [intOf]; omega
      case stop =>
        rintro D t q W hD hq hq0 h hK
        exact h.elim
    · have e1 : (i : Int) = a0 + 1 := by omega
      have hcell := hbox.cell
      have HH := Lib.hid (⟨hbl, hds, hnd, e1⟩ : _ ∧ _ ∧ _ ∧ _)
      clear hbl hds hnd hbox
      gi_wp2
      obtain ⟨hbl, hds, hnd, e1⟩ := HH.out
      refine leaves_marks (B := w.heap.size) Ds wr hds hnd (fun W' hW' => ⟨.tuple #[.int .i64 (wrap64 (cntW l1 a2 i : Nat)), .int .i64 0], by simp [results, Try.f27, go_sem], ?_, hbl.trans hW'⟩) hbl.size
      have e2 : i = a0.toNat + 1 := by omega
      have b1 := W_le_tot l1 a0.toNat a2
      have b2 := tot_le (n := l1.length) (h := a0.toNat) HT.out.len (by omega)
      rw [e2, cntW_all, w64 (by omega)]

theorem stamp_Ways.calls (a0 : Int) (A1 : Option Addr) (c1 : Nat) (l1 : List Int) (a2 : Int) (r1 : Int) (r2 : Int) (w : World) (hr1 : Kd.C (Kd.int .i64) w A1 l1.length l1) (hc1 : l1.length ≤ c1) (h : stamp_Ways.f a0 l1 a2 = some (r1, r2)) :
    Calls Try.prog 27 #[.int .i64 a0, .slice A1 l1.length c1, .int .i64 a2] w fun e w' => e = .returned (.tuple #[.int .i64 r1, .int .i64 r2]) ∧ Below w.heap.size w w' := by
  have h := Option.some.inj h
  unfold waysV at h
  by_cases he : askedErr a0 l1 a2 = 0
  · rw [if_pos he] at h; cases h
    exact ways_ok a0 A1 c1 l1 a2 w hr1 hc1 he
  · rw [if_neg he] at h; cases h
    exact ways_err a0 A1 c1 l1 a2 w hr1 hc1 he

end Go.Proofs.Ytcgblpjknkmoaaa.B
