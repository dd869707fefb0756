/- stamp.Mirrored: the contract of the hand-walked function: what it returns, in new memory. -/
import Derived.Test.YtcgblpjknkmoaaaGBase
import Derived.Test.YtcgblpjknkmoaaaEv
import Derived.Maps.AppendAt
import Derived.RangeFuncWrites
namespace Go.Proofs.Ytcgblpjknkmoaaa.B
open Go.RowKit Go.Shelf Go.Proofs.YtcgblpjknkmoaaaW.PrintWords Go.Proofs.YtcgblpjknkmoaaaW.PrintLast Go.Proofs.YtcgblpjknkmoaaaW.PrintMore
open Go.Proofs Go.Proofs.Ytcgblpjknkmoaaa.G
attribute [local go_sem] Oper.semAt_some

def mirV (l : List Int) : List Int := l.dropLast.reverse.map (fun v => lastV l - v) ++ [lastV l]
def stamp_Mirrored.f (l0 : List Int) : Option (List Int × Int) := some (if valuesErr l0 = 0 then (mirV l0, 0) else ([], valuesErr l0))

theorem upto_back_snd (zs : List Int) : (upto (back zs.length zs) zs.length).map (·.2) = zs.reverse := by
  apply List.ext_getElem
  · simp [upto]
  · intro i h1 h2
    simp [upto, back] at h1 ⊢
    have : zs.length - 1 - i < zs.length := by omega
    simp [this]

def mirG (z : Int) (pre : List (Nat × Int)) : List Int := pre.map (fun p => wrap64 (z - p.2))
theorem mirG_length (z : Int) (pre : List (Nat × Int)) : (mirG z pre).length = pre.length := by simp [mirG]
theorem mirG_snoc (z : Int) (pre : List (Nat × Int)) (x : Nat × Int) : mirG z (pre ++ [x]) = mirG z pre ++ [wrap64 (z - x.2)] := by simp [mirG]
theorem drawn_facts {w w1 : World} (h : Drawn0 w w1) : Below w.heap.size w w1 ∧ w1.heap.size = w.heap.size ∧ ∀ a, w1.cell? a = w.cell? a := by
  obtain ⟨n, rfl⟩ := h
  exact ⟨pw_below_drewN (Below.refl _ _) _, rfl, fun _ => rfl⟩

set_option maxHeartbeats 4000000 in
set_option maxRecDepth 100000 in
theorem stamp_Mirrored.calls (A0 : Option Addr) (c0 : Nat) (l0 : List Int) (r1 : List Int) (r2 : Int) (w : World) (hr0 : Kd.C (Kd.int .i64) w A0 l0.length l0) (hc0 : l0.length ≤ c0) (h : stamp_Mirrored.f l0 = some (r1, r2)) :
    Calls Try.prog 22 #[.slice A0 l0.length c0] w fun e w' => ∃ v0_ : Value, e = .returned (.tuple #[v0_, .int .i64 r2]) ∧ Kd.R (Kd.int .i64) 3 w' w.heap.size (fun _ => True) v0_ r1 ∧ Below w.heap.size w w' := by
  unfold stamp_Mirrored.f at h
  by_cases hv : valuesErr l0 = 0
  · rw [if_pos hv] at h
    simp only [Option.some.injEq, Prod.mk.injEq] at h
    obtain ⟨rfl, rfl⟩ := h
    have hval := valued_f l0 7 (Nat.le_refl _)
    rw [hv] at hval
    have HV := Lib.hid hval
    have tk : Tick 1 l0 := (ticket_iff 1 l0).1 (by unfold ticketErr; rw [if_neg (by omega), hv])
    have hpos := tk.pos
    have hlen := tk.len
    obtain ⟨ad, rfl, hcells⟩ : ∃ ad, A0 = some ad ∧ ∀ j : Nat, j < l0.length → w.cell? (ad.add j) = some (.int .i64 (rd l0 (j : Int))) := by
      obtain ⟨ad, e, _⟩ := hr0.2.2 hpos
      refine ⟨ad, e, fun j hj => ?_⟩
      obtain ⟨ad', e', hx⟩ := Kd.at_int hr0 (j : Int) (by omega) (by omega)
      rw [e] at e'; cases e'
      simpa using hx
    obtain ⟨n, hn⟩ : ∃ n, l0.length = n + 1 := ⟨l0.length - 1, by omega⟩
    have hlast := hcells n (by omega)
    have eL : rd l0 (n : Int) = lastV l0 := by unfold lastV; congr 1; omega
    rw [eL] at hlast
    have Hc := Lib.hid hcells
    have HN := Lib.hid hn
    have HR := Lib.hid hr0
    have HC := Lib.hid hc0
    have g1 : 0 ≤ lastV l0 := by have := tk.last_range; omega
    have g2 : lastV l0 ≤ 200 := by have := tk.last_range; omega
    have HT := Lib.hid tk
    have hnc : n ≤ c0 := by omega
    clear hcells hr0 tk hval hv eL hc0
    generalize hz : lastV l0 = z at *
    have HZ := Lib.hid hz
    clear hz
    refine (callsIn_wide (n := 10)).1 ?_
    refine callsIn_of_wp_marks Try.func22 rfl trivial ?_ rfl
    have hn5 : n ≤ 5 := by omega
    clear hpos hlen
    rw [hn]
    simp only [Try.ntmps22, List.size_toArray, List.length_cons, List.length_nil, Nat.reduceAdd, Nat.reduceSub, Array.replicate_succ, Array.replicate_zero, List.push_toArray, List.append_toArray, List.nil_append, List.cons_append]
    clear hn
    gi_wp2_with (first | (refine ⟨trivial, ?_⟩; gi_at_call 49; refine (callsIn_wide.2 (by have := stamp_valued.calls 7 (some ad) c0 l0 0 w HR.out HC.out HV.out; rw [HN.out] at this; exact this)).mono ?_; rintro e w1 ⟨rfl, hd⟩; have HD := Lib.hid (drawn_facts hd); clear hd; have hl1 : w1.cell? (ad.add n) = some (.int .i64 z) := (HD.out.2.2 _).trans hlast) | (refine ⟨trivial, ?_⟩; gi_at_call 50; refine (back_in Fence.wide _ trivial rfl _ _ _ _).mono ?_; rintro e w' ⟨rfl, rfl⟩))
    obtain ⟨i0, hi, hz0, hz1, hz2⟩ := info_parts info3
    have bL := Boxed.new w1 3 (.int .i64 z)
    have bO := Boxed.new (w1.alloc (.cells #[.int .i64 z] 3)) 22 (.slice none 0 0)
    have bS := Boxed.new ((w1.alloc (.cells #[.int .i64 z] 3)).alloc (.cells #[.slice none 0 0] 22)) 22 (.slice (some ad) n c0)
    simp only [World.size_alloc] at bO bS
    have bL2 := (bL.alloc (.cells #[.slice none 0 0] 22)).alloc (.cells #[.slice (some ad) n c0] 22)
    have bO2 := bO.alloc (.cells #[.slice (some ad) n c0] 22)
    have hB0 : Below w1.heap.size w1 (((w1.alloc (.cells #[.int .i64 z] 3)).alloc (.cells #[.slice none 0 0] 22)).alloc (.cells #[.slice (some ad) n c0] 22)) := (((Below.refl _ w1).alloc (Nat.le_refl _) _).alloc (by simp) _).alloc (by simp; omega) _
    have hsz : (((w1.alloc (.cells #[.int .i64 z] 3)).alloc (.cells #[.slice none 0 0] 22)).alloc (.cells #[.slice (some ad) n c0] 22)).heap.size = w1.heap.size + 3 := by simp
    have hadlt : ad.block < w1.heap.size := by
      have := World.block_lt_of_cell? w1 _ hl1; rwa [G.add_block] at this
    obtain ⟨W0, hW0⟩ : ∃ W0, ((w1.alloc (.cells #[.int .i64 z] 3)).alloc (.cells #[.slice none 0 0] 22)).alloc (.cells #[.slice (some ad) n c0] 22) = W0 := ⟨_, rfl⟩
    rw [hW0] at bS bL2 bO2 hB0 hsz ⊢
    clear hW0 bL bO hl1
    have hzl : (l0.take n).length = n := by rw [List.length_take]; have := HN.out; omega
    have hcs : ∀ j, j < n → W0.cell? (ad.add j) = some (.int .i64 ((l0.take n)[j]?.getD 0)) := fun j hj => by
      have e1 := Hc.out j (by have := HN.out; omega)
      rw [← HD.out.2.2] at e1
      have e2 := (hB0.cell (p := ad.add j) (by rw [G.add_block]; exact hadlt)).trans e1
      rw [e2, rd_nat]; congr 2
      have h2 : j < l0.length := by have := HN.out; omega
      simp [hj]
    have hseq := back_stops Fence.wide (10 - 1) trivial rfl (by omega) (w1.heap.size + 1 + 1) (some ad) c0 (l0.take n) (by rw [hzl]; omega) W0 (by omega) (fun x e => by cases e; omega) (by rw [hzl]; exact bS.cell) (fun _ => ⟨ad, rfl, by rw [hzl]; exact hcs⟩)
    rw [hzl] at hseq
    refine wpIn_rangeFunc_ownG rfl (by omega) (gf := 62) (lb := #[.pointer (some ⟨w1.heap.size + 1 + 1, 0, none⟩)]) rfl trivial (enters_of Try.func62 (by kernel_rfl) rfl)
      hseq KeepB.trans (fun (W : World) (l : Nat) (o o' : Obj) hl ho _ _ => ⟨by simp, World.putObj_heap_other (by omega), fun x e => by cases e; exact World.putObj_heap_other (by omega)⟩) (Below.refl _ _) (fun _ => rfl)
      (fun (pre : List (Nat × Int)) (W : World) => ((∃ v, Boxed W (w1.heap.size + 1) 22 v ∧ W.ownsRow (w1.heap.size + 3) 3 1 v (mirG z pre).length ((mirG z pre).map (Value.int .i64)) ∧ True) ∧ (Boxed W w1.heap.size 3 (.int .i64 z) ∧ Boxed W (w1.heap.size + 1 + 1) 22 (.slice (some ad) n c0))) ∧ Below w1.heap.size w1 W)
      (fun _ _ _ => False)
      (OwnFrom.and (OwnFrom.and (Own.from (holdsRow_own (w1.heap.size + 3) (w1.heap.size + 1) 22 3 1 (fun pre => (mirG z pre).length) (fun pre => (mirG z pre).map (Value.int .i64)) (fun _ _ => True)) _) (OwnFrom.and (Own.from (boxed_own _ _ _) _) (Own.from (boxed_own _ _ _) _))) (ownFrom_below (Nat.le_refl _) (by omega)))
      (fun _ _ _ _ _ hs _ _ => hs)
      ⟨⟨⟨_, bO2, by simpa [mirG] using World.ownsRow_nil _ _ _ _, trivial⟩, bL2, bS⟩, hB0⟩
      (fun (x : Nat × Int) => { tmps := #[.slice (some ad) (n + 1) c0, undef, .slice none 0 0, .int .i64 0, .int .i64 0, .pointer (some ⟨w1.heap.size, 0, none⟩), .pointer (some ⟨w1.heap.size + 1, 0, none⟩), undef, .int .i64 x.2, .slice (some ad) (n + 1) c0, .int .i64 0, .int .i64 0, .bool false, undef, .slice (some ad) (n + 1) c0, .slice (some ad) (n + 1) c0, .int .i64 ((n : Int) + 1), .int .i64 n, .pointer (some (ad.add n)), .int .i64 z, .slice (some ad) (n + 1) c0, .slice (some ad) (n + 1) c0, .int .i64 ((n : Int) + 1), .int .i64 n, .slice (some ad) n c0, .func (.func 62) #[] #[.pointer (some ⟨w1.heap.size + 1 + 1, 0, none⟩)], .int .i64 (x.1 : Int), .int .i64 x.2, undef, undef, undef, undef, undef, undef, undef, undef, undef, undef], defers := [] }) ?assign ?body ?done ?stop
    case assign =>
      intro l x W K hK
      gi_wp2
      exact hK
    case body =>
      rintro l pre x W ⟨⟨⟨v, hv, hrow, _⟩, bL3, bS3⟩, hB⟩ hlt
      have hsz2 : w1.heap.size + 3 ≤ W.heap.size := bS3.lt
      have hc := hv.cell
      have hcl := bL3.cell
      have hpl : (mirG z pre).length ≤ 5 := by rw [mirG_length]; omega
      gi_wp2_with (gi_at_builtin; refine wpListIn_append_own _ rfl _ _ 22 rfl (w1.heap.size + 3) 3 i0 (.int .i64 0) 1 8 Try.underlying22 hi hz0 hz1 hz2 rfl (by decide) _ _ _ rfl (hrow.alloc _) ⟨W.heap.size, 0, none⟩ 1 1 [.int .i64 (wrap64 (z - x.2))] rfl rfl (cell_one_new _ _ _) (by simp [Value.oneCell']) (by unfold maxLen; omega) (by omega) (by simp; omega) ?_; intro v' w1' hown' hgrow _; obtain ⟨g', cap', rfl⟩ := ownsRow_succ hown'; obtain ⟨hv1, hv2, hr2, hk2, hb2⟩ := hv.appended (by decide) (own_weaken hrow (by omega)) hB.size (by omega) (own_weaken hown' (by omega)) hgrow; have hr3 := hown'.kept (grownBy_setCell' w1' (w1.heap.size + 1) (.slice (some ⟨g', 0, none⟩) ((mirG z pre).length + 1) cap')) (.inr (hv1.not_row (by decide) hown').symm); have hc1 := hv1.cell; have hf1 := hv1.frozen; have bS4 := (((bS3.alloc _).kept hgrow (bS3.not_row (by decide) hrow)).other (B' := w1.heap.size + 1) (by omega) (.slice (some ⟨g', 0, none⟩) ((mirG z pre).length + 1) cap')); have bL4 := (((bL3.alloc _).kept hgrow (fun e => by have := own_base hrow _ e.symm; omega)).other (B' := w1.heap.size + 1) (by omega) (.slice (some ⟨g', 0, none⟩) ((mirG z pre).length + 1) cap')))
      exact ⟨hk2.from _, ⟨hb2.size, bS4.trans bS3.symm, fun x e => by cases e; exact hb2.block _ hadlt⟩, ⟨⟨_, hv2, by rw [mirG_snoc]; simpa using hr3, trivial⟩, bL4, bS4⟩, hB.trans hb2⟩
    case done =>
      rintro D ys W hD rfl ⟨⟨⟨v, hv, hrow, _⟩, bL3, bS3⟩, hB⟩ hK
      have hsz2 : w1.heap.size + 3 ≤ W.heap.size := bS3.lt
      have hc := hv.cell
      have hcl := bL3.cell
      have hpl : (mirG z (upto (back n (l0.take n)) n)).length ≤ 5 := by rw [mirG_length, upto_length]; omega
      generalize hys : mirG z (upto (back n (l0.take n)) n) = gs at *
      have HY := Lib.hid hys
      clear hys
      gi_wp2_with (gi_at_builtin; refine wpListIn_append_own _ rfl _ _ 22 rfl (w1.heap.size + 3) 3 i0 (.int .i64 0) 1 8 Try.underlying22 hi hz0 hz1 hz2 rfl (by decide) _ _ _ rfl (hrow.alloc _) ⟨W.heap.size, 0, none⟩ 1 1 [.int .i64 z] rfl rfl (cell_one_new _ _ _) (by simp [Value.oneCell']) (by unfold maxLen; omega) (by omega) (by simp; omega) ?_; intro v' w1' hown' hgrow _; obtain ⟨g', cap', rfl⟩ := ownsRow_succ hown')
      have hDlt := (Array.getElem?_eq_some_iff.1 hK).1
      have hneD : some D ≠ v.ownBlock := fun e => by
        obtain ⟨cells, hcc⟩ := own_typed hrow D e.symm
        rw [hK] at hcc; cases hcc
      have hK' : w1'.heap[D]? = some (.deferred (some [])) := (hgrow.block D (by simp; omega) hneD).trans ((Below.heap_alloc W _ D hDlt).trans hK)
      refine ⟨by simp, .inl ⟨_, _, rfl, run_takeDeferred hK', ?_⟩⟩
      have hB2 : Below w1.heap.size w1 w1' := hB.trans (((Below.refl _ W).alloc hB.size _).grown hgrow (by simp; omega) (fun k e => by have := own_base hrow _ e; omega))
      refine ⟨.tuple #[.slice (some ⟨g', 0, none⟩) (gs.length + 1) cap', .int .i64 0], by simp [results, Try.f22, go_sem], _, rfl, ?_, ?_⟩
      · have e1 : mirV l0 = gs ++ [z] := by
          rw [← HY.out]
          unfold mirV
          rw [HZ.out]
          congr 1
          have e2 := upto_back_snd (l0.take n)
          rw [hzl] at e2
          have e3 : l0.dropLast = l0.take n := by rw [List.dropLast_eq_take]; congr 1; have := HN.out; omega
          rw [e3, ← e2, mirG, List.map_map]
          refine List.map_congr_left (fun p hp => ?_)
          have hm : p.2 ∈ l0 := by
            have : p.2 ∈ (upto (back n (l0.take n)) n).map (·.2) := List.mem_map.2 ⟨p, hp, rfl⟩
            rw [e2] at this
            exact List.mem_of_mem_take (List.mem_reverse.1 this)
          have := HT.out.range _ hm
          simp only [Function.comp]
          rw [w64 (by omega)]
        rw [e1]
        refine Kd.R_of_own ?_ (fun _ _ => trivial)
        have h2 := ownsRow_putObj (own_weaken hown' (show w.heap.size ≤ w1.heap.size + 3 by have := HD.out.2.1; omega)) (.deferred none) hK' rfl
        have e4 : encs (Value.int IntKind.i64) (gs ++ [z]) = gs.map (Value.int .i64) ++ [.int .i64 z] := by simp [encs]
        rw [e4, List.length_append]
        exact h2
      · refine HD.out.1.trans ?_
        have e5 : w.heap.size = w1.heap.size := HD.out.2.1.symm
        rw [e5]
        exact hB2.trans (belowK_b (w := w1) (Nat.le_refl _) _ D _ _ (by omega) hK' rfl rfl)
    case stop =>
      rintro D c pre W _ _ h _
      exact h.elim
  · rw [if_neg hv] at h
    simp only [Option.some.injEq, Prod.mk.injEq] at h
    obtain ⟨rfl, rfl⟩ := h
    have hval := valued_f l0 7 (Nat.le_refl _)
    generalize valuesErr l0 = ev at hv hval
    have HV := Lib.hid hval
    have e1 : (ev == 0) = false := by simp [hv]
    have e2 : (ev != 0) = true := by simp [hv]
    clear hv hval
    go_enter Try.func22, Try.ntmps22
    go_wp2_with (go_at_call 49; refine (stamp_valued.calls 7 A0 c0 l0 ev w hr0 hc0 HV.out).mono ?_; rintro e w' ⟨rfl, ⟨nd, rfl⟩⟩)
    go_ret2
    exact ⟨_, rfl, Kd.R_nil _ _ _ _ _, pw_below_drewN (Below.refl _ _) _⟩

end Go.Proofs.Ytcgblpjknkmoaaa.B
