/- stamp.Greedy: the least amount that is payable, but not by taking the greatest value that fits. -/
import Derived.Test.YtcgblpjknkmoaaaGWays
import Derived.BigRegionIn
namespace Go.Proofs.Ytcgblpjknkmoaaa.B
open Go.RowKit Go.Shelf Go.Proofs.YtcgblpjknkmoaaaW.PrintWords Go.Proofs.YtcgblpjknkmoaaaW.PrintLast Go.Proofs.YtcgblpjknkmoaaaW.PrintMore
open Go.Proofs Go.Proofs.Ytcgblpjknkmoaaa.G Go.Proofs.Ytcgblpjknkmoaaa.Stamp
attribute [local go_sem] Oper.semAt_some

/-- the greatest value that fits again and again: what is left, how many stamps -/
def gstep (s : Int × Int) (v : Int) : Int × Int := (Int.tmod s.1 v, s.2 + Int.tdiv s.1 v)
def gAll (V : List Int) (a : Int) : Int × Int := V.reverse.foldl gstep (a, 0)
def badAt (h : Int) (V : List Int) (a : Nat) : Bool := decide (fewV h V a ≠ -1) && (decide (0 < (gAll V a).1) || decide (h < (gAll V a).2))
def greedyV (h : Int) (V : List Int) : Int × Int :=
  if ticketErr h V = 0 then (match (List.range (tab h V).length).find? (badAt h V) with | some a => ((a : Int), 0) | none => (0, 10)) else (0, ticketErr h V)
def stamp_Greedy.f (a0 : Int) (l1 : List Int) : Option (Int × Int) := some (greedyV a0 l1)

def GOk (a : Int) (s : Int × Int) : Prop := 0 ≤ s.1 ∧ 0 ≤ s.2 ∧ s.1 + s.2 ≤ a
theorem gstep_ok {a v : Int} {s : Int × Int} (hv : 1 ≤ v) (h : GOk a s) : GOk a (gstep s v) := by
  obtain ⟨h1, h2, h3⟩ := h
  unfold gstep GOk
  have e1 := Int.tdiv_eq_ediv_of_nonneg (b := v) h1
  have e2 := Int.tmod_eq_emod_of_nonneg (b := v) h1
  have e3 := Int.emod_nonneg s.1 (show v ≠ 0 by omega)
  have e4 := Int.ediv_nonneg h1 (show 0 ≤ v by omega)
  have e5 := Int.mul_ediv_add_emod s.1 v
  have e6 : s.1 / v ≤ v * (s.1 / v) := by
    have := Int.mul_le_mul_of_nonneg_right (show 1 ≤ v from hv) e4
    omega
  rw [e1, e2]
  dsimp only
  omega
theorem gfold_ok {a : Int} : ∀ (l : List Int) (s : Int × Int), (∀ v ∈ l, 1 ≤ v) → GOk a s → GOk a (l.foldl gstep s)
  | [], _, _, h => h
  | v :: l, s, hl, h => gfold_ok l _ (fun x hx => hl x (by simp [hx])) (gstep_ok (hl v (by simp)) h)

abbrev GX := Nat × {v : Int // 1 ≤ v ∧ v ≤ 200}
def gval (V : List Int) (k : Nat) : {v : Int // 1 ≤ v ∧ v ≤ 200} := if h : 1 ≤ rd V (k : Int) ∧ rd V (k : Int) ≤ 200 then ⟨rd V (k : Int), h⟩ else ⟨1, by omega⟩
def gfn (V : List Int) (k : Nat) : GX := (V.length - 1 - k, gval V (V.length - 1 - k))
def genc (x : GX) : Array Value := #[.int .i64 (x.1 : Int), .int .i64 x.2.1]
def gst (a : Int) (pre : List GX) : Int × Int := pre.foldl (fun s x => gstep s x.2.1) (a, 0)
theorem gst_snoc (a : Int) (pre : List GX) (x : GX) : gst a (pre ++ [x]) = gstep (gst a pre) x.2.1 := by simp [gst]
theorem gst_eq (a : Int) (pre : List GX) : gst a pre = (pre.map (·.2.1)).foldl gstep (a, 0) := by simp [gst, List.foldl_map]
theorem gst_ok {a : Int} (ha : 0 ≤ a) (pre : List GX) : GOk a (gst a pre) := by
  rw [gst_eq]
  refine gfold_ok _ _ (fun v hv => ?_) ⟨ha, Int.le_refl _, by simp⟩
  obtain ⟨x, _, rfl⟩ := List.mem_map.1 hv
  exact x.2.2.1
theorem gval_eq {V : List Int} (hr : ∀ v ∈ V, 1 ≤ v ∧ v ≤ 200) {k : Nat} (hk : k < V.length) : (gval V k).1 = rd V (k : Int) := by
  unfold gval; rw [dif_pos (hr _ (rd_mem (by omega) (by omega)))]
theorem gst_all {V : List Int} (hr : ∀ v ∈ V, 1 ≤ v ∧ v ≤ 200) (a : Int) : gst a (G.upto (gfn V) V.length) = gAll V a := by
  rw [gst_eq]
  unfold gAll
  congr 1
  apply List.ext_getElem
  · simp [G.upto]
  · intro i h1 h2
    simp [G.upto, gfn] at h1 ⊢
    rw [gval_eq hr (by omega), rd_nat]
    have : V.length - 1 - i < V.length := by omega
    simp [this]
theorem genc_eq {V : List Int} (hr : ∀ v ∈ V, 1 ≤ v ∧ v ≤ 200) (k : Nat) (hk : k < V.length) : genc (gfn V k) = #[.int .i64 ((V.length - 1 - k : Nat) : Int), .int .i64 (V[V.length - 1 - k]?.getD 0)] := by
  unfold genc gfn
  rw [gval_eq hr (by omega), rd_nat]
  simp

theorem wrap_i64 {x : Int} (h : -9223372036854775808 ≤ x ∧ x < 9223372036854775808) : IntKind.i64.wrap x = x := by
  rw [i64_w]; exact w64 h
theorem greedy_small {a L U v : Int} (hv : 1 ≤ v) (ha : a ≤ 1200) (h : GOk a (L, U)) : IntKind.i64.wrap (U + IntKind.i64.wrap (L.tdiv v)) = U + L.tdiv v := by
  have h2 := gstep_ok hv h
  obtain ⟨h1, h3, h4⟩ := h
  obtain ⟨g1, g3, g4⟩ := h2
  simp only [gstep] at g1 g3 g4 h1 h3 h4
  have e1 := Int.tdiv_eq_ediv_of_nonneg (b := v) h1
  have e4 := Int.ediv_nonneg h1 (show 0 ≤ v by omega)
  rw [e1] at g3 g4 ⊢
  generalize L / v = q at *
  rw [wrap_i64 (x := q) (by omega), wrap_i64 (by omega)]

set_option maxHeartbeats 4000000 in
set_option maxRecDepth 100000 in
theorem greedy_err (a0 : Int) (A1 : Option Addr) (c1 : Nat) (l1 : List Int) (w : World) (hr1 : Kd.C (Kd.int .i64) w A1 l1.length l1) (hc1 : l1.length ≤ c1) (he : ticketErr a0 l1 ≠ 0) :
    Calls Try.prog 36 #[.int .i64 a0, .slice A1 l1.length c1] w fun e w' => e = .returned (.tuple #[.int .i64 0, .int .i64 (ticketErr a0 l1)]) ∧ Below w.heap.size w w' := by
  have hasked := read_f a0 l1 7 (Nat.le_refl _)
  generalize ticketErr a0 l1 = ev at *
  have HA := Lib.hid hasked
  have HR := Lib.hid hr1
  have HC := Lib.hid hc1
  have e1 : (ev == 0) = false := by simp [he]
  have e2 : (ev != 0) = true := by simp [he]
  clear hasked hr1 hc1 he
  go_enter Try.func36, Try.ntmps36
  go_wp2_with (go_at_call 52; refine (stamp_read.calls 7 a0 A1 c1 l1 ev _ HR.out HC.out HA.out).mono ?_; rintro e w' ⟨rfl, ⟨nd, rfl⟩⟩)
  go_ret2
  exact ⟨rfl, pw_below_drewN (Below.refl _ _) _⟩

set_option maxHeartbeats 4000000 in
set_option maxRecDepth 100000 in
theorem greedy_ok (a0 : Int) (A1 : Option Addr) (c1 : Nat) (l1 : List Int) (w : World) (hr1 : Kd.C (Kd.int .i64) w A1 l1.length l1) (hc1 : l1.length ≤ c1) (he : ticketErr a0 l1 = 0) :
    Calls Try.prog 36 #[.int .i64 a0, .slice A1 l1.length c1] w fun e w' => e = .returned (.tuple #[.int .i64 (greedyV a0 l1).1, .int .i64 (greedyV a0 l1).2]) ∧ Below w.heap.size w w' := by
  have tk := (ticket_iff a0 l1).1 he
  have ht := tk.top
  have ht6 := tk.h6
  have ht1 := tk.h1
  have hread := read_f a0 l1 7 (Nat.le_refl _)
  have hfe := fewest_f tk 10000 (Nat.le_refl _)
  rw [he] at hread
  obtain ⟨ad, rfl, hcells⟩ : ∃ ad, A1 = some ad ∧ ∀ j : Nat, j < l1.length → w.cell? (ad.add j) = some (.int .i64 (rd l1 (j : Int))) := by
    obtain ⟨ad, e, _⟩ := hr1.2.2 tk.pos
    refine ⟨ad, e, fun j hj => ?_⟩
    obtain ⟨ad', e', hx⟩ := Kd.at_int hr1 (j : Int) (by omega) (by omega)
    rw [e] at e'; cases e'
    simpa using hx
  have hadw : ad.block < w.heap.size := by
    have := World.block_lt_of_cell? w _ (hcells 0 tk.pos); rwa [G.add_block] at this
  have HA := Lib.hid hread
  have HF := Lib.hid hfe
  have HR := Lib.hid hr1
  have HC := Lib.hid hc1
  have HT := Lib.hid tk
  have HE := Lib.hid he
  have HCE := Lib.hid hcells
  have HTOP := Lib.hid ht
  clear hread hfe hr1 hc1 he tk ht hcells
  refine (callsIn_wide (n := 10)).1 ?_
  refine callsIn_of_wp_marks Try.func36 rfl trivial ?_ rfl
  simp only [Try.ntmps36, List.size_toArray, List.length_cons, List.length_nil, Nat.reduceAdd, Nat.reduceSub, Array.replicate_succ, Array.replicate_zero, List.push_toArray, List.append_toArray, List.nil_append, List.cons_append]
  gi_wp2_with (first
    | (refine ⟨trivial, ?_⟩; gi_at_call 52; refine (callsIn_wide.2 (stamp_read.calls 7 a0 (some ad) c1 l1 0 _ HR.out HC.out HA.out)).mono ?_; rintro e w1 ⟨rfl, hd⟩; have HD := Lib.hid (drawn_facts hd); clear hd)
    | (refine ⟨trivial, ?_⟩; gi_at_call 41; refine (callsIn_wide.2 (stamp_fewest.calls 10000 a0 (some ad) c1 l1 (tab a0 l1) w1 (Kd.C_below HR.out HD.out.1) HC.out HF.out)).mono ?_; rintro e w2 ⟨v0, rfl, hR, hB⟩; obtain ⟨adt, ct, rfl⟩ := Kd.R_slice1 hR (by have := tab_length a0 l1; have := HTOP.out; omega); have HRT := Lib.hid (Kd.R_reads' hR).2.2; have HB := Lib.hid hB; have htl := tab_length a0 l1; have HTL := Lib.hid htl; have htn : (tab a0 l1).length ≤ 1201 := (by have := HTOP.out; omega); clear htl hR hB; generalize htn2 : (tab a0 l1).length = tn at *; have HTN := Lib.hid htn2; clear htn2))
  have hs2 : w.heap.size ≤ w2.heap.size := by have h1 := HB.out.size; have h2 := HD.out.2.1; omega
  have hw2 : Below w.heap.size w w2 := HD.out.1.trans (HB.out.mono (by rw [HD.out.2.1]; exact Nat.le_refl _))
  have HW2 := Lib.hid hw2
  clear hw2
  refine wpIn_loop (fun a wr => ∃ (i : Nat) (v7 v8 v9 v10 v24 v25 v26 v27 v28 v29 v30 v31 v32 v43 v44 v45 v46 v47 v48 v49 v50 v51 : Value) (Ds : List Nat), i ≤ tn ∧
      a = { tmps := #[.int .i64 a0, .slice (some ad) l1.length c1, undef, undef, .int .i64 0, .int .i64 0, .int .i64 0, v7, v8, v9, v10, undef, undef, .int .i64 a0, .slice (some ad) l1.length c1, .int .i64 0, .int .i64 0, .bool false, undef, .int .i64 a0, .slice (some ad) l1.length c1, .slice (some adt) tn ct, .int .i64 tn, .int .i64 i, v24, v25, v26, v27, v28, v29, v30, v31, v32, undef, undef, undef, undef, undef, undef, undef, undef, undef, undef, v43, v44, v45, v46, v47, v48, v49, v50, v51], defers := Ds.map markOf } ∧
      Below w2.heap.size w2 wr ∧ (∀ D ∈ Ds, w2.heap.size ≤ D ∧ wr.heap[D]? = some (.deferred (some []))) ∧ Ds.Nodup ∧ ∀ j, j < i → badAt a0 l1 j = false)
    (fun a _ => ((tn : Int) - intOf (a.tmps[23]?.getD undef)).toNat) ?start ?round
  case start => exact ⟨0, undef, undef, undef, undef, undef, undef, undef, undef, undef, undef, undef, undef, undef, undef, undef, undef, undef, undef, undef, undef, undef, undef, [], by omega, rfl, Below.refl _ _, by simp, by simp, fun j hj => by omega⟩
  case round =>
    rintro a wr ⟨i, v7, v8, v9, v10, v24, v25, v26, v27, v28, v29, v30, v31, v32, v43, v44, v45, v46, v47, v48, v49, v50, v51, Ds, hi, rfl, hbl, hds, hnd, hbad⟩
    have HBL := Lib.hid hbl
    have HDS := Lib.hid hds
    have HND := Lib.hid hnd
    have HBAD := Lib.hid hbad
    clear hbl hds hnd hbad
    by_cases hlt : i < tn
    · have hx : wr.cell? (adt.add i) = some (.int .i64 (fewV a0 l1 i)) := by
        obtain ⟨ad', e, hx⟩ := Kd.at_int HRT.out (i : Int) (by omega) (by omega)
        cases e
        have h2 := HTL.out
        have h3 := HTOP.out
        rw [rd_tab (by omega) (by omega)] at hx
        exact pw_cell_below HBL.out (by simpa using hx)
      have hilt : (i : Int) < (tn : Int) := by omega
      have hge : -1 ≤ fewV a0 l1 i := (fewV_few (by omega) l1 (i : Int)).ge
      obtain ⟨m, hm⟩ : ∃ m, fewV a0 l1 i = m := ⟨_, rfl⟩
      rw [hm] at hx hge
      have HM := Lib.hid hm
      clear hm
      by_cases hm1 : m = -1
      · subst hm1
        have HI := Lib.hid hi
        clear hi hge
        gi_wp2
        refine ⟨⟨i + 1, _, _, _, _, _, _, _, _, _, _, _, _, _, _, _, _, _, _, _, _, _, _, Ds, by omega, rfl, HBL.out, HDS.out, HND.out, fun j hj => ?_⟩, ?_⟩
        · rcases Nat.lt_or_ge j i with h | h
          · exact HBAD.out j h
          · obtain rfl : j = i := by omega
            unfold badAt; rw [HM.out]; rfl
        · simp [intOf]; omega
      · have hmb : (m == -1) = false := by simp [hm1]
        have HGE := Lib.hid hge
        clear hge hm1
        gi_wp2_with (refine ⟨trivial, ?_⟩; gi_at_call 50; refine (back_in Fence.wide _ trivial rfl _ _ _ _).mono ?_; rintro e w' ⟨rfl, rfl⟩)
        have b3 := (((Boxed.new wr 3 (.int .i64 i)).alloc (.cells #[.int .i64 0] 3)).alloc (.cells #[.slice (some ad) l1.length c1] 22))
        have b4 := ((Boxed.new (wr.alloc (.cells #[.int .i64 i] 3)) 3 (.int .i64 0)).alloc (.cells #[.slice (some ad) l1.length c1] 22))
        have b5 := Boxed.new ((wr.alloc (.cells #[.int .i64 i] 3)).alloc (.cells #[.int .i64 0] 3)) 22 (.slice (some ad) l1.length c1)
        simp only [World.size_alloc] at b4 b5
        have hWb : Below wr.heap.size wr (((wr.alloc (.cells #[.int .i64 i] 3)).alloc (.cells #[.int .i64 0] 3)).alloc (.cells #[.slice (some ad) l1.length c1] 22)) := (((Below.refl _ wr).alloc (Nat.le_refl _) _).alloc (by simp) _).alloc (by simp; omega) _
        have hsz : (((wr.alloc (.cells #[.int .i64 i] 3)).alloc (.cells #[.int .i64 0] 3)).alloc (.cells #[.slice (some ad) l1.length c1] 22)).heap.size = wr.heap.size + 3 := by simp
        obtain ⟨W0, hW0⟩ : ∃ W0, (((wr.alloc (.cells #[.int .i64 i] 3)).alloc (.cells #[.int .i64 0] 3)).alloc (.cells #[.slice (some ad) l1.length c1] 22)) = W0 := ⟨_, rfl⟩
        rw [hW0] at b3 b4 b5 hWb hsz ⊢
        clear hW0
        have hadwr : ad.block < wr.heap.size := by have := HBL.out.size; omega
        have hcs : ∀ j, j < l1.length → W0.cell? (ad.add j) = some (.int .i64 (l1[j]?.getD 0)) := fun j hj => by
          have e1 := pw_cell_below HW2.out (HCE.out j hj)
          have e2 := pw_cell_below HBL.out e1
          have e3 := pw_cell_below hWb e2
          rw [e3, rd_nat]; rfl
        have hlen := HT.out.len
        have hseq := back_stops2 (gfn l1) genc Fence.wide (10 - 1) trivial rfl (by omega) (wr.heap.size + 1 + 1) ad c1 l1 (by omega) (genc_eq HT.out.range) W0 (by omega) (by omega) b5.cell hcs
        have hi1200 : (i : Int) ≤ 1200 := by omega
        refine wpIn_rangeFunc_ownG rfl (by omega) (gf := 62) (lb := #[.pointer (some ⟨wr.heap.size + 1 + 1, 0, none⟩)]) rfl trivial (enters_of Try.func62 (by kernel_rfl) rfl)
          hseq KeepB.trans (fun (W : World) (l : Nat) (o o' : Obj) hl ho _ _ => ⟨by simp, World.putObj_heap_other (by omega), fun x e => by cases e; exact World.putObj_heap_other (by omega)⟩) (Below.refl _ _) (fun _ => rfl)
          (fun (pre : List GX) (W : World) => (Boxed W wr.heap.size 3 (.int .i64 (gst i pre).1) ∧ Boxed W (wr.heap.size + 1) 3 (.int .i64 (gst i pre).2) ∧ Boxed W (wr.heap.size + 1 + 1) 22 (.slice (some ad) l1.length c1)) ∧ Below wr.heap.size wr W)
          (fun _ _ _ => False)
          (OwnFrom.and (OwnFrom.and (Own.from (boxed_own _ _ (fun pre => .int .i64 (gst i pre).1)) _) (OwnFrom.and (Own.from (boxed_own _ _ (fun pre => .int .i64 (gst i pre).2)) _) (Own.from (boxed_own _ _ _) _))) (ownFrom_below (Nat.le_refl _) (by omega)))
          (fun _ _ _ _ _ hs _ _ => hs)
          ⟨⟨b3, b4, b5⟩, hWb⟩
          (fun (x : GX) => { tmps := #[.int .i64 a0, .slice (some ad) l1.length c1, undef, undef, .int .i64 0, .int .i64 0, .int .i64 0, .int .i64 i, .int .i64 m, .pointer (some ⟨wr.heap.size, 0, none⟩), .pointer (some ⟨wr.heap.size + 1, 0, none⟩), undef, .int .i64 x.2.1, .int .i64 a0, .slice (some ad) l1.length c1, .int .i64 0, .int .i64 0, .bool false, undef, .int .i64 a0, .slice (some ad) l1.length c1, .slice (some adt) tn ct, .int .i64 tn, .int .i64 i, .bool true, .int .i64 i, .pointer (some (adt.add i)), .int .i64 m, .int .i64 m, .bool false, .int .i64 i, .slice (some ad) l1.length c1, .func (.func 62) #[] #[.pointer (some ⟨wr.heap.size + 1 + 1, 0, none⟩)], .int .i64 (x.1 : Int), .int .i64 x.2.1, undef, undef, undef, undef, undef, undef, undef, undef, v43, v44, v45, v46, v47, v48, v49, v50, v51], defers := [] }) ?assign ?body ?done ?stop
        case assign =>
          intro l x W K hK
          simp only [genc]
          gi_wp2
          exact hK
        case body =>
          rintro l pre x W ⟨⟨h3, h4, h5⟩, hB⟩ hlt2
          have hok := gst_ok (a := (i : Int)) (by omega) pre
          have hst := gst_snoc (i : Int) pre x
          generalize gst (i : Int) pre = s at *
          obtain ⟨L, U⟩ := s
          have hv1 := x.2.2.1
          have hv2 := x.2.2.2
          obtain ⟨xi, v, hv⟩ := x
          have c3 := h3.cell
          have f3 := h3.frozen
          have c4 := h4.cell
          have f4 := h4.frozen
          dsimp only at *
          have hv0 : v ≠ 0 := by omega
          have hvb : (v == 0) = false := by simp [hv0]
          have hst2 : gst (↑i) (pre ++ [(xi, ⟨v, hv⟩)]) = (L.tmod v, U + L.tdiv v) := hst
          have HU := Lib.hid (greedy_small hv1 hi1200 hok)
          have HU1 := HU
          clear hst
          have hst := hst2
          clear hst2
          gi_wp2
          gi_region
          all_goals
            (have g3 := h3.other (B' := wr.heap.size + 1) (by omega) (.int .i64 (IntKind.i64.wrap (U + IntKind.i64.wrap (L.tdiv v))))
             have g4 := h4.set (.int .i64 (IntKind.i64.wrap (U + IntKind.i64.wrap (L.tdiv v))))
             have g5 := h5.other (B' := wr.heap.size + 1) (by omega) (.int .i64 (IntKind.i64.wrap (U + IntKind.i64.wrap (L.tdiv v))))
             have k1 : KeepsFrom W0.heap.size W (W.setCell ⟨wr.heap.size + 1, 0, none⟩ (.int .i64 (IntKind.i64.wrap (U + IntKind.i64.wrap (L.tdiv v))))) := KeepsFrom.of_grownBy (grownBy_setCell' W _ _) (fun j e => by cases e; omega)
             have k2 : Below wr.heap.size W (W.setCell ⟨wr.heap.size + 1, 0, none⟩ (.int .i64 (IntKind.i64.wrap (U + IntKind.i64.wrap (L.tdiv v))))) := (Below.refl _ W).setCell (p := ⟨wr.heap.size + 1, 0, none⟩) (Nat.le_succ _) _
             have hU := HU1.out
             clear h3 h4 c3 f3 c4 f4
             generalize IntKind.i64.wrap (U + IntKind.i64.wrap (L.tdiv v)) = U2 at *
             generalize hWU : W.setCell ⟨wr.heap.size + 1, 0, none⟩ (.int .i64 U2) = WU at *
             have c3 := (show Boxed WU.drew _ _ _ from g3).cell
             have f3 := (show Boxed WU.drew _ _ _ from g3).frozen
             have G := Lib.hid (⟨g3, g4, g5, k1, k2, hU, hB, hok, hst, h5⟩ : _ ∧ _ ∧ _ ∧ _ ∧ _ ∧ _ ∧ _ ∧ _ ∧ _ ∧ _)
             clear g3 g4 g5 k1 k2 hU hB hok hst hWU h5
             gi_wp2)
          all_goals
            (obtain ⟨g3, g4, g5, k1, k2, hU, hB, hok, hst, h5⟩ := G.out
             subst hU
             refine ⟨?_, ?_, ⟨?_, ?_, ?_⟩, ?_⟩
             · have k3 := k1.trans (KeepsFrom.of_grownBy (grownBy_setCell' WU wr.heap.size (.int .i64 (L.tmod v))) (fun j e => by cases e; omega))
               exact ⟨k3.1, k3.2⟩
             · have hne : ad.block ≠ wr.heap.size + 1 := by omega
               have hne2 : ad.block ≠ wr.heap.size := by omega
               exact ⟨by have := k1.1; simpa using this, ((g5.other (B' := wr.heap.size) (by omega) (.int .i64 (L.tmod v))).trans h5.symm), fun x e => by cases e; exact ((Below.heap_setCell WU ⟨wr.heap.size, 0, none⟩ _ ad.block hne2).trans (k2.block _ hadwr))⟩
             · rw [hst]; exact g3.set (.int .i64 (L.tmod v))
             · rw [hst]; exact g4.other (B' := wr.heap.size) (by omega) (.int .i64 (L.tmod v))
             · exact g5.other (B' := wr.heap.size) (by omega) (.int .i64 (L.tmod v))
             · exact below_drew ((hB.trans (k2.mono (by omega))).setCell (p := ⟨wr.heap.size, 0, none⟩) (Nat.le_refl _) _))
        case done =>
          rintro D ys W hD rfl ⟨⟨h3, h4, h5⟩, hB⟩ hK
          rw [gst_all HT.out.range] at h3 h4
          have hBV : badAt a0 l1 i = (decide (0 < (gAll l1 i).1) || decide (a0 < (gAll l1 i).2)) := by
            unfold badAt; rw [HM.out]
            have : decide (m ≠ -1) = true := by
              have := hmb
              simp at this
              simp [this]
            rw [this]; rfl
          generalize gAll l1 (i : Int) = s at *
          obtain ⟨L, U⟩ := s
          dsimp only at *
          have c3 := h3.cell
          have c4 := h4.cell
          have HH := Lib.hid (⟨h3, h4, h5, hB, hK, hD⟩ : _ ∧ _ ∧ _ ∧ _ ∧ _ ∧ _)
          clear h3 h4 h5 hB hK hD
          by_cases cL : 0 < L
          · have HBV := Lib.hid (show badAt a0 l1 i = true by rw [hBV]; simp [cL])
            clear hBV
            gi_wp2
            obtain ⟨h3, h4, h5, hB, hK, hD⟩ := HH.out
            have hwr := HBL.out.size
            have hdl : ∀ E ∈ Ds, E < wr.heap.size := fun E hE => (Array.getElem?_eq_some_iff.1 (HDS.out E hE).2).1
            refine leaves_marks (B := w2.heap.size) (D :: Ds) W ?_ (List.nodup_cons.2 ⟨fun h => by have := hdl D h; omega, HND.out⟩) (fun W' hW' => ⟨.tuple #[.int .i64 i, .int .i64 0], by simp [results, Try.f36, go_sem], ⟨?_, HW2.out.trans (((HBL.out.trans (hB.mono hwr)).trans hW').mono hs2)⟩⟩) (by have := hB.size; omega)
            · intro E hE
              rcases List.mem_cons.1 hE with rfl | hE
              · exact ⟨by omega, hK⟩
              · exact ⟨(HDS.out E hE).1, (hB.block E (hdl E hE)).trans (HDS.out E hE).2⟩
            · have e1 : greedyV a0 l1 = ((i : Int), 0) := by
                unfold greedyV
                have hf : (List.range (tab a0 l1).length).find? (badAt a0 l1) = some i := List.find?_range_eq_some.2 ⟨HBV.out, by rw [HTN.out]; exact List.mem_range.2 hlt, fun j hj => by simp [HBAD.out j hj]⟩
                rw [if_pos HE.out, hf]
              rw [e1]
          · by_cases cU : a0 < U
            · have HBV := Lib.hid (show badAt a0 l1 i = true by rw [hBV]; simp [cU])
              clear hBV
              gi_wp2
              obtain ⟨h3, h4, h5, hB, hK, hD⟩ := HH.out
              have hwr := HBL.out.size
              have hdl : ∀ E ∈ Ds, E < wr.heap.size := fun E hE => (Array.getElem?_eq_some_iff.1 (HDS.out E hE).2).1
              refine leaves_marks (B := w2.heap.size) (D :: Ds) W ?_ (List.nodup_cons.2 ⟨fun h => by have := hdl D h; omega, HND.out⟩) (fun W' hW' => ⟨.tuple #[.int .i64 i, .int .i64 0], by simp [results, Try.f36, go_sem], ⟨?_, HW2.out.trans (((HBL.out.trans (hB.mono hwr)).trans hW').mono hs2)⟩⟩) (by have := hB.size; omega)
              · intro E hE
                rcases List.mem_cons.1 hE with rfl | hE
                · exact ⟨by omega, hK⟩
                · exact ⟨(HDS.out E hE).1, (hB.block E (hdl E hE)).trans (HDS.out E hE).2⟩
              · have e1 : greedyV a0 l1 = ((i : Int), 0) := by
                  unfold greedyV
                  have hf : (List.range (tab a0 l1).length).find? (badAt a0 l1) = some i := List.find?_range_eq_some.2 ⟨HBV.out, by rw [HTN.out]; exact List.mem_range.2 hlt, fun j hj => by simp [HBAD.out j hj]⟩
                  rw [if_pos HE.out, hf]
                rw [e1]
            · have HBV := Lib.hid (show badAt a0 l1 i = false by rw [hBV]; simp [cL, cU])
              clear hBV
              gi_wp2
              obtain ⟨h3, h4, h5, hB, hK, hD⟩ := HH.out
              have hwr := HBL.out.size
              have hdl : ∀ E ∈ Ds, E < wr.heap.size := fun E hE => (Array.getElem?_eq_some_iff.1 (HDS.out E hE).2).1
              refine ⟨⟨i + 1, by omega, _, _, _, _, _, _, _, _, _, _, _, _, _, _, _, _, _, _, _, _, _, _, D :: Ds, ⟨⟨rfl, rfl, rfl, rfl, by omega, rfl, rfl, rfl, rfl, rfl, rfl, rfl, rfl, rfl, rfl, rfl, rfl, rfl, rfl, rfl, rfl, rfl, rfl⟩, rfl⟩, HBL.out.trans (hB.mono hwr), ?_, List.nodup_cons.2 ⟨fun h => by have := hdl D h; omega, HND.out⟩, fun j hj => ?_⟩, ?_⟩
              · intro E hE
                rcases List.mem_cons.1 hE with rfl | hE
                · exact ⟨by omega, hK⟩
                · exact ⟨(HDS.out E hE).1, (hB.block E (hdl E hE)).trans (HDS.out E hE).2⟩
              · rcases Nat.lt_or_ge j i with h | h
                · exact HBAD.out j h
                · obtain rfl : j = i := by omega
                  exact HBV.out
              · simp [intOf]; omega
        case stop =>
          rintro D c pre W _ _ h _
          exact h.elim
    · gi_wp2
      obtain rfl : i = tn := by omega
      refine leaves_marks (B := w2.heap.size) Ds wr HDS.out HND.out (fun W' hW' => ⟨.tuple #[.int .i64 0, .int .i64 10], by simp [results, Try.f36, go_sem], ⟨?_, HW2.out.trans ((HBL.out.trans hW').mono hs2)⟩⟩) HBL.out.size
      have e1 : greedyV a0 l1 = (0, 10) := by
        unfold greedyV
        rw [if_pos HE.out, HTN.out, List.find?_range_eq_none.2 (fun j hj => by simp [HBAD.out j hj])]
      rw [e1]

theorem stamp_Greedy.calls (a0 : Int) (A1 : Option Addr) (c1 : Nat) (l1 : List Int) (r1 : Int) (r2 : Int) (w : World) (hr1 : Kd.C (Kd.int .i64) w A1 l1.length l1) (hc1 : l1.length ≤ c1) (h : stamp_Greedy.f a0 l1 = some (r1, r2)) :
    Calls Try.prog 36 #[.int .i64 a0, .slice A1 l1.length c1] w fun e w' => e = .returned (.tuple #[.int .i64 r1, .int .i64 r2]) ∧ Below w.heap.size w w' := by
  have h := Option.some.inj h
  by_cases he : ticketErr a0 l1 = 0
  · have := greedy_ok a0 A1 c1 l1 w hr1 hc1 he
    rw [h] at this; exact this
  · have h2 : greedyV a0 l1 = (0, ticketErr a0 l1) := by unfold greedyV; rw [if_neg he]
    rw [h2] at h; cases h
    exact greedy_err a0 A1 c1 l1 w hr1 hc1 he

end Go.Proofs.Ytcgblpjknkmoaaa.B
