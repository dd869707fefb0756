/- The closure of stamp.Best, which calls itself: the contract by induction on how many values are still to come. -/
import Derived.Test.YtcgblpjknkmoaaaGClone
import Derived.Test.YtcgblpjknkmoaaaBestV
import Derived.RangeFuncNested
import Derived.Deep.RegionHeld3
import Derived.Deep.RegionLawGrows
import Derived.Lib.Hide
namespace Go.Proofs.Ytcgblpjknkmoaaa.B
open Go.RowKit Go.Proofs.YtcgblpjknkmoaaaW.PrintWords Go.Proofs.YtcgblpjknkmoaaaW.PrintLast Go.Proofs.YtcgblpjknkmoaaaW.PrintMore
open Go.Proofs Go.Proofs.Ytcgblpjknkmoaaa.G

/-- the closure's five variables, in boxes B to B + 4, and the best so far -/
structure BSt (B : Nat) (h k : Int) (W : World) (st : List Int × Int) : Prop where
  bh : Boxed W B 3 (.int .i64 h)
  bk : Boxed W (B + 1) 3 (.int .i64 k)
  best : ∃ v, Boxed W (B + 2) 22 v ∧ W.ownsRow (B + 5) 3 1 v st.1.length (st.1.map (Value.int .i64))
  most : Boxed W (B + 3) 3 (.int .i64 st.2)
  on : Boxed W (B + 4) 58 (.func (.func 46) #[] #[.pointer (some ⟨B, 0, none⟩), .pointer (some ⟨B + 1, 0, none⟩), .pointer (some ⟨B + 3, 0, none⟩), .pointer (some ⟨B + 2, 0, none⟩), .pointer (some ⟨B + 4, 0, none⟩)])

theorem boxed_below {W W' : World} (h : Below W.heap.size W W') {b : Nat} {t : TypeId} {v : Value} (hb : Boxed W b t v) : Boxed W' b t v := (h.block b hb.lt).trans hb

theorem BSt.below {B : Nat} {h k : Int} {W W' : World} {st : List Int × Int} (s : BSt B h k W st) (hb : Below W.heap.size W W') : BSt B h k W' st := by
  obtain ⟨v, h1, h2⟩ := s.best
  exact ⟨boxed_below hb s.bh, boxed_below hb s.bk, ⟨v, boxed_below hb h1, pw_own_below h2 hb⟩, boxed_below hb s.most, boxed_below hb s.on⟩
theorem BSt.size {B : Nat} {h k : Int} {W : World} {st : List Int × Int} (s : BSt B h k W st) : B + 5 ≤ W.heap.size := s.on.lt

/-- what a call of the closure leaves alone -/
def BFr (B : Nat) (W W' : World) : Prop := Below B W W' ∧ ∀ j, B ≤ j → j ≠ B + 2 → j ≠ B + 3 → j < W.heap.size → W'.heap[j]? = W.heap[j]?
theorem BFr.refl (B : Nat) (W : World) : BFr B W W := ⟨Below.refl _ _, fun _ _ _ _ _ => rfl⟩
theorem BFr.trans {B : Nat} {X Y Z : World} (h : BFr B X Y) (k : BFr B Y Z) : BFr B X Z := ⟨h.1.trans k.1, fun j a b c d => (k.2 j a b c (Nat.lt_of_lt_of_le d h.1.size)).trans (h.2 j a b c d)⟩
theorem BFr.of_below {B : Nat} {W W' : World} (hB : B ≤ W.heap.size) (h : Below W.heap.size W W') : BFr B W W' := ⟨h.mono hB, fun j _ _ _ d => h.block j d⟩
theorem BFr.size {B : Nat} {W W' : World} (h : BFr B W W') : W.heap.size ≤ W'.heap.size := h.1.size
theorem BFr.block {B : Nat} {W W' : World} (h : BFr B W W') {j : Nat} (h2 : j ≠ B + 2) (h3 : j ≠ B + 3) (hj : j < W.heap.size) : W'.heap[j]? = W.heap[j]? := by
  rcases Nat.lt_or_ge j B with h0 | h0
  · exact h.1.block j h0
  · exact h.2 j h0 h2 h3 hj

theorem BFr.setCell {B : Nat} {W W' : World} (h : BFr B W W') {b : Nat} (hb : b = B + 2 ∨ b = B + 3) (v : Value) : BFr B W (W'.setCell ⟨b, 0, none⟩ v) :=
  ⟨h.1.setCell (p := ⟨b, 0, none⟩) (by simp; omega) v, fun j a c d e => (Below.heap_setCell _ _ _ j (show j ≠ b by omega)).trans (h.2 j a c d e)⟩
theorem BSt.best_set {B : Nat} {h k : Int} {W : World} {l0 : List Int} {m m' : Int} (s : BSt B h k W (l0, m)) {v : Value} {l : List Int} (ho : W.ownsRow (B + 5) 3 1 v l.length (l.map (Value.int .i64))) :
    BSt B h k ((W.setCell ⟨B + 2, 0, none⟩ v).setCell ⟨B + 3, 0, none⟩ (.int .i64 m')) (l, m') := by
  obtain ⟨v0, h1, h2⟩ := s.best
  have o1 : (W.setCell ⟨B + 2, 0, none⟩ v).ownsRow (B + 5) 3 1 v l.length (l.map (Value.int .i64)) := own_setCell ho (fun e => by have : B + 5 ≤ B + 2 := own_base ho _ e.symm; omega) _
  exact ⟨(s.bh.other (by omega) _).other (by omega) _, (s.bk.other (by omega) _).other (by omega) _, ⟨v, (h1.set v).other (by omega) _, own_setCell o1 (fun e => by have : B + 5 ≤ B + 3 := own_base ho _ e.symm; omega) _⟩,
    (s.most.other (by omega) _).set _, (s.on.other (by omega) _).other (by omega) _⟩

def AwayB (B : Nat) (A : Option Addr) : Prop := ∀ ad, A = some ad → ad.block ≠ B + 2 ∧ ad.block ≠ B + 3
theorem C_frame {B : Nat} {W W' : World} {A : Option Addr} {n : Nat} {l : List Int} (h : Kd.C (Kd.int .i64) W A n l) (ha : AwayB B A) (hf : BFr B W W') : Kd.C (Kd.int .i64) W' A n l := by
  refine ⟨h.1, h.2.1, fun hn => ?_⟩
  obtain ⟨ad, e, hc⟩ := h.2.2 hn
  refine ⟨ad, e, fun j p hj => ?_⟩
  obtain ⟨c, hs, hr, hcell⟩ := hc j p hj
  refine ⟨c, hs, hr, fun i u hu => ?_⟩
  have h1 := hcell i u hu
  have hlt := World.block_lt_of_cell? W _ h1
  rw [add_block] at hlt
  have a := ha ad e
  exact (World.cell?_of_block (by rw [add_block]; exact hf.block a.1 a.2 hlt)).trans h1

def onArgs (B : Nat) (A : Option Addr) (n c : Nat) : Array Value := #[.slice A n c, .pointer (some ⟨B, 0, none⟩), .pointer (some ⟨B + 1, 0, none⟩), .pointer (some ⟨B + 3, 0, none⟩), .pointer (some ⟨B + 2, 0, none⟩), .pointer (some ⟨B + 4, 0, none⟩)]

set_option maxHeartbeats 4000000 in
set_option maxRecDepth 100000 in
theorem best1_zero (B : Nat) (h k : Int) (l : List Int) (A : Option Addr) (c : Nat) (st : List Int × Int) (W : World) (tk : Tick h l) (hk : (l.length : Int) = k) (hst : BSt B h k W st)
    (hr : Kd.C (Kd.int .i64) W A l.length l) (hc : l.length ≤ c) (ha : AwayB B A) :
    Calls Try.prog 46 (onArgs B A l.length c) W fun e W' => e = .returned (.tuple #[]) ∧ BSt B h k W' (bestGo 0 h l st) ∧ BFr B W W' := by
  have hreach := reach_f tk 10000 (Nat.le_refl _)
  have hlen := tk.len
  have hE : bestGo 0 h l st = if st.2 < rangeV h l then (l, rangeV h l) else st := rfl
  generalize rangeV h l = rg at *
  have HE := Lib.hid hE
  have HRe := Lib.hid hreach
  have HS := Lib.hid hst
  have HR := Lib.hid hr
  have HC := Lib.hid hc
  have HA := Lib.hid ha
  have ch := hst.bh.cell
  have hkb : ((l.length : Int) == k) = true := by simp [hk]
  have hsz := hst.size
  clear hE hreach hst hr hc ha hk tk
  unfold onArgs
  by_cases hgt : st.2 < rg
  · go_enter Try.func46, Try.ntmps46
    go_wp2_with (first | (go_at_call 47; refine (stamp_reach.calls 10000 h A c l rg W HR.out HC.out HRe.out).mono ?_; rintro e W1 ⟨rfl, hb1⟩; have HB1 := Lib.hid hb1; have HS1 := Lib.hid (HS.out.below hb1); have HR1 := Lib.hid (Kd.C_below HR.out hb1); clear hb1; have ck := HS1.out.bk.cell; have cm := HS1.out.most.cell) | (go_at_call 43; refine (clone_calls A c l W1 HR1.out HC.out (by omega)).mono ?_; rintro e W2 ⟨v, rfl, hR2, hb2⟩; obtain ⟨A2, c2, rfl, hle2, hC2⟩ := Kd.R_reads hR2; have HB2 := Lib.hid hb2; have HS2 := Lib.hid (HS1.out.below hb2); have HR2 := Lib.hid hR2; clear hb2 hR2 hC2 hle2; obtain ⟨bv, hbv, hbo⟩ := HS2.out.best; have HBO := Lib.hid hbo; have HBV := Lib.hid hbv; have cb2 := hbv.cell; have fb2 := hbv.frozen; have cm2 := HS2.out.most.cell; have fm2 := HS2.out.most.frozen; clear hbv hbo))
    refine bodyPost_ret (results_none rfl _ _ _) rfl ?_
    have ho : W2.ownsRow (B + 5) 3 1 (.slice A2 l.length c2) l.length (l.map (Value.int .i64)) := own_weaken (Kd.own_of_R HR2.out) (by have := HB1.out.size; omega)
    have f1 : BFr B W W2 := (BFr.of_below (by omega) HB1.out).trans (BFr.of_below (by have := HB1.out.size; omega) HB2.out)
    rw [HE.out, if_pos hgt]
    exact ⟨rfl, HS2.out.best_set (l0 := st.1) (m := st.2) ho, (f1.setCell (.inl rfl) _).setCell (.inr rfl) _⟩
  · have hge : rg ≤ st.2 := by omega
    clear hgt
    go_enter Try.func46, Try.ntmps46
    go_wp2_with (first | (go_at_call 47; refine (stamp_reach.calls 10000 h A c l rg W HR.out HC.out HRe.out).mono ?_; rintro e W1 ⟨rfl, hb1⟩; have HB1 := Lib.hid hb1; have HS1 := Lib.hid (HS.out.below hb1); clear hb1; have ck := HS1.out.bk.cell; have cm := HS1.out.most.cell))
    refine bodyPost_ret (results_none rfl _ _ _) rfl ?_
    rw [HE.out, if_neg (by omega)]
    exact ⟨rfl, HS1.out, BFr.of_below (by omega) HB1.out⟩

end Go.Proofs.Ytcgblpjknkmoaaa.B
