/- The closure of stamp.Best, which calls itself: the contract by induction on how many values are still to come. The closure of stamp.Best at any number of values to come. stamp.Best: what it returns, in new memory. -/
import Derived.Test.YtcgblpjknkmoaaaGBase
import Derived.Test.YtcgblpjknkmoaaaEv
import Derived.RangeFuncNested
import Derived.Deep.RegionHeld3
import Derived.Deep.RegionLawGrows
import Derived.Lib.Hide
import Derived.Maps.AppendAt
import Derived.Laws.EntriesVeiled
namespace Go.Proofs.Ytcgblpjknkmoaaa.B
open Go.RowKit Go.Proofs.YtcgblpjknkmoaaaW.PrintWords Go.Proofs.YtcgblpjknkmoaaaW.PrintLast Go.Proofs.YtcgblpjknkmoaaaW.PrintMore
open Go.Proofs Go.Proofs.Ytcgblpjknkmoaaa.G

/-- the closure's five variables, in boxes B to B + 4, and the best so far -/
structure BSt (B : Nat) (h k : Int) (W : World) (st : List Int × Int) : Prop where
  bh : Boxed W B 3 (.int .i64 h)
  bk : Boxed W (B + 1) 3 (.int .i64 k)
  best : ∃ v, Boxed W (B + 2) 22 v ∧ W.ownsRow (B + 5) 3 1 v st.1.length (st.1.map (Value.int .i64))
  most : Boxed W (B + 3) 3 (.int .i64 st.2)
  on : Boxed W (B + 4) 58 (.func (.func 46) #[] #[.pointer (some ⟨B, 0, none⟩), .pointer (some ⟨B + 1, 0, none⟩), .pointer (some ⟨B + 3, 0, none⟩), .pointer (some ⟨B + 2, 0, none⟩), .pointer (some ⟨B + 4, 0, none⟩)])

theorem boxed_below {W W' : World} (h : Below W.heap.size W W') {b : Nat} {t : TypeId} {v : Value} (hb : Boxed W b t v) : Boxed W' b t v := (h.block b hb.lt).trans hb

theorem BSt.below {B : Nat} {h k : Int} {W W' : World} {st : List Int × Int} (s : BSt B h k W st) (hb : Below W.heap.size W W') : BSt B h k W' st := by
  obtain ⟨v, h1, h2⟩ := s.best
  exact ⟨boxed_below hb s.bh, boxed_below hb s.bk, ⟨v, boxed_below hb h1, pw_own_below h2 hb⟩, boxed_below hb s.most, boxed_below hb s.on⟩
theorem BSt.size {B : Nat} {h k : Int} {W : World} {st : List Int × Int} (s : BSt B h k W st) : B + 5 ≤ W.heap.size := s.on.lt

/-- what a call of the closure leaves alone -/
def BFr (B : Nat) (W W' : World) : Prop := Below B W W' ∧ ∀ j, B ≤ j → j ≠ B + 2 → j ≠ B + 3 → j < W.heap.size → W'.heap[j]? = W.heap[j]?
theorem BFr.refl (B : Nat) (W : World) : BFr B W W := ⟨Below.refl _ _, fun _ _ _ _ _ => rfl⟩
theorem BFr.trans {B : Nat} {X Y Z : World} (h : BFr B X Y) (k : BFr B Y Z) : BFr B X Z := ⟨h.1.trans k.1, fun j a b c d => (k.2 j a b c (Nat.lt_of_lt_of_le d h.1.size)).trans (h.2 j a b c d)⟩
theorem BFr.of_below {B : Nat} {W W' : World} (hB : B ≤ W.heap.size) (h : Below W.heap.size W W') : BFr B W W' := ⟨h.mono hB, fun j _ _ _ d => h.block j d⟩
theorem BFr.size {B : Nat} {W W' : World} (h : BFr B W W') : W.heap.size ≤ W'.heap.size := h.1.size
theorem BFr.block {B : Nat} {W W' : World} (h : BFr B W W') {j : Nat} (h2 : j ≠ B + 2) (h3 : j ≠ B + 3) (hj : j < W.heap.size) : W'.heap[j]? = W.heap[j]? := by
  rcases Nat.lt_or_ge j B with h0 | h0
  · exact h.1.block j h0
  · exact h.2 j h0 h2 h3 hj

theorem BFr.setCell {B : Nat} {W W' : World} (h : BFr B W W') {b : Nat} (hb : b = B + 2 ∨ b = B + 3) (v : Value) : BFr B W (W'.setCell ⟨b, 0, none⟩ v) :=
  ⟨h.1.setCell (p := ⟨b, 0, none⟩) (by simp; omega) v, fun j a c d e => (Below.heap_setCell _ _ _ j (show j ≠ b by omega)).trans (h.2 j a c d e)⟩
theorem BSt.best_set {B : Nat} {h k : Int} {W : World} {l0 : List Int} {m m' : Int} (s : BSt B h k W (l0, m)) {v : Value} {l : List Int} (ho : W.ownsRow (B + 5) 3 1 v l.length (l.map (Value.int .i64))) :
    BSt B h k ((W.setCell ⟨B + 2, 0, none⟩ v).setCell ⟨B + 3, 0, none⟩ (.int .i64 m')) (l, m') := by
  obtain ⟨v0, h1, h2⟩ := s.best
  have o1 : (W.setCell ⟨B + 2, 0, none⟩ v).ownsRow (B + 5) 3 1 v l.length (l.map (Value.int .i64)) := own_setCell ho (fun e => by have : B + 5 ≤ B + 2 := own_base ho _ e.symm; omega) _
  exact ⟨(s.bh.other (by omega) _).other (by omega) _, (s.bk.other (by omega) _).other (by omega) _, ⟨v, (h1.set v).other (by omega) _, own_setCell o1 (fun e => by have : B + 5 ≤ B + 3 := own_base ho _ e.symm; omega) _⟩,
    (s.most.other (by omega) _).set _, (s.on.other (by omega) _).other (by omega) _⟩

def AwayB (B : Nat) (A : Option Addr) : Prop := ∀ ad, A = some ad → ad.block ≠ B + 2 ∧ ad.block ≠ B + 3
theorem C_frame {B : Nat} {W W' : World} {A : Option Addr} {n : Nat} {l : List Int} (h : Kd.C (Kd.int .i64) W A n l) (ha : AwayB B A) (hf : BFr B W W') : Kd.C (Kd.int .i64) W' A n l := by
  refine ⟨h.1, h.2.1, fun hn => ?_⟩
  obtain ⟨ad, e, hc⟩ := h.2.2 hn
  refine ⟨ad, e, fun j p hj => ?_⟩
  obtain ⟨c, hs, hr, hcell⟩ := hc j p hj
  refine ⟨c, hs, hr, fun i u hu => ?_⟩
  have h1 := hcell i u hu
  have hlt := World.block_lt_of_cell? W _ h1
  rw [G.add_block] at hlt
  have a := ha ad e
  exact (World.cell?_of_block (by rw [G.add_block]; exact hf.block a.1 a.2 hlt)).trans h1

def onArgs (B : Nat) (A : Option Addr) (n c : Nat) : Array Value := #[.slice A n c, .pointer (some ⟨B, 0, none⟩), .pointer (some ⟨B + 1, 0, none⟩), .pointer (some ⟨B + 3, 0, none⟩), .pointer (some ⟨B + 2, 0, none⟩), .pointer (some ⟨B + 4, 0, none⟩)]

set_option maxHeartbeats 4000000 in
set_option maxRecDepth 100000 in
theorem best1_zero (B : Nat) (h k : Int) (l : List Int) (A : Option Addr) (c : Nat) (st : List Int × Int) (W : World) (tk : Tick h l) (hk : (l.length : Int) = k) (hst : BSt B h k W st)
    (hr : Kd.C (Kd.int .i64) W A l.length l) (hc : l.length ≤ c) (ha : AwayB B A) :
    Calls Try.prog 46 (onArgs B A l.length c) W fun e W' => e = .returned (.tuple #[]) ∧ BSt B h k W' (bestGo 0 h l st) ∧ BFr B W W' := by
  have hreach := reach_f tk 10000 (Nat.le_refl _)
  have hlen := tk.len
  have hE : bestGo 0 h l st = if st.2 < rangeV h l then (l, rangeV h l) else st := rfl
  generalize rangeV h l = rg at *
  have HE := Lib.hid hE
  have HRe := Lib.hid hreach
  have HS := Lib.hid hst
  have HR := Lib.hid hr
  have HC := Lib.hid hc
  have HA := Lib.hid ha
  have ch := hst.bh.cell
  have hkb : ((l.length : Int) == k) = true := by simp [hk]
  have hsz := hst.size
  clear hE hreach hst hr hc ha hk tk
  unfold onArgs
  by_cases hgt : st.2 < rg
  · go_enter Try.func46, Try.ntmps46
    go_wp2_with (first | (go_at_call 47; refine (stamp_reach.calls 10000 h A c l rg W HR.out HC.out HRe.out).mono ?_; rintro e W1 ⟨rfl, hb1⟩; have HB1 := Lib.hid hb1; have HS1 := Lib.hid (HS.out.below hb1); have HR1 := Lib.hid (Kd.C_below HR.out hb1); clear hb1; have ck := HS1.out.bk.cell; have cm := HS1.out.most.cell) | (go_at_call 43; refine (clone_calls A c l W1 HR1.out HC.out (by omega)).mono ?_; rintro e W2 ⟨v, rfl, hR2, hb2⟩; obtain ⟨A2, c2, rfl, hle2, hC2⟩ := Kd.R_reads hR2; have HB2 := Lib.hid hb2; have HS2 := Lib.hid (HS1.out.below hb2); have HR2 := Lib.hid hR2; clear hb2 hR2 hC2 hle2; obtain ⟨bv, hbv, hbo⟩ := HS2.out.best; have HBO := Lib.hid hbo; have HBV := Lib.hid hbv; have cb2 := hbv.cell; have fb2 := hbv.frozen; have cm2 := HS2.out.most.cell; have fm2 := HS2.out.most.frozen; clear hbv hbo))
    refine bodyPost_ret (results_none rfl _ _ _) rfl ?_
    have ho : W2.ownsRow (B + 5) 3 1 (.slice A2 l.length c2) l.length (l.map (Value.int .i64)) := own_weaken (Kd.own_of_R HR2.out) (by have := HB1.out.size; omega)
    have f1 : BFr B W W2 := (BFr.of_below (by omega) HB1.out).trans (BFr.of_below (by have := HB1.out.size; omega) HB2.out)
    rw [HE.out, if_pos hgt]
    exact ⟨rfl, HS2.out.best_set (l0 := st.1) (m := st.2) ho, (f1.setCell (.inl rfl) _).setCell (.inr rfl) _⟩
  · have hge : rg ≤ st.2 := by omega
    clear hgt
    go_enter Try.func46, Try.ntmps46
    go_wp2_with (first | (go_at_call 47; refine (stamp_reach.calls 10000 h A c l rg W HR.out HC.out HRe.out).mono ?_; rintro e W1 ⟨rfl, hb1⟩; have HB1 := Lib.hid hb1; have HS1 := Lib.hid (HS.out.below hb1); clear hb1; have ck := HS1.out.bk.cell; have cm := HS1.out.most.cell))
    refine bodyPost_ret (results_none rfl _ _ _) rfl ?_
    rw [HE.out, if_neg (by omega)]
    exact ⟨rfl, HS1.out, BFr.of_below (by omega) HB1.out⟩

end Go.Proofs.Ytcgblpjknkmoaaa.B

namespace Go.Proofs.Ytcgblpjknkmoaaa.B
open Go.RowKit Go.Proofs.YtcgblpjknkmoaaaW.PrintWords Go.Proofs.YtcgblpjknkmoaaaW.PrintLast Go.Proofs.YtcgblpjknkmoaaaW.PrintMore
open Go.Proofs Go.Proofs.Ytcgblpjknkmoaaa.G

def bestUp (m : Nat) (h : Int) (l : List Int) (st : List Int × Int) (j : Nat) : List Int × Int := ((List.range j).map (valAt l)).foldl (fun s v => bestGo m h (l ++ [v]) s) st
theorem bestUp_succ (m : Nat) (h : Int) (l : List Int) (st : List Int × Int) (j : Nat) : bestUp m h l st (j + 1) = bestGo m h (l ++ [valAt l j]) (bestUp m h l st j) := by
  simp [bestUp, List.range_succ, List.foldl_append]
theorem bestUp_all (m : Nat) (h : Int) (l : List Int) (st : List Int × Int) : bestGo (m + 1) h l st = bestUp m h l st (valCnt h l) := rfl

/-- the contract, for values with n more to come -/
def OnSaid (B : Nat) (h k : Int) (n : Nat) : Prop := ∀ (l : List Int) (A : Option Addr) (c : Nat) (st : List Int × Int) (W : World), Tick h l → (l.length : Int) + n = k → l.length + n ≤ 4 → lastV l ≤ Lb h (l.length - 1) → Lb h (l.length + n - 1) ≤ 200 →
  BSt B h k W st → Kd.C (Kd.int .i64) W A l.length l → l.length ≤ c → AwayB B A →
  Calls Try.prog 46 (onArgs B A l.length c) W fun e W' => e = .returned (.tuple #[]) ∧ BSt B h k W' (bestGo n h l st) ∧ BFr B W W'

theorem on_zero (B : Nat) (h k : Int) : OnSaid B h k 0 := fun l A c st W tk hk _ _ _ hst hr hc ha => best1_zero B h k l A c st W tk (by simpa using hk) hst hr hc ha

set_option maxHeartbeats 8000000 in
set_option maxRecDepth 100000 in
theorem on_succ (B : Nat) (h k : Int) (m : Nat) (ih : OnSaid B h k m) : OnSaid B h k (m + 1) := by
  intro l A c st W tk hk hk4 hlb hLb hst hr hc ha
  have hreach := reach_f tk 10000 (Nat.le_refl _)
  have hE := bestUp_all m h l st
  obtain ⟨p, hp⟩ : ∃ p, l.length = p + 1 := ⟨l.length - 1, by have := tk.pos; omega⟩
  obtain ⟨ad, rfl, hcells⟩ : ∃ ad, A = some ad ∧ ∀ j : Nat, j < l.length → W.cell? (ad.add j) = some (.int .i64 (rd l (j : Int))) := by
    obtain ⟨ad, e, _⟩ := hr.2.2 tk.pos
    refine ⟨ad, e, fun j hj => ?_⟩
    obtain ⟨ad', e', hx⟩ := Kd.at_int hr (j : Int) (by omega) (by omega)
    rw [e] at e'; cases e'
    simpa using hx
  have hlast : rd l (p : Int) = lastV l := by unfold lastV; congr 1; omega
  have hl0 := hcells p (by omega)
  rw [hlast] at hl0
  have hspec := rangeV_spec tk
  have hcntv : ∀ j, j < valCnt h l → lastV l < valAt l j ∧ valAt l j ≤ 200 := fun j hj => by
    obtain ⟨a, b⟩ := valAt_bound tk hj
    have c1 : valAt l j ≤ Lb h l.length := by
      have e : l.length = (l.length - 1) + 1 := by omega
      rw [e]; simp only [Lb]
      have := Int.mul_le_mul_of_nonneg_left hlb (show 0 ≤ h by have := tk.h1; omega)
      omega
    have c2 : Lb h l.length ≤ Lb h (l.length + (m + 1) - 1) := Lb_mono tk.h1 (by omega)
    exact ⟨a, by omega⟩
  have hlb2 : ∀ j, j < valCnt h l → valAt l j ≤ Lb h l.length := fun j hj => by
    obtain ⟨a, b⟩ := valAt_bound tk hj
    have e : l.length = (l.length - 1) + 1 := by omega
    rw [e]; simp only [Lb]
    have := Int.mul_le_mul_of_nonneg_left hlb (show 0 ≤ h by have := tk.h1; omega)
    omega
  have htk : ∀ j, j < valCnt h l → Tick h (l ++ [valAt l j]) := fun j hj => tk.append (by omega) (hcntv j hj).1 (hcntv j hj).2
  have hla := tk.last_range
  have htop := tk.top
  have hcnt : (valCnt h l : Int) = rangeV h l + 1 - lastV l ∨ (valCnt h l = 0 ∧ rangeV h l + 1 < lastV l) := by unfold valCnt; omega
  have hkb : ((l.length : Int) == k) = false := by simp; omega
  have g1 : 0 ≤ rangeV h l := hspec.1
  have g2 : rangeV h l ≤ 1200 := by omega
  have g3 : 1 ≤ lastV l := hla.1
  have g4 : lastV l ≤ 200 := hla.2
  have HCV := Lib.hid (⟨hcntv, hlb2, htk⟩ : _ ∧ _ ∧ _)
  have hvat : ∀ j, valAt l j = lastV l + 1 + j := fun j => rfl
  have HVA := Lib.hid hvat
  generalize rangeV h l = rg at *
  generalize valCnt h l = cnt at *
  generalize lastV l = la at *
  have HE := Lib.hid hE
  have HRe := Lib.hid hreach
  have HS := Lib.hid hst
  have HR := Lib.hid hr
  have HC := Lib.hid hc
  have HA := Lib.hid ha
  have HK := Lib.hid (⟨hk, hk4, hLb⟩ : _ ∧ _ ∧ _)
  have HN := Lib.hid hp
  have HCE := Lib.hid hcells
  have HCN := Lib.hid hcnt
  have ch := hst.bh.cell
  have hsz := hst.size
  have hpc : p + 1 ≤ c := by omega
  have hp3 : p ≤ 3 := by omega
  have hkb2 : ((p : Int) + 1 == k) = false := by rw [hp] at hkb; simpa using hkb
  clear hkb
  unfold onArgs
  rw [hp]
  clear hE hreach hst hr hc ha hk hk4 hlb hLb hcells hspec hcntv hlb2 htk hla htop hcnt hvat hlast
  clear tk hp
  go_enter Try.func46, Try.ntmps46
  go_wp2_with (first | (go_at_call 47; refine (show Calls Try.prog 47 #[.int .i64 h, .slice (some ad) (p + 1) c] W _ from (by have := stamp_reach.calls 10000 h (some ad) c l rg W HR.out HC.out HRe.out; rw [HN.out] at this; exact this)).mono ?_; rintro e W1 ⟨rfl, hb1⟩; have HB1 := Lib.hid hb1; have HS1 := Lib.hid (HS.out.below hb1); have HR1 := Lib.hid (Kd.C_below HR.out hb1); have ck := HS1.out.bk.cell; have hl1 : W1.cell? (ad.add p) = some (.int .i64 la) := pw_cell_below hb1 hl0; clear hb1))
  go_loopw [8] (fun v wr => ∃ j : Nat, j ≤ cnt ∧ v = .int .i64 (la + 1 + j) ∧ BSt B h k wr (bestUp m h l st j) ∧ BFr B W wr) (fun v _ => (rg + 2 - intOf v).toNat)
  case atStart => exact ⟨0, Nat.zero_le _, by simp, HS1.out, BFr.of_below (by omega) HB1.out⟩
  case round =>
    obtain ⟨j, hj, rfl, hs, hf⟩ := hrel
    have HSj := Lib.hid hs
    have HFj := Lib.hid hf
    by_cases hlt : j < cnt
    · have hle : la + 1 + (j : Int) ≤ rg + 1 := by have := HCN.out; omega
      have con := hs.on.cell
      have hv2 : la + 1 + (j : Int) ≤ 200 := by have := (HCV.out.1 j hlt).2; rw [HVA.out] at this; exact this
      have hIH : ∀ (g' cap' : Nat) (Wx : World), BSt B h k Wx (bestUp m h l st j) → Wx.ownsRow (B + 5) 3 1 (.slice (some ⟨g', 0, none⟩) (p + 1 + 1) cap') (p + 1 + 1) ((l ++ [la + 1 + (j : Int)]).map (Value.int .i64)) →
          Calls Try.prog 46 #[.slice (some ⟨g', 0, none⟩) (p + 1 + 1) cap', .pointer (some ⟨B, 0, none⟩), .pointer (some ⟨B + 1, 0, none⟩), .pointer (some ⟨B + 3, 0, none⟩), .pointer (some ⟨B + 2, 0, none⟩), .pointer (some ⟨B + 4, 0, none⟩)] Wx
            fun e W' => e = .returned (.tuple #[]) ∧ BSt B h k W' (bestUp m h l st (j + 1)) ∧ BFr B Wx W' := fun g' cap' Wx hsx hox => by
        have hlen2 : (l ++ [valAt l j]).length = p + 1 + 1 := by simp [HN.out]
        obtain ⟨k1, k2, k3⟩ := HK.out
        rw [← HVA.out] at hox
        have hR : Kd.R (Kd.int .i64) 3 Wx (B + 5) (fun _ => True) (.slice (some ⟨g', 0, none⟩) (p + 1 + 1) cap') (l ++ [valAt l j]) := Kd.R_of_own (by rw [hlen2]; exact hox) (fun _ _ => trivial)
        have hC := Kd.R_reads' hR
        have := ih (l ++ [valAt l j]) (some ⟨g', 0, none⟩) cap' (bestUp m h l st j) Wx (HCV.out.2.2 j hlt) (by rw [hlen2]; have := HN.out; omega) (by rw [hlen2]; have := HN.out; omega)
          (by rw [lastV_append, hlen2]; have h1 := HCV.out.2.1 j hlt; have h2 := HN.out; rw [h2] at h1; exact h1)
          (by rw [hlen2]; have h2 := HN.out; have e : p + 1 + 1 + m - 1 = l.length + (m + 1) - 1 := by omega
              rw [e]; exact k3)
          hsx (by rw [hlen2]; rw [hlen2] at hC; exact hC.2.2) (by rw [hlen2]; exact hC.2.1) (fun ad e => by cases e; have : B + 5 ≤ g' := own_base hox _ rfl; exact ⟨by simp; omega, by simp; omega⟩)
        rw [bestUp_succ]
        unfold onArgs at this
        rw [hlen2] at this
        exact this
      have HIH := Lib.hid hIH
      obtain ⟨i0, hi, hz0, hz1, hz2⟩ := info_parts info3
      have hwsz : B + 5 ≤ wr.heap.size := hs.size
      have holds : ∀ jj u, (l.map (Value.int .i64))[jj]? = some u → wr.cell? (ad.add jj) = some u := fun jj u hu => by
        rw [List.getElem?_map, Option.map_eq_some_iff] at hu
        obtain ⟨x, hx, rfl⟩ := hu
        have hjl : jj < l.length := (List.getElem?_eq_some_iff.1 hx).1
        have h1 := HCE.out jj hjl
        have e1 : rd l (jj : Int) = x := by rw [rd_nat, List.getD_eq_getElem?_getD, hx]; rfl
        rw [e1] at h1
        have hlt2 := World.block_lt_of_cell? W _ h1
        rw [G.add_block] at hlt2
        obtain ⟨a1, a2⟩ := HA.out ad rfl
        exact (World.cell?_of_block (by rw [G.add_block]; exact HFj.out.block a1 a2 hlt2)).trans h1
      have HHO := Lib.hid holds
      have hadw : ad.block < wr.heap.size := by
        have h1 := HCE.out p (by have := HN.out; omega)
        have hlt2 := World.block_lt_of_cell? W _ h1
        rw [G.add_block] at hlt2
        exact Nat.lt_of_lt_of_le hlt2 HFj.out.size
      have q1 : (0 : Int) ≤ (p : Int) + 1 := by omega
      have q2 : (p : Int) + 1 ≤ (c : Int) := by omega
      clear hs hf hIH holds
      go_wp2_with fail
      go_region_held3 (fun w' => w'.cell? ⟨B + 4, 0, none⟩ = some (.func (.func 46) #[] #[.pointer (some ⟨B, 0, none⟩), .pointer (some ⟨B + 1, 0, none⟩), .pointer (some ⟨B + 3, 0, none⟩), .pointer (some ⟨B + 2, 0, none⟩), .pointer (some ⟨B + 4, 0, none⟩)]))
        (first | exact con | exact con1 | go_keep)
        (first
          | (refine step_append_grows (by rfl) (.tmp 41) (.tmp 43) 22 (by rfl) 3 i0 (.int .i64 0) 1 8 Try.underlying22 hi hz0 hz1 hz2 rfl (by decide) (some ad) (p + 1) (p + 1) (l.map (Value.int .i64)) (by rfl) (by simp) ?h1 ?h2 ⟨wr.heap.size, 0, none⟩ 1 1 [.int .i64 (la + 1 + (j : Int))] (by rfl) (by rfl) ?h3 (by simp [Value.oneCell']) (by omega) (by unfold maxLen; omega) (by omega) ?_; (case h1 => simp [HN.out]); (case h2 => intro b eb jj u hu; cases eb; exact pw_cell_below ((Below.refl _ wr).alloc (Nat.le_refl _) (.cells #[.int .i64 (la + 1 + (j : Int))] 3)) (HHO.out jj u hu)); (case h3 => exact (World.news_of_block (cs := #[.int .i64 (la + 1 + (j : Int))]) (t := 3) (fr := (0, 0)) (heap_alloc_new wr _))); intro v' w1 hown hgrow; obtain ⟨g', cap', rfl⟩ := ownsRow_succ hown; have hbw : Below wr.heap.size wr w1 := (below_drew ((Below.refl _ wr).alloc (Nat.le_refl _) (.cells #[.int .i64 (la + 1 + (j : Int))] 3))).grown hgrow (by simp) (fun k e => by cases e); have HS2 := Lib.hid (HSj.out.below hbw); have HO2 := Lib.hid (own_weaken hown (show B + 5 ≤ _ by simp; omega)); have HBW := Lib.hid hbw; have con1 := HS2.out.on.cell; clear hown hgrow)
          | (go_at_call 46; refine (HIH.out g' cap' _ HS2.out (by have := HO2.out; simpa using this)).mono ?_; rintro e W3 ⟨rfl, hs3, hf3⟩; have HS3 := Lib.hid hs3; have HF3 := Lib.hid hf3; have con1 := HS3.out.on.cell; clear hs3 hf3))
      go_wp2
      go_roundw
      case rel => exact ⟨j + 1, by omega, by congr 1; omega, HS3.out, HFj.out.trans ((BFr.of_below (by omega) HBW.out).trans HF3.out)⟩
      case measure => simp [intOf]; omega
    · have hgt : rg + 1 < la + 1 + (j : Int) := by have := HCN.out; omega
      clear hs hf
      go_wp2
      go_end0
      rw [HE.out]
      obtain rfl : j = cnt := by omega
      exact ⟨rfl, HSj.out, HFj.out⟩

end Go.Proofs.Ytcgblpjknkmoaaa.B

namespace Go.Proofs.Ytcgblpjknkmoaaa.B
open Go.RowKit Go.Proofs.YtcgblpjknkmoaaaW.PrintWords Go.Proofs.YtcgblpjknkmoaaaW.PrintLast Go.Proofs.YtcgblpjknkmoaaaW.PrintMore
open Go.Proofs Go.Proofs.Ytcgblpjknkmoaaa.G

def stamp_Best.f (a0 : Int) (a1 : Int) : Option (List Int × Int × Int) := some (bestV a0 a1)

theorem on_all (B : Nat) (h k : Int) : ∀ n, OnSaid B h k n
  | 0 => on_zero B h k
  | n + 1 => on_succ B h k n (on_all B h k n)

def onFn (B : Nat) : Value := .func (.func 46) #[] #[.pointer (some ⟨B, 0, none⟩), .pointer (some ⟨B + 1, 0, none⟩), .pointer (some ⟨B + 3, 0, none⟩), .pointer (some ⟨B + 2, 0, none⟩), .pointer (some ⟨B + 4, 0, none⟩)]

theorem bestErr_false {h k : Int} (e : bestErr h k = false) : 1 ≤ h ∧ h ≤ 6 ∧ 1 ≤ k ∧ k ≤ 4 ∧ h * k ≤ 16 := by
  simp [bestErr] at e; omega

set_option maxHeartbeats 4000000 in
set_option maxRecDepth 100000 in
theorem best_err (h k : Int) (w : World) (he : bestErr h k = true) :
    Calls Try.prog 20 #[.int .i64 h, .int .i64 k] w fun e w' => ∃ v0_ : Value, e = .returned (.tuple #[v0_, .int .i64 0, .int .i64 2]) ∧ Kd.R (Kd.int .i64) 3 w' w.heap.size (fun _ => True) v0_ [] ∧ Below w.heap.size w w' := by
  by_cases c1 : h < 1
  · go_enter Try.func20, Try.ntmps20
    go_wp2
    go_ret3
    exact ⟨_, rfl, Kd.R_nil _ _ _ _ _, ((Below.refl _ w).alloc (Nat.le_refl _) _).alloc (by simp) _⟩
  · have c1' : 1 ≤ h := by omega
    clear c1
    by_cases c2 : 6 < h
    · go_enter Try.func20, Try.ntmps20
      go_wp2
      go_ret3
      exact ⟨_, rfl, Kd.R_nil _ _ _ _ _, ((Below.refl _ w).alloc (Nat.le_refl _) _).alloc (by simp) _⟩
    · have c2' : h ≤ 6 := by omega
      clear c2
      by_cases c3 : k < 1
      · go_enter Try.func20, Try.ntmps20
        go_wp2
        go_ret3
        exact ⟨_, rfl, Kd.R_nil _ _ _ _ _, ((Below.refl _ w).alloc (Nat.le_refl _) _).alloc (by simp) _⟩
      · have c3' : 1 ≤ k := by omega
        clear c3
        by_cases c4 : 4 < k
        · go_enter Try.func20, Try.ntmps20
          go_wp2
          go_ret3
          exact ⟨_, rfl, Kd.R_nil _ _ _ _ _, ((Below.refl _ w).alloc (Nat.le_refl _) _).alloc (by simp) _⟩
        · have c4' : k ≤ 4 := by omega
          clear c4
          have c5 : 16 < h * k := by simp [bestErr] at he; omega
          have c6 : h * k ≤ 24 := by have := Int.mul_le_mul c2' c4' (by omega) (by omega); omega
          clear he
          go_enter Try.func20, Try.ntmps20
          go_wp2
          go_ret3
          exact ⟨_, rfl, Kd.R_nil _ _ _ _ _, ((Below.refl _ w).alloc (Nat.le_refl _) _).alloc (by simp) _⟩

set_option maxHeartbeats 4000000 in
set_option maxRecDepth 100000 in
theorem best_ok (h k : Int) (w : World) (he : bestErr h k = false) :
    Calls Try.prog 20 #[.int .i64 h, .int .i64 k] w fun e w' => ∃ v0_ : Value, e = .returned (.tuple #[v0_, .int .i64 (bestGo (k.toNat - 1) h [1] ([], 0)).2, .int .i64 0]) ∧ Kd.R (Kd.int .i64) 3 w' w.heap.size (fun _ => True) v0_ (bestGo (k.toNat - 1) h [1] ([], 0)).1 ∧ Below w.heap.size w w' := by
  obtain ⟨h1, h6, k1, k4, hk⟩ := bestErr_false he
  have hk1 : 1 ≤ h * k := by have := Int.mul_le_mul h1 k1 (by omega) (by omega); omega
  have tk : Tick h [1] := ⟨h1, h6, by simp, by simp, by simp [asc]⟩
  have ek : ((k.toNat : Nat) : Int) = k := by omega
  have hLb : Lb h (k.toNat - 1) ≤ 85 := Lb_le h1 h6 (by omega) (by omega) (by rw [ek]; exact hk)
  have hon := on_all w.heap.size h k (k.toNat - 1) [1]
  generalize hn : k.toNat - 1 = n at *
  have HON := Lib.hid hon
  have HT := Lib.hid tk
  have HL := Lib.hid hLb
  have HN := Lib.hid hn
  clear hon tk hLb hn he ek
  go_enter Try.func20, Try.ntmps20
  go_wp2_with fail
  have hnew : ∀ Wz : World, (((((w.alloc (.cells #[.int .i64 h] 3)).alloc (.cells #[.int .i64 k] 3)).alloc (.cells #[.slice none 0 0] 22)).alloc (.cells #[.int .i64 0] 3)).alloc (.cells #[onFn w.heap.size] 58)).alloc (.cells #[.int .i64 1] 3) = Wz →
      BSt w.heap.size h k Wz ([], 0) ∧ Kd.C (Kd.int .i64) Wz (some ⟨w.heap.size + 5, 0, none⟩) 1 [1] ∧ Below w.heap.size w Wz := fun Wz e => by
    subst e
    have b0 := ((((Boxed.new w 3 (.int .i64 h)).alloc (.cells #[.int .i64 k] 3)).alloc (.cells #[.slice none 0 0] 22)).alloc (.cells #[.int .i64 0] 3)).alloc (.cells #[onFn w.heap.size] 58) |>.alloc (.cells #[.int .i64 1] 3)
    have b1 := ((((Boxed.new (w.alloc (.cells #[.int .i64 h] 3)) 3 (.int .i64 k)).alloc (.cells #[.slice none 0 0] 22)).alloc (.cells #[.int .i64 0] 3)).alloc (.cells #[onFn w.heap.size] 58)).alloc (.cells #[.int .i64 1] 3)
    have b2 := (((Boxed.new ((w.alloc (.cells #[.int .i64 h] 3)).alloc (.cells #[.int .i64 k] 3)) 22 (.slice none 0 0)).alloc (.cells #[.int .i64 0] 3)).alloc (.cells #[onFn w.heap.size] 58)).alloc (.cells #[.int .i64 1] 3)
    have b3 := ((Boxed.new (((w.alloc (.cells #[.int .i64 h] 3)).alloc (.cells #[.int .i64 k] 3)).alloc (.cells #[.slice none 0 0] 22)) 3 (.int .i64 0)).alloc (.cells #[onFn w.heap.size] 58)).alloc (.cells #[.int .i64 1] 3)
    have b4 := (Boxed.new ((((w.alloc (.cells #[.int .i64 h] 3)).alloc (.cells #[.int .i64 k] 3)).alloc (.cells #[.slice none 0 0] 22)).alloc (.cells #[.int .i64 0] 3)) 58 (onFn w.heap.size)).alloc (.cells #[.int .i64 1] 3)
    have b5 := own_lit (((((w.alloc (.cells #[.int .i64 h] 3)).alloc (.cells #[.int .i64 k] 3)).alloc (.cells #[.slice none 0 0] 22)).alloc (.cells #[.int .i64 0] 3)).alloc (.cells #[onFn w.heap.size] 58)) 0 3 .i64 [1] (Nat.zero_le _) (by simp)
    simp only [World.size_alloc] at b1 b2 b3 b4 b5
    refine ⟨⟨b0, b1, ⟨_, b2, own_nil _ _ _ _⟩, b3, b4⟩, ?_, ?_⟩
    · have hR : Kd.R (Kd.int .i64) 3 _ 0 (fun _ => True) _ [1] := Kd.R_of_own b5 (fun _ _ => trivial)
      exact (Kd.R_reads' hR).2.2
    · exact (((((((Below.refl _ w).alloc (Nat.le_refl _) _).alloc (by simp) _).alloc (by simp; omega) _).alloc (by simp; omega) _).alloc (by simp; omega) _).alloc (by simp; omega) _)
  unfold onFn at hnew
  obtain ⟨Wz, hWz⟩ : ∃ Wz, (((((w.alloc (.cells #[.int .i64 h] 3)).alloc (.cells #[.int .i64 k] 3)).alloc (.cells #[.slice none 0 0] 22)).alloc (.cells #[.int .i64 0] 3)).alloc (.cells #[.func (.func 46) #[] #[.pointer (some ⟨w.heap.size, 0, none⟩), .pointer (some ⟨w.heap.size + 1, 0, none⟩), .pointer (some ⟨w.heap.size + 1 + 1 + 1, 0, none⟩), .pointer (some ⟨w.heap.size + 1 + 1, 0, none⟩), .pointer (some ⟨w.heap.size + 1 + 1 + 1 + 1, 0, none⟩)]] 58)).alloc (.cells #[.int .i64 1] 3) = Wz := ⟨_, rfl⟩
  obtain ⟨hs0, hc0, hb0⟩ := hnew Wz hWz
  rw [hWz]
  have hcall : Calls Try.prog 46 #[.slice (some ⟨w.heap.size + 1 + 1 + 1 + 1 + 1, 0, none⟩) 1 1, .pointer (some ⟨w.heap.size, 0, none⟩), .pointer (some ⟨w.heap.size + 1, 0, none⟩), .pointer (some ⟨w.heap.size + 1 + 1 + 1, 0, none⟩), .pointer (some ⟨w.heap.size + 1 + 1, 0, none⟩), .pointer (some ⟨w.heap.size + 1 + 1 + 1 + 1, 0, none⟩)] Wz
      fun e W' => e = .returned (.tuple #[]) ∧ BSt w.heap.size h k W' (bestGo n h [1] ([], 0)) ∧ BFr w.heap.size Wz W' :=
    HON.out (some ⟨w.heap.size + 5, 0, none⟩) 1 ([], 0) Wz HT.out (by have := HN.out; simp; omega) (by have := HN.out; simp; omega) (by simp [lastV, rd, Lb]) (by rw [show ([1] : List Int).length + n - 1 = n by simp]; have := HL.out; omega) hs0 hc0 (by simp) (fun ad e => by cases e; exact ⟨by simp, by simp⟩)
  have HB0 := Lib.hid hb0
  clear hWz hnew hs0 hc0 hb0
  obtain ⟨st, hst⟩ : ∃ st, bestGo n h [1] ([], 0) = st := ⟨_, rfl⟩
  rw [hst] at hcall
  have HST := Lib.hid hst
  clear hst
  refine hcall.mono ?_
  rintro e W3 ⟨rfl, hs, hf⟩
  obtain ⟨bv, hbv, hbo⟩ := hs.best
  obtain ⟨A2, c2, rfl⟩ := own_slice hbo
  have cb := hbv.cell
  have cm := hs.most.cell
  have HBO := Lib.hid hbo
  have HF := Lib.hid hf
  clear hs hf hbv hbo hcall
  go_wp2
  go_quiet (fail)
  go_wp2
  go_ret3
  rw [HST.out]
  refine ⟨.slice A2 st.1.length c2, by rfl, ?_, ?_⟩
  · exact Kd.R_of_own (own_weaken (pw_own_below HBO.out (pw_below_drewN (Below.refl _ _) _)) (show w.heap.size ≤ w.heap.size + 5 by omega)) (fun _ _ => trivial)
  · exact pw_below_drewN (HB0.out.trans HF.out.1) _

theorem stamp_Best.calls (a0 : Int) (a1 : Int) (r1 : List Int) (r2 : Int) (r3 : Int) (w : World) (h : stamp_Best.f a0 a1 = some (r1, r2, r3)) :
    Calls Try.prog 20 #[.int .i64 a0, .int .i64 a1] w fun e w' => ∃ v0_ : Value, e = .returned (.tuple #[v0_, .int .i64 r2, .int .i64 r3]) ∧ Kd.R (Kd.int .i64) 3 w' w.heap.size (fun _ => True) v0_ r1 ∧ Below w.heap.size w w' := by
  unfold stamp_Best.f bestV at h
  cases he : bestErr a0 a1 with
  | true =>
    rw [if_pos he] at h
    simp only [Option.some.injEq, Prod.mk.injEq] at h
    obtain ⟨rfl, rfl, rfl⟩ := h
    exact best_err a0 a1 w he
  | false =>
    rw [if_neg (by rw [he]; simp)] at h
    simp only [Option.some.injEq, Prod.mk.injEq] at h
    obtain ⟨rfl, rfl, rfl⟩ := h
    exact best_ok a0 a1 w he

end Go.Proofs.Ytcgblpjknkmoaaa.B
