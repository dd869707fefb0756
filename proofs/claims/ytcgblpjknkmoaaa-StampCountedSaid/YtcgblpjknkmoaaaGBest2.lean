/- The closure of stamp.Best at any number of values to come. -/
import Derived.Test.YtcgblpjknkmoaaaGBest1
import Derived.Maps.AppendAt
namespace Go.Proofs.Ytcgblpjknkmoaaa.B
open Go.RowKit Go.Proofs.YtcgblpjknkmoaaaW.PrintWords Go.Proofs.YtcgblpjknkmoaaaW.PrintLast Go.Proofs.YtcgblpjknkmoaaaW.PrintMore
open Go.Proofs Go.Proofs.Ytcgblpjknkmoaaa.G

def bestUp (m : Nat) (h : Int) (l : List Int) (st : List Int × Int) (j : Nat) : List Int × Int := ((List.range j).map (valAt l)).foldl (fun s v => bestGo m h (l ++ [v]) s) st
theorem bestUp_succ (m : Nat) (h : Int) (l : List Int) (st : List Int × Int) (j : Nat) : bestUp m h l st (j + 1) = bestGo m h (l ++ [valAt l j]) (bestUp m h l st j) := by
  simp [bestUp, List.range_succ, List.foldl_append]
theorem bestUp_all (m : Nat) (h : Int) (l : List Int) (st : List Int × Int) : bestGo (m + 1) h l st = bestUp m h l st (valCnt h l) := rfl

/-- the contract, for values with n more to come -/
def OnSaid (B : Nat) (h k : Int) (n : Nat) : Prop := ∀ (l : List Int) (A : Option Addr) (c : Nat) (st : List Int × Int) (W : World), Tick h l → (l.length : Int) + n = k → l.length + n ≤ 4 → lastV l ≤ Lb h (l.length - 1) → Lb h (l.length + n - 1) ≤ 200 →
  BSt B h k W st → Kd.C (Kd.int .i64) W A l.length l → l.length ≤ c → AwayB B A →
  Calls Try.prog 46 (onArgs B A l.length c) W fun e W' => e = .returned (.tuple #[]) ∧ BSt B h k W' (bestGo n h l st) ∧ BFr B W W'

theorem on_zero (B : Nat) (h k : Int) : OnSaid B h k 0 := fun l A c st W tk hk _ _ _ hst hr hc ha => best1_zero B h k l A c st W tk (by simpa using hk) hst hr hc ha

set_option maxHeartbeats 8000000 in
set_option maxRecDepth 100000 in
theorem on_succ (B : Nat) (h k : Int) (m : Nat) (ih : OnSaid B h k m) : OnSaid B h k (m + 1) := by
  intro l A c st W tk hk hk4 hlb hLb hst hr hc ha
  have hreach := reach_f tk 10000 (Nat.le_refl _)
  have hE := bestUp_all m h l st
  obtain ⟨p, hp⟩ : ∃ p, l.length = p + 1 := ⟨l.length - 1, by have := tk.pos; omega⟩
  obtain ⟨ad, rfl, hcells⟩ : ∃ ad, A = some ad ∧ ∀ j : Nat, j < l.length → W.cell? (ad.add j) = some (.int .i64 (rd l (j : Int))) := by
    obtain ⟨ad, e, _⟩ := hr.2.2 tk.pos
    refine ⟨ad, e, fun j hj => ?_⟩
    obtain ⟨ad', e', hx⟩ := Kd.at_int hr (j : Int) (by omega) (by omega)
    rw [e] at e'; cases e'
    simpa using hx
  have hlast : rd l (p : Int) = lastV l := by unfold lastV; congr 1; omega
  have hl0 := hcells p (by omega)
  rw [hlast] at hl0
  have hspec := rangeV_spec tk
  have hcntv : ∀ j, j < valCnt h l → lastV l < valAt l j ∧ valAt l j ≤ 200 := fun j hj => by
    obtain ⟨a, b⟩ := valAt_bound tk hj
    have c1 : valAt l j ≤ Lb h l.length := by
      have e : l.length = (l.length - 1) + 1 := by omega
      rw [e]; simp only [Lb]
      have := Int.mul_le_mul_of_nonneg_left hlb (show 0 ≤ h by have := tk.h1; omega)
      omega
    have c2 : Lb h l.length ≤ Lb h (l.length + (m + 1) - 1) := Lb_mono tk.h1 (by omega)
    exact ⟨a, by omega⟩
  have hlb2 : ∀ j, j < valCnt h l → valAt l j ≤ Lb h l.length := fun j hj => by
    obtain ⟨a, b⟩ := valAt_bound tk hj
    have e : l.length = (l.length - 1) + 1 := by omega
    rw [e]; simp only [Lb]
    have := Int.mul_le_mul_of_nonneg_left hlb (show 0 ≤ h by have := tk.h1; omega)
    omega
  have htk : ∀ j, j < valCnt h l → Tick h (l ++ [valAt l j]) := fun j hj => tk.append (by omega) (hcntv j hj).1 (hcntv j hj).2
  have hla := tk.last_range
  have htop := tk.top
  have hcnt : (valCnt h l : Int) = rangeV h l + 1 - lastV l ∨ (valCnt h l = 0 ∧ rangeV h l + 1 < lastV l) := by unfold valCnt; omega
  have hkb : ((l.length : Int) == k) = false := by simp; omega
  have g1 : 0 ≤ rangeV h l := hspec.1
  have g2 : rangeV h l ≤ 1200 := by omega
  have g3 : 1 ≤ lastV l := hla.1
  have g4 : lastV l ≤ 200 := hla.2
  have HCV := Lib.hid (⟨hcntv, hlb2, htk⟩ : _ ∧ _ ∧ _)
  have hvat : ∀ j, valAt l j = lastV l + 1 + j := fun j => rfl
  have HVA := Lib.hid hvat
  generalize rangeV h l = rg at *
  generalize valCnt h l = cnt at *
  generalize lastV l = la at *
  have HE := Lib.hid hE
  have HRe := Lib.hid hreach
  have HS := Lib.hid hst
  have HR := Lib.hid hr
  have HC := Lib.hid hc
  have HA := Lib.hid ha
  have HK := Lib.hid (⟨hk, hk4, hLb⟩ : _ ∧ _ ∧ _)
  have HN := Lib.hid hp
  have HCE := Lib.hid hcells
  have HCN := Lib.hid hcnt
  have ch := hst.bh.cell
  have hsz := hst.size
  have hpc : p + 1 ≤ c := by omega
  have hp3 : p ≤ 3 := by omega
  have hkb2 : ((p : Int) + 1 == k) = false := by rw [hp] at hkb; simpa using hkb
  clear hkb
  unfold onArgs
  rw [hp]
  clear hE hreach hst hr hc ha hk hk4 hlb hLb hcells hspec hcntv hlb2 htk hla htop hcnt hvat hlast
  clear tk hp
  go_enter Try.func46, Try.ntmps46
  go_wp2_with (first | (go_at_call 47; refine (show Calls Try.prog 47 #[.int .i64 h, .slice (some ad) (p + 1) c] W _ from (by have := stamp_reach.calls 10000 h (some ad) c l rg W HR.out HC.out HRe.out; rw [HN.out] at this; exact this)).mono ?_; rintro e W1 ⟨rfl, hb1⟩; have HB1 := Lib.hid hb1; have HS1 := Lib.hid (HS.out.below hb1); have HR1 := Lib.hid (Kd.C_below HR.out hb1); have ck := HS1.out.bk.cell; have hl1 : W1.cell? (ad.add p) = some (.int .i64 la) := pw_cell_below hb1 hl0; clear hb1))
  go_loopw [8] (fun v wr => ∃ j : Nat, j ≤ cnt ∧ v = .int .i64 (la + 1 + j) ∧ BSt B h k wr (bestUp m h l st j) ∧ BFr B W wr) (fun v _ => (rg + 2 - intOf v).toNat)
  case atStart => exact ⟨0, Nat.zero_le _, by simp, HS1.out, BFr.of_below (by omega) HB1.out⟩
  case round =>
    obtain ⟨j, hj, rfl, hs, hf⟩ := hrel
    have HSj := Lib.hid hs
    have HFj := Lib.hid hf
    by_cases hlt : j < cnt
    · have hle : la + 1 + (j : Int) ≤ rg + 1 := by have := HCN.out; omega
      have con := hs.on.cell
      have hv2 : la + 1 + (j : Int) ≤ 200 := by have := (HCV.out.1 j hlt).2; rw [HVA.out] at this; exact this
      have hIH : ∀ (g' cap' : Nat) (Wx : World), BSt B h k Wx (bestUp m h l st j) → Wx.ownsRow (B + 5) 3 1 (.slice (some ⟨g', 0, none⟩) (p + 1 + 1) cap') (p + 1 + 1) ((l ++ [la + 1 + (j : Int)]).map (Value.int .i64)) →
          Calls Try.prog 46 #[.slice (some ⟨g', 0, none⟩) (p + 1 + 1) cap', .pointer (some ⟨B, 0, none⟩), .pointer (some ⟨B + 1, 0, none⟩), .pointer (some ⟨B + 3, 0, none⟩), .pointer (some ⟨B + 2, 0, none⟩), .pointer (some ⟨B + 4, 0, none⟩)] Wx
            fun e W' => e = .returned (.tuple #[]) ∧ BSt B h k W' (bestUp m h l st (j + 1)) ∧ BFr B Wx W' := fun g' cap' Wx hsx hox => by
        have hlen2 : (l ++ [valAt l j]).length = p + 1 + 1 := by simp [HN.out]
        obtain ⟨k1, k2, k3⟩ := HK.out
        rw [← HVA.out] at hox
        have hR : Kd.R (Kd.int .i64) 3 Wx (B + 5) (fun _ => True) (.slice (some ⟨g', 0, none⟩) (p + 1 + 1) cap') (l ++ [valAt l j]) := Kd.R_of_own (by rw [hlen2]; exact hox) (fun _ _ => trivial)
        have hC := Kd.R_reads' hR
        have := ih (l ++ [valAt l j]) (some ⟨g', 0, none⟩) cap' (bestUp m h l st j) Wx (HCV.out.2.2 j hlt) (by rw [hlen2]; have := HN.out; omega) (by rw [hlen2]; have := HN.out; omega)
          (by rw [lastV_append, hlen2]; have h1 := HCV.out.2.1 j hlt; have h2 := HN.out; rw [h2] at h1; exact h1)
          (by rw [hlen2]; have h2 := HN.out; have e : p + 1 + 1 + m - 1 = l.length + (m + 1) - 1 := by omega
              rw [e]; exact k3)
          hsx (by rw [hlen2]; rw [hlen2] at hC; exact hC.2.2) (by rw [hlen2]; exact hC.2.1) (fun ad e => by cases e; have : B + 5 ≤ g' := own_base hox _ rfl; exact ⟨by simp; omega, by simp; omega⟩)
        rw [bestUp_succ]
        unfold onArgs at this
        rw [hlen2] at this
        exact this
      have HIH := Lib.hid hIH
      obtain ⟨i0, hi, hz0, hz1, hz2⟩ := info_parts info3
      have hwsz : B + 5 ≤ wr.heap.size := hs.size
      have holds : ∀ jj u, (l.map (Value.int .i64))[jj]? = some u → wr.cell? (ad.add jj) = some u := fun jj u hu => by
        rw [List.getElem?_map, Option.map_eq_some_iff] at hu
        obtain ⟨x, hx, rfl⟩ := hu
        have hjl : jj < l.length := (List.getElem?_eq_some_iff.1 hx).1
        have h1 := HCE.out jj hjl
        have e1 : rd l (jj : Int) = x := by rw [rd_nat, List.getD_eq_getElem?_getD, hx]; rfl
        rw [e1] at h1
        have hlt2 := World.block_lt_of_cell? W _ h1
        rw [add_block] at hlt2
        obtain ⟨a1, a2⟩ := HA.out ad rfl
        exact (World.cell?_of_block (by rw [add_block]; exact HFj.out.block a1 a2 hlt2)).trans h1
      have HHO := Lib.hid holds
      have hadw : ad.block < wr.heap.size := by
        have h1 := HCE.out p (by have := HN.out; omega)
        have hlt2 := World.block_lt_of_cell? W _ h1
        rw [add_block] at hlt2
        exact Nat.lt_of_lt_of_le hlt2 HFj.out.size
      have q1 : (0 : Int) ≤ (p : Int) + 1 := by omega
      have q2 : (p : Int) + 1 ≤ (c : Int) := by omega
      clear hs hf hIH holds
      go_wp2_with fail
      go_region_held3 (fun w' => w'.cell? ⟨B + 4, 0, none⟩ = some (.func (.func 46) #[] #[.pointer (some ⟨B, 0, none⟩), .pointer (some ⟨B + 1, 0, none⟩), .pointer (some ⟨B + 3, 0, none⟩), .pointer (some ⟨B + 2, 0, none⟩), .pointer (some ⟨B + 4, 0, none⟩)]))
        (first | exact con | exact con1 | go_keep)
        (first
          | (refine step_append_grows (by rfl) (.tmp 41) (.tmp 43) 22 (by rfl) 3 i0 (.int .i64 0) 1 8 Try.underlying22 hi hz0 hz1 hz2 rfl (by decide) (some ad) (p + 1) (p + 1) (l.map (Value.int .i64)) (by rfl) (by simp) ?h1 ?h2 ⟨wr.heap.size, 0, none⟩ 1 1 [.int .i64 (la + 1 + (j : Int))] (by rfl) (by rfl) ?h3 (by simp [Value.oneCell']) (by omega) (by unfold maxLen; omega) (by omega) ?_; (case h1 => simp [HN.out]); (case h2 => intro b eb jj u hu; cases eb; exact pw_cell_below ((Below.refl _ wr).alloc (Nat.le_refl _) (.cells #[.int .i64 (la + 1 + (j : Int))] 3)) (HHO.out jj u hu)); (case h3 => exact (World.news_of_block (cs := #[.int .i64 (la + 1 + (j : Int))]) (t := 3) (fr := (0, 0)) (heap_alloc_new wr _))); intro v' w1 hown hgrow; obtain ⟨g', cap', rfl⟩ := ownsRow_succ hown; have hbw : Below wr.heap.size wr w1 := (below_drew ((Below.refl _ wr).alloc (Nat.le_refl _) (.cells #[.int .i64 (la + 1 + (j : Int))] 3))).grown hgrow (by simp) (fun k e => by cases e); have HS2 := Lib.hid (HSj.out.below hbw); have HO2 := Lib.hid (own_weaken hown (show B + 5 ≤ _ by simp; omega)); have HBW := Lib.hid hbw; have con1 := HS2.out.on.cell; clear hown hgrow)
          | (go_at_call 46; refine (HIH.out g' cap' _ HS2.out (by have := HO2.out; simpa using this)).mono ?_; rintro e W3 ⟨rfl, hs3, hf3⟩; have HS3 := Lib.hid hs3; have HF3 := Lib.hid hf3; have con1 := HS3.out.on.cell; clear hs3 hf3))
      go_wp2
      go_roundw
      case rel => exact ⟨j + 1, by omega, by congr 1; omega, HS3.out, HFj.out.trans ((BFr.of_below (by omega) HBW.out).trans HF3.out)⟩
      case measure => simp [intOf]; omega
    · have hgt : rg + 1 < la + 1 + (j : Int) := by have := HCN.out; omega
      clear hs hf
      go_wp2
      go_end0
      rw [HE.out]
      obtain rfl : j = cnt := by omega
      exact ⟨rfl, HSj.out, HFj.out⟩

end Go.Proofs.Ytcgblpjknkmoaaa.B
