/- trishawref04.Best: the contract of the hand-walked functions best and Best. -/
import Derived.Test.YtcgblpjknkmoaaaBestV
import Derived.Test.YtcgblpjknkmoaaaB4
import Derived.ArgAppend
import Derived.RangeFuncBox
import Derived.Lib.Hide
namespace Go.Proofs.Ytcgblpjknkmoaaa.B
open Go.RowKit Go.Proofs.YtcgblpjknkmoaaaW.PrintWords Go.Proofs.YtcgblpjknkmoaaaW.PrintLast Go.Proofs.YtcgblpjknkmoaaaW.PrintMore
open Go.Proofs
attribute [local go_sem] max2_int min2_int max_two min_two max_three min_three max_four min_four

/-- the values that the specification tries -/
def refVals (h : Int) (l : List Int) : List Int := if l = [] then [1] else valsOf h l
def refGo : Nat → Int → List Int → List Int × Int
  | 0, h, l => (l, rangeV h l)
  | n + 1, h, l => (refVals h l).foldl (fun st v => if st.2 < (refGo n h (l ++ [v])).2 then refGo n h (l ++ [v]) else st) ([], -1)
def refUp (n : Nat) (h : Int) (l vs : List Int) (j : Nat) : List Int × Int := (vs.take j).foldl (fun st v => if st.2 < (refGo n h (l ++ [v])).2 then refGo n h (l ++ [v]) else st) ([], -1)
theorem refUp_succ (n : Nat) (h : Int) (l vs : List Int) (j : Nat) (hj : j < vs.length) : refUp n h l vs (j + 1) = if (refUp n h l vs j).2 < (refGo n h (l ++ [vs[j]])).2 then refGo n h (l ++ [vs[j]]) else refUp n h l vs j := by
  unfold refUp
  rw [List.take_add_one, List.getElem?_eq_getElem hj, List.foldl_append]
  rfl
theorem refUp_all (n : Nat) (h : Int) (l : List Int) : refGo (n + 1) h l = refUp n h l (refVals h l) (refVals h l).length := by simp [refGo, refUp]

/-- the contract, for values with n more to come -/
def RefSaid (B : Nat) (h k : Int) (n : Nat) : Prop := ∀ (l : List Int) (v : Value) (W : World), 1 ≤ h → h ≤ 6 → (l = [] ∨ Tick h l) → (l.length : Int) + n = k → l.length + n ≤ 4 → (l ≠ [] → lastV l ≤ Lb h (l.length - 1)) → Lb h (l.length + n - 1) ≤ 199 →
  W.ownsRow B 3 1 v l.length (l.map (Value.int .i64)) → B ≤ W.heap.size →
  Calls Try.prog 48 #[.int .i64 h, .int .i64 k, v] W fun e W' => ∃ v', e = .returned (.tuple #[v', .int .i64 (refGo n h l).2]) ∧ W'.ownsRow B 3 1 v' (refGo n h l).1.length ((refGo n h l).1.map (Value.int .i64)) ∧ Below W.heap.size W W'

theorem own_C {W : World} {B : Nat} {A : Option Addr} {c : Nat} {l : List Int} (h : W.ownsRow B 3 1 (.slice A l.length c) l.length (l.map (Value.int .i64))) : l.length ≤ c ∧ Kd.C (Kd.int .i64) W A l.length l := by
  have hR : Kd.R (Kd.int .i64) 3 W B (fun _ => True) (.slice A l.length c) l := Kd.R_of_own h (fun _ _ => trivial)
  exact (Kd.R_reads' hR).2

set_option maxHeartbeats 4000000 in
set_option maxRecDepth 100000 in
theorem ref_zero (B : Nat) (h k : Int) (hk1 : 1 ≤ k) : RefSaid B h k 0 := by
  intro l v W h1 h6 htk hk hk4 _ _ hown hB
  have hne : l ≠ [] := fun e => by subst e; simp at hk; omega
  obtain tk := htk.resolve_left hne
  obtain ⟨A, c, rfl⟩ := own_slice hown
  obtain ⟨hc, hC⟩ := own_C hown
  have hre := refreach_f tk 10000 (Nat.le_refl _)
  have hkb : ((l.length : Int) == k) = true := by simp; omega
  have HRe := Lib.hid hre
  have HO := Lib.hid hown
  have HC := Lib.hid hC
  have HCc := Lib.hid hc
  show Calls Try.prog 48 _ W fun e W' => ∃ v', e = .returned (.tuple #[v', .int .i64 (rangeV h l)]) ∧ W'.ownsRow B 3 1 v' l.length (l.map (Value.int .i64)) ∧ Below W.heap.size W W'
  generalize rangeV h l = rg at *
  clear hre hown hC hc tk htk hk
  go_enter Try.func48, Try.ntmps48
  go_wp2_with (go_at_call 55; refine (trishawref04_reach.calls 10000 h A c l rg W HC.out HCc.out HRe.out).mono ?_; rintro e W1 ⟨rfl, hb⟩; have HB1 := Lib.hid hb; clear hb)
  go_ret2
  exact ⟨_, rfl, pw_own_below HO.out HB1.out, HB1.out⟩

set_option maxHeartbeats 8000000 in
set_option maxRecDepth 100000 in
theorem ref_succ (B : Nat) (h k : Int) (m : Nat) (ih : RefSaid B h k m) : ∀ (l : List Int) (v : Value) (W : World), 1 ≤ h → h ≤ 6 → Tick h l → (l.length : Int) + (m + 1) = k → l.length + (m + 1) ≤ 4 → lastV l ≤ Lb h (l.length - 1) → Lb h (l.length + (m + 1) - 1) ≤ 199 →
    W.ownsRow B 3 1 v l.length (l.map (Value.int .i64)) → B ≤ W.heap.size →
    Calls Try.prog 48 #[.int .i64 h, .int .i64 k, v] W fun e W' => ∃ v', e = .returned (.tuple #[v', .int .i64 (refGo (m + 1) h l).2]) ∧ W'.ownsRow B 3 1 v' (refGo (m + 1) h l).1.length ((refGo (m + 1) h l).1.map (Value.int .i64)) ∧ Below W.heap.size W W' := by
  intro l v W h1 h6 tk hk hk4 hlb hLb hown hB
  have hreach := refreach_f tk 10000 (Nat.le_refl _)
  have hE := refUp_all m h l
  have hrv : refVals h l = valsOf h l := by unfold refVals; rw [if_neg (fun e => by have := tk.pos; rw [e] at this; simp at this)]
  rw [hrv] at hE
  have hvl : (valsOf h l).length = valCnt h l := by simp [valsOf]
  have hva : ∀ j (hj : j < (valsOf h l).length), (valsOf h l)[j] = valAt l j := fun j hj => by simp [valsOf]
  obtain ⟨p, hp⟩ : ∃ p, l.length = p + 1 := ⟨l.length - 1, by have := tk.pos; omega⟩
  obtain ⟨A, c, rfl⟩ := own_slice hown
  obtain ⟨hc, hC⟩ := own_C hown
  obtain ⟨ad, rfl, hcells⟩ : ∃ ad, A = some ad ∧ ∀ j : Nat, j < l.length → W.cell? (ad.add j) = some (.int .i64 (rd l (j : Int))) := by
    obtain ⟨ad, e, _⟩ := hC.2.2 tk.pos
    refine ⟨ad, e, fun j hj => ?_⟩
    obtain ⟨ad', e', hx⟩ := Kd.at_int hC (j : Int) (by omega) (by omega)
    rw [e] at e'; cases e'
    simpa using hx
  have hlast : rd l (p : Int) = lastV l := by unfold lastV; congr 1; omega
  have hl0 := hcells p (by omega)
  rw [hlast] at hl0
  have hspec := rangeV_spec tk
  have hcntv : ∀ j, j < valCnt h l → lastV l < valAt l j ∧ valAt l j ≤ 199 ∧ valAt l j ≤ Lb h l.length := fun j hj => by
    obtain ⟨a, b⟩ := valAt_bound tk hj
    have c1 : valAt l j ≤ Lb h l.length := by
      have e : l.length = (l.length - 1) + 1 := by omega
      rw [e]; simp only [Lb]
      have := Int.mul_le_mul_of_nonneg_left hlb (show 0 ≤ h by omega)
      omega
    have c2 : Lb h l.length ≤ Lb h (l.length + (m + 1) - 1) := Lb_mono h1 (by omega)
    exact ⟨a, by omega, c1⟩
  have htk : ∀ j, j < valCnt h l → Tick h (l ++ [valAt l j]) := fun j hj => tk.append (by omega) (hcntv j hj).1 (by have := (hcntv j hj).2.1; omega)
  have hla := tk.last_range
  have htop := tk.top
  have hcnt : (valCnt h l : Int) = rangeV h l + 1 - lastV l ∨ (valCnt h l = 0 ∧ rangeV h l + 1 < lastV l) := by unfold valCnt; omega
  have hkb : ((l.length : Int) == k) = false := by simp; omega
  have g1 : 0 ≤ rangeV h l := hspec.1
  have g2 : rangeV h l ≤ 198 := by
    rcases Nat.eq_zero_or_pos (valCnt h l) with e | e
    · have h4 : Lb h (l.length - 1) ≤ Lb h (l.length + (m + 1) - 1) := Lb_mono h1 (by omega)
      unfold valCnt at e; omega
    · have h3 := (hcntv (valCnt h l - 1) (by omega)).2.1
      unfold valAt at h3; unfold valCnt at h3 e; omega
  have g3 : 1 ≤ lastV l := hla.1
  have g4 : lastV l ≤ 200 := hla.2
  have HCV := Lib.hid (⟨hcntv, htk⟩ : _ ∧ _)
  have hvat : ∀ j, valAt l j = lastV l + 1 + j := fun j => rfl
  have HVA := Lib.hid (⟨hvat, hvl, hva⟩ : _ ∧ _ ∧ _)
  generalize rangeV h l = rg at *
  generalize valCnt h l = cnt at *
  generalize lastV l = la at *
  have hmin : min 200 (rg + 1) = rg + 1 := by omega
  have HE := Lib.hid hE
  have HRe := Lib.hid hreach
  have HO := Lib.hid hown
  have HC := Lib.hid hC
  have HCc := Lib.hid hc
  have HK := Lib.hid (⟨hk, hk4, hLb⟩ : _ ∧ _ ∧ _)
  have HN := Lib.hid hp
  have HCE := Lib.hid hcells
  have HCN := Lib.hid hcnt
  have hpc : p + 1 ≤ c := by omega
  have hp3 : p ≤ 3 := by omega
  have hkb2 : ((p : Int) + 1 == k) = false := by rw [hp] at hkb; simpa using hkb
  clear hkb
  rw [hp]
  clear hE hreach hown hC hc hk hk4 hlb hLb hcells hspec hcntv htk hla htop hcnt hvat hlast hvl hva hrv
  clear tk hp
  go_enter Try.func48, Try.ntmps48
  go_wp2_with (first | (go_at_call 55; refine (show Calls Try.prog 55 #[.int .i64 h, .slice (some ad) (p + 1) c] W _ from (by have := trishawref04_reach.calls 10000 h (some ad) c l rg W HC.out HCc.out HRe.out; rw [HN.out] at this; exact this)).mono ?_; rintro e W1 ⟨rfl, hb1⟩; have HB1 := Lib.hid hb1; clear hb1))
  go_loopw [8, 9, 12] (fun v8 v9 v12 wr => ∃ j : Nat, j ≤ cnt ∧ v12 = .int .i64 (la + 1 + j) ∧ v9 = .int .i64 (refUp m h l (valsOf h l) j).2 ∧ wr.ownsRow B 3 1 v8 (refUp m h l (valsOf h l) j).1.length ((refUp m h l (valsOf h l) j).1.map (Value.int .i64)) ∧ Below W.heap.size W wr) (fun _ _ v _ => (rg + 2 - intOf v).toNat)
  case atStart => exact ⟨0, Nat.zero_le _, by simp, rfl, World.ownsRow_nil _ _ _ _, HB1.out⟩
  case round =>
    obtain ⟨j, hj, rfl, rfl, ho8, hf⟩ := hrel
    have hsu := fun hlt => refUp_succ m h l (valsOf h l) j hlt
    generalize hst : refUp m h l (valsOf h l) j = st at *
    obtain ⟨A8, c8, rfl⟩ := own_slice ho8
    have HO8 := Lib.hid ho8
    have HFj := Lib.hid hf
    have HSU := Lib.hid hsu
    have HST := Lib.hid hst
    clear hst hsu
    by_cases hlt : j < cnt
    · have hle : la + 1 + (j : Int) ≤ rg + 1 := by have := HCN.out; omega
      have hjv : j < (valsOf h l).length := by rw [HVA.out.2.1]; exact hlt
      have hval : (valsOf h l)[j] = la + 1 + (j : Int) := by rw [HVA.out.2.2 j hjv, HVA.out.1]
      have hv2 : la + 1 + (j : Int) ≤ 199 := by have := (HCV.out.1 j hlt).2.1; rw [HVA.out.1] at this; exact this
      have hIH : ∀ (g' cap' : Nat) (Wx : World), Wx.ownsRow B 3 1 (.slice (some ⟨g', 0, none⟩) (p + 1 + 1) cap') (p + 1 + 1) ((l ++ [la + 1 + (j : Int)]).map (Value.int .i64)) → B ≤ Wx.heap.size →
          Calls Try.prog 48 #[.int .i64 h, .int .i64 k, .slice (some ⟨g', 0, none⟩) (p + 1 + 1) cap'] Wx
            fun e W' => ∃ v', e = .returned (.tuple #[v', .int .i64 (refGo m h (l ++ [la + 1 + (j : Int)])).2]) ∧ W'.ownsRow B 3 1 v' (refGo m h (l ++ [la + 1 + (j : Int)])).1.length ((refGo m h (l ++ [la + 1 + (j : Int)])).1.map (Value.int .i64)) ∧ Below Wx.heap.size Wx W' := fun g' cap' Wx hox hBx => by
        have hlen2 : (l ++ [la + 1 + (j : Int)]).length = p + 1 + 1 := by simp [HN.out]
        obtain ⟨k1, k2, k3⟩ := HK.out
        have hv : valAt l j = la + 1 + (j : Int) := HVA.out.1 j
        have htk := HCV.out.2 j hlt
        rw [hv] at htk
        refine ih (l ++ [la + 1 + (j : Int)]) _ Wx h1 h6 (.inr htk) (by rw [hlen2]; have := HN.out; omega) (by rw [hlen2]; have := HN.out; omega) (fun _ => ?_) ?_ (by rw [hlen2]; exact hox) hBx
        · rw [lastV_append, hlen2]
          have h2 := (HCV.out.1 j hlt).2.2
          rw [hv, HN.out] at h2
          exact h2
        · rw [hlen2]
          have h2 := HN.out
          have e : p + 1 + 1 + m - 1 = l.length + (m + 1) - 1 := by omega
          rw [e]; exact k3
      obtain ⟨r, hr⟩ : ∃ r, refGo m h (l ++ [la + 1 + (j : Int)]) = r := ⟨_, rfl⟩
      rw [hr] at hIH
      have hup : refUp m h l (valsOf h l) (j + 1) = if st.2 < r.2 then r else st := by rw [HSU.out hjv, hval, hr]
      have HIH := Lib.hid hIH
      have HUP := Lib.hid hup
      obtain ⟨i0, hi, hz0, hz1, hz2⟩ := info_parts info3
      have holds : ∀ jj u, (l.map (Value.int .i64))[jj]? = some u → wr.cell? (ad.add jj) = some u := fun jj u hu => by
        rw [List.getElem?_map, Option.map_eq_some_iff] at hu
        obtain ⟨x, hx, rfl⟩ := hu
        have hjl : jj < l.length := (List.getElem?_eq_some_iff.1 hx).1
        have h1 := HCE.out jj hjl
        have e1 : rd l (jj : Int) = x := by rw [rd_nat, List.getD_eq_getElem?_getD, hx]; rfl
        rw [e1] at h1
        exact pw_cell_below HFj.out h1
      have HHO := Lib.hid holds
      have q1 : (0 : Int) ≤ (p : Int) + 1 := by omega
      have q2 : (p : Int) + 1 ≤ (c : Int) := by omega
      have hwB : B ≤ wr.heap.size := Nat.le_trans hB HFj.out.size
      clear ho8 hf hIH holds hval hjv hr hup
      go_wp2_with (at_builtin; refine wpList_append_grows _ rfl (.tmp 52) (.tmp 54) 22 rfl 3 i0 (.int .i64 0) 1 8 Try.underlying22 hi hz0 hz1 hz2 rfl (by decide) (some ad) (p + 1) (p + 1) (l.map (Value.int .i64)) (by rfl) (by simp) (by simp [HN.out]) (by intro b eb jj u hu; cases eb; exact pw_cell_below ((Below.refl _ wr).alloc (Nat.le_refl _) (.cells #[.int .i64 (la + 1 + (j : Int))] 3)) (HHO.out jj u hu)) ⟨wr.heap.size, 0, none⟩ 1 1 [.int .i64 (la + 1 + (j : Int))] (by rfl) (by rfl) (World.news_of_block (cs := #[.int .i64 (la + 1 + (j : Int))]) (t := 3) (fr := (0, 0)) (heap_alloc_new wr _)) (by simp [Value.oneCell']) (by omega) (by unfold maxLen; omega) (by omega) ?_; intro v' w1 hown hgrow; obtain ⟨g', cap', rfl⟩ := ownsRow_succ hown; have hbw : Below wr.heap.size wr w1 := ((Below.refl _ wr).alloc (Nat.le_refl _) (.cells #[.int .i64 (la + 1 + (j : Int))] 3)).grown hgrow (by simp) (fun k e => by cases e); have HO2 := Lib.hid (own_weaken hown (show B ≤ _ by simp; omega)); have HBW := Lib.hid hbw; clear hown hgrow hbw)
      go_at_call 48
      refine (HIH.out g' cap' _ (by have := HO2.out; simpa using this) (Nat.le_trans hwB HBW.out.size)).mono ?_
      rintro e W3 ⟨v3, rfl, ho3, hf3⟩
      obtain ⟨A3, c3, rfl⟩ := own_slice ho3
      have HO3 := Lib.hid ho3
      have HF3 := Lib.hid hf3
      have HW3 := Lib.hid (show Below W.heap.size W W3 from HFj.out.trans ((HBW.out.trans (hf3.mono HBW.out.size)).mono HFj.out.size))
      have HO9 := Lib.hid (pw_own_below HO8.out (HBW.out.trans (hf3.mono HBW.out.size)))
      clear ho3 hf3
      by_cases hgr : st.2 < r.2
      · have hgr2 : ¬ r.2 ≤ st.2 := by omega
        go_wp2_with fail
        go_roundw
        case rel => exact ⟨j + 1, by omega, by congr 1; omega, by rw [HUP.out, if_pos hgr], by rw [HUP.out, if_pos hgr]; exact HO3.out, HW3.out⟩
        case measure => simp [intOf]; omega
      · have hgr2 : r.2 ≤ st.2 := by omega
        go_wp2_with fail
        go_roundw
        case rel => exact ⟨j + 1, by omega, by congr 1; omega, by rw [HUP.out, if_neg (by omega)], by rw [HUP.out, if_neg (by omega)]; exact HO9.out, HW3.out⟩
        case measure => simp [intOf]; omega
    · have hgt : rg + 1 < la + 1 + (j : Int) := by have := HCN.out; omega
      clear ho8 hf
      go_wp2
      go_ret2
      obtain rfl : j = cnt := by omega
      have e : refGo (m + 1) h l = st := by rw [HE.out, HVA.out.2.1, HST.out]
      rw [e]
      exact ⟨_, rfl, HO8.out, HFj.out⟩

set_option maxHeartbeats 8000000 in
set_option maxRecDepth 100000 in
theorem ref_nil (B : Nat) (h k : Int) (m : Nat) (ih : RefSaid B h k m) (W : World) (h1 : 1 ≤ h) (h6 : h ≤ 6) (hk : (m : Int) + 1 = k) (hk4 : m + 1 ≤ 4) (hLb : Lb h m ≤ 199) (hB : B ≤ W.heap.size) :
    Calls Try.prog 48 #[.int .i64 h, .int .i64 k, .slice none 0 0] W fun e W' => ∃ v', e = .returned (.tuple #[v', .int .i64 (refGo (m + 1) h []).2]) ∧ W'.ownsRow B 3 1 v' (refGo (m + 1) h []).1.length ((refGo (m + 1) h []).1.map (Value.int .i64)) ∧ Below W.heap.size W W' := by
  have hkb : ((0 : Int) == k) = false := by simp; omega
  have hE : refGo (m + 1) h [] = refUp m h [] [1] 1 := by simp [refUp_all, refVals]
  have h0 : refUp m h [] [1] 0 = ([], -1) := rfl
  have hup : refUp m h [] [1] 1 = if (-1 : Int) < (refGo m h [1]).2 then refGo m h [1] else ([], -1) := refUp_succ m h [] [1] 0 (by decide)
  have hIH : ∀ (g' cap' : Nat) (Wx : World), Wx.ownsRow B 3 1 (.slice (some ⟨g', 0, none⟩) 1 cap') 1 [.int .i64 1] → B ≤ Wx.heap.size →
      Calls Try.prog 48 #[.int .i64 h, .int .i64 k, .slice (some ⟨g', 0, none⟩) 1 cap'] Wx
        fun e W' => ∃ v', e = .returned (.tuple #[v', .int .i64 (refGo m h [1]).2]) ∧ W'.ownsRow B 3 1 v' (refGo m h [1]).1.length ((refGo m h [1]).1.map (Value.int .i64)) ∧ Below Wx.heap.size Wx W' := fun g' cap' Wx hox hBx =>
    ih [1] _ Wx h1 h6 (.inr ⟨h1, h6, by simp, by simp, by simp [asc]⟩) (by simp; omega) (by simp; omega) (fun _ => by simp [lastV, rd, Lb]) (by rw [show ([1] : List Int).length + m - 1 = m by simp]; exact hLb) hox hBx
  generalize refGo m h [1] = r at *
  have HE := Lib.hid hE
  have H0 := Lib.hid h0
  have HUP := Lib.hid hup
  have HIH := Lib.hid hIH
  clear hE h0 hup hIH hk hk4 hLb
  go_enter Try.func48, Try.ntmps48
  go_wp2
  go_loopw [8, 9, 12] (fun v8 v9 v12 wr => ∃ j : Nat, j ≤ 1 ∧ v12 = .int .i64 (1 + j) ∧ v9 = .int .i64 (refUp m h [] [1] j).2 ∧ wr.ownsRow B 3 1 v8 (refUp m h [] [1] j).1.length ((refUp m h [] [1] j).1.map (Value.int .i64)) ∧ Below W.heap.size W wr) (fun _ _ v _ => (2 - intOf v).toNat)
  case atStart => exact ⟨0, by omega, by simp, rfl, World.ownsRow_nil _ _ _ _, Below.refl _ _⟩
  case round =>
    obtain ⟨j, hj, rfl, rfl, ho8, hf⟩ := hrel
    generalize hst : refUp m h [] [1] j = st at *
    obtain ⟨A8, c8, rfl⟩ := own_slice ho8
    have HO8 := Lib.hid ho8
    have HFj := Lib.hid hf
    have HST := Lib.hid hst
    clear hst
    by_cases hlt : j < 1
    · obtain rfl : j = 0 := by omega
      have hst0 : st = ([], -1) := by rw [← HST.out, H0.out]
      have HS0 := Lib.hid hst0
      obtain ⟨i0, hi, hz0, hz1, hz2⟩ := info_parts info3
      have hwB : B ≤ wr.heap.size := Nat.le_trans hB HFj.out.size
      clear ho8 hf hst0
      simp only [Int.natCast_zero, Int.add_zero]
      go_wp2_with (at_builtin; refine wpList_append_grows _ rfl (.tmp 52) (.tmp 54) 22 rfl 3 i0 (.int .i64 0) 1 8 Try.underlying22 hi hz0 hz1 hz2 rfl (by decide) none 0 0 [] (by rfl) (fun _ => ⟨rfl, rfl⟩) (by rfl) (by intro b eb; cases eb) ⟨wr.heap.size, 0, none⟩ 1 1 [.int .i64 1] (by rfl) (by rfl) (World.news_of_block (cs := #[.int .i64 1]) (t := 3) (fr := (0, 0)) (heap_alloc_new wr _)) (by simp [Value.oneCell']) (by omega) (by unfold maxLen; omega) (by omega) ?_; intro v' w1 hown hgrow; obtain ⟨g', cap', rfl⟩ := ownsRow_succ hown; have hbw : Below wr.heap.size wr w1 := ((Below.refl _ wr).alloc (Nat.le_refl _) (.cells #[.int .i64 1] 3)).grown hgrow (by simp) (fun k e => by cases e); have HO2 := Lib.hid (own_weaken hown (show B ≤ _ by simp; omega)); have HBW := Lib.hid hbw; clear hown hgrow hbw)
      go_at_call 48
      refine (HIH.out g' cap' _ (by have := HO2.out; simpa using this) (Nat.le_trans hwB HBW.out.size)).mono ?_
      rintro e W3 ⟨v3, rfl, ho3, hf3⟩
      obtain ⟨A3, c3, rfl⟩ := own_slice ho3
      have HO3 := Lib.hid ho3
      have HF3 := Lib.hid hf3
      have HW3 := Lib.hid (show Below W.heap.size W W3 from HFj.out.trans ((HBW.out.trans (hf3.mono HBW.out.size)).mono HFj.out.size))
      have HO9 := Lib.hid (pw_own_below HO8.out (HBW.out.trans (hf3.mono HBW.out.size)))
      have hs2 : st.2 = -1 := by rw [HS0.out]
      have HS2 := Lib.hid hs2
      clear ho3 hf3 hs2
      by_cases hgr : st.2 < r.2
      · have hgr2 : ¬ r.2 ≤ st.2 := by omega
        have HG := Lib.hid hgr
        go_wp2_with fail
        go_roundw
        case rel => exact ⟨1, by omega, by rfl, by rw [HUP.out, if_pos (by have := HG.out; rw [HS2.out] at this; exact this)], by rw [HUP.out, if_pos (by have := HG.out; rw [HS2.out] at this; exact this)]; exact HO3.out, HW3.out⟩
        case measure => simp [intOf]
      · have hgr2 : r.2 ≤ st.2 := by omega
        have HG := Lib.hid hgr
        go_wp2_with fail
        go_roundw
        case rel => exact ⟨1, by omega, by rfl, by rw [HUP.out, if_neg (by have := HG.out; rw [HS2.out] at this; omega), HS0.out], by rw [HUP.out, if_neg (by have := HG.out; rw [HS2.out] at this; omega), ← HS0.out]; exact HO9.out, HW3.out⟩
        case measure => simp [intOf]
    · obtain rfl : j = 1 := by omega
      clear ho8 hf
      go_wp2
      go_ret2
      rw [HE.out, HST.out]
      exact ⟨_, rfl, HO8.out, HFj.out⟩

def refBestV (h k : Int) : List Int × Int × Int := if bestErr h k then ([], 0, 2) else ((refGo k.toNat h []).1, (refGo k.toNat h []).2, 0)
def trishawref04_Best.f (a0 : Int) (a1 : Int) : Option (List Int × Int × Int) := some (refBestV a0 a1)

theorem ref_all (B : Nat) (h k : Int) (hk1 : 1 ≤ k) : ∀ n : Nat, (n : Int) + 1 ≤ k → RefSaid B h k n
  | 0, _ => ref_zero B h k hk1
  | n + 1, hn => fun l v W h1 h6 htk hk hk4 hlb hLb hown hB => by
    have hne : l ≠ [] := fun e => by subst e; simp at hk; omega
    exact ref_succ B h k n (ref_all B h k hk1 n (by omega)) l v W h1 h6 (htk.resolve_left hne) (by omega) hk4 (hlb hne) hLb hown hB

theorem bestErr_false' {h k : Int} (e : bestErr h k = false) : 1 ≤ h ∧ h ≤ 6 ∧ 1 ≤ k ∧ k ≤ 4 ∧ h * k ≤ 16 := by
  simp [bestErr] at e; omega

set_option maxHeartbeats 4000000 in
set_option maxRecDepth 100000 in
theorem refBest_err (h k : Int) (w : World) (he : bestErr h k = true) :
    Calls Try.prog 21 #[.int .i64 h, .int .i64 k] w fun e w' => ∃ v0_ : Value, e = .returned (.tuple #[v0_, .int .i64 0, .int .i64 2]) ∧ Kd.R (Kd.int .i64) 3 w' w.heap.size (fun _ => True) v0_ [] ∧ Below w.heap.size w w' := by
  by_cases c1 : h < 1
  · go_enter Try.func21, Try.ntmps21
    go_wp2
    go_ret3
    exact ⟨_, rfl, Kd.R_nil _ _ _ _ _, Below.refl _ w⟩
  · have c1' : 1 ≤ h := by omega
    clear c1
    by_cases c2 : 6 < h
    · go_enter Try.func21, Try.ntmps21
      go_wp2
      go_ret3
      exact ⟨_, rfl, Kd.R_nil _ _ _ _ _, Below.refl _ w⟩
    · have c2' : h ≤ 6 := by omega
      clear c2
      by_cases c3 : k < 1
      · go_enter Try.func21, Try.ntmps21
        go_wp2
        go_ret3
        exact ⟨_, rfl, Kd.R_nil _ _ _ _ _, Below.refl _ w⟩
      · have c3' : 1 ≤ k := by omega
        clear c3
        by_cases c4 : 4 < k
        · go_enter Try.func21, Try.ntmps21
          go_wp2
          go_ret3
          exact ⟨_, rfl, Kd.R_nil _ _ _ _ _, Below.refl _ w⟩
        · have c4' : k ≤ 4 := by omega
          clear c4
          have c5 : 16 < h * k := by simp [bestErr] at he; omega
          have c6 : h * k ≤ 24 := by have := Int.mul_le_mul c2' c4' (by omega) (by omega); omega
          clear he
          go_enter Try.func21, Try.ntmps21
          go_wp2
          go_ret3
          exact ⟨_, rfl, Kd.R_nil _ _ _ _ _, Below.refl _ w⟩

set_option maxHeartbeats 4000000 in
set_option maxRecDepth 100000 in
theorem refBest_ok (h k : Int) (w : World) (he : bestErr h k = false) :
    Calls Try.prog 21 #[.int .i64 h, .int .i64 k] w fun e w' => ∃ v0_ : Value, e = .returned (.tuple #[v0_, .int .i64 (refGo k.toNat h []).2, .int .i64 0]) ∧ Kd.R (Kd.int .i64) 3 w' w.heap.size (fun _ => True) v0_ (refGo k.toNat h []).1 ∧ Below w.heap.size w w' := by
  obtain ⟨h1, h6, k1, k4, hk⟩ := bestErr_false' he
  have hk1 : 1 ≤ h * k := by have := Int.mul_le_mul h1 k1 (by omega) (by omega); omega
  obtain ⟨n, hn⟩ : ∃ n, k.toNat = n + 1 := ⟨k.toNat - 1, by omega⟩
  have hLb : Lb h n ≤ 85 := by
    have := Lb_le (k := n + 1) h1 h6 (by omega) (by omega) (by have e : ((n + 1 : Nat) : Int) = k := (by omega); rw [e]; exact hk)
    simpa using this
  have hcall := ref_nil w.heap.size h k n (ref_all w.heap.size h k k1 n (by omega)) w h1 h6 (by omega) (by omega) (by omega) (Nat.le_refl _)
  rw [hn]
  generalize refGo (n + 1) h [] = r at *
  have HC := Lib.hid hcall
  clear hcall hLb hn he
  go_enter Try.func21, Try.ntmps21
  go_wp2_with fail
  go_at_call 48
  refine HC.out.mono ?_
  rintro e W1 ⟨v, rfl, ho, hb⟩
  obtain ⟨A, c, rfl⟩ := own_slice ho
  have HO := Lib.hid ho
  have HB := Lib.hid hb
  clear ho hb
  go_wp2_with fail
  go_ret3
  exact ⟨_, rfl, Kd.R_of_own HO.out (fun _ _ => trivial), HB.out⟩

theorem trishawref04_Best.calls (a0 : Int) (a1 : Int) (r1 : List Int) (r2 : Int) (r3 : Int) (w : World) (h : trishawref04_Best.f a0 a1 = some (r1, r2, r3)) :
    Calls Try.prog 21 #[.int .i64 a0, .int .i64 a1] w fun e w' => ∃ v0_ : Value, e = .returned (.tuple #[v0_, .int .i64 r2, .int .i64 r3]) ∧ Kd.R (Kd.int .i64) 3 w' w.heap.size (fun _ => True) v0_ r1 ∧ Below w.heap.size w w' := by
  unfold trishawref04_Best.f refBestV at h
  cases he : bestErr a0 a1 with
  | true =>
    rw [if_pos he] at h
    simp only [Option.some.injEq, Prod.mk.injEq] at h
    obtain ⟨rfl, rfl, rfl⟩ := h
    exact refBest_err a0 a1 w he
  | false =>
    rw [if_neg (by rw [he]; simp)] at h
    simp only [Option.some.injEq, Prod.mk.injEq] at h
    obtain ⟨rfl, rfl, rfl⟩ := h
    exact refBest_ok a0 a1 w he

end Go.Proofs.Ytcgblpjknkmoaaa.B
