/- stamp.Next: the value that gives the greatest range, and this range. -/
import Derived.Test.YtcgblpjknkmoaaaGInsert
import Derived.Test.YtcgblpjknkmoaaaGBase
import Derived.Test.YtcgblpjknkmoaaaWithV
import Derived.Test.YtcgblpjknkmoaaaB2
import Derived.Test.YtcgblpjknkmoaaaB6
namespace Go.Proofs.Ytcgblpjknkmoaaa.B
open Go.RowKit Go.Shelf Go.Proofs.YtcgblpjknkmoaaaW.PrintWords Go.Proofs.YtcgblpjknkmoaaaW.PrintLast Go.Proofs.YtcgblpjknkmoaaaW.PrintMore
open Go.Proofs Go.Proofs.Ytcgblpjknkmoaaa.G Go.Proofs.Ytcgblpjknkmoaaa.Stamp

/-- in an ascending row: less than x is just what stands ahead of its place -/
theorem withAt_iff {V : List Int} (hs : V.Pairwise (· < ·)) {x : Int} {m : Nat} (hm : m < V.length) : rd V (m : Int) < x ↔ m < withAt V x := by
  constructor
  · intro h
    rcases Nat.lt_or_ge m (withAt V x) with c | c
    · exact c
    · exfalso
      have hl : withAt V x < V.length := by omega
      have h1 := withAt_at hl
      rcases Nat.lt_or_ge (withAt V x) m with c2 | c2
      · have := List.pairwise_iff_getElem.1 hs (withAt V x) m hl hm c2
        rw [rd_nat] at h h1
        simp [hm, hl] at h h1
        omega
      · have e : withAt V x = m := by omega
        rw [e] at h1; exact h1 h
  · exact withAt_lt
theorem withAt_mem {V : List Int} (hs : V.Pairwise (· < ·)) {x : Int} : x ∈ V ↔ withAt V x < V.length ∧ rd V ((withAt V x : Nat) : Int) = x := by
  constructor
  · intro h
    obtain ⟨j, hj, e⟩ := List.mem_iff_getElem.1 h
    have hx : rd V (j : Int) = x := by rw [rd_nat]; simp [hj, e]
    have h1 : ¬ j < withAt V x := fun c => by have := withAt_lt c; omega
    have hl : withAt V x < V.length := by omega
    refine ⟨hl, ?_⟩
    rcases Nat.lt_or_ge (withAt V x) j with c | c
    · have h2 := withAt_at hl
      have := List.pairwise_iff_getElem.1 hs (withAt V x) j hl hj c
      rw [rd_nat] at h2
      simp [hl] at h2
      omega
    · have e2 : withAt V x = j := by omega
      rw [e2]; exact hx
  · rintro ⟨hl, e⟩
    rw [← e]; exact rd_mem (by omega) (by omega)

theorem mid_eq {lo hi m : Nat} (h1 : lo ≤ 1000) (h2 : hi ≤ 1000) (hm : (lo + hi) / 2 = m) : wrap64 ((IntKind.u64.wrap (wrap64 ((lo : Int) + (hi : Int)))) / 2) = (m : Int) := by
  rw [w64 (x := (lo : Int) + (hi : Int)) (by omega), IntWalk.u64_in _ (by omega), w64 (by omega)]; omega
theorem search_l0 {V : List Int} (hs : V.Pairwise (· < ·)) (hl : V.length ≤ 1000) (x : Int) (d : Nat) : ∀ (lo hi k : Nat), hi - lo ≤ d → lo ≤ withAt V x → withAt V x ≤ hi → hi ≤ V.length → d < k →
    slices_BinarySearch_int_int.l0 k V x (V.length : Int) (lo : Int) (hi : Int) = some (((withAt V x : Nat) : Int), decide (x ∈ V)) := by
  induction d with
  | zero =>
    intro lo hi k hd h1 h2 h3 hk
    obtain ⟨k, rfl⟩ : ∃ m, k = m + 1 := ⟨k - 1, by omega⟩
    obtain rfl : lo = withAt V x := by omega
    simp only [slices_BinarySearch_int_int.l0]
    rw [if_neg (by omega)]
    by_cases c : withAt V x < V.length
    · rw [if_pos (by omega), if_pos (by omega), if_pos (by omega)]
      have hm := withAt_mem hs (x := x)
      by_cases c2 : rd V ((withAt V x : Nat) : Int) = x
      · rw [if_pos c2, decide_eq_true (hm.2 ⟨c, c2⟩)]
      · rw [if_neg c2, decide_eq_false (fun h => c2 (hm.1 h).2)]
        simp [slices_isNaN_int.f]
    · rw [if_neg (by omega)]
      have hm := withAt_mem hs (x := x)
      rw [decide_eq_false (fun h => c (hm.1 h).1)]
  | succ d ih =>
    intro lo hi k hd h1 h2 h3 hk
    rcases Nat.lt_or_ge lo hi with c | c
    · obtain ⟨k, rfl⟩ : ∃ m, k = m + 1 := ⟨k - 1, by omega⟩
      obtain ⟨m, hm⟩ : ∃ m, (lo + hi) / 2 = m := ⟨_, rfl⟩
      have hmV : m < V.length := by omega
      have q1 : (lo : Int) < (hi : Int) := by omega
      have q2 : (0 : Int) ≤ (m : Int) := by omega
      have q3 : (m : Int) < (V.length : Int) := by omega
      have q4 : hi - (m + 1) ≤ d := by omega
      have q5 : m - lo ≤ d := by omega
      have q6 : m ≤ V.length := by omega
      have q7 : d < k := by omega
      have hi2 := withAt_iff hs (x := x) hmV
      have e1 : wrap64 ((m : Int) + 1) = ((m + 1 : Nat) : Int) := by rw [w64 (by omega)]; omega
      have hlt : cmp_Less_int.f (rd V (m : Int)) x = some (decide (rd V (m : Int) < x)) := by simp [cmp_Less_int.f, cmp_isNaN_int.f]
      have e0 := mid_eq (show lo ≤ 1000 by omega) (show hi ≤ 1000 by omega) hm
      simp only [slices_BinarySearch_int_int.l0]
      rw [if_pos q1, e0, if_pos q2, if_pos q3, hlt, e1]
      simp only [Option.bind_some]
      by_cases c2 : rd V (m : Int) < x
      · rw [if_pos (by simpa using c2)]
        exact ih (m + 1) hi k q4 (hi2.1 c2) h2 h3 q7
      · rw [if_neg (by simpa using c2)]
        exact ih lo m k q5 h1 (Nat.le_of_not_lt (mt hi2.2 c2)) q6 q7
    · obtain ⟨k, rfl⟩ : ∃ m, k = m + 1 := ⟨k - 1, by omega⟩
      exact ih lo hi (k + 1) (by omega) h1 h2 h3 (by omega)
theorem search_f {V : List Int} (hs : V.Pairwise (· < ·)) (hl : V.length ≤ 6) (x : Int) : slices_BinarySearch_int_int.f 10 V x = some (((withAt V x : Nat) : Int), decide (x ∈ V)) := by
  unfold slices_BinarySearch_int_int.f
  have := search_l0 hs (by omega) x V.length 0 V.length 10 (by omega) (by omega) (withAt_le V x) (Nat.le_refl _) (by omega)
  simpa using this

/-- the best one of the values from 1 to n -/
def nextTo (h : Int) (V : List Int) : Nat → Int × Int
  | 0 => (0, -1)
  | n + 1 => if ((n + 1 : Nat) : Int) ∈ V then nextTo h V n else if (nextTo h V n).2 < rangeV h (withV V ((n + 1 : Nat) : Int)) then (((n + 1 : Nat) : Int), rangeV h (withV V ((n + 1 : Nat) : Int))) else nextTo h V n
def nextV (h : Int) (V : List Int) : Int × Int × Int :=
  if ticketErr h V = 0 then (if V.length = 6 then (0, 0, 8) else ((nextTo h V 200).1, (nextTo h V 200).2, 0)) else (0, 0, ticketErr h V)
def stamp_Next.f (a0 : Int) (l1 : List Int) : Option (Int × Int × Int) := some (nextV a0 l1)

theorem C_of_cells {w : World} {ad : Addr} {xs : List Int} (hl : xs.length ≤ 1000) (h : ∀ j : Nat, j < xs.length → w.cell? (ad.add j) = some (.int .i64 (rd xs (j : Int)))) : Kd.C (Kd.int .i64) w (some ad) xs.length xs :=
  Kd.C_of_reads (d := (0 : Int)) (h1 := fun _ => rfl) ⟨rfl, by omega, fun _ => ⟨ad, rfl, fun j hj => by rw [h j hj]; rfl⟩⟩

theorem Kd.C_below' {w w1 : World} {A : Option Addr} {n : Nat} {xs : List Int} (h : Kd.C (Kd.int .i64) w A n xs) (hb : Below w.heap.size w w1) : Kd.C (Kd.int .i64) w1 A n xs := Kd.C_below h hb
theorem drawn_facts2 {w w1 : World} (h : Drawn0 w w1) : Below w.heap.size w w1 := by
  obtain ⟨n, rfl⟩ := h
  exact pw_below_drewN (Below.refl _ _) _
theorem own_row1 {w : World} {base n : Nat} {e : TypeId} {v : Value} {xs : List Value} (h : w.ownsRow base e 1 v n xs) (hn : 0 < n) : ∃ g cap, v = .slice (some ⟨g, 0, none⟩) n cap := by
  rcases h.2 with ⟨_, h⟩ | ⟨g, cap, _, h, _⟩
  · omega
  · exact ⟨g, cap, h⟩

theorem own_lt {w : World} {base n cap g : Nat} {e : TypeId} {xs : List Value} (h : w.ownsRow base e 1 (.slice (some ⟨g, 0, none⟩) n cap) n xs) (hn : 0 < n) : g < w.heap.size := by
  rcases h.2 with ⟨_, h⟩ | ⟨g', cap', cur, h, _, hh, _⟩
  · omega
  · injection h with h1
    injection h1 with h1
    injection h1 with h1
    subst h1
    exact (Array.getElem?_eq_some_iff.1 hh).1

set_option maxHeartbeats 4000000 in
set_option maxRecDepth 100000 in
theorem next_err (a0 : Int) (A1 : Option Addr) (c1 : Nat) (l1 : List Int) (w : World) (hr1 : Kd.C (Kd.int .i64) w A1 l1.length l1) (hc1 : l1.length ≤ c1) (he : ticketErr a0 l1 ≠ 0) :
    Calls Try.prog 37 #[.int .i64 a0, .slice A1 l1.length c1] w fun e w' => e = .returned (.tuple #[.int .i64 0, .int .i64 0, .int .i64 (ticketErr a0 l1)]) ∧ Below w.heap.size w w' := by
  have hasked := read_f a0 l1 7 (Nat.le_refl _)
  generalize ticketErr a0 l1 = ev at *
  have HA := Lib.hid hasked
  have HR := Lib.hid hr1
  have HC := Lib.hid hc1
  have e1 : (ev == 0) = false := by simp [he]
  have e2 : (ev != 0) = true := by simp [he]
  clear hasked hr1 hc1 he
  go_enter Try.func37, Try.ntmps37
  go_wp2_with (go_at_call 52; refine (stamp_read.calls 7 a0 A1 c1 l1 ev _ HR.out HC.out HA.out).mono ?_; rintro e w' ⟨rfl, ⟨nd, rfl⟩⟩)
  go_ret3
  exact ⟨rfl, pw_below_drewN (Below.refl _ _) _⟩

set_option maxHeartbeats 4000000 in
set_option maxRecDepth 100000 in
theorem next_full (a0 : Int) (A1 : Option Addr) (c1 : Nat) (l1 : List Int) (w : World) (hr1 : Kd.C (Kd.int .i64) w A1 l1.length l1) (hc1 : l1.length ≤ c1) (he : ticketErr a0 l1 = 0) (h6 : l1.length = 6) :
    Calls Try.prog 37 #[.int .i64 a0, .slice A1 l1.length c1] w fun e w' => e = .returned (.tuple #[.int .i64 0, .int .i64 0, .int .i64 8]) ∧ Below w.heap.size w w' := by
  have hasked := read_f a0 l1 7 (Nat.le_refl _)
  rw [he] at hasked
  have HA := Lib.hid hasked
  have HR := Lib.hid hr1
  have HC := Lib.hid hc1
  have H6 := Lib.hid h6
  clear hasked hr1 hc1 he
  have hb : ((l1.length : Int) == 6) = true := by simp [h6]
  clear h6
  go_enter Try.func37, Try.ntmps37
  go_wp2_with (go_at_call 52; refine (stamp_read.calls 7 a0 A1 c1 l1 0 _ HR.out HC.out HA.out).mono ?_; rintro e w' ⟨rfl, ⟨nd, rfl⟩⟩)
  go_ret3
  exact ⟨rfl, pw_below_drewN (Below.refl _ _) _⟩

set_option maxHeartbeats 4000000 in
set_option maxRecDepth 100000 in
theorem next_ok (a0 : Int) (A1 : Option Addr) (c1 : Nat) (l1 : List Int) (w : World) (hr1 : Kd.C (Kd.int .i64) w A1 l1.length l1) (hc1 : l1.length ≤ c1) (he : ticketErr a0 l1 = 0) (h6 : l1.length ≠ 6) :
    Calls Try.prog 37 #[.int .i64 a0, .slice A1 l1.length c1] w fun e w' => e = .returned (.tuple #[.int .i64 (nextTo a0 l1 200).1, .int .i64 (nextTo a0 l1 200).2, .int .i64 0]) ∧ Below w.heap.size w w' := by
  have tk := (ticket_iff a0 l1).1 he
  have hlen := tk.len
  have hpos := tk.pos
  have hasked := read_f a0 l1 7 (Nat.le_refl _)
  rw [he] at hasked
  have HA := Lib.hid hasked
  have HR := Lib.hid hr1
  have HC := Lib.hid hc1
  have HT := Lib.hid tk
  have HL := Lib.hid (show l1.length ≤ 5 by omega)
  have hb : ((l1.length : Int) == 6) = false := by simp; omega
  clear hasked hr1 hc1 he h6 tk hlen hpos
  go_enter Try.func37, Try.ntmps37
  go_wp2_with (go_at_call 52; refine (stamp_read.calls 7 a0 A1 c1 l1 0 _ HR.out HC.out HA.out).mono ?_; rintro e w0 ⟨rfl, hd⟩; have HD := Lib.hid (show Below w.heap.size w w0 by obtain ⟨n, rfl⟩ := hd; exact pw_below_drewN (Below.refl _ _) _); clear hd)
  go_loopw [8, 9, 10] (fun v8 v9 v10 wr => ∃ n : Nat, n ≤ 200 ∧ v10 = .int .i64 ((n : Int) + 1) ∧ v8 = .int .i64 (nextTo a0 l1 n).1 ∧ v9 = .int .i64 (nextTo a0 l1 n).2 ∧ Below w.heap.size w wr) (fun _ _ v10 _ => (201 - intOf v10).toNat)
  case atStart => exact ⟨0, by omega, rfl, rfl, rfl, HD.out⟩
  case round =>
    obtain ⟨n, hn, rfl, rfl, rfl, hbw⟩ := hrel
    have HBW := Lib.hid hbw
    clear hbw
    have en : ((n + 1 : Nat) : Int) = (n : Int) + 1 := by omega
    by_cases hlt : n < 200
    · have hle : (n : Int) + 1 ≤ 200 := by omega
      have hbs := search_f (asc_pairwise HT.out.asc) HT.out.len ((n : Int) + 1)
      have HN := Lib.hid hn
      have HLT := Lib.hid hlt
      have HEN := Lib.hid en
      have hstep : nextTo a0 l1 (n + 1) = if (n : Int) + 1 ∈ l1 then nextTo a0 l1 n else if (nextTo a0 l1 n).2 < rangeV a0 (withV l1 ((n : Int) + 1)) then ((n : Int) + 1, rangeV a0 (withV l1 ((n : Int) + 1))) else nextTo a0 l1 n := by
        rw [← en]; rfl
      clear hn en
      by_cases cm : (n : Int) + 1 ∈ l1
      · rw [decide_eq_true cm] at hbs
        rw [if_pos cm] at hstep
        have HBS := Lib.hid hbs
        have HST := Lib.hid hstep
        clear hbs hstep cm hlt
        go_wp2_with (go_at_call 56; refine (slices_BinarySearch_int_int.calls 10 A1 c1 l1 ((n : Int) + 1) _ _ wr (Kd.C_below' HR.out HBW.out) HC.out HBS.out).mono ?_; rintro e w1 ⟨rfl, hd⟩; have HD1 := Lib.hid (drawn_facts2 hd); clear hd)
        go_roundw
        case rel => exact ⟨n + 1, by have := HLT.out; omega, by rw [HEN.out], by rw [HST.out], by rw [HST.out], HBW.out.trans (HD1.out.mono HBW.out.size)⟩
        case measure => simp [intOf]; omega
      · rw [decide_eq_false cm] at hbs
        rw [if_neg cm] at hstep
        have tk2 := HT.out.withV (x := (n : Int) + 1) HL.out cm (by omega) (by omega)
        have hre := reach_f tk2 10000 (Nat.le_refl _)
        have HBS := Lib.hid hbs
        have HST := Lib.hid hstep
        have HRE := Lib.hid hre
        have HAT := Lib.hid (withAt_le l1 ((n : Int) + 1))
        have HWL := Lib.hid (withV_length l1 ((n : Int) + 1))
        have HWE := Lib.hid (show withV l1 ((n : Int) + 1) = l1.take (withAt l1 ((n : Int) + 1)) ++ [(n : Int) + 1] ++ l1.drop (withAt l1 ((n : Int) + 1)) from rfl)
        clear hbs hstep cm hlt hre tk2
        generalize withAt l1 ((n : Int) + 1) = at_ at *
        generalize withV l1 ((n : Int) + 1) = V2 at *
        generalize rangeV a0 V2 = rg at *
        generalize nextTo a0 l1 n = st at *
        by_cases cg : st.2 < rg
        · have hgr : ¬ rg ≤ st.2 := by omega
          have HG := Lib.hid cg
          go_wp2_with (first
            | (go_at_call 56; refine (slices_BinarySearch_int_int.calls 10 A1 c1 l1 ((n : Int) + 1) _ _ wr (Kd.C_below' HR.out HBW.out) HC.out HBS.out).mono ?_; rintro e w1 ⟨rfl, hd⟩; have HD1 := Lib.hid (drawn_facts2 hd); clear hd)
            | (go_at_call 43; refine (clone_calls A1 c1 l1 w1 (Kd.C_below' HR.out (HBW.out.trans (HD1.out.mono HBW.out.size))) HC.out (by have := HL.out; omega)).mono ?_; rintro e w2 ⟨v2, rfl, hR2, hB2⟩; obtain ⟨g2, cp2, rfl⟩ := own_row1 (Kd.own_of_R hR2) HT.out.pos; have HO2 := Lib.hid (Kd.own_of_R hR2); have HB2 := Lib.hid hB2; clear hR2 hB2)
            | (go_at_call 57; refine (insert_calls (w2.alloc (.cells #[.int .i64 ((n : Int) + 1)] 3)) w1.heap.size g2 cp2 at_ l1 ((n : Int) + 1) w2.heap.size HAT.out (by have := HL.out; omega) (by have := HB2.out.size; simp; omega) (HO2.out.alloc _) (heap_alloc_new w2 _) (fun e => by have := own_lt HO2.out HT.out.pos; omega)).mono ?_; rintro e w4 ⟨ad4, c4, rfl, hc4, hcell, hb4⟩; rw [← HWE.out] at hcell; have HC4 := Lib.hid hc4; have HCE := Lib.hid hcell; have HB4 := Lib.hid hb4; clear hc4 hcell hb4)
            | (go_at_call 47; refine (show Calls Try.prog 47 #[.int .i64 a0, .slice (some ad4) (l1.length + 1) c4] w4 _ by have h9 := stamp_reach.calls 10000 a0 (some ad4) c4 V2 rg w4 (C_of_cells (by rw [HWL.out]; have := HL.out; omega) (by rw [HWL.out]; exact HCE.out)) (by rw [HWL.out]; exact HC4.out) HRE.out; rw [HWL.out] at h9; exact h9).mono ?_; rintro e w5 ⟨rfl, hb5⟩; have HB5 := Lib.hid hb5; clear hb5))
          go_roundw
          case rel => exact ⟨n + 1, by have := HLT.out; omega, by rw [HEN.out], by rw [HST.out, if_pos HG.out], by rw [HST.out, if_pos HG.out], HBW.out.trans ((HD1.out.trans ((HB2.out.trans (((Below.refl _ w2).alloc HB2.out.size _).trans (HB4.out.trans (HB5.out.mono (by have h8 := HB4.out.size; have h9 := HB2.out.size; simp at h8; omega))))).mono HD1.out.size)).mono HBW.out.size)⟩
          case measure => simp [intOf]; omega
        · have hgr : rg ≤ st.2 := by omega
          have HG := Lib.hid cg
          go_wp2_with (first
            | (go_at_call 56; refine (slices_BinarySearch_int_int.calls 10 A1 c1 l1 ((n : Int) + 1) _ _ wr (Kd.C_below' HR.out HBW.out) HC.out HBS.out).mono ?_; rintro e w1 ⟨rfl, hd⟩; have HD1 := Lib.hid (drawn_facts2 hd); clear hd)
            | (go_at_call 43; refine (clone_calls A1 c1 l1 w1 (Kd.C_below' HR.out (HBW.out.trans (HD1.out.mono HBW.out.size))) HC.out (by have := HL.out; omega)).mono ?_; rintro e w2 ⟨v2, rfl, hR2, hB2⟩; obtain ⟨g2, cp2, rfl⟩ := own_row1 (Kd.own_of_R hR2) HT.out.pos; have HO2 := Lib.hid (Kd.own_of_R hR2); have HB2 := Lib.hid hB2; clear hR2 hB2)
            | (go_at_call 57; refine (insert_calls (w2.alloc (.cells #[.int .i64 ((n : Int) + 1)] 3)) w1.heap.size g2 cp2 at_ l1 ((n : Int) + 1) w2.heap.size HAT.out (by have := HL.out; omega) (by have := HB2.out.size; simp; omega) (HO2.out.alloc _) (heap_alloc_new w2 _) (fun e => by have := own_lt HO2.out HT.out.pos; omega)).mono ?_; rintro e w4 ⟨ad4, c4, rfl, hc4, hcell, hb4⟩; rw [← HWE.out] at hcell; have HC4 := Lib.hid hc4; have HCE := Lib.hid hcell; have HB4 := Lib.hid hb4; clear hc4 hcell hb4)
            | (go_at_call 47; refine (show Calls Try.prog 47 #[.int .i64 a0, .slice (some ad4) (l1.length + 1) c4] w4 _ by have h9 := stamp_reach.calls 10000 a0 (some ad4) c4 V2 rg w4 (C_of_cells (by rw [HWL.out]; have := HL.out; omega) (by rw [HWL.out]; exact HCE.out)) (by rw [HWL.out]; exact HC4.out) HRE.out; rw [HWL.out] at h9; exact h9).mono ?_; rintro e w5 ⟨rfl, hb5⟩; have HB5 := Lib.hid hb5; clear hb5))
          go_roundw
          case rel => exact ⟨n + 1, by have := HLT.out; omega, by rw [HEN.out], by rw [HST.out, if_neg (by have := HG.out; omega)], by rw [HST.out, if_neg (by have := HG.out; omega)], HBW.out.trans ((HD1.out.trans ((HB2.out.trans (((Below.refl _ w2).alloc HB2.out.size _).trans (HB4.out.trans (HB5.out.mono (by have h8 := HB4.out.size; have h9 := HB2.out.size; simp at h8; omega))))).mono HD1.out.size)).mono HBW.out.size)⟩
          case measure => simp [intOf]; omega
    · obtain rfl : n = 200 := by omega
      have hgt : (200 : Int) < (200 : Nat) + 1 := by omega
      go_wp2
      go_ret3
      exact ⟨rfl, HBW.out⟩

theorem stamp_Next.calls (a0 : Int) (A1 : Option Addr) (c1 : Nat) (l1 : List Int) (r1 : Int) (r2 : Int) (r3 : Int) (w : World) (hr1 : Kd.C (Kd.int .i64) w A1 l1.length l1) (hc1 : l1.length ≤ c1) (h : stamp_Next.f a0 l1 = some (r1, r2, r3)) :
    Calls Try.prog 37 #[.int .i64 a0, .slice A1 l1.length c1] w fun e w' => e = .returned (.tuple #[.int .i64 r1, .int .i64 r2, .int .i64 r3]) ∧ Below w.heap.size w w' := by
  have h := Option.some.inj h
  unfold nextV at h
  by_cases he : ticketErr a0 l1 = 0
  · rw [if_pos he] at h
    by_cases h6 : l1.length = 6
    · rw [if_pos h6] at h; cases h
      exact next_full a0 A1 c1 l1 w hr1 hc1 he h6
    · rw [if_neg h6] at h; cases h
      exact next_ok a0 A1 c1 l1 w hr1 hc1 he h6
  · rw [if_neg he] at h; cases h
    exact next_err a0 A1 c1 l1 w hr1 hc1 he

end Go.Proofs.Ytcgblpjknkmoaaa.B
