/- The closure of stamp.lists that calls itself, where the list is whole: the amount left decides, or the round. -/
import Derived.Test.YtcgblpjknkmoaaaGLists0
import Derived.RangeFuncBound
import Derived.RangeFuncLeaves
import Derived.RangeFuncWrites
import Derived.WalkKit
import Derived.OwnWalkIn
import Derived.TacticsInMore
import Derived.LoopNIn
import Derived.LoopIn
namespace Go.Proofs.Ytcgblpjknkmoaaa.B
open Go.RowKit Go.Shelf Go.Proofs.YtcgblpjknkmoaaaW.PrintWords Go.Proofs.YtcgblpjknkmoaaaW.PrintLast Go.Proofs.YtcgblpjknkmoaaaW.PrintMore
open Go.Proofs Go.Proofs.Ytcgblpjknkmoaaa.G Go.Proofs.Ytcgblpjknkmoaaa.Stamp
attribute [local go_sem] Oper.semAt_some

/-- one round of the caller's loop, at whatever depth -/
def Rounds (w0 : World) (ad : Addr) (len c np s l : Nat) (M : Int) (J : List (List Int) → World → Prop) (Jx : Nat → List (List Int) → World → Prop) : Prop :=
  ∀ (m : Nat) (ys : List (List Int)) (x : List Int) (v : Value) (W : World), J ys W → LSt w0 ad len c np s l M W x v → (x.length : Int) = M → YieldAt Fence.wide m Try.prog l #[v] W fun e W' =>
    (e = .returned (.bool true) ∧ J (ys ++ [x]) W' ∧ KeepL ad np s W W') ∨ (e = .returned (.bool false) ∧ Jx W.heap.size (ys ++ [x]) W' ∧ KeepL ad np s W W')

/-- what a call of the closure comes to: all lists have come; or some, and a round has said 'no more' -/
def OnEnd (w0 : World) (ad : Addr) (len c np s l : Nat) (M : Int) (J : List (List Int) → World → Prop) (Jx : Nat → List (List Int) → World → Prop) (pre : List Int) (v : Value) (ys all : List (List Int)) (W : World) (e : Ending) (W' : World) : Prop :=
  ∃ v', LSt w0 ad len c np s l M W' pre v' ∧ RowN W.heap.size v v' ∧ LFr s v W W' ∧
    ((e = .returned (.bool true) ∧ J (ys ++ all) W') ∨ (e = .returned (.bool false) ∧ ∃ q, q <+: all ∧ q ≠ [] ∧ ∃ t, W.heap.size + 3 ≤ t ∧ Jx t (ys ++ q) W'))

def onLArgs (np s : Nat) (least left : Int) : Array Value := #[.int .i64 least, .int .i64 left, .pointer (some ⟨s + 1, 0, none⟩), .pointer (some ⟨np + 1, 0, none⟩), .pointer (some ⟨s, 0, none⟩), .pointer (some ⟨np, 0, none⟩), .pointer (some ⟨s + 2, 0, none⟩)]

/-- the caller's invariants do not mind what the closures write: blocks from s on -/
def Abs (s : Nat) (J : List (List Int) → World → Prop) : Prop := ∀ ys A B, J ys A → Below s A B → J ys B

/-- what the closures may do behind the last round, which began at a heap of size t: of the cells from s on they write only such as were there then -/
def Chg (s t : Nat) (A B : World) : Prop := Below s A B ∧ ∀ k o, t ≤ k → A.heap[k]? = some o → o.isCells = true → B.heap[k]? = some o
def AbsT (s t : Nat) (K : List (List Int) → World → Prop) : Prop := ∀ ys A B, K ys A → Chg s t A B → K ys B
theorem Abs.toT {s : Nat} {J : List (List Int) → World → Prop} (h : Abs s J) (t : Nat) : AbsT s t J := fun ys A B hj hc => h ys A B hj hc.1
theorem Chg.setCell {s t : Nat} (A : World) {b : Nat} (h1 : s ≤ b) (h2 : b < t) (u : Value) : Chg s t A (A.setCell ⟨b, 0, none⟩ u) :=
  ⟨(Below.refl s A).setCell (p := ⟨b, 0, none⟩) h1 u, fun k o hk ho _ => (Below.heap_setCell A ⟨b, 0, none⟩ u k (show k ≠ b by omega)).trans ho⟩
theorem Chg.grown {s t : Nat} {A B : World} {row : Option Nat} (hs : s ≤ A.heap.size) (hg : A.grownBy B row) (hr : ∀ r, row = some r → s ≤ r ∧ ∃ o : Obj, A.heap[r]? = some o ∧ o.isCells = false) : Chg s t A B :=
  ⟨(Below.refl s A).grown hg hs (fun k e => (hr k e).1), fun k o _ ho hc => (hg.block k (Array.getElem?_eq_some_iff.1 ho).1 (fun e => by
    obtain ⟨-, o', h1, h2⟩ := hr k e.symm
    rw [ho] at h1; cases h1; rw [hc] at h2; cases h2)).trans ho⟩

theorem LSt.form {w0 : World} {ad : Addr} {len c np s l : Nat} {M : Int} {W : World} {pre : List Int} {v : Value} (h : LSt w0 ad len c np s l M W pre v) : ∃ A cap, v = .slice A pre.length cap := own_slice h.row

set_option maxHeartbeats 4000000 in
set_option maxRecDepth 100000 in
theorem on60_leaf (w0 : World) (ad : Addr) (len c np s l : Nat) (M : Int) (J : List (List Int) → World → Prop) (Jx : Nat → List (List Int) → World → Prop) (hJ : Abs s J) (hJx : ∀ t, AbsT s t (Jx t)) (hR : Rounds w0 ad len c np s l M J Jx) (hns : np + 3 ≤ s) (had : ad.block < s)
    (n : Nat) (pre : List Int) (v : Value) (least left : Int) (ys : List (List Int)) (W : World) (hM : (pre.length : Int) = M) (hst : LSt w0 ad len c np s l M W pre v) (hj : J ys W) :
    CallsIn Fence.wide n Try.prog 60 (onLArgs np s least left) W (OnEnd w0 ad len c np s l M J Jx pre v ys (if left = 0 then [pre] else []) W) := by
  obtain ⟨A, cap, rfl⟩ := hst.form
  have hb1 := (((Below.refl W.heap.size W).alloc (Nat.le_refl _) (.cells #[.int .i64 least] 3)).alloc (by simp) (.cells #[.int .i64 left] 3)).alloc (by simp; omega) (.cells #[.bool false] 4)
  have hsz := hst.size
  have b7 := ((Boxed.new W 3 (.int .i64 least)).alloc (.cells #[.int .i64 left] 3)).alloc (.cells #[.bool false] 4)
  have b8 := (Boxed.new (W.alloc (.cells #[.int .i64 least] 3)) 3 (.int .i64 left)).alloc (.cells #[.bool false] 4)
  have b9 := Boxed.new ((W.alloc (.cells #[.int .i64 least] 3)).alloc (.cells #[.int .i64 left] 3)) 4 (.bool false)
  simp only [World.size_alloc] at b8 b9
  have hst1 := hst.below hb1 (by omega)
  have hj1 := hJ ys W _ hj (hb1.mono (by omega))
  have hf1 : LFr s (.slice A pre.length cap) W _ := LFr.of_below hb1
  have hs3 : (((W.alloc (.cells #[.int .i64 least] 3)).alloc (.cells #[.int .i64 left] 3)).alloc (.cells #[.bool false] 4)).heap.size = W.heap.size + 3 := by simp
  have hMb : ((pre.length : Int) == M) = true := by simp [hM]
  have c1 := hst1.lbx.cell
  have c2 := hst1.many.cell
  have c3 := hst1.yld.cell
  have c8 := b8.cell
  have c9 := b9.cell
  have f9 := b9.frozen
  generalize hW1 : ((W.alloc (.cells #[.int .i64 least] 3)).alloc (.cells #[.int .i64 left] 3)).alloc (.cells #[.bool false] 4) = W1 at *
  have HS1 := Lib.hid hst1
  have HF1 := Lib.hid hf1
  have HB9 := Lib.hid b9
  have hsz1 := hst1.base
  have HBS := Lib.hid hst.base
  unfold onLArgs
  by_cases hl : left = 0
  · have hlb : (left != 0) = false := by simp [hl]
    rw [if_pos hl]
    have hY := hR (n - 1) ys pre (.slice A pre.length cap) _ hj1 hst1 hM
    obtain ⟨fn, tmps, assign, body, hy, hRd⟩ := hY
    have HRd := Lib.hid hRd
    clear hRd hst hst1 hf1 b7 b8 b9 hb1 hj1 hj hM hl hR hsz1
    refine callsIn_of_wp Try.func60 rfl trivial ?_ rfl
    simp only [Try.ntmps60, List.size_toArray, List.length_cons, List.length_nil, Nat.reduceAdd, Nat.reduceSub, Array.replicate_succ, Array.replicate_zero, List.push_toArray, List.append_toArray, List.nil_append, List.cons_append]
    gi_wp2_with fail
    refine ⟨fun h => absurd h (by simp [Fence.wide]), ?_⟩
    refine HRd.out.mono ?_
    rintro e W2 (⟨rfl, hj2, hk⟩ | ⟨rfl, hx2, hk⟩)
    · have b92 : Boxed W2 (W.heap.size + 1 + 1) 4 (.bool false) := (hk.2 _ HB9.out.lt (.inr (.inr (by omega)))).trans HB9.out
      have hs2 := HS1.out.keep hk (by omega)
      have HS2 := Lib.hid (hs2.setOther (b := W.heap.size + 1 + 1) (by omega) (fun e => by have := (HBS.out _ e.symm).2; omega) hns had (.bool true))
      have HF2 := Lib.hid ((HF1.out.trans (LFr.of_keep hk) (RowN.refl _ _)).setNew (b := W.heap.size + 1 + 1) (by omega) (.bool true))
      have HJ2 := Lib.hid (hJ _ _ _ hj2 ((Below.refl s W2).setCell (p := ⟨W.heap.size + 1 + 1, 0, none⟩) (show s ≤ W.heap.size + 1 + 1 by omega) (.bool true)))
      have c92 := b92.cell
      have f92 := b92.frozen
      have c93 := (b92.set (.bool true)).cell
      clear hj2 hk hs2 b92
      gi_wp2
      refine bodyPost_ret (v := .bool true) (by simp [results, Try.f60, go_sem, c93]) rfl ?_
      exact ⟨_, HS2.out, RowN.refl _ _, HF2.out, .inl ⟨rfl, HJ2.out⟩⟩
    · have b92 : Boxed W2 (W.heap.size + 1 + 1) 4 (.bool false) := (hk.2 _ HB9.out.lt (.inr (.inr (by omega)))).trans HB9.out
      have hs2 := HS1.out.keep hk (by omega)
      have HS2 := Lib.hid (hs2.setOther (b := W.heap.size + 1 + 1) (by omega) (fun e => by have := (HBS.out _ e.symm).2; omega) hns had (.bool false))
      have HF2 := Lib.hid ((HF1.out.trans (LFr.of_keep hk) (RowN.refl _ _)).setNew (b := W.heap.size + 1 + 1) (by omega) (.bool false))
      have HJ2 := Lib.hid (hJx _ _ _ _ hx2 (Chg.setCell W2 (b := W.heap.size + 1 + 1) (by omega) (by omega) (.bool false)))
      have c92 := b92.cell
      have f92 := b92.frozen
      have c93 := (b92.set (.bool false)).cell
      clear hx2 hk hs2 b92
      gi_wp2
      refine bodyPost_ret (v := .bool false) (by simp [results, Try.f60, go_sem, c93]) rfl ?_
      exact ⟨_, HS2.out, RowN.refl _ _, HF2.out, .inr ⟨rfl, [pre], List.prefix_refl _, by simp, _, by omega, HJ2.out⟩⟩
  · have hlb : (left != 0) = true := by simp [hl]
    rw [if_neg hl]
    have HS2 := Lib.hid (hst1.setOther (b := W.heap.size + 1 + 1) (by omega) (fun e => by have := (HBS.out _ e.symm).2; omega) hns had (.bool true))
    have HF2 := Lib.hid (hf1.setNew (b := W.heap.size + 1 + 1) (by omega) (.bool true))
    have HJ2 := Lib.hid (hJ _ _ _ hj1 ((Below.refl s W1).setCell (p := ⟨W.heap.size + 1 + 1, 0, none⟩) (show s ≤ W.heap.size + 1 + 1 by omega) (.bool true)))
    have c93 := (b9.set (.bool true)).cell
    clear hst hst1 hf1 b7 b8 b9 hb1 hj1 hj hM hl hR hsz1
    refine callsIn_of_wp Try.func60 rfl trivial ?_ rfl
    simp only [Try.ntmps60, List.size_toArray, List.length_cons, List.length_nil, Nat.reduceAdd, Nat.reduceSub, Array.replicate_succ, Array.replicate_zero, List.push_toArray, List.append_toArray, List.nil_append, List.cons_append]
    gi_wp2
    refine ⟨fun _ h => (by cases h), ?_⟩
    gi_wp2
    refine bodyPost_ret (v := .bool true) (by simp [results, Try.f60, go_sem, c93]) rfl ?_
    exact ⟨_, HS2.out, RowN.refl _ _, HF2.out, .inl ⟨rfl, by simpa using HJ2.out⟩⟩

end Go.Proofs.Ytcgblpjknkmoaaa.B
