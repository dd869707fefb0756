/- The lists of stamps as the program goes through them: the values from an index on, the last one first. What the closures of stamp.lists keep in memory, and what they leave alone. The closure of stamp.lists that calls itself, where the list is whole: the amount left decides, or the round. The closure of stamp.lists that calls itself, where values are still to come. The iterator of stamp.lists: what a range over it comes to. -/
import Derived.Test.YtcgblpjknkmoaaaEv
import Derived.Test.YtcgblpjknkmoaaaGBase
import Derived.RangeFuncNested
import Derived.WalkSmall
import Derived.Lib.Hide
import Derived.RangeFuncBound
import Derived.RangeFuncLeaves
import Derived.RangeFuncWrites
import Derived.WalkKit
import Derived.OwnWalkIn
import Derived.TacticsInMore
import Derived.LoopNIn
import Derived.LoopIn
import Derived.Maps.OwnIn
import Derived.Maps.AppendAt
import Derived.Shelf.RegionOpen
import Derived.Laws.EntriesVeiled
namespace Go.Proofs.Ytcgblpjknkmoaaa.B
open Go.RowKit Go.Proofs.YtcgblpjknkmoaaaW.PrintWords Go.Proofs.YtcgblpjknkmoaaaW.PrintLast Go.Proofs.YtcgblpjknkmoaaaW.PrintMore
open Go.Proofs.Ytcgblpjknkmoaaa.Stamp

/-- what the value with an index brings -/
def contr (V : List Int) (m : Nat) (left : Int) (i : Nat) : List (List Int) := (gen (V.drop i) m (left - rd V (i : Int))).map (rd V (i : Int) :: ·)

theorem gen_up (V : List Int) (m : Nat) (left : Int) (d : Nat) : ∀ least, least + d = V.length → gen (V.drop least) (m + 1) left = ((List.range d).map (fun k => contr V m left (least + (d - 1 - k)))).flatten := by
  induction d with
  | zero => intro least h; rw [List.drop_of_length_le (by omega), gen_nil]; rfl
  | succ d ih =>
    intro least h
    rw [drop_rd (by omega), gen_cons, ih (least + 1) (by omega), List.range_succ, List.map_append, List.flatten_append]
    have e1 : (List.range d).map (fun k => contr V m left (least + 1 + (d - 1 - k))) = (List.range d).map (fun k => contr V m left (least + (d + 1 - 1 - k))) :=
      List.map_congr_left (fun k hk => by
        have : k < d := by simpa using hk
        have e : least + 1 + (d - 1 - k) = least + (d + 1 - 1 - k) := by omega
        rw [e])
    rw [e1]
    simp [contr, ← drop_rd (l := V) (i := least) (by omega)]

theorem contr_low {V : List Int} {m : Nat} {left : Int} {i : Nat} (hlow : ∀ v ∈ V.drop i, rd V (i : Int) ≤ v) (h : left < ((m : Int) + 1) * rd V (i : Int)) : contr V m left i = [] := by
  unfold contr
  rw [gen_none_low hlow (by rw [Int.add_mul] at h; omega)]; rfl
theorem contr_high {V : List Int} {m : Nat} {left : Int} {i : Nat} {M : Int} (hM : ∀ v ∈ V, v ≤ M) (hi : i < V.length) (h : ((m : Int) + 1) * M < left) : contr V m left i = [] := by
  unfold contr
  have := hM _ (rd_mem (l := V) (i := (i : Int)) (by omega) (by omega))
  rw [gen_none_high (M := M) (fun v hv => hM v (List.mem_of_mem_drop hv)) (by rw [Int.add_mul] at h; omega)]; rfl
theorem drop_low {p : Int} {V : List Int} (h : asc p V = true) {i : Nat} (hi : i < V.length) : ∀ v ∈ V.drop i, rd V (i : Int) ≤ v := by
  have hp := asc_pairwise h
  intro v hv
  rw [drop_rd hi] at hv
  rcases List.mem_cons.1 hv with rfl | hv
  · exact Int.le_refl _
  · have hd : (V.drop i).Pairwise (· < ·) := hp.sublist (List.drop_sublist _ _)
    rw [drop_rd hi] at hd
    exact Int.le_of_lt ((List.pairwise_cons.1 hd).1 v hv)

end Go.Proofs.Ytcgblpjknkmoaaa.B

namespace Go.Proofs.Ytcgblpjknkmoaaa.B
open Go.RowKit Go.Proofs.YtcgblpjknkmoaaaW.PrintWords Go.Proofs.YtcgblpjknkmoaaaW.PrintLast Go.Proofs.YtcgblpjknkmoaaaW.PrintMore
open Go.Proofs Go.Proofs.Ytcgblpjknkmoaaa.G

def onL (np s : Nat) : Value := .func (.func 60) #[] #[.pointer (some ⟨s + 1, 0, none⟩), .pointer (some ⟨np + 1, 0, none⟩), .pointer (some ⟨s, 0, none⟩), .pointer (some ⟨np, 0, none⟩), .pointer (some ⟨s + 2, 0, none⟩)]

/-- the boxes np, np + 1 (the values, how many), s to s + 2 (yield, the list, the closure), and the values' block -/
structure LSt (w0 : World) (ad : Addr) (len c np s l : Nat) (M : Int) (W : World) (pre : List Int) (v : Value) : Prop where
  vals : Boxed W np 22 (.slice (some ad) len c)
  many : Boxed W (np + 1) 3 (.int .i64 M)
  yld : Boxed W s 33 (.func (.yield l) #[] #[])
  lbx : Boxed W (s + 1) 22 v
  row : W.ownsRow (s + 3) 3 1 v pre.length (pre.map (Value.int .i64))
  on : Boxed W (s + 2) 31 (onL np s)
  blk : W.heap[ad.block]? = w0.heap[ad.block]?

/-- what a round leaves alone -/
def KeepL (ad : Addr) (np s : Nat) (W W' : World) : Prop := W.heap.size ≤ W'.heap.size ∧ ∀ k, k < W.heap.size → (k = ad.block ∨ (np ≤ k ∧ k < np + 3) ∨ s ≤ k) → W'.heap[k]? = W.heap[k]?

/-- what a call of the closure leaves alone: of the blocks from s on all but the list's box and its row -/
def LFr (s : Nat) (v : Value) (W W' : World) : Prop := W.heap.size ≤ W'.heap.size ∧ ∀ k, s ≤ k → k < W.heap.size → k ≠ s + 1 → some k ≠ v.ownBlock → W'.heap[k]? = W.heap[k]?
/-- the row that holds the list behind some steps: the same one, or a new one -/
def RowN (B : Nat) (v v' : Value) : Prop := v'.ownBlock = v.ownBlock ∨ ∃ b, v'.ownBlock = some b ∧ B ≤ b

theorem RowN.refl (B : Nat) (v : Value) : RowN B v v := .inl rfl
theorem RowN.trans {B B' : Nat} {v v' v'' : Value} (h : RowN B v v') (k : RowN B' v' v'') (hB : B ≤ B') : RowN B v v'' := by
  rcases k with k | ⟨b, k, hb⟩
  · rcases h with h | ⟨b, h, hb⟩
    · exact .inl (k.trans h)
    · exact .inr ⟨b, k.trans h, hb⟩
  · exact .inr ⟨b, k, by omega⟩
theorem LFr.refl (s : Nat) (v : Value) (W : World) : LFr s v W W := ⟨Nat.le_refl _, fun _ _ _ _ _ => rfl⟩
theorem LFr.trans {s : Nat} {v v' : Value} {X Y Z : World} (h : LFr s v X Y) (k : LFr s v' Y Z) (hr : RowN X.heap.size v v') : LFr s v X Z :=
  ⟨Nat.le_trans h.1 k.1, fun j a b c d => (k.2 j a (Nat.lt_of_lt_of_le b h.1) c (fun e => by
    rcases hr with hr | ⟨b', hr, hb⟩
    · exact d (e.trans hr)
    · rw [hr] at e; cases e; omega)).trans (h.2 j a b c d)⟩
theorem LFr.of_below {s : Nat} {v : Value} {W W' : World} (h : Below W.heap.size W W') : LFr s v W W' := ⟨h.size, fun k _ b _ _ => h.block k b⟩
theorem LFr.of_keep {s np : Nat} {ad : Addr} {v : Value} {W W' : World} (h : KeepL ad np s W W') : LFr s v W W' := ⟨h.1, fun k a b _ _ => h.2 k b (.inr (.inr a))⟩
theorem LFr.grown {s : Nat} {v : Value} {W W' : World} (hg : W.grownBy W' v.ownBlock) : LFr s v W W' := ⟨hg.size, fun k _ b _ d => hg.block k b d⟩
theorem LFr.set {s : Nat} {v : Value} (W : World) (u : Value) : LFr s v W (W.setCell ⟨s + 1, 0, none⟩ u) := ⟨by simp, fun k _ _ c _ => Below.heap_setCell _ _ _ k c⟩

section
variable {w0 : World} {ad : Addr} {len c np s l : Nat} {M : Int} {W W' : World} {pre : List Int} {v : Value}
theorem LSt.size (h : LSt w0 ad len c np s l M W pre v) : s + 3 ≤ W.heap.size := h.on.lt
theorem LSt.base (h : LSt w0 ad len c np s l M W pre v) : ∀ b, v.ownBlock = some b → s + 3 ≤ b ∧ b < W.heap.size := fun b e => ⟨own_base h.row b e, own_lt h.row b e⟩
theorem LSt.keep (h : LSt w0 ad len c np s l M W pre v) (hk : KeepL ad np s W W') (had : ad.block < W.heap.size) : LSt w0 ad len c np s l M W' pre v := by
  have mv : ∀ {b t u}, Boxed W b t u → (np ≤ b ∧ b < np + 3) ∨ s ≤ b → Boxed W' b t u := fun hb ho => (hk.2 _ hb.lt (.inr ho)).trans hb
  exact ⟨mv h.vals (.inl ⟨Nat.le_refl _, by omega⟩), mv h.many (.inl ⟨by omega, by omega⟩), mv h.yld (.inr (Nat.le_refl _)), mv h.lbx (.inr (by omega)),
    own_move h.row (fun k e => hk.2 k (h.base k e).2 (.inr (.inr (by have := (h.base k e).1; omega)))), mv h.on (.inr (by omega)), (hk.2 _ had (.inl rfl)).trans h.blk⟩
theorem LSt.move (h : LSt w0 ad len c np s l M W pre v) (hns : np + 3 ≤ s) (had : ad.block < s) (hm : ∀ k, k < s + 3 → W'.heap[k]? = W.heap[k]?) (hr : ∀ k, v.ownBlock = some k → W'.heap[k]? = W.heap[k]?) : LSt w0 ad len c np s l M W' pre v := by
  have mv : ∀ {b t u}, Boxed W b t u → b < s + 3 → Boxed W' b t u := fun hx hb => (hm _ hb).trans hx
  exact ⟨mv h.vals (by omega), mv h.many (by omega), mv h.yld (by omega), mv h.lbx (by omega), own_move h.row hr, mv h.on (by omega), (hm _ (by omega)).trans h.blk⟩
theorem LSt.below (h : LSt w0 ad len c np s l M W pre v) (hb : Below W.heap.size W W') (had : ad.block < W.heap.size) : LSt w0 ad len c np s l M W' pre v := by
  have mv : ∀ {b t u}, Boxed W b t u → Boxed W' b t u := fun hx => (hb.block _ hx.lt).trans hx
  exact ⟨mv h.vals, mv h.many, mv h.yld, mv h.lbx, pw_own_below h.row hb, mv h.on, (hb.block _ had).trans h.blk⟩
theorem LFr.setNew {s : Nat} {v : Value} {W W' : World} (h : LFr s v W W') {b : Nat} (hb : W.heap.size ≤ b) (u : Value) : LFr s v W (W'.setCell ⟨b, 0, none⟩ u) :=
  ⟨by have := h.1; simpa using this, fun k a d e f => (Below.heap_setCell _ _ _ k (show k ≠ b by omega)).trans (h.2 k a d e f)⟩
theorem LSt.setOther (h : LSt w0 ad len c np s l M W pre v) {b : Nat} (hb : s + 3 ≤ b) (hne : some b ≠ v.ownBlock) (hns : np + 3 ≤ s) (had : ad.block < s) (u : Value) : LSt w0 ad len c np s l M (W.setCell ⟨b, 0, none⟩ u) pre v :=
  ⟨h.vals.other (by omega) _, h.many.other (by omega) _, h.yld.other (by omega) _, h.lbx.other (by omega) _, own_setCell (p := ⟨b, 0, none⟩) h.row hne _, h.on.other (by omega) _, (Below.heap_setCell W ⟨b, 0, none⟩ _ ad.block (show ad.block ≠ b by omega)).trans h.blk⟩
/-- the list has grown: behind append and the store -/
theorem LSt.push (h : LSt w0 ad len c np s l M W pre v) (hns : np + 3 ≤ s) (had : ad.block < s) {x : Int} {tmp : Obj} {v' : Value} {w1 : World} (ho : w1.ownsRow (s + 3) 3 1 v' (pre.length + 1) (pre.map (Value.int .i64) ++ [.int .i64 x]))
    (hg : (W.alloc tmp).grownBy w1 v.ownBlock) : Boxed w1 (s + 1) 22 v ∧ LSt w0 ad len c np s l M (w1.setCell ⟨s + 1, 0, none⟩ v') (pre ++ [x]) v' ∧ LFr s v W (w1.setCell ⟨s + 1, 0, none⟩ v') := by
  have hsz := h.size
  have mv : ∀ {b t u}, Boxed W b t u → b < s + 3 → Boxed w1 b t u := fun hx hb => (hx.alloc tmp).kept hg (fun e => by have := (h.base _ e.symm).1; omega)
  have mv2 : ∀ {b t u}, Boxed W b t u → b < s + 3 → b ≠ s + 1 → Boxed (w1.setCell ⟨s + 1, 0, none⟩ v') b t u := fun hx hb hne => (mv hx hb).other hne v'
  refine ⟨mv h.lbx (by omega), ⟨mv2 h.vals (by omega) (by omega), mv2 h.many (by omega) (by omega), mv2 h.yld (by omega) (by omega), (mv h.lbx (by omega)).set v', ?_, mv2 h.on (by omega) (by omega), ?_⟩, ?_⟩
  · have := own_setCell (p := ⟨s + 1, 0, none⟩) ho (fun e => by have : s + 3 ≤ s + 1 := own_base ho _ e.symm; omega) v'
    simpa using this
  · refine (Below.heap_setCell w1 ⟨s + 1, 0, none⟩ v' ad.block (by simp; omega)).trans ?_
    refine (hg.block ad.block (by simp; omega) (fun e => by have := (h.base _ e.symm).1; omega)).trans ?_
    exact (Below.heap_alloc W tmp ad.block (by omega)).trans h.blk
  · refine (LFr.of_below (s := s) (v := v) ((Below.refl W.heap.size W).alloc (Nat.le_refl _) tmp)).trans (v' := v) ?_ (RowN.refl _ _)
    exact (LFr.grown hg).trans (LFr.set w1 v') (RowN.refl _ _)
/-- the list is cut by one again -/
theorem LSt.pop {x : Int} {g n cap : Nat} (hp : pre.length = n) (h : LSt w0 ad len c np s l M W (pre ++ [x]) (.slice (some ⟨g, 0, none⟩) (n + 1) cap)) (hns : np + 3 ≤ s) (had : ad.block < s) :
    LSt w0 ad len c np s l M (W.setCell ⟨s + 1, 0, none⟩ (.slice (some ⟨g, 0, none⟩) n cap)) pre (.slice (some ⟨g, 0, none⟩) n cap) := by
  have hsz := h.size
  have ho := h.row
  rw [List.length_append, List.map_append, hp] at ho
  have ho2 := ownsRow_pop (xs := pre.map (Value.int .i64)) (last := [.int .i64 x]) (size := 1) (n := n) (by simp [hp]) ho
  have hg := own_base ho2 g rfl
  refine ⟨h.vals.other (by omega) _, h.many.other (by omega) _, h.yld.other (by omega) _, h.lbx.set _, ?_, h.on.other (by omega) _, ?_⟩
  · rw [hp]
    exact own_setCell (p := ⟨s + 1, 0, none⟩) ho2 (fun e => absurd (show s + 1 = g by simpa [Value.ownBlock] using e) (by omega)) _
  · exact (Below.heap_setCell W ⟨s + 1, 0, none⟩ _ ad.block (by simp; omega)).trans h.blk
end

end Go.Proofs.Ytcgblpjknkmoaaa.B

namespace Go.Proofs.Ytcgblpjknkmoaaa.B
open Go.RowKit Go.Shelf Go.Proofs.YtcgblpjknkmoaaaW.PrintWords Go.Proofs.YtcgblpjknkmoaaaW.PrintLast Go.Proofs.YtcgblpjknkmoaaaW.PrintMore
open Go.Proofs Go.Proofs.Ytcgblpjknkmoaaa.G Go.Proofs.Ytcgblpjknkmoaaa.Stamp
attribute [local go_sem] Oper.semAt_some

/-- one round of the caller's loop, at whatever depth -/
def Rounds (w0 : World) (ad : Addr) (len c np s l : Nat) (M : Int) (J : List (List Int) → World → Prop) (Jx : Nat → List (List Int) → World → Prop) : Prop :=
  ∀ (m : Nat) (ys : List (List Int)) (x : List Int) (v : Value) (W : World), J ys W → LSt w0 ad len c np s l M W x v → (x.length : Int) = M → YieldAt Fence.wide m Try.prog l #[v] W fun e W' =>
    (e = .returned (.bool true) ∧ J (ys ++ [x]) W' ∧ KeepL ad np s W W') ∨ (e = .returned (.bool false) ∧ Jx W.heap.size (ys ++ [x]) W' ∧ KeepL ad np s W W')

/-- what a call of the closure comes to: all lists have come; or some, and a round has said 'no more' -/
def OnEnd (w0 : World) (ad : Addr) (len c np s l : Nat) (M : Int) (J : List (List Int) → World → Prop) (Jx : Nat → List (List Int) → World → Prop) (pre : List Int) (v : Value) (ys all : List (List Int)) (W : World) (e : Ending) (W' : World) : Prop :=
  ∃ v', LSt w0 ad len c np s l M W' pre v' ∧ RowN W.heap.size v v' ∧ LFr s v W W' ∧
    ((e = .returned (.bool true) ∧ J (ys ++ all) W') ∨ (e = .returned (.bool false) ∧ ∃ q, q <+: all ∧ q ≠ [] ∧ ∃ t, W.heap.size + 3 ≤ t ∧ Jx t (ys ++ q) W'))

def onLArgs (np s : Nat) (least left : Int) : Array Value := #[.int .i64 least, .int .i64 left, .pointer (some ⟨s + 1, 0, none⟩), .pointer (some ⟨np + 1, 0, none⟩), .pointer (some ⟨s, 0, none⟩), .pointer (some ⟨np, 0, none⟩), .pointer (some ⟨s + 2, 0, none⟩)]

/-- the caller's invariants do not mind what the closures write: blocks from s on -/
def Abs (s : Nat) (J : List (List Int) → World → Prop) : Prop := ∀ ys A B, J ys A → Below s A B → J ys B

/-- what the closures may do behind the last round, which began at a heap of size t: of the cells from s on they write only such as were there then -/
def Chg (s t : Nat) (A B : World) : Prop := Below s A B ∧ ∀ k o, t ≤ k → A.heap[k]? = some o → o.isCells = true → B.heap[k]? = some o
def AbsT (s t : Nat) (K : List (List Int) → World → Prop) : Prop := ∀ ys A B, K ys A → Chg s t A B → K ys B
theorem Abs.toT {s : Nat} {J : List (List Int) → World → Prop} (h : Abs s J) (t : Nat) : AbsT s t J := fun ys A B hj hc => h ys A B hj hc.1
theorem Chg.setCell {s t : Nat} (A : World) {b : Nat} (h1 : s ≤ b) (h2 : b < t) (u : Value) : Chg s t A (A.setCell ⟨b, 0, none⟩ u) :=
  ⟨(Below.refl s A).setCell (p := ⟨b, 0, none⟩) h1 u, fun k o hk ho _ => (Below.heap_setCell A ⟨b, 0, none⟩ u k (show k ≠ b by omega)).trans ho⟩
theorem Chg.grown {s t : Nat} {A B : World} {row : Option Nat} (hs : s ≤ A.heap.size) (hg : A.grownBy B row) (hr : ∀ r, row = some r → s ≤ r ∧ ∃ o : Obj, A.heap[r]? = some o ∧ o.isCells = false) : Chg s t A B :=
  ⟨(Below.refl s A).grown hg hs (fun k e => (hr k e).1), fun k o _ ho hc => (hg.block k (Array.getElem?_eq_some_iff.1 ho).1 (fun e => by
    obtain ⟨-, o', h1, h2⟩ := hr k e.symm
    rw [ho] at h1; cases h1; rw [hc] at h2; cases h2)).trans ho⟩

theorem LSt.form {w0 : World} {ad : Addr} {len c np s l : Nat} {M : Int} {W : World} {pre : List Int} {v : Value} (h : LSt w0 ad len c np s l M W pre v) : ∃ A cap, v = .slice A pre.length cap := own_slice h.row

set_option maxHeartbeats 4000000 in
set_option maxRecDepth 100000 in
theorem on60_leaf (w0 : World) (ad : Addr) (len c np s l : Nat) (M : Int) (J : List (List Int) → World → Prop) (Jx : Nat → List (List Int) → World → Prop) (hJ : Abs s J) (hJx : ∀ t, AbsT s t (Jx t)) (hR : Rounds w0 ad len c np s l M J Jx) (hns : np + 3 ≤ s) (had : ad.block < s)
    (n : Nat) (pre : List Int) (v : Value) (least left : Int) (ys : List (List Int)) (W : World) (hM : (pre.length : Int) = M) (hst : LSt w0 ad len c np s l M W pre v) (hj : J ys W) :
    CallsIn Fence.wide n Try.prog 60 (onLArgs np s least left) W (OnEnd w0 ad len c np s l M J Jx pre v ys (if left = 0 then [pre] else []) W) := by
  obtain ⟨A, cap, rfl⟩ := hst.form
  have hb1 := (((Below.refl W.heap.size W).alloc (Nat.le_refl _) (.cells #[.int .i64 least] 3)).alloc (by simp) (.cells #[.int .i64 left] 3)).alloc (by simp; omega) (.cells #[.bool false] 4)
  have hsz := hst.size
  have b7 := ((Boxed.new W 3 (.int .i64 least)).alloc (.cells #[.int .i64 left] 3)).alloc (.cells #[.bool false] 4)
  have b8 := (Boxed.new (W.alloc (.cells #[.int .i64 least] 3)) 3 (.int .i64 left)).alloc (.cells #[.bool false] 4)
  have b9 := Boxed.new ((W.alloc (.cells #[.int .i64 least] 3)).alloc (.cells #[.int .i64 left] 3)) 4 (.bool false)
  simp only [World.size_alloc] at b8 b9
  have hst1 := hst.below hb1 (by omega)
  have hj1 := hJ ys W _ hj (hb1.mono (by omega))
  have hf1 : LFr s (.slice A pre.length cap) W _ := LFr.of_below hb1
  have hs3 : (((W.alloc (.cells #[.int .i64 least] 3)).alloc (.cells #[.int .i64 left] 3)).alloc (.cells #[.bool false] 4)).heap.size = W.heap.size + 3 := by simp
  have hMb : ((pre.length : Int) == M) = true := by simp [hM]
  have c1 := hst1.lbx.cell
  have c2 := hst1.many.cell
  have c3 := hst1.yld.cell
  have c8 := b8.cell
  have c9 := b9.cell
  have f9 := b9.frozen
  generalize hW1 : ((W.alloc (.cells #[.int .i64 least] 3)).alloc (.cells #[.int .i64 left] 3)).alloc (.cells #[.bool false] 4) = W1 at *
  have HS1 := Lib.hid hst1
  have HF1 := Lib.hid hf1
  have HB9 := Lib.hid b9
  have hsz1 := hst1.base
  have HBS := Lib.hid hst.base
  unfold onLArgs
  by_cases hl : left = 0
  · have hlb : (left != 0) = false := by simp [hl]
    rw [if_pos hl]
    have hY := hR (n - 1) ys pre (.slice A pre.length cap) _ hj1 hst1 hM
    obtain ⟨fn, tmps, assign, body, hy, hRd⟩ := hY
    have HRd := Lib.hid hRd
    clear hRd hst hst1 hf1 b7 b8 b9 hb1 hj1 hj hM hl hR hsz1
    refine callsIn_of_wp Try.func60 rfl trivial ?_ rfl
    simp only [Try.ntmps60, List.size_toArray, List.length_cons, List.length_nil, Nat.reduceAdd, Nat.reduceSub, Array.replicate_succ, Array.replicate_zero, List.push_toArray, List.append_toArray, List.nil_append, List.cons_append]
    gi_wp2_with fail
    refine ⟨fun h => absurd h (by simp [Fence.wide]), ?_⟩
    refine HRd.out.mono ?_
    rintro e W2 (⟨rfl, hj2, hk⟩ | ⟨rfl, hx2, hk⟩)
    · have b92 : Boxed W2 (W.heap.size + 1 + 1) 4 (.bool false) := (hk.2 _ HB9.out.lt (.inr (.inr (by omega)))).trans HB9.out
      have hs2 := HS1.out.keep hk (by omega)
      have HS2 := Lib.hid (hs2.setOther (b := W.heap.size + 1 + 1) (by omega) (fun e => by have := (HBS.out _ e.symm).2; omega) hns had (.bool true))
      have HF2 := Lib.hid ((HF1.out.trans (LFr.of_keep hk) (RowN.refl _ _)).setNew (b := W.heap.size + 1 + 1) (by omega) (.bool true))
      have HJ2 := Lib.hid (hJ _ _ _ hj2 ((Below.refl s W2).setCell (p := ⟨W.heap.size + 1 + 1, 0, none⟩) (show s ≤ W.heap.size + 1 + 1 by omega) (.bool true)))
      have c92 := b92.cell
      have f92 := b92.frozen
      have c93 := (b92.set (.bool true)).cell
      clear hj2 hk hs2 b92
      gi_wp2
      refine bodyPost_ret (v := .bool true) (by simp [results, Try.f60, go_sem, c93]) rfl ?_
      exact ⟨_, HS2.out, RowN.refl _ _, HF2.out, .inl ⟨rfl, HJ2.out⟩⟩
    · have b92 : Boxed W2 (W.heap.size + 1 + 1) 4 (.bool false) := (hk.2 _ HB9.out.lt (.inr (.inr (by omega)))).trans HB9.out
      have hs2 := HS1.out.keep hk (by omega)
      have HS2 := Lib.hid (hs2.setOther (b := W.heap.size + 1 + 1) (by omega) (fun e => by have := (HBS.out _ e.symm).2; omega) hns had (.bool false))
      have HF2 := Lib.hid ((HF1.out.trans (LFr.of_keep hk) (RowN.refl _ _)).setNew (b := W.heap.size + 1 + 1) (by omega) (.bool false))
      have HJ2 := Lib.hid (hJx _ _ _ _ hx2 (Chg.setCell W2 (b := W.heap.size + 1 + 1) (by omega) (by omega) (.bool false)))
      have c92 := b92.cell
      have f92 := b92.frozen
      have c93 := (b92.set (.bool false)).cell
      clear hx2 hk hs2 b92
      gi_wp2
      refine bodyPost_ret (v := .bool false) (by simp [results, Try.f60, go_sem, c93]) rfl ?_
      exact ⟨_, HS2.out, RowN.refl _ _, HF2.out, .inr ⟨rfl, [pre], List.prefix_refl _, by simp, _, by omega, HJ2.out⟩⟩
  · have hlb : (left != 0) = true := by simp [hl]
    rw [if_neg hl]
    have HS2 := Lib.hid (hst1.setOther (b := W.heap.size + 1 + 1) (by omega) (fun e => by have := (HBS.out _ e.symm).2; omega) hns had (.bool true))
    have HF2 := Lib.hid (hf1.setNew (b := W.heap.size + 1 + 1) (by omega) (.bool true))
    have HJ2 := Lib.hid (hJ _ _ _ hj1 ((Below.refl s W1).setCell (p := ⟨W.heap.size + 1 + 1, 0, none⟩) (show s ≤ W.heap.size + 1 + 1 by omega) (.bool true)))
    have c93 := (b9.set (.bool true)).cell
    clear hst hst1 hf1 b7 b8 b9 hb1 hj1 hj hM hl hR hsz1
    refine callsIn_of_wp Try.func60 rfl trivial ?_ rfl
    simp only [Try.ntmps60, List.size_toArray, List.length_cons, List.length_nil, Nat.reduceAdd, Nat.reduceSub, Array.replicate_succ, Array.replicate_zero, List.push_toArray, List.append_toArray, List.nil_append, List.cons_append]
    gi_wp2
    refine ⟨fun _ h => (by cases h), ?_⟩
    gi_wp2
    refine bodyPost_ret (v := .bool true) (by simp [results, Try.f60, go_sem, c93]) rfl ?_
    exact ⟨_, HS2.out, RowN.refl _ _, HF2.out, .inl ⟨rfl, by simpa using HJ2.out⟩⟩

end Go.Proofs.Ytcgblpjknkmoaaa.B

namespace Go.Proofs.Ytcgblpjknkmoaaa.B
open Go.RowKit Go.Shelf Go.Proofs.YtcgblpjknkmoaaaW.PrintWords Go.Proofs.YtcgblpjknkmoaaaW.PrintLast Go.Proofs.YtcgblpjknkmoaaaW.PrintMore
open Go.Proofs Go.Proofs.Ytcgblpjknkmoaaa.G Go.Proofs.Ytcgblpjknkmoaaa.Stamp
attribute [local go_sem] Oper.semAt_some

/-- the contract, for lists with m more to come -/
def OnLSaid (w0 : World) (ad : Addr) (V : List Int) (c np s l : Nat) (M : Int) (J : List (List Int) → World → Prop) (Jx : Nat → List (List Int) → World → Prop) (m : Nat) : Prop :=
  ∀ (n : Nat) (pre : List Int) (v : Value) (least : Nat) (left : Int) (ys : List (List Int)) (W : World), (pre.length : Int) + m = M → least < V.length → 0 ≤ left → left ≤ 1200 →
    LSt w0 ad V.length c np s l M W pre v → J ys W →
    CallsIn Fence.wide n Try.prog 60 (onLArgs np s least left) W (OnEnd w0 ad V.length c np s l M J Jx pre v ys ((gen (V.drop least) m left).map (pre ++ ·)) W)

theorem onL_zero {w0 : World} {ad : Addr} {V : List Int} {c np s l : Nat} {M : Int} {J : List (List Int) → World → Prop} {Jx : Nat → List (List Int) → World → Prop} (hJ : Abs s J) (hJx : ∀ t, AbsT s t (Jx t)) (hR : Rounds w0 ad V.length c np s l M J Jx) (hns : np + 3 ≤ s) (had : ad.block < s) :
    OnLSaid w0 ad V c np s l M J Jx 0 := fun n pre v least left ys W hM _ _ _ hst hj => by
  have := on60_leaf w0 ad V.length c np s l M J Jx hJ hJx hR hns had n pre v least left ys W (by simpa using hM) hst hj
  rw [gen_zero]
  by_cases h : left = 0
  · rw [if_pos h] at this ⊢; simpa using this
  · rw [if_neg h] at this ⊢; simpa using this

/-- what the values of some rounds have brought -/
def brought (V : List Int) (m : Nat) (left : Int) (least d : Nat) (pre : List Int) (is : List (Fin d)) : List (List Int) := (is.map (fun i => (contr V m left (least + i.1)).map (pre ++ ·))).flatten
theorem brought_snoc (V : List Int) (m : Nat) (left : Int) (least d : Nat) (pre : List Int) (is : List (Fin d)) (i : Fin d) : brought V m left least d pre (is ++ [i]) = brought V m left least d pre is ++ (contr V m left (least + i.1)).map (pre ++ ·) := by
  simp [brought]
def downTo (d : Nat) (hd : 0 < d) (k : Nat) : Fin d := ⟨d - 1 - k, by omega⟩
theorem brought_all (V : List Int) (m : Nat) (left : Int) (least d : Nat) (hd : 0 < d) (h : least + d = V.length) (pre : List Int) : brought V m left least d pre (G.upto (downTo d hd) d) = (gen (V.drop least) (m + 1) left).map (pre ++ ·) := by
  rw [gen_up V m left d least h]
  simp [brought, G.upto, downTo, List.map_flatten, Function.comp_def]
theorem brought_prefix (V : List Int) (m : Nat) (left : Int) (least d : Nat) (hd : 0 < d) (pre : List Int) {k : Nat} (hk : k ≤ d) : brought V m left least d pre (G.upto (downTo d hd) k) <+: brought V m left least d pre (G.upto (downTo d hd) d) := by
  obtain ⟨j, rfl⟩ : ∃ j, d = k + j := ⟨d - k, by omega⟩
  have e : G.upto (downTo (k + j) hd) (k + j) = G.upto (downTo (k + j) hd) k ++ ((List.range' k j).map (downTo (k + j) hd)) := by
    simp only [G.upto]
    rw [← List.map_append, List.range_eq_range', List.range_eq_range', ← List.range'_append_1, Nat.zero_add]
  rw [e]
  simp only [brought, List.map_append, List.flatten_append]
  exact List.prefix_append _ _

/-- between two rounds of the closure's own loop -/
structure IL (w0 : World) (ad : Addr) (V : List Int) (c np s l : Nat) (M : Int) (J : List (List Int) → World → Prop) (pre : List Int) (v : Value) (ys : List (List Int)) (W : World) (least : Nat) (left : Int) (done : List (List Int)) (v' : Value) (X : World) : Prop where
  st : LSt w0 ad V.length c np s l M X pre v'
  rn : RowN (W.heap.size + 4) v v'
  fr : LFr s v W X
  j : J (ys ++ done) X
  b7 : Boxed X W.heap.size 3 (.int .i64 least)
  b8 : Boxed X (W.heap.size + 1) 3 (.int .i64 left)
  b9 : Boxed X (W.heap.size + 1 + 1) 4 (.bool false)
  bs : Boxed X (W.heap.size + 1 + 1 + 1) 22 (.slice (some (ad.add least)) (V.length - least) (c - least))

theorem IL.own {w0 : World} {ad : Addr} {V : List Int} {c np s l : Nat} {M : Int} {J : List (List Int) → World → Prop} {pre : List Int} {v : Value} {ys : List (List Int)} {W : World} {least : Nat} {left : Int} {done : List (List Int)} {v' : Value} {X Y : World} {row : Option Nat} {B t : Nat}
    (h : IL w0 ad V c np s l M J pre v ys W least left done v' X) (hJ : AbsT s t J) (hns : np + 3 ≤ s) (had : ad.block < s) (hs : s + 3 ≤ W.heap.size) (hB : W.heap.size + 4 ≤ B) (hg : X.grownBy Y row) (hr : ∀ r, row = some r → B ≤ r ∧ ∃ o : Obj, X.heap[r]? = some o ∧ o.isCells = false) :
    IL w0 ad V c np s l M J pre v ys W least left done v' Y := by
  have hXs : W.heap.size + 4 ≤ X.heap.size := h.bs.lt
  have keep : ∀ k, k < X.heap.size → (k < B ∨ ∃ o, X.heap[k]? = some o ∧ o.isCells = true) → Y.heap[k]? = X.heap[k]? := fun k hk ho => hg.block k hk (fun e => by
    obtain ⟨h1, o, h2, h3⟩ := hr k e.symm
    rcases ho with ho | ⟨o', h4, h5⟩
    · omega
    · rw [h2] at h4; cases h4; rw [h3] at h5; cases h5)
  have mv : ∀ {b t u}, Boxed X b t u → Boxed Y b t u := fun hx => (keep _ hx.lt (.inr ⟨_, hx, rfl⟩)).trans hx
  refine ⟨h.st.move hns had (fun k hk => keep k (by omega) (.inl (by omega))) (fun k e => ?_), h.rn, ?_, hJ _ _ _ h.j (Chg.grown (by omega) hg (fun k e => ⟨by have := (hr k e).1; omega, (hr k e).2⟩)), mv h.b7, mv h.b8, mv h.b9, mv h.bs⟩
  · obtain ⟨cells, hc⟩ := own_typed h.st.row k e
    exact keep k (h.st.base k e).2 (.inr ⟨_, hc, rfl⟩)
  · exact ⟨Nat.le_trans h.fr.1 hg.size, fun k a b d e => (keep k (Nat.lt_of_lt_of_le b h.fr.1) (.inl (by omega))).trans (h.fr.2 k a b d e)⟩

theorem IL.below {w0 : World} {ad : Addr} {V : List Int} {c np s l : Nat} {M : Int} {J : List (List Int) → World → Prop} {pre : List Int} {v : Value} {ys : List (List Int)} {W : World} {least : Nat} {left : Int} {done : List (List Int)} {v' : Value} {X Y : World}
    (h : IL w0 ad V c np s l M J pre v ys W least left done v' X) (hJ : Abs s J) (had : ad.block < s) (hs : s + 3 ≤ W.heap.size) (hb : Below X.heap.size X Y) : IL w0 ad V c np s l M J pre v ys W least left done v' Y := by
  have hXs : W.heap.size + 4 ≤ X.heap.size := h.bs.lt
  have mv : ∀ {b t u}, Boxed X b t u → Boxed Y b t u := fun hx => (hb.block _ hx.lt).trans hx
  exact ⟨h.st.below hb (by omega), h.rn, h.fr.trans (LFr.of_below hb) (RowN.refl _ _), hJ _ _ _ h.j (hb.mono (by omega)), mv h.b7, mv h.b8, mv h.b9, mv h.bs⟩

theorem IL.box {w0 : World} {ad : Addr} {V : List Int} {c np s l : Nat} {M : Int} {J : List (List Int) → World → Prop} {pre : List Int} {v : Value} {ys : List (List Int)} {W : World} {least : Nat} {left : Int} {done : List (List Int)} {v' : Value} {X Y : World}
    (h : IL w0 ad V c np s l M J pre v ys W least left done v' X) (hb : ∀ b, v.ownBlock = some b → b < W.heap.size) (hs : s + 3 ≤ W.heap.size) (hf : LFr s v' X Y) {b : Nat} {t : TypeId} {u : Value} (h1 : W.heap.size ≤ b) (h2 : b < W.heap.size + 4) (hx : Boxed X b t u) : Boxed Y b t u := by
  have hXs : W.heap.size + 4 ≤ X.heap.size := h.bs.lt
  refine (hf.2 b (by omega) hx.lt (by omega) (fun e => ?_)).trans hx
  rcases h.rn with hr | ⟨b', hr, hb'⟩
  · rw [hr] at e; have := hb b e.symm; omega
  · rw [hr] at e; cases e; omega

/-- one round of the closure's own loop, from what has come of its parts -/
theorem IL.step {w0 : World} {ad : Addr} {V : List Int} {c np s l : Nat} {M : Int} {J Jx : List (List Int) → World → Prop} {pre : List Int} {v : Value} {ys : List (List Int)} {W : World} {least : Nat} {left : Int} {done done' : List (List Int)} {v' v'' : Value} {X Y : World}
    (h : IL w0 ad V c np s l M J pre v ys W least left done v' X) (hb : ∀ b, v.ownBlock = some b → b < W.heap.size) (hs : s + 3 ≤ W.heap.size) (hst : LSt w0 ad V.length c np s l M Y pre v'') (hr : RowN X.heap.size v' v'') (hf : LFr s v' X Y) (hj : Jx (ys ++ done') Y) :
    IL w0 ad V c np s l M Jx pre v ys W least left done' v'' Y ∧ ∀ b t u, W.heap.size ≤ b → b < W.heap.size + 4 → Boxed X b t u → Boxed Y b t u := by
  have hXs : W.heap.size + 4 ≤ X.heap.size := h.bs.lt
  have hne : ∀ b, W.heap.size ≤ b → b < W.heap.size + 4 → some b ≠ v'.ownBlock := fun b h1 h2 e => by
    rcases h.rn with hr | ⟨b', hr, hb'⟩
    · rw [hr] at e; have := hb b e.symm; omega
    · rw [hr] at e; cases e; omega
  have mv : ∀ b t u, W.heap.size ≤ b → b < W.heap.size + 4 → Boxed X b t u → Boxed Y b t u := fun b t u h1 h2 hx => (hf.2 b (by omega) hx.lt (by omega) (hne b h1 h2)).trans hx
  refine ⟨⟨hst, h.rn.trans hr (by omega), h.fr.trans hf (h.rn.trans (RowN.refl (W.heap.size + 4) v') (Nat.le_refl _) |> fun k => ?_), hj, mv _ _ _ (by omega) (by omega) h.b7, mv _ _ _ (by omega) (by omega) h.b8, mv _ _ _ (by omega) (by omega) h.b9, mv _ _ _ (by omega) (by omega) h.bs⟩, mv⟩
  rcases k with k | ⟨b, k, hb'⟩
  · exact .inl k
  · exact .inr ⟨b, k, by omega⟩
theorem IL.set9 {w0 : World} {ad : Addr} {V : List Int} {c np s l : Nat} {M : Int} {J : List (List Int) → World → Prop} {pre : List Int} {v : Value} {ys : List (List Int)} {W : World} {least : Nat} {left : Int} {done : List (List Int)} {v' : Value} {X : World} {t : Nat}
    (h : IL w0 ad V c np s l M J pre v ys W least left done v' X) (hJ : AbsT s t J) (ht : W.heap.size + 3 ≤ t) (hns : np + 3 ≤ s) (had : ad.block < s) (hb : ∀ b, v.ownBlock = some b → b < W.heap.size) (hs : s + 3 ≤ W.heap.size) :
    IL w0 ad V c np s l M J pre v ys W least left done v' (X.setCell ⟨W.heap.size + 1 + 1, 0, none⟩ (.bool false)) := by
  have hne : some (W.heap.size + 1 + 1) ≠ v'.ownBlock := fun e => by
    rcases h.rn with hr | ⟨b', hr, hb'⟩
    · rw [hr] at e; have := hb _ e.symm; omega
    · rw [hr] at e; cases e; omega
  exact ⟨h.st.setOther (by omega) hne hns had _, h.rn, h.fr.setNew (by omega) _, hJ _ _ _ h.j (Chg.setCell X (b := W.heap.size + 1 + 1) (by omega) (by omega) _), h.b7.other (by omega) _, h.b8.other (by omega) _, h.b9.set _, h.bs.other (by omega) _⟩
theorem LSt.pushBelow {w0 : World} {ad : Addr} {len c np s l : Nat} {M : Int} {W : World} {pre : List Int} {v v' : Value} {w1 : World} {tmp : Obj} (h : LSt w0 ad len c np s l M W pre v) (hg : (W.alloc tmp).grownBy w1 v.ownBlock) : Below s W (w1.setCell ⟨s + 1, 0, none⟩ v') := by
  have hsz := h.size
  exact (((Below.refl s W).alloc (by omega) tmp).grown hg (by simp; omega) (fun k e => by have := h.base k e; omega)).setCell (p := ⟨s + 1, 0, none⟩) (show s ≤ s + 1 by omega) v'
theorem OnEnd.as {w0 : World} {ad : Addr} {len c np s l : Nat} {M : Int} {J : List (List Int) → World → Prop} {Jx : Nat → List (List Int) → World → Prop} {pre : List Int} {v : Value} {ys all : List (List Int)} {W : World} {e : Ending} {W' : World} (h : OnEnd w0 ad len c np s l M J Jx pre v ys all W e W') :
    ∃ b : Bool, e = .returned (.bool b) ∧ ∃ v', LSt w0 ad len c np s l M W' pre v' ∧ RowN W.heap.size v v' ∧ LFr s v W W' ∧ (b = true → J (ys ++ all) W') ∧ (b = false → ∃ q, q <+: all ∧ q ≠ [] ∧ ∃ t, W.heap.size + 3 ≤ t ∧ Jx t (ys ++ q) W') := by
  obtain ⟨v', h1, h2, h3, (⟨rfl, h4⟩ | ⟨rfl, h4⟩)⟩ := h
  · exact ⟨true, rfl, v', h1, h2, h3, fun _ => h4, fun e => by cases e⟩
  · exact ⟨false, rfl, v', h1, h2, h3, fun e => (by cases e), fun _ => h4⟩
theorem own_fits {W : World} {base : Nat} {A : Option Addr} {n cap : Nat} {xs : List Int} (h : W.ownsRow base 3 1 (.slice A n cap) n (xs.map (Value.int .i64))) (hl : xs.length = n) : n ≤ cap := by
  subst hl
  have hR : Kd.R (Kd.int .i64) 3 W base (fun _ => True) (.slice A xs.length cap) xs := Kd.R_of_own h (fun _ _ => trivial)
  exact (Kd.R_reads' hR).2.1

theorem LSt.endPut {w0 : World} {ad : Addr} {len c np s l : Nat} {M : Int} {K : List (List Int) → World → Prop} {pre : List Int} {v v' : Value} {zs : List (List Int)} {W X : World} {D t : Nat} (hst : LSt w0 ad len c np s l M X pre v') (hrn : RowN (W.heap.size + 4) v v') (hfr : LFr s v W X) (hj : K zs X) (hKa : AbsT s t K) (hns : np + 3 ≤ s) (had : ad.block < s)
    (hD : W.heap.size + 4 ≤ D) (hs : s + 3 ≤ W.heap.size) (hK : X.heap[D]? = some (.deferred (some []))) :
    LSt w0 ad len c np s l M (X.putObj D (.deferred none)) pre v' ∧ RowN W.heap.size v v' ∧ LFr s v W (X.putObj D (.deferred none)) ∧ K zs (X.putObj D (.deferred none)) ∧ ∀ b t u, Boxed X b t u → Boxed (X.putObj D (.deferred none)) b t u := by
  refine ⟨hst.move hns had (fun k hk => World.putObj_heap_other (by omega)) (fun k e => World.putObj_heap_other (fun h => ?_)), ?_, ⟨by simpa using hfr.1, fun k a b d e => (World.putObj_heap_other (by omega)).trans (hfr.2 k a b d e)⟩, hKa _ _ _ hj (Chg.grown (by have := hfr.1; omega) (grownBy_putObj' X D (.deferred none)) (fun r e => by cases e; exact ⟨by omega, _, hK, rfl⟩)), fun b t u hx => (World.putObj_heap_other (fun h => ?_)).trans hx⟩
  · subst h
    obtain ⟨cells, hc⟩ := own_typed hst.row _ e
    rw [hK] at hc; cases hc
  · rcases hrn with k | ⟨b, k, hb⟩
    · exact .inl k
    · exact .inr ⟨b, k, by omega⟩
  · subst h
    have hx2 := hK.symm.trans (show _ = _ from hx)
    cases hx2

theorem LFr.keepsFrom {s B : Nat} {v' : Value} {X Y : World} {base e size n : Nat} {xs : List Value} (hf : LFr s v' X Y) (ho : X.ownsRow base e size v' n xs) (hl : ∃ t u, Boxed X (s + 1) t u) (hB : s ≤ B) : KeepsFrom B X Y := by
  refine ⟨hf.1, fun k o h1 h2 h3 => (hf.2 k (by omega) (Array.getElem?_eq_some_iff.1 h2).1 ?_ ?_).trans h2⟩
  · rintro rfl
    obtain ⟨t, u, hx⟩ := hl
    rw [show X.heap[s + 1]? = _ from hx] at h2; cases h2; cases h3
  · intro e
    obtain ⟨cells, hc⟩ := own_typed ho k e.symm
    rw [hc] at h2; cases h2; cases h3

theorem asc_le_end {p : Int} {V : List Int} (h : asc p V = true) {nn : Nat} (hn : V.length = nn + 1) : ∀ v ∈ V, v ≤ rd V (nn : Int) := by
  intro v hv
  obtain ⟨i, hi, rfl⟩ := List.mem_iff_getElem.1 hv
  have hp := asc_pairwise h
  rw [rd_nat, List.getD_eq_getElem?_getD, List.getElem?_eq_getElem (show nn < V.length by omega)]
  rcases Nat.lt_or_ge i nn with h1 | h1
  · exact Int.le_of_lt (List.pairwise_iff_getElem.1 hp i nn hi (by omega) h1)
  · obtain rfl : i = nn := by omega
    exact Int.le_refl _

theorem add_add_ (a : Addr) (m n : Nat) : (a.add m).add n = a.add (m + n) := by
  unfold Addr.add
  by_cases h : m = 0
  · subst h; simp
  · by_cases h2 : n = 0
    · subst h2; simp [h]
    · simp [h, h2, Nat.add_assoc]
theorem drop_get (V : List Int) (least j : Nat) : (V.drop least)[j]?.getD 0 = rd V ((least + j : Nat) : Int) := by rw [rd_nat, List.getElem?_drop]; rfl

def encL (V : List Int) (least d : Nat) (i : Fin d) : Array Value := #[.int .i64 ((i.1 : Nat) : Int), .int .i64 (rd V ((least : Int) + (i.1 : Int)))]

set_option maxHeartbeats 8000000 in
set_option maxRecDepth 100000 in
theorem onL_succ {w0 : World} {ad : Addr} {V : List Int} {c np s l : Nat} {M : Int} {J : List (List Int) → World → Prop} {Jx : Nat → List (List Int) → World → Prop} (hJ : Abs s J) (hJx : ∀ t, AbsT s t (Jx t)) (hns : np + 3 ≤ s) (had : ad.block < s) (hV : asc 0 V = true) (hlen : V.length ≤ 6) (hlc : V.length ≤ c) (hM6 : M ≤ 6)
    (hw0 : ∀ j : Nat, j < V.length → w0.cell? (ad.add j) = some (.int .i64 (rd V (j : Int)))) (m : Nat) (ih : OnLSaid w0 ad V c np s l M J Jx m) : OnLSaid w0 ad V c np s l M J Jx (m + 1) := by
  intro n pre v least left ys W hM hleast h0 h1200 hst hj
  obtain ⟨A, cap, rfl⟩ := hst.form
  have hb1 := (((Below.refl W.heap.size W).alloc (Nat.le_refl _) (.cells #[.int .i64 least] 3)).alloc (by simp) (.cells #[.int .i64 left] 3)).alloc (by simp; omega) (.cells #[.bool false] 4)
  have hsz := hst.size
  have b7 := ((Boxed.new W 3 (.int .i64 least)).alloc (.cells #[.int .i64 left] 3)).alloc (.cells #[.bool false] 4)
  have b8 := (Boxed.new (W.alloc (.cells #[.int .i64 least] 3)) 3 (.int .i64 left)).alloc (.cells #[.bool false] 4)
  have b9 := Boxed.new ((W.alloc (.cells #[.int .i64 least] 3)).alloc (.cells #[.int .i64 left] 3)) 4 (.bool false)
  simp only [World.size_alloc] at b8 b9
  have hst1 := hst.below hb1 (by omega)
  have hj1 := hJ ys W _ hj (hb1.mono (by omega))
  have hf1 : LFr s (.slice A pre.length cap) W _ := LFr.of_below hb1
  have hs3 : (((W.alloc (.cells #[.int .i64 least] 3)).alloc (.cells #[.int .i64 left] 3)).alloc (.cells #[.bool false] 4)).heap.size = W.heap.size + 3 := by simp
  generalize hp : pre.length = p at *
  have hMb : ((p : Int) == M) = false := by simp; omega
  have c1 := hst1.lbx.cell
  have c2 := hst1.many.cell
  have cV := hst1.vals.cell
  have c7 := b7.cell
  have c8 := b8.cell
  generalize hW1 : ((W.alloc (.cells #[.int .i64 least] 3)).alloc (.cells #[.int .i64 left] 3)).alloc (.cells #[.bool false] 4) = W1 at *
  have g1 : (least : Int) < V.length := by omega
  have g2 : (least : Int) ≤ c := by omega
  have g3 : ¬ c = least := by omega
  unfold onLArgs
  refine (callsIn_wide (n := n)).2 ((callsIn_wide (n := 10)).1 ?_)
  refine callsIn_of_wp_marks Try.func60 rfl trivial ?_ rfl
  simp only [Try.ntmps60, List.size_toArray, List.length_cons, List.length_nil, Nat.reduceAdd, Nat.reduceSub, Array.replicate_succ, Array.replicate_zero, List.push_toArray, List.append_toArray, List.nil_append, List.cons_append]
  have H1 := Lib.hid hst1
  have H2 := Lib.hid hf1
  have H3 := Lib.hid hj1
  have H4 := Lib.hid b7
  have H5 := Lib.hid b8
  have H6 := Lib.hid b9
  have H7 := Lib.hid hst
  have H8 := Lib.hid (⟨hM, hp⟩ : _ ∧ _)
  have H9 := Lib.hid hw0
  have H10 := Lib.hid ih
  have H11 := Lib.hid hV
  clear hst1 hf1 hj1 b7 b8 b9 hst hM hp hw0 ih hV hb1 hj
  gi_wp2_with (refine ⟨trivial, ?_⟩; gi_at_call 50; refine (back_in Fence.wide _ trivial rfl _ _ _ _).mono ?_; rintro e w' ⟨rfl, rfl⟩)
  obtain ⟨d, hd⟩ : ∃ d, d = V.length - least := ⟨_, rfl⟩
  have hd0 : 0 < d := by omega
  have hdl : (V.drop least).length = d := by rw [List.length_drop, hd]
  rw [← hd]
  have hW0s : (W1.alloc (.cells #[.slice (some (ad.add least)) d (c - least)] 22)).heap.size = W.heap.size + 4 := by simp [hs3]
  have bS : Boxed (W1.alloc (.cells #[.slice (some (ad.add least)) d (c - least)] 22)) (W.heap.size + 3) 22 (.slice (some (ad.add least)) d (c - least)) := by
    have := Boxed.new W1 22 (.slice (some (ad.add least)) d (c - least)); rw [hs3] at this; exact this
  have hB0 : Below W1.heap.size W1 (W1.alloc (.cells #[.slice (some (ad.add least)) d (c - least)] 22)) := (Below.refl _ _).alloc (Nat.le_refl _) _
  have hI0 : IL w0 ad V c np s l M J pre (.slice A p cap) ys W least left [] (.slice A p cap) (W1.alloc (.cells #[.slice (some (ad.add least)) d (c - least)] 22)) :=
    ⟨H1.out.below hB0 (by omega), RowN.refl _ _, H2.out.trans (LFr.of_below hB0) (RowN.refl _ _), by rw [List.append_nil]; exact hJ _ _ _ H3.out (hB0.mono (by omega)), H4.out.alloc _, H5.out.alloc _, H6.out.alloc _, by rw [hd] at bS; rw [hd]; exact bS⟩
  have hblk : (W1.alloc (.cells #[.slice (some (ad.add least)) d (c - least)] 22)).heap[ad.block]? = w0.heap[ad.block]? := hI0.st.blk
  generalize hW0 : W1.alloc (.cells #[.slice (some (ad.add least)) d (c - least)] 22) = W0 at *
  have hseq := back_stops2 (downTo d hd0) (encL V least d) Fence.wide (10 - 1) trivial rfl (by omega) (W.heap.size + 3) (ad.add least) (c - least) (V.drop least) (by rw [hdl]; omega)
    (fun k hk => by rw [hdl] at hk ⊢; rw [drop_get]; simp [encL, downTo, ← Int.natCast_add]) W0 (by omega) (by rw [G.add_block]; omega) (by rw [hdl]; exact bS.cell)
    (fun j hj => by
      rw [hdl] at hj
      rw [add_add_, drop_get]
      exact (World.cell?_of_block (by rw [G.add_block]; exact hblk)).trans (H9.out (least + j) (by omega)))
  rw [hdl] at hseq
  have HI0 := Lib.hid hI0
  have HD := Lib.hid hd
  have hd6 : d ≤ 6 := by omega
  have hld : least + d ≤ V.length := by omega
  clear hI0 hblk hB0 bS hd hdl
  refine wpIn_rangeFunc_ownG rfl (by omega) (gf := 62) (lb := #[.pointer (some ⟨W.heap.size + 3, 0, none⟩)]) rfl trivial (enters_of Try.func62 (by kernel_rfl) rfl)
    hseq KeepB.trans (fun (X : World) (k : Nat) (o o' : Obj) hl ho _ _ => ⟨by simp, World.putObj_heap_other (by omega), fun x e => by cases e; rw [G.add_block]; exact World.putObj_heap_other (by omega)⟩) (Below.refl _ _) (fun _ => rfl)
    (fun (is : List (Fin d)) (X : World) => ∃ v', IL w0 ad V c np s l M J pre (.slice A p cap) ys W least left (brought V m left least d pre is) v' X)
    (fun (cc : Code) (is : List (Fin d)) (X : World) => cc = .ret ∧ ∃ v' q t, W.heap.size + 3 ≤ t ∧ IL w0 ad V c np s l M (Jx t) pre (.slice A p cap) ys W least left q v' X ∧ q ≠ [] ∧ q <+: brought V m left least d pre is)
    (fun is X Y row ⟨v', h⟩ hg hr => ⟨v', h.own (hJ.toT 0) hns had hsz (by omega) hg hr⟩)
    (fun cc is X Y row ⟨e, v', q, t, ht, h, h1, h2⟩ hg hr => ⟨e, v', q, t, ht, h.own (hJx t) hns had hsz (by omega) hg hr, h1, h2⟩)
    ⟨_, by simpa [brought] using HI0.out⟩
    (fun (x : Fin d) => { tmps := #[.int .i64 least, .int .i64 left, .pointer (some ⟨s + 1, 0, none⟩), .pointer (some ⟨np + 1, 0, none⟩), .pointer (some ⟨s, 0, none⟩), .pointer (some ⟨np, 0, none⟩), .pointer (some ⟨s + 2, 0, none⟩), .pointer (some ⟨W.heap.size, 0, none⟩), .pointer (some ⟨W.heap.size + 1, 0, none⟩), .pointer (some ⟨W.heap.size + 1 + 1, 0, none⟩), .int .i64 (x.1 : Int), .int .i64 (rd V ((least : Int) + (x.1 : Int))), undef, undef, .slice A p cap, .int .i64 p, .int .i64 M, .bool false, undef, undef, undef, undef, undef, undef, undef, .slice (some ad) V.length c, .int .i64 least, .slice (some (ad.add least)) d (c - least), .func (.func 62) #[] #[.pointer (some ⟨W.heap.size + 3, 0, none⟩)], .int .i64 (x.1 : Int), .int .i64 (rd V ((least : Int) + (x.1 : Int))), undef, undef, undef, undef, undef, undef, undef, undef, undef, undef, undef, undef, undef, undef, undef, undef, undef, undef, undef, undef, undef, undef, undef, undef, undef, undef, undef, undef, undef, undef, undef, undef, undef, undef, undef, undef, undef, undef, undef, undef], defers := [] }) ?assign ?body ?done ?stop
  case assign =>
    intro l2 x X K hK
    unfold encL
    gi_wp2
    exact hK
  case body =>
    rintro l2 is x X ⟨v', hi⟩ hlt
    obtain ⟨A', cap', rfl⟩ := hi.st.form
    obtain ⟨hM, hp⟩ := H8.out
    rw [hp] at hi
    have hx6 : x.1 < d := x.2
    have hp5 : p ≤ 5 := by omega
    have HI := Lib.hid hi
    have hXs : W.heap.size + 4 ≤ X.heap.size := hi.bs.lt
    obtain ⟨nn, hnn⟩ : ∃ nn, V.length = nn + 1 := ⟨V.length - 1, by omega⟩
    have k1 := hi.st.lbx.cell
    have k2 := hi.st.many.cell
    have k3 := hi.st.vals.cell
    rw [hnn] at k3
    have k4 := hi.st.on.cell
    have k7 := hi.b7.cell
    have k8 := hi.b8.cell
    have k9 := hi.b9.cell
    obtain ⟨mp, hmp⟩ : ∃ mp : Int, M = mp + (p : Int) := ⟨M - p, by omega⟩
    have hmp1 : 1 ≤ mp := by omega
    have hmp6 : mp ≤ 6 := by omega
    have hmm : mp = (m : Int) + 1 := by omega
    obtain ⟨vx, hvx⟩ : ∃ vx, rd V ((least : Int) + (x.1 : Int)) = vx := ⟨_, rfl⟩
    obtain ⟨vl, hvl⟩ : ∃ vl, rd V (nn : Int) = vl := ⟨_, rfl⟩
    have hxr := asc_all H11.out vx (by rw [← hvx]; exact rd_mem (by omega) (by omega))
    have hlr := asc_all H11.out vl (by rw [← hvl]; exact rd_mem (by omega) (by omega))
    have kl : X.cell? (ad.add nn) = some (.int .i64 vl) := by
      rw [← hvl]
      exact (World.cell?_of_block (by rw [G.add_block]; exact hi.st.blk)).trans (H9.out nn (by omega))
    have x1 := hxr.1
    have x2 := hxr.2.1
    have z1 := hlr.1
    have z2 := hlr.2.1
    have hmx0 : 1 ≤ mp * vx := by have := Int.mul_le_mul hmp1 x1 (by omega) (by omega); omega
    have hmx1 : mp * vx ≤ 1200 := by have := Int.mul_le_mul hmp6 x2 (by omega) (by omega); omega
    have hml0 : 1 ≤ mp * vl := by have := Int.mul_le_mul hmp1 z1 (by omega) (by omega); omega
    have hml1 : mp * vl ≤ 1200 := by have := Int.mul_le_mul hmp6 z2 (by omega) (by omega); omega
    have hmo : Try.prog.follows .mixedOrders = true := by kernel_rfl
    have HMm := Lib.hid (⟨hM, hp, hnn, hmp, hmm, hvx, hvl⟩ : _ ∧ _ ∧ _ ∧ _ ∧ _ ∧ _ ∧ _)
    have eMp : M - (p : Int) = mp := by omega
    have hnn6 : nn ≤ 5 := by omega
    have hMle : 0 ≤ M := by omega
    rw [hvx]
    clear hi hM hp hnn hmp hmm hvx hvl hxr hlr
    have hstill : ∀ k (Y : World), Y = X.drewN k → contr V m left (least + x.1) = [] → KeepsFrom W0.heap.size X Y ∧ KeepB (W.heap.size + 3) (some (ad.add least)) X Y ∧ ∃ v', IL w0 ad V c np s l M J pre (.slice A p cap) ys W least left (brought V m left least d pre (is ++ [x])) v' Y := fun k Y e hc => by
      subst e
      refine ⟨⟨Nat.le_refl _, fun _ _ _ h _ => h⟩, ⟨Nat.le_refl _, rfl, fun _ _ => rfl⟩, .slice A' p cap', ?_⟩
      rw [brought_snoc, hc, List.map_nil, List.append_nil]
      exact HI.out.below hJ had hsz (pw_below_drewN (Below.refl _ _) _)
    have HST := Lib.hid hstill
    clear hstill
    by_cases hlow : left < mp * vx
    · have hlow2 : ¬ (mp * vx ≤ left) := by omega
      gi_wp2
      refine wpIn_region_quiet_r (by kernel_rfl) (by kernel_rfl) (by kernel_rfl) ?_
      repeat (gi_big_quiet_step (fail))
      refine wpQuietIn_nil ?_
      intro _ hw'
      obtain ⟨nq, hw''⟩ := hw'
      subst hw''
      gi_wp2
      obtain ⟨hM, hp, hnn, hmp, hmm, hvx, hvl⟩ := HMm.out
      refine HST.out _ _ rfl (contr_low (drop_low H11.out (by omega)) ?_)
      rw [Int.natCast_add, hvx, ← hmm]
      exact hlow
    · have hlow2 : mp * vx ≤ left := by omega
      have hdec : decide (left < mp * vx) = false := decide_eq_false hlow
      by_cases hhigh : mp * vl < left
      · gi_wp2
        refine wpIn_region_quiet_r (by kernel_rfl) (by kernel_rfl) (by kernel_rfl) ?_
        repeat (gi_big_quiet_step (fail))
        refine wpQuietIn_nil ?_
        intro _ hw'
        obtain ⟨nq, hw''⟩ := hw'
        subst hw''
        gi_wp2
        obtain ⟨hM, hp, hnn, hmp, hmm, hvx, hvl⟩ := HMm.out
        refine HST.out _ _ rfl (contr_high (asc_le_end H11.out hnn) (by omega) ?_)
        rw [hvl, ← hmm]
        exact hhigh
      · clear HST
        have hdec2 : decide (mp * vl < left) = false := decide_eq_false hhigh
        gi_wp2
        refine wpIn_region_quiet_r (by kernel_rfl) (by kernel_rfl) (by kernel_rfl) ?_
        repeat (gi_big_quiet_step (fail))
        refine wpQuietIn_nil ?_
        intro _ hw'
        obtain ⟨nq, hw''⟩ := hw'
        subst hw''
        have hi2 := HI.out.below hJ had hsz (Y := X.drewN nq) (pw_below_drewN (Below.refl _ _) _)
        have HKX := Lib.hid (show Below X.heap.size X (X.drewN nq) from pw_below_drewN (Below.refl _ _) _)
        generalize X.drewN nq = X2 at *
        have HI2 := Lib.hid hi2
        obtain ⟨i0, hi0, hz0, hz1, hz2⟩ := info_parts info3
        have k1 := hi2.st.lbx.cell
        have hXs2 : W.heap.size + 4 ≤ X2.heap.size := hi2.bs.lt
        have hss : s + 3 ≤ X2.heap.size := by omega
        clear hi2
        have HB := Lib.hid (show ∀ b, (Value.slice A p cap).ownBlock = some b → b < W.heap.size from fun b e => (H7.out.base b e).2)
        have hlv : 0 ≤ left - vx ∧ left - vx ≤ 1200 := by
          have := Int.mul_le_mul_of_nonneg_right hmp1 (show (0 : Int) ≤ vx by omega)
          omega
        have HLV := Lib.hid hlv
        have hlv0 := hlv.1
        have hlv1 := hlv.2
        clear hlv
        gi_wp2_with (first
          | (gi_at_builtin; refine wpListIn_append_own_at _ rfl _ _ 22 rfl (s + 3) 3 i0 (.int .i64 0) 1 8 Try.underlying22 hi0 hz0 hz1 hz2 rfl (by decide) _ _ _ rfl (by have h1 := HI2.out.st.row.alloc (.cells #[.int .i64 vx] 3); have h2 := HMm.out.2.1; rw [h2] at h1; exact h1) ⟨X2.heap.size, 0, none⟩ 1 1 [.int .i64 vx] rfl rfl (cell_one_new _ _ _) (by simp [Value.oneCell']) (by unfold maxLen; omega) (by omega) (by simp; omega) ?_; intro v1 w1 hown hgrow _ hat; obtain ⟨g', cap1, rfl⟩ := ownsRow_succ hown; obtain ⟨q1, q2, q3⟩ := HI2.out.st.push hns had (x := vx) (by rw [HMm.out.2.1]; exact hown) hgrow; have hc1 := q1.cell; have hf1 := q1.frozen; have Q2 := Lib.hid q2; have Q3 := Lib.hid q3; have HJN := Lib.hid (hJ _ _ _ HI2.out.j (HI2.out.st.pushBelow hgrow (v' := .slice (some ⟨g', 0, none⟩) (p + 1) cap1))); have HAT := Lib.hid hat; have con1 := q2.on.cell; unfold onL at con1; have c71 := (HI2.out.box HB.out hsz q3 (by omega) (by omega) HI2.out.b7).cell; have c81 := (HI2.out.box HB.out hsz q3 (by omega) (by omega) HI2.out.b8).cell; clear q1 q2 q3 hown hgrow hat))
        refine ⟨trivial, ?_⟩
        gi_at_call 60
        have hcall := H10.out 7 (pre ++ [vx]) (.slice (some ⟨g', 0, none⟩) (p + 1) cap1) (least + x.1) (left - vx) (ys ++ brought V m left least d pre is) _ (by have h1 := HMm.out.1; have h2 := HMm.out.2.1; simp; omega) (by omega) HLV.out.1 HLV.out.2 Q2.out HJN.out
        unfold onLArgs at hcall
        rw [Int.natCast_add] at hcall
        refine (CallsIn.inRound l2 hcall).mono ?_
        clear hcall
        intro e W3 hE
        obtain ⟨b, rfl, v3, hs3', hr3, hf3, hbt, hbf⟩ := hE.as
        clear hE
        have hl3 : (pre ++ [vx]).length = p + 1 := (by rw [List.length_append, HMm.out.2.1]; rfl)
        have hrow3 := hs3'.row
        rw [hl3] at hrow3
        obtain ⟨g3, cap3, rfl⟩ := ownsRow_succ hrow3
        have hfit : p + 1 ≤ cap3 := own_fits hrow3 hl3
        have e31 := hs3'.lbx.cell
        have e32 := hs3'.lbx.frozen
        have HS3 := Lib.hid hs3'
        have HR3 := Lib.hid hr3
        have HF3 := Lib.hid hf3
        have HBT := Lib.hid hbt
        have HBF := Lib.hid hbf
        have hfi : ((p : Int) ≤ (cap3 : Int)) := by omega
        have hfn : p ≤ cap3 := by omega
        clear hs3' hr3 hf3 hbt hbf hl3 hrow3 hc1 hf1 con1 c71 c81 hfit
        have hs4 : LSt w0 ad V.length c np s l M (W3.setCell ⟨s + 1, 0, none⟩ (.slice (some ⟨g3, 0, none⟩) p cap3)) pre (.slice (some ⟨g3, 0, none⟩) p cap3) := HS3.out.pop HMm.out.2.1 hns had
        have hr01 : RowN X2.heap.size (.slice A' p cap') (.slice (some ⟨g', 0, none⟩) (p + 1) cap1) := by
          rcases HAT.out with h | h
          · exact .inl h
          · exact .inr ⟨_, h, by simp⟩
        have hr03 : RowN X2.heap.size (.slice A' p cap') (.slice (some ⟨g3, 0, none⟩) p cap3) := hr01.trans (show RowN _ _ (.slice (some ⟨g3, 0, none⟩) p cap3) from HR3.out) Q3.out.1
        have hf4 : LFr s (.slice A' p cap') X2 (W3.setCell ⟨s + 1, 0, none⟩ (.slice (some ⟨g3, 0, none⟩) p cap3)) :=
          (Q3.out.trans HF3.out hr01).trans (v' := .slice (some ⟨g3, 0, none⟩) p cap3) (LFr.set W3 _) hr03
        have b94 := HI2.out.box HB.out hsz hf4 (by omega) (by omega) HI2.out.b9
        have c94 := b94.cell
        have f94 := b94.frozen
        have hXW3 : W.heap.size + 4 ≤ W3.heap.size := by have h1 := Q3.out.1; have h2 := HF3.out.1; omega
        have hj4 : ∀ (t : Nat) (K : List (List Int) → World → Prop), W.heap.size + 3 ≤ t → AbsT s t K → ∀ zs, K zs W3 → K zs (W3.setCell ⟨s + 1, 0, none⟩ (.slice (some ⟨g3, 0, none⟩) p cap3)) := fun t K ht hK zs hk => hK _ _ _ hk (Chg.setCell W3 (b := s + 1) (by omega) (by omega) _)
        have HI4 := Lib.hid (show ∀ (t : Nat) (K : List (List Int) → World → Prop) dn, W.heap.size + 3 ≤ t → AbsT s t K → K (ys ++ dn) W3 → IL w0 ad V c np s l M K pre (.slice A p cap) ys W least left dn (.slice (some ⟨g3, 0, none⟩) p cap3) (W3.setCell ⟨s + 1, 0, none⟩ (.slice (some ⟨g3, 0, none⟩) p cap3)) from fun t K dn ht hK hk => (HI2.out.step HB.out hsz hs4 hr03 hf4 (hj4 t K ht hK _ hk)).1)
        have HFX := Lib.hid (show LFr s (.slice A' p cap') X (W3.setCell ⟨s + 1, 0, none⟩ (.slice (some ⟨g3, 0, none⟩) p cap3)) from (LFr.of_below HKX.out).trans hf4 (RowN.refl _ _))
        have hsc : ∀ b, (Value.slice A' p cap').ownBlock = some b → b ≠ W.heap.size + 1 + 1 := fun b e h => by
          rcases HI2.out.rn with hr | ⟨b', hr, hb'⟩
          · rw [hr] at e; have := HB.out b e; omega
          · rw [hr] at e; cases e; omega
        have HSC := Lib.hid hsc
        have hall : (gen (V.drop (least + x.1)) m (left - vx)).map ((pre ++ [vx]) ++ ·) = (contr V m left (least + x.1)).map (pre ++ ·) := by
          have h1 := HMm.out.2.2.2.2.2.1
          rw [← Int.natCast_add] at h1
          unfold contr
          rw [h1, List.map_map]
          exact List.map_congr_left (fun _ _ => by simp)
        have HALL := Lib.hid hall
        clear hs4 hr01 hr03 hf4 hj4 b94 hsc hall
        cases b with
        | true =>
          gi_wp2
          have h4 := HI4.out (W.heap.size + 3) J (brought V m left least d pre (is ++ [x])) (Nat.le_refl _) (hJ.toT _) (by have := HBT.out (by simp); rw [brought_snoc, ← List.append_assoc, ← HALL.out]; exact this)
          exact ⟨HFX.out.keepsFrom HI.out.st.row ⟨_, _, HI.out.st.lbx⟩ (by omega), ⟨HFX.out.1, h4.bs.trans HI.out.bs.symm, fun x e => by cases e; rw [G.add_block]; exact h4.st.blk.trans HI.out.st.blk.symm⟩, _, h4⟩
        | false =>
          gi_wp2
          obtain ⟨q, hq, hq0, t, htt, hqx⟩ := HBF.out (by simp)
          have htW : W.heap.size + 3 ≤ t := by have h1 := Q3.out.1; omega
          have h4 := (HI4.out t (Jx t) (brought V m left least d pre is ++ q) htW (hJx t) (by rw [← List.append_assoc]; exact hqx)).set9 (hJx t) htW hns had HB.out hsz
          refine ⟨(HFX.out.keepsFrom HI.out.st.row ⟨_, _, HI.out.st.lbx⟩ (by omega)).trans (KeepsFrom.of_grownBy (grownBy_setCell' _ (W.heap.size + 1 + 1) _) (fun j e => by cases e; omega)), rfl, _, _, t, htW, h4, by simp [hq0], ?_⟩
          rw [brought_snoc, ← HALL.out]
          exact (List.prefix_append_right_inj _).2 hq
  case done =>
    rintro D is X hD rfl ⟨v', hi⟩ hK
    have hne : some (W.heap.size + 1 + 1) ≠ v'.ownBlock := fun e => by
      rcases hi.rn with hr | ⟨b', hr, hb'⟩
      · rw [hr] at e; have := (H7.out.base _ e.symm).2; omega
      · rw [hr] at e; cases e; omega
    have hX1 := hi.st.setOther (b := W.heap.size + 1 + 1) (by omega) hne hns had (.bool true)
    have hX2 := hi.fr.setNew (b := W.heap.size + 1 + 1) (by omega) (.bool true)
    have hX3 := hJ _ _ _ hi.j ((Below.refl s X).setCell (p := ⟨W.heap.size + 1 + 1, 0, none⟩) (show s ≤ W.heap.size + 1 + 1 by omega) (.bool true))
    have hK' : (X.setCell ⟨W.heap.size + 1 + 1, 0, none⟩ (.bool true)).heap[D]? = some (.deferred (some [])) := (Below.heap_setCell _ _ _ D (show D ≠ W.heap.size + 1 + 1 by omega)).trans hK
    obtain ⟨e1, e2, e3, e4, e5⟩ := LSt.endPut hX1 hi.rn hX2 hX3 (hJ.toT 0) hns had (by omega) hsz hK'
    have c9 := (e5 _ _ _ (hi.b9.set (.bool true))).cell
    have k9 := hi.b9.cell
    have f9 := hi.b9.frozen
    have HE := Lib.hid (⟨e1, e2, e3, e4⟩ : _ ∧ _ ∧ _ ∧ _)
    have HKK := Lib.hid hK'
    clear hX1 hX2 hX3 e1 e2 e3 e4 e5 hne hi hK' hK
    gi_wp2
    refine ⟨by simp, .inl ⟨_, _, rfl, run_takeDeferred HKK.out, ?_⟩⟩
    refine ⟨.bool true, by simp [results, Try.f60, go_sem, c9], v', HE.out.1, HE.out.2.1, HE.out.2.2.1, .inl ⟨rfl, ?_⟩⟩
    rw [← brought_all V m left least d hd0 (by have := HD.out; omega) pre]
    exact HE.out.2.2.2
  case stop =>
    rintro D cc is X hD ⟨k, hk, rfl⟩ ⟨rfl, v', q, t, htW, hi, hq1, hq2⟩ hK
    obtain ⟨e1, e2, e3, e4, e5⟩ := LSt.endPut hi.st hi.rn hi.fr hi.j (hJx t) hns had (by omega) hsz hK
    have c9 := (e5 _ _ _ hi.b9).cell
    have HE := Lib.hid (⟨e1, e2, e3, e4⟩ : _ ∧ _ ∧ _ ∧ _)
    have HKK := Lib.hid hK
    have HQ := Lib.hid (⟨hq1, hq2⟩ : _ ∧ _)
    clear e1 e2 e3 e4 e5 hi hK hq1 hq2
    gi_wp2
    refine ⟨by simp, .inl ⟨_, _, rfl, run_takeDeferred HKK.out, ?_⟩⟩
    refine ⟨.bool false, by simp [results, Try.f60, go_sem, c9], v', HE.out.1, HE.out.2.1, HE.out.2.2.1, .inr ⟨rfl, q, ?_, HQ.out.1, t, htW, HE.out.2.2.2⟩⟩
    rw [← brought_all V m left least d hd0 (by have := HD.out; omega) pre]
    exact HQ.out.2.trans (brought_prefix V m left least d hd0 pre hk)

end Go.Proofs.Ytcgblpjknkmoaaa.B

namespace Go.Proofs.Ytcgblpjknkmoaaa.B
open Go.RowKit Go.Shelf Go.Proofs.YtcgblpjknkmoaaaW.PrintWords Go.Proofs.YtcgblpjknkmoaaaW.PrintLast Go.Proofs.YtcgblpjknkmoaaaW.PrintMore
open Go.Proofs Go.Proofs.Ytcgblpjknkmoaaa.G Go.Proofs.Ytcgblpjknkmoaaa.Stamp
attribute [local go_sem] Oper.semAt_some

theorem onL_all {w0 : World} {ad : Addr} {V : List Int} {c np s l : Nat} {M : Int} {J : List (List Int) → World → Prop} {Jx : Nat → List (List Int) → World → Prop} (hJ : Abs s J) (hJx : ∀ t, AbsT s t (Jx t)) (hR : Rounds w0 ad V.length c np s l M J Jx) (hns : np + 3 ≤ s) (had : ad.block < s) (hV : asc 0 V = true) (hlen : V.length ≤ 6) (hlc : V.length ≤ c) (hM6 : M ≤ 6)
    (hw0 : ∀ j : Nat, j < V.length → w0.cell? (ad.add j) = some (.int .i64 (rd V (j : Int)))) : ∀ m, OnLSaid w0 ad V c np s l M J Jx m
  | 0 => onL_zero hJ hJx hR hns had
  | m + 1 => onL_succ hJ hJx hns had hV hlen hlc hM6 hw0 m (onL_all hJ hJx hR hns had hV hlen hlc hM6 hw0 m)

/-- what holds where lists hands out its iterator -/
structure LIn (ad : Addr) (V : List Int) (c np m : Nat) (amount : Int) (W : World) : Prop where
  asc : asc 0 V = true
  pos : 0 < V.length
  len : V.length ≤ 6
  fits : V.length ≤ c
  m6 : m ≤ 6
  low : 0 ≤ amount
  top : amount ≤ 1200
  vals : Boxed W np 22 (.slice (some ad) V.length c)
  many : Boxed W (np + 1) 3 (.int .i64 (m : Int))
  amt : Boxed W (np + 1 + 1) 3 (.int .i64 amount)
  had : ad.block < W.heap.size
  cells : ∀ j : Nat, j < V.length → W.cell? (ad.add j) = some (.int .i64 (rd V (j : Int)))

theorem LIn.below {ad : Addr} {V : List Int} {c np m : Nat} {amount : Int} {W W' : World} (h : LIn ad V c np m amount W) (hb : Below W.heap.size W W') : LIn ad V c np m amount W' := by
  have mv : ∀ {b t u}, Boxed W b t u → Boxed W' b t u := fun hx => (hb.block _ hx.lt).trans hx
  exact ⟨h.asc, h.pos, h.len, h.fits, h.m6, h.low, h.top, mv h.vals, mv h.many, mv h.amt, Nat.lt_of_lt_of_le h.had hb.size, fun j hj => (World.cell?_of_block (by rw [G.add_block]; exact hb.block _ h.had)).trans (h.cells j hj)⟩

set_option maxHeartbeats 4000000 in
set_option maxRecDepth 100000 in
theorem lists1_in {ad : Addr} {V : List Int} {c np l m : Nat} {amount : Int} {J : List (List Int) → World → Prop} {Jx : Nat → List (List Int) → World → Prop} {W : World} (n : Nat) (hi : LIn ad V c np m amount W) (hJ : Abs W.heap.size J) (hJx : ∀ t, AbsT W.heap.size t (Jx t)) (hR : Rounds W ad V.length c np W.heap.size l m J Jx) (h0 : J [] W) :
    CallsIn Fence.wide n Try.prog 59 #[.func (.yield l) #[] #[], .pointer (some ⟨np + 1, 0, none⟩), .pointer (some ⟨np, 0, none⟩), .pointer (some ⟨np + 1 + 1, 0, none⟩)] W fun e W' => (∃ v, e = .returned v) ∧
      (J (gen V m amount) W' ∨ ∃ q, q <+: gen V m amount ∧ q ≠ [] ∧ ∃ t, Jx t q W') := by
  have hon := onL_all hJ hJx hR (by have : np + 1 + 1 < W.heap.size := hi.amt.lt; omega) hi.had hi.asc hi.len hi.fits (by have := hi.m6; omega) hi.cells m
  have HON := Lib.hid hon
  have hnew : ∀ Wz : World, ((W.alloc (.cells #[.func (.yield l) #[] #[]] 33)).alloc (.cells #[.slice none 0 0] 22)).alloc (.cells #[onL np W.heap.size] 31) = Wz →
      LSt W ad V.length c np W.heap.size l m Wz [] (.slice none 0 0) ∧ J [] Wz ∧ Wz.cell? ⟨np + 1 + 1, 0, none⟩ = some (.int .i64 amount) := fun Wz e => by
    have hnp : np + 1 + 1 < W.heap.size := hi.amt.lt
    have hb : Below W.heap.size W Wz := by
      rw [← e]
      exact (((Below.refl _ W).alloc (Nat.le_refl _) _).alloc (by simp) _).alloc (by simp; omega) _
    have b0 := ((Boxed.new W 33 (.func (.yield l) #[] #[])).alloc (.cells #[.slice none 0 0] 22)).alloc (.cells #[onL np W.heap.size] 31)
    have b1 := (Boxed.new (W.alloc (.cells #[.func (.yield l) #[] #[]] 33)) 22 (.slice none 0 0)).alloc (.cells #[onL np W.heap.size] 31)
    have b2 := (Boxed.new ((W.alloc (.cells #[.func (.yield l) #[] #[]] 33)).alloc (.cells #[.slice none 0 0] 22)) 31 (onL np W.heap.size))
    simp only [World.size_alloc] at b1 b2
    rw [e] at b0 b1 b2
    have hi2 := hi.below hb
    exact ⟨⟨hi2.vals, hi2.many, b0, b1, World.ownsRow_nil _ _ _ _, b2, hb.block _ hi.had⟩, hJ _ _ _ h0 hb, hi2.amt.cell⟩
  have HI := Lib.hid hi
  clear hon hJ hJx hR h0 hi
  refine (callsIn_wide (n := n)).2 ((callsIn_wide (n := 10)).1 ?_)
  refine callsIn_of_wp Try.func59 rfl trivial ?_ rfl
  simp only [Try.ntmps59, List.size_toArray, List.length_cons, List.length_nil, Nat.reduceAdd, Nat.reduceSub, Array.replicate_succ, Array.replicate_zero, List.push_toArray, List.append_toArray, List.nil_append, List.cons_append]
  unfold onL at hnew
  have ka := HI.out.amt.cell
  gi_wp2_with fail
  obtain ⟨q1, q2, -⟩ := hnew _ rfl
  refine ⟨trivial, ?_⟩
  have hcall := HON.out 9 [] (.slice none 0 0) 0 amount [] _ (by simp) HI.out.pos HI.out.low HI.out.top q1 q2
  unfold onLArgs at hcall
  refine hcall.mono ?_
  clear hcall hnew
  intro e W3 hE
  obtain ⟨b, rfl, v3, -, -, -, hbt, hbf⟩ := hE.as
  have e1 : (gen (V.drop 0) m amount).map (([] : List Int) ++ ·) = gen V m amount := by simp
  rw [e1] at hbt hbf
  simp only [List.nil_append] at hbt hbf
  have HBT := Lib.hid hbt
  have HBF := Lib.hid hbf
  clear hbt hbf e1 q1 q2 hE
  gi_wp2
  go_end0
  refine ⟨⟨_, rfl⟩, ?_⟩
  cases b with
  | true => exact .inl (HBT.out rfl)
  | false =>
    obtain ⟨q, h1, h2, t, -, h3⟩ := HBF.out rfl
    exact .inr ⟨q, h1, h2, t, h3⟩

set_option maxHeartbeats 1000000 in
set_option maxRecDepth 100000 in
/-- stamp.lists: the three parameters are boxed; the function value captures the boxes. -/
theorem lists_in (n : Nat) (A : Option Addr) (len c : Nat) (many amount : Int) (w : World) :
    CallsIn Fence.wide n Try.prog 42 #[.slice A len c, .int .i64 many, .int .i64 amount] w fun e w' =>
      e = .returned (.func (.func 59) #[] #[.pointer (some ⟨w.heap.size + 1, 0, none⟩), .pointer (some ⟨w.heap.size, 0, none⟩), .pointer (some ⟨w.heap.size + 1 + 1, 0, none⟩)]) ∧
      w' = ((w.alloc (.cells #[.slice A len c] 22)).alloc (.cells #[.int .i64 many] 3)).alloc (.cells #[.int .i64 amount] 3) := by
  refine callsIn_of_wp Try.func42 rfl trivial ?_ rfl
  simp only [Try.ntmps42, List.size_toArray, List.length_cons, List.length_nil, Nat.reduceAdd, Nat.reduceSub, Array.replicate_succ, Array.replicate_zero, List.push_toArray, List.append_toArray, List.nil_append, List.cons_append]
  gi_wp2
  go_ret
  exact ⟨rfl, rfl⟩

/-- where the iterator's boxes have just been laid -/
theorem lin_start {ad : Addr} {V : List Int} {c m : Nat} {amount : Int} {w : World} (h1 : asc 0 V = true) (h2 : 0 < V.length) (h3 : V.length ≤ 6) (h4 : V.length ≤ c) (h5 : m ≤ 6) (h6 : 0 ≤ amount) (h7 : amount ≤ 1200) (hc : ∀ j : Nat, j < V.length → w.cell? (ad.add j) = some (.int .i64 (rd V (j : Int)))) :
    LIn ad V c w.heap.size m amount (((w.alloc (.cells #[.slice (some ad) V.length c] 22)).alloc (.cells #[.int .i64 (m : Int)] 3)).alloc (.cells #[.int .i64 amount] 3)) := by
  have had : ad.block < w.heap.size := by
    have := World.block_lt_of_cell? w _ (hc 0 h2); rwa [G.add_block] at this
  have hb : Below w.heap.size w (((w.alloc (.cells #[.slice (some ad) V.length c] 22)).alloc (.cells #[.int .i64 (m : Int)] 3)).alloc (.cells #[.int .i64 amount] 3)) := (((Below.refl _ w).alloc (Nat.le_refl _) _).alloc (by simp) _).alloc (by simp; omega) _
  have b0 := ((Boxed.new w 22 (.slice (some ad) V.length c)).alloc (.cells #[.int .i64 (m : Int)] 3)).alloc (.cells #[.int .i64 amount] 3)
  have b1 := (Boxed.new (w.alloc (.cells #[.slice (some ad) V.length c] 22)) 3 (.int .i64 (m : Int))).alloc (.cells #[.int .i64 amount] 3)
  have b2 := Boxed.new ((w.alloc (.cells #[.slice (some ad) V.length c] 22)).alloc (.cells #[.int .i64 (m : Int)] 3)) 3 (.int .i64 amount)
  simp only [World.size_alloc] at b1 b2
  exact ⟨h1, h2, h3, h4, h5, h6, h7, b0, b1, b2, Nat.lt_of_lt_of_le had hb.size, fun j hj => (World.cell?_of_block (by rw [G.add_block]; exact hb.block _ had)).trans (hc j hj)⟩

/-- what a round leaves alone -/
def KeepN (ad : Addr) (np : Nat) (W W' : World) : Prop := W.heap.size ≤ W'.heap.size ∧ ∀ k, k < W.heap.size → (k = ad.block ∨ np ≤ k) → W'.heap[k]? = W.heap[k]?
def postL (ad : Addr) (np : Nat) (I : List (List Int) → World → Prop) (Ix : Nat → List (List Int) → World → Prop) (xs : List (List Int)) (W : World) : Exit → Act → World → Prop
  | .normal, _, W' => KeepN ad np W W' ∧ I xs W'
  | .ret, _, W' => KeepN ad np W W' ∧ Ix W.heap.size xs W'
  | _, _, _ => False

theorem Abs.mono {s s' : Nat} {J : List (List Int) → World → Prop} (h : Abs s J) (hs : s ≤ s') : Abs s' J := fun ys A B hj hb => h ys A B hj (hb.mono hs)

/-- A RANGE OVER THE LISTS. -/
theorem wpIn_rangeFunc_lists {ad : Addr} {V : List Int} {c np m : Nat} {amount : Int} {g : Operand} {p : Tmp} {assign body : Code} {Q : Exit → Act → World → Prop} {a : Act} {w : World} {n : Nat} (hi : LIn ad V c np m amount w)
    (hg : a.eval g = .func (.func 59) #[] #[.pointer (some ⟨np + 1, 0, none⟩), .pointer (some ⟨np, 0, none⟩), .pointer (some ⟨np + 1 + 1, 0, none⟩)])
    (I : List (List Int) → World → Prop) (Ix : Nat → List (List Int) → World → Prop) (hI : Abs w.heap.size I) (hIx : ∀ t, AbsT w.heap.size t (Ix t)) (h0 : I [] w) (a₁ : Value → Act)
    (hassign : ∀ (k l : Nat) (v : Value) (W : World) (K : Act → World → Prop), K (a₁ v) W →
      assign.wpIn (Fence.wide.inRound l) k Try.prog (Exit.then K (fun _ _ _ => False)) { tmps := (#[p].zip #[v]).foldl (fun t (p, v) => t.setIfInBounds p v) a.tmps, defers := [] } W)
    (hbody : ∀ (k l : Nat) (pre : List (List Int)) (x : List Int) (v : Value) (W : World), I pre W → x.length = m → W.ownsRow w.heap.size 3 1 v x.length (x.map (Value.int .i64)) → body.wpIn (Fence.wide.inRound l) k Try.prog (postL ad np I Ix (pre ++ [x]) W) (a₁ v) W)
    (hdone : ∀ (D : Nat) (W : World), w.heap.size ≤ D → I (gen V m amount) W → W.heap[D]? = some (.deferred (some [])) → Q .normal { a with defers := { target := .collected D, args := #[] } :: a.defers } W)
    (hstop : ∀ (D t : Nat) (q : List (List Int)) (W : World), w.heap.size ≤ D → q <+: gen V m amount → q ≠ [] → Ix t q W → W.heap[D]? = some (.deferred (some [])) → Code.ret.wpIn Fence.wide n Try.prog Q { a with defers := { target := .collected D, args := #[] } :: a.defers } W) :
    (Code.rangeFunc g #[p] assign body).wpIn Fence.wide n Try.prog Q a w := by
  have hnp : np + 1 + 1 < w.heap.size := hi.amt.lt
  have hadw := hi.had
  refine wpIn_rangeFunc ?_
  intro fn hfn
  rw [show Fence.wide.round = none from rfl]
  obtain ⟨rec, hrec⟩ : ∃ rec : LoopState → Option Code → Loop, rec = fun st pe => { state := st, pending := pe, fn, tmps := a.tmps, params := #[p], assign, body, defers := w.heap.size } := ⟨_, rfl⟩
  obtain ⟨W1, hW1⟩ : ∃ W1, (w.alloc (.deferred (some []))).alloc (.loop (rec .ready none)) = W1 := ⟨_, rfl⟩
  have hL1 : W1.heap[w.heap.size + 1]? = some (.loop (rec .ready none)) := by
    rw [← hW1]; have := World.alloc_heap_new (w.alloc (.deferred (some []))) (.loop (rec .ready none)); rwa [World.size_alloc] at this
  have hK1 : W1.heap[w.heap.size]? = some (.deferred (some [])) := by
    rw [← hW1]; exact (Below.heap_alloc _ _ _ (by simp)).trans (World.alloc_heap_new w _)
  have hb1 : Below w.heap.size w W1 := by
    rw [← hW1]; exact ((Below.refl _ w).alloc (Nat.le_refl _) _).alloc (by simp) _
  have hs1 : W1.heap.size = w.heap.size + 2 := by rw [← hW1]; simp
  have hput : ∀ {K : List (List Int) → World → Prop}, Abs w.heap.size K → ∀ {ys W o o'}, K ys W → W.heap[w.heap.size + 1]? = some o → o.isCells = false → o.isWalk = false → K ys (W.putObj (w.heap.size + 1) o') := fun hK _ _ _ _ hk ho h1 h2 => hK _ _ _ hk (belowK_b (w := w) (Nat.le_refl _) _ _ _ _ (by omega) ho h1 h2)
  have hputx : ∀ {t ys W o o'}, Ix t ys W → W.heap[w.heap.size + 1]? = some o → o.isCells = false → Ix t ys (W.putObj (w.heap.size + 1) o') := fun hk ho h1 => hIx _ _ _ _ hk (Chg.grown (by have := (Array.getElem?_eq_some_iff.1 ho).1; omega) (grownBy_putObj' _ _ _) (fun r e => by cases e; exact ⟨by omega, _, ho, h1⟩))
  refine ⟨w.heap.size + 1, [{ target := .collected w.heap.size, args := #[] }], W1, { target := .fn (.func 59) #[.pointer (some ⟨np + 1, 0, none⟩), .pointer (some ⟨np, 0, none⟩), .pointer (some ⟨np + 1 + 1, 0, none⟩)], args := #[.func (.yield (w.heap.size + 1)) #[] #[]] }, W1, 59,
    #[.func (.yield (w.heap.size + 1)) #[] #[]] ++ #[.pointer (some ⟨np + 1, 0, none⟩), .pointer (some ⟨np, 0, none⟩), .pointer (some ⟨np + 1 + 1, 0, none⟩)], W1, ?_, ?_, ?_, ?_, fun h => absurd h (by simp [Fence.wide]), ?_⟩
  · rw [← hW1, hrec]; exact run_enterLoop_outer _ _ _ _ _
  · simp only [resolve, hg]
    simp [go_sem]
  · intro f' hf'; trivial
  · simp [invoke, go_sem]
  · refine (lists1_in (n - 1) (hi.below hb1)
      (J := fun pre W => I pre W ∧ W.heap[w.heap.size + 1]? = some (.loop (rec .ready none)) ∧ W.heap[w.heap.size]? = some (.deferred (some [])))
      (Jx := fun t pre W => Ix t pre W ∧ W.heap[w.heap.size + 1]? = some (.loop (rec .done (some .ret))) ∧ W.heap[w.heap.size]? = some (.deferred (some [])))
      (fun ys A B hj hb => ⟨hI _ _ _ hj.1 (hb.mono (by omega)), (hb.block _ (by omega)).trans hj.2.1, (hb.block _ (by omega)).trans hj.2.2⟩)
      (fun t ys A B hj hb => ⟨hIx t _ _ _ hj.1 ⟨hb.1.mono (by omega), hb.2⟩, (hb.1.block _ (by omega)).trans hj.2.1, (hb.1.block _ (by omega)).trans hj.2.2⟩)
      ?_ ⟨hI _ _ _ h0 hb1, hL1, hK1⟩).mono ?_
    · rintro k pre x v W ⟨hi1, hl, hk⟩ hst hx
      have hlt : w.heap.size + 1 < W.heap.size := (Array.getElem?_eq_some_iff.1 hl).1
      have hy := run_yield (P := Try.prog) (args := #[v]) hl (by rw [hrec]; rfl)
      rw [hrec] at hy
      refine ⟨fn, _, assign, body, hy, roundIn_of_wpIn hfn (hassign k _ v W _ ⟨_, run_beginRound hl (by rw [hrec]), ?_⟩)⟩
      have hl2 : (W.putObj (w.heap.size + 1) (.loop { rec .ready none with state := .busy })).heap[w.heap.size + 1]? = some (.loop { rec .ready none with state := .busy }) := World.putObj_heap_same hlt
      have hk2 : (W.putObj (w.heap.size + 1) (.loop { rec .ready none with state := .busy })).heap[w.heap.size]? = some (.deferred (some [])) := (World.putObj_heap_other (by omega)).trans hk
      have hrow : (W.putObj (w.heap.size + 1) (.loop { rec .ready none with state := .busy })).ownsRow w.heap.size 3 1 v x.length (x.map (Value.int .i64)) := ownsRow_putObj (own_weaken hst.row (by omega)) _ hl rfl
      refine wpIn_mono (hbody k _ pre x v _ (hput hI hi1 hl rfl rfl) (by omega) hrow) ?_
      have hsz : (W.putObj (w.heap.size + 1) (.loop { rec .ready none with state := .busy })).heap.size = W.heap.size := by simp
      have fin : ∀ (jump : Option Code) (W3 : World), KeepN ad np (W.putObj (w.heap.size + 1) (.loop { rec .ready none with state := .busy })) W3 →
          (Instr.endRound (w.heap.size + 1) jump).run Try.prog W3 = .ok (.bool jump.isNone) (W3.putObj (w.heap.size + 1) (.loop (rec (if jump.isNone then .ready else .done) jump))) ∧
          W3.heap[w.heap.size + 1]? = some (.loop { rec .ready none with state := .busy }) ∧
          (W3.putObj (w.heap.size + 1) (.loop (rec (if jump.isNone then .ready else .done) jump))).heap[w.heap.size + 1]? = some (.loop (rec (if jump.isNone then .ready else .done) jump)) ∧
          (W3.putObj (w.heap.size + 1) (.loop (rec (if jump.isNone then .ready else .done) jump))).heap[w.heap.size]? = some (.deferred (some [])) ∧
          KeepL ad np W1.heap.size W (W3.putObj (w.heap.size + 1) (.loop (rec (if jump.isNone then .ready else .done) jump))) := fun jump W3 hk3 => by
        have hl3 := (hk3.2 (w.heap.size + 1) (by omega) (.inr (by omega))).trans hl2
        have hk4 := (hk3.2 w.heap.size (by omega) (.inr (by omega))).trans hk2
        have := run_endRound (P := Try.prog) jump hl3
        rw [hrec] at this ⊢
        refine ⟨this, by rw [hrec] at hl3; exact hl3, World.putObj_heap_same (Array.getElem?_eq_some_iff.1 hl3).1, (World.putObj_heap_other (by omega)).trans hk4, ⟨by have := hk3.1; simp at this ⊢; omega, fun j hj ho => ?_⟩⟩
        have hne : j ≠ w.heap.size + 1 := by omega
        exact (World.putObj_heap_other hne).trans ((hk3.2 j (by omega) (by omega)).trans (World.putObj_heap_other hne))
      rintro e a3 W3 hp
      cases e with
      | normal =>
        obtain ⟨hk3, hi3⟩ := hp
        obtain ⟨hr, hl3, hl4, hk4, hkl⟩ := fin none W3 hk3
        exact ⟨_, _, hr, .inl ⟨rfl, ⟨hput hI hi3 hl3 rfl rfl, hl4, hk4⟩, hkl⟩⟩
      | ret =>
        obtain ⟨hk3, hi3⟩ := hp
        obtain ⟨hr, hl3, hl4, hk4, hkl⟩ := fin (some .ret) W3 hk3
        exact ⟨_, _, hr, .inr ⟨rfl, ⟨hputx (by rw [hsz] at hi3; exact hi3) hl3 rfl, hl4, hk4⟩, hkl⟩⟩
      | exit id => exact hp.elim
      | goto t => exact hp.elim
      | panic ch => exact hp.elim
      | outgrown => exact hp.elim
    · rintro e W2 ⟨⟨v, rfl⟩, (⟨hi2, hl, hk⟩ | ⟨q, hq1, hq2, t, hi2, hl, hk⟩)⟩
      · exact ⟨none, _, by have := run_endLoop (P := Try.prog) hl (by rw [hrec]; simp); rw [hrec] at this; exact this, hdone _ _ (Nat.le_refl _) (hput hI hi2 hl rfl rfl) ((World.putObj_heap_other (by omega)).trans hk)⟩
      · exact ⟨some .ret, _, by have := run_endLoop (P := Try.prog) hl (by rw [hrec]; simp); rw [hrec] at this; exact this, hstop _ t q _ (Nat.le_refl _) hq1 hq2 (hputx hi2 hl rfl) ((World.putObj_heap_other (by omega)).trans hk)⟩

end Go.Proofs.Ytcgblpjknkmoaaa.B
