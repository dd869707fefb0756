/- What the closures of stamp.lists keep in memory, and what they leave alone. -/
import Derived.Test.YtcgblpjknkmoaaaGBack
import Derived.Test.YtcgblpjknkmoaaaListsV
import Derived.RangeFuncNested
import Derived.WalkSmall
import Derived.Lib.Hide
namespace Go.Proofs.Ytcgblpjknkmoaaa.B
open Go.RowKit Go.Proofs.YtcgblpjknkmoaaaW.PrintWords Go.Proofs.YtcgblpjknkmoaaaW.PrintLast Go.Proofs.YtcgblpjknkmoaaaW.PrintMore
open Go.Proofs Go.Proofs.Ytcgblpjknkmoaaa.G

def onL (np s : Nat) : Value := .func (.func 60) #[] #[.pointer (some ⟨s + 1, 0, none⟩), .pointer (some ⟨np + 1, 0, none⟩), .pointer (some ⟨s, 0, none⟩), .pointer (some ⟨np, 0, none⟩), .pointer (some ⟨s + 2, 0, none⟩)]

/-- the boxes np, np + 1 (the values, how many), s to s + 2 (yield, the list, the closure), and the values' block -/
structure LSt (w0 : World) (ad : Addr) (len c np s l : Nat) (M : Int) (W : World) (pre : List Int) (v : Value) : Prop where
  vals : Boxed W np 22 (.slice (some ad) len c)
  many : Boxed W (np + 1) 3 (.int .i64 M)
  yld : Boxed W s 33 (.func (.yield l) #[] #[])
  lbx : Boxed W (s + 1) 22 v
  row : W.ownsRow (s + 3) 3 1 v pre.length (pre.map (Value.int .i64))
  on : Boxed W (s + 2) 31 (onL np s)
  blk : W.heap[ad.block]? = w0.heap[ad.block]?

/-- what a round leaves alone -/
def KeepL (ad : Addr) (np s : Nat) (W W' : World) : Prop := W.heap.size ≤ W'.heap.size ∧ ∀ k, k < W.heap.size → (k = ad.block ∨ (np ≤ k ∧ k < np + 3) ∨ s ≤ k) → W'.heap[k]? = W.heap[k]?

/-- what a call of the closure leaves alone: of the blocks from s on all but the list's box and its row -/
def LFr (s : Nat) (v : Value) (W W' : World) : Prop := W.heap.size ≤ W'.heap.size ∧ ∀ k, s ≤ k → k < W.heap.size → k ≠ s + 1 → some k ≠ v.ownBlock → W'.heap[k]? = W.heap[k]?
/-- the row that holds the list behind some steps: the same one, or a new one -/
def RowN (B : Nat) (v v' : Value) : Prop := v'.ownBlock = v.ownBlock ∨ ∃ b, v'.ownBlock = some b ∧ B ≤ b

theorem RowN.refl (B : Nat) (v : Value) : RowN B v v := .inl rfl
theorem RowN.trans {B B' : Nat} {v v' v'' : Value} (h : RowN B v v') (k : RowN B' v' v'') (hB : B ≤ B') : RowN B v v'' := by
  rcases k with k | ⟨b, k, hb⟩
  · rcases h with h | ⟨b, h, hb⟩
    · exact .inl (k.trans h)
    · exact .inr ⟨b, k.trans h, hb⟩
  · exact .inr ⟨b, k, by omega⟩
theorem LFr.refl (s : Nat) (v : Value) (W : World) : LFr s v W W := ⟨Nat.le_refl _, fun _ _ _ _ _ => rfl⟩
theorem LFr.trans {s : Nat} {v v' : Value} {X Y Z : World} (h : LFr s v X Y) (k : LFr s v' Y Z) (hr : RowN X.heap.size v v') : LFr s v X Z :=
  ⟨Nat.le_trans h.1 k.1, fun j a b c d => (k.2 j a (Nat.lt_of_lt_of_le b h.1) c (fun e => by
    rcases hr with hr | ⟨b', hr, hb⟩
    · exact d (e.trans hr)
    · rw [hr] at e; cases e; omega)).trans (h.2 j a b c d)⟩
theorem LFr.of_below {s : Nat} {v : Value} {W W' : World} (h : Below W.heap.size W W') : LFr s v W W' := ⟨h.size, fun k _ b _ _ => h.block k b⟩
theorem LFr.of_keep {s np : Nat} {ad : Addr} {v : Value} {W W' : World} (h : KeepL ad np s W W') : LFr s v W W' := ⟨h.1, fun k a b _ _ => h.2 k b (.inr (.inr a))⟩
theorem LFr.grown {s : Nat} {v : Value} {W W' : World} (hg : W.grownBy W' v.ownBlock) : LFr s v W W' := ⟨hg.size, fun k _ b _ d => hg.block k b d⟩
theorem LFr.set {s : Nat} {v : Value} (W : World) (u : Value) : LFr s v W (W.setCell ⟨s + 1, 0, none⟩ u) := ⟨by simp, fun k _ _ c _ => Below.heap_setCell _ _ _ k c⟩

section
variable {w0 : World} {ad : Addr} {len c np s l : Nat} {M : Int} {W W' : World} {pre : List Int} {v : Value}
theorem LSt.size (h : LSt w0 ad len c np s l M W pre v) : s + 3 ≤ W.heap.size := h.on.lt
theorem LSt.base (h : LSt w0 ad len c np s l M W pre v) : ∀ b, v.ownBlock = some b → s + 3 ≤ b ∧ b < W.heap.size := fun b e => ⟨own_base h.row b e, own_lt h.row b e⟩
theorem LSt.keep (h : LSt w0 ad len c np s l M W pre v) (hk : KeepL ad np s W W') (had : ad.block < W.heap.size) : LSt w0 ad len c np s l M W' pre v := by
  have mv : ∀ {b t u}, Boxed W b t u → (np ≤ b ∧ b < np + 3) ∨ s ≤ b → Boxed W' b t u := fun hb ho => (hk.2 _ hb.lt (.inr ho)).trans hb
  exact ⟨mv h.vals (.inl ⟨Nat.le_refl _, by omega⟩), mv h.many (.inl ⟨by omega, by omega⟩), mv h.yld (.inr (Nat.le_refl _)), mv h.lbx (.inr (by omega)),
    own_move h.row (fun k e => hk.2 k (h.base k e).2 (.inr (.inr (by have := (h.base k e).1; omega)))), mv h.on (.inr (by omega)), (hk.2 _ had (.inl rfl)).trans h.blk⟩
theorem LSt.move (h : LSt w0 ad len c np s l M W pre v) (hns : np + 3 ≤ s) (had : ad.block < s) (hm : ∀ k, k < s + 3 → W'.heap[k]? = W.heap[k]?) (hr : ∀ k, v.ownBlock = some k → W'.heap[k]? = W.heap[k]?) : LSt w0 ad len c np s l M W' pre v := by
  have mv : ∀ {b t u}, Boxed W b t u → b < s + 3 → Boxed W' b t u := fun hx hb => (hm _ hb).trans hx
  exact ⟨mv h.vals (by omega), mv h.many (by omega), mv h.yld (by omega), mv h.lbx (by omega), own_move h.row hr, mv h.on (by omega), (hm _ (by omega)).trans h.blk⟩
theorem LSt.below (h : LSt w0 ad len c np s l M W pre v) (hb : Below W.heap.size W W') (had : ad.block < W.heap.size) : LSt w0 ad len c np s l M W' pre v := by
  have mv : ∀ {b t u}, Boxed W b t u → Boxed W' b t u := fun hx => (hb.block _ hx.lt).trans hx
  exact ⟨mv h.vals, mv h.many, mv h.yld, mv h.lbx, pw_own_below h.row hb, mv h.on, (hb.block _ had).trans h.blk⟩
theorem LFr.setNew {s : Nat} {v : Value} {W W' : World} (h : LFr s v W W') {b : Nat} (hb : W.heap.size ≤ b) (u : Value) : LFr s v W (W'.setCell ⟨b, 0, none⟩ u) :=
  ⟨by have := h.1; simpa using this, fun k a d e f => (Below.heap_setCell _ _ _ k (show k ≠ b by omega)).trans (h.2 k a d e f)⟩
theorem LSt.setOther (h : LSt w0 ad len c np s l M W pre v) {b : Nat} (hb : s + 3 ≤ b) (hne : some b ≠ v.ownBlock) (hns : np + 3 ≤ s) (had : ad.block < s) (u : Value) : LSt w0 ad len c np s l M (W.setCell ⟨b, 0, none⟩ u) pre v :=
  ⟨h.vals.other (by omega) _, h.many.other (by omega) _, h.yld.other (by omega) _, h.lbx.other (by omega) _, own_setCell (p := ⟨b, 0, none⟩) h.row hne _, h.on.other (by omega) _, (Below.heap_setCell W ⟨b, 0, none⟩ _ ad.block (show ad.block ≠ b by omega)).trans h.blk⟩
/-- the list has grown: behind append and the store -/
theorem LSt.push (h : LSt w0 ad len c np s l M W pre v) (hns : np + 3 ≤ s) (had : ad.block < s) {x : Int} {tmp : Obj} {v' : Value} {w1 : World} (ho : w1.ownsRow (s + 3) 3 1 v' (pre.length + 1) (pre.map (Value.int .i64) ++ [.int .i64 x]))
    (hg : (W.alloc tmp).grownBy w1 v.ownBlock) : Boxed w1 (s + 1) 22 v ∧ LSt w0 ad len c np s l M (w1.setCell ⟨s + 1, 0, none⟩ v') (pre ++ [x]) v' ∧ LFr s v W (w1.setCell ⟨s + 1, 0, none⟩ v') := by
  have hsz := h.size
  have mv : ∀ {b t u}, Boxed W b t u → b < s + 3 → Boxed w1 b t u := fun hx hb => (hx.alloc tmp).kept hg (fun e => by have := (h.base _ e.symm).1; omega)
  have mv2 : ∀ {b t u}, Boxed W b t u → b < s + 3 → b ≠ s + 1 → Boxed (w1.setCell ⟨s + 1, 0, none⟩ v') b t u := fun hx hb hne => (mv hx hb).other hne v'
  refine ⟨mv h.lbx (by omega), ⟨mv2 h.vals (by omega) (by omega), mv2 h.many (by omega) (by omega), mv2 h.yld (by omega) (by omega), (mv h.lbx (by omega)).set v', ?_, mv2 h.on (by omega) (by omega), ?_⟩, ?_⟩
  · have := own_setCell (p := ⟨s + 1, 0, none⟩) ho (fun e => by have : s + 3 ≤ s + 1 := own_base ho _ e.symm; omega) v'
    simpa using this
  · refine (Below.heap_setCell w1 ⟨s + 1, 0, none⟩ v' ad.block (by simp; omega)).trans ?_
    refine (hg.block ad.block (by simp; omega) (fun e => by have := (h.base _ e.symm).1; omega)).trans ?_
    exact (Below.heap_alloc W tmp ad.block (by omega)).trans h.blk
  · refine (LFr.of_below (s := s) (v := v) ((Below.refl W.heap.size W).alloc (Nat.le_refl _) tmp)).trans (v' := v) ?_ (RowN.refl _ _)
    exact (LFr.grown hg).trans (LFr.set w1 v') (RowN.refl _ _)
/-- the list is cut by one again -/
theorem LSt.pop {x : Int} {g n cap : Nat} (hp : pre.length = n) (h : LSt w0 ad len c np s l M W (pre ++ [x]) (.slice (some ⟨g, 0, none⟩) (n + 1) cap)) (hns : np + 3 ≤ s) (had : ad.block < s) :
    LSt w0 ad len c np s l M (W.setCell ⟨s + 1, 0, none⟩ (.slice (some ⟨g, 0, none⟩) n cap)) pre (.slice (some ⟨g, 0, none⟩) n cap) := by
  have hsz := h.size
  have ho := h.row
  rw [List.length_append, List.map_append, hp] at ho
  have ho2 := ownsRow_pop (xs := pre.map (Value.int .i64)) (last := [.int .i64 x]) (size := 1) (n := n) (by simp [hp]) ho
  have hg := own_base ho2 g rfl
  refine ⟨h.vals.other (by omega) _, h.many.other (by omega) _, h.yld.other (by omega) _, h.lbx.set _, ?_, h.on.other (by omega) _, ?_⟩
  · rw [hp]
    exact own_setCell (p := ⟨s + 1, 0, none⟩) ho2 (fun e => absurd (show s + 1 = g by simpa [Value.ownBlock] using e) (by omega)) _
  · exact (Below.heap_setCell W ⟨s + 1, 0, none⟩ _ ad.block (by simp; omega)).trans h.blk
end

end Go.Proofs.Ytcgblpjknkmoaaa.B
