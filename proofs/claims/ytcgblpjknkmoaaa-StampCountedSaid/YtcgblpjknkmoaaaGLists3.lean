/- The iterator of stamp.lists: what a range over it comes to. -/
import Derived.Test.YtcgblpjknkmoaaaGLists2
import Derived.Laws.EntriesVeiled
namespace Go.Proofs.Ytcgblpjknkmoaaa.B
open Go.RowKit Go.Shelf Go.Proofs.YtcgblpjknkmoaaaW.PrintWords Go.Proofs.YtcgblpjknkmoaaaW.PrintLast Go.Proofs.YtcgblpjknkmoaaaW.PrintMore
open Go.Proofs Go.Proofs.Ytcgblpjknkmoaaa.G Go.Proofs.Ytcgblpjknkmoaaa.Stamp
attribute [local go_sem] Oper.semAt_some

theorem onL_all {w0 : World} {ad : Addr} {V : List Int} {c np s l : Nat} {M : Int} {J : List (List Int) → World → Prop} {Jx : Nat → List (List Int) → World → Prop} (hJ : Abs s J) (hJx : ∀ t, AbsT s t (Jx t)) (hR : Rounds w0 ad V.length c np s l M J Jx) (hns : np + 3 ≤ s) (had : ad.block < s) (hV : asc 0 V = true) (hlen : V.length ≤ 6) (hlc : V.length ≤ c) (hM6 : M ≤ 6)
    (hw0 : ∀ j : Nat, j < V.length → w0.cell? (ad.add j) = some (.int .i64 (rd V (j : Int)))) : ∀ m, OnLSaid w0 ad V c np s l M J Jx m
  | 0 => onL_zero hJ hJx hR hns had
  | m + 1 => onL_succ hJ hJx hns had hV hlen hlc hM6 hw0 m (onL_all hJ hJx hR hns had hV hlen hlc hM6 hw0 m)

/-- what holds where lists hands out its iterator -/
structure LIn (ad : Addr) (V : List Int) (c np m : Nat) (amount : Int) (W : World) : Prop where
  asc : asc 0 V = true
  pos : 0 < V.length
  len : V.length ≤ 6
  fits : V.length ≤ c
  m6 : m ≤ 6
  low : 0 ≤ amount
  top : amount ≤ 1200
  vals : Boxed W np 22 (.slice (some ad) V.length c)
  many : Boxed W (np + 1) 3 (.int .i64 (m : Int))
  amt : Boxed W (np + 1 + 1) 3 (.int .i64 amount)
  had : ad.block < W.heap.size
  cells : ∀ j : Nat, j < V.length → W.cell? (ad.add j) = some (.int .i64 (rd V (j : Int)))

theorem LIn.below {ad : Addr} {V : List Int} {c np m : Nat} {amount : Int} {W W' : World} (h : LIn ad V c np m amount W) (hb : Below W.heap.size W W') : LIn ad V c np m amount W' := by
  have mv : ∀ {b t u}, Boxed W b t u → Boxed W' b t u := fun hx => (hb.block _ hx.lt).trans hx
  exact ⟨h.asc, h.pos, h.len, h.fits, h.m6, h.low, h.top, mv h.vals, mv h.many, mv h.amt, Nat.lt_of_lt_of_le h.had hb.size, fun j hj => (World.cell?_of_block (by rw [G.add_block]; exact hb.block _ h.had)).trans (h.cells j hj)⟩

set_option maxHeartbeats 4000000 in
set_option maxRecDepth 100000 in
theorem lists1_in {ad : Addr} {V : List Int} {c np l m : Nat} {amount : Int} {J : List (List Int) → World → Prop} {Jx : Nat → List (List Int) → World → Prop} {W : World} (n : Nat) (hi : LIn ad V c np m amount W) (hJ : Abs W.heap.size J) (hJx : ∀ t, AbsT W.heap.size t (Jx t)) (hR : Rounds W ad V.length c np W.heap.size l m J Jx) (h0 : J [] W) :
    CallsIn Fence.wide n Try.prog 59 #[.func (.yield l) #[] #[], .pointer (some ⟨np + 1, 0, none⟩), .pointer (some ⟨np, 0, none⟩), .pointer (some ⟨np + 1 + 1, 0, none⟩)] W fun e W' => (∃ v, e = .returned v) ∧
      (J (gen V m amount) W' ∨ ∃ q, q <+: gen V m amount ∧ q ≠ [] ∧ ∃ t, Jx t q W') := by
  have hon := onL_all hJ hJx hR (by have : np + 1 + 1 < W.heap.size := hi.amt.lt; omega) hi.had hi.asc hi.len hi.fits (by have := hi.m6; omega) hi.cells m
  have HON := Lib.hid hon
  have hnew : ∀ Wz : World, ((W.alloc (.cells #[.func (.yield l) #[] #[]] 33)).alloc (.cells #[.slice none 0 0] 22)).alloc (.cells #[onL np W.heap.size] 31) = Wz →
      LSt W ad V.length c np W.heap.size l m Wz [] (.slice none 0 0) ∧ J [] Wz ∧ Wz.cell? ⟨np + 1 + 1, 0, none⟩ = some (.int .i64 amount) := fun Wz e => by
    have hnp : np + 1 + 1 < W.heap.size := hi.amt.lt
    have hb : Below W.heap.size W Wz := by
      rw [← e]
      exact (((Below.refl _ W).alloc (Nat.le_refl _) _).alloc (by simp) _).alloc (by simp; omega) _
    have b0 := ((Boxed.new W 33 (.func (.yield l) #[] #[])).alloc (.cells #[.slice none 0 0] 22)).alloc (.cells #[onL np W.heap.size] 31)
    have b1 := (Boxed.new (W.alloc (.cells #[.func (.yield l) #[] #[]] 33)) 22 (.slice none 0 0)).alloc (.cells #[onL np W.heap.size] 31)
    have b2 := (Boxed.new ((W.alloc (.cells #[.func (.yield l) #[] #[]] 33)).alloc (.cells #[.slice none 0 0] 22)) 31 (onL np W.heap.size))
    simp only [World.size_alloc] at b1 b2
    rw [e] at b0 b1 b2
    have hi2 := hi.below hb
    exact ⟨⟨hi2.vals, hi2.many, b0, b1, World.ownsRow_nil _ _ _ _, b2, hb.block _ hi.had⟩, hJ _ _ _ h0 hb, hi2.amt.cell⟩
  have HI := Lib.hid hi
  clear hon hJ hJx hR h0 hi
  refine (callsIn_wide (n := n)).2 ((callsIn_wide (n := 10)).1 ?_)
  refine callsIn_of_wp Try.func59 rfl trivial ?_ rfl
  simp only [Try.ntmps59, List.size_toArray, List.length_cons, List.length_nil, Nat.reduceAdd, Nat.reduceSub, Array.replicate_succ, Array.replicate_zero, List.push_toArray, List.append_toArray, List.nil_append, List.cons_append]
  unfold onL at hnew
  have ka := HI.out.amt.cell
  gi_wp2_with fail
  obtain ⟨q1, q2, -⟩ := hnew _ rfl
  refine ⟨trivial, ?_⟩
  have hcall := HON.out 9 [] (.slice none 0 0) 0 amount [] _ (by simp) HI.out.pos HI.out.low HI.out.top q1 q2
  unfold onLArgs at hcall
  refine hcall.mono ?_
  clear hcall hnew
  intro e W3 hE
  obtain ⟨b, rfl, v3, -, -, -, hbt, hbf⟩ := hE.as
  have e1 : (gen (V.drop 0) m amount).map (([] : List Int) ++ ·) = gen V m amount := by simp
  rw [e1] at hbt hbf
  simp only [List.nil_append] at hbt hbf
  have HBT := Lib.hid hbt
  have HBF := Lib.hid hbf
  clear hbt hbf e1 q1 q2 hE
  gi_wp2
  go_end0
  refine ⟨⟨_, rfl⟩, ?_⟩
  cases b with
  | true => exact .inl (HBT.out rfl)
  | false =>
    obtain ⟨q, h1, h2, t, -, h3⟩ := HBF.out rfl
    exact .inr ⟨q, h1, h2, t, h3⟩

set_option maxHeartbeats 1000000 in
set_option maxRecDepth 100000 in
/-- stamp.lists: the three parameters are boxed; the function value captures the boxes. -/
theorem lists_in (n : Nat) (A : Option Addr) (len c : Nat) (many amount : Int) (w : World) :
    CallsIn Fence.wide n Try.prog 42 #[.slice A len c, .int .i64 many, .int .i64 amount] w fun e w' =>
      e = .returned (.func (.func 59) #[] #[.pointer (some ⟨w.heap.size + 1, 0, none⟩), .pointer (some ⟨w.heap.size, 0, none⟩), .pointer (some ⟨w.heap.size + 1 + 1, 0, none⟩)]) ∧
      w' = ((w.alloc (.cells #[.slice A len c] 22)).alloc (.cells #[.int .i64 many] 3)).alloc (.cells #[.int .i64 amount] 3) := by
  refine callsIn_of_wp Try.func42 rfl trivial ?_ rfl
  simp only [Try.ntmps42, List.size_toArray, List.length_cons, List.length_nil, Nat.reduceAdd, Nat.reduceSub, Array.replicate_succ, Array.replicate_zero, List.push_toArray, List.append_toArray, List.nil_append, List.cons_append]
  gi_wp2
  go_ret
  exact ⟨rfl, rfl⟩

/-- where the iterator's boxes have just been laid -/
theorem lin_start {ad : Addr} {V : List Int} {c m : Nat} {amount : Int} {w : World} (h1 : asc 0 V = true) (h2 : 0 < V.length) (h3 : V.length ≤ 6) (h4 : V.length ≤ c) (h5 : m ≤ 6) (h6 : 0 ≤ amount) (h7 : amount ≤ 1200) (hc : ∀ j : Nat, j < V.length → w.cell? (ad.add j) = some (.int .i64 (rd V (j : Int)))) :
    LIn ad V c w.heap.size m amount (((w.alloc (.cells #[.slice (some ad) V.length c] 22)).alloc (.cells #[.int .i64 (m : Int)] 3)).alloc (.cells #[.int .i64 amount] 3)) := by
  have had : ad.block < w.heap.size := by
    have := World.block_lt_of_cell? w _ (hc 0 h2); rwa [G.add_block] at this
  have hb : Below w.heap.size w (((w.alloc (.cells #[.slice (some ad) V.length c] 22)).alloc (.cells #[.int .i64 (m : Int)] 3)).alloc (.cells #[.int .i64 amount] 3)) := (((Below.refl _ w).alloc (Nat.le_refl _) _).alloc (by simp) _).alloc (by simp; omega) _
  have b0 := ((Boxed.new w 22 (.slice (some ad) V.length c)).alloc (.cells #[.int .i64 (m : Int)] 3)).alloc (.cells #[.int .i64 amount] 3)
  have b1 := (Boxed.new (w.alloc (.cells #[.slice (some ad) V.length c] 22)) 3 (.int .i64 (m : Int))).alloc (.cells #[.int .i64 amount] 3)
  have b2 := Boxed.new ((w.alloc (.cells #[.slice (some ad) V.length c] 22)).alloc (.cells #[.int .i64 (m : Int)] 3)) 3 (.int .i64 amount)
  simp only [World.size_alloc] at b1 b2
  exact ⟨h1, h2, h3, h4, h5, h6, h7, b0, b1, b2, Nat.lt_of_lt_of_le had hb.size, fun j hj => (World.cell?_of_block (by rw [G.add_block]; exact hb.block _ had)).trans (hc j hj)⟩

/-- what a round leaves alone -/
def KeepN (ad : Addr) (np : Nat) (W W' : World) : Prop := W.heap.size ≤ W'.heap.size ∧ ∀ k, k < W.heap.size → (k = ad.block ∨ np ≤ k) → W'.heap[k]? = W.heap[k]?
def postL (ad : Addr) (np : Nat) (I : List (List Int) → World → Prop) (Ix : Nat → List (List Int) → World → Prop) (xs : List (List Int)) (W : World) : Exit → Act → World → Prop
  | .normal, _, W' => KeepN ad np W W' ∧ I xs W'
  | .ret, _, W' => KeepN ad np W W' ∧ Ix W.heap.size xs W'
  | _, _, _ => False

theorem Abs.mono {s s' : Nat} {J : List (List Int) → World → Prop} (h : Abs s J) (hs : s ≤ s') : Abs s' J := fun ys A B hj hb => h ys A B hj (hb.mono hs)

/-- A RANGE OVER THE LISTS. -/
theorem wpIn_rangeFunc_lists {ad : Addr} {V : List Int} {c np m : Nat} {amount : Int} {g : Operand} {p : Tmp} {assign body : Code} {Q : Exit → Act → World → Prop} {a : Act} {w : World} {n : Nat} (hi : LIn ad V c np m amount w)
    (hg : a.eval g = .func (.func 59) #[] #[.pointer (some ⟨np + 1, 0, none⟩), .pointer (some ⟨np, 0, none⟩), .pointer (some ⟨np + 1 + 1, 0, none⟩)])
    (I : List (List Int) → World → Prop) (Ix : Nat → List (List Int) → World → Prop) (hI : Abs w.heap.size I) (hIx : ∀ t, AbsT w.heap.size t (Ix t)) (h0 : I [] w) (a₁ : Value → Act)
    (hassign : ∀ (k l : Nat) (v : Value) (W : World) (K : Act → World → Prop), K (a₁ v) W →
      assign.wpIn (Fence.wide.inRound l) k Try.prog (Exit.then K (fun _ _ _ => False)) { tmps := (#[p].zip #[v]).foldl (fun t (p, v) => t.setIfInBounds p v) a.tmps, defers := [] } W)
    (hbody : ∀ (k l : Nat) (pre : List (List Int)) (x : List Int) (v : Value) (W : World), I pre W → x.length = m → W.ownsRow w.heap.size 3 1 v x.length (x.map (Value.int .i64)) → body.wpIn (Fence.wide.inRound l) k Try.prog (postL ad np I Ix (pre ++ [x]) W) (a₁ v) W)
    (hdone : ∀ (D : Nat) (W : World), w.heap.size ≤ D → I (gen V m amount) W → W.heap[D]? = some (.deferred (some [])) → Q .normal { a with defers := { target := .collected D, args := #[] } :: a.defers } W)
    (hstop : ∀ (D t : Nat) (q : List (List Int)) (W : World), w.heap.size ≤ D → q <+: gen V m amount → q ≠ [] → Ix t q W → W.heap[D]? = some (.deferred (some [])) → Code.ret.wpIn Fence.wide n Try.prog Q { a with defers := { target := .collected D, args := #[] } :: a.defers } W) :
    (Code.rangeFunc g #[p] assign body).wpIn Fence.wide n Try.prog Q a w := by
  have hnp : np + 1 + 1 < w.heap.size := hi.amt.lt
  have hadw := hi.had
  refine wpIn_rangeFunc ?_
  intro fn hfn
  rw [show Fence.wide.round = none from rfl]
  obtain ⟨rec, hrec⟩ : ∃ rec : LoopState → Option Code → Loop, rec = fun st pe => { state := st, pending := pe, fn, tmps := a.tmps, params := #[p], assign, body, defers := w.heap.size } := ⟨_, rfl⟩
  obtain ⟨W1, hW1⟩ : ∃ W1, (w.alloc (.deferred (some []))).alloc (.loop (rec .ready none)) = W1 := ⟨_, rfl⟩
  have hL1 : W1.heap[w.heap.size + 1]? = some (.loop (rec .ready none)) := by
    rw [← hW1]; have := World.alloc_heap_new (w.alloc (.deferred (some []))) (.loop (rec .ready none)); rwa [World.size_alloc] at this
  have hK1 : W1.heap[w.heap.size]? = some (.deferred (some [])) := by
    rw [← hW1]; exact (Below.heap_alloc _ _ _ (by simp)).trans (World.alloc_heap_new w _)
  have hb1 : Below w.heap.size w W1 := by
    rw [← hW1]; exact ((Below.refl _ w).alloc (Nat.le_refl _) _).alloc (by simp) _
  have hs1 : W1.heap.size = w.heap.size + 2 := by rw [← hW1]; simp
  have hput : ∀ {K : List (List Int) → World → Prop}, Abs w.heap.size K → ∀ {ys W o o'}, K ys W → W.heap[w.heap.size + 1]? = some o → o.isCells = false → o.isWalk = false → K ys (W.putObj (w.heap.size + 1) o') := fun hK _ _ _ _ hk ho h1 h2 => hK _ _ _ hk (belowK_b (w := w) (Nat.le_refl _) _ _ _ _ (by omega) ho h1 h2)
  have hputx : ∀ {t ys W o o'}, Ix t ys W → W.heap[w.heap.size + 1]? = some o → o.isCells = false → Ix t ys (W.putObj (w.heap.size + 1) o') := fun hk ho h1 => hIx _ _ _ _ hk (Chg.grown (by have := (Array.getElem?_eq_some_iff.1 ho).1; omega) (grownBy_putObj' _ _ _) (fun r e => by cases e; exact ⟨by omega, _, ho, h1⟩))
  refine ⟨w.heap.size + 1, [{ target := .collected w.heap.size, args := #[] }], W1, { target := .fn (.func 59) #[.pointer (some ⟨np + 1, 0, none⟩), .pointer (some ⟨np, 0, none⟩), .pointer (some ⟨np + 1 + 1, 0, none⟩)], args := #[.func (.yield (w.heap.size + 1)) #[] #[]] }, W1, 59,
    #[.func (.yield (w.heap.size + 1)) #[] #[]] ++ #[.pointer (some ⟨np + 1, 0, none⟩), .pointer (some ⟨np, 0, none⟩), .pointer (some ⟨np + 1 + 1, 0, none⟩)], W1, ?_, ?_, ?_, ?_, fun h => absurd h (by simp [Fence.wide]), ?_⟩
  · rw [← hW1, hrec]; exact run_enterLoop_outer _ _ _ _ _
  · simp only [resolve, hg]
    simp [go_sem]
  · intro f' hf'; trivial
  · simp [invoke, go_sem]
  · refine (lists1_in (n - 1) (hi.below hb1)
      (J := fun pre W => I pre W ∧ W.heap[w.heap.size + 1]? = some (.loop (rec .ready none)) ∧ W.heap[w.heap.size]? = some (.deferred (some [])))
      (Jx := fun t pre W => Ix t pre W ∧ W.heap[w.heap.size + 1]? = some (.loop (rec .done (some .ret))) ∧ W.heap[w.heap.size]? = some (.deferred (some [])))
      (fun ys A B hj hb => ⟨hI _ _ _ hj.1 (hb.mono (by omega)), (hb.block _ (by omega)).trans hj.2.1, (hb.block _ (by omega)).trans hj.2.2⟩)
      (fun t ys A B hj hb => ⟨hIx t _ _ _ hj.1 ⟨hb.1.mono (by omega), hb.2⟩, (hb.1.block _ (by omega)).trans hj.2.1, (hb.1.block _ (by omega)).trans hj.2.2⟩)
      ?_ ⟨hI _ _ _ h0 hb1, hL1, hK1⟩).mono ?_
    · rintro k pre x v W ⟨hi1, hl, hk⟩ hst hx
      have hlt : w.heap.size + 1 < W.heap.size := (Array.getElem?_eq_some_iff.1 hl).1
      have hy := run_yield (P := Try.prog) (args := #[v]) hl (by rw [hrec]; rfl)
      rw [hrec] at hy
      refine ⟨fn, _, assign, body, hy, roundIn_of_wpIn hfn (hassign k _ v W _ ⟨_, run_beginRound hl (by rw [hrec]), ?_⟩)⟩
      have hl2 : (W.putObj (w.heap.size + 1) (.loop { rec .ready none with state := .busy })).heap[w.heap.size + 1]? = some (.loop { rec .ready none with state := .busy }) := World.putObj_heap_same hlt
      have hk2 : (W.putObj (w.heap.size + 1) (.loop { rec .ready none with state := .busy })).heap[w.heap.size]? = some (.deferred (some [])) := (World.putObj_heap_other (by omega)).trans hk
      have hrow : (W.putObj (w.heap.size + 1) (.loop { rec .ready none with state := .busy })).ownsRow w.heap.size 3 1 v x.length (x.map (Value.int .i64)) := ownsRow_putObj (own_weaken hst.row (by omega)) _ hl rfl
      refine wpIn_mono (hbody k _ pre x v _ (hput hI hi1 hl rfl rfl) (by omega) hrow) ?_
      have hsz : (W.putObj (w.heap.size + 1) (.loop { rec .ready none with state := .busy })).heap.size = W.heap.size := by simp
      have fin : ∀ (jump : Option Code) (W3 : World), KeepN ad np (W.putObj (w.heap.size + 1) (.loop { rec .ready none with state := .busy })) W3 →
          (Instr.endRound (w.heap.size + 1) jump).run Try.prog W3 = .ok (.bool jump.isNone) (W3.putObj (w.heap.size + 1) (.loop (rec (if jump.isNone then .ready else .done) jump))) ∧
          W3.heap[w.heap.size + 1]? = some (.loop { rec .ready none with state := .busy }) ∧
          (W3.putObj (w.heap.size + 1) (.loop (rec (if jump.isNone then .ready else .done) jump))).heap[w.heap.size + 1]? = some (.loop (rec (if jump.isNone then .ready else .done) jump)) ∧
          (W3.putObj (w.heap.size + 1) (.loop (rec (if jump.isNone then .ready else .done) jump))).heap[w.heap.size]? = some (.deferred (some [])) ∧
          KeepL ad np W1.heap.size W (W3.putObj (w.heap.size + 1) (.loop (rec (if jump.isNone then .ready else .done) jump))) := fun jump W3 hk3 => by
        have hl3 := (hk3.2 (w.heap.size + 1) (by omega) (.inr (by omega))).trans hl2
        have hk4 := (hk3.2 w.heap.size (by omega) (.inr (by omega))).trans hk2
        have := run_endRound (P := Try.prog) jump hl3
        rw [hrec] at this ⊢
        refine ⟨this, by rw [hrec] at hl3; exact hl3, World.putObj_heap_same (Array.getElem?_eq_some_iff.1 hl3).1, (World.putObj_heap_other (by omega)).trans hk4, ⟨by have := hk3.1; simp at this ⊢; omega, fun j hj ho => ?_⟩⟩
        have hne : j ≠ w.heap.size + 1 := by omega
        exact (World.putObj_heap_other hne).trans ((hk3.2 j (by omega) (by omega)).trans (World.putObj_heap_other hne))
      rintro e a3 W3 hp
      cases e with
      | normal =>
        obtain ⟨hk3, hi3⟩ := hp
        obtain ⟨hr, hl3, hl4, hk4, hkl⟩ := fin none W3 hk3
        exact ⟨_, _, hr, .inl ⟨rfl, ⟨hput hI hi3 hl3 rfl rfl, hl4, hk4⟩, hkl⟩⟩
      | ret =>
        obtain ⟨hk3, hi3⟩ := hp
        obtain ⟨hr, hl3, hl4, hk4, hkl⟩ := fin (some .ret) W3 hk3
        exact ⟨_, _, hr, .inr ⟨rfl, ⟨hputx (by rw [hsz] at hi3; exact hi3) hl3 rfl, hl4, hk4⟩, hkl⟩⟩
      | exit id => exact hp.elim
      | goto t => exact hp.elim
      | panic ch => exact hp.elim
      | outgrown => exact hp.elim
    · rintro e W2 ⟨⟨v, rfl⟩, (⟨hi2, hl, hk⟩ | ⟨q, hq1, hq2, t, hi2, hl, hk⟩)⟩
      · exact ⟨none, _, by have := run_endLoop (P := Try.prog) hl (by rw [hrec]; simp); rw [hrec] at this; exact this, hdone _ _ (Nat.le_refl _) (hput hI hi2 hl rfl rfl) ((World.putObj_heap_other (by omega)).trans hk)⟩
      · exact ⟨some .ret, _, by have := run_endLoop (P := Try.prog) hl (by rw [hrec]; simp); rw [hrec] at this; exact this, hstop _ t q _ (Nat.le_refl _) hq1 hq2 (hputx hi2 hl rfl) ((World.putObj_heap_other (by omega)).trans hk)⟩

end Go.Proofs.Ytcgblpjknkmoaaa.B
