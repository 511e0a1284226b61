/- Plain tools for a range over a function, over any program: a consumer that owns a set of blocks, an iterator that leaves them alone. No condition. -/
import Derived.RangeFuncNested
import Derived.RangeFuncCalls
import Derived.Deep.Quiet
import Derived.WalkMore
namespace Go.It
open Go Go.RowKit

theorem wide_fn (f : FuncId) : Fence.wide.fn f = True := rfl
theorem wide_inRound_fn (l : Nat) (f : FuncId) : (Fence.wide.inRound l).fn f = True := rfl
theorem wide_depth : Fence.wide.depth = none := rfl
theorem wide_inRound_depth (l : Nat) : (Fence.wide.inRound l).depth = none := rfl
theorem wide_round : Fence.wide.round = none := rfl
theorem wide_inRound_round (l : Nat) : (Fence.wide.inRound l).round = some l := rfl
attribute [go_sem] wide_fn wide_inRound_fn wide_depth wide_inRound_depth wide_round wide_inRound_round

/-- W' is W but for the blocks in M, and new ones. -/
structure Only (M : Nat → Prop) (W W' : World) : Prop where
  os : W'.os = W.os
  tape : W'.tape = W.tape
  output : W'.output = W.output
  size : W.heap.size ≤ W'.heap.size
  block : ∀ k, k < W.heap.size → ¬ M k → W'.heap[k]? = W.heap[k]?

theorem Only.refl (M : Nat → Prop) (W : World) : Only M W W := ⟨rfl, rfl, rfl, Nat.le_refl _, fun _ _ _ => rfl⟩
theorem Only.trans {M : Nat → Prop} {A B C : World} (h : Only M A B) (k : Only M B C) : Only M A C :=
  ⟨k.os.trans h.os, k.tape.trans h.tape, k.output.trans h.output, Nat.le_trans h.size k.size,
    fun i hi hm => (k.block i (Nat.lt_of_lt_of_le hi h.size) hm).trans (h.block i hi hm)⟩
theorem Only.mono {M M' : Nat → Prop} {W W' : World} (h : Only M W W') (hm : ∀ k, k < W.heap.size → M k → M' k) : Only M' W W' :=
  ⟨h.os, h.tape, h.output, h.size, fun k hk hn => h.block k hk (fun hh => hn (hm k hk hh))⟩
theorem Only.alloc {M : Nat → Prop} {A W : World} (h : Only M A W) (o : Obj) : Only M A (W.alloc o) :=
  h.trans ⟨rfl, rfl, rfl, by simp, fun k hk _ => Below.heap_alloc _ _ _ hk⟩
theorem Only.setCell {M : Nat → Prop} {A W : World} (h : Only M A W) {p : Addr} (hp : M p.block ∨ A.heap.size ≤ p.block) (u : Value) : Only M A (W.setCell p u) :=
  ⟨h.os, h.tape, h.output, Nat.le_trans h.size (by simp [World.setCell]), fun k hk hn => by
    refine (Below.heap_setCell _ _ _ _ (fun e => ?_)).trans (h.block k hk hn)
    rcases hp with hp | hp
    · exact hn (e ▸ hp)
    · omega⟩
theorem Only.putObj {M : Nat → Prop} {A W : World} (h : Only M A W) {r : Nat} (hp : M r ∨ A.heap.size ≤ r) (o : Obj) : Only M A (W.putObj r o) :=
  ⟨h.os, h.tape, h.output, by simp; exact h.size, fun k hk hn => by
    refine (World.putObj_heap_other (fun e => ?_)).trans (h.block k hk hn)
    rcases hp with hp | hp
    · exact hn (e ▸ hp)
    · omega⟩
theorem Only.drew {M : Nat → Prop} {A W : World} (h : Only M A W) : Only M A W.drew := ⟨h.os, h.tape, h.output, h.size, h.block⟩
theorem Only.drewN {M : Nat → Prop} {A W : World} (h : Only M A W) (n : Nat) : Only M A (W.drewN n) := ⟨h.os, h.tape, h.output, h.size, h.block⟩
theorem Only.grown {M : Nat → Prop} {A W W' : World} {row : Option Nat} (h : Only M A W) (hg : W.grownBy W' row) (hr : ∀ k, row = some k → M k ∨ A.heap.size ≤ k) : Only M A W' :=
  ⟨hg.os.trans h.os, hg.tape.trans h.tape, hg.output.trans h.output, Nat.le_trans h.size hg.size, fun k hk hn => by
    refine (hg.block k (Nat.lt_of_lt_of_le hk h.size) (fun e => ?_)).trans (h.block k hk hn)
    rcases hr k e.symm with hp | hp
    · exact hn hp
    · omega⟩
theorem Only.of_below {B : Nat} {W W' : World} (h : Below B W W') : Only (fun k => B ≤ k) W W' := ⟨h.os, h.tape, h.output, h.size, fun k _ hn => h.block k (by omega)⟩
theorem Only.below {W W' : World} (h : Only (fun _ => False) W W') : Below W.heap.size W W' := ⟨h.os, h.tape, h.output, h.size, fun k hk => h.block k hk (fun hh => hh)⟩
theorem Only.belowB {M : Nat → Prop} {B : Nat} {W W' : World} (h : Only M W W') (hm : ∀ k, M k → B ≤ k) (hB : B ≤ W.heap.size) : Below B W W' :=
  ⟨h.os, h.tape, h.output, h.size, fun k hk => h.block k (by omega) (fun hh => by have := hm k hh; omega)⟩
/-- What B says below W's own end, it says of whatever set. -/
theorem Only.then_below {M : Nat → Prop} {A W W' : World} (h : Only M A W) (hb : Below W.heap.size W W') : Only M A W' :=
  h.trans ((Only.of_below hb).mono (fun k hk hm => absurd hm (by omega)))
theorem Only.cell {M : Nat → Prop} {W W' : World} (h : Only M W W') {p : Addr} (hp : p.block < W.heap.size) (hn : ¬ M p.block) : W'.cell? p = W.cell? p := World.cell?_of_block (h.block _ hp hn)
theorem Only.frozen {M : Nat → Prop} {W W' : World} (h : Only M W W') {p : Addr} (hp : p.block < W.heap.size) (hn : ¬ M p.block) : W'.frozen? p = W.frozen? p := World.frozen?_of_block (h.block _ hp hn)
theorem heap_alloc_if (w : World) (o : Obj) (k : Nat) : (w.alloc o).heap[k]? = if k = w.heap.size then some o else w.heap[k]? := by
  show (w.heap.push o)[k]? = _
  rw [Array.getElem?_push]
/-- A block that is known is there. -/
theorem lt_of_block {W : World} {k : Nat} {o : Obj} (h : W.heap[k]? = some o) : k < W.heap.size := (Array.getElem?_eq_some_iff.1 h).1
theorem Only.obj {M : Nat → Prop} {W W' : World} (h : Only M W W') {k : Nat} {o : Obj} (hk : W.heap[k]? = some o) (hn : ¬ M k) : W'.heap[k]? = some o := (h.block k (lt_of_block hk) hn).trans hk

/-- What a block that is known whole says of its cells. -/
theorem frz0 {W : World} {b : Nat} {vs : Array Value} {t : TypeId} (h : W.heap[b]? = some (.cells vs t (0, 0))) (i : Nat) : W.frozen? ⟨b, i, none⟩ = false := by
  simp [World.frozen?, h]
theorem cells1 {W : World} {b : Nat} {a0 : Value} {t : TypeId} {f : Nat × Nat} (h : W.heap[b]? = some (.cells #[a0] t f)) : W.cell? ⟨b, 0, none⟩ = some a0 := by
  simp [World.cell?, h]
theorem cells2 {W : World} {b : Nat} {a0 a1 : Value} {t : TypeId} {f : Nat × Nat} (h : W.heap[b]? = some (.cells #[a0, a1] t f)) :
    W.cell? ⟨b, 0, none⟩ = some a0 ∧ W.cell? ⟨b, 1, none⟩ = some a1 := by simp [World.cell?, h]
theorem cells3 {W : World} {b : Nat} {a0 a1 a2 : Value} {t : TypeId} {f : Nat × Nat} (h : W.heap[b]? = some (.cells #[a0, a1, a2] t f)) :
    W.cell? ⟨b, 0, none⟩ = some a0 ∧ W.cell? ⟨b, 1, none⟩ = some a1 ∧ W.cell? ⟨b, 2, none⟩ = some a2 := by simp [World.cell?, h]
theorem cells4 {W : World} {b : Nat} {a0 a1 a2 a3 : Value} {t : TypeId} {f : Nat × Nat} (h : W.heap[b]? = some (.cells #[a0, a1, a2, a3] t f)) :
    W.cell? ⟨b, 0, none⟩ = some a0 ∧ W.cell? ⟨b, 1, none⟩ = some a1 ∧ W.cell? ⟨b, 2, none⟩ = some a2 ∧ W.cell? ⟨b, 3, none⟩ = some a3 := by simp [World.cell?, h]
theorem cells5 {W : World} {b : Nat} {a0 a1 a2 a3 a4 : Value} {t : TypeId} {f : Nat × Nat} (h : W.heap[b]? = some (.cells #[a0, a1, a2, a3, a4] t f)) :
    W.cell? ⟨b, 0, none⟩ = some a0 ∧ W.cell? ⟨b, 1, none⟩ = some a1 ∧ W.cell? ⟨b, 2, none⟩ = some a2 ∧ W.cell? ⟨b, 3, none⟩ = some a3 ∧ W.cell? ⟨b, 4, none⟩ = some a4 := by simp [World.cell?, h]
/-- A store into a block that is known whole. -/
theorem heap_setCell_at {W : World} {b : Nat} {vs : Array Value} {t : TypeId} {f : Nat × Nat} (h : W.heap[b]? = some (.cells vs t f)) (i : Nat) (v : Value) :
    (W.setCell ⟨b, i, none⟩ v).heap[b]? = some (.cells (vs.setIfInBounds i v) t f) := by
  simp only [World.setCell, Array.getElem?_modify, if_true, h, Option.map_some]
  rfl

theorem Only.set_ {A W : World} {b : Nat} (h : Only (fun j => j = b) A W) (i : Nat) (v : Value) : Only (fun j => j = b) A (W.setCell ⟨b, i, none⟩ v) :=
  Only.setCell (M := fun j => j = b) h (p := ⟨b, i, none⟩) (.inl rfl) v
theorem only_set_refl (W : World) (b i : Nat) (v : Value) : Only (fun j => j = b) W (W.setCell ⟨b, i, none⟩ v) := (Only.refl _ W).set_ i v
/-- Five stores into a block of five cells. -/
theorem set5 {W : World} {b : Nat} {a0 a1 a2 a3 a4 : Value} {t : TypeId} {f : Nat × Nat} (h : W.heap[b]? = some (.cells #[a0, a1, a2, a3, a4] t f)) (v0 v1 v2 v3 v4 : Value) :
    (((((W.setCell ⟨b, 0, none⟩ v0).setCell ⟨b, 1, none⟩ v1).setCell ⟨b, 2, none⟩ v2).setCell ⟨b, 3, none⟩ v3).setCell ⟨b, 4, none⟩ v4).heap[b]? = some (.cells #[v0, v1, v2, v3, v4] t f) :=
  heap_setCell_at (heap_setCell_at (heap_setCell_at (heap_setCell_at (heap_setCell_at h 0 v0) 1 v1) 2 v2) 3 v3) 4 v4
theorem only_set5 (W : World) (b : Nat) (v0 v1 v2 v3 v4 : Value) :
    Only (fun j => j = b) W (((((W.setCell ⟨b, 0, none⟩ v0).setCell ⟨b, 1, none⟩ v1).setCell ⟨b, 2, none⟩ v2).setCell ⟨b, 3, none⟩ v3).setCell ⟨b, 4, none⟩ v4) :=
  ((((only_set_refl _ _ _ _).set_ _ _).set_ _ _).set_ _ _).set_ _ _

/-- WHO OWNED M IN W OWNS M' IN W'; nothing else turned. -/
structure Turn (W : World) (M : Nat → Prop) (W' : World) (M' : Nat → Prop) : Prop where
  only : Only M W W'
  own : ∀ k, M' k → M k ∨ W.heap.size ≤ k
  lt : ∀ k, M' k → k < W'.heap.size
theorem Turn.refl {W : World} {M : Nat → Prop} (h : ∀ k, M k → k < W.heap.size) : Turn W M W M := ⟨.refl _ _, fun _ h => .inl h, h⟩
theorem Turn.trans {A B C : World} {M N L : Nat → Prop} (h : Turn A M B N) (k : Turn B N C L) : Turn A M C L :=
  ⟨⟨k.only.os.trans h.only.os, k.only.tape.trans h.only.tape, k.only.output.trans h.only.output, Nat.le_trans h.only.size k.only.size,
    fun i hi hm => (k.only.block i (Nat.lt_of_lt_of_le hi h.only.size) (fun hn => by rcases h.own i hn with h | h; exact hm h; omega)).trans (h.only.block i hi hm)⟩,
   fun i hi => by
     rcases k.own i hi with h1 | h1
     · exact h.own i h1
     · exact .inr (Nat.le_trans h.only.size h1),
   k.lt⟩
/-- The same set, in a later world. -/
theorem Turn.of_only {W W' : World} {M : Nat → Prop} (h : Only M W W') (hM : ∀ k, M k → k < W.heap.size) : Turn W M W' M := ⟨h, fun _ h => .inl h, fun k hk => Nat.lt_of_lt_of_le (hM k hk) h.size⟩

/-- The same set, behind a turn of what is newer than W. -/
theorem Turn.upto {W wr w2 : World} {M Mr X : Nat → Prop} (h : Turn W M wr Mr) (ho : Only X wr w2) (hx : ∀ j, X j → W.heap.size ≤ j) : Turn W M w2 Mr :=
  ⟨⟨ho.os.trans h.only.os, ho.tape.trans h.only.tape, ho.output.trans h.only.output, Nat.le_trans h.only.size ho.size, fun k hk hn =>
      (ho.block k (Nat.lt_of_lt_of_le hk h.only.size) (fun e => by have := hx k e; omega)).trans (h.only.block k hk hn)⟩, h.own, fun k hk => Nat.lt_of_lt_of_le (h.lt k hk) ho.size⟩

/-- WHAT IS SAID ABIDES WHATEVER TURNS FROM B ON AND IS NOT OWNED. -/
def Stable {σ : Type} (B : Nat) (J : σ → World → (Nat → Prop) → Prop) : Prop :=
  ∀ s W W' M, J s W M → Only (fun k => ¬ M k ∧ B ≤ k) W W' → J s W' M
theorem Stable.mono {σ : Type} {B B' : Nat} {J : σ → World → (Nat → Prop) → Prop} (h : Stable B J) (hB : B ≤ B') : Stable B' J :=
  fun s W W' M hj ho => h s W W' M hj (ho.mono (fun _ _ hh => ⟨hh.1, Nat.le_trans hB hh.2⟩))

/-- A call of yield, at the wide fence. -/
def YieldW (P : Program) (l : Nat) (args : Array Value) (W : World) (R : Ending → World → Prop) : Prop :=
  ∃ fn tmps assign body, (Instr.yield l args).run P W = .ok (.round l fn tmps assign body) W ∧ ∀ n, RoundIn Fence.wide n P l fn tmps assign body W R
theorem roundIn_wide_any {P : Program} {l : Nat} {f : FuncId} {tmps : Array Value} {assign body : Code} {w : World} {R : Ending → World → Prop} {n : Nat} (m : Nat) (h : RoundIn Fence.wide n P l f tmps assign body w R) : RoundIn Fence.wide m P l f tmps assign body w R :=
  ⟨h.1, fun c cs _ => h.2 c cs (room_wide _)⟩
theorem YieldW.mono {P : Program} {l : Nat} {args : Array Value} {W : World} {R R' : Ending → World → Prop} (h : YieldW P l args W R) (hr : ∀ e w', R e w' → R' e w') : YieldW P l args W R' := by
  obtain ⟨fn, tmps, assign, body, hy, hR⟩ := h
  exact ⟨fn, tmps, assign, body, hy, fun n => (hR n).mono hr⟩

/-- THE ITERATOR g (its captured values lb) HANDS ON xs, ONE BY ONE; of W0 it needs the blocks in N; it turns none that lay when it was called. -/
def IterG {α : Type} (P : Program) (g : Nat) (lb : Array Value) (encs : α → Array Value) (xs : List α) (N : Nat → Prop) (W0 : World) : Prop :=
  ∀ (l : Nat) (J Jx : List α → World → (Nat → Prop) → Prop) (W : World) (M : Nat → Prop),
    Only (fun k => ¬ N k) W0 W → (∀ k, N k → ¬ M k) → (∀ k, M k → k < W.heap.size) → Stable W.heap.size J → Stable W.heap.size Jx →
    (∀ pre x rest W1 M1, xs = pre ++ x :: rest → W.heap.size ≤ W1.heap.size → (∀ k, M1 k → k < W1.heap.size) → J pre W1 M1 →
      YieldW P l (encs x) W1 fun e W' => ∃ M', Turn W1 M1 W' M' ∧ ((e = .returned (.bool true) ∧ J (pre ++ [x]) W' M') ∨ (e = .returned (.bool false) ∧ Jx (pre ++ [x]) W' M'))) →
    J [] W M →
    Calls P g (#[.func (.yield l) #[] #[]] ++ lb) W fun e W' => (∃ v, e = .returned v) ∧ ∃ M', Turn W M W' M' ∧ (J xs W' M' ∨ ∃ pre, pre <+: xs ∧ Jx pre W' M')

/-- HOW A ROUND's BODY MAY BE LEFT. -/
def postG {α : Type} (I : List α → World → (Nat → Prop) → Prop) (Ix : Code → List α → World → (Nat → Prop) → Prop) (xs : List α) (W : World) (M : Nat → Prop) : Exit → Act → World → Prop
  | .normal, _, W' => ∃ M', Turn W M W' M' ∧ I xs W' M'
  | .ret, _, W' => ∃ M', Turn W M W' M' ∧ Ix .ret xs W' M'
  | .exit id, _, W' => ∃ M', Turn W M W' M' ∧ Ix (.exit id) xs W' M'
  | .goto t, _, W' => ∃ M', Turn W M W' M' ∧ Ix (.goto t) xs W' M'
  | .panic _, _, _ => False
  | .outgrown, _, _ => False

section
variable {F : Fence} {n : Nat} {P : Program} {b : Frame} {a : Act} {k : List Item} {cs : List Frame} {w : World} {Q : Exit → Act → World → Prop}
theorem stepR_scope {c : Code} : step P (lone (b.atR a (.code (.scope c) :: k)) cs w) = .next (lone (b.atR a (.code c :: .inScope c :: k)) cs w) :=
  step_lone_go (by simp [stepG, stepG.exec, Frame.atR])
theorem stepR_inScope {c : Code} : step P (lone (b.atR a (.inScope c :: k)) cs w) = .next (lone (b.atR a k) cs w) :=
  step_lone_go (by simp [stepG, stepG.exec, Frame.atR])
/-- A scope through which the run goes without a goto. -/
theorem wpIn_scope_straight {c : Code} (h : c.wpIn F n P (Exit.noGoto Q) a w) : (Code.scope c).wpIn F n P Q a w := by
  intro b k cs hro hb hr
  have h0 : (lone (b.atR a (.code (.scope c) :: k)) cs w).fenced P F := fenced_calm hb hr rfl
  obtain ⟨e, a₁, w₁, hq, harr⟩ := h b (.inScope c :: k) cs hro hb hr
  cases e with
  | normal => exact ⟨.normal, a₁, w₁, hq, .head h0 stepR_scope (StepsIn.trans harr (.one (fenced_calm hb hr rfl) stepR_inScope))⟩
  | exit id =>
    have hx : exitTo id (.inScope c :: k) = exitTo id k := by simp [exitTo]
    exact ⟨.exit id, a₁, w₁, hq, fun k' hk => .head h0 stepR_scope (harr.1 k' (by rw [hx]; exact hk)),
      fun hr' hk => let ⟨k₁, h1, h2⟩ := harr.2 hr' (by rw [hx]; exact hk); ⟨k₁, h1, .head h0 stepR_scope h2⟩⟩
  | goto l => exact hq.elim
  | ret => exact ⟨_, a₁, w₁, hq, .of_steps (.one h0 stepR_scope) harr⟩
  | panic ch => exact ⟨_, a₁, w₁, hq, .of_steps (.one h0 stepR_scope) harr⟩
  | outgrown => exact ⟨_, a₁, w₁, hq, .of_steps (.one h0 stepR_scope) harr⟩
end

section
variable {P : Program} {n : Nat}

/-- ONE ROUND, MET FROM THE ITERATOR's SIDE. -/
theorem yield_round {α : Type} {fn : FuncId} {ps : Array Tmp} {assign body : Code} {tmps : Array Value} {encs : α → Array Value} {l dl : Nat}
    (rec : LoopState → Option Code → Loop) (hrec : rec = fun st pe => { state := st, pending := pe, fn, tmps, params := ps, assign, body, defers := dl }) (hps : ∀ x, (encs x).size = ps.size)
    (I : List α → World → (Nat → Prop) → Prop) (Ix : Code → List α → World → (Nat → Prop) → Prop) {B : Nat} (hI : Stable B I) (hIx : ∀ c, Stable B (Ix c)) (hBl : B ≤ l) {pre : List α} {x : α} {W : World} {M : Nat → Prop}
    (hl : W.heap[l]? = some (.loop (rec .ready none))) (hnl : ¬ M l)
    (hround : assign.wpIn (Fence.wide.inRound l) n P (Exit.then (fun a₁ W₁ => ∃ M₁, Turn W M W₁ M₁ ∧ ∀ W₂, Only (fun k => k = l) W₁ W₂ → (∃ r, W₂.heap[l]? = some (.loop r)) →
        body.wpIn (Fence.wide.inRound l) n P (postG I Ix (pre ++ [x]) W₂ M₁) a₁ W₂) (fun _ _ _ => False)) { tmps := (ps.zip (encs x)).foldl (fun t (p, v) => t.setIfInBounds p v) tmps, defers := [] } W) :
    YieldW P l (encs x) W fun e W' => ∃ M', Turn W (fun k => M k ∨ k = l) W' (fun k => M' k ∨ k = l) ∧ ¬ M' l ∧
      ((e = .returned (.bool true) ∧ I (pre ++ [x]) W' M' ∧ W'.heap[l]? = some (.loop (rec .ready none))) ∨
       (e = .returned (.bool false) ∧ ∃ c, Ix c (pre ++ [x]) W' M' ∧ W'.heap[l]? = some (.loop (rec .done (some c))))) := by
  have hlt : l < W.heap.size := lt_of_block hl
  have hy := run_yield (P := P) (args := encs x) hl (by rw [hrec]; exact hps x)
  rw [hrec] at hy
  refine ⟨fn, _, assign, body, hy, fun m => roundIn_wide_any m (roundIn_of_wpIn (n := n) trivial ?_)⟩
  refine wpIn_mono hround ?_
  intro e a1 W1 h1
  cases e with
  | normal =>
    obtain ⟨M1, ht1, hb1⟩ := h1
    have hl1 : W1.heap[l]? = some (.loop (rec .ready none)) := ht1.only.obj hl hnl
    have hlt1 : l < W1.heap.size := lt_of_block hl1
    have hnl1 : ¬ M1 l := fun hm => by rcases ht1.own l hm with h | h; exact hnl h; omega
    refine ⟨_, run_beginRound hl1 (by rw [hrec]), ?_⟩
    have hl2 : (W1.putObj l (.loop { rec .ready none with state := .busy })).heap[l]? = some (.loop { rec .ready none with state := .busy }) := World.putObj_heap_same hlt1
    have ho2 : Only (fun k => k = l) W1 (W1.putObj l (.loop { rec .ready none with state := .busy })) := Only.putObj (M := fun k => k = l) (Only.refl _ _) (.inl rfl) _
    refine wpIn_mono (hb1 _ ho2 ⟨_, hl2⟩) ?_
    have t2 : Turn W (fun k => M k ∨ k = l) (W1.putObj l (.loop { rec .ready none with state := .busy })) (fun k => M1 k ∨ k = l) :=
      ⟨(ht1.only.mono (fun _ _ h => .inl h)).trans (ho2.mono (fun _ _ h => .inr h)),
       fun k hk => by
        rcases hk with hk | hk
        · rcases ht1.own k hk with h | h
          · exact .inl (.inl h)
          · exact .inr h
        · exact .inl (.inr hk),
       fun k hk => by
        rcases hk with hk | hk
        · simpa using ht1.lt k hk
        · simp; omega⟩
    have fin : ∀ (jump : Option Code) (W3 : World) (M3 : Nat → Prop), Turn (W1.putObj l (.loop { rec .ready none with state := .busy })) M1 W3 M3 →
        (Instr.endRound l jump).run P W3 = .ok (.bool jump.isNone) (W3.putObj l (.loop (rec (if jump.isNone then .ready else .done) jump))) ∧
        Turn W (fun k => M k ∨ k = l) (W3.putObj l (.loop (rec (if jump.isNone then .ready else .done) jump))) (fun k => M3 k ∨ k = l) ∧ ¬ M3 l ∧
        (W3.putObj l (.loop (rec (if jump.isNone then .ready else .done) jump))).heap[l]? = some (.loop (rec (if jump.isNone then .ready else .done) jump)) ∧
        Only (fun k => ¬ M3 k ∧ B ≤ k) W3 (W3.putObj l (.loop (rec (if jump.isNone then .ready else .done) jump))) := fun jump W3 M3 t3 => by
      have hl3 := t3.only.obj hl2 hnl1
      have hlt3 : l < W3.heap.size := lt_of_block hl3
      have hnl3 : ¬ M3 l := fun hm => by rcases t3.own l hm with h | h; exact hnl1 h; simp at h; omega
      have := run_endRound (P := P) jump hl3
      rw [hrec] at this ⊢
      refine ⟨this, t2.trans ⟨?_, fun k hk => ?_, fun k hk => ?_⟩, hnl3, World.putObj_heap_same hlt3, (Only.refl _ _).putObj (.inl ⟨hnl3, hBl⟩) _⟩
      · exact ((t3.only.mono (fun _ _ h => .inl h)).putObj (.inl (.inr rfl)) _)
      · rcases hk with hk | hk
        · rcases t3.own k hk with h | h
          · exact .inl (.inl h)
          · exact .inr h
        · exact .inl (.inr hk)
      · rcases hk with hk | hk
        · simpa using t3.lt k hk
        · simp; omega
    rintro e a3 W3 hp
    cases e with
    | normal =>
      obtain ⟨M3, t3, hi3⟩ := hp
      obtain ⟨hr, t4, h4, h5, h6⟩ := fin none W3 M3 t3
      exact ⟨_, _, hr, M3, t4, h4, .inl ⟨rfl, hI _ _ _ _ hi3 h6, h5⟩⟩
    | ret =>
      obtain ⟨M3, t3, hi3⟩ := hp
      obtain ⟨hr, t4, h4, h5, h6⟩ := fin (some .ret) W3 M3 t3
      exact ⟨_, _, hr, M3, t4, h4, .inr ⟨rfl, .ret, hIx _ _ _ _ _ hi3 h6, h5⟩⟩
    | exit id =>
      obtain ⟨M3, t3, hi3⟩ := hp
      obtain ⟨hr, t4, h4, h5, h6⟩ := fin (some (.exit id)) W3 M3 t3
      exact ⟨_, _, hr, M3, t4, h4, .inr ⟨rfl, .exit id, hIx _ _ _ _ _ hi3 h6, h5⟩⟩
    | goto t =>
      obtain ⟨M3, t3, hi3⟩ := hp
      obtain ⟨hr, t4, h4, h5, h6⟩ := fin (some (.goto t)) W3 M3 t3
      exact ⟨_, _, hr, M3, t4, h4, .inr ⟨rfl, .goto t, hIx _ _ _ _ _ hi3 h6, h5⟩⟩
    | panic ch => exact hp.elim
    | outgrown => exact hp.elim
  | exit id => exact h1.elim
  | goto t => exact h1.elim
  | ret => exact h1.elim
  | panic ch => exact h1.elim
  | outgrown => exact h1.elim

/-- THE ROUNDS's PREMISE, AS BOTH LAWS ASK IT. -/
def RoundsG {α : Type} (P : Program) (n : Nat) (ps : Array Tmp) (assign body : Code) (tmps : Array Value) (encs : α → Array Value) (xs : List α) (w : World)
    (I : List α → World → (Nat → Prop) → Prop) (Ix : Code → List α → World → (Nat → Prop) → Prop) : Prop :=
  ∀ l pre x rest W M, xs = pre ++ x :: rest → w.heap.size ≤ l → l < W.heap.size → ¬ M l → (∃ r, W.heap[l]? = some (.loop r)) → w.heap.size ≤ W.heap.size → (∀ k, M k → k < W.heap.size) → I pre W M →
    assign.wpIn (Fence.wide.inRound l) n P (Exit.then (fun a₁ W₁ => ∃ M₁, Turn W M W₁ M₁ ∧ ∀ W₂, Only (fun k => k = l) W₁ W₂ → (∃ r, W₂.heap[l]? = some (.loop r)) →
      body.wpIn (Fence.wide.inRound l) n P (postG I Ix (pre ++ [x]) W₂ M₁) a₁ W₂) (fun _ _ _ => False)) { tmps := (ps.zip (encs x)).foldl (fun t (p, v) => t.setIfInBounds p v) tmps, defers := [] } W

/-- **THE STATEMENT 'for x := range g { .. }', outside every other such loop.** -/
theorem wp_rangeG {α : Type} {g : Operand} {ps : Array Tmp} {assign body : Code} {Q : Exit → Act → World → Prop} {a : Act} {w : World}
    {gf : Nat} {lb : Array Value} (hg : a.eval g = .func (.func gf) #[] lb) (eg : ∀ args w, (callFunc gf args).run P w = .ok (.enter gf args) w)
    {encs : α → Array Value} {xs : List α} {N : Nat → Prop} {W0 : World} (hseq : IterG P gf lb encs xs N W0) (h0w : Only (fun k => ¬ N k) W0 w) (hps : ∀ x, (encs x).size = ps.size)
    (I : List α → World → (Nat → Prop) → Prop) (Ix : Code → List α → World → (Nat → Prop) → Prop) (M : Nat → Prop) (hM : ∀ k, M k → k < w.heap.size) (hN : ∀ k, N k → k < w.heap.size ∧ ¬ M k)
    (hI : Stable w.heap.size I) (hIx : ∀ c, Stable w.heap.size (Ix c)) (h0 : I [] w M)
    (hround : RoundsG P n ps assign body a.tmps encs xs w I Ix)
    (hdone : ∀ D W M', w.heap.size ≤ D → ¬ M' D → Turn w M W M' → I xs W M' → W.heap[D]? = some (.deferred (some [])) → Q .normal { a with defers := { target := .collected D, args := #[] } :: a.defers } W)
    (hstop : ∀ D c pre W M', w.heap.size ≤ D → ¬ M' D → Turn w M W M' → pre <+: xs → Ix c pre W M' → W.heap[D]? = some (.deferred (some [])) →
      c.wpIn Fence.wide n P Q { a with defers := { target := .collected D, args := #[] } :: a.defers } W) :
    (Code.rangeFunc g ps assign body).wpIn Fence.wide n P Q a w := by
  refine wpIn_rangeFunc ?_
  intro fn hfn
  show ∃ (l : Nat) (mark : List Deferred) (w₁ : World) (d : Deferred) (w₁' : World) (f : FuncId) (args : Array Value) (w₂ : World), (Instr.enterLoop fn a.tmps ps assign body none).run P w = .ok (l, mark) w₁ ∧ _
  obtain ⟨rec, hrec⟩ : ∃ rec : LoopState → Option Code → Loop, rec = fun st pe => { state := st, pending := pe, fn, tmps := a.tmps, params := ps, assign, body, defers := w.heap.size } := ⟨_, rfl⟩
  obtain ⟨W1, hW1⟩ : ∃ W1, (w.alloc (.deferred (some []))).alloc (.loop (rec .ready none)) = W1 := ⟨_, rfl⟩
  have hz1 : W1.heap.size = w.heap.size + 2 := by rw [← hW1]; simp
  have hL1 : W1.heap[w.heap.size + 1]? = some (.loop (rec .ready none)) := by
    rw [← hW1]; have := World.alloc_heap_new (w.alloc (.deferred (some []))) (.loop (rec .ready none)); rwa [World.size_alloc] at this
  have hK1 : W1.heap[w.heap.size]? = some (.deferred (some [])) := by
    rw [← hW1]; exact (Below.heap_alloc _ _ _ (by simp)).trans (World.alloc_heap_new w _)
  have ho1 : ∀ M : Nat → Prop, Only M w W1 := fun M => by rw [← hW1]; exact ((Only.refl M w).alloc _).alloc _
  have hI1 : I [] W1 M := hI _ _ _ _ h0 (ho1 _)
  refine ⟨w.heap.size + 1, [{ target := .collected w.heap.size, args := #[] }], W1, { target := .fn (.func gf) lb, args := #[.func (.yield (w.heap.size + 1)) #[] #[]] }, W1, gf,
    #[.func (.yield (w.heap.size + 1)) #[] #[]] ++ lb, W1, ?_, ?_, ?_, ?_, fun h => by simp [Fence.wide] at h, ?_⟩
  · rw [← hW1, hrec]; exact run_enterLoop_outer _ _ _ _ _
  · simp only [resolve, hg]
    simp [go_sem]
  · intro _ _; trivial
  · simp [invoke, go_sem, eg]
  · refine callsIn_wide.2 ((hseq (w.heap.size + 1)
      (fun pre W Mx => ∃ M', Mx = (fun k => M' k ∨ k = w.heap.size + 1) ∧ ¬ M' (w.heap.size + 1) ∧ ¬ M' w.heap.size ∧ I pre W M' ∧ W.heap[w.heap.size + 1]? = some (.loop (rec .ready none)) ∧ W.heap[w.heap.size]? = some (.deferred (some [])))
      (fun pre W Mx => ∃ M' c, Mx = (fun k => M' k ∨ k = w.heap.size + 1) ∧ ¬ M' (w.heap.size + 1) ∧ ¬ M' w.heap.size ∧ Ix c pre W M' ∧ W.heap[w.heap.size + 1]? = some (.loop (rec .done (some c))) ∧ W.heap[w.heap.size]? = some (.deferred (some [])))
      W1 (fun k => M k ∨ k = w.heap.size + 1) (h0w.trans (ho1 _))
      (fun k hk => by have := (hN k hk); rintro (h | h); exact this.2 h; omega)
      (fun k hk => by rcases hk with hk | hk; have := hM k hk; omega; omega)
      (fun s A C Mx hs hc => by
        obtain ⟨M', rfl, h1, h2, h3, h4, h5⟩ := hs
        refine ⟨M', rfl, h1, h2, hI _ _ _ _ h3 (hc.mono (fun k _ hh => ⟨fun h => hh.1 (.inl h), by omega⟩)), hc.obj h4 (fun hh => hh.1 (.inr rfl)), hc.obj h5 (fun hh => by omega)⟩)
      (fun s A C Mx hs hc => by
        obtain ⟨M', c, rfl, h1, h2, h3, h4, h5⟩ := hs
        refine ⟨M', c, rfl, h1, h2, hIx c _ _ _ _ h3 (hc.mono (fun k _ hh => ⟨fun h => hh.1 (.inl h), by omega⟩)), hc.obj h4 (fun hh => hh.1 (.inr rfl)), hc.obj h5 (fun hh => by omega)⟩)
      ?_ ⟨M, rfl, fun h => by have := hM _ h; omega, fun h => by have := hM _ h; omega, hI1, hL1, hK1⟩).mono ?_)
    · rintro pre x rest W Mx hx hsz hMx ⟨M', rfl, h1, h2, h3, h4, h5⟩
      have hM' : ∀ k, M' k → k < W.heap.size := fun k hk => hMx k (.inl hk)
      refine (yield_round (n := n) rec hrec hps I Ix hI hIx (by omega) h4 h1 (hround _ pre x rest W M' hx (by omega) (by omega) h1 ⟨_, h4⟩ (by omega) hM' h3)).mono ?_
      rintro e W' ⟨M'', t, hn, hh⟩
      have hD : ¬ M'' w.heap.size := fun hm => by rcases t.own _ (.inl hm) with (h | h) | h; exact h2 h; omega; omega
      have hK : W'.heap[w.heap.size]? = some (.deferred (some [])) := t.only.obj h5 (by rintro (h | h); exact h2 h; omega)
      refine ⟨_, t, ?_⟩
      rcases hh with ⟨he, hi, hr⟩ | ⟨he, c, hi, hr⟩
      · exact .inl ⟨he, M'', rfl, hn, hD, hi, hr, hK⟩
      · exact .inr ⟨he, M'', c, rfl, hn, hD, hi, hr, hK⟩
    · rintro e W2 ⟨⟨v, rfl⟩, Mx, t, hh⟩
      have tw : ∀ (M' : Nat → Prop), (fun k => M' k ∨ k = w.heap.size + 1) = Mx → ¬ M' (w.heap.size + 1) → ∀ o, Turn w M (W2.putObj (w.heap.size + 1) o) M' := fun M' e hn o => by
        subst e
        refine ⟨⟨t.only.os.trans (ho1 M).os, t.only.tape.trans (ho1 M).tape, t.only.output.trans (ho1 M).output, by have := t.only.size; simp; omega, fun k hk hm => ?_⟩, fun k hk => ?_, fun k hk => ?_⟩
        · exact (World.putObj_heap_other (by omega)).trans ((t.only.block k (by omega) (by rintro (h | h); exact hm h; omega)).trans ((ho1 M).block k hk hm))
        · rcases t.own k (.inl hk) with (h | h) | h
          · exact .inl h
          · exact .inr (by omega)
          · exact .inr (by omega)
        · simpa using t.lt k (.inl hk)
      rcases hh with ⟨M', e, h1, h2, h3, h4, h5⟩ | ⟨pre, hpre, M', c, e, h1, h2, h3, h4, h5⟩
      · have hh := run_endLoop (P := P) h4 (by rw [hrec]; simp)
        rw [hrec] at hh
        refine ⟨none, _, hh, hdone w.heap.size _ M' (Nat.le_refl _) h2 (tw M' e.symm h1 _) (hI _ _ _ _ h3 ((Only.refl _ _).putObj (.inl ⟨h1, by omega⟩) _)) ((World.putObj_heap_other (by omega)).trans h5)⟩
      · have hh := run_endLoop (P := P) h4 (by rw [hrec]; simp)
        rw [hrec] at hh
        refine ⟨some c, _, hh, hstop w.heap.size c pre _ M' (Nat.le_refl _) h2 (tw M' e.symm h1 _) hpre (hIx c _ _ _ _ h3 ((Only.refl _ _).putObj (.inl ⟨h1, by omega⟩) _)) ((World.putObj_heap_other (by omega)).trans h5)⟩

/-- **THE SAME, IN THE BODY OF ANOTHER SUCH LOOP (its record: block l₀).** -/
theorem wp_rangeGN {α : Type} {g : Operand} {ps : Array Tmp} {assign body : Code} {Q : Exit → Act → World → Prop} {a : Act} {w : World}
    {l₀ : Nat} (hl₀ : ∃ r, w.heap[l₀]? = some (.loop r)) {gf : Nat} {lb : Array Value} (hg : a.eval g = .func (.func gf) #[] lb) (eg : ∀ args w, (callFunc gf args).run P w = .ok (.enter gf args) w)
    {encs : α → Array Value} {xs : List α} {N : Nat → Prop} {W0 : World} (hseq : IterG P gf lb encs xs N W0) (h0w : Only (fun k => ¬ N k) W0 w) (hps : ∀ x, (encs x).size = ps.size)
    (I : List α → World → (Nat → Prop) → Prop) (Ix : Code → List α → World → (Nat → Prop) → Prop) (M : Nat → Prop) (hM : ∀ k, M k → k < w.heap.size) (hN : ∀ k, N k → k < w.heap.size ∧ ¬ M k)
    (hI : Stable w.heap.size I) (hIx : ∀ c, Stable w.heap.size (Ix c)) (h0 : I [] w M)
    (hround : RoundsG P n ps assign body a.tmps encs xs w I Ix)
    (hdone : ∀ W M', Turn w M W M' → I xs W M' → Q .normal a W)
    (hstop : ∀ c pre W M', Turn w M W M' → pre <+: xs → Ix c pre W M' → c.wpIn (Fence.wide.inRound l₀) n P Q a W) :
    (Code.rangeFunc g ps assign body).wpIn (Fence.wide.inRound l₀) n P Q a w := by
  obtain ⟨r₀, hl₀⟩ := hl₀
  refine wpIn_rangeFunc ?_
  intro fn hfn
  show ∃ (l : Nat) (mark : List Deferred) (w₁ : World) (d : Deferred) (w₁' : World) (f : FuncId) (args : Array Value) (w₂ : World), (Instr.enterLoop fn a.tmps ps assign body (some l₀)).run P w = .ok (l, mark) w₁ ∧ _
  obtain ⟨rec, hrec⟩ : ∃ rec : LoopState → Option Code → Loop, rec = fun st pe => { state := st, pending := pe, fn, tmps := a.tmps, params := ps, assign, body, defers := r₀.defers } := ⟨_, rfl⟩
  obtain ⟨W1, hW1⟩ : ∃ W1, w.alloc (.loop (rec .ready none)) = W1 := ⟨_, rfl⟩
  have hz1 : W1.heap.size = w.heap.size + 1 := by rw [← hW1]; simp
  have hL1 : W1.heap[w.heap.size]? = some (.loop (rec .ready none)) := by rw [← hW1]; exact World.alloc_heap_new w _
  have ho1 : ∀ M : Nat → Prop, Only M w W1 := fun M => by rw [← hW1]; exact (Only.refl M w).alloc _
  have hI1 : I [] W1 M := hI _ _ _ _ h0 (ho1 _)
  refine ⟨w.heap.size, [], W1, { target := .fn (.func gf) lb, args := #[.func (.yield w.heap.size) #[] #[]] }, W1, gf,
    #[.func (.yield w.heap.size) #[] #[]] ++ lb, W1, ?_, ?_, ?_, ?_, fun h => by simp [Fence.wide, Fence.inRound] at h, ?_⟩
  · rw [← hW1, hrec]; exact run_enterLoop_inner hl₀ _ _ _ _ _
  · simp only [resolve, hg]
    simp [go_sem]
  · intro _ _; trivial
  · simp [invoke, go_sem, eg]
  · refine CallsIn.inRound l₀ (callsIn_wide.2 ((hseq w.heap.size
      (fun pre W Mx => ∃ M', Mx = (fun k => M' k ∨ k = w.heap.size) ∧ ¬ M' w.heap.size ∧ I pre W M' ∧ W.heap[w.heap.size]? = some (.loop (rec .ready none)))
      (fun pre W Mx => ∃ M' c, Mx = (fun k => M' k ∨ k = w.heap.size) ∧ ¬ M' w.heap.size ∧ Ix c pre W M' ∧ W.heap[w.heap.size]? = some (.loop (rec .done (some c))))
      W1 (fun k => M k ∨ k = w.heap.size) (h0w.trans (ho1 _))
      (fun k hk => by have := (hN k hk); rintro (h | h); exact this.2 h; omega)
      (fun k hk => by rcases hk with hk | hk; have := hM k hk; omega; omega)
      (fun s A C Mx hs hc => by
        obtain ⟨M', rfl, h1, h3, h4⟩ := hs
        refine ⟨M', rfl, h1, hI _ _ _ _ h3 (hc.mono (fun k _ hh => ⟨fun h => hh.1 (.inl h), by omega⟩)), hc.obj h4 (fun hh => hh.1 (.inr rfl))⟩)
      (fun s A C Mx hs hc => by
        obtain ⟨M', c, rfl, h1, h3, h4⟩ := hs
        refine ⟨M', c, rfl, h1, hIx c _ _ _ _ h3 (hc.mono (fun k _ hh => ⟨fun h => hh.1 (.inl h), by omega⟩)), hc.obj h4 (fun hh => hh.1 (.inr rfl))⟩)
      ?_ ⟨M, rfl, fun h => by have := hM _ h; omega, hI1, hL1⟩).mono ?_))
    · rintro pre x rest W Mx hx hsz hMx ⟨M', rfl, h1, h3, h4⟩
      have hM' : ∀ k, M' k → k < W.heap.size := fun k hk => hMx k (.inl hk)
      refine (yield_round (n := n) rec hrec hps I Ix hI hIx (by omega) h4 h1 (hround _ pre x rest W M' hx (by omega) (by omega) h1 ⟨_, h4⟩ (by omega) hM' h3)).mono ?_
      rintro e W' ⟨M'', t, hn, hh⟩
      refine ⟨_, t, ?_⟩
      rcases hh with ⟨he, hi, hr⟩ | ⟨he, c, hi, hr⟩
      · exact .inl ⟨he, M'', rfl, hn, hi, hr⟩
      · exact .inr ⟨he, M'', c, rfl, hn, hi, hr⟩
    · rintro e W2 ⟨⟨v, rfl⟩, Mx, t, hh⟩
      have tw : ∀ (M' : Nat → Prop), (fun k => M' k ∨ k = w.heap.size) = Mx → ¬ M' w.heap.size → ∀ o, Turn w M (W2.putObj w.heap.size o) M' := fun M' e hn o => by
        subst e
        refine ⟨⟨t.only.os.trans (ho1 M).os, t.only.tape.trans (ho1 M).tape, t.only.output.trans (ho1 M).output, by have := t.only.size; simp; omega, fun k hk hm => ?_⟩, fun k hk => ?_, fun k hk => ?_⟩
        · exact (World.putObj_heap_other (by omega)).trans ((t.only.block k (by omega) (by rintro (h | h); exact hm h; omega)).trans ((ho1 M).block k hk hm))
        · rcases t.own k (.inl hk) with (h | h) | h
          · exact .inl h
          · exact .inr (by omega)
          · exact .inr (by omega)
        · simpa using t.lt k (.inl hk)
      rcases hh with ⟨M', e, h1, h3, h4⟩ | ⟨pre, hpre, M', c, e, h1, h3, h4⟩
      · have hh := run_endLoop (P := P) h4 (by rw [hrec]; simp)
        rw [hrec] at hh
        exact ⟨none, _, hh, hdone _ M' (tw M' e.symm h1 _) (hI _ _ _ _ h3 ((Only.refl _ _).putObj (.inl ⟨h1, by omega⟩) _))⟩
      · have hh := run_endLoop (P := P) h4 (by rw [hrec]; simp)
        rw [hrec] at hh
        exact ⟨some c, _, hh, hstop c pre _ M' (tw M' e.symm h1 _) hpre (hIx c _ _ _ _ h3 ((Only.refl _ _).putObj (.inl ⟨h1, by omega⟩) _))⟩
end
end Go.It
