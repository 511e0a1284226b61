/- The iterator over the units of a text of NULs. No condition beyond that. -/
import Derived.Test.YtnebeadjkbjpcaaGreatC
namespace Go.Proofs.YtnebeadjkbjpcaaGreat
open Go Go.RowKit Go.Shelf Go.It
attribute [local go_sem] Oper.semAt_some

/-- The unit at a place of a text of NULs. -/
def unit0 (p : Nat) : Array Value := #[.int .i64 9, .int .i32 0, .int .i64 p, .int .i64 (p + 1), .bool true]
/-- The unit that is open when k pieces have come. -/
def open0 : Nat → Array Value
  | 0 => #[.int .i64 0, .int .i32 0, .int .i64 0, .int .i64 0, .bool false]
  | k + 1 => unit0 k

theorem turn_abides {w' W1 W2 : World} {M M' : Nat → Prop} {B : Nat} (hB : w'.heap.size ≤ B) (h : Turn w' M W1 M') (ho : Only (fun k => ¬ M' k ∧ B ≤ k) W1 W2) : Turn w' M W2 M' :=
  h.upto ho (fun j hj => by omega)

theorem range_at {n k x : Nat} {rest : List Nat} (h : List.range n = List.range k ++ x :: rest) : x = k ∧ k < n := by
  have hl := congrArg List.length h
  simp at hl
  have hg := congrArg (fun l => l[k]?) h
  simp at hg
  rw [List.getElem?_range (by omega)] at hg
  simp at hg
  exact ⟨hg.symm, by omega⟩

/-- Between two rounds: k pieces have come. -/
def UnitsI (l : Nat) (W : World) (M : Nat → Prop) (J : List Nat → World → (Nat → Prop) → Prop) (pre : List Nat) (W' : World) (M' : Nat → Prop) : Prop :=
  ∃ (k : Nat) (Mo : Nat → Prop), pre = List.range k ∧ M' = (fun j => Mo j ∨ j = W.heap.size + 1) ∧ ¬ Mo W.heap.size ∧ ¬ Mo (W.heap.size + 1) ∧ W'.heap[W.heap.size + 1]? = some (.cells (open0 k) 124 (0, 0)) ∧
    W'.heap[W.heap.size]? = some (.cells #[.func (.yield l) #[] #[]] 167 (0, 0)) ∧ Turn W M W' Mo ∧ J (List.range (k - 1)) W' Mo
/-- A round has said no more. -/
def UnitsX (n : Nat) (W : World) (M : Nat → Prop) (Jx : List Nat → World → (Nat → Prop) → Prop) (c : Code) (_ : List Nat) (W' : World) (M' : Nat → Prop) : Prop :=
  c = .ret ∧ ∃ (p : List Nat) (Mo : Nat → Prop), M' = (fun j => Mo j ∨ j = W.heap.size + 1) ∧ p <+: List.range n ∧ Turn W M W' Mo ∧ Jx p W' Mo

set_option maxHeartbeats 1000000 in
theorem units1 (s : ByteArray) (hs : Nuls s) (b : Nat) (w : World) (hz : s.size ≤ 100000) (hb : w.heap[b]? = some (.cells #[.string s] 9 (0, 0))) :
    IterG Tryz.prog 69 #[.pointer (some ⟨b, 0, none⟩)] (fun p : Nat => #[.agg (unit0 p)]) (List.range s.size) (fun k => k = b) w := by
  intro l J Jx W M hO hN hM hJ hJx hY h0
  have hbW : W.heap[b]? = some (.cells #[.string s] 9 (0, 0)) := hO.obj hb (by simp)
  have hnb : ¬ M b := hN b rfl
  have hlb := lt_of_block hbW
  have hcW : W.cell? ⟨b, 0, none⟩ = some (.string s) := by simp [World.cell?, hbW]
  have hpc := pieces_call s
  refine (callsIn_wide (n := 3)).1 ?_
  refine callsIn_of_wp_marks Tryz.func69 rfl trivial ?_ rfl
  simp only [Tryz.ntmps69, List.size_toArray, List.length_cons, List.length_nil, Nat.reduceAdd, Nat.reduceSub, Array.replicate_succ, Array.replicate_zero, List.push_toArray, List.append_toArray, List.nil_append, List.cons_append]
  gi_wp2_with fail
  refine (callsIn_wide.2 (hpc _)).mono ?_
  rintro e w2 ⟨rfl, hw2⟩
  have hz2 : Hid (w2.heap.size = W.heap.size + 3) := by show _ = _; rw [hw2]; simp
  have hB0 : w2.heap[W.heap.size]? = some (.cells #[.func (.yield l) #[] #[]] 167 (0, 0)) := by
    rw [hw2]; simp only [heap_alloc_if, World.size_alloc]; (repeat (first | rw [if_pos trivial] | rw [if_neg (by omega)])); try rfl
  have hB1 : w2.heap[W.heap.size + 1]? = some (.cells (open0 0) 124 (0, 0)) := by
    rw [hw2]; simp only [heap_alloc_if, World.size_alloc]; (repeat (first | rw [if_pos trivial] | rw [if_neg (by omega)])); try rfl
  have hB2 : w2.heap[W.heap.size + 1 + 1]? = some (.cells #[.string s] 9 (0, 0)) := by
    rw [hw2]; simp only [heap_alloc_if, World.size_alloc]; (repeat (first | rw [if_pos trivial] | rw [if_neg (by omega)])); try rfl
  have hO2 : ∀ X : Nat → Prop, Only X W w2 := fun X => by rw [hw2]; exact (((Only.refl _ _).alloc _).alloc _).alloc _
  clear hw2
  have hn0 : ¬ M W.heap.size := fun h => by have := hM _ h; omega
  have hn1 : ¬ M (W.heap.size + 1) := fun h => by have := hM _ h; omega
  have hps : ∀ x : Nat, (#[piece0 x] : Array Value).size = 1 := fun _ => rfl
  gi_wp2_with fail
  have hz2' := hz2.out
  refine wp_rangeG (n := 3) (gf := 75) (lb := #[.pointer (some ⟨W.heap.size + 1 + 1, 0, none⟩)]) rfl (enters_of Tryz.func75 (by kernel_rfl) rfl) (pieces1 s hs (W.heap.size + 1 + 1) w2 hB2) (Only.refl _ _) hps
    (UnitsI l W M J)
    (UnitsX s.size W M Jx)
    (fun j => M j ∨ j = W.heap.size + 1) (fun j hj => by rcases hj with h | h; have := hM j h; omega; omega)
    (fun j hj => ⟨by omega, by rintro (h | h); have := hM j h; omega; omega⟩)
    ?sI ?sIx ?start ?rounds ?done ?stop
  case sI =>
    rintro pre W1 W1' M1 ⟨k, Mo, h1, rfl, h3, h4, h5, h6, h7, h8⟩ ho
    refine ⟨k, Mo, h1, rfl, h3, h4, ho.obj h5 (fun h => h.1 (.inr rfl)), ho.obj h6 (fun h => by omega), h7.upto ho (fun j hj => by omega), hJ _ _ _ _ h8 (ho.mono (fun j _ hh => ⟨fun h => hh.1 (.inl h), by omega⟩))⟩
  case sIx =>
    rintro c pre W1 W1' M1 ⟨rfl, p, Mo, rfl, h3, h7, h8⟩ ho
    exact ⟨rfl, p, Mo, rfl, h3, h7.upto ho (fun j hj => by omega), hJx _ _ _ _ h8 (ho.mono (fun j _ hh => ⟨fun h => hh.1 (.inl h), by omega⟩))⟩
  case start =>
    exact ⟨0, M, rfl, rfl, hn0, hn1, hB1, hB0, Turn.of_only (hO2 _) hM, hJ _ _ _ _ h0 (hO2 _)⟩
  case rounds =>
    rintro lr pre x rest W1 M1 hx hl1 hl2 hl3 hl4 hsz hM1 ⟨k, Mo, rfl, rfl, h3, h4, h5, h6, h7, h8⟩
    obtain ⟨rfl, hk⟩ : x = k ∧ k < s.size := range_at hx
    unfold piece0
    have Hx := Lib.hid hx
    clear hx
    gi_wp2
    refine ⟨_, Turn.of_only ((Only.refl _ _).alloc _) hM1, fun W2 hW2 rl hlW2 => ?_⟩
    have hp : W2.heap[W1.heap.size]? = some (.cells (#[.int .i64 x, .int .i64 1, .int .i32 0, .bool false] : Array Value) 137 (0, 0)) := hW2.obj (World.alloc_heap_new _ _) (by omega)
    have hB1' : W2.heap[W.heap.size + 1]? = some (.cells (open0 x) 124 (0, 0)) :=
      hW2.obj ((Below.heap_alloc _ _ _ (lt_of_block h5)).trans h5) (by omega)
    have hB0' : W2.heap[W.heap.size]? = some (.cells #[.func (.yield l) #[] #[]] 167 (0, 0)) :=
      hW2.obj ((Below.heap_alloc _ _ _ (lt_of_block h6)).trans h6) (by omega)
    have hof := of0 x
    have ho2 : Only (fun j => ¬ Mo j ∧ W.heap.size + 1 < j) W1 W2 := ((Only.refl _ _).alloc _).trans (hW2.mono (fun j _ hj => by subst hj; exact ⟨fun h => hl3 (.inl h), by omega⟩))
    have hn1 : ¬ (Mo W1.heap.size) := fun h => by have := hM1 _ (.inl h); omega
    obtain ⟨p0, p1, p2, p3⟩ := cells4 hp
    unfold piece0 at hof
    gi_wp2_with fail
    refine (CallsIn.inRound lr (callsIn_wide.2 (hof _))).mono ?_
    rintro e w3 ⟨rfl, hb3⟩
    have hl3' : lr < W2.heap.size := lt_of_block hlW2
    have hp3 := (hb3.block _ (lt_of_block hp)).trans hp
    have hB13 := (hb3.block _ (lt_of_block hB1')).trans hB1'
    have hB03 := (hb3.block _ (lt_of_block hB0')).trans hB0'
    have ho3 := ho2.then_below hb3
    clear hp hB1' hB0' ho2 p0 p1 p2 p3 hof
    obtain ⟨p0, p1, p2, p3⟩ := cells4 hp3
    have b0 := cells1 hB03
    have fin : ∀ (Mx : Nat → Prop) (wa wb : World), Turn w3 Mo wa Mx → wa.heap[W.heap.size]? = some (.cells #[.func (.yield l) #[] #[]] 167 (0, 0)) → J (List.range x) wa Mx →
        Only (fun j => j = W.heap.size + 1) wa wb → wb.heap[W.heap.size + 1]? = some (.cells (open0 (x + 1)) 124 (0, 0)) → ∀ a,
        postG (UnitsI l W M J) (UnitsX s.size W M Jx) (List.range x ++ [x]) W2 (fun j => Mo j ∨ j = W.heap.size + 1) .normal a wb := by
      intro Mx wa wb ta hy0 hja hob hu a
      have ha0 : ¬ Mx W.heap.size := fun h => by rcases ta.own _ h with h | h; exact h3 h; have := hb3.size; omega
      have ha1 : ¬ Mx (W.heap.size + 1) := fun h => by rcases ta.own _ h with h | h; exact h4 h; have := hb3.size; omega
      refine ⟨fun j => Mx j ∨ j = W.heap.size + 1, ⟨?_, fun j hj => ?_, fun j hj => ?_⟩, x + 1, Mx, by rw [List.range_succ], rfl, ha0, ha1, hu, hob.obj hy0 (by omega), ?_, ?_⟩
      · exact ((Only.of_below hb3).mono (fun j hj hh => by omega)).trans (((ta.only.mono (fun j _ h => .inl h)).trans (hob.mono (fun j _ h => .inr h))))
      · rcases hj with hj | hj
        · rcases ta.own j hj with h | h
          · exact .inl (.inl h)
          · exact .inr (Nat.le_trans hb3.size h)
        · exact .inl (.inr hj)
      · have := hob.size
        rcases hj with hj | hj
        · have := ta.lt j hj; omega
        · have := lt_of_block hu; omega
      · exact ((h7.upto ho3 (fun j hj => by omega)).trans ta).upto hob (fun j hj => by omega)
      · exact hJ _ _ _ _ hja (hob.mono (fun j _ hj => by subst hj; exact ⟨ha1, by omega⟩))
    cases x with
    | zero =>
      obtain ⟨q0, q1, q2, q3, q4⟩ := cells5 (show w3.heap[W.heap.size + 1]? = some (.cells #[.int .i64 0, .int .i32 0, .int .i64 0, .int .i64 0, .bool false] 124 (0, 0)) from hB13)
      have f0 := frz0 hB13 0
      have f1 := frz0 hB13 1
      have f2 := frz0 hB13 2
      have f3 := frz0 hB13 3
      have f4 := frz0 hB13 4
      gi_wp2_with fail
      exact fin Mo w3 _ (Turn.refl (fun j hj => Nat.lt_of_lt_of_le (hM1 j (.inl hj)) ho3.size)) hB03 (hJ _ _ _ _ h8 (ho3.mono (fun j _ hj => ⟨hj.1, by omega⟩))) (only_set5 _ _ _ _ _ _ _) (show _ = some (Obj.cells #[.int .i64 9, .int .i32 0, .int .i64 0, .int .i64 1, .bool true] 124 (0, 0)) from set5 hB13 _ _ _ _ _) _
    | succ x =>
      obtain ⟨q0, q1, q2, q3, q4⟩ := cells5 (show w3.heap[W.heap.size + 1]? = some (.cells #[.int .i64 9, .int .i32 0, .int .i64 x, .int .i64 (x + 1), .bool true] 124 (0, 0)) from hB13)
      have h83 := hJ _ _ _ _ h8 (ho3.mono (fun j _ hj => ⟨hj.1, by omega⟩))
      obtain ⟨fn, tmps, assign, body, hy, hR⟩ := hY (List.range x) x ((x + 1) :: rest) w3 Mo (by rw [Hx.out, List.range_succ]; simp) (by have := hO2 (fun _ => False); have := this.size; have := ho3.size; omega) (fun j hj => Nat.lt_of_lt_of_le (hM1 j (.inl hj)) ho3.size) h83
      have hR := hR 2
      unfold unit0 at hy
      have tR := hR.mono (R' := fun e w4 => ∃ M4, (Turn w3 Mo w4 M4 ∧ w4.heap[W.heap.size + 1]? = w3.heap[W.heap.size + 1]? ∧ w4.heap[W.heap.size]? = w3.heap[W.heap.size]? ∧ w4.heap[W1.heap.size]? = w3.heap[W1.heap.size]?) ∧ (e = .returned (.bool true) ∧ J (List.range x ++ [x]) w4 M4 ∨ e = .returned (.bool false) ∧ Jx (List.range x ++ [x]) w4 M4)) (by
        rintro e w4 ⟨M4, t4, h⟩
        exact ⟨M4, ⟨t4, t4.only.block _ (lt_of_block hB13) h4, t4.only.block _ (lt_of_block hB03) h3, t4.only.block _ (lt_of_block hp3) hn1⟩, h⟩)
      clear hR
      gi_wp2_with fail
      refine tR.mono ?_
      rintro e w4 ⟨M4, ⟨t4, e1, e0, ep⟩, ⟨rfl, hj4⟩ | ⟨rfl, hj4⟩⟩
      · clear p0 p1 p2 p3 b0 q0 q1 q2 q3 q4
        obtain ⟨p0, p1, p2, p3⟩ := cells4 (ep.trans hp3)
        have hB14 := e1.trans hB13
        have f0 := frz0 hB14 0
        have f1 := frz0 hB14 1
        have f2 := frz0 hB14 2
        have f3 := frz0 hB14 3
        have f4 := frz0 hB14 4
        obtain ⟨q0, q1, q2, q3, q4⟩ := cells5 (show w4.heap[W.heap.size + 1]? = some (.cells #[.int .i64 9, .int .i32 0, .int .i64 x, .int .i64 (x + 1), .bool true] 124 (0, 0)) from hB14)
        have hB04 := e0.trans hB03
        clear e1 e0 ep
        gi_wp2_with fail
        exact fin M4 w4 _ t4 hB04 (by rw [List.range_succ]; exact hj4) (only_set5 _ _ _ _ _ _ _) (show _ = some (Obj.cells #[.int .i64 9, .int .i32 0, .int .i64 (x + 1), .int .i64 (x + 1 + 1), .bool true] 124 (0, 0)) from set5 hB14 _ _ _ _ _) _
      · clear p0 p1 p2 p3 b0 q0 q1 q2 q3 q4 e1 e0 ep
        gi_wp2_with fail
        refine ⟨fun j => M4 j ∨ j = W.heap.size + 1, ⟨?_, fun j hj => ?_, fun j hj => ?_⟩, rfl, _, M4, rfl, ?_, ?_, hj4⟩
        · exact ((Only.of_below hb3).mono (fun j hj hh => by omega)).trans (t4.only.mono (fun j _ h => .inl h))
        · rcases hj with hj | hj
          · rcases t4.own j hj with h | h
            · exact .inl (.inl h)
            · exact .inr (Nat.le_trans hb3.size h)
          · exact .inl (.inr hj)
        · rcases hj with hj | hj
          · exact t4.lt j hj
          · have := lt_of_block hB13; have := t4.only.size; omega
        · rw [Hx.out, List.range_succ]; exact ⟨(x + 1) :: rest, by simp⟩
        · exact (h7.upto ho3 (fun j hj => by omega)).trans t4
  case done =>
    rintro D W1 M1 hD hDM t1 ⟨k, Mo, hk, rfl, h3, h4, h5, h6, h7, h8⟩ hK
    have hkn : k = s.size := by have := congrArg List.length hk; simpa using this.symm
    have hDo : ¬ Mo D := fun h => hDM (.inl h)
    have b0 := cells1 h6
    have hDlt := lt_of_block hK
    have Hk := Lib.hid hkn
    clear hk hkn
    cases k with
    | zero =>
      obtain ⟨q0, q1, q2, q3, q4⟩ := cells5 (show W1.heap[W.heap.size + 1]? = some (.cells #[.int .i64 0, .int .i32 0, .int .i64 0, .int .i64 0, .bool false] 124 (0, 0)) from h5)
      gi_wp2
      refine ⟨by simp, .inl ⟨_, _, rfl, run_takeDeferred hK, ?_⟩⟩
      exact ⟨_, results_none rfl _ _ _, ⟨_, rfl⟩, _, h7.upto (X := fun j => j = D) (Only.putObj (M := fun j => j = D) (Only.refl _ _) (.inl rfl) _) (fun j hj => by omega), .inl (by rw [← Hk.out]; exact hJ _ _ _ _ h8 ((Only.refl _ _).putObj (.inl ⟨hDo, by omega⟩) _))⟩
    | succ k =>
      obtain ⟨q0, q1, q2, q3, q4⟩ := cells5 (show W1.heap[W.heap.size + 1]? = some (.cells #[.int .i64 9, .int .i32 0, .int .i64 k, .int .i64 (k + 1), .bool true] 124 (0, 0)) from h5)
      obtain ⟨fn, tmps, assign, body, hy, hR⟩ := hY (List.range k) k [] W1 Mo (by rw [← Hk.out, List.range_succ]) (by have := h7.only.size; omega) h7.lt h8
      have hR := hR 2
      unfold unit0 at hy
      gi_wp2_with fail
      refine hR.mono ?_
      rintro e w4 ⟨M4, t4, ⟨rfl, hj4⟩ | ⟨rfl, hj4⟩⟩
      all_goals
        have hK4 := t4.only.obj hK hDo
        have hD4 : ¬ M4 D := fun h => by rcases t4.own _ h with h | h; exact hDo h; omega
        gi_wp2
        refine ⟨by simp, .inl ⟨_, _, rfl, run_takeDeferred hK4, ?_⟩⟩
      · exact ⟨_, results_none rfl _ _ _, ⟨_, rfl⟩, M4, (h7.trans t4).upto (X := fun j => j = D) (Only.putObj (M := fun j => j = D) (Only.refl _ _) (.inl rfl) _) (fun j hj => by omega), .inl (by rw [← Hk.out, List.range_succ]; exact hJ _ _ _ _ hj4 ((Only.refl _ _).putObj (.inl ⟨hD4, by omega⟩) _))⟩
      · exact ⟨_, results_none rfl _ _ _, ⟨_, rfl⟩, M4, (h7.trans t4).upto (X := fun j => j = D) (Only.putObj (M := fun j => j = D) (Only.refl _ _) (.inl rfl) _) (fun j hj => by omega), .inr ⟨_, by rw [← Hk.out, List.range_succ]; exact List.prefix_refl _, hJx _ _ _ _ hj4 ((Only.refl _ _).putObj (.inl ⟨hD4, by omega⟩) _)⟩⟩
  case stop =>
    rintro D c pre W1 M1 hD hDM t1 hpre ⟨rfl, p, Mo, rfl, h3, h7, h8⟩ hK
    have hDo : ¬ Mo D := fun h => hDM (.inl h)
    gi_wp2
    refine ⟨by simp, .inl ⟨_, _, rfl, run_takeDeferred hK, ?_⟩⟩
    exact ⟨_, results_none rfl _ _ _, ⟨_, rfl⟩, Mo, h7.upto (X := fun j => j = D) (Only.putObj (M := fun j => j = D) (Only.refl _ _) (.inl rfl) _) (fun j hj => by omega), .inr ⟨p, h3, hJx _ _ _ _ h8 ((Only.refl _ _).putObj (.inl ⟨hDo, by omega⟩) _)⟩⟩
end Go.Proofs.YtnebeadjkbjpcaaGreat
