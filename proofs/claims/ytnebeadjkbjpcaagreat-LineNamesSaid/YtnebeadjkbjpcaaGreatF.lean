/- The iterator over the tokens of a text of NULs. No condition beyond that. -/
import Derived.Test.YtnebeadjkbjpcaaGreatE
namespace Go.Proofs.YtnebeadjkbjpcaaGreat
open Go Go.RowKit Go.Shelf Go.It
attribute [local go_sem] Oper.semAt_some

/-- The token at a place of a text of NULs. -/
def token0 (p : Nat) : Value := .agg #[.int .i64 6, .int .i64 p, .int .i64 (p + 1)]
/-- The scanner when k units have come. -/
def scanAt : Nat → Array Value
  | 0 => scan0 0 0 0 0
  | k + 1 => scan0 9 6 k (k + 1)

set_option maxHeartbeats 400000 in
theorem scan_call (s : ByteArray) (w : World) :
    Calls Tryz.prog 39 #[.string s] w fun e w' => e = .returned (.func (.func 47) #[] #[.pointer (some ⟨w.heap.size, 0, none⟩)]) ∧ w' = w.alloc (.cells #[.string s] 9) := by
  go_enter Tryz.func39, Tryz.ntmps39
  go_wp2
  go_ret
  exact ⟨rfl, rfl⟩

/-- Between two rounds: k units have come. -/
def ScanI (l : Nat) (W : World) (M : Nat → Prop) (J : List Nat → World → (Nat → Prop) → Prop) (pre : List Nat) (W' : World) (M' : Nat → Prop) : Prop :=
  ∃ (k : Nat) (Mo : Nat → Prop), pre = List.range k ∧ M' = (fun j => Mo j ∨ j = W.heap.size + 1) ∧ ¬ Mo W.heap.size ∧ ¬ Mo (W.heap.size + 1) ∧ W'.heap[W.heap.size + 1]? = some (.cells (scanAt k) 126 (0, 0)) ∧
    W'.heap[W.heap.size]? = some (.cells #[.func (.yield l) #[] #[]] 121 (0, 0)) ∧ Turn W M W' Mo ∧ J (List.range (k - 1)) W' Mo

set_option maxHeartbeats 1000000 in
theorem scan1 (s : ByteArray) (hs : Nuls s) (b : Nat) (w : World) (hz : s.size ≤ 100000) (hb : w.heap[b]? = some (.cells #[.string s] 9 (0, 0))) :
    IterG Tryz.prog 47 #[.pointer (some ⟨b, 0, none⟩)] (fun p : Nat => #[token0 p]) (List.range s.size) (fun k => k = b) w := by
  intro l J Jx W M hO hN hM hJ hJx hY h0
  have hbW : W.heap[b]? = some (.cells #[.string s] 9 (0, 0)) := hO.obj hb (by simp)
  have hnb : ¬ M b := hN b rfl
  have hlb := lt_of_block hbW
  have hcW : W.cell? ⟨b, 0, none⟩ = some (.string s) := by simp [World.cell?, hbW]
  have hpc := units_call s
  refine (callsIn_wide (n := 3)).1 ?_
  refine callsIn_of_wp_marks Tryz.func47 rfl trivial ?_ rfl
  simp only [Tryz.ntmps47, List.size_toArray, List.length_cons, List.length_nil, Nat.reduceAdd, Nat.reduceSub, Array.replicate_succ, Array.replicate_zero, List.push_toArray, List.append_toArray, List.nil_append, List.cons_append]
  gi_wp2_with fail
  refine (callsIn_wide.2 (hpc _)).mono ?_
  rintro e w2 ⟨rfl, hw2⟩
  have hz2 : Hid (w2.heap.size = W.heap.size + 3) := by show _ = _; rw [hw2]; simp
  have hB0 : w2.heap[W.heap.size]? = some (.cells #[.func (.yield l) #[] #[]] 121 (0, 0)) := by
    rw [hw2]; simp only [heap_alloc_if, World.size_alloc]; (repeat (first | rw [if_pos trivial] | rw [if_neg (by omega)])); try rfl
  have hB1 : w2.heap[W.heap.size + 1]? = some (.cells (scanAt 0) 126 (0, 0)) := by
    rw [hw2]; simp only [heap_alloc_if, World.size_alloc]; (repeat (first | rw [if_pos trivial] | rw [if_neg (by omega)])); try rfl
  have hB2 : w2.heap[W.heap.size + 1 + 1]? = some (.cells #[.string s] 9 (0, 0)) := by
    rw [hw2]; simp only [heap_alloc_if, World.size_alloc]; (repeat (first | rw [if_pos trivial] | rw [if_neg (by omega)])); try rfl
  have hO2 : ∀ X : Nat → Prop, Only X W w2 := fun X => by rw [hw2]; exact (((Only.refl _ _).alloc _).alloc _).alloc _
  clear hw2
  have hn0 : ¬ M W.heap.size := fun h => by have := hM _ h; omega
  have hn1 : ¬ M (W.heap.size + 1) := fun h => by have := hM _ h; omega
  have hps : ∀ x : Nat, (#[.agg (unit0 x)] : Array Value).size = 1 := fun _ => rfl
  gi_wp2_with fail
  have hz2' := hz2.out
  refine wp_rangeG (n := 3) (gf := 69) (lb := #[.pointer (some ⟨W.heap.size + 1 + 1, 0, none⟩)]) rfl (enters_of Tryz.func69 (by kernel_rfl) rfl) (units1 s hs (W.heap.size + 1 + 1) w2 hz hB2) (Only.refl _ _) hps
    (ScanI l W M J)
    (UnitsX s.size W M Jx)
    (fun j => M j ∨ j = W.heap.size + 1) (fun j hj => by rcases hj with h | h; have := hM j h; omega; omega)
    (fun j hj => ⟨by omega, by rintro (h | h); have := hM j h; omega; omega⟩)
    ?sI ?sIx ?start ?rounds ?done ?stop
  case sI =>
    rintro pre W1 W1' M1 ⟨k, Mo, h1, rfl, h3, h4, h5, h6, h7, h8⟩ ho
    refine ⟨k, Mo, h1, rfl, h3, h4, ho.obj h5 (fun h => h.1 (.inr rfl)), ho.obj h6 (fun h => by omega), h7.upto ho (fun j hj => by omega), hJ _ _ _ _ h8 (ho.mono (fun j _ hh => ⟨fun h => hh.1 (.inl h), by omega⟩))⟩
  case sIx =>
    rintro c pre W1 W1' M1 ⟨rfl, p, Mo, rfl, h3, h7, h8⟩ ho
    exact ⟨rfl, p, Mo, rfl, h3, h7.upto ho (fun j hj => by omega), hJx _ _ _ _ h8 (ho.mono (fun j _ hh => ⟨fun h => hh.1 (.inl h), by omega⟩))⟩
  case start =>
    exact ⟨0, M, rfl, rfl, hn0, hn1, hB1, hB0, Turn.of_only (hO2 _) hM, hJ _ _ _ _ h0 (hO2 _)⟩
  case rounds =>
    rintro lr pre x rest W1 M1 hx hl1 hl2 hl3 hl4 hsz hM1 ⟨k, Mo, rfl, rfl, h3, h4, h5, h6, h7, h8⟩
    obtain ⟨rfl, hk⟩ : x = k ∧ k < s.size := range_at hx
    unfold unit0
    have Hx := Lib.hid hx
    clear hx
    gi_wp2
    refine ⟨_, Turn.of_only ((Only.refl _ _).alloc _) hM1, fun W2 hW2 rl hlW2 => ?_⟩
    have hp : W2.heap[W1.heap.size]? = some (.cells (#[.int .i64 9, .int .i32 0, .int .i64 x, .int .i64 (x + 1), .bool true] : Array Value) 124 (0, 0)) := hW2.obj (World.alloc_heap_new _ _) (by omega)
    have hB1' : W2.heap[W.heap.size + 1]? = some (.cells (scanAt x) 126 (0, 0)) :=
      hW2.obj ((Below.heap_alloc _ _ _ (lt_of_block h5)).trans h5) (by omega)
    have hB0' : W2.heap[W.heap.size]? = some (.cells #[.func (.yield l) #[] #[]] 121 (0, 0)) :=
      hW2.obj ((Below.heap_alloc _ _ _ (lt_of_block h6)).trans h6) (by omega)
    have ho2 : Only (fun j => ¬ Mo j ∧ W.heap.size + 1 < j) W1 W2 := ((Only.refl _ _).alloc _).trans (hW2.mono (fun j _ hj => by subst hj; exact ⟨fun h => hl3 (.inl h), by omega⟩))
    have hn1 : ¬ (Mo W1.heap.size) := fun h => by have := hM1 _ (.inl h); omega
    obtain ⟨p0, p1, p2, p3, p4⟩ := cells5 hp
    have hof : Calls Tryz.prog 49 #[.pointer (some ⟨W.heap.size + 1, 0, none⟩), .agg (unit0 x)] W2 fun e w' => e = .returned (.int .i64 0) ∧ Below W2.heap.size W2 w' := by
      cases x with
      | zero => exact fits0 _ _ _ _ _ _ _ (.inl rfl) hB1'
      | succ x => exact fits0 _ _ _ _ _ _ _ (.inr rfl) hB1'
    unfold unit0 at hof
    gi_wp2_with fail
    refine wpIn_scope_straight ?_
    gi_wp2_with fail
    refine (CallsIn.inRound lr (callsIn_wide.2 hof)).mono ?_
    rintro e w3 ⟨rfl, hb3⟩
    have hp3 := (hb3.block _ (lt_of_block hp)).trans hp
    have hB13 := (hb3.block _ (lt_of_block hB1')).trans hB1'
    have hB03 := (hb3.block _ (lt_of_block hB0')).trans hB0'
    have ho3 := ho2.then_below hb3
    clear hp hB1' hB0' ho2 p0 p1 p2 p3 p4 hof
    have b0 := cells1 hB03
    have fin : ∀ (Mx : Nat → Prop) (wa wb : World), Turn w3 Mo wa Mx → wa.heap[W.heap.size]? = some (.cells #[.func (.yield l) #[] #[]] 121 (0, 0)) → J (List.range x) wa Mx →
        Only (fun j => j = W.heap.size + 1) wa wb → wb.heap[W.heap.size + 1]? = some (.cells (scanAt (x + 1)) 126 (0, 0)) → ∀ a,
        postG (ScanI l W M J) (UnitsX s.size W M Jx) (List.range x ++ [x]) W2 (fun j => Mo j ∨ j = W.heap.size + 1) .normal a wb := by
      intro Mx wa wb ta hy0 hja hob hu a
      have ha0 : ¬ Mx W.heap.size := fun h => by rcases ta.own _ h with h | h; exact h3 h; have := ho3.size; omega
      have ha1 : ¬ Mx (W.heap.size + 1) := fun h => by rcases ta.own _ h with h | h; exact h4 h; have := ho3.size; omega
      refine ⟨fun j => Mx j ∨ j = W.heap.size + 1, ⟨?_, fun j hj => ?_, fun j hj => ?_⟩, x + 1, Mx, by rw [List.range_succ], rfl, ha0, ha1, hu, hob.obj hy0 (by omega), ?_, ?_⟩
      · exact ((Only.of_below hb3).mono (fun j hj hh => by omega)).trans (((ta.only.mono (fun j _ h => .inl h)).trans (hob.mono (fun j _ h => .inr h))))
      · rcases hj with hj | hj
        · rcases ta.own j hj with h | h
          · exact .inl (.inl h)
          · exact .inr (Nat.le_trans hb3.size h)
        · exact .inl (.inr hj)
      · have := hob.size
        rcases hj with hj | hj
        · have := ta.lt j hj; omega
        · have := lt_of_block hu; omega
      · exact ((h7.upto ho3 (fun j hj => by omega)).trans ta).upto hob (fun j hj => by omega)
      · exact hJ _ _ _ _ hja (hob.mono (fun j _ hj => by subst hj; exact ⟨ha1, by omega⟩))
    have hend : Calls Tryz.prog 50 #[.pointer (some ⟨W.heap.size + 1, 0, none⟩), .func (.yield l) #[] #[]] w3 fun e w4 => ∃ M4, Turn w3 Mo w4 M4 ∧ ((e = .returned (.bool true) ∧ J (List.range x) w4 M4) ∨ (e = .returned (.bool false) ∧ Jx (List.range x) w4 M4)) := by
      have h83 := hJ _ _ _ _ h8 (ho3.mono (fun j _ hj => ⟨hj.1, by omega⟩))
      have hlt3 : ∀ j, Mo j → j < w3.heap.size := fun j hj => Nat.lt_of_lt_of_le (hM1 j (.inl hj)) ho3.size
      cases x with
      | zero =>
        refine (end0 _ l _ _ _ _ hB13).mono ?_
        rintro e w4 ⟨rfl, rfl⟩
        exact ⟨Mo, Turn.refl hlt3, .inl ⟨rfl, h83⟩⟩
      | succ x =>
        have hy := hY (List.range x) x ((x + 1) :: rest) w3 Mo (by rw [Hx.out, List.range_succ]; simp) (by have := hO2 (fun _ => False); have := this.size; have := ho3.size; omega) hlt3 h83
        refine (end9 _ l _ _ _ _ _ hB13 hy (by rintro e w' ⟨M', _, ⟨rfl, _⟩ | ⟨rfl, _⟩⟩ <;> exact ⟨_, rfl⟩)).mono ?_
        rw [List.range_succ]
        exact fun e w' h => h
    gi_wp2_with fail
    refine (CallsIn.inRound lr (callsIn_wide.2 hend)).mono ?_
    rintro e w4 ⟨M4, t4, ⟨rfl, hj4⟩ | ⟨rfl, hj4⟩⟩
    · have hp4 := t4.only.obj hp3 hn1
      have hB14 := t4.only.obj hB13 h4
      have hB04 := t4.only.obj hB03 h3
      have hbg := begin0 _ x _ _ _ _ w4 (show w4.heap[W.heap.size + 1]? = some (Obj.cells (scan0 (if x = 0 then 0 else 9) (if x = 0 then 0 else 6) ((x - 1 : Nat) : Int) (x : Int)) 126 (0, 0)) by rw [hB14]; cases x <;> rfl)
      clear b0 hp3 hB13 hB03 hend
      obtain ⟨p0, p1, p2, p3, p4⟩ := cells5 hp4
      unfold unit0 at hbg
      gi_wp2_with fail
      refine (CallsIn.inRound lr (callsIn_wide.2 hbg)).mono ?_
      rintro e w5 ⟨rfl, ho5, hu5⟩
      gi_wp2_with fail
      exact fin M4 w4 w5 t4 hB04 hj4 ho5 hu5 { tmps := #[], defers := [] }
    · clear b0 hend
      gi_wp2_with fail
      refine ⟨fun j => M4 j ∨ j = W.heap.size + 1, ⟨?_, fun j hj => ?_, fun j hj => ?_⟩, rfl, _, M4, rfl, ?_, ?_, hj4⟩
      · exact ((Only.of_below hb3).mono (fun j hj hh => by omega)).trans (t4.only.mono (fun j _ h => .inl h))
      · rcases hj with hj | hj
        · rcases t4.own j hj with h | h
          · exact .inl (.inl h)
          · exact .inr (Nat.le_trans hb3.size h)
        · exact .inl (.inr hj)
      · rcases hj with hj | hj
        · exact t4.lt j hj
        · have := lt_of_block hB13; have := t4.only.size; omega
      · rw [Hx.out]; exact ⟨x :: rest, rfl⟩
      · exact (h7.upto ho3 (fun j hj => by omega)).trans t4
  case done =>
    rintro D W1 M1 hD hDM t1 ⟨k, Mo, hk, rfl, h3, h4, h5, h6, h7, h8⟩ hK
    have hkn : k = s.size := by have := congrArg List.length hk; simpa using this.symm
    have hDo : ¬ Mo D := fun h => hDM (.inl h)
    have b0 := cells1 h6
    have hDlt := lt_of_block hK
    have Hk := Lib.hid hkn
    clear hk hkn
    cases k with
    | zero =>
      have hend := end0 _ l _ _ _ _ h5
      gi_wp2_with fail
      refine (callsIn_wide.2 hend).mono ?_
      rintro e w4 ⟨rfl, rfl⟩
      gi_wp2
      refine ⟨by simp, .inl ⟨_, _, rfl, run_takeDeferred hK, ?_⟩⟩
      exact ⟨_, results_none rfl _ _ _, ⟨_, rfl⟩, _, h7.upto (X := fun j => j = D) (Only.putObj (M := fun j => j = D) (Only.refl _ _) (.inl rfl) _) (fun j hj => by omega), .inl (by rw [← Hk.out]; exact hJ _ _ _ _ h8 ((Only.refl _ _).putObj (.inl ⟨hDo, by omega⟩) _))⟩
    | succ k =>
      have hy := hY (List.range k) k [] W1 Mo (by rw [← Hk.out, List.range_succ]) (by have := h7.only.size; omega) h7.lt h8
      have hend := end9 _ l _ _ _ _ _ h5 hy (by rintro e w' ⟨M', _, ⟨rfl, _⟩ | ⟨rfl, _⟩⟩ <;> exact ⟨_, rfl⟩)
      clear hy
      gi_wp2_with fail
      refine (callsIn_wide.2 hend).mono ?_
      rintro e w4 ⟨M4, t4, ⟨rfl, hj4⟩ | ⟨rfl, hj4⟩⟩
      all_goals
        have hK4 := t4.only.obj hK hDo
        have hD4 : ¬ M4 D := fun h => by rcases t4.own _ h with h | h; exact hDo h; omega
        gi_wp2
        refine ⟨by simp, .inl ⟨_, _, rfl, run_takeDeferred hK4, ?_⟩⟩
      · exact ⟨_, results_none rfl _ _ _, ⟨_, rfl⟩, M4, (h7.trans t4).upto (X := fun j => j = D) (Only.putObj (M := fun j => j = D) (Only.refl _ _) (.inl rfl) _) (fun j hj => by omega), .inl (by rw [← Hk.out, List.range_succ]; exact hJ _ _ _ _ hj4 ((Only.refl _ _).putObj (.inl ⟨hD4, by omega⟩) _))⟩
      · exact ⟨_, results_none rfl _ _ _, ⟨_, rfl⟩, M4, (h7.trans t4).upto (X := fun j => j = D) (Only.putObj (M := fun j => j = D) (Only.refl _ _) (.inl rfl) _) (fun j hj => by omega), .inr ⟨_, by rw [← Hk.out, List.range_succ]; exact List.prefix_refl _, hJx _ _ _ _ hj4 ((Only.refl _ _).putObj (.inl ⟨hD4, by omega⟩) _)⟩⟩
  case stop =>
    rintro D c pre W1 M1 hD hDM t1 hpre ⟨rfl, p, Mo, rfl, h3, h7, h8⟩ hK
    have hDo : ¬ Mo D := fun h => hDM (.inl h)
    gi_wp2
    refine ⟨by simp, .inl ⟨_, _, rfl, run_takeDeferred hK, ?_⟩⟩
    exact ⟨_, results_none rfl _ _ _, ⟨_, rfl⟩, Mo, h7.upto (X := fun j => j = D) (Only.putObj (M := fun j => j = D) (Only.refl _ _) (.inl rfl) _) (fun j hj => by omega), .inr ⟨p, h3, hJx _ _ _ _ h8 ((Only.refl _ _).putObj (.inl ⟨hDo, by omega⟩) _)⟩⟩
end Go.Proofs.YtnebeadjkbjpcaaGreat
