/- 'line.New' at a text of NULs. No condition beyond that. -/
import Derived.Test.YtnebeadjkbjpcaaGreatG
namespace Go.Proofs.YtnebeadjkbjpcaaGreat
open Go Go.RowKit Go.Shelf Go.It

/-- A line without words. -/
def line0 (s : ByteArray) (ways : Value) : Array Value := #[.string s, .slice none 0 0, .slice none 0 0, .slice none 0 0, ways]

def Count0 (s : ByteArray) (b : Nat) (w w' : World) : Prop :=
  Only (fun j => j = b) w w' ∧ w'.heap[b]? = some (.cells (line0 s (.slice (some ⟨w.heap.size, 0, none⟩) 1 1)) 60 (0, 0)) ∧ w'.heap[w.heap.size]? = some (.cells #[.int .i64 1, .int .i64 0] 101 (0, 0))

set_option maxRecDepth 100000 in
set_option maxHeartbeats 1000000 in
theorem count0 (s : ByteArray) (b : Nat) (w : World) (hb : w.heap[b]? = some (.cells (line0 s (.slice none 0 0)) 60 (0, 0))) :
    Calls Tryz.prog 33 #[.pointer (some ⟨b, 0, none⟩)] w fun e w' => e = .returned (.tuple #[]) ∧ Count0 s b w w' := by
  obtain ⟨c0, c1, c2, c3, c4⟩ := cells5 hb
  have f4 := frz0 hb 4
  have hlt := lt_of_block hb
  have hmk : ∀ w, (Instr.makeSlice 58 (.int .i64 1) (.int .i64 1)).run Tryz.prog w = .ok (.slice (some ⟨w.heap.size, 0, none⟩) 1 1) (w.alloc (.cells #[.int .i64 0, .int .i64 0] 101)) := fun _ => by kernel_rfl
  go_enter Tryz.func33, Tryz.ntmps33
  go_wp2_with fail
  refine wp_loop_rounds 1 ?_
  rw [rounds_succ]
  go_wp2_with fail
  refine wp_loop_rounds 1 ?_
  rw [rounds_succ]
  go_wp2_with fail
  go_end0
  have hs := heap_setCell_at hb 4 (.slice (some ⟨w.heap.size, 0, none⟩) 1 1)
  exact ⟨rfl, (only_set_refl _ _ _ _).alloc _, (Below.heap_alloc _ _ _ (lt_of_block hs)).trans hs, by rw [heap_alloc_if, if_pos (by simp [World.setCell])]⟩

def Made (w w' : World) (e : Ending) : Prop := ∃ a : Addr, e = .returned (.pointer (some a)) ∧ Below w.heap.size w w'
set_option maxHeartbeats 1000000 in
theorem lexNew (w : World) :
    Calls Tryz.prog 13 #[.pointer none] w fun e w' => Made w w' e := by
  have hmm := @run_makeMap Tryz.prog
  go_enter Tryz.func13, Tryz.ntmps13
  go_wp2
  go_ret
  exact ⟨_, rfl, (((Below.refl _ _).alloc (Nat.le_refl _) _).alloc (by simp) _).alloc (by simp; omega) _⟩

/-- What 'line.New' leaves at a text of NULs. -/
def New0 (s : ByteArray) (w : World) (e : Ending) (w' : World) : Prop :=
  ∃ b g : Nat, e = .returned (.tuple #[.pointer (some ⟨b, 0, none⟩), .int .i64 0]) ∧ w.heap.size ≤ b ∧ w.heap.size ≤ g ∧ g ≠ b ∧ w'.heap[b]? = some (.cells (line0 s (.slice (some ⟨g, 0, none⟩) 1 1)) 60 (0, 0)) ∧
    w'.heap[g]? = some (.cells #[.int .i64 1, .int .i64 0] 101 (0, 0)) ∧ Below w.heap.size w w'

set_option maxRecDepth 100000 in
set_option maxHeartbeats 1000000 in
theorem new0 (s : ByteArray) (hs : Nuls s) (hz : s.size ≤ 1024) (a : Addr) (w : World) :
    Calls Tryz.prog 12 #[.pointer (some a), .int .i64 4, .string s] w fun e w' => New0 s w e w' := by
  have hpc := words_call s
  refine (callsIn_wide (n := 3)).1 ?_
  refine callsIn_of_wp_marks Tryz.func12 rfl trivial ?_ rfl
  simp only [Tryz.ntmps12, List.size_toArray, List.length_cons, List.length_nil, Nat.reduceAdd, Nat.reduceSub, Array.replicate_succ, Array.replicate_zero, List.push_toArray, List.append_toArray, List.nil_append, List.cons_append]
  gi_wp2_with fail
  refine (callsIn_wide.2 (hpc _)).mono ?_
  rintro e w2 ⟨rfl, hw2⟩
  have hz2 : Hid (w2.heap.size = w.heap.size + 9) := by show _ = _; rw [hw2]; simp
  have h3 : w2.heap[w.heap.size + 1 + 1 + 1]? = some (.cells #[.pointer none] 23 (0, 0)) := by
    rw [hw2]; simp only [heap_alloc_if, World.size_alloc]; (repeat (first | rw [if_pos trivial] | rw [if_neg (by omega)])); try rfl
  have h4 : w2.heap[w.heap.size + 1 + 1 + 1 + 1]? = some (.cells #[.int .i64 0] 26 (0, 0)) := by
    rw [hw2]; simp only [heap_alloc_if, World.size_alloc]; (repeat (first | rw [if_pos trivial] | rw [if_neg (by omega)])); try rfl
  have h5 : w2.heap[w.heap.size + 1 + 1 + 1 + 1 + 1]? = some (.cells (line0 s (.slice none 0 0)) 60 (0, 0)) := by
    rw [hw2]; simp only [heap_alloc_if, World.size_alloc]; (repeat (first | rw [if_pos trivial] | rw [if_neg (by omega)])); try rfl
  have h6 : w2.heap[w.heap.size + 1 + 1 + 1 + 1 + 1 + 1]? = some (.cells #[.pointer (some ⟨w.heap.size + 1 + 1 + 1 + 1 + 1, 0, none⟩)] 23 (0, 0)) := by
    rw [hw2]; simp only [heap_alloc_if, World.size_alloc]; (repeat (first | rw [if_pos trivial] | rw [if_neg (by omega)])); try rfl
  have h7 : w2.heap[w.heap.size + 1 + 1 + 1 + 1 + 1 + 1 + 1]? = some (.cells #[.int .i64 0] 3 (0, 0)) := by
    rw [hw2]; simp only [heap_alloc_if, World.size_alloc]; (repeat (first | rw [if_pos trivial] | rw [if_neg (by omega)])); try rfl
  have h8 : w2.heap[w.heap.size + 1 + 1 + 1 + 1 + 1 + 1 + 1 + 1]? = some (.cells #[.string s] 9 (0, 0)) := by
    rw [hw2]; simp only [heap_alloc_if, World.size_alloc]; (repeat (first | rw [if_pos trivial] | rw [if_neg (by omega)])); try rfl
  have hbe : Below w.heap.size w w2 := by
    rw [hw2]; exact ((((((((((Below.refl _ _).alloc (Nat.le_refl _) _).alloc (by simp) _).alloc (by simp; omega) _).alloc (by simp; omega) _).alloc (by simp; omega) _).alloc (by simp; omega) _).alloc (by simp; omega) _).alloc (by simp; omega) _).alloc (by simp; omega) _)
  clear hw2
  have hps : ∀ x : Nat, (#[.agg #[.int .i64 0, .int .i64 x]] : Array Value).size = 1 := fun _ => rfl
  gi_wp2_with fail
  have hz2' := hz2.out
  refine wp_rangeG (n := 3) (gf := 38) (lb := #[.pointer (some ⟨w.heap.size + 1 + 1 + 1 + 1 + 1 + 1 + 1 + 1, 0, none⟩)]) rfl (enters_of Tryz.func38 (by kernel_rfl) rfl) (words1 s hs (w.heap.size + 1 + 1 + 1 + 1 + 1 + 1 + 1 + 1) w2 (by omega) h8 _) (Only.refl _ _) hps
    (fun _ _ _ => True) NoX (fun _ => False) (fun j hj => hj.elim) (fun j hj => ⟨by omega, fun h => h⟩) ?sI ?sIx trivial ?rounds ?done ?stop
  case sI => exact fun _ _ _ _ _ _ => trivial
  case sIx => exact fun c s A B M' h _ => h
  case rounds =>
    rintro lr pre x rest W1 M1 hx
    simp at hx
  case stop => rintro D c pre W1 M1 hD hDM t1 hpre h hK; exact h.elim
  case done =>
    rintro D W1 M1 hD hDM t1 _ hK
    have ho := t1.only
    replace h3 := ho.obj h3 (fun h => h)
    replace h4 := ho.obj h4 (fun h => h)
    replace h5 := ho.obj h5 (fun h => h)
    replace h6 := ho.obj h6 (fun h => h)
    replace h7 := ho.obj h7 (fun h => h)
    have c3 := cells1 h3
    have c4 := cells1 h4
    have c6 := cells1 h6
    have c7 := cells1 h7
    have hDlt := lt_of_block hK
    have hct := count0 s (w.heap.size + 1 + 1 + 1 + 1 + 1) W1 h5
    gi_wp2_with fail
    refine (callsIn_wide.2 hct).mono ?_
    rintro e w4 ⟨rfl, ho4, hl4, hg4⟩
    have hK4 := ho4.obj hK (by omega)
    have h34 := ho4.obj h3 (by omega)
    have h44 := ho4.obj h4 (by omega)
    have h64 := ho4.obj h6 (by omega)
    clear c3 c4 c6 c7
    have c3 := cells1 h34
    have c4 := cells1 h44
    have c6 := cells1 h64
    have f3 := frz0 h34 0
    have f4 := frz0 h44 0
    gi_wp2_with fail
    obtain ⟨w5, hw5⟩ : ∃ w5, (w4.setCell ⟨w.heap.size + 1 + 1 + 1, 0, none⟩ (.pointer (some ⟨w.heap.size + 1 + 1 + 1 + 1 + 1, 0, none⟩))).setCell ⟨w.heap.size + 1 + 1 + 1 + 1, 0, none⟩ (.int .i64 0) = w5 := ⟨_, rfl⟩
    have hx3 := heap_setCell_at h34 0 (.pointer (some ⟨w.heap.size + 1 + 1 + 1 + 1 + 1, 0, none⟩))
    have hx4 : (w4.setCell ⟨w.heap.size + 1 + 1 + 1, 0, none⟩ (.pointer (some ⟨w.heap.size + 1 + 1 + 1 + 1 + 1, 0, none⟩))).heap[w.heap.size + 1 + 1 + 1 + 1]? = some (.cells #[.int .i64 0] 26 (0, 0)) := (Below.heap_setCell _ _ _ _ (by simp)).trans h44
    have h45 := heap_setCell_at hx4 0 (.int .i64 0)
    have h35 := (Below.heap_setCell (w4.setCell ⟨w.heap.size + 1 + 1 + 1, 0, none⟩ (.pointer (some ⟨w.heap.size + 1 + 1 + 1 + 1 + 1, 0, none⟩))) ⟨w.heap.size + 1 + 1 + 1 + 1, 0, none⟩ (.int .i64 0) (w.heap.size + 1 + 1 + 1) (by simp)).trans hx3
    have ho5 : Only (fun j => j = w.heap.size + 1 + 1 + 1 ∨ j = w.heap.size + 1 + 1 + 1 + 1) w4 w5 := by
      rw [← hw5]; exact ((Only.refl _ _).setCell (.inl (.inl rfl)) _).setCell (.inl (.inr rfl)) _
    rw [hw5] at h35 h45 ⊢
    clear hw5 hx3 hx4
    have hK5 := ho5.obj hK4 (by omega)
    have hl5 := ho5.obj hl4 (by omega)
    have hg5 := ho5.obj hg4 (by have := t1.only.size; omega)
    have ho6 : Only (fun j => j = D) w5 (w5.putObj D (.deferred none)) := Only.putObj (M := fun j => j = D) (Only.refl _ _) (.inl rfl) _
    refine ⟨by simp, .inl ⟨_, _, rfl, run_takeDeferred hK5, ?_⟩⟩
    have c36 := cells1 (ho6.obj h35 (by omega))
    have c46 := cells1 (ho6.obj h45 (by omega))
    have hl6 := ho6.obj hl5 (by omega)
    have hg6 := ho6.obj hg5 (by omega)
    have hbw : Below w.heap.size w (w5.putObj D (.deferred none)) := by
      have s1 := t1.only.size
      have s4 := ho4.size
      have s5 := ho5.size
      exact (((hbe.trans (t1.only.belowB (fun k hk => hk.elim) (by omega))).trans (ho4.belowB (fun k hk => by omega) (by omega))).trans (ho5.belowB (fun k hk => by omega) (by omega))).trans (ho6.belowB (fun k hk => by omega) (by omega))
    refine ⟨.tuple #[.pointer (some ⟨w.heap.size + 1 + 1 + 1 + 1 + 1, 0, none⟩), .int .i64 0], by simp [results, Tryz.results12, go_sem, c36, c46], ?_⟩
    exact ⟨_, _, rfl, by omega, by have := t1.only.size; omega, by have := t1.only.size; omega, hl6, hg6, hbw⟩
end Go.Proofs.YtnebeadjkbjpcaaGreat
