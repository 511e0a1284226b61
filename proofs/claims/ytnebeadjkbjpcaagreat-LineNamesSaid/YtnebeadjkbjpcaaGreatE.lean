/- The scanner's calls at a text of NULs. No condition beyond that. -/
import Derived.Test.YtnebeadjkbjpcaaGreatD
namespace Go.Proofs.YtnebeadjkbjpcaaGreat
open Go Go.RowKit Go.Shelf Go.It

/-- A scanner. -/
def scan0 (st kd a b' : Int) : Array Value := #[.int .i64 st, .int .i64 kd, .int .i64 a, .int .i64 b', .int .i64 0, .int .i32 0, .int .i64 0, .int .i64 0, .bool false]
theorem scan0_cells {W : World} {b : Nat} {st kd a b' : Int} {t : TypeId} (h : W.heap[b]? = some (.cells (scan0 st kd a b') t (0, 0))) :
    W.cell? ⟨b, 0, none⟩ = some (.int .i64 st) ∧ W.cell? ⟨b, 1, none⟩ = some (.int .i64 kd) ∧ W.cell? ⟨b, 2, none⟩ = some (.int .i64 a) ∧ W.cell? ⟨b, 3, none⟩ = some (.int .i64 b') := by simp [World.cell?, h, scan0]

set_option maxHeartbeats 1000000 in
theorem fits0 (b p : Nat) (st kd a b' : Int) (w : World) (hst : st = 0 ∨ st = 9) (hb : w.heap[b]? = some (.cells (scan0 st kd a b') 126 (0, 0))) :
    Calls Tryz.prog 49 #[.pointer (some ⟨b, 0, none⟩), .agg (unit0 p)] w fun e w' => e = .returned (.int .i64 0) ∧ Below w.heap.size w w' := by
  obtain ⟨c0, _, _, _⟩ := scan0_cells hb
  have hlt := lt_of_block hb
  unfold unit0
  rcases hst with rfl | rfl
  all_goals
    go_enter Tryz.func49, Tryz.ntmps49
    go_wp2
    go_ret
    exact ⟨rfl, (Below.refl _ _).alloc (Nat.le_refl _) _⟩

set_option maxHeartbeats 1000000 in
theorem begin0 (b p : Nat) (st kd a b' : Int) (w : World) (hb : w.heap[b]? = some (.cells (scan0 st kd a b') 126 (0, 0))) :
    Calls Tryz.prog 51 #[.pointer (some ⟨b, 0, none⟩), .agg (unit0 p)] w fun e w' => e = .returned (.tuple #[]) ∧ Only (fun j => j = b) w w' ∧ w'.heap[b]? = some (.cells (scan0 9 6 p (p + 1)) 126 (0, 0)) := by
  obtain ⟨c0, c1, c2, c3⟩ := scan0_cells hb
  have f0 := frz0 hb 0
  have f1 := frz0 hb 1
  have f2 := frz0 hb 2
  have f3 := frz0 hb 3
  have hlt := lt_of_block hb
  unfold unit0
  go_enter Tryz.func51, Tryz.ntmps51
  go_wp2
  go_end0
  have hd := heap_setCell_at (heap_setCell_at (heap_setCell_at (heap_setCell_at hb 1 (.int .i64 6)) 2 (.int .i64 p)) 3 (.int .i64 (p + 1))) 0 (.int .i64 9)
  exact ⟨rfl, ((((only_set_refl _ _ _ _).set_ _ _).set_ _ _).set_ _ _).alloc _, (Below.heap_alloc _ _ _ (lt_of_block hd)).trans hd⟩

theorem end0 (b l : Nat) (w : World) (kd a b' : Int) (hb : w.heap[b]? = some (.cells (scan0 0 kd a b') 126 (0, 0))) :
    Calls Tryz.prog 50 #[.pointer (some ⟨b, 0, none⟩), .func (.yield l) #[] #[]] w fun e w' => e = .returned (.bool true) ∧ w = w' := by
  obtain ⟨c0, c1, c2, c3⟩ := scan0_cells hb
  go_enter Tryz.func50, Tryz.ntmps50
  go_wp2
  go_ret
  exact ⟨rfl, rfl⟩

theorem end9 (b l : Nat) (w : World) (kd a b' : Int) (R : Ending → World → Prop) (hb : w.heap[b]? = some (.cells (scan0 9 kd a b') 126 (0, 0)))
    (hY : YieldW Tryz.prog l #[.agg #[.int .i64 kd, .int .i64 a, .int .i64 b']] w R) (hR : ∀ e w', R e w' → ∃ v, e = .returned (.bool v)) :
    Calls Tryz.prog 50 #[.pointer (some ⟨b, 0, none⟩), .func (.yield l) #[] #[]] w R := by
  obtain ⟨c0, c1, c2, c3⟩ := scan0_cells hb
  obtain ⟨fn, tmps, assign, body, hy, hRd⟩ := hY
  have hRd := hRd 2
  refine (callsIn_wide (n := 3)).1 ?_
  refine callsIn_of_wp Tryz.func50 rfl trivial ?_ rfl
  simp only [Tryz.ntmps50, List.size_toArray, List.length_cons, List.length_nil, Nat.reduceAdd, Nat.reduceSub, Array.replicate_succ, Array.replicate_zero, List.push_toArray, List.append_toArray, List.nil_append, List.cons_append]
  gi_wp2
  refine hRd.mono ?_
  intro e w' h
  obtain ⟨v, rfl⟩ := hR e w' h
  gi_wp2
  exact h
end Go.Proofs.YtnebeadjkbjpcaaGreat
