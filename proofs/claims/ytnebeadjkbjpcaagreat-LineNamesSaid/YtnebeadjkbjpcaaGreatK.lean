/- More calls on a line without words, and the calls of line.New that refuse. No condition. -/
import Derived.Test.YtnebeadjkbjpcaaGreatJ
import Derived.Deep.QuietTactic
import Derived.BigQuiet
namespace Go.Proofs.YtnebeadjkbjpcaaGreat
open Go Go.RowKit Go.Shelf Go.It

def Counts0 (w w' : World) (e : Ending) : Prop := ∃ b : Nat, e = .returned (.slice (some ⟨b, 0, none⟩) 66 66) ∧ w'.cell? ⟨b, 0, none⟩ = some (.int .i64 1) ∧ Below w.heap.size w w'
set_option maxRecDepth 100000 in
set_option maxHeartbeats 1000000 in
theorem p_counts (s : ByteArray) (v : Value) (b : Nat) (w : World) (hb : w.heap[b]? = some (.cells (line0 s v) 60 (0, 0))) :
    Calls Tryz.prog 26 #[.pointer (some ⟨b, 0, none⟩)] w fun e w' => Counts0 w w' e := by
  obtain ⟨c0, c1, c2, c3, c4⟩ := cells5 hb
  have hlt := lt_of_block hb
  go_enter Tryz.func26, Tryz.ntmps26
  go_wp2_with fail
  refine wp_loop_rounds 1 ?_
  rw [rounds_succ]
  go_wp2_with fail
  go_ret
  refine ⟨_, rfl, ?_, ?_⟩
  · simp only [World.cell?, heap_alloc_if, World.size_alloc, if_true]; rfl
  · exact ((Below.refl _ _).alloc (Nat.le_refl _) _).alloc (by simp) _

set_option maxHeartbeats 1000000 in
theorem p_with (s : ByteArray) (v : Value) (b : Nat) (w : World) (hb : w.heap[b]? = some (.cells (line0 s v) 60 (0, 0))) :
    Calls Tryz.prog 16 #[.pointer (some ⟨b, 0, none⟩), .int .i64 0] w fun e w' => e = .returned (.int .i64 1) ∧ Below w.heap.size w w' := by
  have hc := p_counts s v b w hb
  go_enter Tryz.func16, Tryz.ntmps16
  go_wp2_with fail
  refine hc.mono ?_
  rintro e w' ⟨rb, rfl, hc0, hbl⟩
  go_wp2_with fail
  go_ret
  exact ⟨rfl, hbl⟩

def Nth0 (w w' : World) (e : Ending) : Prop := ∃ a : Option Addr, ∃ c, e = .returned (.tuple #[.slice a 0 c, .int .i64 0]) ∧ Below w.heap.size w w'
set_option maxRecDepth 100000 in
set_option maxHeartbeats 1000000 in
theorem p_nth (s : ByteArray) (g b : Nat) (w : World) (hb : w.heap[b]? = some (.cells (line0 s (.slice (some ⟨g, 0, none⟩) 1 1)) 60 (0, 0))) (hg : w.heap[g]? = some (.cells #[.int .i64 1, .int .i64 0] 101 (0, 0))) :
    Calls Tryz.prog 8 #[.pointer (some ⟨b, 0, none⟩), .int .i64 0] w fun e w' => Nth0 w w' e := by
  obtain ⟨c0, c1, c2, c3, c4⟩ := cells5 hb
  have hlt := lt_of_block hb
  have hc := p_count s g b
  go_enter Tryz.func8, Tryz.ntmps8
  go_wp2_with fail
  go_step3
  go_wp2_with fail
  have hb2 : ((w.alloc (.cells #[.pointer (some ⟨b, 0, none⟩)] 23)).alloc (.cells #[.int .i64 0] 3)).heap[b]? = some (.cells (line0 s (.slice (some ⟨g, 0, none⟩) 1 1)) 60 (0, 0)) :=
    (Below.heap_alloc _ _ _ (by simp; omega)).trans ((Below.heap_alloc _ _ _ hlt).trans hb)
  have hg2 : ((w.alloc (.cells #[.pointer (some ⟨b, 0, none⟩)] 23)).alloc (.cells #[.int .i64 0] 3)).heap[g]? = some (.cells #[.int .i64 1, .int .i64 0] 101 (0, 0)) :=
    (Below.heap_alloc _ _ _ (by have := lt_of_block hg; simp; omega)).trans ((Below.heap_alloc _ _ _ (lt_of_block hg)).trans hg)
  go_quiet ((go_at_call 14; exact Calls.quiet_of_same (p_count s g b _ hb2 hg2)))
  obtain ⟨wq, hwq⟩ : ∃ wq, ((w.alloc (.cells #[.pointer (some ⟨b, 0, none⟩)] 23)).alloc (.cells #[.int .i64 0] 3)).drewN nq = wq := ⟨_, rfl⟩
  have hbq : wq.heap[b]? = some (.cells (line0 s (.slice (some ⟨g, 0, none⟩) 1 1)) 60 (0, 0)) := by rw [← hwq]; exact hb2
  have hlq : wq.heap[w.heap.size]? = some (.cells #[.pointer (some ⟨b, 0, none⟩)] 23 (0, 0)) := by
    rw [← hwq]; show (World.alloc _ _).heap[_]? = _; simp only [heap_alloc_if, World.size_alloc]; (repeat (first | rw [if_pos trivial] | rw [if_neg (by omega)])); try rfl
  have hbw : Below w.heap.size w wq := by rw [← hwq]; have hx := ((Below.refl w.heap.size w).alloc (Nat.le_refl _) (.cells #[.pointer (some ⟨b, 0, none⟩)] 23)).alloc (by simp) (.cells #[.int .i64 0] 3); exact ⟨hx.os, hx.tape, hx.output, hx.size, hx.block⟩
  rw [hwq]
  clear hwq hb2 hg2 hc c0 c1 c2 c3 c4
  obtain ⟨c0, c1, c2, c3, c4⟩ := cells5 hbq
  have cl := cells1 hlq
  have hltq := lt_of_block hbq
  have hltl := lt_of_block hlq
  have e1 : b < wq.heap.size + 1 := by omega
  have e2 : b < wq.heap.size + 1 + 1 := by omega
  have e3 : w.heap.size < wq.heap.size + 1 := by omega
  have e4 : w.heap.size < wq.heap.size + 1 + 1 := by omega
  go_wp2_with fail
  go_step3
  go_wp2_with fail
  refine wp_loop_rounds 1 ?_
  rw [rounds_succ]
  go_wp2
  rw [Exit.noGoto_ret]
  go_ret2
  exact ⟨_, _, rfl, ((hbw.alloc (by omega) _).alloc (by simp; omega) _).alloc (by simp; omega) _⟩

set_option maxRecDepth 100000 in
set_option maxHeartbeats 1000000 in
theorem new_nil (s : ByteArray) (w : World) (r : Int) :
    Calls Tryz.prog 12 #[.pointer none, .int .i64 r, .string s] w fun e w' => e = .returned (.tuple #[.pointer none, .int .i64 1]) ∧ Below w.heap.size w w' := by
  go_enter Tryz.func12, Tryz.ntmps12
  go_wp2
  refine bodyPost_ret (v := .tuple #[.pointer none, .int .i64 1]) (by simp [results, Tryz.results12, go_sem]) rfl ⟨rfl, ?_⟩
  exact ((((Below.refl _ _).alloc (Nat.le_refl _) _).alloc (by simp) _).alloc (by simp; omega) _).alloc (by simp; omega) _ |>.alloc (by simp; omega) _

set_option maxRecDepth 100000 in
set_option maxHeartbeats 1000000 in
theorem new_rule (a : Addr) (s : ByteArray) (w : World) :
    Calls Tryz.prog 12 #[.pointer (some a), .int .i64 0, .string s] w fun e w' => e = .returned (.tuple #[.pointer none, .int .i64 2]) ∧ Below w.heap.size w w' := by
  go_enter Tryz.func12, Tryz.ntmps12
  go_wp2
  refine bodyPost_ret (v := .tuple #[.pointer none, .int .i64 2]) (by simp [results, Tryz.results12, go_sem]) rfl ⟨rfl, ?_⟩
  exact ((((Below.refl _ _).alloc (Nat.le_refl _) _).alloc (by simp) _).alloc (by simp; omega) _).alloc (by simp; omega) _ |>.alloc (by simp; omega) _

set_option maxRecDepth 100000 in
set_option maxHeartbeats 1000000 in
theorem new_long (a : Addr) (s : ByteArray) (w : World) (hs : 1024 < s.size) :
    Calls Tryz.prog 12 #[.pointer (some a), .int .i64 1, .string s] w fun e w' => e = .returned (.tuple #[.pointer none, .int .i64 3]) ∧ Below w.heap.size w w' := by
  go_enter Tryz.func12, Tryz.ntmps12
  go_wp2
  refine bodyPost_ret (v := .tuple #[.pointer none, .int .i64 3]) (by simp [results, Tryz.results12, go_sem]) rfl ⟨rfl, ?_⟩
  exact ((((Below.refl _ _).alloc (Nat.le_refl _) _).alloc (by simp) _).alloc (by simp; omega) _).alloc (by simp; omega) _ |>.alloc (by simp; omega) _

set_option maxHeartbeats 1000000 in
theorem wakes0 (w : World) :
    Calls Tryz.prog 4 #[] w fun e w' => e = .returned (.bool true) ∧ Below w.heap.size w w' := by
  have hn := fun a W => new0 ByteArray.empty (fun i h => absurd h (by simp)) (by simp) a W
  go_enter Tryz.func4, Tryz.ntmps4
  go_wp2_with fail
  refine (lexNew w).mono ?_
  rintro e w1 ⟨a, rfl, hb1⟩
  go_wp2_with fail
  refine (hn a w1).mono ?_
  rintro e w2 ⟨b, g, rfl, _, _, _, _, _, hb2⟩
  go_wp2_with fail
  go_ret
  exact ⟨rfl, hb1.trans (hb2.mono hb1.size)⟩
end Go.Proofs.YtnebeadjkbjpcaaGreat
