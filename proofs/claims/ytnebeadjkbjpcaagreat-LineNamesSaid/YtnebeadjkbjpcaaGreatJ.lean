/- Calls on a nil line, and on a line without words. No condition. -/
import Derived.Test.YtnebeadjkbjpcaaGreatI
namespace Go.Proofs.YtnebeadjkbjpcaaGreat
open Go Go.RowKit Go.Shelf Go.It

set_option maxHeartbeats 400000 in
theorem nil_word (w : World) :
    Calls Tryz.prog 5 #[.pointer none, .int .i64 0] w fun e w' => e = .returned (.tuple #[.agg #[.int .i64 0, .int .i64 0], .int .i64 1]) ∧ Below w.heap.size w w' := by
  go_enter Tryz.func5, Tryz.ntmps5
  go_wp2
  refine bodyPost_ret (v := .tuple #[.agg #[.int .i64 0, .int .i64 0], .int .i64 1]) (by simp [results, Tryz.results5, go_sem]) rfl ⟨rfl, ?_⟩
  first | exact Below.refl _ _ | exact (Below.refl _ _).alloc (Nat.le_refl _) _

set_option maxHeartbeats 400000 in
theorem each_call (w : World) :
    Calls Tryz.prog 11 #[.pointer none] w fun e w' => e = .returned (.func (.func 27) #[] #[.pointer (some ⟨w.heap.size, 0, none⟩)]) ∧ w' = w.alloc (.cells #[.pointer none] 23) := by
  go_enter Tryz.func11, Tryz.ntmps11
  go_wp2
  go_ret
  exact ⟨rfl, rfl⟩

def Left (W w' : World) (e : Ending) : Prop := (∃ v, e = .returned v) ∧ Below W.heap.size W w'
set_option maxHeartbeats 400000 in
theorem each1_ret (b l : Nat) (w : World) (hb : w.heap[b]? = some (.cells #[.pointer none] 23 (0, 0))) :
    Calls Tryz.prog 27 #[.func (.yield l) #[] #[], .pointer (some ⟨b, 0, none⟩)] w fun e w' => Left w w' e := by
  have c0 := cells1 hb
  have hlt := lt_of_block hb
  go_enter Tryz.func27, Tryz.ntmps27
  go_wp2
  refine bodyPost_ret (results_none rfl _ _ _) rfl ?_
  exact ⟨⟨_, rfl⟩, (Below.refl _ _).alloc (Nat.le_refl _) _⟩

theorem each1 (b : Nat) (w : World) (hb : w.heap[b]? = some (.cells #[.pointer none] 23 (0, 0))) (encs : Nat → Array Value) :
    IterG Tryz.prog 27 #[.pointer (some ⟨b, 0, none⟩)] encs [] (fun k => k = b) w := by
  intro l J Jx W M hO hN hM hJ hJx hY h0
  refine (each1_ret b l W (hO.obj hb (by simp))).mono ?_
  rintro e w' ⟨hv, hbl⟩
  have ho : ∀ X, Only X W w' := fun X => (Only.refl _ _).then_below hbl
  exact ⟨hv, M, Turn.of_only (ho _) hM, .inl (hJ _ _ _ _ h0 (ho _))⟩

set_option maxHeartbeats 400000 in
theorem p_words (s : ByteArray) (v : Value) (b : Nat) (w : World) (hb : w.heap[b]? = some (.cells (line0 s v) 60 (0, 0))) :
    Calls Tryz.prog 15 #[.pointer (some ⟨b, 0, none⟩)] w fun e w' => e = .returned (.int .i64 0) ∧ Below w.heap.size w w' := by
  obtain ⟨c0, c1, c2, c3, c4⟩ := cells5 hb
  go_enter Tryz.func15, Tryz.ntmps15
  go_wp2
  go_ret
  first | exact ⟨rfl, Below.refl _ _⟩ | exact ⟨rfl, (Below.refl _ _).alloc (Nat.le_refl _) _⟩

set_option maxHeartbeats 400000 in
theorem p_count (s : ByteArray) (g b : Nat) (w : World) (hb : w.heap[b]? = some (.cells (line0 s (.slice (some ⟨g, 0, none⟩) 1 1)) 60 (0, 0))) (hg : w.heap[g]? = some (.cells #[.int .i64 1, .int .i64 0] 101 (0, 0))) :
    Calls Tryz.prog 14 #[.pointer (some ⟨b, 0, none⟩)] w fun e w' => e = .returned (.int .i64 1) ∧ w' = w := by
  obtain ⟨c0, c1, c2, c3, c4⟩ := cells5 hb
  obtain ⟨g0, g1⟩ := cells2 hg
  go_enter Tryz.func14, Tryz.ntmps14
  go_wp2
  go_ret
  exact ⟨rfl, rfl⟩
end Go.Proofs.YtnebeadjkbjpcaaGreat
