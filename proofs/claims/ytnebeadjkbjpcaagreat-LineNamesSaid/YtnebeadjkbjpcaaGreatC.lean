/- Small calls of packages class, runes, word. No condition. -/
import Derived.Test.YtnebeadjkbjpcaaGreatB
namespace Go.Proofs.YtnebeadjkbjpcaaGreat
open Go Go.RowKit Go.Shelf Go.It

set_option maxHeartbeats 400000 in
theorem kind0 (w : World) :
    Calls Tryz.prog 87 #[.int .i32 0] w fun e w' => e = .returned (.int .i64 9) ∧ w = w' := by
  go_enter Tryz.func87, Tryz.ntmps87
  go_wp2
  go_ret
  exact ⟨rfl, rfl⟩

set_option maxHeartbeats 400000 in
theorem of0 (p : Nat) (w : World) :
    Calls Tryz.prog 70 #[piece0 p] w fun e w' => e = .returned (.int .i64 9) ∧ Below w.heap.size w w' := by
  unfold piece0
  go_enter Tryz.func70, Tryz.ntmps70
  go_wp2_with (go_at_call 87; refine (kind0 _).mono ?_; rintro e w' ⟨rfl, rfl⟩)
  go_ret
  exact ⟨rfl, (Below.refl _ _).alloc (Nat.le_refl _) _⟩

set_option maxHeartbeats 400000 in
theorem pieces_call (s : ByteArray) (w : World) :
    Calls Tryz.prog 54 #[.string s] w fun e w' => e = .returned (.func (.func 75) #[] #[.pointer (some ⟨w.heap.size, 0, none⟩)]) ∧ w' = w.alloc (.cells #[.string s] 9) := by
  go_enter Tryz.func54, Tryz.ntmps54
  go_wp2
  go_ret
  exact ⟨rfl, rfl⟩

set_option maxHeartbeats 400000 in
theorem units_call (s : ByteArray) (w : World) :
    Calls Tryz.prog 48 #[.string s] w fun e w' => e = .returned (.func (.func 69) #[] #[.pointer (some ⟨w.heap.size, 0, none⟩)]) ∧ w' = w.alloc (.cells #[.string s] 9) := by
  go_enter Tryz.func48, Tryz.ntmps48
  go_wp2
  go_ret
  exact ⟨rfl, rfl⟩
end Go.Proofs.YtnebeadjkbjpcaaGreat
