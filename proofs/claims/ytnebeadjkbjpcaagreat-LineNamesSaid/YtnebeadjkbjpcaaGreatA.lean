/- The calls of package runes at a byte below 128. No condition. -/
import Derived.Test.YtnebeadjkbjpcaaGreatProg
import Derived.WalkKit
import Derived.WalkSpells
import Derived.WalkLawsBesides
import Derived.Lib.Hide
import Derived.Lib.OthersKept
import Derived.Outline
namespace Go.Proofs.YtnebeadjkbjpcaaGreat
open Go Go.RowKit

theorem enc_ascii (r : Int) (h0 : 0 ≤ r) (h : r < 128) : (Utf8.encode r) = ⟨#[UInt8.ofNat r.toNat]⟩ := by
  have hv : Utf8.valid r = true := by unfold Utf8.valid; simp; omega
  unfold Utf8.encode
  simp only [hv, if_true]
  rw [if_pos (by omega)]

set_option maxHeartbeats 400000 in
theorem width_ascii (r : Int) (w : World) (h0 : 0 ≤ r) (h : r < 128) :
    Calls Tryz.prog 96 #[.int .i32 r] w fun e w' => e = .returned (.int .i64 1) ∧ w = w' := by
  have he := enc_ascii r h0 h
  go_enter Tryz.func96, Tryz.ntmps96
  go_wp2
  go_ret
  exact ⟨rfl, rfl⟩

theorem ext_get (s : ByteArray) (a : Nat) (h : a < s.size) : ∃ h' : 0 < (s.extract a s.size).size, (s.extract a s.size)[0]'h' = s[a] := by
  refine ⟨by simp; omega, ?_⟩
  rw [ByteArray.getElem_extract]; simp

attribute [local go_sem] World.iter
set_option maxHeartbeats 400000 in
theorem read_ascii (s : ByteArray) (at_ : Nat) (w : World) (h : at_ < s.size) (ha : (s[at_]'h).toNat < 128) :
    Calls Tryz.prog 76 #[.string s, .int .i64 at_] w fun e w' => e = .returned (.agg #[.int .i64 at_, .int .i64 1, .int .i32 (s[at_]'h).toNat, .bool false]) ∧ Below w.heap.size w w' := by
  obtain ⟨hp, he⟩ := ext_get s at_ h
  have hne : (((s[at_]'h).toNat : Int) == 65533) = false := beq_eq_false_iff_ne.2 (by omega)
  have hr := fun (W : World) => run_next_ascii (P := Tryz.prog) W (s.extract at_ s.size) 0
  go_enter Tryz.func76, Tryz.ntmps76
  go_wp2_with fail
  refine wp_loop_rounds 1 ?_
  rw [rounds_succ]
  have hnx := fun ty => hr (w.alloc (Obj.cells #[Value.int IntKind.i64 0, Value.int IntKind.i64 0, Value.int IntKind.i32 0, Value.bool false] 137)) ty hp (by rw [he]; exact ha)
  clear hr
  rw [he] at hnx
  simp only [World.size_alloc, World.iter] at hnx
  go_wp2_with fail
  refine (width_ascii ((s[at_]'h).toNat : Int) _ (by omega) (by omega)).mono ?_
  rintro e w' ⟨rfl, rfl⟩
  go_wp2_with fail
  refine bodyPost_ret (v := .agg #[.int .i64 at_, .int .i64 1, .int .i32 (s[at_]'h).toNat, .bool false]) (by simp [results, Tryz.results76, go_sem]) rfl ⟨rfl, ?_⟩
  exact ((Below.refl _ _).alloc (Nat.le_refl _) _).alloc (by simp) _

end Go.Proofs.YtnebeadjkbjpcaaGreat
