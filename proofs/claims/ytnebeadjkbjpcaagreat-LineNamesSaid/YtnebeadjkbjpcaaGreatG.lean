/- The iterator over the words of a text of NULs: it hands on none. No condition beyond that. -/
import Derived.Test.YtnebeadjkbjpcaaGreatF
namespace Go.Proofs.YtnebeadjkbjpcaaGreat
open Go Go.RowKit Go.Shelf Go.It
attribute [local go_sem] Oper.semAt_some

set_option maxHeartbeats 400000 in
theorem words_call (s : ByteArray) (w : World) :
    Calls Tryz.prog 30 #[.string s] w fun e w' => e = .returned (.func (.func 38) #[] #[.pointer (some ⟨w.heap.size, 0, none⟩)]) ∧ w' = w.alloc (.cells #[.string s] 9) := by
  go_enter Tryz.func30, Tryz.ntmps30
  go_wp2
  go_ret
  exact ⟨rfl, rfl⟩

/-- Between two rounds: no word has come. -/
def WordsI (W : World) (M : Nat → Prop) (J : List Nat → World → (Nat → Prop) → Prop) (_ : List Nat) (W' : World) (M' : Nat → Prop) : Prop :=
  Turn W M W' M' ∧ J [] W' M'
def NoX (_ : Code) (_ : List Nat) (_ : World) (_ : Nat → Prop) : Prop := False

set_option maxHeartbeats 1000000 in
theorem words1 (s : ByteArray) (hs : Nuls s) (b : Nat) (w : World) (hz : s.size ≤ 100000) (hb : w.heap[b]? = some (.cells #[.string s] 9 (0, 0))) (encs : Nat → Array Value) :
    IterG Tryz.prog 38 #[.pointer (some ⟨b, 0, none⟩)] encs [] (fun k => k = b) w := by
  intro l J Jx W M hO hN hM hJ hJx hY h0
  clear hY
  have hbW : W.heap[b]? = some (.cells #[.string s] 9 (0, 0)) := hO.obj hb (by simp)
  have hnb : ¬ M b := hN b rfl
  have hlb := lt_of_block hbW
  have hcW : W.cell? ⟨b, 0, none⟩ = some (.string s) := by simp [World.cell?, hbW]
  have hpc := scan_call s
  refine (callsIn_wide (n := 3)).1 ?_
  refine callsIn_of_wp_marks Tryz.func38 rfl trivial ?_ rfl
  simp only [Tryz.ntmps38, List.size_toArray, List.length_cons, List.length_nil, Nat.reduceAdd, Nat.reduceSub, Array.replicate_succ, Array.replicate_zero, List.push_toArray, List.append_toArray, List.nil_append, List.cons_append]
  gi_wp2_with fail
  refine (callsIn_wide.2 (hpc _)).mono ?_
  rintro e w2 ⟨rfl, hw2⟩
  have hz2 : Hid (w2.heap.size = W.heap.size + 2) := by show _ = _; rw [hw2]; simp
  have hB1 : w2.heap[W.heap.size + 1]? = some (.cells #[.string s] 9 (0, 0)) := by
    rw [hw2]; simp only [heap_alloc_if, World.size_alloc]; (repeat (first | rw [if_pos trivial] | rw [if_neg (by omega)])); try rfl
  have hO2 : ∀ X : Nat → Prop, Only X W w2 := fun X => by rw [hw2]; exact ((Only.refl _ _).alloc _).alloc _
  clear hw2
  have hps : ∀ x : Nat, (#[token0 x] : Array Value).size = 1 := fun _ => rfl
  gi_wp2_with fail
  have hz2' := hz2.out
  refine wp_rangeG (n := 3) (gf := 47) (lb := #[.pointer (some ⟨W.heap.size + 1, 0, none⟩)]) rfl (enters_of Tryz.func47 (by kernel_rfl) rfl) (scan1 s hs (W.heap.size + 1) w2 hz hB1) (Only.refl _ _) hps
    (WordsI W M J) NoX M (fun j hj => by have := hM j hj; omega)
    (fun j hj => ⟨by omega, fun h => by have := hM j h; omega⟩)
    ?sI ?sIx ?start ?rounds ?done ?stop
  case sI =>
    rintro pre W1 W1' M1 ⟨h7, h8⟩ ho
    exact ⟨h7.upto ho (fun j hj => by omega), hJ _ _ _ _ h8 (ho.mono (fun j _ hh => ⟨hh.1, by omega⟩))⟩
  case sIx => exact fun c s A B M' h _ => h
  case start => exact ⟨Turn.of_only (hO2 _) hM, hJ _ _ _ _ h0 (hO2 _)⟩
  case rounds =>
    rintro lr pre x rest W1 M1 hx hl1 hl2 hl3 hl4 hsz hM1 ⟨h7, h8⟩
    clear hx
    unfold token0
    gi_wp2
    refine ⟨_, Turn.of_only ((Only.refl _ _).alloc _) hM1, fun W2 hW2 rl => ?_⟩
    have hp : W2.heap[W1.heap.size]? = some (.cells (#[.int .i64 6, .int .i64 x, .int .i64 (x + 1)] : Array Value) 111 (0, 0)) := hW2.obj (World.alloc_heap_new _ _) (by omega)
    have ho2 : Only (fun j => ¬ M1 j ∧ W.heap.size < j) W1 W2 := ((Only.refl _ _).alloc _).trans (hW2.mono (fun j _ hj => by subst hj; exact ⟨hl3, by omega⟩))
    have hsz2 := ho2.size
    obtain ⟨p0, p1, p2⟩ := cells3 hp
    gi_wp2_with fail
    exact ⟨M1, Turn.refl (fun j hj => by have := hM1 j hj; omega), h7.upto ho2 (fun j hj => by omega), hJ _ _ _ _ h8 (ho2.mono (fun j _ hh => ⟨hh.1, by omega⟩))⟩
  case done =>
    rintro D W1 M1 hD hDM t1 ⟨h7, h8⟩ hK
    have hDlt := lt_of_block hK
    gi_wp2
    refine ⟨by simp, .inl ⟨_, _, rfl, run_takeDeferred hK, ?_⟩⟩
    exact ⟨_, results_none rfl _ _ _, ⟨_, rfl⟩, _, h7.upto (X := fun j => j = D) (Only.putObj (M := fun j => j = D) (Only.refl _ _) (.inl rfl) _) (fun j hj => by omega), .inl (hJ _ _ _ _ h8 ((Only.refl _ _).putObj (.inl ⟨hDM, by omega⟩) _))⟩
  case stop => rintro D c pre W1 M1 hD hDM t1 hpre h hK; exact h.elim
end Go.Proofs.YtnebeadjkbjpcaaGreat
