/- What canticlelaw12.LineNames returns: true; nothing that lay before has turned. No condition. -/
import Derived.Test.YtnebeadjkbjpcaaGreatL
namespace Go.Proofs.YtnebeadjkbjpcaaGreat
open Go Go.RowKit Go.Shelf Go.It

theorem info5 : (Tryz.prog.info? 5).map (fun i => (i.zero, i.size, i.bytes)) = some (some (.int .u8 0), 1, 1) := by kernel_rfl
theorem mk_nul (n : Nat) (W : World) (hn : n ≤ 2000) : (Instr.makeSlice 48 (.int .i64 n) (.int .i64 n)).run Tryz.prog W = .ok (.slice (some ⟨W.heap.size, 0, none⟩) n n) (W.alloc (.cells (zcells n) 5)) := by
  obtain ⟨i0, hi, hz0, hz1, hz2⟩ := info_parts info5
  have h := run_make (P := Tryz.prog) W 48 5 i0 (.int .u8 0) (by kernel_rfl) hi hz0 .i64 .i64 n n (by omega) (by omega) (by rw [hz2]; omega) (by omega)
  rw [hz1] at h
  simpa [zcells, Value.cells] using h

def Yes (w w' : World) (e : Ending) : Prop := e = .returned (.bool true) ∧ Below w.heap.size w w'

/-- What is known of the world on the way: below the call nothing has turned; the result's cell. -/
structure Way (w W : World) : Prop where
  bel : Below w.heap.size w W
  res : W.heap[w.heap.size]? = some (.cells #[.bool false] 4 (0, 0))
theorem Way.later {w W W' : World} (h : Way w W) (hb : Below W.heap.size W W') : Way w W' :=
  ⟨h.bel.trans (hb.mono h.bel.size), (hb.block _ (lt_of_block h.res)).trans h.res⟩
theorem later_block {W W' : World} {k : Nat} {o : Obj} (h : W.heap[k]? = some o) (hb : Below W.heap.size W W') : W'.heap[k]? = some o := (hb.block _ (lt_of_block h)).trans h

set_option maxRecDepth 100000 in
set_option maxHeartbeats 2000000 in
theorem lineNames (w : World) : Calls Tryz.prog 3 #[] w fun e w' => Yes w w' e := by
  have mk25 : ∀ W : World, (Instr.makeSlice 48 (.int .i64 1025) (.int .i64 1025)).run Tryz.prog W = .ok (.slice (some ⟨W.heap.size, 0, none⟩) 1025 1025) (W.alloc (.cells (zcells 1025) 5)) := fun W => mk_nul 1025 W (by omega)
  have mk24 : ∀ W : World, (Instr.makeSlice 48 (.int .i64 1024) (.int .i64 1024)).run Tryz.prog W = .ok (.slice (some ⟨W.heap.size, 0, none⟩) 1024 1024) (W.alloc (.cells (zcells 1024) 5)) := fun W => mk_nul 1024 W (by omega)
  have cv25 := fun W => conv_nul 1025 W 1025
  have cv24 := fun W => conv_nul 1024 W 1024
  refine (callsIn_wide (n := 3)).1 ?_
  refine callsIn_of_wp_marks Tryz.func3 rfl trivial ?_ rfl
  simp only [Tryz.ntmps3, List.size_toArray, List.length_nil, Nat.reduceSub, Array.replicate_succ, Array.replicate_zero, List.push_toArray, List.append_toArray, List.nil_append, List.cons_append]
  gi_wp2_with fail
  have hw0 : Way w (w.alloc (.cells #[.bool false] 4)) := ⟨(Below.refl _ _).alloc (Nat.le_refl _) _, World.alloc_heap_new _ _⟩
  refine (callsIn_wide.2 (wakes0 _)).mono ?_
  rintro e w1 ⟨rfl, hb⟩
  have hw1 := hw0.later hb
  clear hw0 hb
  gi_wp2_with fail
  refine (callsIn_wide.2 (nil_word _)).mono ?_
  rintro e w2 ⟨rfl, hb⟩
  have hw2 := hw1.later hb
  clear hw1 hb
  have hsp : (w2.alloc (.cells #[.int .i64 0, .int .i64 0] 25)).heap[w2.heap.size]? = some (.cells #[.int .i64 0, .int .i64 0] 25 (0, 0)) := World.alloc_heap_new _ _
  have hw3 := hw2.later ((Below.refl _ _).alloc (Nat.le_refl _) (.cells #[.int .i64 0, .int .i64 0] 25))
  clear hw2
  gi_wp2_with fail
  refine (callsIn_wide.2 (nil_forms _)).mono ?_
  rintro e w3 ⟨rfl, hb⟩
  replace hw3 := hw3.later hb
  replace hsp := later_block hsp hb
  clear hb
  gi_wp2_with fail
  refine (callsIn_wide.2 (nil_beats _)).mono ?_
  rintro e w4 ⟨rfl, hb⟩
  replace hw3 := hw3.later hb
  replace hsp := later_block hsp hb
  clear hb
  gi_wp2_with fail
  refine (callsIn_wide.2 (nil_nth _)).mono ?_
  rintro e w5 ⟨rfl, hb⟩
  replace hw3 := hw3.later hb
  replace hsp := later_block hsp hb
  clear hb
  gi_wp2_with fail
  refine (callsIn_wide.2 (nil_rank _)).mono ?_
  rintro e w6 ⟨rfl, hb⟩
  replace hw3 := hw3.later hb
  replace hsp := later_block hsp hb
  clear hb
  gi_wp2_with fail
  refine (callsIn_wide.2 (nil_span _)).mono ?_
  rintro e w7 ⟨rfl, hb⟩
  replace hw3 := hw3.later hb
  replace hsp := later_block hsp hb
  clear hb
  gi_wp2_with fail
  refine (callsIn_wide.2 (each_call _)).mono ?_
  rintro e w8 ⟨rfl, hw8⟩
  have hb : Below w7.heap.size w7 w8 := by rw [hw8]; exact (Below.refl _ _).alloc (Nat.le_refl _) _
  have hbox : w8.heap[w7.heap.size]? = some (.cells #[.pointer none] 23 (0, 0)) := by rw [hw8]; exact World.alloc_heap_new _ _
  clear hw8
  replace hw3 := hw3.later hb
  replace hsp := later_block hsp hb
  clear hb
  have hps : ∀ x : Nat, (#[.bool true] : Array Value).size = 1 := fun _ => rfl
  gi_wp2_with fail
  refine wp_rangeG (n := 3) (encs := fun _ : Nat => #[.bool true]) (gf := 27) (lb := #[.pointer (some ⟨w7.heap.size, 0, none⟩)]) rfl (enters_of Tryz.func27 (by kernel_rfl) rfl) (each1 w7.heap.size w8 hbox _) (Only.refl _ _) hps
    (fun _ _ _ => True) NoX (fun _ => False) (fun j hj => hj.elim) (fun j hj => ⟨by have := lt_of_block hbox; omega, fun h => h⟩) ?sI ?sIx trivial ?rounds ?done ?stop
  case sI => exact fun _ _ _ _ _ _ => trivial
  case sIx => exact fun c s A B M' h _ => h
  case rounds =>
    rintro lr pre x rest W1 M1 hx
    simp at hx
  case stop => rintro D c pre W1 M1 hD hDM t1 hpre h hK; exact h.elim
  case done =>
    rintro D w9 M1 hD hDM t1 _ hK
    have hwD : w.heap.size < D := by have := lt_of_block hw3.res; omega
    have hb : Below w8.heap.size w8 w9 := t1.only.below
    replace hw3 := hw3.later hb
    replace hsp := later_block hsp hb
    clear hb hbox t1
    gi_wp2_with fail
    refine (callsIn_wide.2 (new_nil _ _ _)).mono ?_
    rintro e w10 ⟨rfl, hb⟩
    replace hb := ((Below.refl w9.heap.size w9).alloc (Nat.le_refl _) (.cells (zcells 1025) 5)).trans (hb.mono (by simp))
    replace hw3 := hw3.later hb
    replace hsp := later_block hsp hb
    replace hK := later_block hK hb
    clear hb
    gi_wp2_with fail
    refine (callsIn_wide.2 (lexNew _)).mono ?_
    rintro e w11 ⟨lex, rfl, hb⟩
    replace hw3 := hw3.later hb
    replace hsp := later_block hsp hb
    replace hK := later_block hK hb
    clear hb
    gi_wp2_with fail
    refine (callsIn_wide.2 (new_rule _ _ _)).mono ?_
    rintro e w12 ⟨rfl, hb⟩
    replace hw3 := hw3.later hb
    replace hsp := later_block hsp hb
    replace hK := later_block hK hb
    clear hb
    gi_wp2_with fail
    refine (callsIn_wide.2 (new_long _ _ _ (by rw [nulB_size]; decide))).mono ?_
    rintro e w13 ⟨rfl, hb⟩
    replace hb := ((Below.refl w12.heap.size w12).alloc (Nat.le_refl _) (.cells (zcells 1025) 5)).trans (hb.mono (by simp))
    replace hw3 := hw3.later hb
    replace hsp := later_block hsp hb
    replace hK := later_block hK hb
    clear hb
    gi_wp2_with fail
    refine (callsIn_wide.2 (new0 _ (nulB_nuls 1024) (by rw [nulB_size]; decide) _ _)).mono ?_
    rintro e w14 ⟨b, g, rfl, _, _, _, hb5, hg5, hb⟩
    replace hb := ((Below.refl w13.heap.size w13).alloc (Nat.le_refl _) (.cells (zcells 1024) 5)).trans (hb.mono (by simp))
    replace hw3 := hw3.later hb
    replace hsp := later_block hsp hb
    replace hK := later_block hK hb
    clear hb
    gi_wp2_with fail
    refine (callsIn_wide.2 (p_count _ g b _ hb5 hg5)).mono ?_
    rintro e w15 ⟨rfl, rfl⟩
    gi_wp2_with fail
    refine (callsIn_wide.2 (p_words _ _ b _ hb5)).mono ?_
    rintro e w16 ⟨rfl, hb⟩
    replace hw3 := hw3.later hb
    replace hsp := later_block hsp hb
    replace hK := later_block hK hb
    replace hb5 := later_block hb5 hb
    replace hg5 := later_block hg5 hb
    clear hb
    gi_wp2_with fail
    refine (callsIn_wide.2 (p_with _ _ b _ hb5)).mono ?_
    rintro e w17 ⟨rfl, hb⟩
    replace hw3 := hw3.later hb
    replace hsp := later_block hsp hb
    replace hK := later_block hK hb
    replace hb5 := later_block hb5 hb
    replace hg5 := later_block hg5 hb
    clear hb
    gi_wp2_with fail
    refine (callsIn_wide.2 (p_nth _ g b _ hb5 hg5)).mono ?_
    rintro e w18 ⟨na, nc, rfl, hb⟩
    replace hw3 := hw3.later hb
    replace hsp := later_block hsp hb
    replace hK := later_block hK hb
    clear hb hb5 hg5
    gi_wp2_with fail
    refine (callsIn_wide.2 (nil_text _)).mono ?_
    rintro e w19 ⟨rfl, hb⟩
    replace hw3 := hw3.later hb
    replace hsp := later_block hsp hb
    replace hK := later_block hK hb
    clear hb
    gi_wp2_with fail
    refine (callsIn_wide.2 (nil_words _)).mono ?_
    rintro e w20 ⟨rfl, hb⟩
    replace hw3 := hw3.later hb
    replace hsp := later_block hsp hb
    replace hK := later_block hK hb
    clear hb
    obtain ⟨s0, s1⟩ := cells2 hsp
    gi_wp2_with fail
    clear s0 s1
    refine (callsIn_wide.2 (nil_near _)).mono ?_
    rintro e w21 ⟨rfl, hb⟩
    replace hw3 := hw3.later hb
    replace hsp := later_block hsp hb
    replace hK := later_block hK hb
    clear hb
    gi_wp2_with fail
    refine (callsIn_wide.2 (nil_count _)).mono ?_
    rintro e w22 ⟨rfl, hb⟩
    replace hw3 := hw3.later hb
    replace hsp := later_block hsp hb
    replace hK := later_block hK hb
    clear hb
    gi_wp2_with fail
    refine (callsIn_wide.2 (nil_with _)).mono ?_
    rintro e w23 ⟨rfl, hb⟩
    replace hw3 := hw3.later hb
    replace hsp := later_block hsp hb
    replace hK := later_block hK hb
    clear hb
    have c0 := cells1 hw3.res
    have f0 := frz0 hw3.res 0
    gi_wp2_with fail
    obtain ⟨w24, hw24⟩ : ∃ w24, w23.setCell ⟨w.heap.size, 0, none⟩ (.bool true) = w24 := ⟨_, rfl⟩
    have hres := heap_setCell_at hw3.res 0 (.bool true)
    have hbel := hw3.bel.setCell (p := ⟨w.heap.size, 0, none⟩) (Nat.le_refl _) (.bool true)
    have hK4 := (Below.heap_setCell w23 ⟨w.heap.size, 0, none⟩ (.bool true) D (by show D ≠ w.heap.size; omega)).trans hK
    rw [hw24] at hres hbel hK4 ⊢
    clear hw24 c0 f0
    have ho6 : Only (fun j => j = D) w24 (w24.putObj D (.deferred none)) := Only.putObj (M := fun j => j = D) (Only.refl _ _) (.inl rfl) _
    refine ⟨by simp, .inl ⟨_, _, rfl, run_takeDeferred hK4, ?_⟩⟩
    have c0 := cells1 (ho6.obj hres (by omega))
    refine ⟨.bool true, by simp [results, Tryz.results3, go_sem, c0], rfl, hbel.trans (ho6.belowB (fun k hk => by omega) (by have := hbel.size; omega))⟩
end Go.Proofs.YtnebeadjkbjpcaaGreat
