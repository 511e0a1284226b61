/- The iterator over the pieces of a text of NULs. No condition beyond that. -/
import Derived.Test.YtnebeadjkbjpcaaGreatA
import Derived.Test.YtnebeadjkbjpcaaGreatIter
import Derived.RangeFuncBound
import Derived.Shelf.Abstract
import Derived.Shelf.RegionOpen
import Derived.OwnWalkIn
import Derived.TacticsInMore
import Derived.LoopNIn
import Derived.LoopIn
namespace Go.Proofs.YtnebeadjkbjpcaaGreat
open Go Go.RowKit Go.Shelf Go.It

/-- A text of NULs. -/
def Nuls (s : ByteArray) : Prop := ∀ (i : Nat) (h : i < s.size), s[i]'h = 0
/-- The piece at a place of such a text. -/
def piece0 (p : Nat) : Value := .agg #[.int .i64 p, .int .i64 1, .int .i32 0, .bool false]

theorem read_nul (s : ByteArray) (hs : Nuls s) (p : Nat) (w : World) (h : p < s.size) :
    Calls Tryz.prog 76 #[.string s, .int .i64 p] w fun e w' => e = .returned (piece0 p) ∧ Below w.heap.size w w' := by
  have h0 := hs p h
  refine (read_ascii s p w h (by rw [h0]; decide)).mono ?_
  rintro e w' ⟨rfl, hb⟩
  refine ⟨?_, hb⟩
  rw [h0]; rfl

theorem range_split (n k : Nat) (h : k < n) : ∃ rest, List.range n = List.range k ++ k :: rest := by
  refine ⟨(List.range (n - k - 1)).map (· + (k + 1)), ?_⟩
  have e : n = k + (1 + (n - k - 1)) := by omega
  rw [e, List.range_add, List.range_add]
  simp [Nat.add_comm, Nat.add_left_comm]

set_option maxHeartbeats 1000000 in
theorem pieces1 (s : ByteArray) (hs : Nuls s) (b : Nat) (w : World) (hb : w.heap[b]? = some (.cells #[.string s] 9 (0, 0))) :
    IterG Tryz.prog 75 #[.pointer (some ⟨b, 0, none⟩)] (fun p : Nat => #[piece0 p]) (List.range s.size) (fun k => k = b) w := by
  intro l J Jx W M hO hN hM hJ hJx hY h0
  have hbW : W.heap[b]? = some (.cells #[.string s] 9 (0, 0)) := hO.obj hb (by simp)
  have hnb : ¬ M b := hN b rfl
  have hlb := lt_of_block hbW
  have hcW : W.cell? ⟨b, 0, none⟩ = some (.string s) := by simp [World.cell?, hbW]
  refine (callsIn_wide (n := 3)).1 ?_
  refine callsIn_of_wp Tryz.func75 rfl trivial ?_ rfl
  simp only [Tryz.ntmps75, List.size_toArray, List.length_cons, List.length_nil, Nat.reduceAdd, Nat.reduceSub, Array.replicate_succ, Array.replicate_zero, List.push_toArray, List.append_toArray, List.nil_append, List.cons_append]
  gi_wp2
  gi_loopw [3] (fun _ wr => ∃ (k : Nat) (Mr : Nat → Prop), k ≤ s.size ∧ wr.heap[W.heap.size]? = some (.stringIter s k) ∧ ¬ Mr W.heap.size ∧ Turn W M wr Mr ∧ J (List.range k) wr Mr)
    (fun _ wr => s.size - wr.iterPos W.heap.size)
  case atStart =>
    exact ⟨0, M, Nat.zero_le _, World.iter_heap _ _ _, fun h => by have := hM _ h; omega, Turn.of_only ((Only.refl _ _).alloc _) hM, hJ _ _ _ _ h0 ((Only.refl _ _).alloc _)⟩
  case round =>
    obtain ⟨k, Mr, hk, hit, hnit, ht, hj⟩ := hrel
    have hbr : wr.heap[b]? = some (.cells #[.string s] 9 (0, 0)) := ht.only.obj hbW hnb
    by_cases hlt : k < s.size
    · have h0k := hs k hlt
      have hnx := fun ty => Lib.run_next_ascii_at (P := Tryz.prog) wr W.heap.size s k ty hit hlt (by rw [h0k]; decide)
      rw [h0k] at hnx
      have hbi := (Lib.iterAt_other wr W.heap.size b s (k + 1) (by omega)).trans hbr
      have hii := Lib.iterAt_heap wr W.heap.size s k (k + 1) hit
      have hoi : Only (fun j => ¬ Mr j ∧ W.heap.size ≤ j) wr (wr.iterAt W.heap.size s (k + 1)) := (Only.refl _ _).putObj (.inl ⟨hnit, Nat.le_refl _⟩) _
      obtain ⟨w1, hw1⟩ : ∃ w1, wr.iterAt W.heap.size s (k + 1) = w1 := ⟨_, rfl⟩
      rw [hw1] at hnx hbi hii hoi
      clear hw1
      have hc1 : w1.cell? ⟨b, 0, none⟩ = some (.string s) := by simp [World.cell?, hbi]
      have hread := read_nul s hs k w1 hlt
      gi_wp2_with fail
      refine (callsIn_wide.2 hread).mono ?_
      rintro e w2 ⟨rfl, hb2⟩
      obtain ⟨rest, hrest⟩ := range_split s.size k hlt
      have ho2 : Only (fun j => ¬ Mr j ∧ W.heap.size ≤ j) wr w2 := hoi.then_below hb2
      obtain ⟨fn, tmps, assign, body, hy, hR⟩ := hY _ _ rest w2 Mr hrest (by have := ht.only.size; have := ho2.size; omega) (fun j hj => Nat.lt_of_lt_of_le (ht.lt j hj) ho2.size) (hJ _ _ _ _ hj ho2)
      have hR := hR 2
      gi_wp2
      refine hR.mono ?_
      rintro e w3 ⟨M3, t3, he⟩
      have t03 : Turn W M w3 M3 := (ht.upto ho2 (fun _ h => h.2)).trans t3
      have hi3 : w3.heap[W.heap.size]? = some (.stringIter s (k + 1)) := t3.only.obj ((hb2.block _ (lt_of_block hii)).trans hii) hnit
      have hn3 : ¬ M3 W.heap.size := fun hm => by rcases t3.own _ hm with h | h; exact hnit h; have := lt_of_block hit; have := ho2.size; omega
      rcases he with ⟨rfl, hj3⟩ | ⟨rfl, hj3⟩
      · gi_wp2
        refine ⟨⟨k + 1, M3, hlt, hi3, hn3, t03, by rw [List.range_succ]; exact hj3⟩, ?_⟩
        simp only [World.iterPos, hi3, hit]
        omega
      · gi_wp2
        refine bodyPost_ret (results_none rfl _ _ _) rfl ?_
        exact ⟨⟨_, rfl⟩, M3, t03, .inr ⟨_, ⟨rest, by rw [hrest]; simp⟩, hj3⟩⟩
    · have hnx := fun ty => Lib.run_next_end_at (P := Tryz.prog) wr W.heap.size s k ty hit hlt
      gi_wp2_with fail
      go_end0
      obtain rfl : k = s.size := by omega
      exact ⟨⟨_, rfl⟩, Mr, ht, .inl hj⟩
end Go.Proofs.YtnebeadjkbjpcaaGreat
