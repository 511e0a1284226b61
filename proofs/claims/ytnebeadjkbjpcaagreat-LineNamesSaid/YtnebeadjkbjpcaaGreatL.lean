/- A text of n NULs, as string(make([]byte, n)) makes it. No condition. -/
import Derived.Test.YtnebeadjkbjpcaaGreatK
import Derived.Laws.MakeOwn
import Derived.Laws.BytesString
namespace Go.Proofs.YtnebeadjkbjpcaaGreat
open Go Go.RowKit Go.Shelf Go.It

/-- The cells of a slice of n noughts that was just made. -/
def zcells (n : Nat) : Array Value := madeCells #[.int .u8 0] n
/-- A text of n NULs. -/
def nulB (n : Nat) : ByteArray := (List.replicate n (0 : Int)).foldl (fun r k => r.push (UInt8.ofNat k.toNat)) ByteArray.empty

theorem nulB_data (n : Nat) : (nulB n).data = Array.replicate n 0 := by
  unfold nulB
  induction n with
  | zero => rfl
  | succ n ih =>
    rw [List.replicate_succ', List.foldl_append]
    show ((List.replicate n (0 : Int)).foldl (fun r k => r.push (UInt8.ofNat k.toNat)) ByteArray.empty).data.push (UInt8.ofNat 0) = _
    rw [ih, Array.replicate_succ]
    rfl
theorem nulB_size (n : Nat) : (nulB n).size = n := by show (nulB n).data.size = n; rw [nulB_data]; simp
theorem nulB_nuls (n : Nat) : Nuls (nulB n) := by
  intro i h
  show (nulB n).data[i] = 0
  simp [nulB_data]

theorem zcells_get (n j : Nat) (h : j < n) : (zcells n)[j]? = some (.int .u8 0) := by
  simp [zcells, madeCells, h, Nat.mod_one]

theorem conv_nul (n : Nat) (w : World) (c : Nat) :
    (convert 48 9 (.slice (some ⟨w.heap.size, 0, none⟩) n c)).run Tryz.prog (w.alloc (.cells (zcells n) 5)) = .ok (.string (nulB n)) (w.alloc (.cells (zcells n) 5)) := by
  rw [run_convert_bytes_string _ 48 9 5 _ _ _ (by kernel_rfl) (by kernel_rfl) (by kernel_rfl)]
  have hl := run_loadCells_list (P := Tryz.prog) (w := w.alloc (.cells (zcells n) 5)) ⟨w.heap.size, 0, none⟩ (List.replicate n (.int .u8 0)) (by
    intro j v hj
    obtain ⟨hlt, rfl⟩ : j < n ∧ v = .int .u8 0 := by
      rw [List.getElem?_replicate] at hj
      split at hj
      · exact ⟨by assumption, by simpa using hj.symm⟩
      · cases hj
    have hb : (w.alloc (.cells (zcells n) 5)).heap[w.heap.size]? = some (.cells (zcells n) 5 (0, 0)) := World.alloc_heap_new _ _
    have ha : (Addr.add ⟨w.heap.size, 0, none⟩ j) = ⟨w.heap.size, j, none⟩ := by
      unfold Addr.add
      split
      · subst_vars; rfl
      · simp
    rw [ha]
    unfold World.cell?
    rw [hb]
    exact zcells_get n j hlt)
  rw [List.length_replicate] at hl
  exact run_bytesToString _ _ n c (List.replicate n 0) (by rw [hl, List.map_replicate])
end Go.Proofs.YtnebeadjkbjpcaaGreat
