import Derived.Test.YtbmemogajgbdgaaB1
import Derived.BigQuiet
namespace Go.Proofs.Ytbmemogajgbdgaa
open Go.RowKit Go.Gf
theorem i1 : (Try.prog.info? 63).map (·.size) = some ptL.toArray.size := by rw [List.size_toArray, ptL_len]; exact info63
theorem i2 : (Try.prog.info? 64).map (·.size) = some ltL.toArray.size := by rw [List.size_toArray, ltL_len]; exact info64
theorem blkA (w : World) : Blk ((w.alloc (.cells Z63 63)).alloc (.cells Z64 64)) w.heap.size 63 Z63 := (Blk.new _ _ _).alloc _
theorem blkB (w : World) : Blk (((w.alloc (.cells Z63 63)).alloc (.cells Z64 64)).setRow w.heap.size ptL.toArray) (w.heap.size + 1) 64 Z64 := by
  have h : Blk ((w.alloc (.cells Z63 63)).alloc (.cells Z64 64)) (w.heap.size + 1) 64 Z64 := by simpa using Blk.new (w.alloc (.cells Z63 63)) 64 Z64
  exact h.setRow_far (by omega) _
theorem sizeA : Z63.size = ptL.toArray.size := by simp [Z63, ptL_len]
theorem sizeB : Z64.size = ltL.toArray.size := by simp [Z64, ltL_len]
theorem oneA : ∀ v ∈ ptL.toArray.toList, v.oneCell' = true := by simpa using ptL_one
theorem oneB : ∀ v ∈ ltL.toArray.toList, v.oneCell' = true := by simpa using ltL_one
/-- The two tables lie in variables of the call's own. -/
def Tabs (w : World) (g h : Nat) : Prop := Blk w g 63 ptL.toArray ∧ Blk w h 64 ltL.toArray
theorem Tabs.pt {w : World} {g h : Nat} (t : Tabs w g h) (i : Nat) (hi : i < 510) : w.cell? ⟨g, i, none⟩ = some (.int .u8 (px i)) := by
  rw [t.1.cell]; simpa using pt_at i hi
theorem Tabs.lt {w : World} {g h : Nat} (t : Tabs w g h) (x : Nat) (hx : x < 256) : w.cell? ⟨h, x, none⟩ = some (.int .i64 (lg x)) := by
  rw [t.2.cell]; simpa using lt_at x hx
theorem Tabs.ext {w w' : World} {g h : Nat} (t : Tabs w g h) (e : Ext w w') : Tabs w' g h := ⟨t.1.ext e, t.2.ext e⟩
theorem tabs_new (w : World) : ∃ wt, (((w.alloc (.cells Z63 63)).alloc (.cells Z64 64)).setRow w.heap.size ptL.toArray).setRow (w.heap.size + 1) ltL.toArray = wt ∧ Ext w wt ∧ Tabs wt w.heap.size (w.heap.size + 1) ∧ wt.heap.size = w.heap.size + 2 := by
  refine ⟨_, rfl, ((((Ext.refl _).alloc _).alloc _).setRow (Nat.le_refl _) _).setRow (by omega) _, ⟨?_, ?_⟩, by simp⟩
  · exact ((blkA w).setRow _).setRow_far (by omega) _
  · exact (blkB w).setRow _