import Derived.Test.YtjmkbdbjefcfmaaB1
import Derived.BigQuiet
namespace Go.Proofs.Ytjmkbdbjefcfmaa
open Go.RowKit Go.Gf
theorem i1 : (Try.prog.info? 49).map (·.size) = some ptL.toArray.size := by rw [List.size_toArray, ptL_len]; exact info49
theorem i2 : (Try.prog.info? 50).map (·.size) = some ltL.toArray.size := by rw [List.size_toArray, ltL_len]; exact info50
theorem blkA (w : World) : Blk ((w.alloc (.cells Z49 49)).alloc (.cells Z50 50)) w.heap.size 49 Z49 := (Blk.new _ _ _).alloc _
theorem blkB (w : World) : Blk (((w.alloc (.cells Z49 49)).alloc (.cells Z50 50)).setRow w.heap.size ptL.toArray) (w.heap.size + 1) 50 Z50 := by
  have h : Blk ((w.alloc (.cells Z49 49)).alloc (.cells Z50 50)) (w.heap.size + 1) 50 Z50 := by simpa using Blk.new (w.alloc (.cells Z49 49)) 50 Z50
  exact h.setRow_far (by omega) _
theorem sizeA : Z49.size = ptL.toArray.size := by simp [Z49, ptL_len]
theorem sizeB : Z50.size = ltL.toArray.size := by simp [Z50, ltL_len]
theorem oneA : ∀ v ∈ ptL.toArray.toList, v.oneCell' = true := by simpa using ptL_one
theorem oneB : ∀ v ∈ ltL.toArray.toList, v.oneCell' = true := by simpa using ltL_one
/-- The two tables lie in variables of the call's own. -/
def Tabs (w : World) (g h : Nat) : Prop := Blk w g 49 ptL.toArray ∧ Blk w h 50 ltL.toArray
theorem Tabs.pt {w : World} {g h : Nat} (t : Tabs w g h) (i : Nat) (hi : i < 510) : w.cell? ⟨g, i, none⟩ = some (.int .u8 (px i)) := by
  rw [t.1.cell]; simpa using pt_at i hi
theorem Tabs.lt {w : World} {g h : Nat} (t : Tabs w g h) (x : Nat) (hx : x < 256) : w.cell? ⟨h, x, none⟩ = some (.int .i64 (lg x)) := by
  rw [t.2.cell]; simpa using lt_at x hx
theorem Tabs.ext {w w' : World} {g h : Nat} (t : Tabs w g h) (e : Ext w w') : Tabs w' g h := ⟨t.1.ext e, t.2.ext e⟩
theorem tabs_new (w : World) : ∃ wt, (((w.alloc (.cells Z49 49)).alloc (.cells Z50 50)).setRow w.heap.size ptL.toArray).setRow (w.heap.size + 1) ltL.toArray = wt ∧ Ext w wt ∧ Tabs wt w.heap.size (w.heap.size + 1) ∧ wt.heap.size = w.heap.size + 2 := by
  refine ⟨_, rfl, ((((Ext.refl _).alloc _).alloc _).setRow (Nat.le_refl _) _).setRow (by omega) _, ⟨?_, ?_⟩, by simp⟩
  · exact ((blkA w).setRow _).setRow_far (by omega) _
  · exact (blkB w).setRow _
set_option maxRecDepth 100000 in
theorem mul_zero (a b : Nat) (w : World) (h : a = 0 ∨ b = 0) : Calls Try.prog 16 #[.int .u8 a, .int .u8 b] w fun e w' => e = .returned (.int .u8 0) ∧ Ext w w' := by
  by_cases h0 : a = 0
  · subst h0
    go_enter Try.func16, Try.ntmps16
    go_wp2
    go_ret
    exact ⟨rfl, Ext.refl _⟩
  · have hb : b = 0 := by omega
    subst hb
    have ha : ((a : Int) == 0) = false := by simpa using h0
    clear h h0
    go_enter Try.func16, Try.ntmps16
    go_wp2
    go_ret
    exact ⟨rfl, Ext.refl _⟩
set_option maxRecDepth 100000 in
theorem mul_ne (a b : Nat) (w : World) (ha : a < 256) (hb : b < 256) (a0 : a ≠ 0) (b0 : b ≠ 0) : Calls Try.prog 16 #[.int .u8 a, .int .u8 b] w fun e w' => e = .returned (.int .u8 (fm a b)) ∧ Ext w w' := by
  rw [fm_log a b ha hb a0 b0]
  have e1 : ((a : Int) == 0) = false := by simpa using a0
  have e2 : ((b : Int) == 0) = false := by simpa using b0
  have l1 := lg_lt a ha
  have l2 := lg_lt b hb
  go_enter Try.func16, Try.ntmps16
  go_wp2_with (first
    | (go_at_call 25; refine (tables_any _).mono ?_; rintro e w1 ⟨rfl, hE1⟩)
    | (with_reducible refine wpList_alloc_big rfl 49 rfl Z49 zero49 ?_)
    | (with_reducible refine wpList_alloc_at rfl 50 rfl Z50 zero50 (w1.heap.size + 1) (by simp) ?_)
    | (refine wpList_store_big rfl 49 _ _ rfl w1.heap.size 49 Z49 ptL.toArray rfl rfl (blkA _) sizeA i1 oneA ?_)
    | (refine wpList_store_big rfl 50 _ _ rfl (w1.heap.size + 1) 50 Z50 ltL.toArray rfl rfl (blkB _) sizeB i2 oneB ?_))
  obtain ⟨wt, hwt, hE2, hT, hs⟩ := tabs_new w1
  rw [hwt]
  clear hwt hs
  have hE := hE1.trans hE2
  clear hE1 hE2
  generalize w1.heap.size = g at *
  have c1 := hT.lt a ha
  have c2 := hT.lt b hb
  have c3 := hT.pt (lg a + lg b) (by omega)
  clear hT
  have k1 : (a : Int) < 256 := by omega
  have k2 : (b : Int) < 256 := by omega
  have k3 : IntKind.i64.wrap ((lg a : Int) + (lg b : Int)) = (lg a : Int) + (lg b : Int) := IntWalk.i64_in _ (by omega)
  have k4 : (lg a : Int) + (lg b : Int) < 510 := by omega
  have k5 : 0 ≤ (lg a : Int) + (lg b : Int) := by omega
  have k6 : ((lg a : Int) + (lg b : Int)).toNat = lg a + lg b := by omega
  go_quiet (fail)
  clear k1 k2 k3 k4 k5 k6
  go_wp2
  go_ret
  exact ⟨rfl, hE.drewN _⟩
