import Derived.Test.YtimhekdfajakbaaR3
import Derived.Deep.RegionHeld3
namespace Go.Proofs.Ytimhekdfajakbaa
open Go.RowKit
theorem three (w : World) (a b c : Value) (s t u : TypeId) : ∃ w3 : World, w3 = ((w.alloc (.cells #[a] s)).alloc (.cells #[b] t)).alloc (.cells #[c] u) ∧ w3.cell? ⟨w.heap.size, 0, none⟩ = some a ∧ w3.cell? ⟨w.heap.size + 1, 0, none⟩ = some b ∧ w3.cell? ⟨w.heap.size + 1 + 1, 0, none⟩ = some c ∧ Ext w w3 := by
  refine ⟨_, rfl, ?_, ?_, ?_, ?_⟩
  · exact (((Blk.new w s #[a]).alloc _).alloc _).cell 0
  · have h1 := Blk.new (w.alloc (.cells #[a] s)) t #[b]
    rw [show (w.alloc (.cells #[a] s)).heap.size = w.heap.size + 1 by simp] at h1
    exact (h1.alloc _).cell 0
  · have h1 := Blk.new ((w.alloc (.cells #[a] s)).alloc (.cells #[b] t)) u #[c]
    rw [show ((w.alloc (.cells #[a] s)).alloc (.cells #[b] t)).heap.size = w.heap.size + 1 + 1 by simp] at h1
    exact h1.cell 0
  · exact (((Ext.refl w).alloc _).alloc _).alloc _
set_option maxRecDepth 100000 in
theorem read_nil (d x : Int) (w : World) : Calls Try.prog 21 #[.pointer none, .int .i64 d, .int .i64 x] w fun e w' => e = .returned (.tuple #[.string { data := #[] }, .int .i64 1]) ∧ Ext w w' := by
  have hmf := mkf
  obtain ⟨w3, hw3, q1, q2, q3, hO⟩ := three w (.pointer none) (.int .i64 d) (.int .i64 x) 25 3 3
  go_enter Try.func21, Try.ntmps21
  go_wp2_with fail
  rw [← hw3]
  clear hw3
  obtain ⟨g1, h1⟩ : ∃ g, g = w.heap.size := ⟨_, rfl⟩
  obtain ⟨g2, h2⟩ : ∃ g, g = g1 + 1 := ⟨_, rfl⟩
  obtain ⟨g3, h3⟩ : ∃ g, g = g2 + 1 := ⟨_, rfl⟩
  rw [← h1, ← h2] at q2
  rw [← h1] at q1
  rw [← h1, ← h2, ← h3] at q3
  rw [← h1, ← h2, ← h3]
  clear h1 h2 h3
  go_region_held3 (fun w' => w'.cell? ⟨g1, 0, none⟩ = some (.pointer none) ∧ w'.cell? ⟨g2, 0, none⟩ = some (.int .i64 d) ∧ w'.cell? ⟨g3, 0, none⟩ = some (.int .i64 x))
    (first | exact ⟨q1, q2, q3⟩ | exact ⟨k1, k2, k3⟩ | exact ⟨m1, m2, m3⟩ | go_keep)
    (first
      | (go_at_call 31; refine (away_any none d x _).mono ?_; rintro e w4 ⟨gd, gr, gs, rfl, hd, hr, hs, hE⟩; have k1 := hE.cellv q1; have k2 := hE.cellv q2; have k3 := hE.cellv q3)
      | (go_at_call 29; refine (first_nil4 _ _ rfl 71 37 39 38 _ _ _ _ _ _ e37 e39 e38).mono ?_; rintro e w5 ⟨rfl, hE2⟩; have m1 := hE2.cellv k1; have m2 := hE2.cellv k2; have m3 := hE2.cellv k3))
  all_goals go_wp2
  all_goals
    go_ret2
    exact ⟨rfl, (hO.trans (Ext.trans (Ext.drew (Ext.refl _)) hE)).trans hE2⟩
