import Derived.Test.YtbmemogajgbdgaaB2
namespace Go.Proofs.Ytbmemogajgbdgaa
open Go.RowKit Go.Gf
set_option maxRecDepth 100000 in
theorem inv_zero (w : World) : Calls Try.prog 28 #[.int .u8 0] w fun e w' => e = .returned (.tuple #[.int .u8 0, .int .i64 40]) ∧ Ext w w' := by
  go_enter Try.func28, Try.ntmps28
  go_wp2
  go_ret2
  exact ⟨rfl, Ext.refl _⟩
set_option maxRecDepth 100000 in
theorem inv_ne (a : Nat) (w : World) (ha : a < 256) (a0 : a ≠ 0) : Calls Try.prog 28 #[.int .u8 a] w fun e w' => e = .returned (.tuple #[.int .u8 (fi a), .int .i64 0]) ∧ Ext w w' := by
  unfold fi
  have e1 : ((a : Int) == 0) = false := by simpa using a0
  have l1 := lg_lt a ha
  have k1 : (a : Int) < 256 := by omega
  have k2 : ((255 : Int) - (lg a : Int)) = ((255 - lg a : Nat) : Int) := by omega
  have k3 : 255 - lg a < 510 := by omega
  generalize 255 - lg a = q at *
  go_enter Try.func28, Try.ntmps28
  go_wp2_with (first
    | (go_at_call 40; refine (tables_any _).mono ?_; rintro e w1 ⟨rfl, hE1⟩)
    | (with_reducible refine wpList_alloc_big rfl 63 rfl Z63 zero63 ?_)
    | (with_reducible refine wpList_alloc_at rfl 64 rfl Z64 zero64 (w1.heap.size + 1) (by simp) ?_)
    | (refine wpList_store_big rfl 63 _ _ rfl w1.heap.size 63 Z63 ptL.toArray rfl rfl (blkA _) sizeA i1 oneA ?_)
    | (refine wpList_store_big rfl 64 _ _ rfl (w1.heap.size + 1) 64 Z64 ltL.toArray rfl rfl (blkB _) sizeB i2 oneB ?_; obtain ⟨wt, hwt, hE2, hT, hs⟩ := tabs_new w1; rw [hwt]; clear hwt hs; have hE := hE1.trans hE2; clear hE1 hE2; generalize w1.heap.size = g at *; have c1 := hT.lt a ha; have c3 := hT.pt q k3; clear hT))
  go_ret2
  exact ⟨rfl, hE⟩
/-- The powers of an element. -/
def fp (a : Nat) : Nat → Nat
  | 0 => 1
  | n + 1 => fm (fp a n) a
theorem fp_px (a : Nat) (ha : a < 256) (a0 : a ≠ 0) (n : Nat) : fp a n = px (lg a * n) := by
  induction n with
  | zero => exact pw_zero.symm
  | succ n ih =>
    rw [fp, ih]
    conv => lhs; arg 2; rw [← px_of a ha a0]
    rw [fm_px, Nat.mul_succ]
theorem fp_zero (n : Nat) : fp 0 (n + 1) = 0 := by rw [fp, fm_zero_r]
theorem px_mul (l n : Nat) : px ((l * (n % 255)) % 255) = px (l * n) := by
  unfold px
  rw [Nat.mod_mod, Nat.mul_mod, Nat.mod_mod, ← Nat.mul_mod]