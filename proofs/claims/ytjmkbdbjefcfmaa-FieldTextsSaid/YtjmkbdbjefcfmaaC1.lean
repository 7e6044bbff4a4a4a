import Derived.Test.YtjmkbdbjefcfmaaB10
namespace Go.Proofs.Ytjmkbdbjefcfmaa
open Go.RowKit Go.Gf
theorem fp_lt (a n : Nat) (_ : a < 256) : fp a n < 256 := by
  cases n with
  | zero => show (1 : Nat) < 256; omega
  | succ n =>
    unfold fp
    exact fm_lt _ _ (by induction n with
      | zero => show (1 : Nat) < 256; omega
      | succ n ih => exact fm_lt _ _ ih)
theorem pow_any (a : Nat) (n : Int) (w : World) (ha : a < 256) (hn : n ≤ 1000000) : Calls Try.prog 18 #[.int .u8 a, .int .i64 n] w fun e w' => e = .returned (.int .u8 (fp a n.toNat)) ∧ Ext w w' := by
  by_cases h : n ≤ 0
  · have := pow_le a n w h
    rw [show n.toNat = 0 by omega]; exact this
  · obtain ⟨m, rfl⟩ : ∃ m : Nat, n = m := ⟨n.toNat, by omega⟩
    rw [Int.toNat_natCast]
    by_cases h0 : a = 0
    · subst h0
      have := pow_zero (m : Int) w (by omega)
      obtain ⟨k, rfl⟩ : ∃ k, m = k + 1 := ⟨m - 1, by omega⟩
      rw [fp_zero]; exact this
    · have := pow_ne a m w ha h0 (by omega) (by omega)
      rw [px_mul, ← fp_px a ha h0 m] at this; exact this
set_option maxRecDepth 100000 in
theorem rpow_any (a : Nat) (n : Int) (w : World) (ha : a < 256) (hn : n ≤ 1000000) : Calls Try.prog 24 #[.int .u8 a, .int .i64 n] w fun e w' => e = .returned (.int .u8 (fp a n.toNat)) ∧ Ext w w' := by
  obtain ⟨m, hm⟩ : ∃ m, m = n.toNat := ⟨_, rfl⟩
  rw [← hm]
  go_enter Try.func24, Try.ntmps24
  go_wp2
  go_loopw [5, 6] (fun x i wr => ∃ k : Nat, k ≤ m ∧ i = .int .i64 k ∧ x = .int .u8 (fp a k) ∧ Ext w wr) (fun _ i _ => m - (intOf i).toNat)
  case atStart => exact ⟨0, by omega, rfl, rfl, Ext.refl _⟩
  case round =>
    obtain ⟨k, hk, rfl, rfl, hE⟩ := hrel
    by_cases hk2 : k < m
    · have k1 : (k : Int) < n := by omega
      have kl := fp_lt a k ha
      have hnx : fm (fp a k) a = fp a (k + 1) := rfl
      generalize fp a k = x at *
      have HX := Lib.hid hnx
      clear hnx hm
      go_wp2_with (go_at_call 23; refine (rmul_any x a _ kl ha).mono ?_; rintro e w2 ⟨rfl, hE2⟩)
      go_roundw
      case rel => exact ⟨k + 1, by omega, by go_num, by rw [HX.out], hE.trans hE2⟩
      case measure => simp [intOf]; omega
    · obtain rfl : k = m := by omega
      have k1 : ¬ (k : Int) < n := by omega
      clear hm
      go_wp2
      go_ret
      exact ⟨rfl, hE⟩
theorem inv2 (w : World) : Calls Try.prog 17 #[.int .u8 2] w fun e w' => e = .returned (.tuple #[.int .u8 142, .int .i64 0]) ∧ Ext w w' := by
  have := inv_any 2 w (by omega)
  rw [show invV 2 = 142 by decide +kernel, show invE 2 = 0 by decide +kernel] at this; exact this
theorem inv0 (w : World) : Calls Try.prog 17 #[.int .u8 0] w fun e w' => e = .returned (.tuple #[.int .u8 0, .int .i64 40]) ∧ Ext w w' := by
  have := inv_any 0 w (by omega)
  rw [show invV 0 = 0 by decide +kernel, show invE 0 = 40 by decide +kernel] at this; exact this
theorem mul1 (w : World) : Calls Try.prog 16 #[.int .u8 2, .int .u8 128] w fun e w' => e = .returned (.int .u8 29) ∧ Ext w w' := by
  have := mul_any 2 128 w (by omega) (by omega)
  rw [show fm 2 128 = 29 by decide +kernel] at this; exact this
theorem mul2 (w : World) : Calls Try.prog 16 #[.int .u8 3, .int .u8 7] w fun e w' => e = .returned (.int .u8 9) ∧ Ext w w' := by
  have := mul_any 3 7 w (by omega) (by omega)
  rw [show fm 3 7 = 9 by decide +kernel] at this; exact this
theorem add1 (w : World) : Calls Try.prog 22 #[.int .u8 5, .int .u8 3] w fun e w' => e = .returned (.int .u8 6) ∧ Ext w w' := by
  have := add_any 5 3 w (by omega) (by omega)
  rw [show 5 ^^^ 3 = 6 by decide +kernel] at this; exact this
theorem pow1 (w : World) : Calls Try.prog 18 #[.int .u8 2, .int .i64 8] w fun e w' => e = .returned (.int .u8 29) ∧ Ext w w' := by
  have := pow_any 2 8 w (by omega) (by omega)
  rw [show fp 2 (8 : Int).toNat = 29 by decide +kernel] at this; exact this
theorem times1 (w : World) : Calls Try.prog 14 #[.int .u8 2, .string { data := #[128, 1] }] w fun e w' => e = .returned (.string { data := #[29, 2] }) ∧ Ext w w' := by
  have := times_any 2 { data := #[128, 1] } w (by omega) (by decide)
  rw [show timesT 2 { data := #[128, 1] } = { data := #[29, 2] } by decide +kernel] at this; exact this
theorem sum1v : sumV { data := #[2, 3] } [{ data := #[1, 2] }, { data := #[1, 1] }] = { data := #[1, 7] } ∧ sumE { data := #[2, 3] } [{ data := #[1, 2] }, { data := #[1, 1] }] = 0 := by
  have h := sum_yes { data := #[2, 3] } [{ data := #[1, 2] }, { data := #[1, 1] }] ⟨rfl, by intro s hs; simp at hs; rcases hs with rfl | rfl <;> rfl⟩
  exact ⟨h.1.trans (by decide +kernel), h.2⟩
theorem plus1v : sumV (onesT 2) [{ data := #[97] }, { data := #[] }] = { data := #[] } ∧ sumE (onesT 2) [{ data := #[97] }, { data := #[] }] = 2 :=
  sum_no _ _ (fun h => absurd (h.2 { data := #[] } (by simp)) (by decide))
theorem sum1 (A : Option Addr) (cap : Nat) (w : World) (hr : Rd w A 2 [.string { data := #[1, 2] }, .string { data := #[1, 1] }]) : Calls Try.prog 12 #[.string { data := #[2, 3] }, .slice A 2 cap] w fun e w' => e = .returned (.tuple #[.string { data := #[1, 7] }, .int .i64 0]) ∧ Ext w w' := by
  have := sum_any { data := #[2, 3] } A 2 cap [{ data := #[1, 2] }, { data := #[1, 1] }] w hr (by omega) (by decide) (by intro s hs; simp at hs; rcases hs with rfl | rfl <;> decide)
  rw [sum1v.1, sum1v.2] at this; exact this
theorem plus1 (A : Option Addr) (cap : Nat) (w : World) (hr : Rd w A 2 [.string { data := #[97] }, .string { data := #[] }]) : Calls Try.prog 10 #[.slice A 2 cap] w fun e w' => e = .returned (.tuple #[.string { data := #[] }, .int .i64 2]) ∧ Ext w w' := by
  have := plusL_any A 2 cap [{ data := #[97] }, { data := #[] }] w hr (by omega) (by intro s hs; simp at hs; rcases hs with rfl | rfl <;> decide)
  rw [plus1v.1, plus1v.2] at this; exact this

set_option maxRecDepth 100000 in
theorem alive_any (w : World) : Calls Try.prog 9 #[] w fun e w' => e = .returned (.bool true) ∧ Ext w w' := by
  go_enter Try.func9, Try.ntmps9
  go_wp2_with (first
    | (go_at_call 17; with_reducible refine (inv2 _).mono ?_; rintro e w1 ⟨rfl, hE1⟩)
    | (go_at_call 17; with_reducible refine (inv0 _).mono ?_; rintro e w2 ⟨rfl, hE2⟩)
    | (go_at_call 12; with_reducible refine (sum1 _ _ _ (Rd.new _ _ _ 2 rfl)).mono ?_; rintro e w3 ⟨rfl, hE3⟩)
    | (go_at_call 10; with_reducible refine (plus1 _ _ _ (Rd.new _ _ _ 2 rfl)).mono ?_; rintro e w4 ⟨rfl, hE4⟩)
    | (go_at_call 16; with_reducible refine (mul1 _).mono ?_; rintro e w5 ⟨rfl, hE5⟩)
    | (go_at_call 16; with_reducible refine (mul2 _).mono ?_; rintro e w6 ⟨rfl, hE6⟩)
    | (go_at_call 22; with_reducible refine (add1 _).mono ?_; rintro e w7 ⟨rfl, hE7⟩)
    | (go_at_call 18; with_reducible refine (pow1 _).mono ?_; rintro e w8 ⟨rfl, hE8⟩)
    | (go_at_call 14; with_reducible refine (times1 _).mono ?_; rintro e w9 ⟨rfl, hE9⟩))
  go_ret
  exact ⟨rfl, ((((((((hE1.trans hE2).alloc _).trans hE3).alloc _).trans hE4).trans hE5).trans hE6).trans hE7).trans hE8 |>.trans hE9⟩
