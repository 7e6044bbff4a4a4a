import Derived.Test.YtjmkbdbjefcfmaaC2
namespace Go.Proofs.Ytjmkbdbjefcfmaa
open Go.RowKit Go.Gf
theorem u16_of (a : Int) (h : (Lit.int .u16 a).wf = true) : ∃ n : Nat, a = n ∧ n < 65536 := by
  have : 0 ≤ a ∧ a ≤ 65535 := by
    have h2 : IntKind.u16.min ≤ a ∧ a ≤ IntKind.u16.max := by simpa [Lit.wf] using h
    exact h2
  exact ⟨a.toNat, by omega, by omega⟩
theorem fp_add (a x y : Nat) (ha : a < 256) : fm (fp a x) (fp a y) = fp a (x + y) := by
  induction y with
  | zero => rw [fp, fm_one_r]; rfl
  | succ y ih => rw [fp, ← fm_assoc _ _ _ (fp_lt a x ha) (fp_lt a y ha) ha, ih]; rfl
theorem fp_fm (a b x : Nat) (ha : a < 256) (hb : b < 256) : fp (fm a b) x = fm (fp a x) (fp b x) := by
  induction x with
  | zero => rw [fp, fp, fp, fm_one_r]
  | succ x ih =>
    have la := fp_lt a x ha
    have lb := fp_lt b x hb
    rw [fp, ih, fp, fp, fm_assoc _ _ _ la lb (fm_lt a b ha), ← fm_assoc _ _ _ lb ha hb, fm_comm (fp b x) a lb ha, fm_assoc _ _ _ ha lb hb, ← fm_assoc _ _ _ la ha (fm_lt _ _ lb)]
theorem fp_fp (a x y : Nat) (ha : a < 256) : fp (fp a x) y = fp a (x * y) := by
  induction y with
  | zero => rfl
  | succ y ih => rw [fp, ih, fp_add _ _ _ ha, Nat.mul_succ]
theorem px_255 (l x : Nat) : px (l * (x + 255)) = px (l * x) := by
  rw [← px_mul l (x + 255), ← px_mul l x, show (x + 255) % 255 = x % 255 by omega]
theorem fp_255 (a x : Nat) (ha : a < 256) (hx : 0 < x) : fp a (x + 255) = fp a x := by
  by_cases h : a = 0
  · subst h
    obtain ⟨k, rfl⟩ : ∃ k, x = k + 1 := ⟨x - 1, by omega⟩
    rw [show k + 1 + 255 = (k + 255) + 1 by omega, fp_zero, fp_zero]
  · rw [fp_px a ha h, fp_px a ha h, px_255]
theorem fp_254 (a : Nat) (ha : a < 256) (h : a ≠ 0) : fp a 254 = fi a := by
  refine fi_uni a _ ha (fp_lt a 254 ha) h ?_
  rw [fm_comm _ _ ha (fp_lt a 254 ha)]
  show fp a 255 = 1
  rw [fp_px a ha h, ← px_mul]
  exact pw_zero
set_option maxRecDepth 100000 in
theorem fieldPows_walk (a0 a1 a2 a3 : Int) (W : World) (h0 : (Lit.int .u8 a0).wf = true) (h1 : (Lit.int .u8 a1).wf = true) (h2 : (Lit.int .u16 a2).wf = true) (h3 : (Lit.int .u16 a3).wf = true) :
    Calls Try.prog 5 #[.int .u8 a0, .int .u8 a1, .int .u16 a2, .int .u16 a3] W fun e w' => e = .returned (.bool true) ∧ Ext W w' := by
  obtain ⟨a, rfl, ha⟩ := byte_of a0 h0
  obtain ⟨b, rfl, hb⟩ := byte_of a1 h1
  obtain ⟨m, rfl, hm⟩ := u16_of a2 h2
  obtain ⟨n, rfl, hn⟩ := u16_of a3 h3
  clear h0 h1 h2 h3
  have em : (m : Int) % 600 = ((m % 600 : Nat) : Int) := by omega
  have en : (n : Int) % 600 = ((n % 600 : Nat) : Int) := by omega
  have lm : m % 600 < 600 := Nat.mod_lt _ (by omega)
  have ln : n % 600 < 600 := Nat.mod_lt _ (by omega)
  generalize m % 600 = p at *
  generalize n % 600 = q at *
  have hab := fm_lt a b ha
  have lp : fp a (1 + p) < 256 := fp_lt a _ ha
  have lq : fp a (1 + q) < 256 := fp_lt a _ ha
  have lbp : fp b (1 + p) < 256 := fp_lt b _ hb
  have PX : ∀ w : World, Calls Try.prog 18 #[.int .u8 a, .int .i64 (1 + (p : Int))] w fun e w' => e = .returned (.int .u8 (fp a (1 + p))) ∧ Ext w w' := fun w => by
    have := pow_any a (1 + (p : Int)) w ha (by omega)
    rw [show ((1 + (p : Int))).toNat = 1 + p by omega] at this; exact this
  have PY : ∀ w : World, Calls Try.prog 18 #[.int .u8 a, .int .i64 (1 + (q : Int))] w fun e w' => e = .returned (.int .u8 (fp a (1 + q))) ∧ Ext w w' := fun w => by
    have := pow_any a (1 + (q : Int)) w ha (by omega)
    rw [show ((1 + (q : Int))).toNat = 1 + q by omega] at this; exact this
  have PB : ∀ w : World, Calls Try.prog 18 #[.int .u8 b, .int .i64 (1 + (p : Int))] w fun e w' => e = .returned (.int .u8 (fp b (1 + p))) ∧ Ext w w' := fun w => by
    have := pow_any b (1 + (p : Int)) w hb (by omega)
    rw [show ((1 + (p : Int))).toNat = 1 + p by omega] at this; exact this
  have PAB : ∀ w : World, Calls Try.prog 18 #[.int .u8 (fm a b), .int .i64 (1 + (p : Int))] w fun e w' => e = .returned (.int .u8 (fm (fp a (1 + p)) (fp b (1 + p)))) ∧ Ext w w' := fun w => by
    have := pow_any (fm a b) (1 + (p : Int)) w hab (by omega)
    rw [show ((1 + (p : Int))).toNat = 1 + p by omega, fp_fm a b _ ha hb] at this; exact this
  have PXY : ∀ w : World, Calls Try.prog 18 #[.int .u8 a, .int .i64 (1 + (p : Int) + (1 + (q : Int)))] w fun e w' => e = .returned (.int .u8 (fm (fp a (1 + p)) (fp a (1 + q)))) ∧ Ext w w' := fun w => by
    have := pow_any a (1 + (p : Int) + (1 + (q : Int))) w ha (by omega)
    rw [show ((1 + (p : Int) + (1 + (q : Int)))).toNat = (1 + p) + (1 + q) by omega, ← fp_add a _ _ ha] at this; exact this
  have P255 : ∀ w : World, Calls Try.prog 18 #[.int .u8 a, .int .i64 (1 + (p : Int) + 255)] w fun e w' => e = .returned (.int .u8 (fp a (1 + p))) ∧ Ext w w' := fun w => by
    have := pow_any a (1 + (p : Int) + 255) w ha (by omega)
    rw [show ((1 + (p : Int) + 255)).toNat = (1 + p) + 255 by omega, fp_255 a _ ha (by omega)] at this; exact this
  have PNEG : ∀ w : World, Calls Try.prog 18 #[.int .u8 a, .int .i64 (-(1 + (p : Int)))] w fun e w' => e = .returned (.int .u8 1) ∧ Ext w w' := fun w => by
    have := pow_any a (-(1 + (p : Int))) w ha (by omega)
    rw [show ((-(1 + (p : Int)))).toNat = 0 by omega] at this; exact this
  have P0 : ∀ w : World, Calls Try.prog 18 #[.int .u8 a, .int .i64 (0 : Int)] w fun e w' => e = .returned (.int .u8 1) ∧ Ext w w' := fun w => by
    have := pow_any a (0 : Int) w ha (by omega)
    rw [show ((0 : Int)).toNat = 0 by omega] at this; exact this
  have PXP : ∀ w : World, Calls Try.prog 18 #[.int .u8 (fp a (1 + p)), .int .i64 (1 + (q : Int))] w fun e w' => e = .returned (.int .u8 (fp (fp a (1 + p)) (1 + q))) ∧ Ext w w' := fun w => by
    have := pow_any (fp a (1 + p)) (1 + (q : Int)) w lp (by omega)
    rw [show ((1 + (q : Int))).toNat = 1 + q by omega] at this; exact this
  have em2 : (1 + (p : Int)) * (1 + (q : Int)) = (((1 + p) * (1 + q) : Nat) : Int) := by push_cast; rfl
  have lm2 : (1 + p) * (1 + q) ≤ 600 * 600 := Nat.mul_le_mul (by omega) (by omega)
  have PM : ∀ w : World, Calls Try.prog 18 #[.int .u8 a, .int .i64 ((1 + (p : Int)) * (1 + (q : Int)))] w fun e w' => e = .returned (.int .u8 (fp (fp a (1 + p)) (1 + q))) ∧ Ext w w' := fun w => by
    have := pow_any a (((1 + p) * (1 + q) : Nat) : Int) w ha (by omega)
    rw [Int.toNat_natCast, ← fp_fp a _ _ ha, ← em2] at this; exact this
  have km2 : (0 : Int) ≤ (1 + (p : Int)) * (1 + (q : Int)) := by rw [em2]; omega
  have km3 : (1 + (p : Int)) * (1 + (q : Int)) ≤ 360000 := by rw [em2]; omega
  clear em2 lm2
  by_cases h : a = 0
  · have INV : ∀ w : World, Calls Try.prog 17 #[.int .u8 a] w fun e w' => e = .returned (.tuple #[.int .u8 (invV a), .int .i64 40]) ∧ Ext w w' := fun w => by
      have := inv_any a w ha
      rw [show invE a = 40 by simp [invE, h]] at this; exact this
    clear h
    go_enter Try.func5, Try.ntmps5
    have hO := Ext.refl W
    go_wp2_with (first
        | (go_at_call 18; with_reducible refine (PX _).mono ?_; rintro e w0 ⟨rfl, hE0⟩; replace hO := hO.trans hE0; clear hE0)
        | (go_at_call 18; with_reducible refine (PY _).mono ?_; rintro e w1 ⟨rfl, hE1⟩; replace hO := hO.trans hE1; clear hE1)
        | (go_at_call 18; with_reducible refine (PB _).mono ?_; rintro e w2 ⟨rfl, hE2⟩; replace hO := hO.trans hE2; clear hE2)
        | (go_at_call 18; with_reducible refine (PAB _).mono ?_; rintro e w3 ⟨rfl, hE3⟩; replace hO := hO.trans hE3; clear hE3)
        | (go_at_call 18; with_reducible refine (PXY _).mono ?_; rintro e w4 ⟨rfl, hE4⟩; replace hO := hO.trans hE4; clear hE4)
        | (go_at_call 18; with_reducible refine (P255 _).mono ?_; rintro e w5 ⟨rfl, hE5⟩; replace hO := hO.trans hE5; clear hE5)
        | (go_at_call 18; with_reducible refine (PNEG _).mono ?_; rintro e w6 ⟨rfl, hE6⟩; replace hO := hO.trans hE6; clear hE6)
        | (go_at_call 18; with_reducible refine (P0 _).mono ?_; rintro e w7 ⟨rfl, hE7⟩; replace hO := hO.trans hE7; clear hE7)
        | (go_at_call 18; with_reducible refine (PXP _).mono ?_; rintro e w8 ⟨rfl, hE8⟩; replace hO := hO.trans hE8; clear hE8)
        | (go_at_call 18; with_reducible refine (PM _).mono ?_; rintro e w9 ⟨rfl, hE9⟩; replace hO := hO.trans hE9; clear hE9)
        | (go_at_call 16; with_reducible refine (mul_any (fp a (1 + p)) (fp a (1 + q)) _ lp lq).mono ?_; rintro e w20 ⟨rfl, hE20⟩; replace hO := hO.trans hE20; clear hE20)
        | (go_at_call 16; with_reducible refine (mul_any a b _ ha hb).mono ?_; rintro e w21 ⟨rfl, hE21⟩; replace hO := hO.trans hE21; clear hE21)
        | (go_at_call 16; with_reducible refine (mul_any (fp a (1 + p)) (fp b (1 + p)) _ lp lbp).mono ?_; rintro e w22 ⟨rfl, hE22⟩; replace hO := hO.trans hE22; clear hE22)
        | (go_at_call 17; with_reducible refine (INV _).mono ?_; rintro e w23 ⟨rfl, hE23⟩; replace hO := hO.trans hE23; clear hE23)
        | (go_at_call 9; with_reducible refine (alive_any _).mono ?_; rintro e w24 ⟨rfl, hE24⟩; replace hO := hO.trans hE24; clear hE24))
    go_ret
    exact ⟨rfl, hO⟩
  · have INV : ∀ w : World, Calls Try.prog 17 #[.int .u8 a] w fun e w' => e = .returned (.tuple #[.int .u8 (fi a), .int .i64 0]) ∧ Ext w w' := fun w => inv_ne a w ha h
    have P254 : ∀ w : World, Calls Try.prog 18 #[.int .u8 a, .int .i64 254] w fun e w' => e = .returned (.int .u8 (fi a)) ∧ Ext w w' := fun w => by
      have := pow_any a 254 w ha (by omega)
      rw [show (254 : Int).toNat = 254 by omega, fp_254 a ha h] at this; exact this
    clear h
    go_enter Try.func5, Try.ntmps5
    have hO := Ext.refl W
    go_wp2_with (first
        | (go_at_call 18; with_reducible refine (PX _).mono ?_; rintro e w0 ⟨rfl, hE0⟩; replace hO := hO.trans hE0; clear hE0)
        | (go_at_call 18; with_reducible refine (PY _).mono ?_; rintro e w1 ⟨rfl, hE1⟩; replace hO := hO.trans hE1; clear hE1)
        | (go_at_call 18; with_reducible refine (PB _).mono ?_; rintro e w2 ⟨rfl, hE2⟩; replace hO := hO.trans hE2; clear hE2)
        | (go_at_call 18; with_reducible refine (PAB _).mono ?_; rintro e w3 ⟨rfl, hE3⟩; replace hO := hO.trans hE3; clear hE3)
        | (go_at_call 18; with_reducible refine (PXY _).mono ?_; rintro e w4 ⟨rfl, hE4⟩; replace hO := hO.trans hE4; clear hE4)
        | (go_at_call 18; with_reducible refine (P255 _).mono ?_; rintro e w5 ⟨rfl, hE5⟩; replace hO := hO.trans hE5; clear hE5)
        | (go_at_call 18; with_reducible refine (PNEG _).mono ?_; rintro e w6 ⟨rfl, hE6⟩; replace hO := hO.trans hE6; clear hE6)
        | (go_at_call 18; with_reducible refine (P0 _).mono ?_; rintro e w7 ⟨rfl, hE7⟩; replace hO := hO.trans hE7; clear hE7)
        | (go_at_call 18; with_reducible refine (PXP _).mono ?_; rintro e w8 ⟨rfl, hE8⟩; replace hO := hO.trans hE8; clear hE8)
        | (go_at_call 18; with_reducible refine (PM _).mono ?_; rintro e w9 ⟨rfl, hE9⟩; replace hO := hO.trans hE9; clear hE9)
        | (go_at_call 16; with_reducible refine (mul_any (fp a (1 + p)) (fp a (1 + q)) _ lp lq).mono ?_; rintro e w20 ⟨rfl, hE20⟩; replace hO := hO.trans hE20; clear hE20)
        | (go_at_call 16; with_reducible refine (mul_any a b _ ha hb).mono ?_; rintro e w21 ⟨rfl, hE21⟩; replace hO := hO.trans hE21; clear hE21)
        | (go_at_call 16; with_reducible refine (mul_any (fp a (1 + p)) (fp b (1 + p)) _ lp lbp).mono ?_; rintro e w22 ⟨rfl, hE22⟩; replace hO := hO.trans hE22; clear hE22)
        | (go_at_call 17; with_reducible refine (INV _).mono ?_; rintro e w23 ⟨rfl, hE23⟩; replace hO := hO.trans hE23; clear hE23)
        | (go_at_call 9; with_reducible refine (alive_any _).mono ?_; rintro e w24 ⟨rfl, hE24⟩; replace hO := hO.trans hE24; clear hE24)
        | (go_at_call 18; with_reducible refine (P254 _).mono ?_; rintro e w25 ⟨rfl, hE25⟩; replace hO := hO.trans hE25; clear hE25))
    go_ret
    exact ⟨rfl, hO⟩
