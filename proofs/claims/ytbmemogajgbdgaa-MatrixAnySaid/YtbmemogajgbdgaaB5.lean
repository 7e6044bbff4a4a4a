import Derived.Test.YtbmemogajgbdgaaB4
namespace Go.Proofs.Ytbmemogajgbdgaa
open Go.RowKit Go.Gf
theorem u8_xor (a b : Nat) (ha : a < 256) (hb : b < 256) : bits .xor .u8 (a : Int) (b : Int) = ((a ^^^ b : Nat) : Int) := by
  have hx : a ^^^ b < 2 ^ 8 := Nat.xor_lt_two_pow (by omega) (by omega)
  have h1 : ∀ a : Nat, a < 256 → (BitVec.ofInt 8 (a : Int)).toNat = a := fun a ha => by
    rw [BitVec.ofInt_natCast, BitVec.toNat_ofNat]; exact Nat.mod_eq_of_lt (by omega)
  show IntKind.u8.wrap ((BitVec.ofInt 8 (a : Int) ^^^ BitVec.ofInt 8 (b : Int)).toNat : Int) = _
  rw [BitVec.toNat_xor, h1 a ha, h1 b hb]
  simp [IntKind.wrap, IntKind.bits, IntKind.signed]; omega
/-- The inverse, 0 of 0; and what is told. -/
def invV (a : Nat) : Nat := if a = 0 then 0 else fi a
def invE (a : Nat) : Int := if a = 0 then 40 else 0
theorem invV_lt (a : Nat) : invV a < 256 := by unfold invV; split; omega; exact (fi_bd a).2
theorem inv_any (a : Nat) (w : World) (ha : a < 256) : Calls Try.prog 28 #[.int .u8 a] w fun e w' => e = .returned (.tuple #[.int .u8 (invV a), .int .i64 (invE a)]) ∧ Ext w w' := by
  by_cases h : a = 0
  · subst h; exact inv_zero w
  · unfold invV invE; rw [if_neg h, if_neg h]; exact inv_ne a w ha h
theorem fi_uni (a b : Nat) (ha : a < 256) (hb : b < 256) (a0 : a ≠ 0) (h : fm a b = 1) : b = fi a := by
  have hf := (fi_bd a).2
  have h1 : fm (fm (fi a) a) b = b := by rw [fm_comm (fi a) a hf ha, fm_fi a ha a0, fm_comm 1 b (by omega) hb, fm_one_r]
  rw [fm_assoc _ _ _ hf ha hb, h, fm_one_r] at h1
  exact h1.symm
set_option maxRecDepth 100000 in
theorem rinv_any (a : Nat) (w : World) (ha : a < 256) : Calls Try.prog 31 #[.int .u8 a] w fun e w' => e = .returned (.tuple #[.int .u8 (invV a), .int .i64 (invE a)]) ∧ Ext w w' := by
  have h0 : a = 0 → invV a = 0 ∧ invE a = 40 := fun h => by simp [invV, invE, h]
  have h1 : a ≠ 0 → invV a = fi a ∧ invE a = 0 := fun h => by simp [invV, invE, h]
  have H0 := Lib.hid h0
  have H1 := Lib.hid h1
  clear h0 h1
  go_enter Try.func31, Try.ntmps31
  go_wp2
  go_loopw [4] (fun i wr => ∃ k : Nat, 1 ≤ k ∧ k ≤ 256 ∧ i = .int .i64 k ∧ (∀ c, 1 ≤ c → c < k → fm a c ≠ 1) ∧ Ext w wr) (fun i _ => 256 - (intOf i).toNat)
  case atStart => exact ⟨1, by omega, by omega, rfl, fun c h1 h2 => by omega, Ext.refl _⟩
  case round =>
    obtain ⟨k, hk1, hk, rfl, hno, hE⟩ := hrel
    have HNO := Lib.hid hno
    clear hno
    by_cases hk2 : k < 256
    · have hfl := fm_lt a k ha
      by_cases hf : fm a k = 1
      · have hz : a ≠ 0 := fun h => by subst h; rw [fm_zero_l] at hf; omega
        have hu := fi_uni a k ha hk2 hz hf
        have hv := (H1.out hz).1
        have he := (H1.out hz).2
        have HU := Lib.hid hu
        have HV := Lib.hid hv
        have HE := Lib.hid he
        have hq : ((fm a k : Int) == 1) = true := by rw [hf]; rfl
        clear hu hv he hf hz
        go_wp2_with (go_at_call 26; refine (rmul_any a k _ ha hk2).mono ?_; rintro e w1 ⟨rfl, hE1⟩)
        go_ret2
        exact ⟨by rw [HV.out, HE.out, ← HU.out]; rfl, hE.trans hE1⟩
      · have hq : ((fm a k : Int) == 1) = false := by simp; omega
        have HF := Lib.hid hf
        clear hf
        go_wp2_with (go_at_call 26; refine (rmul_any a k _ ha hk2).mono ?_; rintro e w1 ⟨rfl, hE1⟩)
        go_roundw
        case rel => exact ⟨k + 1, by omega, by omega, by go_num, fun c h1 h2 => by
          rcases Nat.lt_or_ge c k with h | h
          · exact HNO.out c h1 h
          · have : c = k := by omega
            subst this; exact HF.out, hE.trans hE1⟩
        case measure => simp [intOf]; omega
    · obtain rfl : k = 256 := by omega
      have hz : a = 0 := by
        by_cases h : a = 0
        · exact h
        · exact absurd (fm_fi a ha h) (HNO.out (fi a) (fi_bd a).1 (fi_bd a).2)
      have hv := (H0.out hz).1
      have he := (H0.out hz).2
      have HV := Lib.hid hv
      have HE := Lib.hid he
      clear hv he hz
      go_wp2
      go_ret2
      exact ⟨by rw [HV.out, HE.out]; rfl, hE⟩
theorem add_any (a b : Nat) (w : World) (ha : a < 256) (hb : b < 256) : Calls Try.prog 36 #[.int .u8 a, .int .u8 b] w fun e w' => e = .returned (.int .u8 (a ^^^ b : Nat)) ∧ Ext w w' := by
  have hx := u8_xor a b ha hb
  go_enter Try.func36, Try.ntmps36
  go_wp2
  go_ret
  exact ⟨rfl, Ext.refl _⟩
/-- The quotient, and what is told. -/
def divV (a b : Nat) : Nat := fm a (invV b)