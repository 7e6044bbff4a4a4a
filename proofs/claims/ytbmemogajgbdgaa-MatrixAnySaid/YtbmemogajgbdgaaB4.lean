import Derived.Test.YtbmemogajgbdgaaB3
namespace Go.Proofs.Ytbmemogajgbdgaa
open Go.RowKit Go.Gf
theorem u8_and1 (a : Nat) (ha : a < 256) : bits .and .u8 (a : Int) 1 = ((a % 2 : Nat) : Int) := by
  have h1 : ∀ a : Nat, a < 256 → (BitVec.ofInt 8 (a : Int)).toNat = a := fun a ha => by
    rw [BitVec.ofInt_natCast, BitVec.toNat_ofNat]; exact Nat.mod_eq_of_lt (by omega)
  show IntKind.u8.wrap ((BitVec.ofInt 8 (a : Int) &&& BitVec.ofInt 8 ((1 : Nat) : Int)).toNat : Int) = _
  rw [BitVec.toNat_and, h1 a ha, h1 1 (by omega), Nat.and_one_is_mod]
  simp [IntKind.wrap, IntKind.bits, IntKind.signed]; omega
theorem i64_and1 (a : Nat) (ha : a < 9223372036854775808) : bits .and .i64 (a : Int) 1 = ((a % 2 : Nat) : Int) := by
  show IntKind.i64.wrap ((BitVec.ofInt 64 (a : Int) &&& BitVec.ofInt 64 ((1 : Nat) : Int)).toNat : Int) = _
  rw [BitVec.toNat_and, ofInt_i64 a ha, ofInt_i64 1 (by omega), Nat.and_one_is_mod, IntKind.wrap_i64]
  omega
theorem div_cast (b k : Nat) : ((b : Int) / 2 ^ k) = ((b / 2 ^ k : Nat) : Int) := by rw [Int.natCast_ediv, Int.natCast_pow]; rfl
theorem bit_u8 (b k : Nat) (hb : b < 256) : (bits BinOp.and IntKind.u8 ((b : Int) / 2 ^ k) 1 == 1) = b.testBit k := by
  rw [div_cast, u8_and1 _ (Nat.lt_of_le_of_lt (Nat.div_le_self _ _) hb), Nat.testBit_eq_decide_div_mod_eq]
  rcases Nat.mod_two_eq_zero_or_one (b / 2 ^ k) with h | h <;> rw [h] <;> rfl
theorem bit_i64 (b k : Nat) (hb : b < 65536) : (bits BinOp.and IntKind.i64 ((b : Int) / 2 ^ k) 1 == 1) = b.testBit k := by
  rw [div_cast, i64_and1 _ (by have := Nat.div_le_self b (2 ^ k); omega), Nat.testBit_eq_decide_div_mod_eq]
  rcases Nat.mod_two_eq_zero_or_one (b / 2 ^ k) with h | h <;> rw [h] <;> rfl
theorem pow2_le (k : Nat) (hk : k < 8) : 2 ^ k ≤ 128 := Nat.pow_le_pow_right (n := 2) (by omega) (show k ≤ 7 by omega)
theorem wrap_pow (a k : Nat) (ha : a < 512) (hk : k < 8) : wrap64 ((a : Int) * 2 ^ k) = ((a * 2 ^ k : Nat) : Int) := by
  have h := Nat.mul_le_mul (show a ≤ 511 by omega) (pow2_le k hk)
  have e : ((a : Int) * 2 ^ k) = ((a * 2 ^ k : Nat) : Int) := by rw [Int.natCast_mul, Int.natCast_pow]; rfl
  rw [e]
  exact IntWalk.wrap64_in _ ⟨by omega, by omega⟩
theorem rs_yes (a b k : Nat) (ha : a < 256) (hk : k < 8) (h : b.testBit k = true) : bits BinOp.xor IntKind.i64 (rsum a b k : Int) (wrap64 ((a : Int) * 2 ^ k)) = (rsum a b (k + 1) : Int) := by
  have h1 := rsum_lt a b ha k (by omega)
  have h2 := Nat.mul_le_mul (show a ≤ 255 by omega) (pow2_le k hk)
  rw [wrap_pow a k (by omega) hk, i64_xor_nat _ _ (by omega) (by omega)]
  simp only [rsum, rterm, h, if_true]
theorem rs_no (a b k : Nat) (h : b.testBit k = false) : rsum a b k = rsum a b (k + 1) := by simp [rsum, rterm, h]
theorem rd_yes (n x : Nat) (hn : n + 1 ≤ 8) (hx : x < 65536) (h : (redTo (8 - (n + 1)) x).testBit (n + 1 + 7) = true) : bits BinOp.xor IntKind.i64 (redTo (8 - (n + 1)) x : Int) (wrap64 (285 * 2 ^ n)) = (redTo (8 - n) x : Int) := by
  have h1 := redTo_lt (8 - (n + 1)) x (by omega) hx
  have h2 := pow2_le n (by omega)
  have e := wrap_pow 285 n (by omega) (by omega)
  rw [show (((285 : Nat) : Int) * 2 ^ n) = 285 * 2 ^ n from rfl] at e
  rw [e, i64_xor_nat _ _ (by omega) (by omega)]
  have e2 : 8 - n = (8 - (n + 1)) + 1 := by omega
  rw [e2]
  simp only [redTo, rd1]
  rw [show 15 - (8 - (n + 1)) = n + 1 + 7 by omega, if_pos h, show n + 1 + 7 - 8 = n by omega]
theorem rd_no (n x : Nat) (hn : n + 1 ≤ 8) (h : (redTo (8 - (n + 1)) x).testBit (n + 1 + 7) = false) : redTo (8 - (n + 1)) x = redTo (8 - n) x := by
  have e2 : 8 - n = (8 - (n + 1)) + 1 := by omega
  rw [e2]
  simp only [redTo, rd1]
  rw [show 15 - (8 - (n + 1)) = n + 1 + 7 by omega, if_neg (by rw [h]; simp)]
set_option maxRecDepth 100000 in
theorem rmul_same (a b : Nat) (w : World) (ha : a < 256) (hb : b < 256) : Calls Try.prog 26 #[.int .u8 a, .int .u8 b] w fun e w' => e = .returned (.int .u8 (fm a b)) ∧ w = w' := by
  go_enter Try.func26, Try.ntmps26
  go_wp2
  go_loop [5, 6] (fun x i => ∃ k : Nat, k ≤ 8 ∧ i = .int .i64 k ∧ x = .int .i64 (rsum a b k)) (fun _ i => 8 - (intOf i).toNat)
  case atStart => exact ⟨0, by omega, rfl, rfl⟩
  case round =>
    obtain ⟨k, hk, rfl, rfl⟩ := hrel
    by_cases hk2 : k < 8
    · have hr := rsum_lt a b ha k (by omega)
      have hy := rs_yes a b k ha hk2
      have hn := rs_no a b k
      rw [← bit_u8 b k hb] at hy hn
      generalize rsum a b k = x at *
      have HY := Lib.hid hy
      have HN := Lib.hid hn
      clear hy hn
      go_wp2
      · go_round
        case rel => exact ⟨k + 1, by omega, by go_num, by rw [HY.out (by assumption)]⟩
        case measure => simp [intOf]; omega
      · go_round
        case rel => exact ⟨k + 1, by omega, by go_num, by rw [HN.out (by assumption)]⟩
        case measure => simp [intOf]; omega
    · obtain rfl : k = 8 := by omega
      go_wp2
      have hx := rsum_lt a b ha 8 (by omega)
      have hfm := red_rsum a b ha
      rw [← redTo_eight] at hfm
      have hfl := fm_lt a b ha
      generalize rsum a b 8 = x at *
      have HF := Lib.hid hfm
      clear hfm
      go_loop [5, 7] (fun y i => ∃ m : Nat, m ≤ 8 ∧ i = .int .i64 ((m : Int) + 7) ∧ y = .int .i64 (redTo (8 - m) x)) (fun _ i => (intOf i).toNat)
      case atStart => exact ⟨8, by omega, rfl, rfl⟩
      case round =>
        obtain ⟨m, hm, rfl, rfl⟩ := hrel
        rcases m with _ | n
        · go_wp2
          go_ret
          refine ⟨?_, rfl⟩
          have e : ((redTo 8 x : Nat) : Int) % 256 = (fm a b : Int) := by rw [HF.out]; omega
          rw [← e]; rfl
        · have hy := redTo_lt (8 - (n + 1)) x (by omega) (by omega)
          have hyy := rd_yes n x hm (by omega)
          have hyn := rd_no n x hm
          rw [← bit_i64 _ (n + 1 + 7) hy] at hyy hyn
          generalize redTo (8 - (n + 1)) x = y at *
          have HY := Lib.hid hyy
          have HN := Lib.hid hyn
          clear hyy hyn
          go_wp2
          · go_round
            case rel => exact ⟨n, by omega, by go_num, by rw [HY.out (by assumption)]⟩
            case measure => (simp [intOf]; try omega)
          · go_round
            case rel => exact ⟨n, by omega, by go_num, by rw [HN.out (by assumption)]⟩
            case measure => (simp [intOf]; try omega)
theorem rmul_any (a b : Nat) (w : World) (ha : a < 256) (hb : b < 256) : Calls Try.prog 26 #[.int .u8 a, .int .u8 b] w fun e w' => e = .returned (.int .u8 (fm a b)) ∧ Ext w w' :=
  (rmul_same a b w ha hb).mono fun _ _ h => ⟨h.1, by have := h.2; subst this; exact Ext.refl _⟩
