import Derived.Test.YtjmbimmikfnaoaaS7
namespace Go.Proofs.Ytjmbimmikfnaoaa
open Go.RowKit
theorem pw_inj : ∀ n, n + 1 ≤ 14 → ∀ k, k < n → pw k ≠ pw n := by
  intro n hn k hk
  have h : ∀ n, n < 14 → ∀ k, k < n → pw k ≠ pw n := by decide +kernel
  exact h n hn k hk
def L (x : Nat) : Nat := (x / 2) ^^^ ((x % 2) * 3988292384)
def LN : Nat → Nat → Nat
  | 0, x => x
  | n + 1, x => L (LN n x)
theorem L_lt (x : Nat) (h : x < 4294967296) : L x < 4294967296 := by
  have h1 : x / 2 < 2 ^ 32 := by omega
  have h2 : (x % 2) * 3988292384 < 2 ^ 32 := by omega
  have := Nat.xor_lt_two_pow h1 h2
  unfold L; omega
theorem LN_lt (n x : Nat) (h : x < 4294967296) : LN n x < 4294967296 := by
  cases n with
  | zero => exact h
  | succ n => exact L_lt _ (by induction n with | zero => exact h | succ n ih => exact L_lt _ ih)
theorem u32_xor_nat (a b : Nat) (ha : a < 4294967296) (hb : b < 4294967296) : bits .xor .u32 (a : Int) (b : Int) = ((a ^^^ b : Nat) : Int) := by
  have hx : a ^^^ b < 2 ^ 32 := Nat.xor_lt_two_pow (by omega) (by omega)
  have h1 : ∀ a : Nat, a < 4294967296 → (BitVec.ofInt 32 (a : Int)).toNat = a := fun a ha => by
    rw [BitVec.ofInt_natCast, BitVec.toNat_ofNat]; exact Nat.mod_eq_of_lt (by omega)
  show IntKind.u32.wrap ((BitVec.ofInt 32 (a : Int) ^^^ BitVec.ofInt 32 (b : Int)).toNat : Int) = _
  rw [BitVec.toNat_xor, h1 a ha, h1 b hb]
  simp [IntKind.wrap, IntKind.bits, IntKind.signed]; omega
theorem u32_and1_nat (a : Nat) (ha : a < 4294967296) : bits .and .u32 (a : Int) 1 = ((a % 2 : Nat) : Int) := by
  have h1 : ∀ a : Nat, a < 4294967296 → (BitVec.ofInt 32 (a : Int)).toNat = a := fun a ha => by
    rw [BitVec.ofInt_natCast, BitVec.toNat_ofNat]; exact Nat.mod_eq_of_lt (by omega)
  show IntKind.u32.wrap ((BitVec.ofInt 32 (a : Int) &&& BitVec.ofInt 32 ((1 : Nat) : Int)).toNat : Int) = _
  rw [BitVec.toNat_and, h1 a ha, h1 1 (by omega), Nat.and_one_is_mod]
  simp [IntKind.wrap, IntKind.bits, IntKind.signed]; omega
theorem u8_xor_nat (a b : Nat) (ha : a < 256) (hb : b < 256) : bits .xor .u8 (a : Int) (b : Int) = ((a ^^^ b : Nat) : Int) := by
  have hx : a ^^^ b < 2 ^ 8 := Nat.xor_lt_two_pow (by omega) (by omega)
  have h1 : ∀ a : Nat, a < 256 → (BitVec.ofInt 8 (a : Int)).toNat = a := fun a ha => by
    rw [BitVec.ofInt_natCast, BitVec.toNat_ofNat]; exact Nat.mod_eq_of_lt (by omega)
  show IntKind.u8.wrap ((BitVec.ofInt 8 (a : Int) ^^^ BitVec.ofInt 8 (b : Int)).toNat : Int) = _
  rw [BitVec.toNat_xor, h1 a ha, h1 b hb]
  simp [IntKind.wrap, IntKind.bits, IntKind.signed]; omega
theorem u8_and1_nat (a : Nat) (ha : a < 256) : bits .and .u8 (a : Int) 1 = ((a % 2 : Nat) : Int) := by
  have h1 : ∀ a : Nat, a < 256 → (BitVec.ofInt 8 (a : Int)).toNat = a := fun a ha => by
    rw [BitVec.ofInt_natCast, BitVec.toNat_ofNat]; exact Nat.mod_eq_of_lt (by omega)
  show IntKind.u8.wrap ((BitVec.ofInt 8 (a : Int) &&& BitVec.ofInt 8 ((1 : Nat) : Int)).toNat : Int) = _
  rw [BitVec.toNat_and, h1 a ha, h1 1 (by omega), Nat.and_one_is_mod]
  simp [IntKind.wrap, IntKind.bits, IntKind.signed]; omega
theorem stepI_nat (v : Nat) (hv : v < 4294967296) : stepI (v : Int) = ((L v : Nat) : Int) := by
  unfold stepI L
  rw [u32_and1_nat v hv]
  have e1 : ((v : Int) / 2) = ((v / 2 : Nat) : Int) := by omega
  have e2 : (((v % 2 : Nat) : Int) * 3988292384 % 4294967296) = (((v % 2) * 3988292384 : Nat) : Int) := by omega
  rw [e1, e2, u32_xor_nat _ _ (by omega) (by omega)]
theorem stepN_nat (n v : Nat) (hv : v < 4294967296) : stepN n (v : Int) = ((LN n v : Nat) : Int) := by
  induction n with
  | zero => rfl
  | succ n ih => simp only [stepN, LN, ih]; exact stepI_nat _ (LN_lt n v hv)
/-! the register -/
def reg (m : Nat → Nat) : Nat → Nat
  | 0 => 4294967295
  | i + 1 => L (reg m i ^^^ m i)
theorem L_xor (a b : Nat) : L (a ^^^ b) = L a ^^^ L b := by
  unfold L
  have h1 : (a ^^^ b) / 2 = a / 2 ^^^ b / 2 := by
    apply Nat.eq_of_testBit_eq; intro i
    simp [Nat.testBit_div_two, Nat.testBit_xor]
  have h2 : (a ^^^ b) % 2 * 3988292384 = (a % 2 * 3988292384) ^^^ (b % 2 * 3988292384) := by
    have h : (a ^^^ b) % 2 = (a % 2 + b % 2) % 2 := by
      rw [← Nat.and_one_is_mod, Nat.and_xor_distrib_right, Nat.and_one_is_mod, Nat.and_one_is_mod]
      rcases Nat.mod_two_eq_zero_or_one a with h | h <;> rcases Nat.mod_two_eq_zero_or_one b with h' | h' <;> rw [h, h'] <;> rfl
    rw [h]
    rcases Nat.mod_two_eq_zero_or_one a with h | h <;> rcases Nat.mod_two_eq_zero_or_one b with h' | h' <;> rw [h, h'] <;> simp
  rw [h1, h2]
  simp only [Nat.xor_assoc]
  congr 1
  rw [← Nat.xor_assoc, Nat.xor_comm (b / 2), Nat.xor_assoc]
theorem LN_xor (n a b : Nat) : LN n (a ^^^ b) = LN n a ^^^ LN n b := by
  induction n with
  | zero => rfl
  | succ n ih => simp only [LN, ih, L_xor]
theorem L_double (b : Nat) : L (2 * b) = b := by
  unfold L; rw [Nat.mul_mod_right]; simp
theorem LN_succ' (n x : Nat) : LN (n + 1) x = LN n (L x) := by
  induction n with
  | zero => rfl
  | succ n ih => simp only [LN] at ih ⊢; rw [ih]
theorem LN_pow (n b : Nat) : LN n (2 ^ n * b) = b := by
  induction n generalizing b with
  | zero => simp [LN]
  | succ n ih => rw [LN_succ', Nat.pow_succ, Nat.mul_comm (2 ^ n) 2, Nat.mul_assoc, L_double, ih]
/-- n bits of c go into the register one by one. -/
def regN : Nat → Nat → Nat → Nat
  | 0, y, _ => y
  | n + 1, y, c => regN n (L (y ^^^ (c % 2))) (c / 2)
theorem split2 (c : Nat) : c = (c % 2) ^^^ (2 * (c / 2)) := by
  apply Nat.eq_of_testBit_eq; intro i
  rw [Nat.testBit_xor]
  cases i with
  | zero => simp [Nat.testBit_zero]
  | succ i =>
    have h1 : (c % 2).testBit (i + 1) = false := by
      apply Nat.testBit_lt_two_pow
      have := Nat.mod_lt c (show 0 < 2 by omega)
      have h2 : (2 : Nat) ≤ 2 ^ (i + 1) := by rw [Nat.pow_succ]; have := Nat.two_pow_pos i; omega
      omega
    rw [h1]; simp [Nat.testBit_succ]
theorem regN_eq (n y c : Nat) (hc : c < 2 ^ n) : regN n y c = LN n (y ^^^ c) := by
  induction n generalizing y c with
  | zero => simp at hc; subst hc; simp [regN, LN]
  | succ n ih =>
    rw [regN, ih _ _ (by rw [Nat.pow_succ] at hc; omega), LN_succ']
    congr 1
    have e : y ^^^ c = (y ^^^ (c % 2)) ^^^ (2 * (c / 2)) := by rw [Nat.xor_assoc, ← split2]
    rw [e, L_xor (y ^^^ (c % 2)) (2 * (c / 2)), L_double]
theorem xor_split8 (x : Nat) : x = (x % 256) ^^^ (2 ^ 8 * (x / 256)) := by
  apply Nat.eq_of_testBit_eq; intro i
  rw [Nat.testBit_xor]
  have h256 : (256 : Nat) = 2 ^ 8 := rfl
  rw [h256, Nat.testBit_mod_two_pow, Nat.testBit_two_pow_mul, Nat.testBit_div_two_pow]
  by_cases h : i < 8
  · have hn : ¬ 8 ≤ i := by omega
    simp [h, hn]
  · have h' : 8 ≤ i := by omega
    simp [h, h', Nat.sub_add_cancel h']
theorem crcStep_nat (y c : Nat) (hy : y < 4294967296) (hc : c < 256) : crcStep (y : Int) (c : Int) = ((regN 8 y c : Nat) : Int) := by
  unfold crcStep
  have e1 : ((y : Int) % 256) = ((y % 256 : Nat) : Int) := by omega
  have e2 : ((y : Int) / 256) = ((y / 256 : Nat) : Int) := by omega
  have hx : (y % 256) ^^^ c < 2 ^ 8 := Nat.xor_lt_two_pow (by omega) (by omega)
  rw [e1, e2, u8_xor_nat _ _ (by omega) hc, stepN_nat 8 _ (by omega), u32_xor_nat _ _ (LN_lt 8 _ (by omega)) (by omega), regN_eq 8 y c hc]
  congr 1
  have e3 : y ^^^ c = (y % 256 ^^^ c) ^^^ (2 ^ 8 * (y / 256)) := by
    conv => lhs; rw [xor_split8 y]
    rw [Nat.xor_assoc, Nat.xor_comm (2 ^ 8 * (y / 256)), ← Nat.xor_assoc]
  rw [e3, LN_xor 8 (y % 256 ^^^ c) (2 ^ 8 * (y / 256)), LN_pow]
theorem regN_lt (n y c : Nat) (hy : y < 4294967296) : regN n y c < 4294967296 := by
  induction n generalizing y c with
  | zero => exact hy
  | succ n ih => exact ih _ _ (L_lt _ (Nat.xor_lt_two_pow (n := 32) (by omega) (by have := Nat.mod_lt c (show 0 < 2 by omega); omega)))

theorem crcL_nat (l : List UInt8) (y : Nat) (hy : y < 4294967296) : ∃ z : Nat, z < 4294967296 ∧ crcL l (y : Int) = (z : Int) ∧ z = l.foldl (fun y c => regN 8 y c.toNat) y := by
  induction l generalizing y with
  | nil => exact ⟨y, hy, rfl, rfl⟩
  | cons c l ih =>
    simp only [crcL, List.foldl_cons]
    rw [crcStep_nat y c.toNat hy c.toNat_lt]
    exact ih _ (regN_lt 8 y c.toNat hy)
theorem reg_lt (m : Nat → Nat) (hm : ∀ i, m i < 2) (i : Nat) : reg m i < 4294967296 := by
  cases i with
  | zero => simp [reg]
  | succ i =>
    induction i with
    | zero => exact L_lt _ (by have := Nat.xor_lt_two_pow (n := 32) (x := reg m 0) (y := m 0) (by simp [reg]) (by have := hm 0; omega); omega)
    | succ i ih => exact L_lt _ (by have := Nat.xor_lt_two_pow (n := 32) (x := reg m (i + 1)) (y := m (i + 1)) (by omega) (by have := hm (i + 1); omega); omega)
/-- Eight bits more: those of one byte. -/
theorem reg_bits (m : Nat → Nat) (i n c : Nat) (hc : ∀ j, j < n → m (i + j) = (c / 2 ^ j) % 2) : reg m (i + n) = regN n (reg m i) c := by
  induction n generalizing i c with
  | zero => rfl
  | succ n ih =>
    rw [show i + (n + 1) = (i + 1) + n by omega, ih (i + 1) (c / 2) (fun j hj => by
      rw [show i + 1 + j = i + (j + 1) by omega, hc (j + 1) (by omega), Nat.div_div_eq_div_mul, Nat.pow_succ, Nat.mul_comm]), regN]
    congr 1
    simp only [reg]
    have := hc 0 (by omega)
    simp at this
    rw [this]
theorem reg_bytes (m : Nat → Nat) (l : List UInt8) (hm : ∀ k (hk : k < l.length), ∀ j, j < 8 → m (8 * k + j) = (l[k].toNat / 2 ^ j) % 2) :
    ∀ k, k ≤ l.length → reg m (8 * k) = (l.take k).foldl (fun y c => regN 8 y c.toNat) 4294967295 := by
  intro k hk
  induction k with
  | zero => simp [reg]
  | succ k ih =>
    rw [show 8 * (k + 1) = 8 * k + 8 by omega, reg_bits m (8 * k) 8 (l[k].toNat) (hm k (by omega)), ih (by omega), List.take_succ_eq_append_getElem (by omega), List.foldl_append]
    rfl
theorem poly_bits : ∀ j, j < 32 → Nat.testBit 3988292384 j = (List.range 14).any (fun k => decide (j = 31 - pw k)) := by decide +kernel
theorem poly_hi (j : Nat) (h : 32 ≤ j) : Nat.testBit 3988292384 j = false := by
  apply Nat.testBit_lt_two_pow
  have : (2 : Nat) ^ 32 ≤ 2 ^ j := Nat.pow_le_pow_right (by omega) h
  omega
theorem dvK_eq (i : Nat) (f : Nat → Bool) (p : Nat) : ∀ n, n ≤ 14 → dvK i n f p = (f p ^^ (List.range n).any (fun k => decide (p = i + 32 - pw k))) := by
  intro n
  induction n with
  | zero => simp [dvK]
  | succ n ih =>
    intro hn
    simp only [dvK, flip1, ih (by omega), List.range_succ, List.any_append]
    by_cases h : p = i + 32 - pw n
    · have hno : (List.range n).any (fun k => decide (p = i + 32 - pw k)) = false := by
        rw [List.any_eq_false]
        intro k hk
        have hk' : k < n := by simpa using hk
        have h1 := pw_le k; have h2 := pw_le n
        have h3 : pw k ≠ pw n := pw_inj n hn k hk'
        simp; omega
      rw [if_pos h, hno]; simp [h]
    · rw [if_neg h]; simp [h]
theorem any_shift (i j : Nat) : (List.range 14).any (fun k => decide (i + 1 + j = i + 32 - pw k)) = Nat.testBit 3988292384 j := by
  rcases Nat.lt_or_ge j 32 with h | h
  · rw [poly_bits j h]
    have : ∀ k, decide (i + 1 + j = i + 32 - pw k) = decide (j = 31 - pw k) := fun k => by
      have := pw_le k
      apply decide_eq_decide.2; omega
    simp only [this]
  · rw [poly_hi j h, List.any_eq_false]
    intro k _
    have := pw_le k
    simp; omega
theorem rn_reg (s : ByteArray) (i : Nat) : ∀ j, rn i (flip 0 32 (sbz s)) (i + j) = ((reg (fun i => b2n (sbz s i)) i).testBit j ^^ sbz s (i + j)) := by
  induction i with
  | zero =>
    intro j
    simp only [rn, reg, flip, Nat.zero_add, Nat.zero_le, true_and]
    have h : (4294967295 : Nat).testBit j = decide (j < 32) := by
      rw [show (4294967295 : Nat) = 2 ^ 32 - 1 by decide, Nat.testBit_two_pow_sub_one]
    rw [h]
    by_cases hj : j < 32
    · simp [hj]
    · simp [hj]
  | succ i ih =>
    intro j
    have h0 := ih 0
    have hj := ih (j + 1)
    rw [Nat.add_zero] at h0
    rw [show i + (j + 1) = i + 1 + j by omega] at hj
    have hb : (reg (fun i => b2n (sbz s i)) i ^^^ b2n (sbz s i)) % 2 = b2n (rn i (flip 0 32 (sbz s)) i) := by
      rw [h0, ← Nat.and_one_is_mod, Nat.and_xor_distrib_right, Nat.and_one_is_mod, Nat.and_one_is_mod]
      have ht : (reg (fun i => b2n (sbz s i)) i) % 2 = b2n ((reg (fun i => b2n (sbz s i)) i).testBit 0) := by
        rw [Nat.testBit_zero]
        generalize reg (fun i => b2n (sbz s i)) i = r
        unfold b2n
        rcases Nat.mod_two_eq_zero_or_one r with h | h <;> rw [h] <;> rfl
      rw [ht]
      cases (reg (fun i => b2n (sbz s i)) i).testBit 0 <;> cases sbz s i <;> rfl
    have hr : (reg (fun i => b2n (sbz s i)) (i + 1)).testBit j = ((reg (fun i => b2n (sbz s i)) i).testBit (j + 1) ^^ (rn i (flip 0 32 (sbz s)) i && Nat.testBit 3988292384 j)) := by
      simp only [reg, L, hb, Nat.testBit_xor, Nat.testBit_div_two]
      have hm : (b2n (sbz s i)).testBit (j + 1) = false := by
        apply Nat.testBit_lt_two_pow
        have : b2n (sbz s i) < 2 := by unfold b2n; split <;> omega
        have h2 : (2 : Nat) ≤ 2 ^ (j + 1) := by rw [Nat.pow_succ]; have := Nat.two_pow_pos j; omega
        omega
      rw [hm, Bool.xor_false]
      congr 1
      cases rn i (flip 0 32 (sbz s)) i <;> simp [b2n]
    rw [hr]
    simp only [rn]
    cases hc : rn i (flip 0 32 (sbz s)) i
    · simp [hj]
    · rw [if_pos rfl, dvK_eq _ _ _ 14 (by omega), any_shift, hj]
      simp only [Bool.true_and]
      generalize Nat.testBit 3988292384 j = x
      generalize Nat.testBit _ (j + 1) = y
      cases x <;> cases y <;> cases sbz s (i + 1 + j) <;> rfl
theorem yv_bit (h : Nat → Bool) (t : Nat) (ht : t ≤ 32) : ∀ j, j < t → (yv h t).testBit j = h (32 - t + j) := by
  induction t with
  | zero => intro j hj; omega
  | succ t ih =>
    intro j hj
    simp only [yv]
    have hb : b2n (h (31 - t)) < 2 := by unfold b2n; split <;> omega
    cases j with
    | zero =>
      rw [Nat.testBit_zero]
      have : (2 * yv h t + b2n (h (31 - t))) % 2 = b2n (h (31 - t)) := by omega
      rw [this, show 32 - (t + 1) + 0 = 31 - t by omega]
      cases h (31 - t) <;> rfl
    | succ j =>
      rw [Nat.testBit_succ]
      have : (2 * yv h t + b2n (h (31 - t))) / 2 = yv h t := by omega
      rw [this, ih (by omega) j (by omega)]
      congr 1; omega
theorem sbz_bit (s : ByteArray) (k j : Nat) (hk : k < s.data.toList.length) (hj : j < 8) : b2n (sbz s (8 * k + j)) = ((s.data.toList[k]).toNat / 2 ^ j) % 2 := by
  have hk' : k < s.size := hk
  have hb : bt s k = ((s.data.toList[k]).toNat : Int) := by
    unfold bt; rw [List.getD_eq_getElem?_getD, List.getElem?_eq_getElem hk]; rfl
  have hlt := (s.data.toList[k]).toNat_lt
  unfold sbz sb
  rw [if_pos (by omega), show (8 * k + j) / 8 = k by omega, show (8 * k + j) % 8 = j by omega, hb]
  generalize (s.data.toList[k]).toNat = c at *
  have e : ((c : Int) / 2 ^ j) = ((c / 2 ^ j : Nat) : Int) := by rw [Int.natCast_ediv, Int.natCast_pow]; rfl
  have hc : c / 2 ^ j < 256 := Nat.lt_of_le_of_lt (Nat.div_le_self _ _) hlt
  rw [e, u8_and1_nat _ hc]
  unfold b2n
  rcases Nat.mod_two_eq_zero_or_one (c / 2 ^ j) with h | h <;> rw [h] <;> rfl
/-- THE PLAIN LAW: the reference's division and the program's table agree. -/
theorem ref_eq_sum (s : ByteArray) : refOf s = sumOf [s] := by
  have hall : allBytes [s] = s.data.toList := by simp [allBytes]
  obtain ⟨z, hz, e1, e2⟩ := crcL_nat s.data.toList 4294967295 (by omega)
  have hreg := reg_bytes (fun i => b2n (sbz s i)) s.data.toList (fun k hk j hj => sbz_bit s k j hk hj) s.data.toList.length (Nat.le_refl _)
  rw [List.take_length] at hreg
  rw [← e2] at hreg
  have hlen : s.data.toList.length = s.size := rfl
  rw [hlen] at hreg
  have hs : sumOf [s] = (((4294967295 : Nat) ^^^ z : Nat) : Int) := by
    unfold sumOf prog_of
    rw [hall, show (4294967295 : Int) = ((4294967295 : Nat) : Int) from rfl, e1]
    exact u32_xor_nat 4294967295 z (by omega) hz
  rw [hs]
  unfold refOf
  congr 1
  apply Nat.eq_of_testBit_eq
  intro j
  rcases Nat.lt_or_ge j 32 with hj | hj
  · rw [yv_bit _ 32 (by omega) j hj, show 32 - 32 + j = j by omega, rn_reg, hreg, Nat.testBit_xor]
    have h1 : sbz s (8 * s.size + j) = false := by unfold sbz; rw [if_neg (by omega)]
    have h2 : (4294967295 : Nat).testBit j = true := by
      rw [show (4294967295 : Nat) = 2 ^ 32 - 1 by decide, Nat.testBit_two_pow_sub_one]; simpa using hj
    rw [h1, h2]; cases z.testBit j <;> rfl
  · have hp : (2 : Nat) ^ 32 ≤ 2 ^ j := Nat.pow_le_pow_right (by omega) hj
    have h3 := Nat.xor_lt_two_pow (n := 32) (x := 4294967295) (y := z) (by omega) (by omega)
    rw [Nat.testBit_lt_two_pow (Nat.lt_of_lt_of_le (yv_lt _ 32) hp), Nat.testBit_lt_two_pow (Nat.lt_of_lt_of_le h3 hp)]
