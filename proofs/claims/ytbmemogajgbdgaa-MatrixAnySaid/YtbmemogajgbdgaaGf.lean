namespace Go.Gf
/-! THE FIELD OF 256 ELEMENTS, on numbers: plain Lean, no program in sight. -/
def xpT : List Nat := [1, 2, 4, 8, 16, 32, 64, 128, 29, 58, 116, 232, 205, 135, 19, 38, 76, 152, 45, 90, 180, 117, 234, 201, 143, 3, 6, 12, 24, 48, 96, 192, 157, 39, 78, 156, 37, 74, 148, 53, 106, 212, 181, 119, 238, 193, 159, 35, 70, 140, 5, 10, 20, 40, 80, 160, 93, 186, 105, 210, 185, 111, 222, 161, 95, 190, 97, 194, 153, 47, 94, 188, 101, 202, 137, 15, 30, 60, 120, 240, 253, 231, 211, 187, 107, 214, 177, 127, 254, 225, 223, 163, 91, 182, 113, 226, 217, 175, 67, 134, 17, 34, 68, 136, 13, 26, 52, 104, 208, 189, 103, 206, 129, 31, 62, 124, 248, 237, 199, 147, 59, 118, 236, 197, 151, 51, 102, 204, 133, 23, 46, 92, 184, 109, 218, 169, 79, 158, 33, 66, 132, 21, 42, 84, 168, 77, 154, 41, 82, 164, 85, 170, 73, 146, 57, 114, 228, 213, 183, 115, 230, 209, 191, 99, 198, 145, 63, 126, 252, 229, 215, 179, 123, 246, 241, 255, 227, 219, 171, 75, 150, 49, 98, 196, 149, 55, 110, 220, 165, 87, 174, 65, 130, 25, 50, 100, 200, 141, 7, 14, 28, 56, 112, 224, 221, 167, 83, 166, 81, 162, 89, 178, 121, 242, 249, 239, 195, 155, 43, 86, 172, 69, 138, 9, 18, 36, 72, 144, 61, 122, 244, 245, 247, 243, 251, 235, 203, 139, 11, 22, 44, 88, 176, 125, 250, 233, 207, 131, 27, 54, 108, 216, 173, 71, 142]
def lgT : List Nat := [0, 0, 1, 25, 2, 50, 26, 198, 3, 223, 51, 238, 27, 104, 199, 75, 4, 100, 224, 14, 52, 141, 239, 129, 28, 193, 105, 248, 200, 8, 76, 113, 5, 138, 101, 47, 225, 36, 15, 33, 53, 147, 142, 218, 240, 18, 130, 69, 29, 181, 194, 125, 106, 39, 249, 185, 201, 154, 9, 120, 77, 228, 114, 166, 6, 191, 139, 98, 102, 221, 48, 253, 226, 152, 37, 179, 16, 145, 34, 136, 54, 208, 148, 206, 143, 150, 219, 189, 241, 210, 19, 92, 131, 56, 70, 64, 30, 66, 182, 163, 195, 72, 126, 110, 107, 58, 40, 84, 250, 133, 186, 61, 202, 94, 155, 159, 10, 21, 121, 43, 78, 212, 229, 172, 115, 243, 167, 87, 7, 112, 192, 247, 140, 128, 99, 13, 103, 74, 222, 237, 49, 197, 254, 24, 227, 165, 153, 119, 38, 184, 180, 124, 17, 68, 146, 217, 35, 32, 137, 46, 55, 63, 209, 91, 149, 188, 207, 205, 144, 135, 151, 178, 220, 252, 190, 97, 242, 86, 211, 171, 20, 42, 93, 158, 132, 60, 57, 83, 71, 109, 65, 162, 31, 45, 67, 216, 183, 123, 164, 118, 196, 23, 73, 236, 127, 12, 111, 246, 108, 161, 59, 82, 41, 157, 85, 170, 251, 96, 134, 177, 187, 204, 62, 90, 203, 89, 95, 176, 156, 169, 160, 81, 11, 245, 22, 235, 122, 117, 44, 215, 79, 174, 213, 233, 230, 231, 173, 232, 116, 214, 244, 234, 168, 80, 88, 175]
/-- The i-th power of 2 (i below 255). -/
def pw (i : Nat) : Nat := xpT.getD i 0
/-- Of which power an element is. -/
def lg (x : Nat) : Nat := lgT.getD x 0
def dbl (x : Nat) : Nat := if 255 < 2 * x then (2 * x) ^^^ 285 else 2 * x
theorem pw_next : ∀ i, i < 254 → pw (i + 1) = dbl (pw i) := by decide +kernel
theorem pw_last : dbl (pw 254) = pw 0 := by decide +kernel
theorem pw_zero : pw 0 = 1 := by decide +kernel
theorem pw_bd : ∀ i, i < 255 → 0 < pw i ∧ pw i < 256 := by decide +kernel
theorem lg_pw : ∀ i, i < 255 → lg (pw i) = i := by decide +kernel
theorem pw_lg : ∀ x, x < 256 → x ≠ 0 → lg x < 255 ∧ pw (lg x) = x := by decide +kernel
theorem lg_zero : lg 0 = 0 := by decide +kernel
theorem lg_lt (x : Nat) (h : x < 256) : lg x < 255 := by
  by_cases h0 : x = 0
  · subst h0; rw [lg_zero]; omega
  · exact (pw_lg x h h0).1
/-- The powers, round and round. -/
def px (k : Nat) : Nat := pw (k % 255)
theorem px_bd (k : Nat) : 0 < px k ∧ px k < 256 := pw_bd _ (Nat.mod_lt _ (by omega))
theorem px_succ (k : Nat) : px (k + 1) = dbl (px k) := by
  unfold px
  rcases Nat.lt_or_ge (k % 255) 254 with h | h
  · rw [show (k + 1) % 255 = k % 255 + 1 by omega, pw_next _ h]
  · have h2 : k % 255 = 254 := by have := Nat.mod_lt k (show 0 < 255 by omega); omega
    rw [show (k + 1) % 255 = 0 by omega, h2, pw_last]
theorem px_lt (k : Nat) (h : k < 255) : px k = pw k := by unfold px; rw [Nat.mod_eq_of_lt h]
def dblN : Nat → Nat → Nat
  | 0, x => x
  | n + 1, x => dbl (dblN n x)
def term (a b i : Nat) : Nat := if b.testBit i then dblN i a else 0
/-- The product. -/
def fm (a b : Nat) : Nat := term a b 0 ^^^ term a b 1 ^^^ term a b 2 ^^^ term a b 3 ^^^ term a b 4 ^^^ term a b 5 ^^^ term a b 6 ^^^ term a b 7
instance : Std.Associative (α := Nat) (· ^^^ ·) := ⟨Nat.xor_assoc⟩
instance : Std.Commutative (α := Nat) (· ^^^ ·) := ⟨Nat.xor_comm⟩
theorem dbl_xor (a b : Nat) (ha : a < 256) (hb : b < 256) : dbl (a ^^^ b) = dbl a ^^^ dbl b := by
  have h7 : ∀ x, x < 256 → (255 < 2 * x ↔ x.testBit 7 = true) := by decide +kernel
  have hx : a ^^^ b < 256 := Nat.xor_lt_two_pow (n := 8) ha hb
  have h2 : 2 * (a ^^^ b) = (2 * a) ^^^ (2 * b) := by
    apply Nat.eq_of_testBit_eq; intro i
    rw [Nat.testBit_xor]
    cases i with
    | zero => simp
    | succ i =>
      rw [Nat.testBit_succ, Nat.testBit_succ, Nat.testBit_succ, Nat.mul_div_cancel_left _ (by omega), Nat.mul_div_cancel_left _ (by omega), Nat.mul_div_cancel_left _ (by omega), Nat.testBit_xor]
  have e : dbl (a ^^^ b) = if (a ^^^ b).testBit 7 = true then 2 * (a ^^^ b) ^^^ 285 else 2 * (a ^^^ b) := by
    unfold dbl; by_cases h : (a ^^^ b).testBit 7 = true
    · rw [if_pos h, if_pos ((h7 _ hx).2 h)]
    · rw [if_neg h, if_neg (fun h' => h ((h7 _ hx).1 h'))]
  have ea : dbl a = if a.testBit 7 = true then 2 * a ^^^ 285 else 2 * a := by
    unfold dbl; by_cases h : a.testBit 7 = true
    · rw [if_pos h, if_pos ((h7 _ ha).2 h)]
    · rw [if_neg h, if_neg (fun h' => h ((h7 _ ha).1 h'))]
  have eb : dbl b = if b.testBit 7 = true then 2 * b ^^^ 285 else 2 * b := by
    unfold dbl; by_cases h : b.testBit 7 = true
    · rw [if_pos h, if_pos ((h7 _ hb).2 h)]
    · rw [if_neg h, if_neg (fun h' => h ((h7 _ hb).1 h'))]
  rw [e, ea, eb, h2, Nat.testBit_xor]
  cases a.testBit 7 <;> cases b.testBit 7 <;> simp
  · ac_rfl
  · ac_rfl
  · have : (2 * a ^^^ 285) ^^^ (2 * b ^^^ 285) = (2 * a ^^^ 2 * b) ^^^ (285 ^^^ 285) := by ac_rfl
    rw [this, Nat.xor_self, Nat.xor_zero]
theorem dbl_lt : ∀ x, x < 256 → dbl x < 256 := by decide +kernel
theorem dblN_lt (n x : Nat) (h : x < 256) : dblN n x < 256 := by
  induction n with
  | zero => exact h
  | succ n ih => exact dbl_lt _ ih
theorem dblN_xor (n a b : Nat) (ha : a < 256) (hb : b < 256) : dblN n (a ^^^ b) = dblN n a ^^^ dblN n b := by
  induction n with
  | zero => rfl
  | succ n ih => simp only [dblN]; rw [ih, dbl_xor _ _ (dblN_lt _ _ ha) (dblN_lt _ _ hb)]
theorem dblN_zero (n : Nat) : dblN n 0 = 0 := by
  induction n with
  | zero => rfl
  | succ n ih => simp only [dblN, ih]; rfl
theorem term_lt (a b i : Nat) (ha : a < 256) : term a b i < 256 := by
  unfold term; split
  · exact dblN_lt _ _ ha
  · omega
theorem x8 {a b : Nat} (ha : a < 256) (hb : b < 256) : a ^^^ b < 256 := Nat.xor_lt_two_pow (n := 8) ha hb
theorem fm_lt (a b : Nat) (ha : a < 256) : fm a b < 256 := by
  unfold fm
  have h := fun i => term_lt a b i ha
  exact x8 (x8 (x8 (x8 (x8 (x8 (x8 (h 0) (h 1)) (h 2)) (h 3)) (h 4)) (h 5)) (h 6)) (h 7)
theorem term_xor_r (a b c i : Nat) : term a (b ^^^ c) i = term a b i ^^^ term a c i := by
  unfold term; rw [Nat.testBit_xor]
  cases b.testBit i <;> cases c.testBit i <;> simp
theorem term_xor_l (a b c i : Nat) (ha : a < 256) (hb : b < 256) : term (a ^^^ b) c i = term a c i ^^^ term b c i := by
  unfold term
  split
  · exact dblN_xor _ _ _ ha hb
  · rfl
theorem fm_xor_r (a b c : Nat) : fm a (b ^^^ c) = fm a b ^^^ fm a c := by
  unfold fm; simp only [term_xor_r]; ac_rfl
theorem fm_xor_l (a b c : Nat) (ha : a < 256) (hb : b < 256) : fm (a ^^^ b) c = fm a c ^^^ fm b c := by
  unfold fm; simp only [term_xor_l _ _ _ _ ha hb]; ac_rfl
theorem fm_zero_l (b : Nat) : fm 0 b = 0 := by
  have h : ∀ i, term 0 b i = 0 := fun i => by unfold term; rw [dblN_zero]; split <;> rfl
  unfold fm; simp only [h]; rfl
theorem fm_zero_r (a : Nat) : fm a 0 = 0 := by
  have h : ∀ i, term a 0 i = 0 := fun i => by unfold term; simp
  unfold fm; simp only [h]; rfl
theorem fm_one_r (a : Nat) : fm a 1 = a := by
  have h0 : term a 1 0 = a := by unfold term; simp [dblN]
  have h : ∀ i, 0 < i → term a 1 i = 0 := fun i hi => by
    unfold term; rw [Nat.testBit_lt_two_pow]
    · simp
    · have : (2 : Nat) ^ 1 ≤ 2 ^ i := Nat.pow_le_pow_right (by omega) hi
      omega
  unfold fm; rw [h0, h 1 (by omega), h 2 (by omega), h 3 (by omega), h 4 (by omega), h 5 (by omega), h 6 (by omega), h 7 (by omega)]; simp
theorem dbl8 : ∀ a, a < 256 → dblN 8 a = a ^^^ dblN 2 a ^^^ dblN 3 a ^^^ dblN 4 a := by decide +kernel
theorem fm_29 (a : Nat) (ha : a < 256) : fm a 29 = dblN 8 a := by
  have t : ∀ i, term a 29 i = if Nat.testBit 29 i then dblN i a else 0 := fun _ => rfl
  rw [dbl8 a ha]
  unfold fm
  simp only [t, show Nat.testBit 29 0 = true by decide, show Nat.testBit 29 1 = false by decide, show Nat.testBit 29 2 = true by decide, show Nat.testBit 29 3 = true by decide, show Nat.testBit 29 4 = true by decide, show Nat.testBit 29 5 = false by decide, show Nat.testBit 29 6 = false by decide, show Nat.testBit 29 7 = false by decide]
  simp [dblN]
theorem term_succ (a b i : Nat) (ha : a < 256) : term a (2 * b) (i + 1) = dbl (term a b i) := by
  have _ := ha
  unfold term
  rw [Nat.testBit_succ, Nat.mul_div_cancel_left _ (by omega)]
  cases b.testBit i
  · rfl
  · rfl
theorem dbl_xor8 (a b : Nat) (ha : a < 256) (b7 : b.testBit 7 = false) : dbl (fm a b) = fm a (2 * b) := by
  have h := fun i => term_lt a b i ha
  have t0 : term a (2 * b) 0 = 0 := by unfold term; simp
  have t7 : term a b 7 = 0 := by unfold term; rw [b7]; rfl
  unfold fm
  rw [t0, t7, Nat.xor_zero, Nat.zero_xor, term_succ _ _ 0 ha, term_succ _ _ 1 ha, term_succ _ _ 2 ha, term_succ _ _ 3 ha, term_succ _ _ 4 ha, term_succ _ _ 5 ha, term_succ _ _ 6 ha]
  rw [dbl_xor _ _ (x8 (x8 (x8 (x8 (x8 (h 0) (h 1)) (h 2)) (h 3)) (h 4)) (h 5)) (h 6), dbl_xor _ _ (x8 (x8 (x8 (x8 (h 0) (h 1)) (h 2)) (h 3)) (h 4)) (h 5), dbl_xor _ _ (x8 (x8 (x8 (h 0) (h 1)) (h 2)) (h 3)) (h 4),
    dbl_xor _ _ (x8 (x8 (h 0) (h 1)) (h 2)) (h 3), dbl_xor _ _ (x8 (h 0) (h 1)) (h 2), dbl_xor _ _ (h 0) (h 1)]
theorem fm_128 (a : Nat) : fm a 128 = dblN 7 a := by
  have t : ∀ i, term a 128 i = if Nat.testBit 128 i then dblN i a else 0 := fun _ => rfl
  unfold fm
  simp only [t, show Nat.testBit 128 0 = false by decide, show Nat.testBit 128 1 = false by decide, show Nat.testBit 128 2 = false by decide, show Nat.testBit 128 3 = false by decide, show Nat.testBit 128 4 = false by decide, show Nat.testBit 128 5 = false by decide, show Nat.testBit 128 6 = false by decide, show Nat.testBit 128 7 = true by decide]
  simp
theorem high_split : ∀ b, b < 256 → b.testBit 7 = true → b = (b - 128) ^^^ 128 ∧ (b - 128).testBit 7 = false ∧ dbl b = (2 * (b - 128)) ^^^ 29 := by decide +kernel
theorem low_dbl : ∀ b, b < 256 → b.testBit 7 = false → dbl b = 2 * b := by decide +kernel
theorem fm_dbl_r (a b : Nat) (ha : a < 256) (hb : b < 256) : fm a (dbl b) = dbl (fm a b) := by
  cases h7 : b.testBit 7
  · rw [low_dbl b hb h7, dbl_xor8 a b ha h7]
  · obtain ⟨e1, e2, e3⟩ := high_split b hb h7
    rw [e3, fm_xor_r, ← dbl_xor8 a _ ha e2, fm_29 a ha]
    conv => rhs; rw [e1]
    rw [fm_xor_r, dbl_xor _ _ (fm_lt _ _ ha) (fm_lt _ _ ha), fm_128]
    rfl
theorem fm_px (i j : Nat) : fm (px i) (px j) = px (i + j) := by
  induction j with
  | zero => rw [show px 0 = 1 from pw_zero, fm_one_r]; rfl
  | succ j ih => rw [px_succ, fm_dbl_r _ _ (px_bd i).2 (px_bd j).2, ih, ← px_succ]; rfl
theorem px_of (a : Nat) (ha : a < 256) (h0 : a ≠ 0) : px (lg a) = a := by
  obtain ⟨h1, h2⟩ := pw_lg a ha h0
  rw [px_lt _ h1, h2]
/-- The product by logarithms. -/
theorem fm_log (a b : Nat) (ha : a < 256) (hb : b < 256) (a0 : a ≠ 0) (b0 : b ≠ 0) : fm a b = px (lg a + lg b) := by
  conv => lhs; rw [← px_of a ha a0, ← px_of b hb b0]
  exact fm_px _ _
theorem fm_comm (a b : Nat) (ha : a < 256) (hb : b < 256) : fm a b = fm b a := by
  by_cases a0 : a = 0
  · subst a0; rw [fm_zero_l, fm_zero_r]
  by_cases b0 : b = 0
  · subst b0; rw [fm_zero_l, fm_zero_r]
  rw [fm_log a b ha hb a0 b0, fm_log b a hb ha b0 a0, Nat.add_comm]
theorem fm_ne (a b : Nat) (ha : a < 256) (hb : b < 256) (a0 : a ≠ 0) (b0 : b ≠ 0) : fm a b ≠ 0 := by
  rw [fm_log a b ha hb a0 b0]; have := px_bd (lg a + lg b); omega
theorem px_mod (k : Nat) : px (k % 255) = px k := by unfold px; rw [Nat.mod_mod]
theorem lg_px (k : Nat) : lg (px k) = k % 255 := lg_pw _ (Nat.mod_lt _ (by omega))
theorem fm_assoc (a b c : Nat) (ha : a < 256) (hb : b < 256) (hc : c < 256) : fm (fm a b) c = fm a (fm b c) := by
  by_cases a0 : a = 0
  · subst a0; rw [fm_zero_l, fm_zero_l, fm_zero_l]
  by_cases b0 : b = 0
  · subst b0; simp only [fm_zero_l, fm_zero_r]
  by_cases c0 : c = 0
  · subst c0; rw [fm_zero_r, fm_zero_r, fm_zero_r]
  rw [fm_log a b ha hb a0 b0, fm_log b c hb hc b0 c0]
  conv => lhs; rw [← px_of c hc c0]
  conv => rhs; rw [← px_of a ha a0]
  rw [fm_px, fm_px, Nat.add_assoc]
/-- The inverse. -/
def fi (a : Nat) : Nat := px (255 - lg a)
theorem fi_bd (a : Nat) : 0 < fi a ∧ fi a < 256 := px_bd _
theorem fm_fi (a : Nat) (ha : a < 256) (a0 : a ≠ 0) : fm a (fi a) = 1 := by
  have hl := (pw_lg a ha a0).1
  unfold fi
  have e : fm a (px (255 - lg a)) = fm (px (lg a)) (px (255 - lg a)) := by rw [px_of a ha a0]
  rw [e, fm_px, show lg a + (255 - lg a) = 255 by omega]
  decide +kernel
/-! the reference's product: bit by bit -/
/-- One step of the reduction: bit i. -/
def rd1 (i x : Nat) : Nat := if x.testBit i then x ^^^ (285 * 2 ^ (i - 8)) else x
def red (x : Nat) : Nat := rd1 8 (rd1 9 (rd1 10 (rd1 11 (rd1 12 (rd1 13 (rd1 14 (rd1 15 x)))))))
theorem rd1_xor (i x y : Nat) : rd1 i (x ^^^ y) = rd1 i x ^^^ rd1 i y := by
  unfold rd1; rw [Nat.testBit_xor]
  cases x.testBit i <;> cases y.testBit i <;> simp
  · ac_rfl
  · ac_rfl
  · have : (x ^^^ 285 * 2 ^ (i - 8)) ^^^ (y ^^^ 285 * 2 ^ (i - 8)) = (x ^^^ y) ^^^ (285 * 2 ^ (i - 8) ^^^ 285 * 2 ^ (i - 8)) := by ac_rfl
    rw [this, Nat.xor_self, Nat.xor_zero]
theorem red_xor (x y : Nat) : red (x ^^^ y) = red x ^^^ red y := by unfold red; simp only [rd1_xor]
theorem red_shift : ∀ a, a < 256 → ∀ i, i < 8 → red (a * 2 ^ i) = dblN i a := by decide +kernel
def rterm (a b i : Nat) : Nat := if b.testBit i then a * 2 ^ i else 0
/-- The product, not reduced, of the lowest n bits. -/
def rsum (a b : Nat) : Nat → Nat
  | 0 => 0
  | n + 1 => rsum a b n ^^^ rterm a b n
theorem red_zero : red 0 = 0 := by decide +kernel
theorem red_rterm (a b i : Nat) (ha : a < 256) (hi : i < 8) : red (rterm a b i) = term a b i := by
  unfold rterm term; split
  · exact red_shift a ha i hi
  · exact red_zero
theorem red_rsum (a b : Nat) (ha : a < 256) : red (rsum a b 8) = fm a b := by
  simp only [rsum, red_xor, Nat.zero_xor]
  rw [red_rterm a b 0 ha (by omega), red_rterm a b 1 ha (by omega), red_rterm a b 2 ha (by omega), red_rterm a b 3 ha (by omega), red_rterm a b 4 ha (by omega), red_rterm a b 5 ha (by omega), red_rterm a b 6 ha (by omega), red_rterm a b 7 ha (by omega)]
  rfl
theorem rterm_lt (a b i : Nat) (ha : a < 256) (hi : i < 8) : rterm a b i < 32768 := by
  unfold rterm; split
  · have : (2 : Nat) ^ i ≤ 2 ^ 7 := Nat.pow_le_pow_right (by omega) (by omega)
    have h2 := Nat.mul_le_mul (show a ≤ 255 by omega) this
    omega
  · omega
theorem rsum_lt (a b : Nat) (ha : a < 256) (n : Nat) (hn : n ≤ 8) : rsum a b n < 32768 := by
  induction n with
  | zero => simp [rsum]
  | succ n ih => exact Nat.xor_lt_two_pow (n := 15) (ih (by omega)) (rterm_lt a b n ha (by omega))
/-- Reduced down to below bit 16 - k. -/
def redTo : Nat → Nat → Nat
  | 0, x => x
  | k + 1, x => rd1 (15 - k) (redTo k x)
theorem redTo_eight (x : Nat) : redTo 8 x = red x := rfl
theorem rd1_lt (i x : Nat) (hi : i < 16) (h8 : 8 ≤ i) (hx : x < 65536) : rd1 i x < 65536 := by
  unfold rd1; split
  · have : (2 : Nat) ^ (i - 8) ≤ 2 ^ 7 := Nat.pow_le_pow_right (by omega) (by omega)
    have h2 := Nat.mul_le_mul (show 285 ≤ 285 by omega) this
    exact Nat.xor_lt_two_pow (n := 16) hx (by omega)
  · exact hx
theorem redTo_lt (k x : Nat) (hk : k ≤ 8) (hx : x < 65536) : redTo k x < 65536 := by
  induction k with
  | zero => exact hx
  | succ k ih => exact rd1_lt _ _ (by omega) (by omega) (ih (by omega))
end Go.Gf
