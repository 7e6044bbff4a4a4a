import Derived.Test.YtjmkbdbjefcfmaaC3
namespace Go.Proofs.Ytjmkbdbjefcfmaa
open Go.RowKit Go.Gf
/-- How often the first k powers of 2 meet a. -/
def met (a : Nat) : Nat → Nat
  | 0 => 0
  | k + 1 => met a k + (if px k = a then 1 else 0)
theorem met_le (a k : Nat) : met a k ≤ k := by
  induction k with
  | zero => simp [met]
  | succ k ih => rw [met]; split <;> omega
theorem met_zero (k : Nat) : met 0 k = 0 := by
  induction k with
  | zero => rfl
  | succ k ih => rw [met, ih, if_neg (by have := px_bd k; omega)]
theorem met_to (a : Nat) (k : Nat) (hk : k ≤ 255) : met a k = if 0 < a ∧ a < 256 ∧ lg a < k then 1 else 0 := by
  induction k with
  | zero => rw [met, if_neg (by omega)]
  | succ k ih =>
    rw [met, ih (by omega)]
    have hb := px_bd k
    by_cases h : px k = a
    · subst h
      have hl : lg (px k) = k := by rw [lg_px]; omega
      rw [hl, if_pos rfl, if_neg (by omega), if_pos (by omega)]
    · rw [if_neg h]
      by_cases h2 : 0 < a ∧ a < 256 ∧ lg a < k
      · rw [if_pos h2, if_pos (by omega)]
      · rw [if_neg h2, if_neg]
        rintro ⟨h3, h4, h5⟩
        have : lg a = k := by omega
        exact h (by rw [← this]; exact px_of a h4 (by omega))
theorem met_one (a : Nat) (ha : a < 256) (h : a ≠ 0) : met a 255 = 1 := by
  rw [met_to a 255 (by omega), if_pos]
  exact ⟨by omega, ha, lg_lt a ha⟩
theorem fm_two (k : Nat) : fm (px k) 2 = px (k + 1) := by
  have := fm_px k 1
  rw [show px 1 = 2 by decide +kernel] at this; exact this
theorem px_255_one : px 255 = 1 := by decide +kernel
set_option maxRecDepth 100000 in
set_option maxHeartbeats 2000000 in
theorem fieldIs_walk (a0 a1 a2 : Int) (W : World) (h0 : (Lit.int .u8 a0).wf = true) (h1 : (Lit.int .u8 a1).wf = true) (h2 : (Lit.int .u8 a2).wf = true) :
    Calls Try.prog 7 #[.int .u8 a0, .int .u8 a1, .int .u8 a2] W fun e w' => e = .returned (.bool true) ∧ Ext W w' := by
  obtain ⟨a, rfl, ha⟩ := byte_of a0 h0
  obtain ⟨b, rfl, hb⟩ := byte_of a1 h1
  obtain ⟨c, rfl, hc⟩ := byte_of a2 h2
  clear h0 h1 h2
  have hab := fm_lt a b ha
  have hbc := fm_lt b c hb
  have hac := fm_lt a c ha
  have xab := x8 ha hb
  have xbc := x8 hb hc
  have AAB : ∀ w : World, Calls Try.prog 22 #[.int .u8 ((a : Nat) : Int), .int .u8 ((b : Nat) : Int)] w fun e w' => e = .returned (.int .u8 ((a ^^^ b : Nat) : Int)) ∧ Ext w w' := fun w => by
    have := add_any a b w ha hb
    exact this
  have ABA : ∀ w : World, Calls Try.prog 22 #[.int .u8 ((b : Nat) : Int), .int .u8 ((a : Nat) : Int)] w fun e w' => e = .returned (.int .u8 ((a ^^^ b : Nat) : Int)) ∧ Ext w w' := fun w => by
    have := add_any b a w hb ha
    rw [Nat.xor_comm b a] at this; exact this
  have MAB : ∀ w : World, Calls Try.prog 16 #[.int .u8 ((a : Nat) : Int), .int .u8 ((b : Nat) : Int)] w fun e w' => e = .returned (.int .u8 ((fm a b : Nat) : Int)) ∧ Ext w w' := fun w => by
    have := mul_any a b w ha hb
    exact this
  have MBA : ∀ w : World, Calls Try.prog 16 #[.int .u8 ((b : Nat) : Int), .int .u8 ((a : Nat) : Int)] w fun e w' => e = .returned (.int .u8 ((fm a b : Nat) : Int)) ∧ Ext w w' := fun w => by
    have := mul_any b a w hb ha
    rw [fm_comm b a hb ha] at this; exact this
  have ABC : ∀ w : World, Calls Try.prog 22 #[.int .u8 ((b : Nat) : Int), .int .u8 ((c : Nat) : Int)] w fun e w' => e = .returned (.int .u8 ((b ^^^ c : Nat) : Int)) ∧ Ext w w' := fun w => by
    have := add_any b c w hb hc
    exact this
  have AA_BC : ∀ w : World, Calls Try.prog 22 #[.int .u8 ((a : Nat) : Int), .int .u8 (((b ^^^ c) : Nat) : Int)] w fun e w' => e = .returned (.int .u8 ((a ^^^ (b ^^^ c) : Nat) : Int)) ∧ Ext w w' := fun w => by
    have := add_any a (b ^^^ c) w ha xbc
    exact this
  have AAB_C : ∀ w : World, Calls Try.prog 22 #[.int .u8 (((a ^^^ b) : Nat) : Int), .int .u8 ((c : Nat) : Int)] w fun e w' => e = .returned (.int .u8 ((a ^^^ (b ^^^ c) : Nat) : Int)) ∧ Ext w w' := fun w => by
    have := add_any (a ^^^ b) c w xab hc
    rw [Nat.xor_assoc] at this; exact this
  have MBC : ∀ w : World, Calls Try.prog 16 #[.int .u8 ((b : Nat) : Int), .int .u8 ((c : Nat) : Int)] w fun e w' => e = .returned (.int .u8 ((fm b c : Nat) : Int)) ∧ Ext w w' := fun w => by
    have := mul_any b c w hb hc
    exact this
  have MA_BC : ∀ w : World, Calls Try.prog 16 #[.int .u8 ((a : Nat) : Int), .int .u8 (((fm b c) : Nat) : Int)] w fun e w' => e = .returned (.int .u8 ((fm a (fm b c) : Nat) : Int)) ∧ Ext w w' := fun w => by
    have := mul_any a (fm b c) w ha hbc
    exact this
  have MAB_C : ∀ w : World, Calls Try.prog 16 #[.int .u8 (((fm a b) : Nat) : Int), .int .u8 ((c : Nat) : Int)] w fun e w' => e = .returned (.int .u8 ((fm a (fm b c) : Nat) : Int)) ∧ Ext w w' := fun w => by
    have := mul_any (fm a b) c w hab hc
    rw [fm_assoc a b c ha hb hc] at this; exact this
  have MA_XBC : ∀ w : World, Calls Try.prog 16 #[.int .u8 ((a : Nat) : Int), .int .u8 (((b ^^^ c) : Nat) : Int)] w fun e w' => e = .returned (.int .u8 ((fm a (b ^^^ c) : Nat) : Int)) ∧ Ext w w' := fun w => by
    have := mul_any a (b ^^^ c) w ha xbc
    exact this
  have MAC : ∀ w : World, Calls Try.prog 16 #[.int .u8 ((a : Nat) : Int), .int .u8 ((c : Nat) : Int)] w fun e w' => e = .returned (.int .u8 ((fm a c : Nat) : Int)) ∧ Ext w w' := fun w => by
    have := mul_any a c w ha hc
    exact this
  have AAB_AC : ∀ w : World, Calls Try.prog 22 #[.int .u8 (((fm a b) : Nat) : Int), .int .u8 (((fm a c) : Nat) : Int)] w fun e w' => e = .returned (.int .u8 ((fm a (b ^^^ c) : Nat) : Int)) ∧ Ext w w' := fun w => by
    have := add_any (fm a b) (fm a c) w hab hac
    rw [← fm_xor_r a b c] at this; exact this
  have AAA : ∀ w : World, Calls Try.prog 22 #[.int .u8 a, .int .u8 a] w fun e w' => e = .returned (.int .u8 0) ∧ Ext w w' := fun w => by
    have := add_any a a w ha ha
    rw [Nat.xor_self] at this; exact this
  have AA0 : ∀ w : World, Calls Try.prog 22 #[.int .u8 a, .int .u8 0] w fun e w' => e = .returned (.int .u8 a) ∧ Ext w w' := fun w => by
    have := add_any a 0 w ha (by omega)
    rw [Nat.xor_zero] at this; exact this
  have MA1 : ∀ w : World, Calls Try.prog 16 #[.int .u8 a, .int .u8 1] w fun e w' => e = .returned (.int .u8 a) ∧ Ext w w' := fun w => by
    have := mul_any a 1 w ha (by omega)
    rw [fm_one_r] at this; exact this
  have MA0 : ∀ w : World, Calls Try.prog 16 #[.int .u8 a, .int .u8 0] w fun e w' => e = .returned (.int .u8 0) ∧ Ext w w' := fun w => by
    have := mul_any a 0 w ha (by omega)
    rw [fm_zero_r] at this; exact this
  have MP : ∀ (k : Nat) (w : World), Calls Try.prog 16 #[.int .u8 (px k : Int), .int .u8 2] w fun e w' => e = .returned (.int .u8 (px (k + 1) : Int)) ∧ Ext w w' := fun k w => by
    have := mul_any (px k) 2 w (px_bd k).2 (by omega)
    rw [fm_two] at this; exact this
  by_cases h : a = 0
  · have INV : ∀ w : World, Calls Try.prog 17 #[.int .u8 a] w fun e w' => e = .returned (.tuple #[.int .u8 0, .int .i64 40]) ∧ Ext w w' := fun w => by
      subst h; exact inv_zero w
    have ea : ((a : Int) != 0) = false := by simp [h]
    have HM := Lib.hid (show met a 255 = 0 by rw [h]; exact met_zero 255)
    clear h
    by_cases h : b = 0
    · have DV : ∀ w : World, Calls Try.prog 20 #[.int .u8 a, .int .u8 b] w fun e w' => e = .returned (.tuple #[.int .u8 (divV a b), .int .i64 40]) ∧ Ext w w' := fun w => by
        have := div_any a b w ha hb
        rw [show invE b = 40 by simp [invE, h]] at this; exact this
      have eb : ((b : Int) != 0) = false := by simp [h]
      clear h
      go_enter Try.func7, Try.ntmps7
      have hO := Ext.refl W
      go_wp2_with (first
        | (go_at_call 22; with_reducible refine (AAB _).mono ?_; rintro e w0 ⟨rfl, hE0⟩; replace hO := hO.trans hE0; clear hE0)
        | (go_at_call 22; with_reducible refine (ABA _).mono ?_; rintro e w1 ⟨rfl, hE1⟩; replace hO := hO.trans hE1; clear hE1)
        | (go_at_call 16; with_reducible refine (MAB _).mono ?_; rintro e w2 ⟨rfl, hE2⟩; replace hO := hO.trans hE2; clear hE2)
        | (go_at_call 16; with_reducible refine (MBA _).mono ?_; rintro e w3 ⟨rfl, hE3⟩; replace hO := hO.trans hE3; clear hE3)
        | (go_at_call 22; with_reducible refine (ABC _).mono ?_; rintro e w4 ⟨rfl, hE4⟩; replace hO := hO.trans hE4; clear hE4)
        | (go_at_call 22; with_reducible refine (AA_BC _).mono ?_; rintro e w5 ⟨rfl, hE5⟩; replace hO := hO.trans hE5; clear hE5)
        | (go_at_call 22; with_reducible refine (AAB_C _).mono ?_; rintro e w6 ⟨rfl, hE6⟩; replace hO := hO.trans hE6; clear hE6)
        | (go_at_call 16; with_reducible refine (MBC _).mono ?_; rintro e w7 ⟨rfl, hE7⟩; replace hO := hO.trans hE7; clear hE7)
        | (go_at_call 16; with_reducible refine (MA_BC _).mono ?_; rintro e w8 ⟨rfl, hE8⟩; replace hO := hO.trans hE8; clear hE8)
        | (go_at_call 16; with_reducible refine (MAB_C _).mono ?_; rintro e w9 ⟨rfl, hE9⟩; replace hO := hO.trans hE9; clear hE9)
        | (go_at_call 16; with_reducible refine (MA_XBC _).mono ?_; rintro e w10 ⟨rfl, hE10⟩; replace hO := hO.trans hE10; clear hE10)
        | (go_at_call 16; with_reducible refine (MAC _).mono ?_; rintro e w11 ⟨rfl, hE11⟩; replace hO := hO.trans hE11; clear hE11)
        | (go_at_call 22; with_reducible refine (AAB_AC _).mono ?_; rintro e w12 ⟨rfl, hE12⟩; replace hO := hO.trans hE12; clear hE12)
        | (go_at_call 22; with_reducible refine (AAA _).mono ?_; rintro e w13 ⟨rfl, hE13⟩; replace hO := hO.trans hE13; clear hE13)
        | (go_at_call 22; with_reducible refine (AA0 _).mono ?_; rintro e w14 ⟨rfl, hE14⟩; replace hO := hO.trans hE14; clear hE14)
        | (go_at_call 16; with_reducible refine (MA1 _).mono ?_; rintro e w15 ⟨rfl, hE15⟩; replace hO := hO.trans hE15; clear hE15)
        | (go_at_call 16; with_reducible refine (MA0 _).mono ?_; rintro e w16 ⟨rfl, hE16⟩; replace hO := hO.trans hE16; clear hE16)
        | (go_at_call 17; with_reducible refine (INV _).mono ?_; rintro e w17 ⟨rfl, hE17⟩; replace hO := hO.trans hE17; clear hE17)
        | (go_at_call 20; with_reducible refine (DV _).mono ?_; rintro e w18 ⟨rfl, hE18⟩; replace hO := hO.trans hE18; clear hE18))
      go_loopw [11, 12, 13] (fun m x i wr => ∃ k : Nat, k ≤ 255 ∧ i = .int .i64 k ∧ x = .int .u8 (px k) ∧ m = .int .i64 (met a k) ∧ Ext W wr) (fun _ _ i _ => 255 - (intOf i).toNat)
      case atStart => exact ⟨0, by omega, rfl, rfl, rfl, hO⟩
      case round =>
        obtain ⟨k, hk, rfl, rfl, rfl, hE⟩ := hrel
        clear hO
        by_cases hk2 : k < 255
        · have kk : (k : Int) < 255 := by omega
          have hm := met_le a k
          by_cases hx : px k = a
          · have ex : ((px k : Int) == (a : Int)) = true := by simp [hx]
            have hy : met a (k + 1) = met a k + 1 := by rw [met, if_pos hx]
            have HY := Lib.hid hy
            clear hy hx
            go_wp2_with (go_at_call 16; with_reducible refine (MP k _).mono ?_; rintro e w1 ⟨rfl, hE1⟩)
            go_roundw
            case rel => exact ⟨k + 1, by omega, by go_num, rfl, by rw [HY.out]; go_num, hE.trans hE1⟩
            case measure => simp [intOf]; omega
          · have ex : ((px k : Int) == (a : Int)) = false := by simp; omega
            have hy : met a (k + 1) = met a k := by rw [met, if_neg hx]; rfl
            have HY := Lib.hid hy
            clear hy hx
            go_wp2_with (go_at_call 16; with_reducible refine (MP k _).mono ?_; rintro e w1 ⟨rfl, hE1⟩)
            go_roundw
            case rel => exact ⟨k + 1, by omega, by go_num, rfl, by rw [HY.out], hE.trans hE1⟩
            case measure => simp [intOf]; omega
        · obtain rfl : k = 255 := by omega
          rw [HM.out, px_255_one]
          go_wp2_with (go_at_call 9; refine (alive_any _).mono ?_; rintro e w1 ⟨rfl, hE1⟩)
          go_ret
          exact ⟨rfl, hE.trans hE1⟩
    · have DV : ∀ w : World, Calls Try.prog 20 #[.int .u8 a, .int .u8 b] w fun e w' => e = .returned (.tuple #[.int .u8 (divV a b), .int .i64 0]) ∧ Ext w w' := fun w => by
        have := div_any a b w ha hb
        rw [show invE b = 0 by simp [invE, h]] at this; exact this
      have MD : ∀ w : World, Calls Try.prog 16 #[.int .u8 (divV a b), .int .u8 b] w fun e w' => e = .returned (.int .u8 a) ∧ Ext w w' := fun w => by
        have hv : divV a b = fm a (fi b) := by simp [divV, invV, h]
        have := mul_any (divV a b) b w (by rw [hv]; exact fm_lt _ _ ha) hb
        rw [show fm (divV a b) b = a by rw [hv, fm_assoc _ _ _ ha (fi_bd b).2 hb, fm_comm _ _ (fi_bd b).2 hb, fm_fi b hb h, fm_one_r]] at this; exact this
      have eb : ((b : Int) != 0) = true := by simpa using h
      clear h
      go_enter Try.func7, Try.ntmps7
      have hO := Ext.refl W
      go_wp2_with (first
        | (go_at_call 22; with_reducible refine (AAB _).mono ?_; rintro e w0 ⟨rfl, hE0⟩; replace hO := hO.trans hE0; clear hE0)
        | (go_at_call 22; with_reducible refine (ABA _).mono ?_; rintro e w1 ⟨rfl, hE1⟩; replace hO := hO.trans hE1; clear hE1)
        | (go_at_call 16; with_reducible refine (MAB _).mono ?_; rintro e w2 ⟨rfl, hE2⟩; replace hO := hO.trans hE2; clear hE2)
        | (go_at_call 16; with_reducible refine (MBA _).mono ?_; rintro e w3 ⟨rfl, hE3⟩; replace hO := hO.trans hE3; clear hE3)
        | (go_at_call 22; with_reducible refine (ABC _).mono ?_; rintro e w4 ⟨rfl, hE4⟩; replace hO := hO.trans hE4; clear hE4)
        | (go_at_call 22; with_reducible refine (AA_BC _).mono ?_; rintro e w5 ⟨rfl, hE5⟩; replace hO := hO.trans hE5; clear hE5)
        | (go_at_call 22; with_reducible refine (AAB_C _).mono ?_; rintro e w6 ⟨rfl, hE6⟩; replace hO := hO.trans hE6; clear hE6)
        | (go_at_call 16; with_reducible refine (MBC _).mono ?_; rintro e w7 ⟨rfl, hE7⟩; replace hO := hO.trans hE7; clear hE7)
        | (go_at_call 16; with_reducible refine (MA_BC _).mono ?_; rintro e w8 ⟨rfl, hE8⟩; replace hO := hO.trans hE8; clear hE8)
        | (go_at_call 16; with_reducible refine (MAB_C _).mono ?_; rintro e w9 ⟨rfl, hE9⟩; replace hO := hO.trans hE9; clear hE9)
        | (go_at_call 16; with_reducible refine (MA_XBC _).mono ?_; rintro e w10 ⟨rfl, hE10⟩; replace hO := hO.trans hE10; clear hE10)
        | (go_at_call 16; with_reducible refine (MAC _).mono ?_; rintro e w11 ⟨rfl, hE11⟩; replace hO := hO.trans hE11; clear hE11)
        | (go_at_call 22; with_reducible refine (AAB_AC _).mono ?_; rintro e w12 ⟨rfl, hE12⟩; replace hO := hO.trans hE12; clear hE12)
        | (go_at_call 22; with_reducible refine (AAA _).mono ?_; rintro e w13 ⟨rfl, hE13⟩; replace hO := hO.trans hE13; clear hE13)
        | (go_at_call 22; with_reducible refine (AA0 _).mono ?_; rintro e w14 ⟨rfl, hE14⟩; replace hO := hO.trans hE14; clear hE14)
        | (go_at_call 16; with_reducible refine (MA1 _).mono ?_; rintro e w15 ⟨rfl, hE15⟩; replace hO := hO.trans hE15; clear hE15)
        | (go_at_call 16; with_reducible refine (MA0 _).mono ?_; rintro e w16 ⟨rfl, hE16⟩; replace hO := hO.trans hE16; clear hE16)
        | (go_at_call 17; with_reducible refine (INV _).mono ?_; rintro e w17 ⟨rfl, hE17⟩; replace hO := hO.trans hE17; clear hE17)
        | (go_at_call 20; with_reducible refine (DV _).mono ?_; rintro e w18 ⟨rfl, hE18⟩; replace hO := hO.trans hE18; clear hE18)
        | (go_at_call 16; with_reducible refine (MD _).mono ?_; rintro e w19 ⟨rfl, hE19⟩; replace hO := hO.trans hE19; clear hE19))
      go_loopw [11, 12, 13] (fun m x i wr => ∃ k : Nat, k ≤ 255 ∧ i = .int .i64 k ∧ x = .int .u8 (px k) ∧ m = .int .i64 (met a k) ∧ Ext W wr) (fun _ _ i _ => 255 - (intOf i).toNat)
      case atStart => exact ⟨0, by omega, rfl, rfl, rfl, hO⟩
      case round =>
        obtain ⟨k, hk, rfl, rfl, rfl, hE⟩ := hrel
        clear hO
        by_cases hk2 : k < 255
        · have kk : (k : Int) < 255 := by omega
          have hm := met_le a k
          by_cases hx : px k = a
          · have ex : ((px k : Int) == (a : Int)) = true := by simp [hx]
            have hy : met a (k + 1) = met a k + 1 := by rw [met, if_pos hx]
            have HY := Lib.hid hy
            clear hy hx
            go_wp2_with (go_at_call 16; with_reducible refine (MP k _).mono ?_; rintro e w1 ⟨rfl, hE1⟩)
            go_roundw
            case rel => exact ⟨k + 1, by omega, by go_num, rfl, by rw [HY.out]; go_num, hE.trans hE1⟩
            case measure => simp [intOf]; omega
          · have ex : ((px k : Int) == (a : Int)) = false := by simp; omega
            have hy : met a (k + 1) = met a k := by rw [met, if_neg hx]; rfl
            have HY := Lib.hid hy
            clear hy hx
            go_wp2_with (go_at_call 16; with_reducible refine (MP k _).mono ?_; rintro e w1 ⟨rfl, hE1⟩)
            go_roundw
            case rel => exact ⟨k + 1, by omega, by go_num, rfl, by rw [HY.out], hE.trans hE1⟩
            case measure => simp [intOf]; omega
        · obtain rfl : k = 255 := by omega
          rw [HM.out, px_255_one]
          go_wp2_with (go_at_call 9; refine (alive_any _).mono ?_; rintro e w1 ⟨rfl, hE1⟩)
          go_ret
          exact ⟨rfl, hE.trans hE1⟩
  · have INV : ∀ w : World, Calls Try.prog 17 #[.int .u8 a] w fun e w' => e = .returned (.tuple #[.int .u8 (fi a), .int .i64 0]) ∧ Ext w w' := fun w => by
      exact inv_ne a w ha h
    have MI : ∀ w : World, Calls Try.prog 16 #[.int .u8 a, .int .u8 (fi a)] w fun e w' => e = .returned (.int .u8 1) ∧ Ext w w' := fun w => by
      have := mul_any a (fi a) w ha (fi_bd a).2
      rw [fm_fi a ha h] at this; exact this
    have ea : ((a : Int) != 0) = true := by simpa using h
    have HM := Lib.hid (met_one a ha h)
    clear h
    by_cases h : b = 0
    · have DV : ∀ w : World, Calls Try.prog 20 #[.int .u8 a, .int .u8 b] w fun e w' => e = .returned (.tuple #[.int .u8 (divV a b), .int .i64 40]) ∧ Ext w w' := fun w => by
        have := div_any a b w ha hb
        rw [show invE b = 40 by simp [invE, h]] at this; exact this
      have eb : ((b : Int) != 0) = false := by simp [h]
      clear h
      go_enter Try.func7, Try.ntmps7
      have hO := Ext.refl W
      go_wp2_with (first
        | (go_at_call 22; with_reducible refine (AAB _).mono ?_; rintro e w0 ⟨rfl, hE0⟩; replace hO := hO.trans hE0; clear hE0)
        | (go_at_call 22; with_reducible refine (ABA _).mono ?_; rintro e w1 ⟨rfl, hE1⟩; replace hO := hO.trans hE1; clear hE1)
        | (go_at_call 16; with_reducible refine (MAB _).mono ?_; rintro e w2 ⟨rfl, hE2⟩; replace hO := hO.trans hE2; clear hE2)
        | (go_at_call 16; with_reducible refine (MBA _).mono ?_; rintro e w3 ⟨rfl, hE3⟩; replace hO := hO.trans hE3; clear hE3)
        | (go_at_call 22; with_reducible refine (ABC _).mono ?_; rintro e w4 ⟨rfl, hE4⟩; replace hO := hO.trans hE4; clear hE4)
        | (go_at_call 22; with_reducible refine (AA_BC _).mono ?_; rintro e w5 ⟨rfl, hE5⟩; replace hO := hO.trans hE5; clear hE5)
        | (go_at_call 22; with_reducible refine (AAB_C _).mono ?_; rintro e w6 ⟨rfl, hE6⟩; replace hO := hO.trans hE6; clear hE6)
        | (go_at_call 16; with_reducible refine (MBC _).mono ?_; rintro e w7 ⟨rfl, hE7⟩; replace hO := hO.trans hE7; clear hE7)
        | (go_at_call 16; with_reducible refine (MA_BC _).mono ?_; rintro e w8 ⟨rfl, hE8⟩; replace hO := hO.trans hE8; clear hE8)
        | (go_at_call 16; with_reducible refine (MAB_C _).mono ?_; rintro e w9 ⟨rfl, hE9⟩; replace hO := hO.trans hE9; clear hE9)
        | (go_at_call 16; with_reducible refine (MA_XBC _).mono ?_; rintro e w10 ⟨rfl, hE10⟩; replace hO := hO.trans hE10; clear hE10)
        | (go_at_call 16; with_reducible refine (MAC _).mono ?_; rintro e w11 ⟨rfl, hE11⟩; replace hO := hO.trans hE11; clear hE11)
        | (go_at_call 22; with_reducible refine (AAB_AC _).mono ?_; rintro e w12 ⟨rfl, hE12⟩; replace hO := hO.trans hE12; clear hE12)
        | (go_at_call 22; with_reducible refine (AAA _).mono ?_; rintro e w13 ⟨rfl, hE13⟩; replace hO := hO.trans hE13; clear hE13)
        | (go_at_call 22; with_reducible refine (AA0 _).mono ?_; rintro e w14 ⟨rfl, hE14⟩; replace hO := hO.trans hE14; clear hE14)
        | (go_at_call 16; with_reducible refine (MA1 _).mono ?_; rintro e w15 ⟨rfl, hE15⟩; replace hO := hO.trans hE15; clear hE15)
        | (go_at_call 16; with_reducible refine (MA0 _).mono ?_; rintro e w16 ⟨rfl, hE16⟩; replace hO := hO.trans hE16; clear hE16)
        | (go_at_call 17; with_reducible refine (INV _).mono ?_; rintro e w17 ⟨rfl, hE17⟩; replace hO := hO.trans hE17; clear hE17)
        | (go_at_call 20; with_reducible refine (DV _).mono ?_; rintro e w18 ⟨rfl, hE18⟩; replace hO := hO.trans hE18; clear hE18)
        | (go_at_call 16; with_reducible refine (MI _).mono ?_; rintro e w19 ⟨rfl, hE19⟩; replace hO := hO.trans hE19; clear hE19))
      go_loopw [11, 12, 13] (fun m x i wr => ∃ k : Nat, k ≤ 255 ∧ i = .int .i64 k ∧ x = .int .u8 (px k) ∧ m = .int .i64 (met a k) ∧ Ext W wr) (fun _ _ i _ => 255 - (intOf i).toNat)
      case atStart => exact ⟨0, by omega, rfl, rfl, rfl, hO⟩
      case round =>
        obtain ⟨k, hk, rfl, rfl, rfl, hE⟩ := hrel
        clear hO
        by_cases hk2 : k < 255
        · have kk : (k : Int) < 255 := by omega
          have hm := met_le a k
          by_cases hx : px k = a
          · have ex : ((px k : Int) == (a : Int)) = true := by simp [hx]
            have hy : met a (k + 1) = met a k + 1 := by rw [met, if_pos hx]
            have HY := Lib.hid hy
            clear hy hx
            go_wp2_with (go_at_call 16; with_reducible refine (MP k _).mono ?_; rintro e w1 ⟨rfl, hE1⟩)
            go_roundw
            case rel => exact ⟨k + 1, by omega, by go_num, rfl, by rw [HY.out]; go_num, hE.trans hE1⟩
            case measure => simp [intOf]; omega
          · have ex : ((px k : Int) == (a : Int)) = false := by simp; omega
            have hy : met a (k + 1) = met a k := by rw [met, if_neg hx]; rfl
            have HY := Lib.hid hy
            clear hy hx
            go_wp2_with (go_at_call 16; with_reducible refine (MP k _).mono ?_; rintro e w1 ⟨rfl, hE1⟩)
            go_roundw
            case rel => exact ⟨k + 1, by omega, by go_num, rfl, by rw [HY.out], hE.trans hE1⟩
            case measure => simp [intOf]; omega
        · obtain rfl : k = 255 := by omega
          rw [HM.out, px_255_one]
          go_wp2_with (go_at_call 9; refine (alive_any _).mono ?_; rintro e w1 ⟨rfl, hE1⟩)
          go_ret
          exact ⟨rfl, hE.trans hE1⟩
    · have DV : ∀ w : World, Calls Try.prog 20 #[.int .u8 a, .int .u8 b] w fun e w' => e = .returned (.tuple #[.int .u8 (divV a b), .int .i64 0]) ∧ Ext w w' := fun w => by
        have := div_any a b w ha hb
        rw [show invE b = 0 by simp [invE, h]] at this; exact this
      have MD : ∀ w : World, Calls Try.prog 16 #[.int .u8 (divV a b), .int .u8 b] w fun e w' => e = .returned (.int .u8 a) ∧ Ext w w' := fun w => by
        have hv : divV a b = fm a (fi b) := by simp [divV, invV, h]
        have := mul_any (divV a b) b w (by rw [hv]; exact fm_lt _ _ ha) hb
        rw [show fm (divV a b) b = a by rw [hv, fm_assoc _ _ _ ha (fi_bd b).2 hb, fm_comm _ _ (fi_bd b).2 hb, fm_fi b hb h, fm_one_r]] at this; exact this
      have eb : ((b : Int) != 0) = true := by simpa using h
      clear h
      go_enter Try.func7, Try.ntmps7
      have hO := Ext.refl W
      go_wp2_with (first
        | (go_at_call 22; with_reducible refine (AAB _).mono ?_; rintro e w0 ⟨rfl, hE0⟩; replace hO := hO.trans hE0; clear hE0)
        | (go_at_call 22; with_reducible refine (ABA _).mono ?_; rintro e w1 ⟨rfl, hE1⟩; replace hO := hO.trans hE1; clear hE1)
        | (go_at_call 16; with_reducible refine (MAB _).mono ?_; rintro e w2 ⟨rfl, hE2⟩; replace hO := hO.trans hE2; clear hE2)
        | (go_at_call 16; with_reducible refine (MBA _).mono ?_; rintro e w3 ⟨rfl, hE3⟩; replace hO := hO.trans hE3; clear hE3)
        | (go_at_call 22; with_reducible refine (ABC _).mono ?_; rintro e w4 ⟨rfl, hE4⟩; replace hO := hO.trans hE4; clear hE4)
        | (go_at_call 22; with_reducible refine (AA_BC _).mono ?_; rintro e w5 ⟨rfl, hE5⟩; replace hO := hO.trans hE5; clear hE5)
        | (go_at_call 22; with_reducible refine (AAB_C _).mono ?_; rintro e w6 ⟨rfl, hE6⟩; replace hO := hO.trans hE6; clear hE6)
        | (go_at_call 16; with_reducible refine (MBC _).mono ?_; rintro e w7 ⟨rfl, hE7⟩; replace hO := hO.trans hE7; clear hE7)
        | (go_at_call 16; with_reducible refine (MA_BC _).mono ?_; rintro e w8 ⟨rfl, hE8⟩; replace hO := hO.trans hE8; clear hE8)
        | (go_at_call 16; with_reducible refine (MAB_C _).mono ?_; rintro e w9 ⟨rfl, hE9⟩; replace hO := hO.trans hE9; clear hE9)
        | (go_at_call 16; with_reducible refine (MA_XBC _).mono ?_; rintro e w10 ⟨rfl, hE10⟩; replace hO := hO.trans hE10; clear hE10)
        | (go_at_call 16; with_reducible refine (MAC _).mono ?_; rintro e w11 ⟨rfl, hE11⟩; replace hO := hO.trans hE11; clear hE11)
        | (go_at_call 22; with_reducible refine (AAB_AC _).mono ?_; rintro e w12 ⟨rfl, hE12⟩; replace hO := hO.trans hE12; clear hE12)
        | (go_at_call 22; with_reducible refine (AAA _).mono ?_; rintro e w13 ⟨rfl, hE13⟩; replace hO := hO.trans hE13; clear hE13)
        | (go_at_call 22; with_reducible refine (AA0 _).mono ?_; rintro e w14 ⟨rfl, hE14⟩; replace hO := hO.trans hE14; clear hE14)
        | (go_at_call 16; with_reducible refine (MA1 _).mono ?_; rintro e w15 ⟨rfl, hE15⟩; replace hO := hO.trans hE15; clear hE15)
        | (go_at_call 16; with_reducible refine (MA0 _).mono ?_; rintro e w16 ⟨rfl, hE16⟩; replace hO := hO.trans hE16; clear hE16)
        | (go_at_call 17; with_reducible refine (INV _).mono ?_; rintro e w17 ⟨rfl, hE17⟩; replace hO := hO.trans hE17; clear hE17)
        | (go_at_call 20; with_reducible refine (DV _).mono ?_; rintro e w18 ⟨rfl, hE18⟩; replace hO := hO.trans hE18; clear hE18)
        | (go_at_call 16; with_reducible refine (MI _).mono ?_; rintro e w19 ⟨rfl, hE19⟩; replace hO := hO.trans hE19; clear hE19)
        | (go_at_call 16; with_reducible refine (MD _).mono ?_; rintro e w20 ⟨rfl, hE20⟩; replace hO := hO.trans hE20; clear hE20))
      go_loopw [11, 12, 13] (fun m x i wr => ∃ k : Nat, k ≤ 255 ∧ i = .int .i64 k ∧ x = .int .u8 (px k) ∧ m = .int .i64 (met a k) ∧ Ext W wr) (fun _ _ i _ => 255 - (intOf i).toNat)
      case atStart => exact ⟨0, by omega, rfl, rfl, rfl, hO⟩
      case round =>
        obtain ⟨k, hk, rfl, rfl, rfl, hE⟩ := hrel
        clear hO
        by_cases hk2 : k < 255
        · have kk : (k : Int) < 255 := by omega
          have hm := met_le a k
          by_cases hx : px k = a
          · have ex : ((px k : Int) == (a : Int)) = true := by simp [hx]
            have hy : met a (k + 1) = met a k + 1 := by rw [met, if_pos hx]
            have HY := Lib.hid hy
            clear hy hx
            go_wp2_with (go_at_call 16; with_reducible refine (MP k _).mono ?_; rintro e w1 ⟨rfl, hE1⟩)
            go_roundw
            case rel => exact ⟨k + 1, by omega, by go_num, rfl, by rw [HY.out]; go_num, hE.trans hE1⟩
            case measure => simp [intOf]; omega
          · have ex : ((px k : Int) == (a : Int)) = false := by simp; omega
            have hy : met a (k + 1) = met a k := by rw [met, if_neg hx]; rfl
            have HY := Lib.hid hy
            clear hy hx
            go_wp2_with (go_at_call 16; with_reducible refine (MP k _).mono ?_; rintro e w1 ⟨rfl, hE1⟩)
            go_roundw
            case rel => exact ⟨k + 1, by omega, by go_num, rfl, by rw [HY.out], hE.trans hE1⟩
            case measure => simp [intOf]; omega
        · obtain rfl : k = 255 := by omega
          rw [HM.out, px_255_one]
          go_wp2_with (go_at_call 9; refine (alive_any _).mono ?_; rintro e w1 ⟨rfl, hE1⟩)
          go_ret
          exact ⟨rfl, hE.trans hE1⟩
