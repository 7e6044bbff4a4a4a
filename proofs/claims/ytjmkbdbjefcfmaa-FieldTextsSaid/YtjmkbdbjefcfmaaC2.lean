import Derived.Test.YtjmkbdbjefcfmaaC1
namespace Go.Proofs.Ytjmkbdbjefcfmaa
open Go.RowKit Go.Gf
theorem byte_of (a : Int) (h : (Lit.int .u8 a).wf = true) : ∃ n : Nat, a = n ∧ n < 256 := by
  have : 0 ≤ a ∧ a ≤ 255 := by
    have h2 : IntKind.u8.min ≤ a ∧ a ≤ IntKind.u8.max := by simpa [Lit.wf] using h
    exact h2
  exact ⟨a.toNat, by omega, by omega⟩
theorem i16_of (a : Int) (h : (Lit.int .i16 a).wf = true) : -32768 ≤ a ∧ a < 32768 := by
  have : -32768 ≤ a ∧ a ≤ 32767 := by
    have h2 : IntKind.i16.min ≤ a ∧ a ≤ IntKind.i16.max := by simpa [Lit.wf] using h
    exact h2
  omega
set_option maxRecDepth 100000 in
theorem fieldTells_walk (a0 a1 a2 : Int) (W : World) (h0 : (Lit.int .u8 a0).wf = true) (h1 : (Lit.int .u8 a1).wf = true) (h2 : (Lit.int .i16 a2).wf = true) :
    Calls Try.prog 6 #[.int .u8 a0, .int .u8 a1, .int .i16 a2] W fun e w' => e = .returned (.bool true) ∧ Ext W w' := by
  obtain ⟨a, rfl, ha⟩ := byte_of a0 h0
  obtain ⟨b, rfl, hb⟩ := byte_of a1 h1
  have hn := i16_of a2 h2
  clear h0 h1 h2
  have hx := u8_xor a b ha hb
  have ht : a2.tmod 600 ≤ 1000000 := by
    have := Int.tmod_lt_of_pos a2 (show (0 : Int) < 600 by omega)
    omega
  have HT := Lib.hid ht
  clear ht
  go_enter Try.func6, Try.ntmps6
  go_wp2_with (first
    | (go_at_call 17; with_reducible refine (inv_any a _ ha).mono ?_; rintro e w1 ⟨rfl, hE1⟩)
    | (go_at_call 19; with_reducible refine (rinv_any a _ ha).mono ?_; rintro e w2 ⟨rfl, hE2⟩)
    | (go_at_call 20; with_reducible refine (div_any a b _ ha hb).mono ?_; rintro e w3 ⟨rfl, hE3⟩)
    | (go_at_call 21; with_reducible refine (rdiv_any a b _ ha hb).mono ?_; rintro e w4 ⟨rfl, hE4⟩)
    | (go_at_call 22; with_reducible refine (add_any a b _ ha hb).mono ?_; rintro e w5 ⟨rfl, hE5⟩)
    | (go_at_call 16; with_reducible refine (mul_any a b _ ha hb).mono ?_; rintro e w6 ⟨rfl, hE6⟩)
    | (go_at_call 23; with_reducible refine (rmul_any a b _ ha hb).mono ?_; rintro e w7 ⟨rfl, hE7⟩)
    | (go_at_call 18; with_reducible refine (pow_any a _ _ ha HT.out).mono ?_; rintro e w8 ⟨rfl, hE8⟩)
    | (go_at_call 24; with_reducible refine (rpow_any a _ _ ha HT.out).mono ?_; rintro e w9 ⟨rfl, hE9⟩)
    | (go_at_call 9; refine (alive_any _).mono ?_; rintro e w10 ⟨rfl, hE10⟩))
  go_ret
  exact ⟨rfl, hE1.trans <| hE2.trans <| hE3.trans <| hE4.trans <| hE5.trans <| hE6.trans <| hE7.trans <| hE8.trans <| hE9.trans hE10⟩
