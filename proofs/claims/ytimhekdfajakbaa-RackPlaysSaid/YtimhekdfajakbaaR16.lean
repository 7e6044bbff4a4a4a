import Derived.Test.YtimhekdfajakbaaR15
namespace Go.Proofs.Ytimhekdfajakbaa
open Go.RowKit
def sA1 : St := wrote St0 0 1 ⟨#[97, 98]⟩
def sA2 : St := { sA1 with bad := setNN sA1.bad 0 1 true }
def sA3 : St := wrote sA2 0 1 ⟨#[99]⟩
def sA4 : St := { sA3 with cut := true, left := 1 }
def sA5 : St := wrote sA4 1 0 ⟨#[120]⟩
def sA6 : St := { sA5 with cut := false }
def sA7 : St := wiped sA6 0
def strC : ByteArray := ⟨#[99, 0, 0, 0, 0, 0, 0, 0, 0, 0, 0, 0, 0, 0, 0, 0, 0, 0, 0, 0, 0, 0, 0, 0, 0, 0, 0, 0, 0, 0, 0, 0, 0, 0, 0, 0, 0, 0, 0, 0, 0, 0, 0, 0, 0, 0, 0, 0, 0, 0, 0, 0, 0, 0, 0, 0, 0, 0, 0, 0, 0, 0, 0, 0]⟩
theorem strC_is : secS sA3 0 1 = strC := by decide +kernel
def strX : ByteArray := ⟨#[120, 0, 0, 0, 0, 0, 0, 0, 0, 0, 0, 0, 0, 0, 0, 0, 0, 0, 0, 0, 0, 0, 0, 0, 0, 0, 0, 0, 0, 0, 0, 0, 0, 0, 0, 0, 0, 0, 0, 0, 0, 0, 0, 0, 0, 0, 0, 0, 0, 0, 0, 0, 0, 0, 0, 0, 0, 0, 0, 0, 0, 0, 0, 0]⟩
theorem strX_is : secS sA6 1 0 = strX := by decide +kernel
theorem cnt_setN (f : Nat → Nat) (d m : Nat) (h : ∀ x, f x ≤ m) : ∀ x, setN f d (f d + 1) x ≤ m + 1 := fun x => by
  unfold setN
  split
  · have := h d; omega
  · have := h x; omega
theorem c1 : ∀ d, sA1.cnt d ≤ 1 := cnt_setN _ _ 0 (fun _ => Nat.le_refl _)
theorem c3 : ∀ d, sA3.cnt d ≤ 2 := cnt_setN _ _ 1 c1
theorem c5 : ∀ d, sA5.cnt d ≤ 3 := cnt_setN _ _ 2 c3
section
variable {gR gD : Nat} {gS : Nat → Nat} {w : World}
theorem aW1 (h : RackAt w ⟨gR, gD, gS, 2, 3⟩ St0) : Calls Try.prog 19 #[.pointer (some ⟨gR, 0, none⟩), .int .i64 0, .int .i64 1, .string ⟨#[97, 98]⟩] w fun e w' => e = .returned (.int .i64 0) ∧ RackAt w' ⟨gR, gD, gS, 2, 3⟩ sA1 ∧ Chg ⟨gR, gD, gS, 2, 3⟩ w w' :=
  write_any h 0 1 _ (by decide) (fun _ => by show (0 : Nat) ≤ _; omega)
theorem aS2 (h : RackAt w ⟨gR, gD, gS, 2, 3⟩ sA1) : Calls Try.prog 22 #[.pointer (some ⟨gR, 0, none⟩), .int .i64 0, .int .i64 1] w fun e w' => e = .returned (.int .i64 0) ∧ RackAt w' ⟨gR, gD, gS, 2, 3⟩ sA2 ∧ Chg ⟨gR, gD, gS, 2, 3⟩ w w' :=
  spoil_any h 0 1
theorem aR2 (h : RackAt w ⟨gR, gD, gS, 2, 3⟩ sA2) : Calls Try.prog 21 #[.pointer (some ⟨gR, 0, none⟩), .int .i64 0, .int .i64 1] w fun e w' => e = .returned (.tuple #[.string ⟨#[]⟩, .int .i64 72]) ∧ Ext w w' :=
  read_any h 0 1
theorem aW3 (h : RackAt w ⟨gR, gD, gS, 2, 3⟩ sA2) : Calls Try.prog 19 #[.pointer (some ⟨gR, 0, none⟩), .int .i64 0, .int .i64 1, .string ⟨#[99]⟩] w fun e w' => e = .returned (.int .i64 0) ∧ RackAt w' ⟨gR, gD, gS, 2, 3⟩ sA3 ∧ Chg ⟨gR, gD, gS, 2, 3⟩ w w' :=
  write_any h 0 1 _ (by decide) (fun d => by have := c1 d; show sA1.cnt d ≤ _; omega)
theorem aR3 (h : RackAt w ⟨gR, gD, gS, 2, 3⟩ sA3) : Calls Try.prog 21 #[.pointer (some ⟨gR, 0, none⟩), .int .i64 0, .int .i64 1] w fun e w' => e = .returned (.tuple #[.string strC, .int .i64 0]) ∧ Ext w w' := by
  rw [← strC_is]
  exact read_any h 0 1
theorem aC4 (h : RackAt w ⟨gR, gD, gS, 2, 3⟩ sA3) : Calls Try.prog 18 #[.pointer (some ⟨gR, 0, none⟩), .int .i64 1] w fun e w' => e = .returned (.int .i64 0) ∧ RackAt w' ⟨gR, gD, gS, 2, 3⟩ sA4 ∧ Chg ⟨gR, gD, gS, 2, 3⟩ w w' :=
  cut_any h 1
theorem aW5 (h : RackAt w ⟨gR, gD, gS, 2, 3⟩ sA4) : Calls Try.prog 19 #[.pointer (some ⟨gR, 0, none⟩), .int .i64 1, .int .i64 0, .string ⟨#[120]⟩] w fun e w' => e = .returned (.int .i64 0) ∧ RackAt w' ⟨gR, gD, gS, 2, 3⟩ sA5 ∧ Chg ⟨gR, gD, gS, 2, 3⟩ w w' :=
  write_any h 1 0 _ (by decide) (fun d => by have := c3 d; show sA3.cnt d ≤ _; omega)
theorem aW5b (h : RackAt w ⟨gR, gD, gS, 2, 3⟩ sA5) : Calls Try.prog 19 #[.pointer (some ⟨gR, 0, none⟩), .int .i64 1, .int .i64 0, .string ⟨#[121]⟩] w fun e w' => e = .returned (.int .i64 71) ∧ RackAt w' ⟨gR, gD, gS, 2, 3⟩ sA5 ∧ Chg ⟨gR, gD, gS, 2, 3⟩ w w' :=
  write_any h 1 0 _ (by decide) (fun d => by have := c5 d; omega)
theorem aR5 (h : RackAt w ⟨gR, gD, gS, 2, 3⟩ sA5) : Calls Try.prog 21 #[.pointer (some ⟨gR, 0, none⟩), .int .i64 1, .int .i64 0] w fun e w' => e = .returned (.tuple #[.string ⟨#[]⟩, .int .i64 71]) ∧ Ext w w' :=
  read_any h 1 0
theorem aL6 (h : RackAt w ⟨gR, gD, gS, 2, 3⟩ sA5) : Calls Try.prog 20 #[.pointer (some ⟨gR, 0, none⟩)] w fun e w' => e = .returned (.int .i64 0) ∧ RackAt w' ⟨gR, gD, gS, 2, 3⟩ sA6 ∧ Chg ⟨gR, gD, gS, 2, 3⟩ w w' :=
  lift_ok h
theorem aR6 (h : RackAt w ⟨gR, gD, gS, 2, 3⟩ sA6) : Calls Try.prog 21 #[.pointer (some ⟨gR, 0, none⟩), .int .i64 1, .int .i64 0] w fun e w' => e = .returned (.tuple #[.string strX, .int .i64 0]) ∧ Ext w w' := by
  rw [← strX_is]
  exact read_any h 1 0
theorem aW7 (h : RackAt w ⟨gR, gD, gS, 2, 3⟩ sA6) : Calls Try.prog 19 #[.pointer (some ⟨gR, 0, none⟩), .int .i64 2, .int .i64 0, .string ⟨#[]⟩] w fun e w' => e = .returned (.int .i64 70) ∧ RackAt w' ⟨gR, gD, gS, 2, 3⟩ sA6 ∧ Chg ⟨gR, gD, gS, 2, 3⟩ w w' :=
  write_any h 2 0 _ (by decide) (fun d => by have := c5 d; show sA5.cnt d ≤ _; omega)
theorem aN7 (h : RackAt w ⟨gR, gD, gS, 2, 3⟩ sA6) : Calls Try.prog 14 #[.pointer (some ⟨gR, 0, none⟩), .int .i64 0] w fun e w' => e = .returned (.int .u64 2) ∧ Ext w w' :=
  writes_any h 0
theorem aD7 (h : RackAt w ⟨gR, gD, gS, 2, 3⟩ sA6) : Calls Try.prog 16 #[.pointer (some ⟨gR, 0, none⟩)] w fun e w' => e = .returned (.int .i64 2) ∧ Ext w w' :=
  drives_ok h
theorem aE7 (h : RackAt w ⟨gR, gD, gS, 2, 3⟩ sA6) : Calls Try.prog 17 #[.pointer (some ⟨gR, 0, none⟩)] w fun e w' => e = .returned (.int .i64 3) ∧ Ext w w' :=
  sectors_ok h
def Long192 (w : World) (e : Ending) (w' : World) : Prop := ∃ S : ByteArray, e = .returned (.string S) ∧ (S.size : Int) = 192 ∧ Ext w w'
theorem aA7 (h : RackAt w ⟨gR, gD, gS, 2, 3⟩ sA6) : Calls Try.prog 12 #[.pointer (some ⟨gR, 0, none⟩), .int .i64 1] w (Long192 w) :=
  (all_any h 1).mono fun e w' ⟨h1, h2⟩ => ⟨_, h1, by
    have := allL_len sA6 1 3
    show (((allL sA6 1 3).toArray.size : Nat) : Int) = 192
    rw [List.size_toArray, this]; rfl, h2⟩
theorem aP7 (h : RackAt w ⟨gR, gD, gS, 2, 3⟩ sA6) : Calls Try.prog 23 #[.pointer (some ⟨gR, 0, none⟩), .int .i64 0] w fun e w' => e = .returned (.int .i64 0) ∧ RackAt w' ⟨gR, gD, gS, 2, 3⟩ sA7 ∧ Chg ⟨gR, gD, gS, 2, 3⟩ w w' :=
  wipe_any h 0
theorem aC8 (h : RackAt w ⟨gR, gD, gS, 2, 3⟩ sA7) : Calls Try.prog 18 #[.pointer (some ⟨gR, 0, none⟩), .int .i64 (-1)] w fun e w' => e = .returned (.int .i64 2) ∧ RackAt w' ⟨gR, gD, gS, 2, 3⟩ sA7 ∧ Chg ⟨gR, gD, gS, 2, 3⟩ w w' :=
  cut_any h (-1)
end
theorem aNew (w : World) : Calls Try.prog 9 #[.int .i64 2, .int .i64 3] w fun e w' => ∃ (gR gD : Nat) (gS : Nat → Nat), e = .returned (.tuple #[.pointer (some ⟨gR, 0, none⟩), .int .i64 0]) ∧ RackAt w' ⟨gR, gD, gS, 2, 3⟩ St0 ∧ (∀ k, (⟨gR, gD, gS, 2, 3⟩ : Pl).has k → w.heap.size ≤ k) ∧ Ext w w' :=
  new_at 2 3 (by decide) w
set_option maxRecDepth 100000 in
set_option maxHeartbeats 2000000 in
theorem alive_ok (w : World) : Calls Try.prog 8 #[] w fun e w' => e = .returned (.bool true) ∧ Ext w w' := by
  have z1 : ((strC.size : Nat) : Int) = 64 := by decide +kernel
  have z2 : ((strX.size : Nat) : Int) = 64 := by decide +kernel
  have i1 : ∀ w, (Instr.index 9 (.string strC) (.int .i64 0)).run Try.prog w = .ok (.int .u8 99) w := fun _ => by kernel_rfl
  have i2 : ∀ w, (Instr.index 9 (.string strC) (.int .i64 1)).run Try.prog w = .ok (.int .u8 0) w := fun _ => by kernel_rfl
  have i3 : ∀ w, (Instr.index 9 (.string strX) (.int .i64 0)).run Try.prog w = .ok (.int .u8 120) w := fun _ => by kernel_rfl
  go_enter Try.func8, Try.ntmps8
  go_wp2_with (first
    | (go_at_call 9; (with_reducible refine (aNew _).mono ?_); rintro e w1 ⟨gR, gD, gS, rfl, h0, hg, hE⟩; have HG := Lib.hid hg; clear hg)
    | (go_at_call 19; (with_reducible refine (aW1 h0).mono ?_); rintro e w2 ⟨rfl, h1, k1⟩)
    | (go_at_call 22; (with_reducible refine (aS2 h1).mono ?_); rintro e w3 ⟨rfl, h2, k2⟩)
    | (go_at_call 21; (with_reducible refine (aR2 h2).mono ?_); rintro e w4 ⟨rfl, k3⟩; have h2b := h2.ext k3)
    | (go_at_call 19; (with_reducible refine (aW3 h2b).mono ?_); rintro e w5 ⟨rfl, h3, k4⟩)
    | (go_at_call 21; (with_reducible refine (aR3 h3).mono ?_); rintro e w6 ⟨rfl, k5⟩; have h3b := h3.ext k5)
    | (go_at_call 18; (with_reducible refine (aC4 h3b).mono ?_); rintro e w7 ⟨rfl, h4, k6⟩)
    | (go_at_call 19; (with_reducible refine (aW5 h4).mono ?_); rintro e w8 ⟨rfl, h5, k7⟩)
    | (go_at_call 19; (with_reducible refine (aW5b h5).mono ?_); rintro e w9 ⟨rfl, h5b, k8⟩)
    | (go_at_call 21; (with_reducible refine (aR5 h5b).mono ?_); rintro e w10 ⟨rfl, k9⟩; have h5c := h5b.ext k9)
    | (go_at_call 20; (with_reducible refine (aL6 h5c).mono ?_); rintro e w11 ⟨rfl, h6, k10⟩)
    | (go_at_call 21; (with_reducible refine (aR6 h6).mono ?_); rintro e w12 ⟨rfl, k11⟩; have h6b := h6.ext k11)
    | (go_at_call 19; (with_reducible refine (aW7 h6b).mono ?_); rintro e w13 ⟨rfl, h7, k12⟩)
    | (go_at_call 14; (with_reducible refine (aN7 h7).mono ?_); rintro e w14 ⟨rfl, k13⟩; have h7b := h7.ext k13)
    | (go_at_call 16; (with_reducible refine (aD7 h7b).mono ?_); rintro e w15 ⟨rfl, k14⟩; have h7c := h7b.ext k14)
    | (go_at_call 17; (with_reducible refine (aE7 h7c).mono ?_); rintro e w16 ⟨rfl, k15⟩; have h7d := h7c.ext k15)
    | (go_at_call 12; (with_reducible refine (aA7 h7d).mono ?_); rintro e w17 ⟨S, rfl, hS, k16⟩; have h7e := h7d.ext k16)
    | (go_at_call 23; (with_reducible refine (aP7 h7e).mono ?_); rintro e w18 ⟨rfl, h8, k17⟩)
    | (go_at_call 18; (with_reducible refine (aC8 h8).mono ?_); rintro e w19 ⟨rfl, h9, k18⟩))
  go_ret
  refine ⟨rfl, ?_⟩
  have K := (((((((((((((((((k1.trans k2).trans (Chg.of k3)).trans k4).trans (Chg.of k5)).trans k6).trans k7).trans k8).trans (Chg.of k9)).trans k10).trans (Chg.of k11)).trans k12).trans (Chg.of k13)).trans (Chg.of k14)).trans (Chg.of k15)).trans (Chg.of k16)).trans k17).trans k18)
  exact K.ext hE HG.out
