import Derived.Test.YtjmbimmikfnaoaaS2
import Derived.Deep.RegionHeld3
import Derived.BigQuiet
import Derived.Deep.QuietTactic
namespace Go.Proofs.Ytjmbimmikfnaoaa
open Go.RowKit
def fits (s : ByteArray) : Bool := (be4 (sumOf [s.extract 0 (s.size - 4)])).toList == (s.extract (s.size - 4) s.size).toList
set_option maxRecDepth 100000 in
theorem open_short (s : ByteArray) (w : World) (hz : s.size ≤ 1048576) (h4 : s.size < 4) :
    Calls Try.prog 11 #[.string s] w fun e w' => e = .returned (.tuple #[.string ByteArray.empty, .bool false]) ∧ Ext w w' := by
  have hd : decide ((s.size : Int) - 4 < 0) = true := by simp; omega
  go_enter Try.func11, Try.ntmps11
  go_wp2_with fail
  go_quiet (fail)
  go_wp2
  go_ret2
  exact ⟨rfl, (Ext.refl _).drewN _⟩
set_option maxRecDepth 100000 in
theorem open_yes (s : ByteArray) (w : World) (hz : s.size ≤ 1048576) (h4 : 4 ≤ s.size) (hf : fits s = true) :
    Calls Try.prog 11 #[.string s] w fun e w' => e = .returned (.tuple #[.string (s.extract 0 (s.size - 4)), .bool true]) ∧ Ext w w' := by
  have hfit : ((be4 (sumOf [s.extract 0 (s.size - 4)])).toList == (s.extract (s.size - 4) s.size).toList) = true := hf
  have hd : decide ((s.size : Int) - 4 < 0) = false := by simp; omega
  have k0 : (0 : Int) ≤ (s.size : Int) - 4 := by omega
  have k0b : (4 : Int) ≤ (s.size : Int) := by omega
  have k1 : (s.size : Int) - 4 ≤ (s.size : Int) := by omega
  have k2 : ((s.size : Int) - 4).toNat = s.size - 4 := by omega
  obtain ⟨hb0, hb1⟩ := sumOf_bd [s.extract 0 (s.size - 4)]
  clear hf
  go_enter Try.func11, Try.ntmps11
  go_wp2_with fail
  go_region_held3 (fun w' => Ext w w') (first | assumption | ((repeat (first | exact Ext.refl _ | assumption | apply Ext.drew | apply Ext.alloc)); done) | (exact Ext.trans ‹_› hB1) | (exact Ext.trans ‹_› hB2))
     (first
    | (go_at_call 7; refine (of_one (s.extract 0 (s.size - 4)) _ _ (cell_newd _ _ _ _ rfl) (by simp; omega)).mono ?_; rintro e w1 ⟨rfl, hB1⟩)
    | (go_at_call 9; refine (bytes_any _ _ hb0 hb1).mono ?_; rintro e w2 ⟨rfl, hB2⟩))
  have hE : Ext w w2 := by assumption
  clear hB1 hB2 hd k0 k0b k1 k2 hb0 hb1 hfit
  go_wp2
  go_ret2
  exact ⟨rfl, hE⟩
set_option maxRecDepth 100000 in
theorem open_no (s : ByteArray) (w : World) (hz : s.size ≤ 1048576) (h4 : 4 ≤ s.size) (hf : fits s = false) :
    Calls Try.prog 11 #[.string s] w fun e w' => e = .returned (.tuple #[.string ByteArray.empty, .bool false]) ∧ Ext w w' := by
  have hfit : ((be4 (sumOf [s.extract 0 (s.size - 4)])).toList == (s.extract (s.size - 4) s.size).toList) = false := hf
  have hd : decide ((s.size : Int) - 4 < 0) = false := by simp; omega
  have k0 : (0 : Int) ≤ (s.size : Int) - 4 := by omega
  have k0b : (4 : Int) ≤ (s.size : Int) := by omega
  have k1 : (s.size : Int) - 4 ≤ (s.size : Int) := by omega
  have k2 : ((s.size : Int) - 4).toNat = s.size - 4 := by omega
  obtain ⟨hb0, hb1⟩ := sumOf_bd [s.extract 0 (s.size - 4)]
  clear hf
  go_enter Try.func11, Try.ntmps11
  go_wp2_with fail
  go_region_held3 (fun w' => Ext w w') (first | assumption | ((repeat (first | exact Ext.refl _ | assumption | apply Ext.drew | apply Ext.alloc)); done) | (exact Ext.trans ‹_› hB1) | (exact Ext.trans ‹_› hB2))
     (first
    | (go_at_call 7; refine (of_one (s.extract 0 (s.size - 4)) _ _ (cell_newd _ _ _ _ rfl) (by simp; omega)).mono ?_; rintro e w1 ⟨rfl, hB1⟩)
    | (go_at_call 9; refine (bytes_any _ _ hb0 hb1).mono ?_; rintro e w2 ⟨rfl, hB2⟩))
  have hE : Ext w w2 := by assumption
  clear hB1 hB2 hd k0 k0b k1 k2 hb0 hb1 hfit
  go_wp2
  go_ret2
  exact ⟨rfl, hE⟩
