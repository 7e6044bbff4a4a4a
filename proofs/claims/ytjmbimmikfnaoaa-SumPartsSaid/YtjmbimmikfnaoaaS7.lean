import Derived.Test.YtjmbimmikfnaoaaS6
namespace Go.Proofs.Ytjmbimmikfnaoaa
open Go.RowKit
/-- The sum of a text, as the reference reckons it. -/
def refOf (s : ByteArray) : Int := (yv (fun j => !rn (8 * s.size) (flip 0 32 (sbz s)) (8 * s.size + j)) 32 : Nat)
set_option maxRecDepth 100000 in
theorem rof_any (s : ByteArray) (w : World) (hz : s.size ≤ 1048576) :
    Calls Try.prog 8 #[.string s] w fun e w' => e = .returned (.int .u32 (refOf s)) ∧ Ext w w' := by
  go_enter Try.func8, Try.ntmps8
  go_wp2_with fail
  refine (bits_any s w hz).mono ?_; rintro e w1 ⟨rfl, hE1, hown⟩
  have hb := ownsRow_blk hown
  clear hown
  obtain ⟨g, hg⟩ : ∃ g, g = w.heap.size := ⟨_, rfl⟩
  have HG := Lib.hid hg
  rw [← hg] at hb ⊢
  clear hg
  go_wp2_with (first
    | (go_at_call 17; refine (turn_any g 0 _ _ (8 * s.size + 32) (sbz s) _ hb (by omega) (by omega)).mono ?_; rintro e w2 ⟨rfl, hO2, hb2⟩)
    | (go_at_call 18; refine (left_any g (8 * s.size) (flip 0 32 (sbz s)) _ hb2 (by omega)).mono ?_; rintro e w3 ⟨rfl, hO3⟩))
  go_ret
  refine ⟨rfl, ?_⟩
  exact hE1.only (by rw [HG.out]; exact Nat.le_refl _) (hO2.trans hO3)
theorem refOf_bd (s : ByteArray) : 0 ≤ refOf s ∧ refOf s < 4294967296 := by
  unfold refOf
  have := yv_lt (fun j => !rn (8 * s.size) (flip 0 32 (sbz s)) (8 * s.size + j)) 32
  omega
set_option maxRecDepth 100000 in
theorem rseal_any (s : ByteArray) (w : World) (hz : s.size ≤ 1048576) :
    Calls Try.prog 14 #[.string s] w fun e w' => e = .returned (.string (s ++ be4 (refOf s))) ∧ Ext w w' := by
  obtain ⟨hb0, hb1⟩ := refOf_bd s
  have hs4 := be4_size (refOf s)
  go_enter Try.func14, Try.ntmps14
  go_wp2_with (first
    | (go_at_call 8; refine (rof_any s _ hz).mono ?_; rintro e w1 ⟨rfl, hB1⟩)
    | (go_at_call 10; refine (rbytes_any _ _ hb0 hb1).mono ?_; rintro e w2 ⟨rfl, hB2⟩))
  go_ret
  exact ⟨rfl, hB1.trans hB2⟩
def rsealed (s : ByteArray) : ByteArray := s.extract 0 (s.size - 4) ++ be4 (refOf (s.extract 0 (s.size - 4)))
set_option maxRecDepth 100000 in
theorem ropen_short (s : ByteArray) (w : World) (h4 : s.size < 4) :
    Calls Try.prog 12 #[.string s] w fun e w' => e = .returned (.tuple #[.string ByteArray.empty, .bool false]) ∧ Ext w w' := by
  have hd : decide ((s.size : Int) < 4) = true := by simp; omega
  go_enter Try.func12, Try.ntmps12
  go_wp2_with fail
  go_wp2
  go_ret2
  exact ⟨rfl, Ext.refl _⟩
set_option maxRecDepth 100000 in
theorem ropen_yes (s : ByteArray) (w : World) (hz : s.size ≤ 1048576) (h4 : 4 ≤ s.size) (hf : ((s.extract 0 (s.size - 4) ++ be4 (refOf (s.extract 0 (s.size - 4)))).toList == s.toList) = true) :
    Calls Try.prog 12 #[.string s] w fun e w' => e = .returned (.tuple #[.string (s.extract 0 (s.size - 4)), .bool true]) ∧ Ext w w' := by
  go_enter Try.func12, Try.ntmps12
  go_wp2_with (go_at_call 14; refine (rseal_any (s.extract 0 (s.size - 4)) _ (by simp; omega)).mono ?_; rintro e w1 ⟨rfl, hB1⟩)
  go_ret2
  exact ⟨rfl, hB1⟩
set_option maxRecDepth 100000 in
theorem ropen_no (s : ByteArray) (w : World) (hz : s.size ≤ 1048576) (h4 : 4 ≤ s.size) (hf : ((s.extract 0 (s.size - 4) ++ be4 (refOf (s.extract 0 (s.size - 4)))).toList == s.toList) = false) :
    Calls Try.prog 12 #[.string s] w fun e w' => e = .returned (.tuple #[.string ByteArray.empty, .bool false]) ∧ Ext w w' := by
  go_enter Try.func12, Try.ntmps12
  go_wp2_with (go_at_call 14; refine (rseal_any (s.extract 0 (s.size - 4)) _ (by simp; omega)).mono ?_; rintro e w1 ⟨rfl, hB1⟩)
  go_ret2
  exact ⟨rfl, hB1⟩
