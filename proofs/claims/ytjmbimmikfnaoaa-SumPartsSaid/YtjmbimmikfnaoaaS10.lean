import Derived.Test.YtjmbimmikfnaoaaS9
namespace Go.Proofs.Ytjmbimmikfnaoaa
open Go.RowKit
/-- What is opened of a text: whether, and as what. -/
def opB (s : ByteArray) : Bool := decide (4 ≤ s.size) && fits s
def opT (s : ByteArray) : ByteArray := if opB s = true then s.extract 0 (s.size - 4) else ByteArray.empty
theorem open_all (s : ByteArray) (w : World) (hz : s.size ≤ 1048576) : Calls Try.prog 11 #[.string s] w fun e w' => e = .returned (.tuple #[.string (opT s), .bool (opB s)]) ∧ Ext w w' := by
  by_cases h4 : 4 ≤ s.size
  · cases hf : fits s
    · have hb : opB s = false := by simp [opB, hf]
      unfold opT; rw [hb, if_neg (by simp)]; exact open_no s w hz h4 hf
    · have hb : opB s = true := by simp [opB, hf, h4]
      unfold opT; rw [hb, if_pos rfl]; exact open_yes s w hz h4 hf
  · have hb : opB s = false := by simp [opB, h4]
    unfold opT; rw [hb, if_neg (by simp)]; exact open_short s w hz (by omega)
theorem toList_extract (s : ByteArray) (a b : Nat) : (s.extract a b).toList = (s.data.toList.take b).drop a := by
  rw [ByteArray.toList_eq]; simp [ByteArray.data_extract, List.drop_take]
theorem fits_eq (s : ByteArray) (_h4 : 4 ≤ s.size) : ((s.extract 0 (s.size - 4) ++ be4 (refOf (s.extract 0 (s.size - 4)))).toList == s.toList) = fits s := by
  rw [ref_eq_sum]
  unfold fits
  rw [ByteArray.toList_eq, ByteArray.toList_eq s, ByteArray.data_append, Array.toList_append, ← ByteArray.toList_eq, ← ByteArray.toList_eq, toList_extract, toList_extract]
  have hl : s.data.toList.length = s.size := rfl
  rw [List.drop_zero, List.take_of_length_le (i := s.size) (by omega)]
  have hsp : s.data.toList = s.data.toList.take (s.size - 4) ++ s.data.toList.drop (s.size - 4) := (List.take_append_drop _ _).symm
  generalize s.data.toList.take (s.size - 4) = X at *
  generalize s.data.toList.drop (s.size - 4) = Y at *
  rw [hsp, Bool.eq_iff_iff, beq_iff_eq, beq_iff_eq]
  exact ⟨fun h => List.append_cancel_left h, fun h => by rw [h]⟩
theorem ropen_all (s : ByteArray) (w : World) (hz : s.size ≤ 1048576) : Calls Try.prog 12 #[.string s] w fun e w' => e = .returned (.tuple #[.string (opT s), .bool (opB s)]) ∧ Ext w w' := by
  by_cases h4 : 4 ≤ s.size
  · cases hf : fits s
    · have hb : opB s = false := by simp [opB, hf]
      unfold opT; rw [hb, if_neg (by simp)]; exact ropen_no s w hz h4 ((fits_eq s h4).trans hf)
    · have hb : opB s = true := by simp [opB, hf, h4]
      unfold opT; rw [hb, if_pos rfl]; exact ropen_yes s w hz h4 ((fits_eq s h4).trans hf)
  · have hb : opB s = false := by simp [opB, h4]
    unfold opT; rw [hb, if_neg (by simp)]; exact ropen_short s w (by omega)
def sealT (s : ByteArray) : ByteArray := s ++ be4 (sumOf [s])
theorem seal_all (s : ByteArray) (w : World) (hz : s.size ≤ 1048576) : Calls Try.prog 13 #[.string s] w fun e w' => e = .returned (.string (sealT s)) ∧ Ext w w' := seal_any s w hz
theorem rseal_all (s : ByteArray) (w : World) (hz : s.size ≤ 1048576) : Calls Try.prog 14 #[.string s] w fun e w' => e = .returned (.string (sealT s)) ∧ Ext w w' := by
  have h := rseal_any s w hz
  rw [ref_eq_sum] at h
  exact h
theorem rof_all (s : ByteArray) (w : World) (hz : s.size ≤ 1048576) : Calls Try.prog 8 #[.string s] w fun e w' => e = .returned (.int .u32 (sumOf [s])) ∧ Ext w w' := by
  have h := rof_any s w hz
  rw [ref_eq_sum] at h
  exact h
set_option maxRecDepth 100000 in
theorem sumOpens_walk (s t : ByteArray) (w : World) (_ : s.size ≤ maxLen) (_ : t.size ≤ maxLen) : Calls Try.prog 4 #[.string s, .string t] w fun e w' => e = .returned (.bool true) ∧ Ext w w' := by
  by_cases h1 : s.size > 2048
  · go_enter Try.func4, Try.ntmps4
    go_wp2_with (go_at_call 6; refine (alive_any _).mono ?_; rintro e w1 ⟨rfl, hB1⟩)
    go_ret
    exact ⟨rfl, hB1⟩
  by_cases h2 : t.size > 2048
  · go_enter Try.func4, Try.ntmps4
    go_wp2_with (go_at_call 6; refine (alive_any _).mono ?_; rintro e w1 ⟨rfl, hB1⟩)
    go_ret
    exact ⟨rfl, hB1⟩
  go_enter Try.func4, Try.ntmps4
  go_wp2_with (first
    | (go_at_call 11; refine (open_all t _ (by omega)).mono ?_; rintro e w1 ⟨rfl, hB1⟩)
    | (go_at_call 12; refine (ropen_all t _ (by omega)).mono ?_; rintro e w2 ⟨rfl, hB2⟩)
    | (go_at_call 13; refine (seal_all s _ (by omega)).mono ?_; rintro e w3 ⟨rfl, hB3⟩)
    | (go_at_call 14; refine (rseal_all s _ (by omega)).mono ?_; rintro e w4 ⟨rfl, hB4⟩)
    | (go_at_call 6; refine (alive_any _).mono ?_; rintro e w5 ⟨rfl, hB5⟩))
  go_ret
  exact ⟨rfl, (((hB1.trans hB2).trans hB3).trans hB4).trans hB5⟩
