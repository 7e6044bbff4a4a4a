import Derived.Test.YtjmbimmikfnaoaaS8
namespace Go.Proofs.Ytjmbimmikfnaoaa
open Go.RowKit
theorem c_seal : (({ data := #[49, 50, 51, 52, 53, 54, 55, 56, 57] } : ByteArray) ++ be4 (sumOf [{ data := #[49, 50, 51, 52, 53, 54, 55, 56, 57] }])) = { data := #[49, 50, 51, 52, 53, 54, 55, 56, 57, 203, 244, 57, 38] } := by decide +kernel
theorem c_open1 : fits { data := #[49, 50, 51, 52, 53, 54, 55, 56, 57, 203, 244, 57, 38] } = true := by decide +kernel
theorem c_open2 : (ByteArray.extract { data := #[49, 50, 51, 52, 53, 54, 55, 56, 57, 203, 244, 57, 38] } 0 (13 - 4)) = { data := #[49, 50, 51, 52, 53, 54, 55, 56, 57] } := by decide +kernel
theorem c_of0 : sumOf [] = 0 := by decide +kernel
theorem c_of3 : sumOf [{ data := #[49, 50, 51, 52] }, { data := #[] }, { data := #[53, 54, 55, 56, 57] }] = 3421780262 := by decide +kernel
theorem c_b1 : be4 1 = { data := #[0, 0, 0, 1] } := by decide +kernel
theorem seal9 (w : World) : Calls Try.prog 13 #[.string { data := #[49, 50, 51, 52, 53, 54, 55, 56, 57] }] w fun e w' => e = .returned (.string { data := #[49, 50, 51, 52, 53, 54, 55, 56, 57, 203, 244, 57, 38] }) ∧ Ext w w' := by
  have h := seal_any { data := #[49, 50, 51, 52, 53, 54, 55, 56, 57] } w (by decide)
  rw [c_seal] at h
  exact h
theorem open13 (w : World) : Calls Try.prog 11 #[.string { data := #[49, 50, 51, 52, 53, 54, 55, 56, 57, 203, 244, 57, 38] }] w fun e w' => e = .returned (.tuple #[.string { data := #[49, 50, 51, 52, 53, 54, 55, 56, 57] }, .bool true]) ∧ Ext w w' := by
  have h := open_yes { data := #[49, 50, 51, 52, 53, 54, 55, 56, 57, 203, 244, 57, 38] } w (by decide) (by decide) c_open1
  rw [show (ByteArray.size { data := #[49, 50, 51, 52, 53, 54, 55, 56, 57, 203, 244, 57, 38] }) = 13 from rfl, c_open2] at h
  exact h
theorem open3 (w : World) : Calls Try.prog 11 #[.string { data := #[97, 98, 99] }] w fun e w' => e = .returned (.tuple #[.string ByteArray.empty, .bool false]) ∧ Ext w w' :=
  open_short { data := #[97, 98, 99] } w (by decide) (by decide)
theorem of0 (w : World) : Calls Try.prog 7 #[.slice none 0 0] w fun e w' => e = .returned (.int .u32 0) ∧ Ext w w' := by
  have h := of_sum none 0 0 [] w (Rd.nil _ _) (by omega) (by simp)
  rw [c_of0] at h
  exact h
theorem of3 (W : World) (g : Nat) (h0 : W.cell? ⟨g, 0, none⟩ = some (.string { data := #[49, 50, 51, 52] })) (h1 : W.cell? ⟨g, 1, none⟩ = some (.string { data := #[] })) (h2 : W.cell? ⟨g, 2, none⟩ = some (.string { data := #[53, 54, 55, 56, 57] })) :
    Calls Try.prog 7 #[.slice (some ⟨g, 0, none⟩) 3 3] W fun e w' => e = .returned (.int .u32 3421780262) ∧ Ext W w' := by
  have h := of_sum (some ⟨g, 0, none⟩) 3 3 [{ data := #[49, 50, 51, 52] }, { data := #[] }, { data := #[53, 54, 55, 56, 57] }] W
    ⟨rfl, fun _ => ⟨g, 0, rfl, fun i v h => by
      match i, h with
      | 0, h => simp at h; subst h; exact h0
      | 1, h => simp at h; subst h; exact h1
      | 2, h => simp at h; subst h; exact h2⟩⟩ (by omega) (by decide)
  rw [c_of3] at h
  exact h
theorem bytes1 (w : World) : Calls Try.prog 9 #[.int .u32 1] w fun e w' => e = .returned (.string { data := #[0, 0, 0, 1] }) ∧ Ext w w' := by
  have h := bytes_any 1 w (by omega) (by omega)
  rw [c_b1] at h
  exact h
set_option maxRecDepth 100000 in
theorem alive_any (w : World) : Calls Try.prog 6 #[] w fun e w' => e = .returned (.bool true) ∧ Ext w w' := by
  go_enter Try.func6, Try.ntmps6
  go_wp2_with (go_at_call 13; refine (seal9 _).mono ?_; rintro e w1 ⟨rfl, hB1⟩)
  refine (open13 _).mono ?_; rintro e w2 ⟨rfl, hB2⟩
  go_wp2_with fail
  refine (open3 _).mono ?_; rintro e w3 ⟨rfl, hB3⟩
  go_wp2_with fail
  refine (of0 _).mono ?_; rintro e w4 ⟨rfl, hB4⟩
  go_wp2_with fail
  go_show
  refine (of3 _ _ ?_ ?_ ?_).mono ?_
  · simp [go_sem]
  · simp [go_sem]
  · simp [go_sem]
  rintro e w5 ⟨rfl, hB5⟩
  go_wp2_with fail
  refine (bytes1 _).mono ?_; rintro e w6 ⟨rfl, hB6⟩
  go_wp2
  go_ret
  exact ⟨rfl, ((((hB1.trans hB2).trans hB3).trans hB4).alloc _).trans (hB5.trans hB6)⟩
