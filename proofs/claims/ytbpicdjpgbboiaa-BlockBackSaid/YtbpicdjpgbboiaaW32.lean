import Derived.Test.YtbpicdjpgbboiaaW31
namespace Go.Proofs.Ytbpicdjpgbboiaa
open Go.RowKit Go.Nb
/-- The two pairs of works. -/
def L2 : List Pr := [⟨[97, 98], [49]⟩, ⟨[97, 98, 99], []⟩]
def S2 : Bs := [0, 1, 2, 97, 98, 1, 1, 49, 1, 2, 1, 1, 99, 0]
theorem L2_may : mayB L2 = true := by decide
theorem L2_enc : encL [] L2 = S2 := by decide
theorem S2_no : ∀ l, mayB l = true → encL [] l ≠ S2 ++ [0] := by
  intro l hl he
  obtain ⟨l2, e1, e2⟩ := enc_pre L2 l [] [0] (by decide) (bad_of_may hl) (by rw [L2_enc]; exact he.symm)
  have hT : Tail (S2 ++ [0]) L2 (lastK [] L2) [0] := fun m hm h2 => by
    obtain ⟨l3, e3, e4⟩ := enc_pre L2 m [] [0] (by decide) (bad_of_may hm) (by rw [L2_enc]; exact h2.symm)
    exact ⟨l3, e3, e4⟩
  exact tail_fail hT (by simp) (.inl (by decide)) l hl he
theorem prd_new2 (w : World) : PRd (w.alloc (.cells #[.string ⟨#[97, 98]⟩, .string ⟨#[49]⟩, .string ⟨#[97, 98, 99]⟩, .string ⟨#[]⟩] 36)) (some ⟨w.heap.size, 0, none⟩) 2 L2 := by
  refine ⟨rfl, fun _ => ⟨w.heap.size, 0, rfl, fun i j hi hj => ?_⟩⟩
  have hb := Blk.new w 36 #[.string ⟨#[97, 98]⟩, .string ⟨#[49]⟩, .string ⟨#[97, 98, 99]⟩, .string ⟨#[]⟩]
  rw [hb.cell]
  rcases (by omega : i = 0 ∨ i = 1) with rfl | rfl <;> rcases (by omega : j = 0 ∨ j = 1) with rfl | rfl <;> rfl
set_option maxRecDepth 100000 in
theorem works_any (w : World) : Calls Try.prog 8 #[] w fun e w' => e = .returned (.bool true) ∧ Ext w w' := by
  have hp := prd_new2 w
  have hX := (Ext.refl w).alloc (.cells #[.string ⟨#[97, 98]⟩, .string ⟨#[49]⟩, .string ⟨#[97, 98, 99]⟩, .string ⟨#[]⟩] 36)
  have HE : Hid (Calls Try.prog 9 #[.slice (some ⟨w.heap.size, 0, none⟩) 2 2] (w.alloc (.cells #[.string ⟨#[97, 98]⟩, .string ⟨#[49]⟩, .string ⟨#[97, 98, 99]⟩, .string ⟨#[]⟩] 36)) fun e w2 => e = .returned (.tuple #[.string ⟨#[0, 1, 2, 97, 98, 1, 1, 49, 1, 2, 1, 1, 99, 0]⟩, .int .i64 0]) ∧ Ext (w.alloc (.cells #[.string ⟨#[97, 98]⟩, .string ⟨#[49]⟩, .string ⟨#[97, 98, 99]⟩, .string ⟨#[]⟩] 36)) w2) := Lib.hid (by
    have h := encode_any (c := 2) hp (by omega) (by omega) (fun hm => fits_of hm (by decide))
    rw [if_pos L2_may, L2_enc] at h
    exact h)
  have HD : Hid (∀ w', Calls Try.prog 11 #[.string ⟨#[0, 1, 2, 97, 98, 1, 1, 49, 1, 2, 1, 1, 99, 0]⟩] w' fun e w2 => ∃ A c, e = .returned (.tuple #[.slice A 2 c, .int .i64 0]) ∧ 2 ≤ c ∧ PRd w2 A 2 L2 ∧ Ext w' w2) := Lib.hid (fun w' => decode_yes (S := S2) L2_may L2_enc (by decide) w')
  have HN : Hid (∀ w', Calls Try.prog 11 #[.string ⟨#[0, 1, 2, 97, 98, 1, 1, 49, 1, 2, 1, 1, 99, 0, 0]⟩] w' fun e w2 => e = .returned (.tuple #[.slice none 0 0, .int .i64 8]) ∧ Ext w' w2) := Lib.hid (fun w' => decode_no (S := S2 ++ [0]) S2_no (by decide) w')
  have HS : Hid (∀ w' A c, PRd w' A 2 L2 → Calls Try.prog 19 #[.slice A 2 c, .string ⟨#[97, 98, 98]⟩] w' fun e w2 => e = .returned (.int .i64 1) ∧ Ext w' w2) := Lib.hid (fun w' A c h => seek_any (c := c) h (by omega) (may_up L2_may) [97, 98, 98])
  have HZ : Hid (∀ w', Calls Try.prog 16 #[.string ⟨#[97, 98]⟩, .agg #[.string ⟨#[97, 98, 99]⟩, .string ⟨#[]⟩]] w' fun e w2 => e = .returned (.int .i64 6) ∧ Ext w' w2) := Lib.hid (fun w' => size_any [97, 98] ⟨[97, 98, 99], []⟩ (by decide) (by decide) (by decide) w')
  have hadd : ∀ w, (Op.stringOp .add ⟨#[0, 1, 2, 97, 98, 1, 1, 49, 1, 2, 1, 1, 99, 0]⟩ ⟨#[0]⟩).run Try.prog w = .ok (.string ⟨#[0, 1, 2, 97, 98, 1, 1, 49, 1, 2, 1, 1, 99, 0, 0]⟩) w := fun w => add_Bt S2 [0] (by decide) w
  clear hp
  have HX := Lib.hid hX
  go_enter Try.func8, Try.ntmps8
  go_wp2_with (first
    | (go_at_call 9; (with_reducible refine HE.out.mono ?_); rintro e w1 ⟨rfl, hE1⟩)
    | (go_at_call 11; (with_reducible refine (HD.out _).mono ?_); rintro e w2 ⟨A, c, rfl, hc, hP2, hE2⟩)
    | (go_at_call 11; (with_reducible refine (HN.out _).mono ?_); rintro e w3 ⟨rfl, hE3⟩; have hP3 := hP2.ext hE3; obtain ⟨g3, o3, rfl, c0', c1'⟩ := hP3.at_ 1 (by omega); have c0 : w3.cell? ⟨g3, o3 + 1 * 2, none⟩ = some (.string ⟨#[97, 98, 99]⟩) := c0'; have c1 : w3.cell? ⟨g3, o3 + 1 * 2 + 1, none⟩ = some (.string ⟨#[]⟩) := c1'; clear c0' c1')
    | (go_at_call 19; (with_reducible refine (HS.out _ _ _ hP3).mono ?_); rintro e w4 ⟨rfl, hE4⟩; have d0 := hE4.cellv c0; have d1 := hE4.cellv c1)
    | (go_at_call 16; (with_reducible refine (HZ.out _).mono ?_); rintro e w5 ⟨rfl, hE5⟩))
  go_ret
  exact ⟨rfl, ((((HX.out.trans hE1).trans hE2).trans hE3).trans hE4).trans hE5⟩
