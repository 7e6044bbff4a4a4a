import Derived.Test.YtbpicdjpgbboiaaW24
import Derived.Sort.Walk0
namespace Go.Proofs.Ytbpicdjpgbboiaa
open Go.RowKit Go.Nb
/-- What cmp.Compare says of two texts. -/
def cmpV (a b : Bs) : Int := if Op.bytesLess a b = true then -1 else if a = b then 0 else 1
theorem isNaN_any (a : Bs) (w : World) : Calls Try.prog 51 #[.string (Bt a)] w fun e w' => e = .returned (.bool false) ∧ Ext w w' := by
  have hT := toList_Bt
  go_enter Try.func51, Try.ntmps51
  go_wp2
  go_ret
  exact ⟨by simp, Ext.refl w⟩
set_option maxRecDepth 100000 in
theorem compare_any (a b : Bs) (w : World) : Calls Try.prog 37 #[.string (Bt a), .string (Bt b)] w fun e w' => e = .returned (.int .i64 (cmpV a b)) ∧ Ext w w' := by
  have hT := toList_Bt
  have HA := Lib.hid (isNaN_any a)
  have HB := Lib.hid (isNaN_any b)
  cases hlt : Op.bytesLess a b
  · by_cases he : a = b
    · have hv : cmpV a b = 0 := by unfold cmpV; rw [hlt, if_neg (by simp), if_pos he]
      rw [hv]
      have t1 : (a == b) = true := by simpa using he
      clear hv he
      go_enter Try.func37, Try.ntmps37
      go_wp2_with (first
        | (go_at_call 51; (with_reducible refine (HA.out _).mono ?_); rintro e w1 ⟨rfl, hE⟩)
        | (go_at_call 51; (with_reducible refine (HB.out _).mono ?_); rintro e w2 ⟨rfl, hE2⟩))
      go_ret
      exact ⟨rfl, hE.trans hE2⟩
    · have hv : cmpV a b = 1 := by unfold cmpV; rw [hlt, if_neg (by simp), if_neg he]
      rw [hv]
      have t1 : (a == b) = false := by simpa using he
      clear hv he
      go_enter Try.func37, Try.ntmps37
      go_wp2_with (first
        | (go_at_call 51; (with_reducible refine (HA.out _).mono ?_); rintro e w1 ⟨rfl, hE⟩)
        | (go_at_call 51; (with_reducible refine (HB.out _).mono ?_); rintro e w2 ⟨rfl, hE2⟩))
      go_ret
      exact ⟨rfl, hE.trans hE2⟩
  · have hv : cmpV a b = -1 := by unfold cmpV; rw [hlt, if_pos rfl]
    rw [hv]
    clear hv
    go_enter Try.func37, Try.ntmps37
    go_wp2_with (first
      | (go_at_call 51; (with_reducible refine (HA.out _).mono ?_); rintro e w1 ⟨rfl, hE⟩)
      | (go_at_call 51; (with_reducible refine (HB.out _).mono ?_); rintro e w2 ⟨rfl, hE2⟩))
    go_ret
    exact ⟨rfl, hE.trans hE2⟩
theorem e36f : Enters Try.prog 36 := enters_of Try.func36 (by kernel_rfl) rfl
set_option maxRecDepth 100000 in
theorem seek1_any (p : Pr) (key : Bs) (w : World) : Calls Try.prog 36 #[p.val, .string (Bt key)] w fun e w' => e = .returned (.int .i64 (cmpV p.k key)) ∧ Ext w w' := by
  obtain ⟨k, v⟩ := p
  have hP : Pr.val ⟨k, v⟩ = .agg #[.string (Bt k), .string (Bt v)] := rfl
  rw [hP]
  have HC := Lib.hid (compare_any k key)
  clear hP
  go_enter Try.func36, Try.ntmps36
  go_wp2_with (go_at_call 37; (with_reducible refine (HC.out _).mono ?_); rintro e w1 ⟨rfl, hE⟩)
  go_ret
  exact ⟨rfl, ((Ext.refl w).alloc _).trans hE⟩
