import Derived.Test.YtpcbllmmbbmkfaaW9
namespace Go.Proofs.Ytpcbllmmbbmkfaa
open Go.RowKit Go.Nb
/-- What End answers. -/
def endE (l : Bs) (e : Int) : Int := if e ≠ 0 then e else if l = [] then 0 else 8
theorem toList_Bt (a : Bs) : (Bt a).toList = a := by rw [toList_Ls]; rfl
theorem e77 : Enters Try.prog 58 := enters_of Try.func58 (by kernel_rfl) rfl
theorem end1_any (l : Bs) (w : World) : Calls Try.prog 58 #[.string (Bt l)] w fun e w' => e = .returned (.tuple #[.int .i64 0, .int .i64 (if l = [] then 0 else 8)]) ∧ Ext w w' := by
  have hTB := toList_Bt
  by_cases h : l = []
  · subst h
    rw [if_pos rfl]
    go_enter Try.func58, Try.ntmps58
    go_wp2
    go_ret2
    exact ⟨rfl, Ext.refl w⟩
  · rw [if_neg h]
    have t1 : (l == []) = false := by simpa using h
    go_enter Try.func58, Try.ntmps58
    go_wp2
    go_ret2
    exact ⟨rfl, Ext.refl w⟩
theorem end_any {w : World} {g : Nat} {l : Bs} {e : Int} (h : RdrAt w g l e) : Calls Try.prog 43 #[.pointer (some ⟨g, 0, none⟩)] w fun x w' => x = .returned (.int .i64 (endE l e)) ∧ Turn (· = g) w w' := by
  by_cases he : e = 0
  · subst he
    have hT : ∀ w', RdrAt w' g l 0 → Calls Try.prog 54 #[.pointer (some ⟨g, 0, none⟩), .func (.func 58) #[] #[]] w' (TakePost (fun n k w2 => n = 0 ∧ k = (if l = [] then 0 else 8) ∧ Ext w' w2) g l) := fun w' h' => by
      refine take_any _ h' 58 #[] e77 (fun w3 hE3 => ?_)
      refine (end1_any l w3).mono ?_
      rintro e w4 ⟨rfl, hE4⟩
      exact ⟨0, _, rfl, h'.ext (hE3.trans hE4), Nat.zero_le _, rfl, rfl, hE3.trans hE4⟩
    have HT := Lib.hid (hT w h)
    have hv : endE l 0 = (if l = [] then 0 else 8) := by unfold endE; simp
    rw [hv]
    obtain ⟨k, hk⟩ : ∃ k : Int, k = (if l = [] then 0 else 8) := ⟨_, rfl⟩
    rw [← hk] at HT ⊢
    clear hT hv
    have HK := Lib.hid hk
    clear hk
    go_enter Try.func43, Try.ntmps43
    go_wp2_with (first
      | (go_at_call 54; (with_reducible refine HT.out.mono ?_); rintro e w2 ⟨n, k2, w1, ⟨rfl, rfl, hE1⟩, rfl, hR2, hO2⟩; have HR2 := Lib.hid hR2; have HTU := Lib.hid ((Turn.of hE1).trans (Turn.only (H := (· = g)) rfl hO2)); clear hR2 hO2 hE1)
      | (go_at_call 41; (with_reducible refine (err_any HR2.out).mono ?_); rintro e w3 ⟨rfl, hE3⟩))
    go_ret
    exact ⟨rfl, HTU.out.trans (Turn.of hE3)⟩
  · have HT := Lib.hid (take_err h he (.func (.func 58) #[] #[]))
    have hv : endE l e = e := by unfold endE; rw [if_pos he]
    rw [hv]
    have HR := Lib.hid h
    clear hv
    go_enter Try.func43, Try.ntmps43
    go_wp2_with (first
      | (go_at_call 54; (with_reducible refine HT.out.mono ?_); rintro e1 w2 ⟨rfl, hE2⟩)
      | (go_at_call 41; (with_reducible refine (err_any (HR.out.ext hE2)).mono ?_); rintro e1 w3 ⟨rfl, hE3⟩))
    go_ret
    exact ⟨rfl, Turn.of (hE2.trans hE3)⟩
end Go.Proofs.Ytpcbllmmbbmkfaa
