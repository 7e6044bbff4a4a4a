import Derived.Test.YtpengejnjmicnaaU9
namespace Go.Proofs.Ytpengejnjmicnaa
open Go.RowKit Go.Nb
theorem collect_nil {W : World} {lb : Array Value} (h : SeqOf W lb []) : Calls Try.prog 19 #[.func (.func 43) #[] lb, .int .i64 5] W fun e w' => ∃ A c, e = .returned (.slice A 0 c) ∧ Ext W w' :=
  (collect_t h (most := 5) (by omega) (by omega)).mono (by
    rintro e w' ⟨A, c, h1, _, h2⟩
    exact ⟨A, c, h1, h2⟩)
set_option maxRecDepth 100000 in
theorem tableNone_walk (key : ByteArray) (W : World) (_ : key.size ≤ maxLen) : Calls Try.prog 7 #[.string key] W fun e w' => e = .returned (.bool true) ∧ Ext W w' := by
  have HWK := Lib.hid (fun w => works_any w)
  by_cases hk : 2048 < key.size
  · have t1 : decide ((2048 : Int) < (key.size : Int)) = true := by simp; omega
    go_enter Try.func7, Try.ntmps7
    go_wp2_with (go_at_call 10; (with_reducible refine (HWK.out _).mono ?_); rintro e w1 ⟨rfl, hE1⟩)
    go_ret
    exact ⟨rfl, hE1⟩
  · have t1 : decide ((2048 : Int) < (key.size : Int)) = false := by simp; omega
    have hkk : Bt (Ls key) = key := Bt_Ls key
    have HG : Hid (∀ w, Calls Try.prog 21 #[.pointer none, .string key] w fun e w' => e = .returned (.tuple #[.string ⟨#[]⟩, .bool false]) ∧ Ext w w') := Lib.hid (fun w => get_nil w (Ls key))
    have HF := Lib.hid (fun w => from_nil w (Ls key))
    rw [hkk] at HF
    have HE : Hid (∀ w, Calls Try.prog 22 #[.pointer none] w fun e w' => e = .returned (.tuple #[.string ⟨#[]⟩, .string ⟨#[]⟩]) ∧ Ext w w') := Lib.hid (fun w => ends_nil w)
    have HL := Lib.hid (fun w => tlen_nil w)
    have HB := Lib.hid (fun w => tblocks_nil w)
    have HC := Lib.hid (fun w lb (h : SeqOf w lb []) => collect_nil h)
    have he : ((⟨#[]⟩ : ByteArray) ++ (⟨#[]⟩ : ByteArray)) = (⟨#[]⟩ : ByteArray) := rfl
    clear hk hkk
    go_enter Try.func7, Try.ntmps7
    go_wp2_with (first
      | (go_at_call 21; (with_reducible refine (HG.out _).mono ?_); rintro e w1 ⟨rfl, hE1⟩)
      | (go_at_call 22; (with_reducible refine (HE.out _).mono ?_); rintro e w2 ⟨rfl, hE2⟩; have hO2 := hE1.trans hE2)
      | (go_at_call 23; (with_reducible refine (HL.out _).mono ?_); rintro e w3 ⟨rfl, hE3⟩)
      | (go_at_call 17; (with_reducible refine (HB.out _).mono ?_); rintro e w4 ⟨rfl, hE4⟩; have hO4 := (hO2.trans hE3).trans hE4)
      | (go_at_call 20; (with_reducible refine (HF.out _).mono ?_); rintro e w5 ⟨lb, rfl, hS, hE5⟩)
      | (go_at_call 19; (with_reducible refine (HC.out _ _ hS).mono ?_); rintro e w6 ⟨A6, c6, rfl, hE6⟩; have hO6 := (hO4.trans hE5).trans hE6)
      | (go_at_call 10; (with_reducible refine (HWK.out _).mono ?_); rintro e w9 ⟨rfl, hE9⟩))
    go_ret
    exact ⟨rfl, hO6.trans hE9⟩
