import Derived.Test.YtpengejnjmicnaaU10
import Derived.Test.YtpengejnjmicnaaY0
namespace Go.Proofs.Ytpengejnjmicnaa
open Go.RowKit Go.Nb
set_option maxRecDepth 100000 in
theorem tableBuilds_full (A : Option Addr) (n c : Nat) (l : List Pr) (a : Int) (W : World) (rd : PRd W A n l) (mm : n ≤ maxLen) (zz : PrOk n c l ∧ ∀ x ∈ l, x.k.length ≤ 2 ^ 47 ∧ x.v.length ≤ 2 ^ 47) (_ : (Lit.int .i64 a).wf = true) : Calls Try.prog 3 #[.slice A n c, .int .i64 a] W fun e w' => e = .returned (.bool true) ∧ Ext W w' := by
  obtain ⟨ok, bu⟩ := zz
  have HWK := Lib.hid (fun w => works_any w)
  have HV := Lib.hid (heavy_any (c := c) rd mm)
  cases hh : heavyT l
  · have hli := light_of2 hh bu
    rw [hh] at HV
    have hln : l.length = n := rd.1
    have hn : n ≤ 400 := by have := hli.len; omega
    obtain ⟨X, e, hX⟩ := bldR_tup a l
    have HO := Lib.hid (fun w (hE : Ext W w) => own_any (c := c) (rd.ext hE) (by omega))
    have HB : Hid (∀ w A' c', PRd w A' n l → n ≤ c' → Calls Try.prog 11 #[.slice A' n c', .int .i64 a] w fun e' w' => e' = .returned (.tuple #[.string (Bt X), .int .i64 e]) ∧ Ext w w') := Lib.hid (fun w A' c' h hc => by
      have := build_all h (by omega) hc a hli.small (by have := hli.txt a; omega)
      rw [hX] at this
      exact this)
    have HR : Hid (∀ w, Ext W w → Calls Try.prog 13 #[.slice A n c, .int .i64 a] w fun e' w' => e' = .returned (.tuple #[.string (Bt X), .int .i64 e]) ∧ Ext w w') := Lib.hid (fun w hE => by
      have := build_ref (c := c) (rd.ext hE) (by omega) a hli.small (by have := hli.txt a; omega)
      rw [hX] at this
      exact this)
    have hTB := toList_Bt
    clear hh ok bu hX hli hln hn rd mm
    go_enter Try.func3, Try.ntmps3
    go_wp2_with (first
      | (go_at_call 9; (with_reducible refine HV.out.mono ?_); rintro e w1 ⟨rfl, hE1⟩)
      | (go_at_call 12; (with_reducible refine (HO.out _ hE1).mono ?_); rintro e w2 ⟨A2, c2, rfl, hc2, hP2, hE2⟩)
      | (go_at_call 11; (with_reducible refine (HB.out _ _ _ hP2 hc2).mono ?_); rintro e w3 ⟨rfl, hE3⟩; have hO3 := (hE1.trans hE2).trans hE3)
      | (go_at_call 13; (with_reducible refine (HR.out _ hO3).mono ?_); rintro e w4 ⟨rfl, hE4⟩)
      | (go_at_call 10; (with_reducible refine (HWK.out _).mono ?_); rintro e w5 ⟨rfl, hE5⟩))
    go_ret
    exact ⟨rfl, (hO3.trans hE4).trans hE5⟩
  · rw [hh] at HV
    clear hh ok bu rd mm
    go_enter Try.func3, Try.ntmps3
    go_wp2_with (first
      | (go_at_call 9; (with_reducible refine HV.out.mono ?_); rintro e w1 ⟨rfl, hE1⟩)
      | (go_at_call 10; (with_reducible refine (HWK.out _).mono ?_); rintro e w5 ⟨rfl, hE5⟩))
    go_ret
    exact ⟨rfl, hE1.trans hE5⟩
