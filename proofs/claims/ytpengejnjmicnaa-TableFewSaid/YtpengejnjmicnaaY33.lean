import Derived.Test.YtpengejnjmicnaaU10
import Derived.Test.YtpengejnjmicnaaY0
namespace Go.Proofs.Ytpengejnjmicnaa
open Go.RowKit Go.Nb
set_option maxRecDepth 100000 in
theorem tableFew_full (A : Option Addr) (n c : Nat) (l : List Pr) (W : World) (rd : PRd W A n l) (mm : n ≤ maxLen) (zz : PrOk n c l ∧ ∀ x ∈ l, x.k.length ≤ 2 ^ 47 ∧ x.v.length ≤ 2 ^ 47) : Calls Try.prog 8 #[.slice A n c] W fun e w' => e = .returned (.bool true) ∧ Ext W w' := by
  obtain ⟨ok, bu⟩ := zz
  have HWK := Lib.hid (fun w => works_any w)
  have HV := Lib.hid (heavy_any (c := c) rd mm)
  cases hh : heavyT l
  · have hli := light_of2 hh bu
    rw [hh] at HV
    have hln : l.length = n := rd.1
    have hn : n ≤ 400 := by have := hli.len; omega
    have HO := Lib.hid (fun w (hE : Ext W w) => own_any (c := c) (rd.ext hE) (by omega))
    have HB := fun most => Lib.hid (fun w A' c' (h : PRd w A' n l) (hc : n ≤ c') => build_all h (by omega) hc most hli.small (by have := hli.txt most; omega))
    rcases good_cases l with hg | ⟨hl, hg⟩
    · have HB1 := HB 131072
      have HB2 := HB 1
      rw [bldR_no hg] at HB1 HB2
      clear hh ok bu hli hln hn rd mm HB hg
      go_enter Try.func8, Try.ntmps8
      go_wp2_with (first
        | (go_at_call 9; (with_reducible refine HV.out.mono ?_); rintro e w1 ⟨rfl, hE1⟩)
        | (go_at_call 12; (with_reducible refine (HO.out _ hE1).mono ?_); rintro e w2 ⟨A2, c2, rfl, hc2, hP2, hE2⟩)
        | (go_at_call 11; (with_reducible refine (HB1.out _ _ _ hP2 hc2).mono ?_); rintro e w3 ⟨rfl, hE3⟩; replace hE1 := (hE1.trans hE2).trans hE3)
        | (go_at_call 11; (with_reducible refine (HB2.out _ _ _ hP2 hc2).mono ?_); rintro e w4 ⟨rfl, hE3⟩; replace hE1 := (hE1.trans hE2).trans hE3)
        | (go_at_call 10; (with_reducible refine (HWK.out _).mono ?_); rintro e w5 ⟨rfl, hE5⟩))
      go_ret
      exact ⟨rfl, hE1.trans hE5⟩
    · have HB1 := HB 131072
      have HB2 := HB 1
      obtain ⟨b1, t1⟩ := bldR_yes (most := 131072) (by omega) (by omega) hl hg
      obtain ⟨b2, t2⟩ := bldR_yes (most := 1) (by omega) (by omega) hl hg
      rw [b1] at HB1
      rw [b2] at HB2
      have z1 := hli.txt 131072
      have z2 := hli.txt 1
      have HO1 := Lib.hid (fun w => tbl_of t1 (by omega) w)
      have HO2 := Lib.hid (fun w => tbl_of t2 (by omega) w)
      have hk1 : (blkL 131072 l).length = 1 := by
        rw [blkL_big (by have := encL_sum l []; have := hli.sum; have := hli.len; omega) (by have := hli.len; omega)]; rfl
      have hk2 : (blkL 1 l).length = n := by rw [blkL_one l hl, List.length_map, hln]
      have HK1 := Lib.hid (fun W gt (h : Tbl W gt (blkL 131072 l)) => tblocks_any h)
      have HK2 := Lib.hid (fun W gt (h : Tbl W gt (blkL 1 l)) => tblocks_any h)
      have HL1 := Lib.hid (fun W gt (h : Tbl W gt (blkL 131072 l)) => tlen_any h)
      have HL2 := Lib.hid (fun W gt (h : Tbl W gt (blkL 1 l)) => tlen_any h)
      rw [hk1] at HK1
      rw [hk2] at HK2
      rw [blkL_flat, hln] at HL1 HL2
      generalize hX1 : Bt (txt (blkL 131072 l)) = X1 at *
      generalize hX2 : Bt (txt (blkL 1 l)) = X2 at *
      clear hh ok bu hli hln hn rd mm HB hg hl b1 b2 t1 t2 z1 z2 hk1 hk2 hX1 hX2
      go_enter Try.func8, Try.ntmps8
      go_wp2_with (first
        | (go_at_call 9; (with_reducible refine HV.out.mono ?_); rintro e w1 ⟨rfl, hE1⟩)
        | (go_at_call 12; (with_reducible refine (HO.out _ hE1).mono ?_); rintro e w2 ⟨A2, c2, rfl, hc2, hP2, hE2⟩)
        | (go_at_call 11; (with_reducible refine (HB1.out _ _ _ hP2 hc2).mono ?_); rintro e w3 ⟨rfl, hE3⟩; replace hE1 := (hE1.trans hE2).trans hE3)
        | (go_at_call 11; (with_reducible refine (HB2.out _ _ _ hP2 hc2).mono ?_); rintro e w4 ⟨rfl, hE3⟩; replace hE1 := (hE1.trans hE2).trans hE3)
        | (go_at_call 14; (with_reducible refine (HO1.out _).mono ?_); rintro e w6 ⟨g1, rfl, hT1, hE3⟩; replace hE1 := hE1.trans hE3)
        | (go_at_call 14; (with_reducible refine (HO2.out _).mono ?_); rintro e w7 ⟨g2, rfl, hT2, hE3⟩; replace hE1 := hE1.trans hE3; replace hT1 := hT1.ext hE3)
        | (go_at_call 17; (with_reducible refine (HK1.out _ _ hT1).mono ?_); rintro e w8 ⟨rfl, hE3⟩; replace hE1 := hE1.trans hE3; replace hT1 := hT1.ext hE3; replace hT2 := hT2.ext hE3)
        | (go_at_call 17; (with_reducible refine (HK2.out _ _ hT2).mono ?_); rintro e w9 ⟨rfl, hE3⟩; replace hE1 := hE1.trans hE3; replace hT1 := hT1.ext hE3; replace hT2 := hT2.ext hE3)
        | (go_at_call 23; (with_reducible refine (HL1.out _ _ hT1).mono ?_); rintro e w10 ⟨rfl, hE3⟩; replace hE1 := hE1.trans hE3; replace hT1 := hT1.ext hE3; replace hT2 := hT2.ext hE3)
        | (go_at_call 23; (with_reducible refine (HL2.out _ _ hT2).mono ?_); rintro e w11 ⟨rfl, hE3⟩; replace hE1 := hE1.trans hE3; replace hT1 := hT1.ext hE3; replace hT2 := hT2.ext hE3)
        | (go_at_call 10; (with_reducible refine (HWK.out _).mono ?_); rintro e w5 ⟨rfl, hE5⟩))
      go_ret
      exact ⟨rfl, hE1.trans hE5⟩
  · rw [hh] at HV
    clear hh ok bu rd mm
    go_enter Try.func8, Try.ntmps8
    go_wp2_with (first
      | (go_at_call 9; (with_reducible refine HV.out.mono ?_); rintro e w1 ⟨rfl, hE1⟩)
      | (go_at_call 10; (with_reducible refine (HWK.out _).mono ?_); rintro e w5 ⟨rfl, hE5⟩))
    go_ret
    exact ⟨rfl, hE1.trans hE5⟩
