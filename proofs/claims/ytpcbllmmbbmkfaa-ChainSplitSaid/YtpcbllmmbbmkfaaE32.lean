import Derived.Test.YtpcbllmmbbmkfaaE31
namespace Go.Proofs.Ytpcbllmmbbmkfaa
open Go.RowKit Go.Nb
theorem rfrd_nil (w : World) (A : Option Addr) : RfRd w A 0 [] := RfRd.nil w A
set_option maxRecDepth 100000 in
set_option maxHeartbeats 8000000 in
theorem chainFolds_walk (A : Option Addr) (n c : Nat) (T : List Rf) (B : Option Addr) (m d : Nat) (O : List Rf) (D : Option Addr) (q f : Nat) (l : List Lk) (W : World) (rdT : RfRd W A n T) (mmT : n ≤ maxLen) (okT : n ≤ c ∧ Few T) (rdO : RfRd W B m O) (mmO : m ≤ maxLen) (okO : m ≤ d ∧ Few O) (rdL : LnRd W D q l) (mmL : q ≤ maxLen) (okL : q ≤ f ∧ FewK l) :
    Calls Try.prog 3 #[.slice A n c, .slice B m d, .slice D q f] W fun e w' => e = .returned (.bool true) ∧ Ext W w' := by
  have HWK := Lib.hid (fun w => works_any w)
  have HV1 := Lib.hid (heavy_any (c := f) (d := c) rdL rdT mmL mmT)
  have HV2 := Lib.hid (fun w (h : Ext W w) => heavy_any (A := none) (c := 0) (d := d) (lnrd_nil w none) (rdO.ext h) (Nat.zero_le _) mmO)
  cases hh : heavyL l T
  · rw [hh] at HV1
    cases hh2 : heavyL [] O
    · rw [hh2] at HV2
      have hq : q ≤ 200 := by have := (heavyL_few hh).1; rw [rdL.1] at this; exact this
      have hn : n ≤ 200 := by have := (heavyL_few hh).2; rw [rdT.1] at this; exact this
      have hm : m ≤ 200 := by have := (heavyL_few hh2).2; rw [rdO.1] at this; exact this
      have HOL := Lib.hid (fun w (hE : Ext W w) => ownL_any (c := f) (rdL.ext hE) (by omega) okL.2)
      have HRT := Lib.hid (fun w (hE : Ext W w) => refs_any (c := c) (rdT.ext hE) (by omega) okT.2)
      have HRO := Lib.hid (fun w (hE : Ext W w) => refs_any (c := d) (rdO.ext hE) (by omega) okO.2)
      have HFO := Lib.hid (fun w A' c' (h : LnRd w A' q l) => fold_any (c := c') h (by omega) okL.2)
      have HRF := Lib.hid (fun w (hE : Ext W w) => rfold_any (c := f) (rdL.ext hE) (by omega) okL.2)
      have HTO := Lib.hid (fun w A1 A2 c1 c2 (h1 : RfRd w A1 n T) (h2 : RfRd w A2 m O) => same_any (c := c1) (c' := c2) h1 h2 (by omega) (by omega) okT.2 okO.2)
      have HRTO := Lib.hid (fun w (h : Ext W w) => rsame_any (c := c) (c' := d) (rdT.ext h) (rdO.ext h) (by omega) (by omega) okT.2 okO.2)
      have HTT := Lib.hid (fun w A1 A2 c1 c2 (h1 : RfRd w A1 n T) (h2 : RfRd w A2 n T) => by
        have := same_any (c := c1) (c' := c2) h1 h2 (by omega) (by omega) okT.2 okT.2
        rw [decide_eq_true rfl] at this
        exact this)
      obtain ⟨b, hb⟩ : ∃ b, b = decide (T = O) := ⟨_, rfl⟩
      rw [← hb] at HTO HRTO
      have hbb : (b != b) = false := by cases b <;> rfl
      have hle := foldL_len l
      have hfe := foldL_few okL.2
      generalize hXX : foldL l = X at *
      obtain ⟨XL, xe⟩ := X
      simp only at hle hfe
      have HXX := Lib.hid (fun w A1 A2 c1 c2 (h1 : RfRd w A1 XL.length XL) (h2 : RfRd w A2 XL.length XL) => by
        have := rsame_any (c := c1) (c' := c2) h1 h2 (by omega) (by omega) hfe hfe
        rw [decide_eq_true rfl] at this
        exact this)
      have tx : (xe != xe) = false := by simp
      have HRL := Lib.hid rdL
      have HRDT := Lib.hid rdT
      have HKT := Lib.hid okT
      have HKL := Lib.hid okL.2
      have HQ := Lib.hid hq
      have HN := Lib.hid hn
      clear hb hXX hle hfe hh hh2 rdL rdT rdO mmL mmT mmO okL okT okO hm
      go_enter Try.func3, Try.ntmps3
      go_wp2_with (first
        | (go_at_call 6; (with_reducible refine HV1.out.mono ?_); rintro e w1 ⟨rfl, hE1⟩)
        | (go_at_call 6; (with_reducible refine (HV2.out _ hE1).mono ?_); rintro e w2 ⟨rfl, hE2⟩; have hX2 := hE1.trans hE2)
        | (go_at_call 9; (with_reducible refine (HOL.out _ hX2).mono ?_); rintro e w3 ⟨A3, c3, rfl, hP3, hE3⟩; have HP3 := Lib.hid hP3.rd; clear hP3; have hX3 := hX2.trans hE3)
        | (go_at_call 8; (with_reducible refine (HFO.out _ _ _ HP3.out).mono ?_); rintro e w4 ⟨A4, c4, rfl, hc4, hn4, hT4, hE4⟩; have HT4 := Lib.hid hT4; clear hT4 hc4 hn4; have hX4 := hX3.trans hE4)
        | (go_at_call 10; (with_reducible refine (HRF.out _ hX4).mono ?_); rintro e w5 ⟨A5, c5, rfl, hc5, hn5, hT5, hE5⟩; have HT5 := Lib.hid hT5; clear hT5 hc5 hn5; have hX5 := hX4.trans hE5)
        | (go_at_call 11; (with_reducible refine (HXX.out _ A4 A5 c4 c5 (HT4.out.ext hE5) HT5.out).mono ?_); rintro e w6 ⟨rfl, hE6⟩; have hX6 := hX5.trans hE6)
        | (go_at_call 13; (with_reducible refine (HRT.out _ hX6).mono ?_); rintro e w7 ⟨A7, c7, rfl, hP7, hE7⟩; have HP7 := Lib.hid hP7.rd; clear hP7; have hX7 := hX6.trans hE7)
        | (go_at_call 13; (with_reducible refine (HRO.out _ hX7).mono ?_); rintro e w8 ⟨A8, c8, rfl, hP8, hE8⟩; have HP8 := Lib.hid hP8.rd; clear hP8; have hX8 := hX7.trans hE8)
        | (go_at_call 12; (with_reducible refine (HTO.out _ A7 A8 c7 c8 (HP7.out.ext hE8) HP8.out).mono ?_); rintro e w9 ⟨rfl, hE9⟩; have hX9 := hX8.trans hE9)
        | (go_at_call 11; (with_reducible refine (HRTO.out _ hX9).mono ?_); rintro e w10 ⟨rfl, hE10⟩; have hX10 := hX9.trans hE10)
        | (go_at_call 13; (with_reducible refine (HRT.out _ hX10).mono ?_); rintro e w11 ⟨A11, c11, rfl, hP11, hE11⟩; have HP11 := Lib.hid hP11.rd; clear hP11; have hX11 := hX10.trans hE11)
        | (go_at_call 13; (with_reducible refine (HRT.out _ hX11).mono ?_); rintro e w12 ⟨A12, c12, rfl, hP12, hE12⟩; have HP12 := Lib.hid hP12.rd; clear hP12; have hX12 := hX11.trans hE12)
        | (go_at_call 12; (with_reducible refine (HTT.out _ A11 A12 c11 c12 (HP11.out.ext hE12) HP12.out).mono ?_); rintro e w13 ⟨rfl, hE13⟩; have hX13 := hX12.trans hE13))
      clear HTO HRTO HTT HXX
      go_loopw [11] (fun iv wr => ∃ j : Nat, j ≤ q ∧ iv = .int .i64 j ∧ Ext W wr) (fun iv _ => q - (intOf iv).toNat)
      case atStart => exact ⟨0, by omega, rfl, hX13⟩
      case round =>
        clear hX13
        obtain ⟨j, hj, rfl, hE⟩ := hrel
        by_cases hj2 : j < q
        · have jj : (j : Int) < (q : Int) := by omega
          have jj0 : (0 : Int) ≤ (j : Int) := by omega
          have jb : (j : Int) < 200 := by have := HQ.out; omega
          obtain ⟨g0, o0, u0, rfl, m0, m1, m2, m3, hv0, m4, m5, m6⟩ := (HRL.out.ext hE).at_ j hj2
          obtain ⟨p, hp⟩ : ∃ p, p = l.getD j default := ⟨_, rfl⟩
          have f1 : p.add.ps.length ≤ 1048576 := by rw [hp]; exact HKL.out.at_ j
          rw [← hp] at m0 m1 m2 m4 m5 m6 hv0
          obtain ⟨C0, e0, rfl, s1, s2, s3⟩ := hv0
          have HC0 := Lib.hid (show PsV wr (.slice C0 p.add.ps.length e0) p.add.ps from ⟨C0, e0, rfl, s1, s2, s3⟩)
          clear s1 s2 s3
          have hle := applyL_len (T := T) (l := p)
          have hfe := applyL_few (T := T) (l := p) HKT.out.2 f1
          have HAP := Lib.hid (fun w A1 d1 (h : RfRd w A1 n T) (h2 : A1 = none → d1 = 0) B d (hp2 : PsV w (.slice B p.add.ps.length d) p.add.ps) => apply_any (c := d1) h h2 (by have := HN.out; omega) HKT.out.2 p hp2 f1)
          have HRA := Lib.hid (fun w (h : Ext W w) B d (hp2 : PsV w (.slice B p.add.ps.length d) p.add.ps) => rapply_any (c := c) (HRDT.out.ext h) (by have := HN.out; omega) HKT.out.1 p hp2 f1)
          generalize hRR : applyL T p = R at *
          obtain ⟨S, z⟩ := R
          simp only at hle hfe
          have tz : (z != z) = false := by simp
          have HSS := Lib.hid (fun w A1 A2 c1 c2 (h1 : RfRd w A1 S.length S) (h2 : RfRd w A2 S.length S) => by
            have := rsame_any (c := c1) (c' := c2) h1 h2 (by omega) (by omega) hfe hfe
            rw [decide_eq_true rfl] at this
            exact this)
          have HP := Lib.hid hp
          have HJ2 := Lib.hid hj2
          have HM := Lib.hid (And.intro m0 (And.intro m1 (And.intro m2 (And.intro m3 (And.intro m4 (And.intro m5 m6))))))
          clear hp f1 hle hfe hRR m0 m1 m2 m3 m4 m5 m6
          go_wp2_with (first
            | (go_at_call 13; (with_reducible refine (HRT.out _ hE).mono ?_); rintro e v1 ⟨B1, d1, rfl, hQ1, hF1⟩; have HQ1 := Lib.hid hQ1.rd; have HN1 := Lib.hid hQ1.nilc; clear hQ1)
            | (go_at_call 9; (with_reducible refine (HOL.out _ (hE.trans hF1)).mono ?_); rintro e v2 ⟨B2, d2, rfl, hQ2, hF2⟩; have hQ3 := hQ2.rd; clear hQ2; obtain ⟨g, o, u, rfl, k0, k1, k2, k3, hv, k4, k5, k6⟩ := hQ3.at_ j HJ2.out; clear hQ3; rw [← HP.out] at k0 k1 k2 k4 k5 k6 hv; obtain ⟨C1, e1, rfl, r1, r2, r3⟩ := hv; have HC := Lib.hid (show PsV v2 (.slice C1 p.add.ps.length e1) p.add.ps from ⟨C1, e1, rfl, r1, r2, r3⟩); clear r1 r2 r3)
            | (go_at_call 14; (with_reducible refine (HAP.out _ _ _ (HQ1.out.ext hF2) HN1.out _ _ HC.out).mono ?_); rintro e v3 ⟨B3, d3, rfl, h1, h2, h3, hF3⟩; have HX := Lib.hid h3; clear h1 h2 h3; have hG := (hF1.trans hF2).trans hF3; have m0 := hG.cellv HM.out.1; have m1 := hG.cellv HM.out.2.1; have m2 := hG.cellv HM.out.2.2.1; have m3 := hG.cellv HM.out.2.2.2.1; have m4 := hG.cellv HM.out.2.2.2.2.1; have m5 := hG.cellv HM.out.2.2.2.2.2.1; have m6 := hG.cellv HM.out.2.2.2.2.2.2; have hE3 := hE.trans hG)
            | (go_at_call 15; (with_reducible refine (HRA.out _ hE3 _ _ (HC0.out.ext hG)).mono ?_); rintro e v4 ⟨B4, d4, rfl, h1, h2, h3, hF4⟩; have HY := Lib.hid h3; clear h1 h2 h3)
            | (go_at_call 11; (with_reducible refine (HSS.out _ _ _ _ _ (HX.out.ext hF4) HY.out).mono ?_); rintro e v5 ⟨rfl, hF5⟩))
          exact ⟨⟨j + 1, by omega, rfl, (hE3.trans hF4).trans hF5⟩, by simp [intOf]; omega⟩
        · obtain rfl : j = q := by omega
          have jj : ¬ (j : Int) < (j : Int) := by omega
          go_wp2_with (go_at_call 7; (with_reducible refine (HWK.out _).mono ?_); rintro e w6 ⟨rfl, hF6⟩)
          go_ret
          exact ⟨rfl, hE.trans hF6⟩
    · rw [hh2] at HV2
      clear hh hh2 rdL rdT rdO mmL mmT mmO okL okT okO
      go_enter Try.func3, Try.ntmps3
      go_wp2_with (first
        | (go_at_call 6; (with_reducible refine HV1.out.mono ?_); rintro e w1 ⟨rfl, hE1⟩)
        | (go_at_call 6; (with_reducible refine (HV2.out _ hE1).mono ?_); rintro e w2 ⟨rfl, hE2⟩)
        | (go_at_call 7; (with_reducible refine (HWK.out _).mono ?_); rintro e w5 ⟨rfl, hE5⟩))
      go_ret
      exact ⟨rfl, (hE1.trans hE2).trans hE5⟩
  · rw [hh] at HV1
    clear hh rdL rdT rdO mmL mmT mmO okL okT okO
    go_enter Try.func3, Try.ntmps3
    go_wp2_with (first
      | (go_at_call 6; (with_reducible refine HV1.out.mono ?_); rintro e w1 ⟨rfl, hE1⟩)
      | (go_at_call 7; (with_reducible refine (HWK.out _).mono ?_); rintro e w5 ⟨rfl, hE5⟩))
    go_ret
    exact ⟨rfl, hE1.trans hE5⟩
