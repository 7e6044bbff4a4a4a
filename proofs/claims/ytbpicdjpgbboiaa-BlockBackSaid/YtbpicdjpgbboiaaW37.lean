import Derived.Test.YtbpicdjpgbboiaaW33
namespace Go.Proofs.Ytbpicdjpgbboiaa
open Go.RowKit Go.Nb
theorem prd_take {w : World} {A : Option Addr} {n m : Nat} {l : List Pr} (h : PRd w A n l) (hm : m ≤ n) : PRd w A m (l.take m) := by
  refine ⟨by rw [List.length_take, h.1]; omega, fun h0 => ?_⟩
  obtain ⟨g, o, ha, hc⟩ := h.2 (by omega)
  refine ⟨g, o, ha, fun i j hi hj => ?_⟩
  rw [hc i j (by omega) hj]
  unfold prF
  rw [List.getD_eq_getElem?_getD, List.getD_eq_getElem?_getD, List.getElem?_take, if_pos hi]
/-- What is read of a beginning of a block's bytes is a beginning of its pairs. -/
theorem cut_pre {l z : List Pr} {k : Nat} (hl : mayB l = true) (hz : mayB z = true) (hk : k < (encL [] l).length) (he : encL [] z = (encL [] l).take k) : z.length < l.length ∧ l.take z.length = z := by
  obtain ⟨l2, e1, e2⟩ := enc_pre z l [] ((encL [] l).drop k) (bad_of_may hz) (bad_of_may hl) (by rw [he, List.take_append_drop])
  have hne : l2 ≠ [] := by
    rintro rfl
    have h := congrArg List.length e2
    rw [encL, List.length_drop, List.length_nil] at h
    omega
  have hl2 := List.length_pos_iff.mpr hne
  constructor
  · rw [e1, List.length_append]; omega
  · rw [e1]; simp
set_option maxRecDepth 100000 in
theorem blockBack_walk (A : Option Addr) (n c : Nat) (l : List Pr) (s : ByteArray) (a : Int) (W : World) (rd : PRd W A n l) (mm : n ≤ maxLen) (ok : PrOk n c l) (ws : s.size ≤ maxLen) (wa : (Lit.int .u16 a).wf = true) : Calls Try.prog 4 #[.slice A n c, .string s, .int .u16 a] W fun e w' => e = .returned (.bool true) ∧ Ext W w' := by
  obtain ⟨S, hS⟩ : ∃ S, S = Ls s := ⟨_, rfl⟩
  have hs : s = Bt S := by rw [hS]; exact (Bt_Ls s).symm
  subst hs
  clear hS
  unfold maxLen at ws
  have hcap : n ≤ c := ok.1
  obtain ⟨x, rfl, hx⟩ : ∃ x : Nat, a = x ∧ x < 65536 := by
    have h0 : IntKind.u16.min ≤ a ∧ a ≤ IntKind.u16.max := by simpa [Lit.wf] using wa
    have h1 : 0 ≤ a ∧ a ≤ 65535 := h0
    exact ⟨a.toNat, by omega, by omega⟩
  clear wa ok
  have HV := heavy_any (c := c) rd mm
  have HWK := Lib.hid (fun w => works_any w)
  have hTB := toList_Bt
  cases hb : heavyB l
  case true =>
    rw [hb] at HV
    have HV := Lib.hid HV
    clear hb
    go_enter Try.func4, Try.ntmps4
    go_wp2_with (first
      | (go_at_call 7; (with_reducible refine HV.out.mono ?_); rintro e w1 ⟨rfl, hE1⟩)
      | (go_at_call 8; (with_reducible refine (HWK.out _).mono ?_); rintro e w2 ⟨rfl, hE2⟩))
    go_ret
    exact ⟨rfl, hE1.trans hE2⟩
  case false =>
    have hn : n ≤ 500 := by rw [← rd.1]; exact light_len hb
    rw [hb] at HV
    have HV := Lib.hid HV
    by_cases hsl : 8192 < S.length
    · have t1 : decide ((8192 : Int) < ((Bt S).size : Int)) = true := by rw [Bt_size]; simp; omega
      clear hb
      go_enter Try.func4, Try.ntmps4
      go_wp2_with (first
        | (go_at_call 7; (with_reducible refine HV.out.mono ?_); rintro e w1 ⟨rfl, hE1⟩)
        | (go_at_call 8; (with_reducible refine (HWK.out _).mono ?_); rintro e w2 ⟨rfl, hE2⟩))
      go_ret
      exact ⟨rfl, hE1.trans hE2⟩
    have s1 : decide ((8192 : Int) < ((Bt S).size : Int)) = false := by rw [Bt_size]; simp; omega
    have HO : Hid (∀ w', Ext W w' → Calls Try.prog 10 #[.slice A n c] w' fun e w2 => ∃ A' c', e = .returned (.slice A' n c') ∧ n ≤ c' ∧ PRd w2 A' n l ∧ Ext w' w2) := Lib.hid (fun w' hE => own_any (rd.ext hE) (by omega))
    cases hm : mayB l
    case false =>
      have HE : Hid (∀ w' A' c', PRd w' A' n l → n ≤ c' → Calls Try.prog 9 #[.slice A' n c'] w' fun e w2 => e = .returned (.tuple #[.string ⟨#[]⟩, .int .i64 2]) ∧ Ext w' w2) := Lib.hid (fun w' A' c' h1 h2 => by have := encode_any h1 (by omega) h2 (fun h => by rw [hm] at h; cases h); rwa [hm, if_neg (by simp)] at this)
      by_cases hd : ∃ d, mayB d = true ∧ encL [] d = S
      · obtain ⟨d, hd1, hd2⟩ := hd
        have HD := Lib.hid (fun w => decode_yes hd1 hd2 (by omega) w)
        have HDE : Hid (∀ w' A' c', PRd w' A' d.length d → d.length ≤ c' → Calls Try.prog 9 #[.slice A' d.length c'] w' fun e w2 => e = .returned (.tuple #[.string (Bt S), .int .i64 0]) ∧ Ext w' w2) := Lib.hid (fun w' A' c' h1 h2 => by have := encode_any h1 (by have := (may_len hd1).2; omega) h2 (fun _ => fits_of hd1 (by rw [hd2]; omega)); rwa [if_pos hd1, hd2] at this)
        clear hd1 hd2 hb hm
        go_enter Try.func4, Try.ntmps4
        go_wp2_with (first
          | (go_at_call 7; (with_reducible refine HV.out.mono ?_); rintro e w1 ⟨rfl, hE1⟩)
          | (go_at_call 11; (with_reducible refine (HD.out _).mono ?_); rintro e w2 ⟨A2, c2, rfl, hc2, hP2, hE2⟩)
          | (go_at_call 9; (with_reducible refine (HDE.out _ _ _ hP2 hc2).mono ?_); rintro e w3 ⟨rfl, hE3⟩; have hE13 := (hE1.trans hE2).trans hE3)
          | (go_at_call 10; (with_reducible refine (HO.out _ hE13).mono ?_); rintro e w4 ⟨A4, c4, rfl, hc4, hP4, hE4⟩)
          | (go_at_call 9; (with_reducible refine (HE.out _ _ _ hP4 hc4).mono ?_); rintro e w5 ⟨rfl, hE5⟩; have hE15 := (hE13.trans hE4).trans hE5)
          | (go_at_call 8; (with_reducible refine (HWK.out _).mono ?_); rintro e w10 ⟨rfl, hE10⟩; have hEnd := hE15.trans hE10))
        go_ret
        exact ⟨rfl, hEnd⟩
      · have HD := Lib.hid (fun w => decode_no (fun d h1 h2 => hd ⟨d, h1, h2⟩) (show S.length ≤ 1048576 by omega) w)
        clear hd hb hm
        go_enter Try.func4, Try.ntmps4
        go_wp2_with (first
          | (go_at_call 7; (with_reducible refine HV.out.mono ?_); rintro e w1 ⟨rfl, hE1⟩)
          | (go_at_call 11; (with_reducible refine (HD.out _).mono ?_); rintro e w3 ⟨rfl, hE3⟩; have hE13 := hE1.trans hE3)
          | (go_at_call 10; (with_reducible refine (HO.out _ hE13).mono ?_); rintro e w4 ⟨A4, c4, rfl, hc4, hP4, hE4⟩)
          | (go_at_call 9; (with_reducible refine (HE.out _ _ _ hP4 hc4).mono ?_); rintro e w5 ⟨rfl, hE5⟩; have hE15 := (hE13.trans hE4).trans hE5)
          | (go_at_call 8; (with_reducible refine (HWK.out _).mono ?_); rintro e w10 ⟨rfl, hE10⟩; have hEnd := hE15.trans hE10))
        go_ret
        exact ⟨rfl, hEnd⟩
    case true =>
      have hfit := light_fits hb hm
      have HE : Hid (∀ w' A' c', PRd w' A' n l → n ≤ c' → Calls Try.prog 9 #[.slice A' n c'] w' fun e w2 => e = .returned (.tuple #[.string (Bt (encL [] l)), .int .i64 0]) ∧ Ext w' w2) := Lib.hid (fun w' A' c' h1 h2 => by have := encode_any h1 (by omega) h2 (fun _ => hfit.1); rwa [if_pos hm] at this)
      have HDX : Hid (∀ w', Calls Try.prog 11 #[.string (Bt (encL [] l))] w' fun e w2 => ∃ A' c', e = .returned (.tuple #[.slice A' n c', .int .i64 0]) ∧ PRd w2 A' n l ∧ Ext w' w2) := Lib.hid (fun w' => by
        have hl := rd.1
        refine (decode_yes hm rfl (by omega) w').mono ?_
        rintro e w2 ⟨A', c', h1, h2, h3, h4⟩
        rw [hl] at h1 h3
        exact ⟨A', c', h1, h3, h4⟩)
      have HSX : Hid (∀ w' P c1, PRd w' P n l → Ext W w' → Calls Try.prog 15 #[.slice P n c1, .slice A n c] w' fun e w2 => e = .returned (.bool true) ∧ Ext w' w2) := Lib.hid (fun w' P c1 h1 h2 => by have := same_ref (c := c1) (c' := c) h1 (rd.ext h2) (by omega) (by omega); rwa [decide_eq_true rfl] at this)
      have hXne : encL [] l ≠ [] := fun h => by
        have h1 := (may_len hm).1
        rw [encL_nil h] at h1
        simp at h1
      have hn1 : 1 ≤ n := by rw [← rd.1]; exact (may_len hm).1
      obtain ⟨g, o, rfl, hcell⟩ := rd.2.at_ (by omega) (by omega)
      have hX0 : 0 < (encL [] l).length := List.length_pos_iff.mpr hXne
      have hk := Nat.mod_lt x hX0
      have hcut := fun z h1 h2 => cut_pre (z := z) hm h1 hk h2
      obtain ⟨X, hX⟩ : ∃ X, X = encL [] l := ⟨_, rfl⟩
      rw [← hX] at HE HDX hXne hX0 hk hcut hfit
      obtain ⟨k, hkk⟩ : ∃ k, k = x % X.length := ⟨_, rfl⟩
      rw [← hkk] at hk hcut
      have kI : (x : Int) % ((Bt X).size : Int) = (k : Int) := by rw [hkk, Bt_size]; push_cast; rfl
      have k0 : (0 : Int) ≤ (k : Int) := by omega
      have k1 : (k : Int) ≤ ((Bt X).size : Int) := by rw [Bt_size]; omega
      have k2 : k ≤ (Bt X).size := by rw [Bt_size]; omega
      have x1 : (Bt X).size ≠ 0 := by rw [Bt_size]; omega
      have x2 : ((Bt X).size : Int) ≠ 0 := by rw [Bt_size]; omega
      have x3 : (X == []) = false := by simpa using hXne
      have x4 : X.isEmpty = false := by simpa using hXne
      have hsl1 := slice_hi X k (by omega)
      have hsl2 := slice_hi2 X k (by omega)
      have hex : (Bt X).extract 0 k = Bt (X.take k) := by rw [Bt_extract]; rfl
      have hcl : (X.take k).length ≤ 1048576 := by rw [List.length_take]; have := hfit.2; omega
      have hl := rd.1
      by_cases hz : ∃ z, mayB z = true ∧ encL [] z = X.take k
      · obtain ⟨z, hz1, hz2⟩ := hz
        obtain ⟨hzl, hzt⟩ := hcut z hz1 hz2
        have HC : Hid (∀ w', Calls Try.prog 11 #[.string (Bt (X.take k))] w' fun e w2 => ∃ A' c', e = .returned (.tuple #[.slice A' z.length c', .int .i64 0]) ∧ PRd w2 A' z.length z ∧ Ext w' w2) := Lib.hid (fun w' => by
          refine (decode_yes hz1 hz2 hcl w').mono ?_
          rintro e w2 ⟨A', c', h1, h2, h3, h4⟩
          exact ⟨A', c', h1, h3, h4⟩)
        have HSC : Hid (∀ w' P c1, PRd w' P z.length z → Ext W w' → Calls Try.prog 15 #[.slice P z.length c1, .slice (some ⟨g, o, none⟩) z.length c] w' fun e w2 => e = .returned (.bool true) ∧ Ext w' w2) := Lib.hid (fun w' P c1 h1 h2 => by
          have hp := (prd_take rd (m := z.length) (by omega)).ext h2
          rw [hzt] at hp
          have := same_ref (c := c1) (c' := c) h1 hp (by omega) (by omega)
          rwa [decide_eq_true rfl] at this)
        have z1 : (z.length : Int) < (n : Int) := by omega
        have z2 : decide ((z.length : Int) < (n : Int)) = true := by simp; omega
        have z3 : (z.length : Int) ≤ (c : Int) := by omega
        have z4 : z.length ≤ c := by omega
        have z0 : (0 : Int) ≤ (z.length : Int) := by omega
        obtain ⟨q, hq⟩ : ∃ q, q = X.take k := ⟨_, rfl⟩
        rw [← hq] at HC hsl1 hsl2 hex hcl
        obtain ⟨y, hy⟩ : ∃ y, y = z.length := ⟨_, rfl⟩
        rw [← hy] at HC HSC z0 z1 z2 z3 z4
        clear hz1 hz2 hzl hzt hcut hq hcell hX hkk hl hy
        by_cases hd : ∃ d, mayB d = true ∧ encL [] d = S
        · obtain ⟨d, hd1, hd2⟩ := hd
          have HD := Lib.hid (fun w => decode_yes hd1 hd2 (by omega) w)
          have HDE : Hid (∀ w' A' c', PRd w' A' d.length d → d.length ≤ c' → Calls Try.prog 9 #[.slice A' d.length c'] w' fun e w2 => e = .returned (.tuple #[.string (Bt S), .int .i64 0]) ∧ Ext w' w2) := Lib.hid (fun w' A' c' h1 h2 => by have := encode_any h1 (by have := (may_len hd1).2; omega) h2 (fun _ => fits_of hd1 (by rw [hd2]; omega)); rwa [if_pos hd1, hd2] at this)
          clear hd1 hd2 hb hm hfit
          go_enter Try.func4, Try.ntmps4
          go_wp2_with (first
            | (go_at_call 7; (with_reducible refine HV.out.mono ?_); rintro e w1 ⟨rfl, hE1⟩)
            | (go_at_call 11; (with_reducible refine (HD.out _).mono ?_); rintro e w2 ⟨A2, c2, rfl, hc2, hP2, hE2⟩)
            | (go_at_call 9; (with_reducible refine (HDE.out _ _ _ hP2 hc2).mono ?_); rintro e w3 ⟨rfl, hE3⟩; have hE13 := (hE1.trans hE2).trans hE3)
            | (go_at_call 10; (with_reducible refine (HO.out _ hE13).mono ?_); rintro e w4 ⟨A4, c4, rfl, hc4, hP4, hE4⟩)
            | (go_at_call 9; (with_reducible refine (HE.out _ _ _ hP4 hc4).mono ?_); rintro e w5 ⟨rfl, hE5⟩; have hE15 := (hE13.trans hE4).trans hE5)
            | (go_at_call 11; (with_reducible refine (HDX.out _).mono ?_); rintro e w6 ⟨A6, c6, rfl, hP6, hE6⟩; have hE16 := hE15.trans hE6)
            | (go_at_call 15; (with_reducible refine (HSX.out _ _ _ hP6 hE16).mono ?_); rintro e w7 ⟨rfl, hE7⟩; have hE17 := hE16.trans hE7)
            | (go_at_call 11; (with_reducible refine (HC.out _).mono ?_); rintro e w8 ⟨A8, c8, rfl, hP8, hE8⟩; have hE18 := hE17.trans hE8)
            | (go_at_call 15; (with_reducible refine (HSC.out _ _ _ hP8 hE18).mono ?_); rintro e w9 ⟨rfl, hE9⟩; have hE19 := hE18.trans hE9)
            | (go_at_call 8; (with_reducible refine (HWK.out _).mono ?_); rintro e w10 ⟨rfl, hE10⟩; have hEnd := hE19.trans hE10))
          go_ret
          exact ⟨rfl, hEnd⟩
        · have HD := Lib.hid (fun w => decode_no (fun d h1 h2 => hd ⟨d, h1, h2⟩) (show S.length ≤ 1048576 by omega) w)
          clear hd hb hm hfit
          go_enter Try.func4, Try.ntmps4
          go_wp2_with (first
            | (go_at_call 7; (with_reducible refine HV.out.mono ?_); rintro e w1 ⟨rfl, hE1⟩)
            | (go_at_call 11; (with_reducible refine (HD.out _).mono ?_); rintro e w3 ⟨rfl, hE3⟩; have hE13 := hE1.trans hE3)
            | (go_at_call 10; (with_reducible refine (HO.out _ hE13).mono ?_); rintro e w4 ⟨A4, c4, rfl, hc4, hP4, hE4⟩)
            | (go_at_call 9; (with_reducible refine (HE.out _ _ _ hP4 hc4).mono ?_); rintro e w5 ⟨rfl, hE5⟩; have hE15 := (hE13.trans hE4).trans hE5)
            | (go_at_call 11; (with_reducible refine (HDX.out _).mono ?_); rintro e w6 ⟨A6, c6, rfl, hP6, hE6⟩; have hE16 := hE15.trans hE6)
            | (go_at_call 15; (with_reducible refine (HSX.out _ _ _ hP6 hE16).mono ?_); rintro e w7 ⟨rfl, hE7⟩; have hE17 := hE16.trans hE7)
            | (go_at_call 11; (with_reducible refine (HC.out _).mono ?_); rintro e w8 ⟨A8, c8, rfl, hP8, hE8⟩; have hE18 := hE17.trans hE8)
            | (go_at_call 15; (with_reducible refine (HSC.out _ _ _ hP8 hE18).mono ?_); rintro e w9 ⟨rfl, hE9⟩; have hE19 := hE18.trans hE9)
            | (go_at_call 8; (with_reducible refine (HWK.out _).mono ?_); rintro e w10 ⟨rfl, hE10⟩; have hEnd := hE19.trans hE10))
          go_ret
          exact ⟨rfl, hEnd⟩
      · have HC : Hid (∀ w', Calls Try.prog 11 #[.string (Bt (X.take k))] w' fun e w2 => e = .returned (.tuple #[.slice none 0 0, .int .i64 8]) ∧ Ext w' w2) := Lib.hid (fun w' => decode_no (fun z h1 h2 => hz ⟨z, h1, h2⟩) hcl w')
        obtain ⟨q, hq⟩ : ∃ q, q = X.take k := ⟨_, rfl⟩
        rw [← hq] at HC hsl1 hsl2 hex hcl hz
        clear hcut hz hq hcell hX hkk hl
        by_cases hd : ∃ d, mayB d = true ∧ encL [] d = S
        · obtain ⟨d, hd1, hd2⟩ := hd
          have HD := Lib.hid (fun w => decode_yes hd1 hd2 (by omega) w)
          have HDE : Hid (∀ w' A' c', PRd w' A' d.length d → d.length ≤ c' → Calls Try.prog 9 #[.slice A' d.length c'] w' fun e w2 => e = .returned (.tuple #[.string (Bt S), .int .i64 0]) ∧ Ext w' w2) := Lib.hid (fun w' A' c' h1 h2 => by have := encode_any h1 (by have := (may_len hd1).2; omega) h2 (fun _ => fits_of hd1 (by rw [hd2]; omega)); rwa [if_pos hd1, hd2] at this)
          clear hd1 hd2 hb hm hfit
          go_enter Try.func4, Try.ntmps4
          go_wp2_with (first
            | (go_at_call 7; (with_reducible refine HV.out.mono ?_); rintro e w1 ⟨rfl, hE1⟩)
            | (go_at_call 11; (with_reducible refine (HD.out _).mono ?_); rintro e w2 ⟨A2, c2, rfl, hc2, hP2, hE2⟩)
            | (go_at_call 9; (with_reducible refine (HDE.out _ _ _ hP2 hc2).mono ?_); rintro e w3 ⟨rfl, hE3⟩; have hE13 := (hE1.trans hE2).trans hE3)
            | (go_at_call 10; (with_reducible refine (HO.out _ hE13).mono ?_); rintro e w4 ⟨A4, c4, rfl, hc4, hP4, hE4⟩)
            | (go_at_call 9; (with_reducible refine (HE.out _ _ _ hP4 hc4).mono ?_); rintro e w5 ⟨rfl, hE5⟩; have hE15 := (hE13.trans hE4).trans hE5)
            | (go_at_call 11; (with_reducible refine (HDX.out _).mono ?_); rintro e w6 ⟨A6, c6, rfl, hP6, hE6⟩; have hE16 := hE15.trans hE6)
            | (go_at_call 15; (with_reducible refine (HSX.out _ _ _ hP6 hE16).mono ?_); rintro e w7 ⟨rfl, hE7⟩; have hE17 := hE16.trans hE7)
            | (go_at_call 11; (with_reducible refine (HC.out _).mono ?_); rintro e w9 ⟨rfl, hE9⟩; have hE19 := hE17.trans hE9)
            | (go_at_call 8; (with_reducible refine (HWK.out _).mono ?_); rintro e w10 ⟨rfl, hE10⟩; have hEnd := hE19.trans hE10))
          go_ret
          exact ⟨rfl, hEnd⟩
        · have HD := Lib.hid (fun w => decode_no (fun d h1 h2 => hd ⟨d, h1, h2⟩) (show S.length ≤ 1048576 by omega) w)
          clear hd hb hm hfit
          go_enter Try.func4, Try.ntmps4
          go_wp2_with (first
            | (go_at_call 7; (with_reducible refine HV.out.mono ?_); rintro e w1 ⟨rfl, hE1⟩)
            | (go_at_call 11; (with_reducible refine (HD.out _).mono ?_); rintro e w3 ⟨rfl, hE3⟩; have hE13 := hE1.trans hE3)
            | (go_at_call 10; (with_reducible refine (HO.out _ hE13).mono ?_); rintro e w4 ⟨A4, c4, rfl, hc4, hP4, hE4⟩)
            | (go_at_call 9; (with_reducible refine (HE.out _ _ _ hP4 hc4).mono ?_); rintro e w5 ⟨rfl, hE5⟩; have hE15 := (hE13.trans hE4).trans hE5)
            | (go_at_call 11; (with_reducible refine (HDX.out _).mono ?_); rintro e w6 ⟨A6, c6, rfl, hP6, hE6⟩; have hE16 := hE15.trans hE6)
            | (go_at_call 15; (with_reducible refine (HSX.out _ _ _ hP6 hE16).mono ?_); rintro e w7 ⟨rfl, hE7⟩; have hE17 := hE16.trans hE7)
            | (go_at_call 11; (with_reducible refine (HC.out _).mono ?_); rintro e w9 ⟨rfl, hE9⟩; have hE19 := hE17.trans hE9)
            | (go_at_call 8; (with_reducible refine (HWK.out _).mono ?_); rintro e w10 ⟨rfl, hE10⟩; have hEnd := hE19.trans hE10))
          go_ret
          exact ⟨rfl, hEnd⟩
