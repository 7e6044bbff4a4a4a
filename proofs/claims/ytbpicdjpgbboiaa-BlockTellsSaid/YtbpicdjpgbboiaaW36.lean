import Derived.Test.YtbpicdjpgbboiaaW33
namespace Go.Proofs.Ytbpicdjpgbboiaa
open Go.RowKit Go.Nb
theorem enc_step0 {l : List Pr} {k : Nat} (hk : k < l.length) : (encL [] (l.take (k + 1))).length = (encL [] (l.take k)).length + (oneL (keyAt l k) (l.getD k default)).length := by
  rw [List.take_succ_eq_append_getElem hk, encL_snoc, List.length_append]
  have e : l.getD k default = l[k] := by rw [List.getD_eq_getElem?_getD, List.getElem?_eq_getElem hk]; rfl
  rw [e]
  have h : lastK [] (l.take k) = keyAt l k := by
    by_cases h0 : k = 0
    · subst h0; rfl
    · have hne : l.take k ≠ [] := by
        intro h1
        have := congrArg List.length h1
        rw [List.length_take, List.length_nil] at this
        omega
      rw [lastK_at _ _ hne]
      unfold keyAt
      rw [if_neg h0]
      have hl : (l.take k).length - 1 = k - 1 := by rw [List.length_take]; omega
      rw [hl, List.getD_eq_getElem?_getD, List.getElem?_take, if_pos (by omega), ← List.getD_eq_getElem?_getD]
  rw [h]
theorem keyAt_bad {l : List Pr} (h : ∀ p, p ∈ l → badP p = false) (k : Nat) : (keyAt l k).length ≤ 1024 := by
  unfold keyAt
  split
  · simp
  · exact (getD_bad h _).1
theorem oneL_len (a : Bs) (p : Pr) : (oneL a p).length ≤ p.k.length + p.v.length + 27 := by
  unfold oneL
  have u := (upL_len2 (shL a p.k)).2
  have t1 := textL_len (p.k.drop (shL a p.k))
  have t2 := textL_len p.v
  rw [List.length_drop] at t1
  simp only [List.length_append]
  omega
theorem prd_nil (w : World) : PRd w none 0 [] := ⟨rfl, FRd.nil _ _ _ _⟩
set_option maxRecDepth 100000 in
theorem blockTells_walk (A : Option Addr) (n c : Nat) (l : List Pr) (s key : ByteArray) (W : World) (rd : PRd W A n l) (mm : n ≤ maxLen) (_ : PrOk n c l) (ws : s.size ≤ maxLen) (wk : key.size ≤ maxLen) : Calls Try.prog 3 #[.slice A n c, .string s, .string key] W fun e w' => e = .returned (.bool true) ∧ Ext W w' := by
  obtain ⟨K, hK⟩ : ∃ K, K = Ls key := ⟨_, rfl⟩
  have hkey : key = Bt K := by rw [hK]; exact (Bt_Ls key).symm
  subst hkey
  obtain ⟨S, hS⟩ : ∃ S, S = Ls s := ⟨_, rfl⟩
  have hs : s = Bt S := by rw [hS]; exact (Bt_Ls s).symm
  subst hs
  clear hK hS
  unfold maxLen at wk ws
  have HV := heavy_any (c := c) rd mm
  have HWK := Lib.hid (fun w => works_any w)
  have hTB := toList_Bt
  cases hb : heavyB l
  case true =>
    rw [hb] at HV
    have HV := Lib.hid HV
    clear hb
    go_enter Try.func3, Try.ntmps3
    go_wp2_with (first
      | (go_at_call 7; (with_reducible refine HV.out.mono ?_); rintro e w1 ⟨rfl, hE1⟩)
      | (go_at_call 8; (with_reducible refine (HWK.out _).mono ?_); rintro e w2 ⟨rfl, hE2⟩))
    go_ret
    exact ⟨rfl, hE1.trans hE2⟩
  case false =>
    have hn : n ≤ 500 := by rw [← rd.1]; exact light_len hb
    rw [hb] at HV
    have HV := Lib.hid HV
    by_cases hsl : 8192 < S.length
    · have t1 : decide ((8192 : Int) < ((Bt S).size : Int)) = true := by rw [Bt_size]; simp; omega
      clear hb
      go_enter Try.func3, Try.ntmps3
      go_wp2_with (first
        | (go_at_call 7; (with_reducible refine HV.out.mono ?_); rintro e w1 ⟨rfl, hE1⟩)
        | (go_at_call 8; (with_reducible refine (HWK.out _).mono ?_); rintro e w2 ⟨rfl, hE2⟩))
      go_ret
      exact ⟨rfl, hE1.trans hE2⟩
    have s1 : decide ((8192 : Int) < ((Bt S).size : Int)) = false := by rw [Bt_size]; simp; omega
    by_cases hkl : 4096 < K.length
    · have t1 : decide ((4096 : Int) < ((Bt K).size : Int)) = true := by rw [Bt_size]; simp; omega
      clear hb
      go_enter Try.func3, Try.ntmps3
      go_wp2_with (first
        | (go_at_call 7; (with_reducible refine HV.out.mono ?_); rintro e w1 ⟨rfl, hE1⟩)
        | (go_at_call 8; (with_reducible refine (HWK.out _).mono ?_); rintro e w2 ⟨rfl, hE2⟩))
      go_ret
      exact ⟨rfl, hE1.trans hE2⟩
    have t1 : decide ((4096 : Int) < ((Bt K).size : Int)) = false := by rw [Bt_size]; simp; omega
    have HO : Hid (∀ w', Ext W w' → Calls Try.prog 10 #[.slice A n c] w' fun e w2 => ∃ A' c', e = .returned (.slice A' n c') ∧ n ≤ c' ∧ PRd w2 A' n l ∧ Ext w' w2) := Lib.hid (fun w' hE => own_any (rd.ext hE) (by omega))
    cases hm : mayB l
    case false =>
      have HM : Hid (∀ w' A' c', PRd w' A' n l → n ≤ c' → Calls Try.prog 14 #[.slice A' n c'] w' fun e w2 => e = .returned (.bool false) ∧ Ext w' w2) := Lib.hid (fun w' A' c' h1 h2 => by have := may_any h1 (by omega) h2; rwa [hm] at this)
      have HMR : Hid (∀ w', Ext W w' → Calls Try.prog 13 #[.slice A n c] w' fun e w2 => e = .returned (.bool false) ∧ Ext w' w2) := Lib.hid (fun w' hE => by have := may_ref (c := c) (rd.ext hE) (by omega); rwa [hm] at this)
      have HE : Hid (∀ w' A' c', PRd w' A' n l → n ≤ c' → Calls Try.prog 9 #[.slice A' n c'] w' fun e w2 => e = .returned (.tuple #[.string ⟨#[]⟩, .int .i64 2]) ∧ Ext w' w2) := Lib.hid (fun w' A' c' h1 h2 => by have := encode_any h1 (by omega) h2 (fun h => by rw [hm] at h; cases h); rwa [hm, if_neg (by simp)] at this)
      by_cases hd : ∃ d, mayB d = true ∧ encL [] d = S
      · obtain ⟨d, hd1, hd2⟩ := hd
        have HD := Lib.hid (fun w => decode_yes hd1 hd2 (by omega) w)
        have HF := Lib.hid (fun w => of_yes hd1 hd2 (by omega) w)
        have hdl := (may_len hd1).2
        have HSA : Hid (∀ w' P Q c1 c2, PRd w' P d.length d → PRd w' Q d.length d → Calls Try.prog 15 #[.slice P d.length c1, .slice Q d.length c2] w' fun e w2 => e = .returned (.bool true) ∧ Ext w' w2) := Lib.hid (fun w' P Q c1 c2 h1 h2 => by have := same_ref (c := c1) (c' := c2) h1 h2 (by omega) (by omega); rwa [decide_eq_true rfl] at this)
        clear hb hm hd1 hd2 hdl
        go_enter Try.func3, Try.ntmps3
        go_wp2_with (first
          | (go_at_call 7; (with_reducible refine HV.out.mono ?_); rintro e w1 ⟨rfl, hE1⟩)
          | (go_at_call 10; (with_reducible refine (HO.out _ hE1).mono ?_); rintro e w2 ⟨A2, c2, rfl, hc2, hP2, hE2⟩)
          | (go_at_call 9; (with_reducible refine (HE.out _ _ _ hP2 hc2).mono ?_); rintro e w3 ⟨rfl, hE3⟩; have hE13 := (hE1.trans hE2).trans hE3)
          | (go_at_call 11; (with_reducible refine (HD.out _).mono ?_); rintro e w4 ⟨A4, c4, rfl, hc4, hP4, hE4⟩)
          | (go_at_call 12; (with_reducible refine (HF.out _).mono ?_); rintro e w5 ⟨A5, c5, rfl, hP5, hE5⟩; have hE15 := (hE13.trans hE4).trans hE5)
          | (go_at_call 13; (with_reducible refine (HMR.out _ hE15).mono ?_); rintro e w6 ⟨rfl, hE6⟩; have hE16 := hE15.trans hE6)
          | (go_at_call 10; (with_reducible refine (HO.out _ hE16).mono ?_); rintro e w7 ⟨A7, c7, rfl, hc7, hP7, hE7⟩)
          | (go_at_call 14; (with_reducible refine (HM.out _ _ _ hP7 hc7).mono ?_); rintro e w8 ⟨rfl, hE8⟩; have hE48 := (((hE5.trans hE6).trans hE7).trans hE8); have hP48 := hP4.ext hE48; have hP58 := hP5.ext ((hE6.trans hE7).trans hE8))
          | (go_at_call 15; (with_reducible refine (HSA.out _ _ _ _ _ hP48 hP58).mono ?_); rintro e w9 ⟨rfl, hE9⟩; have hE19 := ((hE16.trans hE7).trans hE8).trans hE9)
          | (go_at_call 8; (with_reducible refine (HWK.out _).mono ?_); rintro e w10 ⟨rfl, hE10⟩))
        go_ret
        exact ⟨rfl, hE19.trans hE10⟩
      · have hdn : ∀ d, mayB d = true → encL [] d ≠ S := fun d h1 h2 => hd ⟨d, h1, h2⟩
        have HD := Lib.hid (fun w => decode_no hdn (by omega) w)
        have HF := Lib.hid (fun w => of_no hdn (by omega) w)
        have HSA : Hid (∀ w', Calls Try.prog 15 #[.slice none 0 0, .slice none 0 0] w' fun e w2 => e = .returned (.bool true) ∧ Ext w' w2) := Lib.hid (fun w' => by have := same_ref (c := 0) (c' := 0) (prd_nil w') (prd_nil w') (by omega) (by omega); rwa [decide_eq_true rfl] at this)
        clear hb hm hd hdn
        go_enter Try.func3, Try.ntmps3
        go_wp2_with (first
          | (go_at_call 7; (with_reducible refine HV.out.mono ?_); rintro e w1 ⟨rfl, hE1⟩)
          | (go_at_call 10; (with_reducible refine (HO.out _ hE1).mono ?_); rintro e w2 ⟨A2, c2, rfl, hc2, hP2, hE2⟩)
          | (go_at_call 9; (with_reducible refine (HE.out _ _ _ hP2 hc2).mono ?_); rintro e w3 ⟨rfl, hE3⟩; have hE13 := (hE1.trans hE2).trans hE3)
          | (go_at_call 11; (with_reducible refine (HD.out _).mono ?_); rintro e w4 ⟨rfl, hE4⟩)
          | (go_at_call 12; (with_reducible refine (HF.out _).mono ?_); rintro e w5 ⟨rfl, hE5⟩; have hE15 := (hE13.trans hE4).trans hE5)
          | (go_at_call 13; (with_reducible refine (HMR.out _ hE15).mono ?_); rintro e w6 ⟨rfl, hE6⟩; have hE16 := hE15.trans hE6)
          | (go_at_call 10; (with_reducible refine (HO.out _ hE16).mono ?_); rintro e w7 ⟨A7, c7, rfl, hc7, hP7, hE7⟩)
          | (go_at_call 14; (with_reducible refine (HM.out _ _ _ hP7 hc7).mono ?_); rintro e w8 ⟨rfl, hE8⟩)
          | (go_at_call 15; (with_reducible refine (HSA.out _).mono ?_); rintro e w9 ⟨rfl, hE9⟩; have hE19 := ((hE16.trans hE7).trans hE8).trans hE9)
          | (go_at_call 8; (with_reducible refine (HWK.out _).mono ?_); rintro e w10 ⟨rfl, hE10⟩))
        go_ret
        exact ⟨rfl, hE19.trans hE10⟩
    case true =>
      have HM : Hid (∀ w' A' c', PRd w' A' n l → n ≤ c' → Calls Try.prog 14 #[.slice A' n c'] w' fun e w2 => e = .returned (.bool true) ∧ Ext w' w2) := Lib.hid (fun w' A' c' h1 h2 => by have := may_any h1 (by omega) h2; rwa [hm] at this)
      have HMR : Hid (∀ w', Ext W w' → Calls Try.prog 13 #[.slice A n c] w' fun e w2 => e = .returned (.bool true) ∧ Ext w' w2) := Lib.hid (fun w' hE => by have := may_ref (c := c) (rd.ext hE) (by omega); rwa [hm] at this)
      have hfit := light_fits hb hm
      have HE : Hid (∀ w' A' c', PRd w' A' n l → n ≤ c' → Calls Try.prog 9 #[.slice A' n c'] w' fun e w2 => e = .returned (.tuple #[.string (Bt (encL [] l)), .int .i64 0]) ∧ Ext w' w2) := Lib.hid (fun w' A' c' h1 h2 => by have := encode_any h1 (by omega) h2 (fun _ => hfit.1); rwa [if_pos hm] at this)
      have HB : Hid (∀ w', Ext W w' → Calls Try.prog 18 #[.slice A n c] w' fun e w2 => e = .returned (.string (Bt (encL [] l))) ∧ Ext w' w2) := Lib.hid (fun w' hE => bytes_ref (c := c) (rd.ext hE) (by omega) hfit.1)
      have HS : Hid (∀ w' A' c', PRd w' A' n l → Calls Try.prog 19 #[.slice A' n c', .string (Bt K)] w' fun e w2 => e = .returned (.int .i64 (seekL K l)) ∧ Ext w' w2) := Lib.hid (fun w' A' c' h1 => seek_any h1 (by omega) (may_up hm) K)
      have HSR : Hid (∀ w', Ext W w' → Calls Try.prog 20 #[.slice A n c, .string (Bt K)] w' fun e w2 => e = .returned (.int .i64 (seekL K l)) ∧ Ext w' w2) := Lib.hid (fun w' hE => seek_ref (c := c) (rd.ext hE) (by omega) K)
      have hfull : (encL [] (l.take n)).length = (encL [] l).length := by rw [← rd.1, List.take_length]
      have hstep := fun k h1 => enc_step0 (l := l) (k := k) h1
      have HKB := Lib.hid (keyAt_bad (bad_of_may hm))
      have HBD := Lib.hid (getD_bad (bad_of_may hm))
      have HL := Lib.hid rd.1
      obtain ⟨X, hX⟩ : ∃ X, X = encL [] l := ⟨_, rfl⟩
      obtain ⟨z, hz⟩ : ∃ z, z = seekL K l := ⟨_, rfl⟩
      rw [← hX] at HE HB hfull hfit
      rw [← hz] at HS HSR
      have HXL := Lib.hid hfit.2
      have HFU := Lib.hid hfull
      have HST := Lib.hid hstep
      clear hX hz hfit hfull hstep
      by_cases hd : ∃ d, mayB d = true ∧ encL [] d = S
      · obtain ⟨d, hd1, hd2⟩ := hd
        have HD := Lib.hid (fun w => decode_yes hd1 hd2 (by omega) w)
        have HF := Lib.hid (fun w => of_yes hd1 hd2 (by omega) w)
        have hdl := (may_len hd1).2
        have HSA : Hid (∀ w' P Q c1 c2, PRd w' P d.length d → PRd w' Q d.length d → Calls Try.prog 15 #[.slice P d.length c1, .slice Q d.length c2] w' fun e w2 => e = .returned (.bool true) ∧ Ext w' w2) := Lib.hid (fun w' P Q c1 c2 h1 h2 => by have := same_ref (c := c1) (c' := c2) h1 h2 (by omega) (by omega); rwa [decide_eq_true rfl] at this)
        clear hb hm hd1 hd2 hdl
        go_enter Try.func3, Try.ntmps3
        go_wp2_with (first
          | (go_at_call 7; (with_reducible refine HV.out.mono ?_); rintro e w1 ⟨rfl, hE1⟩)
          | (go_at_call 10; (with_reducible refine (HO.out _ hE1).mono ?_); rintro e w2 ⟨A2, c2, rfl, hc2, hP2, hE2⟩)
          | (go_at_call 9; (with_reducible refine (HE.out _ _ _ hP2 hc2).mono ?_); rintro e w3 ⟨rfl, hE3⟩; have hE13 := (hE1.trans hE2).trans hE3)
          | (go_at_call 11; (with_reducible refine (HD.out _).mono ?_); rintro e w4 ⟨A4, c4, rfl, hc4, hP4, hE4⟩)
          | (go_at_call 12; (with_reducible refine (HF.out _).mono ?_); rintro e w5 ⟨A5, c5, rfl, hP5, hE5⟩; have hE15 := (hE13.trans hE4).trans hE5)
          | (go_at_call 13; (with_reducible refine (HMR.out _ hE15).mono ?_); rintro e w6 ⟨rfl, hE6⟩; have hE16 := hE15.trans hE6)
          | (go_at_call 10; (with_reducible refine (HO.out _ hE16).mono ?_); rintro e w7 ⟨A7, c7, rfl, hc7, hP7, hE7⟩)
          | (go_at_call 14; (with_reducible refine (HM.out _ _ _ hP7 hc7).mono ?_); rintro e w8 ⟨rfl, hE8⟩; have hE48 := (((hE5.trans hE6).trans hE7).trans hE8); have hP48 := hP4.ext hE48; have hP58 := hP5.ext ((hE6.trans hE7).trans hE8))
          | (go_at_call 15; (with_reducible refine (HSA.out _ _ _ _ _ hP48 hP58).mono ?_); rintro e w9 ⟨rfl, hE9⟩; have hE19 := ((hE16.trans hE7).trans hE8).trans hE9))
        clear hP2 hP7 hE1 hE2 hE3 hE4 hE5 hE6 hE7 hE8 hE9 hE13 hE15 hE16 hc2 hc7 hP4 hP5 hE48 hP48 hP58
        go_loopw [14, 15, 16] (fun lv sv iv wr => ∃ (k t : Nat) (last : Bs), k ≤ n ∧ iv = .int .i64 k ∧ sv = .int .i64 t ∧ lv = .string (Bt last) ∧ Hid (last = keyAt l k) ∧ Hid (t = (encL [] (l.take k)).length) ∧ Hid (t ≤ 10000 * k) ∧ Ext W wr) (fun _ _ iv _ => n - (intOf iv).toNat)
        case atStart => exact ⟨0, 0, [], by omega, rfl, rfl, rfl, Lib.hid rfl, Lib.hid rfl, Lib.hid (by omega), hE19⟩
        case round =>
          clear hE19
          obtain ⟨k, t, last, hk, rfl, rfl, rfl, hla, ht, htb, hE⟩ := hrel
          by_cases hk2 : k < n
          · have kk : (k : Int) < (n : Int) := by omega
            have kk0 : (0 : Int) ≤ (k : Int) := by omega
            have htb2 := htb.out
            obtain ⟨g, o, rfl, c0, c1⟩ := (rd.ext hE).at_ k hk2
            have hst := HST.out k (by rw [HL.out]; exact hk2)
            have hks := keyAt_succ l k
            have hkb := HKB.out k
            have hbd := HBD.out k
            rw [← hla.out] at hst hkb
            obtain ⟨p, hp⟩ : ∃ p, p = l.getD k default := ⟨_, rfl⟩
            rw [← hp] at c0 c1 hst hks hbd
            have hol := oneL_len last p
            have HSZ := Lib.hid (fun w => size_any last p (by omega) (by omega) (by omega) w)
            have HON := Lib.hid (fun w => one_ref last p (by omega) (by omega) (by omega) w)
            have hP : p.val = .agg #[.string (Bt p.k), .string (Bt p.v)] := rfl
            rw [hP] at HSZ HON
            obtain ⟨y, hy⟩ : ∃ y, y = oneL last p := ⟨_, rfl⟩
            rw [← hy] at HSZ HON hst hol
            have y1 : (y.length : Int) = ((Bt y).size : Int) := rfl
            have y2 : ((y.length : Int) == ((Bt y).size : Int)) = true := by simp [y1]
            have t0 : (0 : Int) ≤ (t : Int) := by omega
            have t2 : (t : Int) ≤ 10000000 := by omega
            have t3 : (y.length : Int) ≤ 10000 := by omega
            have t4 : (0 : Int) ≤ (y.length : Int) := by omega
            have HNX : Hid (t + y.length = (encL [] (l.take (k + 1))).length) := Lib.hid (by rw [hst, ← ht.out])
            have HNB : Hid (t + y.length ≤ 10000 * (k + 1)) := Lib.hid (by omega)
            have HKS := Lib.hid hks
            clear hst hkb hbd hp hP hy htb2 hol hks y1
            go_wp2_with (first
              | (go_at_call 16; (with_reducible refine (HSZ.out _).mono ?_); rintro e v1 ⟨rfl, hF1⟩; have d0 := hF1.cellv c0; have d1 := hF1.cellv c1)
              | (go_at_call 17; (with_reducible refine (HON.out _).mono ?_); rintro e v2 ⟨rfl, hF2⟩; have e0 := hF2.cellv d0; have e1 := hF2.cellv d1))
            exact ⟨⟨k + 1, t + y.length, p.k, by omega, rfl, by first | rfl | (congr 1; omega), rfl, Lib.hid HKS.out.symm, HNX, HNB, (hE.trans hF1).trans hF2⟩, by simp [intOf]; omega⟩
          · obtain rfl : k = n := by omega
            have kk : ¬ (k : Int) < (k : Int) := by omega
            have htx : t = X.length := ht.out.trans HFU.out
            have hx1 : ((t : Int) == ((Bt X).size : Int)) = true := by rw [htx]; simp [Bt_size]
            have hx2 : (t == (Bt X).size) = true := by rw [htx]; simp [Bt_size]
            clear ht htb htx
            go_wp2_with (first
              | (go_at_call 18; (with_reducible refine (HB.out _ hE).mono ?_); rintro e v1 ⟨rfl, hF1⟩; have hE1 := hE.trans hF1)
              | (go_at_call 10; (with_reducible refine (HO.out _ hE1).mono ?_); rintro e v2 ⟨B2, b2, rfl, hb2, hQ2, hF2⟩)
              | (go_at_call 19; (with_reducible refine (HS.out _ _ _ hQ2).mono ?_); rintro e v3 ⟨rfl, hF3⟩; have hE3 := (hE1.trans hF2).trans hF3)
              | (go_at_call 20; (with_reducible refine (HSR.out _ hE3).mono ?_); rintro e v4 ⟨rfl, hF4⟩)
              | (go_at_call 8; (with_reducible refine (HWK.out _).mono ?_); rintro e v5 ⟨rfl, hF5⟩))
            go_ret
            exact ⟨rfl, (hE3.trans hF4).trans hF5⟩
      · have hdn : ∀ d, mayB d = true → encL [] d ≠ S := fun d h1 h2 => hd ⟨d, h1, h2⟩
        have HD := Lib.hid (fun w => decode_no hdn (by omega) w)
        have HF := Lib.hid (fun w => of_no hdn (by omega) w)
        have HSA : Hid (∀ w', Calls Try.prog 15 #[.slice none 0 0, .slice none 0 0] w' fun e w2 => e = .returned (.bool true) ∧ Ext w' w2) := Lib.hid (fun w' => by have := same_ref (c := 0) (c' := 0) (prd_nil w') (prd_nil w') (by omega) (by omega); rwa [decide_eq_true rfl] at this)
        clear hb hm hd hdn
        go_enter Try.func3, Try.ntmps3
        go_wp2_with (first
          | (go_at_call 7; (with_reducible refine HV.out.mono ?_); rintro e w1 ⟨rfl, hE1⟩)
          | (go_at_call 10; (with_reducible refine (HO.out _ hE1).mono ?_); rintro e w2 ⟨A2, c2, rfl, hc2, hP2, hE2⟩)
          | (go_at_call 9; (with_reducible refine (HE.out _ _ _ hP2 hc2).mono ?_); rintro e w3 ⟨rfl, hE3⟩; have hE13 := (hE1.trans hE2).trans hE3)
          | (go_at_call 11; (with_reducible refine (HD.out _).mono ?_); rintro e w4 ⟨rfl, hE4⟩)
          | (go_at_call 12; (with_reducible refine (HF.out _).mono ?_); rintro e w5 ⟨rfl, hE5⟩; have hE15 := (hE13.trans hE4).trans hE5)
          | (go_at_call 13; (with_reducible refine (HMR.out _ hE15).mono ?_); rintro e w6 ⟨rfl, hE6⟩; have hE16 := hE15.trans hE6)
          | (go_at_call 10; (with_reducible refine (HO.out _ hE16).mono ?_); rintro e w7 ⟨A7, c7, rfl, hc7, hP7, hE7⟩)
          | (go_at_call 14; (with_reducible refine (HM.out _ _ _ hP7 hc7).mono ?_); rintro e w8 ⟨rfl, hE8⟩)
          | (go_at_call 15; (with_reducible refine (HSA.out _).mono ?_); rintro e w9 ⟨rfl, hE9⟩; have hE19 := ((hE16.trans hE7).trans hE8).trans hE9))
        clear hP2 hP7 hE1 hE2 hE3 hE4 hE5 hE6 hE7 hE8 hE9 hE13 hE15 hE16 hc2 hc7
        go_loopw [14, 15, 16] (fun lv sv iv wr => ∃ (k t : Nat) (last : Bs), k ≤ n ∧ iv = .int .i64 k ∧ sv = .int .i64 t ∧ lv = .string (Bt last) ∧ Hid (last = keyAt l k) ∧ Hid (t = (encL [] (l.take k)).length) ∧ Hid (t ≤ 10000 * k) ∧ Ext W wr) (fun _ _ iv _ => n - (intOf iv).toNat)
        case atStart => exact ⟨0, 0, [], by omega, rfl, rfl, rfl, Lib.hid rfl, Lib.hid rfl, Lib.hid (by omega), hE19⟩
        case round =>
          clear hE19
          obtain ⟨k, t, last, hk, rfl, rfl, rfl, hla, ht, htb, hE⟩ := hrel
          by_cases hk2 : k < n
          · have kk : (k : Int) < (n : Int) := by omega
            have kk0 : (0 : Int) ≤ (k : Int) := by omega
            have htb2 := htb.out
            obtain ⟨g, o, rfl, c0, c1⟩ := (rd.ext hE).at_ k hk2
            have hst := HST.out k (by rw [HL.out]; exact hk2)
            have hks := keyAt_succ l k
            have hkb := HKB.out k
            have hbd := HBD.out k
            rw [← hla.out] at hst hkb
            obtain ⟨p, hp⟩ : ∃ p, p = l.getD k default := ⟨_, rfl⟩
            rw [← hp] at c0 c1 hst hks hbd
            have hol := oneL_len last p
            have HSZ := Lib.hid (fun w => size_any last p (by omega) (by omega) (by omega) w)
            have HON := Lib.hid (fun w => one_ref last p (by omega) (by omega) (by omega) w)
            have hP : p.val = .agg #[.string (Bt p.k), .string (Bt p.v)] := rfl
            rw [hP] at HSZ HON
            obtain ⟨y, hy⟩ : ∃ y, y = oneL last p := ⟨_, rfl⟩
            rw [← hy] at HSZ HON hst hol
            have y1 : (y.length : Int) = ((Bt y).size : Int) := rfl
            have y2 : ((y.length : Int) == ((Bt y).size : Int)) = true := by simp [y1]
            have t0 : (0 : Int) ≤ (t : Int) := by omega
            have t2 : (t : Int) ≤ 10000000 := by omega
            have t3 : (y.length : Int) ≤ 10000 := by omega
            have t4 : (0 : Int) ≤ (y.length : Int) := by omega
            have HNX : Hid (t + y.length = (encL [] (l.take (k + 1))).length) := Lib.hid (by rw [hst, ← ht.out])
            have HNB : Hid (t + y.length ≤ 10000 * (k + 1)) := Lib.hid (by omega)
            have HKS := Lib.hid hks
            clear hst hkb hbd hp hP hy htb2 hol hks y1
            go_wp2_with (first
              | (go_at_call 16; (with_reducible refine (HSZ.out _).mono ?_); rintro e v1 ⟨rfl, hF1⟩; have d0 := hF1.cellv c0; have d1 := hF1.cellv c1)
              | (go_at_call 17; (with_reducible refine (HON.out _).mono ?_); rintro e v2 ⟨rfl, hF2⟩; have e0 := hF2.cellv d0; have e1 := hF2.cellv d1))
            exact ⟨⟨k + 1, t + y.length, p.k, by omega, rfl, by first | rfl | (congr 1; omega), rfl, Lib.hid HKS.out.symm, HNX, HNB, (hE.trans hF1).trans hF2⟩, by simp [intOf]; omega⟩
          · obtain rfl : k = n := by omega
            have kk : ¬ (k : Int) < (k : Int) := by omega
            have htx : t = X.length := ht.out.trans HFU.out
            have hx1 : ((t : Int) == ((Bt X).size : Int)) = true := by rw [htx]; simp [Bt_size]
            have hx2 : (t == (Bt X).size) = true := by rw [htx]; simp [Bt_size]
            clear ht htb htx
            go_wp2_with (first
              | (go_at_call 18; (with_reducible refine (HB.out _ hE).mono ?_); rintro e v1 ⟨rfl, hF1⟩; have hE1 := hE.trans hF1)
              | (go_at_call 10; (with_reducible refine (HO.out _ hE1).mono ?_); rintro e v2 ⟨B2, b2, rfl, hb2, hQ2, hF2⟩)
              | (go_at_call 19; (with_reducible refine (HS.out _ _ _ hQ2).mono ?_); rintro e v3 ⟨rfl, hF3⟩; have hE3 := (hE1.trans hF2).trans hF3)
              | (go_at_call 20; (with_reducible refine (HSR.out _ hE3).mono ?_); rintro e v4 ⟨rfl, hF4⟩)
              | (go_at_call 8; (with_reducible refine (HWK.out _).mono ?_); rintro e v5 ⟨rfl, hF5⟩))
            go_ret
            exact ⟨rfl, (hE3.trans hF4).trans hF5⟩
