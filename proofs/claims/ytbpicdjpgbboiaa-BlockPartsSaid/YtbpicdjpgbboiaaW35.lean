import Derived.Test.YtbpicdjpgbboiaaW33
namespace Go.Proofs.Ytbpicdjpgbboiaa
open Go.RowKit Go.Nb
theorem PRd.take {w : World} {A : Option Addr} {n m : Nat} {l : List Pr} (h : PRd w A n l) (hm : m ≤ n) : PRd w A m (l.take m) := by
  refine ⟨by rw [List.length_take, h.1]; omega, fun h0 => ?_⟩
  obtain ⟨g, o, ha, hc⟩ := h.2 (by omega)
  refine ⟨g, o, ha, fun i j hi hj => ?_⟩
  rw [hc i j (by omega) hj]
  unfold prF
  rw [List.getD_eq_getElem?_getD, List.getD_eq_getElem?_getD, List.getElem?_take, if_pos hi]
theorem enc_step {l : List Pr} {k : Nat} (h1 : 1 ≤ k) (hk : k < l.length) : (encL [] (l.take (k + 1))).length = (encL [] (l.take k)).length + (oneL (l.getD (k - 1) default).k (l.getD k default)).length := by
  rw [List.take_succ_eq_append_getElem hk, encL_snoc, List.length_append]
  have e : l.getD k default = l[k] := by rw [List.getD_eq_getElem?_getD, List.getElem?_eq_getElem hk]; rfl
  have hne : l.take k ≠ [] := by
    intro h0
    have := congrArg List.length h0
    rw [List.length_take, List.length_nil] at this
    omega
  rw [lastK_at _ _ hne, e]
  have hl : (l.take k).length - 1 = k - 1 := by rw [List.length_take]; omega
  rw [hl, List.getD_eq_getElem?_getD, List.getElem?_take, if_pos (by omega), ← List.getD_eq_getElem?_getD]
set_option maxRecDepth 100000 in
theorem blockParts_walk (A : Option Addr) (n c : Nat) (l : List Pr) (a : Int) (W : World) (rd : PRd W A n l) (mm : n ≤ maxLen) (ok : PrOk n c l) (wa : (Lit.int .u16 a).wf = true) : Calls Try.prog 6 #[.slice A n c, .int .u16 a] W fun e w' => e = .returned (.bool true) ∧ Ext W w' := by
  have HV := heavy_any (c := c) rd mm
  have HWK := Lib.hid (fun w => works_any w)
  have hTB := toList_Bt
  have hcap : n ≤ c := ok.1
  obtain ⟨x, rfl, hx⟩ : ∃ x : Nat, a = x ∧ x < 65536 := by
    have h0 : IntKind.u16.min ≤ a ∧ a ≤ IntKind.u16.max := by simpa [Lit.wf] using wa
    have h1 : 0 ≤ a ∧ a ≤ 65535 := h0
    exact ⟨a.toNat, by omega, by omega⟩
  clear wa ok
  cases hb : heavyB l
  case true =>
    rw [hb] at HV
    have HV := Lib.hid HV
    clear hb
    go_enter Try.func6, Try.ntmps6
    go_wp2_with (first
      | (go_at_call 7; (with_reducible refine HV.out.mono ?_); rintro e w1 ⟨rfl, hE1⟩)
      | (go_at_call 8; (with_reducible refine (HWK.out _).mono ?_); rintro e w2 ⟨rfl, hE2⟩))
    go_ret
    exact ⟨rfl, hE1.trans hE2⟩
  case false =>
    have hn : n ≤ 500 := by rw [← rd.1]; exact light_len hb
    rw [hb] at HV
    have HV := Lib.hid HV
    by_cases hn2 : n < 2
    · have t1 : decide ((n : Int) < 2) = true := by simp; omega
      clear hb
      go_enter Try.func6, Try.ntmps6
      go_wp2_with (first
        | (go_at_call 7; (with_reducible refine HV.out.mono ?_); rintro e w1 ⟨rfl, hE1⟩)
        | (go_at_call 8; (with_reducible refine (HWK.out _).mono ?_); rintro e w2 ⟨rfl, hE2⟩))
      go_ret
      exact ⟨rfl, hE1.trans hE2⟩
    · have t1 : decide ((n : Int) < 2) = false := by simp; omega
      have HO : Hid (∀ w', Ext W w' → Calls Try.prog 10 #[.slice A n c] w' fun e w2 => ∃ A' c', e = .returned (.slice A' n c') ∧ n ≤ c' ∧ PRd w2 A' n l ∧ Ext w' w2) := Lib.hid (fun w' hE => own_any (rd.ext hE) (by omega))
      cases hm : mayB l
      case false =>
        have HM : Hid (∀ w' A' c', PRd w' A' n l → n ≤ c' → Calls Try.prog 14 #[.slice A' n c'] w' fun e w2 => e = .returned (.bool false) ∧ Ext w' w2) := Lib.hid (fun w' A' c' h1 h2 => by have := may_any h1 (by omega) h2; rwa [hm] at this)
        clear hb hm
        go_enter Try.func6, Try.ntmps6
        go_wp2_with (first
          | (go_at_call 7; (with_reducible refine HV.out.mono ?_); rintro e w1 ⟨rfl, hE1⟩)
          | (go_at_call 10; (with_reducible refine (HO.out _ hE1).mono ?_); rintro e w2 ⟨A2, c2, rfl, hc2, hP2, hE2⟩)
          | (go_at_call 14; (with_reducible refine (HM.out _ _ _ hP2 hc2).mono ?_); rintro e w3 ⟨rfl, hE3⟩)
          | (go_at_call 8; (with_reducible refine (HWK.out _).mono ?_); rintro e w4 ⟨rfl, hE4⟩))
        go_ret
        exact ⟨rfl, ((hE1.trans hE2).trans hE3).trans hE4⟩
      case true =>
        have HM : Hid (∀ w' A' c', PRd w' A' n l → n ≤ c' → Calls Try.prog 14 #[.slice A' n c'] w' fun e w2 => e = .returned (.bool true) ∧ Ext w' w2) := Lib.hid (fun w' A' c' h1 h2 => by have := may_any h1 (by omega) h2; rwa [hm] at this)
        have hfit := light_fits hb hm
        obtain ⟨m, hmm⟩ : ∃ m, m = x % (n - 1) + 1 := ⟨_, rfl⟩
        have hmod : x % (n - 1) < n - 1 := Nat.mod_lt _ (by omega)
        have hm1 : 1 ≤ m ∧ m < n := by omega
        have hmI : (x : Int) % ((n : Int) - 1) + 1 = (m : Int) := by
          rw [hmm, show ((n : Int) - 1) = ((n - 1 : Nat) : Int) by omega]
          push_cast
          rfl
        have hmayT : mayB (l.take m) = true := mayB_take hm hm1.1
        have hpre : encL [] (l.take m) ++ encL (lastK [] (l.take m)) (l.drop m) = encL [] l := by rw [← encL_append, List.take_append_drop]
        have hlenT : (encL [] (l.take m)).length ≤ (encL [] l).length := by rw [← hpre, List.length_append]; omega
        have hfitT : Fits (l.take m) := fits_of hmayT (by omega)
        have HE1 : Hid (∀ w' A' c', PRd w' A' n l → n ≤ c' → Calls Try.prog 9 #[.slice A' n c'] w' fun e w2 => e = .returned (.tuple #[.string (Bt (encL [] l)), .int .i64 0]) ∧ Ext w' w2) := Lib.hid (fun w' A' c' h1 h2 => by have := encode_any h1 (by omega) h2 (fun _ => hfit.1); rwa [if_pos hm] at this)
        have HE2 : Hid (∀ w' A' c', PRd w' A' m (l.take m) → m ≤ c' → Calls Try.prog 9 #[.slice A' m c'] w' fun e w2 => e = .returned (.tuple #[.string (Bt (encL [] (l.take m))), .int .i64 0]) ∧ Ext w' w2) := Lib.hid (fun w' A' c' h1 h2 => by have := encode_any h1 (by omega) h2 (fun _ => hfitT); rwa [if_pos hmayT] at this)
        have HO2 : Hid (∀ w', Ext W w' → Calls Try.prog 10 #[.slice A m c] w' fun e w2 => ∃ A' c', e = .returned (.slice A' m c') ∧ m ≤ c' ∧ PRd w2 A' m (l.take m) ∧ Ext w' w2) := Lib.hid (fun w' hE => own_any ((rd.take (by omega)).ext hE) (by omega))
        have HST := Lib.hid (fun k h1 h2 => enc_step (l := l) (k := k) h1 h2)
        have hfull : (encL [] (l.take n)).length = (encL [] l).length := by rw [← rd.1, List.take_length]
        have HFU := Lib.hid hfull
        obtain ⟨X, hX⟩ : ∃ X, X = encL [] l := ⟨_, rfl⟩
        obtain ⟨Y, hY⟩ : ∃ Y, Y = encL [] (l.take m) := ⟨_, rfl⟩
        rw [← hX] at HE1 HFU hpre hlenT hfit
        rw [← hY] at HE2 hpre hlenT
        have hXY : X.take Y.length = Y := by rw [← hpre]; simp
        have hsl := slice_hi X Y.length hlenT
        have hsl2 := slice_hi2 X Y.length hlenT
        rw [hXY] at hsl hsl2
        have hex : (Bt X).extract 0 (Bt Y).size = Bt Y := by rw [Bt_extract]; show Bt (X.take Y.length) = _; rw [hXY]
        have HXL := Lib.hid hfit.2
        have HYL := Lib.hid hlenT
        have HYD := Lib.hid hY
        have HBD := Lib.hid (getD_bad (bad_of_may hm))
        obtain ⟨g, o, rfl, hcell⟩ := rd.2.at_ (by omega) (by omega)
        have m0 : (0 : Int) ≤ (m : Int) := by omega
        have m1 : (m : Int) ≤ (c : Int) := by omega
        have m2 : m ≤ c := by omega
        have n1 : (0 : Int) < (n : Int) - 1 := by omega
        have n2 : (n : Int) - 1 ≠ 0 := by omega
        have HL := Lib.hid rd.1
        clear hb hm hX hY hmm hmod hmayT hpre hlenT hfitT hfull hXY hfit hcell
        go_enter Try.func6, Try.ntmps6
        go_wp2_with (first
          | (go_at_call 7; (with_reducible refine HV.out.mono ?_); rintro e w1 ⟨rfl, hE1⟩)
          | (go_at_call 10; (with_reducible refine (HO.out _ hE1).mono ?_); rintro e w2 ⟨A2, c2, rfl, hc2, hP2, hE2⟩)
          | (go_at_call 14; (with_reducible refine (HM.out _ _ _ hP2 hc2).mono ?_); rintro e w3 ⟨rfl, hE3⟩; have hE13 := (hE1.trans hE2).trans hE3)
          | (go_at_call 10; (with_reducible refine (HO.out _ hE13).mono ?_); rintro e w4 ⟨A4, c4, rfl, hc4, hP4, hE4⟩)
          | (go_at_call 9; (with_reducible refine (HE1.out _ _ _ hP4 hc4).mono ?_); rintro e w5 ⟨rfl, hE5⟩; have hE15 := (hE13.trans hE4).trans hE5)
          | (go_at_call 10; (with_reducible refine (HO2.out _ hE15).mono ?_); rintro e w6 ⟨A6, c6, rfl, hc6, hP6, hE6⟩)
          | (go_at_call 9; (with_reducible refine (HE2.out _ _ _ hP6 hc6).mono ?_); rintro e w7 ⟨rfl, hE7⟩; have hE17 := (hE15.trans hE6).trans hE7))
        have HNN := Lib.hid hm1
        go_loopw [10, 11] (fun sv iv wr => ∃ k s : Nat, m ≤ k ∧ k ≤ n ∧ iv = .int .i64 k ∧ sv = .int .i64 s ∧ Hid ((encL [] (l.take k)).length = Y.length + s) ∧ Hid (s ≤ 10000 * k) ∧ Ext W wr) (fun _ iv _ => n - (intOf iv).toNat)
        case atStart => exact ⟨m, 0, by omega, by omega, rfl, rfl, Lib.hid (by rw [HYD.out]; rfl), Lib.hid (by omega), hE17⟩
        case round =>
          clear hE1 hE2 hE3 hE4 hE5 hE6 hE7 hE13 hE15 hE17 hP2 hP4 hP6
          obtain ⟨k, s, hmk, hk, rfl, rfl, hs, hsb, hE⟩ := hrel
          by_cases hk2 : k < n
          · have kk : (k : Int) < (n : Int) := by omega
            have kk0 : (0 : Int) ≤ (k : Int) := by omega
            have hsb2 := hsb.out
            have hst := HST.out k (by omega) (by rw [HL.out]; exact hk2)
            obtain ⟨j, hj⟩ : ∃ j, j = k - 1 := ⟨_, rfl⟩
            have jk : (k : Int) - 1 = (j : Int) := by omega
            have hwr : IntKind.i64.wrap ((k : Int) - 1) = (j : Int) := by
              rw [jk]
              exact IntWalk.i64_in _ (by omega)
            have jn : (j : Int) < (n : Int) := by omega
            have hwj : IntKind.i64.wrap (j : Int) = (j : Int) := IntWalk.i64_in _ (by omega)
            clear jk
            have j0 : (0 : Int) ≤ (j : Int) := by omega
            have jnn : j < n := by omega
            have jd : decide ((j : Int) < (n : Int)) = true := by simp; omega
            obtain ⟨g1, o1, hA, c0, c1⟩ := (rd.ext hE).at_ k hk2
            cases hA
            obtain ⟨g2, o2, hA, b0, b1⟩ := (rd.ext hE).at_ j (by omega)
            cases hA
            rw [← hj] at hst
            have hbp := HBD.out k
            have hbq := HBD.out j
            obtain ⟨p, hp⟩ : ∃ p, p = l.getD k default := ⟨_, rfl⟩
            obtain ⟨q, hq⟩ : ∃ q, q = l.getD j default := ⟨_, rfl⟩
            rw [← hp] at c0 c1 hst hbp
            rw [← hq] at b0 b1 hst hbq
            have HSZ := Lib.hid (fun w => size_any q.k p (by omega) (by omega) (by omega) w)
            have hP : p.val = .agg #[.string (Bt p.k), .string (Bt p.v)] := rfl
            rw [hP] at HSZ
            have hzl : (oneL q.k p).length ≤ 10000 := by
              unfold oneL
              have u := (upL_len2 (shL q.k p.k)).2
              have t1 := textL_len (p.k.drop (shL q.k p.k))
              have t2 := textL_len p.v
              rw [List.length_drop] at t1
              simp only [List.length_append]
              omega
            obtain ⟨z, hz⟩ : ∃ z, z = (oneL q.k p).length := ⟨_, rfl⟩
            rw [← hz] at HSZ hst hzl
            have hs0 : (0 : Int) ≤ (s : Int) := by omega
            have hs1 : (s : Int) ≤ 10000000 := by omega
            have hz0 : (0 : Int) ≤ (z : Int) := by omega
            have hz1 : (z : Int) ≤ 10000 := by omega
            have hws : IntKind.i64.wrap ((s : Int) + (z : Int)) = ((s + z : Nat) : Int) := IntWalk.i64_in _ (by omega)
            have HNX : Hid ((encL [] (l.take (k + 1))).length = Y.length + (s + z)) := Lib.hid (by rw [hst, hs.out]; omega)
            have HNB : Hid (s + z ≤ 10000 * (k + 1)) := Lib.hid (by omega)
            clear hst hbp hbq hp hq hP hz hj hsb2
            go_wp2
            go_region_held3 (fun w' => w'.cell? ⟨g, o + j * 2, none⟩ = some (.string (Bt q.k)) ∧ w'.cell? ⟨g, o + k * 2, none⟩ = some (.string (Bt p.k)) ∧ w'.cell? ⟨g, o + k * 2 + 1, none⟩ = some (.string (Bt p.v)))
              (first | exact ⟨b0, c0, c1⟩ | exact ⟨hE8.cellv b0, hE8.cellv c0, hE8.cellv c1⟩ | go_keep)
              (first | (go_at_call 16; (with_reducible refine (HSZ.out _).mono ?_); rintro e w8 ⟨rfl, hE8⟩))
            go_wp2
            exact ⟨⟨k + 1, s + z, by omega, by omega, rfl, by first | rfl | rw [hws], HNX, HNB, (hE.drew).trans hE8⟩, by simp [intOf]; omega⟩
          · obtain rfl : k = n := by omega
            have kk : ¬ (k : Int) < (k : Int) := by omega
            have hsum : Y.length + s = X.length := by rw [← HFU.out]; exact hs.out.symm
            have hs0 : (0 : Int) ≤ (s : Int) := by omega
            have hxl := HXL.out
            have s1 : ((Bt Y).size : Int) + (s : Int) = ((Bt X).size : Int) := by rw [Bt_size, Bt_size]; omega
            have s2 : ((Bt Y).size : Int) ≤ ((Bt X).size : Int) := by rw [Bt_size, Bt_size]; omega
            have s3 : (Bt Y).size ≤ (Bt X).size := by rw [Bt_size, Bt_size]; omega
            have s5 : ((Bt X).size : Int) ≤ 32768 := by rw [Bt_size]; omega
            clear hsum hxl hs hsb
            go_wp2_with (go_at_call 8; (with_reducible refine (HWK.out _).mono ?_); rintro e w9 ⟨rfl, hE9⟩)
            go_ret
            exact ⟨rfl, hE.trans hE9⟩
