import Derived.Test.YtbpicdjpgbboiaaW33
namespace Go.Proofs.Ytbpicdjpgbboiaa
open Go.RowKit Go.Nb
theorem seek_iff {l : List Pr} {K : Bs} (h : upB l = true) (k : Nat) (hk : k < l.length) : Op.bytesLess (l.getD k default).k K = decide (k < seekL K l) := by
  rcases Nat.lt_or_ge k (seekL K l) with h1 | h1
  · rw [seekL_lt K l k h1]; simp [h1]
  · have h2 := seekL_at K l (by omega)
    cases hq : Op.bytesLess (l.getD k default).k K
    · simp; omega
    · rw [less_mono h h1 hk hq] at h2; cases h2
set_option maxRecDepth 100000 in
theorem blockSeeks_walk (A : Option Addr) (n c : Nat) (l : List Pr) (key : ByteArray) (W : World) (rd : PRd W A n l) (mm : n ≤ maxLen) (ok : PrOk n c l) (wk : key.size ≤ maxLen) : Calls Try.prog 5 #[.slice A n c, .string key] W fun e w' => e = .returned (.bool true) ∧ Ext W w' := by
  obtain ⟨K, hK⟩ : ∃ K, K = Ls key := ⟨_, rfl⟩
  have hkey : key = Bt K := by rw [hK]; exact (Bt_Ls key).symm
  subst hkey
  clear hK
  unfold maxLen at wk
  have HV := heavy_any (c := c) rd mm
  have HWK := Lib.hid (fun w => works_any w)
  have hTB := toList_Bt
  cases hb : heavyB l
  case true =>
    rw [hb] at HV
    have HV := Lib.hid HV
    clear hb
    go_enter Try.func5, Try.ntmps5
    go_wp2_with (first
      | (go_at_call 7; (with_reducible refine HV.out.mono ?_); rintro e w1 ⟨rfl, hE1⟩)
      | (go_at_call 8; (with_reducible refine (HWK.out _).mono ?_); rintro e w2 ⟨rfl, hE2⟩))
    go_ret
    exact ⟨rfl, hE1.trans hE2⟩
  case false =>
    have hn : n ≤ 500 := by rw [← rd.1]; exact light_len hb
    rw [hb] at HV
    have HV := Lib.hid HV
    by_cases hkl : 4096 < K.length
    · have t1 : decide ((4096 : Int) < ((Bt K).size : Int)) = true := by rw [Bt_size]; simp; omega
      have t2 : decide (4096 < (Bt K).size) = true := by rw [Bt_size]; simp; omega
      clear hb
      go_enter Try.func5, Try.ntmps5
      go_wp2_with (first
        | (go_at_call 7; (with_reducible refine HV.out.mono ?_); rintro e w1 ⟨rfl, hE1⟩)
        | (go_at_call 8; (with_reducible refine (HWK.out _).mono ?_); rintro e w2 ⟨rfl, hE2⟩))
      go_ret
      exact ⟨rfl, hE1.trans hE2⟩
    · have t1 : decide ((4096 : Int) < ((Bt K).size : Int)) = false := by rw [Bt_size]; simp; omega
      have t2 : decide (4096 < (Bt K).size) = false := by rw [Bt_size]; simp; omega
      have HO : Hid (∀ w', Ext W w' → Calls Try.prog 10 #[.slice A n c] w' fun e w2 => ∃ A' c', e = .returned (.slice A' n c') ∧ n ≤ c' ∧ PRd w2 A' n l ∧ Ext w' w2) := Lib.hid (fun w' hE => own_any (rd.ext hE) (by omega))
      cases hm : mayB l
      case false =>
        have HM : Hid (∀ w' A' c', PRd w' A' n l → n ≤ c' → Calls Try.prog 14 #[.slice A' n c'] w' fun e w2 => e = .returned (.bool false) ∧ Ext w' w2) := Lib.hid (fun w' A' c' h1 h2 => by have := may_any h1 (by omega) h2; rwa [hm] at this)
        clear hb hm
        go_enter Try.func5, Try.ntmps5
        go_wp2_with (first
          | (go_at_call 7; (with_reducible refine HV.out.mono ?_); rintro e w1 ⟨rfl, hE1⟩)
          | (go_at_call 10; (with_reducible refine (HO.out _ hE1).mono ?_); rintro e w2 ⟨A2, c2, rfl, hc2, hP2, hE2⟩)
          | (go_at_call 14; (with_reducible refine (HM.out _ _ _ hP2 hc2).mono ?_); rintro e w3 ⟨rfl, hE3⟩)
          | (go_at_call 8; (with_reducible refine (HWK.out _).mono ?_); rintro e w4 ⟨rfl, hE4⟩))
        go_ret
        exact ⟨rfl, ((hE1.trans hE2).trans hE3).trans hE4⟩
      case true =>
        have HM : Hid (∀ w' A' c', PRd w' A' n l → n ≤ c' → Calls Try.prog 14 #[.slice A' n c'] w' fun e w2 => e = .returned (.bool true) ∧ Ext w' w2) := Lib.hid (fun w' A' c' h1 h2 => by have := may_any h1 (by omega) h2; rwa [hm] at this)
        have hsk := fun k hk => seek_iff (K := K) (may_up hm) k hk
        have hle := seekL_le K l
        rw [rd.1] at hle
        have HS : Hid (∀ w' A' c', PRd w' A' n l → Calls Try.prog 19 #[.slice A' n c', .string (Bt K)] w' fun e w2 => e = .returned (.int .i64 (seekL K l)) ∧ Ext w' w2) := Lib.hid (fun w' A' c' h1 => seek_any h1 (by omega) (may_up hm) K)
        obtain ⟨m, hmm⟩ : ∃ m, m = seekL K l := ⟨_, rfl⟩
        rw [← hmm] at hsk hle HS
        have HSK := Lib.hid hsk
        have m0 : (0 : Int) ≤ (m : Int) := by omega
        have m1 : decide ((m : Int) < 0) = false := by simp
        have m2 : decide ((n : Int) < (m : Int)) = false := by simp; omega
        have m3 : decide (n < m) = false := by simp; omega
        have HL := Lib.hid rd.1
        clear hb hm hsk hmm
        go_enter Try.func5, Try.ntmps5
        go_wp2_with (first
          | (go_at_call 7; (with_reducible refine HV.out.mono ?_); rintro e w1 ⟨rfl, hE1⟩)
          | (go_at_call 10; (with_reducible refine (HO.out _ hE1).mono ?_); rintro e w2 ⟨A2, c2, rfl, hc2, hP2, hE2⟩)
          | (go_at_call 14; (with_reducible refine (HM.out _ _ _ hP2 hc2).mono ?_); rintro e w3 ⟨rfl, hE3⟩; have hE13 := (hE1.trans hE2).trans hE3)
          | (go_at_call 10; (with_reducible refine (HO.out _ hE13).mono ?_); rintro e w4 ⟨A4, c4, rfl, hc4, hP4, hE4⟩)
          | (go_at_call 19; (with_reducible refine (HS.out _ _ _ hP4).mono ?_); rintro e w5 ⟨rfl, hE5⟩; have hE15 := (hE13.trans hE4).trans hE5))
        go_loopw [6] (fun iv wr => ∃ k : Nat, k ≤ n ∧ iv = .int .i64 k ∧ Ext W wr) (fun iv _ => n - (intOf iv).toNat)
        case atStart => exact ⟨0, by omega, rfl, hE15⟩
        case round =>
          clear hE1 hE2 hE3 hE4 hE5 hE13 hE15 hP2 hP4
          obtain ⟨k, hk, rfl, hE⟩ := hrel
          by_cases hk2 : k < n
          · have kk : (k : Int) < (n : Int) := by omega
            have kk0 : (0 : Int) ≤ (k : Int) := by omega
            obtain ⟨g, o, rfl, c0, c1⟩ := (rd.ext hE).at_ k hk2
            have hcmp := HSK.out k (by rw [HL.out]; exact hk2)
            obtain ⟨p, hp⟩ : ∃ p, p = l.getD k default := ⟨_, rfl⟩
            rw [← hp] at c0 c1 hcmp
            clear hp
            by_cases hkm : k < m
            · have t3 : decide ((k : Int) < (m : Int)) = true := by simp; omega
              have t4 : decide (k < m) = true := by simp; omega
              rw [t4] at hcmp
              clear hkm
              go_wp2
              exact ⟨⟨k + 1, by omega, rfl, hE⟩, by simp [intOf]; omega⟩
            · have t3 : decide ((k : Int) < (m : Int)) = false := by simp; omega
              have t4 : decide (k < m) = false := by simp; omega
              rw [t4] at hcmp
              clear hkm
              go_wp2
              exact ⟨⟨k + 1, by omega, rfl, hE⟩, by simp [intOf]; omega⟩
          · have kk : ¬ (k : Int) < (n : Int) := by omega
            go_wp2_with (go_at_call 8; (with_reducible refine (HWK.out _).mono ?_); rintro e w6 ⟨rfl, hE6⟩)
            go_ret
            exact ⟨rfl, hE.trans hE6⟩
