import Derived.Test.YtpengejnjmicnaaU10
import Derived.Test.YtpengejnjmicnaaU11
namespace Go.Proofs.Ytpengejnjmicnaa
open Go.RowKit Go.Nb
theorem flat_len {S : Bs} {bs : List (List Pr)} (h : TabIs S bs) : bs.flatten.length ≤ S.length := by
  have h1 := enc_ge bs
  have h2 := txt_len bs
  rw [h.txt] at h2
  omega
set_option maxRecDepth 100000 in
theorem tableOpens_walk (s key : ByteArray) (W : World) (ws : s.size ≤ maxLen) (wk : key.size ≤ maxLen) : Calls Try.prog 4 #[.string s, .string key] W fun e w' => e = .returned (.bool true) ∧ Ext W w' := by
  have HWK := Lib.hid (fun w => works_any w)
  obtain ⟨S, rfl⟩ : ∃ S, s = Bt S := ⟨Ls s, (Bt_Ls s).symm⟩
  obtain ⟨K, rfl⟩ : ∃ K, key = Bt K := ⟨Ls key, (Bt_Ls key).symm⟩
  unfold maxLen at ws wk
  have zs : (Bt S).size = S.length := rfl
  have zk : (Bt K).size = K.length := rfl
  have zsi : ((Bt S).size : Int) = (S.length : Int) := rfl
  have zki : ((Bt K).size : Int) = (K.length : Int) := rfl
  rw [zs] at ws
  rw [zk] at wk
  by_cases h1 : 16384 < S.length
  · by_cases h2 : S.length ≤ 131072
    · have t1 : decide ((16384 : Int) < (S.length : Int)) = true := by simp; omega
      have t2 : decide ((S.length : Int) ≤ 131072) = true := by simp; omega
      go_enter Try.func4, Try.ntmps4
      go_wp2_with (go_at_call 10; (with_reducible refine (HWK.out _).mono ?_); rintro e w5 ⟨rfl, hE5⟩)
      go_ret
      exact ⟨rfl, hE5⟩
    · have t1 : decide ((16384 : Int) < (S.length : Int)) = true := by simp; omega
      have t2 : decide ((S.length : Int) ≤ 131072) = false := by simp; omega
      by_cases h3 : 2048 < K.length
      · have t3 : decide ((2048 : Int) < (K.length : Int)) = true := by simp; omega
        go_enter Try.func4, Try.ntmps4
        go_wp2_with (go_at_call 10; (with_reducible refine (HWK.out _).mono ?_); rintro e w5 ⟨rfl, hE5⟩)
        go_ret
        exact ⟨rfl, hE5⟩
      · have t3 : decide ((2048 : Int) < (K.length : Int)) = false := by simp; omega
        by_cases h4 : 131172 < S.length
        · have t4 : decide ((131172 : Int) < (S.length : Int)) = true := by simp; omega
          go_enter Try.func4, Try.ntmps4
          go_wp2_with (go_at_call 10; (with_reducible refine (HWK.out _).mono ?_); rintro e w5 ⟨rfl, hE5⟩)
          go_ret
          exact ⟨rfl, hE5⟩
        · have t4 : decide ((131172 : Int) < (S.length : Int)) = false := by simp; omega
          have HO := Lib.hid (fun w => open_long (S := S) (by omega) w)
          have HR := Lib.hid (fun w => ropen_long (S := S) (by omega) w)
          clear h1 h2 h3 h4
          go_enter Try.func4, Try.ntmps4
          go_wp2_with (first
            | (go_at_call 14; (with_reducible refine (HO.out _).mono ?_); rintro e w1 ⟨rfl, hE1⟩)
            | (go_at_call 15; (with_reducible refine (HR.out _).mono ?_); rintro e w2 ⟨rfl, hE2⟩)
            | (go_at_call 10; (with_reducible refine (HWK.out _).mono ?_); rintro e w5 ⟨rfl, hE5⟩))
          go_ret
          exact ⟨rfl, (hE1.trans hE2).trans hE5⟩
  · have t1 : decide ((16384 : Int) < (S.length : Int)) = false := by simp; omega
    by_cases h3 : 2048 < K.length
    · have t3 : decide ((2048 : Int) < (K.length : Int)) = true := by simp; omega
      go_enter Try.func4, Try.ntmps4
      go_wp2_with (go_at_call 10; (with_reducible refine (HWK.out _).mono ?_); rintro e w5 ⟨rfl, hE5⟩)
      go_ret
      exact ⟨rfl, hE5⟩
    · have t3 : decide ((2048 : Int) < (K.length : Int)) = false := by simp; omega
      have t4 : decide ((131172 : Int) < (S.length : Int)) = false := by simp; omega
      by_cases hex : ∃ bs, TabIs S bs
      · obtain ⟨bs, hbs⟩ := hex
        have hk := hbs.tok (by omega)
        have hfl := flat_len hbs
        have HO := Lib.hid (fun w => tbl_of hbs (by omega) w)
        have HR : Hid (∀ w, Calls Try.prog 15 #[.string (Bt S)] w fun e w' => ∃ A c, e = .returned (.tuple #[.slice A bs.flatten.length c, .int .i64 bs.length, .int .i64 0]) ∧ bs.flatten.length ≤ c ∧ PRd w' A bs.flatten.length bs.flatten ∧ Ext w w') := Lib.hid (fun w => (ropen_any (by omega) w).mono (by
          rintro e w' (⟨bs2, A, c, h1, h2, h3, h4, h5⟩ | ⟨h1, _⟩)
          · rw [tab_one (by omega) hbs h1]
            exact ⟨A, c, h2, h3, h4, h5⟩
          · exact absurd hbs (h1 bs)))
        have HA := Lib.hid (fun w gt A c (h : Tbl w gt bs) (hP : PRd w A bs.flatten.length bs.flatten) (hc : bs.flatten.length ≤ c) => answers_any (key := K) h hk (by omega) hP hc)
        generalize bs.length = k at *
        generalize bs.flatten.length = n at *
        clear h1 h3 hfl
        go_enter Try.func4, Try.ntmps4
        go_wp2_with (first
          | (go_at_call 14; (with_reducible refine (HO.out _).mono ?_); rintro e w1 ⟨g1, rfl, hT1, hE1⟩)
          | (go_at_call 15; (with_reducible refine (HR.out _).mono ?_); rintro e w2 ⟨A2, c2, rfl, hc2, hP2, hE2⟩; have hT2 := hT1.ext hE2)
          | (go_at_call 16; (with_reducible refine (HA.out _ _ _ _ hT2 hP2 hc2).mono ?_); rintro e w3 ⟨rfl, hE3⟩)
          | (go_at_call 10; (with_reducible refine (HWK.out _).mono ?_); rintro e w5 ⟨rfl, hE5⟩))
        go_ret
        exact ⟨rfl, ((hE1.trans hE2).trans hE3).trans hE5⟩
      · have hno : ∀ bs, ¬ TabIs S bs := fun bs h => hex ⟨bs, h⟩
        have HO := Lib.hid (fun w => tbl_no hno (by omega) w)
        have HR : Hid (∀ w, Calls Try.prog 15 #[.string (Bt S)] w fun e w' => e = .returned (.tuple #[.slice none 0 0, .int .i64 0, .int .i64 8]) ∧ Ext w w') := Lib.hid (fun w => (ropen_any (by omega) w).mono (by
          rintro e w' (⟨bs2, A, c, h1, _⟩ | ⟨_, h2, h3⟩)
          · exact absurd h1 (hno bs2)
          · exact ⟨h2, h3⟩))
        clear h1 h3 hex hno
        go_enter Try.func4, Try.ntmps4
        go_wp2_with (first
          | (go_at_call 14; (with_reducible refine (HO.out _).mono ?_); rintro e w1 ⟨rfl, hE1⟩)
          | (go_at_call 15; (with_reducible refine (HR.out _).mono ?_); rintro e w2 ⟨rfl, hE2⟩)
          | (go_at_call 10; (with_reducible refine (HWK.out _).mono ?_); rintro e w5 ⟨rfl, hE5⟩))
        go_ret
        exact ⟨rfl, (hE1.trans hE2).trans hE5⟩
