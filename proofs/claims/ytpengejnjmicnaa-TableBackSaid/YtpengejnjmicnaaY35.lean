import Derived.Test.YtpengejnjmicnaaU10
import Derived.Test.YtpengejnjmicnaaY0
import Derived.Test.YtpengejnjmicnaaU11
namespace Go.Proofs.Ytpengejnjmicnaa
open Go.RowKit Go.Nb
theorem u16_nat {a : Int} (wa : (Lit.int .u16 a).wf = true) : ∃ x : Nat, a = x ∧ x < 65536 := by
  have h0 : IntKind.u16.min ≤ a ∧ a ≤ IntKind.u16.max := by simpa [Lit.wf] using wa
  have h1 : 0 ≤ a ∧ a ≤ 65535 := h0
  exact ⟨a.toNat, by omega, by omega⟩
/-- What is known of one build of good pairs. -/
theorem back_one {A : Option Addr} {n c : Nat} {l : List Pr} {W : World} (rd : PRd W A n l) (hnc : n ≤ c) (hli : Light l) (hl : l ≠ []) (hg : goodL l = true) (K : Bs) (p : Nat) (hp : p < 65536) :
    ∃ X k, X = Bt (txt (blkL ((p : Int) + 1) l)) ∧ k = (blkL ((p : Int) + 1) l).length ∧
      (∀ w A' c', PRd w A' n l → n ≤ c' → Calls Try.prog 11 #[.slice A' n c', .int .i64 ((p : Int) + 1)] w fun e w' => e = .returned (.tuple #[.string X, .int .i64 0]) ∧ Ext w w') ∧
      (∀ w, Calls Try.prog 14 #[.string X] w fun e w' => ∃ gt, e = .returned (.tuple #[.pointer (some ⟨gt, 0, none⟩), .int .i64 0]) ∧ Tbl w' gt (blkL ((p : Int) + 1) l) ∧ Ext w w') ∧
      (∀ w gt, Tbl w gt (blkL ((p : Int) + 1) l) → Calls Try.prog 17 #[.pointer (some ⟨gt, 0, none⟩)] w fun e w' => e = .returned (.int .i64 (k : Nat)) ∧ Ext w w') ∧
      (∀ w gt, Tbl w gt (blkL ((p : Int) + 1) l) → Ext W w → Calls Try.prog 16 #[.pointer (some ⟨gt, 0, none⟩), .slice A n c, .int .i64 (k : Nat), .string (Bt K)] w fun e w' => e = .returned (.bool true) ∧ Ext w w') := by
  have hln : l.length = n := rd.1
  obtain ⟨b1, t1⟩ := bldR_yes (most := (p : Int) + 1) (by omega) (by omega) hl hg
  have z1 := hli.txt ((p : Int) + 1)
  have hlen := hli.len
  refine ⟨_, _, rfl, rfl, fun w A' c' h hc => ?_, fun w => tbl_of t1 (by omega) w, fun w gt h => tblocks_any h, fun w gt h hE => ?_⟩
  · have := build_all h (by omega) hc ((p : Int) + 1) hli.small (by omega)
    rw [b1] at this
    exact this
  · have hf := blkL_flat ((p : Int) + 1) l
    have := answers_any (key := K) (A := A) (c := c) h (t1.tok (by omega)) (by rw [hf]; omega) (by rw [hf, hln]; exact rd.ext hE) (by rw [hf]; omega)
    rw [hf, hln] at this
    exact this
set_option maxRecDepth 100000 in
theorem tableBack_full (A : Option Addr) (n c : Nat) (l : List Pr) (a b : Int) (key : ByteArray) (W : World) (rd : PRd W A n l) (mm : n ≤ maxLen) (zz : PrOk n c l ∧ ∀ x ∈ l, x.k.length ≤ 2 ^ 47 ∧ x.v.length ≤ 2 ^ 47) (wa : (Lit.int .u16 a).wf = true) (wb : (Lit.int .u16 b).wf = true) (wk : key.size ≤ maxLen) :
    Calls Try.prog 5 #[.slice A n c, .int .u16 a, .int .u16 b, .string key] W fun e w' => e = .returned (.bool true) ∧ Ext W w' := by
  obtain ⟨ok, bu⟩ := zz
  have HWK := Lib.hid (fun w => works_any w)
  have HV := Lib.hid (heavy_any (c := c) rd mm)
  obtain ⟨K, rfl⟩ : ∃ K, key = Bt K := ⟨Ls key, (Bt_Ls key).symm⟩
  obtain ⟨p, rfl, hp⟩ := u16_nat wa
  obtain ⟨q, rfl, hq⟩ := u16_nat wb
  clear wa wb
  unfold maxLen at wk
  have zk : (Bt K).size = K.length := rfl
  have zki : ((Bt K).size : Int) = (K.length : Int) := rfl
  rw [zk] at wk
  cases hh : heavyT l
  · rw [hh] at HV
    by_cases h3 : 2048 < K.length
    · have t3 : decide ((2048 : Int) < (K.length : Int)) = true := by simp; omega
      clear hh ok bu rd mm
      go_enter Try.func5, Try.ntmps5
      go_wp2_with (first
        | (go_at_call 9; (with_reducible refine HV.out.mono ?_); rintro e w1 ⟨rfl, hE1⟩)
        | (go_at_call 10; (with_reducible refine (HWK.out _).mono ?_); rintro e w5 ⟨rfl, hE5⟩))
      go_ret
      exact ⟨rfl, hE1.trans hE5⟩
    · have t3 : decide ((2048 : Int) < (K.length : Int)) = false := by simp; omega
      have hli := light_of2 hh bu
      have hln : l.length = n := rd.1
      have hn : n ≤ 400 := by have := hli.len; omega
      have wp : IntKind.i64.wrap ((p : Int) + 1) = (p : Int) + 1 := IntWalk.i64_in _ (by omega)
      have wq : IntKind.i64.wrap ((q : Int) + 1) = (q : Int) + 1 := IntWalk.i64_in _ (by omega)
      have wp0 : IntKind.i64.wrap (p : Int) = (p : Int) := IntWalk.i64_in _ (by omega)
      have wq0 : IntKind.i64.wrap (q : Int) = (q : Int) := IntWalk.i64_in _ (by omega)
      have HO := Lib.hid (fun w (hE : Ext W w) => own_any (c := c) (rd.ext hE) (by omega))
      rcases good_cases l with hg | ⟨hl, hg⟩
      · have HB := fun most => Lib.hid (fun w A' c' (h : PRd w A' n l) (hc : n ≤ c') => build_all h (by omega) hc most hli.small (by have := hli.txt most; omega))
        have HB1 := HB ((p : Int) + 1)
        have HB2 := HB ((q : Int) + 1)
        rw [bldR_no hg] at HB1 HB2
        clear hh ok bu hli hln hn rd mm HB hg h3
        go_enter Try.func5, Try.ntmps5
        go_wp2_with (first
          | (go_at_call 9; (with_reducible refine HV.out.mono ?_); rintro e w1 ⟨rfl, hE1⟩)
          | (go_at_call 12; (with_reducible refine (HO.out _ hE1).mono ?_); rintro e w2 ⟨A2, c2, rfl, hc2, hP2, hE2⟩)
          | (go_at_call 11; (with_reducible refine (HB1.out _ _ _ hP2 hc2).mono ?_); rintro e w3 ⟨rfl, hE3⟩; replace hE1 := (hE1.trans hE2).trans hE3)
          | (go_at_call 11; (with_reducible refine (HB2.out _ _ _ hP2 hc2).mono ?_); rintro e w4 ⟨rfl, hE3⟩; replace hE1 := (hE1.trans hE2).trans hE3)
          | (go_at_call 10; (with_reducible refine (HWK.out _).mono ?_); rintro e w5 ⟨rfl, hE5⟩))
        go_ret
        exact ⟨rfl, hE1.trans hE5⟩
      · obtain ⟨X1, k1, hX1, hk1, HB1, HO1, HK1, HA1⟩ := back_one rd ok.1 hli hl hg K p hp
        obtain ⟨X2, k2, hX2, hk2, HB2, HO2, HK2, HA2⟩ := back_one rd ok.1 hli hl hg K q hq
        have hkk : p ≤ q → k2 ≤ k1 := fun h => by
          rw [hk1, hk2]
          exact blk_mono (by omega) (fun x hx => by have := hli.small x hx; have := sumKV_mem hx; have := hli.sum; omega)
        have hXX : p = q → X1 = X2 := fun h => by rw [hX1, hX2, h]
        have HB1 := Lib.hid HB1
        have HB2 := Lib.hid HB2
        have HO1 := Lib.hid HO1
        have HO2 := Lib.hid HO2
        have HK1 := Lib.hid HK1
        have HK2 := Lib.hid HK2
        have HA1 := Lib.hid HA1
        have HA2 := Lib.hid HA2
        clear hX1 hX2 hk1 hk2
        clear hh ok bu hli hln hn rd mm hg hl h3
        rcases (by omega : p = q ∨ p < q ∨ q < p) with hpq | hpq | hpq
        · have e1 : decide ((p : Int) ≤ (q : Int)) = true := by simp; omega
          have e2 : ((p : Int) == (q : Int)) = true := by simp; omega
          have e2n : (p == q) = true := by simp; omega
          have e3 : decide ((k1 : Int) < (k2 : Int)) = false := by have := hkk (by omega); simp; omega
          have e3n : decide (k1 < k2) = false := by have := hkk (by omega); simp; omega
          have e3m : ¬ (k1 : Int) < (k2 : Int) := by have := hkk (by omega); omega
          have e4 : (X1.toList == X2.toList) = true := by rw [hXX hpq]; simp
          have e5 : (p : Int) ≤ (q : Int) := by omega
          clear hkk hXX hpq
          go_enter Try.func5, Try.ntmps5
          go_wp2_with (first
            | (go_at_call 9; (with_reducible refine HV.out.mono ?_); rintro e w1 ⟨rfl, hE1⟩)
            | (go_at_call 12; (with_reducible refine (HO.out _ hE1).mono ?_); rintro e w2 ⟨A2, c2, rfl, hc2, hP2, hE2⟩)
            | (go_at_call 11; (with_reducible refine (HB1.out _ _ _ hP2 hc2).mono ?_); rintro e w3 ⟨rfl, hE3⟩; replace hE1 := (hE1.trans hE2).trans hE3)
            | (go_at_call 11; (with_reducible refine (HB2.out _ _ _ hP2 hc2).mono ?_); rintro e w4 ⟨rfl, hE3⟩; replace hE1 := (hE1.trans hE2).trans hE3)
            | (go_at_call 14; (with_reducible refine (HO1.out _).mono ?_); rintro e w6 ⟨g1, rfl, hT1, hE3⟩; replace hE1 := hE1.trans hE3)
            | (go_at_call 14; (with_reducible refine (HO2.out _).mono ?_); rintro e w7 ⟨g2, rfl, hT2, hE3⟩; replace hE1 := hE1.trans hE3; replace hT1 := hT1.ext hE3)
            | (go_at_call 17; (with_reducible refine (HK1.out _ _ hT1).mono ?_); rintro e w8 ⟨rfl, hE3⟩; replace hE1 := hE1.trans hE3; replace hT1 := hT1.ext hE3; replace hT2 := hT2.ext hE3)
            | (go_at_call 17; (with_reducible refine (HK2.out _ _ hT2).mono ?_); rintro e w9 ⟨rfl, hE3⟩; replace hE1 := hE1.trans hE3; replace hT1 := hT1.ext hE3; replace hT2 := hT2.ext hE3)
            | (go_at_call 16; (with_reducible refine (HA1.out _ _ hT1 hE1).mono ?_); rintro e w10 ⟨rfl, hE3⟩; replace hE1 := hE1.trans hE3; replace hT1 := hT1.ext hE3; replace hT2 := hT2.ext hE3)
            | (go_at_call 16; (with_reducible refine (HA2.out _ _ hT2 hE1).mono ?_); rintro e w11 ⟨rfl, hE3⟩; replace hE1 := hE1.trans hE3; replace hT1 := hT1.ext hE3; replace hT2 := hT2.ext hE3)
            | (go_at_call 10; (with_reducible refine (HWK.out _).mono ?_); rintro e w5 ⟨rfl, hE5⟩))
          all_goals go_ret
          all_goals exact ⟨rfl, hE1.trans hE5⟩
        · have e1 : decide ((p : Int) ≤ (q : Int)) = true := by simp; omega
          have e2 : ((p : Int) == (q : Int)) = false := by simp; omega
          have e2n : (p == q) = false := by simp; omega
          have e6 : ¬ p = q := by omega
          have e7 : ¬ (p : Int) = (q : Int) := by omega
          have e8 : (p != q) = true := by simp; omega
          have e9 : ((p : Int) != (q : Int)) = true := by simp; omega
          have e3 : decide ((k1 : Int) < (k2 : Int)) = false := by have := hkk (by omega); simp; omega
          have e3n : decide (k1 < k2) = false := by have := hkk (by omega); simp; omega
          have e3m : ¬ (k1 : Int) < (k2 : Int) := by have := hkk (by omega); omega
          have e5 : (p : Int) ≤ (q : Int) := by omega
          clear hkk hXX hpq
          go_enter Try.func5, Try.ntmps5
          go_wp2_with (first
            | (go_at_call 9; (with_reducible refine HV.out.mono ?_); rintro e w1 ⟨rfl, hE1⟩)
            | (go_at_call 12; (with_reducible refine (HO.out _ hE1).mono ?_); rintro e w2 ⟨A2, c2, rfl, hc2, hP2, hE2⟩)
            | (go_at_call 11; (with_reducible refine (HB1.out _ _ _ hP2 hc2).mono ?_); rintro e w3 ⟨rfl, hE3⟩; replace hE1 := (hE1.trans hE2).trans hE3)
            | (go_at_call 11; (with_reducible refine (HB2.out _ _ _ hP2 hc2).mono ?_); rintro e w4 ⟨rfl, hE3⟩; replace hE1 := (hE1.trans hE2).trans hE3)
            | (go_at_call 14; (with_reducible refine (HO1.out _).mono ?_); rintro e w6 ⟨g1, rfl, hT1, hE3⟩; replace hE1 := hE1.trans hE3)
            | (go_at_call 14; (with_reducible refine (HO2.out _).mono ?_); rintro e w7 ⟨g2, rfl, hT2, hE3⟩; replace hE1 := hE1.trans hE3; replace hT1 := hT1.ext hE3)
            | (go_at_call 17; (with_reducible refine (HK1.out _ _ hT1).mono ?_); rintro e w8 ⟨rfl, hE3⟩; replace hE1 := hE1.trans hE3; replace hT1 := hT1.ext hE3; replace hT2 := hT2.ext hE3)
            | (go_at_call 17; (with_reducible refine (HK2.out _ _ hT2).mono ?_); rintro e w9 ⟨rfl, hE3⟩; replace hE1 := hE1.trans hE3; replace hT1 := hT1.ext hE3; replace hT2 := hT2.ext hE3)
            | (go_at_call 16; (with_reducible refine (HA1.out _ _ hT1 hE1).mono ?_); rintro e w10 ⟨rfl, hE3⟩; replace hE1 := hE1.trans hE3; replace hT1 := hT1.ext hE3; replace hT2 := hT2.ext hE3)
            | (go_at_call 16; (with_reducible refine (HA2.out _ _ hT2 hE1).mono ?_); rintro e w11 ⟨rfl, hE3⟩; replace hE1 := hE1.trans hE3; replace hT1 := hT1.ext hE3; replace hT2 := hT2.ext hE3)
            | (go_at_call 10; (with_reducible refine (HWK.out _).mono ?_); rintro e w5 ⟨rfl, hE5⟩))
          all_goals go_ret
          all_goals exact ⟨rfl, hE1.trans hE5⟩
        · have e1 : decide ((p : Int) ≤ (q : Int)) = false := by simp; omega
          have e2 : ((p : Int) == (q : Int)) = false := by simp; omega
          have e2n : (p == q) = false := by simp; omega
          have e6 : ¬ p = q := by omega
          have e7 : ¬ (p : Int) = (q : Int) := by omega
          have e8 : (p != q) = true := by simp; omega
          have e9 : ((p : Int) != (q : Int)) = true := by simp; omega
          have e5 : ¬ (p : Int) ≤ (q : Int) := by omega
          clear hkk hXX hpq
          go_enter Try.func5, Try.ntmps5
          go_wp2_with (first
            | (go_at_call 9; (with_reducible refine HV.out.mono ?_); rintro e w1 ⟨rfl, hE1⟩)
            | (go_at_call 12; (with_reducible refine (HO.out _ hE1).mono ?_); rintro e w2 ⟨A2, c2, rfl, hc2, hP2, hE2⟩)
            | (go_at_call 11; (with_reducible refine (HB1.out _ _ _ hP2 hc2).mono ?_); rintro e w3 ⟨rfl, hE3⟩; replace hE1 := (hE1.trans hE2).trans hE3)
            | (go_at_call 11; (with_reducible refine (HB2.out _ _ _ hP2 hc2).mono ?_); rintro e w4 ⟨rfl, hE3⟩; replace hE1 := (hE1.trans hE2).trans hE3)
            | (go_at_call 14; (with_reducible refine (HO1.out _).mono ?_); rintro e w6 ⟨g1, rfl, hT1, hE3⟩; replace hE1 := hE1.trans hE3)
            | (go_at_call 14; (with_reducible refine (HO2.out _).mono ?_); rintro e w7 ⟨g2, rfl, hT2, hE3⟩; replace hE1 := hE1.trans hE3; replace hT1 := hT1.ext hE3)
            | (go_at_call 17; (with_reducible refine (HK1.out _ _ hT1).mono ?_); rintro e w8 ⟨rfl, hE3⟩; replace hE1 := hE1.trans hE3; replace hT1 := hT1.ext hE3; replace hT2 := hT2.ext hE3)
            | (go_at_call 17; (with_reducible refine (HK2.out _ _ hT2).mono ?_); rintro e w9 ⟨rfl, hE3⟩; replace hE1 := hE1.trans hE3; replace hT1 := hT1.ext hE3; replace hT2 := hT2.ext hE3)
            | (go_at_call 16; (with_reducible refine (HA1.out _ _ hT1 hE1).mono ?_); rintro e w10 ⟨rfl, hE3⟩; replace hE1 := hE1.trans hE3; replace hT1 := hT1.ext hE3; replace hT2 := hT2.ext hE3)
            | (go_at_call 16; (with_reducible refine (HA2.out _ _ hT2 hE1).mono ?_); rintro e w11 ⟨rfl, hE3⟩; replace hE1 := hE1.trans hE3; replace hT1 := hT1.ext hE3; replace hT2 := hT2.ext hE3)
            | (go_at_call 10; (with_reducible refine (HWK.out _).mono ?_); rintro e w5 ⟨rfl, hE5⟩))
          all_goals go_ret
          all_goals exact ⟨rfl, hE1.trans hE5⟩
  · rw [hh] at HV
    clear hh ok bu rd mm
    go_enter Try.func5, Try.ntmps5
    go_wp2_with (first
      | (go_at_call 9; (with_reducible refine HV.out.mono ?_); rintro e w1 ⟨rfl, hE1⟩)
      | (go_at_call 10; (with_reducible refine (HWK.out _).mono ?_); rintro e w5 ⟨rfl, hE5⟩))
    go_ret
    exact ⟨rfl, hE1.trans hE5⟩
