import Derived.Test.YtpcbllmmbbmkfaaE30
namespace Go.Proofs.Ytpcbllmmbbmkfaa
open Go.RowKit
/-- The sums of pieces, as they are reckoned. -/
def sumLk (l : List Lk) : Nat → Int
  | 0 => 0
  | k + 1 => wrap64 (wrap64 (sumLk l k + 1) + ((l.getD k default).add.ps.length : Int))
def sumRf (T : List Rf) (s : Int) : Nat → Int
  | 0 => s
  | k + 1 => wrap64 (wrap64 (sumRf T s k + 1) + ((T.getD k default).ps.length : Int))
/-- More than a statement about chains looks at. -/
def heavyL (l : List Lk) (T : List Rf) : Bool := (decide ((200 : Int) < (l.length : Int)) || decide ((200 : Int) < (T.length : Int))) || decide ((2000 : Int) < sumRf T (sumLk l (min l.length 400)) (min T.length 400))
theorem heavyL_few {l : List Lk} {T : List Rf} (h : heavyL l T = false) : l.length ≤ 200 ∧ T.length ≤ 200 := by
  unfold heavyL at h
  simp only [Bool.or_eq_false_iff, decide_eq_false_iff_not] at h
  omega
set_option maxRecDepth 100000 in
set_option maxHeartbeats 2000000 in
theorem heavy_any {w : World} {A B : Option Addr} {n c m d : Nat} {l : List Lk} {T : List Rf} (h : LnRd w A n l) (hT : RfRd w B m T) (hn : n ≤ maxLen) (hm : m ≤ maxLen) : Calls Try.prog 6 #[.slice A n c, .slice B m d] w fun e w' => e = .returned (.bool (heavyL l T)) ∧ Ext w w' := by
  have HL := Lib.hid h.1
  have HTL := Lib.hid hT.1
  have HR := Lib.hid h
  have HT := Lib.hid hT
  clear h hT
  unfold maxLen at hn hm
  obtain ⟨m1, hm1⟩ : ∃ q, q = min n 400 := ⟨_, rfl⟩
  have HM1 := Lib.hid hm1
  obtain ⟨m2, hm2⟩ : ∃ q, q = min m 400 := ⟨_, rfl⟩
  have HM2 := Lib.hid hm2
  clear hm1 hm2
  go_enter Try.func6, Try.ntmps6
  go_wp2
  go_loopw [5, 6] (fun sv iv wr => ∃ (k : Nat) (s : Int), k ≤ m1 ∧ iv = .int .i64 k ∧ sv = .int .i64 s ∧ Hid (s = sumLk l k) ∧ Ext w wr) (fun _ iv _ => m1 - (intOf iv).toNat)
  case atStart => exact ⟨0, 0, by omega, rfl, rfl, Lib.hid rfl, Ext.refl w⟩
  case round =>
    obtain ⟨k, s, hk, rfl, rfl, hs, hE⟩ := hrel
    by_cases hk2 : k < m1
    · have hkn : k < n := by have := HM1.out; omega
      have kk : (k : Int) < (n : Int) := by omega
      have t1 : decide ((k : Int) < (n : Int)) = true := by simp; omega
      have t2 : decide ((k : Int) < 400) = true := by have := HM1.out; simp; omega
      have kk0 : (0 : Int) ≤ (k : Int) := by omega
      have k2 : (k : Int) < 400 := by have := HM1.out; omega
      obtain ⟨g, o, u, rfl, -, -, -, c3, hv, -, -, -⟩ := (HR.out.ext hE).at_ k hkn
      obtain ⟨p, hp⟩ : ∃ p, p = l.getD k default := ⟨_, rfl⟩
      have HNX : Hid (sumLk l (k + 1) = wrap64 (wrap64 (s + 1) + (p.add.ps.length : Int))) := Lib.hid (by rw [hs.out, hp]; rfl)
      rw [← hp] at hv
      clear hp
      obtain ⟨C1, k1, rfl, -, -, -⟩ := hv
      go_wp2
      exact ⟨⟨k + 1, _, by omega, rfl, rfl, Lib.hid HNX.out.symm, hE⟩, by simp [intOf]; omega⟩
    · obtain rfl : k = m1 := by omega
      obtain ⟨s1, h1⟩ : ∃ q, q = s := ⟨_, rfl⟩
      have HS1 : Hid (s1 = sumLk l k) := Lib.hid (h1.trans hs.out)
      rw [← h1]
      clear hs h1
      by_cases hkn : k < n
      · have t1 : decide ((k : Int) < (n : Int)) = true := by simp; omega
        have t2 : decide ((k : Int) < 400) = false := by have := HM1.out; simp; omega
        have kk : (k : Int) < (n : Int) := by omega
        have k2 : ¬ (k : Int) < 400 := by have := HM1.out; omega
        go_wp2
        go_loopw [5, 7] (fun sv iv wr => ∃ (j : Nat) (s : Int), j ≤ m2 ∧ iv = .int .i64 j ∧ sv = .int .i64 s ∧ Hid (s = sumRf T s1 j) ∧ Ext w wr) (fun _ iv _ => m2 - (intOf iv).toNat)
        case atStart => exact ⟨0, s1, by omega, rfl, rfl, Lib.hid rfl, hE⟩
        case round =>
          clear hE
          obtain ⟨j, s, hj, rfl, rfl, hs, hE⟩ := hrel
          by_cases hj2 : j < m2
          · have hjm : j < m := by have := HM2.out; omega
            have jj : (j : Int) < (m : Int) := by omega
            have t3 : decide ((j : Int) < (m : Int)) = true := by simp; omega
            have t4 : decide ((j : Int) < 400) = true := by have := HM2.out; simp; omega
            have jj0 : (0 : Int) ≤ (j : Int) := by omega
            have j2 : (j : Int) < 400 := by have := HM2.out; omega
            obtain ⟨g, o, u, rfl, -, c1, hv⟩ := (HT.out.ext hE).at_ j hjm
            obtain ⟨p, hp⟩ : ∃ p, p = T.getD j default := ⟨_, rfl⟩
            have HNX : Hid (sumRf T s1 (j + 1) = wrap64 (wrap64 (s + 1) + (p.ps.length : Int))) := Lib.hid (by rw [hs.out, hp]; rfl)
            rw [← hp] at hv
            clear hp
            obtain ⟨C1, k1, rfl, -, -, -⟩ := hv
            go_wp2
            exact ⟨⟨j + 1, _, by omega, rfl, rfl, Lib.hid HNX.out.symm, hE⟩, by simp [intOf]; omega⟩
          · obtain rfl : j = m2 := by omega
            obtain ⟨b1, hb1⟩ : ∃ b, b = decide ((200 : Int) < (n : Int)) := ⟨_, rfl⟩
            obtain ⟨b2, hb2⟩ : ∃ b, b = decide ((200 : Int) < (m : Int)) := ⟨_, rfl⟩
            obtain ⟨b3, hb3⟩ : ∃ b, b = decide ((2000 : Int) < s) := ⟨_, rfl⟩
            have HB : Hid (heavyL l T = ((b1 || b2) || b3)) := Lib.hid (by
              have := hs.out
              unfold heavyL
              rw [HL.out, HTL.out, ← HM1.out, ← HM2.out, hb1, hb2, hb3, this, HS1.out])
            replace hb1 := hb1.symm
            replace hb2 := hb2.symm
            replace hb3 := hb3.symm
            have HJ : Hid ((j < m ∧ 400 ≤ j) ∨ ¬ j < m) := Lib.hid (by have := HM2.out; omega)
            rcases HJ.out with ⟨hjm, h4⟩ | hjm
            · have t3 : decide ((j : Int) < (m : Int)) = true := by simp; omega
              have t4 : decide ((j : Int) < 400) = false := by simp; omega
              have jj : (j : Int) < (m : Int) := by omega
              have j2 : ¬ (j : Int) < 400 := by omega
              clear hjm
              cases b1 <;> cases b2 <;> cases b3
              all_goals
                go_wp2
                go_ret
                exact ⟨ret_bool (HB.out.symm ▸ rfl), hE⟩
            · have t3 : decide ((j : Int) < (m : Int)) = false := by simp; omega
              have jj : ¬ (j : Int) < (m : Int) := by omega
              clear hjm
              cases b1 <;> cases b2 <;> cases b3
              all_goals
                go_wp2
                go_ret
                exact ⟨ret_bool (HB.out.symm ▸ rfl), hE⟩
      · have t1 : decide ((k : Int) < (n : Int)) = false := by simp; omega
        have kk : ¬ (k : Int) < (n : Int) := by omega
        go_wp2
        go_loopw [5, 7] (fun sv iv wr => ∃ (j : Nat) (s : Int), j ≤ m2 ∧ iv = .int .i64 j ∧ sv = .int .i64 s ∧ Hid (s = sumRf T s1 j) ∧ Ext w wr) (fun _ iv _ => m2 - (intOf iv).toNat)
        case atStart => exact ⟨0, s1, by omega, rfl, rfl, Lib.hid rfl, hE⟩
        case round =>
          clear hE
          obtain ⟨j, s, hj, rfl, rfl, hs, hE⟩ := hrel
          by_cases hj2 : j < m2
          · have hjm : j < m := by have := HM2.out; omega
            have jj : (j : Int) < (m : Int) := by omega
            have t3 : decide ((j : Int) < (m : Int)) = true := by simp; omega
            have t4 : decide ((j : Int) < 400) = true := by have := HM2.out; simp; omega
            have jj0 : (0 : Int) ≤ (j : Int) := by omega
            have j2 : (j : Int) < 400 := by have := HM2.out; omega
            obtain ⟨g, o, u, rfl, -, c1, hv⟩ := (HT.out.ext hE).at_ j hjm
            obtain ⟨p, hp⟩ : ∃ p, p = T.getD j default := ⟨_, rfl⟩
            have HNX : Hid (sumRf T s1 (j + 1) = wrap64 (wrap64 (s + 1) + (p.ps.length : Int))) := Lib.hid (by rw [hs.out, hp]; rfl)
            rw [← hp] at hv
            clear hp
            obtain ⟨C1, k1, rfl, -, -, -⟩ := hv
            go_wp2
            exact ⟨⟨j + 1, _, by omega, rfl, rfl, Lib.hid HNX.out.symm, hE⟩, by simp [intOf]; omega⟩
          · obtain rfl : j = m2 := by omega
            obtain ⟨b1, hb1⟩ : ∃ b, b = decide ((200 : Int) < (n : Int)) := ⟨_, rfl⟩
            obtain ⟨b2, hb2⟩ : ∃ b, b = decide ((200 : Int) < (m : Int)) := ⟨_, rfl⟩
            obtain ⟨b3, hb3⟩ : ∃ b, b = decide ((2000 : Int) < s) := ⟨_, rfl⟩
            have HB : Hid (heavyL l T = ((b1 || b2) || b3)) := Lib.hid (by
              have := hs.out
              unfold heavyL
              rw [HL.out, HTL.out, ← HM1.out, ← HM2.out, hb1, hb2, hb3, this, HS1.out])
            replace hb1 := hb1.symm
            replace hb2 := hb2.symm
            replace hb3 := hb3.symm
            have HJ : Hid ((j < m ∧ 400 ≤ j) ∨ ¬ j < m) := Lib.hid (by have := HM2.out; omega)
            rcases HJ.out with ⟨hjm, h4⟩ | hjm
            · have t3 : decide ((j : Int) < (m : Int)) = true := by simp; omega
              have t4 : decide ((j : Int) < 400) = false := by simp; omega
              have jj : (j : Int) < (m : Int) := by omega
              have j2 : ¬ (j : Int) < 400 := by omega
              clear hjm
              cases b1 <;> cases b2 <;> cases b3
              all_goals
                go_wp2
                go_ret
                exact ⟨ret_bool (HB.out.symm ▸ rfl), hE⟩
            · have t3 : decide ((j : Int) < (m : Int)) = false := by simp; omega
              have jj : ¬ (j : Int) < (m : Int) := by omega
              clear hjm
              cases b1 <;> cases b2 <;> cases b3
              all_goals
                go_wp2
                go_ret
                exact ⟨ret_bool (HB.out.symm ▸ rfl), hE⟩
