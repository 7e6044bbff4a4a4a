import Derived.Test.YtbpicdjpgbboiaaW22
namespace Go.Proofs.Ytbpicdjpgbboiaa
open Go.RowKit Go.Nb
/-- How many bytes the first k pairs have, as the machine reckons it. -/
def sumW (l : List Pr) : Nat → Int
  | 0 => 0
  | k + 1 => wrap64 (wrap64 (sumW l k + ((l.getD k default).k.length : Int)) + ((l.getD k default).v.length : Int))
/-- More than a statement looks at. -/
def heavyB (l : List Pr) : Bool := decide (500 < l.length) || decide (16384 < sumW l (min l.length 2000))
set_option maxRecDepth 100000 in
theorem heavy_any {w : World} {A : Option Addr} {n c : Nat} {l : List Pr} (h : PRd w A n l) (hn : n ≤ maxLen) : Calls Try.prog 7 #[.slice A n c] w fun e w' => e = .returned (.bool (heavyB l)) ∧ Ext w w' := by
  have HL := Lib.hid h.1
  unfold maxLen at hn
  obtain ⟨m, hm⟩ : ∃ m, m = min n 2000 := ⟨_, rfl⟩
  have HM := Lib.hid hm
  clear hm
  go_enter Try.func7, Try.ntmps7
  go_wp2
  go_loopw [3, 4] (fun sv iv wr => ∃ (k : Nat) (s : Int), k ≤ m ∧ iv = .int .i64 k ∧ sv = .int .i64 s ∧ Hid (s = sumW l k) ∧ Ext w wr) (fun _ iv _ => m - (intOf iv).toNat)
  case atStart => exact ⟨0, 0, by omega, rfl, rfl, Lib.hid rfl, Ext.refl w⟩
  case round =>
    obtain ⟨k, s, hk, rfl, rfl, hs, hE⟩ := hrel
    by_cases hk2 : k < m
    · have hkn : k < n := by have := HM.out; omega
      have kk : (k : Int) < (n : Int) := by omega
      have t1 : decide ((k : Int) < (n : Int)) = true := by simp; omega
      have t2 : decide ((k : Int) < 2000) = true := by have := HM.out; simp; omega
      have kk0 : (0 : Int) ≤ (k : Int) := by omega
      have k2 : (k : Int) < 2000 := by have := HM.out; omega
      obtain ⟨g, o, rfl, c0, c1⟩ := (h.ext hE).at_ k hkn
      obtain ⟨p, hp⟩ : ∃ p, p = l.getD k default := ⟨_, rfl⟩
      have hnx : sumW l (k + 1) = wrap64 (wrap64 (s + (p.k.length : Int)) + (p.v.length : Int)) := by rw [hs.out, hp]; rfl
      rw [← hp] at c0 c1
      have HNX := Lib.hid hnx
      have z1 : ((Bt p.k).size : Int) = (p.k.length : Int) := rfl
      have z2 : ((Bt p.v).size : Int) = (p.v.length : Int) := rfl
      clear hnx hp
      go_wp2
      go_quiet (fail)
      go_wp2
      exact ⟨⟨k + 1, _, by omega, rfl, rfl, Lib.hid (by rw [HNX.out]), hE.drewN _⟩, by simp [intOf]; omega⟩
    · obtain rfl : k = m := by omega
      have hs2 : heavyB l = (decide (500 < n) || decide (16384 < s)) := by unfold heavyB; rw [HL.out, ← HM.out, ← hs.out]
      have HS2 := Lib.hid hs2
      clear hs2
      have d1 : decide ((500 : Int) < (n : Int)) = decide (500 < n) := by rw [decide_eq_decide]; omega
      by_cases hkn : k < n
      · have t1 : decide ((k : Int) < (n : Int)) = true := by simp; omega
        have t2 : decide ((k : Int) < 2000) = false := by have := HM.out; simp; omega
        have kk : (k : Int) < (n : Int) := by omega
        have k2 : ¬ (k : Int) < 2000 := by have := HM.out; omega
        have d2 : decide (500 < n) = true := by have := HM.out; simp; omega
        rw [d2] at d1 HS2
        clear d2
        go_wp2
        go_ret
        exact ⟨ret_bool (HS2.out.symm ▸ rfl), hE⟩
      · have t1 : decide ((k : Int) < (n : Int)) = false := by simp; omega
        have kk : ¬ (k : Int) < (n : Int) := by omega
        obtain ⟨b, hb⟩ : ∃ b, b = decide (500 < n) := ⟨_, rfl⟩
        obtain ⟨b2, hb2⟩ : ∃ b, b = decide (16384 < s) := ⟨_, rfl⟩
        have hb3 := hb2.symm
        rw [← hb] at d1 HS2
        rw [← hb2] at HS2
        clear hb hb2
        cases b
        · cases b2
          all_goals
            go_wp2
            go_ret
            exact ⟨ret_bool (HS2.out.symm ▸ rfl), hE⟩
        · go_wp2
          go_ret
          exact ⟨ret_bool (HS2.out.symm ▸ rfl), hE⟩
