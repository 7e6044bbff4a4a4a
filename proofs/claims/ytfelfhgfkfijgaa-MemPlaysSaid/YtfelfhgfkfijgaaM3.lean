import Derived.Test.YtfelfhgfkfijgaaM2
namespace Go.Proofs.Ytfelfhgfkfijgaa
open Go.RowKit Go.Nb
set_option maxRecDepth 100000 in
theorem size_ref {w : World} {A : Option Addr} {n c : Nat} {l : List Pr} (h : PRd w A n l) (hn : n ≤ 1048576) (hs : sizeP l ≤ 1099511627776) : Calls Try.prog 22 #[.slice A n c] w fun e w' => e = .returned (.int .i64 (sizeP l)) ∧ Ext w w' := by
  have HL := Lib.hid h.1
  have HS := Lib.hid hs
  clear hs
  go_enter Try.func22, Try.ntmps22
  go_wp2
  go_loopw [3, 4] (fun sv iv wr => ∃ k s : Nat, k ≤ n ∧ iv = .int .i64 k ∧ sv = .int .i64 s ∧ Hid (s + sizeP (l.drop k) = sizeP l) ∧ Ext w wr) (fun _ iv _ => n - (intOf iv).toNat)
  case atStart => exact ⟨0, 0, by omega, rfl, rfl, Lib.hid (by simp), Ext.refl w⟩
  case round =>
    obtain ⟨k, s, hk, rfl, rfl, hs, hE⟩ := hrel
    by_cases hk2 : k < n
    · have kk : (k : Int) < (n : Int) := by omega
      have kk0 : (0 : Int) ≤ (k : Int) := by omega
      obtain ⟨g, o, rfl, c0, c1⟩ := (h.ext hE).at_ k hk2
      have hst := sizeP_drop (l := l) (k := k) (by rw [HL.out]; exact hk2)
      have hs2 := hs.out
      have hs3 := HS.out
      obtain ⟨p, hp⟩ : ∃ p, p = l.getD k default := ⟨_, rfl⟩
      rw [← hp] at c0 c1 hst
      have z1 : ((Bt p.k).size : Int) = (p.k.length : Int) := rfl
      have z2 : ((Bt p.v).size : Int) = (p.v.length : Int) := rfl
      have b1 : (p.k.length : Int) ≤ 1099511627776 := by omega
      have b2 : (p.v.length : Int) ≤ 1099511627776 := by omega
      have b3 : (s : Int) ≤ 1099511627776 := by omega
      have b4 : (0 : Int) ≤ (s : Int) := by omega
      have HNX : Hid (s + (p.k.length + p.v.length + 4) + sizeP (l.drop (k + 1)) = sizeP l) := Lib.hid (by omega)
      clear hst hs2 hs3 hp
      go_wp2
      go_quiet (fail)
      go_wp2
      exact ⟨⟨k + 1, s + (p.k.length + p.v.length + 4), by omega, rfl, by congr 1; omega, HNX, hE.drewN nq⟩, by simp [intOf]; omega⟩
    · have kk : ¬ (k : Int) < (n : Int) := by omega
      have hs2 : s = sizeP l := by
        have := hs.out
        rw [List.drop_of_length_le (by rw [HL.out]; omega)] at this
        simpa [sizeP] using this
      have HS2 := Lib.hid hs2
      clear hs2
      go_wp2
      go_ret
      exact ⟨by rw [← HS2.out]; rfl, hE⟩
set_option maxHeartbeats 1000000 in
set_option maxRecDepth 100000 in
theorem seek_any {w : World} {A : Option Addr} {n c : Nat} {l : List Pr} (h : PRd w A n l) (hn : n ≤ 1048576) (hu : upB l = true) (key : Bs) : Calls Try.prog 27 #[.slice A n c, .string (Bt key)] w fun e w' => e = .returned (.int .i64 (seekL key l)) ∧ Ext w w' := by
  have HL := Lib.hid h.1
  have HU := Lib.hid hu
  have hTB := toList_Bt
  clear hu
  go_enter Try.func27, Try.ntmps27
  go_wp2
  go_step3
  go_wp2
  go_step3
  go_wp2
  go_loopw [5, 6] (fun iv jv wr => ∃ lo hi : Nat, lo ≤ hi ∧ hi ≤ n ∧ iv = .int .i64 lo ∧ jv = .int .i64 hi ∧ Hid (∀ i, i < lo → Op.bytesLess (l.getD i default).k key = true) ∧ Hid (∀ i, hi ≤ i → i < n → Op.bytesLess (l.getD i default).k key = false) ∧ Ext w wr) (fun iv jv _ => (intOf jv).toNat - (intOf iv).toNat)
  case atStart => exact ⟨0, n, by omega, by omega, rfl, rfl, Lib.hid (fun i hi => by omega), Lib.hid (fun i hi hi2 => by omega), Ext.refl w⟩
  case round =>
    obtain ⟨lo, hi, hlh, hhn, rfl, rfl, hlo, hhi, hE⟩ := hrel
    have a0 : (0 : Int) ≤ (lo : Int) := by omega
    have b0 : (0 : Int) ≤ (hi : Int) := by omega
    have b1 : (hi : Int) ≤ 1048576 := by omega
    obtain ⟨m, hm⟩ : ∃ m, m = (lo + hi) / 2 := ⟨_, rfl⟩
    have hmI : ((lo : Int) + (hi : Int)) / 2 = (m : Int) := by omega
    have hmI2 : ((lo : Int) + (hi : Int)).tdiv 2 = (m : Int) := by rw [Int.tdiv_eq_ediv_of_nonneg (by omega)]; exact hmI
    have mm0 : (0 : Int) ≤ (m : Int) := by omega
    by_cases hlt : lo = hi
    · have HK : Hid (seekL key l = lo) := Lib.hid (seekL_of (by have := HL.out; omega) hlo.out (fun hi1 => hhi.out lo (by omega) (by have := HL.out; omega)))
      have tq : ((lo : Int) == (hi : Int)) = true := by simp [hlt]
      have tq3 : (lo == hi) = true := by simp [hlt]
      have HLT := Lib.hid hlt
      clear hlt hlh hhn hm
      go_wp2
      rw [Exit.noGoto_ret]
      go_ret
      exact ⟨by rw [HK.out]; rfl, hE⟩
    · have tq : ((lo : Int) == (hi : Int)) = false := by simp; omega
      have tq2 : ¬ (lo : Int) = (hi : Int) := by omega
      have hmn : m < n := by omega
      have mm : (m : Int) < (n : Int) := by omega
      obtain ⟨g, o, rfl, c0, c1⟩ := (h.ext hE).at_ m hmn
      obtain ⟨p, hp⟩ : ∃ p, p = l.getD m default := ⟨_, rfl⟩
      rw [← hp] at c0 c1
      have HM := Lib.hid hm
      have HP := Lib.hid hp
      clear hm hp
      cases hb : Op.bytesLess p.k key
      · go_wp2
        refine ⟨⟨lo, m, by have := HM.out; omega, by omega, rfl, rfl, hlo, Lib.hid (fun i hi1 hi2 => ?_), hE⟩, ?_⟩
        · cases hq : Op.bytesLess (l.getD i default).k key
          · rfl
          · have h3 := less_mono HU.out (i := m) (j := i) (by omega) (by have := HL.out; omega) hq
            rw [← HP.out, hb] at h3
            cases h3
        · have := HM.out
          simp only [intOf]
          omega
      · go_wp2
        refine ⟨⟨m + 1, hi, by have := HM.out; omega, hhn, by first | rfl | (congr 1; omega), rfl, Lib.hid (fun i hi1 => less_mono HU.out (j := m) (by omega) (by have := HL.out; omega) (by rw [← HP.out]; exact hb)), hhi, hE⟩, ?_⟩
        have := HM.out
        simp only [intOf]
        omega
