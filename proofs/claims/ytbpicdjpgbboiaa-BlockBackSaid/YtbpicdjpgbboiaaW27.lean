import Derived.Test.YtbpicdjpgbboiaaW26
namespace Go.Proofs.Ytbpicdjpgbboiaa
open Go.RowKit Go.Nb
set_option maxRecDepth 100000 in
theorem bsearch_any {w : World} {A : Option Addr} {n c : Nat} {l : List Pr} (h : PRd w A n l) (hn : n ≤ 1048576) (hu : upB l = true) (key : Bs) : Calls Try.prog 35 #[.slice A n c, .string (Bt key), .func (.func 36) #[] #[]] w fun e w' => ∃ b, e = .returned (.tuple #[.int .i64 (seekL key l), .bool b]) ∧ Ext w w' := by
  have hent2 : ∀ (args : Array Value) (w : World), (callFunc 36 args).run Try.prog w = .ok (.enter 36 args) w := e36f
  have HL := Lib.hid h.1
  have HU := Lib.hid hu
  clear hu
  go_enter Try.func35, Try.ntmps35
  go_wp2
  go_loopw [9, 10] (fun iv jv wr => ∃ lo hi : Nat, lo ≤ hi ∧ hi ≤ n ∧ iv = .int .i64 lo ∧ jv = .int .i64 hi ∧ Hid (∀ i, i < lo → Op.bytesLess (l.getD i default).k key = true) ∧ Hid (∀ i, hi ≤ i → i < n → Op.bytesLess (l.getD i default).k key = false) ∧ Ext w wr) (fun iv jv _ => (intOf jv).toNat - (intOf iv).toNat)
  case atStart => exact ⟨0, n, by omega, by omega, rfl, rfl, Lib.hid (fun i hi => by omega), Lib.hid (fun i hi hi2 => by omega), Ext.refl w⟩
  case round =>
    obtain ⟨lo, hi, hlh, hhn, rfl, rfl, hlo, hhi, hE⟩ := hrel
    have a0 : (0 : Int) ≤ (lo : Int) := by omega
    have b0 : (0 : Int) ≤ (hi : Int) := by omega
    have b1 : (hi : Int) ≤ 1048576 := by omega
    by_cases hlt : lo < hi
    · have kk : (lo : Int) < (hi : Int) := by omega
      obtain ⟨m, hm⟩ : ∃ m, m = (lo + hi) / 2 := ⟨_, rfl⟩
      have hmn : m < n := by omega
      have hmI : ((lo : Int) + (hi : Int)) / 2 = (m : Int) := by omega
      have mm0 : (0 : Int) ≤ (m : Int) := by omega
      have mm : (m : Int) < (n : Int) := by omega
      obtain ⟨g, o, rfl, c0, c1⟩ := (h.ext hE).at_ m hmn
      obtain ⟨p, hp⟩ : ∃ p, p = l.getD m default := ⟨_, rfl⟩
      rw [← hp] at c0 c1
      have HS := Lib.hid (seek1_any p key)
      have hP : p.val = .agg #[.string (Bt p.k), .string (Bt p.v)] := rfl
      rw [hP] at HS
      have hcv := cmpV_neg p.k key
      obtain ⟨z, hz⟩ : ∃ z, z = cmpV p.k key := ⟨_, rfl⟩
      rw [← hz] at HS hcv
      have HM := Lib.hid hm
      have HP := Lib.hid hp
      clear hm hp hP hz
      go_wp2_with (go_at_fn 36; refine (HS.out _).mono ?_; rintro e w2 ⟨rfl, hE2⟩)
      all_goals first
        | (rename_i hbl
           refine ⟨⟨m + 1, hi, by have := HM.out; omega, hhn, by first | rfl | (congr 1; omega), rfl, Lib.hid (fun i hi1 => less_mono HU.out (j := m) (by omega) (by have := HL.out; omega) (by rw [← HP.out]; exact hbl)), hhi, hE.trans hE2⟩, ?_⟩
           have := HM.out
           simp only [intOf]
           omega)
        | (rename_i hbl
           refine ⟨⟨lo, m, by have := HM.out; omega, by omega, rfl, rfl, hlo, Lib.hid (fun i hi1 hi2 => ?_), hE.trans hE2⟩, ?_⟩
           · cases hq : Op.bytesLess (l.getD i default).k key
             · rfl
             · have h3 := less_mono HU.out (i := m) (j := i) (by omega) (by have := HL.out; omega) hq
               rw [← HP.out, hbl] at h3
               cases h3
           · have := HM.out
             simp only [intOf]
             omega)
    · obtain rfl : lo = hi := by omega
      have HK : Hid (seekL key l = lo) := Lib.hid (seekL_of (by have := HL.out; omega) hlo.out (fun hi1 => hhi.out lo (by omega) (by have := HL.out; omega)))
      by_cases hln : lo < n
      · have kk : (lo : Int) < (n : Int) := by omega
        have tk : decide ((lo : Int) < (n : Int)) = true := by simp; omega
        obtain ⟨g, o, rfl, c0, c1⟩ := (h.ext hE).at_ lo hln
        obtain ⟨p, hp⟩ : ∃ p, p = l.getD lo default := ⟨_, rfl⟩
        rw [← hp] at c0 c1
        have HS := Lib.hid (seek1_any p key)
        have hP : p.val = .agg #[.string (Bt p.k), .string (Bt p.v)] := rfl
        rw [hP] at HS
        obtain ⟨z, hz⟩ : ∃ z, z = cmpV p.k key := ⟨_, rfl⟩
        rw [← hz] at HS
        have HP := Lib.hid hp
        clear hp hP hz
        go_wp2_with (go_at_fn 36; refine (HS.out _).mono ?_; rintro e w2 ⟨rfl, hE2⟩)
        go_ret2
        exact ⟨z == 0, by rw [HK.out]; rfl, hE.trans hE2⟩
      · have tk : decide ((lo : Int) < (n : Int)) = false := by simp; omega
        go_wp2
        go_ret2
        exact ⟨false, by rw [HK.out]; rfl, hE⟩
set_option maxRecDepth 100000 in
theorem seek_any {w : World} {A : Option Addr} {n c : Nat} {l : List Pr} (h : PRd w A n l) (hn : n ≤ 1048576) (hu : upB l = true) (key : Bs) : Calls Try.prog 19 #[.slice A n c, .string (Bt key)] w fun e w' => e = .returned (.int .i64 (seekL key l)) ∧ Ext w w' := by
  have HS := Lib.hid (bsearch_any (c := c) h hn hu key)
  go_enter Try.func19, Try.ntmps19
  go_wp2_with (go_at_call 35; (with_reducible refine HS.out.mono ?_); rintro e w1 ⟨b, rfl, hE⟩)
  go_ret
  exact ⟨rfl, hE⟩
