import Derived.Test.YtbmemogajgbdgaaM1
namespace Go.Proofs.Ytbmemogajgbdgaa
open Go.RowKit Go.Gf
set_option maxRecDepth 100000 in
theorem rmay_any (A : Option Addr) (n cap : Nat) (l : List ByteArray) (w : World) (hr : Rd w A n (l.map Value.string)) (hn : n ≤ 1048576) (hz : ∀ s ∈ l, s.size ≤ 1048576) :
    Calls Try.prog 15 #[.slice A n cap] w fun e w' => e = .returned (.bool (mayB l)) ∧ Ext w w' := by
  have hlen : l.length = n := by have := hr.1; simpa using this
  by_cases h1 : 1 ≤ n
  · by_cases h2 : n ≤ 64
    · obtain ⟨gs, os, rfl, hgs, hcell⟩ := hr.at_ (show 0 < n by omega)
      have hl0 := len0_eq (l := l) (by omega)
      have hz0 := hz (l[0]'(by omega)) (List.getElem_mem _)
      simp only [List.getElem_map, Nat.add_zero] at hcell
      generalize l[0]'(by omega) = s0 at *
      by_cases h3 : 1 ≤ s0.size
      · by_cases h4 : s0.size ≤ 64
        · have HL := Lib.hid hlen
          have HL0 := Lib.hid hl0
          clear hlen hl0
          have b1 : decide ((n : Int) < 1) = false := by simp; omega
          have b2 : decide ((64 : Int) < (n : Int)) = false := by simp; omega
          have b3 : decide ((s0.size : Int) < 1) = false := by simp; omega
          have b4 : decide ((64 : Int) < (s0.size : Int)) = false := by simp; omega
          go_enter Try.func15, Try.ntmps15
          go_wp2
          go_loopw [3] (fun i wr => ∃ k : Nat, k ≤ n ∧ i = .int .i64 k ∧ Ext w wr ∧ ∀ s ∈ l.take k, s.size = s0.size) (fun i _ => n - (intOf i).toNat)
          case atStart => exact ⟨0, by omega, rfl, Ext.refl _, by simp⟩
          case round =>
            obtain ⟨k, hk, rfl, hE, hall⟩ := hrel
            have HALL := Lib.hid hall
            clear hall
            by_cases hk2 : k < n
            · obtain ⟨gs', os', hA, hgs', hck⟩ := (hr.ext hE).at_ hk2
              simp only [Option.some.injEq, Addr.mk.injEq, and_true] at hA
              obtain ⟨rfl, rfl⟩ := hA
              simp only [List.getElem_map] at hck
              have hlk : k < l.length := by rw [HL.out]; exact hk2
              have htk : l.take (k + 1) = l.take k ++ [l[k]'hlk] := List.take_succ_eq_append_getElem hlk
              have hmem := List.getElem_mem hlk
              generalize l[k]'hlk = s at *
              have HTK := Lib.hid htk
              have HM := Lib.hid hmem
              clear htk hmem
              have kk : (k : Int) < (n : Int) := by omega
              have kk0 : (0 : Int) ≤ (k : Int) := by omega
              have k0 : (0 : Int) < (n : Int) := by omega
              have hc0 := hE.cellv hcell
              by_cases hs : s.size = s0.size
              · have e3 : ((s.size : Int) != (s0.size : Int)) = false := by rw [hs]; simp
                have HS := Lib.hid hs
                clear hs
                go_wp2_with fail
                go_quiet (fail)
                go_wp2
                go_roundw
                case rel => exact ⟨k + 1, by omega, by go_num, hE.drewN _, fun s' h => by
                  rw [HTK.out, List.mem_append, List.mem_singleton] at h
                  rcases h with h | h
                  · exact HALL.out s' h
                  · rw [h]; exact HS.out⟩
                case measure => simp [intOf]; omega
              · have e3 : ((s.size : Int) != (s0.size : Int)) = true := by simp; omega
                have HN := Lib.hid (mayB_no (l := l) (fun h => hs (by rw [h.2.2 s HM.out, HL0.out])))
                clear hs
                go_wp2_with fail
                go_quiet (fail)
                go_wp2
                go_ret
                exact ⟨ret_bool HN.out.symm, hE.drewN _⟩
            · obtain rfl : k = n := by omega
              have HY := Lib.hid (mayB_yes (l := l) ⟨by rw [HL.out]; omega, by rw [HL0.out]; omega, fun s hs => by rw [HL0.out]; exact HALL.out s (by rw [List.take_of_length_le (by rw [HL.out]; omega)]; exact hs)⟩)
              go_wp2
              go_ret
              exact ⟨ret_bool HY.out.symm, hE⟩
        · have HN := Lib.hid (mayB_no (l := l) (fun h => h4 (by rw [← hl0]; exact h.2.1.2)))
          have b1 : decide ((n : Int) < 1) = false := by simp; omega
          have b2 : decide ((64 : Int) < (n : Int)) = false := by simp; omega
          have b3 : decide ((s0.size : Int) < 1) = false := by simp; omega
          have b4 : decide ((64 : Int) < (s0.size : Int)) = true := by simp; omega
          clear hlen hl0
          go_enter Try.func15, Try.ntmps15
          go_wp2
          go_ret
          exact ⟨ret_bool HN.out.symm, Ext.refl _⟩
      · have HN := Lib.hid (mayB_no (l := l) (fun h => h3 (by rw [← hl0]; exact h.2.1.1)))
        have b1 : decide ((n : Int) < 1) = false := by simp; omega
        have b2 : decide ((64 : Int) < (n : Int)) = false := by simp; omega
        have b3 : decide ((s0.size : Int) < 1) = true := by simp; omega
        clear hlen hl0
        go_enter Try.func15, Try.ntmps15
        go_wp2
        go_ret
        exact ⟨ret_bool HN.out.symm, Ext.refl _⟩
    · have HN := Lib.hid (mayB_no (l := l) (fun h => h2 (by rw [← hlen]; exact h.1.2)))
      have b1 : decide ((n : Int) < 1) = false := by simp; omega
      have b2 : decide ((64 : Int) < (n : Int)) = true := by simp; omega
      clear hlen
      go_enter Try.func15, Try.ntmps15
      go_wp2
      go_ret
      exact ⟨ret_bool HN.out.symm, Ext.refl _⟩
  · have HN := Lib.hid (mayB_no (l := l) (fun h => h1 (by rw [← hlen]; exact h.1.1)))
    have b1 : decide ((n : Int) < 1) = true := by simp; omega
    clear hlen
    go_enter Try.func15, Try.ntmps15
    go_wp2
    go_ret
    exact ⟨ret_bool HN.out.symm, Ext.refl _⟩
def sameB (l m : List ByteArray) : Bool := decide (l = m)
set_option maxRecDepth 100000 in
theorem same_any (A B : Option Addr) (n cap m cap2 : Nat) (l r : List ByteArray) (w : World) (hr : Rd w A n (l.map Value.string)) (hq : Rd w B m (r.map Value.string)) (hn : n ≤ 1048576) (_hm : m ≤ 1048576) :
    Calls Try.prog 16 #[.slice A n cap, .slice B m cap2] w fun e w' => e = .returned (.bool (sameB l r)) ∧ Ext w w' := by
  have hlen : l.length = n := by have := hr.1; simpa using this
  have hlen2 : r.length = m := by have := hq.1; simpa using this
  by_cases h1 : n = m
  · subst h1
    have HL := Lib.hid hlen
    have HL2 := Lib.hid hlen2
    clear hlen hlen2
    have b1 : ((n : Int) != (n : Int)) = false := by simp
    go_enter Try.func16, Try.ntmps16
    go_wp2
    go_loopw [5] (fun i wr => ∃ k : Nat, k ≤ n ∧ i = .int .i64 k ∧ Ext w wr ∧ l.take k = r.take k) (fun i _ => n - (intOf i).toNat)
    case atStart => exact ⟨0, by omega, rfl, Ext.refl _, by simp⟩
    case round =>
      obtain ⟨k, hk, rfl, hE, hall⟩ := hrel
      have HALL := Lib.hid hall
      clear hall
      by_cases hk2 : k < n
      · obtain ⟨gs, os, rfl, hgs, hc1⟩ := (hr.ext hE).at_ hk2
        obtain ⟨gt, ot, rfl, hgt, hc2⟩ := (hq.ext hE).at_ hk2
        simp only [List.getElem_map] at hc1 hc2
        have hlk : k < l.length := by rw [HL.out]; exact hk2
        have hrk : k < r.length := by rw [HL2.out]; exact hk2
        have htk : l.take (k + 1) = l.take k ++ [l[k]'hlk] := List.take_succ_eq_append_getElem hlk
        have htr : r.take (k + 1) = r.take k ++ [r[k]'hrk] := List.take_succ_eq_append_getElem hrk
        have hne : l[k]'hlk ≠ r[k]'hrk → l ≠ r := fun h e => h (by subst e; rfl)
        generalize l[k]'hlk = s at *
        generalize r[k]'hrk = t at *
        have HTK := Lib.hid htk
        have HTR := Lib.hid htr
        have HNE := Lib.hid hne
        clear htk htr hne
        have kk : (k : Int) < (n : Int) := by omega
        have kk0 : (0 : Int) ≤ (k : Int) := by omega
        by_cases hs : s = t
        · subst hs
          go_wp2_with fail
          go_quiet (fail)
          go_wp2
          go_roundw
          case rel => exact ⟨k + 1, by omega, by go_num, hE.drewN _, by rw [HTK.out, HTR.out, HALL.out]⟩
          case measure => simp [intOf]; omega
        · have hsb := str_ne hs
          have HB : sameB l r = false := by simpa [sameB] using HNE.out hs
          have HBB := Lib.hid HB
          clear HB
          go_wp2_with fail
          go_quiet (fail)
          go_wp2
          go_ret
          exact ⟨ret_bool HBB.out.symm, hE.drewN _⟩
      · obtain rfl : k = n := by omega
        have hy : sameB l r = true := by
          have := HALL.out
          rw [List.take_of_length_le (by rw [HL.out]; omega), List.take_of_length_le (by rw [HL2.out]; omega)] at this
          simpa [sameB] using this
        have HY := Lib.hid hy
        clear hy
        go_wp2
        go_ret
        exact ⟨ret_bool HY.out.symm, hE⟩
  · have hb : sameB l r = false := by
      simp [sameB]; rintro rfl; omega
    have HN := Lib.hid hb
    have b1 : ((n : Int) != (m : Int)) = true := by simp; omega
    clear hlen hlen2 h1 hb
    go_enter Try.func16, Try.ntmps16
    go_wp2
    go_ret
    exact ⟨ret_bool HN.out.symm, Ext.refl _⟩
