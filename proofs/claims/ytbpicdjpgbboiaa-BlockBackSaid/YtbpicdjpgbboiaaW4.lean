import Derived.Test.YtbpicdjpgbboiaaW3
namespace Go.Proofs.Ytbpicdjpgbboiaa
open Go.RowKit Go.Nb
theorem mul_add {k y : Nat} (hk : k < 72057594037927936) (hy : y < 256) : IntKind.u64.wrap (IntKind.u64.wrap (256 * (k : Int)) + (y : Int)) = ((256 * k + y : Nat) : Int) := by
  have h1 : IntKind.u64.wrap (256 * (k : Int)) = ((256 * k : Nat) : Int) := by
    rw [← u64_lt (d := 256 * k) (by omega)]; congr 1
  rw [h1, ← Int.natCast_add]
  exact u64_lt (by omega)
theorem valL_takeD (l : Bs) (j : Nat) (h : j < l.length) : valL (l.take (j + 1)) = 256 * valL (l.take j) + (l.getD j 0).toNat := by
  rw [valL_take l j h, List.getD_eq_getElem?_getD, List.getElem?_eq_getElem h]; rfl
set_option maxRecDepth 100000 in
theorem read_ref (s : ByteArray) (hs : s.size ≤ 1048576) (w : World) : Calls Try.prog 46 #[.string s] w (ReadIs s w) := by
  have hO := Ext.refl w
  cases hl : Ls s with
  | nil =>
    have hR : readL (Ls s) = (0, 0, 10) := by rw [hl]; rfl
    have e1 : s.toList = [] := by rw [toList_Ls]; exact hl
    have HR := Lib.hid hR
    clear hl hR
    go_enter Try.func46, Try.ntmps46
    go_wp2
    go_ret3
    exact readIs_of HR.out hO
  | cons c r =>
    obtain ⟨hz, hb0, hb1⟩ := Ls_cons hl
    have e1 : s.toList.isEmpty = false := by rw [toList_Ls, hl]; rfl
    have e2 : (s.toList == []) = false := by rw [toList_Ls, hl]; rfl
    have p0 : 0 < s.size := by omega
    obtain ⟨m, hm⟩ : ∃ m, m = c.toNat := ⟨_, rfl⟩
    have g0 : (s[0]'p0).toNat = m := by rw [str_get, hb0, hm]
    have m0 : (0 : Int) ≤ (m : Int) := by omega
    have m1 : (m : Int) < 256 := by have := c.toNat_lt; omega
    have HM := Lib.hid hm
    have HZ := Lib.hid hz
    have HL := Lib.hid hl
    clear hb0
    by_cases h8 : 8 < m
    · have t1 : decide ((8 : Int) < (m : Int)) = true := by simp; omega
      have hR : readL (Ls s) = (0, 0, 8) := by rw [hl, readL_cons, if_pos (by omega)]
      have HR := Lib.hid hR
      clear hl hm hz hR
      go_enter Try.func46, Try.ntmps46
      go_wp2
      go_ret3
      exact readIs_of HR.out hO
    · have t1 : decide ((8 : Int) < (m : Int)) = false := by simp; omega
      by_cases hlen : s.size ≤ m
      · have t2 : decide ((s.size : Int) < 1 + (m : Int)) = true := by simp; omega
        have hR : readL (Ls s) = (0, 0, 10) := by rw [hl, readL_cons, if_neg (by omega), if_pos (by omega)]
        have HR := Lib.hid hR
        clear hl hm hz hR
        go_enter Try.func46, Try.ntmps46
        go_wp2
        go_ret3
        exact readIs_of HR.out hO
      · have t2 : decide ((s.size : Int) < 1 + (m : Int)) = false := by simp; omega
        have hlenr : (r.take m).length = m := by rw [List.length_take]; omega
        have hbr : ∀ j (hj : j < m), bn s (j + 1) = ((r.take m).getD j 0).toNat := fun j hj => by
          rw [hb1 j, List.getD_eq_getElem?_getD, List.getD_eq_getElem?_getD, List.getElem?_take, if_pos hj]
        have HBR := Lib.hid hbr
        have HLR := Lib.hid hlenr
        have hhead : 0 < m → r.headD 0 = 0 → bn s 1 = 0 := fun hm0 h0 => by
          rw [hb1 0]
          cases r with
          | nil => simp at hz; omega
          | cons a q => simp at h0; simp [h0]
        have hhead2 : 0 < m → bn s 1 = 0 → r.headD 0 = 0 := fun hm0 h0 => by
          rw [hb1 0] at h0
          cases r with
          | nil => rfl
          | cons a q =>
            have h1 : a.toNat = 0 := by simpa using h0
            show a = 0
            exact UInt8.toNat_inj.mp (by simpa using h1)
        have HH := Lib.hid hhead
        have HH2 := Lib.hid hhead2
        clear hhead hhead2 hb1 hbr hlenr hl hm hz
        have mm : (m : Int) ≤ 8 := by omega
        go_enter Try.func46, Try.ntmps46
        go_wp2
        go_loopw [6, 7] (fun xv iv wr => ∃ j k : Nat, j ≤ m ∧ iv = .int .i64 ((j : Int) + 1) ∧ xv = .int .u64 k ∧ Hid (k = valL ((r.take m).take j)) ∧ Ext w wr) (fun _ iv _ => m + 1 - (intOf iv).toNat)
        case atStart => exact ⟨0, 0, by omega, rfl, rfl, Lib.hid rfl, hO⟩
        case round =>
          obtain ⟨j, k, hj, rfl, rfl, hk, hE2⟩ := hrel
          have jj0 : (0 : Int) ≤ (j : Int) := by omega
          have jj8 : (j : Int) ≤ 8 := by omega
          by_cases hj2 : j < m
          · have t5 : decide ((j : Int) + 1 ≤ (m : Int)) = true := by simp; omega
            have pj : j + 1 < s.size := by omega
            have gj : (s[j + 1]'pj).toNat = bn s (j + 1) := str_get s (j + 1) pj
            have pj2 : (j : Int) + 1 < (s.size : Int) := by omega
            have hyv := HBR.out j hj2
            obtain ⟨y, hy⟩ : ∃ y, y = bn s (j + 1) := ⟨_, rfl⟩
            rw [← hy] at gj
            have hy8 : y < 256 := by rw [hy]; exact bn_lt _ _
            have y0 : (0 : Int) ≤ (y : Int) := by omega
            have y1 : (y : Int) < 256 := by omega
            have hkv := valL_takeD (r.take m) j (by have := HLR.out; omega)
            have hkb := valL_take_lt (r.take m) j m hj2 (by omega)
            have hbits := mul_add (k := k) (y := y) (by rw [hk.out]; exact hkb) hy8
            obtain ⟨k2, hk2⟩ : ∃ k2, k2 = 256 * k + y := ⟨_, rfl⟩
            rw [← hk2] at hbits
            have HK2 : Hid (k2 = valL ((r.take m).take (j + 1))) := Lib.hid (by rw [hkv, hk2, hk.out, hy, hyv])
            clear hk2 hyv hkv hkb hy
            go_wp2
            go_roundw
            case rel => exact ⟨j + 1, k2, by omega, by go_num, rfl, HK2, hE2⟩
            case measure => simp [intOf]; omega
          · have t5 : decide ((j : Int) + 1 ≤ (m : Int)) = false := by simp; omega
            have hjm : j = m := by omega
            have hfin : k = valL (r.take m) := by
              rw [hk.out, hjm, List.take_of_length_le (by rw [List.length_take]; omega)]
            have HFIN := Lib.hid hfin
            clear hfin hjm
            have hl := HL.out
            have hm := HM.out
            have hz := HZ.out
            by_cases hmp : 0 < m
            · have t3 : decide (0 < m) = true := by simpa using hmp
              have p1 : 1 < s.size := by omega
              have g1 := str_get s 1 p1
              by_cases hb : bn s 1 = 0
              · have hR : readL (Ls s) = (0, 0, 8) := by rw [hl, readL_cons, if_neg (by omega), if_neg (by omega), if_pos ⟨by omega, HH2.out hmp hb⟩]
                have HR := Lib.hid hR
                have t4 : ((bn s 1 : Int) == 0) = true := by simp; omega
                clear hl hm hz hR HBR HH HH2 hb
                generalize bn s 1 = b1 at *
                go_wp2
                go_ret3
                exact readIs_of HR.out hE2
              · have hR : readL (Ls s) = (k, m + 1, 0) := by rw [hl, readL_cons, if_neg (by omega), if_neg (by omega), if_neg (fun h => hb (HH.out hmp h.2)), ← hm, HFIN.out]
                have HR := Lib.hid hR
                have t4 : ((bn s 1 : Int) == 0) = false := by simp; omega
                clear hl hm hz hR HBR HH HH2 hb
                generalize bn s 1 = b1 at *
                go_wp2
                go_ret3
                have h9 := HR.out
                rw [Nat.add_comm m 1] at h9
                have := readIs_of h9 hE2
                rw [Int.natCast_add] at this
                exact this
            · have t3 : decide (0 < m) = false := by simpa using hmp
              have hR : readL (Ls s) = (k, m + 1, 0) := by rw [hl, readL_cons, if_neg (by omega), if_neg (by omega), if_neg (fun h => by omega), ← hm, HFIN.out]
              have HR := Lib.hid hR
              clear hl hm hz hR HBR HH HH2
              go_wp2
              go_ret3
              have h9 := HR.out
              rw [Nat.add_comm m 1] at h9
              have := readIs_of h9 hE2
              rw [Int.natCast_add] at this
              exact this
