import Derived.Test.YtpcbllmmbbmkfaaW2
namespace Go.Proofs.Ytpcbllmmbbmkfaa
open Go.RowKit Go.Nb
theorem str_index (s : ByteArray) (i : Nat) (hi : i < s.size) (w : World) : (Instr.index 9 (.string s) (.int .i64 (i : Int))).run Try.prog w = .ok (.int .u8 (bn s i : Int)) w := by
  have hu := Try.underlying9
  have e : bn s i = (s[i]'hi).toNat := by
    have := bt_get s i hi
    rw [bt_bn] at this
    omega
  simp [Instr.index, run_underlying hu, asIntOf, hi, e]
theorem str_get (s : ByteArray) (i : Nat) (h : i < s.size) : (s[i]'h).toNat = bn s i := by
  have := bt_get s i h
  rw [bt_bn] at this
  omega
theorem Ls_cons {s : ByteArray} {c : UInt8} {r : Bs} (h : Ls s = c :: r) : s.size = r.length + 1 ∧ bn s 0 = c.toNat ∧ ∀ i, bn s (i + 1) = (r.getD i 0).toNat := by
  have h1 : s.data.toList = c :: r := h
  refine ⟨by rw [← Ls_length, h]; rfl, by unfold bn; rw [h1]; rfl, fun i => by unfold bn; rw [h1]; rfl⟩
theorem ofInt_u64 (a : Nat) (ha : a < 18446744073709551616) : (BitVec.ofInt 64 (a : Int)).toNat = a := by
  rw [BitVec.ofInt_natCast, BitVec.toNat_ofNat]; exact Nat.mod_eq_of_lt (by omega)
theorem u64_or (a b : Nat) (ha : a < 18446744073709551616) (hb : b < 18446744073709551616) : bits .or .u64 (a : Int) (b : Int) = ((a ||| b : Nat) : Int) := by
  have hx : a ||| b < 2 ^ 64 := Nat.or_lt_two_pow (n := 64) ha hb
  show IntKind.u64.wrap ((BitVec.ofInt 64 (a : Int) ||| BitVec.ofInt 64 (b : Int)).toNat : Int) = _
  rw [BitVec.toNat_or, ofInt_u64 a ha, ofInt_u64 b hb]
  exact u64_lt hx
theorem shl_or {k y : Nat} (hk : k < 72057594037927936) (hy : y < 256) : bits .or .u64 (IntKind.u64.wrap ((k : Int) * 256)) (y : Int) = ((256 * k + y : Nat) : Int) := by
  have h1 : IntKind.u64.wrap ((k : Int) * 256) = ((k * 256 : Nat) : Int) := by
    rw [← u64_lt (d := k * 256) (by omega)]; congr 1
  rw [h1, u64_or _ _ (by omega) (by omega)]
  congr 1
  have := Nat.shiftLeft_add_eq_or_of_lt (i := 8) (b := y) (by omega) k
  rw [Nat.shiftLeft_eq, show (2 : Nat) ^ 8 = 256 from rfl] at this
  omega
theorem valL_take (l : Bs) (j : Nat) (h : j < l.length) : valL (l.take (j + 1)) = 256 * valL (l.take j) + (l[j]'h).toNat := by
  rw [List.take_succ_eq_append_getElem h, valL_snoc]
theorem valL_take_lt (l : Bs) (j m : Nat) (h : j < m) (hm : m ≤ 8) : valL (l.take j) < 72057594037927936 := by
  have h1 := valL_lt (l.take j)
  have h2 : (256 : Nat) ^ (l.take j).length ≤ 256 ^ 7 := Nat.pow_le_pow_right (by omega) (by rw [List.length_take]; omega)
  have h3 : (256 : Nat) ^ 7 = 72057594037927936 := by decide
  omega
theorem bn_Ls (s : ByteArray) (l : Bs) (h : Ls s = l) (j : Nat) (hj : j < l.length) : bn s j = (l[j]'hj).toNat := by
  subst h
  unfold bn
  rw [List.getD_eq_getElem?_getD]
  show ((Ls s)[j]?.getD 0).toNat = _
  rw [List.getElem?_eq_getElem hj]; rfl
def ReadIs (s : ByteArray) (w : World) (e : Ending) (w' : World) : Prop := e = .returned (.tuple #[.int .u64 (readL (Ls s)).1, .int .i64 (readL (Ls s)).2.1, .int .i64 (readL (Ls s)).2.2]) ∧ Ext w w'
theorem readIs_of {s : ByteArray} {w w' : World} {x n : Nat} {e : Int} (h : readL (Ls s) = (x, n, e)) (hE : Ext w w') : ReadIs s w (.returned (.tuple #[.int .u64 x, .int .i64 n, .int .i64 e])) w' := by
  unfold ReadIs; rw [h]; exact ⟨rfl, hE⟩
set_option maxRecDepth 100000 in
theorem read_any (s : ByteArray) (hs : s.size ≤ 1048576) (w : World) : Calls Try.prog 56 #[.string s] w (ReadIs s w) := by
  have hO := Ext.refl w
  cases hl : Ls s with
  | nil =>
    have hR : readL (Ls s) = (0, 0, 10) := by rw [hl]; rfl
    have e1 : s.toList = [] := by rw [toList_Ls]; exact hl
    have HR := Lib.hid hR
    clear hl hR
    go_enter Try.func56, Try.ntmps56
    go_wp2
    go_ret3
    exact readIs_of HR.out hO
  | cons c r =>
    obtain ⟨hz, hb0, hb1⟩ := Ls_cons hl
    have e1 : s.toList.isEmpty = false := by rw [toList_Ls, hl]; rfl
    have e2 : (s.toList == []) = false := by rw [toList_Ls, hl]; rfl
    have p0 : 0 < s.size := by omega
    obtain ⟨m, hm⟩ : ∃ m, m = c.toNat := ⟨_, rfl⟩
    have g0 : (s[0]'p0).toNat = m := by rw [str_get, hb0, hm]
    have m0 : (0 : Int) ≤ (m : Int) := by omega
    have m1 : (m : Int) < 256 := by have := c.toNat_lt; omega
    have HM := Lib.hid hm
    have HZ := Lib.hid hz
    have HL := Lib.hid hl
    have HB := Lib.hid hb1
    clear hb0
    by_cases h8 : 8 < m
    · have t1 : decide ((8 : Int) < (m : Int)) = true := by simp; omega
      have hR : readL (Ls s) = (0, 0, 8) := by rw [hl, readL_cons, if_pos (by omega)]
      have HR := Lib.hid hR
      clear hl hm hz hR
      go_enter Try.func56, Try.ntmps56
      go_wp2
      go_ret3
      exact readIs_of HR.out hO
    · have t1 : decide ((8 : Int) < (m : Int)) = false := by simp; omega
      by_cases hlen : s.size ≤ m
      · have t2 : decide (s.size ≤ m) = true := by simpa using hlen
        have hR : readL (Ls s) = (0, 0, 10) := by rw [hl, readL_cons, if_neg (by omega), if_pos (by omega)]
        have HR := Lib.hid hR
        clear hl hm hz hR
        go_enter Try.func56, Try.ntmps56
        go_wp2
        go_ret3
        exact readIs_of HR.out hO
      · have t2 : decide (s.size ≤ m) = false := by simpa using hlen
        have hbs : Ls (s.extract 1 (m + 1)) = r.take m := by rw [Ls_extract, hl]; simp
        have hTz : (s.extract 1 (m + 1)).size = m := by rw [← Ls_length, hbs, List.length_take]; omega
        have HBS := Lib.hid hbs
        have HTZ := Lib.hid hTz
        have p2 : (m : Int) + 1 ≤ (s.size : Int) := by omega
        have hhead : 0 < m → r.headD 0 = 0 → bn s 1 = 0 := fun hm0 h0 => by
          rw [hb1 0]
          cases r with
          | nil => simp at hz; omega
          | cons a q => simp at h0; simp [h0]
        have hhead2 : 0 < m → bn s 1 = 0 → r.headD 0 = 0 := fun hm0 h0 => by
          rw [hb1 0] at h0
          cases r with
          | nil => rfl
          | cons a q =>
            have h1 : a.toNat = 0 := by simpa using h0
            show a = 0
            exact UInt8.toNat_inj.mp (by simpa using h1)
        by_cases hmp : 0 < m
        · have t3 : decide (0 < m) = true := by simpa using hmp
          have p1 : 1 < s.size := by omega
          have g1 := str_get s 1 p1
          by_cases hb : bn s 1 = 0
          · have hR : readL (Ls s) = (0, 0, 8) := by rw [hl, readL_cons, if_neg (by omega), if_neg (by omega), if_pos ⟨by omega, hhead2 hmp hb⟩]
            have HR := Lib.hid hR
            have t4 : ((bn s 1 : Int) == 0) = true := by simp; omega
            generalize bn s 1 = b1 at *
            clear hl hm hz hR hbs hTz hhead hhead2 hb
            go_enter Try.func56, Try.ntmps56
            go_wp2
            go_ret3
            exact readIs_of HR.out hO
          · have hR : readL (Ls s) = (valL (r.take m), m + 1, 0) := by rw [hl, readL_cons, if_neg (by omega), if_neg (by omega), if_neg (fun h => hb (hhead hmp h.2)), hm]
            have HR := Lib.hid hR
            have t4 : ((bn s 1 : Int) == 0) = false := by simp; omega
            generalize bn s 1 = b1 at *
            clear hl hm hz hR hbs hTz hhead hhead2 hb
            go_enter Try.func56, Try.ntmps56
            go_wp2_with (with_reducible refine wpList_str_bytes rfl 9 79 5 (.tmp 31) rfl Try.underlying9 Try.underlying79 Try.underlying5 (s.extract 1 (m + 1)) rfl ?_; intro C w1 hC hBM hcell hbel _; rw [HTZ.out] at hC ⊢)
            have HBS2 : Hid (Ls (s.extract 1 (m + 1)) = r.take m) := HBS
            have hE1 : Ext w w1 := hbel
            have hcells : ∀ j (hj : j < m), w1.cell? ⟨w.heap.size, j, none⟩ = some (.int .u8 (bn (s.extract 1 (m + 1)) j : Int)) := fun j hj => by
              rw [hBM.cell, hcell j (by rw [HTZ.out]; exact hj)]; rfl
            have HCE := Lib.hid hcells
            generalize C.size = cs at *
            clear hC hBM hcell hbel hcells
            obtain ⟨g, hg⟩ : ∃ g, g = w.heap.size := ⟨_, rfl⟩
            rw [← hg]
            have HG := Lib.hid hg
            clear hg
            go_loopw [2, 34] (fun xv iv wr => ∃ j k : Nat, j ≤ m ∧ iv = .int .i64 j ∧ xv = .int .u64 k ∧ Hid (k = valL ((r.take m).take j)) ∧ Ext w1 wr) (fun _ iv _ => m - (intOf iv).toNat)
            case atStart => exact ⟨0, 0, by omega, rfl, rfl, Lib.hid rfl, Ext.refl _⟩
            case round =>
              obtain ⟨j, k, hj, rfl, rfl, hk, hE2⟩ := hrel
              by_cases hj2 : j < m
              · have t5 : decide (j < m) = true := by simpa using hj2
                have jj0 : (0 : Int) ≤ (j : Int) := by omega
                have jj1 : (j : Int) < (m : Int) := by omega
                have ce := hE2.cellv (HCE.out j hj2)
                rw [← HG.out] at ce
                obtain ⟨y, hy⟩ : ∃ y, y = bn (s.extract 1 (m + 1)) j := ⟨_, rfl⟩
                rw [← hy] at ce
                have hy8 : y < 256 := by rw [hy]; exact bn_lt _ _
                have y0 : (0 : Int) ≤ (y : Int) := by omega
                have y1 : (y : Int) < 256 := by omega
                have HY := Lib.hid hy
                clear hy
                have hlen : (r.take m).length = m := by rw [← HBS.out, Ls_length]; exact HTZ.out
                have hyv := bn_Ls _ _ HBS.out j (by omega)
                have hkv := valL_take (r.take m) j (by omega)
                have hkb := valL_take_lt (r.take m) j m hj2 (by omega)
                have hbits := shl_or (k := k) (y := y) (by rw [hk.out]; exact hkb) hy8
                obtain ⟨k2, hk2⟩ : ∃ k2, k2 = 256 * k + y := ⟨_, rfl⟩
                rw [← hk2] at hbits
                have HK2 : Hid (k2 = valL ((r.take m).take (j + 1))) := Lib.hid (by rw [hkv, hk2, hk.out, HY.out, hyv])
                clear hk2 hlen hyv hkv hkb
                go_wp2
                go_roundw
                case rel => exact ⟨j + 1, k2, by omega, by go_num, rfl, HK2, hE2⟩
                case measure => simp [intOf]; omega
              · have t5 : decide (j < m) = false := by simpa using hj2
                have hjm : j = m := by omega
                have hfin : k = valL (r.take m) := by
                  rw [hk.out, hjm, List.take_of_length_le (by rw [List.length_take]; omega)]
                have HFIN := Lib.hid hfin
                clear hfin hjm
                go_wp2
                go_ret3
                have h9 := HR.out
                rw [← HFIN.out] at h9
                exact readIs_of h9 (hE1.trans hE2)
        · have t3 : decide (0 < m) = false := by simpa using hmp
          have hR : readL (Ls s) = (valL (r.take m), m + 1, 0) := by rw [hl, readL_cons, if_neg (by omega), if_neg (by omega), if_neg (fun h => by omega), hm]
          have HR := Lib.hid hR
          clear hl hm hz hR hbs hTz hhead hhead2
          go_enter Try.func56, Try.ntmps56
          go_wp2_with (with_reducible refine wpList_str_bytes rfl 9 79 5 (.tmp 31) rfl Try.underlying9 Try.underlying79 Try.underlying5 (s.extract 1 (m + 1)) rfl ?_; intro C w1 hC hBM hcell hbel _; rw [HTZ.out] at hC ⊢)
          have HBS2 : Hid (Ls (s.extract 1 (m + 1)) = r.take m) := HBS
          have hE1 : Ext w w1 := hbel
          have hcells : ∀ j (hj : j < m), w1.cell? ⟨w.heap.size, j, none⟩ = some (.int .u8 (bn (s.extract 1 (m + 1)) j : Int)) := fun j hj => by
            rw [hBM.cell, hcell j (by rw [HTZ.out]; exact hj)]; rfl
          have HCE := Lib.hid hcells
          generalize C.size = cs at *
          clear hC hBM hcell hbel hcells
          obtain ⟨g, hg⟩ : ∃ g, g = w.heap.size := ⟨_, rfl⟩
          rw [← hg]
          have HG := Lib.hid hg
          clear hg
          go_loopw [2, 34] (fun xv iv wr => ∃ j k : Nat, j ≤ m ∧ iv = .int .i64 j ∧ xv = .int .u64 k ∧ Hid (k = valL ((r.take m).take j)) ∧ Ext w1 wr) (fun _ iv _ => m - (intOf iv).toNat)
          case atStart => exact ⟨0, 0, by omega, rfl, rfl, Lib.hid rfl, Ext.refl _⟩
          case round =>
            obtain ⟨j, k, hj, rfl, rfl, hk, hE2⟩ := hrel
            by_cases hj2 : j < m
            · exact absurd hj2 (by omega)
            · have t5 : decide (j < m) = false := by simpa using hj2
              have hjm : j = m := by omega
              have hfin : k = valL (r.take m) := by
                rw [hk.out, hjm, List.take_of_length_le (by rw [List.length_take]; omega)]
              have HFIN := Lib.hid hfin
              clear hfin hjm
              go_wp2
              go_ret3
              have h9 := HR.out
              rw [← HFIN.out] at h9
              exact readIs_of h9 (hE1.trans hE2)
