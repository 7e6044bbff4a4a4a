import Derived.Test.YtbmemogajgbdgaaM20
namespace Go.Proofs.Ytbmemogajgbdgaa
open Go.RowKit Go.Gf
set_option maxRecDepth 100000 in
set_option maxHeartbeats 4000000 in
theorem matrixUnits_walk (A : Option Addr) (n cap : Nat) (a : List ByteArray) (B : Option Addr) (m cap2 : Nat) (b : List ByteArray) (C : Option Addr) (k cap3 : Nat) (r : List Int) (W : World) (ha : Rd W A n (a.map Value.string)) (_ : n ≤ maxLen) (_ : ∀ s ∈ a, s.size ≤ maxLen) (hb : Rd W B m (b.map Value.string)) (_ : m ≤ maxLen) (_ : ∀ s ∈ b, s.size ≤ maxLen)
    (hr : Rd W C k (r.map (Value.int .u8))) (hkm : k ≤ maxLen) (hw : ∀ x ∈ r, (Lit.int .u8 x).wf = true) :
    Calls Try.prog 7 #[.slice A n cap, .slice B m cap2, .slice C k cap3] W fun e w' => e = .returned (.bool true) ∧ Ext W w' := by
  have hO := Ext.refl W
  unfold maxLen at hkm
  have HW := Lib.hid hw
  clear hw
  by_cases haS : Sm n a
  · by_cases hbS : Sm m b
    · by_cases hk : 60 < k
      · have hkB : decide ((60 : Int) < (k : Int)) = true := by simp; omega
        go_enter Try.func7, Try.ntmps7
        go_wp2_with (first
          | (go_at_call 8; (with_reducible refine (heavy_b A n cap a _ (ha.ext hO)).mono ?_); rintro e w1 ⟨⟨B, rfl⟩, hE⟩; replace hO := hO.trans hE; clear hE; cases B)
          | (go_at_call 8; (with_reducible refine (heavy_b B m cap2 b _ (hb.ext hO)).mono ?_); rintro e w2 ⟨⟨B, rfl⟩, hE⟩; replace hO := hO.trans hE; clear hE; cases B)
          | (go_at_call 9; (with_reducible refine (alive_any _).mono ?_); rintro e w3 ⟨rfl, hE⟩; replace hO := hO.trans hE; clear hE))
        all_goals
          go_ret
          exact ⟨rfl, hO⟩
      · have hkB : decide ((60 : Int) < (k : Int)) = false := by simp; omega
        by_cases hk0 : k = 0
        · have hkz : ((k : Int) == 0) = true := by rw [hk0]; rfl
          clear hk0
          go_enter Try.func7, Try.ntmps7
          go_wp2_with (first
            | (go_at_call 8; (with_reducible refine (heavy_b A n cap a _ (ha.ext hO)).mono ?_); rintro e w1 ⟨⟨B, rfl⟩, hE⟩; replace hO := hO.trans hE; clear hE; cases B)
            | (go_at_call 8; (with_reducible refine (heavy_b B m cap2 b _ (hb.ext hO)).mono ?_); rintro e w2 ⟨⟨B, rfl⟩, hE⟩; replace hO := hO.trans hE; clear hE; cases B)
            | (go_at_call 9; (with_reducible refine (alive_any _).mono ?_); rintro e w3 ⟨rfl, hE⟩; replace hO := hO.trans hE; clear hE))
          all_goals
            go_ret
            exact ⟨rfl, hO⟩
        · have hkz : ((k : Int) == 0) = false := by simp; omega
          by_cases hm : mayP a
          · have HM := Lib.hid (mayB_yes hm)
            have hla : a.length = n := by have := ha.1; simpa using this
            have hlb : b.length = m := by have := hb.1; simpa using this
            have hlr : r.length = k := by have := hr.1; simpa using this
            have hn1 := hm.1
            rw [hla] at hn1
            obtain ⟨gs, os, rfl, hgs, hcell⟩ := ha.at_ (show 0 < n by omega)
            have hl0 := len0_eq (l := a) (by omega)
            simp only [List.getElem_map, Nat.add_zero] at hcell
            generalize a[0]'(by omega) = s0 at *
            have k0 : (0 : Int) < (n : Int) := by omega
            have h01 := hm.2.1
            rw [hl0] at h01
            have hp := idxL_ok hla hn1.1 (r := r) (by omega)
            have TL := Lib.hid (uTL (cap := cap) (A := some ⟨gs, os, none⟩) hm hla)
            have TR := Lib.hid (uTR (cap := cap) (A := some ⟨gs, os, none⟩) hm hla hl0)
            have PK := Lib.hid (uPK (cap := cap) (A := some ⟨gs, os, none⟩) (k := k) hm hla hp (by omega))
            have PU := Lib.hid (uPU (k := k) hm hla hp (by omega))
            have TU := Lib.hid (uTU (cap := cap) (A := some ⟨gs, os, none⟩) hm hla hp)
            have U1 := Lib.hid (unitS n hn1)
            have U2 := Lib.hid (unitS s0.size h01)
            have HLR := Lib.hid hlr
            have HP := Lib.hid hp
            have HMA := Lib.hid hm
            have HLA := Lib.hid hla
            have HLB := Lib.hid hlb
            clear hm hla hlb hlr hl0 h01 hp hn1 hk0
            go_enter Try.func7, Try.ntmps7
            go_wp2_with (first
              | (go_at_call 8; (with_reducible refine (heavy_b (some ⟨gs, os, none⟩) n cap a _ (ha.ext hO)).mono ?_); rintro e w1 ⟨⟨B, rfl⟩, hE⟩; replace hO := hO.trans hE; clear hE; cases B)
              | (go_at_call 8; (with_reducible refine (heavy_b B m cap2 b _ (hb.ext hO)).mono ?_); rintro e w2 ⟨⟨B, rfl⟩, hE⟩; replace hO := hO.trans hE; clear hE; cases B)
              | (go_at_call 15; (with_reducible refine (rmay_is true (some ⟨gs, os, none⟩) n cap a _ (ha.ext hO) haS.n haS.z HM.out).mono ?_); rintro e w3 ⟨rfl, hE⟩; replace hO := hO.trans hE; clear hE)
              | (go_at_call 17; (with_reducible refine (U1.out _).mono ?_); rintro e wU ⟨AU, cU, rfl, hU, hE⟩; replace hO := hO.trans hE; clear hE)
              | (go_at_call 10; (with_reducible refine (TL.out AU cU _ (ha.ext hO) hU).mono ?_); rintro e w4 ⟨A1, n1, c1, rfl, hn1, hr1, hE⟩; replace hO := hO.trans hE; replace hcell := hO.cellv hcell; clear hE)
              | (go_at_call 17; (with_reducible refine (U2.out _).mono ?_); rintro e wU ⟨AU, cU, rfl, hU, hE⟩; replace hO := hO.trans hE; replace hr1 := hr1.ext hE; clear hE)
              | (go_at_call 10; (with_reducible refine (TR.out AU cU _ (ha.ext hO) hU).mono ?_); rintro e w5 ⟨A2, n2, c2, rfl, hn2, hr2, hE⟩; replace hO := hO.trans hE; replace hr1 := hr1.ext hE; clear hE)
              | (go_at_call 16; (with_reducible refine (same_big A1 (some ⟨gs, os, none⟩) n1 c1 n cap _ _ hr1 (ha.ext hO) hn1 haS.n).mono ?_); rintro e w4 ⟨rfl, hE⟩; replace hO := hO.trans hE; replace hr1 := hr1.ext hE; replace hr2 := hr2.ext hE; clear hE)
              | (go_at_call 16; (with_reducible refine (same_big A2 (some ⟨gs, os, none⟩) n2 c2 n cap _ _ hr2 (ha.ext hO) hn2 haS.n).mono ?_); rintro e w5 ⟨rfl, hE⟩; replace hO := hO.trans hE; replace hr1 := hr1.ext hE; replace hr2 := hr2.ext hE; clear hE)
              | (go_at_call 9; (with_reducible refine (alive_any _).mono ?_); rintro e w6 ⟨rfl, hE⟩; replace hO := hO.trans hE; clear hE))
            · clear hcell hr1 hr2
              go_loopw [11, 12] (fun v x wr => ∃ j : Nat, j ≤ k ∧ x = .int .i64 j ∧ ∃ (L : Option Addr) (cl : Nat), v = .slice L j cl ∧ wr.ownsRow W.heap.size 3 1 (.slice L j cl) j ((idxL n (r.take j)).map (Value.int .i64)) ∧ Ext W wr) (fun _ x _ => k - (intOf x).toNat)
              case atStart => exact ⟨0, by omega, rfl, none, 0, rfl, World.ownsRow_nil _ _ _ _, hO⟩
              case round =>
                obtain ⟨j, hj, rfl, L, cl, rfl, hown, hE⟩ := hrel
                clear hO
                by_cases hj2 : j < k
                · obtain ⟨gt, ot, rfl, hgt, hc2⟩ := (hr.ext hE).at_ hj2
                  simp only [List.getElem_map] at hc2
                  have hlj : j < r.length := by rw [HLR.out]; exact hj2
                  have hps := idxL_succ n r j hlj
                  have hwx := HW.out (r[j]'hlj) (List.getElem_mem _)
                  generalize r[j]'hlj = x at *
                  have hx0 : IntKind.u8.min ≤ x ∧ x ≤ IntKind.u8.max := by simpa [Lit.wf] using hwx
                  have hx1 : 0 ≤ x ∧ x ≤ 255 := hx0
                  clear hx0
                  obtain ⟨x0, x1⟩ := hx1
                  have hix : idxF n x = x % (n : Int) := rfl
                  rw [hix] at hps
                  have HPS := Lib.hid hps
                  have HO := Lib.hid hown
                  have hwz := hE.sz
                  have kj : (j : Int) < (k : Int) := by omega
                  have kj0 : (0 : Int) ≤ (j : Int) := by omega
                  clear hwx hix hps hown
                  go_wp2_with (at_builtin; refine wpList_app wr rfl _ _ 36 3 rfl Try.underlying36 (.int .i64 0) [.int .i64 (x % (n : Int))] 1 8 info3 rfl rfl (by decide) (by decide) W.heap.size (.slice L j cl) j _ rfl HO.out (one_int _ _) _ rfl rfl (by omega) hwz ?_; intro g4 cap4 w4 hown4 hG4 hg4)
                  go_roundw
                  case rel => exact ⟨j + 1, by omega, by go_num, _, cap4, rfl, by rw [HPS.out, List.map_append]; exact hown4, hG4.ext hE (Nat.le_refl _)⟩
                  case measure => simp [intOf]; omega
                · obtain rfl : k = j := by omega
                  have hrd := hown.rd
                  rw [List.take_of_length_le (by rw [HLR.out]; omega)] at hrd
                  have hO := hE
                  clear hown hE
                  by_cases hB : mayP a ∧ mayP b ∧ len0 a = len0 b ∧ a.length + b.length ≤ 64
                  · obtain ⟨N, hN⟩ : ∃ N, N = n + m := ⟨_, rfl⟩
                    have BO := Lib.hid (uBO (A := some ⟨gs, os, none⟩) (cap := cap) (B := B) (cap2 := cap2) hB.1 hB.2.1 hB.2.2.1 hB.2.2.2 HLA.out HLB.out hN)
                    have PZ := Lib.hid (uPZ (k := k) hB.1 hB.2.1 hB.2.2.1 hB.2.2.2 (N := N) (by rw [HLA.out, HLB.out, hN]) HP.out (by omega))
                    have nm : ((N : Int) == (n : Int) + (m : Int)) = true := by simp; omega
                    have hnm : n + m ≤ 64 := by have := hB.2.2.2; rw [HLA.out, HLB.out] at this; exact this
                    have hN64 : N ≤ 64 := by omega
                    clear hB hN
                    go_wp2_with (first
                      | (go_at_call 21; (with_reducible refine (PK.out L cl _ (ha.ext hO) hrd).mono ?_); rintro e w31 ⟨A3, n3, c3, rfl, hn3, hr3, hE⟩; replace hO := hO.trans hE; replace hrd := hrd.ext hE; clear hE)
                      | (go_at_call 17; (with_reducible refine (U1.out _).mono ?_); rintro e w32 ⟨AV, cV, rfl, hV, hE⟩; replace hO := hO.trans hE; replace hrd := hrd.ext hE; replace hr3 := hr3.ext hE; clear hE)
                      | (go_at_call 21; (with_reducible refine (PU.out AV cV L cl _ hV hrd).mono ?_); rintro e w33 ⟨A4, n4, c4, rfl, hn4, hr4, hE⟩; replace hO := hO.trans hE; replace hrd := hrd.ext hE; replace hr3 := hr3.ext hE; clear hE)
                      | (go_at_call 10; (with_reducible refine (TU.out A4 n4 c4 hn4 _ (ha.ext hO) hr4).mono ?_); rintro e w34 ⟨A5, n5, c5, rfl, hn5, hr5, hE⟩; replace hO := hO.trans hE; replace hrd := hrd.ext hE; replace hr3 := hr3.ext hE; clear hE)
                      | (go_at_call 16; (with_reducible refine (same_big A3 A5 n3 c3 n5 c5 _ _ hr3 hr5 hn3 hn5).mono ?_); rintro e w35 ⟨rfl, hE⟩; replace hO := hO.trans hE; replace hrd := hrd.ext hE; replace hr3 := hr3.ext hE; clear hE)
                      | (go_at_call 23; (with_reducible refine (BO.out _ (ha.ext hO) (hb.ext hO)).mono ?_); rintro e w36 ⟨A6, c6, rfl, hr6, hE⟩; replace hO := hO.trans hE; replace hrd := hrd.ext hE; replace hr3 := hr3.ext hE; clear hE)
                      | (go_at_call 21; (with_reducible refine (PZ.out A6 c6 L cl _ hr6 hrd).mono ?_); rintro e w37 ⟨A7, n7, c7, rfl, hn7, hr7, hE⟩; replace hO := hO.trans hE; replace hr3 := hr3.ext hE; clear hE)
                      | (go_at_call 16; (with_reducible refine (same_big A7 A3 n7 c7 n3 c3 _ _ hr7 hr3 hn7 hn3).mono ?_); rintro e w38 ⟨rfl, hE⟩; replace hO := hO.trans hE; clear hE)
                      | (go_at_call 9; (with_reducible refine (alive_any _).mono ?_); rintro e w39 ⟨rfl, hE⟩; replace hO := hO.trans hE; clear hE))
                    all_goals
                      go_ret
                      exact ⟨rfl, hO⟩
                  · have BF := Lib.hid (uBF (A := some ⟨gs, os, none⟩) (cap := cap) (B := B) (cap2 := cap2) hB haS hbS)
                    clear hB
                    go_wp2_with (first
                      | (go_at_call 21; (with_reducible refine (PK.out L cl _ (ha.ext hO) hrd).mono ?_); rintro e w31 ⟨A3, n3, c3, rfl, hn3, hr3, hE⟩; replace hO := hO.trans hE; replace hrd := hrd.ext hE; clear hE)
                      | (go_at_call 17; (with_reducible refine (U1.out _).mono ?_); rintro e w32 ⟨AV, cV, rfl, hV, hE⟩; replace hO := hO.trans hE; replace hrd := hrd.ext hE; replace hr3 := hr3.ext hE; clear hE)
                      | (go_at_call 21; (with_reducible refine (PU.out AV cV L cl _ hV hrd).mono ?_); rintro e w33 ⟨A4, n4, c4, rfl, hn4, hr4, hE⟩; replace hO := hO.trans hE; replace hrd := hrd.ext hE; replace hr3 := hr3.ext hE; clear hE)
                      | (go_at_call 10; (with_reducible refine (TU.out A4 n4 c4 hn4 _ (ha.ext hO) hr4).mono ?_); rintro e w34 ⟨A5, n5, c5, rfl, hn5, hr5, hE⟩; replace hO := hO.trans hE; replace hrd := hrd.ext hE; replace hr3 := hr3.ext hE; clear hE)
                      | (go_at_call 16; (with_reducible refine (same_big A3 A5 n3 c3 n5 c5 _ _ hr3 hr5 hn3 hn5).mono ?_); rintro e w35 ⟨rfl, hE⟩; replace hO := hO.trans hE; replace hrd := hrd.ext hE; replace hr3 := hr3.ext hE; clear hE)
                      | (go_at_call 23; (with_reducible refine (BF.out _ (ha.ext hO) (hb.ext hO)).mono ?_); rintro e w36 ⟨A6, n6, c6, E6, rfl, hE6, hE⟩; replace hO := hO.trans hE; clear hE)
                      | (go_at_call 9; (with_reducible refine (alive_any _).mono ?_); rintro e w39 ⟨rfl, hE⟩; replace hO := hO.trans hE; clear hE))
                    all_goals
                      go_ret
                      exact ⟨rfl, hO⟩
            all_goals
              go_ret
              exact ⟨rfl, hO⟩
          · have HM := Lib.hid (mayB_no hm)
            clear hm
            go_enter Try.func7, Try.ntmps7
            go_wp2_with (first
              | (go_at_call 8; (with_reducible refine (heavy_b A n cap a _ (ha.ext hO)).mono ?_); rintro e w1 ⟨⟨B, rfl⟩, hE⟩; replace hO := hO.trans hE; clear hE; cases B)
              | (go_at_call 8; (with_reducible refine (heavy_b B m cap2 b _ (hb.ext hO)).mono ?_); rintro e w2 ⟨⟨B, rfl⟩, hE⟩; replace hO := hO.trans hE; clear hE; cases B)
              | (go_at_call 15; (with_reducible refine (rmay_is false A n cap a _ (ha.ext hO) haS.n haS.z HM.out).mono ?_); rintro e w3 ⟨rfl, hE⟩; replace hO := hO.trans hE; clear hE)
              | (go_at_call 9; (with_reducible refine (alive_any _).mono ?_); rintro e w4 ⟨rfl, hE⟩; replace hO := hO.trans hE; clear hE))
            all_goals
              go_ret
              exact ⟨rfl, hO⟩
    · go_enter Try.func7, Try.ntmps7
      go_wp2_with (first
        | (go_at_call 8; (with_reducible refine (heavy_b A n cap a _ (ha.ext hO)).mono ?_); rintro e w1 ⟨⟨B, rfl⟩, hE⟩; replace hO := hO.trans hE; clear hE; cases B)
        | (go_at_call 8; (with_reducible refine (heavy_yes B m cap2 b _ (hb.ext hO) hbS).mono ?_); rintro e w2 ⟨rfl, hE⟩; replace hO := hO.trans hE; clear hE)
        | (go_at_call 9; (with_reducible refine (alive_any _).mono ?_); rintro e w3 ⟨rfl, hE⟩; replace hO := hO.trans hE; clear hE))
      all_goals
        go_ret
        exact ⟨rfl, hO⟩
  · go_enter Try.func7, Try.ntmps7
    go_wp2_with (first
      | (go_at_call 8; (with_reducible refine (heavy_yes A n cap a _ (ha.ext hO) haS).mono ?_); rintro e w1 ⟨rfl, hE⟩; replace hO := hO.trans hE; clear hE)
      | (go_at_call 9; (with_reducible refine (alive_any _).mono ?_); rintro e w2 ⟨rfl, hE⟩; replace hO := hO.trans hE; clear hE))
    all_goals
      go_ret
      exact ⟨rfl, hO⟩
