import Derived.Test.YtfelfhgfkfijgaaM21
namespace Go.Proofs.Ytfelfhgfkfijgaa
open Go.RowKit Go.Nb Go.Maps
theorem all_own {w : World} {g : Nat} {mo : Int} {l : List Pr} (hm : MemIs w g mo l) (hn : l.length ≤ 1048576) :
    Calls Try.prog 12 #[.pointer (some ⟨g, 0, none⟩)] w fun e w' => ∃ A c, e = .returned (.slice A l.length c) ∧ PRd w' A l.length l ∧ (∀ a, A = some a → a.block ≠ g) ∧ Ext w w' := by
  obtain ⟨A, c, hma, hP, hN, hC, _⟩ := hm
  have m2 := hma.c2
  have HCL := Lib.hid (clone_any hP hn hN)
  have HLT := Lib.hid (CellsT.lt hma)
  obtain ⟨n, hnn⟩ : ∃ n, n = l.length := ⟨_, rfl⟩
  rw [← hnn] at m2 HCL
  have HNN := Lib.hid hnn
  clear hnn hma hP hN hC
  go_enter Try.func12, Try.ntmps12
  go_wp2_with (go_at_call 24; (with_reducible refine HCL.out.mono ?_); rintro e w1 ⟨A1, c1, rfl, hO1, hE1⟩)
  go_ret
  refine ⟨A1, c1, by rw [← HNN.out]; rfl, ?_, fun a ha => ?_, hE1⟩
  · have := World.ownsRow.prd HNN.out.symm hO1
    rw [← HNN.out]; exact this
  · have hl := HLT.out
    rcases hO1.2 with ⟨h0, _⟩ | ⟨g1, cp, cur, hv, hb, _⟩
    · injection h0 with h0; rw [ha] at h0; cases h0
    · injection hv with h1
      rw [ha] at h1
      injection h1 with h1
      subst h1
      simp only
      omega
theorem prd_turn {w w' : World} {A : Option Addr} {n g : Nat} {l : List Pr} (h : PRd w A n l) (hT : Turn (· = g) w w') (hA : ∀ a, A = some a → a.block ≠ g) : PRd w' A n l := by
  refine ⟨h.1, fun h0 => ?_⟩
  obtain ⟨gg, o, ha, hc⟩ := h.2 h0
  exact ⟨gg, o, ha, fun i j hi hj => hT.cellv (hc i j hi hj) (hA ⟨gg, o, none⟩ ha)⟩
set_option maxHeartbeats 1000000 in
set_option maxRecDepth 100000 in
theorem memLast_walk (a0 : Int) (A : Option Addr) (n c : Nat) (ss : List Stp) (W : World) (w0 : (Lit.int .u16 a0).wf = true) (rd : SRd W A n ss) (mm : n ≤ maxLen) (_ok : n ≤ c) : Calls Try.prog 5 #[.int .u16 a0, .slice A n c] W fun e w' => e = .returned (.bool true) ∧ Ext W w' := by
  have HWK := Lib.hid (fun w => works_any w)
  have hTB := toList_Bt
  obtain ⟨x, rfl, hx⟩ : ∃ x : Nat, a0 = x ∧ x < 65536 := by
    have h0 : IntKind.u16.min ≤ a0 ∧ a0 ≤ IntKind.u16.max := by simpa [Lit.wf] using w0
    have h1 : 0 ≤ a0 ∧ a0 ≤ 65535 := h0
    exact ⟨a0.toNat, by omega, by omega⟩
  clear w0
  have HV := heavy_any (c := c) rd mm
  cases hb : heavyS ss
  case true =>
    rw [hb] at HV
    have HV := Lib.hid HV
    clear hb
    go_enter Try.func5, Try.ntmps5
    go_wp2_with (first
      | (go_at_call 7; (with_reducible refine HV.out.mono ?_); rintro e w1 ⟨rfl, hE1⟩)
      | (go_at_call 8; (with_reducible refine (HWK.out _).mono ?_); rintro e w2 ⟨rfl, hE2⟩))
    go_ret
    exact ⟨rfl, hE1.trans hE2⟩
  case false =>
    have hlt := heavy_light hb
    have hn : n ≤ 100 := by rw [← rd.1]; exact hlt.1
    have HQ := Lib.hid hlt.2
    rw [hb] at HV
    have HV := Lib.hid HV
    have HL := Lib.hid rd.1
    have HRD := Lib.hid rd
    have hmm := @run_makeMap Try.prog
    have HN1 : Hid (∀ w', Calls Try.prog 9 #[.int .i64 x] w' fun e w2 => e = .returned (.tuple #[.pointer (some ⟨w'.heap.size, 0, none⟩), .int .i64 0]) ∧ MemIs w2 w'.heap.size x [] ∧ Ext w' w2) := Lib.hid (fun w' => new_yes (by omega) (by omega) w')
    have x0 : (0 : Int) ≤ (x : Int) := by omega
    have x1 : (x : Int) < 65536 := by omega
    clear hb hlt rd mm
    go_enter Try.func5, Try.ntmps5
    go_wp2_with (first
      | (go_at_call 7; (with_reducible refine HV.out.mono ?_); rintro e w1 ⟨rfl, hE1⟩)
      | (go_at_call 9; (with_reducible refine (HN1.out _).mono ?_); rintro e w2 ⟨rfl, hM2, hE2⟩))
    obtain ⟨g, hg⟩ : ∃ g, g = w1.heap.size := ⟨_, rfl⟩
    rw [← hg] at hM2 ⊢
    have HST0 := Lib.hid (show MSt W (w2.alloc (.map #[] 0)) g w2.heap.size 0 x (.map []) [] from ⟨hM2.ext ((Ext.refl w2).alloc _), World.ownsMap_made _ _ _ _, (hE1.trans hE2).alloc _, by rw [hg]; exact hE1.sz, (hE1.trans hE2).sz⟩)
    have HX := Lib.hid hx
    clear hg hM2 hE1 hE2 hx x0 x1
    go_loopw [7, 8] (fun mv iv wr => ∃ (i b k : Nat) (D : DataW Unit) (l : List Pr), i ≤ n ∧ mv = .map (some b) ∧ iv = .int .i64 i ∧ MSt W wr g b k x D l ∧ k ≤ i * 1000 ∧ Hid (Rel ss D l) ∧ Hid (upB l = true) ∧ Hid (sizeP l ≤ x)) (fun _ iv _ => n - (intOf iv).toNat)
    case atStart => exact ⟨0, _, 0, _, [], by omega, rfl, rfl, HST0.out, by omega, Lib.hid (rel_nil ss), Lib.hid rfl, Lib.hid (by simp [sizeP])⟩
    case round =>
      obtain ⟨i, b, k, D, l, hi, rfl, rfl, hst, hk, hrel0, hup, hsz⟩ := hrel
      by_cases hi2 : i < n
      · have ii : (i : Int) < (n : Int) := by omega
        have ii0 : (0 : Int) ≤ (i : Int) := by omega
        obtain ⟨ga, oa, B, cb, rfl, c0, c1, c2, hB⟩ := HRD.out.at_ i hi2
        have hBw := hB
        replace c0 := hst.e.cellv c0
        replace c1 := hst.e.cellv c1
        replace c2 := hst.e.cellv c2
        replace hB := hB.ext hst.e
        obtain ⟨s, hs⟩ : ∃ s, s = ss.getD i default := ⟨_, rfl⟩
        rw [← hs] at c0 c1 c2 hB hBw
        have HS := Lib.hid hs
        have hql : s.q.length ≤ 100 := HQ.out s (by
          rw [hs, List.getD_eq_getElem?_getD, List.getElem?_eq_getElem (by rw [HL.out]; exact hi2)]; exact List.getElem_mem _)
        obtain ⟨q, hq⟩ : ∃ q, q = s.q := ⟨_, rfl⟩
        obtain ⟨d, hd⟩ : ∃ d, d = s.d := ⟨_, rfl⟩
        obtain ⟨ky, hky⟩ : ∃ ky, ky = s.key := ⟨_, rfl⟩
        rw [← hq] at c1 hB hql hBw
        rw [← hd] at c0
        rw [← hky] at c2
        obtain ⟨ql, hqq⟩ : ∃ ql, ql = q.length := ⟨_, rfl⟩
        rw [← hqq] at c1 hB hql hBw
        have HBW := Lib.hid hBw
        clear hBw
        have HQE := Lib.hid (show (ss.getD i default).q = q by rw [hq, hs])
        clear hs hq hd hky hqq HS
        have HST := Lib.hid (hst.ext ((Ext.refl wr).alloc (.cells #[.int .i64 d, .slice B ql cb, .string (Bt ky)] 25)))
        by_cases d4 : d = 4
        · subst d4
          have HCL := Lib.hid (clear_any HST.out.m)
          go_wp2_with (go_at_call 21; go_loud ((with_reducible refine HCL.out.mono ?_));  rintro e w3 ⟨rfl, hM3, hT3⟩)
          exact ⟨⟨i + 1, _, 0, _, [], by omega, rfl, rfl, (HST.out.mem hM3 hT3).made, by omega, Lib.hid (rel_nil ss), Lib.hid rfl, Lib.hid (by simp [sizeP])⟩, by simp [intOf]; omega⟩
        have t4 : (d == 4) = false := by simpa using d4
        by_cases d0 : d = 0
        · subst d0
          have hln := len_size l
          have HSZ := hsz.out
          have hx := HX.out
          have HAL : Hid (∀ W', MemIs W' g x l → Calls Try.prog 12 #[.pointer (some ⟨g, 0, none⟩)] W' fun e w2 => ∃ A c, e = .returned (.slice A l.length c) ∧ PRd w2 A l.length l ∧ (∀ a, A = some a → a.block ≠ g) ∧ Ext W' w2) := Lib.hid (fun W' h => all_own h (by omega))
          have HSA : Hid (∀ w' P Q c1 c2, PRd w' P l.length l → PRd w' Q l.length l → Calls Try.prog 11 #[.slice P l.length c1, .slice Q l.length c2] w' fun e w2 => e = .returned (.bool true) ∧ Ext w' w2) := Lib.hid (fun w' P Q c1 c2 h1 h2 => by have := same_ref (c := c1) (c' := c2) h1 h2 (by omega) (by omega); rwa [decide_eq_true rfl] at this)
          have HFI : Hid (∀ W' B' c', MemIs W' g x l → PRd W' B' ql q → Calls Try.prog 15 #[.pointer (some ⟨g, 0, none⟩), .slice B' ql c'] W' fun e w' => e = .returned (.bool (putE x l q == 0)) ∧ Ext W' w') := Lib.hid (fun W' B' c' h1 h2 => fits_any h1 hup.out (by omega) (by omega) h2 (by omega))
          have HPU : Hid (∀ W' B' c', MemIs W' g x l → PRd W' B' ql q → Calls Try.prog 10 #[.pointer (some ⟨g, 0, none⟩), .slice B' ql c'] W' fun e w' => e = .returned (.int .i64 (putE x l q)) ∧ MemIs w' g x (putR x l q) ∧ Turn (· = g) W' w') := Lib.hid (fun W' B' c' h1 h2 => put_any h1 hup.out (by omega) (by omega) h2 (by omega))
          have hblk := Blk.new wr 25 #[.int .i64 0, .slice B ql cb, .string (Bt ky)]
          have d1 : (wr.alloc (.cells #[.int .i64 0, .slice B ql cb, .string (Bt ky)] 25)).cell? ⟨wr.heap.size, 1, none⟩ = some (.slice B ql cb) := hblk.cell 1
          have D1 := Lib.hid d1
          have HB1 := Lib.hid (hB.ext ((Ext.refl wr).alloc (.cells #[.int .i64 0, .slice B ql cb, .string (Bt ky)] 25)))
          have HBL := Lib.hid hst.o.lt
          have HGL := Lib.hid (show g ≠ wr.heap.size by have := hst.1.lt; omega)
          clear hx hln HSZ hblk d1 hst
          by_cases hE0 : putE x l q = 0
          · have hpr : putR x l q = putsL l q := by unfold putR; rw [if_pos hE0]
            have hgd : q.any badP = false := by
              unfold putE at hE0
              cases hc : q.any badP
              · rfl
              · rw [hc] at hE0; simp at hE0
            have hsz2 : sizeP (putsL l q) ≤ x := by
              unfold putE at hE0
              rw [hgd] at hE0
              simp only [Bool.false_eq_true, if_false] at hE0
              split at hE0
              · cases hE0
              · omega
            rw [hE0] at HFI HPU
            rw [hpr] at HPU
            have HSZ2 := Lib.hid hsz2
            have HGD := Lib.hid hgd
            obtain ⟨ln, hln⟩ : ∃ ln, ln = l.length := ⟨_, rfl⟩
            rw [← hln] at HAL
            clear hpr hln hE0 hsz2 hgd
            go_wp2_with (first
              | (go_at_call 12; (with_reducible refine (HAL.out _ HST.out.m).mono ?_); rintro e w3 ⟨A1, k1, rfl, _, _, hE3⟩; have hs3 := HST.out.ext hE3; have d3 := hE3.cellv D1.out; have hB3 := HB1.out.ext hE3)
              | (at_builtin; refine wpList_copy rfl _ _ rfl rfl B ql cb rfl q hB3 (by omega) ?_; intro B4 c4 w4 hB4 hE4; have hs4 := hs3.ext hE4; have d4 := hE4.cellv d3; have hB4b := hB3.ext hE4)
              | (go_at_call 15; (with_reducible refine (HFI.out _ _ _ hs4.m hB4).mono ?_); rintro e w5 ⟨rfl, hE5⟩; have hs5 := hs4.ext hE5; have d5 := hE5.cellv d4; have hB5 := hB4b.ext hE5)
              | (at_builtin; refine wpList_copy rfl _ _ rfl rfl B ql cb rfl q hB5 (by omega) ?_; intro B6 c6 w6 hB6 hE6; have hs6 := hs5.ext hE6; have d6 := hE6.cellv d5)
              | (go_at_call 10; (with_reducible refine (HPU.out _ _ _ hs6.m hB6).mono ?_); rintro e w7 ⟨rfl, hM7, hT7⟩; have hs7 := Lib.hid (hs6.mem hM7 hT7); have d7 := Lib.hid (hT7.cellv d6 (fun e => HGL.out e.symm))))
            clear hs3 hs4 hs5 hs6 hB3 hB4 hB4b hB5 hB6 hM7 hE3 hE4 hE5 hE6 d3 d4 d5 d6 hB
            go_loopw [13] (fun jv wr2 => ∃ (j k2 : Nat) (D2 : DataW Unit), j ≤ ql ∧ jv = .int .i64 j ∧ MSt W wr2 g b k2 x D2 (putsL l q) ∧ k2 ≤ i * 1000 + j ∧ Hid (Rel ss D2 (putsL l (q.take j))) ∧ wr2.cell? ⟨wr.heap.size, 1, none⟩ = some (.slice B ql cb)) (fun jv _ => ql - (intOf jv).toNat)
            case atStart => exact ⟨0, k, D, by omega, rfl, hs7.out, by omega, hrel0, d7.out⟩
            case round =>
              obtain ⟨j, k2, D2, hj, rfl, hs8, hk8, hrl, d8⟩ := hrel
              by_cases hj2 : j < ql
              · have jj : (j : Int) < (ql : Int) := by omega
                have jj1 : decide ((j : Int) < (ql : Int)) = true := by simp; omega
                have jj0 : (0 : Int) ≤ (j : Int) := by omega
                obtain ⟨gq, oq, rfl, b0w, b1w⟩ := HBW.out.at_ j hj2
                have hgW := block_lt_of_cell b0w
                have b0 := hs8.e.cellv b0w
                have b1 := hs8.e.cellv b1w
                obtain ⟨p, hp⟩ : ∃ p, p = q.getD j default := ⟨_, rfl⟩
                rw [← hp] at b0 b1
                have HP := Lib.hid hp
                have HOWN := Lib.hid hs8.o
                have HS8 := Lib.hid hs8
                have hgb : gq ≠ b := by have h1 := hs8.2.2.2.2; simp only at hgW; omega
                have hpm : p ∈ q := by rw [hp]; exact getD_mem (by rw [HBW.out.1]; exact hj2)
                have hpg : badP p = false := by
                  have := HGD.out
                  rw [List.any_eq_false] at this
                  simpa using this p hpm
                have HKEY := Lib.hid (key9 (s := p.k) (by
                  unfold badP at hpg
                  simp only [Bool.or_eq_false_iff, decide_eq_false_iff_not] at hpg
                  unfold maxLen; omega))
                have hwf : (Lit.int .i64 ((i : Int) * 1000 + (j : Int))).wf = true := by
                  simp only [Lit.wf, IntKind.min, IntKind.max, IntKind.bits, IntKind.signed, Bool.and_eq_true, decide_eq_true_eq]
                  simp
                  omega
                have HWF := Lib.hid hwf
                have HI := Lib.hid (show i ≤ 100 ∧ k2 < 1000000 by omega)
                have htk : q.take (j + 1) = q.take j ++ [p] := by
                  rw [List.take_succ_eq_append_getElem (by rw [HBW.out.1]; exact hj2), hp, List.getD_eq_getElem?_getD, List.getElem?_eq_getElem (by rw [HBW.out.1]; exact hj2)]; rfl
                have HRL2 : Hid (Rel ss (D2.put (.string p.k) (.lit (.int .i64 ((i : Int) * 1000 + (j : Int))))) (putsL l (q.take (j + 1)))) := Lib.hid (by
                  rw [htk, putsL_snoc]
                  have := rel_put hrl.out (putsL_up _ _ hup.out) (i := i) (k := j) (by rw [HL.out]; exact hi2) (by omega) (by rw [HQE.out, HBW.out.1]; exact hj2) (p := p) (by rw [HQE.out, hp])
                  rw [show (((i * 1000 + j : Nat)) : Int) = (i : Int) * 1000 + (j : Int) by push_cast; rfl] at this
                  exact this)
                clear hpm hpg hwf htk hgW hp
                go_wp2_with (at_mapUpdate; refine wpList_mapUpdate_own _ rfl _ _ _ 28 rfl 9 3 keyed9 Try.underlying28 _ b k2 _ rfl HOWN.out (by have := HI.out; unfold maxLen; omega) _ _ _ rfl rfl HKEY.out _ [] (plainElem_int Try.underlying3 HWF.out) ?_; intro w3 hown3 hg3)
                exact ⟨⟨j + 1, k2 + 1, _, by omega, rfl, HS8.out.map hown3 hg3, by omega, HRL2, hg3.cell d8 (by intro e; injection e with e; have := HBL.out; simp only at e; omega)⟩, by simp [intOf]; omega⟩
              · obtain rfl : j = ql := by omega
                have jj : ¬ (j : Int) < (j : Int) := by omega
                have HRL3 : Hid (Rel ss D2 (putsL l q)) := Lib.hid (by
                  have := hrl.out
                  rwa [List.take_of_length_le (by rw [HBW.out.1]; omega)] at this)
                go_wp2
                exact ⟨⟨i + 1, b, k2, D2, putsL l q, by omega, rfl, rfl, hs8, by omega, HRL3, Lib.hid (putsL_up _ _ hup.out), HSZ2⟩, by simp [intOf]; omega⟩
          · have hpr : putR x l q = l := by unfold putR; rw [if_neg hE0]
            obtain ⟨z, hz⟩ : ∃ z, z = putE x l q := ⟨_, rfl⟩
            rw [← hz] at HFI HPU hE0
            rw [hpr] at HPU
            have tz : (z == 0) = false := by simpa using hE0
            obtain ⟨ln, hln⟩ : ∃ ln, ln = l.length := ⟨_, rfl⟩
            rw [← hln] at HAL HSA
            clear hz hpr hln
            go_wp2_with (first
              | (go_at_call 12; (with_reducible refine (HAL.out _ HST.out.m).mono ?_); rintro e w3 ⟨A1, k1, rfl, hP1, hN1, hE3⟩; have hs3 := HST.out.ext hE3; have d3 := hE3.cellv D1.out; have hB3 := HB1.out.ext hE3)
              | (at_builtin; refine wpList_copy rfl _ _ rfl rfl B ql cb rfl q hB3 (by omega) ?_; intro B4 c4 w4 hB4 hE4; have hs4 := hs3.ext hE4; have d4 := hE4.cellv d3; have hB4b := hB3.ext hE4)
              | (go_at_call 15; (with_reducible refine (HFI.out _ _ _ hs4.m hB4).mono ?_); rintro e w5 ⟨rfl, hE5⟩; have hs5 := hs4.ext hE5; have d5 := hE5.cellv d4; have hB5 := hB4b.ext hE5)
              | (at_builtin; refine wpList_copy rfl _ _ rfl rfl B ql cb rfl q hB5 (by omega) ?_; intro B6 c6 w6 hB6 hE6; have hs6 := hs5.ext hE6; have d6 := hE6.cellv d5)
              | (go_at_call 10; (with_reducible refine (HPU.out _ _ _ hs6.m hB6).mono ?_); rintro e w7 ⟨rfl, hM7, hT7⟩; have hs7 := hs6.mem hM7 hT7; have d7 := hT7.cellv d6 (fun e => HGL.out e.symm); have hP7 := prd_turn (((hP1.ext hE4).ext hE5).ext hE6) hT7 hN1)
              | (go_at_call 12; (with_reducible refine (HAL.out _ hs7.m).mono ?_); rintro e w8 ⟨A8, k8, rfl, hP8, _, hE8⟩; have hs8 := hs7.ext hE8; have d8 := hE8.cellv d7; have hP78 := hP7.ext hE8)
              | (go_at_call 11; (with_reducible refine (HSA.out _ _ _ _ _ hP78 hP8).mono ?_); rintro e w9 ⟨rfl, hE9⟩; have hs9 := Lib.hid (hs8.ext hE9); have d9 := Lib.hid (hE9.cellv d8)))
            clear hs3 hs4 hs5 hs6 hs7 hs8 hP1 hP7 hP78 hP8 hB3 hB4 hB4b hB5 hB6 hM7 hE3 hE4 hE5 hE6 hE8 hE9 d3 d4 d5 d6 d7 d8
            go_loopw [13] (fun jv wr2 => jv = .int .i64 0 ∧ MSt W wr2 g b k x D l ∧ wr2.cell? ⟨wr.heap.size, 1, none⟩ = some (.slice B ql cb)) (fun _ _ => 0)
            case atStart => exact ⟨rfl, hs9.out, d9.out⟩
            case round =>
              obtain ⟨rfl, hs10, d10⟩ := hrel
              by_cases hq0 : ql = 0
              · subst hq0
                go_wp2
                exact ⟨⟨i + 1, b, k, D, l, by omega, rfl, rfl, hs10, by omega, hrel0, hup, hsz⟩, by simp [intOf]; omega⟩
              · have q0 : (0 : Int) < (ql : Int) := by omega
                have q1 : decide ((0 : Int) < (ql : Int)) = true := by simp; omega
                go_wp2
                exact ⟨⟨i + 1, b, k, D, l, by omega, rfl, rfl, hs10, by omega, hrel0, hup, hsz⟩, by simp [intOf]; omega⟩
        have t0 : (d == 0) = false := by simpa using d0
        go_wp2
        exact ⟨⟨i + 1, b, k, D, l, by omega, rfl, rfl, HST.out, by omega, hrel0, hup, hsz⟩, by simp [intOf]; omega⟩
      · obtain rfl : i = n := by omega
        have ii : ¬ (i : Int) < (i : Int) := by omega
        obtain ⟨R1, R2, R3, R4⟩ := hrel0.out
        have hln := len_size l
        have HSZ := hsz.out
        have HX' := HX.out
        have HAL : Hid (∀ W', MemIs W' g x l → Calls Try.prog 12 #[.pointer (some ⟨g, 0, none⟩)] W' fun e w2 => ∃ A c, e = .returned (.slice A l.length c) ∧ PRd w2 A l.length l ∧ Ext W' w2) := Lib.hid (fun W' h => all_any h (by omega))
        have HSI : Hid (∀ W', MemIs W' g x l → Calls Try.prog 13 #[.pointer (some ⟨g, 0, none⟩)] W' fun e w' => e = .returned (.int .i64 (sizeP l)) ∧ Ext W' w') := Lib.hid (fun W' h => msize_any h (by omega) (by omega))
        have HR2 := Lib.hid R2
        have HR3 := Lib.hid R3
        have HR4 := Lib.hid R4
        obtain ⟨ln, hll⟩ : ∃ ln, ln = l.length := ⟨_, rfl⟩
        obtain ⟨z, hz⟩ : ∃ z, z = sizeP l := ⟨_, rfl⟩
        rw [← hll] at HAL HR2 hln
        rw [← hz] at HSI HSZ hln
        have HLL := Lib.hid hll
        have HST := Lib.hid hst
        have HLN := Lib.hid (show ln ≤ 65536 by omega)
        have zx : (z : Int) ≤ (x : Int) := by omega
        have zx1 : ¬ (x : Int) < (z : Int) := by omega
        have zx2 : decide ((x : Int) < (z : Int)) = false := by simp; omega
        have zx3 : decide (x < z) = false := by simp; omega
        have x0 : (0 : Int) ≤ (x : Int) := by omega
        clear R1 R2 R3 R4 hrel0 hz hll hst hln
        go_wp2_with (first
          | (go_at_call 12; (with_reducible refine (HAL.out _ HST.out.m).mono ?_); rintro e w3 ⟨A1, k1, rfl, hP3, hE3⟩; have hs3 := Lib.hid (HST.out.ext hE3))
          | (at_len; refine wpList_len_own _ rfl _ 28 rfl 9 3 Try.underlying28 _ b k D rfl hs3.out.o ?_; rw [HR2.out])
          | (go_at_call 13; (with_reducible refine (HSI.out _ hs3.out.m).mono ?_); rintro e w4 ⟨rfl, hE4⟩; have hs4 := Lib.hid (hs3.out.ext hE4); have hP4 := Lib.hid (hP3.ext hE4)))
        clear hP3 hE3 hE4 zx zx1 zx2 zx3 x0 HX' HSZ
        go_loopw [15] (fun jv wr2 => ∃ j : Nat, j ≤ ln ∧ jv = .int .i64 j ∧ MSt W wr2 g b k x D l ∧ PRd wr2 A1 ln l) (fun jv _ => ln - (intOf jv).toNat)
        case atStart => exact ⟨0, by omega, rfl, hs4.out, hP4.out⟩
        case round =>
          obtain ⟨j, hj, rfl, hs5, hP5⟩ := hrel
          by_cases hj2 : j < ln
          · have jj : (j : Int) < (ln : Int) := by omega
            have jj0 : (0 : Int) ≤ (j : Int) := by omega
            have HS5 := Lib.hid hs5
            have HP5 := Lib.hid hP5
            obtain ⟨gl, ol, rfl, b0, b1⟩ := hP5.at_ j hj2
            obtain ⟨p, hp⟩ : ∃ p, p = l.getD j default := ⟨_, rfl⟩
            have hpm : p ∈ l := by rw [hp]; exact getD_mem (by rw [← HLL.out]; exact hj2)
            obtain ⟨i2, m2, hi2', hm1, hm2, hmp, hat0⟩ := HR4.out p hpm
            obtain ⟨ga, oa, B, cb, rfl, c0, c1, c2, hB⟩ := (HRD.out.ext hs5.e).at_ i2 (by rw [← HL.out]; exact hi2')
            obtain ⟨gq, oq, rfl, e0, e1⟩ := hB.at_ m2 hm2
            rw [hmp] at e0 e1
            rw [← hp] at b0 b1
            have hqle : (ss.getD i2 default).q.length ≤ 100 := HQ.out _ (by
              rw [List.getD_eq_getElem?_getD, List.getElem?_eq_getElem hi2']; exact List.getElem_mem _)
            obtain ⟨ql, hql⟩ : ∃ ql, ql = (ss.getD i2 default).q.length := ⟨_, rfl⟩
            rw [← hql] at c1 hm2 hqle
            have hin : i2 < i := by rw [← HL.out]; exact hi2'
            have HKEY := Lib.hid (key9 (s := p.k) (by
              have h1 := key_size l p hpm
              have h2 := hsz.out
              have h3 := HX.out
              unfold maxLen; omega))
            have HHAS : Hid (Maps.has D (.string p.k) = true) := Lib.hid (by
              rw [HR3.out]
              have : p.k ∈ keysL l := List.mem_map.mpr ⟨p, hpm, rfl⟩
              simp [this])
            obtain ⟨N, hN⟩ : ∃ N, N = i2 * 1000 + m2 := ⟨_, rfl⟩
            rw [← hN] at hat0
            have HAT := Lib.hid hat0
            have N1 : (N : Int) / 1000 = (i2 : Int) := by omega
            have N2 : (N : Int) % 1000 = (m2 : Int) := by omega
            have N0 : (0 : Int) ≤ (N : Int) := by omega
            have N3 : (N : Int).tdiv 1000 = (i2 : Int) := by rw [Int.tdiv_eq_ediv_of_nonneg N0]; exact N1
            have N4 : (N : Int).tmod 1000 = (m2 : Int) := by rw [Int.tmod_eq_emod_of_nonneg N0]; exact N2
            have N5 : IntKind.i64.wrap (i2 : Int) = (i2 : Int) := IntWalk.i64_in _ (by omega)
            have N6 : IntKind.i64.wrap ((N : Int).tdiv 1000) = (i2 : Int) := by rw [N3]; exact N5
            clear N1 N2
            have i0 : (0 : Int) ≤ (i2 : Int) := by omega
            have i1 : (i2 : Int) < (i : Int) := by omega
            have m0 : (0 : Int) ≤ (m2 : Int) := by omega
            have m1 : (m2 : Int) < (ql : Int) := by omega
            have hE36 := eq36 p.k p.v p.k p.v
            have hpq : (p.k == p.k && p.v == p.v) = true := by simp
            rw [hpq] at hE36
            have HP := Lib.hid hp
            clear hp hpq hmp hat0 hpm hi2' hql hB hN hm1
            by_cases j0 : j = 0
            · have jz : ¬ (0 : Int) < (j : Int) := by omega
              have jz1 : decide ((0 : Int) < (j : Int)) = false := by simp; omega
              have jz2 : decide (0 < j) = false := by simp; omega
              have jz3 : ¬ 0 < j := by omega
              clear j0
              go_wp2_with (at_lookup; refine wpList_lookup_own_ok_int _ rfl _ _ 28 rfl 9 3 .i64 keyed9 Try.underlying28 Try.underlying3 (zero3 _) b k D rfl HS5.out.o _ _ rfl HKEY.out ?_; intro cc hat hwc; have hcc : cc = (N : Int) := (by rw [HAT.out] at hat; injection hat with h1; injection h1 with _ h2; exact h2.symm); subst hcc; clear hat hwc; rw [HHAS.out])
              go_quiet (fail)
              go_wp2
              exact ⟨⟨j + 1, by omega, rfl, HS5.out.ext ((Ext.refl _).drewN _), HP5.out.ext ((Ext.refl _).drewN _)⟩, by simp [intOf]; omega⟩
            · obtain ⟨jm, hjm⟩ : ∃ jm, jm = j - 1 := ⟨_, rfl⟩
              obtain ⟨gl2, ol2, hll2, f0, f1⟩ := HP5.out.at_ jm (by omega)
              injection hll2 with hll2
              injection hll2 with hg2 ho2
              subst hg2
              subst ho2
              obtain ⟨pm, hpm⟩ : ∃ pm, pm = l.getD jm default := ⟨_, rfl⟩
              rw [← hpm] at f0 f1
              have hless : Op.bytesLess pm.k p.k = true := by
                rw [hpm, HP.out]
                exact up_less hup.out (by omega) (by rw [← HLL.out]; exact hj2)
              have jz : (0 : Int) < (j : Int) := by omega
              have jz1 : decide ((0 : Int) < (j : Int)) = true := by simp; omega
              have jz2 : decide (0 < j) = true := by simp; omega
              have jz3 : 0 < j := by omega
              have hwr : IntKind.i64.wrap ((j : Int) - 1) = (jm : Int) := by have := HLN.out; rw [IntWalk.i64_in _ (by omega)]; omega
              have jm0 : (0 : Int) ≤ (jm : Int) := by omega
              have jm1 : (jm : Int) < (ln : Int) := by omega
              clear j0 hpm hjm
              go_wp2_with (at_lookup; refine wpList_lookup_own_ok_int _ rfl _ _ 28 rfl 9 3 .i64 keyed9 Try.underlying28 Try.underlying3 (zero3 _) b k D rfl HS5.out.o _ _ rfl HKEY.out ?_; intro cc hat hwc; have hcc : cc = (N : Int) := (by rw [HAT.out] at hat; injection hat with h1; injection h1 with _ h2; exact h2.symm); subst hcc; clear hat hwc; rw [HHAS.out])
              go_quiet (fail)
              have hLN := HLN.out
              go_wp2
              exact ⟨⟨j + 1, by omega, rfl, HS5.out.ext ((Ext.refl _).drewN _), HP5.out.ext ((Ext.refl _).drewN _)⟩, by simp [intOf]; omega⟩
          · obtain rfl : j = ln := by omega
            have jj : ¬ (j : Int) < (j : Int) := by omega
            go_wp2_with (go_at_call 8; (with_reducible refine (HWK.out _).mono ?_); rintro e w6 ⟨rfl, hE6⟩)
            go_ret
            exact ⟨rfl, hs5.e.trans hE6⟩
