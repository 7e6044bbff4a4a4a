import Derived.Test.YtjdppgogdilgkaaTA
import Derived.Test.YtjdppgogdilgkaaMC
section
namespace Go.Proofs.Ytjdppgogdilgkaa
open Go.RowKit Go.Gf Go.Co Go.Conc
set_option linter.unusedSimpArgs false
set_option linter.unusedVariables false
set_option maxHeartbeats 8000000 in
set_option maxRecDepth 100000 in
theorem undo_B {n0 : Nat} (hE0 : NoEarly Try.prog n0) {A : Option Addr} {n cap : Nat} {l : List ByteArray} {w : World} (hr : Rd w A n (l.map Value.string)) (hn : n ≤ 1048576) (hz : ∀ s ∈ l, s.size ≤ 1048576) (h1 : mayP l) (hln : l.length = len0 l) (he : undoE l = 0) :
    CallsB n0 Try.prog 28 #[.slice A n cap] w (MatB (undoV l) w) := by
  have hla : l.length = n := by have := hr.1; simpa using this
  have HZ := Lib.hid hz
  have HE0 := Lib.hid he
  have hE := hE0
  clear hz he
  have hn1 : 1 ≤ n := by have := h1.1.1; omega
  have hn2 : n ≤ 64 := by have := h1.1.2; omega
  have e0 : 0 < n := by omega
  obtain ⟨gs, os, rfl, hgs, hcell⟩ := hr.at_ (show 0 < n by omega)
  have hl0 := len0_eq (l := l) (by omega)
  simp only [List.getElem_map, Nat.add_zero] at hcell
  generalize l[0]'(by omega) = s0 at *
  have k0 : (0 : Int) < (n : Int) := by omega
  have h2 : n = s0.size := by omega
  have b1 : ((n : Int) != (s0.size : Int)) = false := by rw [h2]; simp
  have hrow : ∀ s ∈ l, s.size = n := fun s hs => by rw [h1.2.2 s hs]; omega
  have HROW := Lib.hid hrow
  have HV := Lib.hid (fun s h => undo_ok (l := l) h1 hln s h)
  have HS := Lib.hid (fun h => undo_sing (l := l) h1 hln h)
  have HLA := Lib.hid hla
  have UV := Lib.hid (unitV_ok n ⟨hn1, hn2⟩)
  have h1 := Lib.hid h1
  clear hrow hl0 hla hln h2
  refine callsB_nt w ?_
  refine callsB_of_wp Try.func28 rfl ?_
  simp only [Try.ntmps28, List.size_toArray, List.length_cons, List.length_nil, Nat.reduceAdd, Nat.reduceSub, Array.replicate_succ, Array.replicate_zero, List.push_toArray, List.append_toArray, List.nil_append, List.cons_append]
  refine wpB_seq ?_
  refine wpB_region ?_
  simp only [List.size_toArray, List.length_cons, List.length_nil, Nat.reduceAdd, Nat.zero_add, List.range, List.range.loop]
  iterate 2 (refine opsB_k bodT rfl (by rfl) (by rfl) ?_; intro T D K hK; go_simp; refine hK _ _ ?_; clear hK K; refine opsB.tape T D ?_)
  refine opsB_nil ?_
  simp only [Nx]
  refine wpB_scope ?_
  refine wpB_seq ?_
  refine wpB_block ?_
  refine wpB_seq ?_
  refine wpB_region ?_
  simp only [List.size_toArray, List.length_cons, List.length_nil, Nat.reduceAdd, Nat.zero_add, List.range, List.range.loop]
  (refine opsB_k bodT rfl (by rfl) (by rfl) ?_; intro T D K hK; go_simp; refine hK _ _ ?_; clear hK K; refine opsB.tape T D ?_)
  refine opsB_callOf (f := 48) (av := #[.slice (some ⟨gs, os, none⟩) n cap]) rfl (by rfl) rfl Try.func48 (by rfl) (by decide +kernel) (by simp [Act.eval]) (may_B hE hr h1.out) ?_
  rintro v w2 ⟨rfl, hO⟩
  simp only [Act.put, List.getElem_toArray, List.getElem_cons_zero, List.getElem_cons_succ, List.setIfInBounds_toArray, List.set_cons_zero, List.set_cons_succ]
  replace hcell := hO.cellv hcell
  have hct : ∀ T D, (tp w2 T D).cell? ⟨gs, os, none⟩ = some (.string s0) := fun _ _ => hcell
  iterate 2 (refine opsB_k bodT rfl (by rfl) (by rfl) ?_; intro T D K hK; go_simp; refine hK _ _ ?_; clear hK K; refine opsB.tape T D ?_)
  refine opsB_nil ?_
  simp only [Nx]
  refine wpB_cond (t := false) (by first | rfl | simp [Act.eval, *]) ?_
  simp only [Bool.false_eq_true, if_true, if_false, reduceIte]
  refine wpB_seq ?_
  refine wpB_region ?_
  simp only [List.size_toArray, List.length_cons, List.length_nil, Nat.reduceAdd, Nat.zero_add, List.range, List.range.loop]
  iterate 8 (refine opsB_k bodT rfl (by rfl) (by rfl) ?_; intro T D K hK; go_simp; refine hK _ _ ?_; clear hK K; refine opsB.tape T D ?_)
  refine opsB_nil ?_
  simp only [Nx]
  refine wpB_cond (t := false) (by first | rfl | simp [Act.eval, *]) ?_
  simp only [Bool.false_eq_true, if_true, if_false, reduceIte]
  refine wpB_skip ?_
  simp only [Bl, Nx]
  refine wpB_rest tameT hE (by decide +kernel) rfl (fun T D => ?_)
  have hrb : Rd (tp w2 T D) (some ⟨gs, os, none⟩) n (l.map Value.string) := (hr.ext hO : Rd w2 _ _ _)
  refine Code.wp_mono (fun e a' w' q => bodyPost_mono (fun e w' h => ?_) q) (Q := bodyPost Try.prog Try.f28 (MatIs (undoV l) (undoE l) (tp w2 T D))) ?_
  · obtain ⟨A1, k, c1, h1, h2, h3, h4⟩ := h
    rw [HE0.out] at h1
    exact ⟨_, h1, A1, k, c1, rfl, h2, h3, hO.ntt h4⟩
  generalize tp w2 T D = w at *
  have hO := Ext.refl w
  clear hct hcell hr
  have hr := hrb
  clear hrb
  go_wp2_with (first
    | (go_at_call 49; (with_reducible refine (clone_n _ n cap l _ (hr.ext hO) hn hn1 (mixS l n 0) (fun i _ => by simp [mixS])).mono ?_); rintro e w2 ⟨ga, cp, rfl, hca, hga, hE2⟩; have hO2 := hO.trans hE2)
    | (go_at_call 42; (with_reducible refine (unit_n n _ ⟨hn1, hn2⟩).mono ?_); rintro e w3 ⟨gu, c3, rfl, hcu, hgu, hE3⟩; have hO3 := hO2.trans hE3))
  have hcell := True.intro
  have hge : w.heap.size ≤ ga := Nat.le_trans hO.sz hga
  have hca3 := hca.ext hE3
  have hne : gu ≠ ga := by have := hca.lt; omega
  clear hcell hE2 hca hO hO2
  go_loopw [33] (fun x wr => ∃ k : Nat, k ≤ n ∧ x = .int .i64 k ∧ Ext w wr ∧ CellsAt wr ga n (fun i => .string (mixS l n k i)) ∧ CellsAt wr gu n (fun i => .string (strN n (unitF i)))) (fun x _ => n - (intOf x).toNat)
  case atStart => exact ⟨0, by omega, rfl, hO3, hca3, hcu⟩
  case round =>
    obtain ⟨k, hk, rfl, hE, hc, hu⟩ := hrel
    clear hca3 hO3 hcu
    by_cases hk2 : k < n
    · have kk : (k : Int) < (n : Int) := by omega
      have kk0 : (0 : Int) ≤ (k : Int) := by omega
      have c1 := hu.cell k hk2
      have c2 := hc.cell k hk2
      have f2 := hc.frozen k hk2
      have hsz : (l.getD k { data := #[] }).size = n := HROW.out _ (getD_mem l k (by rw [HLA.out]; exact hk2))
      have hst := st0_row l n k hsz
      have e2 : mixS l n k k = l.getD k { data := #[] } := by unfold mixS; rw [if_neg (by omega)]
      rw [e2] at c2
      have hus : (strN n (unitF k)).size = n := strN_size _ _
      have hc' := hc.set_ (h := fun i => .string (mixS l n (k + 1) i)) k (.string (strN (2 * n) (st0 l n k))) (fun j _ => by rw [mixS_next]; split <;> rfl)
      have hu' := hu.far (p := ⟨ga, k, none⟩) hne (.string (strN (2 * n) (st0 l n k)))
      have hE' := hE.setCell (p := ⟨ga, k, none⟩) hge (.string (strN (2 * n) (st0 l n k)))
      clear e2
      generalize l.getD k { data := #[] } = sk at *
      generalize strN n (unitF k) = uk at *
      generalize strN (2 * n) (st0 l n k) = rk at *
      have hadd : sk.size + uk.size ≤ 128 := by omega
      have HST := Lib.hid hst
      have HC := Lib.hid hc'
      have HU := Lib.hid hu'
      clear hst hc' hu' hsz hus
      go_wp2
      go_roundw
      case rel => exact ⟨k + 1, by omega, by go_num, by rw [HST.out]; exact hE', by rw [HST.out]; exact HC.out, by rw [HST.out]; exact HU.out⟩
      case measure => simp [intOf]; omega
    · obtain rfl : n = k := by omega
      have hrows : RowsAt wr ga n (st0 l n) := hc.congr (fun i hi => by rw [mixS_all l n i hi])
      clear hc hu
      go_wp2
      go_step3
      go_wp2
      go_loopg [47] n (fun gk x wx => ∃ c, c + gk = n ∧ x = .int .i64 c ∧ Ext w wx ∧ ∃ s, Aside (undoSt l n c = some s ∧ Byte s) ∧ RowsAt wx ga n s)
      case atStart => exact ⟨0, by omega, rfl, hE, _, ⟨rfl, st0_byte l n⟩, hrows⟩
      case round =>
        obtain ⟨c, hc, rfl, hEx, s, AS, hrs⟩ := hrel
        clear hE hrows
        by_cases hc2 : c < n
        · have kc : (c : Int) < (n : Int) := by omega
          have kc0 : (0 : Int) ≤ (c : Int) := by omega
          have hcg : c + gk = n := hc
          clear hc
          go_wp2
          go_loopg [9] (n - c) (fun g2 x wx => ∃ p, p + g2 = n ∧ c ≤ p ∧ x = .int .i64 p ∧ Ext w wx ∧ RowsAt wx ga n s ∧ Aside (∀ q, c ≤ q → q < p → s q c = 0))
          case atStart => exact ⟨c, by omega, by omega, rfl, hEx, hrs, (fun q h1 h2 => absurd h1 (by omega))⟩
          case round =>
            obtain ⟨p, hp, hcp, rfl, hEp, hrp, AZ⟩ := hrel
            clear hEx hrs
            by_cases hp2 : p < n
            · have kp : (p : Int) < (n : Int) := by omega
              have kp0 : (0 : Int) ≤ (p : Int) := by omega
              have cp1 := hrp.cell p hp2
              have hsz : (strN (2 * n) (s p)).size = 2 * n := strN_size _ _
              have hbc : bt (strN (2 * n) (s p)) c = (s p c : Int) := by rw [bt_bn, bn_strN _ _ c (by omega) (AS.out.2 p c)]
              have hlt : c < (strN (2 * n) (s p)).size := by omega
              have hgc := bt_get (strN (2 * n) (s p)) c hlt
              rw [hbc] at hgc
              have hb1 := AS.out.2 p c
              generalize hrpe : strN (2 * n) (s p) = rp at *
              have HRP := Lib.hid hrpe
              have ic : (c : Int) < (rp.size : Int) := by omega
              clear hbc hrpe hsz
              by_cases hv : s p c = 0
              · have I28 : ∀ w : World, Calls Try.prog 50 #[.int .u8 (s p c : Int)] w fun e w' => e = .returned (.tuple #[.int .u8 0, .int .i64 40]) ∧ Ext w w' := fun w => by
                  have := inv_any (s p c) w hb1
                  rw [hv] at this ⊢; exact this
                have HVV := Lib.hid hv
                have hz2 : ∀ q, c ≤ q → q < p + 1 → s q c = 0 := fun q h1 h2 => by
                  by_cases e : q = p
                  · rw [e]; exact HVV.out
                  · exact AZ.out q h1 (by omega)
                have AZ2 : Aside (∀ q, c ≤ q → q < p + 1 → s q c = 0) := hz2
                obtain ⟨g3, hg3⟩ : ∃ g3, g3 + 1 = n - p := ⟨n - p - 1, by omega⟩
                clear hv hz2
                go_wp2_with (go_at_call 50; refine (I28 _).mono ?_; rintro e w6 ⟨rfl, hE6⟩; have hr6 := hrp.ext hE6)
                go_roundg (n - (p + 1))
                case measure => omega
                case rel => exact ⟨p + 1, by omega, by omega, by go_num, hEp.trans hE6, hr6, AZ2⟩
              · have I28 : ∀ w : World, Calls Try.prog 50 #[.int .u8 (s p c : Int)] w fun e w' => e = .returned (.tuple #[.int .u8 (invV (s p c) : Int), .int .i64 0]) ∧ Ext w w' := fun w => by
                  have := inv_any (s p c) w hb1
                  rw [show invE (s p c) = 0 by unfold invE; rw [if_neg hv]] at this; exact this
                have hiv := invV_lt (s p c)
                have hstep := undo_step AS.out.1 hp2 hcp hv AZ.out
                have AST : Aside (undoSt l n (c + 1) = some (elimTo (swapF s c p) c n)) := hstep
                have ASB : Aside (Byte (elimTo (swapF s c p) c n)) := elimTo_byte (swapF_byte AS.out.2 c p) c n
                have ASW : Aside (Byte (swapF s c p)) := swapF_byte AS.out.2 c p
                clear hstep
                have cc1 := hrp.cell c hc2
                generalize hrce : strN (2 * n) (s c) = rc at *
                have HRC := Lib.hid hrce
                clear hrce
                go_wp2_with (go_at_call 50; refine (I28 _).mono ?_; rintro e w6 ⟨rfl, hE6⟩; have hr6 := hrp.ext hE6; have cp6 := hE6.cellv cp1; have cc6 := hE6.cellv cc1; have fp6 := hr6.frozen p hp2; have fc6 := hr6.frozen c hc2)
                have hE6' := hEp.trans hE6
                clear hEp hE6 hrp cp1 cc1
                have hgw : w.heap.size ≤ ga := hge
                by_cases hpc : p = c
                · obtain rfl : c = p := hpc.symm
                  obtain rfl : rp = rc := HRP.out.symm.trans HRC.out
                  go_region
                  have hr7 : RowsAt (((w6.setCell ⟨ga, c, none⟩ (.string rp)).setCell ⟨ga, c, none⟩ (.string rp)).drew) ga n (swapF s c c) := by
                    have h1 := hr6.set_ (h := fun i => .string (strN (2 * n) (s i))) c (.string rp) (fun j _ => by
                      by_cases e : j = c
                      · subst e; rw [if_pos rfl, HRP.out]
                      · rw [if_neg e])
                    have h2 := h1.set_ (h := fun i => .string (strN (2 * n) (swapF s c c i))) c (.string rp) (fun j _ => by
                      unfold swapF
                      by_cases e : j = c
                      · subst e; rw [if_pos rfl, if_pos rfl, HRP.out]
                      · rw [if_neg e, if_neg e, if_neg e])
                    exact h2.drew
                  have hE7 : Ext w (((w6.setCell ⟨ga, c, none⟩ (.string rp)).setCell ⟨ga, c, none⟩ (.string rp)).drew) := ((hE6'.setCell hgw _).setCell hgw _).drew
                  generalize ((w6.setCell ⟨ga, c, none⟩ (.string rp)).setCell ⟨ga, c, none⟩ (.string rp)).drew = w7 at *
                  have c7 := hr7.cell c hc2
                  have esw : swapF s c c c = s c := by unfold swapF; rw [if_pos rfl]
                  rw [esw, HRP.out] at c7
                  have hrsz : rp.size ≤ 1048576 := by rw [← HRP.out, strN_size]; omega
                  have ht := times_row (2 * n) (invV (s c c)) (s c) (fun j => AS.out.2 c j)
                  rw [HRP.out] at ht
                  have hrr : (fun j => fm (invV (s c c)) (s c j)) = rowR (swapF s c c) c := by funext j; unfold rowR; rw [esw]
                  rw [hrr] at ht
                  have HT := Lib.hid ht
                  clear esw ht hrr hr6 cp6 cc6 fp6 fc6 hE6'
                  obtain ⟨sw, hsw⟩ : ∃ sw, sw = swapF s c c := ⟨_, rfl⟩
                  rw [← hsw] at hr7 AST ASB ASW HT
                  have HSW := Lib.hid hsw
                  clear hsw
                  go_wp2_with (go_at_call 51; refine (times_any (invV (s c c)) rp _ hiv hrsz).mono ?_; rintro e w8 ⟨rfl, hE8⟩; rw [HT.out]; have hr8 := hr7.ext hE8; have f8 := hr8.frozen c hc2; have c8 := hE8.cellv c7)
                  have hr9 : RowsAt (w8.setCell ⟨ga, c, none⟩ (.string (strN (2 * n) (rowR sw c)))) ga n (elimTo sw c 0) := hr8.set_ c _ (fun j _ => by
                    by_cases e : j = c
                    · subst e; rw [if_pos rfl, elimTo_at]
                    · rw [if_neg e, elimTo_zero _ _ _ e])
                  have hE9 : Ext w (w8.setCell ⟨ga, c, none⟩ (.string (strN (2 * n) (rowR sw c)))) := (hE7.trans hE8).setCell hgw _
                  generalize w8.setCell ⟨ga, c, none⟩ (.string (strN (2 * n) (rowR sw c))) = w9 at *
                  clear hr8 f8 c8 hr7 c7 hE7 hE8
                  go_loopw [93] (fun x wx => ∃ i, i ≤ n ∧ x = .int .i64 i ∧ Ext w wx ∧ RowsAt wx ga n (elimTo sw c i)) (fun x _ => n - (intOf x).toNat)
                  case atStart => exact ⟨0, by omega, rfl, hE9, hr9⟩
                  case round =>
                    obtain ⟨i, hi, rfl, hEi, hri⟩ := hrel
                    clear hE9 hr9
                    by_cases hi2 : i < n
                    · have ki : (i : Int) < (n : Int) := by omega
                      have ki0 : (0 : Int) ≤ (i : Int) := by omega
                      by_cases hic : i = c
                      · have b2 : ((i : Int) != (c : Int)) = false := by rw [hic]; simp
                        have hri2 : RowsAt wr ga n (elimTo sw c (i + 1)) := by rw [hic]; rw [hic] at hri; rw [elimTo_skip]; exact hri
                        clear hic
                        go_wp2
                        go_roundw
                        case rel => exact ⟨i + 1, by omega, by go_num, hEi, hri2⟩
                        case measure => simp [intOf]; omega
                      · have b2 : ((i : Int) != (c : Int)) = true := by simp; omega
                        have hci := hri.cell i hi2
                        rw [elimTo_todo sw c i hic] at hci
                        have hcc := hri.cell c hc2
                        rw [elimTo_at] at hcc
                        have HM := Lib.hid (fun w => msum_any (2 * n) (sw i c) (sw i) (rowR sw c) w (ASW.out i c) (ASW.out i) (fun j => rowR_lt c j) (by omega))
                        have hsz : (strN (2 * n) (sw i)).size = 2 * n := strN_size _ _
                        have hbc : bt (strN (2 * n) (sw i)) c = (sw i c : Int) := by rw [bt_bn, bn_strN _ _ c (by omega) (ASW.out i c)]
                        have hlt : c < (strN (2 * n) (sw i)).size := by omega
                        have hgc := bt_get (strN (2 * n) (sw i)) c hlt
                        rw [hbc] at hgc
                        have HN := Lib.hid (elimTo_next sw c i)
                        generalize strN (2 * n) (sw i) = ri at *
                        generalize strN (2 * n) (rowR sw c) = rr at *
                        have ic2 : (c : Int) < (ri.size : Int) := by omega
                        clear hbc hsz
                        go_wp2_with fail
                        go_region_law (first | (go_simp; go_at_call 52; refine (HM.out _).mono ?_; rintro e w10 ⟨rfl, hE10⟩; have hr10 : RowsAt w10 ga n (elimTo sw c i) := CellsAt.ext (CellsAt.drew hri) hE10; have c10 := hr10.cell i hi2; have f10 := hr10.frozen i hi2))
                        all_goals
                          go_wp2
                          go_roundw
                          case rel => exact ⟨i + 1, by omega, by go_num, (hEi.drew.trans hE10).setCell hgw _, CellsAt.set_ hr10 i _ (fun j _ => by rw [HN.out j hic]; split <;> rfl)⟩
                          case measure => simp [intOf]; omega
                    · obtain rfl : n = i := by omega
                      go_wp2
                      go_roundg (n - (c + 1))
                      case measure => omega
                      case rel => exact ⟨c + 1, by omega, by go_num, hEi, _, ⟨AST, ASB⟩, hri⟩
                · go_region
                  have hr7 : RowsAt (((w6.setCell ⟨ga, c, none⟩ (.string rp)).setCell ⟨ga, p, none⟩ (.string rc)).drew) ga n (swapF s c p) := by
                    have h1 := hr6.set_ (h := fun i => if i = c then .string rp else .string (strN (2 * n) (s i))) c (.string rp) (fun j _ => rfl)
                    have h2 := h1.set_ (h := fun i => .string (strN (2 * n) (swapF s c p i))) p (.string rc) (fun j _ => by
                      unfold swapF
                      by_cases e1 : j = p
                      · subst e1; rw [if_neg hpc, if_pos rfl, if_pos rfl, HRC.out]
                      · by_cases e2 : j = c
                        · rw [if_pos e2, if_neg e1, if_pos e2, HRP.out]
                        · rw [if_neg e2, if_neg e1, if_neg e1, if_neg e2])
                    exact h2.drew
                  have hE7 : Ext w (((w6.setCell ⟨ga, c, none⟩ (.string rp)).setCell ⟨ga, p, none⟩ (.string rc)).drew) := ((hE6'.setCell hgw _).setCell hgw _).drew
                  generalize ((w6.setCell ⟨ga, c, none⟩ (.string rp)).setCell ⟨ga, p, none⟩ (.string rc)).drew = w7 at *
                  have c7 := hr7.cell c hc2
                  have esw : swapF s c p c = s p := by unfold swapF; rw [if_pos rfl]
                  rw [esw, HRP.out] at c7
                  have hrsz : rp.size ≤ 1048576 := by rw [← HRP.out, strN_size]; omega
                  have ht := times_row (2 * n) (invV (s p c)) (s p) (fun j => AS.out.2 p j)
                  rw [HRP.out] at ht
                  have hrr : (fun j => fm (invV (s p c)) (s p j)) = rowR (swapF s c p) c := by funext j; unfold rowR; rw [esw]
                  rw [hrr] at ht
                  have HT := Lib.hid ht
                  clear esw ht hrr hr6 cp6 cc6 fp6 fc6 hE6'
                  obtain ⟨sw, hsw⟩ : ∃ sw, sw = swapF s c p := ⟨_, rfl⟩
                  rw [← hsw] at hr7 AST ASB ASW HT
                  have HSW := Lib.hid hsw
                  clear hsw
                  go_wp2_with (go_at_call 51; refine (times_any (invV (s p c)) rp _ hiv hrsz).mono ?_; rintro e w8 ⟨rfl, hE8⟩; rw [HT.out]; have hr8 := hr7.ext hE8; have f8 := hr8.frozen c hc2; have c8 := hE8.cellv c7)
                  have hr9 : RowsAt (w8.setCell ⟨ga, c, none⟩ (.string (strN (2 * n) (rowR sw c)))) ga n (elimTo sw c 0) := hr8.set_ c _ (fun j _ => by
                    by_cases e : j = c
                    · subst e; rw [if_pos rfl, elimTo_at]
                    · rw [if_neg e, elimTo_zero _ _ _ e])
                  have hE9 : Ext w (w8.setCell ⟨ga, c, none⟩ (.string (strN (2 * n) (rowR sw c)))) := (hE7.trans hE8).setCell hgw _
                  generalize w8.setCell ⟨ga, c, none⟩ (.string (strN (2 * n) (rowR sw c))) = w9 at *
                  clear hr8 f8 c8 hr7 c7 hE7 hE8
                  go_loopw [93] (fun x wx => ∃ i, i ≤ n ∧ x = .int .i64 i ∧ Ext w wx ∧ RowsAt wx ga n (elimTo sw c i)) (fun x _ => n - (intOf x).toNat)
                  case atStart => exact ⟨0, by omega, rfl, hE9, hr9⟩
                  case round =>
                    obtain ⟨i, hi, rfl, hEi, hri⟩ := hrel
                    clear hE9 hr9
                    by_cases hi2 : i < n
                    · have ki : (i : Int) < (n : Int) := by omega
                      have ki0 : (0 : Int) ≤ (i : Int) := by omega
                      by_cases hic : i = c
                      · have b2 : ((i : Int) != (c : Int)) = false := by rw [hic]; simp
                        have hri2 : RowsAt wr ga n (elimTo sw c (i + 1)) := by rw [hic]; rw [hic] at hri; rw [elimTo_skip]; exact hri
                        clear hic
                        go_wp2
                        go_roundw
                        case rel => exact ⟨i + 1, by omega, by go_num, hEi, hri2⟩
                        case measure => simp [intOf]; omega
                      · have b2 : ((i : Int) != (c : Int)) = true := by simp; omega
                        have hci := hri.cell i hi2
                        rw [elimTo_todo sw c i hic] at hci
                        have hcc := hri.cell c hc2
                        rw [elimTo_at] at hcc
                        have HM := Lib.hid (fun w => msum_any (2 * n) (sw i c) (sw i) (rowR sw c) w (ASW.out i c) (ASW.out i) (fun j => rowR_lt c j) (by omega))
                        have hsz : (strN (2 * n) (sw i)).size = 2 * n := strN_size _ _
                        have hbc : bt (strN (2 * n) (sw i)) c = (sw i c : Int) := by rw [bt_bn, bn_strN _ _ c (by omega) (ASW.out i c)]
                        have hlt : c < (strN (2 * n) (sw i)).size := by omega
                        have hgc := bt_get (strN (2 * n) (sw i)) c hlt
                        rw [hbc] at hgc
                        have HN := Lib.hid (elimTo_next sw c i)
                        generalize strN (2 * n) (sw i) = ri at *
                        generalize strN (2 * n) (rowR sw c) = rr at *
                        have ic2 : (c : Int) < (ri.size : Int) := by omega
                        clear hbc hsz
                        go_wp2_with fail
                        go_region_law (first | (go_simp; go_at_call 52; refine (HM.out _).mono ?_; rintro e w10 ⟨rfl, hE10⟩; have hr10 : RowsAt w10 ga n (elimTo sw c i) := CellsAt.ext (CellsAt.drew hri) hE10; have c10 := hr10.cell i hi2; have f10 := hr10.frozen i hi2))
                        all_goals
                          go_wp2
                          go_roundw
                          case rel => exact ⟨i + 1, by omega, by go_num, (hEi.drew.trans hE10).setCell hgw _, CellsAt.set_ hr10 i _ (fun j _ => by rw [HN.out j hic]; split <;> rfl)⟩
                          case measure => simp [intOf]; omega
                    · obtain rfl : n = i := by omega
                      go_wp2
                      go_roundg (n - (c + 1))
                      case measure => omega
                      case rel => exact ⟨c + 1, by omega, by go_num, hEi, _, ⟨AST, ASB⟩, hri⟩
            · obtain rfl : n = p := by omega
              have HSG := Lib.hid (HS.out (by rw [HLA.out]; exact undo_stop AS.out.1 hc2 AZ.out))
              go_wp2
              go_ret2
              exact mat_nil HSG.out hEp
        · obtain rfl : n = c := by omega
          have HVO := Lib.hid (HV.out s (by rw [HLA.out]; exact AS.out.1))
          clear HV HS
          have hr0 : CellsAt wr ga n (fun i => .string (cutS s n 0 i)) := CellsAt.congr hrs (fun j _ => by simp [cutS])
          clear hrs
          go_wp2
          go_loopw [121] (fun x wx => ∃ k : Nat, k ≤ n ∧ x = .int .i64 k ∧ Ext w wx ∧ CellsAt wx ga n (fun i => .string (cutS s n k i))) (fun x _ => n - (intOf x).toNat)
          case atStart => exact ⟨0, by omega, rfl, hEx, hr0⟩
          case round =>
            obtain ⟨k, hk, rfl, hEk, hck⟩ := hrel
            clear hr0 hEx
            by_cases hk2 : k < n
            · have kk : (k : Int) < (n : Int) := by omega
              have kk0 : (0 : Int) ≤ (k : Int) := by omega
              have c1 := hck.cell k hk2
              have f1 := hck.frozen k hk2
              have e1 : cutS s n k k = strN (2 * n) (s k) := by unfold cutS; rw [if_neg (by omega)]
              rw [e1] at c1
              have hsz : (strN (2 * n) (s k)).size = 2 * n := strN_size _ _
              have hcut : (strN (2 * n) (s k)).extract n (strN (2 * n) (s k)).size = strN n (fun j => s k (n + j)) := by rw [hsz]; exact cut_row n (s k) (AS.out.2 k)
              have hck2 := hck.set_ (h := fun i => .string (cutS s n (k + 1) i)) k (.string (strN n (fun j => s k (n + j)))) (fun j _ => by
                unfold cutS
                by_cases e : j = k
                · subst e; rw [if_pos (by omega), if_pos rfl]
                · rw [if_neg e]
                  by_cases e2 : j < k
                  · rw [if_pos (by omega), if_pos e2]
                  · rw [if_neg (by omega), if_neg e2])
              have hEk2 := hEk.setCell (p := ⟨ga, k, none⟩) hge (.string (strN n (fun j => s k (n + j))))
              generalize strN (2 * n) (s k) = rk at *
              generalize strN n (fun j => s k (n + j)) = ok at *
              have hns : (n : Int) ≤ (rk.size : Int) := by omega
              have HCUT := Lib.hid hcut
              have HCK := Lib.hid hck2
              clear hcut hck2 e1 hsz
              go_wp2
              go_roundw
              case rel => exact ⟨k + 1, by omega, by go_num, by rw [HCUT.out]; exact hEk2, by rw [HCUT.out]; exact HCK.out⟩
              case measure => simp [intOf]; omega
            · obtain rfl : n = k := by omega
              go_wp2
              go_ret2
              refine ⟨some ⟨ga, 0, none⟩, n, cp, by rw [HVO.out.2]; rfl, by rw [HVO.out.1, mkM_len, HLA.out], ?_, hEk⟩
              rw [HVO.out.1, HLA.out]
              refine hck.rd _ (by simp [mkM_len]) (fun i v hv => ?_)
              rw [List.getElem?_map] at hv
              have hi : i < (mkM n n (fun i j => s i (n + j))).length := by
                rcases Nat.lt_or_ge i (mkM n n (fun i j => s i (n + j))).length with h | h
                · exact h
                · rw [List.getElem?_eq_none h] at hv; cases hv
              rw [List.getElem?_eq_getElem hi] at hv
              rw [mkM_len] at hi
              simp only [Option.map_some, Option.some.injEq] at hv
              subst hv
              unfold cutS
              rw [if_pos hi, mkM_at]
end Go.Proofs.Ytjdppgogdilgkaa
end
