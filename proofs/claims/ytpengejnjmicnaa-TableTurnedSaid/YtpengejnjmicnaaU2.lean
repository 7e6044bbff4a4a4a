import Derived.Test.YtpengejnjmicnaaU1
section
namespace Go.Proofs.Ytpengejnjmicnaa
open Go.RowKit Go.Nb
/-- Pairs whose texts are no longer than a bound. -/
def Small (l : List Pr) : Prop := ∀ p ∈ l, p.k.length ≤ 65536 ∧ p.v.length ≤ 65536
theorem oneL_le (last : Bs) {p : Pr} (h : p.k.length ≤ 65536 ∧ p.v.length ≤ 65536) : (oneL last p).length ≤ 140000 := by
  unfold oneL
  have h1 := (upL_len2 (shL last p.k)).2
  have h2 := textL_len (p.k.drop (shL last p.k))
  have h3 := textL_len p.v
  rw [List.length_drop] at h2
  simp only [List.length_append]
  omega
theorem encL_le : ∀ (l : List Pr) (last : Bs), Small l → (encL last l).length ≤ 140000 * l.length
  | [], _, _ => Nat.le_refl _
  | p :: l, last, h => by
    have h1 := oneL_le last (h p (List.mem_cons_self ..))
    have h2 := encL_le l p.k (fun q hq => h q (List.mem_cons_of_mem _ hq))
    rw [encL, List.length_append, List.length_cons]
    omega
theorem getD_mem {l : List Pr} {i : Nat} (h : i < l.length) : l.getD i default ∈ l := by
  rw [List.getD_eq_getElem?_getD, List.getElem?_eq_getElem h]; exact List.getElem_mem h
theorem take_snoc {l : List Pr} {i : Nat} (h : i < l.length) : l.take (i + 1) = l.take i ++ [l.getD i default] := by
  rw [List.take_succ_eq_append_getElem h, List.getD_eq_getElem?_getD, List.getElem?_eq_getElem h]; rfl
theorem small_take {l : List Pr} (h : Small l) (a b : Nat) : Small ((l.take a).drop b) := fun p hp => h p (List.mem_of_mem_take (List.mem_of_mem_drop hp))
theorem lastK_small {l : List Pr} (h : Small l) : (lastK [] l).length ≤ 65536 := by
  by_cases h0 : l = []
  · subst h0; exact Nat.zero_le _
  · rw [lastK_at l [] h0]
    have hl : 0 < l.length := List.length_pos_iff.mpr h0
    exact (h _ (getD_mem (show l.length - 1 < l.length by omega))).1
/-- Where the block at hand begins. -/
theorem bAll_at {most : Int} {l : List Pr} {i : Nat} (hi : i ≤ l.length) {dn : List (List Pr)} {cu : List Pr} (h : bAll most (l.take i) = (dn, cu)) {f : Nat} (hf : f + cu.length = i) : (l.take i).drop f = cu := by
  have hI := (bInv_all most (l.take i)).flat
  rw [h] at hI
  simp only at hI
  have hl := congrArg List.length hI
  rw [List.length_append, List.length_take] at hl
  rw [← hI, List.drop_left' (by omega)]
theorem dn_len {most : Int} {l : List Pr} {dn : List (List Pr)} {cu : List Pr} (h : bAll most l = (dn, cu)) : dn.length ≤ l.length := by
  have hI := bInv_all most l
  rw [h] at hI
  have h1 : ∀ (d : List (List Pr)), (∀ b ∈ d, 1 ≤ b.length ∧ b.length ≤ 4096) → d.length ≤ d.flatten.length := by
    intro d
    induction d with
    | nil => intro _; exact Nat.le_refl _
    | cons b d ih =>
      intro hb
      have h1 := (hb b (List.mem_cons_self ..)).1
      have h2 := ih (fun x hx => hb x (List.mem_cons_of_mem _ hx))
      rw [List.flatten_cons, List.length_append, List.length_cons]
      omega
  have h2 := h1 dn hI.ne
  have h3 := congrArg List.length hI.flat
  rw [List.length_append] at h3
  simp only at h3
  omega
theorem BsRd.ownsRow {w : World} {base : Nat} {v : Value} {bs : List (List Pr)} (h : BsRd w base v bs) : ∃ vs, w.ownsRow base 22 1 v bs.length vs := by
  obtain ⟨vs, h1, _⟩ := h
  exact ⟨vs, h1⟩
theorem PBox.row {w w' : World} {base sz n b : Nat} {v : Value} {xs : List Value} {k u : ByteArray} (h : PBox w b k u) (ho : w.ownsRow base 22 sz v n xs) (hg : w.grownBy w' v.ownBlock) : PBox w' b k u := by
  have hf : Far w base (some ⟨b, 0, none⟩) := fun a ha => by
    cases ha
    obtain ⟨D, _, ⟨lo, hi, hb, _⟩, _⟩ := h
    exact .inr ⟨D, _, hb⟩
  exact CellsT.heap h (hg.block b (CellsT.lt h) (own22_ne ho hf _ rfl))
theorem PBox.rowB {w w' : World} {base b : Nat} {v : Value} {bs : List (List Pr)} {k u : ByteArray} (h : PBox w b k u) (ho : BsRd w base v bs) (hg : w.grownBy w' v.ownBlock) : PBox w' b k u := by
  obtain ⟨vs, h1⟩ := ho.ownsRow
  exact h.row h1 hg
set_option maxHeartbeats 2000000 in
set_option maxRecDepth 100000 in
theorem blocks_any {W : World} {A : Option Addr} {n c : Nat} {l : List Pr} (h : PRd W A n l) (hn : n ≤ 100000) (hnc : n ≤ c) (h0 : 0 < n) (most : Int) (hs : Small l) : Calls Try.prog 24 #[.slice A n c, .int .i64 most] W fun e w' => ∃ v, e = .returned v ∧ BsRd w' W.heap.size v (blkL most l) ∧ Ext W w' := by
  have HL := Lib.hid h.1
  have HS := Lib.hid hs
  have HNC := Lib.hid hnc
  have HN0 := Lib.hid h0
  obtain ⟨gA, oA, rfl, hcell⟩ := h.2.at_ h0 (by omega)
  have HC := Lib.hid hcell
  have HFAR := Lib.hid (Far.of_lt h (Nat.le_refl _) h0)
  clear hcell hs h0
  go_enter Try.func24, Try.ntmps24
  go_wp2
  go_loopw [4, 5, 6, 7, 13] (fun av fv zv kv iv wr => ∃ (i f sz : Nat) (dn : List (List Pr)) (cu : List Pr), i ≤ n ∧ iv = .int .i64 i ∧ fv = .int .i64 f ∧ zv = .int .i64 sz ∧ kv = .string (Bt (lastK [] cu)) ∧ Hid (f + cu.length = i) ∧ Hid (sz = (encL [] cu).length) ∧ Hid (bAll most (l.take i) = (dn, cu)) ∧ BsRd wr W.heap.size av dn ∧ Ext W wr) (fun _ _ _ _ iv _ => n - (intOf iv).toNat)
  case atStart => exact ⟨0, 0, 0, [], [], by omega, rfl, rfl, rfl, rfl, Lib.hid rfl, Lib.hid rfl, Lib.hid rfl, BsRd.nil _ _, Ext.refl W⟩
  case round =>
    obtain ⟨i, f, sz, dn, cu, hi, rfl, rfl, rfl, rfl, hf, hsz, hb, hB, hE⟩ := hrel
    have ff0 : (0 : Int) ≤ (f : Int) := by omega
    have hfi : (f : Int) ≤ (i : Int) := by have := hf.out; omega
    have ii0 : (0 : Int) ≤ (i : Int) := by omega
    have hcu := bAll_at (show i ≤ l.length by rw [HL.out]; exact hi) hb.out hf.out
    have HCU := Lib.hid hcu
    have hdl := dn_len hb.out
    rw [List.length_take] at hdl
    have hsm := small_take HS.out i f
    rw [hcu] at hsm
    have HDL := Lib.hid (show dn.length ≤ 100000 by omega)
    have hszb : sz ≤ 14000000000 := by
      have h1 := encL_le cu [] hsm
      have h2 := hf.out
      rw [hsz.out]
      omega
    have hlk := lastK_small hsm
    by_cases hi2 : i < n
    · have ii : (i : Int) < (n : Int) := by omega
      obtain ⟨_, _, hAA, c0, c1⟩ := (h.ext hE).at_ i hi2
      injection hAA with hAA
      injection hAA with e1 e2
      subst e1
      subst e2
      have hp1 := HS.out _ (getD_mem (show i < l.length by rw [HL.out]; exact hi2))
      have htk := take_snoc (show i < l.length by rw [HL.out]; exact hi2)
      obtain ⟨p, hp⟩ : ∃ p, p = l.getD i default := ⟨_, rfl⟩
      rw [← hp] at c0 c1 hp1 htk
      have hba : bAll most (l.take (i + 1)) = bStep most (dn, cu) p := by rw [htk, bAll_snoc, hb.out]
      have hP : p.val = .agg #[.string (Bt p.k), .string (Bt p.v)] := rfl
      have hZ1 := size_any (lastK [] cu) p hlk hp1.1 hp1.2
      have hZ2 := size_any [] p (by simp) hp1.1 hp1.2
      rw [hP] at hZ1 hZ2
      have hen : (encL [] (cu ++ [p])).length = sz + (oneL (lastK [] cu) p).length := by rw [encL_snoc, List.length_append, hsz.out]
      have hen2 : (encL [] [p]).length = (oneL [] p).length := by simp [encL]
      have hn1 := oneL_le (lastK [] cu) hp1
      have hn2 := oneL_le [] hp1
      obtain ⟨n1, hn1'⟩ : ∃ n1, n1 = (oneL (lastK [] cu) p).length := ⟨_, rfl⟩
      obtain ⟨n2, hn2'⟩ : ∃ n2, n2 = (oneL [] p).length := ⟨_, rfl⟩
      rw [← hn1'] at hZ1 hen hn1
      rw [← hn2'] at hZ2 hen2 hn2
      have HZ1 := Lib.hid hZ1
      have HZ2 : Hid (∀ w, Calls Try.prog 45 #[.string ⟨#[]⟩, .agg #[.string (Bt p.k), .string (Bt p.v)]] w fun e w' => e = .returned (.int .i64 n2) ∧ Ext w w') := Lib.hid hZ2
      have HEN := Lib.hid hen
      have HEN2 := Lib.hid hen2
      have HBA := Lib.hid hba
      have HPB := Lib.hid (PBox.new wr (Bt p.k) (Bt p.v))
      have hE1 := (Ext.refl wr).alloc (.cells #[.string (Bt p.k), .string (Bt p.v)] 53)
      have HE1 := Lib.hid hE1
      have HB1 := Lib.hid (hB.ext hE1)
      have HEX := Lib.hid hE
      obtain ⟨lk, hlkk⟩ : ∃ lk, lk = lastK [] cu := ⟨_, rfl⟩
      rw [← hlkk] at HZ1
      have HLK := Lib.hid hlkk
      obtain ⟨m, hm⟩ : ∃ m, m = i - f := ⟨_, rfl⟩
      have hmI : (i : Int) - (f : Int) = (m : Int) := by have := hf.out; omega
      have hmc : m = cu.length := by have := hf.out; omega
      have hcut : bCut most cu p = (decide ((f : Int) < (i : Int)) && (decide (most < (sz : Int) + (n1 : Int)) || decide ((4096 : Int) ≤ (m : Int)))) := by
        unfold bCut
        rw [hen, hmc]
        have := hf.out
        congr 1
        · rw [decide_eq_decide]; omega
        · congr 1
          rw [decide_eq_decide]; omega
      obtain ⟨A', hSM, hPM⟩ := slice_mid (some ⟨gA, oA, none⟩) n c f i (by omega) (by omega) HNC.out
      have hSM2 := fun w => (slice_at Try.underlying22 _ _ _ _ w).trans (hSM w)
      rw [← hm] at hPM
      simp only [← hm] at hSM hSM2
      have HBV : Hid (∀ w', Ext W w' → 0 < cu.length → BlkV w' W.heap.size (.slice A' m (c - f)) cu) := Lib.hid (fun w' hX hc0 => by
        have hp := hPM w' l (h.ext hX)
        have hp0 := hPM W l h
        rw [HCU.out] at hp hp0
        rw [hmc] at hp hp0 ⊢
        refine ⟨A', c - f, rfl, hp, by have := hf.out; have := HNC.out; omega, ?_⟩
        exact (Far.of_lt hp0 (Nat.le_refl _) hc0).ext hX)
      rw [← hlkk]
      clear hcu hdl hsm hlk hp htk hba hP hZ1 hZ2 hen hen2 hn1' hn2' hlkk hm hmc hPM hE1
      generalize hc1 : decide ((f : Int) < (i : Int)) = b1 at *
      generalize hc2 : decide (most < (sz : Int) + (n1 : Int)) = b2 at *
      generalize hc3 : decide ((4096 : Int) ≤ (m : Int)) = b3 at *
      have fi : b1 = true → (f : Int) < (i : Int) := fun h => by rw [h] at hc1; simpa using hc1
      have fi' : b1 = false → ¬ (f : Int) < (i : Int) := fun h => by rw [h] at hc1; simpa using hc1
      have sz0 : (0 : Int) ≤ (sz : Int) := by omega
      have sz1 : (sz : Int) ≤ 14000000000 := by omega
      have n10 : (0 : Int) ≤ (n1 : Int) := by omega
      have n11 : (n1 : Int) ≤ 140000 := by omega
      have n20 : (0 : Int) ≤ (n2 : Int) := by omega
      have n21 : (n2 : Int) ≤ 140000 := by omega
      clear hszb hn1 hn2
      cases b1
      · have kk := fi' rfl
        clear fi fi'
        have HST : Hid (bStep most (dn, cu) p = (dn, cu ++ [p])) := Lib.hid (by unfold bStep; rw [if_neg (by rw [hcut]; simp)])
        clear hcut
        go_wp2_with (go_at_call 45; (with_reducible refine (HZ1.out _).mono ?_); rintro e w2 ⟨rfl, hE2⟩; have q0 := (HPB.out.ext hE2).c0; have q1 := (HPB.out.ext hE2).c1)
        go_quiet (fail)
        go_wp2
        exact ⟨⟨i + 1, f, sz + n1, dn, cu ++ [p], by omega, rfl, rfl, rfl, by rw [lastK_snoc], Lib.hid (by have := hf.out; rw [List.length_append, List.length_singleton]; omega), Lib.hid HEN.out.symm, Lib.hid (by rw [HBA.out, HST.out]), (HB1.out.ext hE2).ext (Ext.drewN (Ext.refl _) _), ((HEX.out.trans HE1.out).trans hE2).drewN _⟩, by simp [intOf]; omega⟩
      · have kk := fi rfl
        clear fi fi'
        cases b2
        · cases b3
          · skip
            have HST : Hid (bStep most (dn, cu) p = (dn, cu ++ [p])) := Lib.hid (by unfold bStep; rw [if_neg (by rw [hcut]; simp)])
            clear hcut
            go_wp2_with (go_at_call 45; (with_reducible refine (HZ1.out _).mono ?_); rintro e w2 ⟨rfl, hE2⟩; have q0 := (HPB.out.ext hE2).c0; have q1 := (HPB.out.ext hE2).c1)
            go_quiet (fail)
            go_wp2
            exact ⟨⟨i + 1, f, sz + n1, dn, cu ++ [p], by omega, rfl, rfl, rfl, by rw [lastK_snoc], Lib.hid (by have := hf.out; rw [List.length_append, List.length_singleton]; omega), Lib.hid HEN.out.symm, Lib.hid (by rw [HBA.out, HST.out]), (HB1.out.ext hE2).ext (Ext.drewN (Ext.refl _) _), ((HEX.out.trans HE1.out).trans hE2).drewN _⟩, by simp [intOf]; omega⟩
          · skip
            have HST : Hid (bStep most (dn, cu) p = (dn ++ [cu], [p])) := Lib.hid (by unfold bStep; rw [if_pos (by rw [hcut]; simp)])
            have HC0 : Hid (0 < cu.length) := Lib.hid (by have := hf.out; have : (f : Int) < (i : Int) := by simpa using hc1
                                                          omega)
            clear hcut
            go_wp2_with (first
              | (go_at_call 45; (with_reducible refine (HZ1.out _).mono ?_); rintro e w2 ⟨rfl, hE2⟩; have q0 := (HPB.out.ext hE2).c0; have q1 := (HPB.out.ext hE2).c1; have HX2 := Lib.hid ((HEX.out.trans HE1.out).trans hE2))
              | (at_builtin; go_loud (refine wpList_appB w2 rfl _ _ rfl W.heap.size u4 dn rfl (HB1.out.ext hE2) (.slice A' m (c - f)) cu (HBV.out _ HX2.out HC0.out) _ rfl rfl (by have := HDL.out; omega) HX2.out.sz ?_); intro g3 c3 w3 hB3 hG3 hg3; have HX3 := Lib.hid (hG3.ext HX2.out (Nat.le_refl _)); have hpb3 := ((HPB.out.ext hE2).ext ((Ext.refl w2).alloc (.cells #[.slice A' m (c - f)] 22))).rowB ((HB1.out.ext hE2).ext ((Ext.refl w2).alloc (.cells #[.slice A' m (c - f)] 22))) hg3; have q0 := hpb3.c0; have q1 := hpb3.c1; have HB3 := Lib.hid hB3; have HPB3 := Lib.hid hpb3; clear hB3 hG3 hg3 hpb3)
              | (go_at_call 45; (with_reducible refine (HZ2.out _).mono ?_); rintro e w4 ⟨rfl, hE4⟩; have q0 := (HPB3.out.ext hE4).c0))
            go_quiet (fail)
            go_wp2
            exact ⟨⟨i + 1, i, n2, dn ++ [cu], [p], by omega, rfl, rfl, rfl, rfl, Lib.hid rfl, Lib.hid HEN2.out.symm, Lib.hid (by rw [HBA.out, HST.out]), (HB3.out.ext hE4).ext (Ext.drewN (Ext.refl _) _), (HX3.out.trans hE4).drewN _⟩, by simp [intOf]; omega⟩
        · skip
          have HST : Hid (bStep most (dn, cu) p = (dn ++ [cu], [p])) := Lib.hid (by unfold bStep; rw [if_pos (by rw [hcut]; simp)])
          have HC0 : Hid (0 < cu.length) := Lib.hid (by have := hf.out; have : (f : Int) < (i : Int) := by simpa using hc1
                                                        omega)
          clear hcut
          go_wp2_with (first
            | (go_at_call 45; (with_reducible refine (HZ1.out _).mono ?_); rintro e w2 ⟨rfl, hE2⟩; have q0 := (HPB.out.ext hE2).c0; have q1 := (HPB.out.ext hE2).c1; have HX2 := Lib.hid ((HEX.out.trans HE1.out).trans hE2))
            | (at_builtin; go_loud (refine wpList_appB w2 rfl _ _ rfl W.heap.size u4 dn rfl (HB1.out.ext hE2) (.slice A' m (c - f)) cu (HBV.out _ HX2.out HC0.out) _ rfl rfl (by have := HDL.out; omega) HX2.out.sz ?_); intro g3 c3 w3 hB3 hG3 hg3; have HX3 := Lib.hid (hG3.ext HX2.out (Nat.le_refl _)); have hpb3 := ((HPB.out.ext hE2).ext ((Ext.refl w2).alloc (.cells #[.slice A' m (c - f)] 22))).rowB ((HB1.out.ext hE2).ext ((Ext.refl w2).alloc (.cells #[.slice A' m (c - f)] 22))) hg3; have q0 := hpb3.c0; have q1 := hpb3.c1; have HB3 := Lib.hid hB3; have HPB3 := Lib.hid hpb3; clear hB3 hG3 hg3 hpb3)
            | (go_at_call 45; (with_reducible refine (HZ2.out _).mono ?_); rintro e w4 ⟨rfl, hE4⟩; have q0 := (HPB3.out.ext hE4).c0))
          go_quiet (fail)
          go_wp2
          exact ⟨⟨i + 1, i, n2, dn ++ [cu], [p], by omega, rfl, rfl, rfl, rfl, Lib.hid rfl, Lib.hid HEN2.out.symm, Lib.hid (by rw [HBA.out, HST.out]), (HB3.out.ext hE4).ext (Ext.drewN (Ext.refl _) _), (HX3.out.trans hE4).drewN _⟩, by simp [intOf]; omega⟩
    · obtain rfl : i = n := by omega
      have ii : ¬ (i : Int) < (i : Int) := by omega
      have hfull : l.take i = l := List.take_of_length_le (by rw [HL.out]; omega)
      have hbb := hb.out
      rw [hfull] at hbb hcu
      have hI := bInv_all most l
      rw [hbb] at hI
      have hc0 : 1 ≤ cu.length := hI.cur.2 (fun e => by have h1 := HL.out; have h2 := HN0.out; rw [e] at h1; simp only [List.length_nil] at h1; omega)
      obtain ⟨A', hSM, hPM⟩ := slice_suf (some ⟨gA, oA, none⟩) i c f (by omega) HNC.out
      have hSM2 := fun w => (slice_at Try.underlying22 _ _ _ _ w).trans (hSM w)
      obtain ⟨m, hm⟩ : ∃ m, m = i - f := ⟨_, rfl⟩
      have hmc : m = cu.length := by have := hf.out; omega
      rw [← hm] at hPM
      simp only [← hm] at hSM hSM2
      have HBV : Hid (BlkV wr W.heap.size (.slice A' m (c - f)) cu) := Lib.hid (by
        have hp := hPM wr l (h.ext hE)
        have hp0 := hPM W l h
        rw [hcu] at hp hp0
        rw [hmc] at hp hp0 ⊢
        exact ⟨A', c - f, rfl, hp, by have := hf.out; have := HNC.out; omega, (Far.of_lt hp0 (Nat.le_refl _) hc0).ext hE⟩)
      have HBL : Hid (blkL most l = dn ++ [cu]) := Lib.hid (by unfold blkL; rw [hbb])
      have HE := Lib.hid hE
      have HB := Lib.hid hB
      clear hm hmc hPM hcu hbb hI hfull hc0 hdl hsm hlk hszb
      go_wp2_with (at_builtin; refine wpList_appB wr rfl _ _ rfl W.heap.size u4 dn rfl HB.out (.slice A' m (c - f)) cu HBV.out _ rfl rfl (by have := HDL.out; omega) HE.out.sz ?_; intro g3 c3 w3 hB3 hG3 hg3)
      go_ret
      exact ⟨_, rfl, by rw [HBL.out]; exact hB3, hG3.ext HE.out (Nat.le_refl _)⟩
end Go.Proofs.Ytpengejnjmicnaa
end
section
namespace Go.Proofs.Ytpengejnjmicnaa
open Go.RowKit Go.Nb
set_option maxHeartbeats 2000000 in
set_option maxRecDepth 100000 in
theorem blocks_ref {W : World} {A : Option Addr} {n c : Nat} {l : List Pr} (h : PRd W A n l) (hn : n ≤ 100000) (most : Int) (hs : Small l) : Calls Try.prog 30 #[.slice A n c, .int .i64 most] W fun e w' => ∃ v, e = .returned v ∧ BsRd w' W.heap.size v (blkL most l) ∧ Ext W w' := by
  have HL := Lib.hid h.1
  have HS := Lib.hid hs
  clear hs
  go_enter Try.func30, Try.ntmps30
  go_wp2
  go_loopw [5, 6, 7, 8, 9] (fun av ov zv kv iv wr => ∃ (i m sz : Nat) (dn : List (List Pr)) (cu : List Pr) (A1 : Option Addr) (c1 : Nat) (w1 : World), i ≤ n ∧ iv = .int .i64 i ∧ zv = .int .i64 sz ∧ kv = .string (Bt (lastK [] cu)) ∧ ov = .slice A1 m c1 ∧ Hid (m = cu.length) ∧ Hid (sz = (encL [] cu).length) ∧ Hid (bAll most (l.take i) = (dn, cu)) ∧ BsRd w1 W.heap.size av dn ∧ wr.ownsRow w1.heap.size 53 2 (.slice A1 m c1) m (prCs cu m) ∧ Ext W w1 ∧ Ext w1 wr) (fun _ _ _ _ iv _ => n - (intOf iv).toNat)
  case atStart => exact ⟨0, 0, 0, [], [], none, 0, W, by omega, rfl, rfl, rfl, rfl, Lib.hid rfl, Lib.hid rfl, Lib.hid rfl, BsRd.nil _ _, World.ownsRow_nil _ _ _ _, Ext.refl W, Ext.refl W⟩
  case round =>
    obtain ⟨i, m, sz, dn, cu, A1, c1, w1, hi, rfl, rfl, rfl, rfl, hm, hsz, hb, hB, ho, hEW, hE⟩ := hrel
    have hdl := dn_len hb.out
    rw [List.length_take] at hdl
    have HDL := Lib.hid (show dn.length ≤ 100000 by omega)
    have hI := (bInv_all most (l.take i)).flat
    rw [hb.out] at hI
    simp only at hI
    have hsm : Small cu := fun p hp => HS.out p (by
      have : p ∈ l.take i := by rw [← hI]; exact List.mem_append_right _ hp
      exact List.mem_of_mem_take this)
    have hcl : cu.length ≤ 100000 := by
      have := congrArg List.length hI
      rw [List.length_append, List.length_take] at this
      omega
    have hszb : sz ≤ 14000000000 := by
      have h1 := encL_le cu [] hsm
      rw [hsz.out]
      omega
    have hlk := lastK_small hsm
    have hml : m ≤ 100000 := by rw [hm.out]; exact hcl
    have HB := Lib.hid hB
    have HO := Lib.hid ho
    have HEW := Lib.hid hEW
    have HE := Lib.hid hE
    have HEA := Lib.hid (hEW.trans hE)
    by_cases hi2 : i < n
    · have ii : (i : Int) < (n : Int) := by omega
      have ii0 : (0 : Int) ≤ (i : Int) := by omega
      obtain ⟨gA, oA, rfl, c0, c1'⟩ := (h.ext HEA.out).at_ i hi2
      obtain ⟨_, _, hAA, d0, d1⟩ := h.at_ i hi2
      injection hAA with hAA
      injection hAA with e1 e2
      subst e1
      subst e2
      have hp1 := HS.out _ (getD_mem (show i < l.length by rw [HL.out]; exact hi2))
      have htk := take_snoc (show i < l.length by rw [HL.out]; exact hi2)
      obtain ⟨p, hp⟩ : ∃ p, p = l.getD i default := ⟨_, rfl⟩
      rw [← hp] at c0 c1' hp1 htk d0 d1
      have hba : bAll most (l.take (i + 1)) = bStep most (dn, cu) p := by rw [htk, bAll_snoc, hb.out]
      have hP : p.val = .agg #[.string (Bt p.k), .string (Bt p.v)] := rfl
      have hZ1 := one_ref (lastK [] cu) p hlk hp1.1 hp1.2
      have hZ2 := one_ref [] p (by simp) hp1.1 hp1.2
      rw [hP] at hZ1 hZ2
      have hen : (encL [] (cu ++ [p])).length = sz + (oneL (lastK [] cu) p).length := by rw [encL_snoc, List.length_append, hsz.out]
      have hen2 : (encL [] [p]).length = (oneL [] p).length := by simp [encL]
      have hn1 := oneL_le (lastK [] cu) hp1
      have hn2 := oneL_le [] hp1
      have z1 : ((Bt (oneL (lastK [] cu) p)).size : Int) = ((oneL (lastK [] cu) p).length : Int) := rfl
      have z2 : ((Bt (oneL [] p)).size : Int) = ((oneL [] p).length : Int) := rfl
      have HPS := Lib.hid (prCs_snoc cu p)
      obtain ⟨x1, hx1⟩ : ∃ x1, x1 = oneL (lastK [] cu) p := ⟨_, rfl⟩
      obtain ⟨x2, hx2⟩ : ∃ x2, x2 = oneL [] p := ⟨_, rfl⟩
      rw [← hx1] at hZ1 hen hn1 z1
      rw [← hx2] at hZ2 hen2 hn2 z2
      obtain ⟨n1, hn1'⟩ : ∃ n1, n1 = x1.length := ⟨_, rfl⟩
      obtain ⟨n2, hn2'⟩ : ∃ n2, n2 = x2.length := ⟨_, rfl⟩
      rw [← hn1'] at hen hn1 z1
      rw [← hn2'] at hen2 hn2 z2
      have HZ1 := Lib.hid hZ1
      have HZ2 : Hid (∀ w, Calls Try.prog 52 #[.string ⟨#[]⟩, .agg #[.string (Bt p.k), .string (Bt p.v)]] w fun e w' => e = .returned (.string (Bt x2)) ∧ Ext w w') := Lib.hid hZ2
      have HEN := Lib.hid hen
      have HEN2 := Lib.hid hen2
      have HBA := Lib.hid hba
      have HD0 := Lib.hid d0
      have HD1 := Lib.hid d1
      obtain ⟨lk, hlkk⟩ : ∃ lk, lk = lastK [] cu := ⟨_, rfl⟩
      rw [← hlkk] at HZ1
      have hcut : bCut most cu p = (decide ((0 : Int) < (m : Int)) && (decide (most < (sz : Int) + (n1 : Int)) || decide ((4096 : Int) ≤ (m : Int)))) := by
        unfold bCut
        rw [hen, hm.out]
        congr 1
        · rw [decide_eq_decide]; omega
        · congr 1
          rw [decide_eq_decide]; omega
      rw [← hlkk]
      clear hdl hsm hlk hp htk hba hP hZ1 hZ2 hen hen2 hn1' hn2' hlkk hI hcl hx1 hx2 d0 d1 hB ho hEW hE
      generalize hc1 : decide ((0 : Int) < (m : Int)) = b1 at *
      generalize hc2 : decide (most < (sz : Int) + (n1 : Int)) = b2 at *
      generalize hc3 : decide ((4096 : Int) ≤ (m : Int)) = b3 at *
      have fi : b1 = true → (0 : Int) < (m : Int) := fun h => by rw [h] at hc1; simpa using hc1
      have fi' : b1 = false → ¬ (0 : Int) < (m : Int) := fun h => by rw [h] at hc1; simpa using hc1
      have sz0 : (0 : Int) ≤ (sz : Int) := by omega
      have sz1 : (sz : Int) ≤ 14000000000 := by omega
      have n10 : (0 : Int) ≤ (n1 : Int) := by omega
      have n11 : (n1 : Int) ≤ 140000 := by omega
      have n20 : (0 : Int) ≤ (n2 : Int) := by omega
      have n21 : (n2 : Int) ≤ 140000 := by omega
      clear hszb hn1 hn2
      cases b1
      · have kk := fi' rfl
        clear fi fi'
        have HST : Hid (bStep most (dn, cu) p = (dn, cu ++ [p])) := Lib.hid (by unfold bStep; rw [if_neg (by rw [hcut]; simp)])
        clear hcut
        go_wp2_with (first
          | (go_at_call 52; (with_reducible refine (HZ1.out _).mono ?_); rintro e w2 ⟨rfl, hE2⟩; have q0 := hE2.cellv c0; have q1 := hE2.cellv c1')
          | (at_builtin; refine wpList_app w2 rfl _ _ 22 53 rfl Try.underlying22 _ [.string (Bt p.k), .string (Bt p.v)] 2 32 infoPr rfl rfl (by decide) (by decide) w1.heap.size (.slice A1 m c1) m (prCs cu m) rfl (World.ownsRow.ext HO.out hE2) (two_str _ _) _ rfl rfl (by omega) (HE.out.trans hE2).sz ?_; intro g3 c3 w3 hO3 hG3 hg3; have hX3 := hG3.ext (HE.out.trans hE2) (Nat.le_refl _); have HX3 := Lib.hid hX3; have HO3 := Lib.hid hO3; have q0 := hX3.cellv (HEW.out.cellv HD0.out); have q1 := hX3.cellv (HEW.out.cellv HD1.out); clear hX3 hO3 hG3 hg3))
        exact ⟨⟨i + 1, m + 1, sz + n1, dn, cu ++ [p], _, c3, w1, by omega, rfl, rfl, by rw [lastK_snoc], rfl, Lib.hid (by rw [List.length_append, List.length_singleton, hm.out]), Lib.hid HEN.out.symm, Lib.hid (by rw [HBA.out, HST.out]), HB.out, by have h1 := HPS.out; rw [← hm.out] at h1; rw [h1]; exact HO3.out, HEW.out, HX3.out⟩, by simp [intOf]; omega⟩
      · have kk := fi rfl
        clear fi fi'
        cases b2
        · cases b3
          · skip
            have HST : Hid (bStep most (dn, cu) p = (dn, cu ++ [p])) := Lib.hid (by unfold bStep; rw [if_neg (by rw [hcut]; simp)])
            clear hcut
            go_wp2_with (first
              | (go_at_call 52; (with_reducible refine (HZ1.out _).mono ?_); rintro e w2 ⟨rfl, hE2⟩; have q0 := hE2.cellv c0; have q1 := hE2.cellv c1')
              | (at_builtin; refine wpList_app w2 rfl _ _ 22 53 rfl Try.underlying22 _ [.string (Bt p.k), .string (Bt p.v)] 2 32 infoPr rfl rfl (by decide) (by decide) w1.heap.size (.slice A1 m c1) m (prCs cu m) rfl (World.ownsRow.ext HO.out hE2) (two_str _ _) _ rfl rfl (by omega) (HE.out.trans hE2).sz ?_; intro g3 c3 w3 hO3 hG3 hg3; have hX3 := hG3.ext (HE.out.trans hE2) (Nat.le_refl _); have HX3 := Lib.hid hX3; have HO3 := Lib.hid hO3; have q0 := hX3.cellv (HEW.out.cellv HD0.out); have q1 := hX3.cellv (HEW.out.cellv HD1.out); clear hX3 hO3 hG3 hg3))
            exact ⟨⟨i + 1, m + 1, sz + n1, dn, cu ++ [p], _, c3, w1, by omega, rfl, rfl, by rw [lastK_snoc], rfl, Lib.hid (by rw [List.length_append, List.length_singleton, hm.out]), Lib.hid HEN.out.symm, Lib.hid (by rw [HBA.out, HST.out]), HB.out, by have h1 := HPS.out; rw [← hm.out] at h1; rw [h1]; exact HO3.out, HEW.out, HX3.out⟩, by simp [intOf]; omega⟩
          · skip
            have HST : Hid (bStep most (dn, cu) p = (dn ++ [cu], [p])) := Lib.hid (by unfold bStep; rw [if_pos (by rw [hcut]; simp)])
            have HBV : Hid (∀ w', Ext wr w' → BlkV w' W.heap.size (.slice A1 m c1) cu) := Lib.hid (fun w' hX => by
              have ho := World.ownsRow.ext HO.out hX
              rw [hm.out] at ho ⊢
              exact ⟨A1, c1, rfl, World.ownsRow.prd rfl ho, World.ownsRow.cap_ ho, Far.of_own ho⟩)
            clear hcut
            go_wp2_with (first
              | (go_at_call 52; (with_reducible refine (HZ1.out _).mono ?_); rintro e w2 ⟨rfl, hE2⟩; have q0 := hE2.cellv c0; have q1 := hE2.cellv c1'; have HX2 := Lib.hid (HEA.out.trans hE2))
              | (at_builtin; refine wpList_appB w2 rfl _ _ rfl W.heap.size u5 dn rfl ((HB.out.ext HE.out).ext hE2) (.slice A1 m c1) cu (HBV.out _ hE2) _ rfl rfl (by have := HDL.out; omega) HX2.out.sz ?_; intro g3 c3 w3 hB3 hG3 hg3; have hX3 := hG3.ext HX2.out (Nat.le_refl _); have HX3 := Lib.hid hX3; have q0 := hX3.cellv HD0.out; have q1 := hX3.cellv HD1.out; have HB3 := Lib.hid hB3; clear hX3 hB3 hG3 hg3)
              | (go_at_call 52; (with_reducible refine (HZ2.out _).mono ?_); rintro e w4 ⟨rfl, hE4⟩; have q0 := hE4.cellv q0; have q1 := hE4.cellv q1; have HX4 := Lib.hid hE4)
              | (at_builtin; refine wpList_app w4 rfl _ _ 22 53 rfl Try.underlying22 _ [.string (Bt p.k), .string (Bt p.v)] 2 32 infoPr rfl rfl (by decide) (by decide) w3.heap.size (.slice none 0 0) 0 [] rfl (World.ownsRow_nil _ _ _ _) (two_str _ _) _ rfl rfl (by omega) HX4.out.sz ?_; intro g5 c5 w5 hO5 hG5 hg5; have hX5 := hG5.ext HX4.out (Nat.le_refl _); have HX5 := Lib.hid hX5; have HO5 := Lib.hid hO5; have q0 := hX5.cellv (HX3.out.cellv HD0.out); have q1 := hX5.cellv (HX3.out.cellv HD1.out); clear hX5 hO5 hG5 hg5))
            exact ⟨⟨i + 1, 1, n2, dn ++ [cu], [p], _, c5, w3, by omega, rfl, rfl, rfl, rfl, Lib.hid rfl, Lib.hid HEN2.out.symm, Lib.hid (by rw [HBA.out, HST.out]), HB3.out, HO5.out, HX3.out, HX5.out⟩, by simp [intOf]; omega⟩
        · skip
          have HST : Hid (bStep most (dn, cu) p = (dn ++ [cu], [p])) := Lib.hid (by unfold bStep; rw [if_pos (by rw [hcut]; simp)])
          have HBV : Hid (∀ w', Ext wr w' → BlkV w' W.heap.size (.slice A1 m c1) cu) := Lib.hid (fun w' hX => by
            have ho := World.ownsRow.ext HO.out hX
            rw [hm.out] at ho ⊢
            exact ⟨A1, c1, rfl, World.ownsRow.prd rfl ho, World.ownsRow.cap_ ho, Far.of_own ho⟩)
          clear hcut
          go_wp2_with (first
            | (go_at_call 52; (with_reducible refine (HZ1.out _).mono ?_); rintro e w2 ⟨rfl, hE2⟩; have q0 := hE2.cellv c0; have q1 := hE2.cellv c1'; have HX2 := Lib.hid (HEA.out.trans hE2))
            | (at_builtin; refine wpList_appB w2 rfl _ _ rfl W.heap.size u5 dn rfl ((HB.out.ext HE.out).ext hE2) (.slice A1 m c1) cu (HBV.out _ hE2) _ rfl rfl (by have := HDL.out; omega) HX2.out.sz ?_; intro g3 c3 w3 hB3 hG3 hg3; have hX3 := hG3.ext HX2.out (Nat.le_refl _); have HX3 := Lib.hid hX3; have q0 := hX3.cellv HD0.out; have q1 := hX3.cellv HD1.out; have HB3 := Lib.hid hB3; clear hX3 hB3 hG3 hg3)
            | (go_at_call 52; (with_reducible refine (HZ2.out _).mono ?_); rintro e w4 ⟨rfl, hE4⟩; have q0 := hE4.cellv q0; have q1 := hE4.cellv q1; have HX4 := Lib.hid hE4)
            | (at_builtin; refine wpList_app w4 rfl _ _ 22 53 rfl Try.underlying22 _ [.string (Bt p.k), .string (Bt p.v)] 2 32 infoPr rfl rfl (by decide) (by decide) w3.heap.size (.slice none 0 0) 0 [] rfl (World.ownsRow_nil _ _ _ _) (two_str _ _) _ rfl rfl (by omega) HX4.out.sz ?_; intro g5 c5 w5 hO5 hG5 hg5; have hX5 := hG5.ext HX4.out (Nat.le_refl _); have HX5 := Lib.hid hX5; have HO5 := Lib.hid hO5; have q0 := hX5.cellv (HX3.out.cellv HD0.out); have q1 := hX5.cellv (HX3.out.cellv HD1.out); clear hX5 hO5 hG5 hg5))
          exact ⟨⟨i + 1, 1, n2, dn ++ [cu], [p], _, c5, w3, by omega, rfl, rfl, rfl, rfl, Lib.hid rfl, Lib.hid HEN2.out.symm, Lib.hid (by rw [HBA.out, HST.out]), HB3.out, HO5.out, HX3.out, HX5.out⟩, by simp [intOf]; omega⟩
    · obtain rfl : i = n := by omega
      have ii : ¬ (i : Int) < (i : Int) := by omega
      have hbb := hb.out
      rw [List.take_of_length_le (show l.length ≤ i by rw [HL.out]; omega)] at hbb
      have HBL : Hid (blkL most l = dn ++ [cu]) := Lib.hid (by unfold blkL; rw [hbb])
      have HBV : Hid (BlkV wr W.heap.size (.slice A1 m c1) cu) := Lib.hid (by
        rw [hm.out] at ho ⊢
        exact ⟨A1, c1, rfl, World.ownsRow.prd rfl ho, World.ownsRow.cap_ ho, Far.of_own ho⟩)
      clear hbb hI hdl hsm hlk hszb hcl ho hB
      go_wp2_with (at_builtin; refine wpList_appB wr rfl _ _ rfl W.heap.size u5 dn rfl (HB.out.ext HE.out) (.slice A1 m c1) cu HBV.out _ rfl rfl (by have := HDL.out; omega) HEA.out.sz ?_; intro g3 c3 w3 hB3 hG3 hg3)
      go_ret
      exact ⟨_, rfl, by rw [HBL.out]; exact hB3, hG3.ext HEA.out (Nat.le_refl _)⟩
end Go.Proofs.Ytpengejnjmicnaa
end
