import Derived.Test.YtbpicdjpgbboiaaW29
namespace Go.Proofs.Ytbpicdjpgbboiaa
open Go.RowKit Go.Nb
/-- What the document's reading of bytes as pairs answers. -/
def OfIs (s : Bs) (w : World) (e : Ending) (w' : World) : Prop := (∃ (l : List Pr) (A : Option Addr) (c : Nat), mayB l = true ∧ encL [] l = s ∧ e = .returned (.tuple #[.slice A l.length c, .bool true]) ∧ PRd w' A l.length l ∧ Ext w w') ∨ ((∀ l, mayB l = true → encL [] l ≠ s) ∧ e = .returned (.tuple #[.slice none 0 0, .bool false]) ∧ Ext w w')
theorem RfAt.new (w : World) (l : Bs) (e : Int) : RfAt (w.alloc (.cells #[.string (Bt l), .int .i64 e] 55)) w.heap.size l e := CellsT.of_blk (Blk.new w 55 _) (by simp) (fun j hj => by
  rcases (by omega : j = 0 ∨ j = 1) with rfl | rfl <;> rfl)
theorem fits_of {l : List Pr} (hm : mayB l = true) (h : (encL [] l).length ≤ 1048576) : Fits l := by
  refine ⟨fun i => ?_, h⟩
  rcases Nat.lt_or_ge i l.length with hi | hi
  · have hb := badP_not (bad_of_may hm (l.getD i default) (by rw [List.getD_eq_getElem?_getD, List.getElem?_eq_getElem hi]; exact List.getElem_mem hi))
    omega
  · rw [List.getD_eq_getElem?_getD, List.getElem?_eq_none hi]
    exact ⟨Nat.zero_le _, Nat.zero_le _⟩
set_option maxRecDepth 100000 in
theorem of_any (S : Bs) (hlen : S.length ≤ 65536) (w : World) : Calls Try.prog 12 #[.string (Bt S)] w (OfIs S w) := by
  have hR0 := RfAt.new w S 0
  obtain ⟨g, hg⟩ : ∃ g, g = w.heap.size := ⟨_, rfl⟩
  have HR0 := Lib.hid (show RfAt (w.alloc (.cells #[.string (Bt S), .int .i64 0] 55)) g S 0 by rw [hg]; exact hR0)
  have HG := Lib.hid hg
  have hTB := toList_Bt
  clear hg hR0
  go_enter Try.func12, Try.ntmps12
  go_wp2
  rw [← HG.out]
  go_loopw [5, 6] (fun lv sv wr => ∃ (l0 : List Pr) (last r : Bs) (A1 : Option Addr) (c1 : Nat), lv = .slice A1 l0.length c1 ∧ sv = .string (Bt last) ∧ l0.length ≤ 4097 ∧ Hid (Tail S l0 last r) ∧ Hid ((encL [] l0).length + r.length ≤ S.length + 27 * l0.length) ∧ Hid (last = lastK [] l0) ∧ last.length ≤ 2048 ∧ r.length ≤ S.length ∧ RfAt wr g r 0 ∧ wr.ownsRow (g + 1) 36 2 (.slice A1 l0.length c1) l0.length (prCs l0 l0.length) ∧ Ext w wr) (fun _ _ wr => ((wr.cell? ⟨g, 0, none⟩).getD undef).str!.size)
  case atStart => exact ⟨[], [], S, none, 0, rfl, rfl, by simp, Lib.hid (tail_nil S), Lib.hid (by simp [encL]), Lib.hid rfl, by simp, Nat.le_refl _, HR0.out, World.ownsRow_nil _ _ _ _, (Ext.refl w).alloc _⟩
  case round =>
    clear HR0
    obtain ⟨l0, last, r, A1, c1, rfl, rfl, hl0, hT, hen, hla, hll, hrS, hR, hown, hE⟩ := hrel
    have k0 := hR.c0
    have k1 := hR.c1
    by_cases hr : r = []
    · have kb : decide (0 < (Bt r).size) = false := by rw [Bt_size, hr]; rfl
      have kb2 : ¬ 0 < (Bt r).size := by rw [Bt_size, hr]; simp
      have HRN := Lib.hid hr
      clear hr
      have hp := World.ownsRow.prd rfl hown
      have HP := Lib.hid hp
      have HM := may_ref (c := c1) hp (by omega)
      have HFE := Lib.hid hen.out
      clear hown
      cases hm : mayB l0
      · rw [hm] at HM
        have HF2 := Lib.hid (tail_long hT.out hm (.inl HRN.out))
        have HM := Lib.hid HM
        clear hp hm
        go_wp2_with (go_at_call 13; (with_reducible refine HM.out.mono ?_); rintro e w2 ⟨rfl, hE2⟩)
        go_ret2
        exact .inr ⟨HF2.out, rfl, hE.trans hE2⟩
      · rw [hm] at HM
        have HM := Lib.hid HM
        have HMM := Lib.hid hm
        have HB := Lib.hid (fun w' (hE' : Ext wr w') => bytes_ref (c := c1) (hp.ext hE') (by omega) (fits_of hm (by have := HFE.out; omega)))
        by_cases hq : encL [] l0 = S
        · have HQ := Lib.hid hq
          obtain ⟨z, hz⟩ : ∃ x, x = encL [] l0 := ⟨_, rfl⟩
          rw [← hz] at HB hq
          have tz : (z == S) = true := by simpa using hq
          have tz2 : (z != S) = false := by simpa using hq
          clear hp hm hz hq
          go_wp2_with (first
            | (go_at_call 13; (with_reducible refine HM.out.mono ?_); rintro e w2 ⟨rfl, hE2⟩)
            | (go_at_call 18; (with_reducible refine (HB.out _ hE2).mono ?_); rintro e w3 ⟨rfl, hE3⟩))
          go_ret2
          exact .inl ⟨l0, A1, c1, HMM.out, HQ.out, rfl, HP.out.ext (hE2.trans hE3), (hE.trans hE2).trans hE3⟩
        · have HF2 : Hid (∀ l, mayB l = true → encL [] l ≠ S) := Lib.hid (fun l hl he => by
            have hT2 := hT.out
            rw [HRN.out] at hT2
            rw [tail_end hT2 hl he] at he
            exact hq he)
          obtain ⟨z, hz⟩ : ∃ x, x = encL [] l0 := ⟨_, rfl⟩
          rw [← hz] at HB hq
          have tz : (z == S) = false := by simpa using hq
          have tz2 : (z != S) = true := by simpa using hq
          clear hp hm hz hq
          go_wp2_with (first
            | (go_at_call 13; (with_reducible refine HM.out.mono ?_); rintro e w2 ⟨rfl, hE2⟩)
            | (go_at_call 18; (with_reducible refine (HB.out _ hE2).mono ?_); rintro e w3 ⟨rfl, hE3⟩))
          go_ret2
          exact .inr ⟨HF2.out, rfl, (hE.trans hE2).trans hE3⟩
    · have hr0 : 0 < r.length := List.length_pos_iff.mpr hr
      have kk : (0 : Int) < (r.length : Int) := by omega
      have kb : decide (0 < (Bt r).size) = true := by rw [Bt_size]; simpa using hr0
      have kb2 : 0 < (Bt r).size := hr0
      by_cases hfu : 4096 < l0.length
      · have t3 : decide ((l0.length : Int) ≤ 4096) = false := by simp; omega
        have hp := World.ownsRow.prd rfl hown
        have HP := Lib.hid hp
        have HM := may_ref (c := c1) hp (by omega)
        have HFE := Lib.hid hen.out
        clear hown
        cases hm : mayB l0
        · rw [hm] at HM
          have HF2 := Lib.hid (tail_long hT.out hm (.inr (by omega)))
          have HM := Lib.hid HM
          clear hp hm
          go_wp2_with (go_at_call 13; (with_reducible refine HM.out.mono ?_); rintro e w2 ⟨rfl, hE2⟩)
          go_ret2
          exact .inr ⟨HF2.out, rfl, hE.trans hE2⟩
        · exact absurd (may_len hm).2 (by omega)
      · have t3 : decide ((l0.length : Int) ≤ 4096) = true := by simp; omega
        have HR := Lib.hid hr
        have HA : Hid (∀ w', RfAt w' g r 0 → Calls Try.prog 27 #[.pointer (some ⟨g, 0, none⟩), .int .u64 1024] w' fun x w2 => x = .returned (.int .u64 (numS 1024 r 0).1) ∧ RfAt w2 g (numS 1024 r 0).2.1 (numS 1024 r 0).2.2 ∧ Turn (· = g) w' w2) := Lib.hid (fun w' h => num3_any (most := 1024) h (by omega))
        obtain ⟨hn1, hl1, hl2⟩ := st_lens r
        have HB : Hid (∀ w', RfAt w' g (stN r).2.1 (stN r).2.2 → Calls Try.prog 28 #[.pointer (some ⟨g, 0, none⟩), .int .i64 1024] w' fun x w2 => x = .returned (.string (Bt (textS 1024 (stN r).2.1 (stN r).2.2).1)) ∧ RfAt w2 g (textS 1024 (stN r).2.1 (stN r).2.2).2.1 (textS 1024 (stN r).2.1 (stN r).2.2).2.2 ∧ Turn (· = g) w' w2) := Lib.hid (fun w' h => text3_any (most := 1024) h (by omega) (by omega))
        have HC : Hid (∀ w', RfAt w' g (stK r).2.1 (stK r).2.2 → Calls Try.prog 28 #[.pointer (some ⟨g, 0, none⟩), .int .i64 8192] w' fun x w2 => x = .returned (.string (Bt (textS 8192 (stK r).2.1 (stK r).2.2).1)) ∧ RfAt w2 g (textS 8192 (stK r).2.1 (stK r).2.2).2.1 (textS 8192 (stK r).2.1 (stK r).2.2).2.2 ∧ Turn (· = g) w' w2) := Lib.hid (fun w' h => text3_any (most := 8192) h (by omega) (by omega))
        have hN : numS 1024 r 0 = stN r := rfl
        obtain ⟨hn1, hl1, hl2⟩ := st_lens r
        have hK : textS 1024 (stN r).2.1 (stN r).2.2 = stK r := rfl
        have hV : textS 8192 (stK r).2.1 (stK r).2.2 = stV r := rfl
        rw [hN] at HA
        rw [hK] at HB
        rw [hV] at HC
        have hP : stP last r = ⟨last.take (stN r).1 ++ (stK r).1, (stV r).1⟩ := rfl
        have hfail := tail_fail hT.out hr
        have hstep := tail_step hT.out hr
        have hsz := fun h1 h2 => st_size (last := last) (r := r) h1 h2
        have hpl := fun h1 => stP_len (last := last) (r := r) h1
        have hless := fun h1 => st_less (r := r) h1
        rw [hP] at hfail hstep hsz hpl
        obtain ⟨nv, hnv⟩ : ∃ x, x = (stN r).1 := ⟨_, rfl⟩
        obtain ⟨r1, hr1⟩ : ∃ x, x = (stN r).2.1 := ⟨_, rfl⟩
        obtain ⟨e1, he1⟩ : ∃ x, x = (stN r).2.2 := ⟨_, rfl⟩
        obtain ⟨kv, hkv⟩ : ∃ x, x = (stK r).1 := ⟨_, rfl⟩
        obtain ⟨r2, hr2⟩ : ∃ x, x = (stK r).2.1 := ⟨_, rfl⟩
        obtain ⟨e2, he2⟩ : ∃ x, x = (stK r).2.2 := ⟨_, rfl⟩
        obtain ⟨vv, hvv⟩ : ∃ x, x = (stV r).1 := ⟨_, rfl⟩
        obtain ⟨r3, hr3⟩ : ∃ x, x = (stV r).2.1 := ⟨_, rfl⟩
        obtain ⟨e3, he3⟩ : ∃ x, x = (stV r).2.2 := ⟨_, rfl⟩
        rw [← hnv, ← hr1, ← he1] at HA
        rw [← hr1, ← he1, ← hkv, ← hr2, ← he2] at HB
        rw [← hr2, ← he2, ← hvv, ← hr3, ← he3] at HC
        rw [← hnv, ← hkv, ← hvv] at hfail hstep hsz hpl
        rw [← hr3] at hstep hsz hless
        rw [← he3] at hfail hsz hpl hless
        rw [← hnv] at hn1
        have HF := Lib.hid hfail
        have HST := Lib.hid hstep
        have HSZ := Lib.hid hsz
        have HPL := Lib.hid hpl
        have HLE := Lib.hid hless
        clear hfail hstep hsz hpl hless hP hN hK hV hl1 hl2 hnv hr1 he1 hkv hr2 he2 hvv hr3 he3 hr
        have n0 : (0 : Int) ≤ (nv : Int) := by omega
        have n1 : (nv : Int) ≤ 1024 := by omega
        have HR2 := Lib.hid hR
        have HOW := Lib.hid hown
        have HG2 := Lib.hid (Lib.hid hR.lt)
        clear hown
        by_cases he : e3 = 0
        · subst he
          have te : ((0 : Int) == 0) = true := rfl
          by_cases hnl : last.length < nv
          · have t1 : decide ((Bt last).size < nv) = true := by rw [Bt_size]; simpa using hnl
            have t2 : (Bt last).size < nv := hnl
            have HF2 := Lib.hid (HF.out (.inr (.inl hnl)))
            go_wp2_with (first
          | (go_at_call 27; (with_reducible refine (HA.out _ HR2.out).mono ?_); rintro e wa ⟨rfl, hRa, hTa⟩)
          | (go_at_call 28; (with_reducible refine (HB.out _ hRa).mono ?_); rintro e wb ⟨rfl, hRb, hTb⟩)
          | (go_at_call 28; (with_reducible refine (HC.out _ hRb).mono ?_); rintro e wc ⟨rfl, hRc, hTc⟩; have k0 := hRc.c0; have k1 := hRc.c1))
            go_ret2
            exact .inr ⟨HF2.out, rfl, ((hTa.trans hTb).trans hTc).ext hE (fun k hk => by have := HG.out; omega)⟩
          · have t1 : decide ((Bt last).size < nv) = false := by rw [Bt_size]; simpa using hnl
            have t2 : nv ≤ (Bt last).size := by rw [Bt_size]; omega
            have t22 : ¬ (Bt last).size < nv := by rw [Bt_size]; omega
            have hslh := fun w => slice_hi last nv (by omega) w
            have hslh2 := fun w => slice_hi2 last nv (by omega) w
            have hpl : (last.take nv ++ kv).length ≤ 2048 ∧ vv.length ≤ 8192 := HPL.out rfl
            have hkl : (last.take nv).length + kv.length ≤ 1048576 := by
              have := hpl.1
              rw [List.length_append] at this
              omega
            have hadd := fun w => add_Bt (last.take nv) kv hkl w
            have hex : (Bt last).extract 0 nv = Bt (last.take nv) := by rw [Bt_extract]; rfl
            obtain ⟨tk, htk⟩ : ∃ x, x = last.take nv := ⟨_, rfl⟩
            rw [← htk] at hslh hslh2 hadd hex hkl HST HSZ HPL hpl
            obtain ⟨key, hkey⟩ : ∃ x, x = tk ++ kv := ⟨_, rfl⟩
            rw [← hkey] at hadd HST HSZ HPL hpl
            have HKY := Lib.hid hpl.1
            have hsz2 : (oneL last ⟨key, vv⟩).length + r3.length ≤ r.length + 27 := HSZ.out rfl (by omega)
            have henc : (encL [] (l0 ++ [⟨key, vv⟩])).length + r3.length ≤ S.length + 27 * (l0.length + 1) := by
              rw [encL_snoc, ← hla.out, List.length_append]
              have := hen.out
              omega
            have HENC := Lib.hid henc
            have HCS := Lib.hid (prCs_snoc l0 ⟨key, vv⟩)
            have HLS := Lib.hid (lastK_snoc ⟨key, vv⟩ l0 [])
            have HLT := Lib.hid (HLE.out rfl)
            clear htk hkey hpl hkl hsz2 henc
            go_wp2_with (first
          | (go_at_call 27; (with_reducible refine (HA.out _ HR2.out).mono ?_); rintro e wa ⟨rfl, hRa, hTa⟩)
          | (go_at_call 28; (with_reducible refine (HB.out _ hRa).mono ?_); rintro e wb ⟨rfl, hRb, hTb⟩)
          | (go_at_call 28; (with_reducible refine (HC.out _ hRb).mono ?_); rintro e wc ⟨rfl, hRc, hTc⟩; have k0 := hRc.c0; have k1 := hRc.c1; have HRC := Lib.hid hRc; have hTT := (hTa.trans hTb).trans hTc; have HNE := Lib.hid (fun k (hk : (Value.slice A1 l0.length c1).ownBlock = some k) => (show g + 1 ≤ k ∧ k < wc.heap.size from ⟨(HOW.out.lt k hk).1, Nat.lt_of_lt_of_le (HOW.out.lt k hk).2 hTT.size⟩)); have hXp := (Ext.refl wc).alloc (.cells #[.string (Bt key), .string (Bt vv)] 36); have HOF := Lib.hid ((HOW.out.turn hTT (fun k hk he => by have := (HNE.out k hk).1; omega)).ext hXp); have HPB := Lib.hid (PBox.new wc (Bt key) (Bt vv)); have d0 := HPB.out.c0; have d1 := HPB.out.c1; have HBF := Lib.hid (show g + 1 ≤ (wc.alloc (.cells #[.string (Bt key), .string (Bt vv)] 36)).heap.size from (hRc.ext hXp).lt))
          | (at_builtin; refine wpList_app (wc.alloc (.cells #[.string (Bt key), .string (Bt vv)] 36)) rfl _ _ 22 36 rfl Try.underlying22 (.agg #[.string ⟨#[]⟩, .string ⟨#[]⟩]) [.string (Bt key), .string (Bt vv)] 2 32 infoPr rfl rfl (by decide) (by decide) (g + 1) (.slice A1 l0.length c1) l0.length _ rfl HOF.out (two_str _ _) _ rfl (by simp) (by omega) HBF.out ?_; intro g8 cap8 w8 hown8 hG8 hg8; have HG8 := Lib.hid hg8; have HO8 := Lib.hid hown8; have j0 := (turn_grown hg8).cellv (((Ext.refl _).alloc _).cellv d0) (fun he => by have := (HNE.out _ he).2; exact absurd this (Nat.lt_irrefl _))))
            have hE8 : Ext w w8 := (turn_grown HG8.out).ext (((hTT.ext hE (fun k hk => by have := HG.out; omega)).trans hXp).trans ((Ext.refl _).alloc _)) (fun k hk => by have h1 := (HNE.out k hk).1; have h2 := HG.out; omega)
            have hR8 : RfAt w8 g r3 0 := (turn_grown HG8.out).cellsT (CellsT.ext (CellsT.ext HRC.out hXp) ((Ext.refl _).alloc _)) (fun he => by have := (HNE.out _ he).1; omega)
            refine ⟨⟨l0 ++ [⟨key, vv⟩], key, r3, some ⟨g8, 0, none⟩, cap8, by rw [List.length_append]; rfl, rfl, by rw [List.length_append]; simp; omega, HST, Lib.hid (by have h := HENC.out; rw [show (l0 ++ [(⟨key, vv⟩ : Pr)]).length = l0.length + 1 from List.length_append]; exact h), Lib.hid HLS.out.symm, HKY.out, by have := HLT.out; omega, hR8, ?_, hE8⟩, ?_⟩
            · rw [List.length_append]
              show w8.ownsRow (g + 1) 36 2 (.slice (some ⟨g8, 0, none⟩) (l0.length + 1) cap8) (l0.length + 1) (prCs (l0 ++ [⟨key, vv⟩]) (l0.length + 1))
              rw [HCS.out]
              exact HO8.out
            · rw [hR8.c0, HR2.out.c0]
              exact HLT.out
        · have te : (e3 == 0) = false := by simpa using he
          have HF2 := Lib.hid (HF.out (.inl he))
          go_wp2_with (first
          | (go_at_call 27; (with_reducible refine (HA.out _ HR2.out).mono ?_); rintro e wa ⟨rfl, hRa, hTa⟩)
          | (go_at_call 28; (with_reducible refine (HB.out _ hRa).mono ?_); rintro e wb ⟨rfl, hRb, hTb⟩)
          | (go_at_call 28; (with_reducible refine (HC.out _ hRb).mono ?_); rintro e wc ⟨rfl, hRc, hTc⟩; have k0 := hRc.c0; have k1 := hRc.c1))
          go_ret2
          exact .inr ⟨HF2.out, rfl, ((hTa.trans hTb).trans hTc).ext hE (fun k hk => by have := HG.out; omega)⟩
