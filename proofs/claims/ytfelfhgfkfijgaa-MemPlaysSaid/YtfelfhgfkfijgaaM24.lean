import Derived.Test.YtfelfhgfkfijgaaM23
namespace Go.Proofs.Ytfelfhgfkfijgaa
open Go.RowKit Go.Nb
/-- The document's mem. -/
def rfC (mo : Int) (A : Option Addr) (n c : Nat) (i : Nat) : Value := if i = 0 then .int .i64 mo else .slice A n c
def RefIs (w : World) (r : Nat) (mo : Int) (l : List Pr) : Prop := ∃ A c, CellsT w 42 r 2 (rfC mo A l.length c) ∧ PRd w A l.length l ∧ l.length ≤ c ∧ RowT w A
section
variable {w w' : World} {r : Nat} {mo : Int} {A : Option Addr} {n c : Nat}
theorem rf_c0 (h : CellsT w 42 r 2 (rfC mo A n c)) : w.cell? ⟨r, 0, none⟩ = some (.int .i64 mo) := CellsT.cell h 0 (by omega)
theorem rf_c1 (h : CellsT w 42 r 2 (rfC mo A n c)) : w.cell? ⟨r, 1, none⟩ = some (.slice A n c) := CellsT.cell h 1 (by omega)
theorem rf_f1 (h : CellsT w 42 r 2 (rfC mo A n c)) : w.frozen? ⟨r, 1, none⟩ = false := CellsT.frozen h 1 (by omega)
theorem rf_set (h : CellsT w 42 r 2 (rfC mo A n c)) (B : Option Addr) (m d : Nat) : CellsT (w.setCell ⟨r, 1, none⟩ (.slice B m d)) 42 r 2 (rfC mo B m d) := CellsT.set_ h 1 (.slice B m d) (fun j hj => by
  rcases (by omega : j = 0 ∨ j = 1) with rfl | rfl <;> rfl)
end
theorem RefIs.ext {w w' : World} {r : Nat} {mo : Int} {l : List Pr} (h : RefIs w r mo l) (hE : Ext w w') : RefIs w' r mo l := by
  obtain ⟨A, c, h1, h2, h3, h4⟩ := h
  exact ⟨A, c, h1.ext hE, h2.ext hE, h3, h4.ext hE⟩
theorem RefIs.lt {w : World} {r : Nat} {mo : Int} {l : List Pr} (h : RefIs w r mo l) : r < w.heap.size := by
  obtain ⟨A, c, h1, _⟩ := h
  exact CellsT.lt h1
theorem PRd.turn {w w' : World} {A : Option Addr} {n : Nat} {l : List Pr} {H : Nat → Prop} (h : PRd w A n l) (hT : Turn H w w') (hA : ∀ a, A = some a → ¬ H a.block) : PRd w' A n l := by
  refine ⟨h.1, fun h0 => ?_⟩
  obtain ⟨gg, o, ha, hc⟩ := h.2 h0
  exact ⟨gg, o, ha, fun i j hi hj => hT.cellv (hc i j hi hj) (hA ⟨gg, o, none⟩ ha)⟩
/-- Where a mem turns the document's stays; and the other way round. -/
theorem RefIs.turnM {w w' : World} {r g : Nat} {mo mo' : Int} {l l' : List Pr} (h : RefIs w r mo l) (hm : MemIs w g mo' l') (hT : Turn (· = g) w w') : RefIs w' r mo l := by
  obtain ⟨A, c, h1, h2, h3, h4⟩ := h
  obtain ⟨_, _, m1, _⟩ := hm
  have hr := h4.ne m1 (by decide)
  exact ⟨A, c, hT.cellsT h1 (h1.ne m1 (by decide)), h2.turn hT hr, h3, h4.turn hT hr⟩
theorem MemIs.turnR {w w' : World} {r g : Nat} {mo mo' : Int} {l l' : List Pr} (h : MemIs w g mo l) (hr : RefIs w r mo' l') (hT : Turn (· = r) w w') : MemIs w' g mo l := by
  obtain ⟨A, c, a1, a2, a3, a4, a5⟩ := h
  obtain ⟨_, _, m1, _⟩ := hr
  have hn := a5.ne m1 (by decide)
  exact ⟨A, c, hT.cellsT a1 (CellsT.ne a1 m1 (by decide)), a2.turn hT hn, a3, a4, a5.turn hT hn⟩
theorem any_take_succ {q : List Pr} {k : Nat} (hk : k < q.length) (h : (q.take k).any badP = false) (hb : badP (q.getD k default) = false) : (q.take (k + 1)).any badP = false := by
  rw [List.take_succ_eq_append_getElem hk, List.any_append, h]
  rw [List.getD_eq_getElem?_getD, List.getElem?_eq_getElem hk] at hb
  simp only [Option.getD_some] at hb
  simp [hb]
theorem take_any_all {q : List Pr} {k : Nat} (hk : q.length = k) (h : (q.take k).any badP = false) : q.any badP = false := by
  rwa [List.take_of_length_le (by omega)] at h
theorem any_of_bad {q : List Pr} {p : Pr} (hm : p ∈ q) (hb : badP p = true) : q.any badP = true := List.any_eq_true.mpr ⟨p, hm, hb⟩
set_option maxHeartbeats 2000000 in
set_option maxRecDepth 100000 in
theorem put_ref {w : World} {r : Nat} {mo : Int} {B : Option Addr} {k cb : Nat} {l q : List Pr} (hm : RefIs w r mo l) (hn : l.length ≤ 40000) (hsz : sizeP l ≤ 68719476736) (hq : PRd w B k q) (hk : k ≤ 40000) :
    Calls Try.prog 14 #[.pointer (some ⟨r, 0, none⟩), .slice B k cb] w fun e w' => e = .returned (.int .i64 (putE mo l q)) ∧ RefIs w' r mo (putR mo l q) ∧ Turn (· = r) w w' := by
  have HQ := Lib.hid hq.1
  have HM := Lib.hid hm
  have hTB := toList_Bt
  obtain ⟨A, c, hma, hP, hC, hRT⟩ := hm
  have HMA := Lib.hid hma
  have HP := Lib.hid hP
  have HC := Lib.hid hC
  have HRT := Lib.hid hRT
  have HSL := Lib.hid hsz
  have m0 := rf_c0 hma
  have m1 := rf_c1 hma
  have HLN := Lib.hid hn
  obtain ⟨ln, hln⟩ : ∃ ln, ln = l.length := ⟨_, rfl⟩
  rw [← hln] at m1 HMA HP HC
  have HLL := Lib.hid hln
  clear hma hP hC hRT hln hsz hn
  go_enter Try.func14, Try.ntmps14
  go_wp2
  go_loopw [5] (fun iv wr => ∃ j : Nat, j ≤ k ∧ iv = .int .i64 j ∧ Hid ((q.take j).any badP = false) ∧ wr = w) (fun iv _ => k - (intOf iv).toNat)
  case atStart => exact ⟨0, by omega, rfl, Lib.hid rfl, rfl⟩
  case round =>
    obtain ⟨j, hj, rfl, hgd, rfl⟩ := hrel
    by_cases hj2 : j < k
    · have kk : (j : Int) < (k : Int) := by omega
      have kk0 : (0 : Int) ≤ (j : Int) := by omega
      obtain ⟨gq, oq, rfl, c0, c1⟩ := hq.at_ j hj2
      have hmem : q.getD j default ∈ q := getD_mem (by rw [HQ.out]; exact hj2)
      have hnx : badP (q.getD j default) = false → (q.take (j + 1)).any badP = false := fun h => any_take_succ (by rw [HQ.out]; exact hj2) hgd.out h
      obtain ⟨p, hp⟩ : ∃ p, p = q.getD j default := ⟨_, rfl⟩
      rw [← hp] at c0 c1 hmem hnx
      clear hp
      obtain ⟨pk, pv⟩ := p
      have hbad : badP ⟨pk, pv⟩ = true → putE mo l q = 4 := fun h => by unfold putE; rw [if_pos (any_of_bad hmem h)]
      have hB : badP ⟨pk, pv⟩ = (pk == [] || decide (1024 < pk.length) || decide (8192 < pv.length)) := rfl
      rw [hB] at hnx hbad
      have zk : ((Bt pk).size : Int) = (pk.length : Int) := rfl
      have zv : ((Bt pv).size : Int) = (pv.length : Int) := rfl
      have d2 : decide ((1024 : Int) < (pk.length : Int)) = decide (1024 < pk.length) := by rw [decide_eq_decide]; omega
      have d3 : decide ((8192 : Int) < (pv.length : Int)) = decide (8192 < pv.length) := by rw [decide_eq_decide]; omega
      clear hB hmem
      generalize hb1 : (pk == []) = b1 at *
      generalize decide (1024 < pk.length) = b2 at *
      generalize decide (8192 < pv.length) = b3 at *
      have hb2 : (pk = []) ↔ b1 = true := by rw [← hb1]; simp
      cases b1
      · have hkn : ¬ pk = [] := fun h => by have := hb2.1 h; cases this
        cases b2
        · cases b3
          · have HNX := Lib.hid (hnx rfl)
            clear hnx hbad hb2
            go_wp2
            exact ⟨⟨j + 1, by omega, rfl, HNX, trivial⟩, by simp [intOf]; omega⟩
          · have HB := Lib.hid (hbad rfl)
            clear hnx hbad hb2
            go_wp2
            go_ret
            exact ⟨by rw [HB.out]; rfl, by have : putR mo l q = l := by (unfold putR; rw [if_neg (by rw [HB.out]; decide)])
                                           rw [this]; exact HM.out, Turn.refl _⟩
        · have HB := Lib.hid (hbad rfl)
          clear hnx hbad hb2
          go_wp2
          go_ret
          exact ⟨by rw [HB.out]; rfl, by have : putR mo l q = l := by (unfold putR; rw [if_neg (by rw [HB.out]; decide)])
                                         rw [this]; exact HM.out, Turn.refl _⟩
      · have hkn : pk = [] := hb2.2 rfl
        subst hkn
        have HB := Lib.hid (hbad rfl)
        clear hnx hbad hb2
        go_wp2
        go_ret
        exact ⟨by rw [HB.out]; rfl, by have : putR mo l q = l := by (unfold putR; rw [if_neg (by rw [HB.out]; decide)])
                                       rw [this]; exact HM.out, Turn.refl _⟩
    · obtain rfl : j = k := by omega
      have kk : ¬ (j : Int) < (j : Int) := by omega
      have HGD := Lib.hid (take_any_all HQ.out hgd.out)
      clear hgd
      go_wp2
      go_loopw [6, 7] (fun av iv w2 => ∃ (i m : Nat) (A1 : Option Addr) (c1 : Nat), i ≤ j ∧ iv = .int .i64 i ∧ av = .slice A1 m c1 ∧ m ≤ ln + i ∧ Hid ((putsL l (q.take i)).length = m) ∧ PRd w2 A1 m (putsL l (q.take i)) ∧ Hid (m ≤ c1) ∧ RowT w2 A1 ∧ Ext wr w2) (fun _ iv _ => j - (intOf iv).toNat)
      case atStart => exact ⟨0, ln, A, c, by omega, rfl, rfl, by omega, Lib.hid HLL.out.symm, HP.out, HC, HRT.out, Ext.refl _⟩
      case round =>
        obtain ⟨i, m, A1, c1, hi, rfl, rfl, hml, hlen, hPm, hmc, hRm, hE⟩ := hrel
        by_cases hi2 : i < j
        · have ii : (i : Int) < (j : Int) := by omega
          have ii0 : (0 : Int) ≤ (i : Int) := by omega
          obtain ⟨gq, oq, rfl, c0, c1'⟩ := (hq.ext hE).at_ i hi2
          have htk : q.take (i + 1) = q.take i ++ [q.getD i default] := by
            rw [List.take_succ_eq_append_getElem (by rw [HQ.out]; exact hi2), List.getD_eq_getElem?_getD, List.getElem?_eq_getElem (by rw [HQ.out]; exact hi2)]; rfl
          obtain ⟨p, hp⟩ : ∃ p, p = q.getD i default := ⟨_, rfl⟩
          rw [← hp] at c0 c1' htk
          have hpl : putsL l (q.take (i + 1)) = putL (putsL l (q.take i)) p := by rw [htk, putsL_snoc]
          have hpl2 := (putL_len (putsL l (q.take i)) p).1
          rw [hlen.out] at hpl2
          have HLN' := HLN.out
          rw [← HLL.out] at HLN'
          have HW := Lib.hid (with_ref (c := c1) hPm hmc.out (by omega) p)
          have HPL := Lib.hid hpl
          obtain ⟨m', hm'⟩ : ∃ m', m' = (putL (putsL l (q.take i)) p).length := ⟨_, rfl⟩
          rw [← hm'] at HW hpl2
          have HM' := Lib.hid hm'
          clear htk hp hpl hm'
          go_wp2_with (go_at_call 26; (with_reducible refine HW.out.mono ?_); rintro e w3 ⟨A3, c3, rfl, hO3, hE3⟩)
          exact ⟨⟨i + 1, m', A3, c3, by omega, rfl, rfl, by omega, Lib.hid (by rw [HPL.out, HM'.out]), by rw [HPL.out]; exact World.ownsRow.prd HM'.out.symm hO3, Lib.hid (World.ownsRow.cap_ hO3), own_rowT hO3, hE.trans hE3⟩, by simp [intOf]; omega⟩
        · obtain rfl : i = j := by omega
          have ii : ¬ (i : Int) < (i : Int) := by omega
          have hfull : q.take i = q := List.take_of_length_le (by rw [HQ.out]; omega)
          rw [hfull] at hlen hPm
          have hs1 := putsL_size q l
          have hs2 := sizeP_good q HGD.out
          rw [HQ.out] at hs2
          have hs3 := HSL.out
          have m0' := hE.cellv m0
          have HSZ := Lib.hid (fun w' (hX : Ext wr w') => size_ref (c := c1) (hPm.ext hX) (by have := HLN.out; rw [← HLL.out] at this; omega) (show sizeP (putsL l q) ≤ 1099511627776 by omega))
          obtain ⟨z, hz⟩ : ∃ z, z = sizeP (putsL l q) := ⟨_, rfl⟩
          rw [← hz] at HSZ
          have HZ := Lib.hid hz
          have HPM := Lib.hid hPm
          have HRM := Lib.hid hRm
          have HEE := Lib.hid hE
          clear hfull hs1 hs2 hs3 hz
          by_cases hmz : mo < (z : Int)
          · have t1 : decide (mo < (z : Int)) = true := by simpa using hmz
            have hpe : putE mo l q = 6 := by unfold putE; rw [HGD.out, if_neg (by simp), ← HZ.out, if_pos hmz]
            have HPE := Lib.hid hpe
            clear hpe
            go_wp2
            go_region_held3 (fun w' => w'.cell? ⟨r, 0, none⟩ = some (.int .i64 mo) ∧ Ext wr w')
              (first | exact ⟨m0', (Ext.refl _).drew⟩ | exact ⟨hE4.cellv m0', (Ext.refl _).drew.trans hE4⟩ | go_keep)
              (first | (go_at_call 22; (with_reducible refine (HSZ.out _ (Ext.refl _).drew).mono ?_); rintro e w4 ⟨rfl, hE4⟩))
            go_wp2
            go_ret
            have hEE := (HEE.out.drew).trans hE4
            exact ⟨by rw [HPE.out]; rfl, by have : putR mo l q = l := by (unfold putR; rw [if_neg (by rw [HPE.out]; decide)])
                                            rw [this]; exact HM.out.ext hEE, Turn.of hEE⟩
          · have t1 : decide (mo < (z : Int)) = false := by simpa using hmz
            have hpe : putE mo l q = 0 := by unfold putE; rw [HGD.out, if_neg (by simp), ← HZ.out, if_neg hmz]
            have HPE := Lib.hid hpe
            clear hpe
            go_wp2
            go_region_held3 (fun w' => w'.cell? ⟨r, 0, none⟩ = some (.int .i64 mo) ∧ Ext wr w')
              (first | exact ⟨m0', (Ext.refl _).drew⟩ | exact ⟨hE4.cellv m0', (Ext.refl _).drew.trans hE4⟩ | go_keep)
              (first | (go_at_call 22; (with_reducible refine (HSZ.out _ (Ext.refl _).drew).mono ?_); rintro e w4 ⟨rfl, hE4⟩))
            have hEE := Lib.hid ((HEE.out.drew).trans hE4)
            have hma4 := HMA.out.ext hEE.out
            have f1 := rf_f1 hma4
            have g1 := rf_c1 hma4
            have HMA4 := Lib.hid hma4
            have HE4 := Lib.hid ((Ext.refl wr).drew.trans hE4)
            clear hma4 hE4
            go_wp2
            go_ret
            have hR4 := HRM.out.ext HE4.out
            have hP4 := HPM.out.ext HE4.out
            have hT : Turn (· = r) w4 (w4.setCell ⟨r, 1, none⟩ (.slice A1 m c1)) := Turn.set_ (H := (· = r)) (a := ⟨r, 1, none⟩) rfl _
            have hne := hR4.ne HMA4.out (by decide)
            refine ⟨by rw [HPE.out]; rfl, ?_, (Turn.of hEE.out).trans hT⟩
            have hpr : putR mo l q = putsL l q := by unfold putR; rw [if_pos HPE.out]
            rw [hpr]
            refine ⟨A1, c1, ?_, ?_, ?_, hR4.turn hT hne⟩
            · rw [hlen.out]; exact rf_set HMA4.out A1 m c1
            · rw [hlen.out]; exact hP4.turn hT hne
            · rw [hlen.out]; exact hmc.out
end Go.Proofs.Ytfelfhgfkfijgaa
