import Derived.Test.YtpcbllmmbbmkfaaE28
import Derived.Test.YtpcbllmmbbmkfaaE29
namespace Go.Proofs.Ytpcbllmmbbmkfaa
open Go.RowKit Go.Nb
theorem foldL_len (l : List Lk) : (foldL l).1.length ≤ 64 := by
  have key : ∀ (l : List Lk) (st : List Rf × Int), st.1.length ≤ 64 → (l.foldl foldF st).1.length ≤ 64 := by
    intro l
    induction l with
    | nil => intro st h; exact h
    | cons x l ih =>
      intro st h
      rw [List.foldl_cons]
      apply ih
      unfold foldF
      split
      · exact applyL_len
      · exact h
  exact key l _ (by simp)
theorem FewK.take {l : List Lk} (h : FewK l) (k : Nat) : FewK (l.take k) := fun x hx => h x (List.mem_of_mem_take hx)
theorem LnRd.take {w : World} {A : Option Addr} {n : Nat} {l : List Lk} (h : LnRd w A n l) (k : Nat) (hk : k ≤ n) : LnRd w A k (l.take k) := by
  obtain ⟨h1, xs, h2, h3⟩ := h
  refine ⟨by rw [List.length_take, h1]; omega, xs.take (k * 7), ?_, h3.take k⟩
  have e : k * 7 ≤ n * 7 := Nat.mul_le_mul_right 7 hk
  refine ⟨by rw [List.length_take, h2.1]; omega, fun h0 => ?_⟩
  obtain ⟨g, o, e1, hc⟩ := h2.2 (by omega)
  exact ⟨g, o, e1, fun i x hx => hc i x (by
    rw [List.getElem?_take] at hx
    split at hx
    · exact hx
    · cases hx)⟩
theorem RfOw.nilc {w : World} {base n c : Nat} {A : Option Addr} {l : List Rf} (h : RfOw w base A n c l) : A = none → c = 0 := by
  obtain ⟨_, xs, h1, _⟩ := h
  exact own_nil h1
theorem lnrd_nil (w : World) (A : Option Addr) : LnRd w A 0 [] := ⟨rfl, [], Rd.nil _ _, trivial⟩
set_option maxRecDepth 100000 in
set_option maxHeartbeats 4000000 in
theorem chainSplit_walk (A : Option Addr) (n c : Nat) (l : List Lk) (a : Int) (W : World) (rd : LnRd W A n l) (mm : n ≤ maxLen) (ok : n ≤ c ∧ FewK l) (wa : (Lit.int .u8 a).wf = true) : Calls Try.prog 5 #[.slice A n c, .int .u8 a] W fun e w' => e = .returned (.bool true) ∧ Ext W w' := by
  have HWK := Lib.hid (fun w => works_any w)
  have HV := Lib.hid (heavy_any (c := c) (d := 0) rd (RfRd.nil W none) mm (Nat.zero_le _))
  cases hh : heavyL l []
  · have hln : l.length = n := rd.1
    have hn : n ≤ 200 := by have := (heavyL_few hh).1; omega
    rw [hh] at HV
    rcases Nat.eq_zero_or_pos n with hz | hz
    · subst hz
      clear hh ok rd mm wa
      go_enter Try.func5, Try.ntmps5
      go_wp2_with (first
        | (go_at_call 6; (with_reducible refine HV.out.mono ?_); rintro e w1 ⟨rfl, hE1⟩)
        | (go_at_call 7; (with_reducible refine (HWK.out _).mono ?_); rintro e w5 ⟨rfl, hE5⟩))
      go_ret
      exact ⟨rfl, hE1.trans hE5⟩
    · have a0 : 0 ≤ a ∧ a ≤ 255 := by
        have h2 : IntKind.u8.min ≤ a ∧ a ≤ IntKind.u8.max := by simpa [Lit.wf] using wa
        exact h2
      obtain ⟨av, rfl⟩ : ∃ av : Nat, a = (av : Int) := ⟨a.toNat, by omega⟩
      obtain ⟨q, hq⟩ : ∃ q, q = av % n := ⟨_, rfl⟩
      have hqn : q < n := by rw [hq]; exact Nat.mod_lt _ hz
      have qI : (av : Int) % (n : Int) = (q : Int) := by rw [hq]; push_cast; rfl
      have q0 : (0 : Int) ≤ (q : Int) := by omega
      have q1 : (q : Int) < (n : Int) := by omega
      have q2 : (q : Int) ≤ (c : Int) := by have := ok.1; omega
      have n0 : ¬ (n : Int) = 0 := by omega
      have n1 : (n : Int) ≠ 0 := by omega
      have v0 : (0 : Int) ≤ (av : Int) := by omega
      have v1 : (av : Int) ≤ 255 := by omega
      have HL := Lib.hid hln
      have HF := Lib.hid ok.2
      have HO := Lib.hid (fun w (hE : Ext W w) => ownL_any (c := c) (rd.ext hE) (by omega) ok.2)
      have HO2 := Lib.hid (fun w (hE : Ext W w) => ownL_any (c := c) ((rd.take q (by omega)).ext hE) (by omega) (ok.2.take q))
      have HFO := Lib.hid (fun w A' c' (h : LnRd w A' n l) => fold_any (c := c') h (by omega) ok.2)
      have HFO2 := Lib.hid (fun w A' c' (h : LnRd w A' q (l.take q)) => fold_any (c := c') h (by omega) (ok.2.take q))
      have HQ := Lib.hid hqn
      have HQ0 : Hid (q ≤ n) := Lib.hid (by omega)
      have HLEN := Lib.hid (foldL_len l)
      have HFEW := Lib.hid (foldL_few ok.2)
      generalize hXX : foldL l = X at HFO HLEN HFEW
      obtain ⟨XL, xe⟩ := X
      generalize hYY : foldL (l.take q) = Y at HFO2
      have HLEY := Lib.hid (foldL_len (l.take q))
      have HFEY := Lib.hid (foldL_few (ok.2.take q))
      rw [hYY] at HLEY HFEY
      obtain ⟨YL, ye⟩ := Y
      have HXX := Lib.hid hXX
      have HYY := Lib.hid hYY
      have HN := Lib.hid hn
      clear hXX hYY hh ok rd mm wa hln hq hn
      simp only at HFO HFO2 HLEN HLEY HFEW HFEY
      go_enter Try.func5, Try.ntmps5
      go_wp2_with (first
        | (go_at_call 6; (with_reducible refine HV.out.mono ?_); rintro e w1 ⟨rfl, hE1⟩)
        | (go_at_call 9; (with_reducible refine (HO.out _ hE1).mono ?_); rintro e w2 ⟨A2, c2, rfl, hP2, hE2⟩; have HP2 := Lib.hid hP2.rd; clear hP2)
        | (go_at_call 8; (with_reducible refine (HFO.out _ _ _ HP2.out).mono ?_); rintro e w3 ⟨A3, c3, rfl, hc3, hn3, hT3, hE3⟩; have hO3 := (hE1.trans hE2).trans hE3; have HT3 := Lib.hid hT3; clear hT3 hc3 hn3)
        | (go_at_call 9; (with_reducible refine (HO2.out _ hO3).mono ?_); rintro e w4 ⟨A4, c4, rfl, hP4, hE4⟩; have HP4 := Lib.hid hP4.rd; clear hP4)
        | (go_at_call 8; (with_reducible refine (HFO2.out _ _ _ HP4.out).mono ?_); rintro e w5 ⟨A5, c5, rfl, hc5, hn5, hT5, hE5⟩; have hO5 := (hO3.trans hE4).trans hE5; have HT5 := Lib.hid hT5; clear hT5 hc5 hn5))
      have HE35 := Lib.hid (hE4.trans hE5)
      go_loopw [8, 9, 10] (fun yv ev iv wr => ∃ (j : Nat) (A' : Option Addr) (m c' : Nat) (T : List Rf) (x : Int), j ≤ n ∧ yv = .slice A' m c' ∧ ev = .int .i64 x ∧ iv = .int .i64 j ∧ Hid (foldL (l.take j) = (T, x)) ∧ Hid (m = T.length) ∧ Hid (RfRd wr A' m T) ∧ Hid (m ≤ 64) ∧ Hid (Few T) ∧ Ext W wr ∧ Hid (Ext w3 wr)) (fun _ _ iv _ => n - (intOf iv).toNat)
      case atStart => exact ⟨q, A5, _, c5, YL, ye, HQ0.out, rfl, rfl, rfl, HYY, Lib.hid rfl, HT5, HLEY, HFEY, hO5, HE35⟩
      case round =>
        obtain ⟨j, A', m, c', T, x, hj, rfl, rfl, rfl, hfo, hm, hT, hm64, hfew, hE, hE3r⟩ := hrel
        by_cases hj2 : j < n
        · have jj : (j : Int) < (n : Int) := by omega
          have t1 : decide ((j : Int) < (n : Int)) = true := by simp; omega
          have jj0 : (0 : Int) ≤ (j : Int) := by omega
          have jb : (j : Int) < 200 := by have := HN.out; omega
          by_cases hx : x = 0
          · subst hx
            have hst := fold_step (l := l) (k := j) (by rw [HL.out]; exact hj2) hfo.out
            obtain ⟨p, hp⟩ : ∃ p, p = l.getD j default := ⟨_, rfl⟩
            rw [← hp] at hst
            have HST := Lib.hid hst
            have f1 : p.add.ps.length ≤ 1048576 := by rw [hp]; exact HF.out.at_ j
            have hle := applyL_len (T := T) (l := p)
            have hfe := applyL_few (T := T) (l := p) hfew.out f1
            have HR13 := Lib.hid (refs_any (c := c') hT.out (by have := hm64.out; omega) hfew.out)
            have HOJ := Lib.hid (fun w (h : Ext W w) => HO.out w h)
            have HAP := Lib.hid (fun w A1 d1 (h : RfRd w A1 m T) (h2 : A1 = none → d1 = 0) B d (hp2 : PsV w (.slice B p.add.ps.length d) p.add.ps) => apply_any (c := d1) h h2 (by have := hm64.out; omega) hfew.out p hp2 f1)
            generalize hRR : applyL T p = R at *
            obtain ⟨S, z⟩ := R
            simp only at hle hfe
            have HLE := Lib.hid hle
            have HFE := Lib.hid hfe
            have HP := Lib.hid hp
            have HJ2 := Lib.hid hj2
            clear hst hp f1 hle hfe hRR
            go_wp2_with (first
              | (go_at_call 13; (with_reducible refine HR13.out.mono ?_); rintro e v1 ⟨B1, d1, rfl, hQ1, hF1⟩; have HQ1 := Lib.hid hQ1.rd; have HN1 := Lib.hid hQ1.nilc; clear hQ1)
              | (go_at_call 9; (with_reducible refine (HOJ.out _ (hE.trans hF1)).mono ?_); rintro e v2 ⟨B2, d2, rfl, hQ2, hF2⟩; have hQ3 := hQ2.rd; clear hQ2; obtain ⟨g, o, u, rfl, k0, k1, k2, k3, hv, k4, k5, k6⟩ := hQ3.at_ j HJ2.out; clear hQ3; rw [← HP.out] at k0 k1 k2 k4 k5 k6 hv; obtain ⟨C1, e1, rfl, r1, r2, r3⟩ := hv; have HC := Lib.hid (show PsV v2 (.slice C1 p.add.ps.length e1) p.add.ps from ⟨C1, e1, rfl, r1, r2, r3⟩); clear r1 r2 r3)
              | (go_at_call 14; (with_reducible refine (HAP.out _ _ _ (HQ1.out.ext hF2) HN1.out _ _ HC.out).mono ?_); rintro e v3 ⟨B3, d3, rfl, h1, h2, h3, hF3⟩; have HX := Lib.hid h3; clear h1 h2 h3))
            exact ⟨⟨j + 1, B3, S.length, d3, S, z, by omega, rfl, rfl, rfl, HST, Lib.hid rfl, HX, HLE, HFE, ((hE.trans hF1).trans hF2).trans hF3, Lib.hid (((hE3r.out.trans hF1).trans hF2).trans hF3)⟩, by simp [intOf]; omega⟩
          · have tx : (x == 0) = false := by simpa using hx
            have HX : Hid (foldL l = (T, x)) := Lib.hid (fold_stop hfo.out hx)
            have HXE : Hid (XL = T ∧ xe = x) := Lib.hid (by have := HX.out; rw [HXX.out] at this; injection this with e1 e2; exact ⟨e1, e2⟩)
            obtain ⟨rfl, rfl⟩ := HXE.out
            have HSA := Lib.hid (fun w (h : Ext wr w) => same_any (w := w) (c := c3) (c' := c') (HT3.out.ext (hE3r.out.trans h)) (hT.out.ext h) (by have := HLEN.out; omega) (by have := hm64.out; omega) HFEW.out hfew.out)
            have HWE := Lib.hid hE
            go_wp2_with (first
              | (go_at_call 12; (with_reducible refine (HSA.out _ (Ext.refl _)).mono ?_); rintro e v5 ⟨rfl, hF5⟩; rw [decide_eq_true rfl]; have hE := hE.trans hF5)
              | (go_at_call 7; (with_reducible refine (HWK.out _).mono ?_); rintro e v6 ⟨rfl, hF6⟩))
            go_ret
            exact ⟨rfl, hE.trans hF6⟩
        · obtain rfl : j = n := by omega
          have jj : ¬ (j : Int) < (j : Int) := by omega
          have t1 : decide ((j : Int) < (j : Int)) = false := by simp
          have HX : Hid (foldL l = (T, x)) := Lib.hid (by have := hfo.out; rwa [List.take_of_length_le (by rw [HL.out]; omega)] at this)
          by_cases hx : x = 0
          · subst hx
            have HXE : Hid (XL = T ∧ xe = 0) := Lib.hid (by have := HX.out; rw [HXX.out] at this; injection this with e1 e2; exact ⟨e1, e2⟩)
            obtain ⟨rfl, rfl⟩ := HXE.out
            have HSA := Lib.hid (fun w (h : Ext wr w) => same_any (w := w) (c := c3) (c' := c') (HT3.out.ext (hE3r.out.trans h)) (hT.out.ext h) (by have := HLEN.out; omega) (by have := hm64.out; omega) HFEW.out hfew.out)
            have HWE := Lib.hid hE
            go_wp2_with (first
              | (go_at_call 12; (with_reducible refine (HSA.out _ (Ext.refl _)).mono ?_); rintro e v5 ⟨rfl, hF5⟩; rw [decide_eq_true rfl]; have hE := hE.trans hF5)
              | (go_at_call 7; (with_reducible refine (HWK.out _).mono ?_); rintro e v6 ⟨rfl, hF6⟩))
            go_ret
            exact ⟨rfl, hE.trans hF6⟩
          · have tx : (x == 0) = false := by simpa using hx
            have HXE : Hid (XL = T ∧ xe = x) := Lib.hid (by have := HX.out; rw [HXX.out] at this; injection this with e1 e2; exact ⟨e1, e2⟩)
            obtain ⟨rfl, rfl⟩ := HXE.out
            have HSA := Lib.hid (fun w (h : Ext wr w) => same_any (w := w) (c := c3) (c' := c') (HT3.out.ext (hE3r.out.trans h)) (hT.out.ext h) (by have := HLEN.out; omega) (by have := hm64.out; omega) HFEW.out hfew.out)
            have HWE := Lib.hid hE
            go_wp2_with (first
              | (go_at_call 12; (with_reducible refine (HSA.out _ (Ext.refl _)).mono ?_); rintro e v5 ⟨rfl, hF5⟩; rw [decide_eq_true rfl]; have hE := hE.trans hF5)
              | (go_at_call 7; (with_reducible refine (HWK.out _).mono ?_); rintro e v6 ⟨rfl, hF6⟩))
            go_ret
            exact ⟨rfl, hE.trans hF6⟩
  · rw [hh] at HV
    clear hh ok rd mm wa
    go_enter Try.func5, Try.ntmps5
    go_wp2_with (first
      | (go_at_call 6; (with_reducible refine HV.out.mono ?_); rintro e w1 ⟨rfl, hE1⟩)
      | (go_at_call 7; (with_reducible refine (HWK.out _).mono ?_); rintro e w5 ⟨rfl, hE5⟩))
    go_ret
    exact ⟨rfl, hE1.trans hE5⟩
