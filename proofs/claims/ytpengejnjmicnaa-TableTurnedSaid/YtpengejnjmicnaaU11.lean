import Derived.Test.YtpengejnjmicnaaU8
import Derived.Test.YtpengejnjmicnaaU6
import Derived.Deep.CutBlock
section
namespace Go.Proofs.Ytpengejnjmicnaa
open Go.RowKit Go.Nb
theorem slice_pre (A : Option Addr) (n c i : Nat) (hi : i ≤ n) (hnc : n ≤ c) : (∀ w, (Instr.slice 22 (.slice A n c) none (some (.int .i64 (i : Int))) none).run Try.prog w = .ok (.slice A i c) w) ∧ ∀ w l, PRd w A n l → PRd w A i (l.take i) := by
  have hic : i ≤ c := by omega
  refine ⟨fun w => ?_, fun w l h => ⟨by rw [List.length_take, h.1]; omega, fun h0 => ?_⟩⟩
  · simp [Instr.slice, run_underlying Try.underlying22, Instr.sliceBounds, Instr.sliceBound, asIntOf, hic]
    intro _
    cases A with
    | none => rfl
    | some a => simp [Addr.add_zero']
  · obtain ⟨g, o, rfl, hc⟩ := h.2 (by omega)
    refine ⟨g, o, rfl, fun k j hk hj => ?_⟩
    have := hc k j (by omega) hj
    unfold prF at this ⊢
    rw [this, List.getD_eq_getElem?_getD, List.getD_eq_getElem?_getD, List.getElem?_take_of_lt hk]
theorem seek_nil (l : List Pr) : seekL [] l = 0 := by
  cases l with
  | nil => rfl
  | cons p l =>
    unfold seekL
    rw [if_neg]
    cases p.k <;> simp [Op.bytesLess]
set_option maxRecDepth 100000 in
set_option maxHeartbeats 8000000 in
theorem answers_any {w : World} {gt : Nat} {bs : List (List Pr)} {A : Option Addr} {c : Nat} {key : Bs} (hT : Tbl w gt bs) (hk : Tok bs) (hl : bs.flatten.length ≤ 50000) (hP : PRd w A bs.flatten.length bs.flatten) (hc : bs.flatten.length ≤ c) :
    Calls Try.prog 16 #[.pointer (some ⟨gt, 0, none⟩), .slice A bs.flatten.length c, .int .i64 (bs.length : Nat), .string (Bt key)] w fun e w' => e = .returned (.bool true) ∧ Ext w w' := by
  have hn0 := pos_ne hk.fne
  have HEN := Lib.hid (fun W (hE : Ext w W) => ends_t (hT.ext hE) hk.ne hk.nn hk.len)
  have HLN := Lib.hid (fun W (hE : Ext w W) => tlen_any (hT.ext hE))
  have HBL := Lib.hid (fun W (hE : Ext w W) => tblocks_any (hT.ext hE))
  have HFR := Lib.hid (fun W (hE : Ext w W) => from_t (hT.ext hE) hk key)
  have HF0 : Hid (∀ W (_ : Ext w W), Calls Try.prog 20 #[.pointer (some ⟨gt, 0, none⟩), .string ⟨#[]⟩] W fun e w' => ∃ lb, e = .returned (.func (.func 43) #[] lb) ∧ SeqOf w' lb bs.flatten ∧ Ext W w') := Lib.hid (fun W hE => by
    have := from_t (hT.ext hE) hk []
    rw [seek_nil] at this
    exact this)
  have HGT := Lib.hid (fun W (hE : Ext w W) => get_t (hT.ext hE) hk key)
  have hup := hk.up
  clear hk hT
  generalize bs.length = k at *
  generalize bs.flatten = L at *
  have HSK := Lib.hid (fun W (hE : Ext w W) => seek_ref (c := c) (hP.ext hE) (by omega) key)
  have hsl := seekL_le key L
  obtain ⟨s, hs⟩ : ∃ s, s = seekL key L := ⟨_, rfl⟩
  rw [← hs] at HSK HFR HGT hsl
  have hsx : getT key (L.drop s) = if s < L.length ∧ (L.getD s default).k = key then ((L.getD s default).v, true) else ([], false) := by
    by_cases h1 : s < L.length
    · rw [drop_cons h1]
      by_cases h2 : (L.getD s default).k = key
      · rw [if_pos ⟨h1, h2⟩]; exact if_pos h2
      · rw [if_neg (fun h => h2 h.2)]; exact if_neg h2
    · rw [if_neg (fun h => h1 h.1), List.drop_of_length_le (by omega)]; rfl
  have HC1 : Hid (∀ W lb, SeqOf W lb (L.drop s) → Calls Try.prog 19 #[.func (.func 43) #[] lb, .int .i64 ((L.length : Int) + 1)] W fun e w' => ∃ A1 c1, e = .returned (.slice A1 (L.length - s) c1) ∧ PRd w' A1 (L.length - s) (L.drop s) ∧ Ext W w') := Lib.hid (fun W lb h => by
    have := collect_t h (most := L.length + 1) (by omega) (by omega)
    rw [List.take_of_length_le (by rw [List.length_drop]; omega), List.length_drop] at this
    exact this)
  have HC3 : Hid (∀ W lb, SeqOf W lb L → Calls Try.prog 19 #[.func (.func 43) #[] lb, .int .i64 ((L.length : Int) + 1)] W fun e w' => ∃ A1 c1, e = .returned (.slice A1 L.length c1) ∧ PRd w' A1 L.length L ∧ Ext W w') := Lib.hid (fun W lb h => by
    have := collect_t h (most := L.length + 1) (by omega) (by omega)
    rw [List.take_of_length_le (by omega)] at this
    exact this)
  have HC2 : Hid (∀ W lb, SeqOf W lb L → Calls Try.prog 19 #[.func (.func 43) #[] lb, .int .i64 2] W fun e w' => ∃ A1 c1, e = .returned (.slice A1 (min 2 L.length) c1) ∧ PRd w' A1 (min 2 L.length) (L.take (min 2 L.length)) ∧ Ext W w') := Lib.hid (fun W lb h => by
    have := collect_t h (most := 2) (by omega) (by omega)
    rw [List.length_take, show L.take 2 = L.take (min 2 L.length) by rw [List.take_eq_take_min]] at this
    exact this)
  obtain ⟨A', hsuf, hsufP⟩ := slice_suf A L.length c s hsl hc
  obtain ⟨hpre, hpreP⟩ := slice_pre A L.length c (min 2 L.length) (by omega) hc
  have hsuf2 := fun w => (slice_at Try.underlying22 _ _ _ _ w).trans (hsuf w)
  have hpre2 := fun w => (slice_at Try.underlying22 _ _ _ _ w).trans (hpre w)
  have HP := Lib.hid hP
  have HSP := Lib.hid hsufP
  have HPP := Lib.hid hpreP
  have hTB := toList_Bt
  obtain ⟨gA, oA, rfl, a0, _⟩ := hP.at_ 0 hn0
  obtain ⟨gA', oA', eA, z0, _⟩ := hP.at_ (L.length - 1) (by omega)
  cases eA
  have HAT := fun h => hP.at_ s h
  have HS : Hid (∀ W X Y n a b c1 c2, PRd W X n a → PRd W Y n b → a = b → n ≤ 50000 → Calls Try.prog 18 #[.slice X n c1, .slice Y n c2] W fun e w' => e = .returned (.bool true) ∧ Ext W w') := Lib.hid (fun W X Y n a b c1 c2 ha hb hab hn => by
    have := same_ref (c := c1) (c' := c2) ha hb (by omega) (by omega)
    rw [decide_eq_true hab] at this
    exact this)
  rw [Nat.zero_mul, Nat.add_zero] at a0
  clear hup hsufP hpreP hsuf hpre hP
  generalize hn : L.length = n at *
  obtain ⟨m, hm⟩ : ∃ m, m = n - 1 := ⟨_, rfl⟩
  rw [← hm] at z0 HEN
  have wm : IntKind.i64.wrap ((n : Int) - 1) = (m : Int) := by
    rw [show (n : Int) - 1 = (m : Int) by omega]; exact IntWalk.i64_in _ (by omega)
  have wn : IntKind.i64.wrap ((n : Int) + 1) = (n : Int) + 1 := IntWalk.i64_in _ (by omega)
  have mn : (m : Int) < (n : Int) := by omega
  have m0 : (0 : Int) ≤ (m : Int) := by omega
  have n0 : (0 : Int) < (n : Int) := by omega
  have s0 : (0 : Int) ≤ (s : Int) := by omega
  generalize hx0 : L.getD 0 default = x0 at *
  generalize hxm : L.getD m default = xm at *
  generalize hxs : L.getD s default = xs at *
  have hqq : min (2 : Int) (n : Int) = ((min 2 n : Nat) : Int) := by omega
  have HQ2 : Hid (min 2 n ≤ 50000) := Lib.hid (by omega)
  generalize min 2 n = q at *
  have HLN0 := Lib.hid hn
  have HSN := Lib.hid hsl
  clear hx0 hxm hxs hm hs hn hsl hc
  obtain ⟨V, I, hVI, hc3⟩ : ∃ V I, getT key (L.drop s) = (V, I) ∧ ((s < n ∧ xs.k = key ∧ V = xs.v ∧ I = true) ∨ ((s < n → ¬ xs.k = key) ∧ V = [] ∧ I = false)) := by
    by_cases h : s < n ∧ xs.k = key
    · exact ⟨_, _, by rw [hsx, if_pos h], .inl ⟨h.1, h.2, rfl, rfl⟩⟩
    · exact ⟨_, _, by rw [hsx, if_neg h], .inr ⟨fun h1 h2 => h ⟨h1, h2⟩, rfl, rfl⟩⟩
  rw [hVI] at HGT
  have HLL := Lib.hid hl
  have HC := Lib.hid hc3
  have HATH := Lib.hid HAT
  clear hsx hl HAT hVI hc3
  go_enter Try.func16, Try.ntmps16
  go_upto_region 3 with (first
    | (go_at_call 42; (with_reducible refine (HSK.out _ (Ext.refl w)).mono ?_); rintro e w1 ⟨rfl, hE1⟩)
    | (go_at_call 21; (with_reducible refine (HGT.out _ hE1).mono ?_); rintro e w2 ⟨rfl, hE2⟩; have hO2 := hE1.trans hE2))
  go_cut [12] from 25 to 38 (fun c12 wx => c12 = .bool I ∧ w2 = wx)
  case first =>
    rcases HC.out with ⟨hsn, hke, rfl, rfl⟩ | ⟨hne, rfl, rfl⟩
    · have kk : (s : Int) < (n : Int) := by omega
      obtain ⟨g1, o1, eA, b0, b1⟩ := HATH.out hsn
      cases eA
      have b0' := hO2.cellv b0
      have HKE := Lib.hid hke
      have te : (xs.k == key) = true := by simpa using hke
      clear hke
      go_wp2
      go_meet
      exact ⟨by simp, rfl⟩
    · by_cases hsn : s < n
      · have kk : (s : Int) < (n : Int) := by omega
        obtain ⟨g1, o1, eA, b0, b1⟩ := HATH.out hsn
        cases eA
        have b0' := hO2.cellv b0
        have te : (xs.k == key) = false := by simpa using hne hsn
        go_wp2
        go_meet
        exact ⟨by simp, rfl⟩
      · have kk : ¬ (s : Int) < (n : Int) := by omega
        go_wp2
        go_meet
        exact ⟨by simp, rfl⟩
  case rest =>
    obtain ⟨rfl, rfl⟩ := hcut
    go_upto_if 38 with fail
    go_cut [13] from 38 to 44 (fun c13 wx => c13 = .string (Bt V) ∧ w2 = wx)
    case first =>
      rcases HC.out with ⟨hsn, hke, rfl, rfl⟩ | ⟨hne, rfl, rfl⟩
      · have kk : (s : Int) < (n : Int) := by omega
        obtain ⟨g1, o1, eA, b0, b1⟩ := HATH.out hsn
        cases eA
        have b1' := hO2.cellv b1
        go_wp2
        go_meet
        exact ⟨rfl, rfl⟩
      · go_wp2
        go_meet
        exact ⟨rfl, rfl⟩
    case rest =>
      obtain ⟨rfl, rfl⟩ := hcut
      go_wp2_with (go_at_call 22; (with_reducible refine (HEN.out _ hO2).mono ?_); rintro e w3 ⟨rfl, hE3⟩; have hO3 := hO2.trans hE3; have a0' := hO3.cellv a0; have z0' := hO3.cellv z0)
      dsimp only [List.append]
      go_region_held3 (fun w' => w'.cell? ⟨gA, oA, none⟩ = some (.string (Bt x0.k)) ∧ w'.cell? ⟨gA, oA + m * 2, none⟩ = some (.string (Bt xm.k)) ∧ Ext w w')
        (first | exact ⟨a0', z0', hO3⟩ | exact ⟨hO3.drew.cellv a0, hO3.drew.cellv z0, hO3.drew⟩ | exact held_ext2 (by assumption) hEn | go_keep)
        (first
          | (go_at_call 23; (with_reducible refine (HLN.out _ (by go_split_ands; assumption)).mono ?_); rintro e w4 ⟨rfl, hEn⟩)
          | (go_at_call 17; (with_reducible refine (HBL.out _ (by go_split_ands; assumption)).mono ?_); rintro e w5 ⟨rfl, hEn⟩)
          | (go_at_call 20; (with_reducible refine (HFR.out _ (by go_split_ands; assumption)).mono ?_); rintro e w6 ⟨lb1, rfl, hS1, hEn⟩)
          | (go_at_call 20; (with_reducible refine (HF0.out _ (by go_split_ands; assumption)).mono ?_); rintro e w6 ⟨lb2, rfl, hS2, hEn⟩)
          | (go_at_call 19; (with_reducible refine (HC1.out _ _ hS1).mono ?_); rintro e w7 ⟨A1, c1, rfl, hP1, hEn⟩)
          | (go_at_call 19; (with_reducible refine (HC2.out _ _ hS2).mono ?_); rintro e w7 ⟨A1, c1, rfl, hP1, hEn⟩)
          | (go_at_call 19; (with_reducible refine (HC3.out _ _ hS2).mono ?_); rintro e w7 ⟨A1, c1, rfl, hP1, hEn⟩)
          | (go_at_call 18; (with_reducible refine (HS.out _ _ _ _ _ _ _ _ hP1 (HSP.out _ _ (HP.out.ext (by go_split_ands; assumption))) rfl (by have := HLL.out; omega)).mono ?_); rintro e w8 ⟨rfl, hEn⟩)
          | (go_at_call 18; (with_reducible refine (HS.out _ _ _ _ _ _ _ _ hP1 (HPP.out _ _ (HP.out.ext (by go_split_ands; assumption))) rfl HQ2.out).mono ?_); rintro e w8 ⟨rfl, hEn⟩)
          | (go_at_call 18; (with_reducible refine (HS.out _ _ _ _ _ _ _ _ hP1 (HP.out.ext (by go_split_ands; assumption)) rfl (by have := HLL.out; omega)).mono ?_); rintro e w8 ⟨rfl, hEn⟩))
      all_goals go_wp2
      all_goals go_ret
      all_goals exact ⟨rfl, by go_split_ands; assumption⟩
end Go.Proofs.Ytpengejnjmicnaa
end
