import Derived.Test.YtbpicdjpgbboiaaW17
namespace Go.Proofs.Ytbpicdjpgbboiaa
open Go.RowKit Go.Nb
theorem readL_lt (l : Bs) : (readL l).1 < 18446744073709551616 := by
  by_cases h : (readL l).2.2 = 0
  · exact (readL_ok (s := l) (x := (readL l).1) (n := (readL l).2.1) (by rw [← h])).1
  · have := (readL_err (s := l) (x := (readL l).1) (n := (readL l).2.1) (e := (readL l).2.2) rfl h).1
    omega
/-- A count that is read. -/
def cntS (most : Nat) (l : Bs) (e : Int) : Nat × Bs × Int :=
  if e ≠ 0 then (0, l, e) else if (readL l).2.2 ≠ 0 then (0, l, (readL l).2.2) else if most < (readL l).1 then (0, l, 4) else if l.length - (readL l).2.1 < (readL l).1 then (0, l, 10) else ((readL l).1, l.drop (readL l).2.1, 0)
def cnt3P (g most : Nat) (l : Bs) (e : Int) (w : World) (x : Ending) (w' : World) : Prop := x = .returned (.int .i64 (cntS most l e).1) ∧ RfAt w' g (cntS most l e).2.1 (cntS most l e).2.2 ∧ Turn (· = g) w w'
theorem numS_max (l : Bs) : numS 18446744073709551615 l 0 = if (readL l).2.2 ≠ 0 then (0, l, (readL l).2.2) else ((readL l).1, l.drop (readL l).2.1, 0) := by
  have := readL_lt l
  unfold numS rdNum
  rw [if_pos rfl]
  split
  · rfl
  · rw [if_neg (by omega)]
set_option maxRecDepth 100000 in
theorem cnt3_any {w : World} {g most : Nat} {l : Bs} {e : Int} (h : RfAt w g l e) (hl : l.length ≤ 1048576) (hmo : most ≤ 65536) : Calls Try.prog 47 #[.pointer (some ⟨g, 0, none⟩), .int .i64 most] w (cnt3P g most l e w) := by
  have c0 := h.c0
  have HN : Calls Try.prog 27 #[.pointer (some ⟨g, 0, none⟩), .int .u64 18446744073709551615] w (num3P g 18446744073709551615 l e w) := num3_any (most := 18446744073709551615) h hl
  have hn := readL_n l
  have hmw : IntKind.u64.wrap (most : Int) = most := u64_lt (by omega)
  have m0 : (0 : Int) ≤ (most : Int) := by omega
  have tm : decide ((most : Int) < 0) = false := by simp
  by_cases he : e = 0
  · have hp : cnt3P g most l e w = fun x w' => x = .returned (.int .i64 (cntS most l 0).1) ∧ RfAt w' g (cntS most l 0).2.1 (cntS most l 0).2.2 ∧ Turn (· = g) w w' := by rw [he]; rfl
    have hn3 : num3P g 18446744073709551615 l e w = fun x w' => x = .returned (.int .u64 (numS 18446744073709551615 l 0).1) ∧ RfAt w' g (numS 18446744073709551615 l 0).2.1 (numS 18446744073709551615 l 0).2.2 ∧ Turn (· = g) w w' := by rw [he]; rfl
    have hc : cntS most l 0 = if (readL l).2.2 ≠ 0 then (0, l, (readL l).2.2) else if most < (readL l).1 then (0, l, 4) else if l.length - (readL l).2.1 < (readL l).1 then (0, l, 10) else ((readL l).1, l.drop (readL l).2.1, 0) := by
      unfold cntS; rw [if_neg (by simp)]
    rw [hn3, numS_max] at HN
    rw [hp]
    obtain ⟨x, hxx⟩ : ∃ x, x = (readL l).1 := ⟨_, rfl⟩
    obtain ⟨n, hnn⟩ : ∃ x, x = (readL l).2.1 := ⟨_, rfl⟩
    obtain ⟨k, hkk⟩ : ∃ x, x = (readL l).2.2 := ⟨_, rfl⟩
    rw [← hxx, ← hnn, ← hkk] at HN hc
    rw [← hnn] at hn
    clear hxx hnn hkk hp hn3
    by_cases hk : k = 0
    · have t1 : (k != 0) = false := by simpa using hk
      rw [if_neg (by simpa using hk)] at HN hc
      have HN := Lib.hid HN
      have hlz : (Bt (l.drop n)).size = l.length - n := by rw [Bt_size, List.length_drop]
      have hlzI : ((Bt (l.drop n)).size : Int) = ((l.length - n : Nat) : Int) := by rw [hlz]
      have hlw : IntKind.u64.wrap (((l.length - n : Nat)) : Int) = ((l.length - n : Nat) : Int) := u64_lt (by omega)
      obtain ⟨z, hz⟩ : ∃ z, z = l.length - n := ⟨_, rfl⟩
      rw [← hz] at hlz hlzI hlw hc
      have hzI : z ≤ 1048576 := by omega
      by_cases hm : most < x
      · have t2 : decide (most < x) = true := by simpa using hm
        rw [if_pos hm] at hc
        rw [hc]
        clear hc hm hk he hz hlz
        go_enter Try.func47, Try.ntmps47
        go_wp2_with (go_at_call 27; (with_reducible refine HN.out.mono ?_); rintro e1 w1 ⟨rfl, h1, hT⟩; have d0 := h1.c0; have d1 := h1.c1; have f0 := h1.f0; have f1 := h1.f1)
        go_ret
        exact ⟨rfl, (h1.setL l).setE 4, (hT.trans (Turn.set_ (H := (· = g)) (a := ⟨g, 0, none⟩) rfl _)).trans (Turn.set_ (H := (· = g)) (a := ⟨g, 1, none⟩) rfl _)⟩
      · have t2 : decide (most < x) = false := by simpa using hm
        rw [if_neg hm] at hc
        by_cases hs : z < x
        · have t3 : decide (z < x) = true := by simpa using hs
          rw [if_pos hs] at hc
          rw [hc]
          clear hc hm hk he hz hlz hs
          go_enter Try.func47, Try.ntmps47
          go_wp2_with (go_at_call 27; (with_reducible refine HN.out.mono ?_); rintro e1 w1 ⟨rfl, h1, hT⟩; have d0 := h1.c0; have d1 := h1.c1; have f0 := h1.f0; have f1 := h1.f1)
          go_ret
          exact ⟨rfl, (h1.setL l).setE 10, (hT.trans (Turn.set_ (H := (· = g)) (a := ⟨g, 0, none⟩) rfl _)).trans (Turn.set_ (H := (· = g)) (a := ⟨g, 1, none⟩) rfl _)⟩
        · have t3 : decide (z < x) = false := by simpa using hs
          have xi : IntKind.i64.wrap (x : Int) = x := IntWalk.i64_in _ (by omega)
          rw [if_neg hs] at hc
          rw [hc]
          clear hc hm hk he hz hlz hs
          go_enter Try.func47, Try.ntmps47
          go_wp2_with (go_at_call 27; (with_reducible refine HN.out.mono ?_); rintro e1 w1 ⟨rfl, h1, hT⟩; have d0 := h1.c0; have d1 := h1.c1; have f0 := h1.f0; have f1 := h1.f1)
          go_ret
          exact ⟨rfl, h1, hT⟩
    · have t1 : (k != 0) = true := by simpa using hk
      rw [if_pos hk] at HN hc
      rw [hc]
      have HN := Lib.hid HN
      clear hc hk he
      go_enter Try.func47, Try.ntmps47
      go_wp2_with (go_at_call 27; (with_reducible refine HN.out.mono ?_); rintro e1 w1 ⟨rfl, h1, hT⟩; have d0 := h1.c0; have d1 := h1.c1)
      go_ret
      exact ⟨rfl, h1, hT⟩
  · have t0 : (e != 0) = true := by simpa using he
    have hp : cnt3P g most l e w = fun x w' => x = .returned (.int .i64 0) ∧ RfAt w' g l e ∧ Turn (· = g) w w' := by
      unfold cnt3P cntS; rw [if_pos he]; rfl
    have hn3 : num3P g 18446744073709551615 l e w = fun x w' => x = .returned (.int .u64 0) ∧ RfAt w' g l e ∧ Turn (· = g) w w' := by
      unfold num3P numS; rw [if_neg he]; rfl
    rw [hn3] at HN
    rw [hp]
    have HN := Lib.hid HN
    clear hp he hn3
    go_enter Try.func47, Try.ntmps47
    go_wp2_with (go_at_call 27; (with_reducible refine HN.out.mono ?_); rintro e1 w1 ⟨rfl, h1, hT⟩; have d0 := h1.c0; have d1 := h1.c1)
    go_ret
    exact ⟨rfl, h1, hT⟩
def text3P (g most : Nat) (l : Bs) (e : Int) (w : World) (x : Ending) (w' : World) : Prop := x = .returned (.string (Bt (textS most l e).1)) ∧ RfAt w' g (textS most l e).2.1 (textS most l e).2.2 ∧ Turn (· = g) w w'
theorem textS_is (most : Nat) (l : Bs) (e : Int) : textS most l e = ((cntS most l e).2.1.take (cntS most l e).1, (cntS most l e).2.1.drop (cntS most l e).1, (cntS most l e).2.2) := by
  unfold textS cntS rdText
  by_cases he : e = 0
  · by_cases h1 : (readL l).2.2 = 0
    · by_cases h2 : most < (readL l).1
      · simp [he, h1, h2]
      · by_cases h3 : l.length - (readL l).2.1 < (readL l).1
        · simp [he, h1, h2, h3]
        · simp [he, h1, h2, h3, List.drop_drop]
    · simp [he, h1]
  · simp [he]
theorem cntS_le (most : Nat) (l : Bs) (e : Int) : (cntS most l e).1 ≤ (cntS most l e).2.1.length := by
  unfold cntS
  split
  · simp
  · split
    · simp
    · split
      · simp
      · split
        · simp
        · simp; omega
theorem cntS_len (most : Nat) (l : Bs) (e : Int) : (cntS most l e).2.1.length ≤ l.length := by
  unfold cntS
  split
  · simp
  · split
    · simp
    · split
      · simp
      · split
        · simp
        · simp
set_option maxRecDepth 100000 in
theorem text3_any {w : World} {g most : Nat} {l : Bs} {e : Int} (h : RfAt w g l e) (hl : l.length ≤ 1048576) (hmo : most ≤ 65536) : Calls Try.prog 28 #[.pointer (some ⟨g, 0, none⟩), .int .i64 most] w (text3P g most l e w) := by
  have HC := cnt3_any h hl hmo
  have hle := cntS_le most l e
  have hll := cntS_len most l e
  have hp : text3P g most l e w = fun x w' => x = .returned (.string (Bt ((cntS most l e).2.1.take (cntS most l e).1))) ∧ RfAt w' g ((cntS most l e).2.1.drop (cntS most l e).1) (cntS most l e).2.2 ∧ Turn (· = g) w w' := by
    unfold text3P; rw [textS_is]
  rw [hp]
  clear hp
  have hcp : cnt3P g most l e w = fun x w' => x = .returned (.int .i64 (cntS most l e).1) ∧ RfAt w' g (cntS most l e).2.1 (cntS most l e).2.2 ∧ Turn (· = g) w w' := rfl
  rw [hcp] at HC
  clear hcp
  generalize cntS most l e = r at *
  obtain ⟨n, l1, k⟩ := r
  replace hle : n ≤ l1.length := hle
  replace hll : l1.length ≤ l.length := hll
  have hz : ((Bt l1).size : Int) = (l1.length : Int) := rfl
  have hzn : (Bt l1).size = l1.length := rfl
  have n0 : (0 : Int) ≤ (n : Int) := by omega
  have n1 : (n : Int) ≤ ((Bt l1).size : Int) := by rw [hz]; omega
  have hsl := slice_str l1 n hle
  have hsl2 := slice_str2 l1 n hle
  have htk : (Bt l1).extract 0 n = Bt (l1.take n) := by rw [Bt_extract]; rfl
  have HC := Lib.hid HC
  go_enter Try.func28, Try.ntmps28
  go_wp2_with (go_at_call 47; (with_reducible refine HC.out.mono ?_); rintro e1 w1 ⟨rfl, h1, hT⟩; have d0 := h1.c0; have f0 := h1.f0)
  go_ret
  exact ⟨rfl, h1.setL _, hT.trans (Turn.set_ (H := (· = g)) (a := ⟨g, 0, none⟩) rfl _)⟩
