import Derived.Test.YtfelfhgfkfijgaaM10
namespace Go.Proofs.Ytfelfhgfkfijgaa
open Go.RowKit Go.Nb
/-- What Get answers. -/
def hasL (l : List Pr) (key : Bs) : Bool := decide (seekL key l < l.length) && ((l.getD (seekL key l) default).k == key)
theorem fits_any {w : World} {g : Nat} {mo : Int} {B : Option Addr} {k cb : Nat} {l q : List Pr} (hm : MemIs w g mo l) (hu : upB l = true) (hn : l.length ≤ 40000) (hsz : sizeP l ≤ 68719476736) (hq : PRd w B k q) (hk : k ≤ 40000) :
    Calls Try.prog 15 #[.pointer (some ⟨g, 0, none⟩), .slice B k cb] w fun e w' => e = .returned (.bool (putE mo l q == 0)) ∧ Ext w w' := by
  have HW := with_all (cb := cb) hm hu hn hsz hq hk
  by_cases hp : putE mo l q = 0
  · have HW2 : Hid (Calls Try.prog 23 #[.pointer (some ⟨g, 0, none⟩), .slice B k cb] w fun e w' => ∃ A c, e = .returned (.tuple #[.slice A (putsL l q).length c, .int .i64 0]) ∧ Ext w w') := Lib.hid (HW.mono (by
      rintro e w' (⟨a, _⟩ | ⟨_, A, c, b, _, _, _, _, _, f⟩)
      · exact absurd hp a
      · exact ⟨A, c, b, f⟩))
    rw [hp]
    obtain ⟨z, hz⟩ : ∃ z, z = (putsL l q).length := ⟨_, rfl⟩
    rw [← hz] at HW2
    clear HW hp hz hm
    go_enter Try.func15, Try.ntmps15
    go_wp2_with (go_at_call 23; (with_reducible refine HW2.out.mono ?_); rintro e w1 ⟨A1, c1, rfl, hE1⟩)
    go_ret
    exact ⟨rfl, hE1⟩
  · have HW2 : Hid (Calls Try.prog 23 #[.pointer (some ⟨g, 0, none⟩), .slice B k cb] w fun e w' => e = .returned (.tuple #[.slice none 0 0, .int .i64 (putE mo l q)]) ∧ Ext w w') := Lib.hid (HW.mono (by
      rintro e w' (⟨_, b⟩ | ⟨a, _⟩)
      · exact b
      · exact absurd a hp))
    obtain ⟨z, hz⟩ : ∃ z, z = putE mo l q := ⟨_, rfl⟩
    rw [← hz] at HW2 hp ⊢
    have te : (z == 0) = false := by simpa using hp
    clear HW hp hz hm
    go_enter Try.func15, Try.ntmps15
    go_wp2_with (go_at_call 23; (with_reducible refine HW2.out.mono ?_); rintro e w1 ⟨rfl, hE1⟩)
    go_ret
    exact ⟨by simp [te], hE1⟩
set_option maxRecDepth 100000 in
theorem get_any {w : World} {g : Nat} {mo : Int} {l : List Pr} (hm : MemIs w g mo l) (hu : upB l = true) (hn : l.length ≤ 1048576) (key : Bs) :
    Calls Try.prog 17 #[.pointer (some ⟨g, 0, none⟩), .string (Bt key)] w fun e w' => e = .returned (.tuple #[.string (Bt (if hasL l key = true then (l.getD (seekL key l) default).v else [])), .bool (hasL l key)]) ∧ Ext w w' := by
  obtain ⟨A, c, hma, hP, hN, hC, _⟩ := hm
  have m2 := hma.c2
  have HSK := Lib.hid (seek_any (c := c) hP hn hu key)
  have hle := seekL_le key l
  have hTB := toList_Bt
  have hdef : hasL l key = (decide (seekL key l < l.length) && ((l.getD (seekL key l) default).k == key)) := rfl
  have HAT := fun h => hP.at_ (seekL key l) h
  obtain ⟨n, hnn⟩ : ∃ n, n = l.length := ⟨_, rfl⟩
  rw [← hnn] at m2 HSK hle hdef HAT
  obtain ⟨s, hs⟩ : ∃ s, s = seekL key l := ⟨_, rfl⟩
  rw [← hs] at HSK hle hdef HAT ⊢
  have s0 : (0 : Int) ≤ (s : Int) := by omega
  by_cases hlt : s < n
  · have kk : (s : Int) < (n : Int) := by omega
    have tq : ((s : Int) == (n : Int)) = false := by simp; omega
    have tq2 : (s == n) = false := by simp; omega
    obtain ⟨g1, o1, rfl, b0, b1⟩ := HAT hlt
    obtain ⟨x, hx⟩ : ∃ x, x = l.getD s default := ⟨_, rfl⟩
    rw [← hx] at b0 b1 hdef ⊢
    cases hk : x.k == key
    · have hb : hasL l key = false := by rw [hdef, hk, Bool.and_false]
      rw [hb]
      have hne : ¬ x.k = key := by simpa using hk
      have HMA := Lib.hid hma
      clear hdef hb hN hC HAT hs hx hnn hP hma
      simp only [Bool.false_eq_true, if_false]
      go_enter Try.func17, Try.ntmps17
      go_wp2_with (go_at_call 27; (with_reducible refine HSK.out.mono ?_); rintro e w1 ⟨rfl, hE1⟩; have m2b := hE1.cellv m2; have d0 := hE1.cellv b0; have d1 := hE1.cellv b1)
      go_ret2
      exact ⟨rfl, hE1⟩
    · have hb : hasL l key = true := by rw [hdef, hk]; simp [hlt]
      rw [hb]
      have hne : x.k = key := by simpa using hk
      have HMA := Lib.hid hma
      have HNE := Lib.hid hne
      clear hdef hb hN hC HAT hs hx hnn hP hma hne
      simp only [if_true]
      go_enter Try.func17, Try.ntmps17
      go_wp2_with (go_at_call 27; (with_reducible refine HSK.out.mono ?_); rintro e w1 ⟨rfl, hE1⟩; have m2b := hE1.cellv m2; have d0 := hE1.cellv b0; have d1 := hE1.cellv b1)
      go_ret2
      exact ⟨rfl, hE1⟩
  · obtain rfl : s = n := by omega
    have tq : ((s : Int) == (s : Int)) = true := by simp
    have hb : hasL l key = false := by rw [hdef]; simp
    rw [hb]
    clear hdef hb hN hC HAT hs hnn hP hma
    simp only [Bool.false_eq_true, if_false]
    go_enter Try.func17, Try.ntmps17
    go_wp2_with (go_at_call 27; (with_reducible refine HSK.out.mono ?_); rintro e w1 ⟨rfl, hE1⟩; have m2b := hE1.cellv m2)
    go_ret2
    exact ⟨rfl, hE1⟩
theorem all_any {w : World} {g : Nat} {mo : Int} {l : List Pr} (hm : MemIs w g mo l) (hn : l.length ≤ 1048576) :
    Calls Try.prog 12 #[.pointer (some ⟨g, 0, none⟩)] w fun e w' => ∃ A c, e = .returned (.slice A l.length c) ∧ PRd w' A l.length l ∧ Ext w w' := by
  obtain ⟨A, c, hma, hP, hN, hC, _⟩ := hm
  have m2 := hma.c2
  have HCL := Lib.hid (clone_any hP hn hN)
  obtain ⟨n, hnn⟩ : ∃ n, n = l.length := ⟨_, rfl⟩
  rw [← hnn] at m2 HCL
  have HNN := Lib.hid hnn
  clear hnn hma hP hN hC
  go_enter Try.func12, Try.ntmps12
  go_wp2_with (go_at_call 24; (with_reducible refine HCL.out.mono ?_); rintro e w1 ⟨A1, c1, rfl, hO1, hE1⟩)
  go_ret
  refine ⟨A1, c1, by rw [← HNN.out]; rfl, ?_, hE1⟩
  have := World.ownsRow.prd HNN.out.symm hO1
  rw [← HNN.out]; exact this
theorem msize_any {w : World} {g : Nat} {mo : Int} {l : List Pr} (hm : MemIs w g mo l) (hn : l.length ≤ 1048576) (hs : sizeP l ≤ 1099511627776) :
    Calls Try.prog 13 #[.pointer (some ⟨g, 0, none⟩)] w fun e w' => e = .returned (.int .i64 (sizeP l)) ∧ Ext w w' := by
  obtain ⟨A, c, hma, hP, hN, hC, _⟩ := hm
  have m2 := hma.c2
  have HCL := Lib.hid (size_any (c := c) hP hn hs)
  obtain ⟨n, hnn⟩ : ∃ n, n = l.length := ⟨_, rfl⟩
  rw [← hnn] at m2 HCL
  clear hnn hma hP hN hC
  go_enter Try.func13, Try.ntmps13
  go_wp2_with (go_at_call 25; (with_reducible refine HCL.out.mono ?_); rintro e w1 ⟨rfl, hE1⟩)
  go_ret
  exact ⟨rfl, hE1⟩
theorem clear_any {w : World} {g : Nat} {mo : Int} {l : List Pr} (hm : MemIs w g mo l) :
    Calls Try.prog 21 #[.pointer (some ⟨g, 0, none⟩)] w fun e w' => e = .returned (.tuple #[]) ∧ MemIs w' g mo [] ∧ Turn (· = g) w w' := by
  obtain ⟨A, c, hma, hP, hN, hC, _⟩ := hm
  have m2 := hma.c2
  have f2 := hma.f2
  have HMA := Lib.hid hma
  clear hma hP hN hC
  go_enter Try.func21, Try.ntmps21
  go_wp2
  go_end0
  exact ⟨rfl, ⟨none, 0, HMA.out.set_ none 0 0, prd_nil _, fun _ => rfl, Nat.le_refl _, fun a ha => by cases ha⟩, Turn.set_ (H := (· = g)) (a := ⟨g, 2, none⟩) rfl _⟩
theorem with_nil (B : Option Addr) (k cb : Nat) (w : World) : Calls Try.prog 23 #[.pointer none, .slice B k cb] w fun e w' => e = .returned (.tuple #[.slice none 0 0, .int .i64 1]) ∧ Ext w w' := by
  go_enter Try.func23, Try.ntmps23
  go_wp2
  go_ret2
  exact ⟨rfl, Ext.refl w⟩
theorem put_nil (B : Option Addr) (k cb : Nat) (w : World) : Calls Try.prog 10 #[.pointer none, .slice B k cb] w fun e w' => e = .returned (.int .i64 1) ∧ Ext w w' := by
  have HW := Lib.hid (with_nil B k cb w)
  go_enter Try.func10, Try.ntmps10
  go_wp2_with (go_at_call 23; (with_reducible refine HW.out.mono ?_); rintro e w1 ⟨rfl, hE1⟩)
  go_ret
  exact ⟨rfl, hE1⟩
theorem fits_nil (B : Option Addr) (k cb : Nat) (w : World) : Calls Try.prog 15 #[.pointer none, .slice B k cb] w fun e w' => e = .returned (.bool false) ∧ Ext w w' := by
  have HW := Lib.hid (with_nil B k cb w)
  go_enter Try.func15, Try.ntmps15
  go_wp2_with (go_at_call 23; (with_reducible refine HW.out.mono ?_); rintro e w1 ⟨rfl, hE1⟩)
  go_ret
  exact ⟨rfl, hE1⟩
theorem get_nil (key : ByteArray) (w : World) : Calls Try.prog 17 #[.pointer none, .string key] w fun e w' => e = .returned (.tuple #[.string ⟨#[]⟩, .bool false]) ∧ Ext w w' := by
  go_enter Try.func17, Try.ntmps17
  go_wp2
  go_ret2
  exact ⟨rfl, Ext.refl w⟩
theorem all_nil (w : World) : Calls Try.prog 12 #[.pointer none] w fun e w' => e = .returned (.slice none 0 0) ∧ Ext w w' := by
  go_enter Try.func12, Try.ntmps12
  go_wp2
  go_ret
  exact ⟨rfl, Ext.refl w⟩
theorem msize_nil (w : World) : Calls Try.prog 13 #[.pointer none] w fun e w' => e = .returned (.int .i64 0) ∧ Ext w w' := by
  go_enter Try.func13, Try.ntmps13
  go_wp2
  go_ret
  exact ⟨rfl, Ext.refl w⟩
theorem clear_nil (w : World) : Calls Try.prog 21 #[.pointer none] w fun e w' => e = .returned (.tuple #[]) ∧ Ext w w' := by
  go_enter Try.func21, Try.ntmps21
  go_wp2
  go_end0
  exact ⟨rfl, Ext.refl w⟩
