import Derived.Test.YtfelfhgfkfijgaaM8
import Derived.Deep.Onto
namespace Go.Proofs.Ytfelfhgfkfijgaa
open Go.RowKit Go.Nb
/-- A mem's block. -/
def mmC (mo : Int) (A : Option Addr) (n c : Nat) (i : Nat) : Value := if i = 0 then .int .i64 mo else if i = 1 then .bool true else .slice A n c
def MemAt (w : World) (g : Nat) (mo : Int) (A : Option Addr) (n c : Nat) : Prop := CellsT w 60 g 3 (mmC mo A n c)
section
variable {w w' : World} {g : Nat} {mo : Int} {A : Option Addr} {n c : Nat}
theorem MemAt.ext (h : MemAt w g mo A n c) (hE : Ext w w') : MemAt w' g mo A n c := CellsT.ext h hE
theorem MemAt.c0 (h : MemAt w g mo A n c) : w.cell? ⟨g, 0, none⟩ = some (.int .i64 mo) := CellsT.cell h 0 (by omega)
theorem MemAt.c1 (h : MemAt w g mo A n c) : w.cell? ⟨g, 1, none⟩ = some (.bool true) := CellsT.cell h 1 (by omega)
theorem MemAt.c2 (h : MemAt w g mo A n c) : w.cell? ⟨g, 2, none⟩ = some (.slice A n c) := CellsT.cell h 2 (by omega)
theorem MemAt.f2 (h : MemAt w g mo A n c) : w.frozen? ⟨g, 2, none⟩ = false := CellsT.frozen h 2 (by omega)
theorem MemAt.set_ (h : MemAt w g mo A n c) (B : Option Addr) (m d : Nat) : MemAt (w.setCell ⟨g, 2, none⟩ (.slice B m d)) g mo B m d := CellsT.set_ h 2 (.slice B m d) (fun j hj => by
  rcases (by omega : j = 0 ∨ j = 1 ∨ j = 2) with rfl | rfl | rfl <;> rfl)
end
/-- A row lies in a block of pairs. -/
def RowT (w : World) (A : Option Addr) : Prop := ∀ a, A = some a → ∃ cs fz, w.heap[a.block]? = some (.cells cs 30 fz)
theorem RowT.ext {w w' : World} {A : Option Addr} (h : RowT w A) (hE : Ext w w') : RowT w' A := fun a ha => by
  obtain ⟨cs, fz, hc⟩ := h a ha
  refine ⟨cs, fz, ?_⟩
  rw [hE.block a.block (by
    rcases Nat.lt_or_ge a.block w.heap.size with h1 | h1
    · exact h1
    · rw [Array.getElem?_eq_none h1] at hc; cases hc)]
  exact hc
theorem RowT.turn {w w' : World} {A : Option Addr} {H : Nat → Prop} (h : RowT w A) (hT : Turn H w w') (hH : ∀ a, A = some a → ¬ H a.block) : RowT w' A := fun a ha => by
  obtain ⟨cs, fz, hc⟩ := h a ha
  refine ⟨cs, fz, ?_⟩
  rw [hT.block a.block (by
    rcases Nat.lt_or_ge a.block w.heap.size with h1 | h1
    · exact h1
    · rw [Array.getElem?_eq_none h1] at hc; cases hc) (hH a ha)]
  exact hc
theorem RowT.ne {w : World} {A : Option Addr} {t : TypeId} {g n : Nat} {f : Nat → Value} (h : RowT w A) (hg : CellsT w t g n f) (hne : t ≠ 30) : ∀ a, A = some a → a.block ≠ g := fun a ha e => by
  obtain ⟨cs, fz, hc⟩ := h a ha
  obtain ⟨D, _, ⟨lo, hi, hb, _⟩, _⟩ := hg
  rw [e, hb] at hc
  injection hc with hc
  injection hc with _ h2
  exact hne h2
theorem own_rowT {w : World} {base n c : Nat} {A : Option Addr} {xs : List Value} (h : w.ownsRow base 30 2 (.slice A n c) n xs) : RowT w A := fun a ha => by
  rcases h.2 with ⟨h1, _⟩ | ⟨g, cap, cur, hv, _, hg, _⟩
  · injection h1 with h1; rw [h1] at ha; cases ha
  · injection hv with h1
    rw [h1] at ha; cases ha
    exact ⟨cur, _, hg⟩
/-- What 'with' answers. -/
def WithIs (mo : Int) (l q : List Pr) (w : World) (e : Ending) (w' : World) : Prop := (q.any badP = true ∧ e = .returned (.tuple #[.slice none 0 0, .int .i64 4]) ∧ Ext w w') ∨ (q.any badP = false ∧ mo < (sizeP (putsL l q) : Int) ∧ e = .returned (.tuple #[.slice none 0 0, .int .i64 6]) ∧ Ext w w') ∨ (q.any badP = false ∧ ¬ mo < (sizeP (putsL l q) : Int) ∧ ∃ A c, e = .returned (.tuple #[.slice A (putsL l q).length c, .int .i64 0]) ∧ PRd w' A (putsL l q).length (putsL l q) ∧ (A = none → c = 0) ∧ (putsL l q).length ≤ c ∧ (∀ a, A = some a → w.heap.size ≤ a.block) ∧ RowT w' A ∧ Ext w w')
theorem own_nil {w : World} {base n c : Nat} {A : Option Addr} {xs : List Value} (h : w.ownsRow base 30 2 (.slice A n c) n xs) : A = none → c = 0 := by
  rintro rfl
  rcases h.2 with ⟨h1, _⟩ | ⟨_, _, _, hv, _⟩
  · injection h1
  · cases hv
theorem sizeP_good : ∀ (q : List Pr), q.any badP = false → sizeP q ≤ 9220 * q.length
  | [], _ => Nat.le_refl _
  | p :: q, h => by
    simp only [List.any_cons, Bool.or_eq_false_iff] at h
    have ih := sizeP_good q h.2
    have hb := h.1
    unfold badP at hb
    simp only [Bool.or_eq_false_iff, decide_eq_false_iff_not] at hb
    rw [sizeP, List.length_cons]
    omega
theorem prCs_set {r : List Pr} {m s : Nat} (hl : r.length = m) (hs : s < m) (p : Pr) : ((prCs r m).set (s * 2) (.string (Bt p.k))).set (s * 2 + 1) (.string (Bt p.v)) = prCs (r.set s p) m := by
  have hg : ∀ i, (r.set s p).getD i default = if s = i then p else r.getD i default := fun i => by
    rw [List.getD_eq_getElem?_getD, List.getElem?_set]
    split
    · next e => subst e; rw [if_pos (by omega)]; rfl
    · rw [List.getD_eq_getElem?_getD]
  have hL1 : (prCs r m).length = m * 2 := prCs_len r m
  have hL2 : (prCs (r.set s p) m).length = m * 2 := prCs_len _ m
  apply List.ext_getElem?
  intro j
  rcases Nat.lt_or_ge j (m * 2) with hj | hj
  · rw [prCs_at _ _ _ hj]
    rcases (by omega : j = s * 2 + 1 ∨ j = s * 2 ∨ s ≠ j / 2) with rfl | rfl | hne
    · have e1 : (s * 2 + 1) / 2 = s := by omega
      have e2 : (s * 2 + 1) % 2 = 1 := by omega
      rw [List.getElem?_set_self (by rw [List.length_set, hL1]; omega), e1, e2]
      unfold prF
      rw [hg, if_pos rfl, if_neg (by omega)]
    · have e1 : (s * 2) / 2 = s := by omega
      have e2 : (s * 2) % 2 = 0 := by omega
      rw [List.getElem?_set_ne (by omega), List.getElem?_set_self (by rw [hL1]; omega), e1, e2]
      unfold prF
      rw [hg, if_pos rfl, if_pos rfl]
    · rw [List.getElem?_set_ne (by omega), List.getElem?_set_ne (by omega), prCs_at _ _ _ hj]
      unfold prF
      rw [hg, if_neg hne]
  · rw [List.getElem?_eq_none (by rw [List.length_set, List.length_set, hL1]; exact hj), List.getElem?_eq_none (by rw [hL2]; exact hj)]
set_option maxHeartbeats 2000000 in
set_option maxRecDepth 100000 in
theorem with_any {w : World} {g : Nat} {mo : Int} {A B : Option Addr} {n c k cb : Nat} {l q : List Pr} (hm : MemAt w g mo A n c) (h : PRd w A n l) (hA : A = none → c = 0) (hu : upB l = true) (hn : n ≤ 40000) (hsz : sizeP l ≤ 68719476736) (hq : PRd w B k q) (hk : k ≤ 40000) :
    Calls Try.prog 23 #[.pointer (some ⟨g, 0, none⟩), .slice B k cb] w (WithIs mo l q w) := by
  have HL := Lib.hid h.1
  have HQ := Lib.hid hq.1
  have m0 := hm.c0
  have m1 := hm.c1
  have m2 := hm.c2
  have hent2 : ∀ (args : Array Value) (w : World), (callFunc 29 args).run Try.prog w = .ok (.enter 29 args) w := e29
  have HC := containsFunc_any (c := cb) hq (by omega)
  cases hb : q.any badP
  case true =>
    rw [hb] at HC
    have HC := Lib.hid HC
    have HB := Lib.hid hb
    clear hb
    go_enter Try.func23, Try.ntmps23
    go_wp2_with (go_at_call 30; (with_reducible refine HC.out.mono ?_); rintro e w1 ⟨rfl, hE1⟩)
    go_ret2
    exact .inl ⟨HB.out, rfl, hE1⟩
  case false =>
    rw [hb] at HC
    have HC := Lib.hid HC
    have HB := Lib.hid hb
    have HCL : Hid (∀ w', Ext w w' → Calls Try.prog 24 #[.slice A n c] w' fun e w2 => ∃ A' c', e = .returned (.slice A' n c') ∧ w2.ownsRow w'.heap.size 30 2 (.slice A' n c') n (prCs l n) ∧ Ext w' w2) := Lib.hid (fun w' hE => clone_any (h.ext hE) (by omega) hA)
    have HSQ := Lib.hid (sizeP_good q hb)
    have HU := Lib.hid hu
    have HSL := Lib.hid hsz
    have HM := Lib.hid hm
    clear hb hu hsz hA
    go_enter Try.func23, Try.ntmps23
    go_wp2_with (first
      | (go_at_call 30; (with_reducible refine HC.out.mono ?_); rintro e w1 ⟨rfl, hE1⟩; have m2b := (HM.out.ext hE1).c2)
      | (go_at_call 24; (with_reducible refine (HCL.out _ hE1).mono ?_); rintro e w2 ⟨A2, c2, rfl, hO2, hE2⟩))
    have HO2 := Lib.hid (World.ownsRow.mono hO2 hE1.sz)
    clear hO2
    go_loopw [7, 32] (fun av iv wr => ∃ (j m : Nat) (r : List Pr) (A1 : Option Addr) (c1 : Nat), j ≤ k ∧ iv = .int .i64 j ∧ av = .slice A1 m c1 ∧ m ≤ n + j ∧ Hid (r.length = m) ∧ Hid (putsL r (q.drop j) = putsL l q) ∧ Hid (upB r = true) ∧ wr.ownsRow w.heap.size 30 2 (.slice A1 m c1) m (prCs r m) ∧ Ext w wr) (fun _ iv _ => k - (intOf iv).toNat)
    case atStart => exact ⟨0, n, l, A2, c2, by omega, rfl, rfl, by omega, HL, Lib.hid rfl, HU, HO2.out, hE1.trans hE2⟩
    case round =>
      clear m0 m1 m2 m2b hE1 hE2 HO2
      obtain ⟨j, m, r, A1, c1, hj, rfl, rfl, hmn, hrl, hps, hru, hown, hE⟩ := hrel
      by_cases hj2 : j < k
      · have kk : (j : Int) < (k : Int) := by omega
        have kk0 : (0 : Int) ≤ (j : Int) := by omega
        obtain ⟨gq, oq, rfl, c0, c1'⟩ := (hq.ext hE).at_ j hj2
        have hd : putsL r (q.drop j) = putsL (putL r (q.getD j default)) (q.drop (j + 1)) := by rw [drop_cons (by rw [HQ.out]; exact hj2)]; rfl
        obtain ⟨p, hp⟩ : ∃ p, p = q.getD j default := ⟨_, rfl⟩
        rw [← hp] at c0 c1' hd
        have hnx : putsL (putL r p) (q.drop (j + 1)) = putsL l q := hd.symm.trans hps.out
        have HNX := Lib.hid hnx
        have HUP := Lib.hid (putL_up hru.out p)
        have hXb := (Ext.refl wr).alloc (.cells #[.string (Bt p.k), .string (Bt p.v)] 30)
        have HPB := Lib.hid (PBox.new wr (Bt p.k) (Bt p.v))
        have HOX := Lib.hid (hown.ext hXb)
        have hle := seekL_le p.k r
        rw [hrl.out] at hle
        have HSK : Hid (∀ w', Ext (wr.alloc (.cells #[.string (Bt p.k), .string (Bt p.v)] 30)) w' → Calls Try.prog 27 #[.slice A1 m c1, .string (Bt p.k)] w' fun e w2 => e = .returned (.int .i64 (seekL p.k r)) ∧ Ext w' w2) := Lib.hid (fun w' hE' => seek_any ((World.ownsRow.prd hrl.out HOX.out).ext hE') (by omega) hru.out p.k)
        have hput : putL r p = if seekL p.k r < m ∧ (r.getD (seekL p.k r) default).k = p.k then r.set (seekL p.k r) p else r.take (seekL p.k r) ++ p :: r.drop (seekL p.k r) := by unfold putL; rw [hrl.out]
        obtain ⟨s, hs⟩ : ∃ s, s = seekL p.k r := ⟨_, rfl⟩
        rw [← hs] at HSK hput hle
        have s0 : (0 : Int) ≤ (s : Int) := by omega
        have HXB := Lib.hid hXb
        clear hd hp hnx hs hXb
        by_cases hlt : s < m
        · have kk1 : (s : Int) < (m : Int) := by omega
          have tk : decide ((s : Int) < (m : Int)) = true := by simp; omega
          obtain ⟨g1, o1, rfl, b0, b1⟩ := (World.ownsRow.prd hrl.out HOX.out).at_ s hlt
          obtain rfl : o1 = 0 := by
            rcases HOX.out.2 with ⟨h1, _⟩ | ⟨g', cap, cur, hv, _⟩
            · cases h1
            · injection hv with h1; injection h1 with h1; injection h1 with h1 h2 h3
          obtain ⟨x, hx⟩ : ∃ x, x = r.getD s default := ⟨_, rfl⟩
          rw [← hx, Nat.zero_add] at b0 b1
          rw [← hx] at hput
          have hTB := toList_Bt
          by_cases heq : x.k = p.k
          · have te : (x.k == p.k) = true := by simp [heq]
            have hput2 : putL r p = r.set s p := by rw [hput, if_pos ⟨hlt, heq⟩]
            have HPUT := Lib.hid hput2
            have HXX := Lib.hid hx
            clear hput hput2 heq hx
            go_wp2_with (go_at_call 27; (with_reducible refine (HSK.out _ (Ext.refl _)).mono ?_); rintro e w3 ⟨rfl, hE3⟩; have d0 := (HPB.out.ext hE3).c0; have d1 := (HPB.out.ext hE3).c1; have e0 := hE3.cellv b0; have e1 := hE3.cellv b1)
            have HO3 := Lib.hid (HOX.out.ext hE3)
            have f0 := HO3.out.frozenAt (s * 2)
            have f1 := HO3.out.frozenAt (s * 2 + 1)
            go_quiet (fail)
            go_wp2
            have hO4 := ((show (w3.drewN nq).ownsRow w.heap.size 30 2 (.slice (some ⟨g1, 0, none⟩) m c1) m (prCs r m) from HO3.out).stored (s * 2) (.string (Bt p.k))).1
            have hO5 := (hO4.stored (s * 2 + 1) (.string (Bt p.v))).1
            rw [prCs_set hrl.out hlt] at hO5
            have hg1 : w.heap.size ≤ g1 := (HO3.out.lt g1 rfl).1
            exact ⟨⟨j + 1, m, r.set s p, some ⟨g1, 0, none⟩, c1, by omega, rfl, rfl, by omega, Lib.hid (by rw [List.length_set]; exact hrl.out), Lib.hid (by rw [← HPUT.out]; exact HNX.out), Lib.hid (by rw [← HPUT.out]; exact HUP.out), hO5, ((((hE.trans HXB.out).trans hE3).drewN nq).setCell (p := ⟨g1, s * 2, none⟩) hg1 _).setCell (p := ⟨g1, s * 2 + 1, none⟩) hg1 _⟩, by simp [intOf]; omega⟩
          · have te : (x.k == p.k) = false := by simpa using heq
            have hput2 : putL r p = r.take s ++ p :: r.drop s := by rw [hput, if_neg (fun h => heq h.2)]
            have HPUT := Lib.hid hput2
            have HXX := Lib.hid hx
            clear hput hput2 heq hx
            go_wp2_with (go_at_call 27; (with_reducible refine (HSK.out _ (Ext.refl _)).mono ?_); rintro e w3 ⟨rfl, hE3⟩; have d0 := (HPB.out.ext hE3).c0; have d1 := (HPB.out.ext hE3).c1; have e0 := hE3.cellv b0; have e1 := hE3.cellv b1)
            have HO3 := Lib.hid (HOX.out.ext hE3)
            go_quiet (fail)
            obtain ⟨w4, hw4⟩ : ∃ w4, w4 = w3.drewN nq := ⟨_, rfl⟩
            have HO4 : Hid (w4.ownsRow w.heap.size 30 2 (.slice (some ⟨g1, 0, none⟩) m c1) m (prCs r m)) := Lib.hid (by rw [hw4]; exact HO3.out)
            have hE4 : Ext w3 w4 := by rw [hw4]; exact (Ext.refl w3).drewN nq
            rw [← hw4]
            have d0b := hE4.cellv d0
            have d1b := hE4.cellv d1
            have hsz := ((hE.trans HXB.out).trans hE3).trans hE4
            have HSZ := Lib.hid hsz.sz
            have HIN := Lib.hid (insert_any p hrl.out HO4.out (i := s) (by omega) (by omega) HSZ.out)
            clear hw4 d0 d1 e0 e1 b0 b1
            go_wp2_with (go_at_call 31; (with_reducible refine HIN.out.mono ?_); rintro e w5 ⟨A5, c5, rfl, hO5, hF5⟩)
            exact ⟨⟨j + 1, m + 1, r.take s ++ p :: r.drop s, A5, c5, by omega, rfl, rfl, by omega, Lib.hid (by have := hrl.out; simp only [List.length_append, List.length_take, List.length_cons, List.length_drop]; omega), Lib.hid (by rw [← HPUT.out]; exact HNX.out), Lib.hid (by rw [← HPUT.out]; exact HUP.out), hO5, hF5 w hsz (Nat.le_refl _)⟩, by simp [intOf]; omega⟩
        · obtain rfl : s = m := by omega
          have tk : decide ((s : Int) < (s : Int)) = false := by simp
          have kk1 : ¬ (s : Int) < (s : Int) := by omega
          have hput2 : putL r p = r.take s ++ p :: r.drop s := by rw [hput, if_neg (fun h => hlt h.1)]
          have HPUT := Lib.hid hput2
          clear hput hput2
          go_wp2_with (go_at_call 27; (with_reducible refine (HSK.out _ (Ext.refl _)).mono ?_); rintro e w3 ⟨rfl, hE3⟩; have d0 := (HPB.out.ext hE3).c0; have d1 := (HPB.out.ext hE3).c1)
          have HO3 := Lib.hid (HOX.out.ext hE3)
          go_quiet (fail)
          obtain ⟨w4, hw4⟩ : ∃ w4, w4 = w3.drewN nq := ⟨_, rfl⟩
          have HO4 : Hid (w4.ownsRow w.heap.size 30 2 (.slice A1 s c1) s (prCs r s)) := Lib.hid (by rw [hw4]; exact HO3.out)
          have hE4 : Ext w3 w4 := by rw [hw4]; exact (Ext.refl w3).drewN nq
          rw [← hw4]
          have d0b := hE4.cellv d0
          have d1b := hE4.cellv d1
          have hsz := ((hE.trans HXB.out).trans hE3).trans hE4
          have HSZ := Lib.hid hsz.sz
          have HIN := Lib.hid (insert_any p hrl.out HO4.out (i := s) (by omega) (by omega) HSZ.out)
          clear hw4 d0 d1
          go_wp2_with (go_at_call 31; (with_reducible refine HIN.out.mono ?_); rintro e w5 ⟨A5, c5, rfl, hO5, hF5⟩)
          exact ⟨⟨j + 1, s + 1, r.take s ++ p :: r.drop s, A5, c5, by omega, rfl, rfl, by omega, Lib.hid (by have := hrl.out; simp only [List.length_append, List.length_take, List.length_cons, List.length_drop]; omega), Lib.hid (by rw [← HPUT.out]; exact HNX.out), Lib.hid (by rw [← HPUT.out]; exact HUP.out), hO5, hF5 w hsz (Nat.le_refl _)⟩, by simp [intOf]; omega⟩
      · obtain rfl : j = k := by omega
        have kk : ¬ (j : Int) < (j : Int) := by omega
        have hr : r = putsL l q := by
          have := hps.out
          rw [List.drop_of_length_le (by rw [HQ.out]; omega)] at this
          exact this
        have hsp : sizeP r ≤ 1099511627776 := by
          have h1 := putsL_size q l
          have h2 := HSQ.out
          have h3 := HSL.out
          have h4 := HQ.out
          rw [hr]; omega
        have hP := World.ownsRow.prd hrl.out hown
        have HSZ := Lib.hid (fun w' (hE' : Ext wr w') => size_any (c := c1) (hP.ext hE') (by omega) hsp)
        have m0 := (hm.ext hE).c0
        have HR := Lib.hid hr
        have HP := Lib.hid hP
        have HOW := Lib.hid hown
        obtain ⟨z, hz⟩ : ∃ z, z = sizeP r := ⟨_, rfl⟩
        rw [← hz] at HSZ
        have HZ := Lib.hid hz
        clear hr hsp hP hz hown
        by_cases hbig : mo < (z : Int)
        · have tb : decide (mo < (z : Int)) = true := by simpa using hbig
          have hbig2 : mo < (sizeP (putsL l q) : Int) := by rw [← HR.out, ← HZ.out]; exact hbig
          have HBIG := Lib.hid hbig2
          clear hbig hbig2
          go_wp2
          go_region_held3 (fun w' => w'.cell? ⟨g, 0, none⟩ = some (.int .i64 mo) ∧ Ext wr w')
            (first | exact ⟨m0, (Ext.refl _).drew⟩ | exact ⟨hE5.cellv m0, (Ext.refl _).drew.trans hE5⟩ | go_keep)
            (first | (go_at_call 25; (with_reducible refine (HSZ.out _ (Ext.refl _).drew).mono ?_); rintro e w5 ⟨rfl, hE5⟩))
          go_wp2
          go_ret2
          exact .inr (.inl ⟨HB.out, HBIG.out, rfl, hE.trans ((Ext.refl _).drew.trans hE5)⟩)
        · have tb : decide (mo < (z : Int)) = false := by simpa using hbig
          have hbig2 : ¬ mo < (sizeP (putsL l q) : Int) := by rw [← HR.out, ← HZ.out]; exact hbig
          have HBIG := Lib.hid hbig2
          clear hbig hbig2
          go_wp2
          go_region_held3 (fun w' => w'.cell? ⟨g, 0, none⟩ = some (.int .i64 mo) ∧ Ext wr w')
            (first | exact ⟨m0, (Ext.refl _).drew⟩ | exact ⟨hE5.cellv m0, (Ext.refl _).drew.trans hE5⟩ | go_keep)
            (first | (go_at_call 25; (with_reducible refine (HSZ.out _ (Ext.refl _).drew).mono ?_); rintro e w5 ⟨rfl, hE5⟩))
          go_wp2
          go_ret2
          have hP2 := (HP.out.ext ((Ext.refl _).drew.trans hE5))
          refine .inr (.inr ⟨HB.out, by have := HBIG.out; omega, A1, c1, ?_, ?_, own_nil HOW.out, ?_, fun a ha => (HOW.out.lt a.block (by rw [ha]; rfl)).1, (own_rowT HOW.out).ext ((Ext.refl _).drew.trans hE5), hE.trans ((Ext.refl _).drew.trans hE5)⟩)
          · rw [← HR.out, hrl.out]; rfl
          · rw [← HR.out, hrl.out]; exact hP2
          · rw [← HR.out, hrl.out]; exact World.ownsRow.cap_ HOW.out
