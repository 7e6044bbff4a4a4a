import Derived.Test.YtfelfhgfkfijgaaM1
import Derived.Shelf.Abstract
namespace Go.Proofs.Ytfelfhgfkfijgaa
open Go.RowKit Go.Nb
/-- May a pair not be there? -/
def badP (p : Pr) : Bool := p.k == [] || decide (1024 < p.k.length) || decide (8192 < p.v.length)
theorem e29 : Enters Try.prog 29 := enters_of Try.func29 (by kernel_rfl) rfl
set_option maxRecDepth 100000 in
theorem bad_any (p : Pr) (w : World) : Calls Try.prog 29 #[p.val] w fun e w' => e = .returned (.bool (badP p)) ∧ Ext w w' := by
  obtain ⟨k, v⟩ := p
  have hP : Pr.val ⟨k, v⟩ = .agg #[.string (Bt k), .string (Bt v)] := rfl
  have hB : badP ⟨k, v⟩ = (k == [] || decide (1024 < k.length) || decide (8192 < v.length)) := rfl
  rw [hP, hB]
  have hTB := toList_Bt
  have hk : ((Bt k).size : Int) = (k.length : Int) := rfl
  have hv : ((Bt v).size : Int) = (v.length : Int) := rfl
  have d2 : decide ((1024 : Int) < (k.length : Int)) = decide (1024 < k.length) := by rw [decide_eq_decide]; omega
  have d3 : decide ((8192 : Int) < (v.length : Int)) = decide (8192 < v.length) := by rw [decide_eq_decide]; omega
  clear hP hB
  generalize hb1 : (k == []) = b1 at *
  generalize decide (1024 < k.length) = b2 at *
  generalize decide (8192 < v.length) = b3 at *
  have hb2 : (k = []) ↔ b1 = true := by rw [← hb1]; simp
  cases b1
  · have hkn : ¬ k = [] := fun h => by have := hb2.1 h; cases this
    cases b2
    · cases b3
      all_goals
        go_enter Try.func29, Try.ntmps29
        go_wp2
        go_ret
        exact ⟨rfl, (Ext.refl w).alloc _⟩
    · go_enter Try.func29, Try.ntmps29
      go_wp2
      go_ret
      exact ⟨rfl, (Ext.refl w).alloc _⟩
  · have hkn : k = [] := hb2.2 rfl
    subst hkn
    go_enter Try.func29, Try.ntmps29
    go_wp2
    go_ret
    exact ⟨rfl, (Ext.refl w).alloc _⟩
/-- Where the first pair stands that may not be; -1: there is none. -/
def idxB : List Pr → Nat → Int
  | [], _ => -1
  | p :: l, i => if badP p then (i : Int) else idxB l (i + 1)
theorem idxB_any (l : List Pr) (i : Nat) : decide ((0 : Int) ≤ idxB l i) = l.any badP := by
  induction l generalizing i with
  | nil => simp [idxB]
  | cons p l ih =>
    simp only [idxB, List.any_cons]
    by_cases h : badP p = true
    · simp [h]
    · simp [h, ih]
set_option maxRecDepth 100000 in
theorem indexFunc_any {w : World} {A : Option Addr} {n c : Nat} {l : List Pr} (h : PRd w A n l) (hn : n ≤ 1048576) : Calls Try.prog 32 #[.slice A n c, .func (.func 29) #[] #[]] w fun e w' => e = .returned (.int .i64 (idxB l 0)) ∧ Ext w w' := by
  have hent2 : ∀ (args : Array Value) (w : World), (callFunc 29 args).run Try.prog w = .ok (.enter 29 args) w := e29
  have HL := Lib.hid h.1
  go_enter Try.func32, Try.ntmps32
  go_wp2
  go_loopw [8] (fun iv wr => ∃ k : Nat, k ≤ n ∧ iv = .int .i64 k ∧ Hid (idxB l 0 = idxB (l.drop k) k) ∧ Ext w wr) (fun iv _ => n - (intOf iv).toNat)
  case atStart => exact ⟨0, by omega, rfl, Lib.hid rfl, Ext.refl w⟩
  case round =>
    obtain ⟨k, hk, rfl, hs, hE⟩ := hrel
    by_cases hk2 : k < n
    · have kk : (k : Int) < (n : Int) := by omega
      have kk0 : (0 : Int) ≤ (k : Int) := by omega
      obtain ⟨g, o, rfl, c0, c1⟩ := (h.ext hE).at_ k hk2
      have hst : idxB (l.drop k) k = if badP (l.getD k default) then (k : Int) else idxB (l.drop (k + 1)) (k + 1) := by
        rw [drop_cons (by rw [HL.out]; exact hk2)]; rfl
      obtain ⟨p, hp⟩ : ∃ p, p = l.getD k default := ⟨_, rfl⟩
      rw [← hp] at c0 c1 hst
      have HB := Lib.hid (bad_any p)
      have hP : p.val = .agg #[.string (Bt p.k), .string (Bt p.v)] := rfl
      rw [hP] at HB
      cases hb : badP p
      · rw [hb] at HB hst
        have hs2 : idxB l 0 = idxB (l.drop (k + 1)) (k + 1) := by rw [hs.out, hst]; rfl
        have HS2 := Lib.hid hs2
        clear hs2 hst hb hp hP
        go_wp2_with (go_at_fn 29; refine (HB.out _).mono ?_; rintro e w2 ⟨rfl, hE2⟩)
        exact ⟨⟨k + 1, by omega, rfl, HS2, hE.trans hE2⟩, by simp [intOf]; omega⟩
      · rw [hb] at HB hst
        have hs2 : idxB l 0 = k := by rw [hs.out, hst]; rfl
        have HS2 := Lib.hid hs2
        clear hs2 hst hb hp hP
        go_wp2_with (go_at_fn 29; refine (HB.out _).mono ?_; rintro e w2 ⟨rfl, hE2⟩)
        go_ret
        exact ⟨by rw [HS2.out]; rfl, hE.trans hE2⟩
    · have kk : ¬ (k : Int) < (n : Int) := by omega
      have hs2 : idxB l 0 = -1 := by rw [hs.out, List.drop_of_length_le (by rw [HL.out]; omega)]; rfl
      have HS2 := Lib.hid hs2
      clear hs2
      go_wp2
      go_ret
      exact ⟨by rw [HS2.out]; rfl, hE⟩
theorem containsFunc_any {w : World} {A : Option Addr} {n c : Nat} {l : List Pr} (h : PRd w A n l) (hn : n ≤ 1048576) : Calls Try.prog 30 #[.slice A n c, .func (.func 29) #[] #[]] w fun e w' => e = .returned (.bool (l.any badP)) ∧ Ext w w' := by
  have HI := Lib.hid (indexFunc_any (c := c) h hn)
  have ht := idxB_any l 0
  generalize idxB l 0 = z at *
  generalize l.any badP = b at *
  go_enter Try.func30, Try.ntmps30
  go_wp2_with (go_at_call 32; (with_reducible refine HI.out.mono ?_); rintro e w2 ⟨rfl, hE2⟩)
  go_ret
  exact ⟨rfl, hE2⟩
/-- How many bytes pairs take. -/
def sizeP : List Pr → Nat
  | [] => 0
  | p :: l => p.k.length + p.v.length + 4 + sizeP l
theorem sizeP_append : ∀ a b, sizeP (a ++ b) = sizeP a + sizeP b
  | [], b => by simp [sizeP]
  | p :: a, b => by rw [List.cons_append, sizeP, sizeP, sizeP_append a b]; omega
theorem sizeP_drop {l : List Pr} {k : Nat} (h : k < l.length) : sizeP (l.drop k) = (l.getD k default).k.length + (l.getD k default).v.length + 4 + sizeP (l.drop (k + 1)) := by
  rw [drop_cons h, sizeP]
theorem sizeP_len : ∀ l, 4 * List.length l ≤ sizeP l
  | [] => by simp
  | p :: l => by have := sizeP_len l; simp only [List.length_cons, sizeP]; omega
set_option maxRecDepth 100000 in
theorem size_any {w : World} {A : Option Addr} {n c : Nat} {l : List Pr} (h : PRd w A n l) (hn : n ≤ 1048576) (hs : sizeP l ≤ 1099511627776) : Calls Try.prog 25 #[.slice A n c] w fun e w' => e = .returned (.int .i64 (sizeP l)) ∧ Ext w w' := by
  have HL := Lib.hid h.1
  have HS := Lib.hid hs
  clear hs
  go_enter Try.func25, Try.ntmps25
  go_wp2
  go_loopw [2, 7] (fun sv iv wr => ∃ k s : Nat, k ≤ n ∧ iv = .int .i64 k ∧ sv = .int .i64 s ∧ Hid (s + sizeP (l.drop k) = sizeP l) ∧ Ext w wr) (fun _ iv _ => n - (intOf iv).toNat)
  case atStart => exact ⟨0, 0, by omega, rfl, rfl, Lib.hid (by simp), Ext.refl w⟩
  case round =>
    obtain ⟨k, s, hk, rfl, rfl, hs, hE⟩ := hrel
    by_cases hk2 : k < n
    · have kk : (k : Int) < (n : Int) := by omega
      have kk0 : (0 : Int) ≤ (k : Int) := by omega
      obtain ⟨g, o, rfl, c0, c1⟩ := (h.ext hE).at_ k hk2
      have hst := sizeP_drop (l := l) (k := k) (by rw [HL.out]; exact hk2)
      have hs2 := hs.out
      have hs3 := HS.out
      obtain ⟨p, hp⟩ : ∃ p, p = l.getD k default := ⟨_, rfl⟩
      rw [← hp] at c0 c1 hst
      have z1 : ((Bt p.k).size : Int) = (p.k.length : Int) := rfl
      have z2 : ((Bt p.v).size : Int) = (p.v.length : Int) := rfl
      have b1 : (p.k.length : Int) ≤ 1099511627776 := by omega
      have b2 : (p.v.length : Int) ≤ 1099511627776 := by omega
      have b3 : (s : Int) ≤ 1099511627776 := by omega
      have b4 : (0 : Int) ≤ (s : Int) := by omega
      have HNX : Hid (s + (p.k.length + p.v.length + 4) + sizeP (l.drop (k + 1)) = sizeP l) := Lib.hid (by omega)
      clear hst hs2 hs3 hp
      go_wp2
      exact ⟨⟨k + 1, s + (p.k.length + p.v.length + 4), by omega, rfl, by first | rfl | (congr 1; simp only [Bt_size]; omega), HNX, by first | exact hE | exact hE.alloc _⟩, by simp [intOf]; omega⟩
    · have kk : ¬ (k : Int) < (n : Int) := by omega
      have hs2 : s = sizeP l := by
        have := hs.out
        rw [List.drop_of_length_le (by rw [HL.out]; omega)] at this
        simpa [sizeP] using this
      have HS2 := Lib.hid hs2
      clear hs2
      go_wp2
      go_ret
      exact ⟨by rw [← HS2.out]; rfl, hE⟩
