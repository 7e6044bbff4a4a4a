import Derived.Test.YtbpicdjpgbboiaaW13
namespace Go.Proofs.Ytbpicdjpgbboiaa
open Go.RowKit Go.Nb
def prF (l : List Pr) (i j : Nat) : Value := .string (Bt (if j = 0 then (l.getD i default).k else (l.getD i default).v))
/-- Pairs that lie in a slice. -/
def PRd (w : World) (A : Option Addr) (n : Nat) (l : List Pr) : Prop := l.length = n ∧ FRd w A n 2 (prF l)
theorem PRd.ext {w w' : World} {A : Option Addr} {n : Nat} {l : List Pr} (h : PRd w A n l) (e : Ext w w') : PRd w' A n l := ⟨h.1, h.2.ext e⟩
theorem PRd.at_ {w : World} {A : Option Addr} {n : Nat} {l : List Pr} (h : PRd w A n l) (k : Nat) (hk : k < n) : ∃ g o, A = some ⟨g, o, none⟩ ∧ w.cell? ⟨g, o + k * 2, none⟩ = some (.string (Bt (l.getD k default).k)) ∧ w.cell? ⟨g, o + k * 2 + 1, none⟩ = some (.string (Bt (l.getD k default).v)) := by
  obtain ⟨g, o, hA, hc⟩ := h.2.at_ (by omega) (by omega)
  refine ⟨g, o, hA, ?_, ?_⟩
  · have := hc k 0 hk (by omega)
    simpa [prF] using this
  · have := hc k 1 hk (by omega)
    simpa [prF] using this
theorem toList_Bt (a : Bs) : (Bt a).toList = a := by rw [toList_Ls]; rfl
/-- A pair that may not be. -/
def badP (p : Pr) : Bool := decide (p.k.length < 1) || decide (1024 < p.k.length) || decide (8192 < p.v.length)
theorem e30 : Enters Try.prog 30 := enters_of Try.func30 (by kernel_rfl) rfl
set_option maxRecDepth 100000 in
theorem bad_any (p : Pr) (w : World) : Calls Try.prog 30 #[p.val] w fun e w' => e = .returned (.bool (badP p)) ∧ Ext w w' := by
  obtain ⟨k, v⟩ := p
  have hP : Pr.val ⟨k, v⟩ = .agg #[.string (Bt k), .string (Bt v)] := rfl
  have hB : badP ⟨k, v⟩ = (decide (k.length < 1) || decide (1024 < k.length) || decide (8192 < v.length)) := rfl
  rw [hP, hB]
  have hk : ((Bt k).size : Int) = (k.length : Int) := rfl
  have hv : ((Bt v).size : Int) = (v.length : Int) := rfl
  have d1 : decide ((k.length : Int) < 1) = decide (k.length < 1) := by rw [decide_eq_decide]; omega
  have d2 : decide ((1024 : Int) < (k.length : Int)) = decide (1024 < k.length) := by rw [decide_eq_decide]; omega
  have d3 : decide ((8192 : Int) < (v.length : Int)) = decide (8192 < v.length) := by rw [decide_eq_decide]; omega
  clear hP hB
  generalize decide (k.length < 1) = b1 at *
  generalize decide (1024 < k.length) = b2 at *
  generalize decide (8192 < v.length) = b3 at *
  cases b1
  · cases b2
    · cases b3
      all_goals
        go_enter Try.func30, Try.ntmps30
        go_wp2
        go_ret
        exact ⟨rfl, (Ext.refl w).alloc _⟩
    · go_enter Try.func30, Try.ntmps30
      go_wp2
      go_ret
      exact ⟨rfl, (Ext.refl w).alloc _⟩
  · go_enter Try.func30, Try.ntmps30
    go_wp2
    go_ret
    exact ⟨rfl, (Ext.refl w).alloc _⟩
/-- Where the first pair stands that may not be; -1: there is none. -/
def idxB : List Pr → Nat → Int
  | [], _ => -1
  | p :: l, i => if badP p then (i : Int) else idxB l (i + 1)
theorem idxB_any (l : List Pr) (i : Nat) : decide ((0 : Int) ≤ idxB l i) = l.any badP := by
  induction l generalizing i with
  | nil => simp [idxB]
  | cons p l ih =>
    simp only [idxB, List.any_cons]
    by_cases h : badP p = true
    · simp [h]
    · simp [h, ih]
theorem drop_cons {l : List Pr} {k : Nat} (h : k < l.length) : l.drop k = l.getD k default :: l.drop (k + 1) := by
  rw [List.drop_eq_getElem_cons h]
  congr 1
  rw [List.getD_eq_getElem?_getD, List.getElem?_eq_getElem h]; rfl
set_option maxRecDepth 100000 in
theorem indexFunc_any {w : World} {A : Option Addr} {n c : Nat} {l : List Pr} (h : PRd w A n l) (hn : n ≤ 1048576) : Calls Try.prog 49 #[.slice A n c, .func (.func 30) #[] #[]] w fun e w' => e = .returned (.int .i64 (idxB l 0)) ∧ Ext w w' := by
  have hent2 : ∀ (args : Array Value) (w : World), (callFunc 30 args).run Try.prog w = .ok (.enter 30 args) w := e30
  have HL := Lib.hid h.1
  go_enter Try.func49, Try.ntmps49
  go_wp2
  go_loopw [8] (fun iv wr => ∃ k : Nat, k ≤ n ∧ iv = .int .i64 k ∧ Hid (idxB l 0 = idxB (l.drop k) k) ∧ Ext w wr) (fun iv _ => n - (intOf iv).toNat)
  case atStart => exact ⟨0, by omega, rfl, Lib.hid rfl, Ext.refl w⟩
  case round =>
    obtain ⟨k, hk, rfl, hs, hE⟩ := hrel
    by_cases hk2 : k < n
    · have kk : (k : Int) < (n : Int) := by omega
      have kk0 : (0 : Int) ≤ (k : Int) := by omega
      obtain ⟨g, o, rfl, c0, c1⟩ := (h.ext hE).at_ k hk2
      have hst : idxB (l.drop k) k = if badP (l.getD k default) then (k : Int) else idxB (l.drop (k + 1)) (k + 1) := by
        rw [drop_cons (by rw [HL.out]; exact hk2)]; rfl
      obtain ⟨p, hp⟩ : ∃ p, p = l.getD k default := ⟨_, rfl⟩
      rw [← hp] at c0 c1 hst
      have HB := Lib.hid (bad_any p)
      have hP : p.val = .agg #[.string (Bt p.k), .string (Bt p.v)] := rfl
      rw [hP] at HB
      cases hb : badP p
      · rw [hb] at HB hst
        have hs2 : idxB l 0 = idxB (l.drop (k + 1)) (k + 1) := by rw [hs.out, hst]; rfl
        have HS2 := Lib.hid hs2
        clear hs2 hst hb hp hP
        go_wp2_with (go_at_fn 30; refine (HB.out _).mono ?_; rintro e w2 ⟨rfl, hE2⟩)
        exact ⟨⟨k + 1, by omega, rfl, HS2, hE.trans hE2⟩, by simp [intOf]; omega⟩
      · rw [hb] at HB hst
        have hs2 : idxB l 0 = k := by rw [hs.out, hst]; rfl
        have HS2 := Lib.hid hs2
        clear hs2 hst hb hp hP
        go_wp2_with (go_at_fn 30; refine (HB.out _).mono ?_; rintro e w2 ⟨rfl, hE2⟩)
        go_ret
        exact ⟨by rw [HS2.out]; rfl, hE.trans hE2⟩
    · have kk : ¬ (k : Int) < (n : Int) := by omega
      have hs2 : idxB l 0 = -1 := by rw [hs.out, List.drop_of_length_le (by rw [HL.out]; omega)]; rfl
      have HS2 := Lib.hid hs2
      clear hs2
      go_wp2
      go_ret
      exact ⟨by rw [HS2.out]; rfl, hE⟩
theorem containsFunc_any {w : World} {A : Option Addr} {n c : Nat} {l : List Pr} (h : PRd w A n l) (hn : n ≤ 1048576) : Calls Try.prog 31 #[.slice A n c, .func (.func 30) #[] #[]] w fun e w' => e = .returned (.bool (l.any badP)) ∧ Ext w w' := by
  have HI := Lib.hid (indexFunc_any (c := c) h hn)
  have ht := idxB_any l 0
  generalize idxB l 0 = z at *
  generalize l.any badP = b at *
  go_enter Try.func31, Try.ntmps31
  go_wp2_with (go_at_call 49; (with_reducible refine HI.out.mono ?_); rintro e w2 ⟨rfl, hE2⟩)
  go_ret
  exact ⟨rfl, hE2⟩
