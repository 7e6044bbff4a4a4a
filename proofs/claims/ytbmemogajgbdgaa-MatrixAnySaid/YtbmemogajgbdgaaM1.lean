import Derived.Test.YtbmemogajgbdgaaB8
import Derived.Test.YtbmemogajgbdgaaPre2
namespace Go.Proofs.Ytbmemogajgbdgaa
open Go.RowKit Go.Gf
def neS (n : Nat) (s : ByteArray) : Bool := decide (s.size ≠ n)
def sideB (n : Int) : Bool := decide (1 ≤ n) && decide (n ≤ 64)
theorem side_any (n : Int) (w : World) : Calls Try.prog 33 #[.int .i64 n] w fun e w' => e = .returned (.bool (sideB n)) ∧ w = w' := by
  have HS : sideB n = (decide (1 ≤ n) && decide (n ≤ 64)) := rfl
  have HV := Lib.hid HS
  clear HS
  by_cases h1 : 1 ≤ n
  · go_enter Try.func33, Try.ntmps33
    go_wp2
    go_ret
    exact ⟨ret_bool (by rw [HV.out]; simp [h1]), rfl⟩
  · go_enter Try.func33, Try.ntmps33
    go_wp2
    go_ret
    exact ⟨ret_bool (by rw [HV.out]; simp; omega), rfl⟩
theorem side_yes (n : Nat) (h : 1 ≤ n ∧ n ≤ 64) : sideB n = true := by unfold sideB; simp; omega
theorem side_no (n : Nat) (h : ¬ (1 ≤ n ∧ n ≤ 64)) : sideB n = false := by unfold sideB; simp; omega
def mayP (l : List ByteArray) : Prop := (1 ≤ l.length ∧ l.length ≤ 64) ∧ (1 ≤ len0 l ∧ len0 l ≤ 64) ∧ ∀ s ∈ l, s.size = len0 l
instance (l : List ByteArray) : Decidable (mayP l) := by unfold mayP; infer_instance
def mayB (l : List ByteArray) : Bool := decide (mayP l)
theorem mayB_yes {l : List ByteArray} (h : mayP l) : mayB l = true := by simpa [mayB] using h
theorem mayB_no {l : List ByteArray} (h : ¬ mayP l) : mayB l = false := by simpa [mayB] using h
theorem len0_eq {l : List ByteArray} (h : 0 < l.length) : len0 l = l[0].size := by
  unfold len0; rw [List.getD_eq_getElem?_getD, List.getElem?_eq_getElem h]; rfl
/-- What a search tells. -/
def IdxIs (b : Bool) (e : Ending) : Prop := ∃ i : Int, e = .returned (.int .i64 i) ∧ decide (0 ≤ i) = b
set_option maxRecDepth 100000 in
theorem may1_any (s s0 : ByteArray) (gb gs os n cap : Nat) (w : World) (hb : w.cell? ⟨gb, 0, none⟩ = some (.slice (some ⟨gs, os, none⟩) n cap)) (hc : w.cell? ⟨gs, os, none⟩ = some (.string s0)) (h1 : 1 ≤ n) :
    Calls Try.prog 35 #[.string s, .pointer (some ⟨gb, 0, none⟩)] w fun e w' => e = .returned (.bool (neS s0.size s)) ∧ w = w' := by
  have HB : neS s0.size s = ((s.size : Int) != (s0.size : Int)) := by
    unfold neS
    by_cases h : s.size = s0.size
    · rw [h]; simp
    · have : ((s.size : Int) != (s0.size : Int)) = true := by simp; omega
      rw [this]; simp [h]
  have HV := Lib.hid HB
  clear HB
  go_enter Try.func35, Try.ntmps35
  go_wp2
  go_ret
  exact ⟨ret_bool HV.out.symm, rfl⟩
set_option maxRecDepth 100000 in
theorem idx42 (n cap : Nat) (A : Option Addr) (l : List ByteArray) (C : Value) (p : ByteArray → Bool) (w : World) (hr : Rd w A n (l.map Value.string)) (hn : n ≤ 1048576)
    (hf : ∀ s ∈ l, ∀ w', Ext w w' → Calls Try.prog 35 #[.string s, C] w' fun e w'' => e = .returned (.bool (p s)) ∧ w' = w'') :
    Calls Try.prog 42 #[.slice A n cap, .func (.func 35) #[] #[C]] w fun e w' => IdxIs (l.any p) e ∧ Ext w w' := by
  have hlen : l.length = n := by have := hr.1; simpa using this
  have HF := Lib.hid hf
  have HL := Lib.hid hlen
  clear hf hlen
  go_enter Try.func42, Try.ntmps42
  go_wp2
  go_loopw [8] (fun i wr => ∃ k : Nat, k ≤ n ∧ i = .int .i64 k ∧ Ext w wr ∧ ∀ s ∈ l.take k, p s = false) (fun i _ => n - (intOf i).toNat)
  case atStart => exact ⟨0, by omega, rfl, Ext.refl _, by simp⟩
  case round =>
    obtain ⟨k, hk, rfl, hE, hall⟩ := hrel
    have HALL := Lib.hid hall
    clear hall
    by_cases hk2 : k < n
    · obtain ⟨gs, os, rfl, hgs, hcell⟩ := (hr.ext hE).at_ hk2
      simp only [List.getElem_map] at hcell
      have hlk : k < l.length := by rw [HL.out]; exact hk2
      have htk : l.take (k + 1) = l.take k ++ [l[k]'hlk] := List.take_succ_eq_append_getElem hlk
      have hmem := List.getElem_mem hlk
      generalize l[k]'hlk = s at *
      have HTK := Lib.hid htk
      have HM := Lib.hid hmem
      clear htk hmem
      have kk : (k : Int) < (n : Int) := by omega
      have kk0 : (0 : Int) ≤ (k : Int) := by omega
      by_cases hp : p s = true
      · have HP := Lib.hid hp
        clear hp
        go_wp2_with (go_at_call 35; refine (HF.out s HM.out _ hE).mono ?_; rintro e w1 ⟨rfl, rfl⟩; rw [HP.out])
        go_ret
        refine ⟨⟨k, rfl, ?_⟩, hE⟩
        have : l.any p = true := List.any_eq_true.mpr ⟨s, HM.out, HP.out⟩
        rw [this]; simp
      · have hp' : p s = false := by simpa using hp
        have HP := Lib.hid hp'
        clear hp hp'
        go_wp2_with (go_at_call 35; refine (HF.out s HM.out _ hE).mono ?_; rintro e w1 ⟨rfl, rfl⟩; rw [HP.out])
        go_roundw
        case rel => exact ⟨k + 1, by omega, by go_num, hE, fun s' h => by
          rw [HTK.out, List.mem_append, List.mem_singleton] at h
          rcases h with h | h
          · exact HALL.out s' h
          · rw [h]; exact HP.out⟩
        case measure => simp [intOf]; omega
    · obtain rfl : k = n := by omega
      go_wp2
      go_ret
      refine ⟨⟨-1, rfl, ?_⟩, hE⟩
      have : l.any p = false := by
        rw [List.any_eq_false]
        intro s hs
        have := HALL.out s (by rw [List.take_of_length_le (by rw [HL.out]; omega)]; exact hs)
        simp [this]
      rw [this]; rfl
theorem cont34 (n cap : Nat) (A : Option Addr) (l : List ByteArray) (C : Value) (p : ByteArray → Bool) (w : World) (hr : Rd w A n (l.map Value.string)) (hn : n ≤ 1048576)
    (hf : ∀ s ∈ l, ∀ w', Ext w w' → Calls Try.prog 35 #[.string s, C] w' fun e w'' => e = .returned (.bool (p s)) ∧ w' = w'') :
    Calls Try.prog 34 #[.slice A n cap, .func (.func 35) #[] #[C]] w fun e w' => e = .returned (.bool (l.any p)) ∧ Ext w w' := by
  have HC := idx42 n cap A l C p w hr hn hf
  clear hf
  go_enter Try.func34, Try.ntmps34
  go_wp2_with (go_at_call 42; refine HC.mono ?_; rintro e w1 ⟨⟨i, rfl, hi⟩, hE⟩; have HI := Lib.hid hi; clear hi)
  go_ret
  exact ⟨ret_bool HI.out, hE⟩
set_option maxRecDepth 100000 in
theorem may_any (A : Option Addr) (n cap : Nat) (l : List ByteArray) (w : World) (hr : Rd w A n (l.map Value.string)) (hn : n ≤ 1048576) (hz : ∀ s ∈ l, s.size ≤ 1048576) :
    Calls Try.prog 14 #[.slice A n cap] w fun e w' => e = .returned (.bool (mayB l)) ∧ Ext w w' := by
  have hlen : l.length = n := by have := hr.1; simpa using this
  by_cases h1 : 1 ≤ n ∧ n ≤ 64
  · obtain ⟨gs, os, rfl, hgs, hcell⟩ := hr.at_ (show 0 < n by omega)
    have hl0 := len0_eq (l := l) (by omega)
    have hz0 := hz (l[0]'(by omega)) (List.getElem_mem _)
    simp only [List.getElem_map, Nat.add_zero] at hcell
    generalize l[0]'(by omega) = s0 at *
    have S1 := Lib.hid (side_yes n h1)
    by_cases h2 : 1 ≤ s0.size ∧ s0.size ≤ 64
    · have S2 := Lib.hid (side_yes _ h2)
      have hm : (!l.any (neS s0.size)) = mayB l := by
        by_cases h : mayP l
        · rw [mayB_yes h, Bool.not_eq_true', List.any_eq_false]
          intro s hs
          have := h.2.2 s hs
          unfold neS; simp; omega
        · rw [mayB_no h, Bool.not_eq_false', List.any_eq_true]
          refine Classical.byContradiction fun hne => h ⟨by omega, by omega, fun s hs => ?_⟩
          rw [hl0]
          refine Classical.byContradiction fun hx => hne ⟨s, hs, by unfold neS; simpa using hx⟩
      have HM := Lib.hid hm
      have e1 : 1 ≤ n := h1.1
      clear hm hl0 hlen h2 h1
      have HW : ∀ w', Ext (w.alloc (.cells #[.slice (some ⟨gs, os, none⟩) n cap] 23)) w' → ∀ s, Calls Try.prog 35 #[.string s, .pointer (some ⟨w.heap.size, 0, none⟩)] w' fun e w'' => e = .returned (.bool (neS s0.size s)) ∧ w' = w'' := fun w' hE s =>
        may1_any s s0 _ gs os n cap w' (hE.cellv (by rw [(Blk.new w 23 _).cell]; rfl)) (hE.cellv (((Ext.refl w).alloc _).cellv hcell)) e1
      have H2 := Lib.hid HW
      clear HW
      go_enter Try.func14, Try.ntmps14
      go_wp2_with (first
        | (go_at_call 33; refine (side_any _ _).mono ?_; rintro e w1 ⟨rfl, rfl⟩; first | rw [S1.out] | rw [S2.out])
        | (go_at_call 34; refine (cont34 n cap _ l _ (neS s0.size) _ (hr.ext ((Ext.refl w).alloc _)) (by omega) (fun s _ w' hE => H2.out w' hE s)).mono ?_; rintro e w2 ⟨rfl, hE2⟩))
      go_ret
      exact ⟨ret_bool HM.out, ((Ext.refl w).alloc _).trans hE2⟩
    · have S2 := Lib.hid (side_no _ h2)
      have HM := Lib.hid (mayB_no (l := l) (fun h => h2 (by rw [← hl0]; exact h.2.1)))
      have e1 : 1 ≤ n := h1.1
      clear hl0 hlen h2 h1
      go_enter Try.func14, Try.ntmps14
      go_wp2_with (first
        | (go_at_call 33; refine (side_any _ _).mono ?_; rintro e w1 ⟨rfl, rfl⟩; first | rw [S1.out] | rw [S2.out]))
      go_ret
      exact ⟨ret_bool HM.out.symm, (Ext.refl w).alloc _⟩
  · have S1 := Lib.hid (side_no n h1)
    have HM := Lib.hid (mayB_no (l := l) (fun h => h1 (by rw [← hlen]; exact h.1)))
    clear hlen h1
    go_enter Try.func14, Try.ntmps14
    go_wp2_with (first
      | (go_at_call 33; refine (side_any _ _).mono ?_; rintro e w1 ⟨rfl, rfl⟩; rw [S1.out]))
    go_ret
    exact ⟨ret_bool HM.out.symm, (Ext.refl w).alloc _⟩
