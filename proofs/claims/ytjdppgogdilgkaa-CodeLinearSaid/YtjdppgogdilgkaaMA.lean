import Derived.Test.YtjdppgogdilgkaaBA
import Derived.Test.YtjdppgogdilgkaaPB
import Derived.Deep.RegionLaw
section
namespace Go.Proofs.Ytjdppgogdilgkaa
open Go.RowKit Go.Gf
def neS (n : Nat) (s : ByteArray) : Bool := decide (s.size ≠ n)
def sideB (n : Int) : Bool := decide (1 ≤ n) && decide (n ≤ 64)
theorem side_any (n : Int) (w : World) : Calls Try.prog 61 #[.int .i64 n] w fun e w' => e = .returned (.bool (sideB n)) ∧ w = w' := by
  have HS : sideB n = (decide (1 ≤ n) && decide (n ≤ 64)) := rfl
  have HV := Lib.hid HS
  clear HS
  by_cases h1 : 1 ≤ n
  · go_enter Try.func61, Try.ntmps61
    go_wp2
    go_ret
    exact ⟨ret_bool (by rw [HV.out]; simp [h1]), rfl⟩
  · go_enter Try.func61, Try.ntmps61
    go_wp2
    go_ret
    exact ⟨ret_bool (by rw [HV.out]; simp; omega), rfl⟩
theorem side_yes (n : Nat) (h : 1 ≤ n ∧ n ≤ 64) : sideB n = true := by unfold sideB; simp; omega
theorem side_no (n : Nat) (h : ¬ (1 ≤ n ∧ n ≤ 64)) : sideB n = false := by unfold sideB; simp; omega
def mayP (l : List ByteArray) : Prop := (1 ≤ l.length ∧ l.length ≤ 64) ∧ (1 ≤ len0 l ∧ len0 l ≤ 64) ∧ ∀ s ∈ l, s.size = len0 l
instance (l : List ByteArray) : Decidable (mayP l) := by unfold mayP; infer_instance
def mayB (l : List ByteArray) : Bool := decide (mayP l)
theorem mayB_yes {l : List ByteArray} (h : mayP l) : mayB l = true := by simpa [mayB] using h
theorem mayB_no {l : List ByteArray} (h : ¬ mayP l) : mayB l = false := by simpa [mayB] using h
theorem len0_eq {l : List ByteArray} (h : 0 < l.length) : len0 l = l[0].size := by
  unfold len0; rw [List.getD_eq_getElem?_getD, List.getElem?_eq_getElem h]; rfl
def IdxIs (b : Bool) (e : Ending) : Prop := ∃ i : Int, e = .returned (.int .i64 i) ∧ decide (0 ≤ i) = b
set_option maxRecDepth 100000 in
theorem may1_any (s s0 : ByteArray) (gb gs os n cap : Nat) (w : World) (hb : w.cell? ⟨gb, 0, none⟩ = some (.slice (some ⟨gs, os, none⟩) n cap)) (hc : w.cell? ⟨gs, os, none⟩ = some (.string s0)) (h1 : 1 ≤ n) :
    Calls Try.prog 66 #[.string s, .pointer (some ⟨gb, 0, none⟩)] w fun e w' => e = .returned (.bool (neS s0.size s)) ∧ w = w' := by
  have HB : neS s0.size s = ((s.size : Int) != (s0.size : Int)) := by
    unfold neS
    by_cases h : s.size = s0.size
    · rw [h]; simp
    · have : ((s.size : Int) != (s0.size : Int)) = true := by simp; omega
      rw [this]; simp [h]
  have HV := Lib.hid HB
  clear HB
  go_enter Try.func66, Try.ntmps66
  go_wp2
  go_ret
  exact ⟨ret_bool HV.out.symm, rfl⟩
set_option maxRecDepth 100000 in
theorem idx42 (n cap : Nat) (A : Option Addr) (l : List ByteArray) (C : Value) (p : ByteArray → Bool) (w : World) (hr : Rd w A n (l.map Value.string)) (hn : n ≤ 1048576)
    (hf : ∀ s ∈ l, ∀ w', Ext w w' → Calls Try.prog 66 #[.string s, C] w' fun e w'' => e = .returned (.bool (p s)) ∧ w' = w'') :
    Calls Try.prog 71 #[.slice A n cap, .func (.func 66) #[] #[C]] w fun e w' => IdxIs (l.any p) e ∧ Ext w w' := by
  have hlen : l.length = n := by have := hr.1; simpa using this
  have HF := Lib.hid hf
  have HL := Lib.hid hlen
  clear hf hlen
  go_enter Try.func71, Try.ntmps71
  go_wp2
  go_loopw [8] (fun i wr => ∃ k : Nat, k ≤ n ∧ i = .int .i64 k ∧ Ext w wr ∧ ∀ s ∈ l.take k, p s = false) (fun i _ => n - (intOf i).toNat)
  case atStart => exact ⟨0, by omega, rfl, Ext.refl _, by simp⟩
  case round =>
    obtain ⟨k, hk, rfl, hE, hall⟩ := hrel
    have HALL := Lib.hid hall
    clear hall
    by_cases hk2 : k < n
    · obtain ⟨gs, os, rfl, hgs, hcell⟩ := (hr.ext hE).at_ hk2
      simp only [List.getElem_map] at hcell
      have hlk : k < l.length := by rw [HL.out]; exact hk2
      have htk : l.take (k + 1) = l.take k ++ [l[k]'hlk] := List.take_succ_eq_append_getElem hlk
      have hmem := List.getElem_mem hlk
      generalize l[k]'hlk = s at *
      have HTK := Lib.hid htk
      have HM := Lib.hid hmem
      clear htk hmem
      have kk : (k : Int) < (n : Int) := by omega
      have kk0 : (0 : Int) ≤ (k : Int) := by omega
      by_cases hp : p s = true
      · have HP := Lib.hid hp
        clear hp
        go_wp2_with (go_at_call 66; refine (HF.out s HM.out _ hE).mono ?_; rintro e w1 ⟨rfl, rfl⟩; rw [HP.out])
        go_ret
        refine ⟨⟨k, rfl, ?_⟩, hE⟩
        have : l.any p = true := List.any_eq_true.mpr ⟨s, HM.out, HP.out⟩
        rw [this]; simp
      · have hp' : p s = false := by simpa using hp
        have HP := Lib.hid hp'
        clear hp hp'
        go_wp2_with (go_at_call 66; refine (HF.out s HM.out _ hE).mono ?_; rintro e w1 ⟨rfl, rfl⟩; rw [HP.out])
        go_roundw
        case rel => exact ⟨k + 1, by omega, by go_num, hE, fun s' h => by
          rw [HTK.out, List.mem_append, List.mem_singleton] at h
          rcases h with h | h
          · exact HALL.out s' h
          · rw [h]; exact HP.out⟩
        case measure => simp [intOf]; omega
    · obtain rfl : k = n := by omega
      go_wp2
      go_ret
      refine ⟨⟨-1, rfl, ?_⟩, hE⟩
      have : l.any p = false := by
        rw [List.any_eq_false]
        intro s hs
        have := HALL.out s (by rw [List.take_of_length_le (by rw [HL.out]; omega)]; exact hs)
        simp [this]
      rw [this]; rfl
theorem cont34 (n cap : Nat) (A : Option Addr) (l : List ByteArray) (C : Value) (p : ByteArray → Bool) (w : World) (hr : Rd w A n (l.map Value.string)) (hn : n ≤ 1048576)
    (hf : ∀ s ∈ l, ∀ w', Ext w w' → Calls Try.prog 66 #[.string s, C] w' fun e w'' => e = .returned (.bool (p s)) ∧ w' = w'') :
    Calls Try.prog 65 #[.slice A n cap, .func (.func 66) #[] #[C]] w fun e w' => e = .returned (.bool (l.any p)) ∧ Ext w w' := by
  have HC := idx42 n cap A l C p w hr hn hf
  clear hf
  go_enter Try.func65, Try.ntmps65
  go_wp2_with (go_at_call 71; refine HC.mono ?_; rintro e w1 ⟨⟨i, rfl, hi⟩, hE⟩; have HI := Lib.hid hi; clear hi)
  go_ret
  exact ⟨ret_bool HI.out, hE⟩
set_option maxRecDepth 100000 in
theorem may_any (A : Option Addr) (n cap : Nat) (l : List ByteArray) (w : World) (hr : Rd w A n (l.map Value.string)) (hn : n ≤ 1048576) (hz : ∀ s ∈ l, s.size ≤ 1048576) :
    Calls Try.prog 48 #[.slice A n cap] w fun e w' => e = .returned (.bool (mayB l)) ∧ Ext w w' := by
  have hlen : l.length = n := by have := hr.1; simpa using this
  by_cases h1 : 1 ≤ n ∧ n ≤ 64
  · obtain ⟨gs, os, rfl, hgs, hcell⟩ := hr.at_ (show 0 < n by omega)
    have hl0 := len0_eq (l := l) (by omega)
    have hz0 := hz (l[0]'(by omega)) (List.getElem_mem _)
    simp only [List.getElem_map, Nat.add_zero] at hcell
    generalize l[0]'(by omega) = s0 at *
    have S1 := Lib.hid (side_yes n h1)
    by_cases h2 : 1 ≤ s0.size ∧ s0.size ≤ 64
    · have S2 := Lib.hid (side_yes _ h2)
      have hm : (!l.any (neS s0.size)) = mayB l := by
        by_cases h : mayP l
        · rw [mayB_yes h, Bool.not_eq_true', List.any_eq_false]
          intro s hs
          have := h.2.2 s hs
          unfold neS; simp; omega
        · rw [mayB_no h, Bool.not_eq_false', List.any_eq_true]
          refine Classical.byContradiction fun hne => h ⟨by omega, by omega, fun s hs => ?_⟩
          rw [hl0]
          refine Classical.byContradiction fun hx => hne ⟨s, hs, by unfold neS; simpa using hx⟩
      have HM := Lib.hid hm
      have e1 : 1 ≤ n := h1.1
      clear hm hl0 hlen h2 h1
      have HW : ∀ w', Ext (w.alloc (.cells #[.slice (some ⟨gs, os, none⟩) n cap] 50)) w' → ∀ s, Calls Try.prog 66 #[.string s, .pointer (some ⟨w.heap.size, 0, none⟩)] w' fun e w'' => e = .returned (.bool (neS s0.size s)) ∧ w' = w'' := fun w' hE s =>
        may1_any s s0 _ gs os n cap w' (hE.cellv (by rw [(Blk.new w 50 _).cell]; rfl)) (hE.cellv (((Ext.refl w).alloc _).cellv hcell)) e1
      have H2 := Lib.hid HW
      clear HW
      go_enter Try.func48, Try.ntmps48
      go_wp2_with (first
        | (go_at_call 61; refine (side_any _ _).mono ?_; rintro e w1 ⟨rfl, rfl⟩; first | rw [S1.out] | rw [S2.out])
        | (go_at_call 65; refine (cont34 n cap _ l _ (neS s0.size) _ (hr.ext ((Ext.refl w).alloc _)) (by omega) (fun s _ w' hE => H2.out w' hE s)).mono ?_; rintro e w2 ⟨rfl, hE2⟩))
      go_ret
      exact ⟨ret_bool HM.out, ((Ext.refl w).alloc _).trans hE2⟩
    · have S2 := Lib.hid (side_no _ h2)
      have HM := Lib.hid (mayB_no (l := l) (fun h => h2 (by rw [← hl0]; exact h.2.1)))
      have e1 : 1 ≤ n := h1.1
      clear hl0 hlen h2 h1
      go_enter Try.func48, Try.ntmps48
      go_wp2_with (first
        | (go_at_call 61; refine (side_any _ _).mono ?_; rintro e w1 ⟨rfl, rfl⟩; first | rw [S1.out] | rw [S2.out]))
      go_ret
      exact ⟨ret_bool HM.out.symm, (Ext.refl w).alloc _⟩
  · have S1 := Lib.hid (side_no n h1)
    have HM := Lib.hid (mayB_no (l := l) (fun h => h1 (by rw [← hlen]; exact h.1)))
    clear hlen h1
    go_enter Try.func48, Try.ntmps48
    go_wp2_with (first
      | (go_at_call 61; refine (side_any _ _).mono ?_; rintro e w1 ⟨rfl, rfl⟩; rw [S1.out]))
    go_ret
    exact ⟨ret_bool HM.out.symm, (Ext.refl w).alloc _⟩
end Go.Proofs.Ytjdppgogdilgkaa
end
section
namespace Go.Proofs.Ytjdppgogdilgkaa
open Go.RowKit Go.Gf
set_option maxRecDepth 100000 in
theorem rmay_any (A : Option Addr) (n cap : Nat) (l : List ByteArray) (w : World) (hr : Rd w A n (l.map Value.string)) (hn : n ≤ 1048576) (hz : ∀ s ∈ l, s.size ≤ 1048576) :
    Calls Try.prog 67 #[.slice A n cap] w fun e w' => e = .returned (.bool (mayB l)) ∧ Ext w w' := by
  have hlen : l.length = n := by have := hr.1; simpa using this
  by_cases h1 : 1 ≤ n
  · by_cases h2 : n ≤ 64
    · obtain ⟨gs, os, rfl, hgs, hcell⟩ := hr.at_ (show 0 < n by omega)
      have hl0 := len0_eq (l := l) (by omega)
      have hz0 := hz (l[0]'(by omega)) (List.getElem_mem _)
      simp only [List.getElem_map, Nat.add_zero] at hcell
      generalize l[0]'(by omega) = s0 at *
      by_cases h3 : 1 ≤ s0.size
      · by_cases h4 : s0.size ≤ 64
        · have HL := Lib.hid hlen
          have HL0 := Lib.hid hl0
          clear hlen hl0
          have b1 : decide ((n : Int) < 1) = false := by simp; omega
          have b2 : decide ((64 : Int) < (n : Int)) = false := by simp; omega
          have b3 : decide ((s0.size : Int) < 1) = false := by simp; omega
          have b4 : decide ((64 : Int) < (s0.size : Int)) = false := by simp; omega
          go_enter Try.func67, Try.ntmps67
          go_wp2
          go_loopw [3] (fun i wr => ∃ k : Nat, k ≤ n ∧ i = .int .i64 k ∧ Ext w wr ∧ ∀ s ∈ l.take k, s.size = s0.size) (fun i _ => n - (intOf i).toNat)
          case atStart => exact ⟨0, by omega, rfl, Ext.refl _, by simp⟩
          case round =>
            obtain ⟨k, hk, rfl, hE, hall⟩ := hrel
            have HALL := Lib.hid hall
            clear hall
            by_cases hk2 : k < n
            · obtain ⟨gs', os', hA, hgs', hck⟩ := (hr.ext hE).at_ hk2
              simp only [Option.some.injEq, Addr.mk.injEq, and_true] at hA
              obtain ⟨rfl, rfl⟩ := hA
              simp only [List.getElem_map] at hck
              have hlk : k < l.length := by rw [HL.out]; exact hk2
              have htk : l.take (k + 1) = l.take k ++ [l[k]'hlk] := List.take_succ_eq_append_getElem hlk
              have hmem := List.getElem_mem hlk
              generalize l[k]'hlk = s at *
              have HTK := Lib.hid htk
              have HM := Lib.hid hmem
              clear htk hmem
              have kk : (k : Int) < (n : Int) := by omega
              have kk0 : (0 : Int) ≤ (k : Int) := by omega
              have k0 : (0 : Int) < (n : Int) := by omega
              have hc0 := hE.cellv hcell
              by_cases hs : s.size = s0.size
              · have e3 : ((s.size : Int) != (s0.size : Int)) = false := by rw [hs]; simp
                have HS := Lib.hid hs
                clear hs
                go_wp2_with fail
                go_quiet (fail)
                go_wp2
                go_roundw
                case rel => exact ⟨k + 1, by omega, by go_num, hE.drewN _, fun s' h => by
                  rw [HTK.out, List.mem_append, List.mem_singleton] at h
                  rcases h with h | h
                  · exact HALL.out s' h
                  · rw [h]; exact HS.out⟩
                case measure => simp [intOf]; omega
              · have e3 : ((s.size : Int) != (s0.size : Int)) = true := by simp; omega
                have HN := Lib.hid (mayB_no (l := l) (fun h => hs (by rw [h.2.2 s HM.out, HL0.out])))
                clear hs
                go_wp2_with fail
                go_quiet (fail)
                go_wp2
                go_ret
                exact ⟨ret_bool HN.out.symm, hE.drewN _⟩
            · obtain rfl : k = n := by omega
              have HY := Lib.hid (mayB_yes (l := l) ⟨by rw [HL.out]; omega, by rw [HL0.out]; omega, fun s hs => by rw [HL0.out]; exact HALL.out s (by rw [List.take_of_length_le (by rw [HL.out]; omega)]; exact hs)⟩)
              go_wp2
              go_ret
              exact ⟨ret_bool HY.out.symm, hE⟩
        · have HN := Lib.hid (mayB_no (l := l) (fun h => h4 (by rw [← hl0]; exact h.2.1.2)))
          have b1 : decide ((n : Int) < 1) = false := by simp; omega
          have b2 : decide ((64 : Int) < (n : Int)) = false := by simp; omega
          have b3 : decide ((s0.size : Int) < 1) = false := by simp; omega
          have b4 : decide ((64 : Int) < (s0.size : Int)) = true := by simp; omega
          clear hlen hl0
          go_enter Try.func67, Try.ntmps67
          go_wp2
          go_ret
          exact ⟨ret_bool HN.out.symm, Ext.refl _⟩
      · have HN := Lib.hid (mayB_no (l := l) (fun h => h3 (by rw [← hl0]; exact h.2.1.1)))
        have b1 : decide ((n : Int) < 1) = false := by simp; omega
        have b2 : decide ((64 : Int) < (n : Int)) = false := by simp; omega
        have b3 : decide ((s0.size : Int) < 1) = true := by simp; omega
        clear hlen hl0
        go_enter Try.func67, Try.ntmps67
        go_wp2
        go_ret
        exact ⟨ret_bool HN.out.symm, Ext.refl _⟩
    · have HN := Lib.hid (mayB_no (l := l) (fun h => h2 (by rw [← hlen]; exact h.1.2)))
      have b1 : decide ((n : Int) < 1) = false := by simp; omega
      have b2 : decide ((64 : Int) < (n : Int)) = true := by simp; omega
      clear hlen
      go_enter Try.func67, Try.ntmps67
      go_wp2
      go_ret
      exact ⟨ret_bool HN.out.symm, Ext.refl _⟩
  · have HN := Lib.hid (mayB_no (l := l) (fun h => h1 (by rw [← hlen]; exact h.1.1)))
    have b1 : decide ((n : Int) < 1) = true := by simp; omega
    clear hlen
    go_enter Try.func67, Try.ntmps67
    go_wp2
    go_ret
    exact ⟨ret_bool HN.out.symm, Ext.refl _⟩
def sameB (l m : List ByteArray) : Bool := decide (l = m)
end Go.Proofs.Ytjdppgogdilgkaa
end
section
namespace Go.Proofs.Ytjdppgogdilgkaa
open Go.RowKit Go.Gf
def mkM (r c : Nat) (f : Nat → Nat → Nat) : List ByteArray := (List.range r).map (fun i => strN c (f i))
theorem mkM_len (r c : Nat) (f : Nat → Nat → Nat) : (mkM r c f).length = r := by simp [mkM]
theorem mkM_succ (r c : Nat) (f : Nat → Nat → Nat) : mkM (r + 1) c f = mkM r c f ++ [strN c (f r)] := by
  unfold mkM; rw [List.range_succ, List.map_append]; rfl
theorem mkM_congr (r c : Nat) (f g : Nat → Nat → Nat) (h : ∀ i, i < r → ∀ j, j < c → f i j = g i j) : mkM r c f = mkM r c g := by
  unfold mkM; exact List.map_congr_left fun i hi => strN_congr c _ _ (h i (by simpa using hi))
theorem mkM_get (r c : Nat) (f : Nat → Nat → Nat) (i : Nat) (hi : i < r) : (mkM r c f).getD i { data := #[] } = strN c (f i) := by
  unfold mkM
  rw [List.getD_eq_getElem?_getD, List.getElem?_map, List.getElem?_range hi]; rfl
theorem mkM_at (r c : Nat) (f : Nat → Nat → Nat) (i : Nat) (hi : i < (mkM r c f).length) : (mkM r c f)[i] = strN c (f i) := by
  simp only [mkM, List.getElem_map, List.getElem_range]
theorem mkM_mem (r c : Nat) (f : Nat → Nat → Nat) (s : ByteArray) (h : s ∈ mkM r c f) : s.size = c := by
  unfold mkM at h
  obtain ⟨i, _, rfl⟩ := List.mem_map.mp h
  exact strN_size _ _
theorem len0_mkM (r c : Nat) (f : Nat → Nat → Nat) (h : 0 < r) : len0 (mkM r c f) = c := by
  unfold len0; rw [mkM_get _ _ _ 0 h, strN_size]
theorem getD_at (l : List ByteArray) (i : Nat) (h : i < l.length) : l.getD i { data := #[] } = l[i] := by
  rw [List.getD_eq_getElem?_getD, List.getElem?_eq_getElem h]; rfl
def ent (l : List ByteArray) (i j : Nat) : Nat := bn (l.getD i { data := #[] }) j
theorem ent_lt (l : List ByteArray) (i j : Nat) : ent l i j < 256 := bn_lt _ _
theorem ent_mkM (r c : Nat) (f : Nat → Nat → Nat) (i j : Nat) (hi : i < r) (hj : j < c) (h : f i j < 256) : ent (mkM r c f) i j = f i j := by
  unfold ent; rw [mkM_get _ _ _ i hi, bn_strN _ _ j hj h]
theorem mkM_ent (l : List ByteArray) (c : Nat) (h : ∀ s ∈ l, s.size = c) : mkM l.length c (ent l) = l := by
  apply List.ext_getElem
  · rw [mkM_len]
  · intro i h1 h2
    rw [mkM_at]
    have := h l[i] (List.getElem_mem h2)
    unfold ent
    simp only [getD_at l i h2]
    rw [← this, strN_bn]
def MatIs (l : List ByteArray) (E : Int) (w : World) (e : Ending) (w' : World) : Prop :=
  ∃ (A : Option Addr) (n cap : Nat), e = .returned (.tuple #[.slice A n cap, .int .i64 E]) ∧ n = l.length ∧ Rd w' A n (l.map Value.string) ∧ Ext w w'
def LisIs (l : List ByteArray) (w : World) (e : Ending) (w' : World) : Prop :=
  ∃ (A : Option Addr) (n cap : Nat), e = .returned (.slice A n cap) ∧ n = l.length ∧ Rd w' A n (l.map Value.string) ∧ Ext w w'
def timesF (a b : List ByteArray) (i j : Nat) : Nat := acc (a.getD i { data := #[] }) b b.length j
theorem timesF_lt (a b : List ByteArray) (i j : Nat) : timesF a b i j < 256 := acc_lt _ _ _ _
def timesV (a b : List ByteArray) : List ByteArray := if mayP a ∧ mayP b ∧ len0 a = b.length then mkM a.length (len0 b) (timesF a b) else []
def timesE (a b : List ByteArray) : Int := if mayP a ∧ mayP b then (if len0 a = b.length then 0 else 50) else 8
theorem times_form {a b : List ByteArray} (h : ¬ (mayP a ∧ mayP b)) : timesV a b = [] ∧ timesE a b = 8 := by
  unfold timesV timesE; rw [if_neg (fun x => h ⟨x.1, x.2.1⟩), if_neg h]; exact ⟨rfl, rfl⟩
theorem times_side {a b : List ByteArray} (h1 : mayP a) (h2 : mayP b) (h : len0 a ≠ b.length) : timesV a b = [] ∧ timesE a b = 50 := by
  unfold timesV timesE; rw [if_neg (fun x => h x.2.2), if_pos ⟨h1, h2⟩, if_neg h]; exact ⟨rfl, rfl⟩
theorem times_ok {a b : List ByteArray} (h1 : mayP a) (h2 : mayP b) (h : len0 a = b.length) : timesV a b = mkM a.length (len0 b) (timesF a b) ∧ timesE a b = 0 := by
  unfold timesV timesE; rw [if_pos ⟨h1, h2, h⟩, if_pos ⟨h1, h2⟩, if_pos h]; exact ⟨rfl, rfl⟩
theorem mat_nil {l : List ByteArray} {E E' : Int} {w w' : World} (h : l = [] ∧ E = E') (hE : Ext w w') : MatIs l E w (.returned (.tuple #[.slice none 0 0, .int .i64 E'])) w' := by
  obtain ⟨rfl, rfl⟩ := h
  exact ⟨none, 0, 0, rfl, rfl, Rd.nil _ _, hE⟩
theorem info9 : (Try.prog.info? 9).map (fun i => (i.zero, i.size, i.bytes)) = some (some (.string { data := #[] }), 1, 16) := by kernel_rfl
theorem may_is (b : Bool) (A : Option Addr) (n cap : Nat) (l : List ByteArray) (w : World) (hr : Rd w A n (l.map Value.string)) (hn : n ≤ 1048576) (hz : ∀ s ∈ l, s.size ≤ 1048576) (h : mayB l = b) :
    Calls Try.prog 48 #[.slice A n cap] w fun e w' => e = .returned (.bool b) ∧ Ext w w' := by
  subst h; exact may_any A n cap l w hr hn hz
theorem rmay_is (b : Bool) (A : Option Addr) (n cap : Nat) (l : List ByteArray) (w : World) (hr : Rd w A n (l.map Value.string)) (hn : n ≤ 1048576) (hz : ∀ s ∈ l, s.size ≤ 1048576) (h : mayB l = b) :
    Calls Try.prog 67 #[.slice A n cap] w fun e w' => e = .returned (.bool b) ∧ Ext w w' := by
  subst h; exact rmay_any A n cap l w hr hn hz
set_option maxRecDepth 100000 in
theorem mtimes_any (A B : Option Addr) (n cap m cap2 : Nat) (a b : List ByteArray) (w : World) (hr : Rd w A n (a.map Value.string)) (hq : Rd w B m (b.map Value.string)) (hn : n ≤ 1048576) (hm : m ≤ 1048576)
    (hz : ∀ s ∈ a, s.size ≤ 1048576) (hy : ∀ s ∈ b, s.size ≤ 1048576) :
    Calls Try.prog 32 #[.slice A n cap, .slice B m cap2] w (MatIs (timesV a b) (timesE a b) w) := by
  have hla : a.length = n := by have := hr.1; simpa using this
  have hlb : b.length = m := by have := hq.1; simpa using this
  have HZ := Lib.hid hz
  have HY := Lib.hid hy
  clear hz hy
  have hO := Ext.refl w
  by_cases h1 : mayP a
  · have M1 := Lib.hid (mayB_yes h1)
    by_cases h2 : mayP b
    · have M2 := Lib.hid (mayB_yes h2)
      have hn1 : 1 ≤ n := by have := h1.1.1; omega
      obtain ⟨gs, os, rfl, hgs, hcell⟩ := hr.at_ (show 0 < n by omega)
      have hl0 := len0_eq (l := a) (by omega)
      simp only [List.getElem_map, Nat.add_zero] at hcell
      generalize a[0]'(by omega) = s0 at *
      by_cases h3 : s0.size = m
      · have b1 : ((s0.size : Int) != (m : Int)) = false := by rw [h3]; simp
        have hv := times_ok h1 h2 (by omega)
        have hrow : ∀ s ∈ a, s.size = m := fun s hs => by rw [h1.2.2 s hs]; omega
        have hcol : ∀ s ∈ b, s.size = len0 b := h2.2.2
        have H1 := Lib.hid hrow
        have H2 := Lib.hid hcol
        have HV := Lib.hid hv
        have HLA := Lib.hid hla
        have HLB := Lib.hid hlb
        clear h1 h2 hv hrow hcol hl0 hla hlb h3
        go_enter Try.func32, Try.ntmps32
        go_wp2_with (first
          | (go_at_call 48; with_reducible refine (may_is true _ n cap a _ (hr.ext hO) hn HZ.out M1.out).mono ?_; rintro e w1 ⟨rfl, hE1⟩; replace hO := hO.trans hE1; clear hE1; replace hcell := hO.cellv hcell)
          | (go_at_call 48; with_reducible refine (may_is true _ m cap2 b _ (hq.ext hO) hm HY.out M2.out).mono ?_; rintro e w2 ⟨rfl, hE2⟩; replace hO := hO.trans hE2; have hcell2 := hE2.cellv hcell; clear hE2))
        go_loopw [4, 29] (fun v i wr => ∃ k : Nat, k ≤ n ∧ i = .int .i64 k ∧ ∃ (A1 : Option Addr) (c1 : Nat), v = .slice A1 k c1 ∧ wr.ownsRow w.heap.size 9 1 (.slice A1 k c1) k ((mkM k (len0 b) (timesF a b)).map Value.string) ∧ Ext w wr) (fun _ i _ => n - (intOf i).toNat)
        case atStart => exact ⟨0, by omega, rfl, none, 0, rfl, World.ownsRow_nil _ _ _ _, hO⟩
        case round =>
          obtain ⟨k, hk, rfl, A1, c1, rfl, hown, hE⟩ := hrel
          clear hcell2 hcell hO
          by_cases hk2 : k < n
          · obtain ⟨gs', os', hA, _, hck⟩ := hr.at_ hk2
            simp only [Option.some.injEq, Addr.mk.injEq, and_true] at hA
            obtain ⟨rfl, rfl⟩ := hA
            replace hck := hE.cellv hck
            simp only [List.getElem_map] at hck
            have hlk : k < a.length := by rw [HLA.out]; exact hk2
            have hsz := H1.out (a[k]'hlk) (List.getElem_mem _)
            have hgd := getD_at a k hlk
            have hmk := mkM_succ k (len0 b) (timesF a b)
            have htf : strN (len0 b) (timesF a b k) = sumV (a[k]'hlk) b ∧ sumE (a[k]'hlk) b = 0 := by
              have h := sum_yes (a[k]'hlk) b ⟨by rw [hsz, HLB.out], H2.out⟩
              rw [h.1, h.2]
              refine ⟨strN_congr _ _ _ fun j _ => ?_, rfl⟩
              unfold timesF; rw [hgd]
            generalize a[k]'hlk = sk at *
            have hsm : sk.size ≤ 1048576 := by omega
            have HP := Lib.hid hmk
            have HTF := Lib.hid htf
            have HO := Lib.hid hown
            have hwz := hE.sz
            clear hmk hgd htf hown hsz
            have kk : (k : Int) < (n : Int) := by omega
            have kk0 : (0 : Int) ≤ (k : Int) := by omega
            go_wp2_with (first
              | (go_at_call 40; with_reducible refine (sum_any sk B m cap2 b _ (hq.ext hE) hm hsm HY.out).mono ?_; rintro e w3 ⟨rfl, hE3⟩; replace hE := hE.trans hE3; have hwz3 := hE.sz)
              | (at_builtin; refine wpList_app w3 rfl _ _ 50 9 rfl Try.underlying50 (.string { data := #[] }) [.string (sumV sk b)] 1 16 info9 rfl rfl (by decide) (by decide) w.heap.size (.slice A1 k c1) k ((mkM k (len0 b) (timesF a b)).map Value.string) rfl (HO.out.ext hE3) (one_str _) _ rfl rfl (by omega) (by omega) ?_; intro g cap4 w4 hown4 hG4 hg4))
            go_wp2
            go_roundw
            case rel => exact ⟨k + 1, by omega, by go_num, _, cap4, rfl, by rw [HP.out, List.map_append, HTF.out.1]; exact hown4, hG4.ext hE (Nat.le_refl _)⟩
            case measure => simp [intOf]; omega
          · obtain rfl : k = n := by omega
            have HO := Lib.hid hown
            clear hown
            go_wp2
            go_ret2
            exact ⟨A1, k, c1, by rw [HV.out.2]; rfl, by rw [HV.out.1, mkM_len, HLA.out], by rw [HV.out.1, HLA.out]; exact HO.out.rd, hE⟩
      · have b1 : ((s0.size : Int) != (m : Int)) = true := by simp; omega
        have HV := Lib.hid (times_side h1 h2 (by omega))
        clear h1 h2 hl0 hla hlb h3
        go_enter Try.func32, Try.ntmps32
        go_wp2_with (first
          | (go_at_call 48; with_reducible refine (may_is true _ n cap a _ (hr.ext hO) hn HZ.out M1.out).mono ?_; rintro e w1 ⟨rfl, hE1⟩; replace hO := hO.trans hE1; clear hE1; replace hcell := hO.cellv hcell)
          | (go_at_call 48; with_reducible refine (may_is true _ m cap2 b _ (hq.ext hO) hm HY.out M2.out).mono ?_; rintro e w2 ⟨rfl, hE2⟩; replace hO := hO.trans hE2; have hcell2 := hE2.cellv hcell; clear hE2))
        go_ret2
        exact mat_nil HV.out hO
    · have M2 := Lib.hid (mayB_no h2)
      have HV := Lib.hid (times_form (a := a) (b := b) (fun x => h2 x.2))
      clear h1 h2 hla hlb
      go_enter Try.func32, Try.ntmps32
      go_wp2_with (first
        | (go_at_call 48; with_reducible refine (may_is true _ n cap a _ (hr.ext hO) hn HZ.out M1.out).mono ?_; rintro e w1 ⟨rfl, hE1⟩; replace hO := hO.trans hE1; clear hE1)
        | (go_at_call 48; with_reducible refine (may_is false _ m cap2 b _ (hq.ext hO) hm HY.out M2.out).mono ?_; rintro e w2 ⟨rfl, hE2⟩; replace hO := hO.trans hE2; clear hE2))
      go_ret2
      exact mat_nil HV.out hO
  · have M1 := Lib.hid (mayB_no h1)
    have HV := Lib.hid (times_form (a := a) (b := b) (fun x => h1 x.1))
    clear h1 hla hlb
    go_enter Try.func32, Try.ntmps32
    go_wp2_with (go_at_call 48; with_reducible refine (may_is false _ n cap a _ (hr.ext hO) hn HZ.out M1.out).mono ?_; rintro e w1 ⟨rfl, hE1⟩; replace hO := hO.trans hE1; clear hE1)
    go_ret2
    exact mat_nil HV.out hO
end Go.Proofs.Ytjdppgogdilgkaa
end
section
namespace Go.Proofs.Ytjdppgogdilgkaa
open Go.RowKit Go.Gf
def scF (c : Nat) (f r : Nat → Nat) (j i : Nat) : Nat := if i < j then f i ^^^ fm c (r i) else f i
set_option maxRecDepth 100000 in
set_option maxHeartbeats 1000000 in
theorem scaled_any (g n cap c gr m cap2 : Nat) (f r : Nat → Nat) (w : World) (hb : BytesAt w g n f) (hr : BytesAt w gr m r) (hne : g ≠ gr) (hn : n ≤ 1048576) (hnm : n ≤ m) (hc : c < 256) (hf : ∀ i, f i < 256) (hrr : ∀ i, r i < 256) :
    Calls Try.prog 68 #[.slice (some ⟨g, 0, none⟩) n cap, .int .u8 c, .slice (some ⟨gr, 0, none⟩) m cap2] w fun e w' => e = .returned (.tuple #[]) ∧ OnlyB g w w' ∧ BytesAt w' g n (scF c f r n) := by
  go_enter Try.func68, Try.ntmps68
  go_wp2
  go_loopw [6] (fun i wr => ∃ j : Nat, j ≤ n ∧ i = .int .i64 j ∧ OnlyB g w wr ∧ BytesAt wr g n (scF c f r j) ∧ BytesAt wr gr m r) (fun i _ => n - (intOf i).toNat)
  case atStart => exact ⟨0, by omega, rfl, OnlyB.refl _ _, hb.congr (fun j _ => by simp [scF]), hr⟩
  case round =>
    obtain ⟨j, hj, rfl, hO, hb, hr⟩ := hrel
    by_cases hj2 : j < n
    · have c1 := hb.cell j hj2
      have f1 := hb.frozen j hj2
      have c2 := hr.cell j (by omega)
      have e1 : scF c f r j j = f j := by simp [scF]
      rw [e1] at c1
      have b1 := hf j
      have b2 := hrr j
      have b3 := fm_lt c (r j) hc
      have hx := u8_xor (f j) (fm c (r j)) b1 b3
      have kj : (j : Int) < (n : Int) := by omega
      have kj2 : (j : Int) < (m : Int) := by omega
      have kj0 : (0 : Int) ≤ (j : Int) := by omega
      have hnx : BytesAt (wr.setCell ⟨g, j, none⟩ (.int .u8 ((f j ^^^ fm c (r j) : Nat) : Int))) g n (scF c f r (j + 1)) := hb.set_ j _ hj2 (fun i _ => by
        unfold scF
        by_cases e : i = j
        · subst e; rw [if_pos (by omega), if_pos rfl]
        · rw [if_neg e]
          by_cases h1 : i < j
          · rw [if_pos (by omega), if_pos h1]
          · rw [if_neg (by omega), if_neg h1])
      have hrx := hr.far (p := ⟨g, j, none⟩) (Ne.symm hne) (.int .u8 ((f j ^^^ fm c (r j) : Nat) : Int))
      have HNX := Lib.hid hnx
      have HRX := Lib.hid hrx
      clear e1 hnx hrx
      go_wp2_with fail
      go_region_law (first | (go_simp; go_at_call 64; refine (rmul_same c (r j) _ hc b2).mono ?_; rintro e w3 ⟨rfl, rfl⟩))
      all_goals
        go_wp2
        go_roundw
        case rel => exact ⟨j + 1, by omega, by go_num, (hO.setCell j _).drew, HNX.out, HRX.out⟩
        case measure => simp [intOf]; omega
    · obtain rfl : j = n := by omega
      go_wp2
      go_end0
      exact ⟨rfl, hO, hb⟩
end Go.Proofs.Ytjdppgogdilgkaa
end
section
namespace Go.Proofs.Ytjdppgogdilgkaa
open Go.RowKit Go.Gf
def rowF (s : ByteArray) (b : List ByteArray) (j k x : Nat) : Nat := if x < j then acc s b b.length x else if x = j then acc s b k x else 0
theorem rowF_zero (s : ByteArray) (b : List ByteArray) (x : Nat) : rowF s b 0 0 x = 0 := by
  unfold rowF; rw [if_neg (by omega)]; split <;> rfl
theorem rowF_next (s : ByteArray) (b : List ByteArray) (j x : Nat) : rowF s b (j + 1) 0 x = rowF s b j b.length x := by
  unfold rowF
  by_cases h : x < j
  · rw [if_pos (by omega), if_pos h]
  · by_cases e : x = j
    · rw [if_pos (by omega), if_neg h, if_pos e]
    · rw [if_neg (by omega), if_neg h, if_neg e]; split <;> rfl
theorem rowF_end (s : ByteArray) (b : List ByteArray) (j k x : Nat) (h : x < j) : rowF s b j k x = acc s b b.length x := by
  unfold rowF; rw [if_pos h]
theorem rowF_step (s : ByteArray) (b : List ByteArray) (j k x : Nat) : rowF s b j (k + 1) x = if x = j then acc s b k j ^^^ fm (bn s k) (bn (b.getD k { data := #[] }) j) else rowF s b j k x := by
  unfold rowF
  by_cases e : x = j
  · subst e; rw [if_neg (by omega), if_pos rfl, if_pos rfl, acc]
  · by_cases h : x < j
    · rw [if_pos h, if_neg e, if_pos h]
    · rw [if_neg h, if_neg e, if_neg e, if_neg h, if_neg e]
end Go.Proofs.Ytjdppgogdilgkaa
end
