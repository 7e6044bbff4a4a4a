import Derived.Test.YtbmemogajgbdgaaM2
namespace Go.Proofs.Ytbmemogajgbdgaa
open Go.RowKit Go.Gf
/-- Rows told by a function. -/
def mkM (r c : Nat) (f : Nat → Nat → Nat) : List ByteArray := (List.range r).map (fun i => strN c (f i))
theorem mkM_len (r c : Nat) (f : Nat → Nat → Nat) : (mkM r c f).length = r := by simp [mkM]
theorem mkM_succ (r c : Nat) (f : Nat → Nat → Nat) : mkM (r + 1) c f = mkM r c f ++ [strN c (f r)] := by
  unfold mkM; rw [List.range_succ, List.map_append]; rfl
theorem mkM_congr (r c : Nat) (f g : Nat → Nat → Nat) (h : ∀ i, i < r → ∀ j, j < c → f i j = g i j) : mkM r c f = mkM r c g := by
  unfold mkM; exact List.map_congr_left fun i hi => strN_congr c _ _ (h i (by simpa using hi))
theorem mkM_get (r c : Nat) (f : Nat → Nat → Nat) (i : Nat) (hi : i < r) : (mkM r c f).getD i { data := #[] } = strN c (f i) := by
  unfold mkM
  rw [List.getD_eq_getElem?_getD, List.getElem?_map, List.getElem?_range hi]; rfl
theorem mkM_at (r c : Nat) (f : Nat → Nat → Nat) (i : Nat) (hi : i < (mkM r c f).length) : (mkM r c f)[i] = strN c (f i) := by
  simp only [mkM, List.getElem_map, List.getElem_range]
theorem mkM_mem (r c : Nat) (f : Nat → Nat → Nat) (s : ByteArray) (h : s ∈ mkM r c f) : s.size = c := by
  unfold mkM at h
  obtain ⟨i, _, rfl⟩ := List.mem_map.mp h
  exact strN_size _ _
theorem len0_mkM (r c : Nat) (f : Nat → Nat → Nat) (h : 0 < r) : len0 (mkM r c f) = c := by
  unfold len0; rw [mkM_get _ _ _ 0 h, strN_size]
theorem getD_at (l : List ByteArray) (i : Nat) (h : i < l.length) : l.getD i { data := #[] } = l[i] := by
  rw [List.getD_eq_getElem?_getD, List.getElem?_eq_getElem h]; rfl
/-- Byte j of row i. -/
def ent (l : List ByteArray) (i j : Nat) : Nat := bn (l.getD i { data := #[] }) j
theorem ent_lt (l : List ByteArray) (i j : Nat) : ent l i j < 256 := bn_lt _ _
theorem ent_mkM (r c : Nat) (f : Nat → Nat → Nat) (i j : Nat) (hi : i < r) (hj : j < c) (h : f i j < 256) : ent (mkM r c f) i j = f i j := by
  unfold ent; rw [mkM_get _ _ _ i hi, bn_strN _ _ j hj h]
theorem mkM_ent (l : List ByteArray) (c : Nat) (h : ∀ s ∈ l, s.size = c) : mkM l.length c (ent l) = l := by
  apply List.ext_getElem
  · rw [mkM_len]
  · intro i h1 h2
    rw [mkM_at]
    have := h l[i] (List.getElem_mem h2)
    unfold ent
    simp only [getD_at l i h2]
    rw [← this, strN_bn]
/-- Which answer: a matrix, an error. -/
def MatIs (l : List ByteArray) (E : Int) (w : World) (e : Ending) (w' : World) : Prop :=
  ∃ (A : Option Addr) (n cap : Nat), e = .returned (.tuple #[.slice A n cap, .int .i64 E]) ∧ n = l.length ∧ Rd w' A n (l.map Value.string) ∧ Ext w w'
def LisIs (l : List ByteArray) (w : World) (e : Ending) (w' : World) : Prop :=
  ∃ (A : Option Addr) (n cap : Nat), e = .returned (.slice A n cap) ∧ n = l.length ∧ Rd w' A n (l.map Value.string) ∧ Ext w w'
def timesF (a b : List ByteArray) (i j : Nat) : Nat := acc (a.getD i { data := #[] }) b b.length j
theorem timesF_lt (a b : List ByteArray) (i j : Nat) : timesF a b i j < 256 := acc_lt _ _ _ _
def timesV (a b : List ByteArray) : List ByteArray := if mayP a ∧ mayP b ∧ len0 a = b.length then mkM a.length (len0 b) (timesF a b) else []
def timesE (a b : List ByteArray) : Int := if mayP a ∧ mayP b then (if len0 a = b.length then 0 else 50) else 8
theorem times_form {a b : List ByteArray} (h : ¬ (mayP a ∧ mayP b)) : timesV a b = [] ∧ timesE a b = 8 := by
  unfold timesV timesE; rw [if_neg (fun x => h ⟨x.1, x.2.1⟩), if_neg h]; exact ⟨rfl, rfl⟩
theorem times_side {a b : List ByteArray} (h1 : mayP a) (h2 : mayP b) (h : len0 a ≠ b.length) : timesV a b = [] ∧ timesE a b = 50 := by
  unfold timesV timesE; rw [if_neg (fun x => h x.2.2), if_pos ⟨h1, h2⟩, if_neg h]; exact ⟨rfl, rfl⟩
theorem times_ok {a b : List ByteArray} (h1 : mayP a) (h2 : mayP b) (h : len0 a = b.length) : timesV a b = mkM a.length (len0 b) (timesF a b) ∧ timesE a b = 0 := by
  unfold timesV timesE; rw [if_pos ⟨h1, h2, h⟩, if_pos ⟨h1, h2⟩, if_pos h]; exact ⟨rfl, rfl⟩
theorem mat_nil {l : List ByteArray} {E E' : Int} {w w' : World} (h : l = [] ∧ E = E') (hE : Ext w w') : MatIs l E w (.returned (.tuple #[.slice none 0 0, .int .i64 E'])) w' := by
  obtain ⟨rfl, rfl⟩ := h
  exact ⟨none, 0, 0, rfl, rfl, Rd.nil _ _, hE⟩
theorem info9 : (Try.prog.info? 9).map (fun i => (i.zero, i.size, i.bytes)) = some (some (.string { data := #[] }), 1, 16) := by kernel_rfl
/-- May says yes, or no. -/
theorem may_is (b : Bool) (A : Option Addr) (n cap : Nat) (l : List ByteArray) (w : World) (hr : Rd w A n (l.map Value.string)) (hn : n ≤ 1048576) (hz : ∀ s ∈ l, s.size ≤ 1048576) (h : mayB l = b) :
    Calls Try.prog 14 #[.slice A n cap] w fun e w' => e = .returned (.bool b) ∧ Ext w w' := by
  subst h; exact may_any A n cap l w hr hn hz
theorem rmay_is (b : Bool) (A : Option Addr) (n cap : Nat) (l : List ByteArray) (w : World) (hr : Rd w A n (l.map Value.string)) (hn : n ≤ 1048576) (hz : ∀ s ∈ l, s.size ≤ 1048576) (h : mayB l = b) :
    Calls Try.prog 15 #[.slice A n cap] w fun e w' => e = .returned (.bool b) ∧ Ext w w' := by
  subst h; exact rmay_any A n cap l w hr hn hz
set_option maxRecDepth 100000 in
theorem mtimes_any (A B : Option Addr) (n cap m cap2 : Nat) (a b : List ByteArray) (w : World) (hr : Rd w A n (a.map Value.string)) (hq : Rd w B m (b.map Value.string)) (hn : n ≤ 1048576) (hm : m ≤ 1048576)
    (hz : ∀ s ∈ a, s.size ≤ 1048576) (hy : ∀ s ∈ b, s.size ≤ 1048576) :
    Calls Try.prog 10 #[.slice A n cap, .slice B m cap2] w (MatIs (timesV a b) (timesE a b) w) := by
  have hla : a.length = n := by have := hr.1; simpa using this
  have hlb : b.length = m := by have := hq.1; simpa using this
  have HZ := Lib.hid hz
  have HY := Lib.hid hy
  clear hz hy
  have hO := Ext.refl w
  by_cases h1 : mayP a
  · have M1 := Lib.hid (mayB_yes h1)
    by_cases h2 : mayP b
    · have M2 := Lib.hid (mayB_yes h2)
      have hn1 : 1 ≤ n := by have := h1.1.1; omega
      obtain ⟨gs, os, rfl, hgs, hcell⟩ := hr.at_ (show 0 < n by omega)
      have hl0 := len0_eq (l := a) (by omega)
      simp only [List.getElem_map, Nat.add_zero] at hcell
      generalize a[0]'(by omega) = s0 at *
      by_cases h3 : s0.size = m
      · have b1 : ((s0.size : Int) != (m : Int)) = false := by rw [h3]; simp
        have hv := times_ok h1 h2 (by omega)
        have hrow : ∀ s ∈ a, s.size = m := fun s hs => by rw [h1.2.2 s hs]; omega
        have hcol : ∀ s ∈ b, s.size = len0 b := h2.2.2
        have H1 := Lib.hid hrow
        have H2 := Lib.hid hcol
        have HV := Lib.hid hv
        have HLA := Lib.hid hla
        have HLB := Lib.hid hlb
        clear h1 h2 hv hrow hcol hl0 hla hlb h3
        go_enter Try.func10, Try.ntmps10
        go_wp2_with (first
          | (go_at_call 14; with_reducible refine (may_is true _ n cap a _ (hr.ext hO) hn HZ.out M1.out).mono ?_; rintro e w1 ⟨rfl, hE1⟩; replace hO := hO.trans hE1; clear hE1; replace hcell := hO.cellv hcell)
          | (go_at_call 14; with_reducible refine (may_is true _ m cap2 b _ (hq.ext hO) hm HY.out M2.out).mono ?_; rintro e w2 ⟨rfl, hE2⟩; replace hO := hO.trans hE2; have hcell2 := hE2.cellv hcell; clear hE2))
        go_loopw [4, 29] (fun v i wr => ∃ k : Nat, k ≤ n ∧ i = .int .i64 k ∧ ∃ (A1 : Option Addr) (c1 : Nat), v = .slice A1 k c1 ∧ wr.ownsRow w.heap.size 9 1 (.slice A1 k c1) k ((mkM k (len0 b) (timesF a b)).map Value.string) ∧ Ext w wr) (fun _ i _ => n - (intOf i).toNat)
        case atStart => exact ⟨0, by omega, rfl, none, 0, rfl, World.ownsRow_nil _ _ _ _, hO⟩
        case round =>
          obtain ⟨k, hk, rfl, A1, c1, rfl, hown, hE⟩ := hrel
          clear hcell2 hcell hO
          by_cases hk2 : k < n
          · obtain ⟨gs', os', hA, _, hck⟩ := hr.at_ hk2
            simp only [Option.some.injEq, Addr.mk.injEq, and_true] at hA
            obtain ⟨rfl, rfl⟩ := hA
            replace hck := hE.cellv hck
            simp only [List.getElem_map] at hck
            have hlk : k < a.length := by rw [HLA.out]; exact hk2
            have hsz := H1.out (a[k]'hlk) (List.getElem_mem _)
            have hgd := getD_at a k hlk
            have hmk := mkM_succ k (len0 b) (timesF a b)
            have htf : strN (len0 b) (timesF a b k) = sumV (a[k]'hlk) b ∧ sumE (a[k]'hlk) b = 0 := by
              have h := sum_yes (a[k]'hlk) b ⟨by rw [hsz, HLB.out], H2.out⟩
              rw [h.1, h.2]
              refine ⟨strN_congr _ _ _ fun j _ => ?_, rfl⟩
              unfold timesF; rw [hgd]
            generalize a[k]'hlk = sk at *
            have hsm : sk.size ≤ 1048576 := by omega
            have HP := Lib.hid hmk
            have HTF := Lib.hid htf
            have HO := Lib.hid hown
            have hwz := hE.sz
            clear hmk hgd htf hown hsz
            have kk : (k : Int) < (n : Int) := by omega
            have kk0 : (0 : Int) ≤ (k : Int) := by omega
            go_wp2_with (first
              | (go_at_call 25; with_reducible refine (sum_any sk B m cap2 b _ (hq.ext hE) hm hsm HY.out).mono ?_; rintro e w3 ⟨rfl, hE3⟩; replace hE := hE.trans hE3; have hwz3 := hE.sz)
              | (at_builtin; refine wpList_app w3 rfl _ _ 23 9 rfl Try.underlying23 (.string { data := #[] }) [.string (sumV sk b)] 1 16 info9 rfl rfl (by decide) (by decide) w.heap.size (.slice A1 k c1) k ((mkM k (len0 b) (timesF a b)).map Value.string) rfl (HO.out.ext hE3) (one_str _) _ rfl rfl (by omega) (by omega) ?_; intro g cap4 w4 hown4 hG4 hg4))
            go_wp2
            go_roundw
            case rel => exact ⟨k + 1, by omega, by go_num, _, cap4, rfl, by rw [HP.out, List.map_append, HTF.out.1]; exact hown4, hG4.ext hE (Nat.le_refl _)⟩
            case measure => simp [intOf]; omega
          · obtain rfl : k = n := by omega
            have HO := Lib.hid hown
            clear hown
            go_wp2
            go_ret2
            exact ⟨A1, k, c1, by rw [HV.out.2]; rfl, by rw [HV.out.1, mkM_len, HLA.out], by rw [HV.out.1, HLA.out]; exact HO.out.rd, hE⟩
      · have b1 : ((s0.size : Int) != (m : Int)) = true := by simp; omega
        have HV := Lib.hid (times_side h1 h2 (by omega))
        clear h1 h2 hl0 hla hlb h3
        go_enter Try.func10, Try.ntmps10
        go_wp2_with (first
          | (go_at_call 14; with_reducible refine (may_is true _ n cap a _ (hr.ext hO) hn HZ.out M1.out).mono ?_; rintro e w1 ⟨rfl, hE1⟩; replace hO := hO.trans hE1; clear hE1; replace hcell := hO.cellv hcell)
          | (go_at_call 14; with_reducible refine (may_is true _ m cap2 b _ (hq.ext hO) hm HY.out M2.out).mono ?_; rintro e w2 ⟨rfl, hE2⟩; replace hO := hO.trans hE2; have hcell2 := hE2.cellv hcell; clear hE2))
        go_ret2
        exact mat_nil HV.out hO
    · have M2 := Lib.hid (mayB_no h2)
      have HV := Lib.hid (times_form (a := a) (b := b) (fun x => h2 x.2))
      clear h1 h2 hla hlb
      go_enter Try.func10, Try.ntmps10
      go_wp2_with (first
        | (go_at_call 14; with_reducible refine (may_is true _ n cap a _ (hr.ext hO) hn HZ.out M1.out).mono ?_; rintro e w1 ⟨rfl, hE1⟩; replace hO := hO.trans hE1; clear hE1)
        | (go_at_call 14; with_reducible refine (may_is false _ m cap2 b _ (hq.ext hO) hm HY.out M2.out).mono ?_; rintro e w2 ⟨rfl, hE2⟩; replace hO := hO.trans hE2; clear hE2))
      go_ret2
      exact mat_nil HV.out hO
  · have M1 := Lib.hid (mayB_no h1)
    have HV := Lib.hid (times_form (a := a) (b := b) (fun x => h1 x.1))
    clear h1 hla hlb
    go_enter Try.func10, Try.ntmps10
    go_wp2_with (go_at_call 14; with_reducible refine (may_is false _ n cap a _ (hr.ext hO) hn HZ.out M1.out).mono ?_; rintro e w1 ⟨rfl, hE1⟩; replace hO := hO.trans hE1; clear hE1)
    go_ret2
    exact mat_nil HV.out hO
