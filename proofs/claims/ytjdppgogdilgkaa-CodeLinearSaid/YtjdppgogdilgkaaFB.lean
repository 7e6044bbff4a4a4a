import Derived.Test.YtjdppgogdilgkaaFA
import Derived.Test.YtjdppgogdilgkaaMD
section
namespace Go.Proofs.Ytjdppgogdilgkaa
open Go.RowKit Go.Gf
set_option linter.unusedVariables false
set_option linter.unusedSimpArgs false
theorem info4 : (Try.prog.info? 4).map (fun i => (i.zero, i.size, i.bytes)) = some (some (.bool false), 1, 1) := by kernel_rfl
def RFirstsIs (k r : Nat) (l : List Pt) (w : World) (e : Ending) (w' : World) : Prop :=
  (¬ okTo (k + r) l l.length ∧ e = .returned (.tuple #[.slice none 0 0, .int .i64 61]) ∧ Ext w w') ∨
  (okTo (k + r) l l.length ∧ (idxs (k + r) l).length < k ∧ e = .returned (.tuple #[.slice none 0 0, .int .i64 60]) ∧ Ext w w') ∨
  (okTo (k + r) l l.length ∧ k ≤ (idxs (k + r) l).length ∧ ∃ (A : Option Addr) (c : Nat), e = .returned (.tuple #[.slice A k c, .int .i64 0]) ∧
    PtRd w' A k (((idxs (k + r) l).take k).map (fun (i : Nat) => ((i : Int), txtL l i))) ∧ Ext w w')
theorem info44 : (Try.prog.info? 44).map (fun i => (i.zero, i.size, i.bytes)) = some (some (ptV (0, { data := #[] })), 2, 24) := by kernel_rfl
def ptCs (l : List Pt) : List Value := l.flatMap (fun p => [.int .i64 p.1, .string p.2])
theorem ptCs_app (a b : List Pt) : ptCs (a ++ b) = ptCs a ++ ptCs b := by simp [ptCs]
theorem ptCs_len (l : List Pt) : (ptCs l).length = l.length * 2 := by
  induction l with
  | nil => rfl
  | cons p l ih =>
    have : ptCs (p :: l) = .int .i64 p.1 :: .string p.2 :: ptCs l := rfl
    rw [this, List.length_cons, List.length_cons, ih, List.length_cons]; omega
theorem ptCs_get (l : List Pt) (i : Nat) (p : Pt) (h : l[i]? = some p) : (ptCs l)[i * 2]? = some (.int .i64 p.1) ∧ (ptCs l)[i * 2 + 1]? = some (.string p.2) := by
  induction l generalizing i with
  | nil => cases h
  | cons q l ih =>
    have e : ptCs (q :: l) = .int .i64 q.1 :: .string q.2 :: ptCs l := rfl
    rw [e]
    cases i with
    | zero => injection h with h; subst h; exact ⟨rfl, rfl⟩
    | succ i =>
      have := ih i (by simpa using h)
      rw [show (i + 1) * 2 = i * 2 + 1 + 1 by omega, show i * 2 + 1 + 1 + 1 = (i * 2 + 1) + 1 + 1 by omega]
      simpa using this
theorem pt_owns {w : World} {base n cap : Nat} {A : Option Addr} {l : List Pt} (h : w.ownsRow base 44 2 (.slice A n cap) n (ptCs l)) (hl : l.length = n) : PtRd w A n l := by
  refine ⟨hl, fun hn => ?_⟩
  rcases h.2 with ⟨_, h0⟩ | ⟨g, c, cur, hv, _⟩
  · omega
  · injection hv with h1 h2 h3
    subst h1
    refine ⟨g, 0, rfl, fun i p hp => ?_⟩
    have hg := ptCs_get l i p hp
    have a1 := h.cells (g := g) rfl _ _ hg.1
    have a2 := h.cells (g := g) rfl _ _ hg.2
    rw [Addr.add_lit] at a1 a2
    simp only [Nat.zero_add] at a1 a2 ⊢
    exact ⟨a1, a2⟩
theorem pk_full {l : List Pt} {k i : Nat} (h : k ≤ (pk l k i).length) : ∀ N, i ≤ N → pk l k N = pk l k i := by
  intro N hN
  induction N with
  | zero => obtain rfl : i = 0 := by omega
            rfl
  | succ N ih =>
    rcases Nat.lt_or_ge N i with h1 | h1
    · obtain rfl : i = N + 1 := by omega
      rfl
    · rw [pk_no (.inr (by rw [ih h1]; exact h)), ih h1]
def isV (l : List Pt) (i : Nat) : Value := .bool (getM l (i : Int)).isSome
def txV (l : List Pt) (i : Nat) : Value := .string (txtL l i)
def Arrs (w : World) (gT gX N : Nat) (l : List Pt) : Prop := Blk w gT 4 (tabA N (isV l)) ∧ Blk w gX 9 (tabA N (txV l))
theorem getM_app (l : List Pt) (x : Pt) (i : Int) : getM (l ++ [x]) i = match getM l i with | some p => some p | none => if x.1 = i then some x else none := by
  unfold getM
  rw [List.find?_append]
  cases List.find? (fun p => decide (p.1 = i)) l with
  | some p => rfl
  | none => by_cases h : x.1 = i <;> simp [h]
theorem Arrs.put {w : World} {gT gX N z j xi : Nat} {l : List Pt} {x2 : ByteArray} (h : Arrs w gT gX N (l.take j)) (hb : badB N z (l.take j) ((xi : Int), x2) = false) (htk : l.take (j + 1) = l.take j ++ [((xi : Int), x2)]) (hx : xi < N) {w' : World} (hne : gX ≠ gT) (nq : Nat) :
    Arrs (((w.drewN nq).setCell ⟨gT, xi, none⟩ (.bool true)).setCell ⟨gX, xi, none⟩ (.string x2)) gT gX N (l.take (j + 1)) := by
  obtain ⟨h1, h2⟩ := h
  have e1 : tabA N (isV (l.take (j + 1))) = (tabA N (isV (l.take j))).setIfInBounds xi (.bool true) := by
    refine (tabA_set N _ _ xi _ hx fun i _ => ?_).symm
    unfold isV
    rw [htk, getM_app]
    by_cases hi : i = xi
    · subst hi; rw [if_pos rfl]
      cases getM (l.take j) (i : Int) <;> simp
    · rw [if_neg hi]
      cases getM (l.take j) (i : Int) with
      | some p => rfl
      | none => rw [if_neg (by simp; omega)]
  have e2 : tabA N (txV (l.take (j + 1))) = (tabA N (txV (l.take j))).setIfInBounds xi (.string x2) := by
    refine (tabA_set N _ _ xi _ hx fun i _ => ?_).symm
    unfold txV txtL
    rw [htk, getM_app]
    by_cases hi : i = xi
    · subst hi; rw [if_pos rfl]
      cases hg : getM (l.take j) (i : Int) with
      | none => simp
      | some p =>
        unfold badB at hb
        rw [hg] at hb
        simp at hb
        simp [hb.2]
    · rw [if_neg hi]
      cases getM (l.take j) (i : Int) with
      | some p => rfl
      | none => rw [if_neg (by simp; omega)]
  refine ⟨?_, ?_⟩
  · rw [e1]
    exact (Blk.set_ (w := w.drewN nq) h1 xi (.bool true)).far (p := ⟨gX, xi, none⟩) (fun e => hne e.symm) _
  · rw [e2]
    exact (Blk.far (w := w.drewN nq) h2 (p := ⟨gT, xi, none⟩) hne _).set_ xi _
set_option maxHeartbeats 4000000 in
set_option maxRecDepth 100000 in
theorem rfirsts_any (k r : Nat) (hk : 1 ≤ k) (h : k + r ≤ 32) (A : Option Addr) (n cap : Nat) (l : List Pt) (w : World) (hr : PtRd w A n l) (hn : n ≤ 1048576) (hz : ∀ p ∈ l, p.2.size ≤ 1048576) (hi : ∀ p ∈ l, -9223372036854775808 ≤ p.1 ∧ p.1 ≤ 9223372036854775807) :
    Calls Try.prog 30 #[.int .i64 k, .int .i64 r, .slice A n cap] w (RFirstsIs k r l w) := by
  have hlen : l.length = n := hr.1
  obtain ⟨i0, hi0, hz0, hz1, hz2⟩ := info_parts info4
  obtain ⟨i1, hj0, hj1, hj2, hj3⟩ := info_parts info9
  go_enter Try.func30, Try.ntmps30
  go_wp2_with (first
    | (at_make; refine wpList_make_tab rfl _ _ 94 rfl 4 i0 (.bool false) Try.underlying94 hi0 hz0 hz1 rfl _ _ (k + r) rfl rfl (by rw [hz2]; omega) (by omega) ?_)
    | (at_make; refine wpList_make_tab rfl _ _ 23 rfl 9 i1 (.string { data := #[] }) Try.underlying23 hj0 hj1 hj2 rfl _ _ (k + r) rfl rfl (by rw [hj3]; omega) (by omega) ?_))
  have hBT0 : Arrs ((w.alloc (.cells (tabA (k + r) (fun _ => Value.bool false)) 4)).alloc (.cells (tabA (k + r) (fun _ => Value.string { data := #[] })) 9)) w.heap.size (w.heap.size + 1) (k + r) (l.take 0) := by
    refine ⟨(Blk.new w 4 _).alloc _, ?_⟩
    have := Blk.new (w.alloc (.cells (tabA (k + r) (fun _ => Value.bool false)) 4)) 9 (tabA (k + r) (fun _ => Value.string { data := #[] }))
    rwa [show (w.alloc (.cells (tabA (k + r) (fun _ => Value.bool false)) 4)).heap.size = w.heap.size + 1 by simp] at this
  have hE0 := ((Ext.refl w).alloc (.cells (tabA (k + r) (fun _ => Value.bool false)) 4)).alloc (.cells (tabA (k + r) (fun _ => Value.string { data := #[] })) 9)
  obtain ⟨gT, hT⟩ : ∃ g, g = w.heap.size := ⟨_, rfl⟩
  obtain ⟨gX, hX⟩ : ∃ g, g = w.heap.size + 1 := ⟨_, rfl⟩
  have hgT : w.heap.size ≤ gT := by omega
  have hgX : w.heap.size ≤ gX := by omega
  have hne : gX ≠ gT := by omega
  rw [← hX, ← hT] at hBT0
  rw [← hX, ← hT]
  generalize (w.alloc (.cells (tabA (k + r) (fun _ => Value.bool false)) 4)).alloc (.cells (tabA (k + r) (fun _ => Value.string { data := #[] })) 9) = W0 at *
  clear hX hT
  go_loopw [6, 7, 10] (fun v6 v7 iv wr => v6 = .slice none 0 0 ∧ v7 = .int .i64 0 ∧ ∃ j : Nat, j ≤ n ∧ iv = .int .i64 j ∧ Ext w wr ∧ Arrs wr gT gX (k + r) (l.take j) ∧ okTo (k + r) l j) (fun _ _ iv _ => n - (intOf iv).toNat)
  case atStart => exact ⟨rfl, rfl, 0, by omega, rfl, hE0, hBT0, fun i hi => by omega⟩
  case round =>
    obtain ⟨rfl, rfl, j, hj, rfl, hE, hBT, hok⟩ := hrel
    clear hE0 hBT0
    by_cases hj2 : j < n
    · obtain ⟨gs, os, rfl, hcl⟩ := hr.2 (by omega)
      have hlj : j < l.length := by omega
      have hx := List.getElem?_eq_getElem hlj
      have hmem := List.getElem_mem hlj
      have htk : l.take (j + 1) = l.take j ++ [l[j]'hlj] := List.take_succ_eq_append_getElem hlj
      obtain ⟨hc1, hc2⟩ := hcl j _ hx
      replace hc1 := hE.cellv hc1
      replace hc2 := hE.cellv hc2
      generalize l[j]'hlj = x at *
      obtain ⟨x1, x2⟩ := x
      have hgs : gs < w.heap.size := block_lt_of_cell (hcl j _ hx).1
      simp only at hc1 hc2
      have kk : (j : Int) < (n : Int) := by omega
      have kk0 : (0 : Int) ≤ (j : Int) := by omega
      by_cases hn0 : x1 < 0
      · have hbad : badB (k + r) (zL l) (l.take j) (x1, x2) = true := by unfold badB; simp [hn0]
        have HN := Lib.hid (ok_not hlj hx hbad)
        clear hok hbad
        go_wp2_with fail
        go_quiet (fail)
        go_wp2
        go_ret2
        exact .inl ⟨HN.out, rfl, hE.drewN _⟩
      have d1 : decide (x1 < 0) = false := by simpa using hn0
      by_cases hn1 : (k : Int) + (r : Int) ≤ x1
      · have hbad : badB (k + r) (zL l) (l.take j) (x1, x2) = true := by unfold badB; simp; omega
        have HN := Lib.hid (ok_not hlj hx hbad)
        clear hok hbad
        go_wp2_with fail
        go_quiet (fail)
        go_wp2
        go_ret2
        exact .inl ⟨HN.out, rfl, hE.drewN _⟩
      have d2 : decide ((k : Int) + (r : Int) ≤ x1) = false := by simpa using hn1
      obtain ⟨xi, rfl⟩ : ∃ xi : Nat, x1 = (xi : Int) := ⟨x1.toNat, by omega⟩
      have hxN : xi < k + r := by omega
      obtain ⟨x0, hx0⟩ : ∃ x0, l[0]? = some x0 := ⟨_, List.getElem?_eq_getElem (by omega)⟩
      have hz0 : zL l = x0.2.size := by unfold zL; rw [List.getD_eq_getElem?_getD, hx0]; rfl
      have hc0 := hE.cellv (hcl 0 _ hx0).2
      simp only [Nat.zero_mul, Nat.add_zero] at hc0
      have e0 : 0 < n := by omega
      have e1 : (0 : Int) < (n : Int) := by omega
      by_cases hn2 : x2.size ≠ x0.2.size
      · have d3 : ((x2.size : Int) != (x0.2.size : Int)) = true := by simp; omega
        have hbad : badB (k + r) (zL l) (l.take j) ((xi : Int), x2) = true := by unfold badB; simp; exact .inl (.inr (by omega))
        have HN := Lib.hid (ok_not hlj hx hbad)
        clear hok hbad
        go_wp2_with fail
        go_quiet (fail)
        go_wp2
        go_ret2
        exact .inl ⟨HN.out, rfl, hE.drewN _⟩
      have d3 : ((x2.size : Int) != (x0.2.size : Int)) = false := by simp; omega
      have ii : (xi : Int) < (k : Int) + (r : Int) := by omega
      have ii0 : (0 : Int) ≤ (xi : Int) := by omega
      have cT : wr.cell? ⟨gT, xi, none⟩ = some (.bool (getM (l.take j) (xi : Int)).isSome) := by rw [hBT.1.cell, tabA_at _ _ _ hxN]; rfl
      have cX : wr.cell? ⟨gX, xi, none⟩ = some (.string (txtL (l.take j) xi)) := by rw [hBT.2.cell, tabA_at _ _ _ hxN]; rfl
      cases hg : getM (l.take j) (xi : Int) with
      | none =>
        rw [hg] at cT
        simp only [Option.isSome_none] at cT
        have hbad : badB (k + r) (zL l) (l.take j) ((xi : Int), x2) = false := by unfold badB; rw [hg]; simp; omega
        have HOK := Lib.hid (ok_next hok hx hbad)
        have HBT := Lib.hid (fun nq => hBT.put hbad htk hxN hne nq (w' := wr))
        have HBT0 := Lib.hid hBT
        clear hok hbad htk hBT
        go_wp2_with fail
        go_quiet (fail)
        have hfT : (wr.drewN nq).frozen? ⟨gT, xi, none⟩ = false := HBT0.out.1.frozen xi
        have hc2' : ((wr.drewN nq).setCell ⟨gT, xi, none⟩ (.bool true)).cell? ⟨gs, os + j * 2 + 1, none⟩ = some (.string x2) := (World.cell?_setCell_other _ _ _ _ (by intro h; injection h with h; omega)).trans hc2
        have hcX' : ((wr.drewN nq).setCell ⟨gT, xi, none⟩ (.bool true)).cell? ⟨gX, xi, none⟩ = (wr.drewN nq).cell? ⟨gX, xi, none⟩ := World.cell?_setCell_other _ _ _ _ (by intro h; injection h with h; exact hne (by omega))
        have hcX2 := hcX'.trans cX
        have hfX : ((wr.drewN nq).setCell ⟨gT, xi, none⟩ (.bool true)).frozen? ⟨gX, xi, none⟩ = false := (HBT0.out.2.far (p := ⟨gT, xi, none⟩) hne _).frozen xi
        go_wp2
        go_roundw
        case rel => exact ⟨rfl, rfl, j + 1, by omega, by go_num, ((hE.drewN _).setCell (by exact hgT) _).setCell (by exact hgX) _, HBT.out nq, HOK.out⟩
        case measure => simp [intOf]; omega
      | some q =>
        obtain ⟨qi, qt⟩ := q
        have htx : txtL (l.take j) xi = qt := by unfold txtL; rw [hg]; rfl
        rw [hg] at cT
        simp only [Option.isSome_some] at cT
        rw [htx] at cX
        clear htx
        by_cases hq : qt = x2
        · subst hq
          have hbad : badB (k + r) (zL l) (l.take j) ((xi : Int), qt) = false := by unfold badB; rw [hg]; simp; omega
          have HOK := Lib.hid (ok_next hok hx hbad)
          have HBT := Lib.hid (fun nq => hBT.put hbad htk hxN hne nq (w' := wr))
          have HBT0 := Lib.hid hBT
          clear hok hbad htk hBT
          go_wp2_with fail
          go_quiet (fail)
          have hfT : (wr.drewN nq).frozen? ⟨gT, xi, none⟩ = false := HBT0.out.1.frozen xi
          have hc2' : ((wr.drewN nq).setCell ⟨gT, xi, none⟩ (.bool true)).cell? ⟨gs, os + j * 2 + 1, none⟩ = some (.string qt) := (World.cell?_setCell_other _ _ _ _ (by intro h; injection h with h; omega)).trans hc2
          have hcX' : ((wr.drewN nq).setCell ⟨gT, xi, none⟩ (.bool true)).cell? ⟨gX, xi, none⟩ = (wr.drewN nq).cell? ⟨gX, xi, none⟩ := World.cell?_setCell_other _ _ _ _ (by intro h; injection h with h; exact hne (by omega))
          have hcX2 := hcX'.trans cX
          have hfX : ((wr.drewN nq).setCell ⟨gT, xi, none⟩ (.bool true)).frozen? ⟨gX, xi, none⟩ = false := (HBT0.out.2.far (p := ⟨gT, xi, none⟩) hne _).frozen xi
          go_wp2
          go_roundw
          case rel => exact ⟨rfl, rfl, j + 1, by omega, by go_num, ((hE.drewN _).setCell (by exact hgT) _).setCell (by exact hgX) _, HBT.out nq, HOK.out⟩
          case measure => simp [intOf]; omega
        · have d4 := str_ne hq
          have hbad : badB (k + r) (zL l) (l.take j) ((xi : Int), x2) = true := by unfold badB; rw [hg]; simp [hq]
          have HN := Lib.hid (ok_not hlj hx hbad)
          clear hok hbad
          go_wp2_with fail
          go_quiet (fail)
          go_wp2
          go_ret2
          exact .inl ⟨HN.out, rfl, hE.drewN _⟩
    · obtain rfl : j = n := by omega
      have htk : l.take j = l := List.take_of_length_le (by omega)
      rw [htk] at hBT
      have hokl : okTo (k + r) l l.length := by rw [hlen]; exact hok
      have HOK := Lib.hid hokl
      clear hok hokl htk
      obtain ⟨w1, hw1⟩ : ∃ w1 : World, w1 = wr := ⟨_, rfl⟩
      have HE1 := Lib.hid (show Ext w w1 by rw [hw1]; exact hE)
      have HBT := Lib.hid (show Arrs w1 gT gX (k + r) l by rw [hw1]; exact hBT)
      have hEx0 : Ext w1 wr := by rw [hw1]; exact Ext.refl _
      clear hw1 hE hBT
      go_wp2
      go_loopw [12, 13] (fun ov iv wr => ∃ i : Nat, i ≤ k + r ∧ iv = .int .i64 i ∧ Ext w1 wr ∧ ∃ (m : Nat) (A3 : Option Addr) (c3 : Nat), (pk l k i).length = m ∧ ov = .slice A3 m c3 ∧ wr.ownsRow w1.heap.size 44 2 (.slice A3 m c3) m (ptCs ((pk l k i).map (fun (i : Nat) => ((i : Int), txtL l i))))) (fun _ iv _ => k + r - (intOf iv).toNat)
      case atStart => exact ⟨0, by omega, rfl, hEx0, 0, none, 0, by simp [pk], rfl, by simpa [pk, ptCs] using World.ownsRow_nil _ _ _ _⟩
      case round =>
        obtain ⟨i, hi2, rfl, hEx, m, A3, c3, hm, rfl, hown⟩ := hrel
        clear hEx0
        have HMm := Lib.hid hm
        have HO := Lib.hid hown
        have hmle : m ≤ k := by rw [← hm]; unfold pk; rw [List.length_take]; omega
        clear hm hown
        by_cases hi3 : i < k + r
        · have d1 : decide ((i : Int) < (k : Int) + (r : Int)) = true := by simp; omega
          have ii : (i : Int) < (k : Int) + (r : Int) := by omega
          have ii0 : (0 : Int) ≤ (i : Int) := by omega
          by_cases hmk : m < k
          · have d2 : decide ((m : Int) < (k : Int)) = true := by simp; omega
            have cT : wr.cell? ⟨gT, i, none⟩ = some (.bool (getM l (i : Int)).isSome) := hEx.cellv (by rw [HBT.out.1.cell, tabA_at _ _ _ hi3]; rfl)
            have cX : wr.cell? ⟨gX, i, none⟩ = some (.string (txtL l i)) := hEx.cellv (by rw [HBT.out.2.cell, tabA_at _ _ _ hi3]; rfl)
            cases hg : (getM l (i : Int)).isSome with
            | false =>
              rw [hg] at cT
              have HPK := Lib.hid (pk_no (l := l) (k := k) (i := i) (.inl hg))
              go_wp2
              go_roundw
              case rel => exact ⟨i + 1, by omega, by go_num, hEx, m, A3, c3, by rw [HPK.out]; exact HMm.out, rfl, by rw [HPK.out]; exact HO.out⟩
              case measure => simp [intOf]; omega
            | true =>
              rw [hg] at cT
              have HPK := Lib.hid (pk_yes (l := l) (k := k) (i := i) hg (by rw [HMm.out]; exact hmk))
              have hwz := hEx.sz
              obtain ⟨tx, htx⟩ : ∃ tx, txtL l i = tx := ⟨_, rfl⟩
              rw [htx] at cX
              have HTX := Lib.hid htx
              clear htx
              go_wp2_with (at_builtin; refine wpList_app wr rfl _ _ 34 44 rfl Try.underlying34 (ptV (0, { data := #[] })) [.int .i64 i, .string tx] 2 24 info44 rfl rfl (by decide) (by decide) w1.heap.size (.slice A3 m c3) m (ptCs ((pk l k i).map (fun (i : Nat) => ((i : Int), txtL l i)))) rfl HO.out (fun u hu => by simp only [List.mem_cons, List.not_mem_nil, or_false] at hu; rcases hu with rfl | rfl <;> rfl) _ rfl rfl (by omega) (by omega) ?_; intro g4 c4 w4 hown4 hG4 hg4)
              go_wp2
              go_roundw
              case rel => exact ⟨i + 1, by omega, by go_num, hG4.ext hEx (Nat.le_refl _), m + 1, _, c4, by rw [HPK.out, List.length_append, HMm.out]; rfl, rfl, by rw [HPK.out, List.map_append, ptCs_app]; simp only [List.map_cons, List.map_nil, HTX.out]; exact hown4⟩
              case measure => simp [intOf]; omega
          · obtain rfl : m = k := by omega
            have d2 : decide ((m : Int) < (m : Int)) = false := by simp
            have hpk : pk l m (m + r) = pk l m i := pk_full (by rw [HMm.out]; omega) _ hi2
            have HKP := Lib.hid (show (idxs (m + r) l).take m = pk l m i from hpk)
            clear hpk
            have e9 : m ≤ (idxs (m + r) l).length := by
              have := congrArg List.length HKP.out
              rw [List.length_take, HMm.out] at this; omega
            have HC := Lib.hid e9
            clear e9
            go_wp2
            go_ret2
            exact .inr (.inr ⟨HOK.out, HC.out, A3, c3, rfl, by rw [HKP.out]; exact pt_owns HO.out (by rw [List.length_map]; exact HMm.out), HE1.out.trans hEx⟩)
        · obtain rfl : i = k + r := by omega
          have d1 : decide ((k : Int) + (r : Int) < (k : Int) + (r : Int)) = false := by simp
          have e1 : ((k + r : Nat) : Int) = (k : Int) + (r : Int) := by omega
          have HKP := Lib.hid (show (idxs (k + r) l).take k = pk l k (k + r) from rfl)
          have hmc : m = min k (idxs (k + r) l).length := by rw [← HMm.out, ← HKP.out, List.length_take]
          by_cases hmk : m < k
          · have d2 : decide ((m : Int) < (k : Int)) = true := by simp; omega
            have HC := Lib.hid (show (idxs (k + r) l).length < k by omega)
            clear hmc
            go_wp2
            go_ret2
            exact .inr (.inl ⟨HOK.out, HC.out, rfl, HE1.out.trans hEx⟩)
          · obtain rfl : m = k := by omega
            have d2 : decide ((m : Int) < (m : Int)) = false := by simp
            have HC := Lib.hid (show m ≤ (idxs (m + r) l).length by omega)
            clear hmc
            go_wp2
            go_ret2
            exact .inr (.inr ⟨HOK.out, HC.out, A3, c3, rfl, by rw [HKP.out]; exact pt_owns HO.out (by rw [List.length_map]; exact HMm.out), HE1.out.trans hEx⟩)
end Go.Proofs.Ytjdppgogdilgkaa
end
section
namespace Go.Proofs.Ytjdppgogdilgkaa
open Go.RowKit Go.Gf
set_option linter.unusedVariables false
set_option linter.unusedSimpArgs false
section
variable {ops : Array Oper} {rest : List Oper} {a : Act} {Q : Exit → Act → World → Prop}
set_option maxRecDepth 100000 in
theorem wpList_app1 {o : Oper} (w : World) (hgd : o.guard = none) (s x : Operand) (t : TypeId) (ho : o.op = .call { callee := .builtin .append, args := #[s, x], argTypes := #[t, t] })
    (ht : Try.prog.underlying t = some (.slice 9)) (base : Nat) (v : Value) (xs : List Value) (hs : a.eval s = v) (hown : w.ownsRow base 9 1 v xs.length xs) (hbase : base ≤ w.heap.size)
    (H : Nat) (y : ByteArray) (hx : a.eval x = .slice (some ⟨H, 0, none⟩) 1 1) (hH : w.cell? ⟨H, 0, none⟩ = some (.string y)) (hn : xs.length ≤ 1000)
    (h : ∀ v' w', w'.ownsRow base 9 1 v' (xs ++ [Value.string y]).length (xs ++ [Value.string y]) → w.grownBy w' v.ownBlock → (v'.ownBlock = v.ownBlock ∨ v'.ownBlock = some w.heap.size) → wpList Try.prog ops Q rest (a.put o.dst v') w') :
    wpList Try.prog ops Q (o :: rest) a w := by
  refine wpList_plain hgd fun K hK => ?_
  have := step_app1 (E := False) (K := K) (Q := Q) (ops := ops) (a := a) w hgd s x t ho ht base v xs hs hown hbase H y hx hH hn fun v' w' h1 h2 h3 => hK _ _ (h v' w' h1 h2 h3)
  rwa [if_pos (by simp [Region.wanted, hgd])] at this
end
def rowsM (k r : Nat) (l : List Pt) : List ByteArray := l.map (fun p => (everyM k r).getD p.1.toNat { data := #[] })
noncomputable def solvedV (k r : Nat) (l : List Pt) : List ByteArray := (List.range k).map (fun i => sumV ((undoV (rowsM k r l)).getD i { data := #[] }) (l.map (·.2)))
theorem everyM_len (k r : Nat) : (everyM k r).length = k + r := by unfold everyM; rw [List.length_append, unitM_len, mkM_len]
theorem everyM_size (k r : Nat) (s : ByteArray) (h : s ∈ everyM k r) : s.size = k := by
  unfold everyM at h
  rcases List.mem_append.1 h with h | h
  · exact mkM_mem _ _ _ s h
  · exact mkM_mem _ _ _ s h
theorem undoV_size (l : List ByteArray) : ∀ s ∈ undoV l, s.size ≤ 1048576 := by
  intro s hs
  unfold undoV at hs
  split at hs
  · next h =>
    split at hs
    · have := mkM_mem _ _ _ s hs
      have := h.1.1.2
      omega
    · cases hs
  · cases hs
theorem rowsM_take (k r : Nat) (l : List Pt) (i : Nat) : rowsM k r (l.take i) = (rowsM k r l).take i := by unfold rowsM; rw [List.map_take]
set_option maxHeartbeats 4000000 in
set_option maxRecDepth 100000 in
theorem rsolved_any (k r : Nat) (hk : 1 ≤ k) (h : k + r ≤ 32) (A : Option Addr) (cap : Nat) (l : List Pt) (w : World) (hr : PtRd w A k l) (hi : ∀ p ∈ l, 0 ≤ p.1 ∧ p.1 < (k : Int) + (r : Int)) (hz : ∀ p ∈ l, p.2.size ≤ 1048576) (hu : (undoV (rowsM k r l)).length = k) :
    Calls Try.prog 31 #[.int .i64 k, .int .i64 r, .slice A k cap] w fun e w' => ∃ (B : Option Addr) (c : Nat), e = .returned (.slice B k c) ∧ Rd w' B k ((solvedV k r l).map Value.string) ∧ Ext w w' := by
  have hlen : l.length = k := hr.1
  have HU := Lib.hid hu
  have HEL := Lib.hid (everyM_len k r)
  clear hu
  go_enter Try.func31, Try.ntmps31
  go_wp2_with (go_at_call 25; refine (rall_any k r hk h _).mono ?_; rintro e w1 ⟨A1, c1, rfl, hown, hE1⟩)
  have HR := Lib.hid (rd_owns hown)
  have hT0 : Two w1 w1.heap.size (.slice none 0 0) [] (.slice none 0 0) [] := ⟨World.ownsRow_nil _ _ _ _, World.ownsRow_nil _ _ _ _, fun g h => by cases h⟩
  clear hown
  have hEx0 := Ext.refl w1
  go_loopw [8, 9, 10] (fun mv tv iv wr => ∃ i : Nat, i ≤ k ∧ iv = .int .i64 i ∧ Ext w1 wr ∧ ∃ (A3 B3 : Option Addr) (c3 d3 : Nat), mv = .slice A3 i c3 ∧ tv = .slice B3 i d3 ∧ Two wr w1.heap.size (.slice A3 i c3) (((rowsM k r l).take i).map Value.string) (.slice B3 i d3) (((l.map (·.2)).take i).map Value.string)) (fun _ _ iv _ => k - (intOf iv).toNat)
  case atStart => exact ⟨0, by omega, rfl, hEx0, none, none, 0, 0, rfl, rfl, by simpa using hT0⟩
  case round =>
    obtain ⟨i, hi2, rfl, hEx, A3, B3, c3, d3, rfl, rfl, hT⟩ := hrel
    clear hT0 hEx0
    have HT := Lib.hid hT
    clear hT
    by_cases hi3 : i < k
    · obtain ⟨gs, os, rfl, hcl⟩ := hr.2 (by omega)
      have hli : i < l.length := by omega
      have hx := List.getElem?_eq_getElem hli
      have hmem := List.getElem_mem hli
      have hRT : (rowsM k r l).take (i + 1) = (rowsM k r l).take i ++ [(everyM k r).getD (l[i]'hli).1.toNat { data := #[] }] := by
        rw [List.take_succ_eq_append_getElem (by simp [rowsM]; omega)]
        simp only [rowsM, List.getElem_map]
      have hTT : (l.map (·.2)).take (i + 1) = (l.map (·.2)).take i ++ [(l[i]'hli).2] := by
        rw [List.take_succ_eq_append_getElem (by simp; omega)]
        simp only [List.getElem_map]
      obtain ⟨hc1, hc2⟩ := hcl i _ hx
      have hgs : gs < w.heap.size := block_lt_of_cell hc1
      replace hc1 := hEx.cellv (hE1.cellv hc1)
      replace hc2 := hEx.cellv (hE1.cellv hc2)
      have hin := hi _ hmem
      generalize l[i]'hli = x at *
      obtain ⟨x1, x2⟩ := x
      simp only at hc1 hc2 hin hRT hTT
      obtain ⟨xi, rfl⟩ : ∃ xi : Nat, x1 = (xi : Int) := ⟨x1.toNat, by omega⟩
      have hxN : xi < k + r := by omega
      obtain ⟨ga, oa, rfl, hga, hca⟩ := HR.out.at_ hxN
      replace hca := hEx.cellv hca
      simp only [List.getElem_map] at hca
      have hgd := getD_at (everyM k r) xi (by rw [HEL.out]; exact hxN)
      rw [← hgd] at hca
      simp only [Int.toNat_natCast] at hRT
      generalize (everyM k r).getD xi { data := #[] } = row at *
      have HRT := Lib.hid hRT
      have HTT := Lib.hid hTT
      have HXS := Lib.hid (show (((rowsM k r l).take i).map Value.string).length = i by simp [rowsM]; omega)
      have HYS := Lib.hid (show (((l.map (·.2)).take i).map Value.string).length = i by simp; omega)
      clear hRT hTT hgd
      have ii : (i : Int) < (k : Int) := by omega
      have ii0 : (0 : Int) ≤ (i : Int) := by omega
      have xx : (xi : Int) < (k : Int) + (r : Int) := by omega
      have xx0 : (0 : Int) ≤ (xi : Int) := by omega
      have hwz := hEx.sz
      go_wp2_with (first
        | (at_builtin; refine wpList_app1 (wr.alloc (.cells #[.string row] 9)) rfl _ _ 50 rfl Try.underlying50 w1.heap.size (.slice A3 i c3) (((rowsM k r l).take i).map Value.string) rfl (by have := HT.out.a.alloc (.cells #[.string row] 9); rw [HXS.out] at this ⊢; exact this) (by simp; omega) _ row rfl (cell_a _ _ _) (by rw [HXS.out]; omega) ?_; intro v3 w3 hown3 hg3 hb3; have HT3 := Lib.hid (Two.put1 (HT.out.alloc _) hown3 hg3 hb3); have hE3 : Ext w1 w3 := Ext.grown (hEx.alloc _) hg3 HT.out.a.blockGe; have hc3 := hg3.cell (((Ext.refl _).alloc _).cellv hc2) (fun e => absurd (HT.out.a.blockGe _ e.symm : w1.heap.size ≤ gs) (by have := hE1.sz; omega)); obtain ⟨A4, c4, rfl⟩ := own_val2 hown3)
        | (at_builtin; refine wpList_app1 (w3.alloc (.cells #[.string x2] 9)) rfl _ _ 23 rfl Try.underlying23 w1.heap.size (.slice B3 i d3) (((l.map (·.2)).take i).map Value.string) rfl (by have := HT3.out.b.alloc (.cells #[.string x2] 9); rw [HYS.out] at this ⊢; exact this) (by have := hE3.sz; simp; omega) _ x2 rfl (cell_a _ _ _) (by rw [HYS.out]; omega) ?_; intro v5 w5 hown5 hg5 hb5; have HT5 := Lib.hid (Two.put2 (HT3.out.alloc _) hown5 hg5 hb5); have hE5 : Ext w1 w5 := Ext.grown (hE3.alloc _) hg5 HT3.out.b.blockGe; obtain ⟨B4, d4, rfl⟩ := own_val2 hown5))
      go_wp2
      go_roundw
      case rel => exact ⟨i + 1, by omega, by go_num, hE5, A4, B4, c4, d4, by have := HXS.out; simp at this ⊢; first | done | omega, by have := HYS.out; simp at this ⊢; first | done | omega, by rw [HRT.out, HTT.out, List.map_append, List.map_append]; have := HT5.out; rw [List.length_append, List.length_append, HXS.out, HYS.out] at this; exact this⟩
      case measure => simp [intOf]; omega
    · obtain rfl : i = k := by omega
      have hm1 : (rowsM i r l).take i = rowsM i r l := List.take_of_length_le (by simp [rowsM]; omega)
      have hm2 : (l.map (·.2)).take i = l.map (·.2) := List.take_of_length_le (by simp; omega)
      have hrm : Rd wr A3 i ((rowsM i r l).map Value.string) := by have := rd_owns' HT.out.a; rw [hm1, List.length_map, show (rowsM i r l).length = i by unfold rowsM; rw [List.length_map]; exact hlen] at this; exact this
      have hrt : Rd wr B3 i ((l.map (·.2)).map Value.string) := by have := rd_owns' HT.out.b; rw [hm2, List.length_map, show (l.map (·.2)).length = i by rw [List.length_map]; exact hlen] at this; exact this
      have hz1 : ∀ s ∈ rowsM i r l, s.size ≤ 1048576 := fun s hs => by
        obtain ⟨p, hp, rfl⟩ := List.mem_map.1 hs
        have hin := hi p hp
        have := everyM_size i r ((everyM i r).getD p.1.toNat { data := #[] }) (by
          have h1 : p.1.toNat < (everyM i r).length := by rw [HEL.out]; omega
          rw [getD_at _ _ h1]; exact List.getElem_mem h1)
        omega
      have hz2 : ∀ s ∈ l.map (·.2), s.size ≤ 1048576 := fun s hs => by
        obtain ⟨p, hp, rfl⟩ := List.mem_map.1 hs
        exact hz p hp
      have HZ1 := Lib.hid hz1
      have HZ2 := Lib.hid hz2
      have HRM := Lib.hid hrm
      have HRT := Lib.hid hrt
      have HUZ := Lib.hid (undoV_size (rowsM i r l))
      clear hz1 hz2 hrm hrt hm1 hm2
      obtain ⟨UV, hUV⟩ : ∃ UV, undoV (rowsM i r l) = UV := ⟨_, rfl⟩
      have HS := Lib.hid (show solvedV i r l = (List.range i).map (fun j => sumV (UV.getD j { data := #[] }) (l.map (·.2))) by unfold solvedV; rw [hUV])
      go_wp2_with (go_at_call 53; refine (rundo_any A3 i c3 _ _ HRM.out (by omega) HZ1.out).mono ?_; rintro e w4 ⟨A4, n4, c4, rfl, hn4, hr4, hE4⟩; rw [HU.out] at hn4; subst hn4; rw [hUV] at hr4)
      have HUL := Lib.hid (show UV.length = n4 by rw [← hUV]; exact HU.out)
      have HUZ2 := Lib.hid (show ∀ s ∈ UV, s.size ≤ 1048576 by rw [← hUV]; exact HUZ.out)
      have HR4 := Lib.hid hr4
      have HRT4 := Lib.hid (HRT.out.ext hE4)
      have hE14 := hEx.trans hE4
      clear hUV hr4 HUZ
      have hEy0 := Ext.refl w4
      go_loopw [13, 14] (fun ov jv wr => ∃ j : Nat, j ≤ n4 ∧ jv = .int .i64 j ∧ Ext w4 wr ∧ ∃ (A5 : Option Addr) (c5 : Nat), ov = .slice A5 j c5 ∧ wr.ownsRow w4.heap.size 9 1 (.slice A5 j c5) j (((List.range j).map (fun j => sumV (UV.getD j { data := #[] }) (l.map (·.2)))).map Value.string)) (fun _ jv _ => n4 - (intOf jv).toNat)
      case atStart => exact ⟨0, by omega, rfl, hEy0, none, 0, rfl, World.ownsRow_nil _ _ _ _⟩
      case round =>
        obtain ⟨j, hj, rfl, hEy, A5, c5, rfl, hown⟩ := hrel
        clear hEy0
        have HO := Lib.hid hown
        clear hown
        by_cases hj2 : j < n4
        · obtain ⟨gu, ou, rfl, hgu, hcu⟩ := HR4.out.at_ hj2
          replace hcu := hEy.cellv hcu
          simp only [List.getElem_map] at hcu
          have hgd := getD_at UV j (by rw [HUL.out]; exact hj2)
          rw [← hgd] at hcu
          have hrow := HUZ2.out _ (show UV.getD j { data := #[] } ∈ UV by rw [hgd]; exact List.getElem_mem _)
          have hS : (List.range (j + 1)).map (fun j => sumV (UV.getD j { data := #[] }) (l.map (·.2))) = (List.range j).map (fun j => sumV (UV.getD j { data := #[] }) (l.map (·.2))) ++ [sumV (UV.getD j { data := #[] }) (l.map (·.2))] := by rw [List.range_succ, List.map_append]; rfl
          generalize UV.getD j { data := #[] } = row at *
          have HSS := Lib.hid hS
          have HXJ := Lib.hid (show (((List.range j).map (fun j => sumV (UV.getD j { data := #[] }) (l.map (·.2)))).map Value.string).length = j by simp)
          have HZ3 := Lib.hid hrow
          have HRT5 := Lib.hid (HRT4.out.ext hEy)
          have hwz := hEy.sz
          clear hS hrow hgd
          have jj : (j : Int) < (n4 : Int) := by omega
          have jj0 : (0 : Int) ≤ (j : Int) := by omega
          go_wp2_with (first
            | (go_at_call 26; refine (rsum_any row _ _ _ _ _ HRT5.out (by omega) HZ2.out).mono ?_; rintro e w6 ⟨rfl, hE6⟩; have hwz6 := hE6.sz)
            | (at_builtin; refine wpList_app1 _ rfl _ _ 23 rfl Try.underlying23 w4.heap.size (.slice A5 j c5) (((List.range j).map (fun j => sumV (UV.getD j { data := #[] }) (l.map (·.2)))).map Value.string) rfl (by have := (owns_ext HO.out hE6).alloc (.cells #[.string (sumV row (l.map (·.2)))] 9); rw [HXJ.out]; exact this) (by simp; omega) _ (sumV row (l.map (·.2))) (by rfl) (cell_a _ _ _) (by rw [HXJ.out]; omega) ?_; intro v7 w7 hown7 hg7 hb7; obtain ⟨A7, c7, rfl⟩ := own_val2 hown7; have hE7 : Ext w4 w7 := Ext.grown ((hEy.trans hE6).alloc _) hg7 HO.out.blockGe))
          go_wp2
          go_roundw
          case rel => exact ⟨j + 1, by omega, by go_num, hE7, A7, c7, by simp, by rw [HSS.out, List.map_append]; have := hown7; rw [List.length_append, HXJ.out] at this; exact this⟩
          case measure => simp [intOf]; omega
        · obtain rfl : j = n4 := by omega
          go_wp2
          go_ret
          exact ⟨A5, c5, rfl, by rw [HS.out]; exact rd_owns HO.out, (hE1.trans hE14).trans hEy⟩
end Go.Proofs.Ytjdppgogdilgkaa
end
section
namespace Go.Proofs.Ytjdppgogdilgkaa
open Go.RowKit Go.Gf
set_option linter.unusedVariables false
set_option linter.unusedSimpArgs false
noncomputable def rspreadV (k r : Nat) (s : ByteArray) : List ByteArray := (List.range (k + r)).map (fun i => sumV ((everyM k r).getD i { data := #[] }) (splitV k s))
theorem split_no (k : Int) (s : ByteArray) (h : canB k 0 = false) (w : World) : Calls Try.prog 8 #[.int .i64 k, .string s] w fun e w' => e = .returned (.tuple #[.slice none 0 0, .int .i64 2]) ∧ Ext w w' := by
  have HC := Lib.hid h
  clear h
  go_enter Try.func8, Try.ntmps8
  go_wp2_with (go_at_call 20; refine (can_any k 0 _).mono ?_; rintro e w1 ⟨rfl, rfl⟩; rw [HC.out])
  go_ret2
  exact ⟨rfl, Ext.refl _⟩
theorem rsplit_no (k : Int) (s : ByteArray) (h : canB k 0 = false) (w : World) : Calls Try.prog 9 #[.int .i64 k, .string s] w fun e w' => e = .returned (.tuple #[.slice none 0 0, .int .i64 2]) ∧ Ext w w' := by
  have hk : k < 1 ∨ 32 < k := by unfold canB at h; simp at h; omega
  by_cases h1 : k < 1
  · have d1 : decide (k < 1) = true := by simpa using h1
    clear hk h
    go_enter Try.func9, Try.ntmps9
    go_wp2
    go_ret2
    exact ⟨rfl, Ext.refl _⟩
  · have d1 : decide (k < 1) = false := by simpa using h1
    have d2 : decide ((32 : Int) < k) = true := by simp; omega
    have h2 : 32 < k := by omega
    clear hk h
    go_enter Try.func9, Try.ntmps9
    go_wp2
    go_ret2
    exact ⟨rfl, Ext.refl _⟩
theorem rspread_no (k r : Int) (s : ByteArray) (h : canB k r = false) (w : World) : Calls Try.prog 11 #[.int .i64 k, .int .i64 r, .string s] w fun e w' => e = .returned (.tuple #[.slice none 0 0, .int .i64 2]) ∧ Ext w w' := by
  have HC := Lib.hid h
  clear h
  go_enter Try.func11, Try.ntmps11
  go_wp2_with (go_at_call 24; refine (rcan_any k r _).mono ?_; rintro e w1 ⟨rfl, rfl⟩; rw [HC.out])
  go_ret2
  exact ⟨rfl, Ext.refl _⟩
set_option maxHeartbeats 4000000 in
set_option maxRecDepth 100000 in
theorem rspread_any (k r : Nat) (hk : 1 ≤ k) (h : k + r ≤ 32) (s : ByteArray) (hz : s.size ≤ 1048000) (w : World) :
    Calls Try.prog 11 #[.int .i64 k, .int .i64 r, .string s] w fun e w' => ∃ (A : Option Addr) (cap : Nat), e = .returned (.tuple #[.slice A (k + r) cap, .int .i64 0]) ∧ Rd w' A (k + r) ((rspreadV k r s).map Value.string) ∧ Ext w w' := by
  have HC := Lib.hid (show canB k r = true by unfold canB; simp; omega)
  have HEL := Lib.hid (everyM_len k r)
  have HES := Lib.hid (everyM_size k r)
  have hsz : ∀ x ∈ splitV k s, x.size ≤ 1048576 := fun x hx => by
    have := mkM_mem _ _ _ x hx
    have := sizeN_le k s.size hk
    omega
  have HSZ := Lib.hid hsz
  clear hsz
  go_enter Try.func11, Try.ntmps11
  go_wp2_with (first
    | (go_at_call 24; refine (rcan_any k r _).mono ?_; rintro e w1 ⟨rfl, rfl⟩; rw [HC.out])
    | (go_at_call 9; refine (rsplit_any k s ⟨hk, by omega⟩ hz _).mono ?_; rintro e w2 ⟨A2, c2, rfl, hown2, hE2⟩; have HR2 := Lib.hid (rd_owns hown2); clear hown2)
    | (go_at_call 25; refine (rall_any k r hk h _).mono ?_; rintro e w3 ⟨A3, c3, rfl, hown3, hE3⟩; have HR3 := Lib.hid (rd_owns hown3); have HR23 := Lib.hid (HR2.out.ext hE3); clear hown3))
  have hE0 := hE2.trans hE3
  have hEx0 := Ext.refl w3
  go_loopw [11, 12] (fun ov iv wr => ∃ i : Nat, i ≤ k + r ∧ iv = .int .i64 i ∧ Ext w3 wr ∧ ∃ (A5 : Option Addr) (c5 : Nat), ov = .slice A5 i c5 ∧ wr.ownsRow w3.heap.size 9 1 (.slice A5 i c5) i (((List.range i).map (fun i => sumV ((everyM k r).getD i { data := #[] }) (splitV k s))).map Value.string)) (fun _ iv _ => k + r - (intOf iv).toNat)
  case atStart => exact ⟨0, by omega, rfl, hEx0, none, 0, rfl, World.ownsRow_nil _ _ _ _⟩
  case round =>
    obtain ⟨i, hi, rfl, hEx, A5, c5, rfl, hown⟩ := hrel
    clear hEx0
    have HO := Lib.hid hown
    clear hown
    by_cases hi2 : i < k + r
    · obtain ⟨gu, ou, rfl, hgu, hcu⟩ := HR3.out.at_ hi2
      replace hcu := hEx.cellv hcu
      simp only [List.getElem_map] at hcu
      have hgd := getD_at (everyM k r) i (by rw [HEL.out]; exact hi2)
      rw [← hgd] at hcu
      have hrow := HES.out _ (show (everyM k r).getD i { data := #[] } ∈ everyM k r by rw [hgd]; exact List.getElem_mem _)
      have hS : (List.range (i + 1)).map (fun i => sumV ((everyM k r).getD i { data := #[] }) (splitV k s)) = (List.range i).map (fun i => sumV ((everyM k r).getD i { data := #[] }) (splitV k s)) ++ [sumV ((everyM k r).getD i { data := #[] }) (splitV k s)] := by rw [List.range_succ, List.map_append]; rfl
      generalize (everyM k r).getD i { data := #[] } = row at *
      have HSS := Lib.hid hS
      have HXJ := Lib.hid (show (((List.range i).map (fun i => sumV ((everyM k r).getD i { data := #[] }) (splitV k s))).map Value.string).length = i by simp)
      have HR5 := Lib.hid (HR23.out.ext hEx)
      have hwz := hEx.sz
      clear hS hgd
      have jj : (i : Int) < (k : Int) + (r : Int) := by omega
      have jj0 : (0 : Int) ≤ (i : Int) := by omega
      go_wp2_with (first
        | (go_at_call 26; refine (rsum_any row _ _ _ _ _ HR5.out (by omega) HSZ.out).mono ?_; rintro e w6 ⟨rfl, hE6⟩; have hwz6 := hE6.sz)
        | (at_builtin; refine wpList_app1 _ rfl _ _ 23 rfl Try.underlying23 w3.heap.size (.slice A5 i c5) (((List.range i).map (fun i => sumV ((everyM k r).getD i { data := #[] }) (splitV k s))).map Value.string) rfl (by have := (owns_ext HO.out hE6).alloc (.cells #[.string (sumV row (splitV k s))] 9); rw [HXJ.out]; exact this) (by simp; omega) _ (sumV row (splitV k s)) (by rfl) (cell_a _ _ _) (by rw [HXJ.out]; omega) ?_; intro v7 w7 hown7 hg7 hb7; obtain ⟨A7, c7, rfl⟩ := own_val2 hown7; have hE7 : Ext w3 w7 := Ext.grown ((hEx.trans hE6).alloc _) hg7 HO.out.blockGe))
      go_wp2
      go_roundw
      case rel => exact ⟨i + 1, by omega, by go_num, hE7, A7, c7, by simp, by rw [HSS.out, List.map_append]; have := hown7; rw [List.length_append, HXJ.out] at this; exact this⟩
      case measure => simp [intOf]; omega
    · obtain rfl : i = k + r := by omega
      have e1 : ((k + r : Nat) : Int) = (k : Int) + (r : Int) := by omega
      go_wp2
      go_ret2
      exact ⟨A5, c5, rfl, rd_owns HO.out, hE0.trans hEx⟩
end Go.Proofs.Ytjdppgogdilgkaa
end
