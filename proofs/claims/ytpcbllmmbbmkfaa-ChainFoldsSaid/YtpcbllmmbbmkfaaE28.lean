import Derived.Test.YtpcbllmmbbmkfaaE27
namespace Go.Proofs.Ytpcbllmmbbmkfaa
open Go.RowKit Go.Nb
theorem rd_new {W : World} {t : TypeId} (cs : List Value) {k : Nat} (hk : k = W.heap.size) : Rd (W.alloc (.cells cs.toArray t)) (some ⟨k, 0, none⟩) cs.length cs := by
  subst hk
  refine ⟨rfl, fun _ => ⟨_, 0, rfl, fun i x hi => ?_⟩⟩
  rw [Nat.zero_add, (Blk.new W t cs.toArray).cell i, List.getElem?_toArray]
  exact hi
theorem fold_new {W : World} {k n : Nat} {cs : List Value} {l : List Lk} {R : List Rf × Int} (hk : k = W.heap.size) (hl : l.length = n) (hv : LkVP (PsV W) cs l) (hc : cs.length = n * 7) (hn : n ≤ 100000) (hf : FewK l) (hR : foldL l = R) : Calls Try.prog 8 #[.slice (some ⟨k, 0, none⟩) n n] (W.alloc (.cells cs.toArray 41)) (TabsIs R W) := by
  have hE : Ext W (W.alloc (.cells cs.toArray 41)) := (Ext.refl W).alloc _
  have hrd := rd_new (t := 41) cs hk
  rw [hc] at hrd
  refine (fold_any (c := n) (⟨hl, cs, hrd, hv.mono fun _ _ q => q.ext hE⟩ : LnRd _ _ n l) hn hf).mono ?_
  rw [hR]
  rintro e w' ⟨A', c', h1, h2, h3, h4, h5⟩
  exact ⟨A', c', h1, h2, h3, h4, hE.trans h5⟩
theorem same_new {W : World} {A : Option Addr} {k n m c : Nat} {cs : List Value} {a b : List Rf} (hk : k = W.heap.size) (ha : RfRd W A n a) (hl : b.length = m) (hv : RfVs W cs b) (hc : cs.length = m * 2) (hn : n ≤ 1048576) (hm : m ≤ 1048576) (fa : Few a) (fb : Few b) : Calls Try.prog 12 #[.slice A n c, .slice (some ⟨k, 0, none⟩) m m] (W.alloc (.cells cs.toArray 36)) fun e w' => e = .returned (.bool (decide (a = b))) ∧ Ext W w' := by
  have hE : Ext W (W.alloc (.cells cs.toArray 36)) := (Ext.refl W).alloc _
  have hrd := rd_new (t := 36) cs hk
  rw [hc] at hrd
  refine (same_any (c' := m) (ha.ext hE) (⟨hl, cs, hrd, hv.ext hE⟩ : RfRd _ _ m b) hn hm fa fb).mono ?_
  rintro e w' ⟨h1, h2⟩
  exact ⟨h1, hE.trans h2⟩
abbrev Q1 : Rf := ⟨10, [⟨1, 7, 10⟩]⟩
abbrev Q2 : Rf := ⟨20, [⟨2, 7, 20⟩]⟩
abbrev Q3 : Rf := ⟨25, [⟨3, 7, 25⟩]⟩
theorem fold_1 : foldL [⟨0, 0, Q1, P0⟩, ⟨0, 0, Q2, P0⟩] = ([Q2, Q1], 0) := by decide
theorem fold_2 : foldL [⟨0, 0, Q1, P0⟩, ⟨0, 0, Q2, P0⟩, ⟨0, 2, Q3, P0⟩] = ([Q3], 0) := by decide
theorem fold_3 : foldL [⟨0, 1, ⟨0, []⟩, P0⟩] = ([], 2) := by decide
theorem fewK_of {l : List Lk} (h : l.all (fun x => x.add.ps.length ≤ 1048576) = true) : FewK l := fun x hx => by simpa using List.all_eq_true.1 h x hx
theorem few_of {l : List Rf} (h : l.all (fun x => x.ps.length ≤ 1048576) = true) : Few l := fun x hx => by simpa using List.all_eq_true.1 h x hx
set_option maxRecDepth 100000 in
set_option maxHeartbeats 8000000 in
theorem works_any (w : World) : Calls Try.prog 7 #[] w fun e w' => e = .returned (.bool true) ∧ Ext w w' := by
  have HR1 : Hid (∀ w, Calls Try.prog 18 #[.int .i64 1, .int .i64 10] w fun e w' => ∃ A, e = .returned (.agg #[.int .i64 10, .slice A 1 1]) ∧ PsV w' (.slice A 1 1) [⟨1, 7, 10⟩] ∧ Ext w w') := Lib.hid (fun w => ref_any 1 10 w)
  have HR2 : Hid (∀ w, Calls Try.prog 18 #[.int .i64 2, .int .i64 20] w fun e w' => ∃ A, e = .returned (.agg #[.int .i64 20, .slice A 1 1]) ∧ PsV w' (.slice A 1 1) [⟨2, 7, 20⟩] ∧ Ext w w') := Lib.hid (fun w => ref_any 2 20 w)
  have HR3 : Hid (∀ w, Calls Try.prog 18 #[.int .i64 3, .int .i64 25] w fun e w' => ∃ A, e = .returned (.agg #[.int .i64 25, .slice A 1 1]) ∧ PsV w' (.slice A 1 1) [⟨3, 7, 25⟩] ∧ Ext w w') := Lib.hid (fun w => ref_any 3 25 w)
  have HF1 : Hid (∀ (W : World) (k : Nat) (A1 A2 A3 : Option Addr), k = W.heap.size → PsV W (.slice A1 1 1) Q1.ps → PsV W (.slice A2 1 1) Q2.ps → PsV W (.slice A3 1 1) Q3.ps → Calls Try.prog 8 #[.slice (some ⟨k, 0, none⟩) 2 2] (W.alloc (.cells #[.int .i64 0, .int .i64 0, .int .i64 10, .slice A1 1 1, .int .i64 0, .int .u64 0, .int .i64 0, .int .i64 0, .int .i64 0, .int .i64 20, .slice A2 1 1, .int .i64 0, .int .u64 0, .int .i64 0] 41)) fun e w' => ∃ A' c', e = .returned (.tuple #[.slice A' 2 c', .int .i64 0]) ∧ RfRd w' A' 2 [Q2, Q1] ∧ Ext W w') := Lib.hid (fun W k A1 A2 A3 hk h1 h2 h3 => by
    refine (fold_new (W := W) (n := 2) (cs := [.int .i64 0, .int .i64 0, .int .i64 10, .slice A1 1 1, .int .i64 0, .int .u64 0, .int .i64 0, .int .i64 0, .int .i64 0, .int .i64 20, .slice A2 1 1, .int .i64 0, .int .u64 0, .int .i64 0]) hk (l := [⟨0, 0, Q1, P0⟩, ⟨0, 0, Q2, P0⟩]) (by rfl) ⟨⟨rfl, rfl, rfl, h1, rfl, rfl, rfl⟩, ⟨rfl, rfl, rfl, h2, rfl, rfl, rfl⟩, trivial⟩ (by rfl) (by decide) (fewK_of (by decide)) fold_1).mono ?_
    rintro e w' ⟨A', c', h1, h2, h3, h4, h5⟩
    exact ⟨A', c', h1, h4, h5⟩)
  have HF2 : Hid (∀ (W : World) (k : Nat) (A1 A2 A3 : Option Addr), k = W.heap.size → PsV W (.slice A1 1 1) Q1.ps → PsV W (.slice A2 1 1) Q2.ps → PsV W (.slice A3 1 1) Q3.ps → Calls Try.prog 8 #[.slice (some ⟨k, 0, none⟩) 3 3] (W.alloc (.cells #[.int .i64 0, .int .i64 0, .int .i64 10, .slice A1 1 1, .int .i64 0, .int .u64 0, .int .i64 0, .int .i64 0, .int .i64 0, .int .i64 20, .slice A2 1 1, .int .i64 0, .int .u64 0, .int .i64 0, .int .i64 0, .int .i64 2, .int .i64 25, .slice A3 1 1, .int .i64 0, .int .u64 0, .int .i64 0] 41)) fun e w' => ∃ A' c', e = .returned (.tuple #[.slice A' 1 c', .int .i64 0]) ∧ RfRd w' A' 1 [Q3] ∧ Ext W w') := Lib.hid (fun W k A1 A2 A3 hk h1 h2 h3 => by
    refine (fold_new (W := W) (n := 3) (cs := [.int .i64 0, .int .i64 0, .int .i64 10, .slice A1 1 1, .int .i64 0, .int .u64 0, .int .i64 0, .int .i64 0, .int .i64 0, .int .i64 20, .slice A2 1 1, .int .i64 0, .int .u64 0, .int .i64 0, .int .i64 0, .int .i64 2, .int .i64 25, .slice A3 1 1, .int .i64 0, .int .u64 0, .int .i64 0]) hk (l := [⟨0, 0, Q1, P0⟩, ⟨0, 0, Q2, P0⟩, ⟨0, 2, Q3, P0⟩]) (by rfl) ⟨⟨rfl, rfl, rfl, h1, rfl, rfl, rfl⟩, ⟨rfl, rfl, rfl, h2, rfl, rfl, rfl⟩, ⟨rfl, rfl, rfl, h3, rfl, rfl, rfl⟩, trivial⟩ (by rfl) (by decide) (fewK_of (by decide)) fold_2).mono ?_
    rintro e w' ⟨A', c', h1, h2, h3, h4, h5⟩
    exact ⟨A', c', h1, h4, h5⟩)
  have HF3 : Hid (∀ (W : World) (k : Nat) (A1 A2 A3 : Option Addr), k = W.heap.size → PsV W (.slice A1 1 1) Q1.ps → PsV W (.slice A2 1 1) Q2.ps → PsV W (.slice A3 1 1) Q3.ps → Calls Try.prog 8 #[.slice (some ⟨k, 0, none⟩) 1 1] (W.alloc (.cells #[.int .i64 0, .int .i64 1, .int .i64 0, .slice none 0 0, .int .i64 0, .int .u64 0, .int .i64 0] 41)) fun e w' => ∃ A' c', e = .returned (.tuple #[.slice A' 0 c', .int .i64 2]) ∧ RfRd w' A' 0 [] ∧ Ext W w') := Lib.hid (fun W k A1 A2 A3 hk h1 h2 h3 => by
    refine (fold_new (W := W) (n := 1) (cs := [.int .i64 0, .int .i64 1, .int .i64 0, .slice none 0 0, .int .i64 0, .int .u64 0, .int .i64 0]) hk (l := [⟨0, 1, ⟨0, []⟩, P0⟩]) (by rfl) ⟨⟨rfl, rfl, rfl, ⟨none, 0, rfl, ⟨rfl, Rd.nil _ _⟩, Nat.le_refl _, fun _ => rfl⟩, rfl, rfl, rfl⟩, trivial⟩ (by rfl) (by decide) (fewK_of (by decide)) fold_3).mono ?_
    rintro e w' ⟨A', c', h1, h2, h3, h4, h5⟩
    exact ⟨A', c', h1, h4, h5⟩)
  have HS1 : Hid (∀ (W : World) (k c : Nat) (A A1 A2 : Option Addr), k = W.heap.size → RfRd W A 2 [Q2, Q1] → PsV W (.slice A1 1 1) Q1.ps → PsV W (.slice A2 1 1) Q2.ps → Calls Try.prog 12 #[.slice A 2 c, .slice (some ⟨k, 0, none⟩) 2 2] (W.alloc (.cells #[.int .i64 20, .slice A2 1 1, .int .i64 10, .slice A1 1 1] 36)) fun e w' => e = .returned (.bool true) ∧ Ext W w') := Lib.hid (fun W k c A A1 A2 hk h h1 h2 => by
    have := same_new (W := W) (c := c) (m := 2) (cs := [.int .i64 20, .slice A2 1 1, .int .i64 10, .slice A1 1 1]) (b := [Q2, Q1]) hk h (by rfl) (⟨rfl, h2, rfl, h1, trivial⟩ : RfVs W [.int .i64 20, .slice A2 1 1, .int .i64 10, .slice A1 1 1] [Q2, Q1]) (by rfl) (by decide) (by decide) (few_of (by decide)) (few_of (by decide))
    rw [decide_eq_true rfl] at this
    exact this)
  have HS2 : Hid (∀ (W : World) (k c : Nat) (A A3 : Option Addr), k = W.heap.size → RfRd W A 1 [Q3] → PsV W (.slice A3 1 1) Q3.ps → Calls Try.prog 12 #[.slice A 1 c, .slice (some ⟨k, 0, none⟩) 1 1] (W.alloc (.cells #[.int .i64 25, .slice A3 1 1] 36)) fun e w' => e = .returned (.bool true) ∧ Ext W w') := Lib.hid (fun W k c A A3 hk h h3 => by
    have := same_new (W := W) (c := c) (m := 1) (cs := [.int .i64 25, .slice A3 1 1]) (b := [Q3]) hk h (by rfl) (⟨rfl, h3, trivial⟩ : RfVs W [.int .i64 25, .slice A3 1 1] [Q3]) (by rfl) (by decide) (by decide) (few_of (by decide)) (few_of (by decide))
    rw [decide_eq_true rfl] at this
    exact this)
  have HEN : Hid (∀ (W : World) (A : Option Addr), PsV W (.slice A 1 1) Q1.ps → Calls Try.prog 19 #[.agg #[.int .i64 0, .int .i64 0, .int .i64 10, .slice A 1 1, .int .i64 4, .int .u64 5, .int .i64 6]] W fun e w' => e = .returned (.tuple #[.string (Bt B1), .int .i64 0]) ∧ Ext W w') := Lib.hid (fun W A h => by
    obtain ⟨B, c, hv, h1, _⟩ := h
    cases hv
    exact encode_1 h1)
  have HDE : Hid (∀ W, Calls Try.prog 20 #[.string (Bt B1)] W fun e w' => ∃ A c, e = .returned (.tuple #[.agg #[.int .i64 0, .int .i64 0, .int .i64 10, .slice A 1 c, .int .i64 4, .int .u64 5, .int .i64 6], .int .i64 0]) ∧ PcRd w' A 1 [⟨1, 7, 10⟩] ∧ Ext W w') := Lib.hid decode_1
  have HSL : Hid (∀ (W : World) (A B : Option Addr) (c : Nat), PcRd W A 1 [⟨1, 7, 10⟩] → PsV W (.slice B 1 1) Q1.ps → Calls Try.prog 21 #[.agg #[.int .i64 0, .int .i64 0, .int .i64 10, .slice A 1 c, .int .i64 4, .int .u64 5, .int .i64 6], .agg #[.int .i64 0, .int .i64 0, .int .i64 10, .slice B 1 1, .int .i64 4, .int .u64 5, .int .i64 6]] W fun e w' => e = .returned (.bool true) ∧ Ext W w') := Lib.hid (fun W A B c h1 h2 => by
    obtain ⟨B', d, hv, h3, _⟩ := h2
    cases hv
    exact sameLink_eq L1 h1 h3 (by decide))
  have HBX : Hid (∀ (w3 w' : World) (A1 A2 A3 : Option Addr), Ext (((w3.alloc (.cells #[.int .i64 10, .slice A1 1 1] 36)).alloc (.cells #[.int .i64 20, .slice A2 1 1] 36)).alloc (.cells #[.int .i64 25, .slice A3 1 1] 36)) w' → w'.cell? ⟨w3.heap.size, 0, none⟩ = some (.int .i64 10) ∧ w'.cell? ⟨w3.heap.size, 1, none⟩ = some (.slice A1 1 1) ∧ w'.cell? ⟨w3.heap.size + 1, 0, none⟩ = some (.int .i64 20) ∧ w'.cell? ⟨w3.heap.size + 1, 1, none⟩ = some (.slice A2 1 1) ∧ w'.cell? ⟨w3.heap.size + 1 + 1, 0, none⟩ = some (.int .i64 25) ∧ w'.cell? ⟨w3.heap.size + 1 + 1, 1, none⟩ = some (.slice A3 1 1)) := Lib.hid (fun w3 w' A1 A2 A3 hE => by
    have k1 : Blk (((w3.alloc (.cells #[.int .i64 10, .slice A1 1 1] 36)).alloc (.cells #[.int .i64 20, .slice A2 1 1] 36)).alloc (.cells #[.int .i64 25, .slice A3 1 1] 36)) w3.heap.size 36 #[.int .i64 10, .slice A1 1 1] := ((Blk.new w3 36 _).alloc _).alloc _
    have k2 : Blk (((w3.alloc (.cells #[.int .i64 10, .slice A1 1 1] 36)).alloc (.cells #[.int .i64 20, .slice A2 1 1] 36)).alloc (.cells #[.int .i64 25, .slice A3 1 1] 36)) (w3.heap.size + 1) 36 #[.int .i64 20, .slice A2 1 1] := by
      have := Blk.new (w3.alloc (.cells #[.int .i64 10, .slice A1 1 1] 36)) 36 #[.int .i64 20, .slice A2 1 1]
      rw [World.size_alloc] at this
      exact this.alloc _
    have k3 : Blk (((w3.alloc (.cells #[.int .i64 10, .slice A1 1 1] 36)).alloc (.cells #[.int .i64 20, .slice A2 1 1] 36)).alloc (.cells #[.int .i64 25, .slice A3 1 1] 36)) (w3.heap.size + 1 + 1) 36 #[.int .i64 25, .slice A3 1 1] := by
      have := Blk.new ((w3.alloc (.cells #[.int .i64 10, .slice A1 1 1] 36)).alloc (.cells #[.int .i64 20, .slice A2 1 1] 36)) 36 #[.int .i64 25, .slice A3 1 1]
      rw [World.size_alloc, World.size_alloc] at this
      exact this
    have e1 := k1.ext hE
    have e2 := k2.ext hE
    have e3 := k3.ext hE
    exact ⟨e1.cell 0, e1.cell 1, e2.cell 0, e2.cell 1, e3.cell 0, e3.cell 1⟩)
  have HWH : Hid (∀ (W : World) (A : Option Addr) (c : Nat), RfRd W A 2 [Q2, Q1] → Calls Try.prog 16 #[.slice A 2 c, .agg #[.int .i64 0, .int .u64 0, .int .i64 0]] W fun e w' => ∃ A' c', e = .returned (.slice A' 2 c') ∧ LnRd w' A' 2 [⟨0, 0, Q1, P0⟩, ⟨0, 0, Q2, P0⟩] ∧ Ext W w') := Lib.hid (fun W A c h => by
    refine (whole_any (c := c) h (by decide) (few_of (by decide)) P0).mono ?_
    rintro e w' ⟨A', c', rfl, h1, hE⟩
    exact ⟨A', c', rfl, h1.rd, hE⟩)
  have hBL : (Bt B1).toList = [0, 0, 1, 10, 1, 1, 1, 1, 1, 7, 1, 10, 1, 4, 1, 5, 1, 6] := toList_Bt B1
  go_enter Try.func7, Try.ntmps7
  go_wp2_with (first
    | (go_at_call 18; (with_reducible refine (HR1.out _).mono ?_); rintro e w1 ⟨A1, rfl, hp1, hE1⟩; have HP1 := Lib.hid hp1; clear hp1)
    | (go_at_call 18; (with_reducible refine (HR2.out _).mono ?_); rintro e w2 ⟨A2, rfl, hp2, hE2⟩; have HP2 := Lib.hid hp2; clear hp2)
    | (go_at_call 18; (with_reducible refine (HR3.out _).mono ?_); rintro e w3 ⟨A3, rfl, hp3, hE3⟩; have HP3 := Lib.hid hp3; clear hp3
       have hz3 : (((w3.alloc (.cells #[.int .i64 10, .slice A1 1 1] 36)).alloc (.cells #[.int .i64 20, .slice A2 1 1] 36)).alloc (.cells #[.int .i64 25, .slice A3 1 1] 36)).heap.size = w3.heap.size + 1 + 1 + 1 := by simp only [World.size_alloc]
       have hS3 : Ext w3 (((w3.alloc (.cells #[.int .i64 10, .slice A1 1 1] 36)).alloc (.cells #[.int .i64 20, .slice A2 1 1] 36)).alloc (.cells #[.int .i64 25, .slice A3 1 1] 36)) := (((Ext.refl w3).alloc _).alloc _).alloc _
       have HPS := Lib.hid (And.intro ((HP1.out.ext hE2).ext hE3 |>.ext hS3) (And.intro ((HP2.out.ext hE3).ext hS3) (HP3.out.ext hS3)))
       have HWS := Lib.hid (((hE1.trans hE2).trans hE3).trans hS3)
       have HZS := Lib.hid hz3; clear hz3)
    | (go_at_call 8; (with_reducible refine (HF1.out _ _ A1 A2 A3 HZS.out.symm HPS.out.1 HPS.out.2.1 HPS.out.2.2).mono ?_); rintro e w4 ⟨B4, c4, rfl, hr4, hX4⟩; have HR4 := Lib.hid hr4; clear hr4; obtain ⟨u0, u1, u2, u3, u4, u5⟩ := HBX.out _ _ _ _ _ hX4)
    | (go_at_call 8; (with_reducible refine (HF2.out _ _ A1 A2 A3 rfl (HPS.out.1.ext hX4) (HPS.out.2.1.ext hX4) (HPS.out.2.2.ext hX4)).mono ?_); rintro e w5 ⟨B5, c5, rfl, hr5, hE5⟩; have HR5 := Lib.hid hr5; clear hr5; have hX5 := hX4.trans hE5; obtain ⟨u0, u1, u2, u3, u4, u5⟩ := HBX.out _ _ _ _ _ hX5)
    | (go_at_call 8; (with_reducible refine (HF3.out _ _ A1 A2 A3 rfl (HPS.out.1.ext hX5) (HPS.out.2.1.ext hX5) (HPS.out.2.2.ext hX5)).mono ?_); rintro e w6 ⟨B6, c6, rfl, hr6, hE6⟩; have hX6 := hX5.trans hE6; clear hr6; obtain ⟨u0, u1, u2, u3, u4, u5⟩ := HBX.out _ _ _ _ _ hX6)
    | (go_at_call 19; (with_reducible refine (HEN.out _ A1 (HPS.out.1.ext hX6)).mono ?_); rintro e w7 ⟨rfl, hE7⟩; have hX7 := hX6.trans hE7; obtain ⟨u0, u1, u2, u3, u4, u5⟩ := HBX.out _ _ _ _ _ hX7)
    | (go_at_call 20; (with_reducible refine (HDE.out _).mono ?_); rintro e w8 ⟨B8, c8, rfl, hp8, hE8⟩; have HP8 := Lib.hid hp8; clear hp8; have hX8 := (hX7.trans hE8).alloc (.cells #[.int .i64 0, .int .i64 0, .int .i64 10, .slice B8 1 c8, .int .i64 4, .int .u64 5, .int .i64 6] 41); obtain ⟨u0, u1, u2, u3, u4, u5⟩ := HBX.out _ _ _ _ _ hX8; have hB8 := Blk.new w8 41 #[.int .i64 0, .int .i64 0, .int .i64 10, .slice B8 1 c8, .int .i64 4, .int .u64 5, .int .i64 6]; obtain ⟨l0, l1, l2, l3, l4, l5, l6⟩ := bl7 hB8; have HB8 := Lib.hid hB8; clear hB8
       have hE48 := (((hE5.trans hE6).trans hE7).trans hE8).alloc (.cells #[.int .i64 0, .int .i64 0, .int .i64 10, .slice B8 1 c8, .int .i64 4, .int .u64 5, .int .i64 6] 41)
       have hE58 := ((hE6.trans hE7).trans hE8).alloc (.cells #[.int .i64 0, .int .i64 0, .int .i64 10, .slice B8 1 c8, .int .i64 4, .int .u64 5, .int .i64 6] 41)
       have hE88 := (Ext.refl w8).alloc (.cells #[.int .i64 0, .int .i64 0, .int .i64 10, .slice B8 1 c8, .int .i64 4, .int .u64 5, .int .i64 6] 41)
       have hz8 : (w8.alloc (.cells #[.int .i64 0, .int .i64 0, .int .i64 10, .slice B8 1 c8, .int .i64 4, .int .u64 5, .int .i64 6] 41)).heap.size = w8.heap.size + 1 := World.size_alloc _ _
       have HZ8 := Lib.hid hz8; clear hz8)
    | (go_at_call 12; (with_reducible refine (HS1.out _ _ c4 B4 A1 A2 HZ8.out.symm (HR4.out.ext hE48) (HPS.out.1.ext hX8) (HPS.out.2.1.ext hX8)).mono ?_); rintro e w9 ⟨rfl, hE9⟩; have hX9 := hX8.trans hE9; obtain ⟨u0, u1, u2, u3, u4, u5⟩ := HBX.out _ _ _ _ _ hX9; obtain ⟨l0, l1, l2, l3, l4, l5, l6⟩ := bl7 (HB8.out.ext hE9))
    | (go_at_call 12; (with_reducible refine (HS2.out _ _ c5 B5 A3 rfl (HR5.out.ext (hE58.trans hE9)) (HPS.out.2.2.ext hX9)).mono ?_); rintro e w10 ⟨rfl, hE10⟩; have hX10 := hX9.trans hE10; obtain ⟨u0, u1, u2, u3, u4, u5⟩ := HBX.out _ _ _ _ _ hX10; obtain ⟨l0, l1, l2, l3, l4, l5, l6⟩ := bl7 (HB8.out.ext (hE9.trans hE10)))
    | (go_at_call 21; (with_reducible refine (HSL.out _ B8 A1 c8 (HP8.out.ext (hE88.trans (hE9.trans hE10))) (HPS.out.1.ext hX10)).mono ?_); rintro e w11 ⟨rfl, hE11⟩; have hX11 := hX10.trans hE11; obtain ⟨u0, u1, u2, u3, u4, u5⟩ := HBX.out _ _ _ _ _ hX11)
    | (go_at_call 16; (with_reducible refine (HWH.out _ B4 c4 (HR4.out.ext (hE48.trans (hE9.trans (hE10.trans hE11))))).mono ?_); rintro e w12 ⟨B12, c12, rfl, hl12, hE12⟩; have HL12 := Lib.hid hl12; clear hl12))
  go_ret
  exact ⟨rfl, HWS.out.trans (hX11.trans hE12)⟩
