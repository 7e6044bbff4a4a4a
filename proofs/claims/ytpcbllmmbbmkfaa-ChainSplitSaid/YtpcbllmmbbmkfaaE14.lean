import Derived.Test.YtpcbllmmbbmkfaaE13
namespace Go.Proofs.Ytpcbllmmbbmkfaa
open Go.RowKit
/-- What Apply or Fold answers. -/
def TabsIs (R : List Rf × Int) (w : World) (e : Ending) (w' : World) : Prop := ∃ A' c', e = .returned (.tuple #[.slice A' R.1.length c', .int .i64 R.2]) ∧ R.1.length ≤ c' ∧ (A' = none → c' = 0) ∧ RfRd w' A' R.1.length R.1 ∧ Ext w w'
theorem RfRd.nil (w : World) (A : Option Addr) : RfRd w A 0 [] := ⟨rfl, [], Rd.nil _ _, trivial⟩
theorem TabsIs.no {R : List Rf × Int} {w w' : World} {k : Int} (h : R = ([], k)) (hE : Ext w w') : TabsIs R w (.returned (.tuple #[.slice none 0 0, .int .i64 k])) w' := by
  rw [h]; exact ⟨none, 0, rfl, Nat.le_refl _, fun _ => rfl, RfRd.nil _ _, hE⟩
theorem may_bounds {l : Lk} (h : mayL l = true) : 0 ≤ l.at_ ∧ l.at_ ≤ 64 ∧ 0 ≤ l.take ∧ l.take ≤ 64 := by
  unfold mayL at h
  simp only [Bool.and_eq_true, decide_eq_true_eq] at h
  exact ⟨h.1, h.2.1, h.2.2.1, h.2.2.2.1⟩
theorem splice_len (T : List Rf) (l : Lk) (a e : Nat) (ha : l.at_ = a) (he : l.at_ + l.take = e) (h : a ≤ T.length) : (spliceL T l).length = a + ((if noneR l.add = true then 0 else 1) + (T.length - e)) ∧ spliceL T l = T.take a ++ ((if noneR l.add = true then [] else [l.add]) ++ T.drop e) := by
  have e1 : spliceL T l = T.take a ++ ((if noneR l.add = true then [] else [l.add]) ++ T.drop e) := by
    unfold spliceL
    rw [ha, ← ha, he, ha]; rfl
  refine ⟨?_, e1⟩
  rw [e1]
  simp only [List.length_append, List.length_take, List.length_drop]
  split <;> simp <;> omega
set_option maxRecDepth 100000 in
set_option maxHeartbeats 4000000 in
set_option linter.unusedSimpArgs false in
/-- The document's Apply. -/
theorem rapply_any {w : World} {A : Option Addr} {n c : Nat} {T : List Rf} (h : RfRd w A n T) (hn : n ≤ 100000) (hnc : n ≤ c) (l : Lk) {B : Option Addr} {d : Nat} (hp : PsV w (.slice B l.add.ps.length d) l.add.ps) (hf : l.add.ps.length ≤ 1048576) :
    Calls Try.prog 15 #[.slice A n c, .agg #[.int .i64 l.at_, .int .i64 l.take, .int .i64 l.add.len, .slice B l.add.ps.length d, .int .i64 l.before.row, .int .u64 l.before.st, .int .i64 l.before.len]] w (TabsIs (applyL T l) w) := by
  have hpc : PcRd w B l.add.ps.length l.add.ps := by
    obtain ⟨B', c', hv, h1, _⟩ := hp
    cases hv; exact h1
  have HM := Lib.hid (fun w' (hE : Ext w w') => rmay_any l (c := d) (hpc.ext hE) hf)
  have HN := Lib.hid (fun w' => rnone_any l.add B d w')
  have hTl : T.length = n := h.1
  have hb := Blk.new w 41 #[.int .i64 l.at_, .int .i64 l.take, .int .i64 l.add.len, .slice B l.add.ps.length d, .int .i64 l.before.row, .int .u64 l.before.st, .int .i64 l.before.len]
  have hX0 : Ext w (w.alloc (.cells #[.int .i64 l.at_, .int .i64 l.take, .int .i64 l.add.len, .slice B l.add.ps.length d, .int .i64 l.before.row, .int .u64 l.before.st, .int .i64 l.before.len] 41)) := (Ext.refl w).alloc _
  cases hm : mayL l
  · rw [hm] at HM
    have hR : applyL T l = ([], 2) := by unfold applyL; rw [if_pos (Or.inl hm)]
    clear hm hb HN h hTl hp hpc
    go_enter Try.func15, Try.ntmps15
    go_wp2_with (go_at_call 33; (with_reducible refine (HM.out _ hX0).mono ?_); rintro e w1 ⟨rfl, hE1⟩)
    go_ret2
    exact TabsIs.no hR (hX0.trans hE1)
  · rw [hm] at HM
    obtain ⟨m1, m2, m3, m4⟩ := may_bounds hm
    obtain ⟨a, ha⟩ : ∃ a : Nat, l.at_ = a := ⟨l.at_.toNat, by omega⟩
    obtain ⟨b, hbb⟩ : ∃ b : Nat, l.take = b := ⟨l.take.toNat, by omega⟩
    obtain ⟨e, he⟩ : ∃ e, e = a + b := ⟨_, rfl⟩
    have hw : IntKind.i64.wrap ((a : Int) + (b : Int)) = (e : Int) := by rw [IntWalk.i64_in _ (by omega)]; omega
    rw [ha, hbb] at HM hb hX0 ⊢
    generalize hm7 : l.add.ps.length = m at *
    by_cases hlt : n < e
    · have t1 : decide ((n : Int) < (e : Int)) = true := by simp; omega
      have hR : applyL T l = ([], 2) := by unfold applyL; rw [if_pos (Or.inr (by rw [hTl, ha, hbb]; omega))]
      clear hm HN h hTl hp hpc he
      go_enter Try.func15, Try.ntmps15
      go_wp2_with (go_at_call 33; (with_reducible refine (HM.out _ hX0).mono ?_); rintro e w1 ⟨rfl, hE1⟩; have k := hb.ext hE1; have x0 := k.cell 0; have x1 := k.cell 1; simp at x0 x1)
      go_ret2
      exact TabsIs.no hR (hX0.trans hE1)
    · have t1 : decide ((n : Int) < (e : Int)) = false := by simp; omega
      obtain ⟨xs, hrd, hvs, hone⟩ := h.xs
      obtain ⟨r, hr⟩ : ∃ r, r = n - e := ⟨_, rfl⟩
      obtain ⟨hpr, hprR⟩ := slice_preR A n c a (by omega) hnc
      obtain ⟨As, hsu, hsuR⟩ := slice_sufR A n c e (by omega) hnc
      rw [← hr] at hsu hsuR
      have hpr2 := fun w => (slice_at Try.underlying22 _ _ _ _ w).trans (hpr w)
      have hsu2 := fun w => (slice_at Try.underlying22 _ _ _ _ w).trans (hsu w)
      obtain ⟨hsl, hsp⟩ := splice_len T l a e ha (by omega) (by omega)
      have hR0 : applyL T l = if 64 < (spliceL T l).length then ([], 6) else (spliceL T l, 0) := by unfold applyL; rw [if_neg (by rw [hm, hTl, ha, hbb]; simp; omega)]
      rw [hTl, ← hr] at hsl
      have HPR := Lib.hid (fun w' (hE : Ext w w') => hprR w' xs (hrd.ext hE))
      have HSR := Lib.hid (fun w' (hE : Ext w w') => hsuR w' xs (hrd.ext hE))
      have HVS := Lib.hid hvs
      have HPV := Lib.hid hp
      have HON := Lib.hid hone
      have H1 := Lib.hid (show a ≤ 64 ∧ r ≤ 100000 by omega)
      have i1 : (a : Int) ≤ (n : Int) := by omega
      have i2 : (e : Int) ≤ (n : Int) := by omega
      have hsz : (w.alloc (.cells #[.int .i64 (a : Int), .int .i64 (b : Int), .int .i64 l.add.len, .slice B m d, .int .i64 l.before.row, .int .u64 l.before.st, .int .i64 l.before.len] 41)).heap.size = w.heap.size + 1 := by simp
      cases hnr : noneR l.add
      · rw [hnr] at HN hsl hsp
        simp only [Bool.false_eq_true, if_false, if_true, List.nil_append, Nat.zero_add] at hsl hsp
        rw [← Nat.add_assoc] at hsl
        obtain ⟨N, hN⟩ : ∃ N, N = a + 1 + r := ⟨_, rfl⟩
        rw [← hN] at hsl
        rw [hsl] at hR0
        have HSP := Lib.hid hsp
        have HSL := Lib.hid hsl
        have HNN := Lib.hid hN
        clear hm h hTl hp hpc he hlt hrd hvs hone hpr hsu hprR hsuR hsl hsp hnr hr hm7 ha hbb m1 m2 m3 m4
        by_cases h64 : 64 < N
        · rw [if_pos h64] at hR0
          have t2 : decide ((64 : Int) < (a : Int) + 1 + (r : Int)) = true := by rw [decide_eq_true_eq]; have := HNN.out; omega
          have HR0 := Lib.hid hR0
          clear hR0
          go_enter Try.func15, Try.ntmps15
          go_wp2_with (first
            | (go_at_call 33; (with_reducible refine (HM.out _ hX0).mono ?_); rintro e w1 ⟨rfl, hE1⟩; have k := hb.ext hE1; have x0 := k.cell 0; have x1 := k.cell 1; have x2 := k.cell 2; have x3 := k.cell 3; simp at x0 x1 x2 x3)
            | (at_builtin; refine wpList_appR rfl _ _ rfl (w.heap.size + 1) none 0 0 [] rfl (World.ownsRow_nil _ _ _ _) A a c (xs.take (a * 2)) rfl (HPR.out _ (hX0.trans hE1)) (fun u hu => HON.out u (List.mem_of_mem_take hu)) (by omega) (by have := hE1.size; rw [hsz] at this; exact this) ?_; intro A2 c2 w2 ho2 hg2; have hE2 := hE1.grown hg2 (fun k hk => by cases hk); rw [Nat.zero_add, List.nil_append] at ho2; have HO2 := Lib.hid ho2; clear ho2 hg2; have k := hb.ext hE2; have x0 := k.cell 0; have x1 := k.cell 1; have x2 := k.cell 2; have x3 := k.cell 3; simp at x0 x1 x2 x3)
            | (go_at_call 34; (with_reducible refine (HN.out _).mono ?_); rintro e w3 ⟨rfl, hE3⟩; have hE3' := hE2.trans hE3; have k := hb.ext hE3'; have x0 := k.cell 0; have x1 := k.cell 1; have x2 := k.cell 2; have x3 := k.cell 3; simp at x0 x1 x2 x3; have HO3 := Lib.hid (World.ownsRow.ext HO2.out hE3))
            | (at_builtin; refine wpList_app w3 rfl _ _ 22 36 rfl Try.underlying22 (.agg #[.int .i64 0, .slice none 0 0]) [.int .i64 l.add.len, .slice B m d] 2 32 infoRf rfl rfl (by decide) (by decide) (w.heap.size + 1) (.slice A2 a c2) a (xs.take (a * 2)) rfl HO3.out (two_rf _ _ rfl rfl) _ rfl rfl (by have := H1.out; omega) (by have := hE3'.size; rw [hsz] at this; exact this) ?_; intro g4 c4 w4 ho4 hG4 hg4; have hE4 := (hE3'.alloc (.cells [Value.int .i64 l.add.len, .slice B m d].toArray 36)).grown hg4 (fun k hk => by rw [hsz]; exact own_block HO3.out hk); have HO4 := Lib.hid ho4; clear ho4 hG4 hg4; have k := hb.ext hE4; have x0 := k.cell 0; have x1 := k.cell 1; simp at x0 x1)
            | (at_builtin; refine wpList_appR rfl _ _ rfl (w.heap.size + 1) (some ⟨g4, 0, none⟩) (a + 1) c4 (xs.take (a * 2) ++ [.int .i64 l.add.len, .slice B m d]) rfl HO4.out As r (c - e) (xs.drop (e * 2)) rfl (HSR.out _ (hX0.trans hE4)) (fun u hu => HON.out u (List.mem_of_mem_drop hu)) (by have := H1.out; omega) (by have := (hE4).size; rw [hsz] at this; exact this) ?_; intro AL cL w5 hOL hg5; have hEL := (hE4).grown hg5 (fun k hk => by rw [hsz]; exact own_block HO4.out hk); clear hg5))
          go_ret2
          exact TabsIs.no HR0.out (hX0.trans hEL)
        · rw [if_neg h64] at hR0
          have t2 : decide ((64 : Int) < (a : Int) + 1 + (r : Int)) = false := by rw [decide_eq_false_iff_not]; have := HNN.out; omega
          have HR0 := Lib.hid hR0
          clear hR0
          go_enter Try.func15, Try.ntmps15
          go_wp2_with (first
            | (go_at_call 33; (with_reducible refine (HM.out _ hX0).mono ?_); rintro e w1 ⟨rfl, hE1⟩; have k := hb.ext hE1; have x0 := k.cell 0; have x1 := k.cell 1; have x2 := k.cell 2; have x3 := k.cell 3; simp at x0 x1 x2 x3)
            | (at_builtin; refine wpList_appR rfl _ _ rfl (w.heap.size + 1) none 0 0 [] rfl (World.ownsRow_nil _ _ _ _) A a c (xs.take (a * 2)) rfl (HPR.out _ (hX0.trans hE1)) (fun u hu => HON.out u (List.mem_of_mem_take hu)) (by omega) (by have := hE1.size; rw [hsz] at this; exact this) ?_; intro A2 c2 w2 ho2 hg2; have hE2 := hE1.grown hg2 (fun k hk => by cases hk); rw [Nat.zero_add, List.nil_append] at ho2; have HO2 := Lib.hid ho2; clear ho2 hg2; have k := hb.ext hE2; have x0 := k.cell 0; have x1 := k.cell 1; have x2 := k.cell 2; have x3 := k.cell 3; simp at x0 x1 x2 x3)
            | (go_at_call 34; (with_reducible refine (HN.out _).mono ?_); rintro e w3 ⟨rfl, hE3⟩; have hE3' := hE2.trans hE3; have k := hb.ext hE3'; have x0 := k.cell 0; have x1 := k.cell 1; have x2 := k.cell 2; have x3 := k.cell 3; simp at x0 x1 x2 x3; have HO3 := Lib.hid (World.ownsRow.ext HO2.out hE3))
            | (at_builtin; refine wpList_app w3 rfl _ _ 22 36 rfl Try.underlying22 (.agg #[.int .i64 0, .slice none 0 0]) [.int .i64 l.add.len, .slice B m d] 2 32 infoRf rfl rfl (by decide) (by decide) (w.heap.size + 1) (.slice A2 a c2) a (xs.take (a * 2)) rfl HO3.out (two_rf _ _ rfl rfl) _ rfl rfl (by have := H1.out; omega) (by have := hE3'.size; rw [hsz] at this; exact this) ?_; intro g4 c4 w4 ho4 hG4 hg4; have hE4 := (hE3'.alloc (.cells [Value.int .i64 l.add.len, .slice B m d].toArray 36)).grown hg4 (fun k hk => by rw [hsz]; exact own_block HO3.out hk); have HO4 := Lib.hid ho4; clear ho4 hG4 hg4; have k := hb.ext hE4; have x0 := k.cell 0; have x1 := k.cell 1; simp at x0 x1)
            | (at_builtin; refine wpList_appR rfl _ _ rfl (w.heap.size + 1) (some ⟨g4, 0, none⟩) (a + 1) c4 (xs.take (a * 2) ++ [.int .i64 l.add.len, .slice B m d]) rfl HO4.out As r (c - e) (xs.drop (e * 2)) rfl (HSR.out _ (hX0.trans hE4)) (fun u hu => HON.out u (List.mem_of_mem_drop hu)) (by have := H1.out; omega) (by have := (hE4).size; rw [hsz] at this; exact this) ?_; intro AL cL w5 hOL hg5; have hEL := (hE4).grown hg5 (fun k hk => by rw [hsz]; exact own_block HO4.out hk); clear hg5))
          go_ret2
          rw [HR0.out]
          have hEW := hX0.trans hEL
          refine ⟨AL, cL, by rw [HSL.out, HNN.out]; rfl, by rw [HSL.out, HNN.out]; exact own_cap hOL, own_nil hOL, ⟨rfl, _, by rw [HSL.out, HNN.out]; exact own_rd hOL, ?_⟩, hEW⟩
          have hV : RfVP (PsV w5) xs T := HVS.out.mono (fun v ps k => PsV.ext k hEW)
          rw [HSP.out]
          exact RfVP.rfvs.1 (by have hL : RfVP (PsV w5) [.int .i64 l.add.len, .slice B m d] [l.add] := ⟨rfl, HPV.out.ext hEW, trivial⟩; have := RfVP.append (RfVP.append (hV.take a) hL) (hV.drop e); rw [List.append_assoc (T.take a)] at this; exact this)
      · rw [hnr] at HN hsl hsp
        simp only [Bool.false_eq_true, if_false, if_true, List.nil_append, Nat.zero_add] at hsl hsp
        obtain ⟨N, hN⟩ : ∃ N, N = a + r := ⟨_, rfl⟩
        rw [← hN] at hsl
        rw [hsl] at hR0
        have HSP := Lib.hid hsp
        have HSL := Lib.hid hsl
        have HNN := Lib.hid hN
        clear hm h hTl hp hpc he hlt hrd hvs hone hpr hsu hprR hsuR hsl hsp hnr hr hm7 ha hbb m1 m2 m3 m4
        by_cases h64 : 64 < N
        · rw [if_pos h64] at hR0
          have t2 : decide ((64 : Int) < (a : Int) + (r : Int)) = true := by rw [decide_eq_true_eq]; have := HNN.out; omega
          have HR0 := Lib.hid hR0
          clear hR0
          go_enter Try.func15, Try.ntmps15
          go_wp2_with (first
            | (go_at_call 33; (with_reducible refine (HM.out _ hX0).mono ?_); rintro e w1 ⟨rfl, hE1⟩; have k := hb.ext hE1; have x0 := k.cell 0; have x1 := k.cell 1; have x2 := k.cell 2; have x3 := k.cell 3; simp at x0 x1 x2 x3)
            | (at_builtin; refine wpList_appR rfl _ _ rfl (w.heap.size + 1) none 0 0 [] rfl (World.ownsRow_nil _ _ _ _) A a c (xs.take (a * 2)) rfl (HPR.out _ (hX0.trans hE1)) (fun u hu => HON.out u (List.mem_of_mem_take hu)) (by omega) (by have := hE1.size; rw [hsz] at this; exact this) ?_; intro A2 c2 w2 ho2 hg2; have hE2 := hE1.grown hg2 (fun k hk => by cases hk); rw [Nat.zero_add, List.nil_append] at ho2; have HO2 := Lib.hid ho2; clear ho2 hg2; have k := hb.ext hE2; have x0 := k.cell 0; have x1 := k.cell 1; have x2 := k.cell 2; have x3 := k.cell 3; simp at x0 x1 x2 x3)
            | (go_at_call 34; (with_reducible refine (HN.out _).mono ?_); rintro e w3 ⟨rfl, hE3⟩; have hE3' := hE2.trans hE3; have k := hb.ext hE3'; have x0 := k.cell 0; have x1 := k.cell 1; have x2 := k.cell 2; have x3 := k.cell 3; simp at x0 x1 x2 x3; have HO3 := Lib.hid (World.ownsRow.ext HO2.out hE3))
            | (at_builtin; refine wpList_appR rfl _ _ rfl (w.heap.size + 1) A2 a c2 (xs.take (a * 2)) rfl HO3.out As r (c - e) (xs.drop (e * 2)) rfl (HSR.out _ (hX0.trans hE3')) (fun u hu => HON.out u (List.mem_of_mem_drop hu)) (by have := H1.out; omega) (by have := (hE3').size; rw [hsz] at this; exact this) ?_; intro AL cL w5 hOL hg5; have hEL := (hE3').grown hg5 (fun k hk => by rw [hsz]; exact own_block HO3.out hk); clear hg5))
          go_ret2
          exact TabsIs.no HR0.out (hX0.trans hEL)
        · rw [if_neg h64] at hR0
          have t2 : decide ((64 : Int) < (a : Int) + (r : Int)) = false := by rw [decide_eq_false_iff_not]; have := HNN.out; omega
          have HR0 := Lib.hid hR0
          clear hR0
          go_enter Try.func15, Try.ntmps15
          go_wp2_with (first
            | (go_at_call 33; (with_reducible refine (HM.out _ hX0).mono ?_); rintro e w1 ⟨rfl, hE1⟩; have k := hb.ext hE1; have x0 := k.cell 0; have x1 := k.cell 1; have x2 := k.cell 2; have x3 := k.cell 3; simp at x0 x1 x2 x3)
            | (at_builtin; refine wpList_appR rfl _ _ rfl (w.heap.size + 1) none 0 0 [] rfl (World.ownsRow_nil _ _ _ _) A a c (xs.take (a * 2)) rfl (HPR.out _ (hX0.trans hE1)) (fun u hu => HON.out u (List.mem_of_mem_take hu)) (by omega) (by have := hE1.size; rw [hsz] at this; exact this) ?_; intro A2 c2 w2 ho2 hg2; have hE2 := hE1.grown hg2 (fun k hk => by cases hk); rw [Nat.zero_add, List.nil_append] at ho2; have HO2 := Lib.hid ho2; clear ho2 hg2; have k := hb.ext hE2; have x0 := k.cell 0; have x1 := k.cell 1; have x2 := k.cell 2; have x3 := k.cell 3; simp at x0 x1 x2 x3)
            | (go_at_call 34; (with_reducible refine (HN.out _).mono ?_); rintro e w3 ⟨rfl, hE3⟩; have hE3' := hE2.trans hE3; have k := hb.ext hE3'; have x0 := k.cell 0; have x1 := k.cell 1; have x2 := k.cell 2; have x3 := k.cell 3; simp at x0 x1 x2 x3; have HO3 := Lib.hid (World.ownsRow.ext HO2.out hE3))
            | (at_builtin; refine wpList_appR rfl _ _ rfl (w.heap.size + 1) A2 a c2 (xs.take (a * 2)) rfl HO3.out As r (c - e) (xs.drop (e * 2)) rfl (HSR.out _ (hX0.trans hE3')) (fun u hu => HON.out u (List.mem_of_mem_drop hu)) (by have := H1.out; omega) (by have := (hE3').size; rw [hsz] at this; exact this) ?_; intro AL cL w5 hOL hg5; have hEL := (hE3').grown hg5 (fun k hk => by rw [hsz]; exact own_block HO3.out hk); clear hg5))
          go_ret2
          rw [HR0.out]
          have hEW := hX0.trans hEL
          refine ⟨AL, cL, by rw [HSL.out, HNN.out]; rfl, by rw [HSL.out, HNN.out]; exact own_cap hOL, own_nil hOL, ⟨rfl, _, by rw [HSL.out, HNN.out]; exact own_rd hOL, ?_⟩, hEW⟩
          have hV : RfVP (PsV w5) xs T := HVS.out.mono (fun v ps k => PsV.ext k hEW)
          rw [HSP.out]
          exact RfVP.rfvs.1 (RfVP.append (hV.take a) (hV.drop e))
