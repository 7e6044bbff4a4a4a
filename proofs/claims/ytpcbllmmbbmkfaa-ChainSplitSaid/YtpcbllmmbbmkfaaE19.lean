import Derived.Test.YtpcbllmmbbmkfaaE18
namespace Go.Proofs.Ytpcbllmmbbmkfaa
open Go.RowKit
theorem splice_few {T : List Rf} {l : Lk} (hT : Few T) (hl : l.add.ps.length ≤ 1048576) : Few (spliceL T l) := by
  intro r hr
  unfold spliceL at hr
  rcases List.mem_append.mp hr with h | h
  · exact hT r (List.mem_of_mem_take h)
  · rcases List.mem_append.mp h with h | h
    · split at h
      · cases h
      · rw [List.mem_singleton.mp h]; exact hl
    · exact hT r (List.mem_of_mem_drop h)
theorem RfOw.blk {w : World} {base n c : Nat} {A : Option Addr} {l : List Rf} (h : RfOw w base A n c l) (hn : 0 < n) : ∃ g, A = some ⟨g, 0, none⟩ ∧ base ≤ g ∧ ∀ k, w.frozen? ⟨g, k, none⟩ = false := by
  obtain ⟨h1, xs, h2, h3⟩ := h
  rcases h2.2 with ⟨h1, h0⟩ | ⟨g, cap, cur, hv, h1, h2, _⟩
  · omega
  · injection hv with e1 e2 e3
    exact ⟨g, e1, h1, fun k => by simp [World.frozen?, h2]⟩
theorem own_frozen {w : World} {base size n c g : Nat} {e : TypeId} {xs : List Value} (h : w.ownsRow base e size (.slice (some ⟨g, 0, none⟩) n c) n xs) (k : Nat) : w.frozen? ⟨g, k, none⟩ = false := by
  rcases h.2 with ⟨h1, h0⟩ | ⟨g2, cap, cur, hv, h1, h2, _⟩
  · injection h1 with e1; cases e1
  · injection hv with e1 e2 e3
    injection e1 with e1; injection e1 with e1
    subst e1
    simp [World.frozen?, h2]
theorem RfOw.at_ {w : World} {base n c : Nat} {A : Option Addr} {l : List Rf} (h : RfOw w base A n c l) {k : Nat} (hk : k < n) : ∃ g b, A = some ⟨g, 0, none⟩ ∧ base ≤ g ∧ w.cell? ⟨g, k * 2, none⟩ = some (.int .i64 (l.getD k default).len) ∧ w.cell? ⟨g, k * 2 + 1, none⟩ = some b ∧ PsV w b (l.getD k default).ps := by
  obtain ⟨g, rfl, hb, _⟩ := h.blk (by omega)
  obtain ⟨g', o, b, e, c0, c1, hv⟩ := h.rd.at_ k hk
  injection e with e
  injection e with e1 e2 e3
  subst e1 e2
  rw [Nat.zero_add] at c0 c1
  exact ⟨g, b, rfl, hb, c0, c1, hv⟩
theorem RfOw.frz {w : World} {base n c g : Nat} {l : List Rf} (h : RfOw w base (some ⟨g, 0, none⟩) n c l) (k : Nat) : w.frozen? ⟨g, k, none⟩ = false := by
  obtain ⟨h1, xs, h2, h3⟩ := h
  exact own_frozen h2 k
theorem RfOw.frz2 {w : World} {base n c g j : Nat} {u : Value} {l : List Rf} (h : RfOw w base (some ⟨g, 0, none⟩) n c l) (k : Nat) : (w.setCell ⟨g, j, none⟩ u).frozen? ⟨g, k, none⟩ = false := by
  obtain ⟨h1, xs, h2, h3⟩ := h
  exact own_frozen (own_put h2) k
theorem RfOw.put2 {w : World} {base n c g j i : Nat} {u b : Value} {l : List Rf} (h : RfOw w base (some ⟨g, 0, none⟩) n c l) (hb : w.cell? ⟨g, i, none⟩ = some b) (hne : j ≠ i) : (w.setCell ⟨g, j, none⟩ u).cell? ⟨g, i, none⟩ = some b := by
  obtain ⟨_, xs, h, _⟩ := h
  rcases h.2 with ⟨h1, h0⟩ | ⟨g2, cap, cur, hv, h1, h2, _⟩
  · injection h1 with e1; cases e1
  · injection hv with e1 e2 e3
    injection e1 with e1; injection e1 with e1
    subst e1
    have hB : Blk w g 36 cur := h2
    rw [(hB.set_ j u).cell i, Array.getElem?_setIfInBounds_ne hne, ← hB.cell i]
    exact hb
theorem spliceV {P : Value → List Pc → Prop} {xs : List Value} {T : List Rf} {a e : Nat} {x y : Value} {r : Rf} (hV : RfVP P xs T) (ha : a ≤ T.length) (hL : RfVP P [x, y] [r]) : RfVP P ((xs.take (a * 2) ++ xs.drop (e * 2)).take (a * 2) ++ [x, y] ++ (xs.take (a * 2) ++ xs.drop (e * 2)).drop (a * 2)) (T.take a ++ ([r] ++ T.drop e)) := by
  have hl := hV.len
  have e1 : (xs.take (a * 2)).length = a * 2 := by rw [List.length_take]; omega
  rw [List.take_left' e1, List.drop_left' e1, List.append_assoc]
  exact RfVP.append (hV.take a) (RfVP.append hL (hV.drop e))
theorem deleteR_K {w : World} {base n c i j K : Nat} {A : Option Addr} {xs : List Value} (ho : w.ownsRow base 36 2 (.slice A n c) n xs) (hx1 : ∀ u ∈ xs, u.oneCell' = true) (hij : i ≤ j) (hj : j ≤ n) (hK : K = i + (n - j)) :
    Calls Try.prog 28 #[.slice A n c, .int .i64 i, .int .i64 j] w fun e w' => e = .returned (.slice A K c) ∧ w'.ownsRow base 36 2 (.slice A K c) K (xs.take (i * 2) ++ xs.drop (j * 2)) ∧ w.grownBy w' (Value.slice A n c).ownBlock := by
  subst hK
  exact deleteR_any ho hx1 hij hj
theorem insertR_K {w0 : World} {base n c i N : Nat} {A : Option Addr} {xs : List Value} (x y : Value) (hx : x.oneCell' = true) (hy : y.oneCell' = true) (ho : w0.ownsRow base 36 2 (.slice A n c) n xs) (hx1 : ∀ u ∈ xs, u.oneCell' = true) (hi : i ≤ n) (hn : n ≤ 100000) (hb : base ≤ w0.heap.size) (hN : N = n + 1) :
    Calls Try.prog 31 #[.slice A n c, .int .i64 i, .slice (some ⟨w0.heap.size, 0, none⟩) 1 1] (w0.alloc (.cells #[x, y] 36)) fun e w' => ∃ A' c', e = .returned (.slice A' N c') ∧ w'.ownsRow base 36 2 (.slice A' N c') N (xs.take (i * 2) ++ [x, y] ++ xs.drop (i * 2)) ∧ ∀ W0, Ext W0 w0 → W0.heap.size ≤ base → Ext W0 w' := by
  subst hN
  exact insertR_any x y hx hy ho hx1 hi hn hb
set_option maxRecDepth 100000 in
set_option maxHeartbeats 8000000 in
set_option linter.unusedSimpArgs false in
/-- The program's Apply. -/
theorem apply_any {w : World} {A : Option Addr} {n c : Nat} {T : List Rf} (h : RfRd w A n T) (hnil : A = none → c = 0) (hn : n ≤ 1000) (fT : Few T) (l : Lk) {B : Option Addr} {d : Nat} (hp : PsV w (.slice B l.add.ps.length d) l.add.ps) (hf : l.add.ps.length ≤ 1048576) :
    Calls Try.prog 14 #[.slice A n c, .agg #[.int .i64 l.at_, .int .i64 l.take, .int .i64 l.add.len, .slice B l.add.ps.length d, .int .i64 l.before.row, .int .u64 l.before.st, .int .i64 l.before.len]] w (TabsIs (applyL T l) w) := by
  have hpc : PcRd w B l.add.ps.length l.add.ps := by
    obtain ⟨B', c', hv, h1, _⟩ := hp
    cases hv; exact h1
  have HM := Lib.hid (fun w' (hE : Ext w w') => may_any l (c := d) (hpc.ext hE) hf)
  have HN := Lib.hid (fun w' => none_any l.add B d w')
  have HFS := Lib.hid (splice_few fT hf)
  have hTl : T.length = n := h.1
  have hb := Blk.new w 41 #[.int .i64 l.at_, .int .i64 l.take, .int .i64 l.add.len, .slice B l.add.ps.length d, .int .i64 l.before.row, .int .u64 l.before.st, .int .i64 l.before.len]
  have hX0 : Ext w (w.alloc (.cells #[.int .i64 l.at_, .int .i64 l.take, .int .i64 l.add.len, .slice B l.add.ps.length d, .int .i64 l.before.row, .int .u64 l.before.st, .int .i64 l.before.len] 41)) := (Ext.refl w).alloc _
  cases hm : mayL l
  · rw [hm] at HM
    have hR : applyL T l = ([], 2) := by unfold applyL; rw [if_pos (Or.inl hm)]
    clear hm hb HN h hTl hp hpc
    go_enter Try.func14, Try.ntmps14
    go_wp2_with (go_at_call 27; (with_reducible refine (HM.out _ hX0).mono ?_); rintro e w1 ⟨rfl, hE1⟩)
    go_ret2
    exact TabsIs.no hR (hX0.trans hE1)
  · rw [hm] at HM
    obtain ⟨m1, m2, m3, m4⟩ := may_bounds hm
    obtain ⟨a, ha⟩ : ∃ a : Nat, l.at_ = a := ⟨l.at_.toNat, by omega⟩
    obtain ⟨b, hbb⟩ : ∃ b : Nat, l.take = b := ⟨l.take.toNat, by omega⟩
    obtain ⟨e, he⟩ : ∃ e, e = a + b := ⟨_, rfl⟩
    have hw : IntKind.i64.wrap ((a : Int) + (b : Int)) = (e : Int) := by rw [IntWalk.i64_in _ (by omega)]; omega
    rw [ha, hbb] at HM hb hX0 ⊢
    generalize hm7 : l.add.ps.length = m at *
    by_cases hlt : n < e
    · have t1 : decide ((n : Int) < (e : Int)) = true := by simp; omega
      have hR : applyL T l = ([], 2) := by unfold applyL; rw [if_pos (Or.inr (by rw [hTl, ha, hbb]; omega))]
      clear hm HN h hTl hp hpc he
      go_enter Try.func14, Try.ntmps14
      go_wp2_with (go_at_call 27; (with_reducible refine (HM.out _ hX0).mono ?_); rintro e w1 ⟨rfl, hE1⟩; have k := hb.ext hE1; have x0 := k.cell 0; have x1 := k.cell 1; simp at x0 x1)
      go_ret2
      exact TabsIs.no hR (hX0.trans hE1)
    · have t1 : decide ((n : Int) < (e : Int)) = false := by simp; omega
      obtain ⟨xs, hrd, hvs, hone⟩ := h.xs
      obtain ⟨r, hr⟩ : ∃ r, r = n - e := ⟨_, rfl⟩
      obtain ⟨hsl, hsp⟩ := splice_len T l a e ha (by omega) (by omega)
      have hR0 : applyL T l = if 64 < (spliceL T l).length then ([], 6) else (spliceL T l, 0) := by unfold applyL; rw [if_neg (by rw [hm, hTl, ha, hbb]; simp; omega)]
      rw [hTl, ← hr] at hsl
      have HCL := Lib.hid (fun w' (hE : Ext w w') => cloneRf (c := c) (hrd.ext hE) hone (by omega) hnil)
      have HVS := Lib.hid hvs
      have HPV := Lib.hid hp
      have HON := Lib.hid hone
      have HXL := Lib.hid hrd.1
      have H1 := Lib.hid (show a ≤ e ∧ e ≤ n ∧ n ≤ 1000 ∧ r = n - e ∧ a ≤ 64 by omega)
      have i2 : (e : Int) ≤ (n : Int) := by omega
      have y0 := hb.cell 0
      have y1 := hb.cell 1
      have y2 := hb.cell 2
      have y3 := hb.cell 3
      simp only [List.getElem?_toArray, List.getElem?_cons_succ, List.getElem?_cons_zero] at y0 y1 y2 y3
      obtain ⟨wB, hwB⟩ : ∃ wB, wB = w.alloc (.cells #[.int .i64 (a : Int), .int .i64 (b : Int), .int .i64 l.add.len, .slice B m d, .int .i64 l.before.row, .int .u64 l.before.st, .int .i64 l.before.len] 41) := ⟨_, rfl⟩
      rw [← hwB] at hb hX0 y0 y1 y2 y3
      have hsz : wB.heap.size = w.heap.size + 1 := by rw [hwB]; simp
      cases hnr : noneR l.add
      · rw [hnr] at HN hsl hsp
        simp only [Bool.false_eq_true, if_false, if_true, List.nil_append, Nat.zero_add] at hsl hsp
        rw [← Nat.add_assoc] at hsl
        obtain ⟨N, hN⟩ : ∃ N, N = a + 1 + r := ⟨_, rfl⟩
        rw [← hN] at hsl
        rw [hsl] at hR0
        have HSP := Lib.hid hsp
        have HTL := Lib.hid hTl
        have HSL := Lib.hid hsl
        have HNN := Lib.hid hN
        obtain ⟨kd, hK⟩ : ∃ kd, kd = a + r := ⟨_, rfl⟩
        have HK := Lib.hid hK
        have HNK := Lib.hid (show N = kd + 1 by omega)
        clear hm h hTl hp hpc he hlt hrd hvs hone hsl hsp hnr hr hm7 ha hbb m1 m2 m3 m4 fT hN hK
        go_enter Try.func14, Try.ntmps14
        go_wp2_with (go_at_call 27; rw [← hwB]; (with_reducible refine (HM.out _ hX0).mono ?_); rintro e w1 ⟨rfl, hE1⟩; have x0 := hE1.cellv y0; have x1 := hE1.cellv y1)
        refine wp_region_noPanic ?_
        refine wp_region_held_drew (S := fun w' => w'.cell? ⟨w.heap.size, 0, none⟩ = some (.int .i64 (a : Int)) ∧ w'.cell? ⟨w.heap.size, 1, none⟩ = some (.int .i64 (b : Int)) ∧ Ext wB w') (by kernel_rfl) ⟨x0, x1, hE1.drew⟩ (fun hHeld => ?_)
        refine wpAnyH_take (i := 0) (v := ?_) rfl (by kernel_rfl) (by kernel_rfl) (by kernel_rfl) (fun _ _ _ h => h) (Or.inl ⟨by simp [Region.wanted, yielded], ?_⟩) (by assumption) ?_
        rotate_left 1
        · (intro w hSw; (try dsimp only at hSw); go_simp; all_goals with_reducible rfl)
        try simp only [Act.put, List.getElem_toArray, List.getElem_cons_zero, List.getElem_cons_succ, List.setIfInBounds_toArray, List.set_cons_zero, List.set_cons_succ]
        refine wpAnyH_take (i := 2) (v := ?_) rfl (by kernel_rfl) (by kernel_rfl) (by kernel_rfl) (fun _ _ _ h => h) (Or.inl ⟨by simp [Region.wanted, yielded], ?_⟩) (by assumption) ?_
        rotate_left 1
        · (intro w hSw; (try dsimp only at hSw); go_simp; all_goals with_reducible rfl)
        try simp only [Act.put, List.getElem_toArray, List.getElem_cons_zero, List.getElem_cons_succ, List.setIfInBounds_toArray, List.set_cons_zero, List.set_cons_succ]
        refine wpAnyH_take (i := 3) (v := ?_) rfl (by kernel_rfl) (by kernel_rfl) (by kernel_rfl) (fun _ _ _ h => h) (Or.inl ⟨by simp [Region.wanted, yielded], ?_⟩) (by assumption) ?_
        rotate_left 1
        · (intro w hSw; (try dsimp only at hSw); go_simp; all_goals with_reducible rfl)
        try simp only [Act.put, List.getElem_toArray, List.getElem_cons_zero, List.getElem_cons_succ, List.setIfInBounds_toArray, List.set_cons_zero, List.set_cons_succ]
        refine wpAnyH_take (i := 4) (v := ?_) rfl (by kernel_rfl) (by kernel_rfl) (by kernel_rfl) (fun _ _ _ h => h) (Or.inl ⟨by simp [Region.wanted, yielded], ?_⟩) (by assumption) ?_
        rotate_left 1
        · (intro w hSw; (try dsimp only at hSw); go_simp; all_goals with_reducible rfl)
        try simp only [Act.put, List.getElem_toArray, List.getElem_cons_zero, List.getElem_cons_succ, List.setIfInBounds_toArray, List.set_cons_zero, List.set_cons_succ]
        refine wpAnyH_take (i := 5) (v := ?_) rfl (by kernel_rfl) (by kernel_rfl) (by kernel_rfl) (fun _ _ _ h => h) (Or.inl ⟨by simp [Region.wanted, yielded], ?_⟩) (by assumption) ?_
        rotate_left 1
        · (intro w hSw; (try dsimp only at hSw); go_simp; all_goals with_reducible rfl)
        try simp only [Act.put, List.getElem_toArray, List.getElem_cons_zero, List.getElem_cons_succ, List.setIfInBounds_toArray, List.set_cons_zero, List.set_cons_succ]
        refine wpAnyH_take (i := 6) (v := ?_) rfl (by kernel_rfl) (by kernel_rfl) (by kernel_rfl) (fun _ _ _ h => h) (Or.inl ⟨by simp [Region.wanted, yielded], ?_⟩) (by assumption) ?_
        rotate_left 1
        · (intro w hSw; (try dsimp only at hSw); go_simp; all_goals with_reducible rfl)
        try simp only [Act.put, List.getElem_toArray, List.getElem_cons_zero, List.getElem_cons_succ, List.setIfInBounds_toArray, List.set_cons_zero, List.set_cons_succ]
        refine wpAnyH_take (i := 7) (v := ?_) rfl (by kernel_rfl) (by kernel_rfl) (by kernel_rfl) (fun _ _ _ h => h) (Or.inl ⟨by simp [Region.wanted, yielded], ?_⟩) (by assumption) ?_
        rotate_left 1
        · (intro w hSw; (try dsimp only at hSw); go_simp; all_goals with_reducible rfl)
        try simp only [Act.put, List.getElem_toArray, List.getElem_cons_zero, List.getElem_cons_succ, List.setIfInBounds_toArray, List.set_cons_zero, List.set_cons_succ]
        refine wpAnyH_take (i := 8) (v := ?_) rfl (by kernel_rfl) (by kernel_rfl) (by kernel_rfl) (fun _ _ _ h => h) (Or.inl ⟨by simp [Region.wanted, yielded], ?_⟩) (by assumption) ?_
        rotate_left 1
        · (intro w hSw; (try dsimp only at hSw); go_simp; all_goals with_reducible rfl)
        try simp only [Act.put, List.getElem_toArray, List.getElem_cons_zero, List.getElem_cons_succ, List.setIfInBounds_toArray, List.set_cons_zero, List.set_cons_succ]
        refine wpAnyH_ready (rs := [1]) (by kernel_rfl) (by simp) ?_
        refine AllReadyH.cons rfl (fun K hK => ?_) AllReadyH.nil
        go_simp
        go_at_call 29; (with_reducible refine (HCL.out _ (hX0.trans hE1.drew)).mono ?_); rintro e w2 ⟨A2, c2, rfl, ho2, hE2⟩; obtain ⟨base, hbs⟩ : ∃ base, base = w1.drew.heap.size := ⟨_, rfl⟩; rw [← hbs] at ho2; have HB := Lib.hid hbs; clear hbs; have HO2 := Lib.hid ho2; clear ho2
        refine hK.out _ _ ⟨hE2.cellv x0, hE2.cellv x1, hE1.drew.trans hE2⟩ (fun hHeld => ?_)
        clear hK K
        try simp only [Act.put, List.getElem_toArray, List.getElem_cons_zero, List.getElem_cons_succ, List.setIfInBounds_toArray, List.set_cons_zero, List.set_cons_succ]
        refine wpAnyH_ready (rs := [9]) (by kernel_rfl) (by simp) ?_
        refine AllReadyH.cons rfl (fun K hK => ?_) AllReadyH.nil
        go_simp
        go_at_call 28; (with_reducible refine (deleteR_K (K := kd) HO2.out HON.out (by have := H1.out; omega) (by have := H1.out; omega) (by have := H1.out; have := HK.out; omega)).mono ?_); rintro e w3 ⟨rfl, ho3, hg3⟩; have hEx := (hE1.drew.trans hE2).grown hg3 (fun k hk => Nat.le_trans (by rw [HB.out]; exact hE1.size) (own_block HO2.out hk)); have HO3 := Lib.hid ho3; have HS3 := Lib.hid (show base ≤ w3.heap.size from Nat.le_trans (by rw [HB.out]; exact hE2.size) hg3.size); clear ho3 hg3
        refine hK.out _ _ ⟨hEx.cellv y0, hEx.cellv y1, hEx⟩ (fun hHeld => ?_)
        clear hK K
        try simp only [Act.put, List.getElem_toArray, List.getElem_cons_zero, List.getElem_cons_succ, List.setIfInBounds_toArray, List.set_cons_zero, List.set_cons_succ]
        refine wpAnyH_take (i := 10) (v := ?_) rfl (by kernel_rfl) (by kernel_rfl) (by kernel_rfl) (fun _ _ _ h => h) (Or.inl ⟨by simp [Region.wanted, yielded], ?_⟩) (by assumption) ?_
        rotate_left 1
        · (intro w hSw; (try dsimp only at hSw); go_simp; all_goals with_reducible rfl)
        try simp only [Act.put, List.getElem_toArray, List.getElem_cons_zero, List.getElem_cons_succ, List.setIfInBounds_toArray, List.set_cons_zero, List.set_cons_succ]
        refine wpAnyH_done (by kernel_rfl) ?_ _
        refine NoPanic.normal ?_
        have v0 := hEx.cellv y0
        have v2 := hEx.cellv y2
        have v3 := hEx.cellv y3
        by_cases h64 : 64 < N
        · have t2 : decide ((64 : Int) < (N : Int)) = true := by simp; omega
          rw [if_pos h64] at hR0
          have HR0 := Lib.hid hR0
          clear hR0
          go_wp2_with (first
            | (go_at_call 30; (with_reducible refine (HN.out _).mono ?_); rintro e w4 ⟨rfl, hE4⟩; have hE4' := hEx.trans hE4; have z0 := hE4'.cellv y0; have z2 := hE4'.cellv y2; have z3 := hE4'.cellv y3; have HO4 := Lib.hid (World.ownsRow.ext HO3.out hE4); have HS4 := Lib.hid (Nat.le_trans HS3.out hE4.size))
            | (go_at_call 31; (with_reducible refine (insertR_K (N := N) (base := base) _ _ rfl rfl HO4.out (fun u hu => by rcases List.mem_append.mp hu with q | q; exact HON.out u (List.mem_of_mem_take q); exact HON.out u (List.mem_of_mem_drop q)) (by have := H1.out; have := HK.out; omega) (by have := H1.out; have := HK.out; omega) HS4.out HNK.out).mono ?_); rintro e w5 ⟨A5, c5, rfl, ho5, hg5⟩; have HO5 := Lib.hid ho5; have hE5 := hg5 wB hE4' (by rw [HB.out]; exact hE1.size); clear ho5 hg5))
          go_ret2
          exact TabsIs.no HR0.out (hX0.trans hE5)
        · have t2 : decide ((64 : Int) < (N : Int)) = false := by simp; omega
          rw [if_neg h64] at hR0
          have HR0 := Lib.hid hR0
          clear hR0
          go_wp2_with (first
            | (go_at_call 30; (with_reducible refine (HN.out _).mono ?_); rintro e w4 ⟨rfl, hE4⟩; have hE4' := hEx.trans hE4; have z0 := hE4'.cellv y0; have z2 := hE4'.cellv y2; have z3 := hE4'.cellv y3; have HO4 := Lib.hid (World.ownsRow.ext HO3.out hE4); have HS4 := Lib.hid (Nat.le_trans HS3.out hE4.size))
            | (go_at_call 31; (with_reducible refine (insertR_K (N := N) (base := base) _ _ rfl rfl HO4.out (fun u hu => by rcases List.mem_append.mp hu with q | q; exact HON.out u (List.mem_of_mem_take q); exact HON.out u (List.mem_of_mem_drop q)) (by have := H1.out; have := HK.out; omega) (by have := H1.out; have := HK.out; omega) HS4.out HNK.out).mono ?_); rintro e w5 ⟨A5, c5, rfl, ho5, hg5⟩; have HO5 := Lib.hid ho5; have hE5 := hg5 wB hE4' (by rw [HB.out]; exact hE1.size); clear ho5 hg5))
          have hEW := hX0.trans hE5
          have HWB := Lib.hid (show w.heap.size ≤ base by have := hE1.size; rw [hsz] at this; rw [HB.out]; simp only [World.drew] at *; omega)
          have HOW : Hid (RfOw w5 base A5 N c5 (spliceL T l)) := Lib.hid ⟨HSL.out, _, HO5.out, by
            have hV : RfVP (PsB w5 base) xs T := HVS.out.mono (fun v ps k => (PsB.old k HWB.out).ext hEW)
            rw [HSP.out]
            exact spliceV hV (by have := H1.out; have := HTL.out; omega) ⟨rfl, (PsB.old HPV.out HWB.out).ext hEW, trivial⟩⟩
          obtain ⟨S, hS⟩ : ∃ S, S = spliceL T l := ⟨_, rfl⟩
          rw [← hS] at HOW HFS HR0 HSL
          go_loopw [47] (fun iv wr => ∃ k : Nat, k ≤ N ∧ iv = .int .i64 k ∧ Hid (RfOw wr base A5 N c5 S) ∧ Ext w wr) (fun iv _ => N - (intOf iv).toNat)
          case atStart => exact ⟨0, by omega, rfl, HOW, hEW⟩
          case round =>
            obtain ⟨k, hk, rfl, how, hE⟩ := hrel
            by_cases hk2 : k < N
            · have kk : (k : Int) < (N : Int) := by omega
              have kk0 : (0 : Int) ≤ (k : Int) := by omega
              obtain ⟨g, b, rfl, hgb, c0, c1, hv⟩ := how.out.at_ hk2
              have f1 := HFS.out.at_ k
              obtain ⟨p, hp⟩ : ∃ p, p = S.getD k default := ⟨_, rfl⟩
              rw [← hp] at c0 hv f1
              obtain ⟨D0, d0, rfl, r1, r2, r3⟩ := hv
              have HO := Lib.hid (own_any (w := wr) p ⟨D0, d0, rfl, r1, r2, r3⟩ f1)
              have HP := Lib.hid hp
              have HKN := Lib.hid hk2
              clear r1 r2 r3 f1 hp
              go_wp2_with (go_at_call 32; (with_reducible refine HO.out.mono ?_); rintro e w6 ⟨D1, d1, rfl, hP1, hE6⟩; have HP1 := Lib.hid hP1; clear hP1; have hw6 := how.out.ext hE6; have q0 := hw6.frz (k * 2); have q1 := hw6.frz2 (j := k * 2) (u := .int .i64 p.len) (k * 2 + 1); have q2 := hw6.put2 (j := k * 2) (u := .int .i64 p.len) (hE6.cellv c1) (by omega); have q3 := hE6.cellv c0; have HW6 := Lib.hid hw6; clear hw6)
              exact ⟨⟨k + 1, by omega, rfl, Lib.hid (RfOw.put HW6.out HP.out HKN.out (HP1.out base)), ((hE.trans hE6).setCell (p := ⟨g, k * 2, none⟩) (Nat.le_trans HWB.out hgb) _).setCell (p := ⟨g, k * 2 + 1, none⟩) (Nat.le_trans HWB.out hgb) _⟩, by simp [intOf]; omega⟩
            · obtain rfl : k = N := by omega
              have kk : ¬ (k : Int) < (k : Int) := by omega
              go_wp2
              go_ret2
              rw [HR0.out]
              obtain ⟨g1, xs1, g2, g3⟩ := how.out
              exact ⟨A5, c5, by rw [HSL.out]; rfl, by rw [HSL.out]; exact own_cap g2, own_nil g2, by rw [HSL.out]; exact how.out.rd, hE⟩

      · rw [hnr] at HN hsl hsp
        simp only [Bool.false_eq_true, if_false, if_true, List.nil_append, Nat.zero_add] at hsl hsp
        skip
        obtain ⟨N, hN⟩ : ∃ N, N = a + r := ⟨_, rfl⟩
        rw [← hN] at hsl
        rw [hsl] at hR0
        have HSP := Lib.hid hsp
        have HTL := Lib.hid hTl
        have HSL := Lib.hid hsl
        have HNN := Lib.hid hN
        obtain ⟨kd, hK⟩ : ∃ kd, kd = a + r := ⟨_, rfl⟩
        have HK := Lib.hid hK
        obtain rfl : N = kd := by omega
        clear hm h hTl hp hpc he hlt hrd hvs hone hsl hsp hnr hr hm7 ha hbb m1 m2 m3 m4 fT hN hK
        go_enter Try.func14, Try.ntmps14
        go_wp2_with (go_at_call 27; rw [← hwB]; (with_reducible refine (HM.out _ hX0).mono ?_); rintro e w1 ⟨rfl, hE1⟩; have x0 := hE1.cellv y0; have x1 := hE1.cellv y1)
        refine wp_region_noPanic ?_
        refine wp_region_held_drew (S := fun w' => w'.cell? ⟨w.heap.size, 0, none⟩ = some (.int .i64 (a : Int)) ∧ w'.cell? ⟨w.heap.size, 1, none⟩ = some (.int .i64 (b : Int)) ∧ Ext wB w') (by kernel_rfl) ⟨x0, x1, hE1.drew⟩ (fun hHeld => ?_)
        refine wpAnyH_take (i := 0) (v := ?_) rfl (by kernel_rfl) (by kernel_rfl) (by kernel_rfl) (fun _ _ _ h => h) (Or.inl ⟨by simp [Region.wanted, yielded], ?_⟩) (by assumption) ?_
        rotate_left 1
        · (intro w hSw; (try dsimp only at hSw); go_simp; all_goals with_reducible rfl)
        try simp only [Act.put, List.getElem_toArray, List.getElem_cons_zero, List.getElem_cons_succ, List.setIfInBounds_toArray, List.set_cons_zero, List.set_cons_succ]
        refine wpAnyH_take (i := 2) (v := ?_) rfl (by kernel_rfl) (by kernel_rfl) (by kernel_rfl) (fun _ _ _ h => h) (Or.inl ⟨by simp [Region.wanted, yielded], ?_⟩) (by assumption) ?_
        rotate_left 1
        · (intro w hSw; (try dsimp only at hSw); go_simp; all_goals with_reducible rfl)
        try simp only [Act.put, List.getElem_toArray, List.getElem_cons_zero, List.getElem_cons_succ, List.setIfInBounds_toArray, List.set_cons_zero, List.set_cons_succ]
        refine wpAnyH_take (i := 3) (v := ?_) rfl (by kernel_rfl) (by kernel_rfl) (by kernel_rfl) (fun _ _ _ h => h) (Or.inl ⟨by simp [Region.wanted, yielded], ?_⟩) (by assumption) ?_
        rotate_left 1
        · (intro w hSw; (try dsimp only at hSw); go_simp; all_goals with_reducible rfl)
        try simp only [Act.put, List.getElem_toArray, List.getElem_cons_zero, List.getElem_cons_succ, List.setIfInBounds_toArray, List.set_cons_zero, List.set_cons_succ]
        refine wpAnyH_take (i := 4) (v := ?_) rfl (by kernel_rfl) (by kernel_rfl) (by kernel_rfl) (fun _ _ _ h => h) (Or.inl ⟨by simp [Region.wanted, yielded], ?_⟩) (by assumption) ?_
        rotate_left 1
        · (intro w hSw; (try dsimp only at hSw); go_simp; all_goals with_reducible rfl)
        try simp only [Act.put, List.getElem_toArray, List.getElem_cons_zero, List.getElem_cons_succ, List.setIfInBounds_toArray, List.set_cons_zero, List.set_cons_succ]
        refine wpAnyH_take (i := 5) (v := ?_) rfl (by kernel_rfl) (by kernel_rfl) (by kernel_rfl) (fun _ _ _ h => h) (Or.inl ⟨by simp [Region.wanted, yielded], ?_⟩) (by assumption) ?_
        rotate_left 1
        · (intro w hSw; (try dsimp only at hSw); go_simp; all_goals with_reducible rfl)
        try simp only [Act.put, List.getElem_toArray, List.getElem_cons_zero, List.getElem_cons_succ, List.setIfInBounds_toArray, List.set_cons_zero, List.set_cons_succ]
        refine wpAnyH_take (i := 6) (v := ?_) rfl (by kernel_rfl) (by kernel_rfl) (by kernel_rfl) (fun _ _ _ h => h) (Or.inl ⟨by simp [Region.wanted, yielded], ?_⟩) (by assumption) ?_
        rotate_left 1
        · (intro w hSw; (try dsimp only at hSw); go_simp; all_goals with_reducible rfl)
        try simp only [Act.put, List.getElem_toArray, List.getElem_cons_zero, List.getElem_cons_succ, List.setIfInBounds_toArray, List.set_cons_zero, List.set_cons_succ]
        refine wpAnyH_take (i := 7) (v := ?_) rfl (by kernel_rfl) (by kernel_rfl) (by kernel_rfl) (fun _ _ _ h => h) (Or.inl ⟨by simp [Region.wanted, yielded], ?_⟩) (by assumption) ?_
        rotate_left 1
        · (intro w hSw; (try dsimp only at hSw); go_simp; all_goals with_reducible rfl)
        try simp only [Act.put, List.getElem_toArray, List.getElem_cons_zero, List.getElem_cons_succ, List.setIfInBounds_toArray, List.set_cons_zero, List.set_cons_succ]
        refine wpAnyH_take (i := 8) (v := ?_) rfl (by kernel_rfl) (by kernel_rfl) (by kernel_rfl) (fun _ _ _ h => h) (Or.inl ⟨by simp [Region.wanted, yielded], ?_⟩) (by assumption) ?_
        rotate_left 1
        · (intro w hSw; (try dsimp only at hSw); go_simp; all_goals with_reducible rfl)
        try simp only [Act.put, List.getElem_toArray, List.getElem_cons_zero, List.getElem_cons_succ, List.setIfInBounds_toArray, List.set_cons_zero, List.set_cons_succ]
        refine wpAnyH_ready (rs := [1]) (by kernel_rfl) (by simp) ?_
        refine AllReadyH.cons rfl (fun K hK => ?_) AllReadyH.nil
        go_simp
        go_at_call 29; (with_reducible refine (HCL.out _ (hX0.trans hE1.drew)).mono ?_); rintro e w2 ⟨A2, c2, rfl, ho2, hE2⟩; obtain ⟨base, hbs⟩ : ∃ base, base = w1.drew.heap.size := ⟨_, rfl⟩; rw [← hbs] at ho2; have HB := Lib.hid hbs; clear hbs; have HO2 := Lib.hid ho2; clear ho2
        refine hK.out _ _ ⟨hE2.cellv x0, hE2.cellv x1, hE1.drew.trans hE2⟩ (fun hHeld => ?_)
        clear hK K
        try simp only [Act.put, List.getElem_toArray, List.getElem_cons_zero, List.getElem_cons_succ, List.setIfInBounds_toArray, List.set_cons_zero, List.set_cons_succ]
        refine wpAnyH_ready (rs := [9]) (by kernel_rfl) (by simp) ?_
        refine AllReadyH.cons rfl (fun K hK => ?_) AllReadyH.nil
        go_simp
        go_at_call 28; (with_reducible refine (deleteR_K (K := N) HO2.out HON.out (by have := H1.out; omega) (by have := H1.out; omega) (by have := H1.out; have := HK.out; omega)).mono ?_); rintro e w3 ⟨rfl, ho3, hg3⟩; have hEx := (hE1.drew.trans hE2).grown hg3 (fun k hk => Nat.le_trans (by rw [HB.out]; exact hE1.size) (own_block HO2.out hk)); have HO3 := Lib.hid ho3; have HS3 := Lib.hid (show base ≤ w3.heap.size from Nat.le_trans (by rw [HB.out]; exact hE2.size) hg3.size); clear ho3 hg3
        refine hK.out _ _ ⟨hEx.cellv y0, hEx.cellv y1, hEx⟩ (fun hHeld => ?_)
        clear hK K
        try simp only [Act.put, List.getElem_toArray, List.getElem_cons_zero, List.getElem_cons_succ, List.setIfInBounds_toArray, List.set_cons_zero, List.set_cons_succ]
        refine wpAnyH_take (i := 10) (v := ?_) rfl (by kernel_rfl) (by kernel_rfl) (by kernel_rfl) (fun _ _ _ h => h) (Or.inl ⟨by simp [Region.wanted, yielded], ?_⟩) (by assumption) ?_
        rotate_left 1
        · (intro w hSw; (try dsimp only at hSw); go_simp; all_goals with_reducible rfl)
        try simp only [Act.put, List.getElem_toArray, List.getElem_cons_zero, List.getElem_cons_succ, List.setIfInBounds_toArray, List.set_cons_zero, List.set_cons_succ]
        refine wpAnyH_done (by kernel_rfl) ?_ _
        refine NoPanic.normal ?_
        have v0 := hEx.cellv y0
        have v2 := hEx.cellv y2
        have v3 := hEx.cellv y3
        by_cases h64 : 64 < N
        · have t2 : decide ((64 : Int) < (N : Int)) = true := by simp; omega
          rw [if_pos h64] at hR0
          have HR0 := Lib.hid hR0
          clear hR0
          go_wp2_with (go_at_call 30; (with_reducible refine (HN.out _).mono ?_); rintro e w4 ⟨rfl, hE4⟩; have hE4' := hEx.trans hE4; have z0 := hE4'.cellv y0; have z2 := hE4'.cellv y2; have z3 := hE4'.cellv y3; have HO4 := Lib.hid (World.ownsRow.ext HO3.out hE4); have HS4 := Lib.hid (Nat.le_trans HS3.out hE4.size))
          go_ret2
          exact TabsIs.no HR0.out (hX0.trans hE4')
        · have t2 : decide ((64 : Int) < (N : Int)) = false := by simp; omega
          rw [if_neg h64] at hR0
          have HR0 := Lib.hid hR0
          clear hR0
          go_wp2_with (go_at_call 30; (with_reducible refine (HN.out _).mono ?_); rintro e w4 ⟨rfl, hE4⟩; have hE4' := hEx.trans hE4; have z0 := hE4'.cellv y0; have z2 := hE4'.cellv y2; have z3 := hE4'.cellv y3; have HO4 := Lib.hid (World.ownsRow.ext HO3.out hE4); have HS4 := Lib.hid (Nat.le_trans HS3.out hE4.size))
          have hEW := hX0.trans hE4'
          have HWB := Lib.hid (show w.heap.size ≤ base by have := hE1.size; rw [hsz] at this; rw [HB.out]; simp only [World.drew] at *; omega)
          have HOW : Hid (RfOw w4 base A2 N c2 (spliceL T l)) := Lib.hid ⟨HSL.out, _, HO4.out, by
            have hV : RfVP (PsB w4 base) xs T := HVS.out.mono (fun v ps k => (PsB.old k HWB.out).ext hEW)
            rw [HSP.out]
            exact RfVP.append (hV.take a) (hV.drop e)⟩
          obtain ⟨S, hS⟩ : ∃ S, S = spliceL T l := ⟨_, rfl⟩
          rw [← hS] at HOW HFS HR0 HSL
          go_loopw [47] (fun iv wr => ∃ k : Nat, k ≤ N ∧ iv = .int .i64 k ∧ Hid (RfOw wr base A2 N c2 S) ∧ Ext w wr) (fun iv _ => N - (intOf iv).toNat)
          case atStart => exact ⟨0, by omega, rfl, HOW, hEW⟩
          case round =>
            obtain ⟨k, hk, rfl, how, hE⟩ := hrel
            by_cases hk2 : k < N
            · have kk : (k : Int) < (N : Int) := by omega
              have kk0 : (0 : Int) ≤ (k : Int) := by omega
              obtain ⟨g, b, rfl, hgb, c0, c1, hv⟩ := how.out.at_ hk2
              have f1 := HFS.out.at_ k
              obtain ⟨p, hp⟩ : ∃ p, p = S.getD k default := ⟨_, rfl⟩
              rw [← hp] at c0 hv f1
              obtain ⟨D0, d0, rfl, r1, r2, r3⟩ := hv
              have HO := Lib.hid (own_any (w := wr) p ⟨D0, d0, rfl, r1, r2, r3⟩ f1)
              have HP := Lib.hid hp
              have HKN := Lib.hid hk2
              clear r1 r2 r3 f1 hp
              go_wp2_with (go_at_call 32; (with_reducible refine HO.out.mono ?_); rintro e w6 ⟨D1, d1, rfl, hP1, hE6⟩; have HP1 := Lib.hid hP1; clear hP1; have hw6 := how.out.ext hE6; have q0 := hw6.frz (k * 2); have q1 := hw6.frz2 (j := k * 2) (u := .int .i64 p.len) (k * 2 + 1); have q2 := hw6.put2 (j := k * 2) (u := .int .i64 p.len) (hE6.cellv c1) (by omega); have q3 := hE6.cellv c0; have HW6 := Lib.hid hw6; clear hw6)
              exact ⟨⟨k + 1, by omega, rfl, Lib.hid (RfOw.put HW6.out HP.out HKN.out (HP1.out base)), ((hE.trans hE6).setCell (p := ⟨g, k * 2, none⟩) (Nat.le_trans HWB.out hgb) _).setCell (p := ⟨g, k * 2 + 1, none⟩) (Nat.le_trans HWB.out hgb) _⟩, by simp [intOf]; omega⟩
            · obtain rfl : k = N := by omega
              have kk : ¬ (k : Int) < (k : Int) := by omega
              go_wp2
              go_ret2
              rw [HR0.out]
              obtain ⟨g1, xs1, g2, g3⟩ := how.out
              exact ⟨A2, c2, by rw [HSL.out]; rfl, by rw [HSL.out]; exact own_cap g2, own_nil g2, by rw [HSL.out]; exact how.out.rd, hE⟩

