import Derived.Test.YtpcbllmmbbmkfaaE6
import Derived.Shelf.Abstract
import Derived.WalkMore
namespace Go.Proofs.Ytpcbllmmbbmkfaa
open Go.RowKit
theorem list_ext_R {a b : List Rf} (hl : a.length = b.length) (h : ∀ i, i < a.length → a.getD i default = b.getD i default) : a = b := by
  apply List.ext_getElem hl
  intro i h1 h2
  have := h i h1
  rwa [List.getD_eq_getElem?_getD, List.getD_eq_getElem?_getD, List.getElem?_eq_getElem h1, List.getElem?_eq_getElem h2] at this
/-- Refs of which none has more pieces than so many. -/
def Few (l : List Rf) : Prop := ∀ r ∈ l, r.ps.length ≤ 1048576
theorem Few.at_ {l : List Rf} (h : Few l) (i : Nat) : (l.getD i default).ps.length ≤ 1048576 := by
  rcases Nat.lt_or_ge i l.length with hi | hi
  · exact h _ (by rw [List.getD_eq_getElem?_getD, List.getElem?_eq_getElem hi]; exact List.getElem_mem _)
  · rw [List.getD_eq_getElem?_getD, List.getElem?_eq_none hi]; exact Nat.zero_le _
theorem two_boxes (w : World) (a b c d : Value) : ((w.alloc (.cells #[a, b] 36)).alloc (.cells #[c, d] 36)).cell? ⟨w.heap.size, 0, none⟩ = some a ∧ ((w.alloc (.cells #[a, b] 36)).alloc (.cells #[c, d] 36)).cell? ⟨w.heap.size, 1, none⟩ = some b ∧ ((w.alloc (.cells #[a, b] 36)).alloc (.cells #[c, d] 36)).cell? ⟨w.heap.size + 1, 0, none⟩ = some c ∧ ((w.alloc (.cells #[a, b] 36)).alloc (.cells #[c, d] 36)).cell? ⟨w.heap.size + 1, 1, none⟩ = some d := by
  have hE := (Ext.refl (w.alloc (.cells #[a, b] 36))).alloc (.cells #[c, d] 36)
  have h1 := Blk.new w 36 #[a, b]
  have h2 := Blk.new (w.alloc (.cells #[a, b] 36)) 36 #[c, d]
  rw [World.size_alloc] at h2
  exact ⟨hE.cellv (h1.cell 0), hE.cellv (h1.cell 1), h2.cell 0, h2.cell 1⟩
theorem e25 : Enters Try.prog 25 := enters_of Try.func25 (by kernel_rfl) rfl
set_option maxRecDepth 100000 in
set_option maxHeartbeats 1000000 in
set_option linter.unusedSimpArgs false in
theorem rsame_any {w : World} {A B : Option Addr} {n c m c' : Nat} {a b : List Rf} (ha : RfRd w A n a) (hb : RfRd w B m b) (hn : n ≤ 1048576) (hm : m ≤ 1048576) (fa : Few a) (fb : Few b) : Calls Try.prog 11 #[.slice A n c, .slice B m c'] w fun e w' => e = .returned (.bool (decide (a = b))) ∧ Ext w w' := by
  have HA := Lib.hid ha.1
  have HB := Lib.hid hb.1
  have HPA := Lib.hid ha
  have HPB := Lib.hid hb
  have HFA := Lib.hid fa
  have HFB := Lib.hid fb
  clear ha hb fa fb
  by_cases hnm : n = m
  · subst hnm
    have t1 : ((n : Int) != (n : Int)) = false := by simp
    go_enter Try.func11, Try.ntmps11
    go_wp2
    go_loopw [5] (fun iv wr => ∃ k : Nat, k ≤ n ∧ iv = .int .i64 k ∧ Hid (∀ i, i < k → a.getD i default = b.getD i default) ∧ Ext w wr) (fun iv _ => n - (intOf iv).toNat)
    case atStart => exact ⟨0, by omega, rfl, Lib.hid (fun i hi => by omega), Ext.refl _⟩
    case round =>
      obtain ⟨k, hk, rfl, hs, hE⟩ := hrel
      by_cases hk2 : k < n
      · have kk : (k : Int) < (n : Int) := by omega
        have kk0 : (0 : Int) ≤ (k : Int) := by omega
        obtain ⟨g, o, u, rfl, c0, c1, c2⟩ := (HPA.out.ext hE).at_ k hk2
        obtain ⟨g2, o2, v, rfl, d0, d1, d2⟩ := (HPB.out.ext hE).at_ k hk2
        have f1 := HFA.out.at_ k
        have f2 := HFB.out.at_ k
        obtain ⟨p, hp⟩ : ∃ p, p = a.getD k default := ⟨_, rfl⟩
        obtain ⟨q, hq⟩ : ∃ p, p = b.getD k default := ⟨_, rfl⟩
        rw [← hp] at c0 c2 f1
        rw [← hq] at d0 d2 f2
        obtain ⟨C1, k1, rfl, r1, _⟩ := c2
        obtain ⟨C2, k2, rfl, r2, _⟩ := d2
        have HS := Lib.hid (fun w' (hE' : Ext wr w') => rsameRef_any p q (c := k1) (c' := k2) (r1.ext hE') (r2.ext hE') f1 f2)
        clear r1 r2 f1 f2
        by_cases he : p = q
        · rw [decide_eq_true he] at HS
          have HS2 : Hid (∀ i, i < k + 1 → a.getD i default = b.getD i default) := Lib.hid (fun i hi => by
            by_cases hik : i = k
            · rw [hik, ← hp, ← hq, he]
            · exact hs.out i (by omega))
          clear he hp hq
          go_wp2
          refine wp_region_noPanic ?_
          refine wp_region_held_drew (S := fun w' => w'.cell? ⟨g, o + k * 2, none⟩ = some (.int .i64 p.len) ∧ w'.cell? ⟨g, o + k * 2 + 1, none⟩ = some (.slice C1 p.ps.length k1) ∧ w'.cell? ⟨g2, o2 + k * 2, none⟩ = some (.int .i64 q.len) ∧ w'.cell? ⟨g2, o2 + k * 2 + 1, none⟩ = some (.slice C2 q.ps.length k2) ∧ Ext wr w') (by kernel_rfl) ⟨c0, c1, d0, d1, (Ext.refl wr).drew⟩ (fun hHeld => ?_)
          refine wpAnyH_take (i := 0) (v := ?_) rfl (by kernel_rfl) (by kernel_rfl) (by kernel_rfl) (fun _ _ _ h => h) (Or.inl ⟨by simp [Region.wanted, yielded], ?_⟩) (by assumption) ?_
          rotate_left 1
          · (intro w hSw; (try dsimp only at hSw); go_simp; all_goals with_reducible rfl)
          try simp only [Act.put, List.getElem_toArray, List.getElem_cons_zero, List.getElem_cons_succ, List.setIfInBounds_toArray, List.set_cons_zero, List.set_cons_succ]
          refine wpAnyH_take (i := 1) (v := ?_) rfl (by kernel_rfl) (by kernel_rfl) (by kernel_rfl) (fun _ _ _ h => h) (Or.inl ⟨by simp [Region.wanted, yielded], ?_⟩) (by assumption) ?_
          rotate_left 1
          · (intro w hSw; (try dsimp only at hSw); go_simp; all_goals with_reducible rfl)
          try simp only [Act.put, List.getElem_toArray, List.getElem_cons_zero, List.getElem_cons_succ, List.setIfInBounds_toArray, List.set_cons_zero, List.set_cons_succ]
          refine wpAnyH_take (i := 2) (v := ?_) rfl (by kernel_rfl) (by kernel_rfl) (by kernel_rfl) (fun _ _ _ h => h) (Or.inl ⟨by simp [Region.wanted, yielded], ?_⟩) (by assumption) ?_
          rotate_left 1
          · (intro w hSw; (try dsimp only at hSw); go_simp; all_goals with_reducible rfl)
          try simp only [Act.put, List.getElem_toArray, List.getElem_cons_zero, List.getElem_cons_succ, List.setIfInBounds_toArray, List.set_cons_zero, List.set_cons_succ]
          refine wpAnyH_take (i := 3) (v := ?_) rfl (by kernel_rfl) (by kernel_rfl) (by kernel_rfl) (fun _ _ _ h => h) (Or.inl ⟨by simp [Region.wanted, yielded], ?_⟩) (by assumption) ?_
          rotate_left 1
          · (intro w hSw; (try dsimp only at hSw); go_simp; all_goals with_reducible rfl)
          try simp only [Act.put, List.getElem_toArray, List.getElem_cons_zero, List.getElem_cons_succ, List.setIfInBounds_toArray, List.set_cons_zero, List.set_cons_succ]
          refine wpAnyH_take (i := 4) (v := ?_) rfl (by kernel_rfl) (by kernel_rfl) (by kernel_rfl) (fun _ _ _ h => h) (Or.inl ⟨by simp [Region.wanted, yielded], ?_⟩) (by assumption) ?_
          rotate_left 1
          · (intro w hSw; (try dsimp only at hSw); go_simp; all_goals with_reducible rfl)
          try simp only [Act.put, List.getElem_toArray, List.getElem_cons_zero, List.getElem_cons_succ, List.setIfInBounds_toArray, List.set_cons_zero, List.set_cons_succ]
          refine wpAnyH_take (i := 5) (v := ?_) rfl (by kernel_rfl) (by kernel_rfl) (by kernel_rfl) (fun _ _ _ h => h) (Or.inl ⟨by simp [Region.wanted, yielded], ?_⟩) (by assumption) ?_
          rotate_left 1
          · (intro w hSw; (try dsimp only at hSw); go_simp; all_goals with_reducible rfl)
          try simp only [Act.put, List.getElem_toArray, List.getElem_cons_zero, List.getElem_cons_succ, List.setIfInBounds_toArray, List.set_cons_zero, List.set_cons_succ]
          refine wpAnyH_take (i := 6) (v := ?_) rfl (by kernel_rfl) (by kernel_rfl) (by kernel_rfl) (fun _ _ _ h => h) (Or.inl ⟨by simp [Region.wanted, yielded], ?_⟩) (by assumption) ?_
          rotate_left 1
          · (intro w hSw; (try dsimp only at hSw); go_simp; all_goals with_reducible rfl)
          try simp only [Act.put, List.getElem_toArray, List.getElem_cons_zero, List.getElem_cons_succ, List.setIfInBounds_toArray, List.set_cons_zero, List.set_cons_succ]
          refine wpAnyH_take (i := 7) (v := ?_) rfl (by kernel_rfl) (by kernel_rfl) (by kernel_rfl) (fun _ _ _ h => h) (Or.inl ⟨by simp [Region.wanted, yielded], ?_⟩) (by assumption) ?_
          rotate_left 1
          · (intro w hSw; (try dsimp only at hSw); go_simp; all_goals with_reducible rfl)
          try simp only [Act.put, List.getElem_toArray, List.getElem_cons_zero, List.getElem_cons_succ, List.setIfInBounds_toArray, List.set_cons_zero, List.set_cons_succ]
          refine wpAnyH_ready (rs := [8]) (by kernel_rfl) (by simp) ?_
          refine AllReadyH.cons rfl (fun K hK => ?_) AllReadyH.nil
          go_simp
          go_at_call 23; (with_reducible refine (HS.out _ (Ext.refl wr).drew).mono ?_); rintro e w4 ⟨rfl, hEn⟩
          refine hK.out _ _ ⟨hEn.cellv c0, hEn.cellv c1, hEn.cellv d0, hEn.cellv d1, (Ext.refl wr).drew.trans hEn⟩ (fun hHeld => ?_)
          clear hK K
          try simp only [Act.put, List.getElem_toArray, List.getElem_cons_zero, List.getElem_cons_succ, List.setIfInBounds_toArray, List.set_cons_zero, List.set_cons_succ]
          refine wpAnyH_take (i := 9) (v := ?_) rfl (by kernel_rfl) (by kernel_rfl) (by kernel_rfl) (fun _ _ _ h => h) (Or.inl ⟨by simp [Region.wanted, yielded], ?_⟩) (by assumption) ?_
          rotate_left 1
          · (intro w hSw; (try dsimp only at hSw); go_simp; all_goals with_reducible rfl)
          try simp only [Act.put, List.getElem_toArray, List.getElem_cons_zero, List.getElem_cons_succ, List.setIfInBounds_toArray, List.set_cons_zero, List.set_cons_succ]
          refine wpAnyH_done (by kernel_rfl) ?_ _
          refine NoPanic.normal ?_
          go_wp2
          exact ⟨⟨k + 1, by omega, rfl, HS2, (hE.drew).trans hEn⟩, by simp [intOf]; omega⟩
        · rw [decide_eq_false he] at HS
          have HS2 : Hid (a ≠ b) := Lib.hid (fun h => he (by rw [hp, hq, h]))
          clear he hp hq
          go_wp2
          refine wp_region_noPanic ?_
          refine wp_region_held_drew (S := fun w' => w'.cell? ⟨g, o + k * 2, none⟩ = some (.int .i64 p.len) ∧ w'.cell? ⟨g, o + k * 2 + 1, none⟩ = some (.slice C1 p.ps.length k1) ∧ w'.cell? ⟨g2, o2 + k * 2, none⟩ = some (.int .i64 q.len) ∧ w'.cell? ⟨g2, o2 + k * 2 + 1, none⟩ = some (.slice C2 q.ps.length k2) ∧ Ext wr w') (by kernel_rfl) ⟨c0, c1, d0, d1, (Ext.refl wr).drew⟩ (fun hHeld => ?_)
          refine wpAnyH_take (i := 0) (v := ?_) rfl (by kernel_rfl) (by kernel_rfl) (by kernel_rfl) (fun _ _ _ h => h) (Or.inl ⟨by simp [Region.wanted, yielded], ?_⟩) (by assumption) ?_
          rotate_left 1
          · (intro w hSw; (try dsimp only at hSw); go_simp; all_goals with_reducible rfl)
          try simp only [Act.put, List.getElem_toArray, List.getElem_cons_zero, List.getElem_cons_succ, List.setIfInBounds_toArray, List.set_cons_zero, List.set_cons_succ]
          refine wpAnyH_take (i := 1) (v := ?_) rfl (by kernel_rfl) (by kernel_rfl) (by kernel_rfl) (fun _ _ _ h => h) (Or.inl ⟨by simp [Region.wanted, yielded], ?_⟩) (by assumption) ?_
          rotate_left 1
          · (intro w hSw; (try dsimp only at hSw); go_simp; all_goals with_reducible rfl)
          try simp only [Act.put, List.getElem_toArray, List.getElem_cons_zero, List.getElem_cons_succ, List.setIfInBounds_toArray, List.set_cons_zero, List.set_cons_succ]
          refine wpAnyH_take (i := 2) (v := ?_) rfl (by kernel_rfl) (by kernel_rfl) (by kernel_rfl) (fun _ _ _ h => h) (Or.inl ⟨by simp [Region.wanted, yielded], ?_⟩) (by assumption) ?_
          rotate_left 1
          · (intro w hSw; (try dsimp only at hSw); go_simp; all_goals with_reducible rfl)
          try simp only [Act.put, List.getElem_toArray, List.getElem_cons_zero, List.getElem_cons_succ, List.setIfInBounds_toArray, List.set_cons_zero, List.set_cons_succ]
          refine wpAnyH_take (i := 3) (v := ?_) rfl (by kernel_rfl) (by kernel_rfl) (by kernel_rfl) (fun _ _ _ h => h) (Or.inl ⟨by simp [Region.wanted, yielded], ?_⟩) (by assumption) ?_
          rotate_left 1
          · (intro w hSw; (try dsimp only at hSw); go_simp; all_goals with_reducible rfl)
          try simp only [Act.put, List.getElem_toArray, List.getElem_cons_zero, List.getElem_cons_succ, List.setIfInBounds_toArray, List.set_cons_zero, List.set_cons_succ]
          refine wpAnyH_take (i := 4) (v := ?_) rfl (by kernel_rfl) (by kernel_rfl) (by kernel_rfl) (fun _ _ _ h => h) (Or.inl ⟨by simp [Region.wanted, yielded], ?_⟩) (by assumption) ?_
          rotate_left 1
          · (intro w hSw; (try dsimp only at hSw); go_simp; all_goals with_reducible rfl)
          try simp only [Act.put, List.getElem_toArray, List.getElem_cons_zero, List.getElem_cons_succ, List.setIfInBounds_toArray, List.set_cons_zero, List.set_cons_succ]
          refine wpAnyH_take (i := 5) (v := ?_) rfl (by kernel_rfl) (by kernel_rfl) (by kernel_rfl) (fun _ _ _ h => h) (Or.inl ⟨by simp [Region.wanted, yielded], ?_⟩) (by assumption) ?_
          rotate_left 1
          · (intro w hSw; (try dsimp only at hSw); go_simp; all_goals with_reducible rfl)
          try simp only [Act.put, List.getElem_toArray, List.getElem_cons_zero, List.getElem_cons_succ, List.setIfInBounds_toArray, List.set_cons_zero, List.set_cons_succ]
          refine wpAnyH_take (i := 6) (v := ?_) rfl (by kernel_rfl) (by kernel_rfl) (by kernel_rfl) (fun _ _ _ h => h) (Or.inl ⟨by simp [Region.wanted, yielded], ?_⟩) (by assumption) ?_
          rotate_left 1
          · (intro w hSw; (try dsimp only at hSw); go_simp; all_goals with_reducible rfl)
          try simp only [Act.put, List.getElem_toArray, List.getElem_cons_zero, List.getElem_cons_succ, List.setIfInBounds_toArray, List.set_cons_zero, List.set_cons_succ]
          refine wpAnyH_take (i := 7) (v := ?_) rfl (by kernel_rfl) (by kernel_rfl) (by kernel_rfl) (fun _ _ _ h => h) (Or.inl ⟨by simp [Region.wanted, yielded], ?_⟩) (by assumption) ?_
          rotate_left 1
          · (intro w hSw; (try dsimp only at hSw); go_simp; all_goals with_reducible rfl)
          try simp only [Act.put, List.getElem_toArray, List.getElem_cons_zero, List.getElem_cons_succ, List.setIfInBounds_toArray, List.set_cons_zero, List.set_cons_succ]
          refine wpAnyH_ready (rs := [8]) (by kernel_rfl) (by simp) ?_
          refine AllReadyH.cons rfl (fun K hK => ?_) AllReadyH.nil
          go_simp
          go_at_call 23; (with_reducible refine (HS.out _ (Ext.refl wr).drew).mono ?_); rintro e w4 ⟨rfl, hEn⟩
          refine hK.out _ _ ⟨hEn.cellv c0, hEn.cellv c1, hEn.cellv d0, hEn.cellv d1, (Ext.refl wr).drew.trans hEn⟩ (fun hHeld => ?_)
          clear hK K
          try simp only [Act.put, List.getElem_toArray, List.getElem_cons_zero, List.getElem_cons_succ, List.setIfInBounds_toArray, List.set_cons_zero, List.set_cons_succ]
          refine wpAnyH_take (i := 9) (v := ?_) rfl (by kernel_rfl) (by kernel_rfl) (by kernel_rfl) (fun _ _ _ h => h) (Or.inl ⟨by simp [Region.wanted, yielded], ?_⟩) (by assumption) ?_
          rotate_left 1
          · (intro w hSw; (try dsimp only at hSw); go_simp; all_goals with_reducible rfl)
          try simp only [Act.put, List.getElem_toArray, List.getElem_cons_zero, List.getElem_cons_succ, List.setIfInBounds_toArray, List.set_cons_zero, List.set_cons_succ]
          refine wpAnyH_done (by kernel_rfl) ?_ _
          refine NoPanic.normal ?_
          go_wp2
          go_ret
          exact ⟨ret_bool (decide_eq_false HS2.out).symm, (hE.drew).trans hEn⟩
      · have kk : ¬ (k : Int) < (n : Int) := by omega
        have HS2 : Hid (a = b) := Lib.hid (list_ext_R (HA.out.trans HB.out.symm) (fun i hi => hs.out i (by have := HA.out; omega)))
        go_wp2
        go_ret
        exact ⟨ret_bool (by simpa using HS2.out), hE⟩
  · have t1 : ((n : Int) != (m : Int)) = true := by simp; omega
    go_enter Try.func11, Try.ntmps11
    go_wp2
    go_ret
    exact ⟨ret_bool (decide_eq_false (fun h => hnm (by rw [← HA.out, ← HB.out, h]))).symm, Ext.refl w⟩
set_option maxRecDepth 100000 in
set_option maxHeartbeats 1000000 in
set_option linter.unusedSimpArgs false in
theorem equalFunc_any {w : World} {A B : Option Addr} {n c m c' : Nat} {a b : List Rf} (ha : RfRd w A n a) (hb : RfRd w B m b) (hn : n ≤ 1048576) (hm : m ≤ 1048576) (fa : Few a) (fb : Few b) : Calls Try.prog 24 #[.slice A n c, .slice B m c', .func (.func 25) #[] #[]] w fun e w' => e = .returned (.bool (decide (a = b))) ∧ Ext w w' := by
  have hent2 : ∀ (args : Array Value) (w : World), (callFunc 25 args).run Try.prog w = .ok (.enter 25 args) w := e25
  have HA := Lib.hid ha.1
  have HB := Lib.hid hb.1
  have HPA := Lib.hid ha
  have HPB := Lib.hid hb
  have HFA := Lib.hid fa
  have HFB := Lib.hid fb
  clear ha hb fa fb
  by_cases hnm : n = m
  · subst hnm
    have t1 : ((n : Int) != (n : Int)) = false := by simp
    go_enter Try.func24, Try.ntmps24
    go_wp2
    go_loopw [17] (fun iv wr => ∃ k : Nat, k ≤ n ∧ iv = .int .i64 k ∧ Hid (∀ i, i < k → a.getD i default = b.getD i default) ∧ Ext w wr) (fun iv _ => n - (intOf iv).toNat)
    case atStart => exact ⟨0, by omega, rfl, Lib.hid (fun i hi => by omega), Ext.refl _⟩
    case round =>
      obtain ⟨k, hk, rfl, hs, hE⟩ := hrel
      by_cases hk2 : k < n
      · have kk : (k : Int) < (n : Int) := by omega
        have kk0 : (0 : Int) ≤ (k : Int) := by omega
        obtain ⟨g, o, u, rfl, c0, c1, c2⟩ := (HPA.out.ext hE).at_ k hk2
        obtain ⟨g2, o2, v, rfl, d0, d1, d2⟩ := (HPB.out.ext hE).at_ k hk2
        have f1 := HFA.out.at_ k
        have f2 := HFB.out.at_ k
        obtain ⟨p, hp⟩ : ∃ p, p = a.getD k default := ⟨_, rfl⟩
        obtain ⟨q, hq⟩ : ∃ p, p = b.getD k default := ⟨_, rfl⟩
        rw [← hp] at c0 c2 f1
        rw [← hq] at d0 d2 f2
        obtain ⟨C1, k1, rfl, r1, _⟩ := c2
        obtain ⟨C2, k2, rfl, r2, _⟩ := d2
        have HS := Lib.hid (fun w' (hE' : Ext wr w') => sameRef_any p q (c := k1) (c' := k2) (r1.ext hE') (r2.ext hE') f1 f2)
        clear r1 r2 f1 f2
        by_cases he : p = q
        · rw [decide_eq_true he] at HS
          have HS2 : Hid (∀ i, i < k + 1 → a.getD i default = b.getD i default) := Lib.hid (fun i hi => by
            by_cases hik : i = k
            · rw [hik, ← hp, ← hq, he]
            · exact hs.out i (by omega))
          clear he hp hq
          have d0' := ((Ext.refl wr).alloc (.cells #[.int .i64 p.len, .slice C1 p.ps.length k1] 36)).cellv d0
          have d1' := ((Ext.refl wr).alloc (.cells #[.int .i64 p.len, .slice C1 p.ps.length k1] 36)).cellv d1
          obtain ⟨x0, x1, y0, y1⟩ := two_boxes wr (.int .i64 p.len) (.slice C1 p.ps.length k1) (.int .i64 q.len) (.slice C2 q.ps.length k2)
          go_wp2_with (go_at_fn 25; refine (HS.out _ (((Ext.refl wr).alloc _).alloc _)).mono ?_; rintro e w4 ⟨rfl, hEn⟩)
          exact ⟨⟨k + 1, by omega, rfl, HS2, ((hE.alloc _).alloc _).trans hEn⟩, by simp [intOf]; omega⟩
        · rw [decide_eq_false he] at HS
          have HS2 : Hid (a ≠ b) := Lib.hid (fun h => he (by rw [hp, hq, h]))
          clear he hp hq
          have d0' := ((Ext.refl wr).alloc (.cells #[.int .i64 p.len, .slice C1 p.ps.length k1] 36)).cellv d0
          have d1' := ((Ext.refl wr).alloc (.cells #[.int .i64 p.len, .slice C1 p.ps.length k1] 36)).cellv d1
          obtain ⟨x0, x1, y0, y1⟩ := two_boxes wr (.int .i64 p.len) (.slice C1 p.ps.length k1) (.int .i64 q.len) (.slice C2 q.ps.length k2)
          go_wp2_with (go_at_fn 25; refine (HS.out _ (((Ext.refl wr).alloc _).alloc _)).mono ?_; rintro e w4 ⟨rfl, hEn⟩)
          go_ret
          exact ⟨ret_bool (decide_eq_false HS2.out).symm, ((hE.alloc _).alloc _).trans hEn⟩
      · have kk : ¬ (k : Int) < (n : Int) := by omega
        have HS2 : Hid (a = b) := Lib.hid (list_ext_R (HA.out.trans HB.out.symm) (fun i hi => hs.out i (by have := HA.out; omega)))
        go_wp2
        go_ret
        exact ⟨ret_bool (by simpa using HS2.out), hE⟩
  · have t1 : ((n : Int) != (m : Int)) = true := by simp; omega
    go_enter Try.func24, Try.ntmps24
    go_wp2
    go_ret
    exact ⟨ret_bool (decide_eq_false (fun h => hnm (by rw [← HA.out, ← HB.out, h]))).symm, Ext.refl w⟩
set_option maxRecDepth 100000 in
theorem same_any {w : World} {A B : Option Addr} {n c m c' : Nat} {a b : List Rf} (ha : RfRd w A n a) (hb : RfRd w B m b) (hn : n ≤ 1048576) (hm : m ≤ 1048576) (fa : Few a) (fb : Few b) : Calls Try.prog 12 #[.slice A n c, .slice B m c'] w fun e w' => e = .returned (.bool (decide (a = b))) ∧ Ext w w' := by
  have HS := Lib.hid (equalFunc_any (c := c) (c' := c') ha hb hn hm fa fb)
  clear ha hb hn hm fa fb
  generalize decide (a = b) = r at *
  go_enter Try.func12, Try.ntmps12
  go_wp2_with (go_at_call 24; (with_reducible refine HS.out.mono ?_); rintro e w1 ⟨rfl, hE1⟩)
  go_ret
  exact ⟨rfl, hE1⟩
