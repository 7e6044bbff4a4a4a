import Derived.Test.YtimhekdfajakbaaR5
import Derived.BigRegion
namespace Go.Proofs.Ytimhekdfajakbaa
open Go.RowKit
section
variable {p : Pl} {s : St} {w : World}
theorem thereE_yes {d x : Int} (h : there p d x = true) : thereE p d x = 0 := by unfold thereE; rw [h]; rfl
theorem thereE_no {d x : Int} (h : there p d x = false) : thereE p d x = 70 := by unfold thereE; rw [h]; rfl
theorem there_nat {d x : Int} (h : there p d x = true) : ∃ i j : Nat, d = i ∧ x = j ∧ i < p.nd ∧ j < p.ns := by
  simp [there] at h
  exact ⟨d.toNat, x.toNat, by omega, by omega, by omega, by omega⟩
theorem cut_no (h : RackAt w p s) (n : Int) (hn : n < 0) : Calls Try.prog 18 #[.pointer (some ⟨p.gR, 0, none⟩), .int .i64 n] w fun e w' => e = .returned (.int .i64 2) ∧ RackAt w' p s ∧ Chg p w w' := by
  have hmf := mkf
  have hO := (Ext.refl w).alloc (.cells #[.int .i64 n] 3)
  have hb : (w.alloc (.cells #[.int .i64 n] 3)).cell? ⟨w.heap.size, 0, none⟩ = some (.int .i64 n) := (Blk.new w 3 #[.int .i64 n]).cell 0
  have F := first_cut (h.ext hO) n w.heap.size hb (w.heap.size + 1) (by simp) 71
  rw [if_pos hn] at F
  have F := Lib.hid F
  go_enter Try.func18, Try.ntmps18
  go_wp2_with (go_at_call 29; (with_reducible refine F.out.mono ?_); rintro e w1 ⟨rfl, hE⟩)
  go_ret
  exact ⟨rfl, (h.ext hO).ext hE, Chg.of (hO.trans hE)⟩
theorem cut_yes (h : RackAt w p s) (n : Int) (hn : 0 ≤ n) : Calls Try.prog 18 #[.pointer (some ⟨p.gR, 0, none⟩), .int .i64 n] w fun e w' => e = .returned (.int .i64 0) ∧ RackAt w' p { s with cut := true, left := n } ∧ Chg p w w' := by
  have hmf := mkf
  have hO := (Ext.refl w).alloc (.cells #[.int .i64 n] 3)
  have hb : (w.alloc (.cells #[.int .i64 n] 3)).cell? ⟨w.heap.size, 0, none⟩ = some (.int .i64 n) := (Blk.new w 3 #[.int .i64 n]).cell 0
  have F := first_cut (h.ext hO) n w.heap.size hb (w.heap.size + 1) (by simp) 71
  rw [if_neg (by omega)] at F
  have F := Lib.hid F
  have hne : w.heap.size ≠ p.gR := by have := h.r.lt; omega
  obtain ⟨gb, hgb⟩ : ∃ gb, gb = w.heap.size := ⟨_, rfl⟩
  rw [← hgb] at hne
  go_enter Try.func18, Try.ntmps18
  go_wp2_with (go_at_call 29; (with_reducible refine F.out.mono ?_); rintro e w1 ⟨rfl, hE⟩; have hR := (h.ext hO).ext hE; have hb1 := hE.cellv hb; have h1 := hR.r1; have f1 := hR.r.frozen 1 (by omega); have h2 := hR.r2; have f2 := hR.r.frozen 2 (by omega))
  go_region
  go_wp2
  all_goals
    go_ret
    exact ⟨rfl, ((hR.setCut true).setLeft n).ext (Ext.drew (Ext.refl _)), (((Chg.of (hO.trans hE)).trans (Chg.set_ (a := ⟨p.gR, 1, none⟩) (.inl rfl) _)).trans (Chg.set_ (a := ⟨p.gR, 2, none⟩) (.inl rfl) _)).trans (Chg.of (Ext.drew (Ext.refl _)))⟩
theorem writes_no (h : RackAt w p s) (d : Int) (hd : there p d 0 = false) : Calls Try.prog 14 #[.pointer (some ⟨p.gR, 0, none⟩), .int .i64 d] w fun e w' => e = .returned (.int .u64 0) ∧ Ext w w' := by
  have hmf := mkf
  have HD := Lib.hid (thereE_no hd)
  go_enter Try.func14, Try.ntmps14
  go_wp2_with (first
    | (go_at_call 31; (with_reducible refine (away_any _ d 0 _).mono ?_); rintro e w0 ⟨gd, gr, gs, rfl, hd, hr, hs, hO⟩)
    | (go_at_call 29; (with_reducible refine (first_2 (h.ext hO) d 0 gd gr gs hd hr hs _ rfl 71).mono ?_); rintro e w1 ⟨rfl, hE⟩; rw [HD.out]))
  go_ret
  exact ⟨rfl, hO.trans hE⟩
theorem writes_yes (h : RackAt w p s) (d : Nat) (hd : d < p.nd) : Calls Try.prog 14 #[.pointer (some ⟨p.gR, 0, none⟩), .int .i64 d] w fun e w' => e = .returned (.int .u64 (s.cnt d)) ∧ Ext w w' := by
  have hmf := mkf
  have ht : there p d 0 = true := by have := h.ok.ns1; simp [there]; omega
  have HD := Lib.hid (thereE_yes ht)
  have kd : (d : Int) < (p.nd : Int) := by omega
  have kd0 : (0 : Int) ≤ (d : Int) := by omega
  go_enter Try.func14, Try.ntmps14
  go_wp2_with (first
    | (go_at_call 31; (with_reducible refine (away_any _ d 0 _).mono ?_); rintro e w0 ⟨gd, gr, gs, rfl, hd1, hr, hs, hO⟩)
    | (go_at_call 29; (with_reducible refine (first_2 (h.ext hO) d 0 gd gr gs hd1 hr hs _ rfl 71).mono ?_); rintro e w1 ⟨rfl, hE⟩; rw [HD.out]; have hR := (h.ext hO).ext hE; have h0 := hR.r0; have h1 := hR.d1 d hd))
  go_ret
  exact ⟨rfl, hO.trans hE⟩
theorem spoil_no (h : RackAt w p s) (d x : Int) (hd : there p d x = false) : Calls Try.prog 22 #[.pointer (some ⟨p.gR, 0, none⟩), .int .i64 d, .int .i64 x] w fun e w' => e = .returned (.int .i64 70) ∧ RackAt w' p s ∧ Chg p w w' := by
  have hmf := mkf
  have HD := Lib.hid (thereE_no hd)
  go_enter Try.func22, Try.ntmps22
  go_wp2_with (first
    | (go_at_call 31; (with_reducible refine (away_any _ d x _).mono ?_); rintro e w0 ⟨gd, gr, gs, rfl, hd, hr, hs, hO⟩)
    | (go_at_call 29; (with_reducible refine (first_2 (h.ext hO) d x gd gr gs hd hr hs _ rfl 71).mono ?_); rintro e w1 ⟨rfl, hE⟩; rw [HD.out]))
  go_ret
  exact ⟨rfl, (h.ext hO).ext hE, Chg.of (hO.trans hE)⟩
theorem spoil_yes (h : RackAt w p s) (d x : Nat) (hd : d < p.nd) (hx : x < p.ns) : Calls Try.prog 22 #[.pointer (some ⟨p.gR, 0, none⟩), .int .i64 d, .int .i64 x] w fun e w' => e = .returned (.int .i64 0) ∧ RackAt w' p { s with bad := setNN s.bad d x true } ∧ Chg p w w' := by
  have hmf := mkf
  have ht : there p d x = true := by simp [there]; omega
  have HD := Lib.hid (thereE_yes ht)
  have kd : (d : Int) < (p.nd : Int) := by omega
  have kd0 : (0 : Int) ≤ (d : Int) := by omega
  have kx : (x : Int) < (p.ns : Int) := by omega
  have kx0 : (0 : Int) ≤ (x : Int) := by omega
  have hl : x * 65 + 64 < 65 * p.ns := by omega
  go_enter Try.func22, Try.ntmps22
  go_wp2_with (first
    | (go_at_call 31; (with_reducible refine (away_any _ d x _).mono ?_); rintro e w0 ⟨gd, gr, gs, rfl, hd1, hr, hs, hO⟩)
    | (go_at_call 29; (with_reducible refine (first_2 (h.ext hO) d x gd gr gs hd1 hr hs _ rfl 71).mono ?_); rintro e w1 ⟨rfl, hE⟩; rw [HD.out]; have hR := (h.ext hO).ext hE; have h0 := hR.r0; have h1 := hR.d0 d hd; have h2 := (hR.se d hd).cell (x * 65 + 64) hl; have f2 := (hR.se d hd).frozen (x * 65 + 64) hl))
  go_ret
  exact ⟨rfl, hR.setBad d x true hd hx, (Chg.of (hO.trans hE)).trans (Chg.set_ (.inr (.inr ⟨d, hd, rfl⟩)) _)⟩
end
