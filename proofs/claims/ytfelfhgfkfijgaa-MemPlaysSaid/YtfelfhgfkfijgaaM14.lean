import Derived.Test.YtfelfhgfkfijgaaM13
namespace Go.Proofs.Ytfelfhgfkfijgaa
open Go.RowKit Go.Nb
theorem prd_new (W : World) (q : List Pr) (hq : q.length ≤ 100000) : PRd (W.alloc (.cells (q.flatMap pcs).toArray 30)) (some ⟨W.heap.size, 0, none⟩) q.length q := by
  have h := World.ownsRow_lit (base := 0) (e := 30) (size := 2) W (q.flatMap pcs).toArray q.length (Nat.zero_le _) (by unfold maxLen; omega) (by rw [List.size_toArray, flat_len])
  exact World.ownsRow.prd rfl (by rw [prCs_flat]; exact h)
def Q1 : List Pr := [⟨[97], [49]⟩, ⟨[97], [50, 50]⟩]
def Q2 : List Pr := [⟨[98], [49, 50, 51, 52, 53, 54, 55, 56, 57, 48, 49, 50, 51]⟩]
def Q3 : List Pr := [⟨[98], [49, 50, 51, 52, 53, 54, 55, 56, 57, 48]⟩]
def L1 : List Pr := [⟨[97], [50, 50]⟩]
theorem q1_e : putE 20 [] Q1 = 0 := by decide
theorem q1_r : putR 20 [] Q1 = L1 := by decide
theorem q2_e : putE 20 L1 Q2 = 6 := by decide
theorem q2_r : putR 20 L1 Q2 = L1 := by decide
theorem q3_e : putE 20 L1 Q3 = 6 := by decide
theorem l1_up : upB L1 = true := by decide
set_option maxRecDepth 100000 in
theorem works_any (w : World) : Calls Try.prog 8 #[] w fun e w' => e = .returned (.bool true) ∧ Ext w w' := by
  have HN : Hid (Calls Try.prog 9 #[.int .i64 20] w fun e w' => e = .returned (.tuple #[.pointer (some ⟨w.heap.size, 0, none⟩), .int .i64 0]) ∧ MemIs w' w.heap.size 20 [] ∧ Ext w w') := Lib.hid (new_yes (by omega) (by omega) w)
  obtain ⟨g, hg⟩ : ∃ g, g = w.heap.size := ⟨_, rfl⟩
  rw [← hg] at HN
  have HG := Lib.hid hg
  clear hg
  have HP1 : Hid (∀ W, MemIs W g 20 [] → Calls Try.prog 10 #[.pointer (some ⟨g, 0, none⟩), .slice (some ⟨W.heap.size, 0, none⟩) 2 2] (W.alloc (.cells #[.string ⟨#[97]⟩, .string ⟨#[49]⟩, .string ⟨#[97]⟩, .string ⟨#[50, 50]⟩] 30)) fun e w' => e = .returned (.int .i64 0) ∧ MemIs w' g 20 L1 ∧ Turn (· = g) (W.alloc (.cells #[.string ⟨#[97]⟩, .string ⟨#[49]⟩, .string ⟨#[97]⟩, .string ⟨#[50, 50]⟩] 30)) w') := Lib.hid (fun W h => by
    have := put_any (cb := 2) (h.ext ((Ext.refl W).alloc (.cells (Q1.flatMap pcs).toArray 30))) (by decide) (by decide) (by decide) (prd_new W Q1 (by decide)) (by decide)
    rw [q1_e, q1_r] at this
    exact this)
  have HP2 : Hid (∀ W, MemIs W g 20 L1 → Calls Try.prog 10 #[.pointer (some ⟨g, 0, none⟩), .slice (some ⟨W.heap.size, 0, none⟩) 1 1] (W.alloc (.cells #[.string ⟨#[98]⟩, .string ⟨#[49, 50, 51, 52, 53, 54, 55, 56, 57, 48, 49, 50, 51]⟩] 30)) fun e w' => e = .returned (.int .i64 6) ∧ MemIs w' g 20 L1 ∧ Turn (· = g) (W.alloc (.cells #[.string ⟨#[98]⟩, .string ⟨#[49, 50, 51, 52, 53, 54, 55, 56, 57, 48, 49, 50, 51]⟩] 30)) w') := Lib.hid (fun W h => by
    have := put_any (cb := 1) (h.ext ((Ext.refl W).alloc (.cells (Q2.flatMap pcs).toArray 30))) l1_up (by decide) (by decide) (prd_new W Q2 (by decide)) (by decide)
    rw [q2_e, q2_r] at this
    exact this)
  have HF3 : Hid (∀ W, MemIs W g 20 L1 → Calls Try.prog 15 #[.pointer (some ⟨g, 0, none⟩), .slice (some ⟨W.heap.size, 0, none⟩) 1 1] (W.alloc (.cells #[.string ⟨#[98]⟩, .string ⟨#[49, 50, 51, 52, 53, 54, 55, 56, 57, 48]⟩] 30)) fun e w' => e = .returned (.bool false) ∧ Ext (W.alloc (.cells #[.string ⟨#[98]⟩, .string ⟨#[49, 50, 51, 52, 53, 54, 55, 56, 57, 48]⟩] 30)) w') := Lib.hid (fun W h => by
    have := fits_any (cb := 1) (h.ext ((Ext.refl W).alloc (.cells (Q3.flatMap pcs).toArray 30))) l1_up (by decide) (by decide) (prd_new W Q3 (by decide)) (by decide)
    rw [q3_e] at this
    exact this)
  have HSZ : Hid (∀ W, MemIs W g 20 L1 → Calls Try.prog 13 #[.pointer (some ⟨g, 0, none⟩)] W fun e w' => e = .returned (.int .i64 7) ∧ Ext W w') := Lib.hid (fun W h => msize_any h (by decide) (by decide))
  have HGT : Hid (∀ W, MemIs W g 20 L1 → Calls Try.prog 17 #[.pointer (some ⟨g, 0, none⟩), .string ⟨#[97]⟩] W fun e w' => e = .returned (.tuple #[.string ⟨#[50, 50]⟩, .bool true]) ∧ Ext W w') := Lib.hid (fun W h => get_any h l1_up (by decide) [97])
  have HFR : Hid (∀ W, Calls Try.prog 20 #[.pointer (some ⟨g, 0, none⟩), .string ⟨#[98]⟩] W fun e w' => e = .returned (.func (.func 28) #[] #[.pointer (some ⟨W.heap.size, 0, none⟩), .pointer (some ⟨W.heap.size + 1, 0, none⟩)]) ∧ w' = (W.alloc (.cells #[.pointer (some ⟨g, 0, none⟩)] 31)).alloc (.cells #[.string ⟨#[98]⟩] 9)) := Lib.hid (fun W => from_any (some ⟨g, 0, none⟩) ⟨#[98]⟩ W)
  have HCO : Hid (∀ W, MemIs W g 20 L1 → Calls Try.prog 19 #[.func (.func 28) #[] #[.pointer (some ⟨W.heap.size, 0, none⟩), .pointer (some ⟨W.heap.size + 1, 0, none⟩)]] ((W.alloc (.cells #[.pointer (some ⟨g, 0, none⟩)] 31)).alloc (.cells #[.string ⟨#[98]⟩] 9)) fun e w' => ∃ A c, e = .returned (.slice A 0 c) ∧ Ext ((W.alloc (.cells #[.pointer (some ⟨g, 0, none⟩)] 31)).alloc (.cells #[.string ⟨#[98]⟩] 9)) w') := Lib.hid (fun W h => by
    have hE1 := (Ext.refl W).alloc (.cells #[.pointer (some ⟨g, 0, none⟩)] 31)
    have hE2 := (Ext.refl (W.alloc (.cells #[.pointer (some ⟨g, 0, none⟩)] 31))).alloc (.cells #[.string ⟨#[98]⟩] 9)
    have c0 : ((W.alloc (.cells #[.pointer (some ⟨g, 0, none⟩)] 31)).alloc (.cells #[.string ⟨#[98]⟩] 9)).cell? ⟨W.heap.size, 0, none⟩ = some (.pointer (some ⟨g, 0, none⟩)) := hE2.cellv ((Blk.new W 31 #[.pointer (some ⟨g, 0, none⟩)]).cell 0)
    have c1 : ((W.alloc (.cells #[.pointer (some ⟨g, 0, none⟩)] 31)).alloc (.cells #[.string ⟨#[98]⟩] 9)).cell? ⟨W.heap.size + 1, 0, none⟩ = some (.string ⟨#[98]⟩) := by
      have := (Blk.new (W.alloc (.cells #[.pointer (some ⟨g, 0, none⟩)] 31)) 9 #[.string ⟨#[98]⟩]).cell 0
      rw [World.size_alloc] at this
      exact this
    refine (collect_any (T := L1.drop (seekL [98] L1)) (n₀ := W.heap.size) (by simp; omega) (by decide) (fun w' hE' => it_stops 3 (by omega) _ _ g W 20 L1 [98] h l1_up (by decide) w' ((hE1.trans hE2).trans hE') (hE'.cellv c0) (hE'.cellv c1))).mono ?_
    rintro e w' ⟨A, c, h1, _, h2⟩
    exact ⟨A, c, h1, h2⟩)
  have HAL : Hid (∀ W, MemIs W g 20 L1 → Calls Try.prog 12 #[.pointer (some ⟨g, 0, none⟩)] W fun e w' => ∃ A c, e = .returned (.slice A 1 c) ∧ Ext W w') := Lib.hid (fun W h => (all_any h (by decide)).mono (by
    rintro e w' ⟨A, c, h1, _, h2⟩
    exact ⟨A, c, h1, h2⟩))
  go_enter Try.func8, Try.ntmps8
  go_wp2_with (first
    | (go_at_call 9; (with_reducible refine HN.out.mono ?_); rintro e w1 ⟨rfl, hM1, hE1⟩)
    | (go_at_call 10; (with_reducible refine (HP1.out _ hM1).mono ?_); rintro e w2 ⟨rfl, hM2, hT2⟩)
    | (go_at_call 13; (with_reducible refine (HSZ.out _ hM2).mono ?_); rintro e w3 ⟨rfl, hE3⟩; have hM3 := hM2.ext hE3)
    | (go_at_call 10; (with_reducible refine (HP2.out _ hM3).mono ?_); rintro e w4 ⟨rfl, hM4, hT4⟩)
    | (go_at_call 17; (with_reducible refine (HGT.out _ hM4).mono ?_); rintro e w5 ⟨rfl, hE5⟩; have hM5 := hM4.ext hE5)
    | (go_at_call 15; (with_reducible refine (HF3.out _ hM5).mono ?_); rintro e w6 ⟨rfl, hE6⟩; have hX6 := ((Ext.refl w5).alloc (.cells #[.string ⟨#[98]⟩, .string ⟨#[49, 50, 51, 52, 53, 54, 55, 56, 57, 48]⟩] 30)).trans hE6; have hM6 := hM5.ext hX6)
    | (go_at_call 20; (with_reducible refine (HFR.out _).mono ?_); rintro e w7 ⟨rfl, rfl⟩)
    | (go_at_call 19; (with_reducible refine (HCO.out _ hM6).mono ?_); rintro e w8 ⟨A8, c8, rfl, hE8⟩; have hX8 := (((Ext.refl w6).alloc (.cells #[.pointer (some ⟨g, 0, none⟩)] 31)).alloc (.cells #[.string ⟨#[98]⟩] 9)).trans hE8; have hM8 := hM6.ext hX8)
    | (go_at_call 12; (with_reducible refine (HAL.out _ hM8).mono ?_); rintro e w9 ⟨A9, c9, rfl, hE9⟩))
  go_ret
  have e2 : Ext w w2 := hT2.ext (hE1.alloc _) (fun k hk => by have := HG.out; omega)
  have e4 : Ext w w4 := hT4.ext ((e2.trans hE3).alloc _) (fun k hk => by have := HG.out; omega)
  exact ⟨rfl, (((e4.trans hE5).trans hX6).trans hX8).trans hE9⟩
