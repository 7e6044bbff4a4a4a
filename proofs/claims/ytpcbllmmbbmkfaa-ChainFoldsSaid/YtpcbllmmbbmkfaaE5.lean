import Derived.Test.YtpcbllmmbbmkfaaE4
namespace Go.Proofs.Ytpcbllmmbbmkfaa
open Go.RowKit
set_option maxRecDepth 100000 in
set_option maxHeartbeats 1000000 in
theorem rmay_any {w : World} (l : Lk) {B : Option Addr} {c : Nat} (h : PcRd w B l.add.ps.length l.add.ps) (hn : l.add.ps.length ≤ 1048576) : Calls Try.prog 33 #[.agg #[.int .i64 l.at_, .int .i64 l.take, .int .i64 l.add.len, .slice B l.add.ps.length c, .int .i64 l.before.row, .int .u64 l.before.st, .int .i64 l.before.len]] w fun e w' => e = .returned (.bool (mayL l)) ∧ Ext w w' := by
  have HN := Lib.hid (fun w => rnone_any l.add B c w)
  have HR := Lib.hid (fun w' (hE : Ext w w') => rmayRef_any l.add (c := c) (h.ext hE) hn)
  have HP : Hid (∀ w, Calls Try.prog 36 #[.agg #[.int .i64 l.before.row, .int .u64 l.before.st, .int .i64 l.before.len]] w fun e w' => e = .returned (.bool (mayP l.before)) ∧ Ext w w') := Lib.hid (fun w => rmayPiece_any l.before w)
  have hm : mayL l = (decide (0 ≤ l.at_) && (decide (l.at_ ≤ 64) && (decide (0 ≤ l.take) && (decide (l.take ≤ 64) && ((noneR l.add || mayR l.add) && (decide (l.before = P0) || mayP l.before)))))) := rfl
  have hb : decide (l.before = P0) = (l.before.row == 0 && (l.before.st == 0 && l.before.len == 0)) := by
    obtain ⟨_, _, _, r, s, n⟩ := l
    by_cases h1 : r = 0 <;> by_cases h2 : s = 0 <;> by_cases h3 : n = 0 <;> simp [P0, h1, h2, h3]
  have heq := fun (w : World) => eqPc l.before.row l.before.st l.before.len 0 0 0 w
  rw [← hb] at heq
  rw [hm]
  generalize decide (l.before = P0) = be at *
  generalize mayP l.before = bp at *
  generalize l.before.row = r at *
  generalize l.before.st = s at *
  generalize l.before.len = n at *
  generalize noneR l.add = nr at *
  generalize mayR l.add = mr at *
  generalize l.add.ps.length = m at *
  generalize l.add.len = L at *
  generalize l.at_ = a at *
  generalize l.take = b at *
  clear hb hm h hn
  have x2 : (w.alloc (.cells #[.int .i64 a, .int .i64 b, .int .i64 L, .slice B m c, .int .i64 r, .int .u64 s, .int .i64 n] 41)).cell? ⟨w.heap.size, 2, none⟩ = some (.int .i64 L) := (Blk.new w 41 #[.int .i64 a, .int .i64 b, .int .i64 L, .slice B m c, .int .i64 r, .int .u64 s, .int .i64 n]).cell 2
  have x3 : (w.alloc (.cells #[.int .i64 a, .int .i64 b, .int .i64 L, .slice B m c, .int .i64 r, .int .u64 s, .int .i64 n] 41)).cell? ⟨w.heap.size, 3, none⟩ = some (.slice B m c) := (Blk.new w 41 #[.int .i64 a, .int .i64 b, .int .i64 L, .slice B m c, .int .i64 r, .int .u64 s, .int .i64 n]).cell 3
  have x4 : (w.alloc (.cells #[.int .i64 a, .int .i64 b, .int .i64 L, .slice B m c, .int .i64 r, .int .u64 s, .int .i64 n] 41)).cell? ⟨w.heap.size, 4, none⟩ = some (.int .i64 r) := (Blk.new w 41 #[.int .i64 a, .int .i64 b, .int .i64 L, .slice B m c, .int .i64 r, .int .u64 s, .int .i64 n]).cell 4
  have x5 : (w.alloc (.cells #[.int .i64 a, .int .i64 b, .int .i64 L, .slice B m c, .int .i64 r, .int .u64 s, .int .i64 n] 41)).cell? ⟨w.heap.size, 5, none⟩ = some (.int .u64 s) := (Blk.new w 41 #[.int .i64 a, .int .i64 b, .int .i64 L, .slice B m c, .int .i64 r, .int .u64 s, .int .i64 n]).cell 5
  have x6 : (w.alloc (.cells #[.int .i64 a, .int .i64 b, .int .i64 L, .slice B m c, .int .i64 r, .int .u64 s, .int .i64 n] 41)).cell? ⟨w.heap.size, 6, none⟩ = some (.int .i64 n) := (Blk.new w 41 #[.int .i64 a, .int .i64 b, .int .i64 L, .slice B m c, .int .i64 r, .int .u64 s, .int .i64 n]).cell 6
  have hX0 : Ext w (w.alloc (.cells #[.int .i64 a, .int .i64 b, .int .i64 L, .slice B m c, .int .i64 r, .int .u64 s, .int .i64 n] 41)) := (Ext.refl w).alloc _
  by_cases h1 : 0 ≤ a
  · by_cases h2 : a ≤ 64
    · by_cases h3 : 0 ≤ b
      · by_cases h4 : b ≤ 64
        · rw [decide_eq_true h1, decide_eq_true h2, decide_eq_true h3, decide_eq_true h4]
          cases nr
          · cases mr
            · go_enter Try.func33, Try.ntmps33
              go_wp2_with (first
                | (go_at_call 34; (with_reducible refine (HN.out _).mono ?_); rintro e w1 ⟨rfl, hE1⟩; have hO := hX0.trans hE1; have d2 := (hE1).cellv x2; have d3 := (hE1).cellv x3; have d4 := (hE1).cellv x4; have d5 := (hE1).cellv x5; have d6 := (hE1).cellv x6)
                | (go_at_call 17; (with_reducible refine (HR.out _ hO).mono ?_); rintro e w2 ⟨rfl, hE2⟩; replace hO := hO.trans hE2; have e2 := (hE1.trans hE2).cellv x2; have e3 := (hE1.trans hE2).cellv x3; have e4 := (hE1.trans hE2).cellv x4; have e5 := (hE1.trans hE2).cellv x5; have e6 := (hE1.trans hE2).cellv x6)
                | (go_at_call 36; (with_reducible refine (HP.out _).mono ?_); rintro e w3 ⟨rfl, hE3⟩; replace hO := hO.trans hE3))
              go_ret
              exact ⟨rfl, hO⟩
            · cases be
              · go_enter Try.func33, Try.ntmps33
                go_wp2_with (first
                  | (go_at_call 34; (with_reducible refine (HN.out _).mono ?_); rintro e w1 ⟨rfl, hE1⟩; have hO := hX0.trans hE1; have d2 := (hE1).cellv x2; have d3 := (hE1).cellv x3; have d4 := (hE1).cellv x4; have d5 := (hE1).cellv x5; have d6 := (hE1).cellv x6)
                  | (go_at_call 17; (with_reducible refine (HR.out _ hO).mono ?_); rintro e w2 ⟨rfl, hE2⟩; replace hO := hO.trans hE2; have e2 := (hE1.trans hE2).cellv x2; have e3 := (hE1.trans hE2).cellv x3; have e4 := (hE1.trans hE2).cellv x4; have e5 := (hE1.trans hE2).cellv x5; have e6 := (hE1.trans hE2).cellv x6)
                  | (go_at_call 36; (with_reducible refine (HP.out _).mono ?_); rintro e w3 ⟨rfl, hE3⟩; replace hO := hO.trans hE3))
                go_ret
                exact ⟨rfl, hO⟩
              · go_enter Try.func33, Try.ntmps33
                go_wp2_with (first
                  | (go_at_call 34; (with_reducible refine (HN.out _).mono ?_); rintro e w1 ⟨rfl, hE1⟩; have hO := hX0.trans hE1; have d2 := (hE1).cellv x2; have d3 := (hE1).cellv x3; have d4 := (hE1).cellv x4; have d5 := (hE1).cellv x5; have d6 := (hE1).cellv x6)
                  | (go_at_call 17; (with_reducible refine (HR.out _ hO).mono ?_); rintro e w2 ⟨rfl, hE2⟩; replace hO := hO.trans hE2; have e2 := (hE1.trans hE2).cellv x2; have e3 := (hE1.trans hE2).cellv x3; have e4 := (hE1.trans hE2).cellv x4; have e5 := (hE1.trans hE2).cellv x5; have e6 := (hE1.trans hE2).cellv x6)
                  | (go_at_call 36; (with_reducible refine (HP.out _).mono ?_); rintro e w3 ⟨rfl, hE3⟩; replace hO := hO.trans hE3))
                go_ret
                exact ⟨rfl, hO⟩
          · cases be
            · go_enter Try.func33, Try.ntmps33
              go_wp2_with (first
                | (go_at_call 34; (with_reducible refine (HN.out _).mono ?_); rintro e w1 ⟨rfl, hE1⟩; have hO := hX0.trans hE1; have d2 := (hE1).cellv x2; have d3 := (hE1).cellv x3; have d4 := (hE1).cellv x4; have d5 := (hE1).cellv x5; have d6 := (hE1).cellv x6)
                | (go_at_call 17; (with_reducible refine (HR.out _ hO).mono ?_); rintro e w2 ⟨rfl, hE2⟩; replace hO := hO.trans hE2; have e2 := (hE1.trans hE2).cellv x2; have e3 := (hE1.trans hE2).cellv x3; have e4 := (hE1.trans hE2).cellv x4; have e5 := (hE1.trans hE2).cellv x5; have e6 := (hE1.trans hE2).cellv x6)
                | (go_at_call 36; (with_reducible refine (HP.out _).mono ?_); rintro e w3 ⟨rfl, hE3⟩; replace hO := hO.trans hE3))
              go_ret
              exact ⟨rfl, hO⟩
            · go_enter Try.func33, Try.ntmps33
              go_wp2_with (first
                | (go_at_call 34; (with_reducible refine (HN.out _).mono ?_); rintro e w1 ⟨rfl, hE1⟩; have hO := hX0.trans hE1; have d2 := (hE1).cellv x2; have d3 := (hE1).cellv x3; have d4 := (hE1).cellv x4; have d5 := (hE1).cellv x5; have d6 := (hE1).cellv x6)
                | (go_at_call 17; (with_reducible refine (HR.out _ hO).mono ?_); rintro e w2 ⟨rfl, hE2⟩; replace hO := hO.trans hE2; have e2 := (hE1.trans hE2).cellv x2; have e3 := (hE1.trans hE2).cellv x3; have e4 := (hE1.trans hE2).cellv x4; have e5 := (hE1.trans hE2).cellv x5; have e6 := (hE1.trans hE2).cellv x6)
                | (go_at_call 36; (with_reducible refine (HP.out _).mono ?_); rintro e w3 ⟨rfl, hE3⟩; replace hO := hO.trans hE3))
              go_ret
              exact ⟨rfl, hO⟩
        · rw [decide_eq_false h4]
          simp only [Bool.false_and, Bool.and_false]
          go_enter Try.func33, Try.ntmps33
          go_wp2
          go_ret
          exact ⟨rfl, hX0⟩
      · rw [decide_eq_false h3]
        simp only [Bool.false_and, Bool.and_false]
        go_enter Try.func33, Try.ntmps33
        go_wp2
        go_ret
        exact ⟨rfl, hX0⟩
    · rw [decide_eq_false h2]
      simp only [Bool.false_and, Bool.and_false]
      go_enter Try.func33, Try.ntmps33
      go_wp2
      go_ret
      exact ⟨rfl, hX0⟩
  · rw [decide_eq_false h1]
    simp only [Bool.false_and]
    go_enter Try.func33, Try.ntmps33
    go_wp2
    go_ret
    exact ⟨rfl, hX0⟩
