import Derived.Test.YtpcbllmmbbmkfaaE22
namespace Go.Proofs.Ytpcbllmmbbmkfaa
open Go.RowKit Go.Nb
theorem num_ok {w : World} {g most x : Nat} {l l' : Bs} (h : RdrAt w g l 0) (hl : l.length ≤ 1048576) (hx : numS most l 0 = (x, l', 0)) : Calls Try.prog 40 #[.pointer (some ⟨g, 0, none⟩), .int .u64 most] w fun e w' => e = .returned (.int .u64 x) ∧ RdrAt w' g l' 0 ∧ Turn (· = g) w w' := by
  have := num_all (most := most) h hl
  rw [hx] at this
  exact this
theorem blk_turn {w w' : World} {H : Nat → Prop} {k : Nat} {t : TypeId} {cs : Array Value} (h : Blk w k t cs) (ht : Turn H w w') (hn : ¬ H k) : Blk w' k t cs := (ht.block k h.lt hn).trans h
set_option maxRecDepth 100000 in
/-- A piece that is read. -/
theorem unpiece_ok {w : World} {g r s n : Nat} {l l1 l2 l3 : Bs} (h : RdrAt w g l 0) (hl : l.length ≤ 1048576) (hl1 : l1.length ≤ 1048576) (hl2 : l2.length ≤ 1048576) (h1 : numS 4096 l 0 = (r, l1, 0)) (h2 : numS 281474976710656 l1 0 = (s, l2, 0)) (h3 : numS 131072 l2 0 = (n, l3, 0)) (hr : r < 9223372036854775808) (hn : n < 9223372036854775808) :
    Calls Try.prog 42 #[.pointer (some ⟨g, 0, none⟩)] w fun e w' => e = .returned (.agg #[.int .i64 r, .int .u64 s, .int .i64 n]) ∧ RdrAt w' g l3 0 ∧ Turn (· = g) w w' := by
  have HL := Lib.hid (show g < w.heap.size from CellsT.lt h)
  have H1 : Hid (∀ w', RdrAt w' g l 0 → Calls Try.prog 40 #[.pointer (some ⟨g, 0, none⟩), .int .u64 4096] w' fun e w2 => e = .returned (.int .u64 r) ∧ RdrAt w2 g l1 0 ∧ Turn (· = g) w' w2) := Lib.hid (fun w' h' => num_ok h' hl h1)
  have H2 : Hid (∀ w', RdrAt w' g l1 0 → Calls Try.prog 40 #[.pointer (some ⟨g, 0, none⟩), .int .u64 281474976710656] w' fun e w2 => e = .returned (.int .u64 s) ∧ RdrAt w2 g l2 0 ∧ Turn (· = g) w' w2) := Lib.hid (fun w' h' => num_ok h' hl1 h2)
  have H3 : Hid (∀ w', RdrAt w' g l2 0 → Calls Try.prog 40 #[.pointer (some ⟨g, 0, none⟩), .int .u64 131072] w' fun e w2 => e = .returned (.int .u64 n) ∧ RdrAt w2 g l3 0 ∧ Turn (· = g) w' w2) := Lib.hid (fun w' h' => num_ok h' hl2 h3)
  have e1 : IntKind.i64.wrap (r : Int) = r := IntWalk.i64_in _ (by omega)
  have e2 : IntKind.i64.wrap (n : Int) = n := IntWalk.i64_in _ (by omega)
  have HX0 : Hid (RdrAt (w.alloc (.cells #[.int .i64 0, .int .u64 0, .int .i64 0] 39)) g l 0) := Lib.hid (h.ext ((Ext.refl w).alloc _))
  have HB0 := Lib.hid (Blk.new w 39 #[.int .i64 0, .int .u64 0, .int .i64 0])
  clear h hl hl1 hl2 h1 h2 h3
  have hne : ¬ w.heap.size = g := by have := HL.out; omega
  go_enter Try.func42, Try.ntmps42
  go_wp2_with (first
    | (go_at_call 40; (with_reducible refine (H1.out _ HX0.out).mono ?_); rintro e w1 ⟨rfl, hR1, hT1⟩; have hB0 := blk_turn HB0.out hT1 hne; have HX1 := Lib.hid (hR1.ext ((Ext.refl w1).alloc (.cells #[.int .i64 (r : Int), .int .u64 0, .int .i64 0] 39))); have hs1 : g < w1.heap.size := CellsT.lt hR1; have HB1 := Lib.hid (Blk.new w1 39 #[.int .i64 (r : Int), .int .u64 0, .int .i64 0]); have HB01 := Lib.hid (hB0.alloc (.cells #[.int .i64 (r : Int), .int .u64 0, .int .i64 0] 39)); have hle := hB0.lt; have n1 : g ≠ w1.heap.size := (by omega); have n0 : w.heap.size ≠ w1.heap.size := (by omega); have n2 : ¬ w1.heap.size = g := (by omega); clear hB0)
    | (go_at_call 40; (with_reducible refine (H2.out _ HX1.out).mono ?_); rintro e w2 ⟨rfl, hR2, hT2⟩; have hb1 := blk_turn HB1.out hT2 n2; have q1 := hb1.cell 1; have f1 := hb1.frozen 1; have hb1 := hb1.set_ 1 (.int .u64 (s : Int)); have HX2 : Hid (RdrAt (w2.setCell ⟨w1.heap.size, 1, none⟩ (.int .u64 (s : Int))) g l2 0) := Lib.hid (CellsT.far hR2 (p := ⟨w1.heap.size, 1, none⟩) n1 (.int .u64 (s : Int))); have HB2 := Lib.hid hb1; have HB02 := Lib.hid ((blk_turn HB01.out hT2 hne).far (p := ⟨w1.heap.size, 1, none⟩) n0 (.int .u64 (s : Int))); clear hb1; simp at q1)
    | (go_at_call 40; (with_reducible refine (H3.out _ HX2.out).mono ?_); rintro e w3 ⟨rfl, hR3, hT3⟩; have hb2 := blk_turn HB2.out hT3 n2; have q2 := hb2.cell 2; have f2 := hb2.frozen 2; have hb3 := hb2.set_ 2 (.int .i64 (n : Int)); have c0 := hb3.cell 0; have c1 := hb3.cell 1; have c2 := hb3.cell 2; simp at q2 c0 c1 c2; have hb0 := (blk_turn HB02.out hT3 hne).far (p := ⟨w1.heap.size, 2, none⟩) n0 (.int .i64 (n : Int)); have k0 := hb0.cell 0; have k1 := (hb0.set_ 0 (.int .i64 (r : Int))).cell 1; have k2 := ((hb0.set_ 0 (.int .i64 (r : Int))).set_ 1 (.int .u64 (s : Int))).cell 2; have g0 := hb0.frozen 0; have g1 := (hb0.set_ 0 (.int .i64 (r : Int))).frozen 1; have g2 := ((hb0.set_ 0 (.int .i64 (r : Int))).set_ 1 (.int .u64 (s : Int))).frozen 2; simp at k0 k1 k2))
  refine bodyPost_ret (v := .agg #[.int .i64 r, .int .u64 s, .int .i64 n]) ?_ rfl ?_
  · rw [results_cell1 rfl]
    go_simp
  · have m1 : g ≠ w.heap.size := fun e => hne e.symm
    have hz : w.heap.size ≤ w1.heap.size := Nat.le_of_lt hle
    refine ⟨rfl, (((hR3.far (p := ⟨w1.heap.size, 2, none⟩) n1 _).far (p := ⟨w.heap.size, 0, none⟩) m1 _).far (p := ⟨w.heap.size, 1, none⟩) m1 _).far (p := ⟨w.heap.size, 2, none⟩) m1 _, ?_⟩
    have hm : ∀ k, k = g → (fun b => b = g ∨ w.heap.size ≤ b) k := fun k hk => .inl hk
    have t1 : Turn (fun b => b = g ∨ w.heap.size ≤ b) w (w2.setCell ⟨w1.heap.size, 1, none⟩ (.int .u64 (s : Int))) := (((Turn.of ((Ext.refl w).alloc _)).trans (hT1.mono hm)).trans ((Turn.of ((Ext.refl w1).alloc _)).trans (hT2.mono hm))).trans (Turn.set_ (a := ⟨w1.heap.size, 1, none⟩) (.inr hz) _)
    have t2 := (((t1.trans (hT3.mono hm)).trans (Turn.set_ (a := ⟨w1.heap.size, 2, none⟩) (.inr hz) (.int .i64 (n : Int)))).trans (Turn.set_ (a := ⟨w.heap.size, 0, none⟩) (.inr (Nat.le_refl _)) (.int .i64 (r : Int)))).trans ((Turn.set_ (a := ⟨w.heap.size, 1, none⟩) (.inr (Nat.le_refl _)) (.int .u64 (s : Int))).trans (Turn.set_ (a := ⟨w.heap.size, 2, none⟩) (.inr (Nat.le_refl _)) (.int .i64 (n : Int))))
    exact t2.old (fun k hk hh => hh.resolve_right (by omega))
/-- What the law's bytes are read to. -/
theorem rd1 : numS 64 B1 0 = (0, B1.drop 1, 0) := by decide
theorem rd2 : numS 64 (B1.drop 1) 0 = (0, B1.drop 2, 0) := by decide
theorem rd3 : numS 131072 (B1.drop 2) 0 = (10, B1.drop 4, 0) := by decide
theorem rd4 : numS 512 (B1.drop 4) 0 = (1, B1.drop 6, 0) := by decide
theorem rd5 : numS 4096 (B1.drop 6) 0 = (1, B1.drop 8, 0) := by decide
theorem rd6 : numS 281474976710656 (B1.drop 8) 0 = (7, B1.drop 10, 0) := by decide
theorem rd7 : numS 131072 (B1.drop 10) 0 = (10, B1.drop 12, 0) := by decide
theorem rd8 : numS 4096 (B1.drop 12) 0 = (4, B1.drop 14, 0) := by decide
theorem rd9 : numS 281474976710656 (B1.drop 14) 0 = (5, B1.drop 16, 0) := by decide
theorem rd10 : numS 131072 (B1.drop 16) 0 = (6, [], 0) := by decide
