import Derived.Test.YtpcbllmmbbmkfaaE21
import Derived.Test.YtpcbllmmbbmkfaaW11
import Derived.Test.YtpcbllmmbbmkfaaW12
namespace Go.Proofs.Ytpcbllmmbbmkfaa
open Go.RowKit Go.Nb
theorem nums3 (a b c : Nat) (ha : a < 256 ^ 8) (hb : b < 256 ^ 8) (hc : c < 256 ^ 8) (w : World) : Calls Try.prog 37 #[.slice (some ⟨w.heap.size, 0, none⟩) 3 3] (w.alloc (.cells #[.int .u64 a, .int .u64 b, .int .u64 c] 37)) fun e w' => e = .returned (.string (Bt (upL a ++ (upL b ++ upL c)))) ∧ Ext w w' := by
  have h : CellsAt (w.alloc (.cells #[.int .u64 a, .int .u64 b, .int .u64 c] 37)) w.heap.size 3 (fun i => .int .u64 ((if i = 0 then a else if i = 1 then b else c : Nat) : Int)) := by
    refine ⟨37, _, ?_, (Blk.new w 37 _).m, fun j hj => ?_⟩
    · simp
    · match j, hj with
      | 0, _ => rfl
      | 1, _ => rfl
      | 2, _ => rfl
  have hE := (Ext.refl w).alloc (.cells #[.int .u64 (a : Int), .int .u64 b, .int .u64 c] 37)
  refine (nums_any (c := 3) (x := fun i => if i = 0 then a else if i = 1 then b else c) h (by omega) (by omega) (fun i => by split; exact ha; split; exact hb; exact hc)).mono ?_
  rintro e w' ⟨rfl, hE2⟩
  exact ⟨by simp [catN], hE.trans hE2⟩
theorem nums1 (a : Nat) (ha : a < 256 ^ 8) (w : World) : Calls Try.prog 37 #[.slice (some ⟨w.heap.size, 0, none⟩) 1 1] (w.alloc (.cells #[.int .u64 a] 37)) fun e w' => e = .returned (.string (Bt (upL a))) ∧ Ext w w' := by
  have h : CellsAt (w.alloc (.cells #[.int .u64 a] 37)) w.heap.size 1 (fun _ => .int .u64 (a : Int)) := by
    refine ⟨37, _, ?_, (Blk.new w 37 _).m, fun j hj => ?_⟩
    · simp
    · match j, hj with
      | 0, _ => rfl
  have hE := (Ext.refl w).alloc (.cells #[.int .u64 (a : Int)] 37)
  refine (nums_any (c := 1) (x := fun _ => a) h (by omega) (by omega) (fun i => ha)).mono ?_
  rintro e w' ⟨rfl, hE2⟩
  exact ⟨by simp [catN], hE.trans hE2⟩
def pcB (r s n : Nat) : Bs := upL r ++ (upL s ++ upL n)
set_option maxRecDepth 100000 in
/-- A piece's bytes. -/
theorem piece_any (r s n : Nat) (hr : r < 4096) (hs : s < 256 ^ 8) (hn : n < 256 ^ 4) (w : World) : Calls Try.prog 38 #[.agg #[.int .i64 r, .int .u64 s, .int .i64 n]] w fun e w' => e = .returned (.string (Bt (pcB r s n))) ∧ Ext w w' := by
  have hE := (Ext.refl w).alloc (.cells #[.int .i64 (r : Int), .int .u64 s, .int .i64 n] 39)
  have hn3 := nums3 r s n (by omega) hs (by omega) (w.alloc (.cells #[.int .i64 (r : Int), .int .u64 s, .int .i64 n] 39))
  rw [World.size_alloc] at hn3
  have HN := Lib.hid hn3
  clear hn3
  have w1 : IntKind.u64.wrap (r : Int) = r := IntWalk.u64_in r (by omega)
  have w2 : IntKind.u64.wrap (n : Int) = n := IntWalk.u64_in n (by omega)
  go_enter Try.func38, Try.ntmps38
  go_wp2_with (go_at_call 37; (with_reducible refine HN.out.mono ?_); rintro e w1 ⟨rfl, hE1⟩)
  go_ret
  exact ⟨rfl, hE.trans hE1⟩
/-- The link that the law writes and reads. -/
def L1 : Lk := ⟨0, 0, ⟨10, [⟨1, 7, 10⟩]⟩, ⟨4, 5, 6⟩⟩
def B1 : Bs := [0, 0, 1, 10, 1, 1, 1, 1, 1, 7, 1, 10, 1, 4, 1, 5, 1, 6]
set_option maxRecDepth 100000 in
theorem encode_1 {w : World} {A : Option Addr} {c : Nat} (h : PcRd w A 1 [⟨1, 7, 10⟩]) : Calls Try.prog 19 #[.agg #[.int .i64 0, .int .i64 0, .int .i64 10, .slice A 1 c, .int .i64 4, .int .u64 5, .int .i64 6]] w fun e w' => e = .returned (.tuple #[.string (Bt B1), .int .i64 0]) ∧ Ext w w' := by
  have HM : Hid (∀ w', Ext w w' → Calls Try.prog 27 #[.agg #[.int .i64 0, .int .i64 0, .int .i64 10, .slice A 1 c, .int .i64 4, .int .u64 5, .int .i64 6]] w' fun e w2 => e = .returned (.bool true) ∧ Ext w' w2) := Lib.hid (fun w' hE => may_any (w := w') L1 (B := A) (c := c) (h.ext hE) (by decide))
  have HN3 : Hid (∀ w', Calls Try.prog 37 #[.slice (some ⟨w'.heap.size, 0, none⟩) 3 3] (w'.alloc (.cells #[.int .u64 0, .int .u64 0, .int .u64 10] 37)) fun e w2 => e = .returned (.string (Bt [0, 0, 1, 10])) ∧ Ext w' w2) := Lib.hid (fun w' => nums3 0 0 10 (by decide) (by decide) (by decide) w')
  have HN1 : Hid (∀ w', Calls Try.prog 37 #[.slice (some ⟨w'.heap.size, 0, none⟩) 1 1] (w'.alloc (.cells #[.int .u64 1] 37)) fun e w2 => e = .returned (.string (Bt [1, 1])) ∧ Ext w' w2) := Lib.hid (fun w' => nums1 1 (by decide) w')
  have HP1 : Hid (∀ w', Calls Try.prog 38 #[.agg #[.int .i64 1, .int .u64 7, .int .i64 10]] w' fun e w2 => e = .returned (.string (Bt [1, 1, 1, 7, 1, 10])) ∧ Ext w' w2) := Lib.hid (fun w' => piece_any 1 7 10 (by decide) (by decide) (by decide) w')
  have HP2 : Hid (∀ w', Calls Try.prog 38 #[.agg #[.int .i64 4, .int .u64 5, .int .i64 6]] w' fun e w2 => e = .returned (.string (Bt [1, 4, 1, 5, 1, 6])) ∧ Ext w' w2) := Lib.hid (fun w' => piece_any 4 5 6 (by decide) (by decide) (by decide) w')
  have hb := Blk.new w 41 #[.int .i64 0, .int .i64 0, .int .i64 10, .slice A 1 c, .int .i64 4, .int .u64 5, .int .i64 6]
  have hX0 : Ext w (w.alloc (.cells #[.int .i64 0, .int .i64 0, .int .i64 10, .slice A 1 c, .int .i64 4, .int .u64 5, .int .i64 6] 41)) := (Ext.refl w).alloc _
  have HB := Lib.hid hb
  have y0 := hb.cell 0
  have y1 := hb.cell 1
  have y2 := hb.cell 2
  have y3 := hb.cell 3
  have y4 := hb.cell 4
  have y5 := hb.cell 5
  have y6 := hb.cell 6
  simp only [List.getElem?_toArray, List.getElem?_cons_succ, List.getElem?_cons_zero] at y0 y1 y2 y3 y4 y5 y6
  obtain ⟨g, o, rfl, hc⟩ := h.2.2 (by decide)
  have c0 : w.cell? ⟨g, o, none⟩ = some (.int .i64 1) := hc 0 (.int .i64 1) rfl
  have c1 : w.cell? ⟨g, o + 1, none⟩ = some (.int .u64 7) := hc 1 (.int .u64 7) rfl
  have c2 : w.cell? ⟨g, o + 2, none⟩ = some (.int .i64 10) := hc 2 (.int .i64 10) rfl
  clear hc h hb
  have a1 := add_Bt [0, 0, 1, 10] [1, 1] (by decide)
  have HE0 := Lib.hid (fun w1 (hE : Ext w w1) => And.intro (hE.cellv c0) (And.intro (hE.cellv c1) (hE.cellv c2)))
  have HY := Lib.hid (fun w1 (hE : Ext (w.alloc (.cells #[.int .i64 0, .int .i64 0, .int .i64 10, .slice (some ⟨g, o, none⟩) 1 c, .int .i64 4, .int .u64 5, .int .i64 6] 41)) w1) => And.intro (hE.cellv y0) (And.intro (hE.cellv y1) (And.intro (hE.cellv y2) (And.intro (hE.cellv y3) (And.intro (hE.cellv y4) (And.intro (hE.cellv y5) (hE.cellv y6)))))))
  go_enter Try.func19, Try.ntmps19
  go_wp2_with (first
    | (go_at_call 27; (with_reducible refine (HM.out _ hX0).mono ?_); rintro e w1 ⟨rfl, hE1⟩; obtain ⟨x0, x1, x2, x3, x4, x5, x6⟩ := HY.out _ hE1)
    | (go_at_call 37; (with_reducible refine (HN3.out _).mono ?_); rintro e w2 ⟨rfl, hE2⟩; have hE2' := hE1.trans hE2; obtain ⟨x0, x1, x2, x3, x4, x5, x6⟩ := HY.out _ hE2')
    | (go_at_call 37; (with_reducible refine (HN1.out _).mono ?_); rintro e w3 ⟨rfl, hE3⟩; have hE3' := hE2'.trans hE3; obtain ⟨x0, x1, x2, x3, x4, x5, x6⟩ := HY.out _ hE3'))
  go_loopw [4, 39] (fun sv iv wr => ∃ k : Nat, k ≤ 1 ∧ iv = .int .i64 k ∧ sv = .string (Bt (if k = 0 then [0, 0, 1, 10, 1, 1] else [0, 0, 1, 10, 1, 1, 1, 1, 1, 7, 1, 10])) ∧ Ext (w.alloc (.cells #[.int .i64 0, .int .i64 0, .int .i64 10, .slice (some ⟨g, o, none⟩) 1 c, .int .i64 4, .int .u64 5, .int .i64 6] 41)) wr) (fun _ iv _ => 1 - (intOf iv).toNat)
  case atStart => exact ⟨0, by omega, rfl, rfl, hE3'⟩
  case round =>
    obtain ⟨k, hk, rfl, rfl, hE⟩ := hrel
    obtain ⟨z0, z1, z2, z3, z4, z5, z6⟩ := HY.out _ hE
    obtain ⟨v0, v1, v2⟩ := HE0.out _ (hX0.trans hE)
    by_cases h0 : k = 0
    · subst h0
      have a2 := add_Bt [0, 0, 1, 10, 1, 1] [1, 1, 1, 7, 1, 10] (by decide)
      rw [if_pos rfl]
      go_wp2_with (go_at_call 38; (with_reducible refine (HP1.out _).mono ?_); rintro e w5 ⟨rfl, hE5⟩)
      exact ⟨⟨1, by omega, rfl, rfl, (hE.alloc _).trans hE5⟩, by simp [intOf]⟩
    · obtain rfl : k = 1 := by omega
      have a2 := add_Bt [0, 0, 1, 10, 1, 1, 1, 1, 1, 7, 1, 10] [1, 4, 1, 5, 1, 6] (by decide)
      rw [if_neg h0]
      go_wp2_with (go_at_call 38; (with_reducible refine (HP2.out _).mono ?_); rintro e w5 ⟨rfl, hE5⟩)
      go_ret2
      exact ⟨rfl, hX0.trans (hE.trans hE5)⟩
