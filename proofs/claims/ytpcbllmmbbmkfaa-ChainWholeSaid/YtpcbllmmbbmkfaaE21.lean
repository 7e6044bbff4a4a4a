import Derived.Test.YtpcbllmmbbmkfaaE20
namespace Go.Proofs.Ytpcbllmmbbmkfaa
open Go.RowKit
theorem ps_one {w : World} {g : Nat} (p : Pc) (h : Blk w g 39 (pcc p).toArray) : PsV w (.slice (some ⟨g, 0, none⟩) 1 1) [p] := by
  refine ⟨_, 1, rfl, ⟨rfl, rfl, fun _ => ⟨g, 0, rfl, fun i x hi => ?_⟩⟩, Nat.le_refl _, fun e => by cases e⟩
  rw [Nat.zero_add, h.cell i, List.getElem?_toArray]
  simpa using hi
set_option maxRecDepth 100000 in
/-- A ref with one piece. -/
theorem ref_any (n m : Int) (w : World) : Calls Try.prog 18 #[.int .i64 n, .int .i64 m] w fun e w' => ∃ A, e = .returned (.agg #[.int .i64 m, .slice A 1 1]) ∧ PsV w' (.slice A 1 1) [⟨n, 7, m⟩] ∧ Ext w w' := by
  have hb1 : Blk ((w.alloc (.cells #[.int .i64 m, .slice (some ⟨w.heap.size + 1, 0, none⟩) 1 1] 36)).alloc (.cells #[.int .i64 n, .int .u64 7, .int .i64 m] 39)) w.heap.size 36 #[.int .i64 m, .slice (some ⟨w.heap.size + 1, 0, none⟩) 1 1] := (Blk.new w 36 _).alloc _
  have hb2 : Blk ((w.alloc (.cells #[.int .i64 m, .slice (some ⟨w.heap.size + 1, 0, none⟩) 1 1] 36)).alloc (.cells #[.int .i64 n, .int .u64 7, .int .i64 m] 39)) (w.heap.size + 1) 39 #[.int .i64 n, .int .u64 7, .int .i64 m] := by
    have := Blk.new (w.alloc (.cells #[.int .i64 m, .slice (some ⟨w.heap.size + 1, 0, none⟩) 1 1] 36)) 39 #[.int .i64 n, .int .u64 7, .int .i64 m]
    rw [World.size_alloc] at this
    exact this
  have x0 := hb1.cell 0
  have x1 := hb1.cell 1
  simp at x0 x1
  have HF := Lib.hid (And.intro (ps_one ⟨n, 7, m⟩ hb2) (((Ext.refl w).alloc (.cells #[.int .i64 m, .slice (some ⟨w.heap.size + 1, 0, none⟩) 1 1] 36)).alloc (.cells #[.int .i64 n, .int .u64 7, .int .i64 m] 39)))
  clear hb1 hb2
  go_enter Try.func18, Try.ntmps18
  go_wp2
  refine bodyPost_ret (v := .agg #[.int .i64 m, .slice (some ⟨w.heap.size + 1, 0, none⟩) 1 1]) ?_ rfl ⟨_, rfl, HF.out.1, HF.out.2⟩
  rw [results_cell1 rfl]
  go_simp
set_option maxRecDepth 100000 in
/-- A link is the same as itself. -/
theorem sameLink_eq {w : World} (l : Lk) {A B : Option Addr} {c d : Nat} (ha : PcRd w A l.add.ps.length l.add.ps) (hb : PcRd w B l.add.ps.length l.add.ps) (hn : l.add.ps.length ≤ 1048576) :
    Calls Try.prog 21 #[.agg #[.int .i64 l.at_, .int .i64 l.take, .int .i64 l.add.len, .slice A l.add.ps.length c, .int .i64 l.before.row, .int .u64 l.before.st, .int .i64 l.before.len], .agg #[.int .i64 l.at_, .int .i64 l.take, .int .i64 l.add.len, .slice B l.add.ps.length d, .int .i64 l.before.row, .int .u64 l.before.st, .int .i64 l.before.len]] w fun e w' => e = .returned (.bool true) ∧ Ext w w' := by
  have HS := Lib.hid (fun w' (hE : Ext w w') => (by
    have := rsameRef_any (c := c) (c' := d) l.add l.add (ha.ext hE) (hb.ext hE) hn hn
    rw [decide_eq_true rfl] at this
    exact this : Calls Try.prog 23 #[.agg #[.int .i64 l.add.len, .slice A l.add.ps.length c], .agg #[.int .i64 l.add.len, .slice B l.add.ps.length d]] w' fun e w2 => e = .returned (.bool true) ∧ Ext w' w2))
  have heq := fun (w : World) => eqPc l.before.row l.before.st l.before.len l.before.row l.before.st l.before.len w
  simp only [beq_self_eq_true, Bool.and_self] at heq
  generalize l.add.ps.length = m at *
  generalize l.at_ = x1 at *
  generalize l.take = x2 at *
  generalize l.add.len = x3 at *
  generalize l.before.row = r at *
  generalize l.before.st = s at *
  generalize l.before.len = n at *
  clear ha hb hn
  go_enter Try.func21, Try.ntmps21
  go_wp2_with (go_at_call 23; (with_reducible refine (HS.out _ (((Ext.refl w).alloc _).alloc _)).mono ?_); rintro e w1 ⟨rfl, hE1⟩)
  go_ret
  exact ⟨rfl, (((Ext.refl w).alloc _).alloc _).trans hE1⟩
