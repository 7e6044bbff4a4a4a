import Derived.Test.YtpcbllmmbbmkfaaD2
import Derived.Lib.AppendZerosOnto
import Derived.Lib.AppendZeros
namespace Go.Proofs.Ytpcbllmmbbmkfaa
open Go.RowKit
theorem results_cell1 {fn : Func} {p : Tmp} {ty : TypeId} (h : fn.results = #[.cell p ty]) (tmps : Array Value) (P : Program) (w : World) :
    (results fn tmps).run P w = ((asAddr (tmps.getD p undef)).run P w).andThen fun a w₁ => (loadVar ty a).run P w₁ := by
  simp only [results, h]
  simp [Sem.run_bind, Result.andThen]
set_option maxRecDepth 100000 in
/-- A ref with pieces of its own: the program's. -/
theorem own_any {w : World} (r : Rf) {B : Option Addr} {c : Nat} (h : PsV w (.slice B r.ps.length c) r.ps) (hn : r.ps.length ≤ 1048576) : Calls Try.prog 32 #[.agg #[.int .i64 r.len, .slice B r.ps.length c]] w fun e w' => ∃ A' c', e = .returned (.agg #[.int .i64 r.len, .slice A' r.ps.length c']) ∧ (∀ b, PsB w' b (.slice A' r.ps.length c') r.ps) ∧ Ext w w' := by
  obtain ⟨B', c', hv, h1, h2, h3⟩ := h
  cases hv
  have HC : Hid (∀ w', Ext w w' → Calls Try.prog 49 #[.slice B r.ps.length c] w' fun e w2 => ∃ A' c', e = .returned (.slice A' r.ps.length c') ∧ w2.ownsRow w'.heap.size 39 3 (.slice A' r.ps.length c') r.ps.length (r.ps.flatMap pcc) ∧ Ext w' w2) := Lib.hid (fun w' hE => clonePc (h1.ext hE).2 (pcc_one r.ps) hn h3)
  have hsz : ((w.alloc (.cells #[.int .i64 r.len, .slice B r.ps.length c] 36)).alloc (.cells #[.int .i64 0, .slice none 0 0] 36)).heap.size = w.heap.size + 2 := by simp
  clear h1 h2 h3
  have hb1 : Blk ((w.alloc (.cells #[.int .i64 r.len, .slice B r.ps.length c] 36)).alloc (.cells #[.int .i64 0, .slice none 0 0] 36)) w.heap.size 36 #[.int .i64 r.len, .slice B r.ps.length c] := (Blk.new w 36 _).ext ((Ext.refl _).alloc _)
  have hb2 : Blk ((w.alloc (.cells #[.int .i64 r.len, .slice B r.ps.length c] 36)).alloc (.cells #[.int .i64 0, .slice none 0 0] 36)) (w.heap.size + 1) 36 #[.int .i64 0, .slice none 0 0] := by
    have := Blk.new (w.alloc (.cells #[.int .i64 r.len, .slice B r.ps.length c] 36)) 36 #[.int .i64 0, .slice none 0 0]
    rw [World.size_alloc] at this
    exact this
  have x1 := hb1.cell 1
  simp only [List.getElem?_toArray, List.getElem?_cons_succ, List.getElem?_cons_zero] at x1
  go_enter Try.func32, Try.ntmps32
  go_wp2_with (go_at_call 49; (with_reducible refine (HC.out _ (((Ext.refl w).alloc _).alloc _)).mono ?_); rintro e w1 ⟨A1, c1, rfl, hP1, hE1⟩; rw [hsz] at hP1; have HP1 := Lib.hid hP1; clear hP1; have k1 := hb1.ext hE1; have k2 := hb2.ext hE1; have q0 := k1.cell 0; have q1 := k1.cell 1; have q2 := k1.frozen 1; have k3 := k1.set_ 1 (.slice A1 r.ps.length c1); have k4 := k2.far (p := ⟨w.heap.size, 1, none⟩) (by simp) (.slice A1 r.ps.length c1); have q3 := k3.cell 0; have q4 := k3.cell 1; have q5 := k4.frozen 0; have q6 := k4.frozen 1; have q7 := k4.cell 0; have q8 := k4.cell 1; simp at q0 q1 q3 q4 q7 q8)
  have k5 := (k4.set_ 0 (.int .i64 r.len)).set_ 1 (.slice A1 r.ps.length c1)
  have p0 := k5.cell 0
  have p1 := k5.cell 1
  simp at p0 p1
  have hX : Ext w w1 := (((Ext.refl w).alloc _).alloc _).trans hE1
  have hY := ((hX.setCell (p := ⟨w.heap.size, 1, none⟩) (Nat.le_refl _) (.slice A1 r.ps.length c1)).setCell (p := ⟨w.heap.size + 1, 0, none⟩) (Nat.le_succ _) (.int .i64 r.len)).setCell (p := ⟨w.heap.size + 1, 1, none⟩) (Nat.le_succ _) (.slice A1 r.ps.length c1)
  refine bodyPost_ret (v := .agg #[.int .i64 r.len, .slice A1 r.ps.length c1]) ?_ rfl ⟨A1, c1, rfl, fun b => PsB.own (own_set (own_set (own_set HP1.out (by omega)) (by omega)) (by omega)), hY⟩
  rw [results_cell1 rfl]
  go_simp
theorem run_app0 (w : World) (A B : Option Addr) (n c k : Nat) (hnc : n ≤ c) (ty : TypeId) : (Builtin.append_ #[34, 34] ty #[.slice A n c, .slice B 0 k]).run Try.prog w = .ok (.slice A n c) w := by
  obtain ⟨i0, hi0, _, _, _⟩ := info_parts infoPc
  rcases A with _ | a <;> rcases B with _ | b
  all_goals simp [Builtin.append_, run_underlying Try.underlying34, sizeOf, typeInfo, hi0, Builtin.lenOf, Builtin.firstCells, loadCells, loadCellsFrom, storeCells, hnc]
set_option maxRecDepth 100000 in
/-- A ref with pieces of its own: the law's. -/
theorem lownRef_pos {w : World} (r : Rf) {B : Option Addr} {c : Nat} (h : PsV w (.slice B r.ps.length c) r.ps) (hn : r.ps.length ≤ 1048576) (HPOS : 0 < r.ps.length) : Calls Try.prog 22 #[.agg #[.int .i64 r.len, .slice B r.ps.length c]] w fun e w' => ∃ A' c', e = .returned (.agg #[.int .i64 r.len, .slice A' r.ps.length c']) ∧ (∀ b, PsB w' b (.slice A' r.ps.length c') r.ps) ∧ Ext w w' := by
  obtain ⟨B', c', hv, h1, h2, h3⟩ := h
  cases hv
  obtain ⟨i0, hi0, hz0, hz1, hz2⟩ := info_parts infoPc
  have hpos : 0 < r.ps.length := HPOS
  obtain ⟨g, o, rfl, hcell⟩ := h1.2.2 (by omega)
  have hsz : ((w.alloc (.cells #[.int .i64 r.len, .slice (some ⟨g, o, none⟩) r.ps.length c] 36)).alloc (.cells #[.int .i64 0, .slice none 0 0] 36)).heap.size = w.heap.size + 2 := by simp
  have hE0 : Ext w ((w.alloc (.cells #[.int .i64 r.len, .slice (some ⟨g, o, none⟩) r.ps.length c] 36)).alloc (.cells #[.int .i64 0, .slice none 0 0] 36)) := ((Ext.refl w).alloc _).alloc _
  have HCE := Lib.hid (fun i v hi => hE0.cellv (hcell i v hi))
  have HLN := Lib.hid h1.2.1
  have HON := Lib.hid (World.ownsRow_nil ((w.alloc (.cells #[.int .i64 r.len, .slice (some ⟨g, o, none⟩) r.ps.length c] 36)).alloc (.cells #[.int .i64 0, .slice none 0 0] 36)) (w.heap.size + 2) 39 3)
  clear hcell
  clear h1 h2 h3
  have hb1 : Blk ((w.alloc (.cells #[.int .i64 r.len, .slice (some ⟨g, o, none⟩) r.ps.length c] 36)).alloc (.cells #[.int .i64 0, .slice none 0 0] 36)) w.heap.size 36 #[.int .i64 r.len, .slice (some ⟨g, o, none⟩) r.ps.length c] := (Blk.new w 36 _).ext ((Ext.refl _).alloc _)
  have hb2 : Blk ((w.alloc (.cells #[.int .i64 r.len, .slice (some ⟨g, o, none⟩) r.ps.length c] 36)).alloc (.cells #[.int .i64 0, .slice none 0 0] 36)) (w.heap.size + 1) 36 #[.int .i64 0, .slice none 0 0] := by
    have := Blk.new (w.alloc (.cells #[.int .i64 r.len, .slice (some ⟨g, o, none⟩) r.ps.length c] 36)) 36 #[.int .i64 0, .slice none 0 0]
    rw [World.size_alloc] at this
    exact this
  have x1 := hb1.cell 1
  simp only [List.getElem?_toArray, List.getElem?_cons_succ, List.getElem?_cons_zero] at x1
  go_enter Try.func22, Try.ntmps22
  go_wp2_with (at_builtin; refine wpList_append_lies _ rfl _ _ 34 rfl (w.heap.size + 2) 39 i0 _ 3 24 Try.underlying34 hi0 hz0 hz1 hz2 rfl (by decide) (.slice none 0 0) 0 [] rfl HON.out ⟨g, o, none⟩ r.ps.length c (r.ps.flatMap pcc) rfl HLN.out (fun j u hj => by
        rw [Addr.add_mid]
        exact HCE.out j u hj) (pcc_one r.ps) (by omega) (by unfold maxLen; omega) (by omega) (by rw [hsz]; omega) _ rfl ?_; intro g2 c1 w1 hown hgrow _ _; have hP1 : w1.ownsRow (w.heap.size + 2) 39 3 (.slice (some ⟨g2, 0, none⟩) r.ps.length c1) r.ps.length (r.ps.flatMap pcc) := (by have := hown; rw [Nat.zero_add, List.nil_append] at this; exact this); have hE1 := (Ext.refl ((w.alloc (.cells #[.int .i64 r.len, .slice (some ⟨g, o, none⟩) r.ps.length c] 36)).alloc (.cells #[.int .i64 0, .slice none 0 0] 36))).grown hgrow (fun k hk => by cases hk); have HP1 := Lib.hid hP1; clear hP1; have k1 := hb1.ext hE1; have k2 := hb2.ext hE1; have q0 := k1.cell 0; have q1 := k1.cell 1; have q2 := k1.frozen 1; have k3 := k1.set_ 1 (.slice (some ⟨g2, 0, none⟩) r.ps.length c1); have k4 := k2.far (p := ⟨w.heap.size, 1, none⟩) (by simp) (.slice (some ⟨g2, 0, none⟩) r.ps.length c1); have q3 := k3.cell 0; have q4 := k3.cell 1; have q5 := k4.frozen 0; have q6 := k4.frozen 1; have q7 := k4.cell 0; have q8 := k4.cell 1; simp at q0 q1 q3 q4 q7 q8)
  have k5 := (k4.set_ 0 (.int .i64 r.len)).set_ 1 (.slice (some ⟨g2, 0, none⟩) r.ps.length c1)
  have p0 := k5.cell 0
  have p1 := k5.cell 1
  simp at p0 p1
  have hX : Ext w w1 := (((Ext.refl w).alloc _).alloc _).trans hE1
  have hY := ((hX.setCell (p := ⟨w.heap.size, 1, none⟩) (Nat.le_refl _) (.slice (some ⟨g2, 0, none⟩) r.ps.length c1)).setCell (p := ⟨w.heap.size + 1, 0, none⟩) (Nat.le_succ _) (.int .i64 r.len)).setCell (p := ⟨w.heap.size + 1, 1, none⟩) (Nat.le_succ _) (.slice (some ⟨g2, 0, none⟩) r.ps.length c1)
  refine bodyPost_ret (v := .agg #[.int .i64 r.len, .slice (some ⟨g2, 0, none⟩) r.ps.length c1]) ?_ rfl ⟨(some ⟨g2, 0, none⟩), c1, rfl, fun b => PsB.own (own_set (own_set (own_set HP1.out (by omega)) (by omega)) (by omega)), hY⟩
  rw [results_cell1 rfl]
  go_simp
set_option maxRecDepth 100000 in
/-- A ref without pieces. -/
theorem lownRef_zero {w : World} (r : Rf) {B : Option Addr} {c : Nat} (h : PsV w (.slice B r.ps.length c) r.ps) (HPOS : r.ps.length = 0) : Calls Try.prog 22 #[.agg #[.int .i64 r.len, .slice B r.ps.length c]] w fun e w' => ∃ A' c', e = .returned (.agg #[.int .i64 r.len, .slice A' r.ps.length c']) ∧ (∀ b, PsB w' b (.slice A' r.ps.length c') r.ps) ∧ Ext w w' := by
  obtain ⟨B', c', hv, h1, h2, h3⟩ := h
  cases hv
  have hz : r.ps.length = 0 := HPOS
  have hap := fun (w : World) ty => run_app0 w none B 0 0 c (Nat.le_refl 0) ty
  clear h1 h2 h3
  rw [hz]
  have hps : r.ps = [] := List.eq_nil_of_length_eq_zero hz
  rw [hps]
  clear hz HPOS hps
  go_enter Try.func22, Try.ntmps22
  go_wp2_with (at_builtin; refine Lib.wpList_append_run _ rfl _ _ _ _ rfl _ _ rfl rfl _ _ (hap _ _) ?_)
  refine bodyPost_ret (v := .agg #[.int .i64 r.len, .slice none 0 0]) ?_ rfl ⟨none, 0, rfl, fun b => ⟨⟨none, 0, rfl, ⟨rfl, Rd.nil _ _⟩, Nat.le_refl _, fun _ => rfl⟩, fun a k c _ hp => absurd hp (by simp)⟩, ((Ext.refl w).alloc _).alloc _⟩
  rw [results_cell1 rfl]
  go_simp
theorem lownRef_any {w : World} (r : Rf) {B : Option Addr} {c : Nat} (h : PsV w (.slice B r.ps.length c) r.ps) (hn : r.ps.length ≤ 1048576) : Calls Try.prog 22 #[.agg #[.int .i64 r.len, .slice B r.ps.length c]] w fun e w' => ∃ A' c', e = .returned (.agg #[.int .i64 r.len, .slice A' r.ps.length c']) ∧ (∀ b, PsB w' b (.slice A' r.ps.length c') r.ps) ∧ Ext w w' := by
  rcases Nat.eq_zero_or_pos r.ps.length with h0 | h0
  · exact lownRef_zero r h h0
  · exact lownRef_pos r h hn h0
