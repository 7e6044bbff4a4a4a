import Derived.Test.YtpcbllmmbbmkfaaE26
import Derived.RangeFuncBound
import Derived.Deep.RegionHeld
import Derived.RangeFuncCalls
import Derived.RangeFuncLeaves
import Derived.RangeFuncBox
import Derived.WalkKit
import Derived.OwnWalkIn
import Derived.TacticsInMore
import Derived.LoopNIn
namespace Go.Proofs.Ytpcbllmmbbmkfaa
open Go.RowKit Go.Nb Go.Shelf
attribute [local go_sem] Oper.semAt_some
attribute [-go_sem] Builtin.append_
theorem own_ge {w : World} {base size n c : Nat} {e : TypeId} {A : Option Addr} {xs : List Value} (h : w.ownsRow base e size (.slice A n c) n xs) {a : Addr} (hA : A = some a) : base ≤ a.block := by
  subst hA
  rcases h.2 with ⟨h1, h0⟩ | ⟨g, cap, cur, hv, h1, _⟩
  · injection h1 with e1; cases e1
  · injection hv with e1
    injection e1 with e1
    rw [e1]; exact h1
set_option maxRecDepth 100000 in
/-- The same, and the pieces are new. -/
theorem own_new {w : World} (r : Rf) {B : Option Addr} {c : Nat} (h : PsV w (.slice B r.ps.length c) r.ps) (hn : r.ps.length ≤ 1048576) : Calls Try.prog 32 #[.agg #[.int .i64 r.len, .slice B r.ps.length c]] w fun e w' => ∃ A' c', e = .returned (.agg #[.int .i64 r.len, .slice A' r.ps.length c']) ∧ (∀ b, PsB w' b (.slice A' r.ps.length c') r.ps) ∧ (∀ a, A' = some a → w.heap.size ≤ a.block) ∧ Ext w w' := by
  obtain ⟨B', c', hv, h1, h2, h3⟩ := h
  cases hv
  have HC : Hid (∀ w', Ext w w' → Calls Try.prog 49 #[.slice B r.ps.length c] w' fun e w2 => ∃ A' c', e = .returned (.slice A' r.ps.length c') ∧ w2.ownsRow w'.heap.size 39 3 (.slice A' r.ps.length c') r.ps.length (r.ps.flatMap pcc) ∧ Ext w' w2) := Lib.hid (fun w' hE => clonePc (h1.ext hE).2 (pcc_one r.ps) hn h3)
  have hsz : ((w.alloc (.cells #[.int .i64 r.len, .slice B r.ps.length c] 36)).alloc (.cells #[.int .i64 0, .slice none 0 0] 36)).heap.size = w.heap.size + 2 := by simp
  clear h1 h2 h3
  have hb1 : Blk ((w.alloc (.cells #[.int .i64 r.len, .slice B r.ps.length c] 36)).alloc (.cells #[.int .i64 0, .slice none 0 0] 36)) w.heap.size 36 #[.int .i64 r.len, .slice B r.ps.length c] := (Blk.new w 36 _).ext ((Ext.refl _).alloc _)
  have hb2 : Blk ((w.alloc (.cells #[.int .i64 r.len, .slice B r.ps.length c] 36)).alloc (.cells #[.int .i64 0, .slice none 0 0] 36)) (w.heap.size + 1) 36 #[.int .i64 0, .slice none 0 0] := by
    have := Blk.new (w.alloc (.cells #[.int .i64 r.len, .slice B r.ps.length c] 36)) 36 #[.int .i64 0, .slice none 0 0]
    rw [World.size_alloc] at this
    exact this
  have x1 := hb1.cell 1
  simp only [List.getElem?_toArray, List.getElem?_cons_succ, List.getElem?_cons_zero] at x1
  go_enter Try.func32, Try.ntmps32
  go_wp2_with (go_at_call 49; (with_reducible refine (HC.out _ (((Ext.refl w).alloc _).alloc _)).mono ?_); rintro e w1 ⟨A1, c1, rfl, hP1, hE1⟩; rw [hsz] at hP1; have HP1 := Lib.hid hP1; clear hP1; have k1 := hb1.ext hE1; have k2 := hb2.ext hE1; have q0 := k1.cell 0; have q1 := k1.cell 1; have q2 := k1.frozen 1; have k3 := k1.set_ 1 (.slice A1 r.ps.length c1); have k4 := k2.far (p := ⟨w.heap.size, 1, none⟩) (by simp) (.slice A1 r.ps.length c1); have q3 := k3.cell 0; have q4 := k3.cell 1; have q5 := k4.frozen 0; have q6 := k4.frozen 1; have q7 := k4.cell 0; have q8 := k4.cell 1; simp at q0 q1 q3 q4 q7 q8)
  have k5 := (k4.set_ 0 (.int .i64 r.len)).set_ 1 (.slice A1 r.ps.length c1)
  have p0 := k5.cell 0
  have p1 := k5.cell 1
  simp at p0 p1
  have hX : Ext w w1 := (((Ext.refl w).alloc _).alloc _).trans hE1
  have hY := ((hX.setCell (p := ⟨w.heap.size, 1, none⟩) (Nat.le_refl _) (.slice A1 r.ps.length c1)).setCell (p := ⟨w.heap.size + 1, 0, none⟩) (Nat.le_succ _) (.int .i64 r.len)).setCell (p := ⟨w.heap.size + 1, 1, none⟩) (Nat.le_succ _) (.slice A1 r.ps.length c1)
  refine bodyPost_ret (v := .agg #[.int .i64 r.len, .slice A1 r.ps.length c1]) ?_ rfl ⟨A1, c1, rfl, fun b => PsB.own (own_set (own_set (own_set HP1.out (by omega)) (by omega)) (by omega)), fun a e => Nat.le_trans (by omega) (own_ge HP1.out e), hY⟩
  rw [results_cell1 rfl]
  go_simp
/-- Pieces that no block below lies under. -/
def PsN (w : World) (base n0 : Nat) (v : Value) (ps : List Pc) : Prop := PsB w base v ps ∧ ∀ a k c, v = .slice (some a) k c → n0 ≤ a.block
theorem PsN.far {w : World} {base n0 : Nat} {v : Value} {ps : List Pc} (h : PsN w base n0 v ps) {p : Addr} (hp : p.block < n0) (u : Value) : PsN (w.setCell p u) base n0 v ps := by
  refine ⟨⟨?_, fun a k c hv h0 => ?_⟩, h.2⟩
  · obtain ⟨B, c, hv, h1, h2, h3⟩ := h.1.1
    refine ⟨B, c, hv, ⟨h1.1, h1.2.1, fun hn => ?_⟩, h2, h3⟩
    obtain ⟨g, o, hB, hc⟩ := h1.2.2 hn
    refine ⟨g, o, hB, fun i x hi => ?_⟩
    have := h.2 ⟨g, o, none⟩ _ _ (by rw [hv, hB])
    rw [World.cell?_setCell_far]
    · exact hc i x hi
    · intro e
      have e2 : p.block = g := e
      have h4 : n0 ≤ g := this
      omega
  · rcases h.1.2 a k c hv h0 with h3 | ⟨cs, fz, h3⟩
    · exact .inl h3
    · refine .inr ⟨cs, fz, ?_⟩
      rw [Below.heap_setCell w p u a.block (fun e => by have := h.2 a k c hv; omega)]
      exact h3
theorem PsN.ext {w w' : World} {base n0 : Nat} {v : Value} {ps : List Pc} (h : PsN w base n0 v ps) (hE : Ext w w') : PsN w' base n0 v ps := ⟨h.1.ext hE, h.2⟩
theorem PsN.row {w w' : World} {base n0 sz n : Nat} {e : TypeId} {u v : Value} {xs : List Value} {ps : List Pc} (h : PsN w base n0 v ps) (ho : w.ownsRow base e sz u n xs) (hne : e ≠ 39) (hg : w.grownBy w' u.ownBlock) : PsN w' base n0 v ps := ⟨h.1.row ho hne hg, h.2⟩
/-- What Whole says of refs and of a piece that lay ahead. -/
def wholeB (b : Pc) : List Rf → List Lk
  | [] => []
  | r :: l => ⟨0, 0, r, b⟩ :: l.map fun r => ⟨0, 0, r, P0⟩
theorem wholeB_snoc (b : Pc) (l : List Rf) (r : Rf) : wholeB b (l ++ [r]) = wholeB b l ++ [⟨0, 0, r, if l = [] then b else P0⟩] := by
  cases l with
  | nil => rfl
  | cons x l => simp [wholeB]
theorem wholeB_len (b : Pc) (l : List Rf) : (wholeB b l).length = l.length := by
  cases l with
  | nil => rfl
  | cons x l => simp [wholeB]
theorem psb_kept {W W' : World} {base : Nat} {v : Value} {ps : List Pc} {row : Option Nat} (h : PsB W base v ps) (hg : W.grownBy W' row) (hrow : ∀ r, row = some r → ∃ o : Obj, W.heap[r]? = some o ∧ o.isCells = false) : PsB W' base v ps := by
  have key : ∀ (a : Addr) (u : Value), W.cell? a = some u → some a.block ≠ row := fun a u hc e => by
    obtain ⟨o, h1, h2⟩ := hrow a.block e.symm
    obtain ⟨o', h3, h4⟩ := cells_of_cell hc
    rw [h1] at h3
    injection h3 with h3
    rw [h3, h4] at h2
    cases h2
  refine ⟨?_, fun a k c hv hp => ?_⟩
  · obtain ⟨B, c, hv, h1, h2, h3⟩ := h.1
    refine ⟨B, c, hv, ⟨h1.1, h1.2.1, fun hn => ?_⟩, h2, h3⟩
    obtain ⟨g, o, hB, hc⟩ := h1.2.2 hn
    exact ⟨g, o, hB, fun i x hi => hg.cell (hc i x hi) (key _ _ (hc i x hi))⟩
  · rcases h.2 a k c hv hp with h3 | ⟨cs, fz, h3⟩
    · exact .inl h3
    · refine .inr ⟨cs, fz, ?_⟩
      rw [hg.block _ (by subst hv; exact h.1.blk hp) (fun e => ?_)]
      · exact h3
      · obtain ⟨o, h4, h5⟩ := hrow a.block e.symm
        rw [h3] at h4
        cases h4
        cases h5
theorem lkrow_own {β : Type} (base n0 B : Nat) (k : β → Nat) (f : β → List Lk) : Own (fun s W => ∃ v xs, Boxed W B 23 v ∧ W.ownsRow base 41 7 v (k s) xs ∧ LkVP (PsN W base n0) xs (f s)) := by
  rintro s X Y row ⟨v, xs, hv, hr, hG⟩ hg hrow
  refine ⟨v, xs, hv.kept hg (fun e' => ?_), hr.kept hg ?_, hG.mono fun _ _ q => ⟨psb_kept q.1 hg hrow, q.2⟩⟩
  · obtain ⟨o, ho, hc⟩ := hrow B e'.symm
    rw [show X.heap[B]? = _ from hv] at ho; cases ho; cases hc
  · rcases hr.2 with ⟨rfl, _⟩ | ⟨g, cap, cur, rfl, _, hgb, _⟩
    · exact .inl rfl
    · refine .inr fun e' => ?_
      obtain ⟨o, ho, hc⟩ := hrow g (by simpa [Value.ownBlock] using e'.symm)
      rw [hgb] at ho; cases ho; cases hc
theorem blk_own {β : Type} (B : Nat) (t : TypeId) (f : β → Array Value) : Own (fun s W => Blk W B t (f s)) := fun s X Y row hs hg hrow =>
  hs.grown hg (fun e' => by obtain ⟨o, ho, hc⟩ := hrow B e'.symm; rw [show X.heap[B]? = _ from hs] at ho; cases ho; cases hc)
theorem keeps_ext {w w' : World} (h : Ext w w') : KeepsOthers w w' := ⟨h.size, fun k _ hk _ => (h.block k (Array.getElem?_eq_some_iff.1 hk).1).trans hk⟩
/-- What the loop of Whole holds. -/
def WI (w : World) (b : Pc) (T : List Rf) (pre : List Nat) (W : World) : Prop := ((∃ v xs, Boxed W (w.heap.size + 1) 23 v ∧ W.ownsRow (w.heap.size + 3) 41 7 v pre.length xs ∧ LkVP (PsN W (w.heap.size + 3) (w.heap.size + 3)) xs (wholeB b (pre.map fun i => T.getD i default))) ∧ Blk W w.heap.size 39 (pcc (if pre = [] then b else P0)).toArray) ∧ Ext w W
theorem wi_own (w : World) (b : Pc) (T : List Rf) (B : Nat) (hB : w.heap.size ≤ B) : OwnFrom B (WI w b T) :=
  OwnFrom.and (OwnFrom.and (Own.from (lkrow_own _ _ _ (fun (pre : List Nat) => pre.length) (fun pre => wholeB b (pre.map fun i => T.getD i default))) _) (Own.from (blk_own _ _ (fun (pre : List Nat) => (pcc (if pre = [] then b else P0)).toArray)) _)) (ownFrom_below (Nat.le_refl _) hB)
theorem own_val {w : World} {base : Nat} {e : TypeId} {size n : Nat} {v : Value} {xs : List Value} (h : w.ownsRow base e size v n xs) : ∃ A c, v = .slice A n c := by
  rcases h.2 with ⟨h1, h2⟩ | ⟨g, cap, cur, hv, _⟩
  · subst h2; exact ⟨none, 0, h1⟩
  · exact ⟨_, _, hv⟩
theorem turn_put {H : Nat → Prop} (W : World) (l : Nat) (o' : Obj) (hl : H l) : Turn H W (W.putObj l o') := ⟨rfl, rfl, rfl, by simp, fun k _ hk => World.putObj_heap_other (fun e => hk (by rw [e]; exact hl))⟩
theorem st39 {w : World} {z : Nat} {c0 c1 c2 v0 v1 v2 : Value} (h : Blk w z 39 #[c0, c1, c2]) : w.cell? ⟨z, 0, none⟩ = some c0 ∧ w.frozen? ⟨z, 0, none⟩ = false ∧ (w.setCell ⟨z, 0, none⟩ v0).cell? ⟨z, 1, none⟩ = some c1 ∧ (w.setCell ⟨z, 0, none⟩ v0).frozen? ⟨z, 1, none⟩ = false ∧ ((w.setCell ⟨z, 0, none⟩ v0).setCell ⟨z, 1, none⟩ v1).cell? ⟨z, 2, none⟩ = some c2 ∧ ((w.setCell ⟨z, 0, none⟩ v0).setCell ⟨z, 1, none⟩ v1).frozen? ⟨z, 2, none⟩ = false ∧ Blk (((w.setCell ⟨z, 0, none⟩ v0).setCell ⟨z, 1, none⟩ v1).setCell ⟨z, 2, none⟩ v2) z 39 #[v0, v1, v2] := by
  refine ⟨by rw [h.cell 0]; simp, h.frozen 0, by rw [(h.set_ 0 v0).cell 1]; simp, (h.set_ 0 v0).frozen 1, by rw [((h.set_ 0 v0).set_ 1 v1).cell 2]; simp, ((h.set_ 0 v0).set_ 1 v1).frozen 2, ?_⟩
  have := ((h.set_ 0 v0).set_ 1 v1).set_ 2 v2
  simpa using this
theorem blk_not_row {W : World} {B : Nat} {t e : TypeId} {cs : Array Value} (h : Blk W B t cs) (hte : t ≠ e) {base size k : Nat} {v : Value} {xs : List Value} (hr : W.ownsRow base e size v k xs) : some B ≠ v.ownBlock := by
  rcases hr.2 with ⟨rfl, _⟩ | ⟨g, cap, cur, rfl, _, hgb, _⟩
  · simp [Value.ownBlock]
  · intro e'
    obtain rfl : B = g := by simpa [Value.ownBlock] using e'
    have := (show W.heap[B]? = _ from h).symm.trans hgb
    simp at this
    exact hte this.2
theorem turn_row {H : Nat → Prop} {W W' : World} {base size n : Nat} {e : TypeId} {v : Value} {xs : List Value} (h : W.ownsRow base e size v n xs) (hg : W.grownBy W' v.ownBlock) (hH : ∀ k, base ≤ k → H k) : Turn H W W' :=
  ⟨hg.os, hg.tape, hg.output, hg.size, fun k hk hn => hg.block k hk (fun e => hn (hH k (own_block h e.symm)))⟩
theorem keeps_row {W W' : World} {base size n : Nat} {e : TypeId} {v : Value} {xs : List Value} (h : W.ownsRow base e size v n xs) (hg : W.grownBy W' v.ownBlock) : KeepsOthers W W' :=
  KeepsOthers.of_grownBy hg fun j o ej hj => by
    rcases h.2 with ⟨rfl, _⟩ | ⟨g, cap, cur, rfl, _, hgb, _⟩
    · simp [Value.ownBlock] at ej
    · obtain rfl : g = j := by simpa [Value.ownBlock] using ej
      rw [hgb] at hj; cases hj; rfl
theorem own_mono {W : World} {base b2 size n : Nat} {e : TypeId} {v : Value} {xs : List Value} (h : W.ownsRow base e size v n xs) (hb : b2 ≤ base) : W.ownsRow b2 e size v n xs := by
  refine ⟨h.1, ?_⟩
  rcases h.2 with h1 | ⟨g, cap, cur, hv, h1, h2⟩
  · exact .inl h1
  · exact .inr ⟨g, cap, cur, hv, Nat.le_trans hb h1, h2⟩
theorem PsN.any {w : World} {base : Nat} {v : Value} {ps : List Pc} (h : PsN w base base v ps) (b : Nat) : PsB w b v ps := ⟨h.1.1, fun a k c hv h0 => .inr (by
  rcases h.1.2 a k c hv h0 with h3 | h3
  · have := h.2 a k c hv; omega
  · exact h3)⟩
theorem boxed_ext {W W' : World} {B : Nat} {t : TypeId} {v : Value} (h : Boxed W B t v) (hE : Ext W W') : Boxed W' B t v := (hE.block B h.lt).trans h
theorem whole_round {w W w2 w4 : World} {b q : Pc} {T : List Rf} {pre : List Nat} {x m g4 cap4 c2 cv : Nat} {Av A2 : Option Addr} {r : Rf} {xs : List Value} (B0 : Nat) (HM : m = pre.length) (HQ : q = (if pre = [] then b else P0)) (HRR : r = T.getD x default) (hWs : w.heap.size + 3 ≤ W.heap.size) (HE : Ext w W) (hW2 : Ext W w2)
    (HROW : W.ownsRow (w.heap.size + 3) 41 7 (.slice Av m cv) m xs) (HXS : LkVP (PsN W (w.heap.size + 3) (w.heap.size + 3)) xs (wholeB b (pre.map fun i => T.getD i default))) (hP2 : ∀ b, PsB w2 b (.slice A2 r.ps.length c2) r.ps) (hN2 : ∀ a, A2 = some a → W.drew.heap.size ≤ a.block)
    (HOWN4 : w4.ownsRow (w.heap.size + 3) 41 7 (.slice (some ⟨g4, 0, none⟩) (m + 1) cap4) (m + 1) (xs ++ [Value.int .i64 0, .int .i64 0, .int .i64 r.len, .slice A2 r.ps.length c2, .int .i64 q.row, .int .u64 q.st, .int .i64 q.len])) (HG4 : (w2.alloc (.cells [Value.int .i64 0, .int .i64 0, .int .i64 r.len, .slice A2 r.ps.length c2, .int .i64 q.row, .int .u64 q.st, .int .i64 q.len].toArray 41)).grownBy w4 (Value.slice Av m cv).ownBlock) (HV4 : Boxed w4 (w.heap.size + 1) 23 (.slice Av m cv)) (HB6 : Blk ((((w4.setCell ⟨w.heap.size + 1, 0, none⟩ (.slice (some ⟨g4, 0, none⟩) (m + 1) cap4)).setCell ⟨w.heap.size, 0, none⟩ (.int .i64 0)).setCell ⟨w.heap.size, 1, none⟩ (.int .u64 0)).setCell ⟨w.heap.size, 2, none⟩ (.int .i64 0)) w.heap.size 39 #[.int .i64 0, .int .u64 0, .int .i64 0]) :
    KeepsFrom B0 W ((((w4.setCell ⟨w.heap.size + 1, 0, none⟩ (.slice (some ⟨g4, 0, none⟩) (m + 1) cap4)).setCell ⟨w.heap.size, 0, none⟩ (.int .i64 0)).setCell ⟨w.heap.size, 1, none⟩ (.int .u64 0)).setCell ⟨w.heap.size, 2, none⟩ (.int .i64 0)) ∧ Turn (fun k => k = w.heap.size ∨ k = w.heap.size + 1 ∨ w.heap.size + 3 ≤ k) W ((((w4.setCell ⟨w.heap.size + 1, 0, none⟩ (.slice (some ⟨g4, 0, none⟩) (m + 1) cap4)).setCell ⟨w.heap.size, 0, none⟩ (.int .i64 0)).setCell ⟨w.heap.size, 1, none⟩ (.int .u64 0)).setCell ⟨w.heap.size, 2, none⟩ (.int .i64 0)) ∧ WI w b T (pre ++ [x]) ((((w4.setCell ⟨w.heap.size + 1, 0, none⟩ (.slice (some ⟨g4, 0, none⟩) (m + 1) cap4)).setCell ⟨w.heap.size, 0, none⟩ (.int .i64 0)).setCell ⟨w.heap.size, 1, none⟩ (.int .u64 0)).setCell ⟨w.heap.size, 2, none⟩ (.int .i64 0)) := by
  have hW3 := hW2.alloc (.cells [Value.int .i64 0, .int .i64 0, .int .i64 r.len, .slice A2 r.ps.length c2, .int .i64 q.row, .int .u64 q.st, .int .i64 q.len].toArray 41)
  have hR3 := World.ownsRow.ext HROW hW3
  have hT : Turn (fun k => k = w.heap.size ∨ k = w.heap.size + 1 ∨ w.heap.size + 3 ≤ k) W ((((w4.setCell ⟨w.heap.size + 1, 0, none⟩ (.slice (some ⟨g4, 0, none⟩) (m + 1) cap4)).setCell ⟨w.heap.size, 0, none⟩ (.int .i64 0)).setCell ⟨w.heap.size, 1, none⟩ (.int .u64 0)).setCell ⟨w.heap.size, 2, none⟩ (.int .i64 0)) := ((Turn.of hW3).trans (turn_row hR3 HG4 (fun k hk => .inr (.inr hk)))).trans ((Turn.set_ (a := ⟨w.heap.size + 1, 0, none⟩) (.inr (.inl rfl)) (.slice (some ⟨g4, 0, none⟩) (m + 1) cap4)).trans ((Turn.set_ (a := ⟨w.heap.size, 0, none⟩) (.inl rfl) (.int .i64 0)).trans ((Turn.set_ (a := ⟨w.heap.size, 1, none⟩) (.inl rfl) (.int .u64 0)).trans (Turn.set_ (a := ⟨w.heap.size, 2, none⟩) (.inl rfl) (.int .i64 0)))))
  refine ⟨(((keeps_ext hW3).trans (keeps_row hR3 HG4)).trans ((KeepsOthers.setCell _ _ _).trans ((KeepsOthers.setCell _ _ _).trans ((KeepsOthers.setCell _ _ _).trans (KeepsOthers.setCell _ _ _))))).from _, hT, ⟨⟨⟨.slice (some ⟨g4, 0, none⟩) (m + 1) cap4, xs ++ [Value.int .i64 0, .int .i64 0, .int .i64 r.len, .slice A2 r.ps.length c2, .int .i64 q.row, .int .u64 q.st, .int .i64 q.len], ?_, ?_, ?_⟩, ?_⟩, hT.ext HE (fun k hk => by omega)⟩⟩
  · have h0 : w.heap.size + 1 ≠ w.heap.size := by omega
    exact Blk.far (Blk.far (Blk.far (Boxed.set (.slice (some ⟨g4, 0, none⟩) (m + 1) cap4) HV4) (p := ⟨w.heap.size, 0, none⟩) h0 _) (p := ⟨w.heap.size, 1, none⟩) h0 _) (p := ⟨w.heap.size, 2, none⟩) h0 _
  · rw [List.length_append, ← HM]
    exact own_set (own_set (own_set (own_set HOWN4 (by omega)) (by omega)) (by omega)) (by omega)
  · rw [List.map_append, List.map_singleton, wholeB_snoc, ← HRR]
    have hl : ∀ v ps, PsN (w2.alloc (.cells [Value.int .i64 0, .int .i64 0, .int .i64 r.len, .slice A2 r.ps.length c2, .int .i64 q.row, .int .u64 q.st, .int .i64 q.len].toArray 41)) (w.heap.size + 3) (w.heap.size + 3) v ps → PsN ((((w4.setCell ⟨w.heap.size + 1, 0, none⟩ (.slice (some ⟨g4, 0, none⟩) (m + 1) cap4)).setCell ⟨w.heap.size, 0, none⟩ (.int .i64 0)).setCell ⟨w.heap.size, 1, none⟩ (.int .u64 0)).setCell ⟨w.heap.size, 2, none⟩ (.int .i64 0)) (w.heap.size + 3) (w.heap.size + 3) v ps := fun v ps h => ((((h.row hR3 (by decide) HG4).far (p := ⟨w.heap.size + 1, 0, none⟩) (by show w.heap.size + 1 < _; omega) _).far (p := ⟨w.heap.size, 0, none⟩) (by show w.heap.size < _; omega) _).far (p := ⟨w.heap.size, 1, none⟩) (by show w.heap.size < _; omega) _).far (p := ⟨w.heap.size, 2, none⟩) (by show w.heap.size < _; omega) _
    refine LkVP.append (HXS.mono fun v ps h => hl v ps (h.ext hW3)) ?_
    have hq2 : (if (pre.map fun i => T.getD i default) = [] then b else P0) = q := by
      rw [HQ]
      cases pre <;> rfl
    rw [hq2]
    have hnew : PsN w2 (w.heap.size + 3) (w.heap.size + 3) (.slice A2 r.ps.length c2) r.ps := ⟨hP2 _, fun a k c hv => by injection hv with e1; exact Nat.le_trans hWs (hN2 a e1)⟩
    exact ⟨⟨rfl, rfl, rfl, hl _ _ (hnew.ext ((Ext.refl w2).alloc _)), rfl, rfl, rfl⟩, trivial⟩
  · rw [if_neg (by simp)]
    exact HB6
set_option maxRecDepth 100000 in
set_option maxHeartbeats 2000000 in
theorem whole_any {w : World} {A : Option Addr} {n c : Nat} {T : List Rf} (h : RfRd w A n T) (hn : n ≤ 100000) (hf : Few T) (b : Pc) :
    Calls Try.prog 16 #[.slice A n c, .agg #[.int .i64 b.row, .int .u64 b.st, .int .i64 b.len]] w fun e w' => ∃ A' c', e = .returned (.slice A' n c') ∧ LkOw w' w.heap.size A' n c' (wholeB b T.reverse) ∧ Ext w w' := by
  obtain ⟨vb, hvb⟩ : ∃ vb : Nat → Value, ∀ i, PsV w (vb i) (T.getD i default).ps ∧ (i < n → ∃ g o, A = some ⟨g, o, none⟩ ∧ w.cell? ⟨g, o + i * 2, none⟩ = some (.int .i64 (T.getD i default).len) ∧ w.cell? ⟨g, o + i * 2 + 1, none⟩ = some (vb i)) := by
    have hx : ∀ i, ∃ v, PsV w v (T.getD i default).ps ∧ (i < n → ∃ g o, A = some ⟨g, o, none⟩ ∧ w.cell? ⟨g, o + i * 2, none⟩ = some (.int .i64 (T.getD i default).len) ∧ w.cell? ⟨g, o + i * 2 + 1, none⟩ = some v) := fun i => by
      rcases Nat.lt_or_ge i n with hi | hi
      · obtain ⟨g, o, v, hA, c0, c1, hv⟩ := h.at_ i hi
        exact ⟨v, hv, fun _ => ⟨g, o, hA, c0, c1⟩⟩
      · have e : T.getD i default = default := by rw [List.getD_eq_getElem?_getD, List.getElem?_eq_none (by rw [h.1]; exact hi)]; rfl
        rw [e]
        exact ⟨.slice none 0 0, ⟨none, 0, rfl, ⟨rfl, Rd.nil _ _⟩, Nat.le_refl _, fun _ => rfl⟩, fun h => by omega⟩
    exact ⟨fun i => Classical.choose (hx i), fun i => Classical.choose_spec (hx i)⟩
  obtain ⟨va, hva⟩ : ∃ va : Nat → Value, va = fun i => .int .i64 (T.getD i default).len := ⟨_, rfl⟩
  have HVA := Lib.hid hva
  have HVB := Lib.hid hvb
  have HF := Lib.hid hf
  have HTL := Lib.hid h.1
  clear hvb hva hf h
  refine (callsIn_wide (n := 4)).1 ?_
  refine callsIn_of_wp_marks Try.func16 rfl trivial ?_ rfl
  simp only [Try.ntmps16, List.size_toArray, List.length_cons, List.length_nil, Nat.reduceAdd, Nat.reduceSub, Array.replicate_succ, Array.replicate_zero, List.push_toArray, List.append_toArray, List.nil_append, List.cons_append]
  have b3 := Blk.new w 39 #[.int .i64 b.row, .int .u64 b.st, .int .i64 b.len]
  have b4 := Boxed.new (w.alloc (.cells #[.int .i64 b.row, .int .u64 b.st, .int .i64 b.len] 39)) 23 (.slice none 0 0)
  rw [World.size_alloc] at b4
  gi_wp2_with (refine ⟨trivial, ?_⟩; gi_at_call 35; refine (callsIn_wide.2 (backward_any _ _ _)).mono ?_; rintro e w1 ⟨rfl, rfl⟩)
  obtain ⟨WL, hWL⟩ : ∃ WL, WL = (((w.alloc (.cells #[.int .i64 b.row, .int .u64 b.st, .int .i64 b.len] 39)).alloc (.cells #[.slice none 0 0] 23)).alloc (.cells #[.slice A n c] 22)) := ⟨_, rfl⟩
  have hsz : WL.heap.size = w.heap.size + 3 := by rw [hWL]; simp
  have hEL : Ext w WL := by rw [hWL]; exact (((Ext.refl w).alloc _).alloc _).alloc _
  have hbx : WL.cell? ⟨w.heap.size + 1 + 1, 0, none⟩ = some (.slice A n c) := by
    have := (Blk.new ((w.alloc (.cells #[.int .i64 b.row, .int .u64 b.st, .int .i64 b.len] 39)).alloc (.cells #[.slice none 0 0] 23)) 22 #[.slice A n c]).cell 0
    rw [World.size_alloc, World.size_alloc, ← hWL] at this
    exact this
  have hB3 : Blk WL w.heap.size 39 (pcc b).toArray := by rw [hWL]; exact (b3.alloc _).alloc _
  have hB4 : Boxed WL (w.heap.size + 1) 23 (.slice none 0 0) := by rw [hWL]; exact b4.alloc _
  rw [← hWL]
  clear b3 b4 hWL
  have hgo : ∀ g o, A = some ⟨g, o, none⟩ → 0 < n → g < w.heap.size := fun g o e h0 => by
    obtain ⟨g', o', e', c0, _⟩ := (HVB.out 0).2 h0
    rw [e] at e'
    injection e' with e'; injection e' with e1 e2
    subst e1
    exact block_lt_of_cell c0
  refine wpIn_rangeFunc_ownH (w := WL) rfl (by omega) (gf := 50) (lb := #[.pointer (some ⟨w.heap.size + 1 + 1, 0, none⟩)]) rfl trivial (enters_of Try.func50 (by kernel_rfl) rfl)
    (back_stops 3 (by omega) (w.heap.size + 1 + 1) n (fun k => k = w.heap.size ∨ k = w.heap.size + 1 ∨ w.heap.size + 3 ≤ k) WL A c va vb (by omega) (fun i hi => by
      obtain ⟨g, o, e, c0, c1⟩ := (HVB.out i).2 hi
      exact ⟨g, o, e, by rw [HVA.out]; exact hEL.cellv c0, hEL.cellv c1⟩) hbx WL (Turn.refl _) (by omega) (fun h0 g o e => ?far))
    (fun h k => h.trans k) (fun W l _ o' hl _ _ _ => turn_put W l o' (.inr (.inr (by omega)))) (Below.refl _ _) (fun _ => rfl)
    (WI w b T) (fun _ _ _ => False) (wi_own w b T _ (by omega)) (fun c => fun s W W' row hs hg hr => hs) ?start
    (fun x a' W => ∃ k, a' = { tmps := #[.slice A n c, .agg #[.int .i64 b.row, .int .u64 b.st, .int .i64 b.len], undef, .pointer (some ⟨w.heap.size, 0, none⟩), .pointer (some ⟨w.heap.size + 1, 0, none⟩), undef, .pointer (some ⟨k, 0, none⟩), .slice A n c, .func (.func 50) #[] #[.pointer (some ⟨w.heap.size + 1 + 1, 0, none⟩)], .int .i64 x, .agg #[va x, vb x], undef, undef, undef, undef, undef, undef, undef, undef, undef], defers := [] } ∧ Blk W k 36 #[va x, vb x]) ?ax ?assign ?body ?done ?stop
  case far =>
    have := hgo g o e h0
    omega
  case start => exact ⟨⟨⟨_, [], hB4, World.ownsRow_nil _ _ _ _, trivial⟩, hB3⟩, hEL⟩
  case ax =>
    rintro x a' s X Y row ⟨k, h1, h2⟩ hg hrow
    exact ⟨k, h1, blk_own k 36 (fun _ : Unit => #[va x, vb x]) s X Y row h2 hg (fun r e => (hrow r e).2)⟩
  case assign =>
    intro l pre x W K hI hK
    obtain ⟨B, cB, hvx, _⟩ := (HVB.out x).1
    have hax : va x = .int .i64 (T.getD x default).len := by rw [HVA.out]
    generalize T.getD x default = r at *
    have HX := Lib.hid (And.intro hax hvx)
    have HK := Lib.hid hK
    have HI := Lib.hid hI
    clear hK hI
    unfold encR
    rw [hax, hvx]
    clear hax hvx
    have hb := Blk.new W 36 #[.int .i64 r.len, .slice B r.ps.length cB]
    gi_wp2
    refine HK.out _ _ ((KeepsOthers.alloc _ _).from _) (Turn.of ((Ext.refl W).alloc _)) ((wi_own w b T WL.heap.size (by omega)).alloc _ HI.out) ⟨W.heap.size, ?_, ?_⟩
    · rw [HX.out.1, HX.out.2]
    · rw [HX.out.1, HX.out.2]; exact hb
  case body =>
    rintro l pre x a' W hl hr ⟨⟨⟨v, xs, hv, hrow, hxs⟩, hB⟩, hE⟩ ⟨k, rfl, hk⟩ hlt
    obtain ⟨Av, cv, rfl⟩ := own_val hrow
    obtain ⟨B, cB, hvx, hpr, hpc, hpn⟩ := (HVB.out x).1
    have hax : va x = .int .i64 (T.getD x default).len := by rw [HVA.out]
    have hfx : (T.getD x default).ps.length ≤ 1048576 := HF.out.at_ x
    obtain ⟨r, hrr⟩ : ∃ r, r = T.getD x default := ⟨_, rfl⟩
    rw [← hrr] at hax hvx hpr hpc hfx
    rw [hax, hvx] at hk ⊢
    obtain ⟨q, hq⟩ : ∃ q : Pc, q = (if pre = [] then b else P0) := ⟨_, rfl⟩
    rw [← hq] at hB
    have HRR := Lib.hid hrr
    have HQ := Lib.hid hq
    clear hrr hq
    have y4 := hv.cell
    have y60 := hk.cell 0
    have y61 := hk.cell 1
    simp only [List.getElem?_toArray, List.getElem?_cons_succ, List.getElem?_cons_zero] at y60 y61
    have y30 : W.cell? ⟨w.heap.size, 0, none⟩ = some (.int .i64 q.row) := hB.cell 0
    have y31 : W.cell? ⟨w.heap.size, 1, none⟩ = some (.int .u64 q.st) := hB.cell 1
    have y32 : W.cell? ⟨w.heap.size, 2, none⟩ = some (.int .i64 q.len) := hB.cell 2
    have HO := Lib.hid (own_new (w := W.drew) r (B := B) (c := cB) ⟨B, cB, rfl, hpr.ext hE.drew, hpc, hpn⟩ hfx)
    have hEW : Ext W W.drew := (Ext.refl W).drew
    obtain ⟨i0, hi0, hz0, hz1, hz2⟩ := info_parts infoLk
    obtain ⟨m, hm⟩ : ∃ m, m = pre.length := ⟨_, rfl⟩
    rw [← hm] at hrow hlt y4 hv
    have HM := Lib.hid hm
    have HI0 := Lib.hid hi0
    clear hm hi0
    have HV := Lib.hid hv
    have HB := Lib.hid hB
    have HROW := Lib.hid hrow
    have HXS := Lib.hid hxs
    have HE := Lib.hid hE
    have HHK := Lib.hid hk
    clear hB hrow hxs hE hk hpr hv
    have hWs : w.heap.size + 3 ≤ W.heap.size := by obtain ⟨r0, hr0⟩ := hr; have := (Array.getElem?_eq_some_iff.1 hr0).1; omega
    gi_wp2
    have mixed : Try.prog.follows .mixedOrders = true := by kernel_rfl
    gi_region_with_o (first
      | (refine ⟨trivial, ?_⟩; gi_at_call 32; refine (CallsIn.inRound l (callsIn_wide.2 HO.out)).mono ?_; rintro e w2 ⟨A2, c2, rfl, hP2, hN2, hE2⟩
         have hW2 := hEW.trans hE2
         have hW3 := hW2.alloc (.cells [Value.int .i64 0, .int .i64 0, .int .i64 r.len, .slice A2 r.ps.length c2, .int .i64 q.row, .int .u64 q.st, .int .i64 q.len].toArray 41)
         have z4 := hW2.cellv y4
         have z30 := hW2.cellv y30
         have z31 := hW2.cellv y31
         have z32 := hW2.cellv y32
         have v4 := hW3.cellv y4
         obtain ⟨g4, cap4, w4, hap, hown4, hg4, _, hlt4⟩ := run_append_lies (P := Try.prog) (w2.alloc (.cells [Value.int .i64 0, .int .i64 0, .int .i64 r.len, .slice A2 r.ps.length c2, .int .i64 q.row, .int .u64 q.st, .int .i64 q.len].toArray 41)) 23 23 (w.heap.size + 3) 41 i0 _ 7 72 Try.underlying23 HI0.out hz0 hz1 hz2 rfl (by decide) (.slice Av m cv) m xs (World.ownsRow.ext HROW.out hW3) ⟨w2.heap.size, 0, none⟩ 1 1 [Value.int .i64 0, .int .i64 0, .int .i64 r.len, .slice A2 r.ps.length c2, .int .i64 q.row, .int .u64 q.st, .int .i64 q.len] rfl (World.news_of_block (heap_alloc_new w2 _)) (lkc_one ⟨0, 0, r, q⟩ _ rfl) (by omega) (by unfold maxLen; omega) (by omega) (by have h2 := hW3.size; omega) _ rfl
         have hv4 := (boxed_ext HV.out hW3).kept hg4 ((boxed_ext HV.out hW3).not_row (by decide) (World.ownsRow.ext HROW.out hW3))
         have u4 := hv4.cell
         have f4 := hv4.frozen
         have HV4 := Lib.hid hv4
         have HOWN4 := Lib.hid hown4
         have HG4 := Lib.hid hg4
         have hB5 : Blk (w4.setCell ⟨w.heap.size + 1, 0, none⟩ (.slice (some ⟨g4, 0, none⟩) (m + 1) cap4)) w.heap.size 39 #[.int .i64 q.row, .int .u64 q.st, .int .i64 q.len] := Blk.far (Blk.grown (HB.out.ext hW3) hg4 (blk_not_row (HB.out.ext hW3) (by decide) (World.ownsRow.ext HROW.out hW3))) (p := ⟨w.heap.size + 1, 0, none⟩) (by simp) _
         obtain ⟨s0, s1, s2, s3, s4, s5, hB6⟩ := st39 (v0 := .int .i64 0) (v1 := .int .u64 0) (v2 := .int .i64 0) hB5
         have HB6 := Lib.hid hB6
         have HB5 := Lib.hid hB5
         clear hv4 hown4 hg4 hB5 hB6))
    all_goals (
      gi_wp2
      exact whole_round WL.heap.size HM.out HQ.out HRR.out hWs HE.out hW2 HROW.out HXS.out hP2 hN2 HOWN4.out HG4.out HV4.out HB6.out)
  case done =>
    rintro D ys W hD rfl ⟨⟨⟨v, xs, hv, hrow, hxs⟩, _⟩, hE⟩ hK
    obtain ⟨Av, cv, rfl⟩ := own_val hrow
    rw [backT_len] at hrow hv
    have hwl : (backT n).map (fun i => T.getD i default) = T.reverse := by
      unfold backT
      rw [List.map_reverse, ← HTL.out]
      congr 1
      refine List.ext_getElem (by simp) (fun i h1 h2 => ?_)
      simp only [List.length_map, List.length_range] at h1
      simp [List.getElem?_eq_getElem h1]
    rw [hwl] at hxs
    have hc := hv.cell
    have hf := hv.frozen
    have HROW := Lib.hid hrow
    have HXS := Lib.hid hxs
    have HV := Lib.hid hv
    have HE := Lib.hid hE
    clear hrow hxs hv hE hwl
    gi_wp2
    have hK2 : (W.setCell ⟨w.heap.size + 1, 0, none⟩ (.slice Av n cv)).heap[D]? = some (.deferred (some [])) := (KeepsOthers.setCell _ _ _).same D _ hK rfl
    have hbx1 := HV.out.set (.slice Av n cv)
    have hne : some (w.heap.size + 1) ≠ some D := by intro e; injection e with e; omega
    have hbx2 := (hbx1.kept (grownBy_putObj' _ D (.deferred none)) hne).cell
    have hfx2 := (hbx1.kept (grownBy_putObj' _ D (.deferred none)) hne).frozen
    refine ⟨by simp, .inl ⟨_, _, rfl, run_takeDeferred hK2, ?_⟩⟩
    refine ⟨.slice Av n cv, ?_, Av, cv, rfl, ⟨?_, xs, ?_, ?_⟩, ?_⟩
    · rw [results_cell1 rfl]
      go_simp
    · rw [wholeB_len, List.length_reverse, HTL.out]
    · exact own_mono (ownsRow_putObj (own_set HROW.out (by omega)) _ hK2 rfl) (by omega)
    · refine HXS.out.mono fun v ps h => ?_
      have h2 := h.far (p := ⟨w.heap.size + 1, 0, none⟩) (by show w.heap.size + 1 < _; omega) (.slice Av n cv)
      exact PsN.any (base := w.heap.size + 3) ⟨psb_kept h2.1 (grownBy_putObj' _ D _) (fun r e => by cases e; exact ⟨_, hK2, rfl⟩), h2.2⟩ _
    · exact (Below.setCell HE.out (p := ⟨w.heap.size + 1, 0, none⟩) (Nat.le_succ _) _).trans (belowK_b (w := w) (Nat.le_refl _) _ D _ _ (by omega) hK2 rfl rfl)
  case stop => rintro D cc pre W hD hpf h; exact h.elim
