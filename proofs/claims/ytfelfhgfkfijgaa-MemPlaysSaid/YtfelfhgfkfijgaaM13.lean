import Derived.Test.YtfelfhgfkfijgaaM12
import Derived.Maps.AppendAt
namespace Go.Proofs.Ytfelfhgfkfijgaa
open Go.RowKit Go.Nb Go.Shelf
attribute [local go_sem] Oper.semAt_some
theorem results_cell1 {fn : Func} {p : Tmp} {ty : TypeId} (h : fn.results = #[.cell p ty]) (tmps : Array Value) (P : Program) (w : World) :
    (results fn tmps).run P w = ((asAddr (tmps.getD p undef)).run P w).andThen fun a w₁ => (loadVar ty a).run P w₁ := by
  simp only [results, h]
  simp [Sem.run_bind, Result.andThen]
theorem own_val {w : World} {base : Nat} {e : TypeId} {size n : Nat} {v : Value} {xs : List Value} (h : w.ownsRow base e size v n xs) : ∃ A c, v = .slice A n c := by
  rcases h.2 with ⟨h1, h2⟩ | ⟨g, cap, cur, hv, _⟩
  · subst h2; exact ⟨none, 0, h1⟩
  · exact ⟨_, _, hv⟩
theorem fn_not_nil (lb : Array Value) (w : World) : (binOp .eql 51 (.func (.func 28) #[] lb) .nilFunc).run Try.prog w = .ok (.bool false) w := by kernel_rfl
set_option maxRecDepth 100000 in
set_option maxHeartbeats 2000000 in
/-- What an iterator tells is collected. -/
theorem collect_any {w : World} {T : List Pr} {lb : Array Value} {n₀ : Nat} (hn₀ : n₀ ≤ w.heap.size) (hT : T.length ≤ 60000)
    (hs : ∀ w', Ext w w' → SeqStopsK Fence.wide 3 Try.prog 28 lb encsP (Below n₀) (fun ys => ys = T) (fun pre => pre <+: T) T.length w') :
    Calls Try.prog 19 #[.func (.func 28) #[] lb] w fun e w' => ∃ A c, e = .returned (.slice A T.length c) ∧ PRd w' A T.length T ∧ Ext w w' := by
  refine (callsIn_wide (n := 4)).1 ?_
  obtain ⟨i0, hi0, hz0, hz1, hz2⟩ := info_parts infoPr
  have hfn := fn_not_nil lb
  refine callsIn_of_wp_marks Try.func19 rfl trivial ?_ rfl
  simp only [Try.ntmps19, List.size_toArray, List.length_cons, List.length_nil, Nat.reduceAdd, Nat.reduceSub, Array.replicate_succ, Array.replicate_zero, List.push_toArray, List.append_toArray, List.nil_append, List.cons_append]
  gi_wp2
  have bR := Boxed.new w 22 (.slice none 0 0)
  have bL := Boxed.new (w.alloc (.cells #[.slice none 0 0] 22)) 22 (.slice none 0 0)
  rw [World.size_alloc] at bL
  have hB0 : Below w.heap.size w ((w.alloc (.cells #[.slice none 0 0] 22)).alloc (.cells #[.slice none 0 0] 22)) := ((Below.refl _ w).alloc (Nat.le_refl _) _).alloc (by simp) _
  refine wpIn_rangeFunc_ownG rfl (by omega) (gf := 28) (lb := lb) rfl trivial (enters_of Try.func28 (by kernel_rfl) rfl)
    (hs _ hB0) belowK_t (belowK_b (by simp; omega)) (Below.refl _ _) (fun _ => rfl)
    (fun pre W => ((∃ v, Boxed W (w.heap.size + 1) 22 v ∧ W.ownsRow w.heap.size 30 2 v pre.length (prCs pre pre.length) ∧ True) ∧ Boxed W w.heap.size 22 (.slice none 0 0)) ∧ Below w.heap.size w W)
    (fun _ _ _ => False)
    (OwnFrom.and (OwnFrom.and (Own.from (holdsRow_own w.heap.size (w.heap.size + 1) 22 30 2 (fun pre => pre.length) (fun pre => prCs pre pre.length) (fun _ _ => True)) _) (Own.from (boxed_own _ _ _) _)) (ownFrom_below (Nat.le_refl _) (by simp; omega)))
    (fun _ _ _ _ _ hs _ _ => hs)
    ⟨⟨⟨_, bL, World.ownsRow_nil _ _ _ _, trivial⟩, bR.alloc _⟩, hB0⟩
    (fun x => { tmps := #[.func (.func 28) #[] lb, undef, .pointer (some ⟨w.heap.size, 0, none⟩), .pointer (some ⟨w.heap.size + 1, 0, none⟩), .string (Bt x.k), .string (Bt x.v), .func (.func 28) #[] lb, .bool false, undef, .func (.func 28) #[] lb, .string (Bt x.k), .string (Bt x.v), undef, undef, undef, undef, undef, undef, undef, undef, undef, undef, undef], defers := [] }) ?assign ?body ?done ?stop
  case assign =>
    intro l x W K hK
    gi_wp2
    exact hK
  case body =>
    rintro l pre x W ⟨⟨⟨v, hv, hrow, _⟩, hR⟩, hB⟩ hlt
    have hc := hv.cell
    have hcs : prCs (pre ++ [x]) (pre ++ [x]).length = prCs pre pre.length ++ [.string (Bt x.k), .string (Bt x.v)] := by
      rw [show (pre ++ [x]).length = pre.length + 1 from List.length_append]; exact prCs_snoc pre x
    have HCS := Lib.hid hcs
    clear hcs
    have f1 : decide ((65536 : Int) < (pre.length : Int) + 1) = false := by rw [decide_eq_false_iff_not]; omega
    have f2 : decide ((65536 : Int) ≤ (pre.length : Int)) = false := by rw [decide_eq_false_iff_not]; omega
    have f3 : decide (65536 ≤ pre.length) = false := by rw [decide_eq_false_iff_not]; omega
    have f4 : ¬ (65536 ≤ pre.length) := by omega
    have hnews := World.news_of_block (heap_alloc_new W (.cells #[.string (Bt x.k), .string (Bt x.v)] 30))
    have hb1 : pre.length + 1 ≤ maxLen := by unfold maxLen; omega
    have hb2 : (pre.length + 1) * 32 ≤ 140737488355328 := by omega
    have hb3 : w.heap.size ≤ (W.alloc (.cells #[.string (Bt x.k), .string (Bt x.v)] 30)).heap.size := by have := hB.size; simp; omega
    have HN := Lib.hid hnews
    clear hnews
    gi_wp2_with (gi_at_builtin; refine wpListIn_append_own _ rfl _ _ 22 rfl w.heap.size 30 i0 (.agg #[.string ⟨#[]⟩, .string ⟨#[]⟩]) 2 32 Try.underlying22 hi0 hz0 hz1 hz2 rfl (by decide) v pre.length (prCs pre pre.length) rfl (hrow.alloc _) ⟨W.heap.size, 0, none⟩ 1 1 [.string (Bt x.k), .string (Bt x.v)] rfl rfl HN.out (two_str _ _) hb1 hb2 hb3 ?_; intro v' w1 hown' hgrow _; obtain ⟨g', cap', rfl⟩ := ownsRow_succ hown'; obtain ⟨hv1, hv2, hr2, hk2, hb2'⟩ := hv.appended (by decide) hrow hB.size (by omega) hown' hgrow; have hc1 := hv1.cell; have hf1 := hv1.frozen; have hc2 := hv2.cell; have HRB := Lib.hid (((hR.alloc (.cells #[.string (Bt x.k), .string (Bt x.v)] 30)).kept hgrow (hR.not_row (by decide) hrow)).kept (grownBy_setCell' w1 (w.heap.size + 1) (.slice (some ⟨g', 0, none⟩) (pre.length + 1) cap')) (by simp)); have HV2 := Lib.hid hv2; have HR2 := Lib.hid hr2; have HK2 := Lib.hid hk2; have HB2 := Lib.hid hb2'; clear hv2 hr2 hk2 hb2' hown' hgrow hv1)
    refine ⟨HK2.out.from _, HB2.out.mono hn₀, ⟨⟨_, HV2.out, ?_⟩, HRB.out⟩, hB.trans HB2.out⟩
    have h := prCs_snoc pre x
    rw [show (pre ++ [x]).length = pre.length + 1 from List.length_append, h]
    exact HR2.out
  case done =>
    rintro D ys W hD rfl ⟨⟨⟨v, hv, hrow, _⟩, hR⟩, hB⟩ hK
    obtain ⟨A, c, rfl⟩ := own_val hrow
    have hc := hv.cell
    have hcr := hR.cell
    have hfr := hR.frozen
    have HROW := Lib.hid hrow
    have HRR := Lib.hid hR
    have HB := Lib.hid hB
    clear hrow hB hR hv
    gi_wp2
    have hK2 : (W.setCell ⟨w.heap.size, 0, none⟩ (.slice A ys.length c)).heap[D]? = some (.deferred (some [])) := (KeepsOthers.setCell _ _ _).same D _ hK rfl
    have hbx := HRR.out.set (.slice A ys.length c)
    have hne : some w.heap.size ≠ some D := by
      intro e
      injection e with e
      have h1 : (W.setCell ⟨w.heap.size, 0, none⟩ (.slice A ys.length c)).heap[w.heap.size]? = some (.deferred (some [])) := by have := hK2; rwa [← e] at this
      have h2 : (W.setCell ⟨w.heap.size, 0, none⟩ (.slice A ys.length c)).heap[w.heap.size]? = some (.cells #[.slice A ys.length c] 22 (0, 0)) := hbx
      rw [h1] at h2
      cases h2
    have hbx2 := (hbx.kept (grownBy_putObj' _ D (.deferred none)) hne).cell
    have hfx2 := (hbx.kept (grownBy_putObj' _ D (.deferred none)) hne).frozen
    refine ⟨by simp, .inl ⟨_, _, rfl, run_takeDeferred hK2, ?_⟩⟩
    refine ⟨.slice A ys.length c, ?_, A, c, rfl, ?_, ?_⟩
    · rw [results_cell1 rfl]
      go_simp
    · have h1 := HROW.out.kept (grownBy_setCell' W w.heap.size (.slice A ys.length c)) (.inr (fun e => HRR.out.not_row (by decide) HROW.out e.symm))
      exact World.ownsRow.prd rfl (ownsRow_putObj h1 _ hK2 rfl)
    · exact (Below.setCell HB.out (p := ⟨w.heap.size, 0, none⟩) (Nat.le_refl _) _).trans (belowK_b (w := w) (Nat.le_refl _) _ D _ _ (by simp at hD; omega) hK2 rfl rfl)
  case stop =>
    rintro D c pre W _ _ h _
    exact h.elim
