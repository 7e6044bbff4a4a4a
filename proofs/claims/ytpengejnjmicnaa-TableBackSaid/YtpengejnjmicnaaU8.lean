import Derived.Test.YtpengejnjmicnaaU7
import Derived.Maps.AppendAt
import Derived.Test.YtpengejnjmicnaaU4
import Derived.Test.YtpengejnjmicnaaU6
section
namespace Go.Proofs.Ytpengejnjmicnaa
open Go.RowKit Go.Nb Go.Shelf
attribute [local go_sem] Oper.semAt_some
theorem own_val {w : World} {base : Nat} {e : TypeId} {size n : Nat} {v : Value} {xs : List Value} (h : w.ownsRow base e size v n xs) : ∃ A c, v = .slice A n c := by
  rcases h.2 with ⟨h1, h2⟩ | ⟨g, cap, cur, hv, _⟩
  · subst h2; exact ⟨none, 0, h1⟩
  · exact ⟨_, _, hv⟩
theorem fn_not_nil (lb : Array Value) (w : World) : (binOp .eql 44 (.func (.func 43) #[] lb) .nilFunc).run Try.prog w = .ok (.bool false) w := by kernel_rfl
set_option maxRecDepth 100000 in
set_option maxHeartbeats 2000000 in
/-- What an iterator tells is collected, at most most. -/
theorem collect_any {w : World} {T : List Pr} {lb : Array Value} {n₀ most : Nat} (hn₀ : n₀ ≤ w.heap.size) (h1m : 1 ≤ most) (hmx : most ≤ 60000)
    (hs : ∀ w', Ext w w' → SeqStopsK Fence.wide 3 Try.prog 43 lb encsP (Below n₀) (fun ys => ys = T) (fun pre => pre <+: T) T.length w') :
    Calls Try.prog 19 #[.func (.func 43) #[] lb, .int .i64 most] w fun e w' => ∃ A c, e = .returned (.slice A (T.take most).length c) ∧ PRd w' A (T.take most).length (T.take most) ∧ Ext w w' := by
  refine (callsIn_wide (n := 4)).1 ?_
  obtain ⟨i0, hi0, hz0, hz1, hz2⟩ := info_parts infoPr
  have hfn := fn_not_nil lb
  have m1 : decide ((most : Int) < 1) = false := by rw [decide_eq_false_iff_not]; omega
  have m2 : ¬ ((most : Int) < 1) := by omega
  refine callsIn_of_wp_marks Try.func19 rfl trivial ?_ rfl
  simp only [Try.ntmps19, List.size_toArray, List.length_cons, List.length_nil, Nat.reduceAdd, Nat.reduceSub, Array.replicate_succ, Array.replicate_zero, List.push_toArray, List.append_toArray, List.nil_append, List.cons_append]
  gi_wp2
  have bM := Boxed.new w 3 (.int .i64 most)
  have bR := Boxed.new (w.alloc (.cells #[.int .i64 most] 3)) 22 (.slice none 0 0)
  have bL := Boxed.new ((w.alloc (.cells #[.int .i64 most] 3)).alloc (.cells #[.slice none 0 0] 22)) 22 (.slice none 0 0)
  rw [World.size_alloc] at bR
  rw [World.size_alloc, World.size_alloc] at bL
  have hB0 : Below w.heap.size w (((w.alloc (.cells #[.int .i64 most] 3)).alloc (.cells #[.slice none 0 0] 22)).alloc (.cells #[.slice none 0 0] 22)) := (((Below.refl _ w).alloc (Nat.le_refl _) _).alloc (by simp) _).alloc (by simp; omega) _
  refine wpIn_rangeFunc_ownG rfl (by omega) (gf := 43) (lb := lb) rfl trivial (enters_of Try.func43 (by kernel_rfl) rfl)
    (hs _ hB0) belowK_t (belowK_b (by simp; omega)) (Below.refl _ _) (fun _ => rfl)
    (fun pre W => (((∃ v, Boxed W (w.heap.size + 1 + 1) 22 v ∧ W.ownsRow w.heap.size 53 2 v pre.length (prCs pre pre.length) ∧ pre.length < most) ∧ Boxed W (w.heap.size + 1) 22 (.slice none 0 0)) ∧ Boxed W w.heap.size 3 (.int .i64 most)) ∧ Below w.heap.size w W)
    (fun c pre W => (∃ v, Boxed W (w.heap.size + 1) 22 v ∧ W.ownsRow w.heap.size 53 2 v pre.length (prCs pre pre.length) ∧ (c = Code.ret ∧ pre.length = most)) ∧ Below w.heap.size w W)
    (OwnFrom.and (OwnFrom.and (OwnFrom.and (Own.from (holdsRow_own w.heap.size (w.heap.size + 1 + 1) 22 53 2 (fun pre => pre.length) (fun pre => prCs pre pre.length) (fun pre _ => pre.length < most)) _) (Own.from (boxed_own _ _ _) _)) (Own.from (boxed_own _ _ _) _)) (ownFrom_below (Nat.le_refl _) (by simp; omega)))
    (fun c => OwnFrom.and (Own.from (holdsRow_own w.heap.size (w.heap.size + 1) 22 53 2 (fun pre => pre.length) (fun pre => prCs pre pre.length) (fun pre _ => c = Code.ret ∧ pre.length = most)) _) (ownFrom_below (Nat.le_refl _) (by simp; omega)))
    ⟨⟨⟨⟨_, bL, World.ownsRow_nil _ _ _ _, by simp; omega⟩, bR.alloc _⟩, (bM.alloc _).alloc _⟩, hB0⟩
    (fun x => { tmps := #[.func (.func 43) #[] lb, .int .i64 most, undef, .pointer (some ⟨w.heap.size, 0, none⟩), .pointer (some ⟨w.heap.size + 1, 0, none⟩), .pointer (some ⟨w.heap.size + 1 + 1, 0, none⟩), .string (Bt x.k), .string (Bt x.v), .int .i64 most, .bool false, .bool false, .func (.func 43) #[] lb, .bool false, .bool false, undef, .func (.func 43) #[] lb, .string (Bt x.k), .string (Bt x.v), undef, undef, undef, undef, undef, undef, undef, undef, undef, undef, undef, undef], defers := [] }) ?assign ?body ?done ?stop
  case assign =>
    intro l x W K hK
    gi_wp2
    exact hK
  case body =>
    rintro l pre x W ⟨⟨⟨⟨v, hv, hrow, hpm⟩, hR⟩, hM⟩, hB⟩ hlt
    have hc := hv.cell
    have hcm := hM.cell
    have hcs : prCs (pre ++ [x]) (pre ++ [x]).length = prCs pre pre.length ++ [.string (Bt x.k), .string (Bt x.v)] := by
      rw [show (pre ++ [x]).length = pre.length + 1 from List.length_append]; exact prCs_snoc pre x
    have HCS := Lib.hid hcs
    clear hcs
    have hnews := World.news_of_block (heap_alloc_new W (.cells #[.string (Bt x.k), .string (Bt x.v)] 53))
    have hb1 : pre.length + 1 ≤ maxLen := by unfold maxLen; omega
    have hb2 : (pre.length + 1) * 32 ≤ 140737488355328 := by omega
    have hb3 : w.heap.size ≤ (W.alloc (.cells #[.string (Bt x.k), .string (Bt x.v)] 53)).heap.size := by have := hB.size; simp; omega
    have HN := Lib.hid hnews
    clear hnews
    by_cases hla : pre.length + 1 = most
    · have t1 : decide ((most : Int) ≤ (pre.length : Int) + 1) = true := by rw [decide_eq_true_iff]; omega
      have t2 : decide (most ≤ pre.length + 1) = true := by rw [decide_eq_true_iff]; omega
      have t3 : (most : Int) ≤ (pre.length : Int) + 1 := by omega
      have t4 : decide ((most : Int) ≤ ((pre.length + 1 : Nat) : Int)) = true := by rw [decide_eq_true_iff]; omega
      have HLA := Lib.hid hla
      clear hla
      gi_wp2_with (gi_at_builtin; refine wpListIn_append_own _ rfl _ _ 22 rfl w.heap.size 53 i0 (.agg #[.string ⟨#[]⟩, .string ⟨#[]⟩]) 2 32 Try.underlying22 hi0 hz0 hz1 hz2 rfl (by decide) v pre.length (prCs pre pre.length) rfl (hrow.alloc _) ⟨W.heap.size, 0, none⟩ 1 1 [.string (Bt x.k), .string (Bt x.v)] rfl rfl HN.out (two_str _ _) hb1 hb2 hb3 ?_; intro v' w1 hown' hgrow _; obtain ⟨g', cap', rfl⟩ := ownsRow_succ hown'; obtain ⟨hv1, hv2, hr2, hk2, hb2'⟩ := hv.appended (by decide) hrow hB.size (by omega) hown' hgrow; have hc1 := hv1.cell; have hf1 := hv1.frozen; have hc2 := hv2.cell; have HRB := Lib.hid (((hR.alloc (.cells #[.string (Bt x.k), .string (Bt x.v)] 53)).kept hgrow (hR.not_row (by decide) hrow)).kept (grownBy_setCell' w1 (w.heap.size + 1 + 1) (.slice (some ⟨g', 0, none⟩) (pre.length + 1) cap')) (by simp)); have HMB := Lib.hid (((hM.alloc (.cells #[.string (Bt x.k), .string (Bt x.v)] 53)).kept hgrow (hM.not_row (by decide) hrow)).kept (grownBy_setCell' w1 (w.heap.size + 1 + 1) (.slice (some ⟨g', 0, none⟩) (pre.length + 1) cap')) (by simp; omega)); have hcm2 := HMB.out.cell; have hrf := HRB.out.frozen; have hrc := HRB.out.cell; have hr1 := (hR.alloc (.cells #[.string (Bt x.k), .string (Bt x.v)] 53)).kept hgrow (hR.not_row (by decide) hrow); have hr1c := hr1.cell; have hr1f := hr1.frozen; have HV2 := Lib.hid hv2; have HR2 := Lib.hid hr2; have HK2 := Lib.hid hk2; have HB2 := Lib.hid hb2'; clear hv2 hr2 hk2 hb2' hown' hgrow hv1)
      refine ⟨(HK2.out.trans (KeepsOthers.setCell _ _ _)).from _, ⟨_, HRB.out.set _, ?_, rfl, by rw [List.length_append]; exact HLA.out⟩, hB.trans (HB2.out.trans (Below.setCell (Below.refl _ _) (p := ⟨w.heap.size + 1, 0, none⟩) (Nat.le_succ _) _))⟩
      have h := prCs_snoc pre x
      rw [show (pre ++ [x]).length = pre.length + 1 from List.length_append, h]
      exact HR2.out.kept (grownBy_setCell' _ (w.heap.size + 1) _) (.inr (fun e => HRB.out.not_row (by decide) HR2.out e.symm))
    · have t1 : decide ((most : Int) ≤ (pre.length : Int) + 1) = false := by rw [decide_eq_false_iff_not]; omega
      have t2 : decide (most ≤ pre.length + 1) = false := by rw [decide_eq_false_iff_not]; omega
      have t3 : ¬ (most : Int) ≤ (pre.length : Int) + 1 := by omega
      have t4 : decide ((most : Int) ≤ ((pre.length + 1 : Nat) : Int)) = false := by rw [decide_eq_false_iff_not]; omega
      gi_wp2_with (gi_at_builtin; refine wpListIn_append_own _ rfl _ _ 22 rfl w.heap.size 53 i0 (.agg #[.string ⟨#[]⟩, .string ⟨#[]⟩]) 2 32 Try.underlying22 hi0 hz0 hz1 hz2 rfl (by decide) v pre.length (prCs pre pre.length) rfl (hrow.alloc _) ⟨W.heap.size, 0, none⟩ 1 1 [.string (Bt x.k), .string (Bt x.v)] rfl rfl HN.out (two_str _ _) hb1 hb2 hb3 ?_; intro v' w1 hown' hgrow _; obtain ⟨g', cap', rfl⟩ := ownsRow_succ hown'; obtain ⟨hv1, hv2, hr2, hk2, hb2'⟩ := hv.appended (by decide) hrow hB.size (by omega) hown' hgrow; have hc1 := hv1.cell; have hf1 := hv1.frozen; have hc2 := hv2.cell; have HRB := Lib.hid (((hR.alloc (.cells #[.string (Bt x.k), .string (Bt x.v)] 53)).kept hgrow (hR.not_row (by decide) hrow)).kept (grownBy_setCell' w1 (w.heap.size + 1 + 1) (.slice (some ⟨g', 0, none⟩) (pre.length + 1) cap')) (by simp)); have HMB := Lib.hid (((hM.alloc (.cells #[.string (Bt x.k), .string (Bt x.v)] 53)).kept hgrow (hM.not_row (by decide) hrow)).kept (grownBy_setCell' w1 (w.heap.size + 1 + 1) (.slice (some ⟨g', 0, none⟩) (pre.length + 1) cap')) (by simp; omega)); have hcm2 := HMB.out.cell; have hrf := HRB.out.frozen; have hrc := HRB.out.cell; have hr1 := (hR.alloc (.cells #[.string (Bt x.k), .string (Bt x.v)] 53)).kept hgrow (hR.not_row (by decide) hrow); have hr1c := hr1.cell; have hr1f := hr1.frozen; have HV2 := Lib.hid hv2; have HR2 := Lib.hid hr2; have HK2 := Lib.hid hk2; have HB2 := Lib.hid hb2'; clear hv2 hr2 hk2 hb2' hown' hgrow hv1)
      refine ⟨HK2.out.from _, HB2.out.mono hn₀, ⟨⟨⟨_, HV2.out, ?_, by rw [List.length_append]; simp; omega⟩, HRB.out⟩, HMB.out⟩, hB.trans HB2.out⟩
      have h := prCs_snoc pre x
      rw [show (pre ++ [x]).length = pre.length + 1 from List.length_append, h]
      exact HR2.out
  case done =>
    rintro D ys W hD rfl ⟨⟨⟨⟨v, hv, hrow, hpm⟩, hR⟩, _⟩, hB⟩ hK
    obtain ⟨A, c, rfl⟩ := own_val hrow
    have htk : ys.take most = ys := List.take_of_length_le (by omega)
    have HTK := Lib.hid htk
    have hc := hv.cell
    have hcr := hR.cell
    have hfr := hR.frozen
    have HROW := Lib.hid hrow
    have HRR := Lib.hid hR
    have HB := Lib.hid hB
    clear hrow hB hR hv htk
    gi_wp2
    have hK2 : (W.setCell ⟨w.heap.size + 1, 0, none⟩ (.slice A ys.length c)).heap[D]? = some (.deferred (some [])) := (KeepsOthers.setCell _ _ _).same D _ hK rfl
    have hbx := HRR.out.set (.slice A ys.length c)
    have hne : some (w.heap.size + 1) ≠ some D := by
      intro e
      injection e with e
      have h1 : (W.setCell ⟨w.heap.size + 1, 0, none⟩ (.slice A ys.length c)).heap[w.heap.size + 1]? = some (.deferred (some [])) := by have := hK2; rwa [← e] at this
      have h2 : (W.setCell ⟨w.heap.size + 1, 0, none⟩ (.slice A ys.length c)).heap[w.heap.size + 1]? = some (.cells #[.slice A ys.length c] 22 (0, 0)) := hbx
      rw [h1] at h2
      cases h2
    have hbx2 := (hbx.kept (grownBy_putObj' _ D (.deferred none)) hne).cell
    have hfx2 := (hbx.kept (grownBy_putObj' _ D (.deferred none)) hne).frozen
    refine ⟨by simp, .inl ⟨_, _, rfl, run_takeDeferred hK2, ?_⟩⟩
    refine ⟨.slice A ys.length c, ?_, A, c, by rw [HTK.out], ?_, ?_⟩
    · rw [results_cell1 rfl]
      go_simp
    · rw [HTK.out]
      have h1 := HROW.out.kept (grownBy_setCell' W (w.heap.size + 1) (.slice A ys.length c)) (.inr (fun e => HRR.out.not_row (by decide) HROW.out e.symm))
      exact World.ownsRow.prd rfl (ownsRow_putObj h1 _ hK2 rfl)
    · exact (Below.setCell HB.out (p := ⟨w.heap.size + 1, 0, none⟩) (Nat.le_succ _) _).trans (belowK_b (w := w) (Nat.le_refl _) _ D _ _ (by simp at hD; omega) hK2 rfl rfl)
  case stop =>
    rintro D cc pre W hD hpf ⟨⟨v, hv, hrow, rfl, hpm⟩, hB⟩ hK
    obtain ⟨A, c, rfl⟩ := own_val hrow
    have htk : T.take most = pre := by rw [← hpm]; exact (List.prefix_iff_eq_take.1 hpf).symm
    have HTK := Lib.hid htk
    have hne : some (w.heap.size + 1) ≠ some D := by
      intro e
      injection e with e
      have h2 : W.heap[w.heap.size + 1]? = some (.cells #[.slice A pre.length c] 22 (0, 0)) := hv
      rw [e, hK] at h2
      cases h2
    have hbx2 := (hv.kept (grownBy_putObj' _ D (.deferred none)) hne).cell
    have hfx2 := (hv.kept (grownBy_putObj' _ D (.deferred none)) hne).frozen
    have HROW := Lib.hid hrow
    have HB := Lib.hid hB
    clear hrow hB htk hpm
    gi_wp2
    refine ⟨by simp, .inl ⟨_, _, rfl, run_takeDeferred hK, ?_⟩⟩
    refine ⟨.slice A pre.length c, ?_, A, c, by rw [HTK.out], ?_, ?_⟩
    · rw [results_cell1 rfl]
      go_simp
    · rw [HTK.out]
      exact World.ownsRow.prd rfl (ownsRow_putObj HROW.out _ hK rfl)
    · exact HB.out.trans (belowK_b (w := w) (Nat.le_refl _) _ D _ _ (by simp at hD; omega) hK rfl rfl)
end Go.Proofs.Ytpengejnjmicnaa
end
section
namespace Go.Proofs.Ytpengejnjmicnaa
open Go.RowKit Go.Nb Go.Shelf
attribute [local go_sem] Oper.semAt_some
/-- What Get answers of what From tells. -/
def getT (key : Bs) (T : List Pr) : Bs × Bool := match T with
  | [] => ([], false)
  | x :: _ => if x.k = key then (x.v, true) else ([], false)
theorem results_cell2 {fn : Func} {p q : Tmp} {t u : TypeId} (h : fn.results = #[.cell p t, .cell q u]) (tmps : Array Value) (P : Program) (w : World) :
    (results fn tmps).run P w = ((asAddr (tmps.getD p undef)).run P w).andThen fun a w₁ => ((loadVar t a).run P w₁).andThen fun x w₂ => ((asAddr (tmps.getD q undef)).run P w₂).andThen fun b w₃ => ((loadVar u b).run P w₃).andThen fun y w₄ => .ok (.tuple #[x, y]) w₄ := by
  simp only [results, h]
  simp [Sem.run_bind, Result.andThen]
end Go.Proofs.Ytpengejnjmicnaa
end
section
namespace Go.Proofs.Ytpengejnjmicnaa
open Go.RowKit Go.Nb Go.Shelf
attribute [local go_sem] Oper.semAt_some
set_option maxRecDepth 100000 in
set_option maxHeartbeats 2000000 in
theorem get_all {w : World} {q : Option Addr} {key : Bs} {T : List Pr}
    (hs : ∀ W0 w' bm bk, Ext w W0 → Ext W0 w' → W0.cell? ⟨bm, 0, none⟩ = some (.pointer q) → W0.cell? ⟨bk, 0, none⟩ = some (.string (Bt key)) → SeqStopsK Fence.wide 3 Try.prog 43 #[.pointer (some ⟨bm, 0, none⟩), .pointer (some ⟨bk, 0, none⟩)] encsP (Below W0.heap.size) (fun ys => ys = T) (fun pre => pre <+: T) T.length w') :
    Calls Try.prog 21 #[.pointer q, .string (Bt key)] w fun e w' => e = .returned (.tuple #[.string (Bt (getT key T).1), .bool (getT key T).2]) ∧ Ext w w' := by
  refine (callsIn_wide (n := 4)).1 ?_
  refine callsIn_of_wp_marks Try.func21 rfl trivial ?_ rfl
  simp only [Try.ntmps21, List.size_toArray, List.length_cons, List.length_nil, Nat.reduceAdd, Nat.reduceSub, Array.replicate_succ, Array.replicate_zero, List.push_toArray, List.append_toArray, List.nil_append, List.cons_append]
  gi_wp2
  refine ⟨trivial, (callsIn_wide (n := 3)).2 ((from_any q (Bt key) _).mono ?_)⟩
  rintro e w' ⟨rfl, rfl⟩
  gi_wp2
  obtain ⟨W0, hW0⟩ : ∃ W0, W0 = ((((w.alloc (.cells #[.string (Bt key)] 9)).alloc (.cells #[.string ⟨#[]⟩] 9)).alloc (.cells #[.bool false] 4)).alloc (.cells #[.pointer q] 30)).alloc (.cells #[.string (Bt key)] 9) := ⟨_, rfl⟩
  have bK := Boxed.new w 9 (.string (Bt key))
  have bV := Boxed.new (w.alloc (.cells #[.string (Bt key)] 9)) 9 (.string ⟨#[]⟩)
  have bI := Boxed.new ((w.alloc (.cells #[.string (Bt key)] 9)).alloc (.cells #[.string ⟨#[]⟩] 9)) 4 (.bool false)
  have bM := Boxed.new (((w.alloc (.cells #[.string (Bt key)] 9)).alloc (.cells #[.string ⟨#[]⟩] 9)).alloc (.cells #[.bool false] 4)) 30 (.pointer q)
  have bQ := Boxed.new ((((w.alloc (.cells #[.string (Bt key)] 9)).alloc (.cells #[.string ⟨#[]⟩] 9)).alloc (.cells #[.bool false] 4)).alloc (.cells #[.pointer q] 30)) 9 (.string (Bt key))
  replace bK := (((bK.alloc (.cells #[.string ⟨#[]⟩] 9)).alloc (.cells #[.bool false] 4)).alloc (.cells #[.pointer q] 30)).alloc (.cells #[.string (Bt key)] 9)
  replace bV := ((bV.alloc (.cells #[.bool false] 4)).alloc (.cells #[.pointer q] 30)).alloc (.cells #[.string (Bt key)] 9)
  replace bI := (bI.alloc (.cells #[.pointer q] 30)).alloc (.cells #[.string (Bt key)] 9)
  replace bM := bM.alloc (.cells #[.string (Bt key)] 9)
  rw [← hW0] at bK bV bI bM bQ ⊢
  simp only [World.size_alloc] at bK bV bI bM bQ
  have hE0 : Ext w W0 := by rw [hW0]; exact ((((((Ext.refl w).alloc _).alloc _).alloc _).alloc _).alloc _)
  have hsz : W0.heap.size = w.heap.size + 1 + 1 + 1 + 1 + 1 := by rw [hW0]; simp only [World.size_alloc]
  have hB0 : Below w.heap.size w W0 := hE0
  clear hW0
  refine wpIn_rangeFunc_ownG rfl (by omega) (gf := 43) rfl trivial (enters_of Try.func43 (by kernel_rfl) rfl)
    (hs W0 W0 _ _ hE0 (Ext.refl W0) bM.cell bQ.cell) belowK_t (belowK_b (Nat.le_refl _)) (Below.refl _ _) (fun _ => rfl)
    (fun pre W => (((Boxed W w.heap.size 9 (.string (Bt key)) ∧ Boxed W (w.heap.size + 1) 9 (.string ⟨#[]⟩)) ∧ Boxed W (w.heap.size + 1 + 1) 4 (.bool false)) ∧ pre = []) ∧ Below w.heap.size w W)
    (fun c pre W => ((Boxed W (w.heap.size + 1) 9 (.string (Bt (getT key pre).1)) ∧ Boxed W (w.heap.size + 1 + 1) 4 (.bool (getT key pre).2)) ∧ (pre.length = 1 ∧ ((c = Code.ret ∧ True) ∨ (c = Code.exit 0 ∧ getT key pre = ([], false))))) ∧ Below w.heap.size w W)
    (OwnFrom.and (OwnFrom.and (OwnFrom.and (OwnFrom.and (Own.from (boxed_own _ _ _) _) (Own.from (boxed_own _ _ _) _)) (Own.from (boxed_own _ _ _) _)) (fun _ _ _ _ h _ _ => h)) (ownFrom_below (Nat.le_refl _) (by omega)))
    (fun c => OwnFrom.and (OwnFrom.and (OwnFrom.and (Own.from (boxed_own (w.heap.size + 1) 9 (fun pre => .string (Bt (getT key pre).1))) _) (Own.from (boxed_own (w.heap.size + 1 + 1) 4 (fun pre => .bool (getT key pre).2)) _)) (fun _ _ _ _ h _ _ => h)) (ownFrom_below (Nat.le_refl _) (by omega)))
    ⟨⟨⟨⟨bK, bV⟩, bI⟩, rfl⟩, hB0⟩
    (fun x => { tmps := #[.pointer q, .string (Bt key), undef, .pointer (some ⟨w.heap.size, 0, none⟩), .pointer (some ⟨w.heap.size + 1, 0, none⟩), .pointer (some ⟨w.heap.size + 1 + 1, 0, none⟩), .string (Bt x.k), .string (Bt x.v), .pointer q, .string (Bt key), .func (.func 43) #[] #[.pointer (some ⟨w.heap.size + 1 + 1 + 1, 0, none⟩), .pointer (some ⟨w.heap.size + 1 + 1 + 1 + 1, 0, none⟩)], .string (Bt x.k), .string (Bt x.v), undef, undef, undef, undef], defers := [] }) ?assign ?body ?done ?stop
  case assign =>
    intro l x W K hK
    gi_wp2
    exact hK
  case body =>
    rintro l pre x W ⟨⟨⟨⟨bK, bV⟩, bI⟩, rfl⟩, hB⟩ hlt
    have hck := bK.cell
    have hcv := bV.cell
    have hfv := bV.frozen
    have hci := bI.cell
    have hfi := bI.frozen
    have hTB := toList_Bt
    have hgt : getT key ([] ++ [x]) = if x.k = key then (x.v, true) else ([], false) := rfl
    cases hk : x.k == key
    · have hne : ¬ x.k = key := by simpa using hk
      rw [if_neg hne] at hgt
      have HG := Lib.hid hgt
      clear hgt
      gi_wp2
      refine ⟨KeepsFrom.refl _ _, ⟨⟨by rw [HG.out]; exact bV, by rw [HG.out]; exact bI⟩, rfl, .inr ⟨rfl, HG.out⟩⟩, hB⟩
    · have hne : x.k = key := by simpa using hk
      rw [if_pos hne] at hgt
      have HG := Lib.hid hgt
      have HNE := Lib.hid hne
      clear hgt hne
      gi_wp2
      refine ⟨((KeepsOthers.setCell _ _ _).trans (KeepsOthers.setCell _ _ _)).from _, ⟨⟨by rw [HG.out]; exact (bV.set _).other (by omega) _, by rw [HG.out]; exact (bI.other (by omega) _).set _⟩, rfl, .inl ⟨rfl, trivial⟩⟩, hB.trans (Below.setCell (Below.setCell (Below.refl _ _) (p := ⟨w.heap.size + 1, 0, none⟩) (Nat.le_succ _) _) (p := ⟨w.heap.size + 1 + 1, 0, none⟩) (by simp; omega) _)⟩
  case done =>
    rintro D ys W hD hT ⟨⟨⟨⟨bK, bV⟩, bI⟩, rfl⟩, hB⟩ hK
    have hcv := bV.cell
    have hfv := bV.frozen
    have hci := bI.cell
    have hfi := bI.frozen
    have HT := Lib.hid hT
    clear hT
    gi_wp2
    have b1 := (bV.set (.string ⟨#[]⟩)).other (B' := w.heap.size + 1 + 1) (by omega) (.bool false)
    have b2 := (bI.other (B' := w.heap.size + 1) (by omega) (.string ⟨#[]⟩)).set (.bool false)
    have hK2 := (KeepsOthers.setCell (W.setCell ⟨w.heap.size + 1, 0, none⟩ (.string ⟨#[]⟩)) ⟨w.heap.size + 1 + 1, 0, none⟩ (.bool false)).same D _ ((KeepsOthers.setCell W ⟨w.heap.size + 1, 0, none⟩ (.string ⟨#[]⟩)).same D _ hK rfl) rfl
    generalize hW2 : (W.setCell ⟨w.heap.size + 1, 0, none⟩ (.string ⟨#[]⟩)).setCell ⟨w.heap.size + 1 + 1, 0, none⟩ (.bool false) = W2 at b1 b2 hK2 ⊢
    have hB2 : Below w.heap.size w W2 := by rw [← hW2]; exact hB.trans (Below.setCell (Below.setCell (Below.refl _ _) (p := ⟨w.heap.size + 1, 0, none⟩) (Nat.le_succ _) _) (p := ⟨w.heap.size + 1 + 1, 0, none⟩) (by simp; omega) _)
    have hne1 : some (w.heap.size + 1) ≠ some D := by intro e; injection e with e; omega
    have hne2 : some (w.heap.size + 1 + 1) ≠ some D := by intro e; injection e with e; omega
    have c1 := (b1.kept (grownBy_putObj' _ D (.deferred none)) hne1).cell
    have c2 := (b2.kept (grownBy_putObj' _ D (.deferred none)) hne2).cell
    refine ⟨by simp, .inl ⟨_, _, rfl, run_takeDeferred hK2, ?_⟩⟩
    refine ⟨.tuple #[.string ⟨#[]⟩, .bool false], ?_, ?_, ?_⟩
    · rw [results_cell2 rfl]
      go_simp
    · rw [← HT.out]; rfl
    · exact hB2.trans (belowK_b (w := w) (Nat.le_refl _) _ D _ _ (by omega) hK2 rfl rfl)
  case stop =>
    rintro D cc pre W hD hpf ⟨⟨⟨bV, bI⟩, hlen, hcc⟩, hB⟩ hK
    have hgt : getT key pre = getT key T := by
      obtain ⟨t, rfl⟩ := hpf
      match pre, hlen with
      | [x], _ => rfl
    rw [hgt] at bV bI hcc
    have hHD : Hid (w.heap.size + 1 + 1 < D) := Lib.hid (by omega)
    clear hpf hlen hgt hs
    obtain ⟨r, hr⟩ : ∃ r, r = getT key T := ⟨_, rfl⟩
    rw [← hr] at bV bI hcc
    have HR := Lib.hid hr
    clear hr
    obtain ⟨rv, rb⟩ := r
    have hcv := bV.cell
    have hfv := bV.frozen
    have hci := bI.cell
    have hfi := bI.frozen
    rcases hcc with ⟨rfl, _⟩ | ⟨rfl, hrr⟩
    · gi_wp2
      have b1 := bV
      have b2 := bI
      have hK2 := hK
      have hB2 := hB
      have hne1 : some (w.heap.size + 1) ≠ some D := by intro e; injection e with e; omega
      have hne2 : some (w.heap.size + 1 + 1) ≠ some D := by intro e; injection e with e; omega
      have c1 := (b1.kept (grownBy_putObj' _ D (.deferred none)) hne1).cell
      have c2 := (b2.kept (grownBy_putObj' _ D (.deferred none)) hne2).cell
      refine ⟨by simp, .inl ⟨_, _, rfl, run_takeDeferred hK2, ?_⟩⟩
      refine ⟨.tuple #[.string (Bt rv), .bool rb], ?_, ?_, ?_⟩
      · rw [results_cell2 rfl]
        go_simp
      · rw [← HR.out]
      · exact hB2.trans (belowK_b (w := w) (Nat.le_refl _) _ D _ _ (by omega) hK2 rfl rfl)
    · injection hrr with e1 e2
      subst e1 e2
      gi_wp2
      have b1 := (bV.set (.string ⟨#[]⟩)).other (B' := w.heap.size + 1 + 1) (by omega) (.bool false)
      have b2 := (bI.other (B' := w.heap.size + 1) (by omega) (.string ⟨#[]⟩)).set (.bool false)
      have hK2 := (KeepsOthers.setCell (W.setCell ⟨w.heap.size + 1, 0, none⟩ (.string ⟨#[]⟩)) ⟨w.heap.size + 1 + 1, 0, none⟩ (.bool false)).same D _ ((KeepsOthers.setCell W ⟨w.heap.size + 1, 0, none⟩ (.string ⟨#[]⟩)).same D _ hK rfl) rfl
      generalize hW2 : (W.setCell ⟨w.heap.size + 1, 0, none⟩ (.string ⟨#[]⟩)).setCell ⟨w.heap.size + 1 + 1, 0, none⟩ (.bool false) = W2 at b1 b2 hK2 ⊢
      have hB2 : Below w.heap.size w W2 := by rw [← hW2]; exact hB.trans (Below.setCell (Below.setCell (Below.refl _ _) (p := ⟨w.heap.size + 1, 0, none⟩) (Nat.le_succ _) _) (p := ⟨w.heap.size + 1 + 1, 0, none⟩) (by simp; omega) _)
      have hne1 : some (w.heap.size + 1) ≠ some D := by intro e; injection e with e; omega
      have hne2 : some (w.heap.size + 1 + 1) ≠ some D := by intro e; injection e with e; omega
      have c1 := (b1.kept (grownBy_putObj' _ D (.deferred none)) hne1).cell
      have c2 := (b2.kept (grownBy_putObj' _ D (.deferred none)) hne2).cell
      refine ⟨by simp, .inl ⟨_, _, rfl, run_takeDeferred hK2, ?_⟩⟩
      refine ⟨.tuple #[.string ⟨#[]⟩, .bool false], ?_, ?_, ?_⟩
      · rw [results_cell2 rfl]
        go_simp
      · rw [← HR.out]; rfl
      · exact hB2.trans (belowK_b (w := w) (Nat.le_refl _) _ D _ _ (by omega) hK2 rfl rfl)
end Go.Proofs.Ytpengejnjmicnaa
end
section
namespace Go.Proofs.Ytpengejnjmicnaa
open Go.RowKit Go.Nb
/-- Alike but for one place. -/
def One : Bs → Bs → Prop
  | x :: a, y :: b => (x ≠ y ∧ a = b) ∨ (x = y ∧ One a b)
  | [], _ => False
  | _ :: _, [] => False
theorem One.irr : ∀ a, ¬ One a a
  | [], h => h
  | x :: a, h => by
    rcases h with ⟨h, _⟩ | ⟨_, h⟩
    · exact h rfl
    · exact One.irr a h
theorem One.symm : ∀ {a b : Bs}, One a b → One b a
  | x :: a, y :: b, h => by
    rcases h with ⟨h1, h2⟩ | ⟨h1, h2⟩
    · exact .inl ⟨fun e => h1 e.symm, h2.symm⟩
    · exact .inr ⟨h1.symm, One.symm h2⟩
theorem One.len : ∀ {a b : Bs}, One a b → a.length = b.length
  | x :: a, y :: b, h => by
    rcases h with ⟨_, h2⟩ | ⟨_, h2⟩
    · rw [List.length_cons, List.length_cons, h2]
    · rw [List.length_cons, List.length_cons, One.len h2]
theorem One.split : ∀ {a b c d : Bs}, a.length = b.length → One (a ++ c) (b ++ d) → (One a b ∧ c = d) ∨ (a = b ∧ One c d)
  | [], [], _, _, _, h => .inr ⟨rfl, h⟩
  | x :: a, y :: b, c, d, hl, h => by
    have hl2 : a.length = b.length := by simpa using hl
    rcases h with ⟨h1, h2⟩ | ⟨h1, h2⟩
    · obtain ⟨h3, h4⟩ := List.append_inj h2 hl2
      exact .inl ⟨.inl ⟨h1, h3⟩, h4⟩
    · rcases One.split hl2 h2 with ⟨h3, h4⟩ | ⟨h3, h4⟩
      · exact .inl ⟨.inr ⟨h1, h3⟩, h4⟩
      · exact .inr ⟨by rw [h1, h3], h4⟩
theorem One.split2 {a b c d : Bs} (hl : c.length = d.length) (h : One (a ++ c) (b ++ d)) : (One a b ∧ c = d) ∨ (a = b ∧ One c d) := by
  refine One.split ?_ h
  have := h.len
  rw [List.length_append, List.length_append] at this
  omega
theorem upL_inj {a b : Nat} {r t : Bs} (ha : a < 18446744073709551616) (hb : b < 18446744073709551616) (h : upL a ++ r = upL b ++ t) : a = b ∧ r = t := by
  have h1 := rdNum_up (most := max a b) (Nat.le_max_left ..) ha r
  have h2 := rdNum_up (most := max a b) (Nat.le_max_right ..) hb t
  rw [h, h2] at h1
  simp only [Prod.mk.injEq] at h1
  exact ⟨h1.1.symm, h1.2.1.symm⟩
theorem textL_inj {a b r t : Bs} (ha : a.length < 18446744073709551616) (hb : b.length < 18446744073709551616) (h : textL a ++ r = textL b ++ t) : a = b ∧ r = t := by
  unfold textL at h
  rw [List.append_assoc, List.append_assoc] at h
  obtain ⟨h1, h2⟩ := upL_inj ha hb h
  exact List.append_inj h2 h1
/-- A piece that is read to its end, whatever stands behind it. -/
def Item (x : Bs) : Prop := ∃ a s v, x = upL a ++ (textL s ++ textL v) ∧ a < 18446744073709551616 ∧ s.length < 18446744073709551616 ∧ v.length < 18446744073709551616
theorem Item.inj {x y r t : Bs} (hx : Item x) (hy : Item y) (h : x ++ r = y ++ t) : x = y ∧ r = t := by
  obtain ⟨a, s, v, rfl, h1, h2, h3⟩ := hx
  obtain ⟨b, u, z, rfl, h4, h5, h6⟩ := hy
  simp only [List.append_assoc] at h
  obtain ⟨rfl, k1⟩ := upL_inj h1 h4 h
  obtain ⟨rfl, k2⟩ := textL_inj h2 h5 k1
  obtain ⟨rfl, k3⟩ := textL_inj h3 h6 k2
  exact ⟨rfl, k3⟩
theorem items_inj : ∀ {X Y : List Bs} {r t : Bs}, (∀ x ∈ X, Item x) → (∀ y ∈ Y, Item y) → X.length = Y.length → X.flatten ++ r = Y.flatten ++ t → X.flatten = Y.flatten ∧ r = t
  | [], [], _, _, _, _, _, h => ⟨rfl, h⟩
  | x :: X, y :: Y, r, t, hX, hY, hl, h => by
    rw [List.flatten_cons, List.flatten_cons, List.append_assoc, List.append_assoc] at h
    obtain ⟨h1, h2⟩ := Item.inj (hX x (List.mem_cons_self ..)) (hY y (List.mem_cons_self ..)) h
    obtain ⟨h3, h4⟩ := items_inj (fun z hz => hX z (List.mem_cons_of_mem _ hz)) (fun z hz => hY z (List.mem_cons_of_mem _ hz)) (by simpa using hl) h2
    exact ⟨by rw [List.flatten_cons, List.flatten_cons, h1, h3], h4⟩
def its : Bs → List Pr → List Bs
  | _, [] => []
  | last, p :: l => oneL last p :: its p.k l
theorem its_flat : ∀ (l : List Pr) (last : Bs), (its last l).flatten = encL last l
  | [], _ => rfl
  | p :: l, last => by rw [its, List.flatten_cons, its_flat l p.k, encL]
theorem its_len : ∀ (l : List Pr) (last : Bs), (its last l).length = l.length
  | [], _ => rfl
  | p :: l, last => by rw [its, List.length_cons, its_len l p.k, List.length_cons]
theorem its_item : ∀ (l : List Pr) (last : Bs), (∀ p ∈ l, badP p = false) → ∀ x ∈ its last l, Item x
  | [], _, _, x, hx => by cases hx
  | p :: l, last, h, x, hx => by
    rw [its] at hx
    rcases List.mem_cons.mp hx with rfl | hx
    · have hp := badP_not (h p (List.mem_cons_self ..))
      have h1 := (shL_le last p.k).2
      exact ⟨_, _, _, rfl, by omega, by rw [List.length_drop]; omega, by omega⟩
    · exact its_item l p.k (fun q hq => h q (List.mem_cons_of_mem _ hq)) x hx
def itsB : List (List Pr) → List Bs
  | [] => []
  | b :: bs => its [] b ++ itsB bs
theorem itsB_flat : ∀ bs : List (List Pr), (itsB bs).flatten = encs bs
  | [] => rfl
  | b :: bs => by rw [itsB, List.flatten_append, its_flat, itsB_flat bs, encs]
theorem itsB_len : ∀ bs : List (List Pr), (itsB bs).length = bs.flatten.length
  | [] => rfl
  | b :: bs => by rw [itsB, List.length_append, its_len, itsB_len bs, List.flatten_cons, List.length_append]
theorem itsB_item : ∀ bs : List (List Pr), (∀ b ∈ bs, mayB b = true) → ∀ x ∈ itsB bs, Item x
  | [], _, x, hx => by cases hx
  | b :: bs, h, x, hx => by
    rw [itsB] at hx
    rcases List.mem_append.mp hx with hx | hx
    · exact its_item b [] (bad_of_may (h b (List.mem_cons_self ..))) x hx
    · exact itsB_item bs (fun c hc => h c (List.mem_cons_of_mem _ hc)) x hx
/-- A block is longer than its last key. -/
theorem enc_last : ∀ (l : List Pr) (last : Bs), (lastK last l).length + 3 * l.length ≤ (encL last l).length + last.length
  | [], _ => by simp [lastK, encL]
  | p :: l, last => by
    have ih := enc_last l p.k
    have h1 := (upL_len2 (shL last p.k)).1
    have h2 := (upL_len2 (p.k.drop (shL last p.k)).length).1
    have h3 := (upL_len2 p.v.length).1
    have h4 := (shL_le last p.k).1
    have h5 : (oneL last p).length = (upL (shL last p.k)).length + ((upL (p.k.drop (shL last p.k)).length).length + (p.k.length - shL last p.k) + ((upL p.v.length).length + p.v.length)) := by
      unfold oneL textL
      simp only [List.length_append, List.length_drop]
    rw [lastK, encL, List.length_append, List.length_cons]
    omega
/-- What entries' fields may be. -/
def Fine (X : List (List Pr)) : Prop := ∀ b ∈ X, (lastK [] b).length < 18446744073709551616 ∧ (encL [] b).length < 18446744073709551616
theorem idx1_inj {b c : List Pr} {r t : Bs} (hb : (lastK [] b).length < 18446744073709551616 ∧ (encL [] b).length < 18446744073709551616) (hc : (lastK [] c).length < 18446744073709551616 ∧ (encL [] c).length < 18446744073709551616) (h : idx1 b ++ r = idx1 c ++ t) : lastK [] b = lastK [] c ∧ r = t := by
  unfold idx1 at h
  rw [List.append_assoc, List.append_assoc] at h
  obtain ⟨h1, h⟩ := textL_inj hb.1 hc.1 h
  obtain ⟨_, h⟩ := upL_inj hb.2 hc.2 h
  exact ⟨h1, h⟩
theorem idxs_inj : ∀ {X Y : List (List Pr)} {r t : Bs}, Fine X → Fine Y → X.length = Y.length → idxs X ++ r = idxs Y ++ t → X.map (lastK []) = Y.map (lastK []) ∧ r = t
  | [], [], _, _, _, _, _, h => ⟨rfl, h⟩
  | x :: X, y :: Y, r, t, hX, hY, hl, h => by
    rw [idxs, idxs, List.append_assoc, List.append_assoc] at h
    obtain ⟨h1, h2⟩ := idx1_inj (hX x (List.mem_cons_self ..)) (hY y (List.mem_cons_self ..)) h
    obtain ⟨h3, h4⟩ := idxs_inj (fun z hz => hX z (List.mem_cons_of_mem _ hz)) (fun z hz => hY z (List.mem_cons_of_mem _ hz)) (by simpa using hl) h2
    exact ⟨by rw [List.map_cons, List.map_cons, h1, h3], h4⟩
theorem lastK_two : ∀ (a b : List Pr) (last : Bs), lastK last (a ++ b) = lastK (lastK last a) b
  | [], _, _ => rfl
  | p :: a, b, last => by rw [List.cons_append, lastK, lastK, lastK_two a b p.k]
theorem less_irr (a : Bs) : Op.bytesLess a a = false := by
  cases h : Op.bytesLess a a
  · rfl
  · have := (less_asymm h).1
    rw [h] at this; cases this
theorem upF_last : ∀ (l : List Pr) (last : Bs), l ≠ [] → upF last l = true → Op.bytesLess last (lastK last l) = true
  | [], _, h, _ => absurd rfl h
  | [p], last, _, h => by simpa [upF, lastK] using h
  | p :: q :: l, last, _, h => by
    rw [upF, Bool.and_eq_true] at h
    have := upF_last (q :: l) p.k (by simp) h.2
    rw [lastK]
    exact less_trans h.1 this
/-- Where the last key is the same, so is the block. -/
theorem same_block {last : Bs} {b c r t : List Pr} (hb : b ≠ []) (hc : c ≠ []) (h : b ++ r = c ++ t) (hk : lastK [] b = lastK [] c) (hu : upF last (b ++ r) = true) : b = c ∧ r = t := by
  have key : ∀ {b c : List Pr} {r t e : List Pr}, b ≠ [] → c = b ++ e → e ≠ [] → lastK [] b = lastK [] c → upF last (c ++ t) = true → False := by
    intro b c r t e hb hc he hk hu
    rw [hc, List.append_assoc, upF_append, upF_append, Bool.and_eq_true, Bool.and_eq_true] at hu
    have h1 := upF_last e _ he hu.2.1
    have h2 : lastK [] c = lastK (lastK last b) e := by rw [hc, lastK_two, lastK_any he]
    rw [← h2, ← hk, lastK_any hb last []] at h1
    rw [less_irr] at h1
    cases h1
  rcases List.append_eq_append_iff.mp h with ⟨e, h1, h2⟩ | ⟨e, h1, h2⟩
  · by_cases he : e = []
    · subst he
      rw [List.append_nil] at h1
      exact ⟨h1.symm, by simpa using h2⟩
    · exact (key (r := []) hb h1 he hk (h ▸ hu)).elim
  · by_cases he : e = []
    · subst he
      rw [List.append_nil] at h1
      exact ⟨h1, by simpa using h2.symm⟩
    · exact (key (r := []) hc h1 he hk.symm hu).elim
theorem same_blocks : ∀ {X Y : List (List Pr)} {last : Bs} {r t : List Pr}, (∀ b ∈ X, b ≠ []) → (∀ b ∈ Y, b ≠ []) → X.map (lastK []) = Y.map (lastK []) → X.flatten ++ r = Y.flatten ++ t → upF last (X.flatten ++ r) = true → X = Y ∧ r = t
  | [], [], _, _, _, _, _, _, h, _ => ⟨rfl, h⟩
  | x :: X, y :: Y, last, r, t, hX, hY, hm, h, hu => by
    rw [List.map_cons, List.map_cons, List.cons.injEq] at hm
    rw [List.flatten_cons, List.append_assoc] at h hu
    rw [List.flatten_cons, List.append_assoc] at h
    obtain ⟨h1, h2⟩ := same_block (hX x (List.mem_cons_self ..)) (hY y (List.mem_cons_self ..)) h hm.1 hu
    rw [upF_append, Bool.and_eq_true] at hu
    obtain ⟨h3, h4⟩ := same_blocks (fun z hz => hX z (List.mem_cons_of_mem _ hz)) (fun z hz => hY z (List.mem_cons_of_mem _ hz)) hm.2 h2 hu.2
    exact ⟨by rw [h1, h3], h4⟩
/-- Two lists, from their ends: the same, one the other's end, or unlike at one place. -/
theorem from_end {α : Type} : ∀ a b : List α, a = b ∨ (∃ Y, Y ≠ [] ∧ a = Y ++ b) ∨ (∃ Y, Y ≠ [] ∧ b = Y ++ a) ∨ ∃ X c X' c' Z, a = X ++ c :: Z ∧ b = X' ++ c' :: Z ∧ c ≠ c' := by
  intro a
  refine list_snoc_ind (P := fun a => ∀ b : List α, a = b ∨ (∃ Y, Y ≠ [] ∧ a = Y ++ b) ∨ (∃ Y, Y ≠ [] ∧ b = Y ++ a) ∨ ∃ X c X' c' Z, a = X ++ c :: Z ∧ b = X' ++ c' :: Z ∧ c ≠ c') (fun b => ?_) (fun a c ih b => ?_) a
  · by_cases h : b = []
    · exact .inl h.symm
    · exact .inr (.inr (.inl ⟨b, h, by simp⟩))
  · rcases List.eq_nil_or_concat b with rfl | ⟨b, d, hbd⟩
    · exact .inr (.inl ⟨a ++ [c], by simp, by simp⟩)
    · rw [List.concat_eq_append] at hbd
      subst hbd
      by_cases hcd : c = d
      · subst hcd
        rcases ih b with rfl | ⟨Y, hY, rfl⟩ | ⟨Y, hY, rfl⟩ | ⟨X, e, X', e', Z, rfl, rfl, hne⟩
        · exact .inl rfl
        · exact .inr (.inl ⟨Y, hY, by simp⟩)
        · exact .inr (.inr (.inl ⟨Y, hY, by simp⟩))
        · exact .inr (.inr (.inr ⟨X, e, X', e', Z ++ [c], by simp, by simp, hne⟩))
      · exact .inr (.inr (.inr ⟨a, c, b, d, [], by simp, by simp, hcd⟩))
theorem up_small {n : Nat} (h1 : 1 ≤ n) (h2 : n < 256) : upL n = [1, UInt8.ofNat n] := by
  have e1 : n / 256 = 0 := by omega
  have e2 : n % 256 = n := by omega
  have : digs n = [UInt8.ofNat n] := by
    unfold digs
    simp only [digsF]
    rw [if_neg (by omega), e1, e2]
    simp
  unfold upL
  rw [this]; rfl
theorem up_two {n : Nat} (h1 : 256 ≤ n) (h2 : n < 65536) : ∃ a b, upL n = [2, a, b] := by
  have e1 : n / 256 / 256 = 0 := by omega
  have : digs n = [UInt8.ofNat (n / 256 % 256), UInt8.ofNat (n % 256)] := by
    unfold digs
    simp only [digsF]
    rw [if_neg (by omega), if_neg (by omega), e1]
    simp
  refine ⟨UInt8.ofNat (n / 256 % 256), UInt8.ofNat (n % 256), ?_⟩
  unfold upL
  rw [this]; rfl
/-- What is shifted by one place differs in more than one, but where nothing does. -/
theorem chain {F G : Bs} {d : Bs} {f a b c : UInt8} (h : One (F ++ ((1 :: d ++ [2]) ++ [a, b])) (G ++ ((f :: (1 :: d)) ++ [1, c]))) : G ++ [f] = F ++ [1] := by
  have hcount : ∀ e : Bs, e ++ [2] ≠ 1 :: e := fun e he => by
    have := congrArg (List.count 2) he
    rw [List.count_append] at this
    simp at this
  have hl : F.length = G.length := by
    have := h.len
    simp at this
    omega
  rcases One.split hl h with ⟨_, h2⟩ | ⟨rfl, h2⟩
  · have := (List.append_inj h2 (by simp)).1
    simp only [List.cons_append, List.cons.injEq] at this
    exact absurd this.2 (hcount d)
  · rcases One.split (by simp) h2 with ⟨h3, _⟩ | ⟨h3, _⟩
    · rcases h3 with ⟨_, h4⟩ | ⟨h4, _⟩
      · exact absurd h4 (hcount d)
      · rw [← h4]
    · simp only [List.cons_append, List.cons.injEq] at h3
      exact absurd h3.2 (hcount d)
theorem turned_two {F G K : Bs} {z z' : Nat} (hz : 256 ≤ z) (hz2 : z < 65536) (h1 : 1 ≤ z') (h2 : z' < 256) (hK1 : 1 ≤ K.length) (hK2 : K.length ≤ z') (h : One (F ++ (textL K ++ upL z)) (G ++ (textL K ++ upL z'))) : G = F ++ [1] := by
  obtain ⟨a, b, hab⟩ := up_two hz hz2
  have hc := up_small h1 h2
  have hm := up_small hK1 (by omega)
  have hlen := h.len
  unfold textL at h hlen
  rw [hab, hc, hm] at h hlen
  rcases List.eq_nil_or_concat G with rfl | ⟨G0, f, hG⟩
  · simp at hlen; omega
  · rw [List.concat_eq_append] at hG
    subst hG
    exact chain (F := F) (G := G0) (d := UInt8.ofNat K.length :: K) (f := f) (a := a) (b := b) (c := UInt8.ofNat z') (by simpa using h)
theorem okB_mem : ∀ {bs : List (List Pr)} {last : Bs}, okB last bs = true → ∀ b ∈ bs, mayB b = true
  | [], _, _, b, hb => by cases hb
  | x :: bs, last, h, b, hb => by
    rw [okB, Bool.and_eq_true, Bool.and_eq_true] at h
    rcases List.mem_cons.mp hb with rfl | hb
    · exact h.1.1
    · exact okB_mem h.2 b hb
theorem okB_up {bs : List (List Pr)} {last : Bs} (h : okB last bs = true) : upF last bs.flatten = true ∧ bs.flatten.any badP = false := by
  rw [okB_is bs last (fun b hb => may_len (okB_mem h b hb)), Bool.and_eq_true] at h
  exact ⟨h.2, by simpa using h.1⟩
theorem okB_nn {bs : List (List Pr)} {last : Bs} (h : okB last bs = true) : ∀ b ∈ bs, b ≠ [] := fun b hb e => by
  have := (may_len (okB_mem h b hb)).1
  rw [e] at this; simp at this
theorem encs_mem : ∀ {bs : List (List Pr)} {b : List Pr}, b ∈ bs → (encL [] b).length ≤ (encs bs).length
  | x :: bs, b, hb => by
    rw [encs, List.length_append]
    rcases List.mem_cons.mp hb with rfl | hb
    · omega
    · have := encs_mem hb; omega
theorem fine_of {bs : List (List Pr)} (h : (encs bs).length < 1000000) : Fine bs := fun b hb => by
  have h1 := encs_mem hb
  have h2 := enc_last b []
  rw [List.length_nil] at h2
  omega
theorem Fine.left {a b : List (List Pr)} (h : Fine (a ++ b)) : Fine a := fun x hx => h x (List.mem_append_left _ hx)
theorem nil_flat {Y bs : List (List Pr)} (h : Y.flatten ++ bs.flatten = bs.flatten) (hY : ∀ b ∈ Y, b ≠ []) : Y = [] := by
  have h1 : Y.flatten = [] := by
    have := congrArg List.length h
    rw [List.length_append] at this
    exact List.eq_nil_of_length_eq_zero (by omega)
  cases Y with
  | nil => rfl
  | cons y Y => rw [List.flatten_cons, List.append_eq_nil_iff] at h1; exact absurd h1.1 (hY y (List.mem_cons_self ..))
theorem turned_sizes {X X' Z : List (List Pr)} {c c' : List Pr} {n n' : Nat} (hn : n < 18446744073709551616) (hn' : n' < 18446744073709551616) (hX : n = X.length + (1 + Z.length)) (hX' : n' = X'.length + (1 + Z.length)) (hf : Fine X) (hf' : Fine X')
    (hz : 256 ≤ (encL [] c).length) (hz2 : (encL [] c).length < 65536) (h1 : 1 ≤ (encL [] c').length) (h2 : (encL [] c').length < 256) (hK1 : 1 ≤ (lastK [] c').length) (hK : lastK [] c = lastK [] c')
    (h : One ((upL n ++ idxs X) ++ (textL (lastK [] c) ++ upL (encL [] c).length)) ((upL n' ++ idxs X') ++ (textL (lastK [] c') ++ upL (encL [] c').length))) : False := by
  have hk2 := enc_last c' []
  rw [List.length_nil] at hk2
  rw [hK] at h
  have h3 := turned_two hz hz2 h1 h2 hK1 (by omega) h
  rw [List.append_assoc] at h3
  obtain ⟨h4, h5⟩ := upL_inj hn' hn h3
  have h6 := idxs_inj (r := []) (t := [1]) hf' hf (by omega) (by rw [List.append_nil]; exact h5)
  cases h6.2
theorem turned_idx {bs bs' : List (List Pr)} (hok : okB [] bs = true) (hok' : okB [] bs' = true) (hl : bs.flatten = bs'.flatten) (hB : encs bs = encs bs') (h64 : (encs bs).length < 65536) (hn : bs.length < 65536) (hn' : bs'.length < 65536)
    (h : One (upL bs.length ++ idxs bs) (upL bs'.length ++ idxs bs')) : False := by
  have hnn := okB_nn hok
  have hnn' := okB_nn hok'
  have hF := fine_of (bs := bs) (by omega)
  have hF' := fine_of (bs := bs') (by rw [← hB]; omega)
  have h64' : (encs bs').length < 65536 := by rw [← hB]; exact h64
  have hm := okB_mem hok
  have hm' := okB_mem hok'
  have hu := (okB_up hok).1
  rcases from_end bs bs' with rfl | ⟨Y, hY, rfl⟩ | ⟨Y, hY, rfl⟩ | ⟨X, c, X', c', Z, rfl, rfl, hne⟩
  · exact One.irr _ h
  · rw [List.flatten_append] at hl
    exact hY (nil_flat hl (fun b hb => hnn b (List.mem_append_left _ hb)))
  · rw [List.flatten_append] at hl
    exact hY (nil_flat hl.symm (fun b hb => hnn' b (List.mem_append_left _ hb)))
  · have hmc : mayB c = true := hm c (by simp)
    have hmc' : mayB c' = true := hm' c' (by simp)
    have hcn : c ≠ [] := hnn c (by simp)
    have hcn' : c' ≠ [] := hnn' c' (by simp)
    have hz := encs_mem (bs := X ++ c :: Z) (b := c) (by simp)
    have hz' := encs_mem (bs := X' ++ c' :: Z) (b := c') (by simp)
    have hp := enc_pos hmc
    have hp' := enc_pos hmc'
    rw [encs_append, encs_append, encs, encs, ← List.append_assoc, ← List.append_assoc] at hB
    have hE := List.append_cancel_right hB
    have hzz : (encL [] c).length ≠ (encL [] c').length := fun e => hne (enc_inj hmc hmc' (List.append_inj' hE e).2)
    rw [List.flatten_append, List.flatten_append, List.flatten_cons, List.flatten_cons, ← List.append_assoc, ← List.append_assoc] at hl
    have hC := List.append_cancel_right hl
    have hK : lastK [] c = lastK [] c' := by
      have := congrArg (lastK []) hC
      rw [lastK_two, lastK_two] at this
      rw [lastK_any hcn _ (lastK [] X.flatten), this, lastK_any hcn']
    have hKp : 1 ≤ (lastK [] c').length := by
      rcases List.eq_nil_or_concat c' with e | ⟨c0, p, e⟩
      · exact absurd e hcn'
      · rw [List.concat_eq_append] at e
        have hb := badP_not (bad_of_may hmc' p (by rw [e]; simp))
        rw [e, lastK_snoc]; exact hb.1
    have hln : (X ++ c :: Z).length = X.length + (1 + Z.length) := by simp; omega
    have hln' : (X' ++ c' :: Z).length = X'.length + (1 + Z.length) := by simp; omega
    rw [idxs_append, idxs_append, idxs, idxs] at h
    have h2 : One (((upL (X ++ c :: Z).length ++ idxs X) ++ (textL (lastK [] c) ++ upL (encL [] c).length)) ++ idxs Z) (((upL (X' ++ c' :: Z).length ++ idxs X') ++ (textL (lastK [] c') ++ upL (encL [] c').length)) ++ idxs Z) := by
      unfold idx1 at h
      simpa only [List.append_assoc] using h
    rcases One.split2 rfl h2 with ⟨h3, _⟩ | ⟨_, h3⟩
    · by_cases hs : (upL (encL [] c).length).length = (upL (encL [] c').length).length
      · have h4 : One (((upL (X ++ c :: Z).length ++ idxs X) ++ textL (lastK [] c)) ++ upL (encL [] c).length) (((upL (X' ++ c' :: Z).length ++ idxs X') ++ textL (lastK [] c')) ++ upL (encL [] c').length) := by
          simpa only [List.append_assoc] using h3
        rcases One.split2 hs h4 with ⟨_, h5⟩ | ⟨h5, _⟩
        · have := upL_inj (r := []) (t := []) (by omega) (by omega) (congrArg (· ++ []) h5)
          exact hzz this.1
        · rw [hK] at h5
          have h6 := List.append_cancel_right h5
          obtain ⟨h7, h8⟩ := upL_inj (by omega) (by omega) h6
          rw [hln, hln'] at h7
          have h9 := idxs_inj (r := []) (t := []) hF.left hF'.left (by omega) (by rw [h8])
          have h10 := same_blocks (X := X) (Y := X') (last := []) (r := c) (t := c') (fun b hb => hnn b (by simp [hb])) (fun b hb => hnn' b (by simp [hb])) h9.1 hC (by
            rw [List.flatten_append, List.flatten_cons, ← List.append_assoc, upF_append, Bool.and_eq_true] at hu
            exact hu.1)
          exact hne h10.2
      · by_cases ha : 256 ≤ (encL [] c).length
        · have hb : (encL [] c').length < 256 := by
            by_cases hb : (encL [] c').length < 256
            · exact hb
            · obtain ⟨_, _, e1⟩ := up_two ha (by omega)
              obtain ⟨_, _, e2⟩ := up_two (n := (encL [] c').length) (by omega) (by omega)
              rw [e1, e2] at hs
              exact absurd rfl hs
          exact turned_sizes (by omega) (by omega) hln hln' hF.left hF'.left ha (by omega) hp' hb hKp hK h3
        · have hb : 256 ≤ (encL [] c').length := by
            by_cases hb : 256 ≤ (encL [] c').length
            · exact hb
            · rw [up_small hp (by omega), up_small hp' (by omega)] at hs
              exact absurd rfl hs
          exact turned_sizes (by omega) (by omega) hln' hln hF'.left hF.left hb (by omega) hp (by omega) (by rw [hK]; exact hKp) hK.symm h3.symm
    · exact One.irr _ h3
/-- A text in which one byte was turned is no table of the same pairs. -/
theorem turned_core {bs bs' : List (List Pr)} (hok : okB [] bs = true) (hok' : okB [] bs' = true) (hl : bs.flatten = bs'.flatten) (h64 : (txt bs).length < 65536) (h1 : One (txt bs) (txt bs')) : False := by
  have hle := h1.len
  have t1 := txt_len bs
  have t2 := txt_len bs'
  have l1 := encs_ge bs (okB_mem hok)
  have l2 := encs_ge bs' (okB_mem hok')
  have hF := fine_of (bs := bs) (by omega)
  have hF' := fine_of (bs := bs') (by omega)
  have e1 : txt bs = (encs bs ++ (upL bs.length ++ idxs bs)) ++ e8L (encs bs).length := by unfold txt; simp only [List.append_assoc]
  have e2 : txt bs' = (encs bs' ++ (upL bs'.length ++ idxs bs')) ++ e8L (encs bs').length := by unfold txt; simp only [List.append_assoc]
  have h2 := h1
  rw [e1, e2] at h2
  rcases One.split2 (by rw [e8L_len, e8L_len]) h2 with ⟨h3, h4⟩ | ⟨h3, h4⟩
  · have hlen : (encs bs).length = (encs bs').length := by
      have a := valL_e8 (n := (encs bs).length) (by omega)
      have b := valL_e8 (n := (encs bs').length) (by omega)
      rw [h4] at a
      omega
    rcases One.split hlen h3 with ⟨h5, h6⟩ | ⟨h5, h6⟩
    · obtain ⟨h7, h8⟩ := upL_inj (by omega) (by omega) h6
      have h9 := idxs_inj (r := []) (t := []) hF hF' h7 (by rw [h8])
      have h10 := same_blocks (X := bs) (Y := bs') (last := []) (r := []) (t := []) (okB_nn hok) (okB_nn hok') h9.1 (by rw [hl]) (by rw [List.append_nil]; exact (okB_up hok).1)
      rw [h10.1] at h1
      exact One.irr _ h1
    · exact turned_idx hok hok' hl h5 (by omega) (by omega) (by omega) h6
  · rw [← itsB_flat, ← itsB_flat] at h3
    have h5 := items_inj (itsB_item bs (okB_mem hok)) (itsB_item bs' (okB_mem hok')) (by rw [itsB_len, itsB_len, hl]) h3
    rw [itsB_flat, itsB_flat] at h5
    rw [h5.1] at h4
    exact One.irr _ h4
end Go.Proofs.Ytpengejnjmicnaa
end
section
namespace Go.Proofs.Ytpengejnjmicnaa
open Go.RowKit Go.Nb
theorem up_len3 {n : Nat} (h : n < 65536) : (upL n).length ≤ 3 := by
  by_cases h0 : n = 0
  · subst h0; decide
  · by_cases h1 : n < 256
    · rw [up_small (by omega) h1]; simp
    · obtain ⟨a, b, e⟩ := up_two (n := n) (by omega) h
      rw [e]; simp
/-- An end of pairs is no longer than all of them. -/
theorem enc_end {t s : List Pr} (hs : s ≠ []) (hk : ∀ p ∈ s, p.k.length < 65536) : (encL [] s).length ≤ (encL [] (t ++ s)).length := by
  cases t with
  | nil => exact Nat.le_refl _
  | cons x t =>
    cases s with
    | nil => exact absurd rfl hs
    | cons q r =>
      have h1 := enc_last (x :: t) []
      have h2 := (shL_le (lastK [] (x :: t)) q.k)
      have h3 := up_len3 (hk q (List.mem_cons_self ..))
      have h4 := (upL_len2 (shL (lastK [] (x :: t)) q.k)).1
      have h5 := (upL_len2 (q.k.drop (shL (lastK [] (x :: t)) q.k)).length).1
      have e0 : (oneL [] q).length = 1 + ((upL q.k.length).length + q.k.length + (textL q.v).length) := by
        have h0 : shL [] q.k = 0 := by have := (shL_le [] q.k).1; rw [List.length_nil] at this; omega
        unfold oneL
        rw [h0, List.drop_zero]
        simp only [List.length_append, textL]
        rfl
      have e1 : (oneL (lastK [] (x :: t)) q).length = (upL (shL (lastK [] (x :: t)) q.k)).length + ((upL (q.k.drop (shL (lastK [] (x :: t)) q.k)).length).length + (q.k.length - shL (lastK [] (x :: t)) q.k) + (textL q.v).length) := by
        unfold oneL
        simp only [List.length_append, textL, List.length_drop]
      have e2 : encL [] ((x :: t) ++ q :: r) = encL [] (x :: t) ++ (oneL (lastK [] (x :: t)) q ++ encL q.k r) := by rw [encL_append]; rfl
      have e3 : encL [] (q :: r) = oneL [] q ++ encL q.k r := rfl
      rw [e2, e3, List.length_append, List.length_append, List.length_append, e0, e1]
      simp only [List.length_cons, List.length_nil] at h1
      omega
theorem cut_mono {a b : Int} (hab : a ≤ b) {t s : List Pr} {p : Pr} (hk : ∀ q ∈ s ++ [p], q.k.length < 65536) (h : bCut b s p = true) : bCut a (t ++ s) p = true := by
  unfold bCut at h ⊢
  simp only [Bool.and_eq_true, Bool.or_eq_true, decide_eq_true_eq] at h ⊢
  have h1 := enc_end (t := t) (s := s ++ [p]) (by simp) hk
  rw [← List.append_assoc] at h1
  rw [List.length_append] at *
  omega
/-- The larger the most, the fewer the blocks. -/
theorem blk_mono {a b : Int} (hab : a ≤ b) {l : List Pr} (hk : ∀ p ∈ l, p.k.length < 65536) : (blkL b l).length ≤ (blkL a l).length := by
  have key : ∀ l : List Pr, (∀ p ∈ l, p.k.length < 65536) → (∀ q ∈ (bAll b l).2, q ∈ l) ∧ ((bAll b l).1.length < (bAll a l).1.length ∨ ((bAll b l).1.length = (bAll a l).1.length ∧ ∃ t, (bAll a l).2 = t ++ (bAll b l).2)) := by
    refine list_snoc_ind (P := fun l => (∀ p ∈ l, p.k.length < 65536) → (∀ q ∈ (bAll b l).2, q ∈ l) ∧ ((bAll b l).1.length < (bAll a l).1.length ∨ ((bAll b l).1.length = (bAll a l).1.length ∧ ∃ t, (bAll a l).2 = t ++ (bAll b l).2))) (fun _ => ⟨fun q hq => by simp [bAll] at hq, .inr ⟨rfl, [], rfl⟩⟩) (fun l p ih h => ?_)
    obtain ⟨hm, ih⟩ := ih (fun q hq => h q (List.mem_append_left _ hq))
    rw [bAll_snoc, bAll_snoc]
    have hm2 : ∀ q ∈ (bAll b l).2 ++ [p], q ∈ l ++ [p] := fun q hq => by
      rcases List.mem_append.mp hq with hq | hq
      · exact List.mem_append_left _ (hm q hq)
      · exact List.mem_append_right _ hq
    have hcm := fun t => cut_mono hab (t := t) (s := (bAll b l).2) (p := p) (fun q hq => h q (hm2 q hq))
    unfold bStep
    cases hb : bCut b (bAll b l).2 p <;> cases ha : bCut a (bAll a l).2 p <;> simp only [Bool.false_eq_true, if_false, if_true, List.length_append, List.length_singleton]
    · refine ⟨hm2, ?_⟩
      rcases ih with ih | ⟨ih, t, ht⟩
      · exact .inl ih
      · exact .inr ⟨ih, t, by rw [ht, List.append_assoc]⟩
    · refine ⟨hm2, ?_⟩
      rcases ih with ih | ⟨ih, t, ht⟩
      · exact .inl (by omega)
      · exact .inl (by omega)
    · refine ⟨fun q hq => List.mem_append_right _ hq, ?_⟩
      rcases ih with ih | ⟨ih, t, ht⟩
      · by_cases he : (bAll b l).1.length + 1 = (bAll a l).1.length
        · exact .inr ⟨he, (bAll a l).2, rfl⟩
        · exact .inl (by omega)
      · rw [ht, hcm t hb] at ha; cases ha
    · refine ⟨fun q hq => List.mem_append_right _ hq, ?_⟩
      rcases ih with ih | ⟨ih, t, ht⟩
      · exact .inl (by omega)
      · exact .inr ⟨by omega, [], rfl⟩
  have := (key l hk).2
  unfold blkL
  rw [List.length_append, List.length_append]
  rcases this with h | ⟨h, _⟩ <;> simp only [List.length_singleton] <;> omega
end Go.Proofs.Ytpengejnjmicnaa
end
section
namespace Go.Proofs.Ytpengejnjmicnaa
open Go.RowKit Go.Nb Go.Shelf
/-- Blocks that may be a table. -/
structure Tok (bs : List (List Pr)) : Prop where
  ne : bs ≠ []
  ok : okB [] bs = true
  len : bs.flatten.length ≤ 1048576
theorem upF_upB {l : List Pr} {last : Bs} (h : upF last l = true) : upB l = true := by
  cases l with
  | nil => rfl
  | cons p r => rw [upF, Bool.and_eq_true] at h; rw [upF_up]; exact h.2
theorem Tok.up {bs : List (List Pr)} (h : Tok bs) : upB bs.flatten = true := upF_upB (okB_up h.ok).1
theorem Tok.ups {bs : List (List Pr)} (h : Tok bs) : ∀ b ∈ bs, upB b = true := fun b hb => may_up (okB_mem h.ok b hb)
theorem Tok.nn {bs : List (List Pr)} (h : Tok bs) : ∀ b ∈ bs, b ≠ [] := okB_nn h.ok
theorem Tok.tell {bs : List (List Pr)} (h : Tok bs) (key : Bs) : tellL key bs = bs.flatten.drop (seekL key bs.flatten) := tell_flat h.nn h.up
theorem Tok.fne {bs : List (List Pr)} (h : Tok bs) : bs.flatten ≠ [] := (flat_last h.ne h.nn).2
theorem enc_ge : ∀ bs : List (List Pr), bs.flatten.length ≤ (encs bs).length
  | [] => Nat.le_refl _
  | b :: bs => by
    have h1 := enc_last b []
    have h2 := enc_ge bs
    rw [List.flatten_cons, List.length_append, encs, List.length_append]
    rw [List.length_nil] at h1
    omega
theorem TabIs.tok {S : Bs} {bs : List (List Pr)} (h : TabIs S bs) (hS : S.length ≤ 131072) : Tok bs := ⟨h.ne, h.ok, by
  have h1 := enc_ge bs
  have h2 := txt_len bs
  rw [h.txt] at h2
  omega⟩
/-- A function that tells pairs, and may be stopped. -/
def SeqOf (w : World) (lb : Array Value) (T : List Pr) : Prop := ∃ n₀, n₀ ≤ w.heap.size ∧ ∀ w', Ext w w' → SeqStopsK Fence.wide 3 Try.prog 43 lb encsP (Below n₀) (fun ys => ys = T) (fun pre => pre <+: T) T.length w'
theorem SeqOf.ext {w w' : World} {lb : Array Value} {T : List Pr} (h : SeqOf w lb T) (hE : Ext w w') : SeqOf w' lb T := by
  obtain ⟨n, h1, h2⟩ := h
  exact ⟨n, Nat.le_trans h1 hE.size, fun w2 hE2 => h2 w2 (hE.trans hE2)⟩
theorem boxes (w : World) (q : Option Addr) (key : Bs) : ((w.alloc (.cells #[.pointer q] 30)).alloc (.cells #[.string (Bt key)] 9)).cell? ⟨w.heap.size, 0, none⟩ = some (.pointer q) ∧ ((w.alloc (.cells #[.pointer q] 30)).alloc (.cells #[.string (Bt key)] 9)).cell? ⟨w.heap.size + 1, 0, none⟩ = some (.string (Bt key)) := by
  have b1 := (Boxed.new w 30 (.pointer q)).alloc (.cells #[.string (Bt key)] 9)
  have b2 := Boxed.new (w.alloc (.cells #[.pointer q] 30)) 9 (.string (Bt key))
  rw [World.size_alloc] at b2
  exact ⟨b1.cell, b2.cell⟩
theorem from_t {w : World} {gt : Nat} {bs : List (List Pr)} (h : Tbl w gt bs) (hk : Tok bs) (key : Bs) : Calls Try.prog 20 #[.pointer (some ⟨gt, 0, none⟩), .string (Bt key)] w fun e w' => ∃ lb, e = .returned (.func (.func 43) #[] lb) ∧ SeqOf w' lb (bs.flatten.drop (seekL key bs.flatten)) ∧ Ext w w' := by
  refine (from_any _ (Bt key) w).mono ?_
  rintro e w' ⟨rfl, rfl⟩
  have hE : Ext w ((w.alloc (.cells #[.pointer (some ⟨gt, 0, none⟩)] 30)).alloc (.cells #[.string (Bt key)] 9)) := ((Ext.refl w).alloc _).alloc _
  obtain ⟨c1, c2⟩ := boxes w (some ⟨gt, 0, none⟩) key
  refine ⟨_, rfl, ⟨_, Nat.le_refl _, fun w' hw => ?_⟩, hE⟩
  have := it_stops 3 (by omega) _ _ gt _ bs key (h.ext hE) hk.nn hk.ups hk.len w' hw c1 c2
  rw [hk.tell key] at this
  exact this
theorem from_nil (w : World) (key : Bs) : Calls Try.prog 20 #[.pointer none, .string (Bt key)] w fun e w' => ∃ lb, e = .returned (.func (.func 43) #[] lb) ∧ SeqOf w' lb [] ∧ Ext w w' := by
  refine (from_any _ (Bt key) w).mono ?_
  rintro e w' ⟨rfl, rfl⟩
  have hE : Ext w ((w.alloc (.cells #[.pointer none] 30)).alloc (.cells #[.string (Bt key)] 9)) := ((Ext.refl w).alloc _).alloc _
  obtain ⟨c1, c2⟩ := boxes w none key
  exact ⟨_, rfl, ⟨_, Nat.le_refl _, fun w' hw => it_stops_nil 3 _ _ _ w' (hw.cellv c1)⟩, hE⟩
theorem get_t {w : World} {gt : Nat} {bs : List (List Pr)} (h : Tbl w gt bs) (hk : Tok bs) (key : Bs) : Calls Try.prog 21 #[.pointer (some ⟨gt, 0, none⟩), .string (Bt key)] w fun e w' => e = .returned (.tuple #[.string (Bt (getT key (bs.flatten.drop (seekL key bs.flatten))).1), .bool (getT key (bs.flatten.drop (seekL key bs.flatten))).2]) ∧ Ext w w' :=
  get_all (fun W0 w' bm bk h0 h1 c1 c2 => by
    have := it_stops 3 (by omega) bm bk gt W0 bs key (h.ext h0) hk.nn hk.ups hk.len w' h1 c1 c2
    rw [hk.tell key] at this
    exact this)
theorem get_nil (w : World) (key : Bs) : Calls Try.prog 21 #[.pointer none, .string (Bt key)] w fun e w' => e = .returned (.tuple #[.string (Bt []), .bool false]) ∧ Ext w w' :=
  get_all (T := []) (fun _ w' bm bk _ h1 c1 _ => it_stops_nil 3 bm bk _ w' (h1.cellv c1))
theorem collect_t {w : World} {lb : Array Value} {T : List Pr} (h : SeqOf w lb T) {most : Nat} (h1 : 1 ≤ most) (h2 : most ≤ 60000) : Calls Try.prog 19 #[.func (.func 43) #[] lb, .int .i64 most] w fun e w' => ∃ A c, e = .returned (.slice A (T.take most).length c) ∧ PRd w' A (T.take most).length (T.take most) ∧ Ext w w' := by
  obtain ⟨n, h3, h4⟩ := h
  exact collect_any h3 h1 h2 h4
end Go.Proofs.Ytpengejnjmicnaa
end
