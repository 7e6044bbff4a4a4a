import Derived.Test.YtjdppgogdilgkaaQA
section
namespace Go.Proofs.Ytjdppgogdilgkaa
open Go.RowKit Go.Gf Go.Co Go.Conc
set_option linter.unusedSimpArgs false
set_option linter.unusedVariables false
theorem sz9 : (Try.prog.info? 9).map (·.size) = some 1 := by kernel_rfl
theorem ev_len9 (w : World) (s : ByteArray) (es : Array Event) : (Builtin.len_ #[9] 3 #[.string s]).events Try.prog w es = es := by simp [Builtin.len_, run_underlying Try.underlying9]
theorem ev_idx9 (w : World) (s : ByteArray) (k : Nat) (es : Array Event) (hk : (k : Int) < (s.size : Int)) : (Instr.index 9 (.string s) (.int .i64 (k : Int))).events Try.prog w es = es := by
  have h0 : 0 ≤ (k : Int) := by omega
  have h1 : k < s.size := by omega
  simp only [Instr.index, asIntOf, Sem.events_bind, Sem.run_pure, Sem.events_pure, Result.evThen_ok, run_underlying Try.underlying9, events_underlying, h0, if_true, Int.toNat_natCast]
  rw [getElem?_pos s k h1]
  rfl
set_option maxHeartbeats 4000000 in
set_option maxRecDepth 100000 in
theorem sum_v {n0 : Nat} {main : Bool} {Z : View → Frame → List Frame → Prop} (hZ : OwnV n0 Try.prog main Z) (V : View) (c : ByteArray) (A : Option Addr) (n cap : Nat) (l : List ByteArray) (hlen : l.length = n)
    (hr : 0 < n → ∃ gr o m R tr fr, A = some ⟨gr, o, none⟩ ∧ V gr = some (m, .cells R tr fr) ∧ ∀ j, j < n → R[o + j]? = some (.string (l.getD j { data := #[] }))) (hn : n ≤ 1048576) (hz : ∀ s ∈ l, s.size ≤ 1048576) :
    CallsV Try.prog Z 40 #[.string c, .slice A n cap] V fun v V' => v = .tuple #[.string (sumV c l), .int .i64 (sumE c l)] ∧ VExt V V' := by
  refine callsV_of_wp hZ Try.func40 rfl ?_
  simp only [Try.ntmps40, List.size_toArray, List.length_cons, List.length_nil, Nat.reduceAdd, Nat.reduceSub, Array.replicate_succ, Array.replicate_zero, List.push_toArray, List.append_toArray, List.nil_append, List.cons_append]
  have HY := Lib.hid (sum_yes c l)
  have HN := Lib.hid (sum_no c l)
  by_cases h1 : c.size = n
  · by_cases h2 : n = 0
    · have h3 : SumOk c l := ⟨by omega, fun s hs => by have := List.length_pos_of_mem hs; omega⟩
      have hl : l = [] := List.eq_nil_of_length_eq_zero (by omega)
      have HV := Lib.hid (show sumV c l = { data := #[] } ∧ sumE c l = 0 by rw [(HY.out h3).1, (HY.out h3).2]; subst hl; exact ⟨rfl, rfl⟩)
      have e1 : ((c.size : Int) != (n : Int)) = false := by rw [h1]; simp
      have e2 : ((n : Int) == 0) = true := by rw [h2]; rfl
      clear h1 h2 h3 hl HY HN hlen hr hz
      refine wpV_seq hZ ?_
      refine wpV_region hZ ?_
      simp only [List.size_toArray, List.length_cons, List.length_nil, Nat.reduceAdd, Nat.zero_add, List.range, List.range.loop]
      refine opsV_k hZ rfl (by rfl) ?_
      intro w hS hL K hK
      go_simp
      refine hK _ _ ?_
      clear hK K
      refine .quiet hS hL (by first | rfl | simp [go_sem, ev_len9, ev_idx9, *]) ?_
      clear hS hL w
      refine opsV_k hZ rfl (by rfl) ?_
      intro w hS hL K hK
      go_simp
      refine hK _ _ ?_
      clear hK K
      refine .quiet hS hL (by first | rfl | simp [go_sem, ev_len9, ev_idx9, *]) ?_
      clear hS hL w
      refine opsV_nil hZ ?_
      simp only [NxV]
      refine wpV_seq hZ ?_
      refine wpV_seq hZ ?_
      refine wpV_region hZ ?_
      simp only [List.size_toArray, List.length_cons, List.length_nil, Nat.reduceAdd, Nat.zero_add, List.range, List.range.loop]
      refine opsV_k hZ rfl (by rfl) ?_
      intro w hS hL K hK
      go_simp
      refine hK _ _ ?_
      clear hK K
      refine .quiet hS hL (by first | rfl | simp [go_sem, ev_len9, ev_idx9, *]) ?_
      clear hS hL w
      refine opsV_k hZ rfl (by rfl) ?_
      intro w hS hL K hK
      go_simp
      refine hK _ _ ?_
      clear hK K
      refine .quiet hS hL (by first | rfl | simp [go_sem, ev_len9, ev_idx9, *]) ?_
      clear hS hL w
      refine opsV_k hZ rfl (by rfl) ?_
      intro w hS hL K hK
      go_simp
      refine hK _ _ ?_
      clear hK K
      refine .quiet hS hL (by first | rfl | simp [go_sem, ev_len9, ev_idx9, *]) ?_
      clear hS hL w
      refine opsV_k hZ rfl (by rfl) ?_
      intro w hS hL K hK
      go_simp
      refine hK _ _ ?_
      clear hK K
      refine .quiet hS hL (by first | rfl | simp [go_sem, ev_len9, ev_idx9, *]) ?_
      clear hS hL w
      refine opsV_k hZ rfl (by rfl) ?_
      intro w hS hL K hK
      go_simp
      refine hK _ _ ?_
      clear hK K
      refine .quiet hS hL (by first | rfl | simp [go_sem, ev_len9, ev_idx9, *]) ?_
      clear hS hL w
      refine opsV_nil hZ ?_
      simp only [NxV]
      refine wpV_cond hZ (t := false) (by first | rfl | simp [Act.eval, *]) ?_
      simp only [Bool.false_eq_true, if_true, if_false, reduceIte]
      refine wpV_skip hZ ?_
      simp only [NxV]
      refine wpV_seq hZ ?_
      refine wpV_seq hZ ?_
      refine wpV_region hZ ?_
      simp only [List.size_toArray, List.length_cons, List.length_nil, Nat.reduceAdd, Nat.zero_add, List.range, List.range.loop]
      refine opsV_k hZ rfl (by rfl) ?_
      intro w hS hL K hK
      go_simp
      refine hK _ _ ?_
      clear hK K
      refine .quiet hS hL (by first | rfl | simp [go_sem, ev_len9, ev_idx9, *]) ?_
      clear hS hL w
      refine opsV_k hZ rfl (by rfl) ?_
      intro w hS hL K hK
      go_simp
      refine hK _ _ ?_
      clear hK K
      refine .quiet hS hL (by first | rfl | simp [go_sem, ev_len9, ev_idx9, *]) ?_
      clear hS hL w
      refine opsV_k hZ rfl (by rfl) ?_
      intro w hS hL K hK
      go_simp
      refine hK _ _ ?_
      clear hK K
      refine .quiet hS hL (by first | rfl | simp [go_sem, ev_len9, ev_idx9, *]) ?_
      clear hS hL w
      refine opsV_nil hZ ?_
      simp only [NxV]
      refine wpV_cond hZ (t := true) (by first | rfl | simp [Act.eval, *]) ?_
      simp only [Bool.false_eq_true, if_true, if_false, reduceIte]
      refine wpV_seq hZ ?_
      refine wpV_region hZ ?_
      simp only [List.size_toArray, List.length_cons, List.length_nil, Nat.reduceAdd, Nat.zero_add, List.range, List.range.loop]
      refine opsV_k hZ rfl (by rfl) ?_
      intro w hS hL K hK
      go_simp
      refine hK _ _ ?_
      clear hK K
      refine .quiet hS hL (by first | rfl | simp [go_sem, ev_len9, ev_idx9, *]) ?_
      clear hS hL w
      refine opsV_k hZ rfl (by rfl) ?_
      intro w hS hL K hK
      go_simp
      refine hK _ _ ?_
      clear hK K
      refine .quiet hS hL (by first | rfl | simp [go_sem, ev_len9, ev_idx9, *]) ?_
      clear hS hL w
      refine opsV_nil hZ ?_
      simp only [NxV]
      refine wpV_ret hZ ?_
      try simp only [NxV, BlV]
      exact ⟨rfl, _, fun w hs => resultsV_tmp2 rfl rfl rfl w, by rw [HV.out.1, HV.out.2]; rfl, VExt.refl V⟩
    · have e1 : ((c.size : Int) != (n : Int)) = false := by rw [h1]; simp
      have e2 : ((n : Int) == 0) = false := by simp; omega
      obtain ⟨i0, hi0, hz0, hz1, hz2⟩ := info_parts info5
      obtain ⟨gr, o, m, R, tr, fr, rfl, hVr, hRr⟩ := hr (by omega)
      have hmem : ∀ j, j < n → l.getD j { data := #[] } ∈ l := fun j hj => by rw [List.getD_eq_getElem?_getD, List.getElem?_eq_getElem (by omega)]; exact List.getElem_mem _
      have HM := Lib.hid hmem
      have hz00 := hz _ (hmem 0 (by omega))
      have hR0 := hRr 0 (by omega)
      rw [Nat.add_zero] at hR0
      have HL0 := Lib.hid (show len0 l = (l.getD 0 { data := #[] }).size from rfl)
      generalize l.getD 0 { data := #[] } = s0 at *
      have HLEN := Lib.hid hlen
      have HC := Lib.hid h1
      have HVR := Lib.hid hVr
      have HRR := Lib.hid hRr
      have HR0 := Lib.hid hR0
      have c0 : (0 : Int) < (n : Int) := by omega
      clear hmem hlen h1 hVr hRr hR0 hr
      refine wpV_seq hZ ?_
      refine wpV_region hZ ?_
      simp only [List.size_toArray, List.length_cons, List.length_nil, Nat.reduceAdd, Nat.zero_add, List.range, List.range.loop]
      refine opsV_k hZ rfl (by rfl) ?_
      intro w hS hL K hK
      go_simp
      refine hK _ _ ?_
      clear hK K
      refine .quiet hS hL (by first | rfl | simp [go_sem, ev_len9, ev_idx9, *]) ?_
      clear hS hL w
      refine opsV_k hZ rfl (by rfl) ?_
      intro w hS hL K hK
      go_simp
      refine hK _ _ ?_
      clear hK K
      refine .quiet hS hL (by first | rfl | simp [go_sem, ev_len9, ev_idx9, *]) ?_
      clear hS hL w
      refine opsV_nil hZ ?_
      simp only [NxV]
      refine wpV_seq hZ ?_
      refine wpV_seq hZ ?_
      refine wpV_region hZ ?_
      simp only [List.size_toArray, List.length_cons, List.length_nil, Nat.reduceAdd, Nat.zero_add, List.range, List.range.loop]
      refine opsV_k hZ rfl (by rfl) ?_
      intro w hS hL K hK
      go_simp
      refine hK _ _ ?_
      clear hK K
      refine .quiet hS hL (by first | rfl | simp [go_sem, ev_len9, ev_idx9, *]) ?_
      clear hS hL w
      refine opsV_k hZ rfl (by rfl) ?_
      intro w hS hL K hK
      go_simp
      refine hK _ _ ?_
      clear hK K
      refine .quiet hS hL (by first | rfl | simp [go_sem, ev_len9, ev_idx9, *]) ?_
      clear hS hL w
      refine opsV_k hZ rfl (by rfl) ?_
      intro w hS hL K hK
      go_simp
      refine hK _ _ ?_
      clear hK K
      refine .quiet hS hL (by first | rfl | simp [go_sem, ev_len9, ev_idx9, *]) ?_
      clear hS hL w
      refine opsV_k hZ rfl (by rfl) ?_
      intro w hS hL K hK
      go_simp
      refine hK _ _ ?_
      clear hK K
      refine .quiet hS hL (by first | rfl | simp [go_sem, ev_len9, ev_idx9, *]) ?_
      clear hS hL w
      refine opsV_k hZ rfl (by rfl) ?_
      intro w hS hL K hK
      go_simp
      refine hK _ _ ?_
      clear hK K
      refine .quiet hS hL (by first | rfl | simp [go_sem, ev_len9, ev_idx9, *]) ?_
      clear hS hL w
      refine opsV_nil hZ ?_
      simp only [NxV]
      refine wpV_cond hZ (t := false) (by first | rfl | simp [Act.eval, *]) ?_
      simp only [Bool.false_eq_true, if_true, if_false, reduceIte]
      refine wpV_skip hZ ?_
      simp only [NxV]
      refine wpV_seq hZ ?_
      refine wpV_seq hZ ?_
      refine wpV_region hZ ?_
      simp only [List.size_toArray, List.length_cons, List.length_nil, Nat.reduceAdd, Nat.zero_add, List.range, List.range.loop]
      refine opsV_k hZ rfl (by rfl) ?_
      intro w hS hL K hK
      go_simp
      refine hK _ _ ?_
      clear hK K
      refine .quiet hS hL (by first | rfl | simp [go_sem, ev_len9, ev_idx9, *]) ?_
      clear hS hL w
      refine opsV_k hZ rfl (by rfl) ?_
      intro w hS hL K hK
      go_simp
      refine hK _ _ ?_
      clear hK K
      refine .quiet hS hL (by first | rfl | simp [go_sem, ev_len9, ev_idx9, *]) ?_
      clear hS hL w
      refine opsV_k hZ rfl (by rfl) ?_
      intro w hS hL K hK
      go_simp
      refine hK _ _ ?_
      clear hK K
      refine .quiet hS hL (by first | rfl | simp [go_sem, ev_len9, ev_idx9, *]) ?_
      clear hS hL w
      refine opsV_nil hZ ?_
      simp only [NxV]
      refine wpV_cond hZ (t := false) (by first | rfl | simp [Act.eval, *]) ?_
      simp only [Bool.false_eq_true, if_true, if_false, reduceIte]
      refine wpV_skip hZ ?_
      simp only [NxV]
      refine wpV_seq hZ ?_
      refine wpV_region hZ ?_
      simp only [List.size_toArray, List.length_cons, List.length_nil, Nat.reduceAdd, Nat.zero_add, List.range, List.range.loop]
      refine opsV_callOf hZ rfl (by rfl) rfl Try.func59 (by rfl) (by kernel_rfl) (by simp [Act.eval]) (tables_v hZ V) ?_
      rintro _ V1 ⟨rfl, hE1⟩
      simp only [Act.put, List.setIfInBounds_toArray, List.set_cons_zero, List.set_cons_succ]
      refine opsV_k hZ rfl (by rfl) ?_
      intro w hS hL K hK
      go_simp
      refine hK _ _ ?_
      clear hK K
      refine .quiet hS hL (by first | rfl | simp [go_sem, ev_len9, ev_idx9, *]) ?_
      clear hS hL w
      refine opsV_k hZ rfl (by rfl) ?_
      intro w hS hL K hK
      go_simp
      refine hK _ _ ?_
      clear hK K
      refine .quiet hS hL (by first | rfl | simp [go_sem, ev_len9, ev_idx9, *]) ?_
      clear hS hL w
      refine opsV_k hZ rfl (by rfl) ?_
      intro w hS hL K hK
      go_simp
      refine hK _ _ ?_
      clear hK K
      refine .quiet hS hL (by first | rfl | simp [go_sem, ev_len9, ev_idx9, *]) ?_
      clear hS hL w
      refine opsV_alloc hZ rfl (by rfl) (t := 103) rfl zero103 ?_
      intro gA hgA
      simp only [Act.put, List.setIfInBounds_toArray, List.set_cons_zero, List.set_cons_succ]
      refine opsV_alloc hZ rfl (by rfl) (t := 104) rfl zero104 ?_
      intro gB hgB
      simp only [Act.put, List.setIfInBounds_toArray, List.set_cons_zero, List.set_cons_succ]
      have neB : gB ≠ gA := fun e => by subst e; rw [View.set_same] at hgB; cases hgB
      have hgB' : V1 gB = none := by rw [View.set_ne _ _ _ neB] at hgB; exact hgB
      refine opsV_store hZ rfl (by rfl) rfl rfl (u := .agg ptL.toArray) rfl (A := ⟨gA, 0, none⟩) (c := Z103) (e := 103) (f := (0, 0)) ((View.set_ne _ _ _ (Ne.symm neB)).trans (View.set_same _ _ _ _)) (fun w hb => Go.Co.run_storeVar_row (size_of_map i1) sizeA oneA hb) ?_
      simp only [Act.put, List.setIfInBounds_toArray, List.set_cons_zero, List.set_cons_succ]
      refine opsV_store hZ rfl (by rfl) rfl rfl (u := .agg ltL.toArray) rfl (A := ⟨gB, 0, none⟩) (c := Z104) (e := 104) (f := (0, 0)) ((View.set_ne _ _ _ neB).trans (View.set_same _ _ _ _)) (fun w hb => Go.Co.run_storeVar_row (size_of_map i2) sizeB oneB hb) ?_
      simp only [Act.put, List.setIfInBounds_toArray, List.set_cons_zero, List.set_cons_succ]
      generalize hV2 : (((V1.set gA true (.cells (Value.agg Z103).cells 103 (0, 0))).set gB true (.cells (Value.agg Z104).cells 104 (0, 0))).set gA true (.cells ptL.toArray 103 (0, 0))).set gB true (.cells ltL.toArray 104 (0, 0)) = V2
      have HE12 := Lib.hid (show VExt V1 V2 by rw [← hV2]; exact ((((VExt.refl V1).set hgA).set hgB').set hgA).set hgB')
      have HE2 := Lib.hid (hE1.trans HE12.out)
      have HPA := Lib.hid (show V2 gA = some (true, .cells ptL.toArray 103 (0, 0)) by rw [← hV2, View.set_ne _ _ _ (Ne.symm neB), View.set_same])
      have HPB := Lib.hid (show V2 gB = some (true, .cells ltL.toArray 104 (0, 0)) by rw [← hV2, View.set_same])
      clear hV2 hgB hgA hgB' hE1 HE12
      refine opsV_nil hZ ?_
      simp only [NxV]
      refine wpV_seq hZ ?_
      refine wpV_region hZ ?_
      simp only [List.size_toArray, List.length_cons, List.length_nil, Nat.reduceAdd, Nat.zero_add, List.range, List.range.loop]
      refine opsV_k hZ rfl (by rfl) ?_
      intro w hS hL K hK
      go_simp
      refine hK _ _ ?_
      clear hK K
      refine .quiet hS hL (by first | rfl | simp [go_sem, ev_len9, ev_idx9, *]) ?_
      clear hS hL w
      refine opsV_pure hZ rfl (by rfl) (runT_index_slice rfl Try.underlying23 (by rfl) (size_of_map sz9) rfl rfl (j := 0) (by rfl) (by omega)) ?_
      simp only [Act.put, List.setIfInBounds_toArray, List.set_cons_zero, List.set_cons_succ]
      rw [Nat.add_zero]
      refine opsV_load1 hZ rfl (by rfl) rfl rfl (isAgg_no Try.underlying9 rfl) (HE2.out _ _ HVR.out) (v := .string s0) HR0.out ?_
      simp only [Act.put, List.setIfInBounds_toArray, List.set_cons_zero, List.set_cons_succ]
      refine opsV_k hZ rfl (by rfl) ?_
      intro w hS hL K hK
      go_simp
      refine hK _ _ ?_
      clear hK K
      refine .quiet hS hL (by first | rfl | simp [go_sem, ev_len9, ev_idx9, *]) ?_
      clear hS hL w
      refine opsV_make hZ rfl (by rfl) rfl Try.underlying41 hi0 hz0 hz1 (m := s0.size) rfl rfl (by rw [hz2]; omega) (by omega) ?_
      intro gb hgb
      simp only [Act.put, List.setIfInBounds_toArray, List.set_cons_zero, List.set_cons_succ]
      rw [madeCells_one _ _ rfl]
      have HEN := Lib.hid (show ∀ b r, V b = some r → b ≠ gb from fun b r hb e => by subst e; rw [HE2.out _ _ hb] at hgb; cases hgb)
      have neA1 : gA ≠ gb := fun e => by subst e; rw [HPA.out] at hgb; cases hgb
      have neB1 : gB ≠ gb := fun e => by subst e; rw [HPB.out] at hgb; cases hgb
      generalize hV3 : V2.set gb true (.cells (tabA s0.size (fun _ => Value.int .u8 0)) 5 (0, 0)) = V3
      have HE3 := Lib.hid (show VExt V V3 by rw [← hV3]; exact HE2.out.trans ((VExt.refl V2).set hgb))
      have HPA3 := Lib.hid (show V3 gA = some (true, .cells ptL.toArray 103 (0, 0)) by rw [← hV3, View.set_ne _ _ _ neA1]; exact HPA.out)
      have HPB3 := Lib.hid (show V3 gB = some (true, .cells ltL.toArray 104 (0, 0)) by rw [← hV3, View.set_ne _ _ _ neB1]; exact HPB.out)
      have HPb3 := Lib.hid (show V3 gb = some (true, .cells (tabA s0.size (u8c (acc c l 0))) 5 (0, 0)) by rw [← hV3, View.set_same]; rfl)
      clear hV3 hgb HPA HPB HE2
      refine opsV_k hZ rfl (by rfl) ?_
      intro w hS hL K hK
      go_simp
      refine hK _ _ ?_
      clear hK K
      refine .quiet hS hL (by first | rfl | simp [go_sem, ev_len9, ev_idx9, *]) ?_
      clear hS hL w
      refine opsV_nil hZ ?_
      simp only [NxV]
      refine wpV_seq hZ ?_
      refine wpV_seq hZ ?_
      refine wpV_region hZ ?_
      simp only [List.size_toArray, List.length_cons, List.length_nil, Nat.reduceAdd, Nat.zero_add, List.range, List.range.loop]
      refine opsV_k hZ rfl (by rfl) ?_
      intro w hS hL K hK
      go_simp
      refine hK _ _ ?_
      clear hK K
      refine .quiet hS hL (by first | rfl | simp [go_sem, ev_len9, ev_idx9, *]) ?_
      clear hS hL w
      refine opsV_k hZ rfl (by rfl) ?_
      intro w hS hL K hK
      go_simp
      refine hK _ _ ?_
      clear hK K
      refine .quiet hS hL (by first | rfl | simp [go_sem, ev_len9, ev_idx9, *]) ?_
      clear hS hL w
      refine opsV_k hZ rfl (by rfl) ?_
      intro w hS hL K hK
      go_simp
      refine hK _ _ ?_
      clear hK K
      refine .quiet hS hL (by first | rfl | simp [go_sem, ev_len9, ev_idx9, *]) ?_
      clear hS hL w
      refine opsV_nil hZ ?_
      simp only [NxV]
      refine wpV_block hZ ?_
      refine wpV_loop hZ (fun m a V4 => ∃ k : Nat, k ≤ n ∧ m = n - k ∧ VExt V V4 ∧ V4 gA = some (true, .cells ptL.toArray 103 (0, 0)) ∧ V4 gB = some (true, .cells ltL.toArray 104 (0, 0)) ∧ V4 gb = some (true, .cells (tabA s0.size (u8c (acc c l k))) 5 (0, 0)) ∧ (∀ j, j < k → (l.getD j { data := #[] }).size = s0.size) ∧ ∃ x2 x3 x4 x5 x9 x10 x11 x12 x13 x14 x15 x16 x17 x18 x19 x20 x21 x22 x23 x24 x25 x26 x27 x31 x32 x33 x34 x35 x36 x37 x38 x39 x40 x41 x42 x43 x44 x45 x46 x47 x48, a = ⟨#[.string c, .slice (some ⟨gr, o, none⟩) n cap, x2, x3, x4, x5, .pointer (some ⟨gA, 0, none⟩), .pointer (some ⟨gB, 0, none⟩), .slice (some ⟨gb, 0, none⟩) s0.size s0.size, x9, x10, x11, x12, x13, x14, x15, x16, x17, x18, x19, x20, x21, x22, x23, x24, x25, x26, x27, .slice (some ⟨gr, o, none⟩) n cap, .int .i64 n, .int .i64 k, x31, x32, x33, x34, x35, x36, x37, x38, x39, x40, x41, x42, x43, x44, x45, x46, x47, x48], []⟩) n ⟨0, by omega, rfl, HE3.out, HPA3.out, HPB3.out, HPb3.out, fun j hj => by omega, _, _, _, _, _, _, _, _, _, _, _, _, _, _, _, _, _, _, _, _, _, _, _, _, _, _, _, _, _, _, _, _, _, _, _, _, _, _, _, _, _, rfl⟩ ?_
      clear HE3 HPA3 HPB3 HPb3
      rintro m a V4 ⟨k, hk, rfl, hE, hA, hB, hb, hall, _, _, _, _, _, _, _, _, _, _, _, _, _, _, _, _, _, _, _, _, _, _, _, _, _, _, _, _, _, _, _, _, _, _, _, _, _, _, _, _, _, rfl⟩
      have HE := Lib.hid hE
      have HA := Lib.hid hA
      have HB := Lib.hid hB
      have Hb := Lib.hid hb
      have HALL := Lib.hid hall
      clear hE hA hB hb hall
      by_cases hk2 : k < n
      · have c1 : decide ((k : Int) < (n : Int)) = true := by simp; omega
        have k9 : IntKind.i64.wrap ((k : Int) + 1) = (k : Int) + 1 := IntWalk.i64_in _ (by omega)
        have hRk := HRR.out k hk2
        have hmk := HM.out k hk2
        have hzk := hz _ hmk
        have HG := Lib.hid (show acc c l (k + 1) = fun i => acc c l k i ^^^ fm (bn c k) (bn (l.getD k { data := #[] }) i) from rfl)
        have HAK := Lib.hid (show (l.getD k { data := #[] }).size = s0.size → ∀ j, j < k + 1 → (l.getD j { data := #[] }).size = s0.size from fun h j hj => by
          by_cases e : j = k
          · rw [e]; exact h
          · exact HALL.out j (by omega))
        generalize l.getD k { data := #[] } = sk at *
        have HRK := Lib.hid hRk
        have HMK := Lib.hid hmk
        have hck := bt_get c k (by rw [HC.out]; exact hk2)
        rw [bt_bn] at hck
        have hcn : (k : Int) < (c.size : Int) := by rw [HC.out]; omega
        clear hRk hmk
        refine wpV_seq hZ ?_
        refine wpV_region hZ ?_
        simp only [List.size_toArray, List.length_cons, List.length_nil, Nat.reduceAdd, Nat.zero_add, List.range, List.range.loop]
        refine opsV_k hZ rfl (by rfl) ?_
        intro w hS hL K hK
        go_simp
        refine hK _ _ ?_
        clear hK K
        refine .quiet hS hL (by first | rfl | simp [go_sem, ev_len9, ev_idx9, *]) ?_
        clear hS hL w
        refine opsV_nil hZ ?_
        simp only [NxV]
        refine wpV_seq hZ ?_
        refine wpV_cond hZ (t := true) (by first | rfl | simp [Act.eval, *]) ?_
        simp only [Bool.false_eq_true, if_true, if_false, reduceIte]
        refine wpV_skip hZ ?_
        simp only [NxV]
        refine wpV_seq hZ ?_
        refine wpV_block hZ ?_
        refine wpV_seq hZ ?_
        refine wpV_region hZ ?_
        simp only [List.size_toArray, List.length_cons, List.length_nil, Nat.reduceAdd, Nat.zero_add, List.range, List.range.loop]
        refine opsV_k hZ rfl (by rfl) ?_
        intro w hS hL K hK
        go_simp
        refine hK _ _ ?_
        clear hK K
        refine .quiet hS hL (by first | rfl | simp [go_sem, ev_len9, ev_idx9, *]) ?_
        clear hS hL w
        refine opsV_pure hZ rfl (by rfl) (runT_index_slice rfl Try.underlying23 (by rfl) (size_of_map sz9) rfl rfl (j := k) (by rfl) (by omega)) ?_
        simp only [Act.put, List.setIfInBounds_toArray, List.set_cons_zero, List.set_cons_succ]
        refine opsV_load1 hZ rfl (by rfl) rfl rfl (isAgg_no Try.underlying9 rfl) (HE.out _ _ HVR.out) (v := .string sk) HRK.out ?_
        simp only [Act.put, List.setIfInBounds_toArray, List.set_cons_zero, List.set_cons_succ]
        refine opsV_k hZ rfl (by rfl) ?_
        intro w hS hL K hK
        go_simp
        refine hK _ _ ?_
        clear hK K
        refine .quiet hS hL (by first | rfl | simp [go_sem, ev_len9, ev_idx9, *]) ?_
        clear hS hL w
        refine opsV_k hZ rfl (by rfl) ?_
        intro w hS hL K hK
        go_simp
        refine hK _ _ ?_
        clear hK K
        refine .quiet hS hL (by first | rfl | simp [go_sem, ev_len9, ev_idx9, *]) ?_
        clear hS hL w
        refine opsV_nil hZ ?_
        simp only [NxV]
        refine wpV_seq hZ ?_
        refine wpV_seq hZ ?_
        refine wpV_region hZ ?_
        simp only [List.size_toArray, List.length_cons, List.length_nil, Nat.reduceAdd, Nat.zero_add, List.range, List.range.loop]
        refine opsV_k hZ rfl (by rfl) ?_
        intro w hS hL K hK
        go_simp
        refine hK _ _ ?_
        clear hK K
        refine .quiet hS hL (by first | rfl | simp [go_sem, ev_len9, ev_idx9, *]) ?_
        clear hS hL w
        refine opsV_k hZ rfl (by rfl) ?_
        intro w hS hL K hK
        go_simp
        refine hK _ _ ?_
        clear hK K
        refine .quiet hS hL (by first | rfl | simp [go_sem, ev_len9, ev_idx9, *]) ?_
        clear hS hL w
        refine opsV_k hZ rfl (by rfl) ?_
        intro w hS hL K hK
        go_simp
        refine hK _ _ ?_
        clear hK K
        refine .quiet hS hL (by first | rfl | simp [go_sem, ev_len9, ev_idx9, *]) ?_
        clear hS hL w
        refine opsV_k hZ rfl (by rfl) ?_
        intro w hS hL K hK
        go_simp
        refine hK _ _ ?_
        clear hK K
        refine .quiet hS hL (by first | rfl | simp [go_sem, ev_len9, ev_idx9, *]) ?_
        clear hS hL w
        refine opsV_k hZ rfl (by rfl) ?_
        intro w hS hL K hK
        go_simp
        refine hK _ _ ?_
        clear hK K
        refine .quiet hS hL (by first | rfl | simp [go_sem, ev_len9, ev_idx9, *]) ?_
        clear hS hL w
        refine opsV_nil hZ ?_
        simp only [NxV]
        by_cases hs : sk.size = s0.size
        · have e3 : ((sk.size : Int) != (s0.size : Int)) = false := by rw [hs]; simp
          have HS := Lib.hid hs
          clear hs
          refine wpV_cond hZ (t := false) (by first | rfl | simp [Act.eval, *]) ?_
          simp only [Bool.false_eq_true, if_true, if_false, reduceIte]
          refine wpV_skip hZ ?_
          simp only [NxV]
          refine wpV_region hZ ?_
          simp only [List.size_toArray, List.length_cons, List.length_nil, Nat.reduceAdd, Nat.zero_add, List.range, List.range.loop]
          refine opsV_k hZ rfl (by rfl) ?_
          intro w hS hL K hK
          go_simp
          refine hK _ _ ?_
          clear hK K
          refine .quiet hS hL (by first | rfl | simp [go_sem, ev_len9, ev_idx9, *]) ?_
          clear hS hL w
          refine opsV_k hZ rfl (by rfl) ?_
          intro w hS hL K hK
          go_simp
          refine hK _ _ ?_
          clear hK K
          refine .quiet hS hL (by first | rfl | simp [go_sem, ev_len9, ev_idx9, *]) ?_
          clear hS hL w
          refine opsV_k hZ rfl (by rfl) ?_
          intro w hS hL K hK
          go_simp
          refine hK _ _ ?_
          clear hK K
          refine .quiet hS hL (by first | rfl | simp [go_sem, ev_len9, ev_idx9, *]) ?_
          clear hS hL w
          refine opsV_k hZ rfl (by rfl) ?_
          intro w hS hL K hK
          go_simp
          refine hK _ _ ?_
          clear hK K
          refine .quiet hS hL (by first | rfl | simp [go_sem, ev_len9, ev_idx9, *]) ?_
          clear hS hL w
          refine opsV_k hZ rfl (by rfl) ?_
          intro w hS hL K hK
          go_simp
          refine hK _ _ ?_
          clear hK K
          refine .quiet hS hL (by first | rfl | simp [go_sem, ev_len9, ev_idx9, *]) ?_
          clear hS hL w
          refine opsV_callOf hZ rfl (by rfl) rfl Try.func60 (by rfl) (by kernel_rfl) (by simp [Act.eval]) (plus_v hZ V4 (g := gb) (n := s0.size) (cap := s0.size) (c := bn c k) (s := sk) (g1 := gA) (g2 := gB) (f := acc c l k) Hb.out HA.out HB.out HS.out (by omega) (bn_lt _ _) (acc_lt c l k)) ?_
          rintro _ V5 ⟨rfl, hO, hb5⟩
          simp only [Act.put, List.setIfInBounds_toArray, List.set_cons_zero, List.set_cons_succ]
          have HE5 := Lib.hid (show VExt V V5 from fun b r hb => hO b r (HEN.out b r hb) (HE.out b r hb))
          have HA5 := Lib.hid (hO _ _ neA1 HA.out)
          have HB5 := Lib.hid (hO _ _ neB1 HB.out)
          have Hb5 := Lib.hid (show V5 gb = some (true, .cells (tabA s0.size (u8c (acc c l (k + 1)))) 5 (0, 0)) by
            rw [← tabA_congr s0.size (u8c (addP (bn c k) sk s0.size (acc c l k))) (u8c (acc c l (k + 1))) (fun i hi => by unfold u8c addP; rw [if_pos hi, HG.out])]; exact hb5)
          clear hO hb5
          refine opsV_nil hZ ?_
          simp only [BlV, NxV]
          refine wpV_region hZ ?_
          simp only [List.size_toArray, List.length_cons, List.length_nil, Nat.reduceAdd, Nat.zero_add, List.range, List.range.loop]
          refine opsV_k hZ rfl (by rfl) ?_
          intro w hS hL K hK
          go_simp
          refine hK _ _ ?_
          clear hK K
          refine .quiet hS hL (by first | rfl | simp [go_sem, ev_len9, ev_idx9, *]) ?_
          clear hS hL w
          refine opsV_k hZ rfl (by rfl) ?_
          intro w hS hL K hK
          go_simp
          refine hK _ _ ?_
          clear hK K
          refine .quiet hS hL (by first | rfl | simp [go_sem, ev_len9, ev_idx9, *]) ?_
          clear hS hL w
          refine opsV_nil hZ ?_
          simp only [BlV, NxV]
          exact ⟨n - (k + 1), by omega, k + 1, by omega, rfl, HE5.out, HA5.out, HB5.out, Hb5.out, HAK.out HS.out, _, _, _, _, _, _, _, _, _, _, _, _, _, _, _, _, _, _, _, _, _, _, _, _, _, _, _, _, _, _, _, _, _, _, _, _, _, _, _, _, _, rfl⟩
        · have h3 : ¬ SumOk c l := fun h => hs (by rw [h.2 sk HMK.out, HL0.out])
          have HV := Lib.hid (HN.out h3)
          have e3 : ((sk.size : Int) != (s0.size : Int)) = true := by simp; omega
          clear hs h3
          refine wpV_cond hZ (t := true) (by first | rfl | simp [Act.eval, *]) ?_
          simp only [Bool.false_eq_true, if_true, if_false, reduceIte]
          refine wpV_seq hZ ?_
          refine wpV_region hZ ?_
          simp only [List.size_toArray, List.length_cons, List.length_nil, Nat.reduceAdd, Nat.zero_add, List.range, List.range.loop]
          refine opsV_k hZ rfl (by rfl) ?_
          intro w hS hL K hK
          go_simp
          refine hK _ _ ?_
          clear hK K
          refine .quiet hS hL (by first | rfl | simp [go_sem, ev_len9, ev_idx9, *]) ?_
          clear hS hL w
          refine opsV_k hZ rfl (by rfl) ?_
          intro w hS hL K hK
          go_simp
          refine hK _ _ ?_
          clear hK K
          refine .quiet hS hL (by first | rfl | simp [go_sem, ev_len9, ev_idx9, *]) ?_
          clear hS hL w
          refine opsV_nil hZ ?_
          simp only [NxV]
          refine wpV_ret hZ ?_
          try simp only [NxV, BlV]
          exact ⟨rfl, _, fun w hs => resultsV_tmp2 rfl rfl rfl w, by rw [HV.out.1, HV.out.2]; rfl, HE.out⟩
      · obtain rfl : k = n := by omega
        have c1 : decide ((k : Int) < (k : Int)) = false := by simp
        have h3 : SumOk c l := ⟨by rw [HC.out, HLEN.out], fun s h => by
          rw [HL0.out]
          obtain ⟨j, hj, e⟩ := List.getElem_of_mem h
          have := HALL.out j (by rw [← HLEN.out]; exact hj)
          rw [List.getD_eq_getElem?_getD, List.getElem?_eq_getElem hj] at this
          rw [← e]; exact this⟩
        have hv := HY.out h3
        rw [HL0.out, HLEN.out] at hv
        have HV := Lib.hid hv
        clear hv h3
        refine wpV_seq hZ ?_
        refine wpV_region hZ ?_
        simp only [List.size_toArray, List.length_cons, List.length_nil, Nat.reduceAdd, Nat.zero_add, List.range, List.range.loop]
        refine opsV_k hZ rfl (by rfl) ?_
        intro w hS hL K hK
        go_simp
        refine hK _ _ ?_
        clear hK K
        refine .quiet hS hL (by first | rfl | simp [go_sem, ev_len9, ev_idx9, *]) ?_
        clear hS hL w
        refine opsV_nil hZ ?_
        simp only [NxV]
        refine wpV_seq hZ ?_
        refine wpV_cond hZ (t := false) (by first | rfl | simp [Act.eval, *]) ?_
        simp only [Bool.false_eq_true, if_true, if_false, reduceIte]
        refine wpV_exit hZ ?_
        simp only [NxV, BlV, if_true]
        refine wpV_seq hZ ?_
        refine wpV_region hZ ?_
        simp only [List.size_toArray, List.length_cons, List.length_nil, Nat.reduceAdd, Nat.zero_add, List.range, List.range.loop]
        refine opsV_k hZ rfl (by rfl) ?_
        intro w hS hL K hK
        go_simp
        refine hK _ _ ?_
        clear hK K
        refine .quiet hS hL (by first | rfl | simp [go_sem, ev_len9, ev_idx9, *]) ?_
        clear hS hL w
        refine opsV_bytesStr hZ rfl (by rfl) rfl Try.underlying41 Try.underlying5 Try.underlying9 rfl Hb.out (s := strN s0.size (acc c l k)) (strN_size _ _) (fun j hj => ?_) ?_
        · rw [Nat.zero_add, tabA_at _ _ _ hj]
          have e1 : ((strN s0.size (acc c l k)).data.toList.getD j 0).toNat = acc c l k j := bn_strN s0.size (acc c l k) j hj (acc_lt c l k j)
          rw [e1]; rfl
        simp only [Act.put, List.setIfInBounds_toArray, List.set_cons_zero, List.set_cons_succ]
        refine opsV_k hZ rfl (by rfl) ?_
        intro w hS hL K hK
        go_simp
        refine hK _ _ ?_
        clear hK K
        refine .quiet hS hL (by first | rfl | simp [go_sem, ev_len9, ev_idx9, *]) ?_
        clear hS hL w
        refine opsV_k hZ rfl (by rfl) ?_
        intro w hS hL K hK
        go_simp
        refine hK _ _ ?_
        clear hK K
        refine .quiet hS hL (by first | rfl | simp [go_sem, ev_len9, ev_idx9, *]) ?_
        clear hS hL w
        refine opsV_nil hZ ?_
        simp only [NxV]
        refine wpV_ret hZ ?_
        try simp only [NxV, BlV]
        exact ⟨rfl, _, fun w hs => resultsV_tmp2 rfl rfl rfl w, by rw [HV.out.1, HV.out.2]; rfl, HE.out⟩
  · have h3 : ¬ SumOk c l := fun h => h1 (by rw [h.1]; exact hlen)
    have HV := Lib.hid (HN.out h3)
    have e1 : ((c.size : Int) != (n : Int)) = true := by simp; omega
    clear h1 h3 HY HN hlen hr hz
    refine wpV_seq hZ ?_
    refine wpV_region hZ ?_
    simp only [List.size_toArray, List.length_cons, List.length_nil, Nat.reduceAdd, Nat.zero_add, List.range, List.range.loop]
    refine opsV_k hZ rfl (by rfl) ?_
    intro w hS hL K hK
    go_simp
    refine hK _ _ ?_
    clear hK K
    refine .quiet hS hL (by first | rfl | simp [go_sem, ev_len9, ev_idx9, *]) ?_
    clear hS hL w
    refine opsV_k hZ rfl (by rfl) ?_
    intro w hS hL K hK
    go_simp
    refine hK _ _ ?_
    clear hK K
    refine .quiet hS hL (by first | rfl | simp [go_sem, ev_len9, ev_idx9, *]) ?_
    clear hS hL w
    refine opsV_nil hZ ?_
    simp only [NxV]
    refine wpV_seq hZ ?_
    refine wpV_seq hZ ?_
    refine wpV_region hZ ?_
    simp only [List.size_toArray, List.length_cons, List.length_nil, Nat.reduceAdd, Nat.zero_add, List.range, List.range.loop]
    refine opsV_k hZ rfl (by rfl) ?_
    intro w hS hL K hK
    go_simp
    refine hK _ _ ?_
    clear hK K
    refine .quiet hS hL (by first | rfl | simp [go_sem, ev_len9, ev_idx9, *]) ?_
    clear hS hL w
    refine opsV_k hZ rfl (by rfl) ?_
    intro w hS hL K hK
    go_simp
    refine hK _ _ ?_
    clear hK K
    refine .quiet hS hL (by first | rfl | simp [go_sem, ev_len9, ev_idx9, *]) ?_
    clear hS hL w
    refine opsV_k hZ rfl (by rfl) ?_
    intro w hS hL K hK
    go_simp
    refine hK _ _ ?_
    clear hK K
    refine .quiet hS hL (by first | rfl | simp [go_sem, ev_len9, ev_idx9, *]) ?_
    clear hS hL w
    refine opsV_k hZ rfl (by rfl) ?_
    intro w hS hL K hK
    go_simp
    refine hK _ _ ?_
    clear hK K
    refine .quiet hS hL (by first | rfl | simp [go_sem, ev_len9, ev_idx9, *]) ?_
    clear hS hL w
    refine opsV_k hZ rfl (by rfl) ?_
    intro w hS hL K hK
    go_simp
    refine hK _ _ ?_
    clear hK K
    refine .quiet hS hL (by first | rfl | simp [go_sem, ev_len9, ev_idx9, *]) ?_
    clear hS hL w
    refine opsV_nil hZ ?_
    simp only [NxV]
    refine wpV_cond hZ (t := true) (by first | rfl | simp [Act.eval, *]) ?_
    simp only [Bool.false_eq_true, if_true, if_false, reduceIte]
    refine wpV_seq hZ ?_
    refine wpV_region hZ ?_
    simp only [List.size_toArray, List.length_cons, List.length_nil, Nat.reduceAdd, Nat.zero_add, List.range, List.range.loop]
    refine opsV_k hZ rfl (by rfl) ?_
    intro w hS hL K hK
    go_simp
    refine hK _ _ ?_
    clear hK K
    refine .quiet hS hL (by first | rfl | simp [go_sem, ev_len9, ev_idx9, *]) ?_
    clear hS hL w
    refine opsV_k hZ rfl (by rfl) ?_
    intro w hS hL K hK
    go_simp
    refine hK _ _ ?_
    clear hK K
    refine .quiet hS hL (by first | rfl | simp [go_sem, ev_len9, ev_idx9, *]) ?_
    clear hS hL w
    refine opsV_nil hZ ?_
    simp only [NxV]
    refine wpV_ret hZ ?_
    try simp only [NxV, BlV]
    exact ⟨rfl, _, fun w hs => resultsV_tmp2 rfl rfl rfl w, by rw [HV.out.1, HV.out.2]; rfl, VExt.refl V⟩
end Go.Proofs.Ytjdppgogdilgkaa
end
