import Derived.Test.YtjdppgogdilgkaaKG
import Derived.Test.YtjdppgogdilgkaaBA
section
namespace Go.Proofs.Ytjdppgogdilgkaa
open Go.RowKit Go.Gf Go.Co Go.Conc
theorem sz3 : (Try.prog.info? 3).map (·.size) = some 1 := by kernel_rfl
theorem sz5 : (Try.prog.info? 5).map (·.size) = some 1 := by kernel_rfl
set_option linter.unusedSimpArgs false
set_option linter.unusedVariables false
set_option maxRecDepth 100000 in
theorem tables_v {n : Nat} {main : Bool} {Z : View → Frame → List Frame → Prop} (hZ : OwnV n Try.prog main Z) (V : View) :
    CallsV Try.prog Z 59 #[] V fun v V' => v = .tuple #[.agg ptL.toArray, .agg ltL.toArray] ∧ VExt V V' := by
  refine callsV_of_wp hZ Try.func59 rfl ?_
  simp only [Try.ntmps59, List.size_toArray, List.length_cons, List.length_nil, Nat.reduceAdd, Nat.reduceSub, Array.replicate_succ, Array.replicate_zero, List.push_toArray, List.append_toArray, List.nil_append, List.cons_append]
  refine wpV_seq hZ ?_
  refine wpV_region hZ ?_
  simp only [List.size_toArray, List.length_cons, List.length_nil, Nat.reduceAdd, Nat.zero_add, List.range, List.range.loop]
  refine opsV_alloc hZ rfl (by rfl) (t := 103) rfl zero103 ?_
  intro g1 hg1
  simp only [Act.put, List.setIfInBounds_toArray, List.set_cons_zero, List.set_cons_succ]
  refine opsV_alloc hZ rfl (by rfl) (t := 104) rfl zero104 ?_
  intro g2 hg2
  simp only [Act.put, List.setIfInBounds_toArray, List.set_cons_zero, List.set_cons_succ]
  have hne : g2 ≠ g1 := fun e => by subst e; rw [View.set_same] at hg2; cases hg2
  have hg2' : V g2 = none := by rw [View.set_ne _ _ _ hne] at hg2; exact hg2
  generalize hV0 : (V.set g1 true (.cells (Value.agg Z103).cells 103 (0, 0))).set g2 true (.cells (Value.agg Z104).cells 104 (0, 0)) = V0
  have hE0 : VExt V V0 := by rw [← hV0]; exact ((VExt.refl V).set hg1).set hg2'
  have hp0 : V0 g1 = some (true, .cells (ptTo 0) 103 (0, 0)) := by rw [← hV0, View.set_ne _ _ _ (Ne.symm hne), View.set_same]; rfl
  have hl0 : V0 g2 = some (true, .cells (ltTo 0) 104 (0, 0)) := by rw [← hV0, View.set_same]; rfl
  clear hV0 hg2
  refine opsV_nil hZ ?_
  simp only [NxV]
  refine wpV_seq hZ ?_
  refine wpV_region hZ ?_
  simp only [List.size_toArray, List.length_cons, List.length_nil, Nat.reduceAdd, Nat.zero_add, List.range, List.range.loop]
  refine opsV_k hZ rfl (by rfl) ?_
  intro w hS hL K hK
  go_simp
  refine hK _ _ ?_
  clear hK K
  refine .quiet hS hL (by first | rfl | simp [go_sem, *]) ?_
  clear hS hL w
  refine opsV_nil hZ ?_
  simp only [NxV]
  refine wpV_seq hZ ?_
  refine wpV_seq hZ ?_
  refine wpV_region hZ ?_
  simp only [List.size_toArray, List.length_cons, List.length_nil, Nat.reduceAdd, Nat.zero_add, List.range, List.range.loop]
  refine opsV_k hZ rfl (by rfl) ?_
  intro w hS hL K hK
  go_simp
  refine hK _ _ ?_
  clear hK K
  refine .quiet hS hL (by first | rfl | simp [go_sem, *]) ?_
  clear hS hL w
  refine opsV_nil hZ ?_
  simp only [NxV]
  refine wpV_block hZ ?_
  refine wpV_loop hZ (fun m a V1 => ∃ k : Nat, k ≤ 255 ∧ m = 255 - k ∧ VExt V V1 ∧ V1 g1 = some (true, .cells (ptTo k) 103 (0, 0)) ∧ V1 g2 = some (true, .cells (ltTo k) 104 (0, 0)) ∧ ∃ x3 x5 x6 x7 x8 x9 x10 x11 x12 x13 x14 x15 x16 x17 x18 x19 x20 x21 x22 x23 x24 x25 x26 x27, a = ⟨#[.pointer (some ⟨g1, 0, none⟩), .pointer (some ⟨g2, 0, none⟩), .int .i64 (px k), x3, .int .i64 k, x5, x6, x7, x8, x9, x10, x11, x12, x13, x14, x15, x16, x17, x18, x19, x20, x21, x22, x23, x24, x25, x26, x27], []⟩) 255 ⟨0, by omega, rfl, hE0, hp0, hl0, _, _, _, _, _, _, _, _, _, _, _, _, _, _, _, _, _, _, _, _, _, _, _, _, rfl⟩ ?_
  clear hE0 hp0 hl0 V0
  rintro m a V1 ⟨k, hk, rfl, hE, hp, hl, _, _, _, _, _, _, _, _, _, _, _, _, _, _, _, _, _, _, _, _, _, _, _, _, rfl⟩
  by_cases hk2 : k < 255
  · have c1 : decide ((k : Int) < 255) = true := by simp; omega
    have k1 : (k : Int) < 510 := by omega
    have k2 : (k : Int) + 255 < 510 := by omega
    have k3 : IntKind.i64.wrap ((k : Int) + 255) = (k : Int) + 255 := IntWalk.i64_in _ (by omega)
    have k4 : ((k : Int) + 255).toNat = k + 255 := by omega
    have k5 : 0 ≤ (k : Int) + 255 := by omega
    have hb := px_bd k
    have k6 : (px k : Int) < 256 := by omega
    have k7 : IntKind.u8.wrap (px k : Int) = (px k : Int) := IntWalk.u8_in _ (by omega)
    have k8 : IntKind.i64.wrap ((px k : Int) * 2) = (px k : Int) * 2 := IntWalk.i64_in _ (by omega)
    have k9 : IntKind.i64.wrap ((k : Int) + 1) = (k : Int) + 1 := IntWalk.i64_in _ (by omega)
    have HP := Lib.hid hp
    have HL := Lib.hid hl
    clear hp hl
    refine wpV_seq hZ ?_
    refine wpV_region hZ ?_
    simp only [List.size_toArray, List.length_cons, List.length_nil, Nat.reduceAdd, Nat.zero_add, List.range, List.range.loop]
    refine opsV_k hZ rfl (by rfl) ?_
    intro w hS hL K hK
    go_simp
    refine hK _ _ ?_
    clear hK K
    refine .quiet hS hL (by first | rfl | simp [go_sem, *]) ?_
    clear hS hL w
    refine opsV_nil hZ ?_
    simp only [NxV]
    refine wpV_seq hZ ?_
    refine wpV_cond hZ (t := true) (by first | rfl | simp [Act.eval, *]) ?_
    simp only [Bool.false_eq_true, if_true, if_false, reduceIte]
    refine wpV_skip hZ ?_
    simp only [NxV]
    refine wpV_seq hZ ?_
    refine wpV_block hZ ?_
    refine wpV_seq hZ ?_
    refine wpV_region hZ ?_
    simp only [List.size_toArray, List.length_cons, List.length_nil, Nat.reduceAdd, Nat.zero_add, List.range, List.range.loop]
    refine opsV_k hZ rfl (by rfl) ?_
    intro w hS hL K hK
    go_simp
    refine hK _ _ ?_
    clear hK K
    refine .quiet hS hL (by first | rfl | simp [go_sem, *]) ?_
    clear hS hL w
    refine opsV_k hZ rfl (by rfl) ?_
    intro w hS hL K hK
    go_simp
    refine hK _ _ ?_
    clear hK K
    refine .quiet hS hL (by first | rfl | simp [go_sem, *]) ?_
    clear hS hL w
    refine opsV_nil hZ ?_
    simp only [NxV]
    refine wpV_seq hZ ?_
    refine wpV_region hZ ?_
    simp only [List.size_toArray, List.length_cons, List.length_nil, Nat.reduceAdd, Nat.zero_add, List.range, List.range.loop]
    refine opsV_k hZ rfl (by rfl) ?_
    intro w hS hL K hK
    go_simp
    refine hK _ _ ?_
    clear hK K
    refine .quiet hS hL (by first | rfl | simp [go_sem, *]) ?_
    clear hS hL w
    refine opsV_k hZ rfl (by rfl) ?_
    intro w hS hL K hK
    go_simp
    refine hK _ _ ?_
    clear hK K
    refine .quiet hS hL (by first | rfl | simp [go_sem, *]) ?_
    clear hS hL w
    refine opsV_k hZ rfl (by rfl) ?_
    intro w hS hL K hK
    go_simp
    refine hK _ _ ?_
    clear hK K
    refine .quiet hS hL (by first | rfl | simp [go_sem, *]) ?_
    clear hS hL w
    refine opsV_k hZ rfl (by rfl) ?_
    intro w hS hL K hK
    go_simp
    refine hK _ _ ?_
    clear hK K
    refine .quiet hS hL (by first | rfl | simp [go_sem, *]) ?_
    clear hS hL w
    refine opsV_k hZ rfl (by rfl) ?_
    intro w hS hL K hK
    go_simp
    refine hK _ _ ?_
    clear hK K
    refine .quiet hS hL (by first | rfl | simp [go_sem, *]) ?_
    clear hS hL w
    refine opsV_k hZ rfl (by rfl) ?_
    intro w hS hL K hK
    go_simp
    refine hK _ _ ?_
    clear hK K
    refine .quiet hS hL (by first | rfl | simp [go_sem, *]) ?_
    clear hS hL w
    refine opsV_k hZ rfl (by rfl) ?_
    intro w hS hL K hK
    go_simp
    refine hK _ _ ?_
    clear hK K
    refine .quiet hS hL (by first | rfl | simp [go_sem, *]) ?_
    clear hS hL w
    refine opsV_k hZ rfl (by rfl) ?_
    intro w hS hL K hK
    go_simp
    refine hK _ _ ?_
    clear hK K
    refine .quiet hS hL (by first | rfl | simp [go_sem, *]) ?_
    clear hS hL w
    refine opsV_k hZ rfl (by rfl) ?_
    intro w hS hL K hK
    go_simp
    refine hK _ _ ?_
    clear hK K
    refine .quiet hS hL (by first | rfl | simp [go_sem, *]) ?_
    clear hS hL w
    refine opsV_pure hZ rfl (by rfl) (runT_index_array rfl Try.underlying103 (size_of_map sz5) rfl rfl (j := k) rfl (by omega)) ?_
    simp only [Act.put, List.setIfInBounds_toArray, List.set_cons_zero, List.set_cons_succ]
    refine opsV_store1 (u := .int .u8 (px k)) hZ rfl (by rfl) rfl rfl rfl (size_of_map sz5) rfl HP.out (by simp only [Array.size_setIfInBounds, ptTo_size, ltTo_size]; omega) ?_
    simp only [Act.put, List.setIfInBounds_toArray, List.set_cons_zero, List.set_cons_succ]
    refine opsV_pure hZ rfl (by rfl) (runT_index_array rfl Try.underlying103 (size_of_map sz5) rfl rfl (j := k + 255) (by rfl) (by omega)) ?_
    simp only [Act.put, List.setIfInBounds_toArray, List.set_cons_zero, List.set_cons_succ]
    refine opsV_store1 (u := .int .u8 (px k)) hZ rfl (by rfl) rfl rfl rfl (size_of_map sz5) rfl (View.set_same _ _ _ _) (by simp only [Array.size_setIfInBounds, ptTo_size, ltTo_size]; omega) ?_
    simp only [Act.put, List.setIfInBounds_toArray, List.set_cons_zero, List.set_cons_succ]
    refine opsV_pure hZ rfl (by rfl) (runT_index_array rfl Try.underlying104 (size_of_map sz3) rfl rfl (j := px k) rfl (by omega)) ?_
    simp only [Act.put, List.setIfInBounds_toArray, List.set_cons_zero, List.set_cons_succ]
    refine opsV_store1 (u := .int .i64 k) hZ rfl (by rfl) rfl rfl rfl (size_of_map sz3) rfl (by rw [View.set_ne _ _ _ hne, View.set_ne _ _ _ hne]; exact HL.out) (by simp only [Array.size_setIfInBounds, ptTo_size, ltTo_size]; omega) ?_
    simp only [Act.put, List.setIfInBounds_toArray, List.set_cons_zero, List.set_cons_succ]
    refine opsV_nil hZ ?_
    simp only [NxV]
    generalize hV2 : ((V1.set g1 true (.cells ((ptTo k).setIfInBounds k (.int .u8 (px k))) 103 (0, 0))).set g1 true (.cells (((ptTo k).setIfInBounds k (.int .u8 (px k))).setIfInBounds (k + 255) (.int .u8 (px k))) 103 (0, 0))).set g2 true (.cells ((ltTo k).setIfInBounds (px k) (.int .i64 k)) 104 (0, 0)) = V2
    have HE2 := Lib.hid (show VExt V V2 by rw [← hV2]; exact ((hE.set hg1).set hg1).set hg2')
    have HP2 := Lib.hid (show V2 g1 = some (true, .cells (ptTo (k + 1)) 103 (0, 0)) by rw [← hV2, View.set_ne _ _ _ (Ne.symm hne), View.set_same]; rfl)
    have HL2 := Lib.hid (show V2 g2 = some (true, .cells (ltTo (k + 1)) 104 (0, 0)) by rw [← hV2, View.set_same]; rfl)
    clear hV2 HP HL
    have HN := Lib.hid (big_next k)
    have HS := Lib.hid (small_next k)
    refine wpV_seq hZ ?_
    refine wpV_region hZ ?_
    simp only [List.size_toArray, List.length_cons, List.length_nil, Nat.reduceAdd, Nat.zero_add, List.range, List.range.loop]
    refine opsV_k hZ rfl (by rfl) ?_
    intro w hS hL K hK
    go_simp
    refine hK _ _ ?_
    clear hK K
    refine .quiet hS hL (by first | rfl | simp [go_sem, *]) ?_
    clear hS hL w
    refine opsV_k hZ rfl (by rfl) ?_
    intro w hS hL K hK
    go_simp
    refine hK _ _ ?_
    clear hK K
    refine .quiet hS hL (by first | rfl | simp [go_sem, *]) ?_
    clear hS hL w
    refine opsV_k hZ rfl (by rfl) ?_
    intro w hS hL K hK
    go_simp
    refine hK _ _ ?_
    clear hK K
    refine .quiet hS hL (by first | rfl | simp [go_sem, *]) ?_
    clear hS hL w
    refine opsV_nil hZ ?_
    simp only [NxV]
    refine wpV_seq hZ ?_
    refine wpV_region hZ ?_
    simp only [List.size_toArray, List.length_cons, List.length_nil, Nat.reduceAdd, Nat.zero_add, List.range, List.range.loop]
    refine opsV_k hZ rfl (by rfl) ?_
    intro w hS hL K hK
    go_simp
    refine hK _ _ ?_
    clear hK K
    refine .quiet hS hL (by first | rfl | simp [go_sem, *]) ?_
    clear hS hL w
    refine opsV_k hZ rfl (by rfl) ?_
    intro w hS hL K hK
    go_simp
    refine hK _ _ ?_
    clear hK K
    refine .quiet hS hL (by first | rfl | simp [go_sem, *]) ?_
    clear hS hL w
    refine opsV_nil hZ ?_
    simp only [NxV]
    by_cases hbig : 255 < 2 * px k
    · have c2 : decide ((255 : Int) < (px k : Int) * 2) = true := by simp; omega
      refine wpV_cond hZ (t := true) (by first | rfl | simp [Act.eval, *]) ?_
      simp only [Bool.false_eq_true, if_true, if_false, reduceIte]
      refine wpV_region hZ ?_
      simp only [List.size_toArray, List.length_cons, List.length_nil, Nat.reduceAdd, Nat.zero_add, List.range, List.range.loop]
      refine opsV_k hZ rfl (by rfl) ?_
      intro w hS hL K hK
      go_simp
      refine hK _ _ ?_
      clear hK K
      refine .quiet hS hL (by first | rfl | simp [go_sem, *]) ?_
      clear hS hL w
      refine opsV_k hZ rfl (by rfl) ?_
      intro w hS hL K hK
      go_simp
      refine hK _ _ ?_
      clear hK K
      refine .quiet hS hL (by first | rfl | simp [go_sem, *]) ?_
      clear hS hL w
      refine opsV_k hZ rfl (by rfl) ?_
      intro w hS hL K hK
      go_simp
      refine hK _ _ ?_
      clear hK K
      refine .quiet hS hL (by first | rfl | simp [go_sem, *]) ?_
      clear hS hL w
      refine opsV_nil hZ ?_
      simp only [BlV, NxV]
      refine wpV_region hZ ?_
      simp only [List.size_toArray, List.length_cons, List.length_nil, Nat.reduceAdd, Nat.zero_add, List.range, List.range.loop]
      refine opsV_k hZ rfl (by rfl) ?_
      intro w hS hL K hK
      go_simp
      refine hK _ _ ?_
      clear hK K
      refine .quiet hS hL (by first | rfl | simp [go_sem, *]) ?_
      clear hS hL w
      refine opsV_k hZ rfl (by rfl) ?_
      intro w hS hL K hK
      go_simp
      refine hK _ _ ?_
      clear hK K
      refine .quiet hS hL (by first | rfl | simp [go_sem, *]) ?_
      clear hS hL w
      refine opsV_nil hZ ?_
      simp only [BlV, NxV]
      rw [HN.out (by omega)]
      exact ⟨255 - (k + 1), by omega, k + 1, by omega, rfl, HE2.out, HP2.out, HL2.out, _, _, _, _, _, _, _, _, _, _, _, _, _, _, _, _, _, _, _, _, _, _, _, _, rfl⟩
    · have c2 : decide ((255 : Int) < (px k : Int) * 2) = false := by simp; omega
      refine wpV_cond hZ (t := false) (by first | rfl | simp [Act.eval, *]) ?_
      simp only [Bool.false_eq_true, if_true, if_false, reduceIte]
      refine wpV_skip hZ ?_
      simp only [BlV, NxV]
      refine wpV_region hZ ?_
      simp only [List.size_toArray, List.length_cons, List.length_nil, Nat.reduceAdd, Nat.zero_add, List.range, List.range.loop]
      refine opsV_k hZ rfl (by rfl) ?_
      intro w hS hL K hK
      go_simp
      refine hK _ _ ?_
      clear hK K
      refine .quiet hS hL (by first | rfl | simp [go_sem, *]) ?_
      clear hS hL w
      refine opsV_k hZ rfl (by rfl) ?_
      intro w hS hL K hK
      go_simp
      refine hK _ _ ?_
      clear hK K
      refine .quiet hS hL (by first | rfl | simp [go_sem, *]) ?_
      clear hS hL w
      refine opsV_nil hZ ?_
      simp only [BlV, NxV]
      rw [HS.out (by omega)]
      exact ⟨255 - (k + 1), by omega, k + 1, by omega, rfl, HE2.out, HP2.out, HL2.out, _, _, _, _, _, _, _, _, _, _, _, _, _, _, _, _, _, _, _, _, _, _, _, _, rfl⟩
  · have c1 : decide ((k : Int) < 255) = false := by simp; omega
    have HP := Lib.hid hp
    have HL := Lib.hid hl
    clear hp hl
    refine wpV_seq hZ ?_
    refine wpV_region hZ ?_
    simp only [List.size_toArray, List.length_cons, List.length_nil, Nat.reduceAdd, Nat.zero_add, List.range, List.range.loop]
    refine opsV_k hZ rfl (by rfl) ?_
    intro w hS hL K hK
    go_simp
    refine hK _ _ ?_
    clear hK K
    refine .quiet hS hL (by first | rfl | simp [go_sem, *]) ?_
    clear hS hL w
    refine opsV_nil hZ ?_
    simp only [NxV]
    refine wpV_seq hZ ?_
    refine wpV_cond hZ (t := false) (by first | rfl | simp [Act.eval, *]) ?_
    simp only [Bool.false_eq_true, if_true, if_false, reduceIte]
    refine wpV_exit hZ ?_
    simp only [BlV, NxV, if_true]
    have hk3 : k = 255 := by omega
    have hp := HP.out
    have hl := HL.out
    rw [ptL_eq k hk3] at hp
    rw [ltL_eq k hk3] at hl
    clear HP HL
    have j1 : (Try.prog.info? 103).map (·.size) = some ptL.toArray.size := by rw [List.size_toArray, ptL_len]; exact info103
    have j2 : (Try.prog.info? 104).map (·.size) = some ltL.toArray.size := by rw [List.size_toArray, ltL_len]; exact info104
    refine wpV_seq hZ ?_
    refine wpV_draw hZ (by kernel_rfl) (· = V1) (fun _ => false) ?_
    simp only [List.size_toArray, List.length_cons, List.length_nil, Nat.reduceAdd, Nat.zero_add]
    refine anyV_take (i := 0) rfl (by kernel_rfl) (by kernel_rfl) (by kernel_rfl) (by kernel_rfl) (YieldsV.load (by rfl) rfl rfl (fun V h => by rw [h]; exact hp) (fun w hb => Go.Co.run_loadVar_row (isAgg_array Try.underlying103) (size_of_map j1) hb)) rfl ?_
    simp only [Act.put, List.setIfInBounds_toArray, List.set_cons_zero, List.set_cons_succ]
    refine anyV_take (i := 1) rfl (by kernel_rfl) (by kernel_rfl) (by kernel_rfl) (by kernel_rfl) (YieldsV.load (by rfl) rfl rfl (fun V h => by rw [h]; exact hl) (fun w hb => Go.Co.run_loadVar_row (isAgg_array Try.underlying104) (size_of_map j2) hb)) rfl ?_
    simp only [Act.put, List.setIfInBounds_toArray, List.set_cons_zero, List.set_cons_succ]
    refine anyV_all (rs := [2]) (by kernel_rfl) (by simp) (fun i hi => ?_)
    obtain rfl : i = 2 := by simpa using hi
    refine OpV.store rfl (by rfl) rfl rfl (u := .agg ptL.toArray) rfl hp (fun w hb => Go.Co.run_storeVar_row (size_of_map j1) rfl ptL_one hb) ?_
    rw [View.set_self hp]
    refine ⟨fun _ => rfl, ?_⟩
    refine anyV_all (rs := [3]) (by kernel_rfl) (by simp) (fun i hi => ?_)
    obtain rfl : i = 3 := by simpa using hi
    refine OpV.store rfl (by rfl) rfl rfl (u := .agg ltL.toArray) rfl hl (fun w hb => Go.Co.run_storeVar_row (size_of_map j2) rfl ltL_one hb) ?_
    rw [View.set_self hl]
    refine ⟨fun _ => rfl, ?_⟩
    refine anyV_done (by kernel_rfl) ?_ _
    simp only [NxV]
    refine wpV_ret hZ ⟨rfl, _, fun w hs => results_cells2 rfl rfl rfl (loadVar_known hs hp (Go.Co.run_loadVar_row (isAgg_array Try.underlying103) (size_of_map j1) (hs _ _ _ hp))) (loadVar_known hs hl (Go.Co.run_loadVar_row (isAgg_array Try.underlying104) (size_of_map j2) (hs _ _ _ hl))), rfl, hE⟩
end Go.Proofs.Ytjdppgogdilgkaa
end
section
namespace Go.Proofs.Ytjdppgogdilgkaa
open Go.RowKit Go.Gf Go.Co Go.Conc
set_option linter.unusedSimpArgs false
set_option linter.unusedVariables false
set_option maxHeartbeats 4000000 in
set_option maxRecDepth 100000 in
theorem plus_v {n0 : Nat} {main : Bool} {Z : View → Frame → List Frame → Prop} (hZ : OwnV n0 Try.prog main Z) (V : View) {g n cap c : Nat} {s : ByteArray} {g1 g2 : Nat} {f : Nat → Nat} {m1 m2 : Bool}
    (hb : V g = some (true, .cells (tabA n (u8c f)) 5 (0, 0))) (h1 : V g1 = some (m1, .cells ptL.toArray 103 (0, 0))) (h2 : V g2 = some (m2, .cells ltL.toArray 104 (0, 0))) (hn : s.size = n) (hz : n ≤ 1048576) (hc : c < 256) (hf : ∀ i, f i < 256) :
    CallsV Try.prog Z 60 #[.slice (some ⟨g, 0, none⟩) n cap, .int .u8 c, .string s, .pointer (some ⟨g1, 0, none⟩), .pointer (some ⟨g2, 0, none⟩)] V fun v V' => v = .tuple #[] ∧ VOnly g V V' ∧ V' g = some (true, .cells (tabA n (u8c (addP c s n f))) 5 (0, 0)) := by
  refine callsV_of_wp hZ Try.func60 rfl ?_
  simp only [Try.ntmps60, List.size_toArray, List.length_cons, List.length_nil, Nat.reduceAdd, Nat.reduceSub, Array.replicate_succ, Array.replicate_zero, List.push_toArray, List.append_toArray, List.nil_append, List.cons_append]
  subst hn
  have ne1 : g1 ≠ g := fun e => by subst e; rw [hb] at h1; injection h1 with h1; injection h1 with _ h1; injection h1 with _ h1; revert h1; decide
  have ne2 : g2 ≠ g := fun e => by subst e; rw [hb] at h2; injection h2 with h2; injection h2 with _ h2; injection h2 with _ h2; revert h2; decide
  refine wpV_seq hZ ?_
  refine wpV_region hZ ?_
  simp only [List.size_toArray, List.length_cons, List.length_nil, Nat.reduceAdd, Nat.zero_add, List.range, List.range.loop]
  refine opsV_k hZ rfl (by rfl) ?_
  intro w hS hL K hK
  go_simp
  refine hK _ _ ?_
  clear hK K
  refine .quiet hS hL (by first | rfl | simp [go_sem, *]) ?_
  clear hS hL w
  refine opsV_strBytes hZ rfl (by rfl) rfl Try.underlying9 Try.underlying41 Try.underlying5 (s := s) rfl ?_
  intro gc C fC hgc hCs hCc
  simp only [Act.put, List.setIfInBounds_toArray, List.set_cons_zero, List.set_cons_succ]
  have ne3 : gc ≠ g := fun e => by subst e; rw [hb] at hgc; cases hgc
  generalize hV2 : V.set gc true (.cells C 5 fC) = V2
  have HE2 := Lib.hid (show VExt V V2 by rw [← hV2]; exact (VExt.refl V).set hgc)
  have HCB := Lib.hid (show V2 gc = some (true, .cells C 5 fC) by rw [← hV2, View.set_same])
  have HB2 := Lib.hid (HE2.out _ _ hb)
  have HT1 := Lib.hid (HE2.out _ _ h1)
  have HT2 := Lib.hid (HE2.out _ _ h2)
  have HCC := Lib.hid hCc
  clear hV2 hgc hCc h1 h2 hb
  refine opsV_k hZ rfl (by rfl) ?_
  intro w hS hL K hK
  go_simp
  refine hK _ _ ?_
  clear hK K
  refine .quiet hS hL (by first | rfl | simp [go_sem, *]) ?_
  clear hS hL w
  refine opsV_k hZ rfl (by rfl) ?_
  intro w hS hL K hK
  go_simp
  refine hK _ _ ?_
  clear hK K
  refine .quiet hS hL (by first | rfl | simp [go_sem, *]) ?_
  clear hS hL w
  refine opsV_nil hZ ?_
  simp only [NxV]
  refine wpV_block hZ ?_
  refine wpV_loop hZ (fun m a V1 => ∃ k : Nat, k ≤ s.size ∧ m = s.size - k ∧ VOnly g V2 V1 ∧ V1 g = some (true, .cells (tabA s.size (u8c (addP c s k f))) 5 (0, 0)) ∧ ∃ x5 x6 x7 x8 x9 x10 x11 x12 x16 x17 x18 x19 x20 x21 x22 x23 x24 x25 x26 x27 x28 x29 x30 x31 x32 x33 x34 x35 x36 x37 x38 x39 x40 x41 x42 x43 x44 x45 x46 x47, a = ⟨#[.slice (some ⟨g, 0, none⟩) s.size cap, .int .u8 c, .string s, .pointer (some ⟨g1, 0, none⟩), .pointer (some ⟨g2, 0, none⟩), x5, x6, x7, x8, x9, x10, x11, x12, .slice (some ⟨gc, 0, none⟩) s.size C.size, .int .i64 s.size, .int .i64 k, x16, x17, x18, x19, x20, x21, x22, x23, x24, x25, x26, x27, x28, x29, x30, x31, x32, x33, x34, x35, x36, x37, x38, x39, x40, x41, x42, x43, x44, x45, x46, x47], []⟩) s.size ⟨0, by omega, rfl, VOnly.refl g V2, by rw [tabA_congr s.size (u8c (addP c s 0 f)) (u8c f) (fun i _ => by simp [u8c, addP])]; exact HB2.out, _, _, _, _, _, _, _, _, _, _, _, _, _, _, _, _, _, _, _, _, _, _, _, _, _, _, _, _, _, _, _, _, _, _, _, _, _, _, _, _, rfl⟩ ?_
  rintro m a V1 ⟨k, hk, rfl, hO, hb, _, _, _, _, _, _, _, _, _, _, _, _, _, _, _, _, _, _, _, _, _, _, _, _, _, _, _, _, _, _, _, _, _, _, _, _, _, _, _, _, rfl⟩
  have HO := Lib.hid hO
  have HB := Lib.hid hb
  clear hO hb
  by_cases hk2 : k < s.size
  · have c1 : decide ((k : Int) < (s.size : Int)) = true := by simp; omega
    have hbn := bn_lt s k
    have HF := Lib.hid (show addP c s k f k = f k by simp [addP])
    have k9 : IntKind.i64.wrap ((k : Int) + 1) = (k : Int) + 1 := IntWalk.i64_in _ (by omega)
    have HSAME := Lib.hid (show fm c (bn s k) = 0 → tabA s.size (u8c (addP c s (k + 1) f)) = tabA s.size (u8c (addP c s k f)) from fun h0 => tabA_congr _ _ _ (fun i _ => by
      unfold u8c addP
      by_cases e : i = k
      · subst e; rw [if_pos (by omega), if_neg (by omega), h0, Nat.xor_zero]
      · by_cases h1 : i < k
        · rw [if_pos (by omega), if_pos h1]
        · rw [if_neg (by omega), if_neg h1]))
    refine wpV_seq hZ ?_
    refine wpV_region hZ ?_
    simp only [List.size_toArray, List.length_cons, List.length_nil, Nat.reduceAdd, Nat.zero_add, List.range, List.range.loop]
    refine opsV_k hZ rfl (by rfl) ?_
    intro w hS hL K hK
    go_simp
    refine hK _ _ ?_
    clear hK K
    refine .quiet hS hL (by first | rfl | simp [go_sem, *]) ?_
    clear hS hL w
    refine opsV_nil hZ ?_
    simp only [NxV]
    refine wpV_seq hZ ?_
    refine wpV_cond hZ (t := true) (by first | rfl | simp [Act.eval, *]) ?_
    simp only [Bool.false_eq_true, if_true, if_false, reduceIte]
    refine wpV_skip hZ ?_
    simp only [NxV]
    refine wpV_seq hZ ?_
    refine wpV_block hZ ?_
    refine wpV_seq hZ ?_
    refine wpV_region hZ ?_
    simp only [List.size_toArray, List.length_cons, List.length_nil, Nat.reduceAdd, Nat.zero_add, List.range, List.range.loop]
    refine opsV_k hZ rfl (by rfl) ?_
    intro w hS hL K hK
    go_simp
    refine hK _ _ ?_
    clear hK K
    refine .quiet hS hL (by first | rfl | simp [go_sem, *]) ?_
    clear hS hL w
    refine opsV_pure hZ rfl (by rfl) (runT_index_slice rfl Try.underlying41 (by rfl) (size_of_map sz5) rfl rfl (j := k) rfl (by omega)) ?_
    simp only [Act.put, List.setIfInBounds_toArray, List.set_cons_zero, List.set_cons_succ]
    rw [Nat.zero_add]
    refine opsV_load1 hZ rfl (by rfl) rfl rfl (isAgg_no Try.underlying5 rfl) (HO.out _ _ ne3 HCB.out) (v := .int .u8 (bn s k)) (HCC.out k hk2) ?_
    simp only [Act.put, List.setIfInBounds_toArray, List.set_cons_zero, List.set_cons_succ]
    refine opsV_k hZ rfl (by rfl) ?_
    intro w hS hL K hK
    go_simp
    refine hK _ _ ?_
    clear hK K
    refine .quiet hS hL (by first | rfl | simp [go_sem, *]) ?_
    clear hS hL w
    refine opsV_k hZ rfl (by rfl) ?_
    intro w hS hL K hK
    go_simp
    refine hK _ _ ?_
    clear hK K
    refine .quiet hS hL (by first | rfl | simp [go_sem, *]) ?_
    clear hS hL w
    refine opsV_nil hZ ?_
    simp only [NxV]
    refine wpV_seq hZ ?_
    refine wpV_region hZ ?_
    simp only [List.size_toArray, List.length_cons, List.length_nil, Nat.reduceAdd, Nat.zero_add, List.range, List.range.loop]
    refine opsV_k hZ rfl (by rfl) ?_
    intro w hS hL K hK
    go_simp
    refine hK _ _ ?_
    clear hK K
    refine .quiet hS hL (by first | rfl | simp [go_sem, *]) ?_
    clear hS hL w
    by_cases c0 : c = 0
    · have h0 : fm c (bn s k) = 0 := by rw [c0, fm_zero_l]
      have hq : ((c : Int) != 0) = false := by rw [c0]; rfl
      clear c0
      refine opsV_k hZ rfl (by rfl) ?_
      intro w hS hL K hK
      go_simp
      refine hK _ _ ?_
      clear hK K
      refine .quiet hS hL (by first | rfl | simp [go_sem, *]) ?_
      clear hS hL w
      refine opsV_k hZ rfl (by rfl) ?_
      intro w hS hL K hK
      go_simp
      refine hK _ _ ?_
      clear hK K
      refine .quiet hS hL (by first | rfl | simp [go_sem, *]) ?_
      clear hS hL w
      refine opsV_unwanted hZ rfl (by rfl) ?_
      simp only [Act.put, List.setIfInBounds_toArray, List.set_cons_zero, List.set_cons_succ]
      refine opsV_unwanted hZ rfl (by rfl) ?_
      simp only [Act.put, List.setIfInBounds_toArray, List.set_cons_zero, List.set_cons_succ]
      refine opsV_k hZ rfl (by rfl) ?_
      intro w hS hL K hK
      go_simp
      refine hK _ _ ?_
      clear hK K
      refine .quiet hS hL (by first | rfl | simp [go_sem, *]) ?_
      clear hS hL w
      refine opsV_nil hZ ?_
      simp only [NxV]
      refine wpV_cond hZ (t := false) (by first | rfl | simp [Act.eval, *]) ?_
      simp only [Bool.false_eq_true, if_true, if_false, reduceIte]
      refine wpV_skip hZ ?_
      simp only [BlV, NxV]
      refine wpV_region hZ ?_
      simp only [List.size_toArray, List.length_cons, List.length_nil, Nat.reduceAdd, Nat.zero_add, List.range, List.range.loop]
      refine opsV_k hZ rfl (by rfl) ?_
      intro w hS hL K hK
      go_simp
      refine hK _ _ ?_
      clear hK K
      refine .quiet hS hL (by first | rfl | simp [go_sem, *]) ?_
      clear hS hL w
      refine opsV_k hZ rfl (by rfl) ?_
      intro w hS hL K hK
      go_simp
      refine hK _ _ ?_
      clear hK K
      refine .quiet hS hL (by first | rfl | simp [go_sem, *]) ?_
      clear hS hL w
      refine opsV_nil hZ ?_
      simp only [BlV, NxV]
      exact ⟨s.size - (k + 1), by omega, k + 1, by omega, rfl, HO.out, by rw [HSAME.out h0]; exact HB.out, _, _, _, _, _, _, _, _, _, _, _, _, _, _, _, _, _, _, _, _, _, _, _, _, _, _, _, _, _, _, _, _, _, _, _, _, _, _, _, _, rfl⟩
    have hq1 : ((c : Int) != 0) = true := by simp; omega
    refine opsV_k hZ rfl (by rfl) ?_
    intro w hS hL K hK
    go_simp
    refine hK _ _ ?_
    clear hK K
    refine .quiet hS hL (by first | rfl | simp [go_sem, *]) ?_
    clear hS hL w
    refine opsV_k hZ rfl (by rfl) ?_
    intro w hS hL K hK
    go_simp
    refine hK _ _ ?_
    clear hK K
    refine .quiet hS hL (by first | rfl | simp [go_sem, *]) ?_
    clear hS hL w
    refine opsV_k hZ rfl (by rfl) ?_
    intro w hS hL K hK
    go_simp
    refine hK _ _ ?_
    clear hK K
    refine .quiet hS hL (by first | rfl | simp [go_sem, *]) ?_
    clear hS hL w
    by_cases b0 : bn s k = 0
    · have h0 : fm c (bn s k) = 0 := by rw [b0, fm_zero_r]
      have hq : ((bn s k : Int) != 0) = false := by rw [b0]; rfl
      clear b0
      refine opsV_k hZ rfl (by rfl) ?_
      intro w hS hL K hK
      go_simp
      refine hK _ _ ?_
      clear hK K
      refine .quiet hS hL (by first | rfl | simp [go_sem, *]) ?_
      clear hS hL w
      refine opsV_k hZ rfl (by rfl) ?_
      intro w hS hL K hK
      go_simp
      refine hK _ _ ?_
      clear hK K
      refine .quiet hS hL (by first | rfl | simp [go_sem, *]) ?_
      clear hS hL w
      refine opsV_nil hZ ?_
      simp only [NxV]
      refine wpV_cond hZ (t := false) (by first | rfl | simp [Act.eval, *]) ?_
      simp only [Bool.false_eq_true, if_true, if_false, reduceIte]
      refine wpV_skip hZ ?_
      simp only [BlV, NxV]
      refine wpV_region hZ ?_
      simp only [List.size_toArray, List.length_cons, List.length_nil, Nat.reduceAdd, Nat.zero_add, List.range, List.range.loop]
      refine opsV_k hZ rfl (by rfl) ?_
      intro w hS hL K hK
      go_simp
      refine hK _ _ ?_
      clear hK K
      refine .quiet hS hL (by first | rfl | simp [go_sem, *]) ?_
      clear hS hL w
      refine opsV_k hZ rfl (by rfl) ?_
      intro w hS hL K hK
      go_simp
      refine hK _ _ ?_
      clear hK K
      refine .quiet hS hL (by first | rfl | simp [go_sem, *]) ?_
      clear hS hL w
      refine opsV_nil hZ ?_
      simp only [BlV, NxV]
      exact ⟨s.size - (k + 1), by omega, k + 1, by omega, rfl, HO.out, by rw [HSAME.out h0]; exact HB.out, _, _, _, _, _, _, _, _, _, _, _, _, _, _, _, _, _, _, _, _, _, _, _, _, _, _, _, _, _, _, _, _, _, _, _, _, _, _, _, _, rfl⟩
    have hq2 : ((bn s k : Int) != 0) = true := by simp; omega
    have l1 := lg_lt c hc
    have l2 := lg_lt (bn s k) hbn
    have k3 : IntKind.i64.wrap ((lg c : Int) + (lg (bn s k) : Int)) = (lg c : Int) + (lg (bn s k) : Int) := IntWalk.i64_in _ (by omega)
    have HSET := Lib.hid (tabA_set s.size (u8c (addP c s k f)) (u8c (addP c s (k + 1) f)) k (.int .u8 ((f k ^^^ px (lg c + lg (bn s k)) : Nat) : Int)) hk2 (fun i _ => by
      unfold u8c addP
      by_cases e : i = k
      · subst e; rw [if_pos (by omega), if_pos rfl, fm_log c (bn s i) hc hbn c0 b0]
      · rw [if_neg e]
        by_cases h1 : i < k
        · rw [if_pos (by omega), if_pos h1]
        · rw [if_neg (by omega), if_neg h1]))
    have hx := u8_xor (f k) (px (lg c + lg (bn s k))) (hf k) (px_bd _).2
    refine opsV_k hZ rfl (by rfl) ?_
    intro w hS hL K hK
    go_simp
    refine hK _ _ ?_
    clear hK K
    refine .quiet hS hL (by first | rfl | simp [go_sem, *]) ?_
    clear hS hL w
    refine opsV_k hZ rfl (by rfl) ?_
    intro w hS hL K hK
    go_simp
    refine hK _ _ ?_
    clear hK K
    refine .quiet hS hL (by first | rfl | simp [go_sem, *]) ?_
    clear hS hL w
    refine opsV_nil hZ ?_
    simp only [NxV]
    refine wpV_cond hZ (t := true) (by first | rfl | simp [Act.eval, *]) ?_
    simp only [Bool.false_eq_true, if_true, if_false, reduceIte]
    refine wpV_draw hZ (by kernel_rfl) (· = V1) (fun i => i == 21) ?_
    simp only [List.size_toArray, List.length_cons, List.length_nil, Nat.reduceAdd, Nat.zero_add]
    refine anyV_steps (b := ?b) (by kernel_rfl) (by rfl) (fuel := 1) [(0, .slice (some ⟨g, 0, none⟩) s.size cap), (1, .int .i64 k), (2, .pointer (some ⟨g, k, none⟩)), (3, .int .u8 (f k)), (4, .pointer (some ⟨g1, 0, none⟩)), (5, .pointer (some ⟨g2, 0, none⟩)), (6, .int .u8 c), (7, .pointer (some ⟨g2, 0, none⟩)), (8, .pointer (some ⟨g2, c, none⟩)), (9, .int .i64 (lg c)), (10, .pointer (some ⟨g2, 0, none⟩)), (11, .int .u8 (bn s k)), (12, .pointer (some ⟨g2, 0, none⟩)), (13, .pointer (some ⟨g2, bn s k, none⟩)), (14, .int .i64 (lg (bn s k))), (15, .int .i64 ((lg c : Int) + (lg (bn s k) : Int))), (16, .pointer (some ⟨g1, 0, none⟩)), (17, .pointer (some ⟨g1, lg c + lg (bn s k), none⟩)), (18, .int .u8 (px (lg c + lg (bn s k)))), (19, .int .u8 ((f k ^^^ px (lg c + lg (bn s k)) : Nat) : Int)), (20, .pointer (some ⟨g, k, none⟩))] _ _ _ (by rfl) ?steps (by kernel_rfl) ?rest
    case steps =>
      refine StepsV.cons rfl rfl (.still (by rfl) (fun w => rfl)) ?_
      simp only [List.setIfInBounds_toArray, List.set_cons_zero, List.set_cons_succ]
      refine StepsV.cons rfl rfl (.still (by rfl) (fun w => rfl)) ?_
      simp only [List.setIfInBounds_toArray, List.set_cons_zero, List.set_cons_succ]
      refine StepsV.cons rfl rfl (.still (by rfl) (runT_index_slice0 rfl Try.underlying41 (by rfl) (size_of_map sz5) rfl rfl (j := k) rfl (by omega))) ?_
      simp only [List.setIfInBounds_toArray, List.set_cons_zero, List.set_cons_succ]
      refine StepsV.cons rfl rfl (.load1 (by rfl) rfl rfl (isAgg_no Try.underlying5 rfl) (fun V h => by rw [h]; exact HB.out) (by rw [tabA_at _ _ _ hk2, u8c, HF.out])) ?_
      simp only [List.setIfInBounds_toArray, List.set_cons_zero, List.set_cons_succ]
      refine StepsV.cons rfl rfl (.still (by rfl) (fun w => rfl)) ?_
      simp only [List.setIfInBounds_toArray, List.set_cons_zero, List.set_cons_succ]
      refine StepsV.cons rfl rfl (.still (by rfl) (fun w => rfl)) ?_
      simp only [List.setIfInBounds_toArray, List.set_cons_zero, List.set_cons_succ]
      refine StepsV.cons rfl rfl (.still (by rfl) (fun w => rfl)) ?_
      simp only [List.setIfInBounds_toArray, List.set_cons_zero, List.set_cons_succ]
      refine StepsV.cons rfl rfl (.still (by rfl) (fun w => rfl)) ?_
      simp only [List.setIfInBounds_toArray, List.set_cons_zero, List.set_cons_succ]
      refine StepsV.cons rfl rfl (.still (by rfl) (runT_index_array rfl Try.underlying104 (size_of_map sz3) rfl rfl (j := c) rfl hc)) ?_
      simp only [List.setIfInBounds_toArray, List.set_cons_zero, List.set_cons_succ]
      refine StepsV.cons rfl rfl (.load1 (by rfl) rfl rfl (isAgg_no Try.underlying3 rfl) (fun V h => by rw [h]; exact (HO.out _ _ ne2 HT2.out)) (by simpa using lt_at c hc)) ?_
      simp only [List.setIfInBounds_toArray, List.set_cons_zero, List.set_cons_succ]
      refine StepsV.cons rfl rfl (.still (by rfl) (fun w => rfl)) ?_
      simp only [List.setIfInBounds_toArray, List.set_cons_zero, List.set_cons_succ]
      refine StepsV.cons rfl rfl (.still (by rfl) (fun w => rfl)) ?_
      simp only [List.setIfInBounds_toArray, List.set_cons_zero, List.set_cons_succ]
      refine StepsV.cons rfl rfl (.still (by rfl) (fun w => rfl)) ?_
      simp only [List.setIfInBounds_toArray, List.set_cons_zero, List.set_cons_succ]
      refine StepsV.cons rfl rfl (.still (by rfl) (runT_index_array rfl Try.underlying104 (size_of_map sz3) rfl rfl (j := bn s k) rfl hbn)) ?_
      simp only [List.setIfInBounds_toArray, List.set_cons_zero, List.set_cons_succ]
      refine StepsV.cons rfl rfl (.load1 (by rfl) rfl rfl (isAgg_no Try.underlying3 rfl) (fun V h => by rw [h]; exact (HO.out _ _ ne2 HT2.out)) (by simpa using lt_at (bn s k) hbn)) ?_
      simp only [List.setIfInBounds_toArray, List.set_cons_zero, List.set_cons_succ]
      refine StepsV.cons rfl rfl (.still (by rfl) (fun w => runT_of (by go_simp) (by simp [go_sem, *]))) ?_
      simp only [List.setIfInBounds_toArray, List.set_cons_zero, List.set_cons_succ]
      refine StepsV.cons rfl rfl (.still (by rfl) (fun w => rfl)) ?_
      simp only [List.setIfInBounds_toArray, List.set_cons_zero, List.set_cons_succ]
      refine StepsV.cons rfl rfl (.still (by rfl) (runT_index_array rfl Try.underlying103 (size_of_map sz5) rfl rfl (j := lg c + lg (bn s k)) rfl (by omega))) ?_
      simp only [List.setIfInBounds_toArray, List.set_cons_zero, List.set_cons_succ]
      refine StepsV.cons rfl rfl (.load1 (by rfl) rfl rfl (isAgg_no Try.underlying5 rfl) (fun V h => by rw [h]; exact (HO.out _ _ ne1 HT1.out)) (by simpa using pt_at (lg c + lg (bn s k)) (by omega))) ?_
      simp only [List.setIfInBounds_toArray, List.set_cons_zero, List.set_cons_succ]
      refine StepsV.cons rfl rfl (.still (by rfl) (fun w => runT_of (by go_simp) (by simp [go_sem, *]))) ?_
      simp only [List.setIfInBounds_toArray, List.set_cons_zero, List.set_cons_succ]
      refine StepsV.cons rfl rfl (.still (by rfl) (runT_index_slice0 rfl Try.underlying41 (by rfl) (size_of_map sz5) rfl rfl (j := k) rfl (by omega))) ?_
      simp only [List.setIfInBounds_toArray, List.set_cons_zero, List.set_cons_succ]
      exact StepsV.nil
    case rest =>
      refine anyV_all (rs := [21]) (by kernel_rfl) (by simp) (fun i hi => ?_)
      obtain rfl : i = 21 := by simpa using hi
      refine OpV.store rfl (by rfl) rfl rfl (u := .int .u8 ((f k ^^^ px (lg c + lg (bn s k)) : Nat) : Int)) rfl HB.out (fun w hb => Go.Co.run_storeVar_one (size_of_map sz5) rfl hb (by rw [tabA_size]; exact hk2)) ?_
      simp only [Act.put, List.setIfInBounds_toArray, List.set_cons_zero, List.set_cons_succ]
      rw [HSET.out]
      refine ⟨fun h => (by simp at h), ?_⟩
      refine anyV_done (by kernel_rfl) ?_ _
      simp only [BlV, NxV]
      refine wpV_region hZ ?_
      simp only [List.size_toArray, List.length_cons, List.length_nil, Nat.reduceAdd, Nat.zero_add, List.range, List.range.loop]
      refine opsV_k hZ rfl (by rfl) ?_
      intro w hS hL K hK
      go_simp
      refine hK _ _ ?_
      clear hK K
      refine .quiet hS hL (by first | rfl | simp [go_sem, *]) ?_
      clear hS hL w
      refine opsV_k hZ rfl (by rfl) ?_
      intro w hS hL K hK
      go_simp
      refine hK _ _ ?_
      clear hK K
      refine .quiet hS hL (by first | rfl | simp [go_sem, *]) ?_
      clear hS hL w
      refine opsV_nil hZ ?_
      simp only [BlV, NxV]
      exact ⟨s.size - (k + 1), by omega, k + 1, by omega, rfl, HO.out.set, View.set_same _ _ _ _, _, _, _, _, _, _, _, _, _, _, _, _, _, _, _, _, _, _, _, _, _, _, _, _, _, _, _, _, _, _, _, _, _, _, _, _, _, _, _, _, rfl⟩
  · obtain rfl : k = s.size := by omega
    have c1 : decide ((s.size : Int) < (s.size : Int)) = false := by simp
    refine wpV_seq hZ ?_
    refine wpV_region hZ ?_
    simp only [List.size_toArray, List.length_cons, List.length_nil, Nat.reduceAdd, Nat.zero_add, List.range, List.range.loop]
    refine opsV_k hZ rfl (by rfl) ?_
    intro w hS hL K hK
    go_simp
    refine hK _ _ ?_
    clear hK K
    refine .quiet hS hL (by first | rfl | simp [go_sem, *]) ?_
    clear hS hL w
    refine opsV_nil hZ ?_
    simp only [NxV]
    refine wpV_seq hZ ?_
    refine wpV_cond hZ (t := false) (by first | rfl | simp [Act.eval, *]) ?_
    simp only [Bool.false_eq_true, if_true, if_false, reduceIte]
    refine wpV_exit hZ ?_
    simp only [NxV, BlV, if_true]
    exact ⟨rfl, _, fun w hs => resultsV_none rfl _ w, rfl, HE2.out.only.trans HO.out, HB.out⟩
end Go.Proofs.Ytjdppgogdilgkaa
end
