import Derived.Test.YtjdppgogdilgkaaTE
import Derived.Test.YtjdppgogdilgkaaKI
section
namespace Go.Proofs.Ytjdppgogdilgkaa
open Go.RowKit Go.Gf Go.Co Go.Conc
set_option linter.unusedSimpArgs false
set_option linter.unusedVariables false
theorem _root_.Go.Ext.ntp {w w' : World} (h : Ext w (nt w w')) (T : Tape) (D : Nat) : Ext w (nt w (tp w' T D)) := ⟨h.os, rfl, h.output, h.size, h.block⟩
theorem _root_.Go.Ext.on {w wa wb : World} (h : Ext w (nt w wa)) (k : Ext wa wb) : Ext w (nt w wb) := h.trans ⟨k.os, rfl, k.output, k.size, k.block⟩
def sABC : ByteArray := { data := #[97, 98, 99] }
theorem ssz : sABC.size = 3 := rfl
noncomputable def spA2 : ByteArray := (spreadV 2 1 sABC).getD 2 { data := #[] }
def spA0 : ByteArray := { data := #[97, 98] }
def spA1 : ByteArray := { data := #[99, 0] }
theorem split_abc : splitV 2 sABC = [spA0, spA1] := by decide +kernel
theorem sp_get (i : Nat) (h : i < 3) : ((spreadV 2 1 sABC).map Value.string)[i]? = some (.string ((spreadV 2 1 sABC).getD i { data := #[] })) := by
  have hl : i < (spreadV 2 1 sABC).length := by rw [spreadV_len]; exact h
  rw [List.getElem?_map, List.getElem?_eq_getElem hl, getD_at _ _ hl]; rfl
theorem sp_0 : (spreadV 2 1 sABC).getD 0 { data := #[] } = spA0 := by unfold spreadV; rw [split_abc]; rfl
theorem sp_1 : (spreadV 2 1 sABC).getD 1 { data := #[] } = spA1 := by unfold spreadV; rw [split_abc]; rfl
theorem sp_at0 : ((spreadV 2 1 { data := #[97, 98, 99] }).map Value.string)[0]? = some (.string { data := #[97, 98] }) := by have := sp_get 0 (by omega); rw [sp_0] at this; exact this
theorem sp_at1 : ((spreadV 2 1 { data := #[97, 98, 99] }).map Value.string)[1]? = some (.string { data := #[99, 0] }) := by have := sp_get 1 (by omega); rw [sp_1] at this; exact this
theorem sp_at2 : ((spreadV 2 1 { data := #[97, 98, 99] }).map Value.string)[2]? = some (.string spA2) := sp_get 2 (by omega)
theorem PtRd.new2 (w : World) (t : TypeId) (i1 : Int) (s1 : ByteArray) (i2 : Int) (s2 : ByteArray) : PtRd (w.alloc (.cells #[.int .i64 i1, .string s1, .int .i64 i2, .string s2] t)) (some ⟨w.heap.size, 0, none⟩) 2 [(i1, s1), (i2, s2)] :=
  ⟨rfl, fun _ => ⟨w.heap.size, 0, rfl, fun i p hi => by
    match i, hi with
    | 0, hi => injection hi with hi; subst hi; rw [(Blk.new w t _).cell, (Blk.new w t _).cell]; exact ⟨rfl, rfl⟩
    | 1, hi => injection hi with hi; subst hi; rw [(Blk.new w t _).cell, (Blk.new w t _).cell]; exact ⟨rfl, rfl⟩
    | i + 2, hi => cases hi⟩⟩
theorem PtRd.new1 (w : World) (t : TypeId) (i1 : Int) (s1 : ByteArray) : PtRd (w.alloc (.cells #[.int .i64 i1, .string s1] t)) (some ⟨w.heap.size, 0, none⟩) 1 [(i1, s1)] :=
  ⟨rfl, fun _ => ⟨w.heap.size, 0, rfl, fun i p hi => by
    match i, hi with
    | 0, hi => injection hi with hi; subst hi; rw [(Blk.new w t _).cell, (Blk.new w t _).cell]; exact ⟨rfl, rfl⟩
    | i + 1, hi => cases hi⟩⟩
theorem al_o1 : Of 2 1 sABC [((1 : Int), { data := #[99, 0] }), (2, spA2)] := fun p hp => by
  simp only [List.mem_cons, List.not_mem_nil, or_false] at hp
  rcases hp with rfl | rfl
  · exact ⟨1, by omega, rfl, sp_1.symm⟩
  · exact ⟨2, by omega, rfl, rfl⟩
theorem al_o2 : Of 2 1 sABC [((2 : Int), spA2), (1, { data := #[99, 0] })] := fun p hp => al_o1 p (by simp only [List.mem_cons, List.not_mem_nil, or_false] at hp ⊢; exact hp.symm)
theorem al_o3 : Of 2 1 sABC [((1 : Int), { data := #[99, 0] })] := fun p hp => al_o1 p (List.mem_cons.2 (.inl (List.mem_singleton.1 hp)))
theorem ptz_s {l : List Pt} (h : Of 2 1 sABC l) : ∀ p ∈ l, p.2.size ≤ 1048576 := fun p hp => by
  obtain ⟨i, hi, _, h2⟩ := h p hp
  rw [h2, spread_size (by omega) _ hi]
  have := sizeN_le 2 sABC.size (by omega)
  have h3 : sABC.size = 3 := rfl
  omega
theorem ptz_i {l : List Pt} (h : Of 2 1 sABC l) : ∀ p ∈ l, -9223372036854775808 ≤ p.1 ∧ p.1 ≤ 9223372036854775807 := fun p hp => by
  obtain ⟨i, hi, h1, _⟩ := h p hp
  omega
theorem al_g1 : gathV 2 1 3 [((1 : Int), { data := #[99, 0] }), (2, spA2)] = { data := #[97, 98, 99] } ∧ gathE 2 1 3 [((1 : Int), { data := #[99, 0] }), (2, spA2)] = 0 :=
  (gath_of (by omega) (by omega) al_o1 (by rw [idxs_len (by omega) al_o1 (by simp)]; simp)).symm
theorem al_a1 : agnV 2 1 0 [((2 : Int), spA2), (1, { data := #[99, 0] })] = { data := #[97, 98] } ∧ agnE 2 1 [((2 : Int), spA2), (1, { data := #[99, 0] })] = 0 := by
  have := agn_of (i := 0) (by omega) (by omega) (by omega) al_o2 (by rw [idxs_len (by omega) al_o2 (by simp)]; simp)
  rw [sp_0] at this
  exact this.symm
theorem al_g2 : gathV 2 1 3 [((1 : Int), { data := #[99, 0] })] = { data := #[] } ∧ gathE 2 1 3 [((1 : Int), { data := #[99, 0] })] = 60 :=
  (gath_few (of_ok (by omega) al_o3) (by rw [idxs_len (by omega) al_o3 (by simp)]; simp)).symm
theorem al_g3 : gathV 2 1 3 [((3 : Int), { data := #[97, 98] })] = { data := #[] } ∧ gathE 2 1 3 [((3 : Int), { data := #[97, 98] })] = 61 :=
  (gath_bad (ok_not (j := 0) (by simp) rfl (by decide))).symm
set_option maxHeartbeats 8000000 in
set_option maxRecDepth 100000 in
theorem alive_B {n0 : Nat} (hE : NoEarly Try.prog n0) {w : World} : CallsB n0 Try.prog 7 #[] w (fun v w' => v = .bool true ∧ Ext w w') := by
  refine callsB_nt w ?_
  refine callsB_of_wp Try.func7 rfl ?_
  simp only [Try.ntmps7, List.size_toArray, List.length_cons, List.length_nil, Nat.reduceAdd, Nat.reduceSub, Array.replicate_succ, Array.replicate_zero, List.push_toArray, List.append_toArray, List.nil_append, List.cons_append]
  refine wpB_seq ?_
  refine wpB_region ?_
  simp only [List.size_toArray, List.length_cons, List.length_nil, Nat.reduceAdd, Nat.zero_add, List.range, List.range.loop]
  (refine opsB_k bodT rfl (by rfl) (by rfl) ?_; intro T D K hK; go_simp; refine hK _ _ ?_; clear hK K; refine opsB.tape T D ?_)
  refine opsB_nil ?_
  simp only [Nx]
  refine wpB_seq ?_
  refine wpB_region ?_
  simp only [List.size_toArray, List.length_cons, List.length_nil, Nat.reduceAdd, Nat.zero_add, List.range, List.range.loop]
  refine opsB_callOf (f := 10) (av := #[.int .i64 2, .int .i64 1, .string { data := #[97, 98, 99] }]) rfl (by rfl) rfl Try.func10 (by rfl) (by decide +kernel) (by simp [Act.eval]) (spread_B hE (k := 2) (r := 1) (by omega) (by omega) (s := { data := #[97, 98, 99] }) (by decide)) ?_
  rintro v w1 ⟨A1, c1, rfl, hr1, hE1⟩
  obtain ⟨g, o, rfl, hcs⟩ := hr1.2 (by omega)
  have hc0 := hcs 0 _ sp_at0
  have hc1 := hcs 1 _ sp_at1
  have hc2 := hcs 2 _ sp_at2
  rw [Nat.add_zero] at hc0
  clear hcs hr1
  simp only [Act.put, List.getElem_toArray, List.getElem_cons_zero, List.getElem_cons_succ, List.setIfInBounds_toArray, List.set_cons_zero, List.set_cons_succ]
  iterate 5 (refine opsB_k bodT rfl (by rfl) (by rfl) ?_; intro T D K hK; go_simp; refine hK _ _ ?_; clear hK K; refine opsB.tape T D ?_)
  refine opsB_nil ?_
  simp only [Nx]
  refine wpB_seq ?_
  refine wpB_seq ?_
  refine wpB_region ?_
  simp only [List.size_toArray, List.length_cons, List.length_nil, Nat.reduceAdd, Nat.zero_add, List.range, List.range.loop]
  iterate 7 (refine opsB_k bodT rfl (by rfl) (by rfl) ?_; intro T D K hK; go_simp; refine hK _ _ ?_; clear hK K; refine opsB.tape T D ?_)
  refine opsB_nil ?_
  simp only [Nx]
  refine wpB_cond (t := false) (by first | rfl | simp [Act.eval, *]) ?_
  simp only [Bool.false_eq_true, if_true, if_false, reduceIte]
  refine wpB_skip ?_
  simp only [Nx]
  have hE0 : Ext w1 (nt w1 w1) := Ext.refl _
  refine wpB_seq ?_
  refine wpB_any bodT (by kernel_rfl) (fun w => w.cell? ⟨g, o + 1, none⟩ = some (.string { data := #[99, 0] }) ∧ w.cell? ⟨g, o + 2, none⟩ = some (.string spA2) ∧ Ext w1 (nt w1 w)) ?_
  simp only [List.size_toArray, List.length_cons, List.length_nil, Nat.reduceAdd]
  refine anyB_steps (fun a w T D h => wpB.tape T D h) (fun w T D h => ⟨h.1, h.2.1, h.2.2.ntp T D⟩) (by kernel_rfl) (b := ?b1) ⟨hc1, hc2, hE0⟩ (fuel := 7) [(0, .slice (some ⟨g, o, none⟩) 3 c1), (1, .pointer (some ⟨g, o + 1, none⟩)), (2, .string { data := #[99, 0] }), (3, .agg #[.int .i64 1, .string { data := #[99, 0] }]), (4, .slice (some ⟨g, o, none⟩) 3 c1), (5, .pointer (some ⟨g, o + 2, none⟩)), (6, .string spA2), (7, .agg #[.int .i64 2, .string spA2])] _ _ _ (by rfl) ?steps1 (by kernel_rfl) ?rest1
  case steps1 =>
    refine StepsB.cons rfl rfl (.inl ⟨by rfl, by rfl, fun w hS => by obtain ⟨h1, h2, _⟩ := hS; go_simp⟩) ?_
    simp only [List.setIfInBounds_toArray, List.set_cons_zero, List.set_cons_succ]
    refine StepsB.cons rfl rfl (.inl ⟨by rfl, by rfl, fun w hS => by obtain ⟨h1, h2, _⟩ := hS; go_simp⟩) ?_
    simp only [List.setIfInBounds_toArray, List.set_cons_zero, List.set_cons_succ]
    refine StepsB.cons rfl rfl (.inl ⟨by rfl, by rfl, fun w hS => by obtain ⟨h1, h2, _⟩ := hS; go_simp⟩) ?_
    simp only [List.setIfInBounds_toArray, List.set_cons_zero, List.set_cons_succ]
    refine StepsB.cons rfl rfl (.inl ⟨by rfl, by rfl, fun w hS => by obtain ⟨h1, h2, _⟩ := hS; go_simp⟩) ?_
    simp only [List.setIfInBounds_toArray, List.set_cons_zero, List.set_cons_succ]
    refine StepsB.cons rfl rfl (.inl ⟨by rfl, by rfl, fun w hS => by obtain ⟨h1, h2, _⟩ := hS; go_simp⟩) ?_
    simp only [List.setIfInBounds_toArray, List.set_cons_zero, List.set_cons_succ]
    refine StepsB.cons rfl rfl (.inl ⟨by rfl, by rfl, fun w hS => by obtain ⟨h1, h2, _⟩ := hS; go_simp⟩) ?_
    simp only [List.setIfInBounds_toArray, List.set_cons_zero, List.set_cons_succ]
    refine StepsB.cons rfl rfl (.inl ⟨by rfl, by rfl, fun w hS => by obtain ⟨h1, h2, _⟩ := hS; go_simp⟩) ?_
    simp only [List.setIfInBounds_toArray, List.set_cons_zero, List.set_cons_succ]
    refine StepsB.cons rfl rfl (.inl ⟨by rfl, by rfl, fun w hS => by obtain ⟨h1, h2, _⟩ := hS; go_simp⟩) ?_
    simp only [List.setIfInBounds_toArray, List.set_cons_zero, List.set_cons_succ]
    exact StepsB.nil
  case rest1 =>
    refine anyB_all (rs := [8]) (by kernel_rfl) (by simp) (fun i hi => ?_)
    obtain rfl := List.mem_singleton.1 hi
    clear hi
    refine opB_k rfl (by rfl) (by rfl) ?_
    intro T D K hK
    go_simp
    refine hK _ _ ?_
    clear hK K
    have hx := (Ext.refl (tp w1 T D)).alloc (.cells #[.int .i64 1, .string { data := #[99, 0] }, .int .i64 2, .string spA2] 44)
    have hP := PtRd.new2 (tp w1 T D) 44 1 { data := #[99, 0] } 2 spA2
    have hd1 := hx.cellv (show (tp w1 T D).cell? ⟨g, o + 1, none⟩ = _ from hc1)
    have hd2 := hx.cellv (show (tp w1 T D).cell? ⟨g, o + 2, none⟩ = _ from hc2)
    have hEa := (hE0.ntp T D).on hx
    clear hx
    generalize (tp w1 T D).alloc (.cells #[.int .i64 1, .string { data := #[99, 0] }, .int .i64 2, .string spA2] 44) = wa at *
    generalize (tp w1 T D).heap.size = G at *
    refine ⟨⟨hd1, hd2, hEa⟩, ?_⟩
    refine anyB_all (rs := [9]) (by kernel_rfl) (by simp) (fun i hi => ?_)
    obtain rfl := List.mem_singleton.1 hi
    clear hi
    refine opB_callOf (f := 16) (av := #[.int .i64 2, .int .i64 1, .int .i64 3, .slice (some ⟨G, 0, none⟩) 2 2]) rfl (by rfl) rfl Try.func16 (by rfl) (by decide +kernel) (by simp [Act.eval]) (by have := gather_B hE (k := 2) (r := 1) (t := 3) (by omega) (by omega) (by omega) (cap := 2) hP (by omega) (ptz_s al_o1) (ptz_i al_o1); rw [al_g1.1, al_g1.2] at this; exact this) ?_
    rintro v w2 ⟨rfl, hEb⟩
    have hd1 := hEb.cellv hd1
    have hd2 := hEb.cellv hd2
    have hEb := hEa.on hEb
    refine ⟨⟨hd1, hd2, hEb⟩, ?_⟩
    simp only [Act.put, List.getElem_toArray, List.getElem_cons_zero, List.getElem_cons_succ, List.setIfInBounds_toArray, List.set_cons_zero, List.set_cons_succ]
    refine anyB_steps (fun a w T D h => wpB.tape T D h) (fun w T D h => ⟨h.1, h.2.1, h.2.2.ntp T D⟩) (by kernel_rfl) (b := ?b2) ⟨hd1, hd2, hEb⟩ (fuel := 0) [(10, .tuple #[.string { data := #[97, 98, 99] }, .int .i64 0]), (11, .string { data := #[97, 98, 99] }), (12, .int .i64 0), (13, .string { data := #[97, 98, 99] }), (14, .int .i64 0)] _ _ _ (by rfl) ?steps2 (by kernel_rfl) ?rest2
    case steps2 =>
      refine StepsB.cons rfl rfl (.inl ⟨by rfl, by rfl, fun w hS => by obtain ⟨h1, h2, _⟩ := hS; go_simp⟩) ?_
      simp only [List.setIfInBounds_toArray, List.set_cons_zero, List.set_cons_succ]
      refine StepsB.cons rfl rfl (.inl ⟨by rfl, by rfl, fun w hS => by obtain ⟨h1, h2, _⟩ := hS; go_simp⟩) ?_
      simp only [List.setIfInBounds_toArray, List.set_cons_zero, List.set_cons_succ]
      refine StepsB.cons rfl rfl (.inl ⟨by rfl, by rfl, fun w hS => by obtain ⟨h1, h2, _⟩ := hS; go_simp⟩) ?_
      simp only [List.setIfInBounds_toArray, List.set_cons_zero, List.set_cons_succ]
      refine StepsB.cons rfl rfl (.inl ⟨by rfl, by rfl, fun w hS => by obtain ⟨h1, h2, _⟩ := hS; go_simp⟩) ?_
      simp only [List.setIfInBounds_toArray, List.set_cons_zero, List.set_cons_succ]
      refine StepsB.cons rfl rfl (.inl ⟨by rfl, by rfl, fun w hS => by obtain ⟨h1, h2, _⟩ := hS; go_simp⟩) ?_
      simp only [List.setIfInBounds_toArray, List.set_cons_zero, List.set_cons_succ]
      exact StepsB.nil
    case rest2 =>
      refine anyB_done (by kernel_rfl) ?_ _
      simp only [Nx]
      refine wpB.tape (w := nt w1 w2) w2.tape w2.drawn ?_
      have hc0 := hEb.cellv hc0
      replace hc1 : (nt w1 w2).cell? ⟨g, o + 1, none⟩ = _ := hd1
      replace hc2 : (nt w1 w2).cell? ⟨g, o + 2, none⟩ = _ := hd2
      replace hE1 := hE1.trans hEb
      clear hd1 hd2 hP hEa hE0 hEb
      generalize nt w1 w2 = w2 at *
      have hE0 : Ext w2 (nt w2 w2) := Ext.refl _
      refine wpB_seq ?_
      refine wpB_any bodT (by kernel_rfl) (fun w => w.cell? ⟨g, o + 1, none⟩ = some (.string { data := #[99, 0] }) ∧ w.cell? ⟨g, o + 2, none⟩ = some (.string spA2) ∧ Ext w2 (nt w2 w)) ?_
      simp only [List.size_toArray, List.length_cons, List.length_nil, Nat.reduceAdd]
      refine anyB_steps (fun a w T D h => wpB.tape T D h) (fun w T D h => ⟨h.1, h.2.1, h.2.2.ntp T D⟩) (by kernel_rfl) (b := ?b3) ⟨hc1, hc2, hE0⟩ (fuel := 7) [(0, .slice (some ⟨g, o, none⟩) 3 c1), (1, .pointer (some ⟨g, o + 2, none⟩)), (2, .string spA2), (3, .agg #[.int .i64 2, .string spA2]), (4, .slice (some ⟨g, o, none⟩) 3 c1), (5, .pointer (some ⟨g, o + 1, none⟩)), (6, .string { data := #[99, 0] }), (7, .agg #[.int .i64 1, .string { data := #[99, 0] }])] _ _ _ (by rfl) ?steps3 (by kernel_rfl) ?rest3
      case steps3 =>
        refine StepsB.cons rfl rfl (.inl ⟨by rfl, by rfl, fun w hS => by obtain ⟨h1, h2, _⟩ := hS; go_simp⟩) ?_
        simp only [List.setIfInBounds_toArray, List.set_cons_zero, List.set_cons_succ]
        refine StepsB.cons rfl rfl (.inl ⟨by rfl, by rfl, fun w hS => by obtain ⟨h1, h2, _⟩ := hS; go_simp⟩) ?_
        simp only [List.setIfInBounds_toArray, List.set_cons_zero, List.set_cons_succ]
        refine StepsB.cons rfl rfl (.inl ⟨by rfl, by rfl, fun w hS => by obtain ⟨h1, h2, _⟩ := hS; go_simp⟩) ?_
        simp only [List.setIfInBounds_toArray, List.set_cons_zero, List.set_cons_succ]
        refine StepsB.cons rfl rfl (.inl ⟨by rfl, by rfl, fun w hS => by obtain ⟨h1, h2, _⟩ := hS; go_simp⟩) ?_
        simp only [List.setIfInBounds_toArray, List.set_cons_zero, List.set_cons_succ]
        refine StepsB.cons rfl rfl (.inl ⟨by rfl, by rfl, fun w hS => by obtain ⟨h1, h2, _⟩ := hS; go_simp⟩) ?_
        simp only [List.setIfInBounds_toArray, List.set_cons_zero, List.set_cons_succ]
        refine StepsB.cons rfl rfl (.inl ⟨by rfl, by rfl, fun w hS => by obtain ⟨h1, h2, _⟩ := hS; go_simp⟩) ?_
        simp only [List.setIfInBounds_toArray, List.set_cons_zero, List.set_cons_succ]
        refine StepsB.cons rfl rfl (.inl ⟨by rfl, by rfl, fun w hS => by obtain ⟨h1, h2, _⟩ := hS; go_simp⟩) ?_
        simp only [List.setIfInBounds_toArray, List.set_cons_zero, List.set_cons_succ]
        refine StepsB.cons rfl rfl (.inl ⟨by rfl, by rfl, fun w hS => by obtain ⟨h1, h2, _⟩ := hS; go_simp⟩) ?_
        simp only [List.setIfInBounds_toArray, List.set_cons_zero, List.set_cons_succ]
        exact StepsB.nil
      case rest3 =>
        refine anyB_all (rs := [8]) (by kernel_rfl) (by simp) (fun i hi => ?_)
        obtain rfl := List.mem_singleton.1 hi
        clear hi
        refine opB_k rfl (by rfl) (by rfl) ?_
        intro T D K hK
        go_simp
        refine hK _ _ ?_
        clear hK K
        have hx := (Ext.refl (tp w2 T D)).alloc (.cells #[.int .i64 2, .string spA2, .int .i64 1, .string { data := #[99, 0] }] 44)
        have hP := PtRd.new2 (tp w2 T D) 44 2 spA2 1 { data := #[99, 0] }
        have hd1 := hx.cellv (show (tp w2 T D).cell? ⟨g, o + 1, none⟩ = _ from hc1)
        have hd2 := hx.cellv (show (tp w2 T D).cell? ⟨g, o + 2, none⟩ = _ from hc2)
        have hEa := (hE0.ntp T D).on hx
        clear hx
        generalize (tp w2 T D).alloc (.cells #[.int .i64 2, .string spA2, .int .i64 1, .string { data := #[99, 0] }] 44) = wa at *
        generalize (tp w2 T D).heap.size = G at *
        refine ⟨⟨hd1, hd2, hEa⟩, ?_⟩
        refine anyB_all (rs := [9]) (by kernel_rfl) (by simp) (fun i hi => ?_)
        obtain rfl := List.mem_singleton.1 hi
        clear hi
        refine opB_callOf (f := 18) (av := #[.int .i64 2, .int .i64 1, .int .i64 0, .slice (some ⟨G, 0, none⟩) 2 2]) rfl (by rfl) rfl Try.func18 (by rfl) (by decide +kernel) (by simp [Act.eval]) (by have := again_B hE (k := 2) (r := 1) (i := 0) (by omega) (by omega) (by omega) (cap := 2) hP (by omega) (ptz_s al_o2) (ptz_i al_o2); rw [al_a1.1, al_a1.2] at this; exact this) ?_
        rintro v w3 ⟨rfl, hEb⟩
        have hd1 := hEb.cellv hd1
        have hd2 := hEb.cellv hd2
        have hEb := hEa.on hEb
        refine ⟨⟨hd1, hd2, hEb⟩, ?_⟩
        simp only [Act.put, List.getElem_toArray, List.getElem_cons_zero, List.getElem_cons_succ, List.setIfInBounds_toArray, List.set_cons_zero, List.set_cons_succ]
        refine anyB_steps (fun a w T D h => wpB.tape T D h) (fun w T D h => ⟨h.1, h.2.1, h.2.2.ntp T D⟩) (by kernel_rfl) (b := ?b4) ⟨hd1, hd2, hEb⟩ (fuel := 0) [(10, .tuple #[.string { data := #[97, 98] }, .int .i64 0]), (11, .string { data := #[97, 98] }), (12, .int .i64 0), (13, .string { data := #[97, 98] }), (14, .int .i64 0)] _ _ _ (by rfl) ?steps4 (by kernel_rfl) ?rest4
        case steps4 =>
          refine StepsB.cons rfl rfl (.inl ⟨by rfl, by rfl, fun w hS => by obtain ⟨h1, h2, _⟩ := hS; go_simp⟩) ?_
          simp only [List.setIfInBounds_toArray, List.set_cons_zero, List.set_cons_succ]
          refine StepsB.cons rfl rfl (.inl ⟨by rfl, by rfl, fun w hS => by obtain ⟨h1, h2, _⟩ := hS; go_simp⟩) ?_
          simp only [List.setIfInBounds_toArray, List.set_cons_zero, List.set_cons_succ]
          refine StepsB.cons rfl rfl (.inl ⟨by rfl, by rfl, fun w hS => by obtain ⟨h1, h2, _⟩ := hS; go_simp⟩) ?_
          simp only [List.setIfInBounds_toArray, List.set_cons_zero, List.set_cons_succ]
          refine StepsB.cons rfl rfl (.inl ⟨by rfl, by rfl, fun w hS => by obtain ⟨h1, h2, _⟩ := hS; go_simp⟩) ?_
          simp only [List.setIfInBounds_toArray, List.set_cons_zero, List.set_cons_succ]
          refine StepsB.cons rfl rfl (.inl ⟨by rfl, by rfl, fun w hS => by obtain ⟨h1, h2, _⟩ := hS; go_simp⟩) ?_
          simp only [List.setIfInBounds_toArray, List.set_cons_zero, List.set_cons_succ]
          exact StepsB.nil
        case rest4 =>
          refine anyB_done (by kernel_rfl) ?_ _
          simp only [Nx]
          refine wpB.tape (w := nt w2 w3) w3.tape w3.drawn ?_
          have hc0 := hEb.cellv hc0
          replace hc1 : (nt w2 w3).cell? ⟨g, o + 1, none⟩ = _ := hd1
          replace hc2 : (nt w2 w3).cell? ⟨g, o + 2, none⟩ = _ := hd2
          replace hE1 := hE1.trans hEb
          clear hd1 hd2 hP hEa hE0 hEb
          generalize nt w2 w3 = w3 at *
          have hct1 : ∀ T D, (tp w3 T D).cell? ⟨g, o + 1, none⟩ = some (.string { data := #[99, 0] }) := fun _ _ => hc1
          refine wpB_seq ?_
          refine wpB_region ?_
          simp only [List.size_toArray, List.length_cons, List.length_nil, Nat.reduceAdd, Nat.zero_add, List.range, List.range.loop]
          iterate 4 (refine opsB_k bodT rfl (by rfl) (by rfl) ?_; intro T D K hK; go_simp; refine hK _ _ ?_; clear hK K; refine opsB.tape T D ?_)
          refine opsB_k bodT rfl (by rfl) (by rfl) ?_
          intro T D K hK
          go_simp
          refine hK _ _ ?_
          clear hK K
          have hP := PtRd.new1 w3 44 1 { data := #[99, 0] }
          have hx := (Ext.refl w3).alloc (.cells #[.int .i64 1, .string { data := #[99, 0] }] 44)
          refine opsB.re (w := w3.alloc (.cells #[.int .i64 1, .string { data := #[99, 0] }] 44)) T D rfl ?_
          rw [show (tp w3 T D).heap.size = w3.heap.size from rfl]
          generalize w3.alloc (.cells #[.int .i64 1, .string { data := #[99, 0] }] 44) = w3a at *
          generalize w3.heap.size = G at *
          refine opsB_callOf (f := 16) (av := #[.int .i64 2, .int .i64 1, .int .i64 3, .slice (some ⟨G, 0, none⟩) 1 1]) rfl (by rfl) rfl Try.func16 (by rfl) (by decide +kernel) (by simp [Act.eval]) (by have := gather_B hE (k := 2) (r := 1) (t := 3) (by omega) (by omega) (by omega) (cap := 1) hP (by omega) (ptz_s al_o3) (ptz_i al_o3); rw [al_g2.1, al_g2.2] at this; exact this) ?_
          rintro v w4 ⟨rfl, hE4⟩
          replace hE4 := hx.trans hE4
          clear hx hP
          simp only [Act.put, List.getElem_toArray, List.getElem_cons_zero, List.getElem_cons_succ, List.setIfInBounds_toArray, List.set_cons_zero, List.set_cons_succ]
          iterate 5 (refine opsB_k bodT rfl (by rfl) (by rfl) ?_; intro T D K hK; go_simp; refine hK _ _ ?_; clear hK K; refine opsB.tape T D ?_)
          refine opsB_nil ?_
          simp only [Nx]
          refine wpB_seq ?_
          refine wpB_region ?_
          simp only [List.size_toArray, List.length_cons, List.length_nil, Nat.reduceAdd, Nat.zero_add, List.range, List.range.loop]
          (refine opsB_k bodT rfl (by rfl) (by rfl) ?_; intro T D K hK; go_simp; refine hK _ _ ?_; clear hK K; refine opsB.tape T D ?_)
          refine opsB_k bodT rfl (by rfl) (by rfl) ?_
          intro T D K hK
          go_simp
          refine hK _ _ ?_
          clear hK K
          have hP := PtRd.new1 w4 44 3 { data := #[97, 98] }
          have hx := (Ext.refl w4).alloc (.cells #[.int .i64 3, .string { data := #[97, 98] }] 44)
          refine opsB.re (w := w4.alloc (.cells #[.int .i64 3, .string { data := #[97, 98] }] 44)) T D rfl ?_
          rw [show (tp w4 T D).heap.size = w4.heap.size from rfl]
          generalize w4.alloc (.cells #[.int .i64 3, .string { data := #[97, 98] }] 44) = w4a at *
          generalize w4.heap.size = G at *
          refine opsB_callOf (f := 16) (av := #[.int .i64 2, .int .i64 1, .int .i64 3, .slice (some ⟨G, 0, none⟩) 1 1]) rfl (by rfl) rfl Try.func16 (by rfl) (by decide +kernel) (by simp [Act.eval]) (by have := gather_B hE (k := 2) (r := 1) (t := 3) (by omega) (by omega) (by omega) (cap := 1) hP (by omega) (fun p hp => by obtain rfl := List.mem_singleton.1 hp; decide) (fun p hp => by obtain rfl := List.mem_singleton.1 hp; decide); rw [al_g3.1, al_g3.2] at this; exact this) ?_
          rintro v w5 ⟨rfl, hE5⟩
          replace hE5 := hx.trans hE5
          clear hx hP
          simp only [Act.put, List.getElem_toArray, List.getElem_cons_zero, List.getElem_cons_succ, List.setIfInBounds_toArray, List.set_cons_zero, List.set_cons_succ]
          iterate 5 (refine opsB_k bodT rfl (by rfl) (by rfl) ?_; intro T D K hK; go_simp; refine hK _ _ ?_; clear hK K; refine opsB.tape T D ?_)
          refine opsB_nil ?_
          simp only [Nx]
          refine wpB_seq ?_
          refine wpB_region ?_
          simp only [List.size_toArray, List.length_cons, List.length_nil, Nat.reduceAdd, Nat.zero_add, List.range, List.range.loop]
          refine opsB_callOf (f := 8) (av := #[.int .i64 2, .string { data := #[97, 98, 99] }]) rfl (by rfl) rfl Try.func8 (by rfl) (by decide +kernel) (by simp [Act.eval]) (callsB_of tameT hE (by decide) ⟨_, Try.func8, rfl⟩ (R := fun v w'' => ∃ (A : Option Addr) (cap : Nat), v = .tuple #[.slice A 2 cap, .int .i64 0] ∧ Rd w'' A 2 ([({ data := #[97, 98] } : ByteArray), { data := #[99, 0] }].map Value.string) ∧ Ext w5 w'') (fun T D => (split_any 2 { data := #[97, 98, 99] } (by omega) (by decide) _).mono fun e w' ⟨A, cap, h1, h2, h3⟩ => ⟨_, h1, A, cap, rfl, by have := rd_owns h2; rw [show splitV 2 { data := #[97, 98, 99] } = [{ data := #[97, 98] }, { data := #[99, 0] }] from split_abc] at this; exact this, h3.nt⟩)) ?_
          rintro v w6 ⟨A6, c6, rfl, hr6, hE6⟩
          obtain ⟨g6, o6, rfl, hcs6⟩ := hr6.2 (by omega)
          have hc6 := hcs6 0 _ rfl
          rw [Nat.add_zero] at hc6
          clear hr6 hcs6
          simp only [Act.put, List.getElem_toArray, List.getElem_cons_zero, List.getElem_cons_succ, List.setIfInBounds_toArray, List.set_cons_zero, List.set_cons_succ]
          iterate 5 (refine opsB_k bodT rfl (by rfl) (by rfl) ?_; intro T D K hK; go_simp; refine hK _ _ ?_; clear hK K; refine opsB.tape T D ?_)
          refine opsB_nil ?_
          simp only [Nx]
          refine wpB_seq ?_
          refine wpB_region ?_
          simp only [List.size_toArray, List.length_cons, List.length_nil, Nat.reduceAdd, Nat.zero_add, List.range, List.range.loop]
          refine opsB_callOf (f := 10) (av := #[.int .i64 0, .int .i64 1, .string { data := #[] }]) rfl (by rfl) rfl Try.func10 (by rfl) (by decide +kernel) (by simp [Act.eval]) (spread_Bno hE (by decide)) ?_
          rintro v w7 ⟨rfl, hE7⟩
          simp only [Act.put, List.getElem_toArray, List.getElem_cons_zero, List.getElem_cons_succ, List.setIfInBounds_toArray, List.set_cons_zero, List.set_cons_succ]
          iterate 5 (refine opsB_k bodT rfl (by rfl) (by rfl) ?_; intro T D K hK; go_simp; refine hK _ _ ?_; clear hK K; refine opsB.tape T D ?_)
          refine opsB_nil ?_
          simp only [Nx]
          have hE17 := hE1.trans (hE4.trans (hE5.trans (hE6.trans hE7)))
          replace hc0 := (hE4.trans (hE5.trans (hE6.trans hE7))).cellv hc0
          replace hc1 := (hE4.trans (hE5.trans (hE6.trans hE7))).cellv hc1
          replace hc6 := hE7.cellv hc6
          refine wpB_rest tameT hE (by decide +kernel) rfl (fun T D => ?_)
          have hd0 : (tp w7 T D).cell? ⟨g, o, none⟩ = some (.string { data := #[97, 98] }) := hc0
          have hd1 : (tp w7 T D).cell? ⟨g, o + 1, none⟩ = some (.string { data := #[99, 0] }) := hc1
          have hd6 : (tp w7 T D).cell? ⟨g6, o6, none⟩ = some (.string { data := #[97, 98] }) := hc6
          have HS := Lib.hid (show sizeI 2 3 = 2 by decide)
          generalize hw8 : tp w7 T D = w8 at *
          clear hct1 hc0 hc1 hc6
          go_wp2_with (go_at_call 12; refine (size_any 2 3 (by omega) _).mono ?_; rintro e w9 ⟨rfl, hE9⟩; rw [HS.out])
          go_ret
          subst hw8
          exact ⟨_, rfl, rfl, hE17.ntt hE9⟩
end Go.Proofs.Ytjdppgogdilgkaa
end
section
namespace Go.Proofs.Ytjdppgogdilgkaa
open Go.RowKit Go.Gf Go.Co Go.Conc
set_option linter.unusedVariables false
set_option linter.unusedSimpArgs false
def splW (k : Int) (s : ByteArray) : List ByteArray := if canB k 0 = true then splitV k.toNat s else []
def splE (k : Int) : Int := if canB k 0 = true then 0 else 2
noncomputable def sprW (k r : Int) (s : ByteArray) : List ByteArray := if canB k r = true then spreadV k.toNat r.toNat s else []
def sprE (k r : Int) : Int := if canB k r = true then 0 else 2
def RowsB (l : List ByteArray) (E : Int) (w : World) (v : Value) (w' : World) : Prop :=
  ∃ (A : Option Addr) (n cap : Nat), v = .tuple #[.slice A n cap, .int .i64 E] ∧ n ≤ 1048576 ∧ Rd w' A n (l.map Value.string) ∧ Ext w w'
theorem can_nat {k r : Int} (h : canB k r = true) : ∃ a b : Nat, k = a ∧ r = b ∧ 1 ≤ a ∧ a + b ≤ 32 := by
  unfold canB at h
  simp at h
  exact ⟨k.toNat, r.toNat, by omega, by omega, by omega, by omega⟩
theorem split_all {n0 : Nat} (hE : NoEarly Try.prog n0) (k : Int) {s : ByteArray} (hz : s.size ≤ 1048000) {w : World} : CallsB n0 Try.prog 8 #[.int .i64 k, .string s] w (RowsB (splW k s) (splE k) w) := by
  refine callsB_of tameT hE (by decide) ⟨_, Try.func8, rfl⟩ fun T D => ?_
  unfold splW splE
  by_cases h : canB k 0 = true
  · rw [if_pos h, if_pos h]
    obtain ⟨a, b, rfl, hb, h1, h2⟩ := can_nat h
    exact (split_any a s (by omega) hz _).mono fun e w' ⟨A, cap, q1, q2, q3⟩ => ⟨_, q1, A, a, cap, rfl, by omega, rd_owns q2, q3.nt⟩
  · rw [if_neg h, if_neg h]
    exact (split_no k s (by simpa using h) _).mono fun e w' ⟨q1, q2⟩ => ⟨_, q1, none, 0, 0, rfl, by omega, Rd.nil _ _, q2.nt⟩
theorem rsplit_all {n0 : Nat} (hE : NoEarly Try.prog n0) (k : Int) {s : ByteArray} (hz : s.size ≤ 1048000) {w : World} : CallsB n0 Try.prog 9 #[.int .i64 k, .string s] w (RowsB (splW k s) (splE k) w) := by
  refine callsB_of tameT hE (by decide) ⟨_, Try.func9, rfl⟩ fun T D => ?_
  unfold splW splE
  by_cases h : canB k 0 = true
  · rw [if_pos h, if_pos h]
    obtain ⟨a, b, rfl, hb, h1, h2⟩ := can_nat h
    exact (rsplit_any a s (by omega) hz _).mono fun e w' ⟨A, cap, q1, q2, q3⟩ => ⟨_, q1, A, a, cap, rfl, by omega, rd_owns q2, q3.nt⟩
  · rw [if_neg h, if_neg h]
    exact (rsplit_no k s (by simpa using h) _).mono fun e w' ⟨q1, q2⟩ => ⟨_, q1, none, 0, 0, rfl, by omega, Rd.nil _ _, q2.nt⟩
theorem callsB_mono {n : Nat} {P : Program} {f : FuncId} {args : Array Value} {w : World} {R R' : Value → World → Prop} (h : CallsB n P f args w R) (hR : ∀ v w', R v w' → R' v w') : CallsB n P f args w R' := fun Post cs k =>
  h Post cs fun v w' fr r h1 h2 => k v w' fr (hR v w' r) h1 h2
theorem spread_all {n0 : Nat} (hE : NoEarly Try.prog n0) (k r : Int) {s : ByteArray} (hz : s.size ≤ 1048000) {w : World} : CallsB n0 Try.prog 10 #[.int .i64 k, .int .i64 r, .string s] w (RowsB (sprW k r s) (sprE k r) w) := by
  unfold sprW sprE
  by_cases h : canB k r = true
  · rw [if_pos h, if_pos h]
    obtain ⟨a, b, rfl, rfl, h1, h2⟩ := can_nat h
    exact callsB_mono (spread_B hE h1 h2 hz) fun v w' ⟨A, cap, q1, q2, q3⟩ => ⟨A, a + b, cap, q1, by omega, q2, q3⟩
  · rw [if_neg h, if_neg h]
    exact callsB_mono (spread_Bno hE (by simpa using h)) fun v w' ⟨q1, q2⟩ => ⟨none, 0, 0, q1, by omega, Rd.nil _ _, q2⟩
theorem rspread_all {n0 : Nat} (hE : NoEarly Try.prog n0) (k r : Int) {s : ByteArray} (hz : s.size ≤ 1048000) {w : World} : CallsB n0 Try.prog 11 #[.int .i64 k, .int .i64 r, .string s] w (RowsB (sprW k r s) (sprE k r) w) := by
  refine callsB_of tameT hE (by decide) ⟨_, Try.func11, rfl⟩ fun T D => ?_
  unfold sprW sprE
  by_cases h : canB k r = true
  · rw [if_pos h, if_pos h]
    obtain ⟨a, b, rfl, rfl, h1, h2⟩ := can_nat h
    refine (rspread_any a b h1 h2 s hz _).mono fun e w' ⟨A, cap, q1, q2, q3⟩ => ⟨_, q1, A, a + b, cap, rfl, by omega, ?_, q3.nt⟩
    show Rd w' A (a + b) ((spreadV a b s).map Value.string)
    rw [spread_eq h1 s]
    exact q2
  · rw [if_neg h, if_neg h]
    exact (rspread_no k r s (by simpa using h) _).mono fun e w' ⟨q1, q2⟩ => ⟨_, q1, none, 0, 0, rfl, by omega, Rd.nil _ _, q2.nt⟩
noncomputable def gaW (k r t : Int) (l : List Pt) : ByteArray := if canB k r = true ∧ 0 ≤ t then gathV k.toNat r.toNat t.toNat l else { data := #[] }
noncomputable def gaE (k r t : Int) (l : List Pt) : Int := if canB k r = true ∧ 0 ≤ t then gathE k.toNat r.toNat t.toNat l else 2
noncomputable def agW (k r i : Int) (l : List Pt) : ByteArray := if canB k r = true ∧ 0 ≤ i ∧ i < k + r then agnV k.toNat r.toNat i.toNat l else { data := #[] }
noncomputable def agE (k r i : Int) (l : List Pt) : Int := if canB k r = true ∧ 0 ≤ i ∧ i < k + r then agnE k.toNat r.toNat l else 2
section
variable {n0 : Nat} (hE : NoEarly Try.prog n0) (k r t : Int) {A : Option Addr} {n cap : Nat} {l : List Pt} {w : World} (ht : t ≤ 9223372036854775807) (hr : PtRd w A n l) (hn : n ≤ 1048576) (hz : ∀ p ∈ l, p.2.size ≤ 1048576) (hi : ∀ p ∈ l, -9223372036854775808 ≤ p.1 ∧ p.1 ≤ 9223372036854775807)
include hE ht hr hn hz hi
theorem gather_all : CallsB n0 Try.prog 16 #[.int .i64 k, .int .i64 r, .int .i64 t, .slice A n cap] w (AnsB (gaW k r t l) (gaE k r t l) w) := by
  unfold gaW gaE
  by_cases h : canB k r = true ∧ 0 ≤ t
  · rw [if_pos h, if_pos h]
    obtain ⟨a, b, rfl, rfl, h1, h2⟩ := can_nat h.1
    obtain ⟨t, rfl⟩ : ∃ m : Nat, t = m := ⟨t.toNat, by omega⟩
    exact gather_B hE h1 h2 (by omega) hr hn hz hi
  · rw [if_neg h, if_neg h]
    exact gather_Bbad hE (by
      by_cases h1 : canB k r = false
      · exact .inl h1
      · exact .inr (by have : ¬ 0 ≤ t := fun x => h ⟨by simpa using h1, x⟩; omega))
theorem rgather_all : CallsB n0 Try.prog 17 #[.int .i64 k, .int .i64 r, .int .i64 t, .slice A n cap] w (AnsB (gaW k r t l) (gaE k r t l) w) := by
  refine callsB_of tameT hE (by decide) ⟨_, Try.func17, rfl⟩ fun T D => ?_
  unfold gaW gaE
  by_cases h : canB k r = true ∧ 0 ≤ t
  · rw [if_pos h, if_pos h]
    obtain ⟨a, b, rfl, rfl, h1, h2⟩ := can_nat h.1
    obtain ⟨t, rfl⟩ : ∃ m : Nat, t = m := ⟨t.toNat, by omega⟩
    exact (rgather_any a b t h1 h2 (by omega) A n cap l (tp w T D) hr hn hz hi).mono fun e w' ⟨q1, q2⟩ => ⟨_, q1, rfl, q2.nt⟩
  · rw [if_neg h, if_neg h]
    exact (rgather_no k r t A n cap (by
      by_cases h1 : canB k r = false
      · exact .inl h1
      · exact .inr (by have : ¬ 0 ≤ t := fun x => h ⟨by simpa using h1, x⟩; omega)) (tp w T D)).mono fun e w' ⟨q1, q2⟩ => ⟨_, q1, rfl, q2.nt⟩
end
section
variable {n0 : Nat} (hE : NoEarly Try.prog n0) (k r i : Int) {A : Option Addr} {n cap : Nat} {l : List Pt} {w : World} (hr : PtRd w A n l) (hn : n ≤ 1048576) (hz : ∀ p ∈ l, p.2.size ≤ 1048576) (hi : ∀ p ∈ l, -9223372036854775808 ≤ p.1 ∧ p.1 ≤ 9223372036854775807)
include hE hr hn hz hi
theorem again_all : CallsB n0 Try.prog 18 #[.int .i64 k, .int .i64 r, .int .i64 i, .slice A n cap] w (AnsB (agW k r i l) (agE k r i l) w) := by
  unfold agW agE
  by_cases h : canB k r = true ∧ 0 ≤ i ∧ i < k + r
  · rw [if_pos h, if_pos h]
    obtain ⟨a, b, rfl, rfl, h1, h2⟩ := can_nat h.1
    obtain ⟨i, rfl⟩ : ∃ m : Nat, i = m := ⟨i.toNat, by omega⟩
    exact again_B hE h1 h2 (by omega) hr hn hz hi
  · rw [if_neg h, if_neg h]
    exact again_Bbad hE (by
      by_cases h1 : canB k r = false
      · exact .inl h1
      · exact .inr (by have : ¬ (0 ≤ i ∧ i < k + r) := fun x => h ⟨by simpa using h1, x⟩; omega))
theorem ragain_all : CallsB n0 Try.prog 19 #[.int .i64 k, .int .i64 r, .int .i64 i, .slice A n cap] w (AnsB (agW k r i l) (agE k r i l) w) := by
  refine callsB_of tameT hE (by decide) ⟨_, Try.func19, rfl⟩ fun T D => ?_
  unfold agW agE
  by_cases h : canB k r = true ∧ 0 ≤ i ∧ i < k + r
  · rw [if_pos h, if_pos h]
    obtain ⟨a, b, rfl, rfl, h1, h2⟩ := can_nat h.1
    obtain ⟨i, rfl⟩ : ∃ m : Nat, i = m := ⟨i.toNat, by omega⟩
    exact (ragain_any a b i h1 h2 (by omega) A n cap l (tp w T D) hr hn hz hi).mono fun e w' ⟨q1, q2⟩ => ⟨_, q1, rfl, q2.nt⟩
  · rw [if_neg h, if_neg h]
    exact (ragain_no k r i A n cap (by
      by_cases h1 : canB k r = false
      · exact .inl h1
      · exact .inr (by have : ¬ (0 ≤ i ∧ i < k + r) := fun x => h ⟨by simpa using h1, x⟩; omega)) (tp w T D)).mono fun e w' ⟨q1, q2⟩ => ⟨_, q1, rfl, q2.nt⟩
end
end Go.Proofs.Ytjdppgogdilgkaa
end
