import Derived.Test.YtjdppgogdilgkaaTD
section
namespace Go.Proofs.Ytjdppgogdilgkaa
open Go.RowKit Go.Gf Go.Co Go.Conc
set_option linter.unusedSimpArgs false
set_option linter.unusedVariables false
def NilB (E : Int) (w : World) (v : Value) (w' : World) : Prop := v = .tuple #[.slice none 0 0, .int .i64 E] ∧ Ext w w'
set_option maxHeartbeats 8000000 in
set_option maxRecDepth 100000 in
theorem spread_Bno {n0 : Nat} (hE : NoEarly Try.prog n0) {k r : Int} (h : canB k r = false) {s : ByteArray} {w : World} :
    CallsB n0 Try.prog 10 #[.int .i64 k, .int .i64 r, .string s] w (NilB 2 w) := by
  have HC := Lib.hid h
  clear h
  refine callsB_of_wp Try.func10 rfl ?_
  simp only [Try.ntmps10, List.size_toArray, List.length_cons, List.length_nil, Nat.reduceAdd, Nat.reduceSub, Array.replicate_succ, Array.replicate_zero, List.push_toArray, List.append_toArray, List.nil_append, List.cons_append]
  refine wpB_seq ?_
  refine wpB_region ?_
  simp only [List.size_toArray, List.length_cons, List.length_nil, Nat.reduceAdd, Nat.zero_add, List.range, List.range.loop]
  iterate 2 (refine opsB_k bodT rfl (by rfl) (by rfl) ?_; intro T D K hK; go_simp; refine hK _ _ ?_; clear hK K; refine opsB.tape T D ?_)
  refine opsB_nil ?_
  simp only [Nx]
  refine wpB_seq ?_
  refine wpB_seq ?_
  refine wpB_region ?_
  simp only [List.size_toArray, List.length_cons, List.length_nil, Nat.reduceAdd, Nat.zero_add, List.range, List.range.loop]
  iterate 2 (refine opsB_k bodT rfl (by rfl) (by rfl) ?_; intro T D K hK; go_simp; refine hK _ _ ?_; clear hK K; refine opsB.tape T D ?_)
  refine opsB_callOf (f := 20) (av := #[.int .i64 k, .int .i64 r]) rfl (by rfl) rfl Try.func20 (by rfl) (by decide +kernel) (by simp [Act.eval]) (callsB_same tameT hE (by decide) ⟨_, Try.func20, rfl⟩ (fun T D => (can_any k r _).mono fun e w' ⟨h1, h2⟩ => ⟨by rw [h1, HC.out], h2⟩)) ?_
  rintro v w' ⟨rfl, rfl⟩
  simp only [Act.put, List.getElem_toArray, List.getElem_cons_zero, List.getElem_cons_succ, List.setIfInBounds_toArray, List.set_cons_zero, List.set_cons_succ]
  (refine opsB_k bodT rfl (by rfl) (by rfl) ?_; intro T D K hK; go_simp; refine hK _ _ ?_; clear hK K; refine opsB.tape T D ?_)
  refine opsB_nil ?_
  simp only [Nx]
  refine wpB_cond (t := true) (by first | rfl | simp [Act.eval, *]) ?_
  simp only [Bool.false_eq_true, if_true, if_false, reduceIte]
  refine wpB_seq ?_
  refine wpB_region ?_
  simp only [List.size_toArray, List.length_cons, List.length_nil, Nat.reduceAdd, Nat.zero_add, List.range, List.range.loop]
  iterate 2 (refine opsB_k bodT rfl (by rfl) (by rfl) ?_; intro T D K hK; go_simp; refine hK _ _ ?_; clear hK K; refine opsB.tape T D ?_)
  refine opsB_nil ?_
  simp only [Nx]
  refine wpB_ret ?_
  exact bodyB_ret rfl (results_tmp2 rfl rfl rfl _) (⟨rfl, Ext.refl _⟩)
set_option maxHeartbeats 8000000 in
set_option maxRecDepth 100000 in
theorem gather_Bbad {n0 : Nat} (hE : NoEarly Try.prog n0) {k r t : Int} (h : canB k r = false ∨ t < 0) {A : Option Addr} {n cap : Nat} {w : World} :
    CallsB n0 Try.prog 16 #[.int .i64 k, .int .i64 r, .int .i64 t, .slice A n cap] w (AnsB { data := #[] } 2 w) := by
  by_cases h1 : canB k r = false
  · have HC := Lib.hid h1
    clear h h1
    refine callsB_of_wp Try.func16 rfl ?_
    simp only [Try.ntmps16, List.size_toArray, List.length_cons, List.length_nil, Nat.reduceAdd, Nat.reduceSub, Array.replicate_succ, Array.replicate_zero, List.push_toArray, List.append_toArray, List.nil_append, List.cons_append]
    refine wpB_seq ?_
    refine wpB_region ?_
    simp only [List.size_toArray, List.length_cons, List.length_nil, Nat.reduceAdd, Nat.zero_add, List.range, List.range.loop]
    iterate 2 (refine opsB_k bodT rfl (by rfl) (by rfl) ?_; intro T D K hK; go_simp; refine hK _ _ ?_; clear hK K; refine opsB.tape T D ?_)
    refine opsB_nil ?_
    simp only [Nx]
    refine wpB_seq ?_
    refine wpB_seq ?_
    refine wpB_region ?_
    simp only [List.size_toArray, List.length_cons, List.length_nil, Nat.reduceAdd, Nat.zero_add, List.range, List.range.loop]
    iterate 2 (refine opsB_k bodT rfl (by rfl) (by rfl) ?_; intro T D K hK; go_simp; refine hK _ _ ?_; clear hK K; refine opsB.tape T D ?_)
    refine opsB_callOf (f := 20) (av := #[.int .i64 k, .int .i64 r]) rfl (by rfl) rfl Try.func20 (by rfl) (by decide +kernel) (by simp [Act.eval]) (callsB_same tameT hE (by decide) ⟨_, Try.func20, rfl⟩ (fun T D => (can_any k r _).mono fun e w' ⟨h1, h2⟩ => ⟨by rw [h1, HC.out], h2⟩)) ?_
    rintro v w' ⟨rfl, rfl⟩
    simp only [Act.put, List.getElem_toArray, List.getElem_cons_zero, List.getElem_cons_succ, List.setIfInBounds_toArray, List.set_cons_zero, List.set_cons_succ]
    iterate 2 (refine opsB_k bodT rfl (by rfl) (by rfl) ?_; intro T D K hK; go_simp; refine hK _ _ ?_; clear hK K; refine opsB.tape T D ?_)
    refine opsB_unwanted rfl (by rfl) ?_
    simp only [Act.put, List.getElem_toArray, List.getElem_cons_zero, List.getElem_cons_succ, List.setIfInBounds_toArray, List.set_cons_zero, List.set_cons_succ]
    refine opsB_unwanted rfl (by rfl) ?_
    simp only [Act.put, List.getElem_toArray, List.getElem_cons_zero, List.getElem_cons_succ, List.setIfInBounds_toArray, List.set_cons_zero, List.set_cons_succ]
    (refine opsB_k bodT rfl (by rfl) (by rfl) ?_; intro T D K hK; go_simp; refine hK _ _ ?_; clear hK K; refine opsB.tape T D ?_)
    refine opsB_nil ?_
    simp only [Nx]
    refine wpB_cond (t := true) (by first | rfl | simp [Act.eval, *]) ?_
    simp only [Bool.false_eq_true, if_true, if_false, reduceIte]
    refine wpB_seq ?_
    refine wpB_region ?_
    simp only [List.size_toArray, List.length_cons, List.length_nil, Nat.reduceAdd, Nat.zero_add, List.range, List.range.loop]
    iterate 2 (refine opsB_k bodT rfl (by rfl) (by rfl) ?_; intro T D K hK; go_simp; refine hK _ _ ?_; clear hK K; refine opsB.tape T D ?_)
    refine opsB_nil ?_
    simp only [Nx]
    refine wpB_ret ?_
    exact bodyB_ret rfl (results_tmp2 rfl rfl rfl _) (⟨rfl, Ext.refl _⟩)
  · have HC := Lib.hid (show canB k r = true by simpa using h1)
    have h2 : t < 0 := h.resolve_left h1
    have d1 : decide (t < 0) = true := by simpa using h2
    clear h h1
    refine callsB_of_wp Try.func16 rfl ?_
    simp only [Try.ntmps16, List.size_toArray, List.length_cons, List.length_nil, Nat.reduceAdd, Nat.reduceSub, Array.replicate_succ, Array.replicate_zero, List.push_toArray, List.append_toArray, List.nil_append, List.cons_append]
    refine wpB_seq ?_
    refine wpB_region ?_
    simp only [List.size_toArray, List.length_cons, List.length_nil, Nat.reduceAdd, Nat.zero_add, List.range, List.range.loop]
    iterate 2 (refine opsB_k bodT rfl (by rfl) (by rfl) ?_; intro T D K hK; go_simp; refine hK _ _ ?_; clear hK K; refine opsB.tape T D ?_)
    refine opsB_nil ?_
    simp only [Nx]
    refine wpB_seq ?_
    refine wpB_seq ?_
    refine wpB_region ?_
    simp only [List.size_toArray, List.length_cons, List.length_nil, Nat.reduceAdd, Nat.zero_add, List.range, List.range.loop]
    iterate 2 (refine opsB_k bodT rfl (by rfl) (by rfl) ?_; intro T D K hK; go_simp; refine hK _ _ ?_; clear hK K; refine opsB.tape T D ?_)
    refine opsB_callOf (f := 20) (av := #[.int .i64 k, .int .i64 r]) rfl (by rfl) rfl Try.func20 (by rfl) (by decide +kernel) (by simp [Act.eval]) (callsB_same tameT hE (by decide) ⟨_, Try.func20, rfl⟩ (fun T D => (can_any k r _).mono fun e w' ⟨h1, h2⟩ => ⟨by rw [h1, HC.out], h2⟩)) ?_
    rintro v w' ⟨rfl, rfl⟩
    simp only [Act.put, List.getElem_toArray, List.getElem_cons_zero, List.getElem_cons_succ, List.setIfInBounds_toArray, List.set_cons_zero, List.set_cons_succ]
    iterate 5 (refine opsB_k bodT rfl (by rfl) (by rfl) ?_; intro T D K hK; go_simp; refine hK _ _ ?_; clear hK K; refine opsB.tape T D ?_)
    refine opsB_nil ?_
    simp only [Nx]
    refine wpB_cond (t := true) (by first | rfl | simp [Act.eval, *]) ?_
    simp only [Bool.false_eq_true, if_true, if_false, reduceIte]
    refine wpB_seq ?_
    refine wpB_region ?_
    simp only [List.size_toArray, List.length_cons, List.length_nil, Nat.reduceAdd, Nat.zero_add, List.range, List.range.loop]
    iterate 2 (refine opsB_k bodT rfl (by rfl) (by rfl) ?_; intro T D K hK; go_simp; refine hK _ _ ?_; clear hK K; refine opsB.tape T D ?_)
    refine opsB_nil ?_
    simp only [Nx]
    refine wpB_ret ?_
    exact bodyB_ret rfl (results_tmp2 rfl rfl rfl _) (⟨rfl, Ext.refl _⟩)
set_option maxHeartbeats 8000000 in
set_option maxRecDepth 100000 in
theorem again_Bbad {n0 : Nat} (hE : NoEarly Try.prog n0) {k r i : Int} (h : canB k r = false ∨ i < 0 ∨ k + r ≤ i) {A : Option Addr} {n cap : Nat} {w : World} :
    CallsB n0 Try.prog 18 #[.int .i64 k, .int .i64 r, .int .i64 i, .slice A n cap] w (AnsB { data := #[] } 2 w) := by
  by_cases h1 : canB k r = false
  · have HC := Lib.hid h1
    clear h h1
    refine callsB_of_wp Try.func18 rfl ?_
    simp only [Try.ntmps18, List.size_toArray, List.length_cons, List.length_nil, Nat.reduceAdd, Nat.reduceSub, Array.replicate_succ, Array.replicate_zero, List.push_toArray, List.append_toArray, List.nil_append, List.cons_append]
    refine wpB_seq ?_
    refine wpB_region ?_
    simp only [List.size_toArray, List.length_cons, List.length_nil, Nat.reduceAdd, Nat.zero_add, List.range, List.range.loop]
    iterate 2 (refine opsB_k bodT rfl (by rfl) (by rfl) ?_; intro T D K hK; go_simp; refine hK _ _ ?_; clear hK K; refine opsB.tape T D ?_)
    refine opsB_nil ?_
    simp only [Nx]
    refine wpB_seq ?_
    refine wpB_seq ?_
    refine wpB_region ?_
    simp only [List.size_toArray, List.length_cons, List.length_nil, Nat.reduceAdd, Nat.zero_add, List.range, List.range.loop]
    iterate 2 (refine opsB_k bodT rfl (by rfl) (by rfl) ?_; intro T D K hK; go_simp; refine hK _ _ ?_; clear hK K; refine opsB.tape T D ?_)
    refine opsB_callOf (f := 20) (av := #[.int .i64 k, .int .i64 r]) rfl (by rfl) rfl Try.func20 (by rfl) (by decide +kernel) (by simp [Act.eval]) (callsB_same tameT hE (by decide) ⟨_, Try.func20, rfl⟩ (fun T D => (can_any k r _).mono fun e w' ⟨h1, h2⟩ => ⟨by rw [h1, HC.out], h2⟩)) ?_
    rintro v w' ⟨rfl, rfl⟩
    simp only [Act.put, List.getElem_toArray, List.getElem_cons_zero, List.getElem_cons_succ, List.setIfInBounds_toArray, List.set_cons_zero, List.set_cons_succ]
    iterate 2 (refine opsB_k bodT rfl (by rfl) (by rfl) ?_; intro T D K hK; go_simp; refine hK _ _ ?_; clear hK K; refine opsB.tape T D ?_)
    refine opsB_unwanted rfl (by rfl) ?_
    simp only [Act.put, List.getElem_toArray, List.getElem_cons_zero, List.getElem_cons_succ, List.setIfInBounds_toArray, List.set_cons_zero, List.set_cons_succ]
    refine opsB_unwanted rfl (by rfl) ?_
    simp only [Act.put, List.getElem_toArray, List.getElem_cons_zero, List.getElem_cons_succ, List.setIfInBounds_toArray, List.set_cons_zero, List.set_cons_succ]
    iterate 2 (refine opsB_k bodT rfl (by rfl) (by rfl) ?_; intro T D K hK; go_simp; refine hK _ _ ?_; clear hK K; refine opsB.tape T D ?_)
    refine opsB_unwanted rfl (by rfl) ?_
    simp only [Act.put, List.getElem_toArray, List.getElem_cons_zero, List.getElem_cons_succ, List.setIfInBounds_toArray, List.set_cons_zero, List.set_cons_succ]
    refine opsB_unwanted rfl (by rfl) ?_
    simp only [Act.put, List.getElem_toArray, List.getElem_cons_zero, List.getElem_cons_succ, List.setIfInBounds_toArray, List.set_cons_zero, List.set_cons_succ]
    refine opsB_unwanted rfl (by rfl) ?_
    simp only [Act.put, List.getElem_toArray, List.getElem_cons_zero, List.getElem_cons_succ, List.setIfInBounds_toArray, List.set_cons_zero, List.set_cons_succ]
    refine opsB_unwanted rfl (by rfl) ?_
    simp only [Act.put, List.getElem_toArray, List.getElem_cons_zero, List.getElem_cons_succ, List.setIfInBounds_toArray, List.set_cons_zero, List.set_cons_succ]
    refine opsB_unwanted rfl (by rfl) ?_
    simp only [Act.put, List.getElem_toArray, List.getElem_cons_zero, List.getElem_cons_succ, List.setIfInBounds_toArray, List.set_cons_zero, List.set_cons_succ]
    (refine opsB_k bodT rfl (by rfl) (by rfl) ?_; intro T D K hK; go_simp; refine hK _ _ ?_; clear hK K; refine opsB.tape T D ?_)
    refine opsB_nil ?_
    simp only [Nx]
    refine wpB_cond (t := true) (by first | rfl | simp [Act.eval, *]) ?_
    simp only [Bool.false_eq_true, if_true, if_false, reduceIte]
    refine wpB_seq ?_
    refine wpB_region ?_
    simp only [List.size_toArray, List.length_cons, List.length_nil, Nat.reduceAdd, Nat.zero_add, List.range, List.range.loop]
    iterate 2 (refine opsB_k bodT rfl (by rfl) (by rfl) ?_; intro T D K hK; go_simp; refine hK _ _ ?_; clear hK K; refine opsB.tape T D ?_)
    refine opsB_nil ?_
    simp only [Nx]
    refine wpB_ret ?_
    exact bodyB_ret rfl (results_tmp2 rfl rfl rfl _) (⟨rfl, Ext.refl _⟩)
  · have hc : canB k r = true := by simpa using h1
    have hb : 1 ≤ k ∧ 0 ≤ r ∧ k ≤ 32 ∧ r ≤ 32 - k := by simpa [canB] using hc
    have HC := Lib.hid hc
    have h2 := h.resolve_left h1
    by_cases h3 : i < 0
    · have d1 : decide (i < 0) = true := by simpa using h3
      clear h h1 hc hb h2
      refine callsB_of_wp Try.func18 rfl ?_
      simp only [Try.ntmps18, List.size_toArray, List.length_cons, List.length_nil, Nat.reduceAdd, Nat.reduceSub, Array.replicate_succ, Array.replicate_zero, List.push_toArray, List.append_toArray, List.nil_append, List.cons_append]
      refine wpB_seq ?_
      refine wpB_region ?_
      simp only [List.size_toArray, List.length_cons, List.length_nil, Nat.reduceAdd, Nat.zero_add, List.range, List.range.loop]
      iterate 2 (refine opsB_k bodT rfl (by rfl) (by rfl) ?_; intro T D K hK; go_simp; refine hK _ _ ?_; clear hK K; refine opsB.tape T D ?_)
      refine opsB_nil ?_
      simp only [Nx]
      refine wpB_seq ?_
      refine wpB_seq ?_
      refine wpB_region ?_
      simp only [List.size_toArray, List.length_cons, List.length_nil, Nat.reduceAdd, Nat.zero_add, List.range, List.range.loop]
      iterate 2 (refine opsB_k bodT rfl (by rfl) (by rfl) ?_; intro T D K hK; go_simp; refine hK _ _ ?_; clear hK K; refine opsB.tape T D ?_)
      refine opsB_callOf (f := 20) (av := #[.int .i64 k, .int .i64 r]) rfl (by rfl) rfl Try.func20 (by rfl) (by decide +kernel) (by simp [Act.eval]) (callsB_same tameT hE (by decide) ⟨_, Try.func20, rfl⟩ (fun T D => (can_any k r _).mono fun e w' ⟨h1, h2⟩ => ⟨by rw [h1, HC.out], h2⟩)) ?_
      rintro v w' ⟨rfl, rfl⟩
      simp only [Act.put, List.getElem_toArray, List.getElem_cons_zero, List.getElem_cons_succ, List.setIfInBounds_toArray, List.set_cons_zero, List.set_cons_succ]
      iterate 6 (refine opsB_k bodT rfl (by rfl) (by rfl) ?_; intro T D K hK; go_simp; refine hK _ _ ?_; clear hK K; refine opsB.tape T D ?_)
      refine opsB_unwanted rfl (by rfl) ?_
      simp only [Act.put, List.getElem_toArray, List.getElem_cons_zero, List.getElem_cons_succ, List.setIfInBounds_toArray, List.set_cons_zero, List.set_cons_succ]
      refine opsB_unwanted rfl (by rfl) ?_
      simp only [Act.put, List.getElem_toArray, List.getElem_cons_zero, List.getElem_cons_succ, List.setIfInBounds_toArray, List.set_cons_zero, List.set_cons_succ]
      refine opsB_unwanted rfl (by rfl) ?_
      simp only [Act.put, List.getElem_toArray, List.getElem_cons_zero, List.getElem_cons_succ, List.setIfInBounds_toArray, List.set_cons_zero, List.set_cons_succ]
      refine opsB_unwanted rfl (by rfl) ?_
      simp only [Act.put, List.getElem_toArray, List.getElem_cons_zero, List.getElem_cons_succ, List.setIfInBounds_toArray, List.set_cons_zero, List.set_cons_succ]
      refine opsB_unwanted rfl (by rfl) ?_
      simp only [Act.put, List.getElem_toArray, List.getElem_cons_zero, List.getElem_cons_succ, List.setIfInBounds_toArray, List.set_cons_zero, List.set_cons_succ]
      (refine opsB_k bodT rfl (by rfl) (by rfl) ?_; intro T D K hK; go_simp; refine hK _ _ ?_; clear hK K; refine opsB.tape T D ?_)
      refine opsB_nil ?_
      simp only [Nx]
      refine wpB_cond (t := true) (by first | rfl | simp [Act.eval, *]) ?_
      simp only [Bool.false_eq_true, if_true, if_false, reduceIte]
      refine wpB_seq ?_
      refine wpB_region ?_
      simp only [List.size_toArray, List.length_cons, List.length_nil, Nat.reduceAdd, Nat.zero_add, List.range, List.range.loop]
      iterate 2 (refine opsB_k bodT rfl (by rfl) (by rfl) ?_; intro T D K hK; go_simp; refine hK _ _ ?_; clear hK K; refine opsB.tape T D ?_)
      refine opsB_nil ?_
      simp only [Nx]
      refine wpB_ret ?_
      exact bodyB_ret rfl (results_tmp2 rfl rfl rfl _) (⟨rfl, Ext.refl _⟩)
    · have d1 : decide (i < 0) = false := by simpa using h3
      have h4 : k + r ≤ i := h2.resolve_left h3
      have d2 : decide (k + r ≤ i) = true := by simpa using h4
      obtain ⟨b1, b2, b3, b4⟩ := hb
      have q1 : IntKind.i64.wrap (k + r) = k + r := IntWalk.i64_in _ (by omega)
      have d3 : ¬ i < k + r := by omega
      clear h h1 hc h2
      refine callsB_of_wp Try.func18 rfl ?_
      simp only [Try.ntmps18, List.size_toArray, List.length_cons, List.length_nil, Nat.reduceAdd, Nat.reduceSub, Array.replicate_succ, Array.replicate_zero, List.push_toArray, List.append_toArray, List.nil_append, List.cons_append]
      refine wpB_seq ?_
      refine wpB_region ?_
      simp only [List.size_toArray, List.length_cons, List.length_nil, Nat.reduceAdd, Nat.zero_add, List.range, List.range.loop]
      iterate 2 (refine opsB_k bodT rfl (by rfl) (by rfl) ?_; intro T D K hK; go_simp; refine hK _ _ ?_; clear hK K; refine opsB.tape T D ?_)
      refine opsB_nil ?_
      simp only [Nx]
      refine wpB_seq ?_
      refine wpB_seq ?_
      refine wpB_region ?_
      simp only [List.size_toArray, List.length_cons, List.length_nil, Nat.reduceAdd, Nat.zero_add, List.range, List.range.loop]
      iterate 2 (refine opsB_k bodT rfl (by rfl) (by rfl) ?_; intro T D K hK; go_simp; refine hK _ _ ?_; clear hK K; refine opsB.tape T D ?_)
      refine opsB_callOf (f := 20) (av := #[.int .i64 k, .int .i64 r]) rfl (by rfl) rfl Try.func20 (by rfl) (by decide +kernel) (by simp [Act.eval]) (callsB_same tameT hE (by decide) ⟨_, Try.func20, rfl⟩ (fun T D => (can_any k r _).mono fun e w' ⟨h1, h2⟩ => ⟨by rw [h1, HC.out], h2⟩)) ?_
      rintro v w' ⟨rfl, rfl⟩
      simp only [Act.put, List.getElem_toArray, List.getElem_cons_zero, List.getElem_cons_succ, List.setIfInBounds_toArray, List.set_cons_zero, List.set_cons_succ]
      iterate 12 (refine opsB_k bodT rfl (by rfl) (by rfl) ?_; intro T D K hK; go_simp; refine hK _ _ ?_; clear hK K; refine opsB.tape T D ?_)
      refine opsB_nil ?_
      simp only [Nx]
      refine wpB_cond (t := true) (by first | rfl | simp [Act.eval, *]) ?_
      simp only [Bool.false_eq_true, if_true, if_false, reduceIte]
      refine wpB_seq ?_
      refine wpB_region ?_
      simp only [List.size_toArray, List.length_cons, List.length_nil, Nat.reduceAdd, Nat.zero_add, List.range, List.range.loop]
      iterate 2 (refine opsB_k bodT rfl (by rfl) (by rfl) ?_; intro T D K hK; go_simp; refine hK _ _ ?_; clear hK K; refine opsB.tape T D ?_)
      refine opsB_nil ?_
      simp only [Nx]
      refine wpB_ret ?_
      exact bodyB_ret rfl (results_tmp2 rfl rfl rfl _) (⟨rfl, Ext.refl _⟩)
end Go.Proofs.Ytjdppgogdilgkaa
end
section
namespace Go.Proofs.Ytjdppgogdilgkaa
open Go.RowKit Go.Gf
set_option linter.unusedVariables false
set_option linter.unusedSimpArgs false
theorem splitV_len (k : Nat) (s : ByteArray) : (splitV k s).length = k := mkM_len _ _ _
theorem splitV_size (k : Nat) (s : ByteArray) : ∀ x ∈ splitV k s, x.size = sizeN k s.size := fun x hx => mkM_mem _ _ _ x hx
theorem ent_split (k : Nat) (s : ByteArray) (x j : Nat) (hx : x < k) (hj : j < sizeN k s.size) : ent (splitV k s) x j = bn s (x * sizeN k s.size + j) := ent_mkM _ _ _ x j hx hj (bn_lt _ _)
theorem sum_unit {k z i : Nat} {X : List ByteArray} (hk : 1 ≤ k) (hi : i < k) (hX : X.length = k) (hXs : ∀ x ∈ X, x.size = z) : sumV (strN k (unitF i)) X = X.getD i { data := #[] } := by
  have hg := getD_at X i (by omega)
  have hs : (X.getD i { data := #[] }).size = z := hXs _ (by rw [hg]; exact List.getElem_mem _)
  rw [sumV_eq (strN_size _ _) hX hk hXs]
  apply str_ext'
  · rw [strN_size, hs]
  · intro j hj
    rw [strN_size] at hj
    rw [bn_strN _ _ j hj (xs_lt k _ fun x _ => fm_lt _ _ (bn_lt _ x))]
    have := mul_unit_l k (ent X) (ent_byte X) i j hi
    unfold mul at this
    rw [xs_congr k _ (fun x => fm (unitF i x) (ent X x j)) (fun x hx => by rw [bn_strN _ _ x hx (unitF_lt _ _)]), this]
    rfl
theorem every_unit {k r i : Nat} (hi : i < k) : (everyM k r).getD i { data := #[] } = strN k (unitF i) := by
  unfold everyM
  rw [List.getD_eq_getElem?_getD, List.getElem?_append_left (by rw [unitM_len]; exact hi), ← List.getD_eq_getElem?_getD]
  exact mkM_get _ _ _ _ hi
theorem every_cauchy {k r i : Nat} (hi : k ≤ i) (h : i < k + r) : (everyM k r).getD i { data := #[] } = (mkM r k (cauchyF k)).getD (i - k) { data := #[] } := by
  unfold everyM
  rw [List.getD_eq_getElem?_getD, List.getElem?_append_right (by rw [unitM_len]; exact hi), unitM_len, ← List.getD_eq_getElem?_getD]
theorem every_size {k r i : Nat} (h : i < k + r) : ((everyM k r).getD i { data := #[] }).size = k := by
  have hel : i < (everyM k r).length := by rw [everyM_len]; exact h
  exact everyM_size k r _ (by rw [getD_at _ _ hel]; exact List.getElem_mem _)
theorem spreadV_len (k r : Nat) (s : ByteArray) : (spreadV k r s).length = k + r := by unfold spreadV; rw [List.length_append, splitV_len, List.length_map, mkM_len]
theorem rspreadV_len (k r : Nat) (s : ByteArray) : (rspreadV k r s).length = k + r := by simp [rspreadV]
theorem spread_at {k r i : Nat} (hk : 1 ≤ k) (s : ByteArray) (h : i < k + r) : (spreadV k r s).getD i { data := #[] } = sumV ((everyM k r).getD i { data := #[] }) (splitV k s) := by
  unfold spreadV
  by_cases hi : i < k
  · rw [every_unit hi, sum_unit hk hi (splitV_len k s) (splitV_size k s), List.getD_eq_getElem?_getD, List.getElem?_append_left (by rw [splitV_len]; exact hi), ← List.getD_eq_getElem?_getD]
  · rw [every_cauchy (by omega) h, List.getD_eq_getElem?_getD, List.getElem?_append_right (by rw [splitV_len]; omega), splitV_len, List.getElem?_map]
    have hl : i - k < (mkM r k (cauchyF k)).length := by rw [mkM_len]; omega
    rw [List.getElem?_eq_getElem hl, getD_at _ _ hl]
    rfl
theorem spread_eq {k r : Nat} (hk : 1 ≤ k) (s : ByteArray) : spreadV k r s = rspreadV k r s := by
  apply List.ext_getElem
  · rw [spreadV_len, rspreadV_len]
  · intro i h1 h2
    have hi : i < k + r := by rw [spreadV_len] at h1; exact h1
    have := spread_at (r := r) hk s hi
    rw [getD_at _ _ h1] at this
    rw [this]
    simp [rspreadV]
theorem spread_size {k r i : Nat} (hk : 1 ≤ k) (s : ByteArray) (h : i < k + r) : ((spreadV k r s).getD i { data := #[] }).size = sizeN k s.size := by
  rw [spread_at hk s h]
  exact sumV_size (every_size h) (splitV_len k s) hk (splitV_size k s)
theorem spread_bn {k r i j : Nat} (hk : 1 ≤ k) (s : ByteArray) (h : i < k + r) (hj : j < sizeN k s.size) : bn ((spreadV k r s).getD i { data := #[] }) j = xs k (fun x => fm (bn ((everyM k r).getD i { data := #[] }) x) (bn s (x * sizeN k s.size + j))) := by
  rw [spread_at hk s h, sumV_bn (every_size h) (splitV_len k s) hk (splitV_size k s) hj]
  exact xs_congr k _ _ fun x hx => by rw [ent_split k s x j hx hj]
theorem spread_lin {k r i j t : Nat} (hk : 1 ≤ k) {a b c : ByteArray} (ha : a.size = t) (hb : b.size = t) (hc : c.size = t) (hx : ∀ j, bn c j = bn a j ^^^ bn b j) (h : i < k + r) (hj : j < sizeN k t) :
    bn ((spreadV k r c).getD i { data := #[] }) j = bn ((spreadV k r a).getD i { data := #[] }) j ^^^ bn ((spreadV k r b).getD i { data := #[] }) j := by
  rw [spread_bn hk c h (by rw [hc]; exact hj), spread_bn hk a h (by rw [ha]; exact hj), spread_bn hk b h (by rw [hb]; exact hj), ha, hb, hc, ← xs_xor]
  exact xs_congr k _ _ fun x _ => by rw [hx, fm_xor_r]
theorem spread_zero {k r i : Nat} (hk : 1 ≤ k) {a : ByteArray} (ha : ∀ j, bn a j = 0) (h : i < k + r) : (spreadV k r a).getD i { data := #[] } = zeroT (sizeN k a.size) := by
  apply str_ext'
  · rw [spread_size hk a h]; unfold zeroT; rw [strN_size]
  · intro j hj
    rw [spread_size hk a h] at hj
    rw [spread_bn hk a h hj]
    unfold zeroT
    rw [bn_strN _ _ j hj (by omega)]
    exact xs_zero k _ fun x _ => by rw [ha, fm_zero_r]
def Of (k r : Nat) (s : ByteArray) (l : List Pt) : Prop := ∀ p ∈ l, ∃ i : Nat, i < k + r ∧ p.1 = (i : Int) ∧ p.2 = (spreadV k r s).getD i { data := #[] }
theorem zL_of {k r : Nat} {s : ByteArray} {l : List Pt} (hk : 1 ≤ k) (h : Of k r s l) (h0 : 0 < l.length) : zL l = sizeN k s.size := by
  unfold zL
  have : l.getD 0 (0, { data := #[] }) = l[0] := by rw [List.getD_eq_getElem?_getD, List.getElem?_eq_getElem h0]; rfl
  rw [this]
  obtain ⟨i, hi, _, h2⟩ := h _ (List.getElem_mem h0)
  rw [h2, spread_size hk s hi]
theorem of_ok {k r : Nat} {s : ByteArray} {l : List Pt} (hk : 1 ≤ k) (h : Of k r s l) : okTo (k + r) l l.length := fun i hi x hx => by
  have hm : x ∈ l := List.mem_of_getElem? hx
  obtain ⟨a, ha, h1, h2⟩ := h x hm
  have hz := zL_of hk h (by omega)
  unfold badB
  rw [h1, hz, h2, spread_size hk s ha]
  have e1 : decide ((a : Int) < 0) = false := by simp
  have e2 : decide (((k + r : Nat) : Int) ≤ (a : Int)) = false := by simp; omega
  have e3 : decide (sizeN k s.size ≠ sizeN k s.size) = false := by simp
  rw [e1, e2, e3]
  cases hg : getM (l.take i) (a : Int) with
  | none => rfl
  | some q =>
    obtain ⟨q1, q2⟩ := getM_mem hg
    obtain ⟨b, hb, h3, h4⟩ := h q (List.mem_of_mem_take q1)
    obtain rfl : b = a := by omega
    simp [h4]
theorem of_txt {k r : Nat} {s : ByteArray} {l : List Pt} (h : Of k r s l) {i : Nat} (hs : (getM l (i : Int)).isSome = true) : txtL l i = (spreadV k r s).getD i { data := #[] } := by
  obtain ⟨q, hq⟩ := Option.isSome_iff_exists.1 hs
  obtain ⟨q1, q2⟩ := getM_mem hq
  obtain ⟨b, hb, h3, h4⟩ := h q q1
  unfold txtL
  rw [hq]
  obtain rfl : b = i := by omega
  exact h4
theorem mapM_id {l : List Pt} (h : (l.map (·.1)).Nodup) : mapM l = l := by
  suffices H : ∀ (l m : List Pt), ((m ++ l).map (·.1)).Nodup → l.foldl putM m = m ++ l by simpa [mapM] using H l [] (by simpa using h)
  intro l
  induction l with
  | nil => intro m _; simp
  | cons p l ih =>
    intro m hm
    have hp : putM m p = m ++ [p] := by
      unfold putM
      rw [if_neg]
      intro hs
      obtain ⟨q, hq⟩ := Option.isSome_iff_exists.1 hs
      obtain ⟨q1, q2⟩ := getM_mem hq
      rw [List.map_append, List.nodup_append] at hm
      exact hm.2.2 q.1 (List.mem_map.2 ⟨q, q1, rfl⟩) p.1 (by simp) q2
    rw [List.foldl_cons, hp, ih (m ++ [p]) (by simpa using hm), List.append_assoc]
    rfl
theorem idxs_len {k r : Nat} {s : ByteArray} {l : List Pt} (hk : 1 ≤ k) (h : Of k r s l) (hn : (l.map (·.1)).Nodup) : (idxs (k + r) l).length = l.length := by
  rw [← len_map (of_ok hk h), mapM_id hn]
theorem of_texts {k r : Nat} {s : ByteArray} {l : List Pt} (hk : 1 ≤ k) (h : Of k r s l) : (partsP k r l).map (·.2) = (rowsM k r (partsP k r l)).map (fun row => sumV row (splitV k s)) := by
  rw [partsP_texts, rowsP, List.map_map]
  refine List.map_congr_left fun x hx => ?_
  rw [of_txt h (takenR_some k r l x hx)]
  exact spread_at hk s (takenR_lt k r l x hx)
theorem of_solved {k r : Nat} {s : ByteArray} {l : List Pt} (hk : 1 ≤ k) (hkr : k + r ≤ 32) (h : Of k r s l) (hf : k ≤ (idxs (k + r) l).length) : solvedV k r (partsP k r l) = splitV k s := by
  obtain ⟨p1, p2, p3, p4, p5⟩ := partsP_undo k r hk hkr l hf
  have hu := undo_sound _ p1 (by omega) p4
  have hl0 : len0 (undoV (rowsM k r (partsP k r l))) = k := hu.2.2.1.trans p3
  have hI := hu.2.2.2.1
  unfold solvedV
  rw [of_texts hk h]
  generalize rowsM k r (partsP k r l) = M at *
  apply List.ext_getElem
  · simp [splitV_len]
  · intro i h1 h2
    rw [List.getElem_map, List.getElem_range]
    have hi : i < k := by rw [splitV_len] at h2; exact h2
    have hus : ((undoV M).getD i { data := #[] }).size = k := by rw [hu.1.2.2 _ (by rw [getD_at _ _ (by omega)]; exact List.getElem_mem _), hl0]
    have hMs : ∀ u ∈ M, u.size = k := fun u hm => by rw [p1.2.2 u hm, p2]
    rw [← sum_assoc hk hus p3 hMs (splitV_len k s) (splitV_size k s)]
    have e : strN k (timesF [(undoV M).getD i { data := #[] }] M 0) = strN k (unitF i) := by
      refine strN_congr _ _ _ fun x hx => ?_
      show acc ((undoV M).getD i { data := #[] }) M M.length x = _
      rw [acc_xs, p3]
      have := hI i (by omega) x (by omega)
      rw [p3] at this
      exact this
    rw [e, sum_unit hk hi (splitV_len k s) (splitV_size k s), getD_at _ _ h2]
theorem joinT_bn (z : Nat) : ∀ (L : List ByteArray) (i j : Nat), (∀ s ∈ L, s.size = z) → i < L.length → j < z → bn (joinT L) (i * z + j) = bn (L.getD i { data := #[] }) j := by
  intro L
  induction L with
  | nil => intro i j _ h _; simp at h
  | cons x L ih =>
    intro i j hz hi hj
    have hx : x.data.toList.length = z := hz x List.mem_cons_self
    have e : (joinT (x :: L)).data.toList = x.data.toList ++ (joinT L).data.toList := by simp [joinT]
    have hb : ∀ m, bn (joinT (x :: L)) m = ((x.data.toList ++ (joinT L).data.toList).getD m 0).toNat := fun m => by unfold bn; rw [e]
    rw [hb]
    match i with
    | 0 =>
      rw [Nat.zero_mul, Nat.zero_add, List.getD_eq_getElem?_getD, List.getElem?_append_left (by omega)]
      show _ = (x.data.toList.getD j 0).toNat
      rw [List.getD_eq_getElem?_getD]
    | i + 1 =>
      rw [List.getD_eq_getElem?_getD, List.getElem?_append_right (by rw [hx, Nat.succ_mul]; omega), hx, ← List.getD_eq_getElem?_getD]
      have : (i + 1) * z + j - z = i * z + j := by rw [Nat.succ_mul]; omega
      rw [this]
      exact ih i j (fun s hs => hz s (List.mem_cons_of_mem _ hs)) (by simpa using hi) hj
theorem join_split {k : Nat} (hk : 1 ≤ k) (s : ByteArray) : (joinT (splitV k s)).extract 0 s.size = s := by
  have hJ : (joinT (splitV k s)).size = k * sizeN k s.size := by rw [joinT_size _ _ (splitV_size k s), splitV_len]
  have hm := sizeN_mul k s.size hk
  apply str_ext'
  · rw [ByteArray.size_extract, hJ]; omega
  · intro m hm2
    rw [ByteArray.size_extract, hJ] at hm2
    have hb : bn ((joinT (splitV k s)).extract 0 s.size) m = bn (joinT (splitV k s)) m := by
      unfold bn
      simp only [ByteArray.data_extract, Array.toList_extract, List.getD_eq_getElem?_getD]
      rw [List.extract_eq_take_drop, List.getElem?_take, if_pos (by omega), List.getElem?_drop, Nat.zero_add]
    rw [hb]
    have hz : 0 < sizeN k s.size := by
      rcases Nat.eq_zero_or_pos (sizeN k s.size) with h0 | h0
      · rw [h0] at hm; omega
      · exact h0
    have hd := Nat.div_add_mod m (sizeN k s.size)
    have hl := Nat.mod_lt m hz
    have hq : m / sizeN k s.size < k := by
      rw [Nat.div_lt_iff_lt_mul hz]; omega
    have := joinT_bn (sizeN k s.size) (splitV k s) (m / sizeN k s.size) (m % sizeN k s.size) (splitV_size k s) (by rw [splitV_len]; exact hq) hl
    rw [Nat.mul_comm, hd] at this
    rw [this]
    show ent (splitV k s) _ _ = _
    rw [ent_split k s _ _ hq hl, Nat.mul_comm, hd]
theorem gath_of {k r : Nat} {s : ByteArray} {l : List Pt} (hk : 1 ≤ k) (hkr : k + r ≤ 32) (h : Of k r s l) (hf : k ≤ (idxs (k + r) l).length) : gathE k r s.size l = 0 ∧ gathV k r s.size l = s := by
  have hs : (txtL l ((takenR k r l).getD 0 0)).size = sizeN k s.size := by
    have h0 : 0 < (takenR k r l).length := by rw [takenR_len k r l hf]; omega
    have hm : (takenR k r l).getD 0 0 ∈ takenR k r l := by rw [List.getD_eq_getElem?_getD, List.getElem?_eq_getElem h0]; exact List.getElem_mem h0
    rw [of_txt h (takenR_some k r l _ hm), spread_size hk s (takenR_lt k r l _ hm)]
  have hg := gath_ok (t := s.size) (of_ok hk h) hf hs
  rw [of_solved hk hkr h hf, join_split hk] at hg
  exact hg
theorem agn_of {k r i : Nat} {s : ByteArray} {l : List Pt} (hk : 1 ≤ k) (hkr : k + r ≤ 32) (hi : i < k + r) (h : Of k r s l) (hf : k ≤ (idxs (k + r) l).length) : agnE k r l = 0 ∧ agnV k r i l = (spreadV k r s).getD i { data := #[] } := by
  have hg := agn_ok (i := i) (of_ok hk h) hf
  rw [of_solved hk hkr h hf, ← spread_at hk s hi] at hg
  exact hg
end Go.Proofs.Ytjdppgogdilgkaa
end
