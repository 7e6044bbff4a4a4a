import Derived.Test.YtjdppgogdilgkaaTF
import Derived.Test.YtjdppgogdilgkaaPB
import Derived.OpenShut
section
namespace Go.Proofs.Ytjdppgogdilgkaa
open Go.RowKit Go.Gf Go.Co Go.Conc Go.ChangeShapes Go.WideShapes Go.ChangeAt Go.Deep
set_option linter.unusedSimpArgs false
set_option linter.unusedVariables false
def YesB (w : World) (v : Value) (w' : World) : Prop := v = .bool true ∧ Ext w w'
theorem texts_all {n0 : Nat} (hE : NoEarly Try.prog n0) {A B : Option Addr} {n c m d : Nat} {l : List ByteArray} {w : World} (hr : Rd w A n (l.map Value.string)) (hq : Rd w B m (l.map Value.string)) (hn : n ≤ 1048576) (hm : m ≤ 1048576) :
    CallsB n0 Try.prog 14 #[.slice A n c, .slice B m d] w (YesB w) :=
  callsB_of tameT hE (by decide) ⟨_, Try.func14, rfl⟩ fun T D => (texts_any A B n c m d l l (tp w T D) hr hq hn hm).mono fun e w' ⟨h1, h2⟩ => ⟨_, h1, by simp [sameB], h2.nt⟩
theorem size_all {n0 : Nat} (hE : NoEarly Try.prog n0) (k t : Int) (ht : t ≤ 9223372036854775807) {w : World} : CallsB n0 Try.prog 12 #[.int .i64 k, .int .i64 t] w (fun v w' => v = .int .i64 (sizeI k t) ∧ Ext w w') :=
  callsB_of tameT hE (by decide) ⟨_, Try.func12, rfl⟩ fun T D => (size_any k t ht (tp w T D)).mono fun e w' ⟨h1, h2⟩ => ⟨_, h1, rfl, h2.nt⟩
theorem rsize_all {n0 : Nat} (hE : NoEarly Try.prog n0) (k t : Int) (ht : t ≤ 9223372036854775807) {w : World} : CallsB n0 Try.prog 13 #[.int .i64 k, .int .i64 t] w (fun v w' => v = .int .i64 (sizeI k t) ∧ Ext w w') :=
  callsB_of tameT hE (by decide) ⟨_, Try.func13, rfl⟩ fun T D => (rsize_any k t ht (tp w T D)).mono fun e w' ⟨h1, h2⟩ => ⟨_, h1, rfl, h2.nt⟩
def LongB (n : Nat) (l : List Pt) (w : World) (v : Value) (w' : World) : Prop := ∃ B : Bool, v = .bool B ∧ (B = false → n ≤ 100 ∧ ∀ p ∈ l, p.2.size ≤ 512) ∧ Ext w w'
theorem long_all {n0 : Nat} (hE : NoEarly Try.prog n0) {A : Option Addr} {n c : Nat} {l : List Pt} {w : World} (hr : PtRd w A n l) : CallsB n0 Try.prog 15 #[.slice A n c] w (LongB n l w) :=
  callsB_of tameT hE (by decide) ⟨_, Try.func15, rfl⟩ fun T D => (long_any A n c l (tp w T D) hr).mono fun e w' ⟨⟨B, h1, h2⟩, h3⟩ => ⟨_, h1, B, rfl, h2, h3.nt⟩
set_option maxHeartbeats 8000000 in
set_option maxRecDepth 100000 in
theorem codeSpreads_C {n0 : Nat} (hE : NoEarly Try.prog n0) (k r t : Int) (s : ByteArray) (ht : t ≤ 9223372036854775807) {w : World} : CallsB n0 Try.prog 3 #[.int .i64 k, .int .i64 r, .string s, .int .i64 t] w (YesB w) := by
  by_cases hs : s.size ≤ 1024
  · have hd : decide ((1024 : Int) < (s.size : Int)) = false := by simp; omega
    have hd2 : ¬ (1024 : Int) < (s.size : Int) := by omega
    have hz : s.size ≤ 1048000 := by omega
    clear hs
    refine callsB_of_wp Try.func3 rfl ?_
    simp only [Try.ntmps3, List.size_toArray, List.length_cons, List.length_nil, Nat.reduceAdd, Nat.reduceSub, Array.replicate_succ, Array.replicate_zero, List.push_toArray, List.append_toArray, List.nil_append, List.cons_append]
    refine wpB_seq ?_
    refine wpB_region ?_
    simp only [List.size_toArray, List.length_cons, List.length_nil, Nat.reduceAdd, Nat.zero_add, List.range, List.range.loop]
    (refine opsB_k bodT rfl (by rfl) (by rfl) ?_; intro T D K hK; go_simp; refine hK _ _ ?_; clear hK K; refine opsB.tape T D ?_)
    refine opsB_nil ?_
    simp only [Nx]
    refine wpB_seq ?_
    refine wpB_seq ?_
    refine wpB_region ?_
    simp only [List.size_toArray, List.length_cons, List.length_nil, Nat.reduceAdd, Nat.zero_add, List.range, List.range.loop]
    iterate 3 (refine opsB_k bodT rfl (by rfl) (by rfl) ?_; intro T D K hK; go_simp; refine hK _ _ ?_; clear hK K; refine opsB.tape T D ?_)
    refine opsB_nil ?_
    simp only [Nx]
    refine wpB_cond (t := false) (by first | rfl | simp [Act.eval, *]) ?_
    simp only [Bool.false_eq_true, if_true, if_false, reduceIte]
    refine wpB_skip ?_
    simp only [Nx]
    refine wpB_seq ?_
    refine wpB_region ?_
    simp only [List.size_toArray, List.length_cons, List.length_nil, Nat.reduceAdd, Nat.zero_add, List.range, List.range.loop]
    iterate 2 (refine opsB_k bodT rfl (by rfl) (by rfl) ?_; intro T D K hK; go_simp; refine hK _ _ ?_; clear hK K; refine opsB.tape T D ?_)
    refine opsB_callOf (f := 8) (av := #[.int .i64 k, .string s]) rfl (by rfl) rfl Try.func8 (by rfl) (by decide +kernel) (by simp [Act.eval]) (split_all hE k hz) ?_
    rintro v w1 ⟨A1, n1, c1, rfl, hn1, hr1, hE1⟩
    simp only [Act.put, List.getElem_toArray, List.getElem_cons_zero, List.getElem_cons_succ, List.setIfInBounds_toArray, List.set_cons_zero, List.set_cons_succ]
    iterate 5 (refine opsB_k bodT rfl (by rfl) (by rfl) ?_; intro T D K hK; go_simp; refine hK _ _ ?_; clear hK K; refine opsB.tape T D ?_)
    refine opsB_nil ?_
    simp only [Nx]
    refine wpB_seq ?_
    refine wpB_region ?_
    simp only [List.size_toArray, List.length_cons, List.length_nil, Nat.reduceAdd, Nat.zero_add, List.range, List.range.loop]
    iterate 2 (refine opsB_k bodT rfl (by rfl) (by rfl) ?_; intro T D K hK; go_simp; refine hK _ _ ?_; clear hK K; refine opsB.tape T D ?_)
    refine opsB_callOf (f := 9) (av := #[.int .i64 k, .string s]) rfl (by rfl) rfl Try.func9 (by rfl) (by decide +kernel) (by simp [Act.eval]) (rsplit_all hE k hz) ?_
    rintro v w2 ⟨A2, n2, c2, rfl, hn2, hr2, hE2⟩
    simp only [Act.put, List.getElem_toArray, List.getElem_cons_zero, List.getElem_cons_succ, List.setIfInBounds_toArray, List.set_cons_zero, List.set_cons_succ]
    iterate 5 (refine opsB_k bodT rfl (by rfl) (by rfl) ?_; intro T D K hK; go_simp; refine hK _ _ ?_; clear hK K; refine opsB.tape T D ?_)
    refine opsB_nil ?_
    simp only [Nx]
    refine wpB_seq ?_
    refine wpB_region ?_
    simp only [List.size_toArray, List.length_cons, List.length_nil, Nat.reduceAdd, Nat.zero_add, List.range, List.range.loop]
    iterate 3 (refine opsB_k bodT rfl (by rfl) (by rfl) ?_; intro T D K hK; go_simp; refine hK _ _ ?_; clear hK K; refine opsB.tape T D ?_)
    refine opsB_callOf (f := 10) (av := #[.int .i64 k, .int .i64 r, .string s]) rfl (by rfl) rfl Try.func10 (by rfl) (by decide +kernel) (by simp [Act.eval]) (spread_all hE k r hz) ?_
    rintro v w3 ⟨A3, n3, c3, rfl, hn3, hr3, hE3⟩
    simp only [Act.put, List.getElem_toArray, List.getElem_cons_zero, List.getElem_cons_succ, List.setIfInBounds_toArray, List.set_cons_zero, List.set_cons_succ]
    iterate 5 (refine opsB_k bodT rfl (by rfl) (by rfl) ?_; intro T D K hK; go_simp; refine hK _ _ ?_; clear hK K; refine opsB.tape T D ?_)
    refine opsB_nil ?_
    simp only [Nx]
    refine wpB_seq ?_
    refine wpB_region ?_
    simp only [List.size_toArray, List.length_cons, List.length_nil, Nat.reduceAdd, Nat.zero_add, List.range, List.range.loop]
    iterate 3 (refine opsB_k bodT rfl (by rfl) (by rfl) ?_; intro T D K hK; go_simp; refine hK _ _ ?_; clear hK K; refine opsB.tape T D ?_)
    refine opsB_callOf (f := 11) (av := #[.int .i64 k, .int .i64 r, .string s]) rfl (by rfl) rfl Try.func11 (by rfl) (by decide +kernel) (by simp [Act.eval]) (rspread_all hE k r hz) ?_
    rintro v w4 ⟨A4, n4, c4, rfl, hn4, hr4, hE4⟩
    simp only [Act.put, List.getElem_toArray, List.getElem_cons_zero, List.getElem_cons_succ, List.setIfInBounds_toArray, List.set_cons_zero, List.set_cons_succ]
    iterate 5 (refine opsB_k bodT rfl (by rfl) (by rfl) ?_; intro T D K hK; go_simp; refine hK _ _ ?_; clear hK K; refine opsB.tape T D ?_)
    refine opsB_nil ?_
    simp only [Nx]
    replace hr1 := ((hr1.ext hE2).ext hE3).ext hE4
    replace hr2 := (hr2.ext hE3).ext hE4
    replace hr3 := hr3.ext hE4
    replace hE1 := hE1.trans (hE2.trans (hE3.trans hE4))
    clear hE2 hE3 hE4
    refine wpB_seq ?_
    refine wpB_region ?_
    simp only [List.size_toArray, List.length_cons, List.length_nil, Nat.reduceAdd, Nat.zero_add, List.range, List.range.loop]
    iterate 2 (refine opsB_k bodT rfl (by rfl) (by rfl) ?_; intro T D K hK; go_simp; refine hK _ _ ?_; clear hK K; refine opsB.tape T D ?_)
    refine opsB_callOf (f := 12) (av := #[.int .i64 k, .int .i64 t]) rfl (by rfl) rfl Try.func12 (by rfl) (by decide +kernel) (by simp [Act.eval]) (size_all hE k t ht) ?_
    rintro v w5 ⟨rfl, hE5⟩
    simp only [Act.put, List.getElem_toArray, List.getElem_cons_zero, List.getElem_cons_succ, List.setIfInBounds_toArray, List.set_cons_zero, List.set_cons_succ]
    iterate 2 (refine opsB_k bodT rfl (by rfl) (by rfl) ?_; intro T D K hK; go_simp; refine hK _ _ ?_; clear hK K; refine opsB.tape T D ?_)
    refine opsB_callOf (f := 13) (av := #[.int .i64 k, .int .i64 t]) rfl (by rfl) rfl Try.func13 (by rfl) (by decide +kernel) (by simp [Act.eval]) (rsize_all hE k t ht) ?_
    rintro v w6 ⟨rfl, hE6⟩
    simp only [Act.put, List.getElem_toArray, List.getElem_cons_zero, List.getElem_cons_succ, List.setIfInBounds_toArray, List.set_cons_zero, List.set_cons_succ]
    iterate 4 (refine opsB_k bodT rfl (by rfl) (by rfl) ?_; intro T D K hK; go_simp; refine hK _ _ ?_; clear hK K; refine opsB.tape T D ?_)
    replace hE5 := hE5.trans hE6
    refine opsB_callOf (f := 14) (av := #[.slice A1 n1 c1, .slice A2 n2 c2]) rfl (by rfl) rfl Try.func14 (by rfl) (by decide +kernel) (by simp [Act.eval]) (texts_all hE (hr1.ext hE5) (hr2.ext hE5) hn1 hn2) ?_
    rintro v w7 ⟨rfl, hE7⟩
    simp only [Act.put, List.getElem_toArray, List.getElem_cons_zero, List.getElem_cons_succ, List.setIfInBounds_toArray, List.set_cons_zero, List.set_cons_succ]
    iterate 9 (refine opsB_k bodT rfl (by rfl) (by rfl) ?_; intro T D K hK; go_simp; refine hK _ _ ?_; clear hK K; refine opsB.tape T D ?_)
    replace hE5 := hE5.trans hE7
    refine opsB_callOf (f := 14) (av := #[.slice A3 n3 c3, .slice A4 n4 c4]) rfl (by rfl) rfl Try.func14 (by rfl) (by decide +kernel) (by simp [Act.eval]) (texts_all hE (hr3.ext hE5) (hr4.ext hE5) hn3 hn4) ?_
    rintro v w8 ⟨rfl, hE8⟩
    simp only [Act.put, List.getElem_toArray, List.getElem_cons_zero, List.getElem_cons_succ, List.setIfInBounds_toArray, List.set_cons_zero, List.set_cons_succ]
    iterate 7 (refine opsB_k bodT rfl (by rfl) (by rfl) ?_; intro T D K hK; go_simp; refine hK _ _ ?_; clear hK K; refine opsB.tape T D ?_)
    refine opsB_callOf (f := 7) (av := #[]) rfl (by rfl) rfl Try.func7 (by rfl) (by decide +kernel) (by simp [Act.eval]) (alive_B hE) ?_
    rintro v w9 ⟨rfl, hE9⟩
    simp only [Act.put, List.getElem_toArray, List.getElem_cons_zero, List.getElem_cons_succ, List.setIfInBounds_toArray, List.set_cons_zero, List.set_cons_succ]
    iterate 2 (refine opsB_k bodT rfl (by rfl) (by rfl) ?_; intro T D K hK; go_simp; refine hK _ _ ?_; clear hK K; refine opsB.tape T D ?_)
    refine opsB_nil ?_
    simp only [Nx]
    refine wpB_ret ?_
    exact bodyB_ret rfl (results_tmp1 rfl rfl _) (⟨rfl, hE1.trans (hE5.trans (hE8.trans hE9))⟩)
  · have hd : decide ((1024 : Int) < (s.size : Int)) = true := by simp; omega
    have hd2 : (1024 : Int) < (s.size : Int) := by omega
    clear hs
    refine callsB_of_wp Try.func3 rfl ?_
    simp only [Try.ntmps3, List.size_toArray, List.length_cons, List.length_nil, Nat.reduceAdd, Nat.reduceSub, Array.replicate_succ, Array.replicate_zero, List.push_toArray, List.append_toArray, List.nil_append, List.cons_append]
    refine wpB_seq ?_
    refine wpB_region ?_
    simp only [List.size_toArray, List.length_cons, List.length_nil, Nat.reduceAdd, Nat.zero_add, List.range, List.range.loop]
    (refine opsB_k bodT rfl (by rfl) (by rfl) ?_; intro T D K hK; go_simp; refine hK _ _ ?_; clear hK K; refine opsB.tape T D ?_)
    refine opsB_nil ?_
    simp only [Nx]
    refine wpB_seq ?_
    refine wpB_seq ?_
    refine wpB_region ?_
    simp only [List.size_toArray, List.length_cons, List.length_nil, Nat.reduceAdd, Nat.zero_add, List.range, List.range.loop]
    iterate 3 (refine opsB_k bodT rfl (by rfl) (by rfl) ?_; intro T D K hK; go_simp; refine hK _ _ ?_; clear hK K; refine opsB.tape T D ?_)
    refine opsB_nil ?_
    simp only [Nx]
    refine wpB_cond (t := true) (by first | rfl | simp [Act.eval, *]) ?_
    simp only [Bool.false_eq_true, if_true, if_false, reduceIte]
    refine wpB_seq ?_
    refine wpB_region ?_
    simp only [List.size_toArray, List.length_cons, List.length_nil, Nat.reduceAdd, Nat.zero_add, List.range, List.range.loop]
    refine opsB_callOf (f := 7) (av := #[]) rfl (by rfl) rfl Try.func7 (by rfl) (by decide +kernel) (by simp [Act.eval]) (alive_B hE) ?_
    rintro v w1 ⟨rfl, hE1⟩
    simp only [Act.put, List.getElem_toArray, List.getElem_cons_zero, List.getElem_cons_succ, List.setIfInBounds_toArray, List.set_cons_zero, List.set_cons_succ]
    (refine opsB_k bodT rfl (by rfl) (by rfl) ?_; intro T D K hK; go_simp; refine hK _ _ ?_; clear hK K; refine opsB.tape T D ?_)
    refine opsB_nil ?_
    simp only [Nx]
    refine wpB_ret ?_
    exact bodyB_ret rfl (results_tmp1 rfl rfl _) (⟨rfl, hE1⟩)
set_option maxHeartbeats 8000000 in
set_option maxRecDepth 100000 in
theorem codeGathers_C {n0 : Nat} (hE : NoEarly Try.prog n0) (k r t i : Int) {A : Option Addr} {n c : Nat} {l : List Pt} (ht : t ≤ 9223372036854775807) {w : World} (hr : PtRd w A n l) (hi : ∀ p ∈ l, -9223372036854775808 ≤ p.1 ∧ p.1 ≤ 9223372036854775807) : CallsB n0 Try.prog 4 #[.int .i64 k, .int .i64 r, .int .i64 t, .int .i64 i, .slice A n c] w (YesB w) := by
  refine callsB_of_wp Try.func4 rfl ?_
  simp only [Try.ntmps4, List.size_toArray, List.length_cons, List.length_nil, Nat.reduceAdd, Nat.reduceSub, Array.replicate_succ, Array.replicate_zero, List.push_toArray, List.append_toArray, List.nil_append, List.cons_append]
  refine wpB_seq ?_
  refine wpB_region ?_
  simp only [List.size_toArray, List.length_cons, List.length_nil, Nat.reduceAdd, Nat.zero_add, List.range, List.range.loop]
  (refine opsB_k bodT rfl (by rfl) (by rfl) ?_; intro T D K hK; go_simp; refine hK _ _ ?_; clear hK K; refine opsB.tape T D ?_)
  refine opsB_nil ?_
  simp only [Nx]
  refine wpB_seq ?_
  refine wpB_seq ?_
  refine wpB_region ?_
  simp only [List.size_toArray, List.length_cons, List.length_nil, Nat.reduceAdd, Nat.zero_add, List.range, List.range.loop]
  (refine opsB_k bodT rfl (by rfl) (by rfl) ?_; intro T D K hK; go_simp; refine hK _ _ ?_; clear hK K; refine opsB.tape T D ?_)
  refine opsB_callOf (f := 15) (av := #[.slice A n c]) rfl (by rfl) rfl Try.func15 (by rfl) (by decide +kernel) (by simp [Act.eval]) (long_all hE hr) ?_
  rintro v w0 ⟨B, rfl, hB, hE0⟩
  simp only [Act.put, List.getElem_toArray, List.getElem_cons_zero, List.getElem_cons_succ, List.setIfInBounds_toArray, List.set_cons_zero, List.set_cons_succ]
  refine opsB_nil ?_
  simp only [Nx]
  cases B
  · obtain ⟨hn, hz⟩ := hB rfl
    replace hn : n ≤ 1048576 := by omega
    replace hz : ∀ p ∈ l, p.2.size ≤ 1048576 := fun p hp => by have := hz p hp; omega
    replace hr := hr.ext hE0
    clear hB
    refine wpB_cond (t := false) (by first | rfl | simp [Act.eval, *]) ?_
    simp only [Bool.false_eq_true, if_true, if_false, reduceIte]
    refine wpB_skip ?_
    simp only [Nx]
    refine wpB_seq ?_
    refine wpB_region ?_
    simp only [List.size_toArray, List.length_cons, List.length_nil, Nat.reduceAdd, Nat.zero_add, List.range, List.range.loop]
    iterate 4 (refine opsB_k bodT rfl (by rfl) (by rfl) ?_; intro T D K hK; go_simp; refine hK _ _ ?_; clear hK K; refine opsB.tape T D ?_)
    refine opsB_callOf (f := 16) (av := #[.int .i64 k, .int .i64 r, .int .i64 t, .slice A n c]) rfl (by rfl) rfl Try.func16 (by rfl) (by decide +kernel) (by simp [Act.eval]) (gather_all hE k r t ht hr hn hz hi) ?_
    rintro v w1 ⟨rfl, hE1⟩
    replace hr := hr.ext hE1
    replace hE0 := hE0.trans hE1
    clear hE1
    simp only [Act.put, List.getElem_toArray, List.getElem_cons_zero, List.getElem_cons_succ, List.setIfInBounds_toArray, List.set_cons_zero, List.set_cons_succ]
    iterate 5 (refine opsB_k bodT rfl (by rfl) (by rfl) ?_; intro T D K hK; go_simp; refine hK _ _ ?_; clear hK K; refine opsB.tape T D ?_)
    refine opsB_nil ?_
    simp only [Nx]
    refine wpB_seq ?_
    refine wpB_region ?_
    simp only [List.size_toArray, List.length_cons, List.length_nil, Nat.reduceAdd, Nat.zero_add, List.range, List.range.loop]
    iterate 4 (refine opsB_k bodT rfl (by rfl) (by rfl) ?_; intro T D K hK; go_simp; refine hK _ _ ?_; clear hK K; refine opsB.tape T D ?_)
    refine opsB_callOf (f := 17) (av := #[.int .i64 k, .int .i64 r, .int .i64 t, .slice A n c]) rfl (by rfl) rfl Try.func17 (by rfl) (by decide +kernel) (by simp [Act.eval]) (rgather_all hE k r t ht hr hn hz hi) ?_
    rintro v w2 ⟨rfl, hE2⟩
    replace hr := hr.ext hE2
    replace hE0 := hE0.trans hE2
    clear hE2
    simp only [Act.put, List.getElem_toArray, List.getElem_cons_zero, List.getElem_cons_succ, List.setIfInBounds_toArray, List.set_cons_zero, List.set_cons_succ]
    iterate 5 (refine opsB_k bodT rfl (by rfl) (by rfl) ?_; intro T D K hK; go_simp; refine hK _ _ ?_; clear hK K; refine opsB.tape T D ?_)
    refine opsB_nil ?_
    simp only [Nx]
    refine wpB_seq ?_
    refine wpB_region ?_
    simp only [List.size_toArray, List.length_cons, List.length_nil, Nat.reduceAdd, Nat.zero_add, List.range, List.range.loop]
    iterate 4 (refine opsB_k bodT rfl (by rfl) (by rfl) ?_; intro T D K hK; go_simp; refine hK _ _ ?_; clear hK K; refine opsB.tape T D ?_)
    refine opsB_callOf (f := 18) (av := #[.int .i64 k, .int .i64 r, .int .i64 i, .slice A n c]) rfl (by rfl) rfl Try.func18 (by rfl) (by decide +kernel) (by simp [Act.eval]) (again_all hE k r i hr hn hz hi) ?_
    rintro v w3 ⟨rfl, hE3⟩
    replace hr := hr.ext hE3
    replace hE0 := hE0.trans hE3
    clear hE3
    simp only [Act.put, List.getElem_toArray, List.getElem_cons_zero, List.getElem_cons_succ, List.setIfInBounds_toArray, List.set_cons_zero, List.set_cons_succ]
    iterate 5 (refine opsB_k bodT rfl (by rfl) (by rfl) ?_; intro T D K hK; go_simp; refine hK _ _ ?_; clear hK K; refine opsB.tape T D ?_)
    refine opsB_nil ?_
    simp only [Nx]
    refine wpB_seq ?_
    refine wpB_region ?_
    simp only [List.size_toArray, List.length_cons, List.length_nil, Nat.reduceAdd, Nat.zero_add, List.range, List.range.loop]
    iterate 4 (refine opsB_k bodT rfl (by rfl) (by rfl) ?_; intro T D K hK; go_simp; refine hK _ _ ?_; clear hK K; refine opsB.tape T D ?_)
    refine opsB_callOf (f := 19) (av := #[.int .i64 k, .int .i64 r, .int .i64 i, .slice A n c]) rfl (by rfl) rfl Try.func19 (by rfl) (by decide +kernel) (by simp [Act.eval]) (ragain_all hE k r i hr hn hz hi) ?_
    rintro v w4 ⟨rfl, hE4⟩
    replace hr := hr.ext hE4
    replace hE0 := hE0.trans hE4
    clear hE4
    simp only [Act.put, List.getElem_toArray, List.getElem_cons_zero, List.getElem_cons_succ, List.setIfInBounds_toArray, List.set_cons_zero, List.set_cons_succ]
    iterate 5 (refine opsB_k bodT rfl (by rfl) (by rfl) ?_; intro T D K hK; go_simp; refine hK _ _ ?_; clear hK K; refine opsB.tape T D ?_)
    refine opsB_nil ?_
    simp only [Nx]
    refine wpB_seq ?_
    refine wpB_region ?_
    simp only [List.size_toArray, List.length_cons, List.length_nil, Nat.reduceAdd, Nat.zero_add, List.range, List.range.loop]
    iterate 19 (refine opsB_k bodT rfl (by rfl) (by rfl) ?_; intro T D K hK; go_simp; refine hK _ _ ?_; clear hK K; refine opsB.tape T D ?_)
    refine opsB_callOf (f := 7) (av := #[]) rfl (by rfl) rfl Try.func7 (by rfl) (by decide +kernel) (by simp [Act.eval]) (alive_B hE) ?_
    rintro v w9 ⟨rfl, hE9⟩
    simp only [Act.put, List.getElem_toArray, List.getElem_cons_zero, List.getElem_cons_succ, List.setIfInBounds_toArray, List.set_cons_zero, List.set_cons_succ]
    iterate 2 (refine opsB_k bodT rfl (by rfl) (by rfl) ?_; intro T D K hK; go_simp; refine hK _ _ ?_; clear hK K; refine opsB.tape T D ?_)
    refine opsB_nil ?_
    simp only [Nx]
    refine wpB_ret ?_
    exact bodyB_ret rfl (results_tmp1 rfl rfl _) (⟨rfl, hE0.trans hE9⟩)
  · clear hB
    refine wpB_cond (t := true) (by first | rfl | simp [Act.eval, *]) ?_
    simp only [Bool.false_eq_true, if_true, if_false, reduceIte]
    refine wpB_seq ?_
    refine wpB_region ?_
    simp only [List.size_toArray, List.length_cons, List.length_nil, Nat.reduceAdd, Nat.zero_add, List.range, List.range.loop]
    refine opsB_callOf (f := 7) (av := #[]) rfl (by rfl) rfl Try.func7 (by rfl) (by decide +kernel) (by simp [Act.eval]) (alive_B hE) ?_
    rintro v w1 ⟨rfl, hE1⟩
    simp only [Act.put, List.getElem_toArray, List.getElem_cons_zero, List.getElem_cons_succ, List.setIfInBounds_toArray, List.set_cons_zero, List.set_cons_succ]
    (refine opsB_k bodT rfl (by rfl) (by rfl) ?_; intro T D K hK; go_simp; refine hK _ _ ?_; clear hK K; refine opsB.tape T D ?_)
    refine opsB_nil ?_
    simp only [Nx]
    refine wpB_ret ?_
    exact bodyB_ret rfl (results_tmp1 rfl rfl _) (⟨rfl, hE0.trans hE1⟩)
theorem codeSpreads_B {n0 : Nat} (hE : NoEarly Try.prog n0) (k r : Int) (s : ByteArray) (t : Int) (w : World) (_ : (Lit.int .i64 k).wf = true) (_ : (Lit.int .i64 r).wf = true) (_ : s.size ≤ maxLen) (ht : (Lit.int .i64 t).wf = true) : CallsB n0 Try.prog 3 #[.int .i64 k, .int .i64 r, .string s, .int .i64 t] w (YesB w) :=
  codeSpreads_C hE k r t s (bounds_i64 ht).2
def PtOk (p : Pt) : Prop := -9223372036854775808 ≤ p.1 ∧ p.1 ≤ 9223372036854775807
theorem open_t34 {H : Type} {enc : TypeId × Value → H} {w : World} {base : Nat} {spare : Nat → Bool} {held : Bool} {A : Option Addr} {n c : Nat} {d : DataW H} {ps : List MemPlace} (h : DataW.Trod enc Try.prog w base spare held 34 (.slice A n c) d ps) :
    ∃ l : List Pt, PtRd w A n l ∧ n ≤ maxLen ∧ ∀ p ∈ l, PtOk p := by
  obtain ⟨f, hf, hn, hr⟩ := Go.open_fields Try.underlying34 Try.underlying44 (by kernel_rfl) (by kernel_rfl) (by decide) h
  have key : ∀ i, i < n → ∃ x : Pt, PtOk x ∧ f i 0 = .int .i64 x.1 ∧ f i 1 = .string x.2 := by
    intro i hi
    obtain ⟨m0, y0, h0⟩ := hr i 0 _ hi rfl
    obtain ⟨m1, y1, h1⟩ := hr i 1 _ hi rfl
    obtain ⟨a0, e0, w0⟩ := fld_int Try.underlying3 h0
    obtain ⟨a1, e1, w1⟩ := fld_string Try.underlying9 h1
    exact ⟨(a0, a1), bounds_i64 w0, e0, e1⟩
  refine ⟨(List.range n).attach.map fun i => Classical.choose (key i.1 (List.mem_range.mp i.2)), ⟨by simp, fun h0 => ?_⟩, hn, fun x hx => ?_⟩
  · obtain ⟨g, o, ha, hc⟩ := hf h0
    refine ⟨g, o, ha, fun i p hi => ?_⟩
    have hin : i < n := by
      have := (List.getElem?_eq_some_iff.1 hi).1
      simpa using this
    have hx : ((List.range n).attach.map fun i => Classical.choose (key i.1 (List.mem_range.mp i.2)))[i]? = some (Classical.choose (key i hin)) := by
      rw [List.getElem?_map, List.getElem?_eq_getElem (by simpa using hin)]
      simp
    rw [hx] at hi
    injection hi with hi
    obtain ⟨_, s0, s1⟩ := Classical.choose_spec (key i hin)
    rw [hi] at s0 s1
    exact ⟨by rw [← s0]; exact hc i 0 hin (by decide), by rw [← s1]; exact hc i 1 hin (by decide)⟩
  · obtain ⟨i, _, rfl⟩ := List.mem_map.mp hx
    exact (Classical.choose_spec (key i.1 (List.mem_range.mp i.2))).1
theorem codeGathers_B {n0 : Nat} (hE : NoEarly Try.prog n0) (k r t i : Int) (A : Option Addr) (n c : Nat) (l : List Pt) (w : World) (_ : (Lit.int .i64 k).wf = true) (_ : (Lit.int .i64 r).wf = true) (ht : (Lit.int .i64 t).wf = true) (_ : (Lit.int .i64 i).wf = true) (hr : PtRd w A n l) (_ : n ≤ maxLen) (hi : ∀ p ∈ l, PtOk p) : CallsB n0 Try.prog 4 #[.int .i64 k, .int .i64 r, .int .i64 t, .int .i64 i, .slice A n c] w (YesB w) :=
  codeGathers_C hE k r t i (bounds_i64 ht).2 hr hi
end Go.Proofs.Ytjdppgogdilgkaa
end
