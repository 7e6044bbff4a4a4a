import Derived.Test.YtjdppgogdilgkaaKI
import Derived.Test.YtjdppgogdilgkaaSB
import Derived.Test.YtjdppgogdilgkaaMA
section
namespace Go.Proofs.Ytjdppgogdilgkaa
open Go.Co Go.RowKit
set_option linter.unusedVariables false
set_option linter.unusedSimpArgs false
def tameL : List Nat := [8, 9, 11, 12, 13, 14, 15, 17, 19, 20, 21, 23, 24, 25, 26, 27, 29, 30, 31, 33, 34, 35, 36, 37, 38, 40, 42, 43, 44, 45, 46, 47, 49, 50, 51, 52, 53, 54, 55, 56, 57, 58, 59, 60, 61, 62, 63, 64, 66, 67, 68, 69, 70]
def Ft (k : FuncId) : Bool := tameL.contains k
theorem ext69 : ExtFine true Try.prog 69 := ⟨Try.f69, _, Try.func69, rfl, by decide +kernel, by kernel_rfl, (show Extern.find Try.f69 = some Extern.AbiNoEscape.same by kernel_rfl), fun args => by
  obtain ⟨l⟩ := args
  match l with
  | [] => exact f_stuck _
  | [x] => exact f_pure _
  | _ :: _ :: _ => exact f_stuck _⟩
theorem fine_room (n : Nat) : Fine true (askRoom n) := by
  unfold askRoom
  exact f_ite f_noRoom (f_pure _)
theorem ext70 : ExtFine true Try.prog 70 := ⟨Try.f70, _, Try.func70, rfl, by decide +kernel, by kernel_rfl, (show Extern.find Try.f70 = some (Extern.BytealgMakeNoZero.makeNoZero Try.f70.params Try.f70.resultTypes) by kernel_rfl), fun args => by
  obtain ⟨l⟩ := args
  match l with
  | [] => exact f_stuck _
  | _ :: _ :: _ => exact f_stuck _
  | [x] =>
    cases x with
    | int k n =>
      cases k with
      | i64 =>
        show Fine true (Extern.BytealgMakeNoZero.makeNoZero Try.f70.params Try.f70.resultTypes #[.int .i64 n])
        unfold Extern.BytealgMakeNoZero.makeNoZero
        generalize Try.f70.resultTypes = R
        dsimp only
        cases R[0]? with
        | none => exact f_stuck _
        | some t =>
          refine Fine.bind (f_underlying t) fun d => ?_
          cases d with
          | slice e =>
            have tail : Fine true (do
                let cap ← choose (.appendCap n.toNat 0 e)
                askRoom cap
                let bytes ← choose (.extern "internal/bytealg.MakeNoZero.bytes" 0)
                let a ← newRow e (Extern.BytealgMakeNoZero.digits cap bytes #[])
                pure (Value.slice (some a) n.toNat cap) : Sem Value) :=
              Fine.bind (f_choose _) fun cap => Fine.bind (fine_room cap) fun _ => Fine.bind (f_choose _) fun bytes => Fine.bind (Fine.bind (f_newObj _) fun _ => f_pure _) fun a => f_pure _
            exact f_ite (Fine.bind (f_rtp _) fun _ => tail) tail
          | _ => exact f_stuck _
      | _ => exact f_stuck _
    | _ => exact f_stuck _⟩
theorem tameT : TameP true Try.prog Ft := by
  intro k hk
  have hm : k ∈ tameL := by simpa [Ft] using hk
  simp only [tameL, List.mem_cons, List.not_mem_nil, or_false] at hm
  rcases hm with rfl | rfl | rfl | rfl | rfl | rfl | rfl | rfl | rfl | rfl | rfl | rfl | rfl | rfl | rfl | rfl | rfl | rfl | rfl | rfl | rfl | rfl | rfl | rfl | rfl | rfl | rfl | rfl | rfl | rfl | rfl | rfl | rfl | rfl | rfl | rfl | rfl | rfl | rfl | rfl | rfl | rfl | rfl | rfl | rfl | rfl | rfl | rfl | rfl | rfl | rfl | rfl | rfl
  · exact .inl ⟨Try.f8, _, Try.func8, rfl, by decide +kernel, by decide +kernel⟩
  · exact .inl ⟨Try.f9, _, Try.func9, rfl, by decide +kernel, by decide +kernel⟩
  · exact .inl ⟨Try.f11, _, Try.func11, rfl, by decide +kernel, by decide +kernel⟩
  · exact .inl ⟨Try.f12, _, Try.func12, rfl, by decide +kernel, by decide +kernel⟩
  · exact .inl ⟨Try.f13, _, Try.func13, rfl, by decide +kernel, by decide +kernel⟩
  · exact .inl ⟨Try.f14, _, Try.func14, rfl, by decide +kernel, by decide +kernel⟩
  · exact .inl ⟨Try.f15, _, Try.func15, rfl, by decide +kernel, by decide +kernel⟩
  · exact .inl ⟨Try.f17, _, Try.func17, rfl, by decide +kernel, by decide +kernel⟩
  · exact .inl ⟨Try.f19, _, Try.func19, rfl, by decide +kernel, by decide +kernel⟩
  · exact .inl ⟨Try.f20, _, Try.func20, rfl, by decide +kernel, by decide +kernel⟩
  · exact .inl ⟨Try.f21, _, Try.func21, rfl, by decide +kernel, by decide +kernel⟩
  · exact .inl ⟨Try.f23, _, Try.func23, rfl, by decide +kernel, by decide +kernel⟩
  · exact .inl ⟨Try.f24, _, Try.func24, rfl, by decide +kernel, by decide +kernel⟩
  · exact .inl ⟨Try.f25, _, Try.func25, rfl, by decide +kernel, by decide +kernel⟩
  · exact .inl ⟨Try.f26, _, Try.func26, rfl, by decide +kernel, by decide +kernel⟩
  · exact .inl ⟨Try.f27, _, Try.func27, rfl, by decide +kernel, by decide +kernel⟩
  · exact .inl ⟨Try.f29, _, Try.func29, rfl, by decide +kernel, by decide +kernel⟩
  · exact .inl ⟨Try.f30, _, Try.func30, rfl, by decide +kernel, by decide +kernel⟩
  · exact .inl ⟨Try.f31, _, Try.func31, rfl, by decide +kernel, by decide +kernel⟩
  · exact .inl ⟨Try.f33, _, Try.func33, rfl, by decide +kernel, by decide +kernel⟩
  · exact .inl ⟨Try.f34, _, Try.func34, rfl, by decide +kernel, by decide +kernel⟩
  · exact .inl ⟨Try.f35, _, Try.func35, rfl, by decide +kernel, by decide +kernel⟩
  · exact .inl ⟨Try.f36, _, Try.func36, rfl, by decide +kernel, by decide +kernel⟩
  · exact .inl ⟨Try.f37, _, Try.func37, rfl, by decide +kernel, by decide +kernel⟩
  · exact .inl ⟨Try.f38, _, Try.func38, rfl, by decide +kernel, by decide +kernel⟩
  · exact .inl ⟨Try.f40, _, Try.func40, rfl, by decide +kernel, by decide +kernel⟩
  · exact .inl ⟨Try.f42, _, Try.func42, rfl, by decide +kernel, by decide +kernel⟩
  · exact .inl ⟨Try.f43, _, Try.func43, rfl, by decide +kernel, by decide +kernel⟩
  · exact .inl ⟨Try.f44, _, Try.func44, rfl, by decide +kernel, by decide +kernel⟩
  · exact .inl ⟨Try.f45, _, Try.func45, rfl, by decide +kernel, by decide +kernel⟩
  · exact .inl ⟨Try.f46, _, Try.func46, rfl, by decide +kernel, by decide +kernel⟩
  · exact .inl ⟨Try.f47, _, Try.func47, rfl, by decide +kernel, by decide +kernel⟩
  · exact .inl ⟨Try.f49, _, Try.func49, rfl, by decide +kernel, by decide +kernel⟩
  · exact .inl ⟨Try.f50, _, Try.func50, rfl, by decide +kernel, by decide +kernel⟩
  · exact .inl ⟨Try.f51, _, Try.func51, rfl, by decide +kernel, by decide +kernel⟩
  · exact .inl ⟨Try.f52, _, Try.func52, rfl, by decide +kernel, by decide +kernel⟩
  · exact .inl ⟨Try.f53, _, Try.func53, rfl, by decide +kernel, by decide +kernel⟩
  · exact .inl ⟨Try.f54, _, Try.func54, rfl, by decide +kernel, by decide +kernel⟩
  · exact .inl ⟨Try.f55, _, Try.func55, rfl, by decide +kernel, by decide +kernel⟩
  · exact .inl ⟨Try.f56, _, Try.func56, rfl, by decide +kernel, by decide +kernel⟩
  · exact .inl ⟨Try.f57, _, Try.func57, rfl, by decide +kernel, by decide +kernel⟩
  · exact .inl ⟨Try.f58, _, Try.func58, rfl, by decide +kernel, by decide +kernel⟩
  · exact .inl ⟨Try.f59, _, Try.func59, rfl, by decide +kernel, by decide +kernel⟩
  · exact .inl ⟨Try.f60, _, Try.func60, rfl, by decide +kernel, by decide +kernel⟩
  · exact .inl ⟨Try.f61, _, Try.func61, rfl, by decide +kernel, by decide +kernel⟩
  · exact .inl ⟨Try.f62, _, Try.func62, rfl, by decide +kernel, by decide +kernel⟩
  · exact .inl ⟨Try.f63, _, Try.func63, rfl, by decide +kernel, by decide +kernel⟩
  · exact .inl ⟨Try.f64, _, Try.func64, rfl, by decide +kernel, by decide +kernel⟩
  · exact .inl ⟨Try.f66, _, Try.func66, rfl, by decide +kernel, by decide +kernel⟩
  · exact .inl ⟨Try.f67, _, Try.func67, rfl, by decide +kernel, by decide +kernel⟩
  · exact .inl ⟨Try.f68, _, Try.func68, rfl, by decide +kernel, by decide +kernel⟩
  · exact .inr ext69
  · exact .inr ext70
end Go.Proofs.Ytjdppgogdilgkaa
end
section
namespace Go.Proofs.Ytjdppgogdilgkaa
open Go.RowKit Go.Gf Go.Co Go.Conc
set_option linter.unusedSimpArgs false
set_option linter.unusedVariables false
theorem bodT : Bodied true Try.prog Ft := tameT.bodied
theorem _root_.Go.Ext.nt {w w' : World} {T : Tape} {D : Nat} (h : Ext (tp w T D) w') : Ext w (nt w w') := ⟨h.os, rfl, h.output, h.size, h.block⟩
theorem results_tmp1 {P : Program} {fn : Func} {t : Tmp} (h : fn.results = #[.tmp t]) {tmps : Array Value} {v : Value} (hv : tmps.getD t undef = v) (w : World) : (results fn tmps).run P w = .ok v w := by
  have hv' : tmps[t]?.getD undef = v := by simpa using hv
  have e : results fn tmps = Sem.pure v := by
    simp only [results, h]
    simp [hv']
    rfl
  rw [e]; rfl
theorem results_tmp2 {P : Program} {fn : Func} {t u : Tmp} (h : fn.results = #[.tmp t, .tmp u]) {tmps : Array Value} {v x : Value} (hv : tmps.getD t undef = v) (hx : tmps.getD u undef = x) (w : World) : (results fn tmps).run P w = .ok (.tuple #[v, x]) w := by
  have hv' : tmps[t]?.getD undef = v := by simpa using hv
  have hx' : tmps[u]?.getD undef = x := by simpa using hx
  have e : results fn tmps = Sem.pure (.tuple #[v, x]) := by
    simp only [results, h]
    simp [hv', hx']
    rfl
  rw [e]; rfl
set_option maxHeartbeats 4000000 in
set_option maxRecDepth 100000 in
theorem idx_B {n0 : Nat} (hE : NoEarly Try.prog n0) {n cap : Nat} {A : Option Addr} {l : List ByteArray} {C : Value} {w : World} (hr : Rd w A n (l.map Value.string)) (hn : n ≤ 1048576)
    (hf : ∀ s ∈ l, ∀ T D, Calls Try.prog 66 #[.string s, C] (tp w T D) fun e w'' => e = .returned (.bool false) ∧ tp w T D = w'') :
    CallsB n0 Try.prog 71 #[.slice A n cap, .func (.func 66) #[] #[C]] w fun v w' => v = .int .i64 (-1) ∧ w' = w := by
  have hlen : l.length = n := by have := hr.1; simpa using this
  refine callsB_of_wp Try.func71 rfl ?_
  simp only [Try.ntmps71, List.size_toArray, List.length_cons, List.length_nil, Nat.reduceAdd, Nat.reduceSub, Array.replicate_succ, Array.replicate_zero, List.push_toArray, List.append_toArray, List.nil_append, List.cons_append]
  refine wpB_seq ?_
  refine wpB_region ?_
  simp only [List.size_toArray, List.length_cons, List.length_nil, Nat.reduceAdd, Nat.zero_add, List.range, List.range.loop]
  (refine opsB_k bodT rfl (by rfl) (by rfl) ?_; intro T D K hK; go_simp; refine hK _ _ ?_; clear hK K; refine opsB.tape T D ?_)
  refine opsB_nil ?_
  simp only [Nx]
  refine wpB_seq ?_
  refine wpB_seq ?_
  refine wpB_region ?_
  simp only [List.size_toArray, List.length_cons, List.length_nil, Nat.reduceAdd, Nat.zero_add, List.range, List.range.loop]
  iterate 3 (refine opsB_k bodT rfl (by rfl) (by rfl) ?_; intro T D K hK; go_simp; refine hK _ _ ?_; clear hK K; refine opsB.tape T D ?_)
  refine opsB_nil ?_
  simp only [Nx]
  refine wpB_block ?_
  refine wpB_loop (fun m a w1 => ∃ k : Nat, k ≤ n ∧ m = n - k ∧ w1 = w ∧ ∃ x2 x3 x4 x5 x6 x9 x10 x11 x12 x13 x14 x15 x16 x17 x18, a = ⟨#[.slice A n cap, .func (.func 66) #[] #[C], x2, x3, x4, x5, x6, .int .i64 n, .int .i64 k, x9, x10, x11, x12, x13, x14, x15, x16, x17, x18], []⟩) n ⟨0, by omega, rfl, rfl, _, _, _, _, _, _, _, _, _, _, _, _, _, _, _, rfl⟩ ?_
  rintro m a w1 ⟨k, hk, rfl, rfl, _, _, _, _, _, _, _, _, _, _, _, _, _, _, _, rfl⟩
  by_cases hk2 : k < n
  · obtain ⟨gs, os, rfl, hgs, hcell⟩ := hr.at_ hk2
    simp only [List.getElem_map] at hcell
    have hlk : k < l.length := by omega
    have hmem := List.getElem_mem hlk
    generalize l[k]'hlk = s at *
    have kk : (k : Int) < (n : Int) := by omega
    have kk0 : (0 : Int) ≤ (k : Int) := by omega
    have c1 : decide ((k : Int) < (n : Int)) = true := by simp; omega
    have k9 : IntKind.i64.wrap ((k : Int) + 1) = (k : Int) + 1 := IntWalk.i64_in _ (by omega)
    have hct : ∀ T D, (tp w1 T D).cell? ⟨gs, os + k, none⟩ = some (.string s) := fun _ _ => hcell
    refine wpB_seq ?_
    refine wpB_region ?_
    simp only [List.size_toArray, List.length_cons, List.length_nil, Nat.reduceAdd, Nat.zero_add, List.range, List.range.loop]
    (refine opsB_k bodT rfl (by rfl) (by rfl) ?_; intro T D K hK; go_simp; refine hK _ _ ?_; clear hK K; refine opsB.tape T D ?_)
    refine opsB_nil ?_
    simp only [Nx]
    refine wpB_seq ?_
    refine wpB_cond (t := true) (by first | rfl | simp [Act.eval, *]) ?_
    simp only [Bool.false_eq_true, if_true, if_false, reduceIte]
    refine wpB_skip ?_
    simp only [Nx]
    refine wpB_seq ?_
    refine wpB_block ?_
    refine wpB_seq ?_
    refine wpB_region ?_
    simp only [List.size_toArray, List.length_cons, List.length_nil, Nat.reduceAdd, Nat.zero_add, List.range, List.range.loop]
    iterate 2 (refine opsB_k bodT rfl (by rfl) (by rfl) ?_; intro T D K hK; go_simp; refine hK _ _ ?_; clear hK K; refine opsB.tape T D ?_)
    refine opsB_nil ?_
    simp only [Nx]
    refine wpB_seq ?_
    refine wpB_region ?_
    simp only [List.size_toArray, List.length_cons, List.length_nil, Nat.reduceAdd, Nat.zero_add, List.range, List.range.loop]
    iterate 5 (refine opsB_k bodT rfl (by rfl) (by rfl) ?_; intro T D K hK; go_simp; refine hK _ _ ?_; clear hK K; refine opsB.tape T D ?_)
    refine opsB_enter rfl (by rfl) (f := 66) (av := #[.string s, C]) (fun w => by go_simp; rfl) (callsB_same tameT hE (by decide) ⟨_, Try.func66, rfl⟩ (hf s hmem)) ?_
    rintro v w' ⟨rfl, rfl⟩
    simp only [Act.put, List.getElem_toArray, List.getElem_cons_zero, List.getElem_cons_succ, List.setIfInBounds_toArray, List.set_cons_zero, List.set_cons_succ]
    refine opsB_nil ?_
    simp only [Nx]
    refine wpB_cond (t := false) (by first | rfl | simp [Act.eval, *]) ?_
    simp only [Bool.false_eq_true, if_true, if_false, reduceIte]
    refine wpB_skip ?_
    simp only [Bl, Nx]
    refine wpB_region ?_
    simp only [List.size_toArray, List.length_cons, List.length_nil, Nat.reduceAdd, Nat.zero_add, List.range, List.range.loop]
    iterate 2 (refine opsB_k bodT rfl (by rfl) (by rfl) ?_; intro T D K hK; go_simp; refine hK _ _ ?_; clear hK K; refine opsB.tape T D ?_)
    refine opsB_nil ?_
    simp only [Nx]
    exact ⟨n - (k + 1), by omega, k + 1, by omega, rfl, by first | trivial | rfl, _, _, _, _, _, _, _, _, _, _, _, _, _, _, _, rfl⟩
  · obtain rfl : k = n := by omega
    have c1 : decide ((k : Int) < (k : Int)) = false := by simp
    refine wpB_seq ?_
    refine wpB_region ?_
    simp only [List.size_toArray, List.length_cons, List.length_nil, Nat.reduceAdd, Nat.zero_add, List.range, List.range.loop]
    (refine opsB_k bodT rfl (by rfl) (by rfl) ?_; intro T D K hK; go_simp; refine hK _ _ ?_; clear hK K; refine opsB.tape T D ?_)
    refine opsB_nil ?_
    simp only [Nx]
    refine wpB_seq ?_
    refine wpB_cond (t := false) (by first | rfl | simp [Act.eval, *]) ?_
    simp only [Bool.false_eq_true, if_true, if_false, reduceIte]
    refine wpB_exit ?_
    simp only [Nx, Bl, if_true]
    refine wpB_seq ?_
    refine wpB_region ?_
    simp only [List.size_toArray, List.length_cons, List.length_nil, Nat.reduceAdd, Nat.zero_add, List.range, List.range.loop]
    (refine opsB_k bodT rfl (by rfl) (by rfl) ?_; intro T D K hK; go_simp; refine hK _ _ ?_; clear hK K; refine opsB.tape T D ?_)
    refine opsB_nil ?_
    simp only [Nx]
    refine wpB_ret ?_
    exact bodyB_ret rfl (results_tmp1 rfl rfl _) (by simp)
set_option maxHeartbeats 4000000 in
set_option maxRecDepth 100000 in
theorem cont_B {n0 : Nat} (hE : NoEarly Try.prog n0) {n cap : Nat} {A : Option Addr} {l : List ByteArray} {C : Value} {w : World} (hr : Rd w A n (l.map Value.string)) (hn : n ≤ 1048576)
    (hf : ∀ s ∈ l, ∀ T D, Calls Try.prog 66 #[.string s, C] (tp w T D) fun e w'' => e = .returned (.bool false) ∧ tp w T D = w'') :
    CallsB n0 Try.prog 65 #[.slice A n cap, .func (.func 66) #[] #[C]] w fun v w' => v = .bool false ∧ w' = w := by
  refine callsB_of_wp Try.func65 rfl ?_
  simp only [Try.ntmps65, List.size_toArray, List.length_cons, List.length_nil, Nat.reduceAdd, Nat.reduceSub, Array.replicate_succ, Array.replicate_zero, List.push_toArray, List.append_toArray, List.nil_append, List.cons_append]
  refine wpB_seq ?_
  refine wpB_region ?_
  simp only [List.size_toArray, List.length_cons, List.length_nil, Nat.reduceAdd, Nat.zero_add, List.range, List.range.loop]
  (refine opsB_k bodT rfl (by rfl) (by rfl) ?_; intro T D K hK; go_simp; refine hK _ _ ?_; clear hK K; refine opsB.tape T D ?_)
  refine opsB_nil ?_
  simp only [Nx]
  refine wpB_seq ?_
  refine wpB_region ?_
  simp only [List.size_toArray, List.length_cons, List.length_nil, Nat.reduceAdd, Nat.zero_add, List.range, List.range.loop]
  iterate 2 (refine opsB_k bodT rfl (by rfl) (by rfl) ?_; intro T D K hK; go_simp; refine hK _ _ ?_; clear hK K; refine opsB.tape T D ?_)
  refine opsB_callOf (f := 71) (av := #[.slice A n cap, .func (.func 66) #[] #[C]]) rfl (by rfl) rfl Try.func71 (by rfl) (by decide +kernel) (by simp [Act.eval]) (idx_B hE hr hn hf) ?_
  rintro v w' ⟨rfl, rfl⟩
  simp only [Act.put, List.getElem_toArray, List.getElem_cons_zero, List.getElem_cons_succ, List.setIfInBounds_toArray, List.set_cons_zero, List.set_cons_succ]
  iterate 2 (refine opsB_k bodT rfl (by rfl) (by rfl) ?_; intro T D K hK; go_simp; refine hK _ _ ?_; clear hK K; refine opsB.tape T D ?_)
  refine opsB_nil ?_
  simp only [Nx]
  refine wpB_ret ?_
  exact bodyB_ret rfl (results_tmp1 rfl rfl _) (by simp)
theorem _root_.Go.Ext.ntw {w w' : World} (h : Ext w w') : Ext w (nt w w') := ⟨h.os, rfl, h.output, h.size, h.block⟩
set_option maxHeartbeats 4000000 in
set_option maxRecDepth 100000 in
theorem may_B {n0 : Nat} (hE : NoEarly Try.prog n0) {n cap : Nat} {A : Option Addr} {l : List ByteArray} {w : World} (hr : Rd w A n (l.map Value.string)) (h : mayP l) :
    CallsB n0 Try.prog 48 #[.slice A n cap] w fun v w' => v = .bool true ∧ Ext w w' := by
  have hlen : l.length = n := by have := hr.1; simpa using this
  have hn1 : 1 ≤ n ∧ n ≤ 64 := by have := h.1; omega
  refine callsB_nt w ?_
  refine callsB_of_wp Try.func48 rfl ?_
  simp only [Try.ntmps48, List.size_toArray, List.length_cons, List.length_nil, Nat.reduceAdd, Nat.reduceSub, Array.replicate_succ, Array.replicate_zero, List.push_toArray, List.append_toArray, List.nil_append, List.cons_append]
  refine wpB_seq ?_
  refine wpB_region ?_
  simp only [List.size_toArray, List.length_cons, List.length_nil, Nat.reduceAdd, Nat.zero_add, List.range, List.range.loop]
  refine opsB_k bodT rfl (by rfl) (by rfl) ?_
  intro T D K hK
  go_simp
  refine hK _ _ ?_
  clear hK K
  refine opsB.re (w := w.alloc (.cells #[.slice A n cap] 50)) T D rfl ?_
  rw [show (tp w T D).heap.size = w.heap.size from rfl]
  have hE1 := (Ext.refl w).alloc (.cells #[.slice A n cap] 50)
  have hgb := Blk.new w 50 #[.slice A n cap]
  generalize hgg : w.heap.size = g at *
  generalize w.alloc (.cells #[.slice A n cap] 50) = w1 at *
  have hc1 : ∀ T D, (tp w1 T D).cell? ⟨g, 0, none⟩ = some (.slice A n cap) := fun _ _ => by show w1.cell? _ = _; rw [hgb.cell]; rfl
  obtain ⟨gs, os, rfl, hgs, hcell⟩ := hr.at_ (show 0 < n by omega)
  have hl0 := len0_eq (l := l) (by omega)
  have hsz := h.2.1
  rw [hl0] at hsz
  simp only [List.getElem_map, Nat.add_zero] at hcell
  replace hcell := hE1.cellv hcell
  generalize l[0]'(by omega) = s0 at *
  have hc2 : ∀ T D, (tp w1 T D).cell? ⟨gs, os, none⟩ = some (.string s0) := fun _ _ => hcell
  have e1 : 1 ≤ n := by omega
  have e0 : 0 < n := by omega
  have hF : ∀ s ∈ l, ∀ T D, Calls Try.prog 66 #[.string s, .pointer (some ⟨g, 0, none⟩)] (tp w1 T D) fun e w'' => e = .returned (.bool false) ∧ tp w1 T D = w'' := fun s hs T D =>
    (may1_any s s0 g gs os n cap (tp w1 T D) (hc1 T D) (hc2 T D) e1).mono fun e w'' ⟨h1, h2⟩ => ⟨by rw [h1]; unfold neS; have := h.2.2 s hs; simp; omega, h2⟩
  have S1 := side_yes n (by omega)
  have S2 := side_yes s0.size hsz
  (refine opsB_k bodT rfl (by rfl) (by rfl) ?_; intro T D K hK; go_simp; refine hK _ _ ?_; clear hK K; refine opsB.tape T D ?_)
  refine opsB_nil ?_
  simp only [Nx]
  refine wpB_seq ?_
  refine wpB_region ?_
  simp only [List.size_toArray, List.length_cons, List.length_nil, Nat.reduceAdd, Nat.zero_add, List.range, List.range.loop]
  iterate 2 (refine opsB_k bodT rfl (by rfl) (by rfl) ?_; intro T D K hK; go_simp; refine hK _ _ ?_; clear hK K; refine opsB.tape T D ?_)
  refine opsB_callOf (f := 61) (av := #[.int .i64 (n : Nat)]) rfl (by rfl) rfl Try.func61 (by rfl) (by decide +kernel) (by simp [Act.eval]) (callsB_same tameT hE (by decide) ⟨_, Try.func61, rfl⟩ (fun T D => (side_any (n : Nat) _).mono fun e w' ⟨h1, h2⟩ => ⟨by rw [h1, S1], h2⟩)) ?_
  rintro v w' ⟨rfl, rfl⟩
  simp only [Act.put, List.getElem_toArray, List.getElem_cons_zero, List.getElem_cons_succ, List.setIfInBounds_toArray, List.set_cons_zero, List.set_cons_succ]
  iterate 5 (refine opsB_k bodT rfl (by rfl) (by rfl) ?_; intro T D K hK; go_simp; refine hK _ _ ?_; clear hK K; refine opsB.tape T D ?_)
  refine opsB_callOf (f := 61) (av := #[.int .i64 (s0.size : Nat)]) rfl (by rfl) rfl Try.func61 (by rfl) (by decide +kernel) (by simp [Act.eval]) (callsB_same tameT hE (by decide) ⟨_, Try.func61, rfl⟩ (fun T D => (side_any (s0.size : Nat) _).mono fun e w' ⟨h1, h2⟩ => ⟨by rw [h1, S2], h2⟩)) ?_
  rintro v w' ⟨rfl, rfl⟩
  simp only [Act.put, List.getElem_toArray, List.getElem_cons_zero, List.getElem_cons_succ, List.setIfInBounds_toArray, List.set_cons_zero, List.set_cons_succ]
  iterate 4 (refine opsB_k bodT rfl (by rfl) (by rfl) ?_; intro T D K hK; go_simp; refine hK _ _ ?_; clear hK K; refine opsB.tape T D ?_)
  refine opsB_callOf (f := 65) (av := #[.slice (some ⟨gs, os, none⟩) n cap, .func (.func 66) #[] #[.pointer (some ⟨g, 0, none⟩)]]) rfl (by rfl) rfl Try.func65 (by rfl) (by decide +kernel) (by simp [Act.eval]) (cont_B hE (hr.ext hE1) (by omega) hF) ?_
  rintro v w' ⟨rfl, rfl⟩
  simp only [Act.put, List.getElem_toArray, List.getElem_cons_zero, List.getElem_cons_succ, List.setIfInBounds_toArray, List.set_cons_zero, List.set_cons_succ]
  iterate 3 (refine opsB_k bodT rfl (by rfl) (by rfl) ?_; intro T D K hK; go_simp; refine hK _ _ ?_; clear hK K; refine opsB.tape T D ?_)
  refine opsB_nil ?_
  simp only [Nx]
  refine wpB_ret ?_
  exact bodyB_ret rfl (results_tmp1 rfl rfl _) ⟨by simp, hE1.ntw⟩
end Go.Proofs.Ytjdppgogdilgkaa
end
section
namespace Go.Proofs.Ytjdppgogdilgkaa
open Go.RowKit Go.Gf Go.Co Go.Conc
set_option linter.unusedSimpArgs false
set_option linter.unusedVariables false
theorem bodyPost_mono {P : Program} {fn : Func} {R R' : Ending → World → Prop} (h : ∀ e w, R e w → R' e w) {e : Exit} {a : Act} {w : World} (q : bodyPost P fn R e a w) : bodyPost P fn R' e a w := by
  cases e with
  | normal => obtain ⟨h1, v, h2, h3⟩ := q; exact ⟨h1, v, h2, h _ _ h3⟩
  | ret => obtain ⟨h1, v, h2, h3⟩ := q; exact ⟨h1, v, h2, h _ _ h3⟩
  | panic ch => exact ⟨q.1, h _ _ q.2⟩
  | outgrown => exact h _ _ q
  | exit id => exact q.elim
  | goto l => exact q.elim
theorem _root_.Go.Ext.ntt {w w2 w' : World} {T : Tape} {D : Nat} (h : Ext w w2) (k : Ext (tp w2 T D) w') : Ext w (nt w w') := h.trans ⟨k.os, h.tape.symm, k.output, k.size, k.block⟩
def MatB (l : List ByteArray) (w : World) (v : Value) (w' : World) : Prop :=
  ∃ (A : Option Addr) (n cap : Nat), v = .tuple #[.slice A n cap, .int .i64 0] ∧ n = l.length ∧ Rd w' A n (l.map Value.string) ∧ Ext w w'
set_option maxHeartbeats 4000000 in
set_option maxRecDepth 100000 in
theorem mtimes_B {n0 : Nat} (hE : NoEarly Try.prog n0) {A B : Option Addr} {n cap m cap2 : Nat} {a b : List ByteArray} {w : World} (hr : Rd w A n (a.map Value.string)) (hq : Rd w B m (b.map Value.string)) (hn : n ≤ 1048576) (hm : m ≤ 1048576)
    (h1 : mayP a) (h2 : mayP b) (h3 : len0 a = b.length) (hz : ∀ s ∈ a, s.size ≤ 1048576) (hy : ∀ s ∈ b, s.size ≤ 1048576) :
    CallsB n0 Try.prog 32 #[.slice A n cap, .slice B m cap2] w (MatB (timesV a b) w) := by
  have hla : a.length = n := by have := hr.1; simpa using this
  have hlb : b.length = m := by have := hq.1; simpa using this
  have HZ := Lib.hid hz
  have HY := Lib.hid hy
  clear hz hy
  have hn1 : 1 ≤ n := by have := h1.1.1; omega
  have e0 : 0 < n := by omega
  have k0 : (0 : Int) < (n : Int) := by omega
  obtain ⟨gs, os, rfl, hgs, hcell⟩ := hr.at_ (show 0 < n by omega)
  have hl0 := len0_eq (l := a) (by omega)
  simp only [List.getElem_map, Nat.add_zero] at hcell
  generalize a[0]'(by omega) = s0 at *
  have h3 : s0.size = m := by omega
  have b1 : ((s0.size : Int) != (m : Int)) = false := by rw [h3]; simp
  have hv := times_ok h1 h2 (by omega)
  have hrow : ∀ s ∈ a, s.size = m := fun s hs => by rw [h1.2.2 s hs]; omega
  have hcol : ∀ s ∈ b, s.size = len0 b := h2.2.2
  have H1 := Lib.hid hrow
  have H2 := Lib.hid hcol
  have HV := Lib.hid hv
  have HLA := Lib.hid hla
  have HLB := Lib.hid hlb
  clear hv hrow hcol hl0 hla hlb h3
  refine callsB_nt w ?_
  refine callsB_of_wp Try.func32 rfl ?_
  simp only [Try.ntmps32, List.size_toArray, List.length_cons, List.length_nil, Nat.reduceAdd, Nat.reduceSub, Array.replicate_succ, Array.replicate_zero, List.push_toArray, List.append_toArray, List.nil_append, List.cons_append]
  refine wpB_seq ?_
  refine wpB_region ?_
  simp only [List.size_toArray, List.length_cons, List.length_nil, Nat.reduceAdd, Nat.zero_add, List.range, List.range.loop]
  iterate 2 (refine opsB_k bodT rfl (by rfl) (by rfl) ?_; intro T D K hK; go_simp; refine hK _ _ ?_; clear hK K; refine opsB.tape T D ?_)
  refine opsB_nil ?_
  simp only [Nx]
  refine wpB_seq ?_
  refine wpB_block ?_
  refine wpB_seq ?_
  refine wpB_region ?_
  simp only [List.size_toArray, List.length_cons, List.length_nil, Nat.reduceAdd, Nat.zero_add, List.range, List.range.loop]
  (refine opsB_k bodT rfl (by rfl) (by rfl) ?_; intro T D K hK; go_simp; refine hK _ _ ?_; clear hK K; refine opsB.tape T D ?_)
  refine opsB_callOf (f := 48) (av := #[.slice (some ⟨gs, os, none⟩) n cap]) rfl (by rfl) rfl Try.func48 (by rfl) (by decide +kernel) (by simp [Act.eval]) (may_B hE hr h1) ?_
  rintro v w1 ⟨rfl, hO1⟩
  simp only [Act.put, List.getElem_toArray, List.getElem_cons_zero, List.getElem_cons_succ, List.setIfInBounds_toArray, List.set_cons_zero, List.set_cons_succ]
  iterate 3 (refine opsB_k bodT rfl (by rfl) (by rfl) ?_; intro T D K hK; go_simp; refine hK _ _ ?_; clear hK K; refine opsB.tape T D ?_)
  refine opsB_callOf (f := 48) (av := #[.slice B m cap2]) rfl (by rfl) rfl Try.func48 (by rfl) (by decide +kernel) (by simp [Act.eval]) (may_B hE (hq.ext hO1) h2) ?_
  rintro v w2 ⟨rfl, hO2⟩
  simp only [Act.put, List.getElem_toArray, List.getElem_cons_zero, List.getElem_cons_succ, List.setIfInBounds_toArray, List.set_cons_zero, List.set_cons_succ]
  have hO := hO1.trans hO2
  clear hO1 hO2
  replace hcell := hO.cellv hcell
  have hct : ∀ T D, (tp w2 T D).cell? ⟨gs, os, none⟩ = some (.string s0) := fun _ _ => hcell
  iterate 3 (refine opsB_k bodT rfl (by rfl) (by rfl) ?_; intro T D K hK; go_simp; refine hK _ _ ?_; clear hK K; refine opsB.tape T D ?_)
  refine opsB_nil ?_
  simp only [Nx]
  refine wpB_cond (t := false) (by first | rfl | simp [Act.eval, *]) ?_
  simp only [Bool.false_eq_true, if_true, if_false, reduceIte]
  refine wpB_seq ?_
  refine wpB_region ?_
  simp only [List.size_toArray, List.length_cons, List.length_nil, Nat.reduceAdd, Nat.zero_add, List.range, List.range.loop]
  iterate 8 (refine opsB_k bodT rfl (by rfl) (by rfl) ?_; intro T D K hK; go_simp; refine hK _ _ ?_; clear hK K; refine opsB.tape T D ?_)
  refine opsB_nil ?_
  simp only [Nx]
  refine wpB_cond (t := false) (by first | rfl | simp [Act.eval, *]) ?_
  simp only [Bool.false_eq_true, if_true, if_false, reduceIte]
  refine wpB_skip ?_
  simp only [Bl, Nx]
  refine wpB_rest tameT hE (by decide +kernel) rfl (fun T D => ?_)
  have hrb : Rd (tp w2 T D) (some ⟨gs, os, none⟩) n (a.map Value.string) := (hr.ext hO : Rd w2 _ _ _)
  have hqb : Rd (tp w2 T D) B m (b.map Value.string) := (hq.ext hO : Rd w2 _ _ _)
  refine Code.wp_mono (fun e a' w' q => bodyPost_mono (fun e w' h => ?_) q) (Q := bodyPost Try.prog Try.f32 (MatIs (timesV a b) (timesE a b) (tp w2 T D))) ?_
  · obtain ⟨A1, k, c1, h1, h2, h3, h4⟩ := h
    rw [HV.out.2] at h1
    exact ⟨_, h1, A1, k, c1, rfl, h2, h3, hO.ntt h4⟩
  generalize tp w2 T D = w at *
  have hO := Ext.refl w
  clear hct hcell hr hq
  have hr := hrb
  have hq := hqb
  clear hrb hqb
  go_wp2
  go_loopw [4, 29] (fun v i wr => ∃ k : Nat, k ≤ n ∧ i = .int .i64 k ∧ ∃ (A1 : Option Addr) (c1 : Nat), v = .slice A1 k c1 ∧ wr.ownsRow w.heap.size 9 1 (.slice A1 k c1) k ((mkM k (len0 b) (timesF a b)).map Value.string) ∧ Ext w wr) (fun _ i _ => n - (intOf i).toNat)
  case atStart => exact ⟨0, by omega, rfl, none, 0, rfl, World.ownsRow_nil _ _ _ _, hO⟩
  case round =>
    obtain ⟨k, hk, rfl, A1, c1, rfl, hown, hE⟩ := hrel
    clear hO
    by_cases hk2 : k < n
    · obtain ⟨gs', os', hA, _, hck⟩ := hr.at_ hk2
      simp only [Option.some.injEq, Addr.mk.injEq, and_true] at hA
      obtain ⟨rfl, rfl⟩ := hA
      replace hck := hE.cellv hck
      simp only [List.getElem_map] at hck
      have hlk : k < a.length := by rw [HLA.out]; exact hk2
      have hsz := H1.out (a[k]'hlk) (List.getElem_mem _)
      have hgd := getD_at a k hlk
      have hmk := mkM_succ k (len0 b) (timesF a b)
      have htf : strN (len0 b) (timesF a b k) = sumV (a[k]'hlk) b ∧ sumE (a[k]'hlk) b = 0 := by
        have h := sum_yes (a[k]'hlk) b ⟨by rw [hsz, HLB.out], H2.out⟩
        rw [h.1, h.2]
        refine ⟨strN_congr _ _ _ fun j _ => ?_, rfl⟩
        unfold timesF; rw [hgd]
      generalize a[k]'hlk = sk at *
      have hsm : sk.size ≤ 1048576 := by omega
      have HP := Lib.hid hmk
      have HTF := Lib.hid htf
      have HO := Lib.hid hown
      have hwz := hE.sz
      clear hmk hgd htf hown hsz
      have kk : (k : Int) < (n : Int) := by omega
      have kk0 : (0 : Int) ≤ (k : Int) := by omega
      go_wp2_with (first
        | (go_at_call 40; with_reducible refine (sum_any sk B m cap2 b _ (hq.ext hE) hm hsm HY.out).mono ?_; rintro e w3 ⟨rfl, hE3⟩; replace hE := hE.trans hE3; have hwz3 := hE.sz)
        | (at_builtin; refine wpList_app w3 rfl _ _ 50 9 rfl Try.underlying50 (.string { data := #[] }) [.string (sumV sk b)] 1 16 info9 rfl rfl (by decide) (by decide) w.heap.size (.slice A1 k c1) k ((mkM k (len0 b) (timesF a b)).map Value.string) rfl (HO.out.ext hE3) (one_str _) _ rfl rfl (by omega) (by omega) ?_; intro g cap4 w4 hown4 hG4 hg4))
      go_wp2
      go_roundw
      case rel => exact ⟨k + 1, by omega, by go_num, _, cap4, rfl, by rw [HP.out, List.map_append, HTF.out.1]; exact hown4, hG4.ext hE (Nat.le_refl _)⟩
      case measure => simp [intOf]; omega
    · obtain rfl : k = n := by omega
      have HO := Lib.hid hown
      clear hown
      go_wp2
      go_ret2
      exact ⟨A1, k, c1, by rw [HV.out.2]; rfl, by rw [HV.out.1, mkM_len, HLA.out], by rw [HV.out.1, HLA.out]; exact HO.out.rd, hE⟩
end Go.Proofs.Ytjdppgogdilgkaa
end
