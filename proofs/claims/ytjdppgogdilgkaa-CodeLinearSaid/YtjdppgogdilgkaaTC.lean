import Derived.Test.YtjdppgogdilgkaaTA
import Derived.Test.YtjdppgogdilgkaaQD
import Derived.Test.YtjdppgogdilgkaaSB
import Derived.Test.YtjdppgogdilgkaaFC
import Derived.Test.YtjdppgogdilgkaaTB
section
namespace Go
theorem Rd.take_ {w : World} {g o n : Nat} {xs : List Value} (h : Rd w (some ⟨g, o, none⟩) n xs) (m : Nat) (hm : m ≤ n) : Rd w (some ⟨g, o, none⟩) m (xs.take m) :=
  ⟨by rw [List.length_take]; have := h.1; omega, fun hn => by
    obtain ⟨g2, o2, he, hc⟩ := h.2 (by omega)
    refine ⟨g2, o2, he, fun i v hi => hc i v ?_⟩
    have hl : i < (xs.take m).length := by
      rcases Nat.lt_or_ge i (xs.take m).length with h | h
      · exact h
      · rw [List.getElem?_eq_none h] at hi; cases hi
    rw [List.length_take] at hl
    rwa [List.getElem?_take_of_lt (by omega)] at hi⟩
theorem Rd.drop_ {w : World} {g o n : Nat} {xs : List Value} (h : Rd w (some ⟨g, o, none⟩) n xs) (m : Nat) (hm : m ≤ n) {A : Addr} (hA : m < n → A = ⟨g, o + m, none⟩) : Rd w (some A) (n - m) (xs.drop m) :=
  ⟨by rw [List.length_drop]; have := h.1; omega, fun hn => by
    obtain ⟨g2, o2, he, hc⟩ := h.2 (by omega)
    injection he with he
    injection he with h1 h2 _
    subst h1; subst h2
    refine ⟨g, o + m, by rw [hA (by omega)], fun i v hi => ?_⟩
    rw [List.getElem?_drop] at hi
    rw [Nat.add_assoc]
    exact hc _ _ hi⟩
end Go
namespace Go.Proofs.Ytjdppgogdilgkaa
open Go.RowKit Go.Gf Go.Co Go.Conc
set_option linter.unusedSimpArgs false
set_option linter.unusedVariables false
theorem own_some {w : World} {base n cap : Nat} {e : TypeId} {A : Option Addr} {xs : List Value} (h : w.ownsRow base e 1 (.slice A n cap) n xs) (hn : 0 < n) : ∃ g, A = some ⟨g, 0, none⟩ ∧ n ≤ cap := by
  rcases h.2 with ⟨_, h0⟩ | ⟨g, c, cur, hv, hb, hc⟩
  · omega
  · injection hv with h1 h2 h3
    subst h1 h3
    exact ⟨g, rfl, hc.2.1⟩
theorem own_val {w : World} {base n : Nat} {e : TypeId} {v : Value} {xs : List Value} (h : w.ownsRow base e 1 v n xs) : ∃ (A : Option Addr) (cap : Nat), v = .slice A n cap := by
  rcases h.2 with ⟨hv, h0⟩ | ⟨g, c, cur, hv, _⟩
  · exact ⟨none, 0, by rw [hv, h0]⟩
  · exact ⟨_, c, hv⟩
theorem rd_of_blk {w : World} {g r : Nat} {rows l : List ByteArray} (h : Blk w g 9 (tabA r (fun i => .string (sumV (rows.getD i { data := #[] }) l)))) (hl : rows.length = r) : Rd w (some ⟨g, 0, none⟩) r ((rows.map (fun row => sumV row l)).map Value.string) :=
  ⟨by simp [hl], fun _ => ⟨g, 0, rfl, fun i v hv => by
    rw [Nat.zero_add, h.cell]
    have hi : i < rows.length := by
      rcases Nat.lt_or_ge i rows.length with h | h
      · exact h
      · rw [List.getElem?_eq_none (by simpa using h)] at hv; cases hv
    rw [tabA_at _ _ _ (by omega)]
    rw [List.getElem?_map, List.getElem?_map, List.getElem?_eq_getElem hi] at hv
    rw [List.getD_eq_getElem?_getD, List.getElem?_eq_getElem hi]
    exact hv⟩⟩
theorem opsB_apps {n0 : Nat} {F : FuncId → Bool} {P : Program} (hB : Bodied true P F) {ops : Array Oper} {Q : Exit → Act → World → Prop} {a : Act} {w : World} {j : Nat} {rest : List Nat} {o : Oper} (hj : ops[j]? = some o) (hgd : o.guard = none) (s x : Operand) (t e : TypeId) (ho : o.op = .call { callee := .builtin .append, args := #[s, x], argTypes := #[t, t] })
    (ht : P.underlying t = some (.slice e)) (z : Value) (bytes : Nat) (hi : (P.info? e).map (fun i => (i.zero, i.size, i.bytes)) = some (some z, 1, bytes)) (hzc : z.cells.size = 1) (hby : bytes ≤ 1024)
    (base : Nat) (v : Value) (n : Nat) (xs : List Value) (hs : a.eval s = v) (hown : w.ownsRow base e 1 v n xs)
    (A : Addr) (m c : Nat) (us : List Value) (hx : a.eval x = .slice (some A) m c) (hr : Rd w (some A) m us) (hu : ∀ u ∈ us, u.oneCell' = true) (hn : n + m ≤ 1048576) (hbase : base ≤ w.heap.size)
    (h : ∀ v' w', w'.ownsRow base e 1 v' (n + m) (xs ++ us) → w.grownBy w' v.ownBlock → opsB n0 P ops rest Q (a.put o.dst v') w') : opsB n0 P ops (j :: rest) Q a w := by
  refine opsB_k hB hj (by simp [Region.wanted, hgd]) (by rw [ho]; rfl) fun T D K hK => ?_
  obtain ⟨i0, hi0, hz0, hz1, hz2⟩ := info_parts hi
  obtain ⟨v', w', hr', h2, h3, _, _⟩ := run_append_own_at (P := P) (tp w T D) base t o.type e i0 z 1 bytes ht hi0 hz0 hz1 hz2 hzc (by omega) v n xs hown A m c us (by have := hr.1; omega) (fun j u hj => by
    have hl := hr.1
    have hjl : j < us.length := by
      rcases Nat.lt_or_ge j us.length with h | h
      · exact h
      · rw [List.getElem?_eq_none h] at hj; cases hj
    obtain ⟨g, o', he, hc⟩ := hr.2 (by omega)
    injection he with he
    subst he
    have hadd : (⟨g, o', none⟩ : Addr).add j = ⟨g, o' + j, none⟩ := Addr.add_mid ..
    rw [hadd]
    exact hc j u hj) hu (by unfold maxLen; omega) (by have h1 := Nat.mul_le_mul hn hby; omega) hbase
  have e1 : (execOp a.eval o).run P (tp w T D) = .ok (.value v') w' := by
    unfold execOp
    simp only [ho, resolve, invoke, builtin, Sem.run_bind, Sem.run_pure, Result.andThen_ok, List.map_toArray, List.map_cons, List.map_nil, hs, hx, hr']
  rw [e1]
  refine hK _ _ (opsB.re (w := nt w w') w'.tape w'.drawn rfl (h v' (nt w w') h2 ⟨h3.os, rfl, h3.output, h3.size, h3.block⟩))
noncomputable def spreadV (k r : Nat) (s : ByteArray) : List ByteArray := splitV k s ++ (mkM r k (cauchyF k)).map (fun row => sumV row (splitV k s))
def SpreadB (k r : Nat) (s : ByteArray) (w : World) (v : Value) (w' : World) : Prop :=
  ∃ (A : Option Addr) (cap : Nat), v = .tuple #[.slice A (k + r) cap, .int .i64 0] ∧ Rd w' A (k + r) ((spreadV k r s).map Value.string) ∧ Ext w w'
set_option maxHeartbeats 4000000 in
set_option maxRecDepth 100000 in
theorem spread_B {n0 : Nat} (hE : NoEarly Try.prog n0) {k r : Nat} (hk : 1 ≤ k) (h : k + r ≤ 32) {s : ByteArray} (hz : s.size ≤ 1048000) {w : World} :
    CallsB n0 Try.prog 10 #[.int .i64 k, .int .i64 r, .string s] w (SpreadB k r s w) := by
  have HC : canB k r = true := by unfold canB; simp; omega
  refine callsB_of_wp Try.func10 rfl ?_
  simp only [Try.ntmps10, List.size_toArray, List.length_cons, List.length_nil, Nat.reduceAdd, Nat.reduceSub, Array.replicate_succ, Array.replicate_zero, List.push_toArray, List.append_toArray, List.nil_append, List.cons_append]
  refine wpB_seq ?_
  refine wpB_region ?_
  simp only [List.size_toArray, List.length_cons, List.length_nil, Nat.reduceAdd, Nat.zero_add, List.range, List.range.loop]
  iterate 2 (refine opsB_k bodT rfl (by rfl) (by rfl) ?_; intro T D K hK; go_simp; refine hK _ _ ?_; clear hK K; refine opsB.tape T D ?_)
  refine opsB_nil ?_
  simp only [Nx]
  refine wpB_seq ?_
  refine wpB_seq ?_
  refine wpB_region ?_
  simp only [List.size_toArray, List.length_cons, List.length_nil, Nat.reduceAdd, Nat.zero_add, List.range, List.range.loop]
  iterate 2 (refine opsB_k bodT rfl (by rfl) (by rfl) ?_; intro T D K hK; go_simp; refine hK _ _ ?_; clear hK K; refine opsB.tape T D ?_)
  refine opsB_callOf (f := 20) (av := #[.int .i64 k, .int .i64 r]) rfl (by rfl) rfl Try.func20 (by rfl) (by decide +kernel) (by simp [Act.eval]) (callsB_same tameT hE (by decide) ⟨_, Try.func20, rfl⟩ (fun T D => (can_any k r _).mono fun e w' ⟨h1, h2⟩ => ⟨by rw [h1, HC], h2⟩)) ?_
  rintro v w' ⟨rfl, rfl⟩
  simp only [Act.put, List.getElem_toArray, List.getElem_cons_zero, List.getElem_cons_succ, List.setIfInBounds_toArray, List.set_cons_zero, List.set_cons_succ]
  (refine opsB_k bodT rfl (by rfl) (by rfl) ?_; intro T D K hK; go_simp; refine hK _ _ ?_; clear hK K; refine opsB.tape T D ?_)
  refine opsB_nil ?_
  simp only [Nx]
  refine wpB_cond (t := false) (by first | rfl | simp [Act.eval, *]) ?_
  simp only [Bool.false_eq_true, if_true, if_false, reduceIte]
  refine wpB_skip ?_
  simp only [Nx]
  refine wpB_seq ?_
  refine wpB_region ?_
  simp only [List.size_toArray, List.length_cons, List.length_nil, Nat.reduceAdd, Nat.zero_add, List.range, List.range.loop]
  iterate 2 (refine opsB_k bodT rfl (by rfl) (by rfl) ?_; intro T D K hK; go_simp; refine hK _ _ ?_; clear hK K; refine opsB.tape T D ?_)
  refine opsB_callOf (f := 8) (av := #[.int .i64 k, .string s]) rfl (by rfl) rfl Try.func8 (by rfl) (by decide +kernel) (by simp [Act.eval]) (callsB_of tameT hE (by decide) ⟨_, Try.func8, rfl⟩ (R := fun v w'' => ∃ (A : Option Addr) (cap : Nat), v = .tuple #[.slice A k cap, .int .i64 0] ∧ w''.ownsRow w'.heap.size 9 1 (.slice A k cap) k ((splitV k s).map Value.string) ∧ Ext w' w'') (fun T D => (split_any k s ⟨hk, by omega⟩ hz _).mono fun e w' ⟨A, cap, h1, h2, h3⟩ => ⟨_, h1, A, cap, rfl, h2, h3.nt⟩)) ?_
  rintro v w1 ⟨A1, c1, rfl, hown, hE1⟩
  have HOWN := Lib.hid hown
  clear hown
  simp only [Act.put, List.getElem_toArray, List.getElem_cons_zero, List.getElem_cons_succ, List.setIfInBounds_toArray, List.set_cons_zero, List.set_cons_succ]
  iterate 5 (refine opsB_k bodT rfl (by rfl) (by rfl) ?_; intro T D K hK; go_simp; refine hK _ _ ?_; clear hK K; refine opsB.tape T D ?_)
  refine opsB_nil ?_
  simp only [Nx]
  refine wpB_seq ?_
  refine wpB_region ?_
  simp only [List.size_toArray, List.length_cons, List.length_nil, Nat.reduceAdd, Nat.zero_add, List.range, List.range.loop]
  iterate 3 (refine opsB_k bodT rfl (by rfl) (by rfl) ?_; intro T D K hK; go_simp; refine hK _ _ ?_; clear hK K; refine opsB.tape T D ?_)
  refine opsB_callOf (f := 23) (av := #[.int .i64 k, .int .i64 r]) rfl (by rfl) rfl Try.func23 (by rfl) (by decide +kernel) (by simp [Act.eval]) (callsB_of tameT hE (by decide) ⟨_, Try.func23, rfl⟩ (R := fun v w'' => ∃ (g cap : Nat), v = .slice (some ⟨g, 0, none⟩) (k + r) cap ∧ Rd w'' (some ⟨g, 0, none⟩) (k + r) ((everyM k r).map Value.string) ∧ k + r ≤ cap ∧ Ext w1 w'') (fun T D => (every_any k r hk h _).mono fun e w'' ⟨A, cap, h1, h2, h3⟩ => by
    obtain ⟨g, rfl, hc⟩ := own_some h2 (by omega)
    exact ⟨_, h1, g, cap, rfl, rd_owns h2, hc, h3.nt⟩)) ?_
  rintro v w2 ⟨g2, c2, rfl, hr2, hc2, hE2⟩
  simp only [Act.put, List.getElem_toArray, List.getElem_cons_zero, List.getElem_cons_succ, List.setIfInBounds_toArray, List.set_cons_zero, List.set_cons_succ]
  have p1 : (0 : Int) ≤ (k : Int) := by omega
  have p2 : (k : Int) ≤ ((k + r : Nat) : Int) := by omega
  have p3 : ((k + r : Nat) : Int) ≤ (c2 : Int) := by omega
  have p4 : ((k : Int)).toNat = k := by omega
  have p5 : k ≤ k + r := by omega
  have p6 : (k : Int) ≤ (k : Int) + (r : Int) := by omega
  iterate 2 (refine opsB_k bodT rfl (by rfl) (by rfl) ?_; intro T D K hK; go_simp; refine hK _ _ ?_; clear hK K; refine opsB.tape T D ?_)
  have hdr : (everyM k r).drop k = mkM r k (cauchyF k) := by
    unfold everyM
    rw [List.drop_append_of_le_length (by rw [unitM_len]; omega), List.drop_of_length_le (by rw [unitM_len]; omega)]
    rfl
  have hA2 : Rd w2 (if c2 = k then some ⟨g2, 0, none⟩ else some ⟨g2, k, none⟩) r ((mkM r k (cauchyF k)).map Value.string) := by
    by_cases hc : c2 = k
    · have h0 : r = 0 := by omega
      subst h0
      rw [if_pos hc]
      exact ⟨by simp [mkM], fun h => by omega⟩
    · rw [if_neg hc]
      have := hr2.drop_ k (by omega) (A := ⟨g2, k, none⟩) (fun _ => by rw [Nat.zero_add])
      rw [← hdr, List.map_drop]
      rwa [show k + r - k = r by omega] at this
  generalize (if c2 = k then some (⟨g2, 0, none⟩ : Addr) else some ⟨g2, k, none⟩) = A2 at *
  clear hdr hr2
  have hsp : (splitV k s).length = k := mkM_len _ _ _
  have hrd1 : Rd w2 A1 k ((splitV k s).map Value.string) := (rd_owns HOWN.out).ext hE2
  have hsz : ∀ x ∈ splitV k s, x.size ≤ 1048576 := fun x hx => by
    have := mkM_mem _ _ _ x hx
    have := sizeN_le k s.size hk
    omega
  (refine opsB_k bodT rfl (by rfl) (by rfl) ?_; intro T D K hK; go_simp; refine hK _ _ ?_; clear hK K; refine opsB.tape T D ?_)
  refine opsB_callOf (f := 22) (av := #[.slice A2 r (c2 - k), .slice A1 k c1]) rfl (by rfl) rfl Try.func22 (by rfl) (by decide +kernel) (by simp [Act.eval]) (sums_B hA2 hrd1 (by omega) (by omega) hsz) ?_
  rintro v w3 ⟨g3, rfl, hg3, hb3, hE3⟩
  simp only [Act.put, List.getElem_toArray, List.getElem_cons_zero, List.getElem_cons_succ, List.setIfInBounds_toArray, List.set_cons_zero, List.set_cons_succ]
  refine opsB_apps bodT rfl rfl (.tmp 20) (.tmp 27) 23 9 rfl Try.underlying23 (.string { data := #[] }) 16 info9 rfl (by decide) w'.heap.size (.slice A1 k c1) k ((splitV k s).map Value.string) rfl (owns_ext HOWN.out (hE2.trans hE3)) ⟨g3, 0, none⟩ r r (((mkM r k (cauchyF k)).map (fun row => sumV row (splitV k s))).map Value.string) rfl (rd_of_blk hb3 (mkM_len _ _ _)) (fun u hu => by obtain ⟨t, _, rfl⟩ := List.mem_map.1 hu; rfl) (by omega) (hE1.trans (hE2.trans hE3)).sz ?_
  intro v4 w4 hown4 hg4
  have hE4 : Ext w' w4 := (hE1.trans (hE2.trans hE3)).grown hg4 HOWN.out.blockGe
  obtain ⟨A4, c4, rfl⟩ := own_val hown4
  have hrd4 := rd_owns hown4
  simp only [Act.put, List.getElem_toArray, List.getElem_cons_zero, List.getElem_cons_succ, List.setIfInBounds_toArray, List.set_cons_zero, List.set_cons_succ]
  iterate 2 (refine opsB_k bodT rfl (by rfl) (by rfl) ?_; intro T D K hK; go_simp; refine hK _ _ ?_; clear hK K; refine opsB.tape T D ?_)
  refine opsB_nil ?_
  simp only [Nx]
  refine wpB_ret ?_
  exact bodyB_ret rfl (results_tmp2 rfl rfl rfl _) (⟨A4, c4, by simp, by show Rd w4 A4 (k + r) _; rw [show spreadV k r s = splitV k s ++ (mkM r k (cauchyF k)).map (fun row => sumV row (splitV k s)) from rfl, List.map_append]; exact hrd4, hE4⟩)
end Go.Proofs.Ytjdppgogdilgkaa
end
section
namespace Go.Proofs.Ytjdppgogdilgkaa
open Go.RowKit Go.Gf Go.Co Go.Conc
set_option linter.unusedSimpArgs false
set_option linter.unusedVariables false
def fstE (k r : Nat) (l : List Pt) (E : Int) : Prop := (¬ okTo (k + r) l l.length ∧ E = 61) ∨ (okTo (k + r) l l.length ∧ (idxs (k + r) l).length < k ∧ E = 60)
theorem firsts_no {k r : Nat} (hk : 1 ≤ k) (h : k + r ≤ 32) {A : Option Addr} {n cap : Nat} {l : List Pt} {w : World} (hr : PtRd w A n l) (hn : n ≤ 1048576) (hz : ∀ p ∈ l, p.2.size ≤ 1048576) (hi : ∀ p ∈ l, -9223372036854775808 ≤ p.1 ∧ p.1 ≤ 9223372036854775807) {E : Int} (hEr : fstE k r l E) :
    Calls Try.prog 27 #[.int .i64 k, .int .i64 r, .slice A n cap] w fun e w' => e = .returned (.tuple #[.slice none 0 0, .slice none 0 0, .int .i64 E]) ∧ Ext w w' :=
  (firsts_any k r hk h A n cap l w hr hn hz hi).mono fun e w' q => by
    rcases q with ⟨q1, q2, q3⟩ | ⟨q1, q2, q3, q4⟩ | ⟨q1, q2, _⟩
    · rcases hEr with ⟨_, rfl⟩ | ⟨h1, _⟩
      · exact ⟨q2, q3⟩
      · exact absurd h1 q1
    · rcases hEr with ⟨h1, _⟩ | ⟨_, _, rfl⟩
      · exact absurd q1 h1
      · exact ⟨q3, q4⟩
    · rcases hEr with ⟨h1, _⟩ | ⟨_, h1, _⟩
      · exact absurd q1 h1
      · omega
theorem firsts_ok {k r : Nat} (hk : 1 ≤ k) (h : k + r ≤ 32) {A : Option Addr} {n cap : Nat} {l : List Pt} {w : World} (hr : PtRd w A n l) (hn : n ≤ 1048576) (hz : ∀ p ∈ l, p.2.size ≤ 1048576) (hi : ∀ p ∈ l, -9223372036854775808 ≤ p.1 ∧ p.1 ≤ 9223372036854775807) (ho : okTo (k + r) l l.length) (hf : k ≤ (idxs (k + r) l).length) :
    Calls Try.prog 27 #[.int .i64 k, .int .i64 r, .slice A n cap] w fun e w' => ∃ (A B : Option Addr) (c d : Nat), e = .returned (.tuple #[.slice A k c, .slice B k d, .int .i64 0]) ∧
    Rd w' A k ((rowsM k r (partsP k r l)).map Value.string) ∧ Rd w' B k (((partsP k r l).map (·.2)).map Value.string) ∧ Ext w w' :=
  (firsts_any k r hk h A n cap l w hr hn hz hi).mono fun e w' q => by
    rcases q with ⟨q1, q2, q3⟩ | ⟨q1, q2, q3, q4⟩ | ⟨q1, q2, q3⟩
    · exact absurd ho q1
    · omega
    · rw [rowsP, partsP_texts]; exact q3
theorem fst_E {k r : Nat} {l : List Pt} {E : Int} (h : fstE k r l E) : E = 60 ∨ E = 61 := by
  rcases h with ⟨_, h⟩ | ⟨_, _, h⟩
  · exact .inr h
  · exact .inl h
theorem gath_no {k r t : Nat} {l : List Pt} {E : Int} (h : fstE k r l E) : gathE k r t l = E ∧ gathV k r t l = { data := #[] } := by
  rcases h with ⟨h, rfl⟩ | ⟨h1, h2, rfl⟩
  · exact gath_bad h
  · exact gath_few h1 h2
theorem agn_no {k r i : Nat} {l : List Pt} {E : Int} (h : fstE k r l E) : agnE k r l = E ∧ agnV k r i l = { data := #[] } := by
  rcases h with ⟨h, rfl⟩ | ⟨h1, h2, rfl⟩
  · exact agn_bad h
  · exact agn_few h1 h2
theorem mapM_range (M : List ByteArray) (L : List ByteArray) {k : Nat} (h : M.length = k) : M.map (fun row => sumV row L) = (List.range k).map (fun i => sumV (M.getD i { data := #[] }) L) := by
  subst h
  apply List.ext_getElem
  · simp
  · intro i h1 h2
    rw [List.getElem_map, List.getElem_map, List.getElem_range, List.getD_eq_getElem?_getD, List.getElem?_eq_getElem (by simpa using h1)]
    rfl
def AnsB (s : ByteArray) (E : Int) (w : World) (v : Value) (w' : World) : Prop := v = .tuple #[.string s, .int .i64 E] ∧ Ext w w'
set_option maxHeartbeats 8000000 in
set_option maxRecDepth 100000 in
theorem gather_Bno {n0 : Nat} (hE : NoEarly Try.prog n0) {k r t : Nat} (hk : 1 ≤ k) (h : k + r ≤ 32) (ht : t ≤ 9223372036854775807) {A : Option Addr} {n cap : Nat} {l : List Pt} {w : World} (hr : PtRd w A n l) (hn : n ≤ 1048576) (hz : ∀ p ∈ l, p.2.size ≤ 1048576) (hi : ∀ p ∈ l, -9223372036854775808 ≤ p.1 ∧ p.1 ≤ 9223372036854775807) {E : Int} (hEr : fstE k r l E) :
    CallsB n0 Try.prog 16 #[.int .i64 k, .int .i64 r, .int .i64 t, .slice A n cap] w (AnsB (gathV k r t l) (gathE k r t l) w) := by
  have HC := Lib.hid (show canB k r = true by unfold canB; simp; omega)
  have d1 : decide ((t : Int) < 0) = false := by simp
  have HZ := Lib.hid hz
  have HI := Lib.hid hi
  clear hz hi
  have HV := Lib.hid (gath_no (t := t) hEr)
  rcases fst_E hEr with rfl | rfl
  · have HER := Lib.hid hEr
    clear hEr
    refine callsB_of_wp Try.func16 rfl ?_
    simp only [Try.ntmps16, List.size_toArray, List.length_cons, List.length_nil, Nat.reduceAdd, Nat.reduceSub, Array.replicate_succ, Array.replicate_zero, List.push_toArray, List.append_toArray, List.nil_append, List.cons_append]
    refine wpB_seq ?_
    refine wpB_region ?_
    simp only [List.size_toArray, List.length_cons, List.length_nil, Nat.reduceAdd, Nat.zero_add, List.range, List.range.loop]
    iterate 2 (refine opsB_k bodT rfl (by rfl) (by rfl) ?_; intro T D K hK; go_simp; refine hK _ _ ?_; clear hK K; refine opsB.tape T D ?_)
    refine opsB_nil ?_
    simp only [Nx]
    refine wpB_seq ?_
    refine wpB_seq ?_
    refine wpB_region ?_
    simp only [List.size_toArray, List.length_cons, List.length_nil, Nat.reduceAdd, Nat.zero_add, List.range, List.range.loop]
    iterate 2 (refine opsB_k bodT rfl (by rfl) (by rfl) ?_; intro T D K hK; go_simp; refine hK _ _ ?_; clear hK K; refine opsB.tape T D ?_)
    refine opsB_callOf (f := 20) (av := #[.int .i64 k, .int .i64 r]) rfl (by rfl) rfl Try.func20 (by rfl) (by decide +kernel) (by simp [Act.eval]) (callsB_same tameT hE (by decide) ⟨_, Try.func20, rfl⟩ (fun T D => (can_any k r _).mono fun e w' ⟨h1, h2⟩ => ⟨by rw [h1, HC.out], h2⟩)) ?_
    rintro v w' ⟨rfl, rfl⟩
    simp only [Act.put, List.getElem_toArray, List.getElem_cons_zero, List.getElem_cons_succ, List.setIfInBounds_toArray, List.set_cons_zero, List.set_cons_succ]
    iterate 5 (refine opsB_k bodT rfl (by rfl) (by rfl) ?_; intro T D K hK; go_simp; refine hK _ _ ?_; clear hK K; refine opsB.tape T D ?_)
    refine opsB_nil ?_
    simp only [Nx]
    refine wpB_cond (t := false) (by first | rfl | simp [Act.eval, *]) ?_
    simp only [Bool.false_eq_true, if_true, if_false, reduceIte]
    refine wpB_skip ?_
    simp only [Nx]
    refine wpB_seq ?_
    refine wpB_region ?_
    simp only [List.size_toArray, List.length_cons, List.length_nil, Nat.reduceAdd, Nat.zero_add, List.range, List.range.loop]
    iterate 3 (refine opsB_k bodT rfl (by rfl) (by rfl) ?_; intro T D K hK; go_simp; refine hK _ _ ?_; clear hK K; refine opsB.tape T D ?_)
    refine opsB_callOf (f := 27) (av := #[.int .i64 k, .int .i64 r, .slice A n cap]) rfl (by rfl) rfl Try.func27 (by rfl) (by decide +kernel) (by simp [Act.eval]) (callsB_of tameT hE (by decide) ⟨_, Try.func27, rfl⟩ (R := fun v w'' => v = .tuple #[.slice none 0 0, .slice none 0 0, .int .i64 60] ∧ Ext w' w'') (fun T D => (firsts_no hk h (w := tp w' T D) hr hn HZ.out HI.out HER.out).mono fun e w'' ⟨h1, h2⟩ => ⟨_, h1, rfl, h2.nt⟩)) ?_
    rintro v w2 ⟨rfl, hE2⟩
    simp only [Act.put, List.getElem_toArray, List.getElem_cons_zero, List.getElem_cons_succ, List.setIfInBounds_toArray, List.set_cons_zero, List.set_cons_succ]
    iterate 7 (refine opsB_k bodT rfl (by rfl) (by rfl) ?_; intro T D K hK; go_simp; refine hK _ _ ?_; clear hK K; refine opsB.tape T D ?_)
    refine opsB_nil ?_
    simp only [Nx]
    refine wpB_seq ?_
    refine wpB_block ?_
    refine wpB_seq ?_
    refine wpB_region ?_
    simp only [List.size_toArray, List.length_cons, List.length_nil, Nat.reduceAdd, Nat.zero_add, List.range, List.range.loop]
    iterate 3 (refine opsB_k bodT rfl (by rfl) (by rfl) ?_; intro T D K hK; go_simp; refine hK _ _ ?_; clear hK K; refine opsB.tape T D ?_)
    refine opsB_nil ?_
    simp only [Nx]
    refine wpB_cond (t := true) (by first | rfl | simp [Act.eval, *]) ?_
    simp only [Bool.false_eq_true, if_true, if_false, reduceIte]
    refine wpB_seq ?_
    refine wpB_region ?_
    simp only [List.size_toArray, List.length_cons, List.length_nil, Nat.reduceAdd, Nat.zero_add, List.range, List.range.loop]
    iterate 3 (refine opsB_k bodT rfl (by rfl) (by rfl) ?_; intro T D K hK; go_simp; refine hK _ _ ?_; clear hK K; refine opsB.tape T D ?_)
    refine opsB_nil ?_
    simp only [Nx]
    refine wpB_ret ?_
    exact bodyB_ret rfl (results_tmp2 rfl rfl rfl _) (by rw [HV.out.1, HV.out.2]; exact ⟨rfl, hE2⟩)
  · have HER := Lib.hid hEr
    clear hEr
    refine callsB_of_wp Try.func16 rfl ?_
    simp only [Try.ntmps16, List.size_toArray, List.length_cons, List.length_nil, Nat.reduceAdd, Nat.reduceSub, Array.replicate_succ, Array.replicate_zero, List.push_toArray, List.append_toArray, List.nil_append, List.cons_append]
    refine wpB_seq ?_
    refine wpB_region ?_
    simp only [List.size_toArray, List.length_cons, List.length_nil, Nat.reduceAdd, Nat.zero_add, List.range, List.range.loop]
    iterate 2 (refine opsB_k bodT rfl (by rfl) (by rfl) ?_; intro T D K hK; go_simp; refine hK _ _ ?_; clear hK K; refine opsB.tape T D ?_)
    refine opsB_nil ?_
    simp only [Nx]
    refine wpB_seq ?_
    refine wpB_seq ?_
    refine wpB_region ?_
    simp only [List.size_toArray, List.length_cons, List.length_nil, Nat.reduceAdd, Nat.zero_add, List.range, List.range.loop]
    iterate 2 (refine opsB_k bodT rfl (by rfl) (by rfl) ?_; intro T D K hK; go_simp; refine hK _ _ ?_; clear hK K; refine opsB.tape T D ?_)
    refine opsB_callOf (f := 20) (av := #[.int .i64 k, .int .i64 r]) rfl (by rfl) rfl Try.func20 (by rfl) (by decide +kernel) (by simp [Act.eval]) (callsB_same tameT hE (by decide) ⟨_, Try.func20, rfl⟩ (fun T D => (can_any k r _).mono fun e w' ⟨h1, h2⟩ => ⟨by rw [h1, HC.out], h2⟩)) ?_
    rintro v w' ⟨rfl, rfl⟩
    simp only [Act.put, List.getElem_toArray, List.getElem_cons_zero, List.getElem_cons_succ, List.setIfInBounds_toArray, List.set_cons_zero, List.set_cons_succ]
    iterate 5 (refine opsB_k bodT rfl (by rfl) (by rfl) ?_; intro T D K hK; go_simp; refine hK _ _ ?_; clear hK K; refine opsB.tape T D ?_)
    refine opsB_nil ?_
    simp only [Nx]
    refine wpB_cond (t := false) (by first | rfl | simp [Act.eval, *]) ?_
    simp only [Bool.false_eq_true, if_true, if_false, reduceIte]
    refine wpB_skip ?_
    simp only [Nx]
    refine wpB_seq ?_
    refine wpB_region ?_
    simp only [List.size_toArray, List.length_cons, List.length_nil, Nat.reduceAdd, Nat.zero_add, List.range, List.range.loop]
    iterate 3 (refine opsB_k bodT rfl (by rfl) (by rfl) ?_; intro T D K hK; go_simp; refine hK _ _ ?_; clear hK K; refine opsB.tape T D ?_)
    refine opsB_callOf (f := 27) (av := #[.int .i64 k, .int .i64 r, .slice A n cap]) rfl (by rfl) rfl Try.func27 (by rfl) (by decide +kernel) (by simp [Act.eval]) (callsB_of tameT hE (by decide) ⟨_, Try.func27, rfl⟩ (R := fun v w'' => v = .tuple #[.slice none 0 0, .slice none 0 0, .int .i64 61] ∧ Ext w' w'') (fun T D => (firsts_no hk h (w := tp w' T D) hr hn HZ.out HI.out HER.out).mono fun e w'' ⟨h1, h2⟩ => ⟨_, h1, rfl, h2.nt⟩)) ?_
    rintro v w2 ⟨rfl, hE2⟩
    simp only [Act.put, List.getElem_toArray, List.getElem_cons_zero, List.getElem_cons_succ, List.setIfInBounds_toArray, List.set_cons_zero, List.set_cons_succ]
    iterate 7 (refine opsB_k bodT rfl (by rfl) (by rfl) ?_; intro T D K hK; go_simp; refine hK _ _ ?_; clear hK K; refine opsB.tape T D ?_)
    refine opsB_nil ?_
    simp only [Nx]
    refine wpB_seq ?_
    refine wpB_block ?_
    refine wpB_seq ?_
    refine wpB_region ?_
    simp only [List.size_toArray, List.length_cons, List.length_nil, Nat.reduceAdd, Nat.zero_add, List.range, List.range.loop]
    iterate 3 (refine opsB_k bodT rfl (by rfl) (by rfl) ?_; intro T D K hK; go_simp; refine hK _ _ ?_; clear hK K; refine opsB.tape T D ?_)
    refine opsB_nil ?_
    simp only [Nx]
    refine wpB_cond (t := true) (by first | rfl | simp [Act.eval, *]) ?_
    simp only [Bool.false_eq_true, if_true, if_false, reduceIte]
    refine wpB_seq ?_
    refine wpB_region ?_
    simp only [List.size_toArray, List.length_cons, List.length_nil, Nat.reduceAdd, Nat.zero_add, List.range, List.range.loop]
    iterate 3 (refine opsB_k bodT rfl (by rfl) (by rfl) ?_; intro T D K hK; go_simp; refine hK _ _ ?_; clear hK K; refine opsB.tape T D ?_)
    refine opsB_nil ?_
    simp only [Nx]
    refine wpB_ret ?_
    exact bodyB_ret rfl (results_tmp2 rfl rfl rfl _) (by rw [HV.out.1, HV.out.2]; exact ⟨rfl, hE2⟩)
set_option maxHeartbeats 8000000 in
set_option maxRecDepth 100000 in
theorem gather_Bsz {n0 : Nat} (hE : NoEarly Try.prog n0) {k r t : Nat} (hk : 1 ≤ k) (h : k + r ≤ 32) (ht : t ≤ 9223372036854775807) {A : Option Addr} {n cap : Nat} {l : List Pt} {w : World} (hr : PtRd w A n l) (hn : n ≤ 1048576) (hz : ∀ p ∈ l, p.2.size ≤ 1048576) (hi : ∀ p ∈ l, -9223372036854775808 ≤ p.1 ∧ p.1 ≤ 9223372036854775807) (ho : okTo (k + r) l l.length) (hf : k ≤ (idxs (k + r) l).length) (hs : (txtL l ((takenR k r l).getD 0 0)).size ≠ sizeN k t) :
    CallsB n0 Try.prog 16 #[.int .i64 k, .int .i64 r, .int .i64 t, .slice A n cap] w (AnsB (gathV k r t l) (gathE k r t l) w) := by
  have HC := Lib.hid (show canB k r = true by unfold canB; simp; omega)
  have d1 : decide ((t : Int) < 0) = false := by simp
  have HZ := Lib.hid hz
  have HI := Lib.hid hi
  clear hz hi
  have HO := Lib.hid ho
  have HF := Lib.hid hf
  have HTK := Lib.hid (takenR_len k r l hf)
  have hP0 : ∀ (w' : World) (B : Option Addr), Rd w' B k (((partsP k r l).map (·.2)).map Value.string) → ∃ g o, B = some ⟨g, o, none⟩ ∧ w'.cell? ⟨g, o, none⟩ = some (.string (txtL l ((takenR k r l).getD 0 0))) := fun w' B hp => by
    obtain ⟨g, o, rfl, hc⟩ := hp.2 (by omega)
    have h0 : 0 < (takenR k r l).length := by rw [HTK.out]; omega
    refine ⟨g, o, rfl, hc 0 _ ?_⟩
    rw [partsP_texts, List.getElem?_map, List.getElem?_map, List.getElem?_eq_getElem h0, List.getD_eq_getElem?_getD, List.getElem?_eq_getElem h0]
    rfl
  have HP0 := Lib.hid hP0
  have HSI := Lib.hid (sizeI_nat k t ⟨hk, by omega⟩)
  have e0 : 0 < k := by omega
  have e1 : (0 : Int) < (k : Int) := by omega
  have HV := Lib.hid (gath_size (t := t) ho hf hs)
  have d3 : (((txtL l ((takenR k r l).getD 0 0)).size : Int) != (sizeN k t : Int)) = true := bne_iff_ne.2 (fun e => hs (by omega))
  clear ho hf hP0 hs
  generalize txtL l ((takenR k r l).getD 0 0) = t0 at *
  generalize sizeN k t = z at *
  refine callsB_of_wp Try.func16 rfl ?_
  simp only [Try.ntmps16, List.size_toArray, List.length_cons, List.length_nil, Nat.reduceAdd, Nat.reduceSub, Array.replicate_succ, Array.replicate_zero, List.push_toArray, List.append_toArray, List.nil_append, List.cons_append]
  refine wpB_seq ?_
  refine wpB_region ?_
  simp only [List.size_toArray, List.length_cons, List.length_nil, Nat.reduceAdd, Nat.zero_add, List.range, List.range.loop]
  iterate 2 (refine opsB_k bodT rfl (by rfl) (by rfl) ?_; intro T D K hK; go_simp; refine hK _ _ ?_; clear hK K; refine opsB.tape T D ?_)
  refine opsB_nil ?_
  simp only [Nx]
  refine wpB_seq ?_
  refine wpB_seq ?_
  refine wpB_region ?_
  simp only [List.size_toArray, List.length_cons, List.length_nil, Nat.reduceAdd, Nat.zero_add, List.range, List.range.loop]
  iterate 2 (refine opsB_k bodT rfl (by rfl) (by rfl) ?_; intro T D K hK; go_simp; refine hK _ _ ?_; clear hK K; refine opsB.tape T D ?_)
  refine opsB_callOf (f := 20) (av := #[.int .i64 k, .int .i64 r]) rfl (by rfl) rfl Try.func20 (by rfl) (by decide +kernel) (by simp [Act.eval]) (callsB_same tameT hE (by decide) ⟨_, Try.func20, rfl⟩ (fun T D => (can_any k r _).mono fun e w' ⟨h1, h2⟩ => ⟨by rw [h1, HC.out], h2⟩)) ?_
  rintro v w' ⟨rfl, rfl⟩
  simp only [Act.put, List.getElem_toArray, List.getElem_cons_zero, List.getElem_cons_succ, List.setIfInBounds_toArray, List.set_cons_zero, List.set_cons_succ]
  iterate 5 (refine opsB_k bodT rfl (by rfl) (by rfl) ?_; intro T D K hK; go_simp; refine hK _ _ ?_; clear hK K; refine opsB.tape T D ?_)
  refine opsB_nil ?_
  simp only [Nx]
  refine wpB_cond (t := false) (by first | rfl | simp [Act.eval, *]) ?_
  simp only [Bool.false_eq_true, if_true, if_false, reduceIte]
  refine wpB_skip ?_
  simp only [Nx]
  refine wpB_seq ?_
  refine wpB_region ?_
  simp only [List.size_toArray, List.length_cons, List.length_nil, Nat.reduceAdd, Nat.zero_add, List.range, List.range.loop]
  iterate 3 (refine opsB_k bodT rfl (by rfl) (by rfl) ?_; intro T D K hK; go_simp; refine hK _ _ ?_; clear hK K; refine opsB.tape T D ?_)
  refine opsB_callOf (f := 27) (av := #[.int .i64 k, .int .i64 r, .slice A n cap]) rfl (by rfl) rfl Try.func27 (by rfl) (by decide +kernel) (by simp [Act.eval]) (callsB_of tameT hE (by decide) ⟨_, Try.func27, rfl⟩ (R := fun v w'' => ∃ (A B : Option Addr) (c d : Nat), v = .tuple #[.slice A k c, .slice B k d, .int .i64 0] ∧ Rd w'' A k ((rowsM k r (partsP k r l)).map Value.string) ∧ Rd w'' B k (((partsP k r l).map (fun p : Pt => p.2)).map Value.string) ∧ Ext w' w'') (fun T D => (firsts_ok hk h (w := tp w' T D) hr hn HZ.out HI.out HO.out HF.out).mono fun e w'' ⟨A, B, c, d, h1, h2, h3, h4⟩ => ⟨_, h1, A, B, c, d, rfl, h2, h3, h4.nt⟩)) ?_
  rintro v w2 ⟨A1, B1, c1, d1', rfl, hR2, hT2, hE2⟩
  have HR2 := Lib.hid hR2
  have HT2 := Lib.hid hT2
  have hP := HP0.out _ _ hT2
  obtain ⟨g2, o2, rfl, hcell⟩ := hP
  clear hR2 hT2
  simp only [Act.put, List.getElem_toArray, List.getElem_cons_zero, List.getElem_cons_succ, List.setIfInBounds_toArray, List.set_cons_zero, List.set_cons_succ]
  iterate 7 (refine opsB_k bodT rfl (by rfl) (by rfl) ?_; intro T D K hK; go_simp; refine hK _ _ ?_; clear hK K; refine opsB.tape T D ?_)
  refine opsB_nil ?_
  simp only [Nx]
  refine wpB_seq ?_
  refine wpB_block ?_
  refine wpB_seq ?_
  refine wpB_region ?_
  simp only [List.size_toArray, List.length_cons, List.length_nil, Nat.reduceAdd, Nat.zero_add, List.range, List.range.loop]
  iterate 3 (refine opsB_k bodT rfl (by rfl) (by rfl) ?_; intro T D K hK; go_simp; refine hK _ _ ?_; clear hK K; refine opsB.tape T D ?_)
  refine opsB_nil ?_
  simp only [Nx]
  refine wpB_cond (t := false) (by first | rfl | simp [Act.eval, *]) ?_
  simp only [Bool.false_eq_true, if_true, if_false, reduceIte]
  refine wpB_seq ?_
  refine wpB_of tameT hE (by decide +kernel) rfl (fun T D => ?_)
  have hcell0 : (tp w2 T D).cell? ⟨g2, o2, none⟩ = some (.string t0) := hcell
  generalize hw2 : tp w2 T D = w3 at *
  go_region_held3 (fun w' => w'.cell? ⟨g2, o2, none⟩ = some (.string t0))
    (first | exact hcell0 | exact hcell2 | go_keep)
    ((go_at_call 12; refine (size_any k t (by omega) _).mono ?_; rintro e w4 ⟨rfl, hE3⟩; rw [HSI.out]; have hcell2 := hE3.cellv hcell0; have hE23 := ((Ext.refl w3).drew.trans hE3)))
  subst hw2
  have hE4 := hE2.trans hE23.nt
  refine ⟨.inl rfl, ?_⟩
  simp only [Nx]
  refine wpB_cond (t := true) (by first | rfl | simp [Act.eval, *]) ?_
  simp only [Bool.false_eq_true, if_true, if_false, reduceIte]
  refine wpB_seq ?_
  refine wpB_region ?_
  simp only [List.size_toArray, List.length_cons, List.length_nil, Nat.reduceAdd, Nat.zero_add, List.range, List.range.loop]
  iterate 2 (refine opsB_k bodT rfl (by rfl) (by rfl) ?_; intro T D K hK; go_simp; refine hK _ _ ?_; clear hK K; refine opsB.tape T D ?_)
  refine opsB_nil ?_
  simp only [Nx]
  refine wpB_ret ?_
  exact bodyB_ret rfl (results_tmp2 rfl rfl rfl _) (by rw [HV.out.1, HV.out.2]; exact ⟨rfl, hE4⟩)
set_option maxHeartbeats 8000000 in
set_option maxRecDepth 100000 in
theorem gather_Bok {n0 : Nat} (hE : NoEarly Try.prog n0) {k r t : Nat} (hk : 1 ≤ k) (h : k + r ≤ 32) (ht : t ≤ 9223372036854775807) {A : Option Addr} {n cap : Nat} {l : List Pt} {w : World} (hr : PtRd w A n l) (hn : n ≤ 1048576) (hz : ∀ p ∈ l, p.2.size ≤ 1048576) (hi : ∀ p ∈ l, -9223372036854775808 ≤ p.1 ∧ p.1 ≤ 9223372036854775807) (ho : okTo (k + r) l l.length) (hf : k ≤ (idxs (k + r) l).length) (hs : (txtL l ((takenR k r l).getD 0 0)).size = sizeN k t) :
    CallsB n0 Try.prog 16 #[.int .i64 k, .int .i64 r, .int .i64 t, .slice A n cap] w (AnsB (gathV k r t l) (gathE k r t l) w) := by
  have HC := Lib.hid (show canB k r = true by unfold canB; simp; omega)
  have d1 : decide ((t : Int) < 0) = false := by simp
  have HZ := Lib.hid hz
  have HI := Lib.hid hi
  clear hz hi
  have HO := Lib.hid ho
  have HF := Lib.hid hf
  have HTK := Lib.hid (takenR_len k r l hf)
  have hP0 : ∀ (w' : World) (B : Option Addr), Rd w' B k (((partsP k r l).map (·.2)).map Value.string) → ∃ g o, B = some ⟨g, o, none⟩ ∧ w'.cell? ⟨g, o, none⟩ = some (.string (txtL l ((takenR k r l).getD 0 0))) := fun w' B hp => by
    obtain ⟨g, o, rfl, hc⟩ := hp.2 (by omega)
    have h0 : 0 < (takenR k r l).length := by rw [HTK.out]; omega
    refine ⟨g, o, rfl, hc 0 _ ?_⟩
    rw [partsP_texts, List.getElem?_map, List.getElem?_map, List.getElem?_eq_getElem h0, List.getD_eq_getElem?_getD, List.getElem?_eq_getElem h0]
    rfl
  have HP0 := Lib.hid hP0
  have HSI := Lib.hid (sizeI_nat k t ⟨hk, by omega⟩)
  have e0 : 0 < k := by omega
  have e1 : (0 : Int) < (k : Int) := by omega
  have HV := Lib.hid (gath_ok (t := t) ho hf hs)
  have d3 : (((txtL l ((takenR k r l).getD 0 0)).size : Int) != (sizeN k t : Int)) = false := by rw [hs]; simp
  have hSS := solved_size hk h ho hf
  have hzl : zL l = sizeN k t := by
    have h0 : 0 < (takenR k r l).length := by rw [HTK.out]; omega
    have : (takenR k r l).getD 0 0 ∈ takenR k r l := by rw [List.getD_eq_getElem?_getD, List.getElem?_eq_getElem h0]; exact List.getElem_mem h0
    rw [← txt_size ho _ this]; exact hs
  have hzz : sizeN k t ≤ 1048576 := by
    obtain ⟨p, hp⟩ := Option.isSome_iff_exists.1 (takenR_some k r l _ (List.getElem_mem (show 0 < (takenR k r l).length by rw [HTK.out]; omega)))
    rw [← hzl, ← ok_size ho (getM_mem hp).1]; exact HZ.out p (getM_mem hp).1
  have HPZ := Lib.hid (show ∀ s ∈ (partsP k r l).map (·.2), s.size ≤ 1048576 from fun s hs => by
    obtain ⟨p, hp, rfl⟩ := List.mem_map.1 hs
    rw [partsP_size ho p hp, hzl]; exact hzz)
  have HPU := Lib.hid (partsP_undo k r hk h l hf)
  have HRZ := Lib.hid (show ∀ s ∈ rowsM k r (partsP k r l), s.size ≤ 1048576 from fun s hs => by
    have := HPU.out.1.2.2 s hs
    have h2 := HPU.out.2.1
    omega)
  have HSV := Lib.hid (show (undoV (rowsM k r (partsP k r l))).map (fun row => sumV row ((partsP k r l).map (·.2))) = solvedV k r (partsP k r l) from (mapM_range _ _ HPU.out.2.2.2.2))
  obtain ⟨J, hJ⟩ : ∃ J, joinT (solvedV k r (partsP k r l)) = J := ⟨_, rfl⟩
  have hJz : J.size = k * sizeN k t := by
    rw [← hJ, joinT_size _ (sizeN k t) (fun s hs => by rw [hSS.2 s hs, hzl]), hSS.1]
  have hmul := sizeN_mul k t hk
  have hJb : J.size ≤ 32 * 1048576 := by rw [hJz]; exact Nat.mul_le_mul (by omega) hzz
  have HJS := Lib.hid (show (joinT (solvedV k r (partsP k r l))).size ≤ 140737488355328 by rw [hJ]; omega)
  have HJ := Lib.hid hJ
  rw [hJ] at HV
  have ht2 : t ≤ 33554432 := by omega
  have p1 : (t : Int) ≤ (J.size : Int) := by rw [hJz]; omega
  have p2 : (0 : Int) ≤ (t : Int) := by omega
  have p3 : ((t : Int)).toNat = t := by omega
  clear ho hf hP0 hs hSS hzl hJ hJz hmul
  generalize txtL l ((takenR k r l).getD 0 0) = t0 at *
  generalize sizeN k t = z at *
  refine callsB_of_wp Try.func16 rfl ?_
  simp only [Try.ntmps16, List.size_toArray, List.length_cons, List.length_nil, Nat.reduceAdd, Nat.reduceSub, Array.replicate_succ, Array.replicate_zero, List.push_toArray, List.append_toArray, List.nil_append, List.cons_append]
  refine wpB_seq ?_
  refine wpB_region ?_
  simp only [List.size_toArray, List.length_cons, List.length_nil, Nat.reduceAdd, Nat.zero_add, List.range, List.range.loop]
  iterate 2 (refine opsB_k bodT rfl (by rfl) (by rfl) ?_; intro T D K hK; go_simp; refine hK _ _ ?_; clear hK K; refine opsB.tape T D ?_)
  refine opsB_nil ?_
  simp only [Nx]
  refine wpB_seq ?_
  refine wpB_seq ?_
  refine wpB_region ?_
  simp only [List.size_toArray, List.length_cons, List.length_nil, Nat.reduceAdd, Nat.zero_add, List.range, List.range.loop]
  iterate 2 (refine opsB_k bodT rfl (by rfl) (by rfl) ?_; intro T D K hK; go_simp; refine hK _ _ ?_; clear hK K; refine opsB.tape T D ?_)
  refine opsB_callOf (f := 20) (av := #[.int .i64 k, .int .i64 r]) rfl (by rfl) rfl Try.func20 (by rfl) (by decide +kernel) (by simp [Act.eval]) (callsB_same tameT hE (by decide) ⟨_, Try.func20, rfl⟩ (fun T D => (can_any k r _).mono fun e w' ⟨h1, h2⟩ => ⟨by rw [h1, HC.out], h2⟩)) ?_
  rintro v w' ⟨rfl, rfl⟩
  simp only [Act.put, List.getElem_toArray, List.getElem_cons_zero, List.getElem_cons_succ, List.setIfInBounds_toArray, List.set_cons_zero, List.set_cons_succ]
  iterate 5 (refine opsB_k bodT rfl (by rfl) (by rfl) ?_; intro T D K hK; go_simp; refine hK _ _ ?_; clear hK K; refine opsB.tape T D ?_)
  refine opsB_nil ?_
  simp only [Nx]
  refine wpB_cond (t := false) (by first | rfl | simp [Act.eval, *]) ?_
  simp only [Bool.false_eq_true, if_true, if_false, reduceIte]
  refine wpB_skip ?_
  simp only [Nx]
  refine wpB_seq ?_
  refine wpB_region ?_
  simp only [List.size_toArray, List.length_cons, List.length_nil, Nat.reduceAdd, Nat.zero_add, List.range, List.range.loop]
  iterate 3 (refine opsB_k bodT rfl (by rfl) (by rfl) ?_; intro T D K hK; go_simp; refine hK _ _ ?_; clear hK K; refine opsB.tape T D ?_)
  refine opsB_callOf (f := 27) (av := #[.int .i64 k, .int .i64 r, .slice A n cap]) rfl (by rfl) rfl Try.func27 (by rfl) (by decide +kernel) (by simp [Act.eval]) (callsB_of tameT hE (by decide) ⟨_, Try.func27, rfl⟩ (R := fun v w'' => ∃ (A B : Option Addr) (c d : Nat), v = .tuple #[.slice A k c, .slice B k d, .int .i64 0] ∧ Rd w'' A k ((rowsM k r (partsP k r l)).map Value.string) ∧ Rd w'' B k (((partsP k r l).map (fun p : Pt => p.2)).map Value.string) ∧ Ext w' w'') (fun T D => (firsts_ok hk h (w := tp w' T D) hr hn HZ.out HI.out HO.out HF.out).mono fun e w'' ⟨A, B, c, d, h1, h2, h3, h4⟩ => ⟨_, h1, A, B, c, d, rfl, h2, h3, h4.nt⟩)) ?_
  rintro v w2 ⟨A1, B1, c1, d1', rfl, hR2, hT2, hE2⟩
  have HR2 := Lib.hid hR2
  have HT2 := Lib.hid hT2
  have hP := HP0.out _ _ hT2
  obtain ⟨g2, o2, rfl, hcell⟩ := hP
  clear hR2 hT2
  simp only [Act.put, List.getElem_toArray, List.getElem_cons_zero, List.getElem_cons_succ, List.setIfInBounds_toArray, List.set_cons_zero, List.set_cons_succ]
  iterate 7 (refine opsB_k bodT rfl (by rfl) (by rfl) ?_; intro T D K hK; go_simp; refine hK _ _ ?_; clear hK K; refine opsB.tape T D ?_)
  refine opsB_nil ?_
  simp only [Nx]
  refine wpB_seq ?_
  refine wpB_block ?_
  refine wpB_seq ?_
  refine wpB_region ?_
  simp only [List.size_toArray, List.length_cons, List.length_nil, Nat.reduceAdd, Nat.zero_add, List.range, List.range.loop]
  iterate 3 (refine opsB_k bodT rfl (by rfl) (by rfl) ?_; intro T D K hK; go_simp; refine hK _ _ ?_; clear hK K; refine opsB.tape T D ?_)
  refine opsB_nil ?_
  simp only [Nx]
  refine wpB_cond (t := false) (by first | rfl | simp [Act.eval, *]) ?_
  simp only [Bool.false_eq_true, if_true, if_false, reduceIte]
  refine wpB_seq ?_
  refine wpB_of tameT hE (by decide +kernel) rfl (fun T D => ?_)
  have hcell0 : (tp w2 T D).cell? ⟨g2, o2, none⟩ = some (.string t0) := hcell
  generalize hw2 : tp w2 T D = w3 at *
  go_region_held3 (fun w' => w'.cell? ⟨g2, o2, none⟩ = some (.string t0))
    (first | exact hcell0 | exact hcell2 | go_keep)
    ((go_at_call 12; refine (size_any k t (by omega) _).mono ?_; rintro e w4 ⟨rfl, hE3⟩; rw [HSI.out]; have hcell2 := hE3.cellv hcell0; have hE23 := ((Ext.refl w3).drew.trans hE3)))
  subst hw2
  have hE4 := hE2.trans hE23.nt
  refine ⟨.inl rfl, ?_⟩
  simp only [Nx]
  refine wpB_cond (t := false) (by first | rfl | simp [Act.eval, *]) ?_
  simp only [Bool.false_eq_true, if_true, if_false, reduceIte]
  refine wpB_skip ?_
  simp only [Nx, Bl]
  refine wpB_seq ?_
  refine wpB_region ?_
  simp only [List.size_toArray, List.length_cons, List.length_nil, Nat.reduceAdd, Nat.zero_add, List.range, List.range.loop]
  (refine opsB_k bodT rfl (by rfl) (by rfl) ?_; intro T D K hK; go_simp; refine hK _ _ ?_; clear hK K; refine opsB.tape T D ?_)
  refine opsB_callOf (f := 28) (av := #[.slice A1 k c1]) rfl (by rfl) rfl Try.func28 (by rfl) (by decide +kernel) (by simp [Act.eval]) (undo_B hE (HR2.out.ext hE23.nt) (by omega) HRZ.out HPU.out.1 (by rw [HPU.out.2.2.1, HPU.out.2.1]) HPU.out.2.2.2.1) ?_
  rintro v w5 ⟨A5, n5, c5, rfl, hn5, hR5, hE5⟩
  obtain rfl : n5 = k := by rw [hn5]; exact HPU.out.2.2.2.2
  clear hn5
  simp only [Act.put, List.getElem_toArray, List.getElem_cons_zero, List.getElem_cons_succ, List.setIfInBounds_toArray, List.set_cons_zero, List.set_cons_succ]
  iterate 5 (refine opsB_k bodT rfl (by rfl) (by rfl) ?_; intro T D K hK; go_simp; refine hK _ _ ?_; clear hK K; refine opsB.tape T D ?_)
  refine opsB_nil ?_
  simp only [Nx]
  refine wpB_seq ?_
  refine wpB_region ?_
  simp only [List.size_toArray, List.length_cons, List.length_nil, Nat.reduceAdd, Nat.zero_add, List.range, List.range.loop]
  iterate 2 (refine opsB_k bodT rfl (by rfl) (by rfl) ?_; intro T D K hK; go_simp; refine hK _ _ ?_; clear hK K; refine opsB.tape T D ?_)
  have HR5 := Lib.hid hR5
  clear hR5
  refine opsB_callOf (f := 22) (av := #[.slice A5 n5 c5, .slice (some ⟨g2, o2, none⟩) n5 d1']) rfl (by rfl) rfl Try.func22 (by rfl) (by decide +kernel) (by simp [Act.eval]) (sums_B HR5.out (HT2.out.ext (hE23.nt.trans hE5)) (by omega) (by omega) HPZ.out) ?_
  rintro v w6 ⟨g6, rfl, hg6, hb6, hE6⟩
  have hR6 := rd_of_blk hb6 HPU.out.2.2.2.2
  rw [HSV.out] at hR6
  clear hb6
  have HR6 := Lib.hid hR6
  clear hR6
  simp only [Act.put, List.getElem_toArray, List.getElem_cons_zero, List.getElem_cons_succ, List.setIfInBounds_toArray, List.set_cons_zero, List.set_cons_succ]
  refine opsB_callOf (f := 29) (av := #[.slice (some ⟨g6, 0, none⟩) n5 n5, .string { data := #[] }]) rfl (by rfl) rfl Try.func29 (by rfl) (by decide +kernel) (by simp [Act.eval]) (callsB_of tameT hE (by decide) ⟨_, Try.func29, rfl⟩ (R := fun v w'' => v = .string J ∧ Ext w6 w'') (fun T D => (join_any (some ⟨g6, 0, none⟩) n5 n5 _ (tp w6 T D) HR6.out (by omega) (by omega) HJS.out).mono fun e w'' ⟨h1, h2⟩ => ⟨_, h1, by rw [HJ.out], h2.nt⟩)) ?_
  rintro v w7 ⟨rfl, hE7⟩
  simp only [Act.put, List.getElem_toArray, List.getElem_cons_zero, List.getElem_cons_succ, List.setIfInBounds_toArray, List.set_cons_zero, List.set_cons_succ]
  iterate 4 (refine opsB_k bodT rfl (by rfl) (by rfl) ?_; intro T D K hK; go_simp; refine hK _ _ ?_; clear hK K; refine opsB.tape T D ?_)
  refine opsB_nil ?_
  simp only [Nx]
  refine wpB_ret ?_
  exact bodyB_ret rfl (results_tmp2 rfl rfl rfl _) (by rw [HV.out.1, HV.out.2]; exact ⟨rfl, hE4.trans (hE5.trans (hE6.trans hE7))⟩)
theorem gather_B {n0 : Nat} (hE : NoEarly Try.prog n0) {k r t : Nat} (hk : 1 ≤ k) (h : k + r ≤ 32) (ht : t ≤ 9223372036854775807) {A : Option Addr} {n cap : Nat} {l : List Pt} {w : World} (hr : PtRd w A n l) (hn : n ≤ 1048576) (hz : ∀ p ∈ l, p.2.size ≤ 1048576) (hi : ∀ p ∈ l, -9223372036854775808 ≤ p.1 ∧ p.1 ≤ 9223372036854775807) :
    CallsB n0 Try.prog 16 #[.int .i64 k, .int .i64 r, .int .i64 t, .slice A n cap] w (AnsB (gathV k r t l) (gathE k r t l) w) := by
  by_cases ho : okTo (k + r) l l.length
  · by_cases hf : (idxs (k + r) l).length < k
    · exact gather_Bno hE hk h ht hr hn hz hi (E := 60) (.inr ⟨ho, hf, rfl⟩)
    · by_cases hs : (txtL l ((takenR k r l).getD 0 0)).size = sizeN k t
      · exact gather_Bok hE hk h ht hr hn hz hi ho (by omega) hs
      · exact gather_Bsz hE hk h ht hr hn hz hi ho (by omega) hs
  · exact gather_Bno hE hk h ht hr hn hz hi (E := 61) (.inl ⟨ho, rfl⟩)
end Go.Proofs.Ytjdppgogdilgkaa
end
