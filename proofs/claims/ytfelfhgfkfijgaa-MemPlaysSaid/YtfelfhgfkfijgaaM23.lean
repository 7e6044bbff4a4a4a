import Derived.Test.YtfelfhgfkfijgaaM21
namespace Go.Proofs.Ytfelfhgfkfijgaa
open Go.RowKit Go.Nb
theorem run_app0 (w : World) (A B : Option Addr) (n c k : Nat) (hnc : n ≤ c) (ty : TypeId) : (Builtin.append_ #[22, 22] ty #[.slice A n c, .slice B 0 k]).run Try.prog w = .ok (.slice A n c) w := by
  obtain ⟨i0, hi0, _, _, _⟩ := info_parts infoPr
  rcases A with _ | a <;> rcases B with _ | b
  all_goals simp [Builtin.append_, run_underlying Try.underlying22, sizeOf, typeInfo, hi0, Builtin.lenOf, Builtin.firstCells, loadCells, loadCellsFrom, storeCells, hnc]
theorem addr0 (g o : Nat) : (⟨g, o, none⟩ : Addr).add 0 = ⟨g, o, none⟩ := by simp [Addr.add_mid]
theorem slice_pre (A : Option Addr) (n c k : Nat) (hk : k ≤ c) : ∃ A', (∀ w, (Instr.slice 22 (.slice A n c) none (some (.int .i64 (k : Int))) none).run Try.prog w = .ok (.slice A' k c) w) ∧ ∀ w l, PRd w A n l → k ≤ n → PRd w A' k (l.take k) := by
  refine ⟨if c = 0 then A else A.map (·.add 0), fun w => ?_, fun w l h hkn => ⟨by rw [List.length_take, h.1]; omega, fun h0 => ?_⟩⟩
  · simp [Instr.slice, run_underlying Try.underlying22, Instr.sliceBounds, Instr.sliceBound, asIntOf, hk]
  · obtain ⟨g, o, rfl, hc⟩ := h.2 (by omega)
    refine ⟨g, o, ?_, fun i j hi hj => ?_⟩
    · split
      · rfl
      · simp [addr0]
    · have := hc i j (by omega) hj
      rw [this]
      simp only [prF, List.getD_eq_getElem?_getD, List.getElem?_take, if_pos hi]
theorem slice_suf (A : Option Addr) (n c k : Nat) (hk : k ≤ n) (hnc : n ≤ c) : ∃ A', (∀ w, (Instr.slice 22 (.slice A n c) (some (.int .i64 (k : Int))) none none).run Try.prog w = .ok (.slice A' (n - k) (c - k)) w) ∧ ∀ w' l, PRd w' A n l → PRd w' A' (n - k) (l.drop k) := by
  refine ⟨if c = k then A else A.map (·.add (k * 2)), fun w => ?_, fun w' l h => ⟨by rw [List.length_drop, h.1], fun h0 => ?_⟩⟩
  · simp [Instr.slice, run_underlying Try.underlying22, Instr.sliceBounds, Instr.sliceBound, asIntOf, hk]
  · obtain ⟨g, o, rfl, hc⟩ := h.2 (by omega)
    refine ⟨g, o + k * 2, ?_, fun i j hi hj => ?_⟩
    · rw [if_neg (by omega)]; simp [Addr.add_mid]
    · have := hc (k + i) j (by omega) hj
      rw [show o + (k + i) * 2 + j = o + k * 2 + i * 2 + j by omega] at this
      rw [this]
      simp only [prF, List.getD_eq_getElem?_getD, List.getElem?_drop]
theorem slice_at {t e : TypeId} (hu : Try.prog.underlying t = some (.slice e)) (x : Value) (a b c : Option Value) (w : World) : (Instr.sliceAt t x a b c).run Try.prog w = (Instr.slice t x a b c).run Try.prog w := by
  simp [Instr.sliceAt, run_underlying hu]
theorem prCs_app (a b : List Pr) (n m : Nat) (ha : a.length = n) (hb : b.length = m) : prCs (a ++ b) (n + m) = prCs a n ++ prCs b m := by
  subst ha; subst hb
  rw [← List.length_append, prCs_flat, prCs_flat, prCs_flat, List.flatMap_append]
section
variable {rest : List Oper} {ops : Array Oper} {o : Oper} {a : Act} {Q : Exit → Act → World → Prop}
/-- 'append(s, x...)' of none or more pairs. -/
theorem wpList_appP {w : World} (hgd : o.guard = none) (s x : Operand) (ho : o.op = .call { callee := .builtin .append, args := #[s, x], argTypes := #[22, 22] })
    (base : Nat) (A : Option Addr) (n c : Nat) (l : List Pr) (hs : a.eval s = .slice A n c) (hl : l.length = n) (hown : w.ownsRow base 30 2 (.slice A n c) n (prCs l n))
    (B : Option Addr) (m d : Nat) (q : List Pr) (hx : a.eval x = .slice B m d) (hq : PRd w B m q) (hn : n + m ≤ 1048576) (hb : base ≤ w.heap.size)
    (h : ∀ A' c' w', w'.ownsRow base 30 2 (.slice A' (n + m) c') (n + m) (prCs (l ++ q) (n + m)) → w.grownBy w' (Value.slice A n c).ownBlock → wpList Try.prog ops Q rest (a.put o.dst (.slice A' (n + m) c')) w') : wpList Try.prog ops Q (o :: rest) a w := by
  have hpc := prCs_app l q n m hl hq.1
  by_cases h0 : m = 0
  · subst h0
    have hq0 : q = [] := List.eq_nil_of_length_eq_zero hq.1
    subst hq0
    refine wpList_plain hgd fun _ hK => ?_
    have hrun := run_app0 w A B n c d (World.ownsRow.cap_ hown) o.type
    unfold Oper.wp execOp
    simp only [ho, resolve, invoke, builtin, Sem.run_bind, Sem.run_pure, Result.andThen_ok, List.map_toArray, List.map_cons, List.map_nil, hs, hx, hrun]
    refine hK _ _ (h A c w ?_ ⟨rfl, rfl, rfl, Nat.le_refl _, fun _ _ _ => rfl⟩)
    rw [List.append_nil]; exact hown
  · obtain ⟨ga, oa, rfl, hcell⟩ := hq.2.at_ (by omega) (by omega)
    obtain ⟨i0, hi0, hz0, hz1, hz2⟩ := info_parts infoPr
    refine Go.wpList_append_lies w hgd s x 22 ho base 30 i0 _ 2 32 Try.underlying22 hi0 hz0 hz1 hz2 rfl (by decide) _ n _ hs hown ⟨ga, oa, none⟩ m d (prCs q m) hx (prCs_len q m) (fun j u hj => ?_) (prCs_one q m) (by omega) (by unfold maxLen; omega) (by omega) hb _ rfl ?_
    · have hj2 : j < m * 2 := by
        rcases Nat.lt_or_ge j (m * 2) with h1 | h1
        · exact h1
        · rw [List.getElem?_eq_none (by rw [prCs_len]; exact h1)] at hj; cases hj
      rw [prCs_at q m j hj2] at hj
      cases hj
      have := hcell (j / 2) (j % 2) (by omega) (by omega)
      rw [Addr.add_mid]
      rw [show oa + j / 2 * 2 + j % 2 = oa + j by omega] at this
      exact this
    · intro gr cap w5 hown5 hg5 _ _
      rw [← hpc] at hown5
      exact h _ _ _ hown5 hg5
end
theorem ownsRow_news {W w w' : World} {A : Option Addr} {n c : Nat} {xs : List Value} (ho : w.ownsRow W.heap.size 30 2 (.slice A n c) n xs) (hE : Ext W w) (hg : w.grownBy w' (Value.slice A n c).ownBlock) : Ext W w' :=
  hE.grown hg (fun k hk => ho.blockGe k hk)
theorem seekL_drop (key : Bs) (l : List Pr) : seekL key l ≤ l.length := seekL_le key l
/-- 'With', as a list. -/
theorem with_eq {l : List Pr} {p : Pr} {s : Nat} (hs : s = seekL p.k l) :
    (s < l.length → (l.getD s default).k = p.k → l.take s ++ [p] ++ l.drop (s + 1) = putL l p) ∧ (¬ (s < l.length ∧ (l.getD s default).k = p.k) → l.take s ++ [p] ++ l.drop s = putL l p) := by
  subst hs
  refine ⟨fun h1 h2 => ?_, fun h1 => ?_⟩
  · unfold putL
    rw [if_pos ⟨h1, h2⟩, List.set_eq_take_append_cons_drop, if_pos h1]; simp
  · unfold putL
    rw [if_neg h1]; simp

set_option maxHeartbeats 1000000 in
set_option maxRecDepth 100000 in
theorem with_ref {w : World} {A : Option Addr} {n c : Nat} {l : List Pr} (h : PRd w A n l) (hnc : n ≤ c) (hn : n ≤ 100000) (p : Pr) : Calls Try.prog 26 #[.slice A n c, .agg #[.string (Bt p.k), .string (Bt p.v)]] w fun e w' => ∃ A' c', e = .returned (.slice A' (putL l p).length c') ∧ w'.ownsRow w.heap.size 30 2 (.slice A' (putL l p).length c') (putL l p).length (prCs (putL l p) (putL l p).length) ∧ Ext w w' := by
  have HL := Lib.hid h.1
  have HNC := Lib.hid hnc
  have hT := toList_Bt
  have HPB := Lib.hid (PBox.new w (Bt p.k) (Bt p.v))
  have HE0 := Lib.hid ((Ext.refl w).alloc (.cells #[.string (Bt p.k), .string (Bt p.v)] 30))
  go_enter Try.func26, Try.ntmps26
  go_wp2
  obtain ⟨w1, hw1⟩ : ∃ w1, w1 = w.alloc (.cells #[.string (Bt p.k), .string (Bt p.v)] 30) := ⟨_, rfl⟩
  rw [← hw1] at HPB HE0 ⊢
  clear hw1
  go_loopw [5] (fun iv wr => ∃ k : Nat, k ≤ n ∧ iv = .int .i64 k ∧ Hid (seekL p.k l = k + seekL p.k (l.drop k)) ∧ Ext w1 wr) (fun iv _ => n - (intOf iv).toNat)
  case atStart => exact ⟨0, by omega, rfl, Lib.hid (by simp), Ext.refl _⟩
  case round =>
    obtain ⟨k, hk, rfl, hs, hE⟩ := hrel
    have b0 := (HPB.out.ext hE).c0
    by_cases hk2 : k < n
    · have kk : (k : Int) < (n : Int) := by omega
      have tk : decide ((k : Int) < (n : Int)) = true := by simp; omega
      have kk0 : (0 : Int) ≤ (k : Int) := by omega
      obtain ⟨g, o, hA, c0, c1⟩ := (h.ext (HE0.out.trans hE)).at_ k hk2
      have hd : l.drop k = l.getD k default :: l.drop (k + 1) := drop_cons (by rw [HL.out]; exact hk2)
      obtain ⟨q, hq⟩ : ∃ q, q = l.getD k default := ⟨_, rfl⟩
      rw [← hq] at c0 c1 hd
      obtain ⟨x, hx⟩ : ∃ x, x = q.k := ⟨_, rfl⟩
      rw [← hx] at c0
      cases hlt : Op.bytesLess x p.k
      · have hs2 : seekL p.k l = k := by rw [hs.out, hd, seekL, ← hx, hlt, if_neg (by simp)]; rfl
        have HS2 := Lib.hid hs2
        obtain ⟨g', o', hA', c0w', _⟩ := (h.ext HE0.out).at_ k hk2
        have hAA : some (⟨g', o', none⟩ : Addr) = some ⟨g, o, none⟩ := hA'.symm.trans hA
        injection hAA with hAA
        injection hAA with hg' ho'
        subst hg'
        subst ho'
        have c0w : w1.cell? ⟨g', o' + k * 2, none⟩ = some (.string (Bt x)) := by rw [hx, hq]; exact c0w'
        subst hA
        by_cases hxk : x = p.k
        · have HQK : Hid ((l.getD k default).k = p.k) := Lib.hid (by rw [← hq, ← hx]; exact hxk)
          have tx : (x == p.k) = true := by simp [hxk]
          clear hs2 hd hq hx c0w' hA' hxk
          obtain ⟨A1, hSA, hPA⟩ := slice_pre (some ⟨g', o', none⟩) n c k (by have := HNC.out; omega)
          have hSA2 := fun w => (slice_at Try.underlying22 _ _ _ _ w).trans (hSA w)
          obtain ⟨A4, hSB, hPB⟩ := slice_suf (some ⟨g', o', none⟩) n c (k + 1) (by omega) HNC.out
          replace hSB : ∀ w, (Instr.slice 22 (.slice (some ⟨g', o', none⟩) n c) (some (.int .i64 ((k : Int) + 1))) none none).run Try.prog w = .ok (.slice A4 (n - (k + 1)) (c - (k + 1))) w := hSB
          have hSB2 := fun w => (slice_at Try.underlying22 _ _ _ _ w).trans (hSB w)
          have HPA := Lib.hid hPA
          have HPB4 := Lib.hid hPB
          clear hPA hPB
          go_wp2
          go_quiet (fail)
          have HEN := Lib.hid (hE.drewN nq)
          go_wp2_with (first
            | (at_builtin; refine wpList_appP rfl _ _ rfl w1.heap.size none 0 0 [] rfl rfl (World.ownsRow_nil _ _ _ _) A1 k c (l.take k) rfl (HPA.out _ _ (h.ext (HE0.out.trans HEN.out)) hk) (by omega) HEN.out.sz ?_; intro A2 c2 w2 hO2 hG2; rw [Nat.zero_add, List.nil_append] at hO2; have hE2 := Lib.hid (ownsRow_news (World.ownsRow_nil (wr.drewN nq) w1.heap.size 30 2) HEN.out hG2); have HO2 := Lib.hid hO2; have d0 := (HPB.out.ext hE2.out).c0; have d1 := (HPB.out.ext hE2.out).c1; clear hO2 hG2)
            | (at_builtin; refine wpList_app w2 rfl _ _ 22 30 rfl Try.underlying22 _ [.string (Bt p.k), .string (Bt p.v)] 2 32 infoPr rfl rfl (by decide) (by decide) w1.heap.size (.slice A2 k c2) k _ rfl HO2.out (two_str _ _) _ rfl rfl (by omega) hE2.out.sz ?_; intro g3 c3 w3 hO3 hG3 hg3))
          have hlk : (l.take k).length = k := by rw [List.length_take, HL.out]; omega
          have HO3 := Lib.hid (show w3.ownsRow w1.heap.size 30 2 (.slice (some ⟨g3, 0, none⟩) (k + 1) c3) (k + 1) (prCs (l.take k ++ [p]) (k + 1)) by
            have := prCs_snoc (l.take k) p
            rw [hlk] at this
            rw [this]; exact hO3)
          have HE3 := Lib.hid (hG3.ext hE2.out (Nat.le_refl _))
          have HLK := Lib.hid (show (l.take k ++ [p]).length = k + 1 by rw [List.length_append, hlk]; rfl)
          have e0 := (HPB.out.ext HE3.out).c0
          have f0 := HE3.out.cellv c0w
          clear hO3 hG3 hg3 hlk d0 d1 hSA hSA2
          go_quiet (fail)
          have HE4 := Lib.hid (HE3.out.drewN nq)
          go_wp2_with (at_builtin; go_loud (refine wpList_appP rfl _ _ rfl w1.heap.size (some ⟨g3, 0, none⟩) (k + 1) c3 (l.take k ++ [p]) rfl HLK.out (World.ownsRow.ext HO3.out ((Ext.refl w3).drewN nq)) A4 (n - (k + 1)) (c - (k + 1)) (l.drop (k + 1)) rfl (HPB4.out _ _ (h.ext (HE0.out.trans HE4.out))) (by omega) HE4.out.sz ?_); intro A5 c5 w5 hO5 hG5)
          go_ret
          have hE5 := HE0.out.trans (ownsRow_news (World.ownsRow.ext HO3.out ((Ext.refl w3).drewN nq)) HE4.out hG5)
          have hpe : l.take k ++ [p] ++ l.drop (k + 1) = putL l p := (with_eq HS2.out.symm).1 (by rw [HL.out]; exact hk2) HQK.out
          have hle : (putL l p).length = k + 1 + (n - (k + 1)) := by rw [← hpe, List.length_append, HLK.out, List.length_drop, HL.out]
          rw [hpe] at hO5
          exact ⟨A5, c5, by rw [hle]; rfl, by rw [hle]; exact World.ownsRow.mono hO5 HE0.out.sz, hE5⟩

        · have HQK : Hid (¬ (l.getD k default).k = p.k) := Lib.hid (by rw [← hq, ← hx]; exact hxk)
          have tx : (x == p.k) = false := by simp [hxk]
          clear hs2 hd hq hx c0w' hA' hxk
          obtain ⟨A1, hSA, hPA⟩ := slice_pre (some ⟨g', o', none⟩) n c k (by have := HNC.out; omega)
          have hSA2 := fun w => (slice_at Try.underlying22 _ _ _ _ w).trans (hSA w)
          obtain ⟨A4, hSB, hPB⟩ := slice_suf (some ⟨g', o', none⟩) n c k (by omega) HNC.out
          skip
          have hSB2 := fun w => (slice_at Try.underlying22 _ _ _ _ w).trans (hSB w)
          have HPA := Lib.hid hPA
          have HPB4 := Lib.hid hPB
          clear hPA hPB
          go_wp2
          go_quiet (fail)
          have HEN := Lib.hid (hE.drewN nq)
          go_wp2_with (first
            | (at_builtin; refine wpList_appP rfl _ _ rfl w1.heap.size none 0 0 [] rfl rfl (World.ownsRow_nil _ _ _ _) A1 k c (l.take k) rfl (HPA.out _ _ (h.ext (HE0.out.trans HEN.out)) hk) (by omega) HEN.out.sz ?_; intro A2 c2 w2 hO2 hG2; rw [Nat.zero_add, List.nil_append] at hO2; have hE2 := Lib.hid (ownsRow_news (World.ownsRow_nil (wr.drewN nq) w1.heap.size 30 2) HEN.out hG2); have HO2 := Lib.hid hO2; have d0 := (HPB.out.ext hE2.out).c0; have d1 := (HPB.out.ext hE2.out).c1; clear hO2 hG2)
            | (at_builtin; refine wpList_app w2 rfl _ _ 22 30 rfl Try.underlying22 _ [.string (Bt p.k), .string (Bt p.v)] 2 32 infoPr rfl rfl (by decide) (by decide) w1.heap.size (.slice A2 k c2) k _ rfl HO2.out (two_str _ _) _ rfl rfl (by omega) hE2.out.sz ?_; intro g3 c3 w3 hO3 hG3 hg3))
          have hlk : (l.take k).length = k := by rw [List.length_take, HL.out]; omega
          have HO3 := Lib.hid (show w3.ownsRow w1.heap.size 30 2 (.slice (some ⟨g3, 0, none⟩) (k + 1) c3) (k + 1) (prCs (l.take k ++ [p]) (k + 1)) by
            have := prCs_snoc (l.take k) p
            rw [hlk] at this
            rw [this]; exact hO3)
          have HE3 := Lib.hid (hG3.ext hE2.out (Nat.le_refl _))
          have HLK := Lib.hid (show (l.take k ++ [p]).length = k + 1 by rw [List.length_append, hlk]; rfl)
          have e0 := (HPB.out.ext HE3.out).c0
          have f0 := HE3.out.cellv c0w
          clear hO3 hG3 hg3 hlk d0 d1 hSA hSA2
          go_quiet (fail)
          have HE4 := Lib.hid (HE3.out.drewN nq)
          go_wp2_with (at_builtin; go_loud (refine wpList_appP rfl _ _ rfl w1.heap.size (some ⟨g3, 0, none⟩) (k + 1) c3 (l.take k ++ [p]) rfl HLK.out (World.ownsRow.ext HO3.out ((Ext.refl w3).drewN nq)) A4 (n - k) (c - k) (l.drop k) rfl (HPB4.out _ _ (h.ext (HE0.out.trans HE4.out))) (by omega) HE4.out.sz ?_); intro A5 c5 w5 hO5 hG5)
          go_ret
          have hE5 := HE0.out.trans (ownsRow_news (World.ownsRow.ext HO3.out ((Ext.refl w3).drewN nq)) HE4.out hG5)
          have hpe : l.take k ++ [p] ++ l.drop k = putL l p := (with_eq HS2.out.symm).2 (fun hc => HQK.out hc.2)
          have hle : (putL l p).length = k + 1 + (n - k) := by rw [← hpe, List.length_append, HLK.out, List.length_drop, HL.out]
          rw [hpe] at hO5
          exact ⟨A5, c5, by rw [hle]; rfl, by rw [hle]; exact World.ownsRow.mono hO5 HE0.out.sz, hE5⟩

      · have hs2 : seekL p.k l = k + 1 + seekL p.k (l.drop (k + 1)) := by rw [hs.out, hd, seekL, ← hx, hlt, if_pos rfl]; omega
        have HS2 := Lib.hid hs2
        subst hA
        clear hs2 hd hq hx
        go_wp2
        go_quiet (fail)
        go_wp2
        exact ⟨⟨k + 1, by omega, rfl, HS2, hE.drewN _⟩, by simp [intOf]; omega⟩
    · have kk : ¬ (k : Int) < (n : Int) := by omega
      have tk : decide ((k : Int) < (n : Int)) = false := by simp; omega
      have hs2 : seekL p.k l = k := by rw [hs.out, List.drop_of_length_le (by rw [HL.out]; omega)]; rfl
      have HS2 := Lib.hid hs2
      clear hs2
      have kk0 : (0 : Int) ≤ (k : Int) := by omega
      obtain ⟨A1, hSA, hPA⟩ := slice_pre A n c k (by have := HNC.out; omega)
      have hSA2 := fun w => (slice_at Try.underlying22 _ _ _ _ w).trans (hSA w)
      obtain ⟨A4, hSB, hPB⟩ := slice_suf A n c k (by omega) HNC.out
      skip
      have hSB2 := fun w => (slice_at Try.underlying22 _ _ _ _ w).trans (hSB w)
      have HPA := Lib.hid hPA
      have HPB4 := Lib.hid hPB
      clear hPA hPB
      go_wp2
      go_quiet (fail)
      have HEN := Lib.hid (hE.drewN nq)
      go_wp2_with (first
        | (at_builtin; refine wpList_appP rfl _ _ rfl w1.heap.size none 0 0 [] rfl rfl (World.ownsRow_nil _ _ _ _) A1 k c (l.take k) rfl (HPA.out _ _ (h.ext (HE0.out.trans HEN.out)) hk) (by omega) HEN.out.sz ?_; intro A2 c2 w2 hO2 hG2; rw [Nat.zero_add, List.nil_append] at hO2; have hE2 := Lib.hid (ownsRow_news (World.ownsRow_nil (wr.drewN nq) w1.heap.size 30 2) HEN.out hG2); have HO2 := Lib.hid hO2; have d0 := (HPB.out.ext hE2.out).c0; have d1 := (HPB.out.ext hE2.out).c1; clear hO2 hG2)
        | (at_builtin; refine wpList_app w2 rfl _ _ 22 30 rfl Try.underlying22 _ [.string (Bt p.k), .string (Bt p.v)] 2 32 infoPr rfl rfl (by decide) (by decide) w1.heap.size (.slice A2 k c2) k _ rfl HO2.out (two_str _ _) _ rfl rfl (by omega) hE2.out.sz ?_; intro g3 c3 w3 hO3 hG3 hg3))
      have hlk : (l.take k).length = k := by rw [List.length_take, HL.out]; omega
      have HO3 := Lib.hid (show w3.ownsRow w1.heap.size 30 2 (.slice (some ⟨g3, 0, none⟩) (k + 1) c3) (k + 1) (prCs (l.take k ++ [p]) (k + 1)) by
        have := prCs_snoc (l.take k) p
        rw [hlk] at this
        rw [this]; exact hO3)
      have HE3 := Lib.hid (hG3.ext hE2.out (Nat.le_refl _))
      have HLK := Lib.hid (show (l.take k ++ [p]).length = k + 1 by rw [List.length_append, hlk]; rfl)
      have e0 := (HPB.out.ext HE3.out).c0
      clear hO3 hG3 hg3 hlk d0 d1 hSA hSA2
      go_quiet (fail)
      have HE4 := Lib.hid (HE3.out.drewN nq)
      go_wp2_with (at_builtin; go_loud (refine wpList_appP rfl _ _ rfl w1.heap.size (some ⟨g3, 0, none⟩) (k + 1) c3 (l.take k ++ [p]) rfl HLK.out (World.ownsRow.ext HO3.out ((Ext.refl w3).drewN nq)) A4 (n - k) (c - k) (l.drop k) rfl (HPB4.out _ _ (h.ext (HE0.out.trans HE4.out))) (by omega) HE4.out.sz ?_); intro A5 c5 w5 hO5 hG5)
      go_ret
      have hE5 := HE0.out.trans (ownsRow_news (World.ownsRow.ext HO3.out ((Ext.refl w3).drewN nq)) HE4.out hG5)
      have hpe : l.take k ++ [p] ++ l.drop k = putL l p := (with_eq HS2.out.symm).2 (fun hc => by have := hc.1; rw [HL.out] at this; omega)
      have hle : (putL l p).length = k + 1 + (n - k) := by rw [← hpe, List.length_append, HLK.out, List.length_drop, HL.out]
      rw [hpe] at hO5
      exact ⟨A5, c5, by rw [hle]; rfl, by rw [hle]; exact World.ownsRow.mono hO5 HE0.out.sz, hE5⟩
end Go.Proofs.Ytfelfhgfkfijgaa
