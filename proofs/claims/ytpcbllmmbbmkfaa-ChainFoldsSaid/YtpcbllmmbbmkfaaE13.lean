import Derived.Test.YtpcbllmmbbmkfaaE12
namespace Go.Proofs.Ytpcbllmmbbmkfaa
open Go.RowKit
theorem run_app0R (w : World) (A B : Option Addr) (n c k : Nat) (hnc : n ≤ c) (ty : TypeId) : (Builtin.append_ #[22, 22] ty #[.slice A n c, .slice B 0 k]).run Try.prog w = .ok (.slice A n c) w := by
  obtain ⟨i0, hi0, _, _, _⟩ := info_parts infoRf
  rcases A with _ | a <;> rcases B with _ | b
  all_goals simp [Builtin.append_, run_underlying Try.underlying22, sizeOf, typeInfo, hi0, Builtin.lenOf, Builtin.firstCells, loadCells, loadCellsFrom, storeCells, hnc]
section
variable {rest : List Oper} {ops : Array Oper} {o : Oper} {a : Act} {Q : Exit → Act → World → Prop}
/-- 'append(s, x...)' of none or more refs. -/
theorem wpList_appR {w : World} (hgd : o.guard = none) (s x : Operand) (ho : o.op = .call { callee := .builtin .append, args := #[s, x], argTypes := #[22, 22] })
    (base : Nat) (A : Option Addr) (n c : Nat) (xs : List Value) (hs : a.eval s = .slice A n c) (hown : w.ownsRow base 36 2 (.slice A n c) n xs)
    (B : Option Addr) (m d : Nat) (ys : List Value) (hx : a.eval x = .slice B m d) (hq : Rd w B (m * 2) ys) (h1 : ∀ u ∈ ys, u.oneCell' = true) (hn : n + m ≤ 1048576) (hb : base ≤ w.heap.size)
    (h : ∀ A' c' w', w'.ownsRow base 36 2 (.slice A' (n + m) c') (n + m) (xs ++ ys) → w.grownBy w' (Value.slice A n c).ownBlock → wpList Try.prog ops Q rest (a.put o.dst (.slice A' (n + m) c')) w') : wpList Try.prog ops Q (o :: rest) a w := by
  by_cases h0 : m = 0
  · subst h0
    have hq0 : ys = [] := List.eq_nil_of_length_eq_zero (by rw [hq.1, Nat.zero_mul])
    subst hq0
    refine wpList_plain hgd fun _ hK => ?_
    have hrun := run_app0R w A B n c d (own_cap hown) o.type
    unfold Oper.wp execOp
    simp only [ho, resolve, invoke, builtin, Sem.run_bind, Sem.run_pure, Result.andThen_ok, List.map_toArray, List.map_cons, List.map_nil, hs, hx, hrun]
    refine hK _ _ (h A c w ?_ ⟨rfl, rfl, rfl, Nat.le_refl _, fun _ _ _ => rfl⟩)
    rw [List.append_nil]; exact hown
  · obtain ⟨ga, oa, rfl, hcell⟩ := hq.2 (by omega)
    obtain ⟨i0, hi0, hz0, hz1, hz2⟩ := info_parts infoRf
    refine Go.wpList_append_lies w hgd s x 22 ho base 36 i0 _ 2 32 Try.underlying22 hi0 hz0 hz1 hz2 rfl (by decide) _ n _ hs hown ⟨ga, oa, none⟩ m d ys hx hq.1 (fun j u hj => ?_) h1 (by omega) (by unfold maxLen; omega) (by omega) hb _ rfl ?_
    · rw [Addr.add_mid]
      exact hcell j u hj
    · intro gr cap w5 hown5 hg5 _ _
      exact h _ _ _ hown5 hg5
end
theorem slice_at {t e : TypeId} (hu : Try.prog.underlying t = some (.slice e)) (x : Value) (a b c : Option Value) (w : World) : (Instr.sliceAt t x a b c).run Try.prog w = (Instr.slice t x a b c).run Try.prog w := by
  simp [Instr.sliceAt, run_underlying hu]
theorem slice_preR (A : Option Addr) (n c i : Nat) (hi : i ≤ n) (hnc : n ≤ c) : (∀ w, (Instr.slice 22 (.slice A n c) none (some (.int .i64 (i : Int))) none).run Try.prog w = .ok (.slice A i c) w) ∧ ∀ w xs, Rd w A (n * 2) xs → Rd w A (i * 2) (xs.take (i * 2)) := by
  have hic : i ≤ c := by omega
  refine ⟨fun w => ?_, fun w xs h => ⟨by rw [List.length_take, h.1]; omega, fun h0 => ?_⟩⟩
  · simp [Instr.slice, run_underlying Try.underlying22, Instr.sliceBounds, Instr.sliceBound, asIntOf, hic]
    intro _
    cases A with
    | none => rfl
    | some a => simp [Addr.add_zero']
  · obtain ⟨g, o, rfl, hc⟩ := h.2 (by omega)
    refine ⟨g, o, rfl, fun k v hk => hc k v ?_⟩
    rw [List.getElem?_take] at hk
    split at hk
    · exact hk
    · cases hk
theorem slice_sufR (A : Option Addr) (n c f : Nat) (hf : f ≤ n) (hnc : n ≤ c) : ∃ A', (∀ w, (Instr.slice 22 (.slice A n c) (some (.int .i64 (f : Int))) none none).run Try.prog w = .ok (.slice A' (n - f) (c - f)) w) ∧ ∀ w xs, Rd w A (n * 2) xs → Rd w A' ((n - f) * 2) (xs.drop (f * 2)) := by
  refine ⟨if c = f then A else A.map (·.add (f * 2)), fun w => ?_, fun w xs h => ⟨by rw [List.length_drop, h.1]; omega, fun h0 => ?_⟩⟩
  · simp [Instr.slice, run_underlying Try.underlying22, Instr.sliceBounds, Instr.sliceBound, asIntOf, hf]
  · obtain ⟨g, o, rfl, hc⟩ := h.2 (by omega)
    refine ⟨g, o + f * 2, ?_, fun k v hk => ?_⟩
    · rw [if_neg (by omega)]; simp [Addr.add_mid]
    · rw [List.getElem?_drop] at hk
      have := hc _ v hk
      rw [show o + (f * 2 + k) = o + f * 2 + k by omega] at this
      exact this
theorem RfRd.xs {w : World} {A : Option Addr} {n : Nat} {l : List Rf} (h : RfRd w A n l) : ∃ xs, Rd w A (n * 2) xs ∧ RfVP (PsV w) xs l ∧ ∀ u ∈ xs, u.oneCell' = true := by
  obtain ⟨h1, xs, h2, h3⟩ := h
  exact ⟨xs, h2, RfVP.rfvs.2 h3, h3.one⟩
