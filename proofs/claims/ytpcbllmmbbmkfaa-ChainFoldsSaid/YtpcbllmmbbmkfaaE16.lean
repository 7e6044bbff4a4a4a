import Derived.Test.YtpcbllmmbbmkfaaE15
import Derived.Laws.CopyRow
import Derived.Laws.CopyOwn
import Derived.Shelf.RegionOpenPlain
namespace Go
section
variable {P : Program}
/-- 'append' in its own room, of elements of any size, from a row that is known whole. -/
theorem run_append_row (w : World) (t ty elem : TypeId) (sz g n c : Nat) (a : Addr) (m d : Nat) (cur : Array Value) (ct : TypeId) (cs : List Value)
    (hu : P.underlying t = some (.slice elem)) (hs : (P.info? elem).map (·.size) = some sz)
    (hg : w.heap[g]? = some (.cells cur ct (0, 0))) (hroom : n + m ≤ c) (hn : cs.length = m * sz)
    (hsrc : ∀ j v, cs[j]? = some v → w.cell? (a.add j) = some v) (hfit : n * sz + cs.length ≤ cur.size) (h1 : ∀ v ∈ cs, v.oneCell' = true) :
    (Builtin.append_ #[t, t] ty #[.slice (some ⟨g, 0, none⟩) n c, .slice (some a) m d]).run P w =
      .ok (.slice (some ⟨g, 0, none⟩) (n + m) c) (w.setRow g (cur.toList.take (n * sz) ++ cs ++ cur.toList.drop (n * sz + cs.length)).toArray) := by
  have hl := run_loadCells_list (P := P) w a cs hsrc
  have hst := run_storeCells_at P g (n * sz) ct cs 0 cur w hg (by simpa using hfit) h1
  cases hq : P.info? elem with
  | none => simp [hq] at hs
  | some i =>
    have hi : i.size = sz := by simpa [hq] using hs
    rw [hn] at hl
    simp [Builtin.append_, run_underlying hu, Builtin.lenOf, Builtin.firstCells, sizeOf, typeInfo, hq, hi, hl, hst, hroom, Addr.add_mid]
/-- 'clear' of a part of a row. -/
theorem run_clear_row (w : World) (t ty elem : TypeId) (z : Value) (zs : List Value) (g o m d : Nat) (cur : Array Value) (ct : TypeId)
    (hu : P.underlying t = some (.slice elem)) (hv : ∀ w, (zeroValue elem).run P w = .ok z w) (hz : (Builtin.zeroCells z.cells m).toList = zs) (hm : 0 < m)
    (hg : w.heap[g]? = some (.cells cur ct (0, 0))) (hfit : o + zs.length ≤ cur.size) (h1 : ∀ v ∈ zs, v.oneCell' = true) :
    (Builtin.clear_ #[t] ty #[.slice (some ⟨g, o, none⟩) m d]).run P w = .ok (.tuple #[]) (w.setRow g (cur.toList.take o ++ zs ++ cur.toList.drop (o + zs.length)).toArray) := by
  obtain ⟨k, rfl⟩ : ∃ k, m = k + 1 := ⟨m - 1, by omega⟩
  have hst := run_storeCells_at P g o ct zs 0 cur w hg (by simpa using hfit) h1
  simp [Builtin.clear_, run_underlying hu, hv, hz, hst]
theorem step_append_runR {ops : Array Oper} {o : Oper} {a : Act} {w : World} {K : Act → World → Prop} {Q : Exit → Act → World → Prop} {E : Prop}
    (hg : o.guard = none) (s x : Operand) (t : TypeId) (hop : o.op = Op.call { callee := Callee.builtin Builtin.append, args := #[s, x], argTypes := #[t, t] })
    (v u : Value) (hs : a.eval s = v) (hx : a.eval x = u) {v' : Value} {w' : World} (hr : (Builtin.append_ #[t, t] o.type #[v, u]).run P w = .ok v' w') (hK : K (a.put o.dst v') w') :
    if Region.wanted o (yielded ops a.tmps) = true then Oper.wp P o a w K Q else E := by
  have hw : Region.wanted o (yielded ops a.tmps) = true := by simp [Region.wanted, hg]
  rw [if_pos hw]
  unfold Oper.wp
  simp [execOp, hop, resolve, invoke, builtin, hs, hx, hr, Result.andThen]
  exact hK
end
end Go
namespace Go.Proofs.Ytpcbllmmbbmkfaa
open Go.RowKit
theorem _root_.Go.OnlyB.setRow_ {g : Nat} {a w : World} (h : OnlyB g a w) (cs : Array Value) : OnlyB g a (w.setRow g cs) :=
  ⟨h.os, h.tape, h.output, by simpa [World.setRow] using h.size, fun k hk hne => (setRow_other w g k cs (fun e => hne (by rw [e]))).trans (h.block k hk hne)⟩
theorem size36 : (Try.prog.info? 36).map (·.size) = some 2 := by kernel_rfl
theorem zero36 (w : World) : (zeroValue 36).run Try.prog w = .ok (.agg #[.int .i64 0, .slice none 0 0]) w := by kernel_rfl
def zRf (m : Nat) : List Value := (Builtin.zeroCells (Value.agg #[.int .i64 0, .slice none 0 0]).cells m).toList
theorem zRf_len (m : Nat) : (zRf m).length = m * 2 := by
  unfold zRf
  simp [Builtin.zeroCells, Value.cells]
theorem zRf_one (m : Nat) : ∀ u ∈ zRf m, u.oneCell' = true := by
  intro u hu
  unfold zRf at hu
  simp [Builtin.zeroCells, Value.cells] at hu
  obtain ⟨a, _, rfl⟩ := hu
  rcases (by omega : a % 2 = 0 ∨ a % 2 = 1) with h | h <;> rw [h] <;> rfl
/-- What Delete leaves. -/
def DelIs (base g n c i j : Nat) (xs : List Value) (w : World) (e : Ending) (w' : World) : Prop := e = .returned (.slice (some ⟨g, 0, none⟩) (i + (n - j)) c) ∧ w'.ownsRow base 36 2 (.slice (some ⟨g, 0, none⟩) (i + (n - j)) c) (i + (n - j)) (xs.take (i * 2) ++ xs.drop (j * 2)) ∧ OnlyB g w w'
theorem del_cells (L : List Value) (i j n : Nat) (hij : i ≤ j) (hj : j ≤ n) (hn : n ≤ L.length) (L1 : List Value) (h1 : L1 = L.take i ++ (L.drop j).take (n - j) ++ L.drop (i + (n - j))) (Z : List Value) :
    L1.length = L.length ∧ (L1.take (i + (n - j)) ++ Z ++ L1.drop (i + (n - j) + Z.length)).take (i + (n - j)) = (L.take n).take i ++ (L.take n).drop j := by
  have e3 : L1.length = L.length := by
    rw [h1]; simp only [List.length_append, List.length_take, List.length_drop]; omega
  refine ⟨e3, ?_⟩
  rw [List.append_assoc, List.take_append_of_le_length (by rw [List.length_take]; omega), List.take_take, Nat.min_self, h1]
  rw [List.take_append_of_le_length (by simp only [List.length_append, List.length_take, List.length_drop]; omega), List.take_of_length_le (by simp only [List.length_append, List.length_take, List.length_drop]; omega)]
  rw [List.take_take, Nat.min_eq_left (by omega), List.drop_take]
theorem slice_3R (A : Option Addr) (n c i j : Nat) (hij : i ≤ j) (hj : j ≤ n) (hnc : n ≤ c) : ∃ A', ∀ w, (Instr.slice 22 (.slice A n c) (some (.int .i64 (i : Int))) (some (.int .i64 (j : Int))) (some (.int .i64 (n : Int)))).run Try.prog w = .ok (.slice A' (j - i) (n - i)) w := by
  refine ⟨if n = i then A else A.map (·.add (i * 2)), fun w => ?_⟩
  simp [Instr.slice, run_underlying Try.underlying22, Instr.sliceBounds, Instr.sliceBound, asIntOf, hij, hj, hnc]
set_option maxHeartbeats 4000000 in
set_option maxRecDepth 100000 in
theorem delete_any {w : World} {base n c g i j : Nat} {xs : List Value} (ho : w.ownsRow base 36 2 (.slice (some ⟨g, 0, none⟩) n c) n xs) (hx1 : ∀ u ∈ xs, u.oneCell' = true) (hij : i ≤ j) (hj : j ≤ n) :
    Calls Try.prog 28 #[.slice (some ⟨g, 0, none⟩) n c, .int .i64 i, .int .i64 j] w (DelIs base g n c i j xs w) := by
  obtain ⟨cur, hcur, hgb, hsz, htk, hcm⟩ : ∃ cur : Array Value, w.heap[g]? = some (.cells cur 36 (0, 0)) ∧ base ≤ g ∧ cur.size = c * 2 ∧ cur.toList.take (n * 2) = xs ∧ c ≤ maxLen := by
    rcases ho.2 with ⟨h1, _⟩ | ⟨g', cap, cur, hv, h1, h2, h3, h4, h5, h6⟩
    · cases h1
    · injection hv with e1 e2 e3
      injection e1 with e1; injection e1 with e1
      subst e1; subst e3
      exact ⟨cur, h2, h1, h5, h6, h4⟩
  have hnc : n ≤ c := own_cap ho
  unfold maxLen at hcm
  have q1 : (i : Int) ≤ (j : Int) := by omega
  have q2 : (j : Int) ≤ (n : Int) := by omega
  have q3 : (n : Int) ≤ (c : Int) := by omega
  have q4 : (i : Int) ≤ (c : Int) := by omega
  have q5 : (j : Int) ≤ (c : Int) := by omega
  have q6 : (i : Int) ≤ (n : Int) := by omega
  obtain ⟨A3, h3⟩ := slice_3R (some ⟨g, 0, none⟩) n c i j hij hj hnc
  have h3b := fun w => (slice_at Try.underlying22 _ _ _ _ w).trans (h3 w)
  by_cases heq : i = j
  · subst heq
    have hfin : DelIs base g n c i i xs w (.returned (.slice (some ⟨g, 0, none⟩) n c)) w := ⟨by rw [show i + (n - i) = n by omega], by rw [List.take_append_drop, show i + (n - i) = n by omega]; exact ho, OnlyB.refl _ _⟩
    have HF := Lib.hid hfin
    clear ho hx1 hfin hcur hsz htk h3
    go_enter Try.func28, Try.ntmps28
    go_wp2
    all_goals go_ret
    all_goals exact HF.out
  · have hlt : i < j := by omega
    obtain ⟨As, hsu, hsuR⟩ := slice_sufR (some ⟨g, 0, none⟩) n c j hj hnc
    have hsu2 := fun w => (slice_at Try.underlying22 _ _ _ _ w).trans (hsu w)
    obtain ⟨hpr, _⟩ := slice_preR (some ⟨g, 0, none⟩) n c i (by omega) hnc
    have hpr2 := fun w => (slice_at Try.underlying22 _ _ _ _ w).trans (hpr w)
    have hrd := hsuR w xs (own_rd ho)
    obtain ⟨q, hq⟩ : ∃ q, q = i + (n - j) := ⟨_, rfl⟩
    obtain ⟨m, hm⟩ : ∃ m, m = n - j := ⟨_, rfl⟩
    rw [← hm] at hrd hsu2 hq
    have hxl : xs.length = n * 2 := ho.1
    obtain ⟨L1, hL1⟩ : ∃ L1, L1 = cur.toList.take (i * 2) ++ xs.drop (j * 2) ++ cur.toList.drop (i * 2 + m * 2) := ⟨_, rfl⟩
    have hdl : (xs.drop (j * 2)).length = m * 2 := by rw [List.length_drop, hxl, hm]; omega
    have hap : ∀ ty, (Builtin.append_ #[22, 22] ty #[.slice (some ⟨g, 0, none⟩) i c, .slice As m (c - j)]).run Try.prog w.drew = .ok (.slice (some ⟨g, 0, none⟩) q c) (w.drew.setRow g L1.toArray) := fun ty => by
      rcases Nat.eq_zero_or_pos m with h0 | h0
      · subst h0
        have e1 : L1.toArray = cur := by
          rw [hL1, List.eq_nil_of_length_eq_zero hdl]; simp
        rw [run_app0R _ _ _ _ _ _ (by omega), e1, setRow_self w.drew g cur 36 (0, 0) hcur, hq, Nat.add_zero]
      · obtain ⟨g2, o2, rfl, hc⟩ := hrd.2 (by omega)
        have := run_append_row (P := Try.prog) w.drew 22 ty 36 2 g i c ⟨g2, o2, none⟩ m (c - j) cur 36 (xs.drop (j * 2)) Try.underlying22 size36 hcur (by omega) hdl (fun k v hk => by rw [Addr.add_mid]; exact hc k v hk) (by rw [hdl, hsz]; omega) (fun v hv => hx1 v (List.mem_of_mem_drop hv))
        rw [this, hdl, hL1, hq]
    have hcu : cur.toList.length = c * 2 := by rw [Array.length_toList, hsz]
    have hdc := fun Z => del_cells cur.toList (i * 2) (j * 2) (n * 2) (by omega) (by omega) (by omega) L1 (by rw [hL1, ← htk, List.drop_take, show n * 2 - j * 2 = m * 2 by omega]) Z
    have hl1 : L1.length = c * 2 := by rw [(hdc []).1, hcu]
    obtain ⟨W1, hW1⟩ : ∃ W1, W1 = w.drew.setRow g L1.toArray := ⟨_, rfl⟩
    have hgW1 : W1.heap[g]? = some (.cells L1.toArray 36 (0, 0)) := by rw [hW1]; exact setRow_heap w.drew g cur _ 36 _ hcur
    obtain ⟨L2, hL2⟩ : ∃ L2, L2 = L1.take (q * 2) ++ zRf (n - q) ++ L1.drop (q * 2 + (zRf (n - q)).length) := ⟨_, rfl⟩
    have hcl : ∀ ty, (Builtin.clear_ #[22] ty #[.slice (some ⟨g, q * 2, none⟩) (n - q) (c - q)]).run Try.prog W1 = .ok (.tuple #[]) (W1.setRow g L2.toArray) := fun ty => by
      have := run_clear_row (P := Try.prog) W1 22 ty 36 (.agg #[.int .i64 0, .slice none 0 0]) (zRf (n - q)) g (q * 2) (n - q) (c - q) L1.toArray 36 Try.underlying22 zero36 rfl (by omega) hgW1 (by rw [zRf_len]; simp [hl1]; omega) (zRf_one _)
      rw [this, hL2]
    rw [← hW1] at hap
    have hfin : DelIs base g n c i j xs w (.returned (.slice (some ⟨g, 0, none⟩) q c)) (W1.setRow g L2.toArray) := by
      have e1 : i + (n - j) = q := by rw [hq, hm]
      have h2 := (hdc (zRf (n - q))).2
      rw [show i * 2 + (n * 2 - j * 2) = q * 2 by omega, ← hL2, htk] at h2
      have hz := zRf_len (n - q)
      refine ⟨by rw [e1], ?_, ?_⟩
      · rw [e1]
        refine ⟨?_, .inr ⟨g, c, L2.toArray, rfl, hgb, setRow_heap W1 g _ _ 36 _ hgW1, by omega, by unfold maxLen; omega, ?_, h2⟩⟩
        · rw [List.length_append, List.length_take, List.length_drop, hxl]; omega
        · rw [List.size_toArray, hL2]
          simp only [List.length_append, List.length_take, List.length_drop, hz, hl1]; omega
      · rw [hW1]
        exact ((OnlyB.refl g w).drew.setRow_ L1.toArray).setRow_ L2.toArray
    have HF := Lib.hid hfin
    have q7 : (q : Int) ≤ (n : Int) := by omega
    have q8 : (q : Int) ≤ (c : Int) := by omega
    have q9 : ¬ c = q := by omega
    have q10 : ((i : Int) == (j : Int)) = false := by rw [beq_eq_false_iff_ne]; omega
    have q11 : q ≤ n := by omega
    have q12 : n ≤ c := hnc
    have mixed : Try.prog.follows Departure.mixedOrders = true := by kernel_rfl
    clear ho hx1 hfin hcur hsz htk h3 hsu hsuR hpr hrd hq hm hL1 hdl hcu hdc hl1 hgW1 hL2 hxl hW1 hcm
    go_enter Try.func28, Try.ntmps28
    go_wp2_with fail
    go_region_law_o (refine step_append_runR rfl _ _ 22 rfl _ _ (by simp [Act.eval, Act.put]) (by simp [Act.eval, Act.put]) (hap _) ?_)
    go_wp2
    go_ret
    exact HF.out
