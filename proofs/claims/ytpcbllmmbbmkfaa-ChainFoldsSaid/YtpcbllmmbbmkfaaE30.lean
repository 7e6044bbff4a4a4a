import Derived.Test.YtpcbllmmbbmkfaaE12
import Derived.ProofKit
import Derived.OpenShut
import Derived.ShutString
import Derived.ChangeOld
import Derived.SliceStrings
import Derived.Deep.Strs
import Derived.Lib.SmallJoins
namespace Go.Proofs.Ytpcbllmmbbmkfaa
open Go.RowKit Go.ChangeShapes Go.WideShapes Go.ChangeAt Go.Deep
theorem bulk_mem {H : Type} : ∀ {l : List (DataW H)} {d : DataW H}, d ∈ l → Rows.uptoBulk d ≤ Rows.uptoBulkAll l
  | x :: l, d, h => by
    rw [Rows.uptoBulkAll]
    rcases List.mem_cons.mp h with rfl | h
    · omega
    · have := bulk_mem h; omega
theorem rows_list {α : Type} {R : List Value → List α → Prop} (h0 : R [] []) (happ : ∀ xs ys l m, R xs l → R ys m → R (xs ++ ys) (l ++ m)) {Q : α → Prop} {cs : Nat → List Value} : ∀ n, (∀ i, i < n → ∃ x, R (cs i) [x] ∧ Q x) → ∃ l, l.length = n ∧ R ((List.range n).flatMap cs) l ∧ ∀ x ∈ l, Q x
  | 0, _ => ⟨[], rfl, h0, fun x hx => by cases hx⟩
  | n + 1, h => by
    obtain ⟨l, h1, h2, h3⟩ := rows_list h0 happ n (fun i hi => h i (by omega))
    obtain ⟨x, h4, h5⟩ := h n (by omega)
    refine ⟨l ++ [x], by simp [h1], ?_, fun y hy => ?_⟩
    · rw [List.range_succ, List.flatMap_append, List.flatMap_cons, List.flatMap_nil, List.append_nil]
      exact happ _ _ _ _ h2 h4
    · rcases List.mem_append.mp hy with hy | hy
      · exact h3 y hy
      · rw [List.mem_singleton] at hy; subst hy; exact h5
theorem flat_at {K : Nat} {cs : Nat → List Value} : ∀ n, (∀ i, i < n → (cs i).length = K) → ((List.range n).flatMap cs).length = n * K ∧ ∀ i j, i < n → j < K → ((List.range n).flatMap cs)[i * K + j]? = (cs i)[j]?
  | 0, _ => ⟨by simp, fun i j h => absurd h (by omega)⟩
  | n + 1, h => by
    obtain ⟨h1, h2⟩ := flat_at n (fun i hi => h i (by omega))
    rw [List.range_succ, List.flatMap_append, List.flatMap_cons, List.flatMap_nil, List.append_nil]
    refine ⟨by rw [List.length_append, h1, h n (by omega), Nat.succ_mul], fun i j hi hj => ?_⟩
    by_cases hin : i < n
    · have : i * K + j < n * K := by
        have := Nat.mul_le_mul_right K (show i + 1 ≤ n by omega)
        rw [Nat.succ_mul] at this
        omega
      rw [List.getElem?_append_left (by rw [h1]; exact this)]
      exact h2 i j hin hj
    · obtain rfl : i = n := by omega
      rw [List.getElem?_append_right (by rw [h1]; omega), h1]
      congr 1; omega
theorem div_at {n K i : Nat} (h : i < n * K) : i / K < n ∧ i % K < K ∧ i / K * K + i % K = i := by
  have hk : 0 < K := by rcases Nat.eq_zero_or_pos K with e | e; rw [e] at h; omega; exact e
  exact ⟨Nat.div_lt_of_lt_mul (by rwa [Nat.mul_comm] at h), Nat.mod_lt _ hk, by rw [Nat.mul_comm]; exact Nat.div_add_mod i K⟩
section
variable {H : Type} {enc : TypeId × Value → H} {w : World} {base : Nat} {spare : Nat → Bool} {held : Bool}
/-- A slice that is read: its rows of cells. -/
theorem open_rows {t e : TypeId} {K fuel : Nat} {v : Value} {y : DataW H × List MemPlace} (ht : Try.prog.underlying t = some (.slice e)) (hK : Try.prog.cellsOf e = K) (hk : 0 < K) (h : DataW.trod enc Try.prog w base spare held fuel t [v] = some y) :
    ∃ (A : Option Addr) (n c : Nat) (cs : Nat → List Value) (D : Nat → DataW H), v = .slice A n c ∧ n ≤ c ∧ c ≤ maxLen ∧ (A = none → c = 0) ∧ Rd w A (n * K) ((List.range n).flatMap cs) ∧ (∀ i, i < n → (cs i).length = K ∧ ∃ m q, DataW.trod enc Try.prog w base spare held m e (cs i) = some (D i, q)) ∧ Rows.uptoBulkAll ((List.range n).map D) ≤ Rows.uptoBulk y.1 := by
  rcases open_slice ht h with ⟨hcs, hy⟩ | ⟨a, len', cap', m, n', D, Pl, hcs, _, hl2, hm, hmm, hx, hi⟩
  · have : v = .slice none 0 0 := by simpa using hcs
    subst this
    exact ⟨none, 0, 0, fun _ => [], fun _ => .nil, rfl, Nat.le_refl _, Nat.zero_le _, fun _ => rfl, by rw [Nat.zero_mul]; exact Rd.nil _ _, fun i h => absurd h (by omega), Nat.zero_le _⟩
  · have : v = .slice (some a) len' cap' := by simpa using hcs
    subst this
    have hlm : len' ≤ m := by rw [hmm]; split <;> omega
    obtain ⟨cs, hc⟩ : ∃ cs : Nat → List Value, ∀ i, i < len' → w.cells? base (a.add (i * K)) K = some (cs i) ∧ DataW.trod enc Try.prog w base spare held n' e (cs i) = some (D i, Pl i) := by
      have : ∀ i, ∃ x, i < len' → w.cells? base (a.add (i * K)) K = some x ∧ DataW.trod enc Try.prog w base spare held n' e x = some (D i, Pl i) := fun i => by
        by_cases h : i < len'
        · obtain ⟨x, h1, h2⟩ := hi i (by omega)
          rw [hK] at h1
          exact ⟨x, fun _ => ⟨h1, h2⟩⟩
        · exact ⟨[], fun h2 => absurd h2 h⟩
      exact ⟨fun i => Classical.choose (this i), fun i => Classical.choose_spec (this i)⟩
    have hlen : ∀ i, i < len' → (cs i).length = K := fun i hi => (World.cells?_some (hc i hi).1).2.1
    obtain ⟨f1, f2⟩ := flat_at len' hlen
    have hcell : ∀ i j, i < len' → j < K → w.cell? (a.add (i * K + j)) = (cs i)[j]? := fun i j h1 h2 => by
      rw [← Go.Deep.add_add]; exact (World.cells?_some (hc i h1).1).2.2 j h2
    refine ⟨some a, len', cap', cs, D, rfl, hl2, hm, fun h => (by cases h), ⟨f1, fun hn => ?_⟩, fun i hi => ⟨hlen i hi, n', Pl i, (hc i hi).2⟩, ?_⟩
    · have hl0 : 0 < len' := by
        rcases Nat.eq_zero_or_pos len' with e0 | e0
        · rw [e0] at hn; omega
        · exact e0
      have hs : a.spot = none := by
        have h00 := hcell 0 0 hl0 hk
        rw [List.getElem?_eq_getElem (by rw [hlen 0 hl0]; exact hk)] at h00
        rw [Nat.zero_mul] at h00
        exact addr_cell h00
      obtain ⟨b, o, sp⟩ := a
      simp only at hs
      subst hs
      refine ⟨b, o, rfl, fun i x hx => ?_⟩
      have hi : i < len' * K := by
        rcases Nat.lt_or_ge i (len' * K) with h | h
        · exact h
        · rw [List.getElem?_eq_none (by rw [f1]; exact h)] at hx; cases hx
      obtain ⟨d1, d2, d3⟩ := div_at hi
      have h3 := hcell _ _ d1 d2
      rw [← f2 _ _ d1 d2, d3, hx, Addr.add_mid] at h3
      exact h3
    · rw [hx, Rows.uptoBulk]; omega
/-- A piece. -/
theorem open_pc {fuel : Nat} {cs : List Value} {y : DataW H × List MemPlace} (h : DataW.trod enc Try.prog w base spare held fuel 39 cs = some y) : ∃ p : Pc, cs = pcc p ∧ (Lit.int .i64 p.row).wf = true ∧ (Lit.int .u64 p.st).wf = true ∧ (Lit.int .i64 p.len).wf = true ∧ 1 ≤ Rows.uptoBulk y.1 ∧ y = (.agg [.lit (.int .i64 p.row), .lit (.int .u64 p.st), .lit (.int .i64 p.len)], []) := by
  obtain ⟨y0, y1, y2, n, he, hl, h0, h1, h2⟩ := trod_struct3 Try.underlying39 h
  have c39 : Try.prog.cellsOf 39 = 3 := by kernel_rfl
  have c3 : Try.prog.cellsOf 3 = 1 := by kernel_rfl
  have c37 : Try.prog.cellsOf 37 = 1 := by kernel_rfl
  rw [c39] at hl
  obtain ⟨a, b, c, rfl⟩ : ∃ a b c, cs = [a, b, c] := by
    match cs, hl with
    | [a, b, c], _ => exact ⟨a, b, c, rfl⟩
  obtain ⟨z0, e0, f0, w0⟩ := DataW.trod_int Try.underlying3 h0
  obtain ⟨z1, e1, f1, w1⟩ := DataW.trod_int Try.underlying37 h1
  obtain ⟨z2, e2, f2, w2⟩ := DataW.trod_int Try.underlying3 h2
  simp only [c3, c37] at e0 e1 e2
  have g0 : a = .int .i64 z0 := by simpa using e0
  have g1 : b = .int .u64 z1 := by simpa using e1
  have g2 : c = .int .i64 z2 := by simpa using e2
  subst g0 g1 g2
  refine ⟨⟨z0, z1, z2⟩, rfl, w0, w1, w2, ?_, ?_⟩
  · rw [he, Rows.uptoBulk]; omega
  · rw [he, f0, f1, f2]; rfl
theorem bulk_len {n : Nat} {D : Nat → DataW H} (h : ∀ i, i < n → 1 ≤ Rows.uptoBulk (D i)) : n ≤ Rows.uptoBulkAll ((List.range n).map D) := by
  have key : ∀ l : List (DataW H), (∀ d ∈ l, 1 ≤ Rows.uptoBulk d) → l.length ≤ Rows.uptoBulkAll l := by
    intro l
    induction l with
    | nil => intro _; exact Nat.zero_le _
    | cons d l ih =>
      intro h
      have h1 := h d List.mem_cons_self
      have h2 := ih (fun x hx => h x (List.mem_cons_of_mem _ hx))
      rw [Rows.uptoBulkAll, List.length_cons]; omega
  have := key ((List.range n).map D) (fun d hd => by
    obtain ⟨i, hi, rfl⟩ := List.mem_map.mp hd
    exact h i (List.mem_range.mp hi))
  rwa [List.length_map, List.length_range] at this
/-- Pieces. -/
theorem open_ps {fuel : Nat} {v : Value} {y : DataW H × List MemPlace} (h : DataW.trod enc Try.prog w base spare held fuel 34 [v] = some y) : ∃ ps : List Pc, PsV w v ps ∧ ps.length ≤ Rows.uptoBulk y.1 := by
  obtain ⟨A, n, c, cs, D, rfl, hnc, hc, hnil, hrd, hr, hb⟩ := open_rows Try.underlying34 (K := 3) (by kernel_rfl) (by decide) h
  obtain ⟨l, h1, h2, _⟩ := rows_list (R := fun xs (l : List Pc) => xs = l.flatMap pcc) (Q := fun _ => True) rfl (fun xs ys l m h1 h2 => by rw [h1, h2, List.flatMap_append]) (cs := cs) n (fun i hi => by
    obtain ⟨_, m, q, ht⟩ := hr i hi
    obtain ⟨p, hp, _⟩ := open_pc ht
    exact ⟨p, by simpa using hp, trivial⟩)
  subst h1
  refine ⟨l, ⟨A, c, rfl, ⟨rfl, by rw [← h2]; exact hrd⟩, hnc, hnil⟩, Nat.le_trans (bulk_len fun i hi => ?_) hb⟩
  obtain ⟨_, m, q, ht⟩ := hr i hi
  obtain ⟨p, _, _, _, _, hq, _⟩ := open_pc ht
  exact hq
/-- A ref. -/
theorem open_rf {fuel : Nat} {cs : List Value} {y : DataW H × List MemPlace} (h : DataW.trod enc Try.prog w base spare held fuel 36 cs = some y) : ∃ r : Rf, RfVs w cs [r] ∧ r.ps.length ≤ Rows.uptoBulk y.1 := by
  obtain ⟨y0, y1, n, he, hl, h0, h1⟩ := trod_struct2 Try.underlying36 h
  have c36 : Try.prog.cellsOf 36 = 2 := by kernel_rfl
  have c3 : Try.prog.cellsOf 3 = 1 := by kernel_rfl
  have c34 : Try.prog.cellsOf 34 = 1 := by kernel_rfl
  rw [c36] at hl
  obtain ⟨a, b, rfl⟩ : ∃ a b, cs = [a, b] := by
    match cs, hl with
    | [a, b], _ => exact ⟨a, b, rfl⟩
  obtain ⟨z0, e0, f0, w0⟩ := DataW.trod_int Try.underlying3 h0
  simp only [c3] at e0
  have g0 : a = .int .i64 z0 := by simpa using e0
  subst g0
  simp only [c34] at h1
  have h1' : DataW.trod enc Try.prog w base spare held n 34 [b] = some y1 := h1
  obtain ⟨ps, k1, k2⟩ := open_ps h1'
  refine ⟨⟨z0, ps⟩, ⟨rfl, k1, trivial⟩, Nat.le_trans k2 ?_⟩
  rw [he, Rows.uptoBulk, Rows.uptoBulkAll, Rows.uptoBulkAll]; omega
/-- A link. -/
theorem open_lk {fuel : Nat} {cs : List Value} {y : DataW H × List MemPlace} (h : DataW.trod enc Try.prog w base spare held fuel 41 cs = some y) : ∃ r : Lk, LkVP (PsV w) cs [r] ∧ r.add.ps.length ≤ Rows.uptoBulk y.1 := by
  obtain ⟨y0, y1, y2, y3, n, he, hl, h0, h1, h2, h3⟩ := Go.Joins.trod_struct4 Try.underlying41 h
  have c41 : Try.prog.cellsOf 41 = 7 := by kernel_rfl
  have c36 : Try.prog.cellsOf 36 = 2 := by kernel_rfl
  have c3 : Try.prog.cellsOf 3 = 1 := by kernel_rfl
  have c39 : Try.prog.cellsOf 39 = 3 := by kernel_rfl
  rw [c41] at hl
  obtain ⟨a, b, c, d, e, f, g, rfl⟩ : ∃ a b c d e f g, cs = [a, b, c, d, e, f, g] := by
    match cs, hl with
    | [a, b, c, d, e, f, g], _ => exact ⟨a, b, c, d, e, f, g, rfl⟩
  obtain ⟨z0, e0, f0, w0⟩ := DataW.trod_int Try.underlying3 h0
  obtain ⟨z1, e1, f1, w1⟩ := DataW.trod_int Try.underlying3 h1
  simp only [c3, c36, c39] at e0 e1 h2 h3
  have g0 : a = .int .i64 z0 := by simpa using e0
  have g1 : b = .int .i64 z1 := by simpa using e1
  subst g0 g1
  have h2' : DataW.trod enc Try.prog w base spare held n 36 [c, d] = some y2 := h2
  have h3' : DataW.trod enc Try.prog w base spare held n 39 [e, f, g] = some y3 := h3
  obtain ⟨r, k1, k2⟩ := open_rf h2'
  obtain ⟨p, k3, _⟩ := open_pc h3'
  simp only [pcc, List.cons.injEq, and_true] at k3
  refine ⟨⟨z0, z1, r, p⟩, ⟨⟨rfl, rfl, k1.1, k1.2.1, k3.1, k3.2.1, k3.2.2⟩, trivial⟩, Nat.le_trans k2 ?_⟩
  rw [he, Rows.uptoBulk, Rows.uptoBulkAll, Rows.uptoBulkAll, Rows.uptoBulkAll]; omega
/-- Refs that are handed on. -/
theorem open_t22 {A : Option Addr} {n c : Nat} {d : DataW H} {ps : List MemPlace} (h : DataW.Trod enc Try.prog w base spare held 22 (.slice A n c) d ps) (hb : Rows.uptoBulk d ≤ 1048576) :
    ∃ l : List Rf, RfRd w A n l ∧ n ≤ maxLen ∧ (n ≤ c ∧ Few l) := by
  obtain ⟨fuel, hf⟩ := h
  have hf' : DataW.trod enc Try.prog w base spare held fuel 22 [.slice A n c] = some (d, ps) := by simpa [Value.cells] using hf
  obtain ⟨A', n', c', cs, D, hv, hnc, hc, hnil, hrd, hr, hbb⟩ := open_rows Try.underlying22 (K := 2) (by kernel_rfl) (by decide) hf'
  injection hv with e1 e2 e3
  subst e1 e2 e3
  obtain ⟨l, h1, h2, h3⟩ := rows_list (R := fun xs (l : List Rf) => RfVs w xs l) (Q := fun r => r.ps.length ≤ 1048576) trivial (fun xs ys l m h1 h2 => h1.append h2) (cs := cs) n (fun i hi => by
    obtain ⟨_, m, q, ht⟩ := hr i hi
    obtain ⟨p, hp, hq⟩ := open_rf ht
    refine ⟨p, hp, Nat.le_trans hq ?_⟩
    exact Nat.le_trans (bulk_mem (List.mem_map.2 ⟨i, List.mem_range.2 hi, rfl⟩)) (Nat.le_trans hbb hb))
  exact ⟨l, ⟨h1, _, hrd, h2⟩, Nat.le_trans hnc hc, hnc, h3⟩
/-- Links that are handed on. -/
theorem open_t23 {A : Option Addr} {n c : Nat} {d : DataW H} {ps : List MemPlace} (h : DataW.Trod enc Try.prog w base spare held 23 (.slice A n c) d ps) (hb : Rows.uptoBulk d ≤ 1048576) :
    ∃ l : List Lk, LnRd w A n l ∧ n ≤ maxLen ∧ (n ≤ c ∧ FewK l) := by
  obtain ⟨fuel, hf⟩ := h
  have hf' : DataW.trod enc Try.prog w base spare held fuel 23 [.slice A n c] = some (d, ps) := by simpa [Value.cells] using hf
  obtain ⟨A', n', c', cs, D, hv, hnc, hc, hnil, hrd, hr, hbb⟩ := open_rows Try.underlying23 (K := 7) (by kernel_rfl) (by decide) hf'
  injection hv with e1 e2 e3
  subst e1 e2 e3
  obtain ⟨l, h1, h2, h3⟩ := rows_list (R := fun xs (l : List Lk) => LkVP (PsV w) xs l) (Q := fun r => r.add.ps.length ≤ 1048576) trivial (fun xs ys l m h1 h2 => h1.append h2) (cs := cs) n (fun i hi => by
    obtain ⟨_, m, q, ht⟩ := hr i hi
    obtain ⟨p, hp, hq⟩ := open_lk ht
    refine ⟨p, hp, Nat.le_trans hq ?_⟩
    exact Nat.le_trans (bulk_mem (List.mem_map.2 ⟨i, List.mem_range.2 hi, rfl⟩)) (Nat.le_trans hbb hb))
  exact ⟨l, ⟨h1, _, hrd, h2⟩, Nat.le_trans hnc hc, hnc, h3⟩
/-- A piece that is handed on. -/
theorem open_t39 {v : Value} {d : DataW H} {ps : List MemPlace} (hv : Value.okWide Try.prog w .any base 39 v) (h : DataW.Trod enc Try.prog w base spare held 39 v d ps) :
    ∃ p : Pc, v = .agg #[.int .i64 p.row, .int .u64 p.st, .int .i64 p.len] ∧ d = .agg [.lit (.int .i64 p.row), .lit (.int .u64 p.st), .lit (.int .i64 p.len)] ∧ ps = [] ∧ ((Lit.int .i64 p.row).wf = true ∧ (Lit.int .u64 p.st).wf = true ∧ (Lit.int .i64 p.len).wf = true) := by
  obtain ⟨cs, rfl, _⟩ := okWide_struct Try.underlying39 hv
  obtain ⟨fuel, hf⟩ := h
  obtain ⟨p, h1, w0, w1, w2, _, h2⟩ := open_pc hf
  rw [Prod.mk.injEq] at h2
  refine ⟨p, ?_, h2.1, h2.2, w0, w1, w2⟩
  have : cs.toList = pcc p := by simpa [Value.cells] using h1
  congr 1
  apply Array.toList_inj.1
  rw [this]; rfl
/-- .. and reads so behind the call. -/
theorem shut_t39 {p : Pc} (hw : (Lit.int .i64 p.row).wf = true ∧ (Lit.int .u64 p.st).wf = true ∧ (Lit.int .i64 p.len).wf = true) : DataW.Trod enc Try.prog w base spare held 39 (.agg #[.int .i64 p.row, .int .u64 p.st, .int .i64 p.len]) (.agg [.lit (.int .i64 p.row), .lit (.int .u64 p.st), .lit (.int .i64 p.len)]) [] := by
  have c3 : Try.prog.cellsOf 3 = 1 := by kernel_rfl
  have c37 : Try.prog.cellsOf 37 = 1 := by kernel_rfl
  have := trod_struct3_mk (enc := enc) (w := w) (base := base) (spare := spare) (held := held) (n := 1) (cs := [.int .i64 p.row, .int .u64 p.st, .int .i64 p.len]) Try.underlying39 (by kernel_rfl) (y0 := (.lit (.int .i64 p.row), [])) (y1 := (.lit (.int .u64 p.st), [])) (y2 := (.lit (.int .i64 p.len), []))
    (by rw [c3]; exact trod_int_mk 0 Try.underlying3 hw.1) (by rw [c37]; exact trod_int_mk 0 Try.underlying37 hw.2.1) (by rw [c3]; exact trod_int_mk 0 Try.underlying3 hw.2.2)
  exact ⟨2, this⟩
end
