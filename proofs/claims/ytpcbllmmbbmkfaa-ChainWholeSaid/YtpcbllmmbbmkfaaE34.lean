import Derived.Test.YtpcbllmmbbmkfaaE33
import Derived.SizedLaws
namespace Go.Proofs.Ytpcbllmmbbmkfaa
open Go.RowKit Go.ChangeShapes Go.WideShapes Go.ChangeAt Go.Deep
section
variable {H : Type} {enc : TypeId × Value → H} {w : World} {base : Nat} {spare : Nat → Bool} {held : Bool}
/-- All that is read of this type is within the reading's bound. -/
def Sz (t : TypeId) (d : DataW H) : Prop := ∀ n ∈ d.weights Try.prog t, n ≤ reachBytes
theorem weightsAll_mem {e : TypeId} : ∀ {l : List (DataW H)} {d : DataW H}, d ∈ l → ∀ n ∈ d.weights Try.prog e, n ∈ DataW.weightsAll Try.prog e l
  | x :: l, d, h, n, hn => by
    rw [DataW.weightsAll, List.mem_append]
    rcases List.mem_cons.mp h with rfl | h
    · exact .inl hn
    · exact .inr (weightsAll_mem h n hn)
theorem Sz.elem {t e : TypeId} (ht : Try.prog.underlying t = some (.slice e)) {l s : List (DataW H)} (h : Sz t (.slice l s)) : (l.length + s.length) * Try.prog.bytesOf e ≤ reachBytes ∧ ∀ d ∈ l, Sz e d := by
  unfold Sz at h
  rw [DataW.weights, ht] at h
  refine ⟨h _ List.mem_cons_self, fun d hd n hn => h n (List.mem_cons_of_mem _ (List.mem_append_left _ (weightsAll_mem hd n hn)))⟩
/-- A slice that is read: its length in bytes, and its elements' readings. -/
theorem open_rows2 {t e : TypeId} {K fuel : Nat} {v : Value} {y : DataW H × List MemPlace} (ht : Try.prog.underlying t = some (.slice e)) (hK : Try.prog.cellsOf e = K) (hk : 0 < K) (h : DataW.trod enc Try.prog w base spare held fuel t [v] = some y) (hs : Sz t y.1) :
    ∃ (A : Option Addr) (n c : Nat) (cs : Nat → List Value) (D : Nat → DataW H), v = .slice A n c ∧ n ≤ c ∧ c ≤ maxLen ∧ (A = none → c = 0) ∧ Rd w A (n * K) ((List.range n).flatMap cs) ∧ (∀ i, i < n → (cs i).length = K ∧ ∃ m q, DataW.trod enc Try.prog w base spare held m e (cs i) = some (D i, q)) ∧ n * Try.prog.bytesOf e ≤ reachBytes ∧ ∀ i, i < n → Sz e (D i) := by
  rcases open_slice ht h with ⟨hcs, hy⟩ | ⟨a, len', cap', m, n', D, Pl, hcs, _, hl2, hm, hmm, hx, hi⟩
  · have : v = .slice none 0 0 := by simpa using hcs
    subst this
    exact ⟨none, 0, 0, fun _ => [], fun _ => .nil, rfl, Nat.le_refl _, Nat.zero_le _, fun _ => rfl, by rw [Nat.zero_mul]; exact Rd.nil _ _, fun i h => absurd h (by omega), by rw [Nat.zero_mul]; exact Nat.zero_le _, fun i h => absurd h (by omega)⟩
  · have : v = .slice (some a) len' cap' := by simpa using hcs
    subst this
    have hlm : len' ≤ m := by rw [hmm]; split <;> omega
    obtain ⟨cs, hc⟩ : ∃ cs : Nat → List Value, ∀ i, i < len' → w.cells? base (a.add (i * K)) K = some (cs i) ∧ DataW.trod enc Try.prog w base spare held n' e (cs i) = some (D i, Pl i) := by
      have : ∀ i, ∃ x, i < len' → w.cells? base (a.add (i * K)) K = some x ∧ DataW.trod enc Try.prog w base spare held n' e x = some (D i, Pl i) := fun i => by
        by_cases h : i < len'
        · obtain ⟨x, h1, h2⟩ := hi i (by omega)
          rw [hK] at h1
          exact ⟨x, fun _ => ⟨h1, h2⟩⟩
        · exact ⟨[], fun h2 => absurd h2 h⟩
      exact ⟨fun i => Classical.choose (this i), fun i => Classical.choose_spec (this i)⟩
    have hlen : ∀ i, i < len' → (cs i).length = K := fun i hi => (World.cells?_some (hc i hi).1).2.1
    obtain ⟨f1, f2⟩ := flat_at len' hlen
    have hcell : ∀ i j, i < len' → j < K → w.cell? (a.add (i * K + j)) = (cs i)[j]? := fun i j h1 h2 => by
      rw [← Go.Deep.add_add]; exact (World.cells?_some (hc i h1).1).2.2 j h2
    rw [hx] at hs
    obtain ⟨z1, z2⟩ := hs.elem ht
    rw [List.length_map, List.length_range] at z1
    refine ⟨some a, len', cap', cs, D, rfl, hl2, hm, fun h => (by cases h), ⟨f1, fun hn => ?_⟩, fun i hi => ⟨hlen i hi, n', Pl i, (hc i hi).2⟩, Nat.le_trans (Nat.mul_le_mul_right _ (Nat.le_add_right _ _)) z1, fun i hi => z2 _ (List.mem_map.2 ⟨i, List.mem_range.2 hi, rfl⟩)⟩
    have hl0 : 0 < len' := by
      rcases Nat.eq_zero_or_pos len' with e0 | e0
      · rw [e0] at hn; omega
      · exact e0
    have hsp : a.spot = none := by
      have h00 := hcell 0 0 hl0 hk
      rw [List.getElem?_eq_getElem (by rw [hlen 0 hl0]; exact hk)] at h00
      rw [Nat.zero_mul] at h00
      exact addr_cell h00
    obtain ⟨b, o, sp⟩ := a
    simp only at hsp
    subst hsp
    refine ⟨b, o, rfl, fun i x hx => ?_⟩
    have hi : i < len' * K := by
      rcases Nat.lt_or_ge i (len' * K) with h | h
      · exact h
      · rw [List.getElem?_eq_none (by rw [f1]; exact h)] at hx; cases hx
    obtain ⟨d1, d2, d3⟩ := div_at hi
    have h3 := hcell _ _ d1 d2
    rw [← f2 _ _ d1 d2, d3, hx, Addr.add_mid] at h3
    exact h3
theorem open_ps2 {fuel : Nat} {v : Value} {y : DataW H × List MemPlace} (h : DataW.trod enc Try.prog w base spare held fuel 34 [v] = some y) (hs : Sz 34 y.1) : ∃ ps : List Pc, PsV w v ps ∧ ps.length ≤ 2 ^ 47 := by
  obtain ⟨A, n, c, cs, D, rfl, hnc, hc, hnil, hrd, hr, hb, _⟩ := open_rows2 Try.underlying34 (K := 3) (by kernel_rfl) (by decide) h hs
  obtain ⟨l, h1, h2, _⟩ := rows_list (R := fun xs (l : List Pc) => xs = l.flatMap pcc) (Q := fun _ => True) rfl (fun xs ys l m h1 h2 => by rw [h1, h2, List.flatMap_append]) (cs := cs) n (fun i hi => by
    obtain ⟨_, m, q, ht⟩ := hr i hi
    obtain ⟨p, hp, _⟩ := open_pc ht
    exact ⟨p, by simpa using hp, trivial⟩)
  subst h1
  have h24 : Try.prog.bytesOf 39 = 24 := by kernel_rfl
  rw [h24] at hb
  have hlt := reachBytes_lt
  exact ⟨l, ⟨A, c, rfl, ⟨rfl, by rw [← h2]; exact hrd⟩, hnc, hnil⟩, by omega⟩
theorem weights_agg2 {t a b : TypeId} {f0 f1 : Field} (ht : Try.prog.underlying t = some (.struct #[f0, f1])) (ha : f0.type = a) (hb : f1.type = b) {x y : DataW H} (h : Sz t (.agg [x, y])) : Sz a x ∧ Sz b y := by
  subst ha hb
  unfold Sz at h
  rw [DataW.weights, ht] at h
  simp only [List.map, DataW.weightsEach, List.append_nil] at h
  exact ⟨fun n hn => h n (List.mem_append_left _ hn), fun n hn => h n (List.mem_append_right _ hn)⟩
theorem weights_agg4 {t c : TypeId} {f0 f1 f2 f3 : Field} (ht : Try.prog.underlying t = some (.struct #[f0, f1, f2, f3])) (hc : f2.type = c) {x y z u : DataW H} (h : Sz t (.agg [x, y, z, u])) : Sz c z := by
  subst hc
  unfold Sz at h
  rw [DataW.weights, ht] at h
  simp only [List.map, DataW.weightsEach, List.append_nil] at h
  exact fun n hn => h n (List.mem_append_right _ (List.mem_append_right _ (List.mem_append_left _ hn)))
theorem open_rf2 {fuel : Nat} {cs : List Value} {y : DataW H × List MemPlace} (h : DataW.trod enc Try.prog w base spare held fuel 36 cs = some y) (hs : Sz 36 y.1) : ∃ r : Rf, RfVs w cs [r] ∧ r.ps.length ≤ 2 ^ 47 := by
  obtain ⟨y0, y1, n, he, hl, h0, h1⟩ := trod_struct2 Try.underlying36 h
  have c36 : Try.prog.cellsOf 36 = 2 := by kernel_rfl
  have c3 : Try.prog.cellsOf 3 = 1 := by kernel_rfl
  have c34 : Try.prog.cellsOf 34 = 1 := by kernel_rfl
  rw [c36] at hl
  obtain ⟨a, b, rfl⟩ : ∃ a b, cs = [a, b] := by
    match cs, hl with
    | [a, b], _ => exact ⟨a, b, rfl⟩
  obtain ⟨z0, e0, f0, w0⟩ := DataW.trod_int Try.underlying3 h0
  simp only [c3] at e0
  have g0 : a = .int .i64 z0 := by simpa using e0
  subst g0
  simp only [c34] at h1
  have h1' : DataW.trod enc Try.prog w base spare held n 34 [b] = some y1 := h1
  rw [he] at hs
  obtain ⟨ps, k1, k2⟩ := open_ps2 h1' (weights_agg2 Try.underlying36 (a := 3) (b := 34) rfl rfl hs).2
  exact ⟨⟨z0, ps⟩, ⟨rfl, k1, trivial⟩, k2⟩
theorem open_lk2 {fuel : Nat} {cs : List Value} {y : DataW H × List MemPlace} (h : DataW.trod enc Try.prog w base spare held fuel 41 cs = some y) (hs : Sz 41 y.1) : ∃ r : Lk, LkVP (PsV w) cs [r] ∧ r.add.ps.length ≤ 2 ^ 47 := by
  obtain ⟨y0, y1, y2, y3, n, he, hl, h0, h1, h2, h3⟩ := Go.Joins.trod_struct4 Try.underlying41 h
  have c41 : Try.prog.cellsOf 41 = 7 := by kernel_rfl
  have c36 : Try.prog.cellsOf 36 = 2 := by kernel_rfl
  have c3 : Try.prog.cellsOf 3 = 1 := by kernel_rfl
  have c39 : Try.prog.cellsOf 39 = 3 := by kernel_rfl
  rw [c41] at hl
  obtain ⟨a, b, c, d, e, f, g, rfl⟩ : ∃ a b c d e f g, cs = [a, b, c, d, e, f, g] := by
    match cs, hl with
    | [a, b, c, d, e, f, g], _ => exact ⟨a, b, c, d, e, f, g, rfl⟩
  obtain ⟨z0, e0, f0, w0⟩ := DataW.trod_int Try.underlying3 h0
  obtain ⟨z1, e1, f1, w1⟩ := DataW.trod_int Try.underlying3 h1
  simp only [c3, c36, c39] at e0 e1 h2 h3
  have g0 : a = .int .i64 z0 := by simpa using e0
  have g1 : b = .int .i64 z1 := by simpa using e1
  subst g0 g1
  have h2' : DataW.trod enc Try.prog w base spare held n 36 [c, d] = some y2 := h2
  have h3' : DataW.trod enc Try.prog w base spare held n 39 [e, f, g] = some y3 := h3
  rw [he] at hs
  obtain ⟨r, k1, k2⟩ := open_rf2 h2' (weights_agg4 Try.underlying41 (c := 36) rfl hs)
  obtain ⟨p, k3, _⟩ := open_pc h3'
  simp only [pcc, List.cons.injEq, and_true] at k3
  exact ⟨⟨z0, z1, r, p⟩, ⟨⟨rfl, rfl, k1.1, k1.2.1, k3.1, k3.2.1, k3.2.2⟩, trivial⟩, k2⟩
/-- Refs and links that are handed on, within the reading's bound. -/
theorem open_z22 {A : Option Addr} {n c : Nat} {d : DataW H} {ps : List MemPlace} (h : DataW.Trod enc Try.prog w base spare held 22 (.slice A n c) d ps) (hs : Sz 22 d) :
    ∃ l : List Rf, RfRd w A n l ∧ n ≤ maxLen ∧ (n ≤ c ∧ ∀ r ∈ l, r.ps.length ≤ 2 ^ 47) := by
  obtain ⟨fuel, hf⟩ := h
  have hf' : DataW.trod enc Try.prog w base spare held fuel 22 [.slice A n c] = some (d, ps) := by simpa [Value.cells] using hf
  obtain ⟨A', n', c', cs, D, hv, hnc, hc, hnil, hrd, hr, _, hz⟩ := open_rows2 Try.underlying22 (K := 2) (by kernel_rfl) (by decide) hf' hs
  injection hv with e1 e2 e3
  subst e1 e2 e3
  obtain ⟨l, h1, h2, h3⟩ := rows_list (R := fun xs (l : List Rf) => RfVs w xs l) (Q := fun r => r.ps.length ≤ 2 ^ 47) trivial (fun xs ys l m h1 h2 => h1.append h2) (cs := cs) n (fun i hi => by
    obtain ⟨_, m, q, ht⟩ := hr i hi
    exact open_rf2 ht (hz i hi))
  exact ⟨l, ⟨h1, _, hrd, h2⟩, Nat.le_trans hnc hc, hnc, h3⟩
theorem open_z23 {A : Option Addr} {n c : Nat} {d : DataW H} {ps : List MemPlace} (h : DataW.Trod enc Try.prog w base spare held 23 (.slice A n c) d ps) (hs : Sz 23 d) :
    ∃ l : List Lk, LnRd w A n l ∧ n ≤ maxLen ∧ (n ≤ c ∧ ∀ x ∈ l, x.add.ps.length ≤ 2 ^ 47) := by
  obtain ⟨fuel, hf⟩ := h
  have hf' : DataW.trod enc Try.prog w base spare held fuel 23 [.slice A n c] = some (d, ps) := by simpa [Value.cells] using hf
  obtain ⟨A', n', c', cs, D, hv, hnc, hc, hnil, hrd, hr, _, hz⟩ := open_rows2 Try.underlying23 (K := 7) (by kernel_rfl) (by decide) hf' hs
  injection hv with e1 e2 e3
  subst e1 e2 e3
  obtain ⟨l, h1, h2, h3⟩ := rows_list (R := fun xs (l : List Lk) => LkVP (PsV w) xs l) (Q := fun r => r.add.ps.length ≤ 2 ^ 47) trivial (fun xs ys l m h1 h2 => h1.append h2) (cs := cs) n (fun i hi => by
    obtain ⟨_, m, q, ht⟩ := hr i hi
    exact open_lk2 ht (hz i hi))
  exact ⟨l, ⟨h1, _, hrd, h2⟩, Nat.le_trans hnc hc, hnc, h3⟩
end
/-! The guard's sums do not wrap. -/
theorem w64_small {x : Int} (h0 : 0 ≤ x) (h1 : x < 9223372036854775808) : wrap64 x = x := by
  unfold wrap64
  omega
theorem getD_le {α : Type} [Inhabited α] {l : List α} {f : α → Nat} {B : Nat} (h : ∀ x ∈ l, f x ≤ B) (h0 : f default ≤ B) (k : Nat) : f (l.getD k default) ≤ B := by
  rcases Nat.lt_or_ge k l.length with hi | hi
  · exact h _ (by rw [List.getD_eq_getElem?_getD, List.getElem?_eq_getElem hi]; exact List.getElem_mem _)
  · rw [List.getD_eq_getElem?_getD, List.getElem?_eq_none hi]; exact h0
theorem sumLk_ok {l : List Lk} (h : ∀ x ∈ l, x.add.ps.length ≤ 2 ^ 47) : ∀ k, k ≤ 400 → 0 ≤ sumLk l k ∧ sumLk l k ≤ (2 ^ 47 + 1) * k ∧ ∀ j, j < k → ((l.getD j default).add.ps.length : Int) ≤ sumLk l k
  | 0, _ => ⟨Int.le_refl _, by simp [sumLk], fun j hj => absurd hj (by omega)⟩
  | k + 1, hk => by
    obtain ⟨i0, i1, i2⟩ := sumLk_ok h k (by omega)
    have hb := getD_le (f := fun x : Lk => x.add.ps.length) h (by decide) k
    have e2 : sumLk l (k + 1) = wrap64 (wrap64 (sumLk l k + 1) + ((l.getD k default).add.ps.length : Int)) := rfl
    have hkk : (k : Int) ≤ 400 := by omega
    rw [e2, w64_small (x := sumLk l k + 1) (by omega) (by omega), w64_small (by omega) (by omega)]
    refine ⟨by omega, by push_cast; omega, fun j hj => ?_⟩
    rcases Nat.lt_or_ge j k with h1 | h1
    · have := i2 j h1; omega
    · obtain rfl : j = k := by omega
      omega
theorem sumRf_ok {T : List Rf} {s : Int} (hs0 : 0 ≤ s) (hs1 : s ≤ 2 ^ 60) (h : ∀ x ∈ T, x.ps.length ≤ 2 ^ 47) : ∀ k, k ≤ 400 → s ≤ sumRf T s k ∧ sumRf T s k ≤ s + (2 ^ 47 + 1) * k ∧ ∀ j, j < k → ((T.getD j default).ps.length : Int) ≤ sumRf T s k
  | 0, _ => ⟨Int.le_refl _, by simp [sumRf], fun j hj => absurd hj (by omega)⟩
  | k + 1, hk => by
    obtain ⟨i0, i1, i2⟩ := sumRf_ok hs0 hs1 h k (by omega)
    have hb := getD_le (f := fun x : Rf => x.ps.length) h (by decide) k
    have e2 : sumRf T s (k + 1) = wrap64 (wrap64 (sumRf T s k + 1) + ((T.getD k default).ps.length : Int)) := rfl
    have hkk : (k : Int) ≤ 400 := by omega
    rw [e2, w64_small (x := sumRf T s k + 1) (by omega) (by omega), w64_small (by omega) (by omega)]
    refine ⟨by omega, by push_cast; omega, fun j hj => ?_⟩
    rcases Nat.lt_or_ge j k with h1 | h1
    · have := i2 j h1; omega
    · obtain rfl : j = k := by omega
      omega
theorem heavyL_all {l : List Lk} {T : List Rf} (h : heavyL l T = false) (hl : ∀ x ∈ l, x.add.ps.length ≤ 2 ^ 47) (hT : ∀ x ∈ T, x.ps.length ≤ 2 ^ 47) : FewK l ∧ Few T := by
  have h1 := heavyL_few h
  unfold heavyL at h
  simp only [Bool.or_eq_false_iff, decide_eq_false_iff_not] at h
  have hsum := h.2
  rw [Nat.min_eq_left (by omega), Nat.min_eq_left (by omega)] at hsum
  obtain ⟨a0, a1, a2⟩ := sumLk_ok hl l.length (by omega)
  have hl2 : (l.length : Int) ≤ 200 := by omega
  obtain ⟨b0, b1, b2⟩ := sumRf_ok (s := sumLk l l.length) a0 (by omega) hT T.length (by omega)
  constructor
  · intro x hx
    obtain ⟨i, hi, rfl⟩ := List.getElem_of_mem hx
    have := a2 i hi
    rw [List.getD_eq_getElem?_getD, List.getElem?_eq_getElem hi, Option.getD_some] at this
    omega
  · intro x hx
    obtain ⟨i, hi, rfl⟩ := List.getElem_of_mem hx
    have := b2 i hi
    rw [List.getD_eq_getElem?_getD, List.getElem?_eq_getElem hi, Option.getD_some] at this
    omega
