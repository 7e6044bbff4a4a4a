import Derived.Test.YtfelfhgfkfijgaaM6
namespace Go.Proofs.Ytfelfhgfkfijgaa
open Go.RowKit Go.Nb
theorem grow_cells (xs Z : List Value) (a b : Nat) (x y : Value) (hab : a ≤ b) (hx : xs.length = b) (hZ : b + 2 - a ≤ Z.length) (R1 : List Value) (h1 : R1 = (xs.take a ++ Z).take a ++ [x, y] ++ (xs.take a ++ Z).drop (a + 2)) :
    (R1.take (a + 2) ++ xs.drop a ++ R1.drop (a + 2 + (b - a))).take (b + 2) = xs.take a ++ [x, y] ++ xs.drop a ∧ (R1.take (a + 2) ++ xs.drop a ++ R1.drop (a + 2 + (b - a))).length = a + Z.length ∧ R1.length = a + Z.length := by
  have l0 : (xs.take a).length = a := by rw [List.length_take]; omega
  have e0 : (xs.take a ++ Z).take a = xs.take a := by rw [List.take_append_of_le_length (by omega), List.take_of_length_le (by omega)]
  have e3 : R1.length = a + Z.length := by
    rw [h1, e0]; simp only [List.length_append, List.length_take, List.length_drop, List.length_cons, List.length_nil]; omega
  have e1 : R1.take (a + 2) = xs.take a ++ [x, y] := by
    rw [h1, e0, List.take_append_of_le_length (by simp only [List.length_append, List.length_take, List.length_cons, List.length_nil]; omega), List.take_of_length_le (by simp only [List.length_append, List.length_take, List.length_cons, List.length_nil]; omega)]
  refine ⟨?_, ?_, e3⟩
  · rw [e1, List.take_append_of_le_length (by simp only [List.length_append, List.length_take, List.length_drop, List.length_cons, List.length_nil]; omega), List.take_of_length_le (by simp only [List.length_append, List.length_take, List.length_drop, List.length_cons, List.length_nil]; omega)]
  · rw [e1]; simp only [List.length_append, List.length_take, List.length_drop, List.length_cons, List.length_nil, e3]; omega
set_option maxHeartbeats 4000000 in
set_option maxRecDepth 100000 in
theorem insert_grow {w0 : World} {base n c g i : Nat} {xs : List Value} (k v : ByteArray) (ho : w0.ownsRow base 30 2 (.slice (some ⟨g, 0, none⟩) n c) n xs) (hx1 : ∀ u ∈ xs, u.oneCell' = true) (hi : i < n) (hroom : c < n + 1) (hn : n ≤ 100000) (hb : base ≤ w0.heap.size) :
    Calls Try.prog 31 #[.slice (some ⟨g, 0, none⟩) n c, .int .i64 i, .slice (some ⟨w0.heap.size, 0, none⟩) 1 1] (w0.alloc (.cells #[.string k, .string v] 30)) (InsIs base n (xs.take (i * 2) ++ [.string k, .string v] ++ xs.drop (i * 2)) w0) := by
  obtain ⟨cur, hcur, hnc, hsz, htk⟩ : ∃ cur : Array Value, w0.heap[g]? = some (.cells cur 30 (0, 0)) ∧ n ≤ c ∧ cur.size = c * 2 ∧ cur.toList.take (n * 2) = xs := by
    rcases ho.2 with ⟨h1, _⟩ | ⟨g', cap, cur, hv, h1, h2, h3, h4, h5, h6⟩
    · cases h1
    · injection hv with e1 e2 e3
      injection e1 with e1; injection e1 with e1
      subst e1; subst e3
      exact ⟨cur, h2, h3, h5, h6⟩
  have hgw : g < w0.heap.size := by
    rcases Nat.lt_or_ge g w0.heap.size with h1 | h1
    · exact h1
    · rw [Array.getElem?_eq_none h1] at hcur; cases hcur
  have hxl : xs.length = n * 2 := ho.1
  obtain ⟨w, hw⟩ : ∃ w, w = w0.alloc (.cells #[.string k, .string v] 30) := ⟨_, rfl⟩
  have hEw : Ext w0 w := by rw [hw]; exact (Ext.refl w0).alloc _
  have hgW : w.heap[g]? = some (.cells cur 30 (0, 0)) := by rw [hEw.block g hgw]; exact hcur
  have hvW : w.heap[w0.heap.size]? = some (.cells #[.string k, .string v] 30 (0, 0)) := by rw [hw]; exact heap_alloc_new w0 _
  have hsW : w.heap.size = w0.heap.size + 1 := by rw [hw]; simp
  have hcellx : ∀ j u, xs[j]? = some u → ∀ W : World, W.heap[g]? = some (.cells cur 30 (0, 0)) → W.cell? ⟨g, j, none⟩ = some u := fun j u hj W hW => by
    rw [cell_heap hW, ← Array.getElem?_toList]
    rw [← htk, List.getElem?_take] at hj
    split at hj
    · exact hj
    · cases hj
  obtain ⟨i0, hi0, hz0, hzs, hzb⟩ := info_parts infoPr
  have hold : (Builtin.firstCells i0.size i (.slice (some ⟨g, 0, none⟩) i c)).run Try.prog w.drew = .ok (xs.take (i * 2)).toArray w.drew := by
    rw [hzs]
    exact run_firstCells_some w.drew 2 i ⟨g, 0, none⟩ i c (xs.take (i * 2)) (by rw [List.length_take]; omega) (fun j u hj => by
      rw [Addr.add_mid, Nat.zero_add]
      rw [List.getElem?_take] at hj
      split at hj
      · exact hcellx j u hj w.drew hgW
      · cases hj)
  have hik : i + (n + 1 - i) = n + 1 := by omega
  obtain ⟨G, hG⟩ : ∃ G, G = grownCap w (n + 1) c 30 := ⟨_, rfl⟩
  have hGn : n + 1 ≤ G := by rw [hG]; exact grownCap_ge w _ _ _
  have hGm : G ≤ maxLen := by rw [hG]; exact grownCap_le_maxLen w (n + 1) c 30 (by unfold maxLen; omega)
  obtain ⟨Z, hZ⟩ : ∃ Z : List Value, Z = (Builtin.zeroCells (Value.agg #[.string ⟨#[]⟩, .string ⟨#[]⟩]).cells (n + 1 - i) ++ Builtin.zeroCells (Value.agg #[.string ⟨#[]⟩, .string ⟨#[]⟩]).cells (G - (n + 1))).toList := ⟨_, rfl⟩
  have hZl : Z.length = (G - i) * 2 := by
    rw [hZ]
    simp [Builtin.zeroCells, Value.cells]
    omega
  have hrz : ∀ ty, (Builtin.append_ #[22, 3] ty #[.slice (some ⟨g, 0, none⟩) i c, .int .i64 ((n : Int) + 1 - (i : Int))]).run Try.prog w = .ok (.slice (some ⟨w.heap.size, 0, none⟩) (n + 1) G) (w.drew.alloc (.cells (xs.take (i * 2) ++ Z).toArray 30)) := fun ty => by
    have h := Lib.run_append_grow_zeros (P := Try.prog) w 22 3 ty 30 i0 _ .i64 .i64 Try.underlying22 Try.underlying3 hi0 hz0 (some ⟨g, 0, none⟩) i c (xs.take (i * 2)) hold (n + 1 - i) (by omega) (by omega) (by omega) (by omega) (by rw [hzb]; omega) (by rw [hzb, hik]; exact growslice_fits hroom (by omega))
    rw [hik, ← hG] at h
    rw [show (n : Int) + 1 - (i : Int) = ((n + 1 - i : Nat) : Int) by omega, hZ]
    rw [h]
    have e : ∀ (ZA ZB : Array Value), (xs.take (i * 2)).toArray ++ ZA ++ ZB = (xs.take (i * 2) ++ (ZA ++ ZB).toList).toArray := fun ZA ZB => by
      apply Array.ext'
      simp
    rw [e]
  have hgc := grow_cells xs Z (i * 2) (n * 2) (.string k) (.string v) (by omega) hxl (by omega)
  obtain ⟨R0, hR0⟩ : ∃ R0, R0 = xs.take (i * 2) ++ Z := ⟨_, rfl⟩
  rw [← hR0] at hrz hgc
  have hR0l : R0.length = G * 2 := by rw [hR0, List.length_append, List.length_take]; omega
  obtain ⟨R1, hR1⟩ : ∃ R1, R1 = R0.take (i * 2) ++ [.string k, .string v] ++ R0.drop (i * 2 + 2) := ⟨_, rfl⟩
  obtain ⟨hf1, hf2, hf3⟩ := hgc R1 hR1
  obtain ⟨R2, hR2⟩ : ∃ R2, R2 = R1.take (i * 2 + 2) ++ xs.drop (i * 2) ++ R1.drop (i * 2 + 2 + (n * 2 - i * 2)) := ⟨_, rfl⟩
  rw [← hR2] at hf1 hf2
  obtain ⟨W1, hW1⟩ : ∃ W1, W1 = w.drew.alloc (.cells R0.toArray 30) := ⟨_, rfl⟩
  have hEW1 : Ext w W1 := by rw [hW1]; exact ((Ext.refl w).drew).alloc _
  have hnew : W1.heap[w.heap.size]? = some (.cells R0.toArray 30 (0, 0)) := by rw [hW1]; exact heap_alloc_new w.drew _
  have hvW1 : W1.heap[w0.heap.size]? = some (.cells #[.string k, .string v] 30 (0, 0)) := by rw [hEW1.block _ (by omega)]; exact hvW
  have hgW1 : W1.heap[g]? = some (.cells cur 30 (0, 0)) := by rw [hEW1.block _ (by omega)]; exact hgW
  have hcpA : ∀ (W : World), W.heap = W1.heap → ∀ ty dc, (Builtin.copy_ #[22, 22] ty #[.slice (some ⟨w.heap.size, i * 2, none⟩) (n + 1 - i) dc, .slice (some ⟨w0.heap.size, 0, none⟩) 1 1]).run Try.prog W = .ok (goInt 1) (W.setRow w.heap.size R1.toArray) := fun W hW ty dc => by
    have h := run_copy_rowN (P := Try.prog) W 22 22 ty 30 2 w.heap.size (i * 2) (n + 1 - i) dc ⟨w0.heap.size, 0, none⟩ 1 1 R0.toArray 30 [.string k, .string v] Try.underlying22 size30 (by rw [hW]; exact hnew) (by simp only [Nat.min_def]; split <;> simp <;> omega) (fun j u hj => by
      rw [Addr.add_mid, Nat.zero_add, cell_heap (w := W) (by rw [hW]; exact hvW1)]
      simpa using hj) (by simp [hR0l]; omega) (two_str _ _)
    rw [h, hR1]
    have e1 : Nat.min 1 (n + 1 - i) = 1 := by simp only [Nat.min_def]; split <;> omega
    rw [e1]
    rfl
  have hcpB : ∀ (W : World), W.heap[w.heap.size]? = some (.cells R1.toArray 30 (0, 0)) → W.heap[g]? = some (.cells cur 30 (0, 0)) → ∀ ty dc sc, (Builtin.copy_ #[22, 22] ty #[.slice (some ⟨w.heap.size, (i + 1) * 2, none⟩) (n - i) dc, .slice (some ⟨g, i * 2, none⟩) (n - i) sc]).run Try.prog W = .ok (goInt ((n - i : Nat) : Int)) (W.setRow w.heap.size R2.toArray) := fun W hWn hWg ty dc sc => by
    have hdl : (xs.drop (i * 2)).length = n * 2 - i * 2 := by rw [List.length_drop, hxl]
    have h := run_copy_rowN (P := Try.prog) W 22 22 ty 30 2 w.heap.size ((i + 1) * 2) (n - i) dc ⟨g, i * 2, none⟩ (n - i) sc R1.toArray 30 (xs.drop (i * 2)) Try.underlying22 size30 hWn (by rw [hdl]; simp only [Nat.min_def]; split <;> omega) (fun j u hj => by
      rw [Addr.add_mid]
      rw [List.getElem?_drop] at hj
      exact hcellx _ u hj W hWg) (by simp [hf3, hdl, hZl]; omega) (fun u hu => hx1 u (List.mem_of_mem_drop hu))
    rw [h, hR2, hdl]
    have e1 : Nat.min (n - i) (n - i) = n - i := Nat.min_self _
    have e2 : (i + 1) * 2 = i * 2 + 2 := by omega
    rw [e1, e2]
  have hfin : ∀ W : World, Ext w0 W → W.heap[w.heap.size]? = some (.cells R2.toArray 30 (0, 0)) → InsIs base n (xs.take (i * 2) ++ [.string k, .string v] ++ xs.drop (i * 2)) w0 (.returned (.slice (some ⟨w.heap.size, 0, none⟩) (n + 1) G)) W := fun W hB hgw2 => by
    refine ⟨_, _, rfl, ⟨?_, .inr ⟨w.heap.size, G, R2.toArray, rfl, by omega, hgw2, hGn, hGm, by simp [hf2, hZl]; omega, ?_⟩⟩, fun W0 h1 h2 => h1.trans hB⟩
    · simp only [List.length_append, List.length_take, List.length_drop, List.length_cons, List.length_nil]
      omega
    · show R2.take ((n + 1) * 2) = _
      rw [show (n + 1) * 2 = n * 2 + 2 by omega]; exact hf1
  have hstep : ∀ W : World, W.heap = W1.heap → (W.setRow w.heap.size R1.toArray).heap[w.heap.size]? = some (.cells R1.toArray 30 (0, 0)) ∧ (W.setRow w.heap.size R1.toArray).heap[g]? = some (.cells cur 30 (0, 0)) := fun W hW => by
    refine ⟨setRow_heap W _ _ _ 30 _ (by rw [hW]; exact hnew), ?_⟩
    rw [setRow_other _ _ _ _ (by omega), hW]; exact hgW1
  have HFIN := Lib.hid hfin
  have HST := Lib.hid hstep
  have HWE : Hid (Ext w0 W1) := Lib.hid (hEw.trans hEW1)
  have HSW := Lib.hid hsW
  have HB := Lib.hid hb
  have q1 : ¬ (i : Int) = (n : Int) := by omega
  have q2 : (c : Int) < (n : Int) + 1 := by omega
  have q4 : (0 : Int) ≤ (i : Int) := by omega
  have q5 : (i : Int) ≤ (n : Int) := by omega
  have q7 : (i : Int) ≤ (c : Int) := by omega
  have hw1 : IntKind.i64.wrap ((i : Int) + 1) = ((i + 1 : Nat) : Int) := by rw [IntWalk.i64_in _ (by omega)]; omega
  have mixed : Try.prog.follows Departure.mixedOrders = true := by kernel_rfl
  have hb1 : (0 : Int) ≤ (i : Int) + 1 := by omega
  have htn : ((i : Int) + 1).toNat = i + 1 := by omega
  have hin : i ≤ n := by omega
  have hci : ¬ (c = i) := by omega
  have hGi : ¬ (G = i) := by omega
  have hGim : ¬ (G = i + 1) := by omega
  have hG63 : G ≤ 9223372036854775807 := by unfold maxLen at hGm; omega
  have hiG : (i : Int) ≤ (G : Int) := by omega
  have hi1 : (i : Int) ≤ (n : Int) + 1 := by omega
  rw [← hw]
  obtain ⟨XS, hXS⟩ : ∃ XS, XS = xs.take (i * 2) ++ [.string k, .string v] ++ xs.drop (i * 2) := ⟨_, rfl⟩
  rw [← hXS] at HFIN ⊢
  obtain ⟨b2, hb2⟩ : ∃ b2, b2 = w.heap.size := ⟨_, rfl⟩
  rw [← hb2] at hrz hcpA hcpB HFIN HST HSW
  rw [← hW1] at hrz
  have HW1 := Lib.hid hW1
  clear hw hXS hb2 hW1 hgW hvW hcur hsz htk ho hx1 hold hi0 hz0 hzs hzb hik hG hZ hZl hR0 hR0l hR1 hR2 hf1 hf2 hf3 hgc hnew hvW1 hgW1 hfin hstep hcellx hEw hEW1 hsW hxl hb
  go_enter Try.func31, Try.ntmps31
  go_wp2_with (first
    | (at_builtin; refine Lib.wpList_append_run _ rfl _ _ _ _ rfl _ _ rfl rfl _ _ (hrz _) ?_)
    | (at_builtin; refine wpList_copy_runI _ rfl _ _ 22 22 rfl _ _ rfl rfl (hcpA _ rfl _ _) ?_))
  have hS := HST.out W1 rfl
  have hcB := hcpB ((W1.setRow b2 R1.toArray).drew) hS.1 hS.2
  have HSS := Lib.hid hS
  clear hS hcpB
  go_region_law_o (refine step_copy_runI rfl _ _ 22 22 rfl (.slice (some ⟨b2, (i + 1) * 2, none⟩) (n - i) (G - (i + 1))) (.slice (some ⟨g, i * 2, none⟩) (n - i) (c - i)) (by simp [Act.eval, Act.put]) (by simp [Act.eval, Act.put]) (hcB _ _ _) ?_)
  go_wp2
  go_ret
  refine HFIN.out _ ?_ (setRow_heap (W1.setRow b2 R1.toArray).drew b2 _ _ 30 _ HSS.out.1)
  have hsz := HSW.out
  exact below_setRow ((below_setRow HWE.out (by omega) _).drew) (by omega) _
