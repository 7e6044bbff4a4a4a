import Derived.Test.YtfelfhgfkfijgaaM5
import Derived.Laws.CopyOwn
import Derived.Shelf.RegionOpenPlain
namespace Go.Proofs.Ytfelfhgfkfijgaa
open Go.RowKit Go.Nb
theorem ins_cells (L : List Value) (a b : Nat) (x y : Value) (hab : a ≤ b) (hb : b + 2 ≤ L.length) (L1 : List Value) (h1 : L1 = L.take (a + 2) ++ (L.drop a).take (b - a) ++ L.drop (a + 2 + (b - a))) :
    (L1.take a ++ [x, y] ++ L1.drop (a + 2)).take (b + 2) = (L.take b).take a ++ [x, y] ++ (L.take b).drop a ∧ (L1.take a ++ [x, y] ++ L1.drop (a + 2)).length = L.length ∧ L1.length = L.length := by
  have e1 : L1.take a = L.take a := by
    rw [h1, List.append_assoc, List.take_append_of_le_length (by rw [List.length_take]; omega), List.take_take]
    congr 1; omega
  have e2 : L1.drop (a + 2) = (L.drop a).take (b - a) ++ L.drop (a + 2 + (b - a)) := by
    rw [h1, List.append_assoc, List.drop_append_of_le_length (by rw [List.length_take]; omega), List.drop_of_length_le (by rw [List.length_take]; omega), List.nil_append]
  have e3 : L1.length = L.length := by
    rw [h1]; simp only [List.length_append, List.length_take, List.length_drop]; omega
  refine ⟨?_, ?_, e3⟩
  · rw [e1, e2, ← List.append_assoc]
    rw [List.take_append_of_le_length (by simp only [List.length_append, List.length_take, List.length_drop, List.length_cons, List.length_nil]; omega)]
    rw [List.take_of_length_le (by simp only [List.length_append, List.length_take, List.length_drop, List.length_cons, List.length_nil]; omega)]
    congr 1
    · congr 1
      rw [List.take_take]; congr 1; omega
    · rw [List.drop_take]
  · simp only [List.length_append, List.length_take, List.length_drop, List.length_cons, List.length_nil, e3]; omega
theorem cell_heap {w : World} {g : Nat} {cur : Array Value} {t : TypeId} {fz : Nat × Nat} (h : w.heap[g]? = some (.cells cur t fz)) (j : Nat) : w.cell? ⟨g, j, none⟩ = cur[j]? := by simp [World.cell?, h]
set_option maxHeartbeats 4000000 in
set_option maxRecDepth 100000 in
theorem insert_room {w0 : World} {base n c g i : Nat} {xs : List Value} (k v : ByteArray) (ho : w0.ownsRow base 30 2 (.slice (some ⟨g, 0, none⟩) n c) n xs) (hx1 : ∀ u ∈ xs, u.oneCell' = true) (hi : i < n) (hroom : n + 1 ≤ c) (hn : n ≤ 100000) (hb : base ≤ w0.heap.size) :
    Calls Try.prog 31 #[.slice (some ⟨g, 0, none⟩) n c, .int .i64 i, .slice (some ⟨w0.heap.size, 0, none⟩) 1 1] (w0.alloc (.cells #[.string k, .string v] 30)) (InsIs base n (xs.take (i * 2) ++ [.string k, .string v] ++ xs.drop (i * 2)) w0) := by
  obtain ⟨cur, hcur, hgb, hsz, htk, hcm⟩ : ∃ cur : Array Value, w0.heap[g]? = some (.cells cur 30 (0, 0)) ∧ base ≤ g ∧ cur.size = c * 2 ∧ cur.toList.take (n * 2) = xs ∧ c ≤ maxLen := by
    rcases ho.2 with ⟨h1, _⟩ | ⟨g', cap, cur, hv, h1, h2, h3, h4, h5, h6⟩
    · cases h1
    · injection hv with e1 e2 e3
      injection e1 with e1; injection e1 with e1
      subst e1; subst e3
      exact ⟨cur, h2, h1, h5, h6, h4⟩
  have hgw : g < w0.heap.size := by
    rcases Nat.lt_or_ge g w0.heap.size with h1 | h1
    · exact h1
    · rw [Array.getElem?_eq_none h1] at hcur; cases hcur
  unfold maxLen at hcm
  obtain ⟨w, hw⟩ : ∃ w, w = w0.alloc (.cells #[.string k, .string v] 30) := ⟨_, rfl⟩
  have hEw : Ext w0 w := by rw [hw]; exact (Ext.refl w0).alloc _
  have hgW : w.heap[g]? = some (.cells cur 30 (0, 0)) := by rw [hEw.block g hgw]; exact hcur
  have hvW : w.heap[w0.heap.size]? = some (.cells #[.string k, .string v] 30 (0, 0)) := by rw [hw]; exact heap_alloc_new w0 _
  have hov : ∀ lb cb, (callFunc 33 #[.slice (some ⟨w0.heap.size, 0, none⟩) 1 1, .slice (some ⟨g, (i + 1) * 2, none⟩) lb cb]).run Try.prog w = .ok (.value (.bool false)) w := fun lb cb => over_no hvW hgW (by omega) (by omega) _ _ _
  obtain ⟨cs1, hcs1⟩ : ∃ cs1, cs1 = (cur.toList.drop (i * 2)).take (n * 2 - i * 2) := ⟨_, rfl⟩
  have hcl : cs1.length = (n - i) * 2 := by rw [hcs1, List.length_take, List.length_drop, Array.length_toList]; omega
  obtain ⟨L1, hL1⟩ : ∃ L1, L1 = cur.toList.take (i * 2 + 2) ++ cs1 ++ cur.toList.drop (i * 2 + 2 + (n * 2 - i * 2)) := ⟨_, rfl⟩
  have hins := ins_cells cur.toList (i * 2) (n * 2) (.string k) (.string v) (by omega) (by rw [Array.length_toList]; omega) L1 (by rw [hL1, hcs1])
  rw [htk] at hins
  obtain ⟨hf1, hf2, hf3⟩ := hins
  have hcp1 : ∀ ty dc sc, (Builtin.copy_ #[22, 22] ty #[.slice (some ⟨g, (i + 1) * 2, none⟩) (n - i) dc, .slice (some ⟨g, i * 2, none⟩) (n + 1 - i) sc]).run Try.prog w.drew = .ok (goInt ((n - i : Nat) : Int)) (w.drew.setRow g L1.toArray) := fun ty dc sc => by
    have h := run_copy_rowN (P := Try.prog) w.drew 22 22 ty 30 2 g ((i + 1) * 2) (n - i) dc ⟨g, i * 2, none⟩ (n + 1 - i) sc cur 30 cs1 Try.underlying22 size30 hgW (by rw [hcl]; simp only [Nat.min_def]; split <;> omega) (fun j u hj => by
      rw [Addr.add_mid]
      have hj2 : j < cs1.length := by
        rcases Nat.lt_or_ge j cs1.length with h1 | h1
        · exact h1
        · rw [List.getElem?_eq_none h1] at hj; cases hj
      rw [hcs1, List.getElem?_take, if_pos (by omega), List.getElem?_drop, Array.getElem?_toList] at hj
      rw [cell_heap (w := w.drew) hgW]; exact hj) (by omega) (fun u hu => hx1 u (by
        rw [← htk, ← List.take_append_drop (i * 2) (cur.toList.take (n * 2)), List.drop_take]
        rw [hcs1] at hu
        exact List.mem_append_right _ hu))
    rw [h]
    have e1 : Nat.min (n + 1 - i) (n - i) = n - i := by simp only [Nat.min_def]; split <;> omega
    have e2 : (i + 1) * 2 = i * 2 + 2 := by omega
    rw [e1, e2, hL1]
    have e3 : i * 2 + 2 + cs1.length = i * 2 + 2 + (n * 2 - i * 2) := by rw [hcl]; omega
    rw [e3]
  obtain ⟨W1, hW1⟩ : ∃ W1, W1 = w.drew.setRow g L1.toArray := ⟨_, rfl⟩
  have hgW1 : W1.heap[g]? = some (.cells L1.toArray 30 (0, 0)) := by rw [hW1]; exact setRow_heap w.drew g cur _ 30 _ hgW
  have hvW1 : W1.heap[w0.heap.size]? = some (.cells #[.string k, .string v] 30 (0, 0)) := by rw [hW1, setRow_other _ _ _ _ (by omega)]; exact hvW
  obtain ⟨L2, hL2⟩ : ∃ L2, L2 = L1.take (i * 2) ++ [.string k, .string v] ++ L1.drop (i * 2 + 2) := ⟨_, rfl⟩
  rw [← hL2] at hf1 hf2
  have hcp2 : ∀ (W : World), W.heap = W1.heap → ∀ ty dc, (Builtin.copy_ #[22, 22] ty #[.slice (some ⟨g, i * 2, none⟩) (n + 1 - i) dc, .slice (some ⟨w0.heap.size, 0, none⟩) 1 1]).run Try.prog W = .ok (goInt 1) (W.setRow g L2.toArray) := fun W hW ty dc => by
    have h := run_copy_rowN (P := Try.prog) W 22 22 ty 30 2 g (i * 2) (n + 1 - i) dc ⟨w0.heap.size, 0, none⟩ 1 1 L1.toArray 30 [.string k, .string v] Try.underlying22 size30 (by rw [hW]; exact hgW1) (by simp only [Nat.min_def]; split <;> simp <;> omega) (fun j u hj => by
      rw [Addr.add_mid, Nat.zero_add, cell_heap (w := W) (by rw [hW]; exact hvW1)]
      simpa using hj) (by simp [hf3]; omega) (two_str _ _)
    rw [h, hL2]
    have e1 : Nat.min 1 (n + 1 - i) = 1 := by simp only [Nat.min_def]; split <;> omega
    rw [e1]
    rfl
  rw [← hW1] at hcp1
  have hE1 : Ext w0 w.drew := hEw.drew
  have hfin : ∀ W : World, Below base w0 W → W.heap[g]? = some (.cells L1.toArray 30 (0, 0)) → InsIs base n (xs.take (i * 2) ++ [.string k, .string v] ++ xs.drop (i * 2)) w0 (.returned (.slice (some ⟨g, 0, none⟩) (n + 1) c)) (W.setRow g L2.toArray) := fun W hB hgw2 => by
    refine ⟨_, _, rfl, ⟨?_, .inr ⟨g, c, L2.toArray, rfl, hgb, setRow_heap W g _ _ 30 _ hgw2, hroom, by unfold maxLen; omega, by simp [hf2]; omega, ?_⟩⟩, fun W0 h1 h2 => ?_⟩
    · have h1 := congrArg List.length htk
      rw [List.length_take, Array.length_toList] at h1
      simp only [List.length_append, List.length_take, List.length_drop, List.length_cons, List.length_nil]
      omega
    · show L2.take ((n + 1) * 2) = _
      rw [show (n + 1) * 2 = n * 2 + 2 by omega]; exact hf1
    · exact Below.trans h1 ((below_setRow hB hgb _).mono h2)
  have HFIN := Lib.hid hfin
  have HX := Lib.hid hgW1
  have q1 : ¬ (i : Int) = (n : Int) := by omega
  have q2 : ¬ (c : Int) < (n : Int) + 1 := by omega
  have q3 : decide ((c : Int) < (n : Int) + 1) = false := by simp; omega
  have q4 : (0 : Int) ≤ (i : Int) := by omega
  have q5 : (i : Int) ≤ (n : Int) := by omega
  have q6 : (n : Int) + 1 ≤ (c : Int) := by omega
  have q7 : (i : Int) ≤ (c : Int) := by omega
  have hw1 : IntKind.i64.wrap ((i : Int) + 1) = ((i + 1 : Nat) : Int) := by rw [IntWalk.i64_in _ (by omega)]; omega
  have mixed : Try.prog.follows Departure.mixedOrders = true := by kernel_rfl
  have hb1 : (0 : Int) ≤ (i : Int) + 1 := by omega
  have htn : ((i : Int) + 1).toNat = i + 1 := by omega
  have hb3 : (i : Int) ≤ (n : Int) + 1 := by omega
  have hin : i ≤ n := by omega
  have hb2 : ¬ (c = i + 1) := by omega
  have hb4 : ¬ (c = i) := by omega
  have hBW : Hid (Below base w0 W1) := Lib.hid (by rw [hW1]; exact below_setRow ((hEw.drew).mono hb) hgb _)
  rw [← hw]
  obtain ⟨XS, hXS⟩ : ∃ XS, XS = xs.take (i * 2) ++ [.string k, .string v] ++ xs.drop (i * 2) := ⟨_, rfl⟩
  rw [← hXS] at HFIN ⊢
  clear hw hXS hgW1 hvW1 hfin hL2 hf1 hf2 hf3 hL1 hcs1 hcl hgW hvW hcur hsz htk ho hx1 hE1
  go_enter Try.func31, Try.ntmps31
  go_wp2_with (simp only [hov])
  go_region_law_o (refine step_copy_runI rfl _ _ 22 22 rfl _ _ (by simp [Act.eval, Act.put]) (by simp [Act.eval, Act.put]) (hcp1 _ _ _) ?_)
  go_wp2_with (at_builtin; refine wpList_copy_runI _ rfl _ _ 22 22 rfl _ _ rfl rfl (hcp2 _ rfl _ _) ?_)
  go_ret
  subst hW1
  exact HFIN.out _ hBW.out HX.out
