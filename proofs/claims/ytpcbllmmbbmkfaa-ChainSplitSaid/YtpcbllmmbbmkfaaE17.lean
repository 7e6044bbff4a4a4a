import Derived.Test.YtpcbllmmbbmkfaaE16
import Derived.Laws.CopyRow
import Derived.Lib.Overlaps
import Derived.Lib.AppendZerosOnto
import Derived.Lib.AppendZeros
import Derived.Shelf.Spec.SlicesInsert
import Derived.Laws.CopyOwn
import Derived.Shelf.RegionOpenPlain
namespace Go
/-- 'copy' of elements of any size, into a row that is known whole. -/
theorem run_copy_rowN {P : Program} (w : World) (dT sT ty elem : TypeId) (sz : Nat) (g o dLen dCap : Nat) (a : Addr) (sLen sCap : Nat) (cur : Array Value) (t : TypeId) (cs : List Value)
    (hu : P.underlying dT = some (.slice elem)) (hs : (P.info? elem).map (·.size) = some sz)
    (hg : w.heap[g]? = some (.cells cur t (0, 0))) (hn : cs.length = Nat.min sLen dLen * sz)
    (hsrc : ∀ j v, cs[j]? = some v → w.cell? (a.add j) = some v) (hfit : o + cs.length ≤ cur.size) (h1 : ∀ v ∈ cs, v.oneCell' = true) :
    (Builtin.copy_ #[dT, sT] ty #[.slice (some ⟨g, o, none⟩) dLen dCap, .slice (some a) sLen sCap]).run P w =
      .ok (goInt (Nat.min sLen dLen)) (w.setRow g (cur.toList.take o ++ cs ++ cur.toList.drop (o + cs.length)).toArray) := by
  have hl := run_loadCells_list (P := P) w a cs hsrc
  have hst := run_storeCells_at P g o t cs 0 cur w hg (by simpa using hfit) h1
  cases hq : P.info? elem with
  | none => simp [hq] at hs
  | some i =>
    have hi : i.size = sz := by simpa [hq] using hs
    rw [hn] at hl
    simp [Builtin.copy_, run_underlying hu, Builtin.lenOf, Builtin.firstCells, sizeOf, typeInfo, hq, hi, hl, hst]
end Go
namespace Go.Proofs.Ytpcbllmmbbmkfaa
open Go.RowKit
/-- What Insert leaves: a row with one element more; nothing old has turned. -/
def InsIs (base n : Nat) (xs : List Value) (w0 : World) (e : Ending) (w' : World) : Prop := ∃ A' c', e = .returned (.slice A' (n + 1) c') ∧ w'.ownsRow base 36 2 (.slice A' (n + 1) c') (n + 1) xs ∧ ∀ W0, Ext W0 w0 → W0.heap.size ≤ base → Ext W0 w'
theorem sizeOf36 (w : World) : (sizeOf 36).run Try.prog w = .ok 2 w := by kernel_rfl
theorem over_no {w : World} {vb g : Nat} {cv cg : Array Value} (hv : w.heap[vb]? = some (.cells cv 36 (0, 0))) (hg : w.heap[g]? = some (.cells cg 36 (0, 0))) (hne : vb ≠ g) (hz : cg.size ≠ 0) (off lb cb : Nat) :
    (callFunc 47 #[.slice (some ⟨vb, 0, none⟩) 1 1, .slice (some ⟨g, off, none⟩) lb cb]).run Try.prog w = .ok (.value (.bool false)) w := by
  rw [run_callFunc_extern Try.func47 (by kernel_rfl) (by kernel_rfl) (by kernel_rfl) (e := Extern.SlicesOverlaps.overlaps #[22, 22] #[4]) (by kernel_rfl),
    Lib.run_overlaps_apart w 22 4 36 Try.underlying22 2 sizeOf36 ⟨vb, 0, none⟩ ⟨g, off, none⟩ 1 1 lb cb hne 36 36 cv.size cg.size (by simp [World.shape?, hv]) (by simp [World.shape?, hg]) hz (by simp [World.frozen?, hv]) (by simp [World.frozen?, hv])]
  rfl
set_option maxRecDepth 100000 in
theorem insert_end {w0 : World} {base n c : Nat} {A : Option Addr} {xs : List Value} (k v : Value) (hk1 : k.oneCell' = true) (hv1 : v.oneCell' = true) (ho : w0.ownsRow base 36 2 (.slice A n c) n xs) (hn : n ≤ 100000) (hb : base ≤ w0.heap.size) :
    Calls Try.prog 31 #[.slice A n c, .int .i64 n, .slice (some ⟨w0.heap.size, 0, none⟩) 1 1] (w0.alloc (.cells #[k, v] 36)) (InsIs base n (xs ++ [k, v]) w0) := by
  have HO := Lib.hid ho
  have hnc := own_cap ho
  have hA : A = none → n = 0 ∧ c = 0 := by
    rintro rfl
    rcases ho.2 with ⟨h1, h2⟩ | ⟨g, cap, cur, hv, _⟩
    · injection h1 with _ _ h3; exact ⟨h2, h3⟩
    · cases hv
  have hcs : base + c ≤ base + c := Nat.le_refl _
  clear ho hcs
  rcases A with _ | ⟨g, o, sp⟩
  · obtain ⟨rfl, rfl⟩ := hA rfl
    clear hA
    go_enter Try.func31, Try.ntmps31
    go_wp2_with (at_builtin; refine wpList_app w0 rfl _ _ 22 36 rfl Try.underlying22 (.agg #[.int .i64 0, .slice none 0 0]) [k, v] 2 32 infoRf rfl rfl (by decide) (by decide) base (.slice none 0 0) 0 _ rfl HO.out (two_rf k v hv1 hk1) _ rfl rfl (by omega) hb ?_; intro g4 cap4 w4 hown4 hG4 hg4; have HOW := Lib.hid hown4; have HG := Lib.hid hG4; clear hown4 hg4)
    go_ret
    exact ⟨_, cap4, rfl, HOW.out, fun W0 h1 h2 => HG.out.1 h1 h2⟩
  · obtain ⟨rfl, rfl⟩ : o = 0 ∧ sp = none := by
      rcases HO.out.2 with ⟨h1, _⟩ | ⟨g', cap, cur, hv, _⟩
      · cases h1
      · injection hv with h1; injection h1 with h1; injection h1 with h1 h2 h3; exact ⟨h2, h3⟩
    clear hA
    have q0 : (0 : Int) ≤ (n : Int) := by omega
    have q1 : (n : Int) ≤ (c : Int) := by omega
    go_enter Try.func31, Try.ntmps31
    go_wp2_with (at_builtin; refine wpList_app w0 rfl _ _ 22 36 rfl Try.underlying22 (.agg #[.int .i64 0, .slice none 0 0]) [k, v] 2 32 infoRf rfl rfl (by decide) (by decide) base (.slice (some ⟨g, 0, none⟩) n c) n _ rfl HO.out (two_rf k v hv1 hk1) _ rfl rfl (by omega) hb ?_; intro g4 cap4 w4 hown4 hG4 hg4; have HOW := Lib.hid hown4; have HG := Lib.hid hG4; clear hown4 hg4)
    all_goals
      go_ret
      exact ⟨_, cap4, rfl, HOW.out, fun W0 h1 h2 => HG.out.1 h1 h2⟩

theorem ins_cells (L : List Value) (a b : Nat) (x y : Value) (hab : a ≤ b) (hb : b + 2 ≤ L.length) (L1 : List Value) (h1 : L1 = L.take (a + 2) ++ (L.drop a).take (b - a) ++ L.drop (a + 2 + (b - a))) :
    (L1.take a ++ [x, y] ++ L1.drop (a + 2)).take (b + 2) = (L.take b).take a ++ [x, y] ++ (L.take b).drop a ∧ (L1.take a ++ [x, y] ++ L1.drop (a + 2)).length = L.length ∧ L1.length = L.length := by
  have e1 : L1.take a = L.take a := by
    rw [h1, List.append_assoc, List.take_append_of_le_length (by rw [List.length_take]; omega), List.take_take]
    congr 1; omega
  have e2 : L1.drop (a + 2) = (L.drop a).take (b - a) ++ L.drop (a + 2 + (b - a)) := by
    rw [h1, List.append_assoc, List.drop_append_of_le_length (by rw [List.length_take]; omega), List.drop_of_length_le (by rw [List.length_take]; omega), List.nil_append]
  have e3 : L1.length = L.length := by
    rw [h1]; simp only [List.length_append, List.length_take, List.length_drop]; omega
  refine ⟨?_, ?_, e3⟩
  · rw [e1, e2, ← List.append_assoc]
    rw [List.take_append_of_le_length (by simp only [List.length_append, List.length_take, List.length_drop, List.length_cons, List.length_nil]; omega)]
    rw [List.take_of_length_le (by simp only [List.length_append, List.length_take, List.length_drop, List.length_cons, List.length_nil]; omega)]
    congr 1
    · congr 1
      rw [List.take_take]; congr 1; omega
    · rw [List.drop_take]
  · simp only [List.length_append, List.length_take, List.length_drop, List.length_cons, List.length_nil, e3]; omega
set_option maxHeartbeats 4000000 in
set_option maxRecDepth 100000 in
theorem insert_room {w0 : World} {base n c g i : Nat} {xs : List Value} (k v : Value) (hk1 : k.oneCell' = true) (hv1 : v.oneCell' = true) (ho : w0.ownsRow base 36 2 (.slice (some ⟨g, 0, none⟩) n c) n xs) (hx1 : ∀ u ∈ xs, u.oneCell' = true) (hi : i < n) (hroom : n + 1 ≤ c) (hn : n ≤ 100000) (hb : base ≤ w0.heap.size) :
    Calls Try.prog 31 #[.slice (some ⟨g, 0, none⟩) n c, .int .i64 i, .slice (some ⟨w0.heap.size, 0, none⟩) 1 1] (w0.alloc (.cells #[k, v] 36)) (InsIs base n (xs.take (i * 2) ++ [k, v] ++ xs.drop (i * 2)) w0) := by
  obtain ⟨cur, hcur, hgb, hsz, htk, hcm⟩ : ∃ cur : Array Value, w0.heap[g]? = some (.cells cur 36 (0, 0)) ∧ base ≤ g ∧ cur.size = c * 2 ∧ cur.toList.take (n * 2) = xs ∧ c ≤ maxLen := by
    rcases ho.2 with ⟨h1, _⟩ | ⟨g', cap, cur, hv, h1, h2, h3, h4, h5, h6⟩
    · cases h1
    · injection hv with e1 e2 e3
      injection e1 with e1; injection e1 with e1
      subst e1; subst e3
      exact ⟨cur, h2, h1, h5, h6, h4⟩
  have hgw : g < w0.heap.size := by
    rcases Nat.lt_or_ge g w0.heap.size with h1 | h1
    · exact h1
    · rw [Array.getElem?_eq_none h1] at hcur; cases hcur
  unfold maxLen at hcm
  obtain ⟨w, hw⟩ : ∃ w, w = w0.alloc (.cells #[k, v] 36) := ⟨_, rfl⟩
  have hEw : Ext w0 w := by rw [hw]; exact (Ext.refl w0).alloc _
  have hgW : w.heap[g]? = some (.cells cur 36 (0, 0)) := by rw [hEw.block g hgw]; exact hcur
  have hvW : w.heap[w0.heap.size]? = some (.cells #[k, v] 36 (0, 0)) := by rw [hw]; exact heap_alloc_new w0 _
  have hov : ∀ lb cb, (callFunc 47 #[.slice (some ⟨w0.heap.size, 0, none⟩) 1 1, .slice (some ⟨g, (i + 1) * 2, none⟩) lb cb]).run Try.prog w = .ok (.value (.bool false)) w := fun lb cb => over_no hvW hgW (by omega) (by omega) _ _ _
  obtain ⟨cs1, hcs1⟩ : ∃ cs1, cs1 = (cur.toList.drop (i * 2)).take (n * 2 - i * 2) := ⟨_, rfl⟩
  have hcl : cs1.length = (n - i) * 2 := by rw [hcs1, List.length_take, List.length_drop, Array.length_toList]; omega
  obtain ⟨L1, hL1⟩ : ∃ L1, L1 = cur.toList.take (i * 2 + 2) ++ cs1 ++ cur.toList.drop (i * 2 + 2 + (n * 2 - i * 2)) := ⟨_, rfl⟩
  have hins := ins_cells cur.toList (i * 2) (n * 2) k v (by omega) (by rw [Array.length_toList]; omega) L1 (by rw [hL1, hcs1])
  rw [htk] at hins
  obtain ⟨hf1, hf2, hf3⟩ := hins
  have hcp1 : ∀ ty dc sc, (Builtin.copy_ #[22, 22] ty #[.slice (some ⟨g, (i + 1) * 2, none⟩) (n - i) dc, .slice (some ⟨g, i * 2, none⟩) (n + 1 - i) sc]).run Try.prog w.drew = .ok (goInt ((n - i : Nat) : Int)) (w.drew.setRow g L1.toArray) := fun ty dc sc => by
    have h := run_copy_rowN (P := Try.prog) w.drew 22 22 ty 36 2 g ((i + 1) * 2) (n - i) dc ⟨g, i * 2, none⟩ (n + 1 - i) sc cur 36 cs1 Try.underlying22 size36 hgW (by rw [hcl]; simp only [Nat.min_def]; split <;> omega) (fun j u hj => by
      rw [Addr.add_mid]
      have hj2 : j < cs1.length := by
        rcases Nat.lt_or_ge j cs1.length with h1 | h1
        · exact h1
        · rw [List.getElem?_eq_none h1] at hj; cases hj
      rw [hcs1, List.getElem?_take, if_pos (by omega), List.getElem?_drop, Array.getElem?_toList] at hj
      rw [cell_heap (w := w.drew) hgW]; exact hj) (by omega) (fun u hu => hx1 u (by
        rw [← htk, ← List.take_append_drop (i * 2) (cur.toList.take (n * 2)), List.drop_take]
        rw [hcs1] at hu
        exact List.mem_append_right _ hu))
    rw [h]
    have e1 : Nat.min (n + 1 - i) (n - i) = n - i := by simp only [Nat.min_def]; split <;> omega
    have e2 : (i + 1) * 2 = i * 2 + 2 := by omega
    rw [e1, e2, hL1]
    have e3 : i * 2 + 2 + cs1.length = i * 2 + 2 + (n * 2 - i * 2) := by rw [hcl]; omega
    rw [e3]
  obtain ⟨W1, hW1⟩ : ∃ W1, W1 = w.drew.setRow g L1.toArray := ⟨_, rfl⟩
  have hgW1 : W1.heap[g]? = some (.cells L1.toArray 36 (0, 0)) := by rw [hW1]; exact setRow_heap w.drew g cur _ 36 _ hgW
  have hvW1 : W1.heap[w0.heap.size]? = some (.cells #[k, v] 36 (0, 0)) := by rw [hW1, setRow_other _ _ _ _ (by omega)]; exact hvW
  obtain ⟨L2, hL2⟩ : ∃ L2, L2 = L1.take (i * 2) ++ [k, v] ++ L1.drop (i * 2 + 2) := ⟨_, rfl⟩
  rw [← hL2] at hf1 hf2
  have hcp2 : ∀ (W : World), W.heap = W1.heap → ∀ ty dc, (Builtin.copy_ #[22, 22] ty #[.slice (some ⟨g, i * 2, none⟩) (n + 1 - i) dc, .slice (some ⟨w0.heap.size, 0, none⟩) 1 1]).run Try.prog W = .ok (goInt 1) (W.setRow g L2.toArray) := fun W hW ty dc => by
    have h := run_copy_rowN (P := Try.prog) W 22 22 ty 36 2 g (i * 2) (n + 1 - i) dc ⟨w0.heap.size, 0, none⟩ 1 1 L1.toArray 36 [k, v] Try.underlying22 size36 (by rw [hW]; exact hgW1) (by simp only [Nat.min_def]; split <;> simp <;> omega) (fun j u hj => by
      rw [Addr.add_mid, Nat.zero_add, cell_heap (w := W) (by rw [hW]; exact hvW1)]
      simpa using hj) (by simp [hf3]; omega) (two_rf k v hv1 hk1)
    rw [h, hL2]
    have e1 : Nat.min 1 (n + 1 - i) = 1 := by simp only [Nat.min_def]; split <;> omega
    rw [e1]
    rfl
  rw [← hW1] at hcp1
  have hE1 : Ext w0 w.drew := hEw.drew
  have hfin : ∀ W : World, Below base w0 W → W.heap[g]? = some (.cells L1.toArray 36 (0, 0)) → InsIs base n (xs.take (i * 2) ++ [k, v] ++ xs.drop (i * 2)) w0 (.returned (.slice (some ⟨g, 0, none⟩) (n + 1) c)) (W.setRow g L2.toArray) := fun W hB hgw2 => by
    refine ⟨_, _, rfl, ⟨?_, .inr ⟨g, c, L2.toArray, rfl, hgb, setRow_heap W g _ _ 36 _ hgw2, hroom, by unfold maxLen; omega, by simp [hf2]; omega, ?_⟩⟩, fun W0 h1 h2 => ?_⟩
    · have h1 := congrArg List.length htk
      rw [List.length_take, Array.length_toList] at h1
      simp only [List.length_append, List.length_take, List.length_drop, List.length_cons, List.length_nil]
      omega
    · show L2.take ((n + 1) * 2) = _
      rw [show (n + 1) * 2 = n * 2 + 2 by omega]; exact hf1
    · exact Below.trans h1 ((below_setRow hB hgb _).mono h2)
  have HFIN := Lib.hid hfin
  have HX := Lib.hid hgW1
  have q1 : ¬ (i : Int) = (n : Int) := by omega
  have q2 : ¬ (c : Int) < (n : Int) + 1 := by omega
  have q3 : decide ((c : Int) < (n : Int) + 1) = false := by simp; omega
  have q4 : (0 : Int) ≤ (i : Int) := by omega
  have q5 : (i : Int) ≤ (n : Int) := by omega
  have q6 : (n : Int) + 1 ≤ (c : Int) := by omega
  have q7 : (i : Int) ≤ (c : Int) := by omega
  have hw1 : IntKind.i64.wrap ((i : Int) + 1) = ((i + 1 : Nat) : Int) := by rw [IntWalk.i64_in _ (by omega)]; omega
  have mixed : Try.prog.follows Departure.mixedOrders = true := by kernel_rfl
  have hb1 : (0 : Int) ≤ (i : Int) + 1 := by omega
  have htn : ((i : Int) + 1).toNat = i + 1 := by omega
  have hb3 : (i : Int) ≤ (n : Int) + 1 := by omega
  have hin : i ≤ n := by omega
  have hb2 : ¬ (c = i + 1) := by omega
  have hb4 : ¬ (c = i) := by omega
  have hBW : Hid (Below base w0 W1) := Lib.hid (by rw [hW1]; exact below_setRow ((hEw.drew).mono hb) hgb _)
  rw [← hw]
  obtain ⟨XS, hXS⟩ : ∃ XS, XS = xs.take (i * 2) ++ [k, v] ++ xs.drop (i * 2) := ⟨_, rfl⟩
  rw [← hXS] at HFIN ⊢
  clear hw hXS hgW1 hvW1 hfin hL2 hf1 hf2 hf3 hL1 hcs1 hcl hgW hvW hcur hsz htk ho hx1 hE1
  go_enter Try.func31, Try.ntmps31
  go_wp2_with (simp only [hov])
  go_region_law_o (refine step_copy_runI rfl _ _ 22 22 rfl _ _ (by simp [Act.eval, Act.put]) (by simp [Act.eval, Act.put]) (hcp1 _ _ _) ?_)
  go_wp2_with (at_builtin; refine wpList_copy_runI _ rfl _ _ 22 22 rfl _ _ rfl rfl (hcp2 _ rfl _ _) ?_)
  go_ret
  subst hW1
  exact HFIN.out _ hBW.out HX.out

theorem grow_cells (xs Z : List Value) (a b : Nat) (x y : Value) (hab : a ≤ b) (hx : xs.length = b) (hZ : b + 2 - a ≤ Z.length) (R1 : List Value) (h1 : R1 = (xs.take a ++ Z).take a ++ [x, y] ++ (xs.take a ++ Z).drop (a + 2)) :
    (R1.take (a + 2) ++ xs.drop a ++ R1.drop (a + 2 + (b - a))).take (b + 2) = xs.take a ++ [x, y] ++ xs.drop a ∧ (R1.take (a + 2) ++ xs.drop a ++ R1.drop (a + 2 + (b - a))).length = a + Z.length ∧ R1.length = a + Z.length := by
  have l0 : (xs.take a).length = a := by rw [List.length_take]; omega
  have e0 : (xs.take a ++ Z).take a = xs.take a := by rw [List.take_append_of_le_length (by omega), List.take_of_length_le (by omega)]
  have e3 : R1.length = a + Z.length := by
    rw [h1, e0]; simp only [List.length_append, List.length_take, List.length_drop, List.length_cons, List.length_nil]; omega
  have e1 : R1.take (a + 2) = xs.take a ++ [x, y] := by
    rw [h1, e0, List.take_append_of_le_length (by simp only [List.length_append, List.length_take, List.length_cons, List.length_nil]; omega), List.take_of_length_le (by simp only [List.length_append, List.length_take, List.length_cons, List.length_nil]; omega)]
  refine ⟨?_, ?_, e3⟩
  · rw [e1, List.take_append_of_le_length (by simp only [List.length_append, List.length_take, List.length_drop, List.length_cons, List.length_nil]; omega), List.take_of_length_le (by simp only [List.length_append, List.length_take, List.length_drop, List.length_cons, List.length_nil]; omega)]
  · rw [e1]; simp only [List.length_append, List.length_take, List.length_drop, List.length_cons, List.length_nil, e3]; omega
set_option maxHeartbeats 4000000 in
set_option maxRecDepth 100000 in
theorem insert_grow {w0 : World} {base n c g i : Nat} {xs : List Value} (k v : Value) (hk1 : k.oneCell' = true) (hv1 : v.oneCell' = true) (ho : w0.ownsRow base 36 2 (.slice (some ⟨g, 0, none⟩) n c) n xs) (hx1 : ∀ u ∈ xs, u.oneCell' = true) (hi : i < n) (hroom : c < n + 1) (hn : n ≤ 100000) (hb : base ≤ w0.heap.size) :
    Calls Try.prog 31 #[.slice (some ⟨g, 0, none⟩) n c, .int .i64 i, .slice (some ⟨w0.heap.size, 0, none⟩) 1 1] (w0.alloc (.cells #[k, v] 36)) (InsIs base n (xs.take (i * 2) ++ [k, v] ++ xs.drop (i * 2)) w0) := by
  obtain ⟨cur, hcur, hnc, hsz, htk⟩ : ∃ cur : Array Value, w0.heap[g]? = some (.cells cur 36 (0, 0)) ∧ n ≤ c ∧ cur.size = c * 2 ∧ cur.toList.take (n * 2) = xs := by
    rcases ho.2 with ⟨h1, _⟩ | ⟨g', cap, cur, hv, h1, h2, h3, h4, h5, h6⟩
    · cases h1
    · injection hv with e1 e2 e3
      injection e1 with e1; injection e1 with e1
      subst e1; subst e3
      exact ⟨cur, h2, h3, h5, h6⟩
  have hgw : g < w0.heap.size := by
    rcases Nat.lt_or_ge g w0.heap.size with h1 | h1
    · exact h1
    · rw [Array.getElem?_eq_none h1] at hcur; cases hcur
  have hxl : xs.length = n * 2 := ho.1
  obtain ⟨w, hw⟩ : ∃ w, w = w0.alloc (.cells #[k, v] 36) := ⟨_, rfl⟩
  have hEw : Ext w0 w := by rw [hw]; exact (Ext.refl w0).alloc _
  have hgW : w.heap[g]? = some (.cells cur 36 (0, 0)) := by rw [hEw.block g hgw]; exact hcur
  have hvW : w.heap[w0.heap.size]? = some (.cells #[k, v] 36 (0, 0)) := by rw [hw]; exact heap_alloc_new w0 _
  have hsW : w.heap.size = w0.heap.size + 1 := by rw [hw]; simp
  have hcellx : ∀ j u, xs[j]? = some u → ∀ W : World, W.heap[g]? = some (.cells cur 36 (0, 0)) → W.cell? ⟨g, j, none⟩ = some u := fun j u hj W hW => by
    rw [cell_heap hW, ← Array.getElem?_toList]
    rw [← htk, List.getElem?_take] at hj
    split at hj
    · exact hj
    · cases hj
  obtain ⟨i0, hi0, hz0, hzs, hzb⟩ := info_parts infoRf
  have hold : (Builtin.firstCells i0.size i (.slice (some ⟨g, 0, none⟩) i c)).run Try.prog w.drew = .ok (xs.take (i * 2)).toArray w.drew := by
    rw [hzs]
    exact run_firstCells_some w.drew 2 i ⟨g, 0, none⟩ i c (xs.take (i * 2)) (by rw [List.length_take]; omega) (fun j u hj => by
      rw [Addr.add_mid, Nat.zero_add]
      rw [List.getElem?_take] at hj
      split at hj
      · exact hcellx j u hj w.drew hgW
      · cases hj)
  have hik : i + (n + 1 - i) = n + 1 := by omega
  obtain ⟨G, hG⟩ : ∃ G, G = grownCap w (n + 1) c 36 := ⟨_, rfl⟩
  have hGn : n + 1 ≤ G := by rw [hG]; exact grownCap_ge w _ _ _
  have hGm : G ≤ maxLen := by rw [hG]; exact grownCap_le_maxLen w (n + 1) c 36 (by unfold maxLen; omega)
  obtain ⟨Z, hZ⟩ : ∃ Z : List Value, Z = (Builtin.zeroCells (Value.agg #[.int .i64 0, .slice none 0 0]).cells (n + 1 - i) ++ Builtin.zeroCells (Value.agg #[.int .i64 0, .slice none 0 0]).cells (G - (n + 1))).toList := ⟨_, rfl⟩
  have hZl : Z.length = (G - i) * 2 := by
    rw [hZ]
    simp [Builtin.zeroCells, Value.cells]
    omega
  have hrz : ∀ ty, (Builtin.append_ #[22, 3] ty #[.slice (some ⟨g, 0, none⟩) i c, .int .i64 ((n : Int) + 1 - (i : Int))]).run Try.prog w = .ok (.slice (some ⟨w.heap.size, 0, none⟩) (n + 1) G) (w.drew.alloc (.cells (xs.take (i * 2) ++ Z).toArray 36)) := fun ty => by
    have h := Lib.run_append_grow_zeros (P := Try.prog) w 22 3 ty 36 i0 _ .i64 .i64 Try.underlying22 Try.underlying3 hi0 hz0 (some ⟨g, 0, none⟩) i c (xs.take (i * 2)) hold (n + 1 - i) (by omega) (by omega) (by omega) (by omega) (by rw [hzb]; omega) (by rw [hzb, hik]; exact growslice_fits hroom (by omega))
    rw [hik, ← hG] at h
    rw [show (n : Int) + 1 - (i : Int) = ((n + 1 - i : Nat) : Int) by omega, hZ]
    rw [h]
    have e : ∀ (ZA ZB : Array Value), (xs.take (i * 2)).toArray ++ ZA ++ ZB = (xs.take (i * 2) ++ (ZA ++ ZB).toList).toArray := fun ZA ZB => by
      apply Array.ext'
      simp
    rw [e]
  have hgc := grow_cells xs Z (i * 2) (n * 2) k v (by omega) hxl (by omega)
  obtain ⟨R0, hR0⟩ : ∃ R0, R0 = xs.take (i * 2) ++ Z := ⟨_, rfl⟩
  rw [← hR0] at hrz hgc
  have hR0l : R0.length = G * 2 := by rw [hR0, List.length_append, List.length_take]; omega
  obtain ⟨R1, hR1⟩ : ∃ R1, R1 = R0.take (i * 2) ++ [k, v] ++ R0.drop (i * 2 + 2) := ⟨_, rfl⟩
  obtain ⟨hf1, hf2, hf3⟩ := hgc R1 hR1
  obtain ⟨R2, hR2⟩ : ∃ R2, R2 = R1.take (i * 2 + 2) ++ xs.drop (i * 2) ++ R1.drop (i * 2 + 2 + (n * 2 - i * 2)) := ⟨_, rfl⟩
  rw [← hR2] at hf1 hf2
  obtain ⟨W1, hW1⟩ : ∃ W1, W1 = w.drew.alloc (.cells R0.toArray 36) := ⟨_, rfl⟩
  have hEW1 : Ext w W1 := by rw [hW1]; exact ((Ext.refl w).drew).alloc _
  have hnew : W1.heap[w.heap.size]? = some (.cells R0.toArray 36 (0, 0)) := by rw [hW1]; exact heap_alloc_new w.drew _
  have hvW1 : W1.heap[w0.heap.size]? = some (.cells #[k, v] 36 (0, 0)) := by rw [hEW1.block _ (by omega)]; exact hvW
  have hgW1 : W1.heap[g]? = some (.cells cur 36 (0, 0)) := by rw [hEW1.block _ (by omega)]; exact hgW
  have hcpA : ∀ (W : World), W.heap = W1.heap → ∀ ty dc, (Builtin.copy_ #[22, 22] ty #[.slice (some ⟨w.heap.size, i * 2, none⟩) (n + 1 - i) dc, .slice (some ⟨w0.heap.size, 0, none⟩) 1 1]).run Try.prog W = .ok (goInt 1) (W.setRow w.heap.size R1.toArray) := fun W hW ty dc => by
    have h := run_copy_rowN (P := Try.prog) W 22 22 ty 36 2 w.heap.size (i * 2) (n + 1 - i) dc ⟨w0.heap.size, 0, none⟩ 1 1 R0.toArray 36 [k, v] Try.underlying22 size36 (by rw [hW]; exact hnew) (by simp only [Nat.min_def]; split <;> simp <;> omega) (fun j u hj => by
      rw [Addr.add_mid, Nat.zero_add, cell_heap (w := W) (by rw [hW]; exact hvW1)]
      simpa using hj) (by simp [hR0l]; omega) (two_rf k v hv1 hk1)
    rw [h, hR1]
    have e1 : Nat.min 1 (n + 1 - i) = 1 := by simp only [Nat.min_def]; split <;> omega
    rw [e1]
    rfl
  have hcpB : ∀ (W : World), W.heap[w.heap.size]? = some (.cells R1.toArray 36 (0, 0)) → W.heap[g]? = some (.cells cur 36 (0, 0)) → ∀ ty dc sc, (Builtin.copy_ #[22, 22] ty #[.slice (some ⟨w.heap.size, (i + 1) * 2, none⟩) (n - i) dc, .slice (some ⟨g, i * 2, none⟩) (n - i) sc]).run Try.prog W = .ok (goInt ((n - i : Nat) : Int)) (W.setRow w.heap.size R2.toArray) := fun W hWn hWg ty dc sc => by
    have hdl : (xs.drop (i * 2)).length = n * 2 - i * 2 := by rw [List.length_drop, hxl]
    have h := run_copy_rowN (P := Try.prog) W 22 22 ty 36 2 w.heap.size ((i + 1) * 2) (n - i) dc ⟨g, i * 2, none⟩ (n - i) sc R1.toArray 36 (xs.drop (i * 2)) Try.underlying22 size36 hWn (by rw [hdl]; simp only [Nat.min_def]; split <;> omega) (fun j u hj => by
      rw [Addr.add_mid]
      rw [List.getElem?_drop] at hj
      exact hcellx _ u hj W hWg) (by simp [hf3, hdl, hZl]; omega) (fun u hu => hx1 u (List.mem_of_mem_drop hu))
    rw [h, hR2, hdl]
    have e1 : Nat.min (n - i) (n - i) = n - i := Nat.min_self _
    have e2 : (i + 1) * 2 = i * 2 + 2 := by omega
    rw [e1, e2]
  have hfin : ∀ W : World, Ext w0 W → W.heap[w.heap.size]? = some (.cells R2.toArray 36 (0, 0)) → InsIs base n (xs.take (i * 2) ++ [k, v] ++ xs.drop (i * 2)) w0 (.returned (.slice (some ⟨w.heap.size, 0, none⟩) (n + 1) G)) W := fun W hB hgw2 => by
    refine ⟨_, _, rfl, ⟨?_, .inr ⟨w.heap.size, G, R2.toArray, rfl, by omega, hgw2, hGn, hGm, by simp [hf2, hZl]; omega, ?_⟩⟩, fun W0 h1 h2 => h1.trans hB⟩
    · simp only [List.length_append, List.length_take, List.length_drop, List.length_cons, List.length_nil]
      omega
    · show R2.take ((n + 1) * 2) = _
      rw [show (n + 1) * 2 = n * 2 + 2 by omega]; exact hf1
  have hstep : ∀ W : World, W.heap = W1.heap → (W.setRow w.heap.size R1.toArray).heap[w.heap.size]? = some (.cells R1.toArray 36 (0, 0)) ∧ (W.setRow w.heap.size R1.toArray).heap[g]? = some (.cells cur 36 (0, 0)) := fun W hW => by
    refine ⟨setRow_heap W _ _ _ 36 _ (by rw [hW]; exact hnew), ?_⟩
    rw [setRow_other _ _ _ _ (by omega), hW]; exact hgW1
  have HFIN := Lib.hid hfin
  have HST := Lib.hid hstep
  have HWE : Hid (Ext w0 W1) := Lib.hid (hEw.trans hEW1)
  have HSW := Lib.hid hsW
  have HB := Lib.hid hb
  have q1 : ¬ (i : Int) = (n : Int) := by omega
  have q2 : (c : Int) < (n : Int) + 1 := by omega
  have q4 : (0 : Int) ≤ (i : Int) := by omega
  have q5 : (i : Int) ≤ (n : Int) := by omega
  have q7 : (i : Int) ≤ (c : Int) := by omega
  have hw1 : IntKind.i64.wrap ((i : Int) + 1) = ((i + 1 : Nat) : Int) := by rw [IntWalk.i64_in _ (by omega)]; omega
  have mixed : Try.prog.follows Departure.mixedOrders = true := by kernel_rfl
  have hb1 : (0 : Int) ≤ (i : Int) + 1 := by omega
  have htn : ((i : Int) + 1).toNat = i + 1 := by omega
  have hin : i ≤ n := by omega
  have hci : ¬ (c = i) := by omega
  have hGi : ¬ (G = i) := by omega
  have hGim : ¬ (G = i + 1) := by omega
  have hG63 : G ≤ 9223372036854775807 := by unfold maxLen at hGm; omega
  have hiG : (i : Int) ≤ (G : Int) := by omega
  have hi1 : (i : Int) ≤ (n : Int) + 1 := by omega
  rw [← hw]
  obtain ⟨XS, hXS⟩ : ∃ XS, XS = xs.take (i * 2) ++ [k, v] ++ xs.drop (i * 2) := ⟨_, rfl⟩
  rw [← hXS] at HFIN ⊢
  obtain ⟨b2, hb2⟩ : ∃ b2, b2 = w.heap.size := ⟨_, rfl⟩
  rw [← hb2] at hrz hcpA hcpB HFIN HST HSW
  rw [← hW1] at hrz
  have HW1 := Lib.hid hW1
  clear hw hXS hb2 hW1 hgW hvW hcur hsz htk ho hx1 hold hi0 hz0 hzs hzb hik hG hZ hZl hR0 hR0l hR1 hR2 hf1 hf2 hf3 hgc hnew hvW1 hgW1 hfin hstep hcellx hEw hEW1 hsW hxl hb
  go_enter Try.func31, Try.ntmps31
  go_wp2_with (first
    | (at_builtin; refine Lib.wpList_append_run _ rfl _ _ _ _ rfl _ _ rfl rfl _ _ (hrz _) ?_)
    | (at_builtin; refine wpList_copy_runI _ rfl _ _ 22 22 rfl _ _ rfl rfl (hcpA _ rfl _ _) ?_))
  have hS := HST.out W1 rfl
  have hcB := hcpB ((W1.setRow b2 R1.toArray).drew) hS.1 hS.2
  have HSS := Lib.hid hS
  clear hS hcpB
  go_region_law_o (refine step_copy_runI rfl _ _ 22 22 rfl (.slice (some ⟨b2, (i + 1) * 2, none⟩) (n - i) (G - (i + 1))) (.slice (some ⟨g, i * 2, none⟩) (n - i) (c - i)) (by simp [Act.eval, Act.put]) (by simp [Act.eval, Act.put]) (hcB _ _ _) ?_)
  go_wp2
  go_ret
  refine HFIN.out _ ?_ (setRow_heap (W1.setRow b2 R1.toArray).drew b2 _ _ 36 _ HSS.out.1)
  have hsz := HSW.out
  exact below_setRow ((below_setRow HWE.out (by omega) _).drew) (by omega) _
