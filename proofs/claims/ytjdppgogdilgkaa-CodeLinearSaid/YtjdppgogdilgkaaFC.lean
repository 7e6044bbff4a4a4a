import Derived.Test.YtjdppgogdilgkaaFB
import Derived.Deep.RegionLaw
section
namespace Go.Proofs.Ytjdppgogdilgkaa
open Go.RowKit Go.Gf
set_option linter.unusedVariables false
set_option linter.unusedSimpArgs false
def takenR (k r : Nat) (l : List Pt) : List Nat := (idxs (k + r) l).take k
def partsP (k r : Nat) (l : List Pt) : List Pt := (takenR k r l).map (fun (i : Nat) => ((i : Int), txtL l i))
theorem idxs_nodup (N : Nat) (l : List Pt) : (idxs N l).Nodup := List.nodup_range.filter _
theorem takenR_nodup (k r : Nat) (l : List Pt) : (takenR k r l).Nodup := (idxs_nodup _ l).sublist (List.take_sublist _ _)
theorem takenR_lt (k r : Nat) (l : List Pt) : ∀ x ∈ takenR k r l, x < k + r := fun x hx => by
  have := List.mem_of_mem_take hx
  unfold idxs at this
  rw [List.mem_filter, List.mem_range] at this
  exact this.1
theorem takenR_some (k r : Nat) (l : List Pt) : ∀ x ∈ takenR k r l, (getM l (x : Int)).isSome = true := fun x hx => by
  have := List.mem_of_mem_take hx
  unfold idxs at this
  rw [List.mem_filter] at this
  exact this.2
theorem takenR_len (k r : Nat) (l : List Pt) (h : k ≤ (idxs (k + r) l).length) : (takenR k r l).length = k := by unfold takenR; rw [List.length_take]; omega
theorem partsP_len (k r : Nat) (l : List Pt) (h : k ≤ (idxs (k + r) l).length) : (partsP k r l).length = k := by unfold partsP; rw [List.length_map, takenR_len k r l h]
theorem rowsP (k r : Nat) (l : List Pt) : rowsM k r (partsP k r l) = (takenR k r l).map (fun i => (everyM k r).getD i { data := #[] }) := by
  unfold rowsM partsP
  rw [List.map_map]
  rfl
theorem everyM_tow (k r i : Nat) (hi : i < k + r) : (everyM k r).getD i { data := #[] } = (towM k (r + 1)).getD i { data := #[] } := by
  have h1 : i < (everyM k r).length := by rw [everyM_len]; omega
  have h2 : i < (towM k (r + 1)).length := by rw [towM_len]; omega
  unfold everyM towM
  by_cases h : i < k
  · simp only [List.getD_eq_getElem?_getD]
    rw [List.getElem?_append_left (by rw [unitM_len]; exact h), List.getElem?_append_left (by rw [unitM_len]; exact h)]
  · have e : ∀ t, i < k + t → (unitM k ++ mkM t k (cauchyF k)).getD i { data := #[] } = strN k (cauchyF k (i - k)) := fun t ht => by
      rw [List.getD_eq_getElem?_getD, List.getElem?_append_right (by rw [unitM_len]; omega), unitM_len, ← List.getD_eq_getElem?_getD, mkM_get _ _ _ _ (by omega)]
    rw [e r (by omega), e (r + 1) (by omega)]
theorem rows_undo (k r : Nat) (hk : 1 ≤ k) (h : k + r ≤ 32) (R : List Nat) (hl : R.length = k) (hR : ∀ x ∈ R, x < k + r) (hn : R.Nodup) :
    ∃ M, M = R.map (fun i => (everyM k r).getD i { data := #[] }) ∧ mayP M ∧ len0 M = k ∧ M.length = k ∧ undoE M = 0 := by
  have hR2 : ∀ x ∈ R, x < k + (r + 1) := fun x hx => by have := hR x hx; omega
  have e : R.map (fun i => (everyM k r).getD i { data := #[] }) = pickL (towM k (r + 1)) (asI R) := by
    unfold pickL asI
    rw [List.map_map]
    exact List.map_congr_left fun x hx => by
      show _ = (towM k (r + 1)).getD ((x : Int)).toNat { data := #[] }
      rw [everyM_tow k r x (hR x hx)]; rfl
  have h1 := tow_pick (k := k) (t := r + 1) hk (by omega) (by omega) hl hR2
  have h2 := tow_undo (k := k) (t := r + 1) hk (by omega) (by omega) hl hR2 hn
  exact ⟨_, e.symm ▸ rfl, h1.1, h1.2.1, h1.2.2, h2⟩
theorem partsP_undo (k r : Nat) (hk : 1 ≤ k) (h : k + r ≤ 32) (l : List Pt) (hl : k ≤ (idxs (k + r) l).length) :
    mayP (rowsM k r (partsP k r l)) ∧ len0 (rowsM k r (partsP k r l)) = k ∧ (rowsM k r (partsP k r l)).length = k ∧ undoE (rowsM k r (partsP k r l)) = 0 ∧ (undoV (rowsM k r (partsP k r l))).length = k := by
  obtain ⟨M, hM, h1, h2, h3, h4⟩ := rows_undo k r hk h (takenR k r l) (takenR_len k r l hl) (takenR_lt k r l) (takenR_nodup k r l)
  rw [rowsP, ← hM]
  exact ⟨h1, h2, h3, h4, by rw [(undo_sound M h1 (by omega) h4).2.1, h3]⟩
open Classical in
noncomputable def gathE (k r t : Nat) (l : List Pt) : Int :=
  if okTo (k + r) l l.length then (if (idxs (k + r) l).length < k then 60 else if (txtL l ((takenR k r l).getD 0 0)).size = sizeN k t then 0 else 61) else 61
open Classical in
noncomputable def gathV (k r t : Nat) (l : List Pt) : ByteArray :=
  if okTo (k + r) l l.length ∧ k ≤ (idxs (k + r) l).length ∧ (txtL l ((takenR k r l).getD 0 0)).size = sizeN k t then (joinT (solvedV k r (partsP k r l))).extract 0 t else { data := #[] }
theorem gath_bad {k r t : Nat} {l : List Pt} (h : ¬ okTo (k + r) l l.length) : gathE k r t l = 61 ∧ gathV k r t l = { data := #[] } := by
  unfold gathE gathV; rw [if_neg h, if_neg (fun x => h x.1)]; exact ⟨rfl, rfl⟩
theorem gath_few {k r t : Nat} {l : List Pt} (h : okTo (k + r) l l.length) (h2 : (idxs (k + r) l).length < k) : gathE k r t l = 60 ∧ gathV k r t l = { data := #[] } := by
  unfold gathE gathV; rw [if_pos h, if_pos h2, if_neg (fun x => by have := x.2.1; omega)]; exact ⟨rfl, rfl⟩
theorem gath_size {k r t : Nat} {l : List Pt} (h : okTo (k + r) l l.length) (h2 : k ≤ (idxs (k + r) l).length) (h3 : (txtL l ((takenR k r l).getD 0 0)).size ≠ sizeN k t) : gathE k r t l = 61 ∧ gathV k r t l = { data := #[] } := by
  unfold gathE gathV; rw [if_pos h, if_neg (by omega), if_neg h3, if_neg (fun x => h3 x.2.2)]; exact ⟨rfl, rfl⟩
theorem gath_ok {k r t : Nat} {l : List Pt} (h : okTo (k + r) l l.length) (h2 : k ≤ (idxs (k + r) l).length) (h3 : (txtL l ((takenR k r l).getD 0 0)).size = sizeN k t) : gathE k r t l = 0 ∧ gathV k r t l = (joinT (solvedV k r (partsP k r l))).extract 0 t := by
  unfold gathE gathV; rw [if_pos h, if_neg (by omega), if_pos h3, if_pos ⟨h, h2, h3⟩]; exact ⟨rfl, rfl⟩
open Classical in
noncomputable def agnE (k r : Nat) (l : List Pt) : Int := if okTo (k + r) l l.length then (if (idxs (k + r) l).length < k then 60 else 0) else 61
open Classical in
noncomputable def agnV (k r i : Nat) (l : List Pt) : ByteArray :=
  if okTo (k + r) l l.length ∧ k ≤ (idxs (k + r) l).length then sumV ((everyM k r).getD i { data := #[] }) (solvedV k r (partsP k r l)) else { data := #[] }
theorem agn_bad {k r i : Nat} {l : List Pt} (h : ¬ okTo (k + r) l l.length) : agnE k r l = 61 ∧ agnV k r i l = { data := #[] } := by
  unfold agnE agnV; rw [if_neg h, if_neg (fun x => h x.1)]; exact ⟨rfl, rfl⟩
theorem agn_few {k r i : Nat} {l : List Pt} (h : okTo (k + r) l l.length) (h2 : (idxs (k + r) l).length < k) : agnE k r l = 60 ∧ agnV k r i l = { data := #[] } := by
  unfold agnE agnV; rw [if_pos h, if_pos h2, if_neg (fun x => by have := x.2; omega)]; exact ⟨rfl, rfl⟩
theorem agn_ok {k r i : Nat} {l : List Pt} (h : okTo (k + r) l l.length) (h2 : k ≤ (idxs (k + r) l).length) : agnE k r l = 0 ∧ agnV k r i l = sumV ((everyM k r).getD i { data := #[] }) (solvedV k r (partsP k r l)) := by
  unfold agnE agnV; rw [if_pos h, if_neg (by omega), if_pos ⟨h, h2⟩]; exact ⟨rfl, rfl⟩
theorem ok_size {N : Nat} {l : List Pt} (h : okTo N l l.length) {p : Pt} (hp : p ∈ l) : p.2.size = zL l := by
  obtain ⟨i, hi, rfl⟩ := List.mem_iff_getElem.1 hp
  have := h i hi _ (List.getElem?_eq_getElem hi)
  unfold badB at this
  simp at this
  exact this.1.2
theorem txt_size {k r : Nat} {l : List Pt} (h : okTo (k + r) l l.length) : ∀ x ∈ takenR k r l, (txtL l x).size = zL l := fun x hx => by
  obtain ⟨p, hp⟩ := Option.isSome_iff_exists.1 (takenR_some k r l x hx)
  unfold txtL
  rw [hp]
  exact ok_size h (getM_mem hp).1
theorem partsP_size {k r : Nat} {l : List Pt} (h : okTo (k + r) l l.length) : ∀ p ∈ partsP k r l, p.2.size = zL l := fun p hp => by
  obtain ⟨x, hx, rfl⟩ := List.mem_map.1 hp
  exact txt_size h x hx
theorem partsP_idx (k r : Nat) (l : List Pt) : ∀ p ∈ partsP k r l, 0 ≤ p.1 ∧ p.1 < (k : Int) + (r : Int) := fun p hp => by
  obtain ⟨x, hx, rfl⟩ := List.mem_map.1 hp
  have := takenR_lt k r l x hx
  simp only
  omega
theorem partsP_texts (k r : Nat) (l : List Pt) : (partsP k r l).map (·.2) = (takenR k r l).map (txtL l) := by
  unfold partsP; rw [List.map_map]; rfl
theorem solved_size {k r : Nat} (hk : 1 ≤ k) (h : k + r ≤ 32) {l : List Pt} (ho : okTo (k + r) l l.length) (hl : k ≤ (idxs (k + r) l).length) : (solvedV k r (partsP k r l)).length = k ∧ ∀ s ∈ solvedV k r (partsP k r l), s.size = zL l := by
  obtain ⟨h1, h2, h3, h4, h5⟩ := partsP_undo k r hk h l hl
  refine ⟨by simp [solvedV], fun s hs => ?_⟩
  unfold solvedV at hs
  obtain ⟨i, hi, rfl⟩ := List.mem_map.1 hs
  rw [List.mem_range] at hi
  have hu := undo_sound _ h1 (by omega) h4
  have hpl := partsP_len k r l hl
  have hi2 : i < (undoV (rowsM k r (partsP k r l))).length := by omega
  have hsz : ((undoV (rowsM k r (partsP k r l))).getD i { data := #[] }).size = k := by
    rw [getD_at _ _ hi2, hu.1.2.2 _ (List.getElem_mem _), hu.2.2.1, h3]
  have hall : ∀ t ∈ (partsP k r l).map (·.2), t.size = zL l := fun t ht => by
    obtain ⟨p, hp, rfl⟩ := List.mem_map.1 ht
    exact partsP_size ho p hp
  have hlen : ((partsP k r l).map (·.2)).length = k := by rw [List.length_map]; exact hpl
  have hl0 : len0 ((partsP k r l).map (·.2)) = zL l := by
    rw [len0_eq (by omega)]
    exact hall _ (List.getElem_mem _)
  have := sum_yes ((undoV (rowsM k r (partsP k r l))).getD i { data := #[] }) ((partsP k r l).map (·.2)) ⟨by rw [hsz, hlen], fun t ht => by rw [hl0]; exact hall t ht⟩
  rw [this.1, strN_size, hl0]
end Go.Proofs.Ytjdppgogdilgkaa
end
section
namespace Go.Proofs.Ytjdppgogdilgkaa
open Go.RowKit Go.Gf
set_option linter.unusedVariables false
set_option linter.unusedSimpArgs false
theorem joinT_app (a : List ByteArray) (x : ByteArray) : joinT (a ++ [x]) = joinT a ++ x := by
  unfold joinT
  rw [List.map_append, List.flatten_append]
  apply ByteArray.ext
  simp [ByteArray.data_append]
theorem joinT_size (L : List ByteArray) (z : Nat) (h : ∀ s ∈ L, s.size = z) : (joinT L).size = L.length * z := by
  induction L with
  | nil => simp [joinT, ByteArray.size]
  | cons x L ih =>
    have e : (joinT (x :: L)).size = x.size + (joinT L).size := by
      unfold joinT
      simp only [ByteArray.size, List.map_cons, List.flatten_cons, List.size_toArray, List.length_append, Array.length_toList]
    rw [e, h x List.mem_cons_self, ih (fun s hs => h s (List.mem_cons_of_mem _ hs)), List.length_cons, Nat.succ_mul, Nat.add_comm]
theorem rfirsts_bad {k r : Nat} (hk : 1 ≤ k) (h : k + r ≤ 32) {A : Option Addr} {n cap : Nat} {l : List Pt} {w : World} (hr : PtRd w A n l) (hn : n ≤ 1048576) (hz : ∀ p ∈ l, p.2.size ≤ 1048576) (hi : ∀ p ∈ l, -9223372036854775808 ≤ p.1 ∧ p.1 ≤ 9223372036854775807) (ho : ¬ okTo (k + r) l l.length) :
    Calls Try.prog 30 #[.int .i64 k, .int .i64 r, .slice A n cap] w fun e w' => e = .returned (.tuple #[.slice none 0 0, .int .i64 61]) ∧ Ext w w' :=
  (rfirsts_any k r hk h A n cap l w hr hn hz hi).mono fun e w' q => by
    rcases q with ⟨_, q⟩ | ⟨q, _⟩ | ⟨q, _⟩
    · exact q
    · exact absurd q ho
    · exact absurd q ho
theorem rfirsts_few {k r : Nat} (hk : 1 ≤ k) (h : k + r ≤ 32) {A : Option Addr} {n cap : Nat} {l : List Pt} {w : World} (hr : PtRd w A n l) (hn : n ≤ 1048576) (hz : ∀ p ∈ l, p.2.size ≤ 1048576) (hi : ∀ p ∈ l, -9223372036854775808 ≤ p.1 ∧ p.1 ≤ 9223372036854775807) (ho : okTo (k + r) l l.length) (hf : (idxs (k + r) l).length < k) :
    Calls Try.prog 30 #[.int .i64 k, .int .i64 r, .slice A n cap] w fun e w' => e = .returned (.tuple #[.slice none 0 0, .int .i64 60]) ∧ Ext w w' :=
  (rfirsts_any k r hk h A n cap l w hr hn hz hi).mono fun e w' q => by
    rcases q with ⟨q, _⟩ | ⟨_, _, q⟩ | ⟨_, q, _⟩
    · exact absurd ho q
    · exact q
    · omega
theorem rfirsts_ok {k r : Nat} (hk : 1 ≤ k) (h : k + r ≤ 32) {A : Option Addr} {n cap : Nat} {l : List Pt} {w : World} (hr : PtRd w A n l) (hn : n ≤ 1048576) (hz : ∀ p ∈ l, p.2.size ≤ 1048576) (hi : ∀ p ∈ l, -9223372036854775808 ≤ p.1 ∧ p.1 ≤ 9223372036854775807) (ho : okTo (k + r) l l.length) (hf : k ≤ (idxs (k + r) l).length) :
    Calls Try.prog 30 #[.int .i64 k, .int .i64 r, .slice A n cap] w fun e w' => ∃ (g o c : Nat), e = .returned (.tuple #[.slice (some ⟨g, o, none⟩) k c, .int .i64 0]) ∧ PtRd w' (some ⟨g, o, none⟩) k (partsP k r l) ∧ Ext w w' :=
  (rfirsts_any k r hk h A n cap l w hr hn hz hi).mono fun e w' q => by
    rcases q with ⟨q, _⟩ | ⟨_, q, _⟩ | ⟨_, _, B, c, q1, q2, q3⟩
    · exact absurd ho q
    · omega
    · obtain ⟨g, o, rfl, _⟩ := q2.2 (by omega)
      exact ⟨g, o, c, q1, q2, q3⟩
theorem rgather_no (k r t : Int) (A : Option Addr) (n cap : Nat) (h : canB k r = false ∨ t < 0) (w : World) : Calls Try.prog 17 #[.int .i64 k, .int .i64 r, .int .i64 t, .slice A n cap] w fun e w' => e = .returned (.tuple #[.string { data := #[] }, .int .i64 2]) ∧ Ext w w' := by
  by_cases h1 : canB k r = false
  · have HC := Lib.hid h1
    clear h h1
    go_enter Try.func17, Try.ntmps17
    go_wp2_with (go_at_call 24; refine (rcan_any k r _).mono ?_; rintro e w1 ⟨rfl, rfl⟩; rw [HC.out])
    go_ret2
    exact ⟨rfl, Ext.refl _⟩
  · have HC := Lib.hid (show canB k r = true by simpa using h1)
    have h2 : t < 0 := h.resolve_left h1
    have d1 : decide (t < 0) = true := by simpa using h2
    clear h h1
    go_enter Try.func17, Try.ntmps17
    go_wp2_with (go_at_call 24; refine (rcan_any k r _).mono ?_; rintro e w1 ⟨rfl, rfl⟩; rw [HC.out])
    go_ret2
    exact ⟨rfl, Ext.refl _⟩
set_option maxHeartbeats 4000000 in
set_option maxRecDepth 100000 in
theorem rgather_any (k r t : Nat) (hk : 1 ≤ k) (h : k + r ≤ 32) (ht : t ≤ 9223372036854775807) (A : Option Addr) (n cap : Nat) (l : List Pt) (w : World) (hr : PtRd w A n l) (hn : n ≤ 1048576) (hz : ∀ p ∈ l, p.2.size ≤ 1048576) (hi : ∀ p ∈ l, -9223372036854775808 ≤ p.1 ∧ p.1 ≤ 9223372036854775807) :
    Calls Try.prog 17 #[.int .i64 k, .int .i64 r, .int .i64 t, .slice A n cap] w fun e w' => e = .returned (.tuple #[.string (gathV k r t l), .int .i64 (gathE k r t l)]) ∧ Ext w w' := by
  have HC := Lib.hid (show canB k r = true by unfold canB; simp; omega)
  have d1 : decide ((t : Int) < 0) = false := by simp
  have HZ := Lib.hid hz
  have HI := Lib.hid hi
  clear hz hi
  by_cases ho : okTo (k + r) l l.length
  · by_cases hf : (idxs (k + r) l).length < k
    · have HV := Lib.hid (gath_few (t := t) ho hf)
      have HOK := Lib.hid ho
      have HF := Lib.hid hf
      clear ho hf
      go_enter Try.func17, Try.ntmps17
      go_wp2_with (first
        | (go_at_call 24; refine (rcan_any k r _).mono ?_; rintro e w1 ⟨rfl, rfl⟩; rw [HC.out])
        | (go_at_call 30; refine (rfirsts_few hk h hr hn HZ.out HI.out HOK.out HF.out).mono ?_; rintro e w2 ⟨rfl, hE2⟩))
      go_ret2
      exact ⟨by rw [HV.out.1, HV.out.2] <;> rfl, hE2⟩
    · have hf2 : k ≤ (idxs (k + r) l).length := by omega
      have HOK := Lib.hid ho
      have HF := Lib.hid hf2
      have HTK := Lib.hid (takenR_len k r l hf2)
      have hz0 : (txtL l ((takenR k r l).getD 0 0)).size ≤ 1048576 := by
        have h0 : 0 < (takenR k r l).length := by rw [HTK.out]; omega
        have : (takenR k r l).getD 0 0 ∈ takenR k r l := by rw [List.getD_eq_getElem?_getD, List.getElem?_eq_getElem h0]; exact List.getElem_mem h0
        rw [txt_size HOK.out _ this]
        obtain ⟨p, hp⟩ := Option.isSome_iff_exists.1 (takenR_some k r l _ this)
        rw [← ok_size HOK.out (getM_mem hp).1]
        exact HZ.out p (getM_mem hp).1
      have hP0 : ∀ (w' : World) (g o : Nat), PtRd w' (some ⟨g, o, none⟩) k (partsP k r l) → w'.cell? ⟨g, o + 1, none⟩ = some (.string (txtL l ((takenR k r l).getD 0 0))) := fun w' g o hp => by
        obtain ⟨g', o', e, hc⟩ := hp.2 (by omega)
        injection e with e
        injection e with e1 e2
        subst e1 e2
        have h0 : 0 < (takenR k r l).length := by rw [HTK.out]; omega
        have hp0 : (partsP k r l)[0]? = some ((((takenR k r l)[0]'h0 : Nat) : Int), txtL l ((takenR k r l)[0]'h0)) := by
          unfold partsP
          rw [List.getElem?_map, List.getElem?_eq_getElem h0]
          rfl
        have := (hc 0 _ hp0).2
        rw [Nat.zero_mul, Nat.add_zero] at this
        rw [List.getD_eq_getElem?_getD, List.getElem?_eq_getElem h0]
        exact this
      have HP0 := Lib.hid hP0
      have HSI := Lib.hid (sizeI_nat k t ⟨hk, by omega⟩)
      clear ho hf hf2 hP0
      have e0 : 0 < k := by omega
      have e1 : (0 : Int) < (k : Int) := by omega
      by_cases hs : (txtL l ((takenR k r l).getD 0 0)).size = sizeN k t
      · have HV := Lib.hid (gath_ok (t := t) HOK.out HF.out hs)
        have d3 : (((txtL l ((takenR k r l).getD 0 0)).size : Int) != (sizeN k t : Int)) = false := by rw [hs]; simp
        have hSS := solved_size hk h HOK.out HF.out
        have hzl : zL l = sizeN k t := by
          have h0 : 0 < (takenR k r l).length := by rw [HTK.out]; omega
          have : (takenR k r l).getD 0 0 ∈ takenR k r l := by rw [List.getD_eq_getElem?_getD, List.getElem?_eq_getElem h0]; exact List.getElem_mem h0
          rw [← txt_size HOK.out _ this]; exact hs
        have hzz : sizeN k t ≤ 1048576 := by omega
        rw [hzl] at hSS
        have HSS := Lib.hid hSS
        have HPU := Lib.hid (partsP_undo k r hk h l HF.out).2.2.2.2
        have HPZ := Lib.hid (show ∀ p ∈ partsP k r l, p.2.size ≤ 1048576 from fun p hp => by rw [partsP_size HOK.out p hp, hzl]; exact hzz)
        have hmul := sizeN_mul k t hk
        clear hs hSS hzl
        generalize txtL l ((takenR k r l).getD 0 0) = t0 at *
        generalize sizeN k t = z at *
        go_enter Try.func17, Try.ntmps17
        go_wp2_with (first
          | (go_at_call 24; refine (rcan_any k r _).mono ?_; rintro e w1 ⟨rfl, rfl⟩; rw [HC.out])
          | (go_at_call 30; refine (rfirsts_ok hk h hr hn HZ.out HI.out HOK.out HF.out).mono ?_; rintro e w2 ⟨g2, o2, c2, rfl, hP2, hE2⟩; have hcell := HP0.out _ _ _ hP2; have HP2 := Lib.hid hP2; clear hP2))
        go_region_held3 (fun w' => w'.cell? ⟨g2, o2 + 1, none⟩ = some (.string t0))
          (first | exact hcell | exact hcell2 | go_keep)
          ((go_at_call 13; refine (rsize_any k t (by omega) _).mono ?_; rintro e w3 ⟨rfl, hE3⟩; rw [HSI.out]; have hcell2 := hE3.cellv hcell; have hE23 := hE2.trans ((Ext.refl w2).drew.trans hE3); have HP3 := Lib.hid (HP2.out.ext ((Ext.refl w2).drew.trans hE3))))
        go_wp2_with (first
          | (go_at_call 31; refine (rsolved_any k r hk h _ _ _ _ HP3.out (partsP_idx k r l) HPZ.out HPU.out).mono ?_; rintro e w4 ⟨B4, c4, rfl, hr4, hE4⟩))
        have hE4' := hE23.trans hE4
        have HR4 := Lib.hid hr4
        have HJ := Lib.hid (joinT_size (solvedV k r (partsP k r l)) z HSS.out.2)
        obtain ⟨SV, hSV⟩ : ∃ SV, solvedV k r (partsP k r l) = SV := ⟨_, rfl⟩
        rw [hSV] at HV HSS HR4 HJ
        clear hSV hr4
        obtain ⟨w5, hw5⟩ : ∃ w5 : World, w5 = w4 := ⟨_, rfl⟩
        have hEx0 : Ext w5 w4 := by rw [hw5]; exact Ext.refl _
        have HR5 := Lib.hid (show Rd w5 B4 k (SV.map Value.string) by rw [hw5]; exact HR4.out)
        have hE5 : Ext w w5 := by rw [hw5]; exact hE4'
        clear hw5 HR4
        go_loopw [12, 14] (fun sv iv wr => ∃ i : Nat, i ≤ k ∧ iv = .int .i64 i ∧ Ext w5 wr ∧ sv = .string (joinT (SV.take i))) (fun _ iv _ => k - (intOf iv).toNat)
        case atStart => exact ⟨0, by omega, rfl, hEx0, rfl⟩
        case round =>
          obtain ⟨i, hi2, rfl, hEx, rfl⟩ := hrel
          clear hEx0
          by_cases hi3 : i < k
          · obtain ⟨gu, ou, rfl, hgu, hcu⟩ := HR5.out.at_ hi3
            replace hcu := hEx.cellv hcu
            simp only [List.getElem_map] at hcu
            have hli : i < SV.length := by rw [HSS.out.1]; exact hi3
            have hsz := HSS.out.2 _ (List.getElem_mem hli)
            have htk : SV.take (i + 1) = SV.take i ++ [SV[i]'hli] := List.take_succ_eq_append_getElem hli
            have hjs : (joinT (SV.take i)).size ≤ 32 * 1048576 := by
              rw [joinT_size (SV.take i) z (fun s hs => HSS.out.2 s (List.mem_of_mem_take hs)), List.length_take]
              exact Nat.mul_le_mul (by omega) hzz
            generalize SV[i]'hli = x at *
            have HTK := Lib.hid (show joinT (SV.take (i + 1)) = joinT (SV.take i) ++ x by rw [htk, joinT_app])
            clear htk hli
            generalize joinT (SV.take i) = J at *
            have hsum : ¬ 9223372036854775807 < J.size + x.size := by omega
            have ii : (i : Int) < (k : Int) := by omega
            have ii0 : (0 : Int) ≤ (i : Int) := by omega
            go_wp2
            go_roundw
            case rel => exact ⟨i + 1, by omega, by go_num, hEx, by rw [HTK.out]⟩
            case measure => simp [intOf]; omega
          · obtain rfl : i = k := by omega
            have htk : SV.take i = SV := List.take_of_length_le (by rw [HSS.out.1]; omega)
            rw [htk]
            have hle : t ≤ (joinT SV).size := by rw [HJ.out, HSS.out.1]; exact hmul.1
            have p1 : (t : Int) ≤ ((joinT SV).size : Int) := by omega
            have p2 : (0 : Int) ≤ (t : Int) := by omega
            have p3 : ((t : Int)).toNat = t := by omega
            clear htk hmul HJ
            generalize joinT SV = J at *
            go_wp2
            go_ret2
            exact ⟨by rw [HV.out.1, HV.out.2] <;> rfl, hE5.trans hEx⟩
      · have HV := Lib.hid (gath_size (t := t) HOK.out HF.out hs)
        have d3 : (((txtL l ((takenR k r l).getD 0 0)).size : Int) != (sizeN k t : Int)) = true := bne_iff_ne.2 (fun e => hs (by omega))
        clear hs
        generalize txtL l ((takenR k r l).getD 0 0) = t0 at *
        generalize sizeN k t = z at *
        go_enter Try.func17, Try.ntmps17
        go_wp2_with (first
          | (go_at_call 24; refine (rcan_any k r _).mono ?_; rintro e w1 ⟨rfl, rfl⟩; rw [HC.out])
          | (go_at_call 30; refine (rfirsts_ok hk h hr hn HZ.out HI.out HOK.out HF.out).mono ?_; rintro e w2 ⟨g2, o2, c2, rfl, hP2, hE2⟩; have hcell := HP0.out _ _ _ hP2))
        go_region_held3 (fun w' => w'.cell? ⟨g2, o2 + 1, none⟩ = some (.string t0))
          (first | exact hcell | exact hcell2 | go_keep)
          ((go_at_call 13; refine (rsize_any k t (by omega) _).mono ?_; rintro e w3 ⟨rfl, hE3⟩; rw [HSI.out]; have hcell2 := hE3.cellv hcell; have hE23 := hE2.trans ((Ext.refl w2).drew.trans hE3)))
        go_wp2
        go_ret2
        exact ⟨by rw [HV.out.1, HV.out.2] <;> rfl, hE23⟩
  · have HV := Lib.hid (gath_bad (t := t) ho)
    have HOK := Lib.hid ho
    clear ho
    go_enter Try.func17, Try.ntmps17
    go_wp2_with (first
      | (go_at_call 24; refine (rcan_any k r _).mono ?_; rintro e w1 ⟨rfl, rfl⟩; rw [HC.out])
      | (go_at_call 30; refine (rfirsts_bad hk h hr hn HZ.out HI.out HOK.out).mono ?_; rintro e w2 ⟨rfl, hE2⟩))
    go_ret2
    exact ⟨by rw [HV.out.1, HV.out.2] <;> rfl, hE2⟩
end Go.Proofs.Ytjdppgogdilgkaa
end
section
namespace Go.Proofs.Ytjdppgogdilgkaa
open Go.RowKit Go.Gf
set_option linter.unusedVariables false
set_option linter.unusedSimpArgs false
theorem ragain_no (k r i : Int) (A : Option Addr) (n cap : Nat) (h : canB k r = false ∨ i < 0 ∨ k + r ≤ i) (w : World) : Calls Try.prog 19 #[.int .i64 k, .int .i64 r, .int .i64 i, .slice A n cap] w fun e w' => e = .returned (.tuple #[.string { data := #[] }, .int .i64 2]) ∧ Ext w w' := by
  by_cases h1 : canB k r = false
  · have HC := Lib.hid h1
    clear h h1
    go_enter Try.func19, Try.ntmps19
    go_wp2_with (go_at_call 24; refine (rcan_any k r _).mono ?_; rintro e w1 ⟨rfl, rfl⟩; rw [HC.out])
    go_ret2
    exact ⟨rfl, Ext.refl _⟩
  · have hc : canB k r = true := by simpa using h1
    have hb : 1 ≤ k ∧ 0 ≤ r ∧ k ≤ 32 ∧ r ≤ 32 - k := by simpa [canB] using hc
    have HC := Lib.hid hc
    have h2 := h.resolve_left h1
    by_cases h3 : i < 0
    · have d1 : decide (i < 0) = true := by simpa using h3
      clear h h1 hc hb h2
      go_enter Try.func19, Try.ntmps19
      go_wp2_with (go_at_call 24; refine (rcan_any k r _).mono ?_; rintro e w1 ⟨rfl, rfl⟩; rw [HC.out])
      go_ret2
      exact ⟨rfl, Ext.refl _⟩
    · have d1 : decide (i < 0) = false := by simpa using h3
      have h4 : k + r ≤ i := h2.resolve_left h3
      have d2 : decide (k + r ≤ i) = true := by simpa using h4
      obtain ⟨b1, b2, b3, b4⟩ := hb
      have q1 : IntKind.i64.wrap (k + r) = k + r := IntWalk.i64_in _ (by omega)
      clear h h1 hc h2
      go_enter Try.func19, Try.ntmps19
      go_wp2_with (go_at_call 24; refine (rcan_any k r _).mono ?_; rintro e w1 ⟨rfl, rfl⟩; rw [HC.out])
      go_ret2
      exact ⟨rfl, Ext.refl _⟩
set_option maxHeartbeats 4000000 in
set_option maxRecDepth 100000 in
theorem ragain_any (k r i : Nat) (hk : 1 ≤ k) (h : k + r ≤ 32) (hi2 : i < k + r) (A : Option Addr) (n cap : Nat) (l : List Pt) (w : World) (hr : PtRd w A n l) (hn : n ≤ 1048576) (hz : ∀ p ∈ l, p.2.size ≤ 1048576) (hi : ∀ p ∈ l, -9223372036854775808 ≤ p.1 ∧ p.1 ≤ 9223372036854775807) :
    Calls Try.prog 19 #[.int .i64 k, .int .i64 r, .int .i64 i, .slice A n cap] w fun e w' => e = .returned (.tuple #[.string (agnV k r i l), .int .i64 (agnE k r l)]) ∧ Ext w w' := by
  have HC := Lib.hid (show canB k r = true by unfold canB; simp; omega)
  have d1 : decide ((i : Int) < 0) = false := by simp
  have d2 : decide ((k : Int) + (r : Int) ≤ (i : Int)) = false := by simp; omega
  have HZ := Lib.hid hz
  have HI := Lib.hid hi
  clear hz hi
  by_cases ho : okTo (k + r) l l.length
  · by_cases hf : (idxs (k + r) l).length < k
    · have HV := Lib.hid (agn_few (i := i) ho hf)
      have HOK := Lib.hid ho
      have HF := Lib.hid hf
      clear ho hf
      go_enter Try.func19, Try.ntmps19
      go_wp2_with (first
        | (go_at_call 24; refine (rcan_any k r _).mono ?_; rintro e w1 ⟨rfl, rfl⟩; rw [HC.out])
        | (go_at_call 30; refine (rfirsts_few hk h hr hn HZ.out HI.out HOK.out HF.out).mono ?_; rintro e w2 ⟨rfl, hE2⟩))
      go_ret2
      exact ⟨by rw [HV.out.1, HV.out.2] <;> rfl, hE2⟩
    · have hf2 : k ≤ (idxs (k + r) l).length := by omega
      have HOK := Lib.hid ho
      have HF := Lib.hid hf2
      have HV := Lib.hid (agn_ok (i := i) ho hf2)
      have HPU := Lib.hid (partsP_undo k r hk h l hf2).2.2.2.2
      have hzl : ∀ p ∈ partsP k r l, p.2.size ≤ 1048576 := fun p hp => by
        obtain ⟨x, hx, rfl⟩ := List.mem_map.1 hp
        obtain ⟨q, hq⟩ := Option.isSome_iff_exists.1 (takenR_some k r l x hx)
        simp only [txtL, hq, Option.getD_some]
        exact HZ.out q (getM_mem hq).1
      have HPZ := Lib.hid hzl
      have HSS := Lib.hid (solved_size hk h HOK.out HF.out)
      have hsz : ∀ s ∈ solvedV k r (partsP k r l), s.size ≤ 1048576 := fun s hs => by
        rw [HSS.out.2 s hs]
        have h0 : 0 < (partsP k r l).length := by rw [partsP_len k r l HF.out]; omega
        rw [← partsP_size HOK.out _ (List.getElem_mem h0)]
        exact HPZ.out _ (List.getElem_mem h0)
      have HSZ := Lib.hid hsz
      have HEL := Lib.hid (everyM_len k r)
      have hgd := getD_at (everyM k r) i (by rw [HEL.out]; exact hi2)
      have hrz := everyM_size k r _ (show (everyM k r).getD i { data := #[] } ∈ everyM k r by rw [hgd]; exact List.getElem_mem _)
      have HGD := Lib.hid hgd
      clear ho hf hf2 hzl hsz hgd
      have ii : (i : Int) < (k : Int) + (r : Int) := by omega
      have ii0 : (0 : Int) ≤ (i : Int) := by omega
      have hsum : sumE ((everyM k r).getD i { data := #[] }) (solvedV k r (partsP k r l)) = sumE ((everyM k r).getD i { data := #[] }) (solvedV k r (partsP k r l)) := rfl
      clear hsum
      obtain ⟨row, hrow⟩ : ∃ row, (everyM k r).getD i { data := #[] } = row := ⟨_, rfl⟩
      obtain ⟨SV, hSV⟩ : ∃ SV, solvedV k r (partsP k r l) = SV := ⟨_, rfl⟩
      have HSV := Lib.hid hSV
      have HROW := Lib.hid hrow
      rw [hrow] at HV HGD hrz
      rw [hSV] at HV HSS HSZ
      clear hSV hrow
      go_enter Try.func19, Try.ntmps19
      go_wp2_with (first
        | (go_at_call 24; refine (rcan_any k r _).mono ?_; rintro e w1 ⟨rfl, rfl⟩; rw [HC.out])
        | (go_at_call 30; refine (rfirsts_ok hk h hr hn HZ.out HI.out HOK.out HF.out).mono ?_; rintro e w2 ⟨g2, o2, c2, rfl, hP2, hE2⟩; have HP2 := Lib.hid hP2; clear hP2))
      go_region_law (first
        | (go_simp; go_at_call 25; refine (rall_any k r hk h _).mono ?_; rintro e w3 ⟨A3, c3, rfl, hown3, hE3⟩; have HR3 := Lib.hid (rd_owns hown3); clear hown3; obtain ⟨ga, oa, rfl, hga, hca⟩ := HR3.out.at_ hi2; simp only [List.getElem_map] at hca; rw [← HGD.out] at hca; have hE23 := hE2.trans ((Ext.refl w2).drew.trans hE3); have HP3 := Lib.hid (HP2.out.ext ((Ext.refl w2).drew.trans hE3)))
        | (go_simp; go_at_call 31; refine (rsolved_any k r hk h _ _ _ _ HP3.out (partsP_idx k r l) HPZ.out HPU.out).mono ?_; rintro e w4 ⟨B4, c4, rfl, hr4, hE4⟩; rw [HSV.out] at hr4; have HR4 := Lib.hid hr4; clear hr4; have hca4 := hE4.cellv hca; have hE24 := hE23.trans hE4)
        | (go_simp; go_at_call 26; refine (rsum_any row _ _ _ _ _ HR4.out (by omega) HSZ.out).mono ?_; rintro e w5 ⟨rfl, hE5⟩; have hE25 := hE24.trans hE5))
      all_goals
        go_wp2
        go_ret2
        exact ⟨by rw [HV.out.1, HV.out.2] <;> rfl, hE25⟩
  · have HV := Lib.hid (agn_bad (i := i) ho)
    have HOK := Lib.hid ho
    clear ho
    go_enter Try.func19, Try.ntmps19
    go_wp2_with (first
      | (go_at_call 24; refine (rcan_any k r _).mono ?_; rintro e w1 ⟨rfl, rfl⟩; rw [HC.out])
      | (go_at_call 30; refine (rfirsts_bad hk h hr hn HZ.out HI.out HOK.out).mono ?_; rintro e w2 ⟨rfl, hE2⟩))
    go_ret2
    exact ⟨by rw [HV.out.1, HV.out.2] <;> rfl, hE2⟩
end Go.Proofs.Ytjdppgogdilgkaa
end
section
namespace Go.Proofs.Ytjdppgogdilgkaa
open Go.RowKit Go.Gf
set_option linter.unusedVariables false
set_option linter.unusedSimpArgs false
def LongIs (n : Nat) (l : List Pt) (e : Ending) : Prop := ∃ B : Bool, e = .returned (.bool B) ∧ (B = false → n ≤ 100 ∧ ∀ p ∈ l, p.2.size ≤ 512)
set_option maxRecDepth 100000 in
theorem long_any (A : Option Addr) (n cap : Nat) (l : List Pt) (w : World) (hr : PtRd w A n l) :
    Calls Try.prog 15 #[.slice A n cap] w fun e w' => LongIs n l e ∧ Ext w w' := by
  have hlen : l.length = n := hr.1
  by_cases h : 100 < n
  · have e1 : (100 : Int) < (n : Int) := by omega
    go_enter Try.func15, Try.ntmps15
    go_wp2
    go_ret
    exact ⟨⟨true, rfl, by simp⟩, Ext.refl _⟩
  · have e1 : ¬ (100 : Int) < (n : Int) := by omega
    go_enter Try.func15, Try.ntmps15
    go_wp2
    go_loopw [3] (fun i wr => ∃ k : Nat, k ≤ n ∧ i = .int .i64 k ∧ (∀ s ∈ l.take k, s.2.size ≤ 512) ∧ Ext w wr) (fun i _ => n - (intOf i).toNat)
    case atStart => exact ⟨0, by omega, rfl, by simp, Ext.refl _⟩
    case round =>
      obtain ⟨k, hk, rfl, hall, hE⟩ := hrel
      by_cases hk2 : k < n
      · obtain ⟨gs, os, rfl, hc⟩ := (hr.ext hE).2 (by omega)
        have hcell := (hc k (l[k]'(by omega)) (List.getElem?_eq_getElem (by omega))).2
        have htk : l.take (k + 1) = l.take k ++ [l[k]'(by omega)] := List.take_succ_eq_append_getElem (by omega)
        generalize l[k]'(by omega) = s at *
        have HTK := Lib.hid htk
        have HALL := Lib.hid hall
        clear htk hall hlen hc
        have kk : (k : Int) < (n : Int) := by omega
        by_cases hs : 512 < s.2.size
        · have e2 : (512 : Int) < (s.2.size : Int) := by omega
          go_wp2
          go_ret
          exact ⟨⟨true, rfl, by simp⟩, hE⟩
        · have e2 : ¬ (512 : Int) < (s.2.size : Int) := by omega
          go_wp2
          go_roundw
          case rel => exact ⟨k + 1, by omega, by go_num, fun s' h' => by
            rw [HTK.out, List.mem_append, List.mem_singleton] at h'
            rcases h' with h' | h'
            · exact HALL.out s' h'
            · rw [h']; omega, hE⟩
          case measure => simp [intOf]; omega
      · obtain rfl : k = n := by omega
        rw [List.take_of_length_le (by omega)] at hall
        have kk : ¬ (k : Int) < (k : Int) := by omega
        go_wp2
        go_ret
        exact ⟨⟨false, rfl, fun _ => ⟨by omega, hall⟩⟩, hE⟩
end Go.Proofs.Ytjdppgogdilgkaa
end
