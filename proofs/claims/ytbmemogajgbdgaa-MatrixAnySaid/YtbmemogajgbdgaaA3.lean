import Derived.Test.YtbmemogajgbdgaaA2
namespace Go.Proofs.Ytbmemogajgbdgaa
open Go.RowKit Go.Gf
/-! CAUCHY: any rows of the unit with Cauchy's rows below, as many as columns, can be undone. -/
theorem invV_r (p : Nat) (h : p < 256) (h0 : p ≠ 0) : fm p (invV p) = 1 := fm_inv_r p h h0
theorem cau_key (p q e v a a0 : Nat) (hp : p < 256) (hq : q < 256) (he : e < 256) (hv : v < 256) (ha : a < 256) (hb : a0 < 256) (pa : fm p a = 1) (qa : fm q a0 = 1) :
    fm (p ^^^ q) (fm a (fm (fm v e) a0)) = fm (p ^^^ e) (fm a v) ^^^ fm (q ^^^ e) (fm a0 v) := by
  have hu := fm_lt v e hv
  have e1 : ∀ x, x < 256 → ∀ w, w < 256 → ∀ p, p < 256 → fm p x = 1 → fm p (fm x w) = w := fun x hx w hw p hp h => by rw [← fm_assoc p x w hp hx hw, h, fm_one_l w hw]
  have e2 : fm a (fm (fm v e) a0) = fm a0 (fm a (fm v e)) := by
    rw [fm_comm (fm v e) a0 hu hb, ← fm_assoc a a0 _ ha hb hu, fm_comm a a0 ha hb, fm_assoc a0 a _ hb ha hu]
  have e3 : ∀ x, x < 256 → fm e (fm x v) = fm x (fm v e) := fun x hx => by
    rw [← fm_assoc e x v he hx hv, fm_comm e x he hx, fm_assoc x e v hx he hv, fm_comm e v he hv]
  rw [fm_xor_l p q _ hp hq, fm_xor_l p e _ hp he, fm_xor_l q e _ hq he, e1 a ha (fm (fm v e) a0) (fm_lt _ _ hu) p hp pa, e2, e1 a0 hb (fm a (fm v e)) (fm_lt _ _ ha) q hq qa, e1 a ha v hv p hp pa, e1 a0 hb v hv q hq qa, e3 a ha, e3 a0 hb, fm_comm (fm v e) a0 hu hb]
  generalize fm a0 (fm v e) = A
  generalize fm a (fm v e) = B
  apply Nat.eq_of_testBit_eq
  intro i
  simp only [Nat.testBit_xor]
  cases A.testBit i <;> cases B.testBit i <;> cases v.testBit i <;> rfl
theorem xor_split (x y c : Nat) : x ^^^ c = (x ^^^ y) ^^^ (c ^^^ y) := by
  apply Nat.eq_of_testBit_eq
  intro i
  simp only [Nat.testBit_xor]
  cases x.testBit i <;> cases y.testBit i <;> cases c.testBit i <;> rfl
theorem xor_ne {a b : Nat} (h : a ≠ b) : a ^^^ b ≠ 0 := fun h0 => h (by
  apply Nat.eq_of_testBit_eq
  intro i
  have := congrArg (fun x => x.testBit i) h0
  simpa [Nat.testBit_xor] using this)
theorem cauchy_ker (m : Nat) (hm : m < 256) : ∀ (C X : List Nat) (v : Nat → Nat), C.length ≤ X.length → (∀ j, j < m → j ∉ C → v j = 0) → X.Nodup → (∀ x ∈ X, m ≤ x ∧ x < 256) → (∀ j, v j < 256) → (∀ x ∈ X, xs m (fun j => fm (invV (x ^^^ j)) (v j)) = 0) → ∀ j, j < m → v j = 0 := by
  intro C
  induction C with
  | nil => intro X v _ h _ _ _ _ j hj; exact h j hj (by simp)
  | cons c C ih =>
    intro X v hl h hX hx hv hz
    match X, hl, hX, hx, hz with
    | [], hl, _, _, _ => simp at hl
    | x0 :: X, hl, hX, hx, hz =>
      obtain ⟨hx0, hXn⟩ := List.nodup_cons.mp hX
      have b0 := hx x0 (List.mem_cons_self ..)
      by_cases hc : c < m
      · have key : ∀ j, j < m → j ≠ c → v j = 0 := by
          have hz' := ih X (fun j => fm (fm (v j) (c ^^^ j)) (invV (x0 ^^^ j))) (by simp at hl; omega) (fun j hj hjC => by
              show fm (fm (v j) (c ^^^ j)) _ = 0
              by_cases e : j = c
              · subst e; rw [Nat.xor_self, fm_zero_r, fm_zero_l]
              · rw [h j hj (by simp [e, hjC]), fm_zero_l, fm_zero_l]) hXn (fun x hx' => hx x (List.mem_cons_of_mem _ hx')) (fun j => fm_lt _ _ (fm_lt _ _ (hv j)))
            (fun x hx' => by
              have bx := hx x (List.mem_cons_of_mem _ hx')
              have hne : x ≠ x0 := fun e => hx0 (e ▸ hx')
              have hd := xor_ne hne
              have hd2 := x8 bx.2 b0.2
              have e : fm (x ^^^ x0) (xs m (fun j => fm (invV (x ^^^ j)) (fm (fm (v j) (c ^^^ j)) (invV (x0 ^^^ j))))) = 0 := by
                rw [fm_xs_r, xs_congr m _ (fun j => fm (x ^^^ c) (fm (invV (x ^^^ j)) (v j)) ^^^ fm (x0 ^^^ c) (fm (invV (x0 ^^^ j)) (v j))) fun j hj => by
                  have k1 : x ^^^ j < 256 := x8 bx.2 (by omega)
                  have k2 : x0 ^^^ j < 256 := x8 b0.2 (by omega)
                  have k3 : x ^^^ j ≠ 0 := xor_ne (by omega)
                  have k4 : x0 ^^^ j ≠ 0 := xor_ne (by omega)
                  rw [xor_split x j x0, xor_split x j c, xor_split x0 j c]
                  exact cau_key _ _ _ _ _ _ k1 k2 (x8 (by omega) (by omega)) (hv j) (invV_lt _) (invV_lt _) (invV_r _ k1 k3) (invV_r _ k2 k4)]
                rw [xs_xor, ← fm_xs_r, ← fm_xs_r, hz x (List.mem_cons_of_mem _ hx'), hz x0 (List.mem_cons_self ..), fm_zero_r, fm_zero_r]; rfl
              exact Classical.byContradiction fun hn => fm_ne _ _ hd2 (xs_lt m _ fun j _ => fm_lt _ _ (invV_lt _)) hd hn e)
          intro j hj hjc
          have h1 := hz' j hj
          have k2 : x0 ^^^ j ≠ 0 := xor_ne (by omega)
          have k3 : c ^^^ j ≠ 0 := xor_ne (fun e => hjc e.symm)
          have k5 : c ^^^ j < 256 := x8 (by omega) (by omega)
          have k6 : x0 ^^^ j < 256 := x8 b0.2 (by omega)
          refine Classical.byContradiction fun hn => ?_
          refine fm_ne _ _ (fm_lt _ _ (hv j)) (invV_lt _) (fm_ne _ _ (hv j) k5 hn k3) (fun e => ?_) h1
          have := invV_r _ k6 k2
          rw [e, fm_zero_r] at this
          exact absurd this (by decide)
        intro j hj
        by_cases e : j = c
        · subst e
          have h1 := hz x0 (List.mem_cons_self ..)
          rw [xs_one m j _ hj (fun i hi hne => by rw [key i hi hne, fm_zero_r])] at h1
          refine Classical.byContradiction fun hn => ?_
          have k2 : x0 ^^^ j ≠ 0 := xor_ne (by omega)
          have k6 : x0 ^^^ j < 256 := x8 b0.2 (by omega)
          refine fm_ne _ _ (invV_lt _) (hv j) (fun e => ?_) hn h1
          have := invV_r _ k6 k2
          rw [e, fm_zero_r] at this
          exact absurd this (by decide)
        · exact key j hj e
      · exact ih (x0 :: X) v (by simp at hl ⊢; omega) (fun j hj hjC => h j hj (by simp [hjC]; omega)) hX hx hv hz
/-- What is left of a list when others' elements are taken out. -/
theorem take_out (k : Nat) : ∀ (r C : List Nat), r.Nodup → (∀ x ∈ r, x < k → x ∈ C) → ∃ C' : List Nat, C'.length + (r.filter (· < k)).length = C.length ∧ ∀ y ∈ C, y ∉ r → y ∈ C' := by
  intro r
  induction r with
  | nil => intro C _ _; exact ⟨C, by simp, fun y hy _ => hy⟩
  | cons x r ih =>
    intro C hn hC
    obtain ⟨h1, h2⟩ := List.nodup_cons.mp hn
    by_cases hx : x < k
    · have hm := hC x (List.mem_cons_self ..) hx
      obtain ⟨C', hl, hy⟩ := ih (C.erase x) h2 (fun z hz hzk => (List.mem_erase_of_ne (fun (e : z = x) => h1 (e ▸ hz))).mpr (hC z (List.mem_cons_of_mem _ hz) hzk))
      rw [List.length_erase_of_mem hm] at hl
      have := List.length_pos_of_mem hm
      refine ⟨C', by simp [hx]; omega, fun y hyC hyn => hy y ((List.mem_erase_of_ne (fun e => hyn (by simp [e]))).mpr hyC) (fun h => hyn (List.mem_cons_of_mem _ h))⟩
    · obtain ⟨C', hl, hy⟩ := ih C h2 (fun z hz => hC z (List.mem_cons_of_mem _ hz))
      exact ⟨C', by simp [hx]; omega, fun y hyC hyn => hy y hyC (fun h => hyn (List.mem_cons_of_mem _ h))⟩
theorem split_len (k : Nat) (r : List Nat) : (r.filter (· < k)).length + (r.filter (fun x => k ≤ x)).length = r.length := by
  induction r with
  | nil => rfl
  | cons x r ih =>
    by_cases hx : x < k
    · have : ¬ k ≤ x := by omega
      simp [hx, this]; omega
    · have : k ≤ x := by omega
      simp [hx, this]; omega
/-- The unit with Cauchy's rows below. -/
def towM (k t : Nat) : List ByteArray := unitM k ++ mkM t k (cauchyF k)
theorem towM_len (k t : Nat) : (towM k t).length = k + t := by simp [towM, unitM_len, mkM_len]
theorem ent_app (a b : List ByteArray) (i j : Nat) : ent (a ++ b) i j = if i < a.length then ent a i j else ent b (i - a.length) j := by
  unfold ent
  by_cases h : i < a.length
  · rw [if_pos h, List.getD_eq_getElem?_getD, List.getElem?_append_left h, ← List.getD_eq_getElem?_getD]
  · rw [if_neg h, List.getD_eq_getElem?_getD, List.getElem?_append_right (by omega), ← List.getD_eq_getElem?_getD]
theorem ent_tow (k t i j : Nat) (hi : i < k + t) (hj : j < k) : ent (towM k t) i j = if i < k then unitF i j else invV (i ^^^ j) := by
  unfold towM
  rw [ent_app, unitM_len]
  by_cases h : i < k
  · rw [if_pos h, if_pos h, ent_unit k i j h hj]
  · rw [if_neg h, if_neg h, ent_mkM _ _ _ _ _ (by omega) hj (cauchyF_lt _ _ _)]
    unfold cauchyF
    rw [show k + (i - k) = i by omega]
theorem tow_may (k t : Nat) (hk : 1 ≤ k) (ht : 1 ≤ t) (hkt : k + t ≤ 64) : mayP (towM k t) ∧ len0 (towM k t) = k := by
  have h1 := mayP_unit k ⟨hk, by omega⟩
  have h2 := mayP_mkM t k (cauchyF k) ⟨ht, by omega⟩ ⟨hk, by omega⟩
  have h := mayP_below h1 h2 (by rw [len0_unit _ hk, len0_mkM _ _ _ (by omega)]) (by rw [unitM_len, mkM_len]; exact hkt)
  exact ⟨h.1, by have h2 := h.2; rw [len0_unit k hk] at h2; exact h2⟩
def asI (r : List Nat) : List Int := r.map (fun (x : Nat) => (x : Int))
theorem asI_len (r : List Nat) : (asI r).length = r.length := by simp [asI]
theorem asI_ok {k t : Nat} {r : List Nat} (hk : 1 ≤ k) (hkt : k + t ≤ 64) (hl : r.length = k) (hr : ∀ x ∈ r, x < k + t) : pickOk (towM k t) (asI r) := by
  refine ⟨by rw [asI_len]; omega, fun i hi => ?_⟩
  obtain ⟨x, hx, rfl⟩ := List.mem_map.mp hi
  have := hr x hx
  rw [towM_len]
  omega
theorem tow_pick {k t : Nat} {r : List Nat} (hk : 1 ≤ k) (ht : 1 ≤ t) (hkt : k + t ≤ 64) (hl : r.length = k) (hr : ∀ x ∈ r, x < k + t) : mayP (pickL (towM k t) (asI r)) ∧ len0 (pickL (towM k t) (asI r)) = k ∧ (pickL (towM k t) (asI r)).length = k := by
  have h := tow_may k t hk ht hkt
  have hp := mayP_pick _ _ h.1 (asI_ok hk hkt hl hr)
  exact ⟨hp.1, by rw [hp.2, h.2], by rw [pickL_len, asI_len, hl]⟩
theorem ent_tow_pick {k t : Nat} {r : List Nat} (hl : r.length = k) (hr : ∀ x ∈ r, x < k + t) (i j : Nat) (hi : i < k) (hj : j < k) : ent (pickL (towM k t) (asI r)) i j = if r[i]'(by omega) < k then unitF (r[i]'(by omega)) j else invV ((r[i]'(by omega)) ^^^ j) := by
  rw [ent_pick _ _ i j (by rw [asI_len]; omega)]
  have : ((asI r)[i]'(by rw [asI_len]; omega)).toNat = r[i]'(by omega) := by simp [asI]
  rw [this]
  exact ent_tow k t _ j (hr _ (List.getElem_mem _)) hj
/-- THE THEOREM: different rows, as many as columns, can be undone. -/
theorem tow_undo {k t : Nat} {r : List Nat} (hk : 1 ≤ k) (ht : 1 ≤ t) (hkt : k + t ≤ 64) (hl : r.length = k) (hr : ∀ x ∈ r, x < k + t) (hn : r.Nodup) : undoE (pickL (towM k t) (asI r)) = 0 := by
  obtain ⟨h1, h2, h3⟩ := tow_pick hk ht hkt hl hr
  refine undo_works _ h1 (by omega) ?_
  rw [h3]
  intro v hv hz
  have hrow : ∀ x ∈ r, xs k (fun j => fm (if x < k then unitF x j else invV (x ^^^ j)) (v j)) = 0 := fun x hx => by
    obtain ⟨i, hi, rfl⟩ := List.mem_iff_getElem.mp hx
    rw [← hz i (by omega)]
    exact xs_congr k _ _ fun j hj => by rw [ent_tow_pick hl hr i j (by omega) hj]
  have hunit : ∀ x ∈ r, x < k → v x = 0 := fun x hx hxk => by
    have := hrow x hx
    rw [xs_one k x _ hxk (fun j _ hne => by rw [if_pos hxk]; unfold unitF; rw [if_neg hne, fm_zero_l]), if_pos hxk] at this
    unfold unitF at this
    rwa [if_pos rfl, fm_one_l _ (hv x)] at this
  obtain ⟨C, hC, hy⟩ := take_out k r (List.range k) hn (fun x _ h => List.mem_range.mpr h)
  have hs := split_len k r
  rw [List.length_range] at hC
  refine cauchy_ker k (by omega) C (r.filter (fun x => k ≤ x)) v (by omega) (fun j hj hjC => ?_) (hn.filter _) (fun x hx => ?_) hv (fun x hx => ?_)
  · by_cases hjr : j ∈ r
    · exact hunit j hjr hj
    · exact absurd (hy j (List.mem_range.mpr hj) hjr) hjC
  · have := List.mem_filter.mp hx
    have h4 := hr x this.1
    have h5 : k ≤ x := by simpa using this.2
    omega
  · have := List.mem_filter.mp hx
    have h5 : k ≤ x := by simpa using this.2
    rw [← hrow x this.1]
    exact xs_congr k _ _ fun j _ => by rw [if_neg (by omega)]
/-- Rows that stand there twice: never. -/
theorem tow_twice {k t : Nat} {r : List Nat} (hk : 1 < k) (ht : 1 ≤ t) (hkt : k + t ≤ 64) (hl : r.length = k) (hr : ∀ x ∈ r, x < k + t) (h01 : r[0]'(by omega) = r[1]'(by omega)) : undoE (pickL (towM k t) (asI r)) = 51 := by
  obtain ⟨h1, h2, h3⟩ := tow_pick (by omega) ht hkt hl hr
  have hne : undoE (pickL (towM k t) (asI r)) ≠ 0 := fun he => by
    obtain ⟨_, _, _, _, hu⟩ := undo_sound _ h1 (by omega) he
    rw [h3] at hu
    have e0 := hu 0 (by omega) 0 (by omega)
    have e1 := hu 1 (by omega) 0 (by omega)
    rw [mul_congr k _ (fun _ j => ent (pickL (towM k t) (asI r)) 1 j) _ (ent (undoV (pickL (towM k t) (asI r)))) 0 0 (fun j hj => by
      rw [ent_tow_pick hl hr 0 j (by omega) hj, ent_tow_pick hl hr 1 j hk hj, h01]) (fun _ _ => rfl)] at e0
    have : mul k (fun _ j => ent (pickL (towM k t) (asI r)) 1 j) (ent (undoV (pickL (towM k t) (asI r)))) 0 0 = mul k (ent (pickL (towM k t) (asI r))) (ent (undoV (pickL (towM k t) (asI r)))) 1 0 := rfl
    rw [this, e1] at e0
    exact absurd e0 (by decide)
  unfold undoE at hne ⊢
  rw [if_pos h1, if_pos (by omega)] at hne ⊢
  split at hne
  · exact absurd rfl hne
  · rfl
/-- One of those that are left is taken. -/
theorem take_one {R F : List Nat} {at_ : Nat} (h : at_ < F.length) : (R ++ [F[at_]] ++ (F.take at_ ++ F.drop (at_ + 1))).Perm (R ++ F) := by
  have : F = F.take at_ ++ F[at_] :: F.drop (at_ + 1) := by rw [List.getElem_cons_drop]; exact (List.take_append_drop at_ F).symm
  rw [List.append_assoc]
  refine List.Perm.append_left R ?_
  refine List.Perm.trans ?_ (List.Perm.of_eq this.symm)
  rw [List.singleton_append]
  exact (List.perm_middle (a := F[at_]) (l₁ := F.take at_) (l₂ := F.drop (at_ + 1))).symm
end Go.Proofs.Ytbmemogajgbdgaa
