import Derived.Test.YtbmemogajgbdgaaA1
namespace Go.Proofs.Ytbmemogajgbdgaa
open Go.RowKit Go.Gf
/-! THE ELIMINATION undoes a matrix. -/
/-- A unit on the first n. -/
def IsU (n : Nat) (M : St) : Prop := ∀ i, i < n → ∀ j, j < n → M i j = unitF i j
theorem xs_split (n c : Nat) (f : Nat → Nat) (hc : c < n) : xs n f = f c ^^^ xs n (fun k => if k = c then 0 else f k) := by
  induction n with
  | zero => omega
  | succ n ih =>
    simp only [xs]
    by_cases e : c = n
    · subst e
      rw [if_pos rfl, xs_congr c (fun k => if k = c then 0 else f k) f fun i hi => by rw [if_neg (by omega)], Nat.xor_zero, Nat.xor_comm]
    · rw [ih (by omega), if_neg (fun h => e h.symm)]; ac_rfl
/-- A unit whose column c is v. -/
def colM (c : Nat) (v : Nat → Nat) : St := fun i k => if k = c then v i else unitF i k
theorem colM_byte (c : Nat) (v : Nat → Nat) (hv : ∀ i, v i < 256) : Byte (colM c v) := by
  intro i k; unfold colM; split
  · exact hv i
  · exact unitF_lt _ _
theorem mul_colM (n c : Nat) (v : Nat → Nat) (s : St) (hs : Byte s) (i j : Nat) (hi : i < n) (hc : c < n) : mul n (colM c v) s i j = (if i = c then 0 else s i j) ^^^ fm (v i) (s c j) := by
  unfold mul
  rw [xs_split n c _ hc]
  have h1 : fm (colM c v i c) (s c j) = fm (v i) (s c j) := by unfold colM; rw [if_pos rfl]
  rw [h1, Nat.xor_comm]
  congr 1
  by_cases e : i = c
  · rw [if_pos e]
    refine xs_zero n _ fun k _ => ?_
    by_cases h : k = c
    · rw [if_pos h]
    · rw [if_neg h]; unfold colM unitF; rw [if_neg h, if_neg (by omega), fm_zero_l]
  · rw [if_neg e, xs_one n i _ hi fun k _ hne => by
      by_cases h : k = c
      · rw [if_pos h]
      · rw [if_neg h]; unfold colM unitF; rw [if_neg h, if_neg hne, fm_zero_l]]
    rw [if_neg e]
    unfold colM unitF
    rw [if_neg e, if_pos rfl, fm_one_l _ (hs i j)]
/-- Rows i in the place of rows p i. -/
def rowP (p : Nat → Nat) : St := fun i k => unitF (p i) k
theorem mul_rowP (n : Nat) (p : Nat → Nat) (s : St) (hs : Byte s) (i j : Nat) (hp : p i < n) : mul n (rowP p) s i j = s (p i) j :=
  mul_unit_l n s hs (p i) j hp
def Bh (n : Nat) (s : St) : St := fun i j => s i (n + j)
structure Good (n : Nat) (A s : St) : Prop where
  byte : Byte s
  prod : ∀ i, i < n → ∀ j, j < n → mul n (Bh n s) A i j = s i j
  inv : ∃ F : St, Byte F ∧ IsU n (mul n (Bh n s) F) ∧ IsU n (mul n F (Bh n s))
theorem Bh_byte {n : Nat} {s : St} (h : Byte s) : Byte (Bh n s) := fun i j => h i (n + j)
/-- A product with a unit between. -/
theorem mul_mid (n : Nat) (X Y Z : St) (hX : Byte X) (hY : Byte Y) (hZ : Byte Z) (h : IsU n (mul n X Y)) (i j : Nat) (hi : i < n) : mul n X (mul n Y Z) i j = Z i j := by
  rw [← mul_assoc n n X Y Z hX hY hZ, mul_congr n _ unitF Z Z i j (fun k hk => h i hi k hk) (fun _ _ => rfl)]
  exact mul_unit_l n Z hZ i j hi
theorem Good.step {n : Nat} {A s s' E E' : St} (h : Good n A s) (hA : Byte A) (hE : Byte E) (hE' : Byte E') (h1 : IsU n (mul n E E')) (h2 : IsU n (mul n E' E)) (hs' : Byte s') (he : ∀ i, i < n → ∀ j, j < 2 * n → s' i j = mul n E s i j) : Good n A s' := by
  obtain ⟨F, hF, hBF, hFB⟩ := h.inv
  have hB := Bh_byte (n := n) h.byte
  have hB' : ∀ i, i < n → ∀ j, j < n → Bh n s' i j = mul n E (Bh n s) i j := fun i hi j hj => he i hi (n + j) (by omega)
  refine ⟨hs', fun i hi j hj => ?_, mul n F E', mul_lt n _ _ hF, fun i hi j hj => ?_, fun i hi j hj => ?_⟩
  · rw [mul_congr n (Bh n s') (mul n E (Bh n s)) A A i j (fun k hk => hB' i hi k hk) (fun _ _ => rfl), mul_assoc n n E _ A hE hB hA, he i hi j (by omega)]
    exact mul_congr n E E _ _ i j (fun _ _ => rfl) (fun k hk => h.prod k hk j hj)
  · rw [mul_congr n (Bh n s') (mul n E (Bh n s)) _ _ i j (fun k hk => hB' i hi k hk) (fun _ _ => rfl), mul_assoc n n E _ _ hE hB (mul_lt n _ _ hF)]
    rw [mul_congr n E E _ E' i j (fun _ _ => rfl) (fun k hk => mul_mid n (Bh n s) F E' hB hF hE' hBF k j hk)]
    exact h1 i hi j hj
  · rw [mul_congr n _ _ (Bh n s') (mul n E (Bh n s)) i j (fun _ _ => rfl) (fun k hk => hB' k hk j hj), mul_assoc n n F E' _ hF hE' (mul_lt n _ _ hE)]
    rw [mul_congr n F F _ (Bh n s) i j (fun _ _ => rfl) (fun k hk => mul_mid n E' E (Bh n s) hE' hE hB h2 k j hk)]
    exact hFB i hi j hj
/-- The first c columns are a unit's. -/
def Cols (n c : Nat) (s : St) : Prop := ∀ i, i < n → ∀ j, j < c → s i j = unitF i j
def tr (c p i : Nat) : Nat := if i = c then p else if i = p then c else i
theorem swapF_tr (s : St) (c p i j : Nat) : swapF s c p i j = s (tr c p i) j := by
  unfold swapF tr
  by_cases h1 : i = c
  · rw [if_pos h1, if_pos h1]
  · rw [if_neg h1, if_neg h1]
    by_cases h2 : i = p
    · rw [if_pos h2, if_pos h2]
    · rw [if_neg h2, if_neg h2]
theorem tr_lt {n c p i : Nat} (hc : c < n) (hp : p < n) (hi : i < n) : tr c p i < n := by
  unfold tr; split
  · exact hp
  · split
    · exact hc
    · exact hi
theorem tr_tr (c p i : Nat) : tr c p (tr c p i) = i := by
  unfold tr
  by_cases h1 : i = c
  · rw [if_pos h1]
    by_cases h2 : p = c
    · rw [if_pos h2]; omega
    · rw [if_neg h2, if_pos rfl]; exact h1.symm
  · rw [if_neg h1]
    by_cases h2 : i = p
    · rw [if_pos h2, if_pos rfl]; exact h2.symm
    · rw [if_neg h2, if_neg h1, if_neg h2]
theorem rowP_byte (p : Nat → Nat) : Byte (rowP p) := fun _ _ => unitF_lt _ _
theorem rowP_inv {n c p : Nat} (hc : c < n) (hp : p < n) : IsU n (mul n (rowP (tr c p)) (rowP (tr c p))) := fun i hi j _ => by
  rw [mul_rowP n _ _ (rowP_byte _) i j (tr_lt hc hp hi)]
  unfold rowP; rw [tr_tr]
theorem Good.swap {n : Nat} {A s : St} {c p : Nat} (h : Good n A s) (hA : Byte A) (hc : c < n) (hp : p < n) : Good n A (swapF s c p) :=
  h.step hA (rowP_byte (tr c p)) (rowP_byte (tr c p)) (rowP_inv hc hp) (rowP_inv hc hp) (swapF_byte h.byte c p) fun i hi j _ => by
    rw [mul_rowP n _ _ h.byte i j (tr_lt hc hp hi), swapF_tr]
theorem fm_inv_l (a : Nat) (ha : a < 256) (h : a ≠ 0) : fm (invV a) a = 1 := by
  rw [fm_comm _ _ (invV_lt a) ha]; unfold invV; rw [if_neg h]; exact fm_fi a ha h
theorem fm_inv_r (a : Nat) (ha : a < 256) (h : a ≠ 0) : fm a (invV a) = 1 := by unfold invV; rw [if_neg h]; exact fm_fi a ha h
def eV (s : St) (c i : Nat) : Nat := if i = c then invV (s c c) else fm (s i c) (invV (s c c))
theorem eV_lt {s : St} (hs : Byte s) (c i : Nat) : eV s c i < 256 := by
  unfold eV; split
  · exact invV_lt _
  · exact fm_lt _ _ (hs i c)
theorem elim_colM {n : Nat} {s : St} (hs : Byte s) {c i : Nat} (hc : c < n) (hi : i < n) (j : Nat) : elimTo s c n i j = mul n (colM c (eV s c)) s i j := by
  rw [mul_colM n c _ s hs i j hi hc]
  unfold elimTo rowR eV
  by_cases h : i = c
  · rw [if_pos h, if_pos h, if_pos h, Nat.zero_xor]
  · rw [if_neg h, if_neg h, if_neg h, if_pos hi, fm_assoc _ _ _ (hs i c) (invV_lt _) (hs c j)]
theorem colM_inv {n c : Nat} {s : St} (hs : Byte s) (hc : c < n) (hne : s c c ≠ 0) : IsU n (mul n (colM c (eV s c)) (colM c (fun i => s i c))) := fun i hi j _ => by
  rw [mul_colM n c _ _ (colM_byte c _ fun i => hs i c) i j hi hc]
  have hp := hs c c
  unfold colM eV
  by_cases hj : j = c
  · rw [if_pos hj, if_pos hj]
    by_cases h : i = c
    · rw [if_pos h, if_pos h, Nat.zero_xor, fm_inv_l _ hp hne]; unfold unitF; rw [if_pos (by omega)]
    · rw [if_neg h, if_neg h, fm_assoc _ _ _ (hs i c) (invV_lt _) hp, fm_inv_l _ hp hne, fm_one_r, Nat.xor_self]; unfold unitF; rw [if_neg (by omega)]
  · rw [if_neg hj, if_neg hj]
    have hz : unitF c j = 0 := by unfold unitF; rw [if_neg hj]
    rw [hz, fm_zero_r, Nat.xor_zero]
    by_cases h : i = c
    · rw [if_pos h, h, hz]
    · rw [if_neg h]
theorem colM_inv2 {n c : Nat} {s : St} (hs : Byte s) (hc : c < n) (hne : s c c ≠ 0) : IsU n (mul n (colM c (fun i => s i c)) (colM c (eV s c))) := fun i hi j _ => by
  rw [mul_colM n c _ _ (colM_byte c _ fun i => eV_lt hs c i) i j hi hc]
  have hp := hs c c
  unfold colM eV
  by_cases hj : j = c
  · rw [if_pos hj, if_pos hj, if_pos rfl]
    by_cases h : i = c
    · rw [if_pos h, h, Nat.zero_xor, fm_inv_r _ hp hne]; unfold unitF; rw [if_pos hj]
    · rw [if_neg h, if_neg h, Nat.xor_self]; unfold unitF; rw [if_neg (by omega)]
  · rw [if_neg hj, if_neg hj]
    have hz : unitF c j = 0 := by unfold unitF; rw [if_neg hj]
    rw [hz, fm_zero_r, Nat.xor_zero]
    by_cases h : i = c
    · rw [if_pos h, h, hz]
    · rw [if_neg h]
theorem Good.elim {n : Nat} {A s : St} {c : Nat} (h : Good n A s) (hA : Byte A) (hc : c < n) (hne : s c c ≠ 0) : Good n A (elimTo s c n) :=
  h.step hA (colM_byte c _ fun i => eV_lt h.byte c i) (colM_byte c _ fun i => h.byte i c) (colM_inv h.byte hc hne) (colM_inv2 h.byte hc hne) (elimTo_byte h.byte c n) fun _ hi j _ => elim_colM h.byte hc hi j
theorem Cols.swap {n c p : Nat} {s : St} (h : Cols n c s) (hc : c < n) (hp : p < n) (hcp : c ≤ p) : Cols n c (swapF s c p) := fun i hi j hj => by
  rw [swapF_tr, h _ (tr_lt hc hp hi) j hj]
  unfold tr unitF
  by_cases h1 : i = c
  · rw [if_pos h1, if_neg (by omega), if_neg (by omega)]
  · rw [if_neg h1]
    by_cases h2 : i = p
    · rw [if_pos h2, if_neg (by omega), if_neg (by omega)]
    · rw [if_neg h2]
theorem Cols.elim {n c : Nat} {s : St} (h : Cols n c s) (hs : Byte s) (hc : c < n) (hne : s c c ≠ 0) : Cols n (c + 1) (elimTo s c n) := fun i hi j hj => by
  have hp := hs c c
  unfold elimTo rowR
  by_cases e : j = c
  · subst e
    rw [fm_inv_l _ hp hne]
    by_cases h1 : i = j
    · rw [if_pos h1]; unfold unitF; rw [if_pos h1.symm]
    · rw [if_neg h1, if_pos hi, fm_one_r, Nat.xor_self]; unfold unitF; rw [if_neg (fun h => h1 h.symm)]
  · have hj2 : j < c := by omega
    have hz : s c j = 0 := by rw [h c hc j hj2]; unfold unitF; rw [if_neg (by omega)]
    rw [hz, fm_zero_r]
    by_cases h1 : i = c
    · rw [if_pos h1]; unfold unitF; rw [if_neg (by omega)]
    · rw [if_neg h1, if_pos hi, fm_zero_r, Nat.xor_zero]; exact h i hi j hj2
/-- What the pivot is. -/
theorem pivF_spec {n : Nat} {s : St} {c p : Nat} (h : pivF n s c = some p) : p < n ∧ c ≤ p ∧ s p c ≠ 0 := by
  unfold pivF at h
  have h1 := List.find?_some h
  have h2 := List.mem_of_find?_eq_some h
  simp at h1 h2
  exact ⟨h2, h1.1, h1.2⟩
theorem undo_good (l : List ByteArray) (n c : Nat) (s : St) (hc : c ≤ n) (h : undoSt l n c = some s) : Good n (ent l) s ∧ Cols n c s := by
  induction c generalizing s with
  | zero =>
    have hs : s = st0 l n := by simpa [undoSt] using h.symm
    subst hs
    have hB : ∀ i j, Bh n (st0 l n) i j = unitF i j := fun i j => by unfold Bh st0; rw [if_neg (by omega), Nat.add_sub_cancel_left]
    refine ⟨⟨st0_byte l n, fun i hi j hj => ?_, unitF, unit_byte, fun i hi j hj => ?_, fun i hi j hj => ?_⟩, fun i _ j hj => absurd hj (by omega)⟩
    · rw [mul_congr n _ unitF _ (ent l) i j (fun k _ => hB i k) (fun _ _ => rfl), mul_unit_l n _ (ent_byte l) i j hi]; unfold st0; rw [if_pos hj]
    · rw [mul_congr n _ unitF _ unitF i j (fun k _ => hB i k) (fun _ _ => rfl)]; exact mul_unit_l n _ unit_byte i j hi
    · rw [mul_congr n _ unitF _ unitF i j (fun _ _ => rfl) (fun k _ => hB k j)]; exact mul_unit_l n _ unit_byte i j hi
  | succ c ih =>
    simp only [undoSt] at h
    cases hq : undoSt l n c with
    | none => rw [hq] at h; simp at h
    | some t =>
      rw [hq] at h
      simp only [Option.bind_some, stepF] at h
      cases hp : pivF n t c with
      | none => rw [hp] at h; simp at h
      | some p =>
        rw [hp] at h
        simp only [Option.map_some, Option.some.injEq] at h
        subst h
        obtain ⟨hg, hcl⟩ := ih t (by omega) hq
        obtain ⟨p1, p2, p3⟩ := pivF_spec hp
        have hne : swapF t c p c c ≠ 0 := by unfold swapF; rw [if_pos rfl]; exact p3
        have hg2 := hg.swap (ent_byte l) (by omega : c < n) p1
        exact ⟨hg2.elim (ent_byte l) (by omega) hne, (hcl.swap (by omega) p1 p2).elim hg2.byte (by omega) hne⟩
/-- No vector but 0 goes to 0. -/
def KerT (n : Nat) (A : St) : Prop := ∀ v : Nat → Nat, (∀ k, v k < 256) → (∀ i, i < n → xs n (fun k => fm (A i k) (v k)) = 0) → ∀ k, k < n → v k = 0
theorem KerT.of_left {n : Nat} {A L : St} (hA : Byte A) (hL : Byte L) (h : IsU n (mul n L A)) : KerT n A := fun v hv hz k hk => by
  have h1 := mul_mid n L A (fun i _ => v i) hL hA (fun i _ => hv i) h k 0 hk
  have h2 : mul n L (mul n A (fun i _ => v i)) k 0 = 0 := xs_zero n _ fun x hx => by
    have : mul n A (fun i _ => v i) x 0 = 0 := hz x hx
    rw [this, fm_zero_r]
  rw [← h1, h2]
theorem undo_total (l : List ByteArray) (n : Nat) (hk : KerT n (ent l)) (c : Nat) (hc : c ≤ n) : ∃ s, undoSt l n c = some s := by
  induction c with
  | zero => exact ⟨_, rfl⟩
  | succ c ih =>
    obtain ⟨s, hs⟩ := ih (by omega)
    obtain ⟨hg, hcl⟩ := undo_good l n c s (by omega) hs
    by_cases hex : ∃ p, p < n ∧ c ≤ p ∧ s p c ≠ 0
    · cases hp : pivF n s c with
      | some p => exact ⟨elimTo (swapF s c p) c n, by simp [undoSt, hs, stepF, hp]⟩
      | none =>
        exfalso
        obtain ⟨p, h1, h2, h3⟩ := hex
        unfold pivF at hp
        rw [List.find?_eq_none] at hp
        have := hp p (List.mem_range.mpr h1)
        simp [h2, h3] at this
    · exfalso
      have hz : ∀ q, c ≤ q → q < n → s q c = 0 := fun q h1 h2 => Classical.byContradiction fun hne => hex ⟨q, h2, h1, hne⟩
      obtain ⟨F, hF, _, hFB⟩ := hg.inv
      have hb := hg.byte
      -- the vector that goes to 0
      obtain ⟨v, hgen⟩ : ∃ v : Nat → Nat, ∀ k, v k = if k < c then s k c else if k = c then 1 else 0 := ⟨_, fun _ => rfl⟩
      have hv : ∀ k, v k < 256 := fun k => by
        rw [hgen k]; split
        · exact hb k c
        · split <;> omega
      have hvc : v c = 1 := by rw [hgen, if_neg (by omega), if_pos rfl]
      have hvb : Byte (fun i _ => v i) := fun i _ => hv i
      have hsv : ∀ i, i < n → mul n s (fun i _ => v i) i 0 = 0 := fun i hi => by
        unfold mul
        rw [xs_split n c _ (by omega)]
        show fm (s i c) (v c) ^^^ xs n (fun k => if k = c then 0 else fm (s i k) (v k)) = 0
        rw [hvc, fm_one_r]
        by_cases hic : i < c
        · rw [xs_one n i _ hi fun k hk hne => by
            by_cases h1 : k = c
            · rw [if_pos h1]
            · rw [if_neg h1]
              by_cases h2 : k < c
              · rw [hcl i hi k h2]; unfold unitF; rw [if_neg hne, fm_zero_l]
              · rw [hgen k, if_neg h2, if_neg h1, fm_zero_r]]
          rw [if_neg (by omega), hcl i hi i hic, hgen i, if_pos hic]
          unfold unitF; rw [if_pos rfl, fm_one_l _ (hb i c), Nat.xor_self]
        · rw [hz i (by omega) hi, Nat.zero_xor]
          refine xs_zero n _ fun k hk => ?_
          by_cases h1 : k = c
          · rw [if_pos h1]
          · rw [if_neg h1]
            by_cases h2 : k < c
            · rw [hcl i hi k h2]; unfold unitF; rw [if_neg (by omega), fm_zero_l]
            · rw [hgen k, if_neg h2, if_neg h1, fm_zero_r]
      have hBAv : ∀ i, i < n → mul n (Bh n s) (mul n (ent l) (fun i _ => v i)) i 0 = 0 := fun i hi => by
        rw [← mul_assoc n n _ _ _ (Bh_byte hb) (ent_byte l) hvb, mul_congr n _ s _ (fun i _ => v i) i 0 (fun k hk => hg.prod i hi k hk) (fun _ _ => rfl)]
        exact hsv i hi
      have hAv : ∀ i, i < n → xs n (fun k => fm (ent l i k) (v k)) = 0 := fun i hi => by
        have h1 := mul_mid n F (Bh n s) (mul n (ent l) (fun i _ => v i)) hF (Bh_byte hb) (mul_lt n _ _ (ent_byte l)) hFB i 0 hi
        have h2 : mul n F (mul n (Bh n s) (mul n (ent l) (fun i _ => v i))) i 0 = 0 := xs_zero n _ fun x hx => by rw [hBAv x hx, fm_zero_r]
        have h3 : mul n (ent l) (fun i _ => v i) i 0 = 0 := by rw [← h1, h2]
        exact h3
      have := hk v hv hAv c (by omega)
      omega
/-- What undoes a matrix undoes it from both sides. -/
theorem undo_sound (l : List ByteArray) (h : mayP l) (hsq : l.length = len0 l) (he : undoE l = 0) :
    mayP (undoV l) ∧ (undoV l).length = l.length ∧ len0 (undoV l) = l.length ∧ IsU l.length (mul l.length (ent (undoV l)) (ent l)) ∧ IsU l.length (mul l.length (ent l) (ent (undoV l))) := by
  generalize hn : l.length = n at *
  have hn1 := h.1
  rw [hn] at hn1
  cases hs : undoSt l n n with
  | none => rw [(undo_sing h (by omega) (by rw [hn]; exact hs)).2] at he; exact absurd he (by decide)
  | some s =>
    have ho := (undo_ok h (by omega) s (by rw [hn]; exact hs)).1
    rw [hn] at ho
    obtain ⟨hg, hcl⟩ := undo_good l n n s (Nat.le_refl _) hs
    have hu : ∀ i, i < n → ∀ j, j < n → ent (undoV l) i j = Bh n s i j := fun i hi j hj => by rw [ho, ent_mkM n n _ i j hi hj (hg.byte i (n + j))]; rfl
    have hBA : IsU n (mul n (Bh n s) (ent l)) := fun i hi j hj => by rw [hg.prod i hi j hj]; exact hcl i hi j hj
    obtain ⟨F, hF, hBF, hFB⟩ := hg.inv
    have hB := Bh_byte (n := n) hg.byte
    have hAF : ∀ i, i < n → ∀ j, j < n → ent l i j = F i j := fun i hi j hj => by
      have h1 := mul_mid n F (Bh n s) (ent l) hF hB (ent_byte l) hFB i j hi
      rw [← h1, mul_congr n F F _ unitF i j (fun _ _ => rfl) (fun k hk => hBA k hk j hj)]
      exact mul_unit_r n F i j hj
    refine ⟨by rw [ho]; exact mayP_mkM n n _ hn1 hn1, by rw [ho, mkM_len], by rw [ho, len0_mkM _ _ _ (by omega)], fun i hi j hj => ?_, fun i hi j hj => ?_⟩
    · rw [mul_congr n _ (Bh n s) _ (ent l) i j (fun k hk => hu i hi k hk) (fun _ _ => rfl)]; exact hBA i hi j hj
    · rw [mul_congr n _ F _ (Bh n s) i j (fun k hk => hAF i hi k hk) (fun k hk => hu k hk j hj)]; exact hFB i hi j hj
theorem undo_works (l : List ByteArray) (h : mayP l) (hsq : l.length = len0 l) (hk : KerT l.length (ent l)) : undoE l = 0 := by
  obtain ⟨s, hs⟩ := undo_total l l.length hk l.length (Nat.le_refl _)
  exact (undo_ok h hsq s hs).2
theorem undo_sq {l : List ByteArray} (he : undoE l = 0) : mayP l ∧ l.length = len0 l := by
  unfold undoE at he
  split at he
  · rename_i h1
    split at he
    · rename_i h2; exact ⟨h1, h2⟩
    · exact absurd he (by decide)
  · exact absurd he (by decide)
/-- From the left and from the right: one. -/
theorem inv_unique (n : Nat) (X A Y : St) (hX : Byte X) (hA : Byte A) (hY : Byte Y) (h1 : IsU n (mul n X A)) (h2 : IsU n (mul n A Y)) : ∀ i, i < n → ∀ j, j < n → X i j = Y i j := fun i hi j hj => by
  have h := mul_mid n X A Y hX hA hY h1 i j hi
  rw [← h, mul_congr n X X _ unitF i j (fun _ _ => rfl) (fun k hk => h2 k hk j hj)]
  exact (mul_unit_r n X i j hj).symm
/-- The product of a matrix with what undoes it. -/
theorem times_undo (l : List ByteArray) (he : undoE l = 0) : (timesV l (undoV l) = unitM l.length ∧ timesE l (undoV l) = 0) ∧ (timesV (undoV l) l = unitM l.length ∧ timesE (undoV l) l = 0) := by
  obtain ⟨h, hsq⟩ := undo_sq he
  obtain ⟨hu, hul, hu0, h1, h2⟩ := undo_sound l h hsq he
  have o1 := times_ok h hu (by omega)
  have o2 := times_ok hu h (by omega)
  refine ⟨⟨?_, o1.2⟩, ⟨?_, o2.2⟩⟩
  · rw [o1.1, hu0]
    exact mkM_congr _ _ _ _ fun i hi j hj => by rw [timesF_mul, hul]; exact h2 i hi j hj
  · rw [o2.1, hul, ← hsq]
    exact mkM_congr _ _ _ _ fun i hi j hj => by rw [timesF_mul]; exact h1 i hi j hj
theorem undo_undo (l : List ByteArray) (he : undoE l = 0) : undoV (undoV l) = l ∧ undoE (undoV l) = 0 := by
  obtain ⟨h, hsq⟩ := undo_sq he
  obtain ⟨hu, hul, hu0, h1, h2⟩ := undo_sound l h hsq he
  have hk : KerT (undoV l).length (ent (undoV l)) := by rw [hul]; exact KerT.of_left (ent_byte _) (ent_byte l) h2
  have he2 := undo_works (undoV l) hu (by omega) hk
  obtain ⟨hw, hwl, hw0, k1, k2⟩ := undo_sound (undoV l) hu (by omega) he2
  rw [hul] at hwl hw0 k1 k2
  refine ⟨?_, he2⟩
  have := inv_unique l.length (ent (undoV (undoV l))) (ent (undoV l)) (ent l) (ent_byte _) (ent_byte _) (ent_byte _) k1 h1
  have e1 := mat_eq (a := undoV (undoV l)) (r := l.length) (c := l.length) (f := ent l) hwl (fun s hs => by rw [hw.2.2 s hs, hw0]) (fun i hi j hj => (this i hi j hj).symm)
  have e2 := mat_eq (a := l) (r := l.length) (c := l.length) (f := ent l) rfl (fun s hs => by rw [h.2.2 s hs, hsq]) (fun i _ j _ => rfl)
  rw [← e1, e2]
/-- Products go in any grouping. -/
theorem times_assoc (a b c : List ByteArray) (h1 : timesE a b = 0) (h2 : timesE b c = 0) :
    timesE (timesV a b) c = 0 ∧ timesE a (timesV b c) = 0 ∧ timesV (timesV a b) c = timesV a (timesV b c) := by
  have key : ∀ a b : List ByteArray, timesE a b = 0 → mayP a ∧ mayP b ∧ len0 a = b.length := fun a b h => by
    unfold timesE at h
    split at h
    · rename_i h'
      split at h
      · rename_i h''; exact ⟨h'.1, h'.2, h''⟩
      · exact absurd h (by decide)
    · exact absurd h (by decide)
  obtain ⟨ha, hb, hab⟩ := key a b h1
  obtain ⟨_, hc, hbc⟩ := key b c h2
  have ha1 := ha.1
  have hb1 := hb.1
  have hb2 := hb.2.1
  have hc2 := hc.2.1
  have oab := (times_ok ha hb hab).1
  have obc := (times_ok hb hc hbc).1
  have m1 : mayP (timesV a b) := by rw [oab]; exact mayP_mkM _ _ _ ha1 hb2
  have m2 : mayP (timesV b c) := by rw [obc]; exact mayP_mkM _ _ _ hb1 hc2
  have l1 : len0 (timesV a b) = len0 b := by rw [oab, len0_mkM _ _ _ (by omega)]
  have l2 : (timesV b c).length = b.length := by rw [obc, mkM_len]
  have l3 : (timesV a b).length = a.length := by rw [oab, mkM_len]
  have l4 : len0 (timesV b c) = len0 c := by rw [obc, len0_mkM _ _ _ (by omega)]
  have o1 := times_ok m1 hc (by omega)
  have o2 := times_ok ha m2 (by omega)
  refine ⟨o1.2, o2.2, ?_⟩
  rw [o1.1, o2.1, l3, l4]
  refine mkM_congr _ _ _ _ fun i hi j hj => ?_
  rw [timesF_mul, timesF_mul, l2]
  have e1 : ∀ k, k < c.length → ent (timesV a b) i k = mul b.length (ent a) (ent b) i k := fun k hk => by
    rw [oab, ent_mkM _ _ _ i k hi (by omega) (timesF_lt _ _ _ _), timesF_mul]
  have e2 : ∀ k, k < b.length → ent (timesV b c) k j = mul c.length (ent b) (ent c) k j := fun k hk => by
    rw [obc, ent_mkM _ _ _ k j hk hj (timesF_lt _ _ _ _), timesF_mul]
  rw [mul_congr _ _ _ _ (ent c) i j e1 (fun _ _ => rfl), mul_congr _ _ (ent a) _ _ i j (fun _ _ => rfl) e2]
  exact mul_assoc b.length c.length (ent a) (ent b) (ent c) (ent_byte a) (ent_byte b) (ent_byte c) i j
