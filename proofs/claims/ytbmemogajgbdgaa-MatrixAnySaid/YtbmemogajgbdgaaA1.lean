import Derived.Test.YtbmemogajgbdgaaM18
namespace Go.Proofs.Ytbmemogajgbdgaa
open Go.RowKit Go.Gf
/-! SUMS AND PRODUCTS over the field, plain. -/
def xs (n : Nat) (f : Nat → Nat) : Nat :=
  match n with
  | 0 => 0
  | n + 1 => xs n f ^^^ f n
theorem xs_lt (n : Nat) (f : Nat → Nat) (h : ∀ i, i < n → f i < 256) : xs n f < 256 := by
  induction n with
  | zero => simp [xs]
  | succ n ih => exact x8 (ih fun i hi => h i (by omega)) (h n (by omega))
theorem xs_congr (n : Nat) (f g : Nat → Nat) (h : ∀ i, i < n → f i = g i) : xs n f = xs n g := by
  induction n with
  | zero => rfl
  | succ n ih => simp only [xs]; rw [ih fun i hi => h i (by omega), h n (by omega)]
theorem xs_zero (n : Nat) (f : Nat → Nat) (h : ∀ i, i < n → f i = 0) : xs n f = 0 := by
  induction n with
  | zero => rfl
  | succ n ih => simp only [xs]; rw [ih fun i hi => h i (by omega), h n (by omega)]; rfl
theorem xs_xor (n : Nat) (f g : Nat → Nat) : xs n (fun i => f i ^^^ g i) = xs n f ^^^ xs n g := by
  induction n with
  | zero => simp [xs]
  | succ n ih => simp only [xs]; rw [ih]; ac_rfl
theorem fm_xs_r (a n : Nat) (f : Nat → Nat) : fm a (xs n f) = xs n (fun i => fm a (f i)) := by
  induction n with
  | zero => exact fm_zero_r a
  | succ n ih => simp only [xs]; rw [fm_xor_r, ih]
theorem fm_xs_l (b n : Nat) (f : Nat → Nat) (h : ∀ i, i < n → f i < 256) : fm (xs n f) b = xs n (fun i => fm (f i) b) := by
  induction n with
  | zero => exact fm_zero_l b
  | succ n ih => simp only [xs]; rw [fm_xor_l _ _ _ (xs_lt n f fun i hi => h i (by omega)) (h n (by omega)), ih fun i hi => h i (by omega)]
theorem xs_swap (n m : Nat) (f : Nat → Nat → Nat) : xs n (fun i => xs m (fun j => f i j)) = xs m (fun j => xs n (fun i => f i j)) := by
  induction n with
  | zero => exact (xs_zero m _ fun _ _ => rfl).symm
  | succ n ih => simp only [xs]; rw [ih, ← xs_xor]
theorem xs_one (n k : Nat) (f : Nat → Nat) (hk : k < n) (h : ∀ i, i < n → i ≠ k → f i = 0) : xs n f = f k := by
  induction n with
  | zero => omega
  | succ n ih =>
    simp only [xs]
    by_cases e : k = n
    · subst e; rw [xs_zero k f fun i hi => h i (by omega) (by omega), Nat.zero_xor]
    · rw [ih (by omega) fun i hi hne => h i (by omega) hne, h n (by omega) (fun x => e x.symm), Nat.xor_zero]
theorem fm_one_l (a : Nat) (h : a < 256) : fm 1 a = a := by rw [fm_comm 1 a (by omega) h, fm_one_r]
/-- Entry i, j of a product over n. -/
def mul (n : Nat) (A B : St) : St := fun i j => xs n (fun k => fm (A i k) (B k j))
theorem mul_lt (n : Nat) (A B : St) (hA : Byte A) : Byte (mul n A B) := fun i _ => xs_lt n _ fun k _ => fm_lt _ _ (hA i k)
theorem mul_assoc (n m : Nat) (A B C : St) (hA : Byte A) (hB : Byte B) (hC : Byte C) (i j : Nat) : mul m (mul n A B) C i j = mul n A (mul m B C) i j := by
  unfold mul
  rw [xs_congr m _ (fun k => xs n (fun x => fm (A i x) (fm (B x k) (C k j)))) fun k _ => by
    rw [fm_xs_l _ n _ fun x _ => fm_lt _ _ (hA i x)]
    exact xs_congr n _ _ fun x _ => fm_assoc _ _ _ (hA i x) (hB x k) (hC k j)]
  rw [xs_swap]
  exact xs_congr n _ _ fun x _ => by rw [fm_xs_r]
theorem mul_congr (n : Nat) (A A' B B' : St) (i j : Nat) (h1 : ∀ k, k < n → A i k = A' i k) (h2 : ∀ k, k < n → B k j = B' k j) : mul n A B i j = mul n A' B' i j :=
  xs_congr n _ _ fun k hk => by rw [h1 k hk, h2 k hk]
theorem unit_byte : Byte unitF := fun _ _ => unitF_lt _ _
theorem mul_unit_l (n : Nat) (A : St) (hA : Byte A) (i j : Nat) (hi : i < n) : mul n unitF A i j = A i j := by
  unfold mul
  rw [xs_one n i _ hi fun k _ hne => by unfold unitF; rw [if_neg hne, fm_zero_l]]
  unfold unitF; rw [if_pos rfl, fm_one_l _ (hA i j)]
theorem mul_unit_r (n : Nat) (A : St) (i j : Nat) (hj : j < n) : mul n A unitF i j = A i j := by
  unfold mul
  rw [xs_one n j _ hj fun k _ hne => by unfold unitF; rw [if_neg (fun h => hne h.symm), fm_zero_r]]
  unfold unitF; rw [if_pos rfl, fm_one_r]
theorem acc_xs (c : ByteArray) (l : List ByteArray) (k j : Nat) : acc c l k j = xs k (fun x => fm (bn c x) (ent l x j)) := by
  induction k with
  | zero => rfl
  | succ k ih => simp only [acc, xs]; rw [ih]; rfl
theorem timesF_mul (a b : List ByteArray) (i j : Nat) : timesF a b i j = mul b.length (ent a) (ent b) i j := by
  unfold timesF mul; rw [acc_xs]; rfl
theorem ent_byte (l : List ByteArray) : Byte (ent l) := fun _ _ => ent_lt _ _ _
/-- A matrix is its entries. -/
theorem mat_eq {a : List ByteArray} {r c : Nat} {f : St} (hl : a.length = r) (hs : ∀ s ∈ a, s.size = c) (h : ∀ i, i < r → ∀ j, j < c → f i j = ent a i j) : mkM r c f = a := by
  subst hl
  rw [mkM_congr _ _ f (ent a) h]
  exact mkM_ent a c hs
theorem mayP_mkM (r c : Nat) (f : St) (hr : 1 ≤ r ∧ r ≤ 64) (hc : 1 ≤ c ∧ c ≤ 64) : mayP (mkM r c f) := by
  refine ⟨by rw [mkM_len]; exact hr, by rw [len0_mkM _ _ _ (by omega)]; exact hc, fun s hs => ?_⟩
  rw [len0_mkM _ _ _ (by omega)]; exact mkM_mem _ _ _ s hs
theorem mayP_unit (n : Nat) (h : 1 ≤ n ∧ n ≤ 64) : mayP (unitM n) := mayP_mkM n n unitF h h
theorem len0_unit (n : Nat) (h : 1 ≤ n) : len0 (unitM n) = n := len0_mkM _ _ _ (by omega)
theorem ent_unit (n i j : Nat) (hi : i < n) (hj : j < n) : ent (unitM n) i j = unitF i j := ent_mkM n n unitF i j hi hj (unitF_lt _ _)
/-- A unit's product, from the left. -/
theorem times_unit_l (a : List ByteArray) (h : mayP a) : timesV (unitM a.length) a = a ∧ timesE (unitM a.length) a = 0 := by
  have hn := h.1
  have ho := times_ok (mayP_unit a.length hn) h (len0_unit _ hn.1)
  refine ⟨?_, ho.2⟩
  rw [ho.1, unitM_len]
  refine mat_eq rfl h.2.2 fun i hi j _ => ?_
  rw [timesF_mul, mul_congr _ _ unitF _ (ent a) i j (fun k hk => ent_unit _ i k hi hk) (fun k _ => rfl), mul_unit_l _ _ (ent_byte a) i j hi]
theorem times_unit_r (a : List ByteArray) (h : mayP a) : timesV a (unitM (len0 a)) = a ∧ timesE a (unitM (len0 a)) = 0 := by
  have hn := h.2.1
  have ho := times_ok h (mayP_unit (len0 a) hn) (unitM_len _).symm
  refine ⟨?_, ho.2⟩
  rw [ho.1, len0_unit _ hn.1]
  refine mat_eq rfl h.2.2 fun i _ j hj => ?_
  rw [timesF_mul, unitM_len, mul_congr _ _ (ent a) _ unitF i j (fun k _ => rfl) (fun k hk => ent_unit _ k j hk hj), mul_unit_r _ _ i j hj]
/-- Rows that are picked. -/
theorem pickL_getD (l : List ByteArray) (r : List Int) (i : Nat) (hi : i < r.length) : (pickL l r).getD i { data := #[] } = l.getD (r[i]).toNat { data := #[] } := by
  unfold pickL
  rw [List.getD_eq_getElem?_getD, List.getElem?_map, List.getElem?_eq_getElem hi]; rfl
theorem ent_pick (l : List ByteArray) (r : List Int) (i j : Nat) (hi : i < r.length) : ent (pickL l r) i j = ent l (r[i]).toNat j := by
  unfold ent; rw [pickL_getD l r i hi]
theorem pickL_size (l : List ByteArray) (r : List Int) (c : Nat) (h : ∀ s ∈ l, s.size = c) (hr : ∀ i ∈ r, 0 ≤ i ∧ i < (l.length : Int)) : ∀ s ∈ pickL l r, s.size = c := by
  intro s hs
  obtain ⟨i, hi, rfl⟩ := List.mem_map.mp hs
  have := hr i hi
  exact h _ (getD_mem l _ (by omega))
theorem mayP_pick (l : List ByteArray) (r : List Int) (h : mayP l) (hp : pickOk l r) : mayP (pickL l r) ∧ len0 (pickL l r) = len0 l := by
  have hz := pickL_size l r (len0 l) h.2.2 hp.2
  have hl := pickL_len l r
  have h1 := hp.1
  have h0 : len0 (pickL l r) = len0 l := by
    have hlt : 0 < (pickL l r).length := by omega
    rw [len0_eq hlt]
    exact hz _ (List.getElem_mem _)
  exact ⟨⟨by rw [hl]; exact hp.1, by rw [h0]; exact h.2.1, fun s hs => by rw [h0]; exact hz s hs⟩, h0⟩
theorem pick_of_unit (a : List ByteArray) (r : List Int) (h : mayP a) (hp : pickOk a r) :
    timesV (pickL (unitM a.length) r) a = pickL a r ∧ timesE (pickL (unitM a.length) r) a = 0 := by
  have hn := h.1
  have hpu : pickOk (unitM a.length) r := ⟨hp.1, fun i hi => by rw [unitM_len]; exact hp.2 i hi⟩
  obtain ⟨hm, h0⟩ := mayP_pick _ r (mayP_unit a.length hn) hpu
  have ho := times_ok hm h (by rw [h0, len0_unit _ hn.1])
  refine ⟨?_, ho.2⟩
  rw [ho.1, pickL_len]
  refine mat_eq (pickL_len a r) (pickL_size a r _ h.2.2 hp.2) fun i hi j _ => ?_
  have hri := hp.2 (r[i]) (List.getElem_mem hi)
  have hlt : (r[i]).toNat < a.length := by omega
  rw [timesF_mul, ent_pick a r i j hi, mul_congr _ _ (fun _ => unitF (r[i]).toNat) _ (ent a) i j (fun k hk => by rw [ent_pick _ r i k hi, ent_unit _ _ k hlt hk]) (fun k _ => rfl)]
  exact mul_unit_l _ _ (ent_byte a) (r[i]).toNat j hlt
theorem pick_below (a b : List ByteArray) (r : List Int) (hr : ∀ i ∈ r, 0 ≤ i ∧ i < (a.length : Int)) : pickL (a ++ b) r = pickL a r := by
  unfold pickL
  refine List.map_congr_left fun i hi => ?_
  have := hr i hi
  rw [List.getD_eq_getElem?_getD, List.getD_eq_getElem?_getD, List.getElem?_append_left (by omega)]
theorem mayP_below {a b : List ByteArray} (h1 : mayP a) (h2 : mayP b) (h : len0 a = len0 b) (h4 : a.length + b.length ≤ 64) : mayP (a ++ b) ∧ len0 (a ++ b) = len0 a := by
  have ha := h1.1
  have h0 : len0 (a ++ b) = len0 a := by
    unfold len0
    rw [List.getD_eq_getElem?_getD, List.getD_eq_getElem?_getD, List.getElem?_append_left (by omega)]
  refine ⟨⟨by rw [List.length_append]; omega, by rw [h0]; exact h1.2.1, fun s hs => ?_⟩, h0⟩
  rw [h0]
  rcases List.mem_append.mp hs with h' | h'
  · exact h1.2.2 s h'
  · rw [h]; exact h2.2.2 s h'
