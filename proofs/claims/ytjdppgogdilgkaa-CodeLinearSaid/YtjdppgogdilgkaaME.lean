import Derived.Test.YtjdppgogdilgkaaMC
import Derived.Test.YtjdppgogdilgkaaMD
import Derived.Test.YtjdppgogdilgkaaMA
section
namespace Go.Proofs.Ytjdppgogdilgkaa
open Go.RowKit Go.Gf
def HeavyIs (n : Nat) (l : List ByteArray) (e : Ending) : Prop := ∃ B : Bool, e = .returned (.bool B) ∧ (B = false → n ≤ 80 ∧ ∀ s ∈ l, s.size ≤ 80)
def b1 (a : UInt8) : ByteArray := { data := #[a] }
def b2 (a b : UInt8) : ByteArray := { data := #[a, b] }
theorem al1 : cauchyV 1 2 = [b2 142 244] ∧ cauchyE 1 2 = 0 := by decide +kernel
theorem al2 : undoV [b2 1 1, b2 1 2] = [b2 245 244, b2 244 244] ∧ undoE [b2 1 1, b2 1 2] = 0 := by decide +kernel
theorem al3 : undoV [b2 1 1, b2 1 1] = [] ∧ undoE [b2 1 1, b2 1 1] = 51 := by decide +kernel
theorem al4 : pickV [b1 97, b1 98] [1, 0, 1] = [b1 98, b1 97, b1 98] ∧ pickE [b1 97, b1 98] [1, 0, 1] = 0 := by decide +kernel
theorem al5 : belowV [b1 97] [b1 98] = [b1 97, b1 98] ∧ belowE [b1 97] [b1 98] = 0 := by decide +kernel
theorem al6 : timesV [b1 2] [b1 128] = [b1 29] ∧ timesE [b1 2] [b1 128] = 0 := by decide +kernel
theorem al7 : mayB [b1 97] = true := by decide +kernel
theorem al8 : (unitV 2).length = 2 := by decide +kernel
def FewIs (l : List ByteArray) (E : Int) (w : World) (e : Ending) (w' : World) : Prop :=
  ∃ (A : Option Addr) (n cap : Nat), e = .returned (.tuple #[.slice A n cap, .int .i64 E]) ∧ n ≤ 64 ∧ Rd w' A n (l.map Value.string) ∧ Ext w w'
theorem few_of {l l' : List ByteArray} {E E' : Int} {w w' : World} {e : Ending} (h : MatIs l E w e w') (h1 : l = l' ∧ E = E') (h2 : l'.length ≤ 64) : FewIs l' E' w e w' := by
  obtain ⟨rfl, rfl⟩ := h1
  obtain ⟨A, n, cap, rfl, hn, hr, hE⟩ := h
  exact ⟨A, n, cap, rfl, by omega, hr, hE⟩
theorem small2 (a b : ByteArray) (ha : a.size ≤ 64) (hb : b.size ≤ 64) : ∀ s ∈ [a, b], s.size ≤ 1048576 := by
  intro s hs; simp at hs; rcases hs with rfl | rfl <;> omega
theorem small1 (a : ByteArray) (ha : a.size ≤ 64) : ∀ s ∈ [a], s.size ≤ 1048576 := by
  intro s hs; simp at hs; subst hs; omega
theorem alP2 (A : Option Addr) (cap : Nat) (w : World) (hr : Rd w A 2 [.string { data := #[1, 1] }, .string { data := #[1, 2] }]) : Calls Try.prog 28 #[.slice A 2 cap] w (FewIs [b2 245 244, b2 244 244] 0 w) :=
  (undo_any A 2 cap [b2 1 1, b2 1 2] w hr (by omega) (small2 _ _ (by decide) (by decide))).mono fun _ _ h => few_of h al2 (by decide)
theorem alP3 (A : Option Addr) (cap : Nat) (w : World) (hr : Rd w A 2 [.string { data := #[1, 1] }, .string { data := #[1, 1] }]) : Calls Try.prog 28 #[.slice A 2 cap] w (FewIs [] 51 w) :=
  (undo_any A 2 cap [b2 1 1, b2 1 1] w hr (by omega) (small2 _ _ (by decide) (by decide))).mono fun _ _ h => few_of h al3 (by decide)
theorem alP6 (A B : Option Addr) (cap cap2 : Nat) (w : World) (hr : Rd w A 1 [.string { data := #[2] }]) (hq : Rd w B 1 [.string { data := #[128] }]) : Calls Try.prog 32 #[.slice A 1 cap, .slice B 1 cap2] w (FewIs [b1 29] 0 w) :=
  (mtimes_any A B 1 cap 1 cap2 [b1 2] [b1 128] w hr hq (by omega) (by omega) (small1 _ (by decide)) (small1 _ (by decide))).mono fun _ _ h => few_of h al6 (by decide)
theorem alP7 (A : Option Addr) (cap : Nat) (w : World) (hr : Rd w A 1 [.string { data := #[97] }]) : Calls Try.prog 48 #[.slice A 1 cap] w fun e w' => e = .returned (.bool true) ∧ Ext w w' :=
  may_is true A 1 cap [b1 97] w hr (by omega) (small1 _ (by decide)) al7
theorem alP8 (w : World) : Calls Try.prog 42 #[.int .i64 2] w fun e w' => (∃ (A : Option Addr) (cap : Nat), e = .returned (.slice A 2 cap)) ∧ Ext w w' := by
  refine (unit_any 2 w).mono ?_
  rintro e w' ⟨A, n, cap, rfl, hn, _, hE⟩
  rw [al8] at hn
  subst hn
  exact ⟨⟨A, cap, rfl⟩, hE⟩
end Go.Proofs.Ytjdppgogdilgkaa
end
section
namespace Go.Proofs.Ytjdppgogdilgkaa
open Go.RowKit Go.Gf
def Sm (n : Nat) (l : List ByteArray) : Prop := n ≤ 80 ∧ ∀ s ∈ l, s.size ≤ 80
theorem Sm.z {n : Nat} {l : List ByteArray} (h : Sm n l) : ∀ s ∈ l, s.size ≤ 1048576 := fun s hs => by have := h.2 s hs; omega
theorem Sm.n {n : Nat} {l : List ByteArray} (h : Sm n l) : n ≤ 1048576 := by have := h.1; omega
def BigIs (l : List ByteArray) (E : Int) (w : World) (e : Ending) (w' : World) : Prop :=
  ∃ (A : Option Addr) (n cap : Nat), e = .returned (.tuple #[.slice A n cap, .int .i64 E]) ∧ n ≤ 1048576 ∧ Rd w' A n (l.map Value.string) ∧ Ext w w'
theorem big_of {l : List ByteArray} {E : Int} {w w' : World} {e : Ending} (h : MatIs l E w e w') (h2 : l.length ≤ 1048576) : BigIs l E w e w' := by
  obtain ⟨A, n, cap, rfl, hn, hr, hE⟩ := h
  exact ⟨A, n, cap, rfl, by omega, hr, hE⟩
theorem timesV_len (a b : List ByteArray) : (timesV a b).length ≤ 64 := by
  unfold timesV; split
  · rename_i h; rw [mkM_len]; exact h.1.1.2
  · simp
theorem undoV_len (l : List ByteArray) : (undoV l).length ≤ 64 := by
  unfold undoV; split
  · rename_i h
    split
    · rw [mkM_len]; exact h.1.1.2
    · simp
  · simp
theorem cauchyV_len (n m : Int) : (cauchyV n m).length ≤ 64 := by
  unfold cauchyV; split
  · rename_i h; rw [mkM_len]; have := h.1; omega
  · simp
theorem pickV_len (l : List ByteArray) (r : List Int) : (pickV l r).length ≤ 64 := by
  unfold pickV; split
  · rename_i h; rw [pickL_len]; exact h.2.1.2
  · simp
theorem belowV_len (a b : List ByteArray) : (belowV a b).length ≤ 64 := by
  unfold belowV; split
  · rename_i h; rw [List.length_append]; exact h.2.2.2
  · simp
theorem unitV_len (n : Int) : (unitV n).length ≤ 64 := by
  unfold unitV; split
  · rename_i h; rw [unitM_len]; omega
  · simp
theorem unit_big (n : Int) (w : World) : Calls Try.prog 42 #[.int .i64 n] w fun e w' => ∃ (A : Option Addr) (k cap : Nat), e = .returned (.slice A k cap) ∧ k ≤ 1048576 ∧ Rd w' A k ((unitV n).map Value.string) ∧ Ext w w' :=
  (unit_any n w).mono fun _ _ ⟨A, k, cap, he, hk, hr, hE⟩ => ⟨A, k, cap, he, by have := unitV_len n; omega, hr.rd, hE⟩
theorem runit_big (n : Int) (w : World) : Calls Try.prog 44 #[.int .i64 n] w fun e w' => ∃ (A : Option Addr) (k cap : Nat), e = .returned (.slice A k cap) ∧ k ≤ 1048576 ∧ Rd w' A k ((unitV n).map Value.string) ∧ Ext w w' :=
  (runit_any n w).mono fun _ _ ⟨A, k, cap, he, hk, hr, hE⟩ => ⟨A, k, cap, he, by have := unitV_len n; omega, hr.rd, hE⟩
theorem may_b (A : Option Addr) (n cap : Nat) (l : List ByteArray) (w : World) (hr : Rd w A n (l.map Value.string)) (h : Sm n l) :
    Calls Try.prog 48 #[.slice A n cap] w fun e w' => e = .returned (.bool (mayB l)) ∧ Ext w w' := may_any A n cap l w hr h.n h.z
theorem rmay_b (A : Option Addr) (n cap : Nat) (l : List ByteArray) (w : World) (hr : Rd w A n (l.map Value.string)) (h : Sm n l) :
    Calls Try.prog 67 #[.slice A n cap] w fun e w' => e = .returned (.bool (mayB l)) ∧ Ext w w' := rmay_any A n cap l w hr h.n h.z
theorem mtimes_big (A B : Option Addr) (n cap m cap2 : Nat) (a b : List ByteArray) (w : World) (hr : Rd w A n (a.map Value.string)) (hq : Rd w B m (b.map Value.string)) (h1 : Sm n a) (h2 : Sm m b) :
    Calls Try.prog 32 #[.slice A n cap, .slice B m cap2] w (BigIs (timesV a b) (timesE a b) w) :=
  (mtimes_any A B n cap m cap2 a b w hr hq h1.n h2.n h1.z h2.z).mono fun _ _ h => big_of h (by have := timesV_len a b; omega)
theorem undo_big (A : Option Addr) (n cap : Nat) (a : List ByteArray) (w : World) (hr : Rd w A n (a.map Value.string)) (h1 : Sm n a) :
    Calls Try.prog 28 #[.slice A n cap] w (BigIs (undoV a) (undoE a) w) :=
  (undo_any A n cap a w hr h1.n h1.z).mono fun _ _ h => big_of h (by have := undoV_len a; omega)
theorem rundo_big (A : Option Addr) (n cap : Nat) (a : List ByteArray) (w : World) (hr : Rd w A n (a.map Value.string)) (h1 : Sm n a) :
    Calls Try.prog 53 #[.slice A n cap] w (BigIs (undoV a) (undoE a) w) :=
  (rundo_any A n cap a w hr h1.n h1.z).mono fun _ _ h => big_of h (by have := undoV_len a; omega)
theorem cauchy_big (n m : Int) (w : World) : Calls Try.prog 43 #[.int .i64 n, .int .i64 m] w (BigIs (cauchyV n m) (cauchyE n m) w) :=
  (cauchy_any n m w).mono fun _ _ h => big_of h (by have := cauchyV_len n m; omega)
theorem rcauchy_big (n m : Int) (w : World) : Calls Try.prog 45 #[.int .i64 n, .int .i64 m] w (BigIs (cauchyV n m) (cauchyE n m) w) :=
  (rcauchy_any n m w).mono fun _ _ h => big_of h (by have := cauchyV_len n m; omega)
end Go.Proofs.Ytjdppgogdilgkaa
end
section
namespace Go.Proofs.Ytjdppgogdilgkaa
open Go.RowKit Go.Gf
def xs (n : Nat) (f : Nat → Nat) : Nat :=
  match n with
  | 0 => 0
  | n + 1 => xs n f ^^^ f n
theorem xs_lt (n : Nat) (f : Nat → Nat) (h : ∀ i, i < n → f i < 256) : xs n f < 256 := by
  induction n with
  | zero => simp [xs]
  | succ n ih => exact x8 (ih fun i hi => h i (by omega)) (h n (by omega))
theorem xs_congr (n : Nat) (f g : Nat → Nat) (h : ∀ i, i < n → f i = g i) : xs n f = xs n g := by
  induction n with
  | zero => rfl
  | succ n ih => simp only [xs]; rw [ih fun i hi => h i (by omega), h n (by omega)]
theorem xs_zero (n : Nat) (f : Nat → Nat) (h : ∀ i, i < n → f i = 0) : xs n f = 0 := by
  induction n with
  | zero => rfl
  | succ n ih => simp only [xs]; rw [ih fun i hi => h i (by omega), h n (by omega)]; rfl
theorem xs_xor (n : Nat) (f g : Nat → Nat) : xs n (fun i => f i ^^^ g i) = xs n f ^^^ xs n g := by
  induction n with
  | zero => simp [xs]
  | succ n ih => simp only [xs]; rw [ih]; ac_rfl
theorem fm_xs_r (a n : Nat) (f : Nat → Nat) : fm a (xs n f) = xs n (fun i => fm a (f i)) := by
  induction n with
  | zero => exact fm_zero_r a
  | succ n ih => simp only [xs]; rw [fm_xor_r, ih]
theorem fm_xs_l (b n : Nat) (f : Nat → Nat) (h : ∀ i, i < n → f i < 256) : fm (xs n f) b = xs n (fun i => fm (f i) b) := by
  induction n with
  | zero => exact fm_zero_l b
  | succ n ih => simp only [xs]; rw [fm_xor_l _ _ _ (xs_lt n f fun i hi => h i (by omega)) (h n (by omega)), ih fun i hi => h i (by omega)]
theorem xs_swap (n m : Nat) (f : Nat → Nat → Nat) : xs n (fun i => xs m (fun j => f i j)) = xs m (fun j => xs n (fun i => f i j)) := by
  induction n with
  | zero => exact (xs_zero m _ fun _ _ => rfl).symm
  | succ n ih => simp only [xs]; rw [ih, ← xs_xor]
theorem xs_one (n k : Nat) (f : Nat → Nat) (hk : k < n) (h : ∀ i, i < n → i ≠ k → f i = 0) : xs n f = f k := by
  induction n with
  | zero => omega
  | succ n ih =>
    simp only [xs]
    by_cases e : k = n
    · subst e; rw [xs_zero k f fun i hi => h i (by omega) (by omega), Nat.zero_xor]
    · rw [ih (by omega) fun i hi hne => h i (by omega) hne, h n (by omega) (fun x => e x.symm), Nat.xor_zero]
theorem fm_one_l (a : Nat) (h : a < 256) : fm 1 a = a := by rw [fm_comm 1 a (by omega) h, fm_one_r]
def mul (n : Nat) (A B : St) : St := fun i j => xs n (fun k => fm (A i k) (B k j))
theorem mul_lt (n : Nat) (A B : St) (hA : Byte A) : Byte (mul n A B) := fun i _ => xs_lt n _ fun k _ => fm_lt _ _ (hA i k)
theorem mul_assoc (n m : Nat) (A B C : St) (hA : Byte A) (hB : Byte B) (hC : Byte C) (i j : Nat) : mul m (mul n A B) C i j = mul n A (mul m B C) i j := by
  unfold mul
  rw [xs_congr m _ (fun k => xs n (fun x => fm (A i x) (fm (B x k) (C k j)))) fun k _ => by
    rw [fm_xs_l _ n _ fun x _ => fm_lt _ _ (hA i x)]
    exact xs_congr n _ _ fun x _ => fm_assoc _ _ _ (hA i x) (hB x k) (hC k j)]
  rw [xs_swap]
  exact xs_congr n _ _ fun x _ => by rw [fm_xs_r]
theorem mul_congr (n : Nat) (A A' B B' : St) (i j : Nat) (h1 : ∀ k, k < n → A i k = A' i k) (h2 : ∀ k, k < n → B k j = B' k j) : mul n A B i j = mul n A' B' i j :=
  xs_congr n _ _ fun k hk => by rw [h1 k hk, h2 k hk]
theorem unit_byte : Byte unitF := fun _ _ => unitF_lt _ _
theorem mul_unit_l (n : Nat) (A : St) (hA : Byte A) (i j : Nat) (hi : i < n) : mul n unitF A i j = A i j := by
  unfold mul
  rw [xs_one n i _ hi fun k _ hne => by unfold unitF; rw [if_neg hne, fm_zero_l]]
  unfold unitF; rw [if_pos rfl, fm_one_l _ (hA i j)]
theorem mul_unit_r (n : Nat) (A : St) (i j : Nat) (hj : j < n) : mul n A unitF i j = A i j := by
  unfold mul
  rw [xs_one n j _ hj fun k _ hne => by unfold unitF; rw [if_neg (fun h => hne h.symm), fm_zero_r]]
  unfold unitF; rw [if_pos rfl, fm_one_r]
theorem acc_xs (c : ByteArray) (l : List ByteArray) (k j : Nat) : acc c l k j = xs k (fun x => fm (bn c x) (ent l x j)) := by
  induction k with
  | zero => rfl
  | succ k ih => simp only [acc, xs]; rw [ih]; rfl
theorem timesF_mul (a b : List ByteArray) (i j : Nat) : timesF a b i j = mul b.length (ent a) (ent b) i j := by
  unfold timesF mul; rw [acc_xs]; rfl
theorem ent_byte (l : List ByteArray) : Byte (ent l) := fun _ _ => ent_lt _ _ _
theorem mat_eq {a : List ByteArray} {r c : Nat} {f : St} (hl : a.length = r) (hs : ∀ s ∈ a, s.size = c) (h : ∀ i, i < r → ∀ j, j < c → f i j = ent a i j) : mkM r c f = a := by
  subst hl
  rw [mkM_congr _ _ f (ent a) h]
  exact mkM_ent a c hs
theorem mayP_mkM (r c : Nat) (f : St) (hr : 1 ≤ r ∧ r ≤ 64) (hc : 1 ≤ c ∧ c ≤ 64) : mayP (mkM r c f) := by
  refine ⟨by rw [mkM_len]; exact hr, by rw [len0_mkM _ _ _ (by omega)]; exact hc, fun s hs => ?_⟩
  rw [len0_mkM _ _ _ (by omega)]; exact mkM_mem _ _ _ s hs
theorem mayP_unit (n : Nat) (h : 1 ≤ n ∧ n ≤ 64) : mayP (unitM n) := mayP_mkM n n unitF h h
theorem len0_unit (n : Nat) (h : 1 ≤ n) : len0 (unitM n) = n := len0_mkM _ _ _ (by omega)
theorem ent_unit (n i j : Nat) (hi : i < n) (hj : j < n) : ent (unitM n) i j = unitF i j := ent_mkM n n unitF i j hi hj (unitF_lt _ _)
theorem times_unit_l (a : List ByteArray) (h : mayP a) : timesV (unitM a.length) a = a ∧ timesE (unitM a.length) a = 0 := by
  have hn := h.1
  have ho := times_ok (mayP_unit a.length hn) h (len0_unit _ hn.1)
  refine ⟨?_, ho.2⟩
  rw [ho.1, unitM_len]
  refine mat_eq rfl h.2.2 fun i hi j _ => ?_
  rw [timesF_mul, mul_congr _ _ unitF _ (ent a) i j (fun k hk => ent_unit _ i k hi hk) (fun k _ => rfl), mul_unit_l _ _ (ent_byte a) i j hi]
theorem times_unit_r (a : List ByteArray) (h : mayP a) : timesV a (unitM (len0 a)) = a ∧ timesE a (unitM (len0 a)) = 0 := by
  have hn := h.2.1
  have ho := times_ok h (mayP_unit (len0 a) hn) (unitM_len _).symm
  refine ⟨?_, ho.2⟩
  rw [ho.1, len0_unit _ hn.1]
  refine mat_eq rfl h.2.2 fun i _ j hj => ?_
  rw [timesF_mul, unitM_len, mul_congr _ _ (ent a) _ unitF i j (fun k _ => rfl) (fun k hk => ent_unit _ k j hk hj), mul_unit_r _ _ i j hj]
theorem pickL_getD (l : List ByteArray) (r : List Int) (i : Nat) (hi : i < r.length) : (pickL l r).getD i { data := #[] } = l.getD (r[i]).toNat { data := #[] } := by
  unfold pickL
  rw [List.getD_eq_getElem?_getD, List.getElem?_map, List.getElem?_eq_getElem hi]; rfl
theorem ent_pick (l : List ByteArray) (r : List Int) (i j : Nat) (hi : i < r.length) : ent (pickL l r) i j = ent l (r[i]).toNat j := by
  unfold ent; rw [pickL_getD l r i hi]
theorem pickL_size (l : List ByteArray) (r : List Int) (c : Nat) (h : ∀ s ∈ l, s.size = c) (hr : ∀ i ∈ r, 0 ≤ i ∧ i < (l.length : Int)) : ∀ s ∈ pickL l r, s.size = c := by
  intro s hs
  obtain ⟨i, hi, rfl⟩ := List.mem_map.mp hs
  have := hr i hi
  exact h _ (getD_mem l _ (by omega))
theorem mayP_pick (l : List ByteArray) (r : List Int) (h : mayP l) (hp : pickOk l r) : mayP (pickL l r) ∧ len0 (pickL l r) = len0 l := by
  have hz := pickL_size l r (len0 l) h.2.2 hp.2
  have hl := pickL_len l r
  have h1 := hp.1
  have h0 : len0 (pickL l r) = len0 l := by
    have hlt : 0 < (pickL l r).length := by omega
    rw [len0_eq hlt]
    exact hz _ (List.getElem_mem _)
  exact ⟨⟨by rw [hl]; exact hp.1, by rw [h0]; exact h.2.1, fun s hs => by rw [h0]; exact hz s hs⟩, h0⟩
theorem pick_of_unit (a : List ByteArray) (r : List Int) (h : mayP a) (hp : pickOk a r) :
    timesV (pickL (unitM a.length) r) a = pickL a r ∧ timesE (pickL (unitM a.length) r) a = 0 := by
  have hn := h.1
  have hpu : pickOk (unitM a.length) r := ⟨hp.1, fun i hi => by rw [unitM_len]; exact hp.2 i hi⟩
  obtain ⟨hm, h0⟩ := mayP_pick _ r (mayP_unit a.length hn) hpu
  have ho := times_ok hm h (by rw [h0, len0_unit _ hn.1])
  refine ⟨?_, ho.2⟩
  rw [ho.1, pickL_len]
  refine mat_eq (pickL_len a r) (pickL_size a r _ h.2.2 hp.2) fun i hi j _ => ?_
  have hri := hp.2 (r[i]) (List.getElem_mem hi)
  have hlt : (r[i]).toNat < a.length := by omega
  rw [timesF_mul, ent_pick a r i j hi, mul_congr _ _ (fun _ => unitF (r[i]).toNat) _ (ent a) i j (fun k hk => by rw [ent_pick _ r i k hi, ent_unit _ _ k hlt hk]) (fun k _ => rfl)]
  exact mul_unit_l _ _ (ent_byte a) (r[i]).toNat j hlt
theorem pick_below (a b : List ByteArray) (r : List Int) (hr : ∀ i ∈ r, 0 ≤ i ∧ i < (a.length : Int)) : pickL (a ++ b) r = pickL a r := by
  unfold pickL
  refine List.map_congr_left fun i hi => ?_
  have := hr i hi
  rw [List.getD_eq_getElem?_getD, List.getD_eq_getElem?_getD, List.getElem?_append_left (by omega)]
theorem mayP_below {a b : List ByteArray} (h1 : mayP a) (h2 : mayP b) (h : len0 a = len0 b) (h4 : a.length + b.length ≤ 64) : mayP (a ++ b) ∧ len0 (a ++ b) = len0 a := by
  have ha := h1.1
  have h0 : len0 (a ++ b) = len0 a := by
    unfold len0
    rw [List.getD_eq_getElem?_getD, List.getD_eq_getElem?_getD, List.getElem?_append_left (by omega)]
  refine ⟨⟨by rw [List.length_append]; omega, by rw [h0]; exact h1.2.1, fun s hs => ?_⟩, h0⟩
  rw [h0]
  rcases List.mem_append.mp hs with h' | h'
  · exact h1.2.2 s h'
  · rw [h]; exact h2.2.2 s h'
end Go.Proofs.Ytjdppgogdilgkaa
end
section
namespace Go.Proofs.Ytjdppgogdilgkaa
open Go.RowKit Go.Gf
def IsU (n : Nat) (M : St) : Prop := ∀ i, i < n → ∀ j, j < n → M i j = unitF i j
theorem xs_split (n c : Nat) (f : Nat → Nat) (hc : c < n) : xs n f = f c ^^^ xs n (fun k => if k = c then 0 else f k) := by
  induction n with
  | zero => omega
  | succ n ih =>
    simp only [xs]
    by_cases e : c = n
    · subst e
      rw [if_pos rfl, xs_congr c (fun k => if k = c then 0 else f k) f fun i hi => by rw [if_neg (by omega)], Nat.xor_zero, Nat.xor_comm]
    · rw [ih (by omega), if_neg (fun h => e h.symm)]; ac_rfl
def colM (c : Nat) (v : Nat → Nat) : St := fun i k => if k = c then v i else unitF i k
theorem colM_byte (c : Nat) (v : Nat → Nat) (hv : ∀ i, v i < 256) : Byte (colM c v) := by
  intro i k; unfold colM; split
  · exact hv i
  · exact unitF_lt _ _
theorem mul_colM (n c : Nat) (v : Nat → Nat) (s : St) (hs : Byte s) (i j : Nat) (hi : i < n) (hc : c < n) : mul n (colM c v) s i j = (if i = c then 0 else s i j) ^^^ fm (v i) (s c j) := by
  unfold mul
  rw [xs_split n c _ hc]
  have h1 : fm (colM c v i c) (s c j) = fm (v i) (s c j) := by unfold colM; rw [if_pos rfl]
  rw [h1, Nat.xor_comm]
  congr 1
  by_cases e : i = c
  · rw [if_pos e]
    refine xs_zero n _ fun k _ => ?_
    by_cases h : k = c
    · rw [if_pos h]
    · rw [if_neg h]; unfold colM unitF; rw [if_neg h, if_neg (by omega), fm_zero_l]
  · rw [if_neg e, xs_one n i _ hi fun k _ hne => by
      by_cases h : k = c
      · rw [if_pos h]
      · rw [if_neg h]; unfold colM unitF; rw [if_neg h, if_neg hne, fm_zero_l]]
    rw [if_neg e]
    unfold colM unitF
    rw [if_neg e, if_pos rfl, fm_one_l _ (hs i j)]
def rowP (p : Nat → Nat) : St := fun i k => unitF (p i) k
theorem mul_rowP (n : Nat) (p : Nat → Nat) (s : St) (hs : Byte s) (i j : Nat) (hp : p i < n) : mul n (rowP p) s i j = s (p i) j :=
  mul_unit_l n s hs (p i) j hp
def Bh (n : Nat) (s : St) : St := fun i j => s i (n + j)
structure Good (n : Nat) (A s : St) : Prop where
  byte : Byte s
  prod : ∀ i, i < n → ∀ j, j < n → mul n (Bh n s) A i j = s i j
  inv : ∃ F : St, Byte F ∧ IsU n (mul n (Bh n s) F) ∧ IsU n (mul n F (Bh n s))
theorem Bh_byte {n : Nat} {s : St} (h : Byte s) : Byte (Bh n s) := fun i j => h i (n + j)
theorem mul_mid (n : Nat) (X Y Z : St) (hX : Byte X) (hY : Byte Y) (hZ : Byte Z) (h : IsU n (mul n X Y)) (i j : Nat) (hi : i < n) : mul n X (mul n Y Z) i j = Z i j := by
  rw [← mul_assoc n n X Y Z hX hY hZ, mul_congr n _ unitF Z Z i j (fun k hk => h i hi k hk) (fun _ _ => rfl)]
  exact mul_unit_l n Z hZ i j hi
theorem Good.step {n : Nat} {A s s' E E' : St} (h : Good n A s) (hA : Byte A) (hE : Byte E) (hE' : Byte E') (h1 : IsU n (mul n E E')) (h2 : IsU n (mul n E' E)) (hs' : Byte s') (he : ∀ i, i < n → ∀ j, j < 2 * n → s' i j = mul n E s i j) : Good n A s' := by
  obtain ⟨F, hF, hBF, hFB⟩ := h.inv
  have hB := Bh_byte (n := n) h.byte
  have hB' : ∀ i, i < n → ∀ j, j < n → Bh n s' i j = mul n E (Bh n s) i j := fun i hi j hj => he i hi (n + j) (by omega)
  refine ⟨hs', fun i hi j hj => ?_, mul n F E', mul_lt n _ _ hF, fun i hi j hj => ?_, fun i hi j hj => ?_⟩
  · rw [mul_congr n (Bh n s') (mul n E (Bh n s)) A A i j (fun k hk => hB' i hi k hk) (fun _ _ => rfl), mul_assoc n n E _ A hE hB hA, he i hi j (by omega)]
    exact mul_congr n E E _ _ i j (fun _ _ => rfl) (fun k hk => h.prod k hk j hj)
  · rw [mul_congr n (Bh n s') (mul n E (Bh n s)) _ _ i j (fun k hk => hB' i hi k hk) (fun _ _ => rfl), mul_assoc n n E _ _ hE hB (mul_lt n _ _ hF)]
    rw [mul_congr n E E _ E' i j (fun _ _ => rfl) (fun k hk => mul_mid n (Bh n s) F E' hB hF hE' hBF k j hk)]
    exact h1 i hi j hj
  · rw [mul_congr n _ _ (Bh n s') (mul n E (Bh n s)) i j (fun _ _ => rfl) (fun k hk => hB' k hk j hj), mul_assoc n n F E' _ hF hE' (mul_lt n _ _ hE)]
    rw [mul_congr n F F _ (Bh n s) i j (fun _ _ => rfl) (fun k hk => mul_mid n E' E (Bh n s) hE' hE hB h2 k j hk)]
    exact hFB i hi j hj
def Cols (n c : Nat) (s : St) : Prop := ∀ i, i < n → ∀ j, j < c → s i j = unitF i j
def tr (c p i : Nat) : Nat := if i = c then p else if i = p then c else i
theorem swapF_tr (s : St) (c p i j : Nat) : swapF s c p i j = s (tr c p i) j := by
  unfold swapF tr
  by_cases h1 : i = c
  · rw [if_pos h1, if_pos h1]
  · rw [if_neg h1, if_neg h1]
    by_cases h2 : i = p
    · rw [if_pos h2, if_pos h2]
    · rw [if_neg h2, if_neg h2]
theorem tr_lt {n c p i : Nat} (hc : c < n) (hp : p < n) (hi : i < n) : tr c p i < n := by
  unfold tr; split
  · exact hp
  · split
    · exact hc
    · exact hi
theorem tr_tr (c p i : Nat) : tr c p (tr c p i) = i := by
  unfold tr
  by_cases h1 : i = c
  · rw [if_pos h1]
    by_cases h2 : p = c
    · rw [if_pos h2]; omega
    · rw [if_neg h2, if_pos rfl]; exact h1.symm
  · rw [if_neg h1]
    by_cases h2 : i = p
    · rw [if_pos h2, if_pos rfl]; exact h2.symm
    · rw [if_neg h2, if_neg h1, if_neg h2]
theorem rowP_byte (p : Nat → Nat) : Byte (rowP p) := fun _ _ => unitF_lt _ _
theorem rowP_inv {n c p : Nat} (hc : c < n) (hp : p < n) : IsU n (mul n (rowP (tr c p)) (rowP (tr c p))) := fun i hi j _ => by
  rw [mul_rowP n _ _ (rowP_byte _) i j (tr_lt hc hp hi)]
  unfold rowP; rw [tr_tr]
theorem Good.swap {n : Nat} {A s : St} {c p : Nat} (h : Good n A s) (hA : Byte A) (hc : c < n) (hp : p < n) : Good n A (swapF s c p) :=
  h.step hA (rowP_byte (tr c p)) (rowP_byte (tr c p)) (rowP_inv hc hp) (rowP_inv hc hp) (swapF_byte h.byte c p) fun i hi j _ => by
    rw [mul_rowP n _ _ h.byte i j (tr_lt hc hp hi), swapF_tr]
theorem fm_inv_l (a : Nat) (ha : a < 256) (h : a ≠ 0) : fm (invV a) a = 1 := by
  rw [fm_comm _ _ (invV_lt a) ha]; unfold invV; rw [if_neg h]; exact fm_fi a ha h
theorem fm_inv_r (a : Nat) (ha : a < 256) (h : a ≠ 0) : fm a (invV a) = 1 := by unfold invV; rw [if_neg h]; exact fm_fi a ha h
def eV (s : St) (c i : Nat) : Nat := if i = c then invV (s c c) else fm (s i c) (invV (s c c))
theorem eV_lt {s : St} (hs : Byte s) (c i : Nat) : eV s c i < 256 := by
  unfold eV; split
  · exact invV_lt _
  · exact fm_lt _ _ (hs i c)
theorem elim_colM {n : Nat} {s : St} (hs : Byte s) {c i : Nat} (hc : c < n) (hi : i < n) (j : Nat) : elimTo s c n i j = mul n (colM c (eV s c)) s i j := by
  rw [mul_colM n c _ s hs i j hi hc]
  unfold elimTo rowR eV
  by_cases h : i = c
  · rw [if_pos h, if_pos h, if_pos h, Nat.zero_xor]
  · rw [if_neg h, if_neg h, if_neg h, if_pos hi, fm_assoc _ _ _ (hs i c) (invV_lt _) (hs c j)]
theorem colM_inv {n c : Nat} {s : St} (hs : Byte s) (hc : c < n) (hne : s c c ≠ 0) : IsU n (mul n (colM c (eV s c)) (colM c (fun i => s i c))) := fun i hi j _ => by
  rw [mul_colM n c _ _ (colM_byte c _ fun i => hs i c) i j hi hc]
  have hp := hs c c
  unfold colM eV
  by_cases hj : j = c
  · rw [if_pos hj, if_pos hj]
    by_cases h : i = c
    · rw [if_pos h, if_pos h, Nat.zero_xor, fm_inv_l _ hp hne]; unfold unitF; rw [if_pos (by omega)]
    · rw [if_neg h, if_neg h, fm_assoc _ _ _ (hs i c) (invV_lt _) hp, fm_inv_l _ hp hne, fm_one_r, Nat.xor_self]; unfold unitF; rw [if_neg (by omega)]
  · rw [if_neg hj, if_neg hj]
    have hz : unitF c j = 0 := by unfold unitF; rw [if_neg hj]
    rw [hz, fm_zero_r, Nat.xor_zero]
    by_cases h : i = c
    · rw [if_pos h, h, hz]
    · rw [if_neg h]
theorem colM_inv2 {n c : Nat} {s : St} (hs : Byte s) (hc : c < n) (hne : s c c ≠ 0) : IsU n (mul n (colM c (fun i => s i c)) (colM c (eV s c))) := fun i hi j _ => by
  rw [mul_colM n c _ _ (colM_byte c _ fun i => eV_lt hs c i) i j hi hc]
  have hp := hs c c
  unfold colM eV
  by_cases hj : j = c
  · rw [if_pos hj, if_pos hj, if_pos rfl]
    by_cases h : i = c
    · rw [if_pos h, h, Nat.zero_xor, fm_inv_r _ hp hne]; unfold unitF; rw [if_pos hj]
    · rw [if_neg h, if_neg h, Nat.xor_self]; unfold unitF; rw [if_neg (by omega)]
  · rw [if_neg hj, if_neg hj]
    have hz : unitF c j = 0 := by unfold unitF; rw [if_neg hj]
    rw [hz, fm_zero_r, Nat.xor_zero]
    by_cases h : i = c
    · rw [if_pos h, h, hz]
    · rw [if_neg h]
theorem Good.elim {n : Nat} {A s : St} {c : Nat} (h : Good n A s) (hA : Byte A) (hc : c < n) (hne : s c c ≠ 0) : Good n A (elimTo s c n) :=
  h.step hA (colM_byte c _ fun i => eV_lt h.byte c i) (colM_byte c _ fun i => h.byte i c) (colM_inv h.byte hc hne) (colM_inv2 h.byte hc hne) (elimTo_byte h.byte c n) fun _ hi j _ => elim_colM h.byte hc hi j
theorem Cols.swap {n c p : Nat} {s : St} (h : Cols n c s) (hc : c < n) (hp : p < n) (hcp : c ≤ p) : Cols n c (swapF s c p) := fun i hi j hj => by
  rw [swapF_tr, h _ (tr_lt hc hp hi) j hj]
  unfold tr unitF
  by_cases h1 : i = c
  · rw [if_pos h1, if_neg (by omega), if_neg (by omega)]
  · rw [if_neg h1]
    by_cases h2 : i = p
    · rw [if_pos h2, if_neg (by omega), if_neg (by omega)]
    · rw [if_neg h2]
theorem Cols.elim {n c : Nat} {s : St} (h : Cols n c s) (hs : Byte s) (hc : c < n) (hne : s c c ≠ 0) : Cols n (c + 1) (elimTo s c n) := fun i hi j hj => by
  have hp := hs c c
  unfold elimTo rowR
  by_cases e : j = c
  · subst e
    rw [fm_inv_l _ hp hne]
    by_cases h1 : i = j
    · rw [if_pos h1]; unfold unitF; rw [if_pos h1.symm]
    · rw [if_neg h1, if_pos hi, fm_one_r, Nat.xor_self]; unfold unitF; rw [if_neg (fun h => h1 h.symm)]
  · have hj2 : j < c := by omega
    have hz : s c j = 0 := by rw [h c hc j hj2]; unfold unitF; rw [if_neg (by omega)]
    rw [hz, fm_zero_r]
    by_cases h1 : i = c
    · rw [if_pos h1]; unfold unitF; rw [if_neg (by omega)]
    · rw [if_neg h1, if_pos hi, fm_zero_r, Nat.xor_zero]; exact h i hi j hj2
theorem pivF_spec {n : Nat} {s : St} {c p : Nat} (h : pivF n s c = some p) : p < n ∧ c ≤ p ∧ s p c ≠ 0 := by
  unfold pivF at h
  have h1 := List.find?_some h
  have h2 := List.mem_of_find?_eq_some h
  simp at h1 h2
  exact ⟨h2, h1.1, h1.2⟩
theorem undo_good (l : List ByteArray) (n c : Nat) (s : St) (hc : c ≤ n) (h : undoSt l n c = some s) : Good n (ent l) s ∧ Cols n c s := by
  induction c generalizing s with
  | zero =>
    have hs : s = st0 l n := by simpa [undoSt] using h.symm
    subst hs
    have hB : ∀ i j, Bh n (st0 l n) i j = unitF i j := fun i j => by unfold Bh st0; rw [if_neg (by omega), Nat.add_sub_cancel_left]
    refine ⟨⟨st0_byte l n, fun i hi j hj => ?_, unitF, unit_byte, fun i hi j hj => ?_, fun i hi j hj => ?_⟩, fun i _ j hj => absurd hj (by omega)⟩
    · rw [mul_congr n _ unitF _ (ent l) i j (fun k _ => hB i k) (fun _ _ => rfl), mul_unit_l n _ (ent_byte l) i j hi]; unfold st0; rw [if_pos hj]
    · rw [mul_congr n _ unitF _ unitF i j (fun k _ => hB i k) (fun _ _ => rfl)]; exact mul_unit_l n _ unit_byte i j hi
    · rw [mul_congr n _ unitF _ unitF i j (fun _ _ => rfl) (fun k _ => hB k j)]; exact mul_unit_l n _ unit_byte i j hi
  | succ c ih =>
    simp only [undoSt] at h
    cases hq : undoSt l n c with
    | none => rw [hq] at h; simp at h
    | some t =>
      rw [hq] at h
      simp only [Option.bind_some, stepF] at h
      cases hp : pivF n t c with
      | none => rw [hp] at h; simp at h
      | some p =>
        rw [hp] at h
        simp only [Option.map_some, Option.some.injEq] at h
        subst h
        obtain ⟨hg, hcl⟩ := ih t (by omega) hq
        obtain ⟨p1, p2, p3⟩ := pivF_spec hp
        have hne : swapF t c p c c ≠ 0 := by unfold swapF; rw [if_pos rfl]; exact p3
        have hg2 := hg.swap (ent_byte l) (by omega : c < n) p1
        exact ⟨hg2.elim (ent_byte l) (by omega) hne, (hcl.swap (by omega) p1 p2).elim hg2.byte (by omega) hne⟩
def KerT (n : Nat) (A : St) : Prop := ∀ v : Nat → Nat, (∀ k, v k < 256) → (∀ i, i < n → xs n (fun k => fm (A i k) (v k)) = 0) → ∀ k, k < n → v k = 0
theorem KerT.of_left {n : Nat} {A L : St} (hA : Byte A) (hL : Byte L) (h : IsU n (mul n L A)) : KerT n A := fun v hv hz k hk => by
  have h1 := mul_mid n L A (fun i _ => v i) hL hA (fun i _ => hv i) h k 0 hk
  have h2 : mul n L (mul n A (fun i _ => v i)) k 0 = 0 := xs_zero n _ fun x hx => by
    have : mul n A (fun i _ => v i) x 0 = 0 := hz x hx
    rw [this, fm_zero_r]
  rw [← h1, h2]
theorem undo_total (l : List ByteArray) (n : Nat) (hk : KerT n (ent l)) (c : Nat) (hc : c ≤ n) : ∃ s, undoSt l n c = some s := by
  induction c with
  | zero => exact ⟨_, rfl⟩
  | succ c ih =>
    obtain ⟨s, hs⟩ := ih (by omega)
    obtain ⟨hg, hcl⟩ := undo_good l n c s (by omega) hs
    by_cases hex : ∃ p, p < n ∧ c ≤ p ∧ s p c ≠ 0
    · cases hp : pivF n s c with
      | some p => exact ⟨elimTo (swapF s c p) c n, by simp [undoSt, hs, stepF, hp]⟩
      | none =>
        exfalso
        obtain ⟨p, h1, h2, h3⟩ := hex
        unfold pivF at hp
        rw [List.find?_eq_none] at hp
        have := hp p (List.mem_range.mpr h1)
        simp [h2, h3] at this
    · exfalso
      have hz : ∀ q, c ≤ q → q < n → s q c = 0 := fun q h1 h2 => Classical.byContradiction fun hne => hex ⟨q, h2, h1, hne⟩
      obtain ⟨F, hF, _, hFB⟩ := hg.inv
      have hb := hg.byte
      -- the vector that goes to 0
      obtain ⟨v, hgen⟩ : ∃ v : Nat → Nat, ∀ k, v k = if k < c then s k c else if k = c then 1 else 0 := ⟨_, fun _ => rfl⟩
      have hv : ∀ k, v k < 256 := fun k => by
        rw [hgen k]; split
        · exact hb k c
        · split <;> omega
      have hvc : v c = 1 := by rw [hgen, if_neg (by omega), if_pos rfl]
      have hvb : Byte (fun i _ => v i) := fun i _ => hv i
      have hsv : ∀ i, i < n → mul n s (fun i _ => v i) i 0 = 0 := fun i hi => by
        unfold mul
        rw [xs_split n c _ (by omega)]
        show fm (s i c) (v c) ^^^ xs n (fun k => if k = c then 0 else fm (s i k) (v k)) = 0
        rw [hvc, fm_one_r]
        by_cases hic : i < c
        · rw [xs_one n i _ hi fun k hk hne => by
            by_cases h1 : k = c
            · rw [if_pos h1]
            · rw [if_neg h1]
              by_cases h2 : k < c
              · rw [hcl i hi k h2]; unfold unitF; rw [if_neg hne, fm_zero_l]
              · rw [hgen k, if_neg h2, if_neg h1, fm_zero_r]]
          rw [if_neg (by omega), hcl i hi i hic, hgen i, if_pos hic]
          unfold unitF; rw [if_pos rfl, fm_one_l _ (hb i c), Nat.xor_self]
        · rw [hz i (by omega) hi, Nat.zero_xor]
          refine xs_zero n _ fun k hk => ?_
          by_cases h1 : k = c
          · rw [if_pos h1]
          · rw [if_neg h1]
            by_cases h2 : k < c
            · rw [hcl i hi k h2]; unfold unitF; rw [if_neg (by omega), fm_zero_l]
            · rw [hgen k, if_neg h2, if_neg h1, fm_zero_r]
      have hBAv : ∀ i, i < n → mul n (Bh n s) (mul n (ent l) (fun i _ => v i)) i 0 = 0 := fun i hi => by
        rw [← mul_assoc n n _ _ _ (Bh_byte hb) (ent_byte l) hvb, mul_congr n _ s _ (fun i _ => v i) i 0 (fun k hk => hg.prod i hi k hk) (fun _ _ => rfl)]
        exact hsv i hi
      have hAv : ∀ i, i < n → xs n (fun k => fm (ent l i k) (v k)) = 0 := fun i hi => by
        have h1 := mul_mid n F (Bh n s) (mul n (ent l) (fun i _ => v i)) hF (Bh_byte hb) (mul_lt n _ _ (ent_byte l)) hFB i 0 hi
        have h2 : mul n F (mul n (Bh n s) (mul n (ent l) (fun i _ => v i))) i 0 = 0 := xs_zero n _ fun x hx => by rw [hBAv x hx, fm_zero_r]
        have h3 : mul n (ent l) (fun i _ => v i) i 0 = 0 := by rw [← h1, h2]
        exact h3
      have := hk v hv hAv c (by omega)
      omega
theorem undo_sound (l : List ByteArray) (h : mayP l) (hsq : l.length = len0 l) (he : undoE l = 0) :
    mayP (undoV l) ∧ (undoV l).length = l.length ∧ len0 (undoV l) = l.length ∧ IsU l.length (mul l.length (ent (undoV l)) (ent l)) ∧ IsU l.length (mul l.length (ent l) (ent (undoV l))) := by
  generalize hn : l.length = n at *
  have hn1 := h.1
  rw [hn] at hn1
  cases hs : undoSt l n n with
  | none => rw [(undo_sing h (by omega) (by rw [hn]; exact hs)).2] at he; exact absurd he (by decide)
  | some s =>
    have ho := (undo_ok h (by omega) s (by rw [hn]; exact hs)).1
    rw [hn] at ho
    obtain ⟨hg, hcl⟩ := undo_good l n n s (Nat.le_refl _) hs
    have hu : ∀ i, i < n → ∀ j, j < n → ent (undoV l) i j = Bh n s i j := fun i hi j hj => by rw [ho, ent_mkM n n _ i j hi hj (hg.byte i (n + j))]; rfl
    have hBA : IsU n (mul n (Bh n s) (ent l)) := fun i hi j hj => by rw [hg.prod i hi j hj]; exact hcl i hi j hj
    obtain ⟨F, hF, hBF, hFB⟩ := hg.inv
    have hB := Bh_byte (n := n) hg.byte
    have hAF : ∀ i, i < n → ∀ j, j < n → ent l i j = F i j := fun i hi j hj => by
      have h1 := mul_mid n F (Bh n s) (ent l) hF hB (ent_byte l) hFB i j hi
      rw [← h1, mul_congr n F F _ unitF i j (fun _ _ => rfl) (fun k hk => hBA k hk j hj)]
      exact mul_unit_r n F i j hj
    refine ⟨by rw [ho]; exact mayP_mkM n n _ hn1 hn1, by rw [ho, mkM_len], by rw [ho, len0_mkM _ _ _ (by omega)], fun i hi j hj => ?_, fun i hi j hj => ?_⟩
    · rw [mul_congr n _ (Bh n s) _ (ent l) i j (fun k hk => hu i hi k hk) (fun _ _ => rfl)]; exact hBA i hi j hj
    · rw [mul_congr n _ F _ (Bh n s) i j (fun k hk => hAF i hi k hk) (fun k hk => hu k hk j hj)]; exact hFB i hi j hj
theorem undo_works (l : List ByteArray) (h : mayP l) (hsq : l.length = len0 l) (hk : KerT l.length (ent l)) : undoE l = 0 := by
  obtain ⟨s, hs⟩ := undo_total l l.length hk l.length (Nat.le_refl _)
  exact (undo_ok h hsq s hs).2
theorem undo_sq {l : List ByteArray} (he : undoE l = 0) : mayP l ∧ l.length = len0 l := by
  unfold undoE at he
  split at he
  · rename_i h1
    split at he
    · rename_i h2; exact ⟨h1, h2⟩
    · exact absurd he (by decide)
  · exact absurd he (by decide)
theorem inv_unique (n : Nat) (X A Y : St) (hX : Byte X) (hA : Byte A) (hY : Byte Y) (h1 : IsU n (mul n X A)) (h2 : IsU n (mul n A Y)) : ∀ i, i < n → ∀ j, j < n → X i j = Y i j := fun i hi j hj => by
  have h := mul_mid n X A Y hX hA hY h1 i j hi
  rw [← h, mul_congr n X X _ unitF i j (fun _ _ => rfl) (fun k hk => h2 k hk j hj)]
  exact (mul_unit_r n X i j hj).symm
theorem times_undo (l : List ByteArray) (he : undoE l = 0) : (timesV l (undoV l) = unitM l.length ∧ timesE l (undoV l) = 0) ∧ (timesV (undoV l) l = unitM l.length ∧ timesE (undoV l) l = 0) := by
  obtain ⟨h, hsq⟩ := undo_sq he
  obtain ⟨hu, hul, hu0, h1, h2⟩ := undo_sound l h hsq he
  have o1 := times_ok h hu (by omega)
  have o2 := times_ok hu h (by omega)
  refine ⟨⟨?_, o1.2⟩, ⟨?_, o2.2⟩⟩
  · rw [o1.1, hu0]
    exact mkM_congr _ _ _ _ fun i hi j hj => by rw [timesF_mul, hul]; exact h2 i hi j hj
  · rw [o2.1, hul, ← hsq]
    exact mkM_congr _ _ _ _ fun i hi j hj => by rw [timesF_mul]; exact h1 i hi j hj
theorem undo_undo (l : List ByteArray) (he : undoE l = 0) : undoV (undoV l) = l ∧ undoE (undoV l) = 0 := by
  obtain ⟨h, hsq⟩ := undo_sq he
  obtain ⟨hu, hul, hu0, h1, h2⟩ := undo_sound l h hsq he
  have hk : KerT (undoV l).length (ent (undoV l)) := by rw [hul]; exact KerT.of_left (ent_byte _) (ent_byte l) h2
  have he2 := undo_works (undoV l) hu (by omega) hk
  obtain ⟨hw, hwl, hw0, k1, k2⟩ := undo_sound (undoV l) hu (by omega) he2
  rw [hul] at hwl hw0 k1 k2
  refine ⟨?_, he2⟩
  have := inv_unique l.length (ent (undoV (undoV l))) (ent (undoV l)) (ent l) (ent_byte _) (ent_byte _) (ent_byte _) k1 h1
  have e1 := mat_eq (a := undoV (undoV l)) (r := l.length) (c := l.length) (f := ent l) hwl (fun s hs => by rw [hw.2.2 s hs, hw0]) (fun i hi j hj => (this i hi j hj).symm)
  have e2 := mat_eq (a := l) (r := l.length) (c := l.length) (f := ent l) rfl (fun s hs => by rw [h.2.2 s hs, hsq]) (fun i _ j _ => rfl)
  rw [← e1, e2]
theorem times_assoc (a b c : List ByteArray) (h1 : timesE a b = 0) (h2 : timesE b c = 0) :
    timesE (timesV a b) c = 0 ∧ timesE a (timesV b c) = 0 ∧ timesV (timesV a b) c = timesV a (timesV b c) := by
  have key : ∀ a b : List ByteArray, timesE a b = 0 → mayP a ∧ mayP b ∧ len0 a = b.length := fun a b h => by
    unfold timesE at h
    split at h
    · rename_i h'
      split at h
      · rename_i h''; exact ⟨h'.1, h'.2, h''⟩
      · exact absurd h (by decide)
    · exact absurd h (by decide)
  obtain ⟨ha, hb, hab⟩ := key a b h1
  obtain ⟨_, hc, hbc⟩ := key b c h2
  have ha1 := ha.1
  have hb1 := hb.1
  have hb2 := hb.2.1
  have hc2 := hc.2.1
  have oab := (times_ok ha hb hab).1
  have obc := (times_ok hb hc hbc).1
  have m1 : mayP (timesV a b) := by rw [oab]; exact mayP_mkM _ _ _ ha1 hb2
  have m2 : mayP (timesV b c) := by rw [obc]; exact mayP_mkM _ _ _ hb1 hc2
  have l1 : len0 (timesV a b) = len0 b := by rw [oab, len0_mkM _ _ _ (by omega)]
  have l2 : (timesV b c).length = b.length := by rw [obc, mkM_len]
  have l3 : (timesV a b).length = a.length := by rw [oab, mkM_len]
  have l4 : len0 (timesV b c) = len0 c := by rw [obc, len0_mkM _ _ _ (by omega)]
  have o1 := times_ok m1 hc (by omega)
  have o2 := times_ok ha m2 (by omega)
  refine ⟨o1.2, o2.2, ?_⟩
  rw [o1.1, o2.1, l3, l4]
  refine mkM_congr _ _ _ _ fun i hi j hj => ?_
  rw [timesF_mul, timesF_mul, l2]
  have e1 : ∀ k, k < c.length → ent (timesV a b) i k = mul b.length (ent a) (ent b) i k := fun k hk => by
    rw [oab, ent_mkM _ _ _ i k hi (by omega) (timesF_lt _ _ _ _), timesF_mul]
  have e2 : ∀ k, k < b.length → ent (timesV b c) k j = mul c.length (ent b) (ent c) k j := fun k hk => by
    rw [obc, ent_mkM _ _ _ k j hk hj (timesF_lt _ _ _ _), timesF_mul]
  rw [mul_congr _ _ _ _ (ent c) i j e1 (fun _ _ => rfl), mul_congr _ _ (ent a) _ _ i j (fun _ _ => rfl) e2]
  exact mul_assoc b.length c.length (ent a) (ent b) (ent c) (ent_byte a) (ent_byte b) (ent_byte c) i j
end Go.Proofs.Ytjdppgogdilgkaa
end
section
namespace Go.Proofs.Ytjdppgogdilgkaa
open Go.RowKit Go.Gf
theorem invV_r (p : Nat) (h : p < 256) (h0 : p ≠ 0) : fm p (invV p) = 1 := fm_inv_r p h h0
theorem cau_key (p q e v a a0 : Nat) (hp : p < 256) (hq : q < 256) (he : e < 256) (hv : v < 256) (ha : a < 256) (hb : a0 < 256) (pa : fm p a = 1) (qa : fm q a0 = 1) :
    fm (p ^^^ q) (fm a (fm (fm v e) a0)) = fm (p ^^^ e) (fm a v) ^^^ fm (q ^^^ e) (fm a0 v) := by
  have hu := fm_lt v e hv
  have e1 : ∀ x, x < 256 → ∀ w, w < 256 → ∀ p, p < 256 → fm p x = 1 → fm p (fm x w) = w := fun x hx w hw p hp h => by rw [← fm_assoc p x w hp hx hw, h, fm_one_l w hw]
  have e2 : fm a (fm (fm v e) a0) = fm a0 (fm a (fm v e)) := by
    rw [fm_comm (fm v e) a0 hu hb, ← fm_assoc a a0 _ ha hb hu, fm_comm a a0 ha hb, fm_assoc a0 a _ hb ha hu]
  have e3 : ∀ x, x < 256 → fm e (fm x v) = fm x (fm v e) := fun x hx => by
    rw [← fm_assoc e x v he hx hv, fm_comm e x he hx, fm_assoc x e v hx he hv, fm_comm e v he hv]
  rw [fm_xor_l p q _ hp hq, fm_xor_l p e _ hp he, fm_xor_l q e _ hq he, e1 a ha (fm (fm v e) a0) (fm_lt _ _ hu) p hp pa, e2, e1 a0 hb (fm a (fm v e)) (fm_lt _ _ ha) q hq qa, e1 a ha v hv p hp pa, e1 a0 hb v hv q hq qa, e3 a ha, e3 a0 hb, fm_comm (fm v e) a0 hu hb]
  generalize fm a0 (fm v e) = A
  generalize fm a (fm v e) = B
  apply Nat.eq_of_testBit_eq
  intro i
  simp only [Nat.testBit_xor]
  cases A.testBit i <;> cases B.testBit i <;> cases v.testBit i <;> rfl
theorem xor_split (x y c : Nat) : x ^^^ c = (x ^^^ y) ^^^ (c ^^^ y) := by
  apply Nat.eq_of_testBit_eq
  intro i
  simp only [Nat.testBit_xor]
  cases x.testBit i <;> cases y.testBit i <;> cases c.testBit i <;> rfl
theorem xor_ne {a b : Nat} (h : a ≠ b) : a ^^^ b ≠ 0 := fun h0 => h (by
  apply Nat.eq_of_testBit_eq
  intro i
  have := congrArg (fun x => x.testBit i) h0
  simpa [Nat.testBit_xor] using this)
theorem cauchy_ker (m : Nat) (hm : m < 256) : ∀ (C X : List Nat) (v : Nat → Nat), C.length ≤ X.length → (∀ j, j < m → j ∉ C → v j = 0) → X.Nodup → (∀ x ∈ X, m ≤ x ∧ x < 256) → (∀ j, v j < 256) → (∀ x ∈ X, xs m (fun j => fm (invV (x ^^^ j)) (v j)) = 0) → ∀ j, j < m → v j = 0 := by
  intro C
  induction C with
  | nil => intro X v _ h _ _ _ _ j hj; exact h j hj (by simp)
  | cons c C ih =>
    intro X v hl h hX hx hv hz
    match X, hl, hX, hx, hz with
    | [], hl, _, _, _ => simp at hl
    | x0 :: X, hl, hX, hx, hz =>
      obtain ⟨hx0, hXn⟩ := List.nodup_cons.mp hX
      have b0 := hx x0 (List.mem_cons_self ..)
      by_cases hc : c < m
      · have key : ∀ j, j < m → j ≠ c → v j = 0 := by
          have hz' := ih X (fun j => fm (fm (v j) (c ^^^ j)) (invV (x0 ^^^ j))) (by simp at hl; omega) (fun j hj hjC => by
              show fm (fm (v j) (c ^^^ j)) _ = 0
              by_cases e : j = c
              · subst e; rw [Nat.xor_self, fm_zero_r, fm_zero_l]
              · rw [h j hj (by simp [e, hjC]), fm_zero_l, fm_zero_l]) hXn (fun x hx' => hx x (List.mem_cons_of_mem _ hx')) (fun j => fm_lt _ _ (fm_lt _ _ (hv j)))
            (fun x hx' => by
              have bx := hx x (List.mem_cons_of_mem _ hx')
              have hne : x ≠ x0 := fun e => hx0 (e ▸ hx')
              have hd := xor_ne hne
              have hd2 := x8 bx.2 b0.2
              have e : fm (x ^^^ x0) (xs m (fun j => fm (invV (x ^^^ j)) (fm (fm (v j) (c ^^^ j)) (invV (x0 ^^^ j))))) = 0 := by
                rw [fm_xs_r, xs_congr m _ (fun j => fm (x ^^^ c) (fm (invV (x ^^^ j)) (v j)) ^^^ fm (x0 ^^^ c) (fm (invV (x0 ^^^ j)) (v j))) fun j hj => by
                  have k1 : x ^^^ j < 256 := x8 bx.2 (by omega)
                  have k2 : x0 ^^^ j < 256 := x8 b0.2 (by omega)
                  have k3 : x ^^^ j ≠ 0 := xor_ne (by omega)
                  have k4 : x0 ^^^ j ≠ 0 := xor_ne (by omega)
                  rw [xor_split x j x0, xor_split x j c, xor_split x0 j c]
                  exact cau_key _ _ _ _ _ _ k1 k2 (x8 (by omega) (by omega)) (hv j) (invV_lt _) (invV_lt _) (invV_r _ k1 k3) (invV_r _ k2 k4)]
                rw [xs_xor, ← fm_xs_r, ← fm_xs_r, hz x (List.mem_cons_of_mem _ hx'), hz x0 (List.mem_cons_self ..), fm_zero_r, fm_zero_r]; rfl
              exact Classical.byContradiction fun hn => fm_ne _ _ hd2 (xs_lt m _ fun j _ => fm_lt _ _ (invV_lt _)) hd hn e)
          intro j hj hjc
          have h1 := hz' j hj
          have k2 : x0 ^^^ j ≠ 0 := xor_ne (by omega)
          have k3 : c ^^^ j ≠ 0 := xor_ne (fun e => hjc e.symm)
          have k5 : c ^^^ j < 256 := x8 (by omega) (by omega)
          have k6 : x0 ^^^ j < 256 := x8 b0.2 (by omega)
          refine Classical.byContradiction fun hn => ?_
          refine fm_ne _ _ (fm_lt _ _ (hv j)) (invV_lt _) (fm_ne _ _ (hv j) k5 hn k3) (fun e => ?_) h1
          have := invV_r _ k6 k2
          rw [e, fm_zero_r] at this
          exact absurd this (by decide)
        intro j hj
        by_cases e : j = c
        · subst e
          have h1 := hz x0 (List.mem_cons_self ..)
          rw [xs_one m j _ hj (fun i hi hne => by rw [key i hi hne, fm_zero_r])] at h1
          refine Classical.byContradiction fun hn => ?_
          have k2 : x0 ^^^ j ≠ 0 := xor_ne (by omega)
          have k6 : x0 ^^^ j < 256 := x8 b0.2 (by omega)
          refine fm_ne _ _ (invV_lt _) (hv j) (fun e => ?_) hn h1
          have := invV_r _ k6 k2
          rw [e, fm_zero_r] at this
          exact absurd this (by decide)
        · exact key j hj e
      · exact ih (x0 :: X) v (by simp at hl ⊢; omega) (fun j hj hjC => h j hj (by simp [hjC]; omega)) hX hx hv hz
theorem take_out (k : Nat) : ∀ (r C : List Nat), r.Nodup → (∀ x ∈ r, x < k → x ∈ C) → ∃ C' : List Nat, C'.length + (r.filter (· < k)).length = C.length ∧ ∀ y ∈ C, y ∉ r → y ∈ C' := by
  intro r
  induction r with
  | nil => intro C _ _; exact ⟨C, by simp, fun y hy _ => hy⟩
  | cons x r ih =>
    intro C hn hC
    obtain ⟨h1, h2⟩ := List.nodup_cons.mp hn
    by_cases hx : x < k
    · have hm := hC x (List.mem_cons_self ..) hx
      obtain ⟨C', hl, hy⟩ := ih (C.erase x) h2 (fun z hz hzk => (List.mem_erase_of_ne (fun (e : z = x) => h1 (e ▸ hz))).mpr (hC z (List.mem_cons_of_mem _ hz) hzk))
      rw [List.length_erase_of_mem hm] at hl
      have := List.length_pos_of_mem hm
      refine ⟨C', by simp [hx]; omega, fun y hyC hyn => hy y ((List.mem_erase_of_ne (fun e => hyn (by simp [e]))).mpr hyC) (fun h => hyn (List.mem_cons_of_mem _ h))⟩
    · obtain ⟨C', hl, hy⟩ := ih C h2 (fun z hz => hC z (List.mem_cons_of_mem _ hz))
      exact ⟨C', by simp [hx]; omega, fun y hyC hyn => hy y hyC (fun h => hyn (List.mem_cons_of_mem _ h))⟩
theorem split_len (k : Nat) (r : List Nat) : (r.filter (· < k)).length + (r.filter (fun x => k ≤ x)).length = r.length := by
  induction r with
  | nil => rfl
  | cons x r ih =>
    by_cases hx : x < k
    · have : ¬ k ≤ x := by omega
      simp [hx, this]; omega
    · have : k ≤ x := by omega
      simp [hx, this]; omega
def towM (k t : Nat) : List ByteArray := unitM k ++ mkM t k (cauchyF k)
theorem towM_len (k t : Nat) : (towM k t).length = k + t := by simp [towM, unitM_len, mkM_len]
theorem ent_app (a b : List ByteArray) (i j : Nat) : ent (a ++ b) i j = if i < a.length then ent a i j else ent b (i - a.length) j := by
  unfold ent
  by_cases h : i < a.length
  · rw [if_pos h, List.getD_eq_getElem?_getD, List.getElem?_append_left h, ← List.getD_eq_getElem?_getD]
  · rw [if_neg h, List.getD_eq_getElem?_getD, List.getElem?_append_right (by omega), ← List.getD_eq_getElem?_getD]
theorem ent_tow (k t i j : Nat) (hi : i < k + t) (hj : j < k) : ent (towM k t) i j = if i < k then unitF i j else invV (i ^^^ j) := by
  unfold towM
  rw [ent_app, unitM_len]
  by_cases h : i < k
  · rw [if_pos h, if_pos h, ent_unit k i j h hj]
  · rw [if_neg h, if_neg h, ent_mkM _ _ _ _ _ (by omega) hj (cauchyF_lt _ _ _)]
    unfold cauchyF
    rw [show k + (i - k) = i by omega]
theorem tow_may (k t : Nat) (hk : 1 ≤ k) (ht : 1 ≤ t) (hkt : k + t ≤ 64) : mayP (towM k t) ∧ len0 (towM k t) = k := by
  have h1 := mayP_unit k ⟨hk, by omega⟩
  have h2 := mayP_mkM t k (cauchyF k) ⟨ht, by omega⟩ ⟨hk, by omega⟩
  have h := mayP_below h1 h2 (by rw [len0_unit _ hk, len0_mkM _ _ _ (by omega)]) (by rw [unitM_len, mkM_len]; exact hkt)
  exact ⟨h.1, by have h2 := h.2; rw [len0_unit k hk] at h2; exact h2⟩
def asI (r : List Nat) : List Int := r.map (fun (x : Nat) => (x : Int))
theorem asI_len (r : List Nat) : (asI r).length = r.length := by simp [asI]
theorem asI_ok {k t : Nat} {r : List Nat} (hk : 1 ≤ k) (hkt : k + t ≤ 64) (hl : r.length = k) (hr : ∀ x ∈ r, x < k + t) : pickOk (towM k t) (asI r) := by
  refine ⟨by rw [asI_len]; omega, fun i hi => ?_⟩
  obtain ⟨x, hx, rfl⟩ := List.mem_map.mp hi
  have := hr x hx
  rw [towM_len]
  omega
theorem tow_pick {k t : Nat} {r : List Nat} (hk : 1 ≤ k) (ht : 1 ≤ t) (hkt : k + t ≤ 64) (hl : r.length = k) (hr : ∀ x ∈ r, x < k + t) : mayP (pickL (towM k t) (asI r)) ∧ len0 (pickL (towM k t) (asI r)) = k ∧ (pickL (towM k t) (asI r)).length = k := by
  have h := tow_may k t hk ht hkt
  have hp := mayP_pick _ _ h.1 (asI_ok hk hkt hl hr)
  exact ⟨hp.1, by rw [hp.2, h.2], by rw [pickL_len, asI_len, hl]⟩
theorem ent_tow_pick {k t : Nat} {r : List Nat} (hl : r.length = k) (hr : ∀ x ∈ r, x < k + t) (i j : Nat) (hi : i < k) (hj : j < k) : ent (pickL (towM k t) (asI r)) i j = if r[i]'(by omega) < k then unitF (r[i]'(by omega)) j else invV ((r[i]'(by omega)) ^^^ j) := by
  rw [ent_pick _ _ i j (by rw [asI_len]; omega)]
  have : ((asI r)[i]'(by rw [asI_len]; omega)).toNat = r[i]'(by omega) := by simp [asI]
  rw [this]
  exact ent_tow k t _ j (hr _ (List.getElem_mem _)) hj
theorem tow_undo {k t : Nat} {r : List Nat} (hk : 1 ≤ k) (ht : 1 ≤ t) (hkt : k + t ≤ 64) (hl : r.length = k) (hr : ∀ x ∈ r, x < k + t) (hn : r.Nodup) : undoE (pickL (towM k t) (asI r)) = 0 := by
  obtain ⟨h1, h2, h3⟩ := tow_pick hk ht hkt hl hr
  refine undo_works _ h1 (by omega) ?_
  rw [h3]
  intro v hv hz
  have hrow : ∀ x ∈ r, xs k (fun j => fm (if x < k then unitF x j else invV (x ^^^ j)) (v j)) = 0 := fun x hx => by
    obtain ⟨i, hi, rfl⟩ := List.mem_iff_getElem.mp hx
    rw [← hz i (by omega)]
    exact xs_congr k _ _ fun j hj => by rw [ent_tow_pick hl hr i j (by omega) hj]
  have hunit : ∀ x ∈ r, x < k → v x = 0 := fun x hx hxk => by
    have := hrow x hx
    rw [xs_one k x _ hxk (fun j _ hne => by rw [if_pos hxk]; unfold unitF; rw [if_neg hne, fm_zero_l]), if_pos hxk] at this
    unfold unitF at this
    rwa [if_pos rfl, fm_one_l _ (hv x)] at this
  obtain ⟨C, hC, hy⟩ := take_out k r (List.range k) hn (fun x _ h => List.mem_range.mpr h)
  have hs := split_len k r
  rw [List.length_range] at hC
  refine cauchy_ker k (by omega) C (r.filter (fun x => k ≤ x)) v (by omega) (fun j hj hjC => ?_) (hn.filter _) (fun x hx => ?_) hv (fun x hx => ?_)
  · by_cases hjr : j ∈ r
    · exact hunit j hjr hj
    · exact absurd (hy j (List.mem_range.mpr hj) hjr) hjC
  · have := List.mem_filter.mp hx
    have h4 := hr x this.1
    have h5 : k ≤ x := by simpa using this.2
    omega
  · have := List.mem_filter.mp hx
    have h5 : k ≤ x := by simpa using this.2
    rw [← hrow x this.1]
    exact xs_congr k _ _ fun j _ => by rw [if_neg (by omega)]
theorem tow_twice {k t : Nat} {r : List Nat} (hk : 1 < k) (ht : 1 ≤ t) (hkt : k + t ≤ 64) (hl : r.length = k) (hr : ∀ x ∈ r, x < k + t) (h01 : r[0]'(by omega) = r[1]'(by omega)) : undoE (pickL (towM k t) (asI r)) = 51 := by
  obtain ⟨h1, h2, h3⟩ := tow_pick (by omega) ht hkt hl hr
  have hne : undoE (pickL (towM k t) (asI r)) ≠ 0 := fun he => by
    obtain ⟨_, _, _, _, hu⟩ := undo_sound _ h1 (by omega) he
    rw [h3] at hu
    have e0 := hu 0 (by omega) 0 (by omega)
    have e1 := hu 1 (by omega) 0 (by omega)
    rw [mul_congr k _ (fun _ j => ent (pickL (towM k t) (asI r)) 1 j) _ (ent (undoV (pickL (towM k t) (asI r)))) 0 0 (fun j hj => by
      rw [ent_tow_pick hl hr 0 j (by omega) hj, ent_tow_pick hl hr 1 j hk hj, h01]) (fun _ _ => rfl)] at e0
    have : mul k (fun _ j => ent (pickL (towM k t) (asI r)) 1 j) (ent (undoV (pickL (towM k t) (asI r)))) 0 0 = mul k (ent (pickL (towM k t) (asI r))) (ent (undoV (pickL (towM k t) (asI r)))) 1 0 := rfl
    rw [this, e1] at e0
    exact absurd e0 (by decide)
  unfold undoE at hne ⊢
  rw [if_pos h1, if_pos (by omega)] at hne ⊢
  split at hne
  · exact absurd rfl hne
  · rfl
theorem take_one {R F : List Nat} {at_ : Nat} (h : at_ < F.length) : (R ++ [F[at_]] ++ (F.take at_ ++ F.drop (at_ + 1))).Perm (R ++ F) := by
  have : F = F.take at_ ++ F[at_] :: F.drop (at_ + 1) := by rw [List.getElem_cons_drop]; exact (List.take_append_drop at_ F).symm
  rw [List.append_assoc]
  refine List.Perm.append_left R ?_
  refine List.Perm.trans ?_ (List.Perm.of_eq this.symm)
  rw [List.singleton_append]
  exact (List.perm_middle (a := F[at_]) (l₁ := F.take at_) (l₂ := F.drop (at_ + 1))).symm
end Go.Proofs.Ytjdppgogdilgkaa
end
