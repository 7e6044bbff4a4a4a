import Derived.Test.YtbmemogajgbdgaaM17
namespace Go.Proofs.Ytbmemogajgbdgaa
open Go.RowKit Go.Gf
def Sm (n : Nat) (l : List ByteArray) : Prop := n ≤ 80 ∧ ∀ s ∈ l, s.size ≤ 80
theorem Sm.z {n : Nat} {l : List ByteArray} (h : Sm n l) : ∀ s ∈ l, s.size ≤ 1048576 := fun s hs => by have := h.2 s hs; omega
theorem Sm.n {n : Nat} {l : List ByteArray} (h : Sm n l) : n ≤ 1048576 := by have := h.1; omega
theorem heavy_yes (A : Option Addr) (n cap : Nat) (l : List ByteArray) (w : World) (hr : Rd w A n (l.map Value.string)) (h : ¬ Sm n l) :
    Calls Try.prog 8 #[.slice A n cap] w fun e w' => e = .returned (.bool true) ∧ Ext w w' := by
  refine (heavy_any A n cap l w hr).mono ?_
  rintro e w' ⟨⟨B, rfl, hB⟩, hE⟩
  cases B
  · exact absurd (hB rfl) h
  · exact ⟨rfl, hE⟩
theorem heavy_b (A : Option Addr) (n cap : Nat) (l : List ByteArray) (w : World) (hr : Rd w A n (l.map Value.string)) :
    Calls Try.prog 8 #[.slice A n cap] w fun e w' => (∃ B : Bool, e = .returned (.bool B)) ∧ Ext w w' :=
  (heavy_any A n cap l w hr).mono fun _ _ h => ⟨⟨h.1.choose, h.1.choose_spec.1⟩, h.2⟩
/-- A matrix of no great number of rows. -/
def BigIs (l : List ByteArray) (E : Int) (w : World) (e : Ending) (w' : World) : Prop :=
  ∃ (A : Option Addr) (n cap : Nat), e = .returned (.tuple #[.slice A n cap, .int .i64 E]) ∧ n ≤ 1048576 ∧ Rd w' A n (l.map Value.string) ∧ Ext w w'
theorem big_of {l : List ByteArray} {E : Int} {w w' : World} {e : Ending} (h : MatIs l E w e w') (h2 : l.length ≤ 1048576) : BigIs l E w e w' := by
  obtain ⟨A, n, cap, rfl, hn, hr, hE⟩ := h
  exact ⟨A, n, cap, rfl, by omega, hr, hE⟩
theorem timesV_len (a b : List ByteArray) : (timesV a b).length ≤ 64 := by
  unfold timesV; split
  · rename_i h; rw [mkM_len]; exact h.1.1.2
  · simp
theorem undoV_len (l : List ByteArray) : (undoV l).length ≤ 64 := by
  unfold undoV; split
  · rename_i h
    split
    · rw [mkM_len]; exact h.1.1.2
    · simp
  · simp
theorem cauchyV_len (n m : Int) : (cauchyV n m).length ≤ 64 := by
  unfold cauchyV; split
  · rename_i h; rw [mkM_len]; have := h.1; omega
  · simp
theorem pickV_len (l : List ByteArray) (r : List Int) : (pickV l r).length ≤ 64 := by
  unfold pickV; split
  · rename_i h; rw [pickL_len]; exact h.2.1.2
  · simp
theorem belowV_len (a b : List ByteArray) : (belowV a b).length ≤ 64 := by
  unfold belowV; split
  · rename_i h; rw [List.length_append]; exact h.2.2.2
  · simp
theorem unitV_len (n : Int) : (unitV n).length ≤ 64 := by
  unfold unitV; split
  · rename_i h; rw [unitM_len]; omega
  · simp
theorem unit_big (n : Int) (w : World) : Calls Try.prog 17 #[.int .i64 n] w fun e w' => ∃ (A : Option Addr) (k cap : Nat), e = .returned (.slice A k cap) ∧ k ≤ 1048576 ∧ Rd w' A k ((unitV n).map Value.string) ∧ Ext w w' :=
  (unit_any n w).mono fun _ _ ⟨A, k, cap, he, hk, hr, hE⟩ => ⟨A, k, cap, he, by have := unitV_len n; omega, hr.rd, hE⟩
theorem runit_big (n : Int) (w : World) : Calls Try.prog 18 #[.int .i64 n] w fun e w' => ∃ (A : Option Addr) (k cap : Nat), e = .returned (.slice A k cap) ∧ k ≤ 1048576 ∧ Rd w' A k ((unitV n).map Value.string) ∧ Ext w w' :=
  (runit_any n w).mono fun _ _ ⟨A, k, cap, he, hk, hr, hE⟩ => ⟨A, k, cap, he, by have := unitV_len n; omega, hr.rd, hE⟩
theorem same_big (A B : Option Addr) (n cap m cap2 : Nat) (l : List ByteArray) (w : World) (hr : Rd w A n (l.map Value.string)) (hq : Rd w B m (l.map Value.string)) (hn : n ≤ 1048576) (hm : m ≤ 1048576) :
    Calls Try.prog 16 #[.slice A n cap, .slice B m cap2] w fun e w' => e = .returned (.bool true) ∧ Ext w w' :=
  same_yes A B n cap m cap2 l l w hr hq hn hm rfl
theorem may_b (A : Option Addr) (n cap : Nat) (l : List ByteArray) (w : World) (hr : Rd w A n (l.map Value.string)) (h : Sm n l) :
    Calls Try.prog 14 #[.slice A n cap] w fun e w' => e = .returned (.bool (mayB l)) ∧ Ext w w' := may_any A n cap l w hr h.n h.z
theorem rmay_b (A : Option Addr) (n cap : Nat) (l : List ByteArray) (w : World) (hr : Rd w A n (l.map Value.string)) (h : Sm n l) :
    Calls Try.prog 15 #[.slice A n cap] w fun e w' => e = .returned (.bool (mayB l)) ∧ Ext w w' := rmay_any A n cap l w hr h.n h.z
theorem mtimes_big (A B : Option Addr) (n cap m cap2 : Nat) (a b : List ByteArray) (w : World) (hr : Rd w A n (a.map Value.string)) (hq : Rd w B m (b.map Value.string)) (h1 : Sm n a) (h2 : Sm m b) :
    Calls Try.prog 10 #[.slice A n cap, .slice B m cap2] w (BigIs (timesV a b) (timesE a b) w) :=
  (mtimes_any A B n cap m cap2 a b w hr hq h1.n h2.n h1.z h2.z).mono fun _ _ h => big_of h (by have := timesV_len a b; omega)
theorem rmtimes_big (A B : Option Addr) (n cap m cap2 : Nat) (a b : List ByteArray) (w : World) (hr : Rd w A n (a.map Value.string)) (hq : Rd w B m (b.map Value.string)) (h1 : Sm n a) (h2 : Sm m b) :
    Calls Try.prog 11 #[.slice A n cap, .slice B m cap2] w (BigIs (timesV a b) (timesE a b) w) :=
  (rmtimes_any A B n cap m cap2 a b w hr hq h1.n h2.n h1.z h2.z).mono fun _ _ h => big_of h (by have := timesV_len a b; omega)
theorem below_big (A B : Option Addr) (n cap m cap2 : Nat) (a b : List ByteArray) (w : World) (hr : Rd w A n (a.map Value.string)) (hq : Rd w B m (b.map Value.string)) (h1 : Sm n a) (h2 : Sm m b) :
    Calls Try.prog 23 #[.slice A n cap, .slice B m cap2] w (BigIs (belowV a b) (belowE a b) w) :=
  (below_any A B n cap m cap2 a b w hr hq h1.n h2.n h1.z h2.z).mono fun _ _ h => big_of h (by have := belowV_len a b; omega)
theorem rbelow_big (A B : Option Addr) (n cap m cap2 : Nat) (a b : List ByteArray) (w : World) (hr : Rd w A n (a.map Value.string)) (hq : Rd w B m (b.map Value.string)) (h1 : Sm n a) (h2 : Sm m b) :
    Calls Try.prog 24 #[.slice A n cap, .slice B m cap2] w (BigIs (belowV a b) (belowE a b) w) :=
  (rbelow_any A B n cap m cap2 a b w hr hq h1.n h2.n h1.z h2.z).mono fun _ _ h => big_of h (by have := belowV_len a b; omega)
theorem undo_big (A : Option Addr) (n cap : Nat) (a : List ByteArray) (w : World) (hr : Rd w A n (a.map Value.string)) (h1 : Sm n a) :
    Calls Try.prog 12 #[.slice A n cap] w (BigIs (undoV a) (undoE a) w) :=
  (undo_any A n cap a w hr h1.n h1.z).mono fun _ _ h => big_of h (by have := undoV_len a; omega)
theorem rundo_big (A : Option Addr) (n cap : Nat) (a : List ByteArray) (w : World) (hr : Rd w A n (a.map Value.string)) (h1 : Sm n a) :
    Calls Try.prog 13 #[.slice A n cap] w (BigIs (undoV a) (undoE a) w) :=
  (rundo_any A n cap a w hr h1.n h1.z).mono fun _ _ h => big_of h (by have := undoV_len a; omega)
theorem cauchy_big (n m : Int) (w : World) : Calls Try.prog 19 #[.int .i64 n, .int .i64 m] w (BigIs (cauchyV n m) (cauchyE n m) w) :=
  (cauchy_any n m w).mono fun _ _ h => big_of h (by have := cauchyV_len n m; omega)
theorem rcauchy_big (n m : Int) (w : World) : Calls Try.prog 20 #[.int .i64 n, .int .i64 m] w (BigIs (cauchyV n m) (cauchyE n m) w) :=
  (rcauchy_any n m w).mono fun _ _ h => big_of h (by have := cauchyV_len n m; omega)
theorem pick_big (A B : Option Addr) (n cap m cap2 : Nat) (l : List ByteArray) (r : List Int) (w : World) (hr : Rd w A n (l.map Value.string)) (hq : Rd w B m (r.map (Value.int .i64))) (h1 : Sm n l) (hm : m ≤ 1048576) :
    Calls Try.prog 21 #[.slice A n cap, .slice B m cap2] w (BigIs (pickV l r) (pickE l r) w) :=
  (pick_any A B n cap m cap2 l r w hr hq h1.n hm h1.z).mono fun _ _ h => big_of h (by have := pickV_len l r; omega)
theorem rpick_big (A B : Option Addr) (n cap m cap2 : Nat) (l : List ByteArray) (r : List Int) (w : World) (hr : Rd w A n (l.map Value.string)) (hq : Rd w B m (r.map (Value.int .i64))) (h1 : Sm n l) (hm : m ≤ 1048576) :
    Calls Try.prog 22 #[.slice A n cap, .slice B m cap2] w (BigIs (pickV l r) (pickE l r) w) :=
  (rpick_any A B n cap m cap2 l r w hr hq h1.n hm h1.z).mono fun _ _ h => big_of h (by have := pickV_len l r; omega)
