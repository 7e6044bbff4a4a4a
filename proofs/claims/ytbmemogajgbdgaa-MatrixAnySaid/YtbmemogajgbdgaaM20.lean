import Derived.Test.YtbmemogajgbdgaaM18
import Derived.Test.YtbmemogajgbdgaaA1
namespace Go.Proofs.Ytbmemogajgbdgaa
open Go.RowKit Go.Gf
theorem unitS (n : Nat) (h : 1 ≤ n ∧ n ≤ 64) (w : World) : Calls Try.prog 17 #[.int .i64 n] w fun e w' => ∃ (A : Option Addr) (cap : Nat), e = .returned (.slice A n cap) ∧ Rd w' A n ((unitM n).map Value.string) ∧ Ext w w' := by
  refine (unit_any n w).mono ?_
  rintro e w' ⟨A, n2, cp, rfl, h2, hr, hE⟩
  rw [unitV_ok n h] at h2 hr
  rw [unitM_len] at h2
  subst h2
  exact ⟨A, cp, rfl, hr.rd, hE⟩
theorem big_of2 {l l' : List ByteArray} {E E' : Int} {w w' : World} {e : Ending} (h : MatIs l E w e w') (h1 : l = l' ∧ E = E') (h2 : l'.length ≤ 1048576) : BigIs l' E' w e w' := by
  obtain ⟨rfl, rfl⟩ := h1
  exact big_of h h2
theorem mayP.z {l : List ByteArray} (h : mayP l) : ∀ s ∈ l, s.size ≤ 1048576 := fun s hs => by have := h.2.2 s hs; have := h.2.1; omega
theorem mayP.n {l : List ByteArray} (h : mayP l) : l.length ≤ 1048576 := by have := h.1; omega
def idxF (n : Nat) (x : Int) : Int := x % (n : Int)
def idxL (n : Nat) (r : List Int) : List Int := r.map (idxF n)
theorem idxL_len (n : Nat) (r : List Int) : (idxL n r).length = r.length := by simp [idxL]
theorem idxL_succ (n : Nat) (r : List Int) (k : Nat) (hk : k < r.length) : idxL n (r.take (k + 1)) = idxL n (r.take k) ++ [idxF n r[k]] := by
  unfold idxL; rw [List.take_succ_eq_append_getElem hk, List.map_append]; rfl
theorem idxL_ok {a : List ByteArray} {n : Nat} {r : List Int} (hn : a.length = n) (h1 : 1 ≤ n) (hr : 1 ≤ r.length ∧ r.length ≤ 60) : pickOk a (idxL n r) := by
  refine ⟨by rw [idxL_len]; omega, fun i hi => ?_⟩
  obtain ⟨x, _, rfl⟩ := List.mem_map.mp hi
  unfold idxF
  rw [hn]
  exact ⟨Int.emod_nonneg _ (by omega), Int.emod_lt_of_pos _ (by omega)⟩
section
variable {a b : List ByteArray} {r : List Int} {A : Option Addr} {n cap k : Nat}
theorem uTL (ha : mayP a) (hl : a.length = n) (A' : Option Addr) (c' : Nat) (w : World) (hr : Rd w A n (a.map Value.string)) (hq : Rd w A' n ((unitM n).map Value.string)) : Calls Try.prog 10 #[.slice A' n c', .slice A n cap] w (BigIs a 0 w) := by
  have hu := mayP_unit a.length ha.1
  rw [hl] at hu
  have hn := ha.1
  refine (mtimes_any A' A n c' n cap (unitM n) a w hq hr (by omega) (by omega) hu.z ha.z).mono fun _ _ h => big_of2 h ?_ ha.n
  have := times_unit_l a ha
  rwa [hl] at this
theorem uTR {s0 : Nat} (ha : mayP a) (hl : a.length = n) (h0 : len0 a = s0) (A' : Option Addr) (c' : Nat) (w : World) (hr : Rd w A n (a.map Value.string)) (hq : Rd w A' s0 ((unitM s0).map Value.string)) : Calls Try.prog 10 #[.slice A n cap, .slice A' s0 c'] w (BigIs a 0 w) := by
  subst h0
  have hu := mayP_unit (len0 a) ha.2.1
  have hn := ha.1
  have hn2 := ha.2.1
  exact (mtimes_any A A' n cap (len0 a) c' a (unitM (len0 a)) w hr hq (by omega) (by omega) ha.z hu.z).mono fun _ _ h => big_of2 h (times_unit_r a ha) ha.n
theorem uPK (ha : mayP a) (hl : a.length = n) (hp : pickOk a r) (hk : k ≤ 64) (L : Option Addr) (cl : Nat) (w : World) (hr : Rd w A n (a.map Value.string)) (hq : Rd w L k (r.map (Value.int .i64))) : Calls Try.prog 21 #[.slice A n cap, .slice L k cl] w (BigIs (pickL a r) 0 w) := by
  have hn := ha.1
  exact (pick_any A L n cap k cl a r w hr hq (by omega) (by omega) ha.z).mono fun _ _ h => big_of2 h (pick_ok ha hp) (by rw [pickL_len]; have := hp.1; omega)
theorem uPU (ha : mayP a) (hl : a.length = n) (hp : pickOk a r) (hk : k ≤ 64) (A' : Option Addr) (c' : Nat) (L : Option Addr) (cl : Nat) (w : World) (hr : Rd w A' n ((unitM n).map Value.string)) (hq : Rd w L k (r.map (Value.int .i64))) : Calls Try.prog 21 #[.slice A' n c', .slice L k cl] w (BigIs (pickL (unitM n) r) 0 w) := by
  have hn := ha.1
  have hu := mayP_unit a.length ha.1
  rw [hl] at hu
  have hpu : pickOk (unitM n) r := ⟨hp.1, fun i hi => by rw [unitM_len, ← hl]; exact hp.2 i hi⟩
  exact uPK hu (unitM_len n) hpu hk L cl w hr hq
theorem uTU (ha : mayP a) (hl : a.length = n) (hp : pickOk a r) (A' : Option Addr) (nu c' : Nat) (hnu : nu ≤ 1048576) (w : World) (hr : Rd w A n (a.map Value.string)) (hq : Rd w A' nu ((pickL (unitM n) r).map Value.string)) : Calls Try.prog 10 #[.slice A' nu c', .slice A n cap] w (BigIs (pickL a r) 0 w) := by
  have hn := ha.1
  have hu := mayP_unit a.length ha.1
  have hpu : pickOk (unitM a.length) r := ⟨hp.1, fun i hi => by rw [unitM_len]; exact hp.2 i hi⟩
  have hm := (mayP_pick _ r hu hpu).1
  rw [hl] at hm
  refine (mtimes_any A' A nu c' n cap _ a w hq hr hnu (by omega) hm.z ha.z).mono fun _ _ h => big_of2 h ?_ (by rw [pickL_len]; have := hp.1; omega)
  have := pick_of_unit a r ha hp
  rwa [hl] at this
theorem uBO {B : Option Addr} {m cap2 : Nat} (ha : mayP a) (hb : mayP b) (h0 : len0 a = len0 b) (h4 : a.length + b.length ≤ 64) (hl : a.length = n) (hlb : b.length = m) {N : Nat} (hN : N = n + m) (w : World) (hr : Rd w A n (a.map Value.string)) (hq : Rd w B m (b.map Value.string)) :
    Calls Try.prog 23 #[.slice A n cap, .slice B m cap2] w fun e w' => ∃ (Z : Option Addr) (cz : Nat), e = .returned (.tuple #[.slice Z N cz, .int .i64 0]) ∧ Rd w' Z N ((a ++ b).map Value.string) ∧ Ext w w' := by
  subst hN
  refine (below_any A B n cap m cap2 a b w hr hq (by have := ha.1; omega) (by have := hb.1; omega) ha.z hb.z).mono ?_
  rintro e w' ⟨Z, nz, cz, rfl, hz, hrz, hE⟩
  have ho := below_ok ha hb h0 h4
  rw [ho.1] at hz hrz
  rw [List.length_append] at hz
  obtain rfl : nz = n + m := by omega
  rw [ho.2]
  exact ⟨Z, cz, rfl, hrz, hE⟩
theorem uPZ (ha : mayP a) (hb : mayP b) (h0 : len0 a = len0 b) (h4 : a.length + b.length ≤ 64) {N : Nat} (hl : a.length + b.length = N) (hp : pickOk a r) (hk : k ≤ 64) (Z : Option Addr) (cz : Nat) (L : Option Addr) (cl : Nat) (w : World) (hr : Rd w Z N ((a ++ b).map Value.string)) (hq : Rd w L k (r.map (Value.int .i64))) : Calls Try.prog 21 #[.slice Z N cz, .slice L k cl] w (BigIs (pickL a r) 0 w) := by
  have hz := mayP_below ha hb h0 h4
  have hpz : pickOk (a ++ b) r := ⟨hp.1, fun i hi => by rw [List.length_append]; have := hp.2 i hi; omega⟩
  have := uPK (A := Z) (cap := cz) hz.1 (by rw [List.length_append]; exact hl) hpz hk L cl w hr hq
  rwa [pick_below a b r (fun i hi => hp.2 i hi)] at this
end
theorem below_fail {a b : List ByteArray} (h : ¬ (mayP a ∧ mayP b ∧ len0 a = len0 b ∧ a.length + b.length ≤ 64)) : belowE a b ≠ 0 := by
  unfold belowE
  split
  · rename_i h1
    split
    · rename_i h2
      split
      · rename_i h3; exact absurd ⟨h1.1, h1.2, h2, h3⟩ h
      · decide
    · decide
  · decide
theorem uBF {a b : List ByteArray} {A B : Option Addr} {n cap m cap2 : Nat} (h : ¬ (mayP a ∧ mayP b ∧ len0 a = len0 b ∧ a.length + b.length ≤ 64)) (h1 : Sm n a) (h2 : Sm m b) (w : World) (hr : Rd w A n (a.map Value.string)) (hq : Rd w B m (b.map Value.string)) :
    Calls Try.prog 23 #[.slice A n cap, .slice B m cap2] w fun e w' => ∃ (Z : Option Addr) (nz cz : Nat) (E : Int), e = .returned (.tuple #[.slice Z nz cz, .int .i64 E]) ∧ (E != 0) = true ∧ Ext w w' := by
  refine (below_any A B n cap m cap2 a b w hr hq h1.n h2.n h1.z h2.z).mono ?_
  rintro e w' ⟨Z, nz, cz, rfl, hz, hrz, hE⟩
  exact ⟨Z, nz, cz, _, rfl, by simpa using below_fail h, hE⟩
theorem info3 : (Try.prog.info? 3).map (fun i => (i.zero, i.size, i.bytes)) = some (some (.int .i64 0), 1, 8) := by kernel_rfl
