import Derived.Test.YtjmkbdbjefcfmaaC5
import Derived.Deep.AppendLies
namespace Go.Proofs.Ytjmkbdbjefcfmaa
open Go.RowKit Go.Gf
theorem owns_ext {w w' : World} {base n : Nat} {e : TypeId} {v : Value} {xs : List Value} (h : w.ownsRow base e 1 v n xs) (hE : Ext w w') : w'.ownsRow base e 1 v n xs := by
  refine h.kept (row := none) ⟨hE.os, hE.tape, hE.output, hE.size, fun k hk _ => hE.block k hk⟩ ?_
  exact Classical.em _
theorem rd_owns {w : World} {base n cap : Nat} {e : TypeId} {A : Option Addr} {xs : List Value} (h : w.ownsRow base e 1 (.slice A n cap) n xs) : Rd w A n xs := by
  refine ⟨by have := h.1; omega, fun hn => ?_⟩
  rcases h.2 with ⟨_, h0⟩ | ⟨g, c, cur, hv, _⟩
  · omega
  · injection hv with h1 h2 h3
    subst h1
    exact ⟨g, 0, rfl, fun i v hi => by
      have := h.cells (g := g) rfl i v hi
      rw [Addr.add_lit] at this
      exact this⟩
/-- The first k products. -/
def prodL (c : ByteArray) (l : List ByteArray) (k : Nat) : List ByteArray := (List.range k).map (fun j => timesT (bn c j) (l.getD j { data := #[] }))
theorem prodL_succ (c : ByteArray) (l : List ByteArray) (k : Nat) : prodL c l (k + 1) = prodL c l k ++ [timesT (bn c k) (l.getD k { data := #[] })] := by
  unfold prodL; rw [List.range_succ, List.map_append]; rfl
theorem prodL_len (c : ByteArray) (l : List ByteArray) (k : Nat) : (prodL c l k).length = k := by simp [prodL]
theorem prodL_get (c : ByteArray) (l : List ByteArray) (n k : Nat) (hk : k < n) : (prodL c l n).getD k { data := #[] } = timesT (bn c k) (l.getD k { data := #[] }) := by
  unfold prodL
  rw [List.getD_eq_getElem?_getD, List.getElem?_map, List.getElem?_range hk]; rfl
theorem getD_mem (l : List ByteArray) (j : Nat) (h : j < l.length) : l.getD j { data := #[] } ∈ l := by
  rw [List.getD_eq_getElem?_getD, List.getElem?_eq_getElem h]; exact List.getElem_mem h
theorem prod_len0 (c : ByteArray) (l : List ByteArray) (n : Nat) (hl : l.length = n) : len0 (prodL c l n) = len0 l := by
  rcases n with _ | n
  · have : l = [] := List.eq_nil_of_length_eq_zero hl
    subst this; rfl
  · unfold len0; rw [prodL_get _ _ _ 0 (by omega), timesT_size]
theorem prod_acc (c : ByteArray) (l : List ByteArray) (n i : Nat) (hl : l.length = n) (hok : ∀ s ∈ l, s.size = len0 l) (hi : i < len0 l) (k : Nat) (hk : k ≤ n) : xacc (prodL c l n) k i = acc c l k i := by
  induction k with
  | zero => rfl
  | succ k ih =>
    rw [xacc, acc, ih (by omega), prodL_get _ _ _ k (by omega), bn_timesT _ _ i (bn_lt _ _) (by rw [hok _ (getD_mem l k (by omega))]; exact hi)]
theorem prod_sum (c : ByteArray) (l : List ByteArray) (n : Nat) (hl : l.length = n) (hc : c.size = n) : sumV (onesT n) (prodL c l n) = sumV c l ∧ sumE (onesT n) (prodL c l n) = sumE c l := by
  have h0 := prod_len0 c l n hl
  have key : (∀ s ∈ prodL c l n, s.size = len0 (prodL c l n)) ↔ ∀ s ∈ l, s.size = len0 l := by
    rw [h0]
    constructor
    · intro h s hs
      obtain ⟨j, hj, rfl⟩ := List.mem_iff_getElem.mp hs
      have := h (timesT (bn c j) (l.getD j { data := #[] })) (by rw [← prodL_get c l n j (by omega)]; exact getD_mem _ j (by rw [prodL_len]; omega))
      rw [timesT_size, List.getD_eq_getElem?_getD, List.getElem?_eq_getElem hj] at this
      exact this
    · intro h s hs
      obtain ⟨j, hj, rfl⟩ := List.mem_map.mp hs
      rw [timesT_size]
      exact h _ (getD_mem l j (by have := List.mem_range.mp hj; omega))
  by_cases h : ∀ s ∈ l, s.size = len0 l
  · have a := sum_yes (onesT n) (prodL c l n) ⟨by rw [onesT_size, prodL_len], key.mpr h⟩
    have b := sum_yes c l ⟨by rw [hc, hl], h⟩
    rw [a.1, a.2, b.1, b.2, h0, prodL_len, hl]
    refine ⟨strN_congr _ _ _ fun i hi => ?_, rfl⟩
    rw [acc_ones n _ n i (Nat.le_refl _), prod_acc c l n i hl h hi n (Nat.le_refl _)]
  · have a := sum_no (onesT n) (prodL c l n) (fun x => h (key.mp x.2))
    have b := sum_no c l (fun x => h x.2)
    rw [a.1, a.2, b.1, b.2]; exact ⟨rfl, rfl⟩
theorem info9 : Try.prog.info? 9 = some (Try.prog.info? 9).get! := by kernel_rfl
theorem info9z : (Try.prog.info? 9).get!.zero = some (.string { data := #[] }) := by kernel_rfl
theorem info9s : (Try.prog.info? 9).get!.size = 1 := by kernel_rfl
theorem info9b : (Try.prog.info? 9).get!.bytes = 16 := by kernel_rfl
