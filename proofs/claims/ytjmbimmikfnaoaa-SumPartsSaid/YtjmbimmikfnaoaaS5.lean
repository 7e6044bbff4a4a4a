import Derived.Test.YtjmbimmikfnaoaaS4
namespace Go.Proofs.Ytjmbimmikfnaoaa
open Go.RowKit
theorem bitsL_at (f : Nat → Bool) (n i : Nat) (hi : i < n) : (bitsL f n).toArray[i]? = some (.bool (f i)) := by simp [bitsL, hi]
theorem bitsL_set (f g : Nat → Bool) (n i : Nat) (b : Bool) (hi : i < n) (h : ∀ k, k < n → g k = if k = i then b else f k) : ((bitsL f n).toArray).setIfInBounds i (.bool b) = (bitsL g n).toArray := by
  apply Array.ext_getElem?
  intro k
  rw [Array.getElem?_setIfInBounds]
  by_cases hk : k < n
  · rw [bitsL_at g n k hk, h k hk]
    by_cases e : i = k
    · subst e; simp [bitsL_len, hi]
    · rw [if_neg e, bitsL_at f n k hk, if_neg (fun h => e h.symm)]
  · have e : i ≠ k := by omega
    rw [if_neg e]
    have h1 : ∀ f : Nat → Bool, (bitsL f n).toArray[k]? = none := fun f => by
      rw [Array.getElem?_eq_none]; simp [bitsL_len]; omega
    rw [h1, h1]
/-- n bits from o on are turned. -/
def flip (o n : Nat) (f : Nat → Bool) (i : Nat) : Bool := if o ≤ i ∧ i < o + n then !f i else f i
set_option maxRecDepth 100000 in
theorem turn_any (g o len cap N : Nat) (f : Nat → Bool) (w : World) (hb : Blk w g 4 (bitsL f N).toArray) (hl : 32 ≤ len) (hN : o + 32 ≤ N) :
    Calls Try.prog 17 #[.slice (some ⟨g, o, none⟩) len cap] w fun e w' => e = .returned (.tuple #[]) ∧ OnlyB g w w' ∧ Blk w' g 4 (bitsL (flip o 32 f) N).toArray := by
  go_enter Try.func17, Try.ntmps17
  go_wp2
  go_loopw [2] (fun i wr => ∃ k : Nat, k ≤ 32 ∧ i = .int .i64 k ∧ OnlyB g w wr ∧ Blk wr g 4 (bitsL (flip o k f) N).toArray) (fun i _ => 32 - (intOf i).toNat)
  case atStart => exact ⟨0, by omega, rfl, OnlyB.refl _ _, by rw [show flip o 0 f = f from funext fun i => by unfold flip; rw [if_neg (by omega)]]; exact hb⟩
  case round =>
    obtain ⟨k, hk, rfl, hO, hb⟩ := hrel
    by_cases hk2 : k < 32
    · have hc : wr.cell? ⟨g, o + k, none⟩ = some (.bool (flip o k f (o + k))) := by rw [hb.cell, bitsL_at _ _ _ (by omega)]
      have hf := hb.frozen (o + k)
      have hkl : (k : Int) < (len : Int) := by omega
      have hset := bitsL_set (flip o k f) (flip o (k + 1) f) N (o + k) (!flip o k f (o + k)) (by omega) (fun i hi => by
        unfold flip
        by_cases e : i = o + k
        · subst e; simp
        · by_cases h1 : o ≤ i ∧ i < o + k
          · rw [if_pos (by omega), if_neg e, if_pos h1]
          · rw [if_neg (by omega), if_neg e, if_neg h1])
      have HSET := Lib.hid hset
      clear hset
      go_wp2
      go_roundw
      case rel => exact ⟨k + 1, by omega, by go_num, hO.setCell _ _, by rw [← HSET.out]; exact hb.set_ _ _⟩
      case measure => simp [intOf]; omega
    · obtain rfl : k = 32 := by omega
      go_wp2
      go_end0
      exact ⟨rfl, hO, hb⟩
