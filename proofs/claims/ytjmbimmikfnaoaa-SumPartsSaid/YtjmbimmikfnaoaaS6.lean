import Derived.Test.YtjmbimmikfnaoaaS5
namespace Go.Proofs.Ytjmbimmikfnaoaa
open Go.RowKit
def flip1 (a : Nat) (f : Nat → Bool) (j : Nat) : Bool := if j = a then !f j else f j
def pw (k : Nat) : Nat := powN.getD k 0
theorem pw_le (k : Nat) : pw k ≤ 26 := by
  unfold pw powN
  rcases Nat.lt_or_ge k 14 with h | h
  · revert k; decide
  · rw [List.getD_eq_getElem?_getD, List.getElem?_eq_none (by simpa using h)]; decide
theorem pw_cell : ∀ k, k < 14 → (powN.map fun n : Nat => Value.int .i64 (n : Int)).toArray[k]? = some (.int .i64 (pw k)) := by
  intro k hk
  match k, hk with
  | 0, _ => rfl
  | 1, _ => rfl
  | 2, _ => rfl
  | 3, _ => rfl
  | 4, _ => rfl
  | 5, _ => rfl
  | 6, _ => rfl
  | 7, _ => rfl
  | 8, _ => rfl
  | 9, _ => rfl
  | 10, _ => rfl
  | 11, _ => rfl
  | 12, _ => rfl
  | 13, _ => rfl
def dvK (i : Nat) : Nat → (Nat → Bool) → Nat → Bool
  | 0, f => f
  | k + 1, f => flip1 (i + 32 - pw k) (dvK i k f)
def rn : Nat → (Nat → Bool) → Nat → Bool
  | 0, f => f
  | i + 1, f => if rn i f i then dvK i 14 (rn i f) else rn i f
def b2n (b : Bool) : Nat := if b then 1 else 0
def yv (h : Nat → Bool) : Nat → Nat
  | 0 => 0
  | t + 1 => 2 * yv h t + b2n (h (31 - t))
theorem yv_lt (h : Nat → Bool) (t : Nat) : yv h t < 2 ^ t := by
  induction t with
  | zero => simp [yv]
  | succ t ih => simp only [yv, b2n]; split <;> (rw [Nat.pow_succ]; omega)
set_option maxRecDepth 100000 in
theorem left_any (g M : Nat) (f : Nat → Bool) (w : World) (hb : Blk w g 4 (bitsL f (M + 32)).toArray) (hM : M ≤ 8388608) :
    Calls Try.prog 18 #[.slice (some ⟨g, 0, none⟩) (M + 32) (M + 32)] w fun e w' => e = .returned (.int .u32 (yv (fun j => !rn M f (M + j)) 32)) ∧ OnlyB g w w' := by
  go_enter Try.func18, Try.ntmps18
  go_wp2_with (go_at_call 19; refine (powers_any _).mono ?_; rintro e w1 ⟨rfl, hE1, hs1, hp1⟩)
  have hO : OnlyB g w w1 := (OnlyB.refl g w).ext hE1
  have hb1 := hb.ext hE1
  have hgl := hb.lt
  have hne : w.heap.size ≠ g := by omega
  generalize w.heap.size = gp at *
  clear hE1 hs1
  go_loopw [4] (fun i wr => ∃ k : Nat, k ≤ M ∧ i = .int .i64 k ∧ OnlyB g w1 wr ∧ Blk wr g 4 (bitsL (rn k f) (M + 32)).toArray) (fun i _ => M - (intOf i).toNat)
  case atStart => exact ⟨0, by omega, rfl, OnlyB.refl _ _, hb1⟩
  case round =>
    obtain ⟨i, hi, rfl, hO2, hb⟩ := hrel
    by_cases hi2 : i < M
    · have hc : wr.cell? ⟨g, i, none⟩ = some (.bool (rn i f i)) := by rw [hb.cell, bitsL_at _ _ _ (by omega)]
      cases hbit : rn i f i
      · rw [hbit] at hc
        have hrn : rn (i + 1) f = rn i f := by simp [rn, hbit]
        have HRN := Lib.hid hrn
        clear hbit hrn
        go_wp2
        go_roundw
        case rel => exact ⟨i + 1, by omega, by go_num, hO2, by rw [HRN.out]; exact hb⟩
        case measure => simp [intOf]; omega
      · rw [hbit] at hc
        have hrn : rn (i + 1) f = dvK i 14 (rn i f) := by simp [rn, hbit]
        have HRN := Lib.hid hrn
        clear hbit hrn
        go_wp2
        obtain ⟨wo, rfl⟩ : ∃ wo : World, wo = wr := ⟨_, rfl⟩
        go_loopw [5] (fun j wr => ∃ k : Nat, k ≤ 14 ∧ j = .int .i64 k ∧ OnlyB g w1 wr ∧ Blk wr g 4 (bitsL (dvK i k (rn i f)) (M + 32)).toArray) (fun j _ => 14 - (intOf j).toNat)
        case atStart => exact ⟨0, by omega, rfl, hO2, hb⟩
        case round =>
          obtain ⟨k, hk, rfl, hO2, hb⟩ := hrel
          by_cases hk2 : k < 14
          · have hcp : wr.cell? ⟨gp, k, none⟩ = some (.int .i64 (pw k)) := by
              rw [(hO2.blk hp1 hne).cell]; exact pw_cell k hk2
            have hpk := pw_le k
            have hset := bitsL_set (dvK i k (rn i f)) (dvK i (k + 1) (rn i f)) (M + 32) (i + 32 - pw k) (!dvK i k (rn i f) (i + 32 - pw k)) (by omega) (fun j hj => by
              simp only [dvK, flip1]; split <;> simp_all)
            have HSET := Lib.hid hset
            clear hset
            have hc2 : wr.cell? ⟨g, i + 32 - pw k, none⟩ = some (.bool (dvK i k (rn i f) (i + 32 - pw k))) := by rw [hb.cell, bitsL_at _ _ _ (by omega)]
            have hf2 := hb.frozen (i + 32 - pw k)
            generalize pw k = p at *
            go_wp2
            go_roundw
            case rel => exact ⟨k + 1, by omega, by go_num, hO2.setCell _ _, by rw [← HSET.out]; exact hb.set_ _ _⟩
            case measure => (simp [intOf]; try omega)
          · obtain rfl : k = 14 := by omega
            go_wp2
            go_roundw
            case rel => exact ⟨i + 1, by omega, by go_num, hO2, by rw [HRN.out]; exact hb⟩
            case measure => (simp [intOf]; try omega)
    · obtain rfl : i = M := by omega
      go_wp2_with (go_at_call 17; refine (turn_any g i 32 32 (i + 32) (rn i f) _ hb (by omega) (by omega)).mono ?_; rintro e w3 ⟨rfl, hO3, hb3⟩)
      have hO' : OnlyB g w w3 := (hO.trans hO2).trans hO3
      have hH : ∀ q, q < 32 → w3.cell? ⟨g, i + q, none⟩ = some (.bool (!rn i f (i + q))) := fun q hq => by
        rw [hb3.cell, bitsL_at _ _ _ (by omega)]; unfold flip; rw [if_pos (by omega)]
      obtain ⟨h, hh⟩ : ∃ h : Nat → Bool, h = (fun j => !rn i f (i + j)) := ⟨_, rfl⟩
      have hH' : ∀ q, q < 32 → w3.cell? ⟨g, i + q, none⟩ = some (.bool (h q)) := fun q hq => by rw [hh]; exact hH q hq
      have HHH := Lib.hid hH'
      have HE := Lib.hid hh
      clear hh hH hH' hb hb3 hb1 hO hO2 hO3 hp1
      go_loop [8, 9] (fun x i => ∃ r : Nat, r ≤ 32 ∧ i = .int .i64 ((r : Int) - 1) ∧ x = .int .u32 (yv h (32 - r))) (fun _ i => (intOf i + 1).toNat)
      case atStart => exact ⟨32, by omega, rfl, rfl⟩
      case round =>
        obtain ⟨r, hr, rfl, rfl⟩ := hrel
        rcases r with _ | q
        · go_wp2
          go_ret
          exact ⟨by rw [HE.out]; rfl, hO'⟩
        · have hcc := HHH.out q (by omega)
          have hlt := yv_lt h (32 - (q + 1))
          have hlt2 : yv h (32 - (q + 1)) < 2147483648 := Nat.lt_of_lt_of_le hlt (show (2:Nat) ^ (32 - (q + 1)) ≤ 2 ^ 31 from Nat.pow_le_pow_right (by omega) (by omega))
          have hy : yv h (32 - q) = 2 * yv h (32 - (q + 1)) + b2n (h q) := by
            rw [show 32 - q = (32 - (q + 1)) + 1 by omega]; simp only [yv]; rw [show 31 - (32 - (q + 1)) = q by omega]
          clear hlt
          generalize yv h (32 - (q + 1)) = y at *
          cases hq : h q
          all_goals
            rw [hq] at hcc hy
            have HY := Lib.hid hy
            clear hy hq
            go_wp2
            go_round
            case rel => exact ⟨q, by omega, by go_num, by rw [HY.out]; simp only [b2n]; first | rfl | go_num⟩
            case measure => (simp [intOf]; try omega)
