import Derived.Test.YtbmemogajgbdgaaM3
import Derived.Deep.RegionLaw
namespace Go.Proofs.Ytbmemogajgbdgaa
open Go.RowKit Go.Gf
/-- While byte j of a scaled row is added: bytes below j are done. -/
def scF (c : Nat) (f r : Nat → Nat) (j i : Nat) : Nat := if i < j then f i ^^^ fm c (r i) else f i
set_option maxRecDepth 100000 in
set_option maxHeartbeats 1000000 in
theorem scaled_any (g n cap c gr m cap2 : Nat) (f r : Nat → Nat) (w : World) (hb : BytesAt w g n f) (hr : BytesAt w gr m r) (hne : g ≠ gr) (hn : n ≤ 1048576) (hnm : n ≤ m) (hc : c < 256) (hf : ∀ i, f i < 256) (hrr : ∀ i, r i < 256) :
    Calls Try.prog 32 #[.slice (some ⟨g, 0, none⟩) n cap, .int .u8 c, .slice (some ⟨gr, 0, none⟩) m cap2] w fun e w' => e = .returned (.tuple #[]) ∧ OnlyB g w w' ∧ BytesAt w' g n (scF c f r n) := by
  go_enter Try.func32, Try.ntmps32
  go_wp2
  go_loopw [6] (fun i wr => ∃ j : Nat, j ≤ n ∧ i = .int .i64 j ∧ OnlyB g w wr ∧ BytesAt wr g n (scF c f r j) ∧ BytesAt wr gr m r) (fun i _ => n - (intOf i).toNat)
  case atStart => exact ⟨0, by omega, rfl, OnlyB.refl _ _, hb.congr (fun j _ => by simp [scF]), hr⟩
  case round =>
    obtain ⟨j, hj, rfl, hO, hb, hr⟩ := hrel
    by_cases hj2 : j < n
    · have c1 := hb.cell j hj2
      have f1 := hb.frozen j hj2
      have c2 := hr.cell j (by omega)
      have e1 : scF c f r j j = f j := by simp [scF]
      rw [e1] at c1
      have b1 := hf j
      have b2 := hrr j
      have b3 := fm_lt c (r j) hc
      have hx := u8_xor (f j) (fm c (r j)) b1 b3
      have kj : (j : Int) < (n : Int) := by omega
      have kj2 : (j : Int) < (m : Int) := by omega
      have kj0 : (0 : Int) ≤ (j : Int) := by omega
      have hnx : BytesAt (wr.setCell ⟨g, j, none⟩ (.int .u8 ((f j ^^^ fm c (r j) : Nat) : Int))) g n (scF c f r (j + 1)) := hb.set_ j _ hj2 (fun i _ => by
        unfold scF
        by_cases e : i = j
        · subst e; rw [if_pos (by omega), if_pos rfl]
        · rw [if_neg e]
          by_cases h1 : i < j
          · rw [if_pos (by omega), if_pos h1]
          · rw [if_neg (by omega), if_neg h1])
      have hrx := hr.far (p := ⟨g, j, none⟩) (Ne.symm hne) (.int .u8 ((f j ^^^ fm c (r j) : Nat) : Int))
      have HNX := Lib.hid hnx
      have HRX := Lib.hid hrx
      clear e1 hnx hrx
      go_wp2_with fail
      go_region_law (first | (go_simp; go_at_call 26; refine (rmul_same c (r j) _ hc b2).mono ?_; rintro e w3 ⟨rfl, rfl⟩))
      all_goals
        go_wp2
        go_roundw
        case rel => exact ⟨j + 1, by omega, by go_num, (hO.setCell j _).drew, HNX.out, HRX.out⟩
        case measure => simp [intOf]; omega
    · obtain rfl : j = n := by omega
      go_wp2
      go_end0
      exact ⟨rfl, hO, hb⟩
