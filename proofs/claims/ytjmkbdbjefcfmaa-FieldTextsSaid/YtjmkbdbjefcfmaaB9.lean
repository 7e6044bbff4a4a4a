import Derived.Test.YtjmkbdbjefcfmaaB8
import Derived.Deep.RegionHeld3
import Derived.Deep.AppendLies
namespace Go.Proofs.Ytjmkbdbjefcfmaa
open Go.RowKit Go.Gf
def onesT (n : Nat) : ByteArray := strN n (fun _ => 1)
theorem onesT_size (n : Nat) : (onesT n).size = n := strN_size _ _
def oneTo (k i : Nat) : Nat := if i < k then 1 else 0
set_option maxRecDepth 100000 in
theorem plusL_any (A : Option Addr) (n cap : Nat) (l : List ByteArray) (w : World) (hr : Rd w A n (l.map Value.string)) (hn : n ≤ 1048576) (hz : ∀ s ∈ l, s.size ≤ 1048576) :
    Calls Try.prog 10 #[.slice A n cap] w fun e w' => e = .returned (.tuple #[.string (sumV (onesT n) l), .int .i64 (sumE (onesT n) l)]) ∧ Ext w w' := by
  obtain ⟨i0, hi0, hz0, hz1, hz2⟩ := info_parts info5
  go_enter Try.func10, Try.ntmps10
  go_wp2_with (at_make; refine wpList_make_tab rfl _ _ 34 rfl 5 i0 (.int .u8 0) Try.underlying34 hi0 hz0 hz1 rfl _ _ n rfl rfl (by rw [hz2]; omega) (by omega) ?_)
  have hb : Blk (w.alloc (.cells (tabA n (fun _ => Value.int .u8 0)) 5)) w.heap.size 5 (tabA n (u8c (oneTo 0))) := Blk.new _ _ _
  have hE : Ext w (w.alloc (.cells (tabA n (fun _ => Value.int .u8 0)) 5)) := (Ext.refl w).alloc _
  have hgw : w.heap.size ≤ w.heap.size := Nat.le_refl _
  generalize w.alloc (.cells (tabA n (fun _ => Value.int .u8 0)) 5) = wb at *
  obtain ⟨g, hg⟩ : ∃ g, g = w.heap.size := ⟨_, rfl⟩
  rw [← hg] at hb ⊢
  have hge : w.heap.size ≤ g := by omega
  clear hgw hg
  go_loopw [11] (fun i wr => ∃ k : Nat, k ≤ n ∧ i = .int .i64 k ∧ Ext w wr ∧ Blk wr g 5 (tabA n (u8c (oneTo k)))) (fun i _ => n - (intOf i).toNat)
  case atStart => exact ⟨0, by omega, rfl, hE, hb⟩
  case round =>
    obtain ⟨k, hk, rfl, hE, hb⟩ := hrel
    by_cases hk2 : k < n
    · have hc := hb.cell k
      rw [tabA_at _ _ _ hk2, u8c, oneTo, if_neg (by omega)] at hc
      have hf := hb.frozen k
      have hset := tabA_set n (u8c (oneTo k)) (u8c (oneTo (k + 1))) k (.int .u8 1) hk2 (fun i _ => by
        unfold u8c oneTo
        by_cases e : i = k
        · subst e; rw [if_pos (by omega), if_pos rfl]; rfl
        · by_cases h1 : i < k
          · rw [if_pos (by omega), if_neg e, if_pos h1]
          · rw [if_neg (by omega), if_neg e, if_neg h1])
      have HSET := Lib.hid hset
      clear hset
      go_wp2
      go_roundw
      case rel => exact ⟨k + 1, by omega, by go_num, hE.setCell hge _, by rw [← HSET.out]; exact hb.set_ _ _⟩
      case measure => simp [intOf]; omega
    · obtain rfl : k = n := by omega
      have hcs : ∀ j, j < k → wr.cell? ⟨g, 0 + j, none⟩ = some (.int .u8 (bt (onesT k) j)) := fun j hj => by
        rw [Nat.zero_add, hb.cell, tabA_at _ _ _ hj, bt_bn]; unfold onesT; rw [bn_strN k _ j hj (by omega), u8c, oneTo, if_pos hj]
      have HCS := Lib.hid hcs
      have HR := Lib.hid (hr.ext hE)
      clear hcs hr
      go_wp2_with (first
        | (with_reducible refine wpList_bytes_str rfl 34 9 5 _ rfl Try.underlying34 Try.underlying5 Try.underlying9 g 0 k k rfl (onesT k) (onesT_size k) HCS.out ?_)
        | (go_at_call 12; refine (sum_any (onesT k) A k cap l _ HR.out hn (by rw [onesT_size]; exact hn) hz).mono ?_; rintro e w3 ⟨rfl, hE3⟩))
      go_ret2
      exact ⟨rfl, hE.trans hE3⟩
