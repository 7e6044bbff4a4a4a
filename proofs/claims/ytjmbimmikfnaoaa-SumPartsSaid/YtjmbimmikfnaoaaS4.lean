import Derived.Test.YtjmbimmikfnaoaaS3
namespace Go.Proofs.Ytjmbimmikfnaoaa
open Go.RowKit
theorem info4 : (Try.prog.info? 4).map (fun i => (i.zero, i.size, i.bytes)) = some (some (.bool false), 1, 1) := by kernel_rfl
def bitsL (f : Nat → Bool) (n : Nat) : List Value := (List.range n).map fun i => Value.bool (f i)
/-- Bit i of a text, as the reference reads it. -/
def sb (s : ByteArray) (i : Nat) : Bool := bits BinOp.and IntKind.u8 (bt s (i / 8) / 2 ^ (i % 8)) 1 == 1
theorem bitsL_succ (f : Nat → Bool) (n : Nat) : bitsL f (n + 1) = bitsL f n ++ [.bool (f n)] := by simp [bitsL, List.range_succ]
theorem bitsL_len (f : Nat → Bool) (n : Nat) : (bitsL f n).length = n := by simp [bitsL]
/-- The bits of a text with 32 behind. -/
def sbz (s : ByteArray) (i : Nat) : Bool := if i < 8 * s.size then sb s i else false
theorem bitsL_congr (f g : Nat → Bool) (n : Nat) (h : ∀ i, i < n → f i = g i) : bitsL f n = bitsL g n := by
  unfold bitsL; apply List.map_congr_left; intro i hi; rw [h i (by simpa using hi)]
set_option maxRecDepth 100000 in
theorem bits_any (s : ByteArray) (w : World) (hz : s.size ≤ 1048576) :
    Calls Try.prog 16 #[.string s] w fun e w' => e = .returned (.slice (some ⟨w.heap.size, 0, none⟩) (8 * s.size + 32) (8 * s.size + 32)) ∧ Ext w w' ∧ w'.ownsRow w.heap.size 4 1 (.slice (some ⟨w.heap.size, 0, none⟩) (8 * s.size + 32) (8 * s.size + 32)) (8 * s.size + 32) (bitsL (sbz s) (8 * s.size + 32)) := by
  obtain ⟨i0, hi0, hz0, hz1, hz2⟩ := info_parts info4
  go_enter Try.func16, Try.ntmps16
  go_wp2_with (at_make; refine wpList_make_own _ rfl _ _ 39 rfl w.heap.size 4 i0 (.bool false) 1 Try.underlying39 hi0 hz0 hz1 _ _ _ (8 * s.size + 32) rfl rfl (by omega) (by rw [hz2]; omega) (by unfold maxLen; omega) (Nat.le_refl _) ?_; intro w1 hown hgrow)
  have hB : Ext w w1 := (Ext.refl w).grown hgrow (by simp)
  clear hgrow
  go_loopw [3, 4] (fun v i wr => ∃ k : Nat, k ≤ s.size ∧ i = .int .i64 k ∧ v = .slice (some ⟨w.heap.size, 0, none⟩) (8 * k) (8 * s.size + 32) ∧ Ext w wr ∧ wr.ownsRow w.heap.size 4 1 (.slice (some ⟨w.heap.size, 0, none⟩) (8 * k) (8 * s.size + 32)) (8 * k) (bitsL (sb s) (8 * k))) (fun _ i _ => s.size - (intOf i).toNat)
  case atStart => exact ⟨0, by omega, rfl, rfl, hB, by simpa [bitsL] using hown⟩
  case round =>
    obtain ⟨k, hk, rfl, rfl, hB, hown⟩ := hrel
    by_cases hk2 : k < s.size
    · go_wp2
      obtain ⟨wo, rfl⟩ : ∃ wo : World, wo = wr := ⟨_, rfl⟩
      go_loopw [3, 5] (fun v i wr => ∃ j : Nat, j ≤ 8 ∧ i = .int .i64 j ∧ v = .slice (some ⟨w.heap.size, 0, none⟩) (8 * k + j) (8 * s.size + 32) ∧ Ext w wr ∧ wr.ownsRow w.heap.size 4 1 (.slice (some ⟨w.heap.size, 0, none⟩) (8 * k + j) (8 * s.size + 32)) (8 * k + j) (bitsL (sb s) (8 * k + j))) (fun _ i _ => 8 - (intOf i).toNat)
      case atStart => exact ⟨0, by omega, rfl, rfl, hB, by simpa using hown⟩
      case round =>
        obtain ⟨j, hj, rfl, rfl, hB, hown⟩ := hrel
        by_cases hj2 : j < 8
        · have hsb : sb s (8 * k + j) = (bits BinOp.and IntKind.u8 ((s[k].toNat : Int) / 2 ^ j) 1 == 1) := by
            rw [bt_get s k hk2]; unfold sb; rw [show (8 * k + j) / 8 = k by omega, show (8 * k + j) % 8 = j by omega]
          have HSB := Lib.hid hsb
          clear hsb
          go_wp2_with (at_builtin; refine wpList_append_fits _ rfl _ _ 39 rfl w.heap.size 4 i0 1 Try.underlying39 hi0 hz1 w.heap.size (8 * k + j) (8 * s.size + 32) _ rfl (hown.alloc _) ⟨wr.heap.size, 0, none⟩ 1 1 _ rfl rfl (news_one _ _ _) (one_bool _) (by omega) ?_; intro w2 hown2 hgrow2)
          have hB2 : Ext w w2 := (hB.alloc _).grown hgrow2 (by intro k h; simp at h; omega)
          go_roundw
          case rel => exact ⟨j + 1, by omega, by go_num, rfl, hB2, by rw [← Nat.add_assoc, bitsL_succ, HSB.out]; exact hown2⟩
          case measure => simp [intOf]; omega
        · obtain rfl : j = 8 := by omega
          go_wp2
          go_roundw
          case rel => exact ⟨k + 1, by omega, by go_num, by rw [Nat.mul_add], hB, by rw [Nat.mul_add]; exact hown⟩
          case measure => simp [intOf]; omega
    · obtain rfl : k = s.size := by omega
      rw [bitsL_congr (sb s) (sbz s) _ (fun i hi => by unfold sbz; rw [if_pos hi])] at hown
      go_wp2
      go_loopw [3, 6] (fun v i wr => ∃ j : Nat, j ≤ 32 ∧ i = .int .i64 j ∧ v = .slice (some ⟨w.heap.size, 0, none⟩) (8 * s.size + j) (8 * s.size + 32) ∧ Ext w wr ∧ wr.ownsRow w.heap.size 4 1 (.slice (some ⟨w.heap.size, 0, none⟩) (8 * s.size + j) (8 * s.size + 32)) (8 * s.size + j) (bitsL (sbz s) (8 * s.size + j))) (fun _ i _ => 32 - (intOf i).toNat)
      case atStart => exact ⟨0, by omega, rfl, rfl, hB, by simpa using hown⟩
      case round =>
        obtain ⟨j, hj, rfl, rfl, hB, hown⟩ := hrel
        by_cases hj2 : j < 32
        · have hsb : sbz s (8 * s.size + j) = false := by unfold sbz; rw [if_neg (by omega)]
          have HSB := Lib.hid hsb
          clear hsb
          go_wp2_with (at_builtin; refine wpList_append_fits _ rfl _ _ 39 rfl w.heap.size 4 i0 1 Try.underlying39 hi0 hz1 w.heap.size (8 * s.size + j) (8 * s.size + 32) _ rfl (hown.alloc _) ⟨wr.heap.size, 0, none⟩ 1 1 _ rfl rfl (news_one _ _ _) (one_bool _) (by omega) ?_; intro w2 hown2 hgrow2)
          have hB2 : Ext w w2 := (hB.alloc _).grown hgrow2 (by intro k h; simp at h; omega)
          go_roundw
          case rel => exact ⟨j + 1, by omega, by go_num, rfl, hB2, by rw [← Nat.add_assoc, bitsL_succ, HSB.out]; exact hown2⟩
          case measure => simp [intOf]; omega
        · obtain rfl : j = 32 := by omega
          go_wp2
          go_ret
          exact ⟨rfl, hB, hown⟩
