import Derived.Test.YtbmemogajgbdgaaM10
import Derived.Test.YtbmemogajgbdgaaM11
import Derived.Test.YtbmemogajgbdgaaPre3
import Derived.Deep.LoopGhost
namespace Go.Proofs.Ytbmemogajgbdgaa
open Go.RowKit Go.Gf
def CD (c d : Nat) : ByteArray := strN 2 (fun i => if i = 0 then c else d)
theorem CD_size (c d : Nat) : (CD c d).size = 2 := strN_size _ _
theorem CD_0 (c d : Nat) (hc : c < 256) : bn (CD c d) 0 = c := bn_strN _ _ 0 (by omega) hc
theorem CD_1 (c d : Nat) (hd : d < 256) : bn (CD c d) 1 = d := bn_strN _ _ 1 (by omega) hd
theorem cd_cells (d : Nat) (hd : d < 256) (w : World) (t : TypeId) : ∀ j, j < 2 → (w.alloc (.cells #[.int .u8 1, .int .u8 (d : Int)] t)).cell? ⟨w.heap.size, 0 + j, none⟩ = some (.int .u8 (bt (CD 1 d) j)) := by
  intro j hj
  rw [(Blk.new w t _).cell, bt_bn]
  obtain rfl | rfl : j = 0 ∨ j = 1 := by omega
  · rw [CD_0 1 d (by omega)]; rfl
  · rw [CD_1 1 d hd]; rfl
theorem sum2 (N c : Nat) (f g : Nat → Nat) (hc : c < 256) (hf : ∀ j, f j < 256) (hg : ∀ j, g j < 256) : sumV (CD 1 c) [strN N f, strN N g] = strN N (fun j => f j ^^^ fm c (g j)) := by
  have h := sum_yes (CD 1 c) [strN N f, strN N g] ⟨CD_size _ _, by intro x hx; simp at hx; rcases hx with rfl | rfl <;> simp [len0, strN_size]⟩
  rw [h.1]
  have h0 : len0 [strN N f, strN N g] = N := by simp [len0, strN_size]
  rw [h0]
  refine strN_congr _ _ _ fun j hj => ?_
  simp only [List.length_cons, List.length_nil, acc, Nat.zero_xor]
  rw [CD_0 1 c (by omega), CD_1 1 c hc]
  simp only [List.getD_cons_zero, List.getD_cons_succ]
  rw [bn_strN N f j hj (hf j), bn_strN N g j hj (hg j), fm_comm 1 _ (by omega) (hf j), fm_one_r]
set_option maxRecDepth 100000 in
theorem msum_any (N c : Nat) (f g : Nat → Nat) (w : World) (hc : c < 256) (hf : ∀ j, f j < 256) (hg : ∀ j, g j < 256) (hN : N ≤ 1048576) :
    Calls Try.prog 30 #[.string (strN N f), .int .u8 c, .string (strN N g)] w fun e w' => e = .returned (.string (strN N (fun j => f j ^^^ fm c (g j)))) ∧ Ext w w' := by
  have H2 := Lib.hid (sum2 N c f g hc hf hg)
  have S1 := strN_size N f
  have S2 := strN_size N g
  have hs1 : (strN N f).size ≤ 1048576 := by omega
  have hs2 : (strN N g).size ≤ 1048576 := by omega
  have hcd := cd_cells c hc
  clear S1 S2
  generalize strN N f = s at *
  generalize strN N g = t at *
  have HCD := Lib.hid hcd
  clear hcd
  go_enter Try.func30, Try.ntmps30
  go_wp2_with (first
    | (with_reducible refine wpList_bytes_str rfl 43 9 5 _ rfl Try.underlying43 Try.underlying5 Try.underlying9 _ 0 2 2 rfl (CD 1 c) (CD_size 1 c) (HCD.out _ _) ?_)
    | (go_at_call 25; refine (sum_any (CD 1 c) _ 2 2 [s, t] _ (Rd.new2 _ _ _ _ 2 rfl) (by omega) (by rw [CD_size]; omega) (by intro x hx; simp at hx; rcases hx with rfl | rfl <;> assumption)).mono ?_; rintro e w1 ⟨rfl, hE1⟩))
  go_ret
  exact ⟨ret_str H2.out, (((Ext.refl w).alloc _).alloc _).trans hE1⟩
