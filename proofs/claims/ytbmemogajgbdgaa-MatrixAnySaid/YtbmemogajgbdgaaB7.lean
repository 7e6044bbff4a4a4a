import Derived.Test.YtbmemogajgbdgaaB6
namespace Go.Proofs.Ytbmemogajgbdgaa
open Go.RowKit Go.Gf
theorem info5 : (Try.prog.info? 5).map (fun i => (i.zero, i.size, i.bytes)) = some (some (.int .u8 0), 1, 1) := by kernel_rfl
/-- A text's product with an element. -/
def timesT (c : Nat) (s : ByteArray) : ByteArray := strN s.size (fun i => fm c (bn s i))
theorem timesT_size (c : Nat) (s : ByteArray) : (timesT c s).size = s.size := strN_size _ _
theorem bn_timesT (c : Nat) (s : ByteArray) (i : Nat) (hc : c < 256) (hi : i < s.size) : bn (timesT c s) i = fm c (bn s i) := bn_strN _ _ i hi (fm_lt _ _ hc)
/-- The cells of a block of bytes as a text. -/
theorem cells_str {w : World} {g n : Nat} {f : Nat → Nat} (hb : Blk w g 5 (tabA n (u8c f))) (hf : ∀ i, i < n → f i < 256) : ∀ j, j < n → w.cell? ⟨g, 0 + j, none⟩ = some (.int .u8 (bt (strN n f) j)) := by
  intro j hj
  rw [Nat.zero_add, hb.cell, tabA_at _ _ _ hj, bt_bn, bn_strN n f j hj (hf j hj)]; rfl
set_option maxRecDepth 100000 in
theorem times_any (c : Nat) (s : ByteArray) (w : World) (hc : c < 256) (hz : s.size ≤ 1048576) :
    Calls Try.prog 29 #[.int .u8 c, .string s] w fun e w' => e = .returned (.string (timesT c s)) ∧ Ext w w' := by
  obtain ⟨i0, hi0, hz0, hz1, hz2⟩ := info_parts info5
  go_enter Try.func29, Try.ntmps29
  go_wp2_with (first
    | (go_at_call 40; refine (tables_any _).mono ?_; rintro e w1 ⟨rfl, hE1⟩)
    | (with_reducible refine wpList_alloc_big rfl 63 rfl Z63 zero63 ?_)
    | (with_reducible refine wpList_alloc_at rfl 64 rfl Z64 zero64 (w1.heap.size + 1) (by simp) ?_)
    | (refine wpList_store_big rfl 63 _ _ rfl w1.heap.size 63 Z63 ptL.toArray rfl rfl (blkA _) sizeA i1 oneA ?_)
    | (refine wpList_store_big rfl 64 _ _ rfl (w1.heap.size + 1) 64 Z64 ltL.toArray rfl rfl (blkB _) sizeB i2 oneB ?_; obtain ⟨wt, hwt, hE2, hT, hs⟩ := tabs_new w1; rw [hwt]; clear hwt hs; have hE := hE1.trans hE2; clear hE1 hE2; generalize w1.heap.size = g at *)
    | (at_make; refine wpList_make_tab rfl _ _ 43 rfl 5 i0 (.int .u8 0) Try.underlying43 hi0 hz0 hz1 rfl _ _ s.size rfl rfl (by rw [hz2]; omega) (by omega) ?_))
  have hb : Blk (wt.alloc (.cells (tabA s.size (fun _ => Value.int .u8 0)) 5)) wt.heap.size 5 (tabA s.size (u8c (fun _ => 0))) := Blk.new _ _ _
  have hT' := hT.ext ((Ext.refl wt).alloc (.cells (tabA s.size (fun _ => Value.int .u8 0)) 5))
  have hE' := hE.alloc (.cells (tabA s.size (fun _ => Value.int .u8 0)) 5)
  have hgw : w.heap.size ≤ wt.heap.size := hE.sz
  generalize wt.alloc (.cells (tabA s.size (fun _ => Value.int .u8 0)) 5) = wb at *
  generalize wt.heap.size = gb at *
  clear hT hE
  refine (plus_any gb s.size s.size c s g (g + 1) (fun _ => 0) wb hb hT' rfl hz hc (by intro i; omega)).mono ?_
  rintro e w3 ⟨rfl, hO3, hb3⟩
  have hb4 : Blk w3 gb 5 (tabA s.size (u8c (fun i => fm c (bn s i)))) := by
    rw [← tabA_congr s.size (u8c (addP c s s.size (fun _ => 0))) (u8c (fun i => fm c (bn s i))) (fun i hi => by unfold u8c addP; rw [if_pos hi, Nat.zero_xor])]; exact hb3
  have hcs : ∀ j, j < s.size → w3.cell? ⟨gb, 0 + j, none⟩ = some (.int .u8 (bt (timesT c s) j)) := cells_str hb4 (fun i _ => fm_lt _ _ hc)
  have HCS := Lib.hid hcs
  clear hb3 hb4 hb hT' hcs
  go_wp2_with (with_reducible refine wpList_bytes_str rfl 43 9 5 _ rfl Try.underlying43 Try.underlying5 Try.underlying9 gb 0 s.size s.size rfl (timesT c s) (timesT_size c s) HCS.out ?_)
  go_ret
  exact ⟨rfl, hE'.only hgw hO3⟩