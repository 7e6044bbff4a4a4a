import Derived.Test.YtjmkbdbjefcfmaaB6
namespace Go.Proofs.Ytjmkbdbjefcfmaa
open Go.RowKit Go.Gf
theorem info5 : (Try.prog.info? 5).map (fun i => (i.zero, i.size, i.bytes)) = some (some (.int .u8 0), 1, 1) := by kernel_rfl
/-- A text's product with an element. -/
def timesT (c : Nat) (s : ByteArray) : ByteArray := strN s.size (fun i => fm c (bn s i))
theorem timesT_size (c : Nat) (s : ByteArray) : (timesT c s).size = s.size := strN_size _ _
theorem bn_timesT (c : Nat) (s : ByteArray) (i : Nat) (hc : c < 256) (hi : i < s.size) : bn (timesT c s) i = fm c (bn s i) := bn_strN _ _ i hi (fm_lt _ _ hc)
/-- The cells of a block of bytes as a text. -/
theorem cells_str {w : World} {g n : Nat} {f : Nat → Nat} (hb : Blk w g 5 (tabA n (u8c f))) (hf : ∀ i, i < n → f i < 256) : ∀ j, j < n → w.cell? ⟨g, 0 + j, none⟩ = some (.int .u8 (bt (strN n f) j)) := by
  intro j hj
  rw [Nat.zero_add, hb.cell, tabA_at _ _ _ hj, bt_bn, bn_strN n f j hj (hf j hj)]; rfl
set_option maxRecDepth 100000 in
theorem times_any (c : Nat) (s : ByteArray) (w : World) (hc : c < 256) (hz : s.size ≤ 1048576) :
    Calls Try.prog 14 #[.int .u8 c, .string s] w fun e w' => e = .returned (.string (timesT c s)) ∧ Ext w w' := by
  obtain ⟨i0, hi0, hz0, hz1, hz2⟩ := info_parts info5
  go_enter Try.func14, Try.ntmps14
  go_wp2_with (first
    | (go_at_call 25; refine (tables_any _).mono ?_; rintro e w1 ⟨rfl, hE1⟩)
    | (with_reducible refine wpList_alloc_big rfl 49 rfl Z49 zero49 ?_)
    | (with_reducible refine wpList_alloc_at rfl 50 rfl Z50 zero50 (w1.heap.size + 1) (by simp) ?_)
    | (refine wpList_store_big rfl 49 _ _ rfl w1.heap.size 49 Z49 ptL.toArray rfl rfl (blkA _) sizeA i1 oneA ?_)
    | (refine wpList_store_big rfl 50 _ _ rfl (w1.heap.size + 1) 50 Z50 ltL.toArray rfl rfl (blkB _) sizeB i2 oneB ?_; obtain ⟨wt, hwt, hE2, hT, hs⟩ := tabs_new w1; rw [hwt]; clear hwt hs; have hE := hE1.trans hE2; clear hE1 hE2; generalize w1.heap.size = g at *)
    | (at_make; refine wpList_make_tab rfl _ _ 34 rfl 5 i0 (.int .u8 0) Try.underlying34 hi0 hz0 hz1 rfl _ _ s.size rfl rfl (by rw [hz2]; omega) (by omega) ?_))
  have hb : Blk (wt.alloc (.cells (tabA s.size (fun _ => Value.int .u8 0)) 5)) wt.heap.size 5 (tabA s.size (u8c (fun _ => 0))) := Blk.new _ _ _
  have hT' := hT.ext ((Ext.refl wt).alloc (.cells (tabA s.size (fun _ => Value.int .u8 0)) 5))
  have hE' := hE.alloc (.cells (tabA s.size (fun _ => Value.int .u8 0)) 5)
  have hgw : w.heap.size ≤ wt.heap.size := hE.sz
  generalize wt.alloc (.cells (tabA s.size (fun _ => Value.int .u8 0)) 5) = wb at *
  generalize wt.heap.size = gb at *
  clear hT hE
  refine (plus_any gb s.size s.size c s g (g + 1) (fun _ => 0) wb hb hT' rfl hz hc (by intro i; omega)).mono ?_
  rintro e w3 ⟨rfl, hO3, hb3⟩
  have hb4 : Blk w3 gb 5 (tabA s.size (u8c (fun i => fm c (bn s i)))) := by
    rw [← tabA_congr s.size (u8c (addP c s s.size (fun _ => 0))) (u8c (fun i => fm c (bn s i))) (fun i hi => by unfold u8c addP; rw [if_pos hi, Nat.zero_xor])]; exact hb3
  have hcs : ∀ j, j < s.size → w3.cell? ⟨gb, 0 + j, none⟩ = some (.int .u8 (bt (timesT c s) j)) := cells_str hb4 (fun i _ => fm_lt _ _ hc)
  have HCS := Lib.hid hcs
  clear hb3 hb4 hb hT' hcs
  go_wp2_with (with_reducible refine wpList_bytes_str rfl 34 9 5 _ rfl Try.underlying34 Try.underlying5 Try.underlying9 gb 0 s.size s.size rfl (timesT c s) (timesT_size c s) HCS.out ?_)
  go_ret
  exact ⟨rfl, hE'.only hgw hO3⟩
set_option maxRecDepth 100000 in
theorem rtimes_any (c : Nat) (s : ByteArray) (w : World) (hc : c < 256) (hz : s.size ≤ 1048576) :
    Calls Try.prog 15 #[.int .u8 c, .string s] w fun e w' => e = .returned (.string (timesT c s)) ∧ Ext w w' := by
  go_enter Try.func15, Try.ntmps15
  go_wp2_with (with_reducible refine wpList_str_bytes rfl 9 34 5 _ rfl Try.underlying9 Try.underlying34 Try.underlying5 s rfl ?_; intro C w2 hC hCb hCc hB2 hsz2)
  have hE2 : Ext w w2 := hB2
  have hgw : w.heap.size ≤ w.heap.size := Nat.le_refl _
  obtain ⟨g, hg⟩ : ∃ g, g = w.heap.size := ⟨_, rfl⟩
  rw [← hg] at hCb hgw ⊢
  have hge : w.heap.size ≤ g := by omega
  clear hg hB2 hsz2 hgw
  go_loopw [6] (fun i wr => ∃ k : Nat, k ≤ s.size ∧ i = .int .i64 k ∧ Ext w wr ∧ ∃ D : Array Value, D.size = C.size ∧ BlkM wr g 5 D ∧ (∀ j, j < k → D[j]? = some (u8c (fun i => fm c (bn s i)) j)) ∧ ∀ j, k ≤ j → D[j]? = C[j]?) (fun i _ => s.size - (intOf i).toNat)
  case atStart => exact ⟨0, by omega, rfl, hE2, C, rfl, hCb, fun j h => by omega, fun _ _ => rfl⟩
  case round =>
    obtain ⟨k, hk, rfl, hE, D, hDs, hD, hlo, hhi⟩ := hrel
    have HLO := Lib.hid hlo
    have HHI := Lib.hid hhi
    have HDS := Lib.hid hDs
    clear hlo hhi hDs
    by_cases hk2 : k < s.size
    · have hbn := bn_lt s k
      have cb : wr.cell? ⟨g, k, none⟩ = some (.int .u8 (bn s k)) := by rw [hD.cell, HHI.out k (Nat.le_refl _), hCc k hk2]; rfl
      go_wp2_with (go_at_call 23; refine (rmul_any c (bn s k) _ hc hbn).mono ?_; rintro e w3 ⟨rfl, hE3⟩; have hD3 := hD.ext hE3; have hf3 := hD3.frozen k (by rw [HDS.out]; omega); have cb3 := hE3.cellv cb)
      go_roundw
      case rel => exact ⟨k + 1, by omega, by go_num, (hE.trans hE3).setCell hge _, D.setIfInBounds k (.int .u8 (fm c (bn s k))), by rw [Array.size_setIfInBounds]; exact HDS.out, hD3.set_ _ _, fun j hj => by
          rw [Array.getElem?_setIfInBounds]
          by_cases e : k = j
          · subst e; rw [if_pos rfl, if_pos (by rw [HDS.out]; omega)]; rfl
          · rw [if_neg e]; exact HLO.out j (by omega), fun j hj => by
          rw [Array.getElem?_setIfInBounds, if_neg (by omega)]; exact HHI.out j (by omega)⟩
      case measure => simp [intOf]; omega
    · obtain rfl : k = s.size := by omega
      have hcs : ∀ j, j < s.size → wr.cell? ⟨g, 0 + j, none⟩ = some (.int .u8 (bt (timesT c s) j)) := fun j hj => by
        rw [Nat.zero_add, hD.cell, HLO.out j hj, bt_bn, bn_timesT c s j hc hj]; rfl
      have HCS := Lib.hid hcs
      clear hcs
      go_wp2_with (with_reducible refine wpList_bytes_str rfl 34 9 5 _ rfl Try.underlying34 Try.underlying5 Try.underlying9 g 0 s.size C.size rfl (timesT c s) (timesT_size c s) HCS.out ?_)
      go_ret
      exact ⟨rfl, hE⟩
