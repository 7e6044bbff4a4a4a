import Derived.Test.YtbmemogajgbdgaaZ
import Derived.Deep.RegionHeld3
namespace Go.Proofs.Ytbmemogajgbdgaa
open Go.RowKit Go.Gf
def ptTo : Nat → Array Value
  | 0 => Z63
  | k + 1 => ((ptTo k).setIfInBounds k (.int .u8 (px k))).setIfInBounds (k + 255) (.int .u8 (px k))
def ltTo : Nat → Array Value
  | 0 => Z64
  | k + 1 => (ltTo k).setIfInBounds (px k) (.int .i64 k)
theorem ptTo_size (k : Nat) : (ptTo k).size = 510 := by
  induction k with
  | zero => simp [ptTo, Z63]
  | succ k ih => simp [ptTo, ih]
theorem ltTo_size (k : Nat) : (ltTo k).size = 256 := by
  induction k with
  | zero => simp [ltTo, Z64]
  | succ k ih => simp [ltTo, ih]
theorem ptTo_cell (k i : Nat) (hk : k ≤ 255) (hi : i < 510) : (ptTo k)[i]? = some (.int .u8 (if i % 255 < k then (px i : Int) else 0)) := by
  induction k with
  | zero => simp [ptTo, Z63, hi]
  | succ k ih =>
    simp only [ptTo, Array.getElem?_setIfInBounds, Array.size_setIfInBounds, ptTo_size, ih (by omega)]
    by_cases h1 : i % 255 = k
    · have e : px k = px i := by rw [← h1, px_mod]
      rw [if_pos (show i % 255 < k + 1 by omega), ← e]
      by_cases h2 : k + 255 = i
      · rw [if_pos h2, if_pos (by omega)]
      · rw [if_neg h2, if_pos (by omega), if_pos (by omega)]
    · rw [if_neg (by omega), if_neg (by omega)]
      by_cases h3 : i % 255 < k
      · rw [if_pos h3, if_pos (by omega)]
      · rw [if_neg h3, if_neg (by omega)]
theorem ltTo_cell (k x : Nat) (hk : k ≤ 255) (hx : x < 256) : (ltTo k)[x]? = some (.int .i64 (if x ≠ 0 ∧ lg x < k then (lg x : Int) else 0)) := by
  induction k with
  | zero => simp [ltTo, Z64, hx]
  | succ k ih =>
    simp only [ltTo, Array.getElem?_setIfInBounds, ltTo_size, ih (by omega)]
    have hp := px_bd k
    have hl : lg (px k) = k := by rw [lg_px, Nat.mod_eq_of_lt (by omega)]
    by_cases h1 : px k = x
    · subst h1
      rw [if_pos rfl, if_pos hx, if_pos ⟨by omega, by omega⟩, hl]
    · rw [if_neg h1]
      by_cases h2 : x ≠ 0 ∧ lg x < k
      · rw [if_pos h2, if_pos ⟨h2.1, by omega⟩]
      · rw [if_neg h2, if_neg ?_]
        rintro ⟨h3, h4⟩
        have h5 : lg x = k := by
          rcases Nat.lt_or_ge (lg x) k with h | h
          · exact absurd ⟨h3, h⟩ h2
          · omega
        exact h1 (by rw [← h5]; exact px_of x hx h3)
theorem pt_ex (k : Nat) (hk : k = 255) : ∃ l : List Value, l.toArray = ptTo k ∧ l.length = 510 ∧ (∀ i, i < 510 → l[i]? = some (.int .u8 (px i))) ∧ ∀ v ∈ l, v.oneCell' = true := by
  have hat : ∀ i, i < 510 → (ptTo k).toList[i]? = some (.int .u8 (px i)) := fun i hi => by
    rw [Array.getElem?_toList, ptTo_cell k i (by omega) hi, if_pos (by have := Nat.mod_lt i (show 0 < 255 by omega); omega)]
  have hlen : (ptTo k).toList.length = 510 := by rw [Array.length_toList, ptTo_size]
  refine ⟨(ptTo k).toList, by simp, hlen, hat, ?_⟩
  intro v hv
  obtain ⟨i, hi, rfl⟩ := List.getElem_of_mem hv
  have h := hat i (by rw [hlen] at hi; exact hi)
  obtain ⟨_, h⟩ := List.getElem?_eq_some_iff.1 h
  rw [h]; rfl
theorem lt_ex (k : Nat) (hk : k = 255) : ∃ l : List Value, l.toArray = ltTo k ∧ l.length = 256 ∧ (∀ x, x < 256 → l[x]? = some (.int .i64 (lg x))) ∧ ∀ v ∈ l, v.oneCell' = true := by
  have hat : ∀ x, x < 256 → (ltTo k).toList[x]? = some (.int .i64 (lg x)) := fun x hx => by
    rw [Array.getElem?_toList, ltTo_cell k x (by omega) hx]
    by_cases h : x = 0
    · subst h; rw [if_neg (by simp), lg_zero]; rfl
    · rw [if_pos ⟨h, by have := lg_lt x hx; omega⟩]
  have hlen : (ltTo k).toList.length = 256 := by rw [Array.length_toList, ltTo_size]
  refine ⟨(ltTo k).toList, by simp, hlen, hat, ?_⟩
  intro v hv
  obtain ⟨i, hi, rfl⟩ := List.getElem_of_mem hv
  have h := hat i (by rw [hlen] at hi; exact hi)
  obtain ⟨_, h⟩ := List.getElem?_eq_some_iff.1 h
  rw [h]; rfl
noncomputable def ptL : List Value := Classical.choose (pt_ex 255 rfl)
noncomputable def ltL : List Value := Classical.choose (lt_ex 255 rfl)
theorem ptL_eq (k : Nat) (hk : k = 255) : ptTo k = ptL.toArray := by subst hk; exact (Classical.choose_spec (pt_ex 255 rfl)).1.symm
theorem ltL_eq (k : Nat) (hk : k = 255) : ltTo k = ltL.toArray := by subst hk; exact (Classical.choose_spec (lt_ex 255 rfl)).1.symm
theorem ptL_len : ptL.length = 510 := (Classical.choose_spec (pt_ex 255 rfl)).2.1
theorem ltL_len : ltL.length = 256 := (Classical.choose_spec (lt_ex 255 rfl)).2.1
theorem pt_at (i : Nat) (hi : i < 510) : ptL[i]? = some (.int .u8 (px i)) := (Classical.choose_spec (pt_ex 255 rfl)).2.2.1 i hi
theorem lt_at (x : Nat) (hx : x < 256) : ltL[x]? = some (.int .i64 (lg x)) := (Classical.choose_spec (lt_ex 255 rfl)).2.2.1 x hx
theorem ptL_one : ∀ v ∈ ptL, v.oneCell' = true := (Classical.choose_spec (pt_ex 255 rfl)).2.2.2
theorem ltL_one : ∀ v ∈ ltL, v.oneCell' = true := (Classical.choose_spec (lt_ex 255 rfl)).2.2.2
theorem ofInt_i64 (a : Nat) (ha : a < 9223372036854775808) : (BitVec.ofInt 64 (a : Int)).toNat = a := by
  rw [BitVec.ofInt_natCast, BitVec.toNat_ofNat]; exact Nat.mod_eq_of_lt (by omega)
theorem i64_xor_nat (a b : Nat) (ha : a < 9223372036854775808) (hb : b < 9223372036854775808) : bits .xor .i64 (a : Int) (b : Int) = ((a ^^^ b : Nat) : Int) := by
  have hx : a ^^^ b < 2 ^ 63 := Nat.xor_lt_two_pow (by omega) (by omega)
  show IntKind.i64.wrap ((BitVec.ofInt 64 (a : Int) ^^^ BitVec.ofInt 64 (b : Int)).toNat : Int) = _
  rw [BitVec.toNat_xor, ofInt_i64 a ha, ofInt_i64 b hb, IntKind.wrap_i64]
  omega
theorem i64_xor285 (v : Nat) (h : v < 512) : bits BinOp.xor IntKind.i64 (v : Int) 285 = ((v ^^^ 285 : Nat) : Int) := i64_xor_nat v 285 (by omega) (by omega)
theorem big_next (k : Nat) (h : 255 < 2 * px k) : bits BinOp.xor IntKind.i64 ((px k : Int) * 2) 285 = (px (k + 1) : Int) := by
  have hb := px_bd k
  have e : ((px k : Int) * 2) = ((2 * px k : Nat) : Int) := by omega
  rw [e, i64_xor285 _ (by omega), px_succ]; unfold dbl; rw [if_pos h]
theorem small_next (k : Nat) (h : ¬ 255 < 2 * px k) : ((px k : Int) * 2) = (px (k + 1) : Int) := by
  rw [px_succ]; unfold dbl; rw [if_neg h]; omega
set_option maxRecDepth 100000 in
theorem tables_any (w : World) :
    Calls Try.prog 40 #[] w fun e w' => e = .returned (.tuple #[.agg ptL.toArray, .agg ltL.toArray]) ∧ Ext w w' := by
  go_enter Try.func40, Try.ntmps40
  go_wp2_with (first
    | (with_reducible refine wpList_alloc_big rfl 63 rfl Z63 zero63 ?_)
    | (with_reducible refine wpList_alloc_big rfl 64 rfl Z64 zero64 ?_))
  generalize hw1 : (w.alloc (.cells Z63 63)).alloc (.cells Z64 64) = w1
  have hE : Ext w w1 := by rw [← hw1]; exact ((Ext.refl _).alloc _).alloc _
  have hp : Blk w1 w.heap.size 63 (ptTo 0) := by rw [← hw1]; exact (Blk.new _ _ _).alloc _
  have hl : Blk w1 (w.heap.size + 1) 64 (ltTo 0) := by
    have h : Blk ((w.alloc (.cells Z63 63)).alloc (.cells Z64 64)) (w.heap.size + 1) 64 Z64 := by simpa using Blk.new (w.alloc (.cells Z63 63)) 64 Z64
    rw [← hw1]; exact h
  clear hw1
  go_loopw [2, 4] (fun x i wr => ∃ k : Nat, k ≤ 255 ∧ i = .int .i64 k ∧ x = .int .i64 (px k) ∧ Ext w wr ∧ Blk wr w.heap.size 63 (ptTo k) ∧ Blk wr (w.heap.size + 1) 64 (ltTo k)) (fun _ i _ => 255 - (intOf i).toNat)
  case atStart => exact ⟨0, by omega, rfl, rfl, hE, hp, hl⟩
  case round =>
    obtain ⟨k, hk, rfl, rfl, hE, hp, hl⟩ := hrel
    by_cases hk2 : k < 255
    · have hb := px_bd k
      have hbn := big_next k
      have hsn := small_next k
      have hpt : ptTo (k + 1) = ((ptTo k).setIfInBounds k (.int .u8 (px k))).setIfInBounds (k + 255) (.int .u8 (px k)) := rfl
      have hlt : ltTo (k + 1) = (ltTo k).setIfInBounds (px k) (.int .i64 k) := rfl
      have c1 : wr.cell? ⟨w.heap.size, k, none⟩ = some (.int .u8 0) := by rw [hp.cell, ptTo_cell k k (by omega) (by omega), if_neg (by omega)]
      have f1 := hp.frozen k
      have hp1 := hp.set_ k (.int .u8 (px k))
      have c2 : (wr.setCell ⟨w.heap.size, k, none⟩ (.int .u8 (px k))).cell? ⟨w.heap.size, k + 255, none⟩ = some (.int .u8 0) := by
        rw [hp1.cell, Array.getElem?_setIfInBounds, if_neg (by omega), ptTo_cell k (k + 255) (by omega) (by omega), if_neg (by omega)]
      have f2 := hp1.frozen (k + 255)
      have hp2 := hp1.set_ (k + 255) (.int .u8 (px k))
      have hl2 := (hl.far (p := ⟨w.heap.size, k, none⟩) (by simp) (.int .u8 (px k))).far (p := ⟨w.heap.size, k + 255, none⟩) (by simp) (.int .u8 (px k))
      have c3 : ((wr.setCell ⟨w.heap.size, k, none⟩ (.int .u8 (px k))).setCell ⟨w.heap.size, k + 255, none⟩ (.int .u8 (px k))).cell? ⟨w.heap.size + 1, px k, none⟩ = some (.int .i64 (if px k ≠ 0 ∧ lg (px k) < k then (lg (px k) : Int) else 0)) := by
        rw [hl2.cell, ltTo_cell k (px k) (by omega) hb.2]
      have f3 := hl2.frozen (px k)
      have hl3 := hl2.set_ (px k) (.int .i64 k)
      have hp3 := hp2.far (p := ⟨w.heap.size + 1, px k, none⟩) (by simp) (.int .i64 k)
      have hE3 := ((hE.setCell (p := ⟨w.heap.size, k, none⟩) (Nat.le_refl _) (.int .u8 (px k))).setCell (p := ⟨w.heap.size, k + 255, none⟩) (Nat.le_refl _) (.int .u8 (px k))).setCell (p := ⟨w.heap.size + 1, px k, none⟩) (by simp) (.int .i64 k)
      rw [← hpt] at hp3
      rw [← hlt] at hl3
      have HN := Lib.hid hbn
      have HS := Lib.hid hsn
      have HP := Lib.hid hp3
      have HL := Lib.hid hl3
      have HE := Lib.hid hE3
      obtain ⟨hb0, hb1⟩ := hb
      clear hbn hsn hp3 hl3 hE3 hpt hlt hp1 hp2 hl2 hp hl hE
      go_wp2
      · go_roundw
        case rel => exact ⟨k + 1, by omega, by go_num, by rw [HN.out (by omega)], HE.out, HP.out, HL.out⟩
        case measure => simp [intOf]; omega
      · go_roundw
        case rel => exact ⟨k + 1, by omega, by go_num, by rw [HS.out (by omega)], HE.out, HP.out, HL.out⟩
        case measure => simp [intOf]; omega
    · have hk3 : k = 255 := by omega
      rw [ptL_eq k hk3] at hp
      rw [ltL_eq k hk3] at hl
      have i1 : (Try.prog.info? 63).map (·.size) = some ptL.toArray.size := by rw [List.size_toArray, ptL_len]; exact info63
      have i2 : (Try.prog.info? 64).map (·.size) = some ltL.toArray.size := by rw [List.size_toArray, ltL_len]; exact info64
      go_wp2_with fail
      refine wp_region_quiet_lit (by kernel_rfl) (by kernel_rfl) ?_
      refine wpQuiet_step (fun K hK => ?_)
      refine quiet_load_row rfl 63 _ rfl w.heap.size rfl 63 ptL.toArray _ ?_ Try.underlying63 rfl i1 (hK _ ?_)
      · rintro _ ⟨n, rfl⟩; exact hp.drewN n
      clear hK K
      refine wpQuiet_step (fun K hK => ?_)
      refine quiet_load_row rfl 64 _ rfl (w.heap.size + 1) rfl 64 ltL.toArray _ ?_ Try.underlying64 rfl i2 (hK _ ?_)
      · rintro _ ⟨n, rfl⟩; exact hl.drewN n
      clear hK K
      refine wpQuiet_step (fun K hK => ?_)
      refine quiet_store_same rfl 63 _ _ rfl w.heap.size 63 ptL.toArray rfl rfl ?_ i1 (by simpa using ptL_one) (hK _ ?_)
      · rintro _ ⟨n, rfl⟩; exact hp.drewN n
      clear hK K
      refine wpQuiet_step (fun K hK => ?_)
      refine quiet_store_same rfl 64 _ _ rfl (w.heap.size + 1) 64 ltL.toArray rfl rfl ?_ i2 (by simpa using ltL_one) (hK _ ?_)
      · rintro _ ⟨n, rfl⟩; exact hl.drewN n
      clear hK K
      refine wpQuiet_nil ?_
      rintro _ ⟨n, rfl⟩
      go_wp2_with fail
      refine ret_row2 rfl w.heap.size (w.heap.size + 1) 63 64 ptL.toArray ltL.toArray _ _ rfl (hp.drewN n) rfl (hl.drewN n) Try.underlying63 rfl i1 Try.underlying64 rfl i2 rfl ⟨rfl, hE.drewN n⟩
