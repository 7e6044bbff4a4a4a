import Derived.Test.YtjdppgogdilgkaaPA
import Derived.Deep.RegionHeld3
import Derived.BigQuiet
import Derived.StillTailTactics
section
namespace Go.Proofs.Ytjdppgogdilgkaa
open Go.RowKit Go.Gf
def Z103 : Array Value := Array.replicate 510 (.int .u8 0)
theorem zero103 (w : World) : (zeroValue 103).run Try.prog w = .ok (.agg Z103) w := by kernel_rfl
theorem info103 : (Try.prog.info? 103).map (·.size) = some 510 := by kernel_rfl
def Z104 : Array Value := Array.replicate 256 (.int .i64 0)
theorem zero104 (w : World) : (zeroValue 104).run Try.prog w = .ok (.agg Z104) w := by kernel_rfl
theorem info104 : (Try.prog.info? 104).map (·.size) = some 256 := by kernel_rfl
end Go.Proofs.Ytjdppgogdilgkaa
end
section
namespace Go.Proofs.Ytjdppgogdilgkaa
open Go.RowKit Go.Gf
def ptTo : Nat → Array Value
  | 0 => Z103
  | k + 1 => ((ptTo k).setIfInBounds k (.int .u8 (px k))).setIfInBounds (k + 255) (.int .u8 (px k))
def ltTo : Nat → Array Value
  | 0 => Z104
  | k + 1 => (ltTo k).setIfInBounds (px k) (.int .i64 k)
theorem ptTo_size (k : Nat) : (ptTo k).size = 510 := by
  induction k with
  | zero => simp [ptTo, Z103]
  | succ k ih => simp [ptTo, ih]
theorem ltTo_size (k : Nat) : (ltTo k).size = 256 := by
  induction k with
  | zero => simp [ltTo, Z104]
  | succ k ih => simp [ltTo, ih]
theorem ptTo_cell (k i : Nat) (hk : k ≤ 255) (hi : i < 510) : (ptTo k)[i]? = some (.int .u8 (if i % 255 < k then (px i : Int) else 0)) := by
  induction k with
  | zero => simp [ptTo, Z103, hi]
  | succ k ih =>
    simp only [ptTo, Array.getElem?_setIfInBounds, Array.size_setIfInBounds, ptTo_size, ih (by omega)]
    by_cases h1 : i % 255 = k
    · have e : px k = px i := by rw [← h1, px_mod]
      rw [if_pos (show i % 255 < k + 1 by omega), ← e]
      by_cases h2 : k + 255 = i
      · rw [if_pos h2, if_pos (by omega)]
      · rw [if_neg h2, if_pos (by omega), if_pos (by omega)]
    · rw [if_neg (by omega), if_neg (by omega)]
      by_cases h3 : i % 255 < k
      · rw [if_pos h3, if_pos (by omega)]
      · rw [if_neg h3, if_neg (by omega)]
theorem ltTo_cell (k x : Nat) (hk : k ≤ 255) (hx : x < 256) : (ltTo k)[x]? = some (.int .i64 (if x ≠ 0 ∧ lg x < k then (lg x : Int) else 0)) := by
  induction k with
  | zero => simp [ltTo, Z104, hx]
  | succ k ih =>
    simp only [ltTo, Array.getElem?_setIfInBounds, ltTo_size, ih (by omega)]
    have hp := px_bd k
    have hl : lg (px k) = k := by rw [lg_px, Nat.mod_eq_of_lt (by omega)]
    by_cases h1 : px k = x
    · subst h1
      rw [if_pos rfl, if_pos hx, if_pos ⟨by omega, by omega⟩, hl]
    · rw [if_neg h1]
      by_cases h2 : x ≠ 0 ∧ lg x < k
      · rw [if_pos h2, if_pos ⟨h2.1, by omega⟩]
      · rw [if_neg h2, if_neg ?_]
        rintro ⟨h3, h4⟩
        have h5 : lg x = k := by
          rcases Nat.lt_or_ge (lg x) k with h | h
          · exact absurd ⟨h3, h⟩ h2
          · omega
        exact h1 (by rw [← h5]; exact px_of x hx h3)
theorem pt_ex (k : Nat) (hk : k = 255) : ∃ l : List Value, l.toArray = ptTo k ∧ l.length = 510 ∧ (∀ i, i < 510 → l[i]? = some (.int .u8 (px i))) ∧ ∀ v ∈ l, v.oneCell' = true := by
  have hat : ∀ i, i < 510 → (ptTo k).toList[i]? = some (.int .u8 (px i)) := fun i hi => by
    rw [Array.getElem?_toList, ptTo_cell k i (by omega) hi, if_pos (by have := Nat.mod_lt i (show 0 < 255 by omega); omega)]
  have hlen : (ptTo k).toList.length = 510 := by rw [Array.length_toList, ptTo_size]
  refine ⟨(ptTo k).toList, by simp, hlen, hat, ?_⟩
  intro v hv
  obtain ⟨i, hi, rfl⟩ := List.getElem_of_mem hv
  have h := hat i (by rw [hlen] at hi; exact hi)
  obtain ⟨_, h⟩ := List.getElem?_eq_some_iff.1 h
  rw [h]; rfl
theorem lt_ex (k : Nat) (hk : k = 255) : ∃ l : List Value, l.toArray = ltTo k ∧ l.length = 256 ∧ (∀ x, x < 256 → l[x]? = some (.int .i64 (lg x))) ∧ ∀ v ∈ l, v.oneCell' = true := by
  have hat : ∀ x, x < 256 → (ltTo k).toList[x]? = some (.int .i64 (lg x)) := fun x hx => by
    rw [Array.getElem?_toList, ltTo_cell k x (by omega) hx]
    by_cases h : x = 0
    · subst h; rw [if_neg (by simp), lg_zero]; rfl
    · rw [if_pos ⟨h, by have := lg_lt x hx; omega⟩]
  have hlen : (ltTo k).toList.length = 256 := by rw [Array.length_toList, ltTo_size]
  refine ⟨(ltTo k).toList, by simp, hlen, hat, ?_⟩
  intro v hv
  obtain ⟨i, hi, rfl⟩ := List.getElem_of_mem hv
  have h := hat i (by rw [hlen] at hi; exact hi)
  obtain ⟨_, h⟩ := List.getElem?_eq_some_iff.1 h
  rw [h]; rfl
noncomputable def ptL : List Value := Classical.choose (pt_ex 255 rfl)
noncomputable def ltL : List Value := Classical.choose (lt_ex 255 rfl)
theorem ptL_eq (k : Nat) (hk : k = 255) : ptTo k = ptL.toArray := by subst hk; exact (Classical.choose_spec (pt_ex 255 rfl)).1.symm
theorem ltL_eq (k : Nat) (hk : k = 255) : ltTo k = ltL.toArray := by subst hk; exact (Classical.choose_spec (lt_ex 255 rfl)).1.symm
theorem ptL_len : ptL.length = 510 := (Classical.choose_spec (pt_ex 255 rfl)).2.1
theorem ltL_len : ltL.length = 256 := (Classical.choose_spec (lt_ex 255 rfl)).2.1
theorem pt_at (i : Nat) (hi : i < 510) : ptL[i]? = some (.int .u8 (px i)) := (Classical.choose_spec (pt_ex 255 rfl)).2.2.1 i hi
theorem lt_at (x : Nat) (hx : x < 256) : ltL[x]? = some (.int .i64 (lg x)) := (Classical.choose_spec (lt_ex 255 rfl)).2.2.1 x hx
theorem ptL_one : ∀ v ∈ ptL, v.oneCell' = true := (Classical.choose_spec (pt_ex 255 rfl)).2.2.2
theorem ltL_one : ∀ v ∈ ltL, v.oneCell' = true := (Classical.choose_spec (lt_ex 255 rfl)).2.2.2
theorem ofInt_i64 (a : Nat) (ha : a < 9223372036854775808) : (BitVec.ofInt 64 (a : Int)).toNat = a := by
  rw [BitVec.ofInt_natCast, BitVec.toNat_ofNat]; exact Nat.mod_eq_of_lt (by omega)
theorem i64_xor_nat (a b : Nat) (ha : a < 9223372036854775808) (hb : b < 9223372036854775808) : bits .xor .i64 (a : Int) (b : Int) = ((a ^^^ b : Nat) : Int) := by
  have hx : a ^^^ b < 2 ^ 63 := Nat.xor_lt_two_pow (by omega) (by omega)
  show IntKind.i64.wrap ((BitVec.ofInt 64 (a : Int) ^^^ BitVec.ofInt 64 (b : Int)).toNat : Int) = _
  rw [BitVec.toNat_xor, ofInt_i64 a ha, ofInt_i64 b hb, IntKind.wrap_i64]
  omega
theorem i64_xor285 (v : Nat) (h : v < 512) : bits BinOp.xor IntKind.i64 (v : Int) 285 = ((v ^^^ 285 : Nat) : Int) := i64_xor_nat v 285 (by omega) (by omega)
theorem big_next (k : Nat) (h : 255 < 2 * px k) : bits BinOp.xor IntKind.i64 ((px k : Int) * 2) 285 = (px (k + 1) : Int) := by
  have hb := px_bd k
  have e : ((px k : Int) * 2) = ((2 * px k : Nat) : Int) := by omega
  rw [e, i64_xor285 _ (by omega), px_succ]; unfold dbl; rw [if_pos h]
theorem small_next (k : Nat) (h : ¬ 255 < 2 * px k) : ((px k : Int) * 2) = (px (k + 1) : Int) := by
  rw [px_succ]; unfold dbl; rw [if_neg h]; omega
set_option maxRecDepth 100000 in
theorem tables_any (w : World) :
    Calls Try.prog 59 #[] w fun e w' => e = .returned (.tuple #[.agg ptL.toArray, .agg ltL.toArray]) ∧ Ext w w' := by
  go_enter Try.func59, Try.ntmps59
  go_wp2_with (first
    | (with_reducible refine wpList_alloc_big rfl 103 rfl Z103 zero103 ?_)
    | (with_reducible refine wpList_alloc_big rfl 104 rfl Z104 zero104 ?_))
  generalize hw1 : (w.alloc (.cells Z103 103)).alloc (.cells Z104 104) = w1
  have hE : Ext w w1 := by rw [← hw1]; exact ((Ext.refl _).alloc _).alloc _
  have hp : Blk w1 w.heap.size 103 (ptTo 0) := by rw [← hw1]; exact (Blk.new _ _ _).alloc _
  have hl : Blk w1 (w.heap.size + 1) 104 (ltTo 0) := by
    have h : Blk ((w.alloc (.cells Z103 103)).alloc (.cells Z104 104)) (w.heap.size + 1) 104 Z104 := by simpa using Blk.new (w.alloc (.cells Z103 103)) 104 Z104
    rw [← hw1]; exact h
  clear hw1
  go_loopw [2, 4] (fun x i wr => ∃ k : Nat, k ≤ 255 ∧ i = .int .i64 k ∧ x = .int .i64 (px k) ∧ Ext w wr ∧ Blk wr w.heap.size 103 (ptTo k) ∧ Blk wr (w.heap.size + 1) 104 (ltTo k)) (fun _ i _ => 255 - (intOf i).toNat)
  case atStart => exact ⟨0, by omega, rfl, rfl, hE, hp, hl⟩
  case round =>
    obtain ⟨k, hk, rfl, rfl, hE, hp, hl⟩ := hrel
    by_cases hk2 : k < 255
    · have hb := px_bd k
      have hbn := big_next k
      have hsn := small_next k
      have hpt : ptTo (k + 1) = ((ptTo k).setIfInBounds k (.int .u8 (px k))).setIfInBounds (k + 255) (.int .u8 (px k)) := rfl
      have hlt : ltTo (k + 1) = (ltTo k).setIfInBounds (px k) (.int .i64 k) := rfl
      have c1 : wr.cell? ⟨w.heap.size, k, none⟩ = some (.int .u8 0) := by rw [hp.cell, ptTo_cell k k (by omega) (by omega), if_neg (by omega)]
      have f1 := hp.frozen k
      have hp1 := hp.set_ k (.int .u8 (px k))
      have c2 : (wr.setCell ⟨w.heap.size, k, none⟩ (.int .u8 (px k))).cell? ⟨w.heap.size, k + 255, none⟩ = some (.int .u8 0) := by
        rw [hp1.cell, Array.getElem?_setIfInBounds, if_neg (by omega), ptTo_cell k (k + 255) (by omega) (by omega), if_neg (by omega)]
      have f2 := hp1.frozen (k + 255)
      have hp2 := hp1.set_ (k + 255) (.int .u8 (px k))
      have hl2 := (hl.far (p := ⟨w.heap.size, k, none⟩) (by simp) (.int .u8 (px k))).far (p := ⟨w.heap.size, k + 255, none⟩) (by simp) (.int .u8 (px k))
      have c3 : ((wr.setCell ⟨w.heap.size, k, none⟩ (.int .u8 (px k))).setCell ⟨w.heap.size, k + 255, none⟩ (.int .u8 (px k))).cell? ⟨w.heap.size + 1, px k, none⟩ = some (.int .i64 (if px k ≠ 0 ∧ lg (px k) < k then (lg (px k) : Int) else 0)) := by
        rw [hl2.cell, ltTo_cell k (px k) (by omega) hb.2]
      have f3 := hl2.frozen (px k)
      have hl3 := hl2.set_ (px k) (.int .i64 k)
      have hp3 := hp2.far (p := ⟨w.heap.size + 1, px k, none⟩) (by simp) (.int .i64 k)
      have hE3 := ((hE.setCell (p := ⟨w.heap.size, k, none⟩) (Nat.le_refl _) (.int .u8 (px k))).setCell (p := ⟨w.heap.size, k + 255, none⟩) (Nat.le_refl _) (.int .u8 (px k))).setCell (p := ⟨w.heap.size + 1, px k, none⟩) (by simp) (.int .i64 k)
      rw [← hpt] at hp3
      rw [← hlt] at hl3
      have HN := Lib.hid hbn
      have HS := Lib.hid hsn
      have HP := Lib.hid hp3
      have HL := Lib.hid hl3
      have HE := Lib.hid hE3
      obtain ⟨hb0, hb1⟩ := hb
      clear hbn hsn hp3 hl3 hE3 hpt hlt hp1 hp2 hl2 hp hl hE
      go_wp2
      · go_roundw
        case rel => exact ⟨k + 1, by omega, by go_num, by rw [HN.out (by omega)], HE.out, HP.out, HL.out⟩
        case measure => simp [intOf]; omega
      · go_roundw
        case rel => exact ⟨k + 1, by omega, by go_num, by rw [HS.out (by omega)], HE.out, HP.out, HL.out⟩
        case measure => simp [intOf]; omega
    · have hk3 : k = 255 := by omega
      rw [ptL_eq k hk3] at hp
      rw [ltL_eq k hk3] at hl
      have i1 : (Try.prog.info? 103).map (·.size) = some ptL.toArray.size := by rw [List.size_toArray, ptL_len]; exact info103
      have i2 : (Try.prog.info? 104).map (·.size) = some ltL.toArray.size := by rw [List.size_toArray, ltL_len]; exact info104
      go_wp2_with fail
      refine wp_region_quiet_lit (by kernel_rfl) (by kernel_rfl) ?_
      refine wpQuiet_step (fun K hK => ?_)
      refine quiet_load_row rfl 103 _ rfl w.heap.size rfl 103 ptL.toArray _ ?_ Try.underlying103 rfl i1 (hK _ ?_)
      · rintro _ ⟨n, rfl⟩; exact hp.drewN n
      clear hK K
      refine wpQuiet_step (fun K hK => ?_)
      refine quiet_load_row rfl 104 _ rfl (w.heap.size + 1) rfl 104 ltL.toArray _ ?_ Try.underlying104 rfl i2 (hK _ ?_)
      · rintro _ ⟨n, rfl⟩; exact hl.drewN n
      clear hK K
      refine wpQuiet_step (fun K hK => ?_)
      refine quiet_store_same rfl 103 _ _ rfl w.heap.size 103 ptL.toArray rfl rfl ?_ i1 (by simpa using ptL_one) (hK _ ?_)
      · rintro _ ⟨n, rfl⟩; exact hp.drewN n
      clear hK K
      refine wpQuiet_step (fun K hK => ?_)
      refine quiet_store_same rfl 104 _ _ rfl (w.heap.size + 1) 104 ltL.toArray rfl rfl ?_ i2 (by simpa using ltL_one) (hK _ ?_)
      · rintro _ ⟨n, rfl⟩; exact hl.drewN n
      clear hK K
      refine wpQuiet_nil ?_
      rintro _ ⟨n, rfl⟩
      go_wp2_with fail
      refine ret_row2 rfl w.heap.size (w.heap.size + 1) 103 104 ptL.toArray ltL.toArray _ _ rfl (hp.drewN n) rfl (hl.drewN n) Try.underlying103 rfl i1 Try.underlying104 rfl i2 rfl ⟨rfl, hE.drewN n⟩
end Go.Proofs.Ytjdppgogdilgkaa
end
section
namespace Go.Proofs.Ytjdppgogdilgkaa
open Go.RowKit Go.Gf
theorem i1 : (Try.prog.info? 103).map (·.size) = some ptL.toArray.size := by rw [List.size_toArray, ptL_len]; exact info103
theorem i2 : (Try.prog.info? 104).map (·.size) = some ltL.toArray.size := by rw [List.size_toArray, ltL_len]; exact info104
theorem blkA (w : World) : Blk ((w.alloc (.cells Z103 103)).alloc (.cells Z104 104)) w.heap.size 103 Z103 := (Blk.new _ _ _).alloc _
theorem blkB (w : World) : Blk (((w.alloc (.cells Z103 103)).alloc (.cells Z104 104)).setRow w.heap.size ptL.toArray) (w.heap.size + 1) 104 Z104 := by
  have h : Blk ((w.alloc (.cells Z103 103)).alloc (.cells Z104 104)) (w.heap.size + 1) 104 Z104 := by simpa using Blk.new (w.alloc (.cells Z103 103)) 104 Z104
  exact h.setRow_far (by omega) _
theorem sizeA : Z103.size = ptL.toArray.size := by simp [Z103, ptL_len]
theorem sizeB : Z104.size = ltL.toArray.size := by simp [Z104, ltL_len]
theorem oneA : ∀ v ∈ ptL.toArray.toList, v.oneCell' = true := by simpa using ptL_one
theorem oneB : ∀ v ∈ ltL.toArray.toList, v.oneCell' = true := by simpa using ltL_one
def Tabs (w : World) (g h : Nat) : Prop := Blk w g 103 ptL.toArray ∧ Blk w h 104 ltL.toArray
theorem Tabs.pt {w : World} {g h : Nat} (t : Tabs w g h) (i : Nat) (hi : i < 510) : w.cell? ⟨g, i, none⟩ = some (.int .u8 (px i)) := by
  rw [t.1.cell]; simpa using pt_at i hi
theorem Tabs.lt {w : World} {g h : Nat} (t : Tabs w g h) (x : Nat) (hx : x < 256) : w.cell? ⟨h, x, none⟩ = some (.int .i64 (lg x)) := by
  rw [t.2.cell]; simpa using lt_at x hx
theorem Tabs.ext {w w' : World} {g h : Nat} (t : Tabs w g h) (e : Ext w w') : Tabs w' g h := ⟨t.1.ext e, t.2.ext e⟩
theorem tabs_new (w : World) : ∃ wt, (((w.alloc (.cells Z103 103)).alloc (.cells Z104 104)).setRow w.heap.size ptL.toArray).setRow (w.heap.size + 1) ltL.toArray = wt ∧ Ext w wt ∧ Tabs wt w.heap.size (w.heap.size + 1) ∧ wt.heap.size = w.heap.size + 2 := by
  refine ⟨_, rfl, ((((Ext.refl _).alloc _).alloc _).setRow (Nat.le_refl _) _).setRow (by omega) _, ⟨?_, ?_⟩, by simp⟩
  · exact ((blkA w).setRow _).setRow_far (by omega) _
  · exact (blkB w).setRow _
end Go.Proofs.Ytjdppgogdilgkaa
end
section
namespace Go.Proofs.Ytjdppgogdilgkaa
open Go.RowKit Go.Gf
set_option maxRecDepth 100000 in
theorem inv_zero (w : World) : Calls Try.prog 50 #[.int .u8 0] w fun e w' => e = .returned (.tuple #[.int .u8 0, .int .i64 40]) ∧ Ext w w' := by
  go_enter Try.func50, Try.ntmps50
  go_wp2
  go_ret2
  exact ⟨rfl, Ext.refl _⟩
set_option maxRecDepth 100000 in
theorem inv_ne (a : Nat) (w : World) (ha : a < 256) (a0 : a ≠ 0) : Calls Try.prog 50 #[.int .u8 a] w fun e w' => e = .returned (.tuple #[.int .u8 (fi a), .int .i64 0]) ∧ Ext w w' := by
  unfold fi
  have e1 : ((a : Int) == 0) = false := by simpa using a0
  have l1 := lg_lt a ha
  have k1 : (a : Int) < 256 := by omega
  have k2 : ((255 : Int) - (lg a : Int)) = ((255 - lg a : Nat) : Int) := by omega
  have k3 : 255 - lg a < 510 := by omega
  generalize 255 - lg a = q at *
  go_enter Try.func50, Try.ntmps50
  go_wp2_with (first
    | (go_at_call 59; refine (tables_any _).mono ?_; rintro e w1 ⟨rfl, hE1⟩)
    | (with_reducible refine wpList_alloc_big rfl 103 rfl Z103 zero103 ?_)
    | (with_reducible refine wpList_alloc_at rfl 104 rfl Z104 zero104 (w1.heap.size + 1) (by simp) ?_)
    | (refine wpList_store_big rfl 103 _ _ rfl w1.heap.size 103 Z103 ptL.toArray rfl rfl (blkA _) sizeA i1 oneA ?_)
    | (refine wpList_store_big rfl 104 _ _ rfl (w1.heap.size + 1) 104 Z104 ltL.toArray rfl rfl (blkB _) sizeB i2 oneB ?_; obtain ⟨wt, hwt, hE2, hT, hs⟩ := tabs_new w1; rw [hwt]; clear hwt hs; have hE := hE1.trans hE2; clear hE1 hE2; generalize w1.heap.size = g at *; have c1 := hT.lt a ha; have c3 := hT.pt q k3; clear hT))
  go_ret2
  exact ⟨rfl, hE⟩
def fp (a : Nat) : Nat → Nat
  | 0 => 1
  | n + 1 => fm (fp a n) a
theorem fp_px (a : Nat) (ha : a < 256) (a0 : a ≠ 0) (n : Nat) : fp a n = px (lg a * n) := by
  induction n with
  | zero => exact pw_zero.symm
  | succ n ih =>
    rw [fp, ih]
    conv => lhs; arg 2; rw [← px_of a ha a0]
    rw [fm_px, Nat.mul_succ]
theorem fp_zero (n : Nat) : fp 0 (n + 1) = 0 := by rw [fp, fm_zero_r]
theorem px_mul (l n : Nat) : px ((l * (n % 255)) % 255) = px (l * n) := by
  unfold px
  rw [Nat.mod_mod, Nat.mul_mod, Nat.mod_mod, ← Nat.mul_mod]
end Go.Proofs.Ytjdppgogdilgkaa
end
section
namespace Go.Proofs.Ytjdppgogdilgkaa
open Go.RowKit Go.Gf
theorem u8_and1 (a : Nat) (ha : a < 256) : bits .and .u8 (a : Int) 1 = ((a % 2 : Nat) : Int) := by
  have h1 : ∀ a : Nat, a < 256 → (BitVec.ofInt 8 (a : Int)).toNat = a := fun a ha => by
    rw [BitVec.ofInt_natCast, BitVec.toNat_ofNat]; exact Nat.mod_eq_of_lt (by omega)
  show IntKind.u8.wrap ((BitVec.ofInt 8 (a : Int) &&& BitVec.ofInt 8 ((1 : Nat) : Int)).toNat : Int) = _
  rw [BitVec.toNat_and, h1 a ha, h1 1 (by omega), Nat.and_one_is_mod]
  simp [IntKind.wrap, IntKind.bits, IntKind.signed]; omega
theorem i64_and1 (a : Nat) (ha : a < 9223372036854775808) : bits .and .i64 (a : Int) 1 = ((a % 2 : Nat) : Int) := by
  show IntKind.i64.wrap ((BitVec.ofInt 64 (a : Int) &&& BitVec.ofInt 64 ((1 : Nat) : Int)).toNat : Int) = _
  rw [BitVec.toNat_and, ofInt_i64 a ha, ofInt_i64 1 (by omega), Nat.and_one_is_mod, IntKind.wrap_i64]
  omega
theorem div_cast (b k : Nat) : ((b : Int) / 2 ^ k) = ((b / 2 ^ k : Nat) : Int) := by rw [Int.natCast_ediv, Int.natCast_pow]; rfl
theorem bit_u8 (b k : Nat) (hb : b < 256) : (bits BinOp.and IntKind.u8 ((b : Int) / 2 ^ k) 1 == 1) = b.testBit k := by
  rw [div_cast, u8_and1 _ (Nat.lt_of_le_of_lt (Nat.div_le_self _ _) hb), Nat.testBit_eq_decide_div_mod_eq]
  rcases Nat.mod_two_eq_zero_or_one (b / 2 ^ k) with h | h <;> rw [h] <;> rfl
theorem bit_i64 (b k : Nat) (hb : b < 65536) : (bits BinOp.and IntKind.i64 ((b : Int) / 2 ^ k) 1 == 1) = b.testBit k := by
  rw [div_cast, i64_and1 _ (by have := Nat.div_le_self b (2 ^ k); omega), Nat.testBit_eq_decide_div_mod_eq]
  rcases Nat.mod_two_eq_zero_or_one (b / 2 ^ k) with h | h <;> rw [h] <;> rfl
theorem pow2_le (k : Nat) (hk : k < 8) : 2 ^ k ≤ 128 := Nat.pow_le_pow_right (n := 2) (by omega) (show k ≤ 7 by omega)
theorem wrap_pow (a k : Nat) (ha : a < 512) (hk : k < 8) : wrap64 ((a : Int) * 2 ^ k) = ((a * 2 ^ k : Nat) : Int) := by
  have h := Nat.mul_le_mul (show a ≤ 511 by omega) (pow2_le k hk)
  have e : ((a : Int) * 2 ^ k) = ((a * 2 ^ k : Nat) : Int) := by rw [Int.natCast_mul, Int.natCast_pow]; rfl
  rw [e]
  exact IntWalk.wrap64_in _ ⟨by omega, by omega⟩
theorem rs_yes (a b k : Nat) (ha : a < 256) (hk : k < 8) (h : b.testBit k = true) : bits BinOp.xor IntKind.i64 (rsum a b k : Int) (wrap64 ((a : Int) * 2 ^ k)) = (rsum a b (k + 1) : Int) := by
  have h1 := rsum_lt a b ha k (by omega)
  have h2 := Nat.mul_le_mul (show a ≤ 255 by omega) (pow2_le k hk)
  rw [wrap_pow a k (by omega) hk, i64_xor_nat _ _ (by omega) (by omega)]
  simp only [rsum, rterm, h, if_true]
theorem rs_no (a b k : Nat) (h : b.testBit k = false) : rsum a b k = rsum a b (k + 1) := by simp [rsum, rterm, h]
theorem rd_yes (n x : Nat) (hn : n + 1 ≤ 8) (hx : x < 65536) (h : (redTo (8 - (n + 1)) x).testBit (n + 1 + 7) = true) : bits BinOp.xor IntKind.i64 (redTo (8 - (n + 1)) x : Int) (wrap64 (285 * 2 ^ n)) = (redTo (8 - n) x : Int) := by
  have h1 := redTo_lt (8 - (n + 1)) x (by omega) hx
  have h2 := pow2_le n (by omega)
  have e := wrap_pow 285 n (by omega) (by omega)
  rw [show (((285 : Nat) : Int) * 2 ^ n) = 285 * 2 ^ n from rfl] at e
  rw [e, i64_xor_nat _ _ (by omega) (by omega)]
  have e2 : 8 - n = (8 - (n + 1)) + 1 := by omega
  rw [e2]
  simp only [redTo, rd1]
  rw [show 15 - (8 - (n + 1)) = n + 1 + 7 by omega, if_pos h, show n + 1 + 7 - 8 = n by omega]
theorem rd_no (n x : Nat) (hn : n + 1 ≤ 8) (h : (redTo (8 - (n + 1)) x).testBit (n + 1 + 7) = false) : redTo (8 - (n + 1)) x = redTo (8 - n) x := by
  have e2 : 8 - n = (8 - (n + 1)) + 1 := by omega
  rw [e2]
  simp only [redTo, rd1]
  rw [show 15 - (8 - (n + 1)) = n + 1 + 7 by omega, if_neg (by rw [h]; simp)]
set_option maxRecDepth 100000 in
theorem rmul_same (a b : Nat) (w : World) (ha : a < 256) (hb : b < 256) : Calls Try.prog 64 #[.int .u8 a, .int .u8 b] w fun e w' => e = .returned (.int .u8 (fm a b)) ∧ w = w' := by
  go_enter Try.func64, Try.ntmps64
  go_wp2
  go_loop [5, 6] (fun x i => ∃ k : Nat, k ≤ 8 ∧ i = .int .i64 k ∧ x = .int .i64 (rsum a b k)) (fun _ i => 8 - (intOf i).toNat)
  case atStart => exact ⟨0, by omega, rfl, rfl⟩
  case round =>
    obtain ⟨k, hk, rfl, rfl⟩ := hrel
    by_cases hk2 : k < 8
    · have hr := rsum_lt a b ha k (by omega)
      have hy := rs_yes a b k ha hk2
      have hn := rs_no a b k
      rw [← bit_u8 b k hb] at hy hn
      generalize rsum a b k = x at *
      have HY := Lib.hid hy
      have HN := Lib.hid hn
      clear hy hn
      go_wp2
      · go_round
        case rel => exact ⟨k + 1, by omega, by go_num, by rw [HY.out (by assumption)]⟩
        case measure => simp [intOf]; omega
      · go_round
        case rel => exact ⟨k + 1, by omega, by go_num, by rw [HN.out (by assumption)]⟩
        case measure => simp [intOf]; omega
    · obtain rfl : k = 8 := by omega
      go_wp2
      have hx := rsum_lt a b ha 8 (by omega)
      have hfm := red_rsum a b ha
      rw [← redTo_eight] at hfm
      have hfl := fm_lt a b ha
      generalize rsum a b 8 = x at *
      have HF := Lib.hid hfm
      clear hfm
      go_loop [5, 7] (fun y i => ∃ m : Nat, m ≤ 8 ∧ i = .int .i64 ((m : Int) + 7) ∧ y = .int .i64 (redTo (8 - m) x)) (fun _ i => (intOf i).toNat)
      case atStart => exact ⟨8, by omega, rfl, rfl⟩
      case round =>
        obtain ⟨m, hm, rfl, rfl⟩ := hrel
        rcases m with _ | n
        · go_wp2
          go_ret
          refine ⟨?_, rfl⟩
          have e : ((redTo 8 x : Nat) : Int) % 256 = (fm a b : Int) := by rw [HF.out]; omega
          rw [← e]; rfl
        · have hy := redTo_lt (8 - (n + 1)) x (by omega) (by omega)
          have hyy := rd_yes n x hm (by omega)
          have hyn := rd_no n x hm
          rw [← bit_i64 _ (n + 1 + 7) hy] at hyy hyn
          generalize redTo (8 - (n + 1)) x = y at *
          have HY := Lib.hid hyy
          have HN := Lib.hid hyn
          clear hyy hyn
          go_wp2
          · go_round
            case rel => exact ⟨n, by omega, by go_num, by rw [HY.out (by assumption)]⟩
            case measure => (simp [intOf]; try omega)
          · go_round
            case rel => exact ⟨n, by omega, by go_num, by rw [HN.out (by assumption)]⟩
            case measure => (simp [intOf]; try omega)
theorem rmul_any (a b : Nat) (w : World) (ha : a < 256) (hb : b < 256) : Calls Try.prog 64 #[.int .u8 a, .int .u8 b] w fun e w' => e = .returned (.int .u8 (fm a b)) ∧ Ext w w' :=
  (rmul_same a b w ha hb).mono fun _ _ h => ⟨h.1, by have := h.2; subst this; exact Ext.refl _⟩
end Go.Proofs.Ytjdppgogdilgkaa
end
section
namespace Go.Proofs.Ytjdppgogdilgkaa
open Go.RowKit Go.Gf
theorem u8_xor (a b : Nat) (ha : a < 256) (hb : b < 256) : bits .xor .u8 (a : Int) (b : Int) = ((a ^^^ b : Nat) : Int) := by
  have hx : a ^^^ b < 2 ^ 8 := Nat.xor_lt_two_pow (by omega) (by omega)
  have h1 : ∀ a : Nat, a < 256 → (BitVec.ofInt 8 (a : Int)).toNat = a := fun a ha => by
    rw [BitVec.ofInt_natCast, BitVec.toNat_ofNat]; exact Nat.mod_eq_of_lt (by omega)
  show IntKind.u8.wrap ((BitVec.ofInt 8 (a : Int) ^^^ BitVec.ofInt 8 (b : Int)).toNat : Int) = _
  rw [BitVec.toNat_xor, h1 a ha, h1 b hb]
  simp [IntKind.wrap, IntKind.bits, IntKind.signed]; omega
def invV (a : Nat) : Nat := if a = 0 then 0 else fi a
def invE (a : Nat) : Int := if a = 0 then 40 else 0
theorem invV_lt (a : Nat) : invV a < 256 := by unfold invV; split; omega; exact (fi_bd a).2
theorem inv_any (a : Nat) (w : World) (ha : a < 256) : Calls Try.prog 50 #[.int .u8 a] w fun e w' => e = .returned (.tuple #[.int .u8 (invV a), .int .i64 (invE a)]) ∧ Ext w w' := by
  by_cases h : a = 0
  · subst h; exact inv_zero w
  · unfold invV invE; rw [if_neg h, if_neg h]; exact inv_ne a w ha h
theorem fi_uni (a b : Nat) (ha : a < 256) (hb : b < 256) (a0 : a ≠ 0) (h : fm a b = 1) : b = fi a := by
  have hf := (fi_bd a).2
  have h1 : fm (fm (fi a) a) b = b := by rw [fm_comm (fi a) a hf ha, fm_fi a ha a0, fm_comm 1 b (by omega) hb, fm_one_r]
  rw [fm_assoc _ _ _ hf ha hb, h, fm_one_r] at h1
  exact h1.symm
set_option maxRecDepth 100000 in
theorem rinv_any (a : Nat) (w : World) (ha : a < 256) : Calls Try.prog 63 #[.int .u8 a] w fun e w' => e = .returned (.tuple #[.int .u8 (invV a), .int .i64 (invE a)]) ∧ Ext w w' := by
  have h0 : a = 0 → invV a = 0 ∧ invE a = 40 := fun h => by simp [invV, invE, h]
  have h1 : a ≠ 0 → invV a = fi a ∧ invE a = 0 := fun h => by simp [invV, invE, h]
  have H0 := Lib.hid h0
  have H1 := Lib.hid h1
  clear h0 h1
  go_enter Try.func63, Try.ntmps63
  go_wp2
  go_loopw [4] (fun i wr => ∃ k : Nat, 1 ≤ k ∧ k ≤ 256 ∧ i = .int .i64 k ∧ (∀ c, 1 ≤ c → c < k → fm a c ≠ 1) ∧ Ext w wr) (fun i _ => 256 - (intOf i).toNat)
  case atStart => exact ⟨1, by omega, by omega, rfl, fun c h1 h2 => by omega, Ext.refl _⟩
  case round =>
    obtain ⟨k, hk1, hk, rfl, hno, hE⟩ := hrel
    have HNO := Lib.hid hno
    clear hno
    by_cases hk2 : k < 256
    · have hfl := fm_lt a k ha
      by_cases hf : fm a k = 1
      · have hz : a ≠ 0 := fun h => by subst h; rw [fm_zero_l] at hf; omega
        have hu := fi_uni a k ha hk2 hz hf
        have hv := (H1.out hz).1
        have he := (H1.out hz).2
        have HU := Lib.hid hu
        have HV := Lib.hid hv
        have HE := Lib.hid he
        have hq : ((fm a k : Int) == 1) = true := by rw [hf]; rfl
        clear hu hv he hf hz
        go_wp2_with (go_at_call 64; refine (rmul_any a k _ ha hk2).mono ?_; rintro e w1 ⟨rfl, hE1⟩)
        go_ret2
        exact ⟨by rw [HV.out, HE.out, ← HU.out]; rfl, hE.trans hE1⟩
      · have hq : ((fm a k : Int) == 1) = false := by simp; omega
        have HF := Lib.hid hf
        clear hf
        go_wp2_with (go_at_call 64; refine (rmul_any a k _ ha hk2).mono ?_; rintro e w1 ⟨rfl, hE1⟩)
        go_roundw
        case rel => exact ⟨k + 1, by omega, by omega, by go_num, fun c h1 h2 => by
          rcases Nat.lt_or_ge c k with h | h
          · exact HNO.out c h1 h
          · have : c = k := by omega
            subst this; exact HF.out, hE.trans hE1⟩
        case measure => simp [intOf]; omega
    · obtain rfl : k = 256 := by omega
      have hz : a = 0 := by
        by_cases h : a = 0
        · exact h
        · exact absurd (fm_fi a ha h) (HNO.out (fi a) (fi_bd a).1 (fi_bd a).2)
      have hv := (H0.out hz).1
      have he := (H0.out hz).2
      have HV := Lib.hid hv
      have HE := Lib.hid he
      clear hv he hz
      go_wp2
      go_ret2
      exact ⟨by rw [HV.out, HE.out]; rfl, hE⟩
theorem add_any (a b : Nat) (w : World) (ha : a < 256) (hb : b < 256) : Calls Try.prog 62 #[.int .u8 a, .int .u8 b] w fun e w' => e = .returned (.int .u8 (a ^^^ b : Nat)) ∧ Ext w w' := by
  have hx := u8_xor a b ha hb
  go_enter Try.func62, Try.ntmps62
  go_wp2
  go_ret
  exact ⟨rfl, Ext.refl _⟩
def divV (a b : Nat) : Nat := fm a (invV b)
end Go.Proofs.Ytjdppgogdilgkaa
end
section
namespace Go.Proofs.Ytjdppgogdilgkaa
open Go.RowKit Go.Gf
def addP (c : Nat) (s : ByteArray) (k : Nat) (f : Nat → Nat) (i : Nat) : Nat := if i < k then f i ^^^ fm c (bn s i) else f i
set_option maxRecDepth 100000 in
theorem plus_any (g n cap : Nat) (c : Nat) (s : ByteArray) (g1 g2 : Nat) (f : Nat → Nat) (w : World) (hb : Blk w g 5 (tabA n (u8c f))) (hT : Tabs w g1 g2) (hn : s.size = n) (hz : n ≤ 1048576) (hc : c < 256) (hf : ∀ i, f i < 256) :
    Calls Try.prog 60 #[.slice (some ⟨g, 0, none⟩) n cap, .int .u8 c, .string s, .pointer (some ⟨g1, 0, none⟩), .pointer (some ⟨g2, 0, none⟩)] w fun e w' =>
      e = .returned (.tuple #[]) ∧ OnlyB g w w' ∧ Blk w' g 5 (tabA n (u8c (addP c s n f))) := by
  subst hn
  have gl := hb.lt
  have gl1 := hT.1.lt
  have gl2 := hT.2.lt
  have ne1 : g1 ≠ g := hT.1.ne_ hb (by decide)
  have ne2 : g2 ≠ g := hT.2.ne_ hb (by decide)
  go_enter Try.func60, Try.ntmps60
  go_wp2_with (with_reducible refine wpList_str_bytes rfl 9 41 5 _ rfl Try.underlying9 Try.underlying41 Try.underlying5 s rfl ?_; intro C w2 hC hCb hCc hB2 hsz2)
  have hb2 := hb.ext hB2
  have hT2 := hT.ext hB2
  have hO2 : OnlyB g w w2 := (OnlyB.refl g w).ext hB2
  have ne3 : w.heap.size ≠ g := by omega
  generalize w.heap.size = gc at *
  clear hb hT hB2 hsz2
  go_loopw [15] (fun i wr => ∃ k : Nat, k ≤ s.size ∧ i = .int .i64 k ∧ OnlyB g w2 wr ∧ Blk wr g 5 (tabA s.size (u8c (addP c s k f)))) (fun i _ => s.size - (intOf i).toNat)
  case atStart => exact ⟨0, by omega, rfl, OnlyB.refl _ _, by rw [tabA_congr s.size (u8c (addP c s 0 f)) (u8c f) (fun i _ => by simp [u8c, addP])]; exact hb2⟩
  case round =>
    obtain ⟨k, hk, rfl, hO, hb⟩ := hrel
    by_cases hk2 : k < s.size
    · have cb : wr.cell? ⟨gc, k, none⟩ = some (.int .u8 (bn s k)) := by rw [(hO.blkM hCb ne3).cell, hCc k hk2]; rfl
      have hbn := bn_lt s k
      have hfk : addP c s k f k = f k := by simp [addP]
      have hsame : fm c (bn s k) = 0 → tabA s.size (u8c (addP c s (k + 1) f)) = tabA s.size (u8c (addP c s k f)) := fun h0 => tabA_congr _ _ _ (fun i _ => by
        unfold u8c addP
        by_cases e : i = k
        · subst e; rw [if_pos (by omega), if_neg (by omega), h0, Nat.xor_zero]
        · by_cases h1 : i < k
          · rw [if_pos (by omega), if_pos h1]
          · rw [if_neg (by omega), if_neg h1])
      by_cases c0 : c = 0
      · have hs := hsame (by rw [c0, fm_zero_l])
        have hq : ((c : Int) != 0) = false := by rw [c0]; rfl
        have HS := Lib.hid hs
        clear hs hsame c0 hfk
        go_wp2
        go_roundw
        case rel => exact ⟨k + 1, by omega, by go_num, hO, by rw [HS.out]; exact hb⟩
        case measure => simp [intOf]; omega
      have hq1 : ((c : Int) != 0) = true := by simp; omega
      by_cases b0 : bn s k = 0
      · have hs := hsame (by rw [b0, fm_zero_r])
        have hq : ((bn s k : Int) != 0) = false := by rw [b0]; rfl
        have HS := Lib.hid hs
        clear hs hsame b0 hfk c0
        go_wp2
        go_roundw
        case rel => exact ⟨k + 1, by omega, by go_num, hO, by rw [HS.out]; exact hb⟩
        case measure => simp [intOf]; omega
      have hq2 : ((bn s k : Int) != 0) = true := by simp; omega
      have hcg : wr.cell? ⟨g, k, none⟩ = some (.int .u8 (f k)) := by rw [hb.cell, tabA_at _ _ _ hk2, u8c, hfk]
      have hfr := hb.frozen k
      have hset := tabA_set s.size (u8c (addP c s k f)) (u8c (addP c s (k + 1) f)) k (.int .u8 ((f k ^^^ px (lg c + lg (bn s k)) : Nat) : Int)) hk2 (fun i _ => by
        unfold u8c addP
        by_cases e : i = k
        · subst e; rw [if_pos (by omega), if_pos rfl, fm_log c (bn s i) hc hbn c0 b0]
        · rw [if_neg e]
          by_cases h1 : i < k
          · rw [if_pos (by omega), if_pos h1]
          · rw [if_neg (by omega), if_neg h1])
      have HSET := Lib.hid hset
      have l1 := lg_lt c hc
      have l2 := lg_lt (bn s k) hbn
      have hTr : Tabs wr g1 g2 := ⟨hO.blk hT2.1 ne1, hO.blk hT2.2 ne2⟩
      have c1 := hTr.lt c hc
      have c2 := hTr.lt (bn s k) hbn
      have c3 := hTr.pt (lg c + lg (bn s k)) (by omega)
      have hx := u8_xor (f k) (px (lg c + lg (bn s k))) (hf k) (px_bd _).2
      have k1 : (c : Int) < 256 := by omega
      have k2 : (bn s k : Int) < 256 := by omega
      have k3 : IntKind.i64.wrap ((lg c : Int) + (lg (bn s k) : Int)) = (lg c : Int) + (lg (bn s k) : Int) := IntWalk.i64_in _ (by omega)
      have k4 : (lg c : Int) + (lg (bn s k) : Int) < 510 := by omega
      have k5 : 0 ≤ (lg c : Int) + (lg (bn s k) : Int) := by omega
      have k6 : ((lg c : Int) + (lg (bn s k) : Int)).toNat = lg c + lg (bn s k) := by omega
      have k7 : (k : Int) < (s.size : Int) := by omega
      clear hset hsame c0 b0 hfk hTr
      go_wp2_with fail
      go_still_tail 21, (by kernel_rfl)
      go_wp2
      go_roundw
      case rel => exact ⟨k + 1, by omega, by go_num, (hO.setCell _ _).drew, by rw [← HSET.out]; exact hb.set_ _ _⟩
      case measure => simp [intOf]; omega
    · obtain rfl : k = s.size := by omega
      go_wp2
      go_end0
      exact ⟨rfl, hO2.trans hO, hb⟩
end Go.Proofs.Ytjdppgogdilgkaa
end
section
namespace Go.Proofs.Ytjdppgogdilgkaa
open Go.RowKit Go.Gf
theorem info5 : (Try.prog.info? 5).map (fun i => (i.zero, i.size, i.bytes)) = some (some (.int .u8 0), 1, 1) := by kernel_rfl
def timesT (c : Nat) (s : ByteArray) : ByteArray := strN s.size (fun i => fm c (bn s i))
theorem timesT_size (c : Nat) (s : ByteArray) : (timesT c s).size = s.size := strN_size _ _
theorem bn_timesT (c : Nat) (s : ByteArray) (i : Nat) (hc : c < 256) (hi : i < s.size) : bn (timesT c s) i = fm c (bn s i) := bn_strN _ _ i hi (fm_lt _ _ hc)
theorem cells_str {w : World} {g n : Nat} {f : Nat → Nat} (hb : Blk w g 5 (tabA n (u8c f))) (hf : ∀ i, i < n → f i < 256) : ∀ j, j < n → w.cell? ⟨g, 0 + j, none⟩ = some (.int .u8 (bt (strN n f) j)) := by
  intro j hj
  rw [Nat.zero_add, hb.cell, tabA_at _ _ _ hj, bt_bn, bn_strN n f j hj (hf j hj)]; rfl
set_option maxRecDepth 100000 in
theorem times_any (c : Nat) (s : ByteArray) (w : World) (hc : c < 256) (hz : s.size ≤ 1048576) :
    Calls Try.prog 51 #[.int .u8 c, .string s] w fun e w' => e = .returned (.string (timesT c s)) ∧ Ext w w' := by
  obtain ⟨i0, hi0, hz0, hz1, hz2⟩ := info_parts info5
  go_enter Try.func51, Try.ntmps51
  go_wp2_with (first
    | (go_at_call 59; refine (tables_any _).mono ?_; rintro e w1 ⟨rfl, hE1⟩)
    | (with_reducible refine wpList_alloc_big rfl 103 rfl Z103 zero103 ?_)
    | (with_reducible refine wpList_alloc_at rfl 104 rfl Z104 zero104 (w1.heap.size + 1) (by simp) ?_)
    | (refine wpList_store_big rfl 103 _ _ rfl w1.heap.size 103 Z103 ptL.toArray rfl rfl (blkA _) sizeA i1 oneA ?_)
    | (refine wpList_store_big rfl 104 _ _ rfl (w1.heap.size + 1) 104 Z104 ltL.toArray rfl rfl (blkB _) sizeB i2 oneB ?_; obtain ⟨wt, hwt, hE2, hT, hs⟩ := tabs_new w1; rw [hwt]; clear hwt hs; have hE := hE1.trans hE2; clear hE1 hE2; generalize w1.heap.size = g at *)
    | (at_make; refine wpList_make_tab rfl _ _ 41 rfl 5 i0 (.int .u8 0) Try.underlying41 hi0 hz0 hz1 rfl _ _ s.size rfl rfl (by rw [hz2]; omega) (by omega) ?_))
  have hb : Blk (wt.alloc (.cells (tabA s.size (fun _ => Value.int .u8 0)) 5)) wt.heap.size 5 (tabA s.size (u8c (fun _ => 0))) := Blk.new _ _ _
  have hT' := hT.ext ((Ext.refl wt).alloc (.cells (tabA s.size (fun _ => Value.int .u8 0)) 5))
  have hE' := hE.alloc (.cells (tabA s.size (fun _ => Value.int .u8 0)) 5)
  have hgw : w.heap.size ≤ wt.heap.size := hE.sz
  generalize wt.alloc (.cells (tabA s.size (fun _ => Value.int .u8 0)) 5) = wb at *
  generalize wt.heap.size = gb at *
  clear hT hE
  refine (plus_any gb s.size s.size c s g (g + 1) (fun _ => 0) wb hb hT' rfl hz hc (by intro i; omega)).mono ?_
  rintro e w3 ⟨rfl, hO3, hb3⟩
  have hb4 : Blk w3 gb 5 (tabA s.size (u8c (fun i => fm c (bn s i)))) := by
    rw [← tabA_congr s.size (u8c (addP c s s.size (fun _ => 0))) (u8c (fun i => fm c (bn s i))) (fun i hi => by unfold u8c addP; rw [if_pos hi, Nat.zero_xor])]; exact hb3
  have hcs : ∀ j, j < s.size → w3.cell? ⟨gb, 0 + j, none⟩ = some (.int .u8 (bt (timesT c s) j)) := cells_str hb4 (fun i _ => fm_lt _ _ hc)
  have HCS := Lib.hid hcs
  clear hb3 hb4 hb hT' hcs
  go_wp2_with (with_reducible refine wpList_bytes_str rfl 41 9 5 _ rfl Try.underlying41 Try.underlying5 Try.underlying9 gb 0 s.size s.size rfl (timesT c s) (timesT_size c s) HCS.out ?_)
  go_ret
  exact ⟨rfl, hE'.only hgw hO3⟩
end Go.Proofs.Ytjdppgogdilgkaa
end
section
namespace Go.Proofs.Ytjdppgogdilgkaa
open Go.RowKit Go.Gf
def acc (c : ByteArray) (l : List ByteArray) : Nat → Nat → Nat
  | 0, _ => 0
  | k + 1, i => acc c l k i ^^^ fm (bn c k) (bn (l.getD k { data := #[] }) i)
theorem acc_lt (c : ByteArray) (l : List ByteArray) (k i : Nat) : acc c l k i < 256 := by
  induction k with
  | zero => simp [acc]
  | succ k ih => exact x8 ih (fm_lt _ _ (bn_lt _ _))
def len0 (l : List ByteArray) : Nat := (l.getD 0 { data := #[] }).size
def SumOk (c : ByteArray) (l : List ByteArray) : Prop := c.size = l.length ∧ ∀ s ∈ l, s.size = len0 l
open Classical in
noncomputable def sumV (c : ByteArray) (l : List ByteArray) : ByteArray := if SumOk c l then strN (len0 l) (acc c l l.length) else { data := #[] }
open Classical in
noncomputable def sumE (c : ByteArray) (l : List ByteArray) : Int := if SumOk c l then 0 else 2
theorem sum_yes (c : ByteArray) (l : List ByteArray) (h : SumOk c l) : sumV c l = strN (len0 l) (acc c l l.length) ∧ sumE c l = 0 := by
  unfold sumV sumE; rw [if_pos h, if_pos h]; exact ⟨rfl, rfl⟩
theorem sum_no (c : ByteArray) (l : List ByteArray) (h : ¬ SumOk c l) : sumV c l = { data := #[] } ∧ sumE c l = 2 := by
  unfold sumV sumE; rw [if_neg h, if_neg h]; exact ⟨rfl, rfl⟩
theorem strN_zero (f : Nat → Nat) : strN 0 f = { data := #[] } := rfl
theorem ret_tup {s t : ByteArray} {a b : Int} {k : IntKind} (h1 : s = t) (h2 : a = b) : Ending.returned (.tuple #[.string s, .int k a]) = Ending.returned (.tuple #[.string t, .int k b]) := by rw [h1, h2]
set_option maxRecDepth 100000 in
theorem sum_any (c : ByteArray) (A : Option Addr) (n cap : Nat) (l : List ByteArray) (w : World) (hr : Rd w A n (l.map Value.string)) (hn : n ≤ 1048576) (_hc : c.size ≤ 1048576) (hz : ∀ s ∈ l, s.size ≤ 1048576) :
    Calls Try.prog 40 #[.string c, .slice A n cap] w fun e w' => e = .returned (.tuple #[.string (sumV c l), .int .i64 (sumE c l)]) ∧ Ext w w' := by
  have hlen : l.length = n := by have := hr.1; simpa using this
  have HY := Lib.hid (sum_yes c l)
  have HN := Lib.hid (sum_no c l)
  by_cases h1 : c.size = n
  · by_cases h2 : n = 0
    · have h3 : SumOk c l := ⟨by omega, fun s hs => by have := List.length_pos_of_mem hs; omega⟩
      have hl : l = [] := List.eq_nil_of_length_eq_zero (by omega)
      have hv : sumV c l = { data := #[] } ∧ sumE c l = 0 := by
        rw [(HY.out h3).1, (HY.out h3).2]; subst hl; exact ⟨rfl, rfl⟩
      have HV := Lib.hid hv
      have e1 : ((c.size : Int) != (n : Int)) = false := by rw [h1]; simp
      have e2 : ((n : Int) == 0) = true := by rw [h2]; rfl
      clear h1 h2 h3 hl hv HY HN hlen hr hz
      go_enter Try.func40, Try.ntmps40
      go_wp2
      go_ret2
      exact ⟨(ret_tup HV.out.1 HV.out.2).symm, Ext.refl _⟩
    · have e1 : ((c.size : Int) != (n : Int)) = false := by rw [h1]; simp
      have e2 : ((n : Int) == 0) = false := by simp; omega
      obtain ⟨i0, hi0, hz0, hz1, hz2⟩ := info_parts info5
      obtain ⟨gs, os, rfl, hgs, hcell⟩ := hr.at_ (show 0 < n by omega)
      have hl0 : len0 l = (l[0]'(by omega)).size := by unfold len0; rw [List.getD_eq_getElem?_getD, List.getElem?_eq_getElem (by omega)]; rfl
      have hz00 := hz (l[0]'(by omega)) (List.getElem_mem _)
      simp only [List.getElem_map, Nat.add_zero] at hcell
      generalize l[0]'(by omega) = s0 at *
      have HL0 := Lib.hid hl0
      have HLEN := Lib.hid hlen
      have HC := Lib.hid h1
      clear hl0 hlen h1
      go_enter Try.func40, Try.ntmps40
      go_wp2_with (first
        | (go_at_call 59; refine (tables_any _).mono ?_; rintro e w1 ⟨rfl, hE1⟩)
        | (with_reducible refine wpList_alloc_big rfl 103 rfl Z103 zero103 ?_)
        | (with_reducible refine wpList_alloc_at rfl 104 rfl Z104 zero104 (w1.heap.size + 1) (by simp) ?_)
        | (refine wpList_store_big rfl 103 _ _ rfl w1.heap.size 103 Z103 ptL.toArray rfl rfl (blkA _) sizeA i1 oneA ?_)
        | (refine wpList_store_big rfl 104 _ _ rfl (w1.heap.size + 1) 104 Z104 ltL.toArray rfl rfl (blkB _) sizeB i2 oneB ?_; obtain ⟨wt, hwt, hE2, hT, hs⟩ := tabs_new w1; rw [hwt]; clear hwt hs; have hE := hE1.trans hE2; clear hE1 hE2; generalize w1.heap.size = g at *; have hcw := hE.cellv hcell)
        | (at_make; refine wpList_make_tab rfl _ _ 41 rfl 5 i0 (.int .u8 0) Try.underlying41 hi0 hz0 hz1 rfl _ _ s0.size rfl rfl (by rw [hz2]; omega) (by omega) ?_))
      have hb : Blk (wt.alloc (.cells (tabA s0.size (fun _ => Value.int .u8 0)) 5)) wt.heap.size 5 (tabA s0.size (u8c (acc c l 0))) := Blk.new _ _ _
      have hT' := hT.ext ((Ext.refl wt).alloc (.cells (tabA s0.size (fun _ => Value.int .u8 0)) 5))
      have hE' := hE.alloc (.cells (tabA s0.size (fun _ => Value.int .u8 0)) 5)
      have hgw : w.heap.size ≤ wt.heap.size := hE.sz
      have ng1 : g ≠ wt.heap.size := by have := hT.1.lt; omega
      have ng2 : g + 1 ≠ wt.heap.size := by have := hT.2.lt; omega
      generalize wt.alloc (.cells (tabA s0.size (fun _ => Value.int .u8 0)) 5) = wb at *
      generalize wt.heap.size = gb at *
      clear hT hE hcw hcell
      go_loopw [30] (fun i wr => ∃ k : Nat, k ≤ n ∧ i = .int .i64 k ∧ Ext w wr ∧ Tabs wr g (g + 1) ∧ Blk wr gb 5 (tabA s0.size (u8c (acc c l k))) ∧ ∀ s ∈ l.take k, s.size = s0.size) (fun i _ => n - (intOf i).toNat)
      case atStart => exact ⟨0, by omega, rfl, hE', hT', hb, by simp⟩
      case round =>
        obtain ⟨k, hk, rfl, hE, hT, hb, hall⟩ := hrel
        have HALL := Lib.hid hall
        clear hall hE' hT'
        by_cases hk2 : k < n
        · have hL := HLEN.out
          obtain ⟨gs', os', hA, hgs', hcell⟩ := (hr.ext hE).at_ hk2
          simp only [Option.some.injEq, Addr.mk.injEq, and_true] at hA
          obtain ⟨rfl, rfl⟩ := hA
          simp only [List.getElem_map] at hcell
          have hmem := List.getElem_mem (l := l) (n := k) (by omega)
          have hget : l.getD k { data := #[] } = l[k]'(by omega) := by rw [List.getD_eq_getElem?_getD, List.getElem?_eq_getElem (by omega)]; rfl
          have htk : l.take (k + 1) = l.take k ++ [l[k]'(by omega)] := List.take_succ_eq_append_getElem (by omega)
          have hzk := hz _ hmem
          generalize l[k]'(by omega) = sk at *
          have HM := Lib.hid hmem
          have HG := Lib.hid hget
          have HTK := Lib.hid htk
          have hck := bt_get c k (by rw [HC.out]; exact hk2)
          rw [bt_bn] at hck
          have hcn : (k : Int) < (c.size : Int) := by rw [HC.out]; omega
          clear hmem hget htk hL
          by_cases hs : sk.size = s0.size
          · have e3 : ((sk.size : Int) != (s0.size : Int)) = false := by rw [hs]; simp
            have HS := Lib.hid hs
            clear hs
            go_wp2_with (go_at_call 60; refine (plus_any gb s0.size s0.size (bn c k) sk g (g + 1) (acc c l k) _ hb hT HS.out (by omega) (bn_lt _ _) (acc_lt c l k)).mono ?_; rintro e w3 ⟨rfl, hO3, hb3⟩)
            go_roundw
            case rel => exact ⟨k + 1, by omega, by go_num, hE.only hgw hO3, ⟨hO3.blk hT.1 ng1, hO3.blk hT.2 ng2⟩, by
              rw [← tabA_congr s0.size (u8c (addP (bn c k) sk s0.size (acc c l k))) (u8c (acc c l (k + 1))) (fun i hi => by unfold u8c addP; rw [if_pos hi, acc, HG.out])]; exact hb3, fun s h => by
              rw [HTK.out, List.mem_append, List.mem_singleton] at h
              rcases h with h | h
              · exact HALL.out s h
              · rw [h]; exact HS.out⟩
            case measure => simp [intOf]; omega
          · have h3 : ¬ SumOk c l := fun h => hs (by rw [h.2 sk HM.out, HL0.out])
            have HV := Lib.hid (HN.out h3)
            have e3 : ((sk.size : Int) != (s0.size : Int)) = true := by simp; omega
            clear hs h3
            go_wp2
            go_ret2
            exact ⟨(ret_tup HV.out.1 HV.out.2).symm, hE⟩
        · obtain rfl : k = n := by omega
          have h3 : SumOk c l := ⟨by rw [HC.out, HLEN.out], fun s h => by rw [HL0.out]; exact HALL.out s (by rw [List.take_of_length_le (by rw [HLEN.out]; omega)]; exact h)⟩
          have hv := HY.out h3
          rw [HL0.out, HLEN.out] at hv
          have HV := Lib.hid hv
          have hcs : ∀ j, j < s0.size → wr.cell? ⟨gb, 0 + j, none⟩ = some (.int .u8 (bt (strN s0.size (acc c l k)) j)) := cells_str hb (fun i _ => acc_lt c l k i)
          have HCS := Lib.hid hcs
          clear hcs hv h3
          go_wp2_with (with_reducible refine wpList_bytes_str rfl 41 9 5 _ rfl Try.underlying41 Try.underlying5 Try.underlying9 gb 0 s0.size s0.size rfl (strN s0.size (acc c l k)) (strN_size _ _) HCS.out ?_)
          go_ret2
          exact ⟨(ret_tup HV.out.1 HV.out.2).symm, hE⟩
  · have h3 : ¬ SumOk c l := fun h => h1 (by rw [h.1]; exact hlen)
    have HV := Lib.hid (HN.out h3)
    have e1 : ((c.size : Int) != (n : Int)) = true := by simp; omega
    clear h1 h3 HY HN hlen hr hz
    go_enter Try.func40, Try.ntmps40
    go_wp2
    go_ret2
    exact ⟨(ret_tup HV.out.1 HV.out.2).symm, Ext.refl _⟩
end Go.Proofs.Ytjdppgogdilgkaa
end
