import Derived.Test.YtbmemogajgbdgaaB5
import Derived.StillTailTactics
namespace Go.Proofs.Ytbmemogajgbdgaa
open Go.RowKit Go.Gf
/-- Bytes, with a text's product with an element added to the first k. -/
def addP (c : Nat) (s : ByteArray) (k : Nat) (f : Nat → Nat) (i : Nat) : Nat := if i < k then f i ^^^ fm c (bn s i) else f i
set_option maxRecDepth 100000 in
theorem plus_any (g n cap : Nat) (c : Nat) (s : ByteArray) (g1 g2 : Nat) (f : Nat → Nat) (w : World) (hb : Blk w g 5 (tabA n (u8c f))) (hT : Tabs w g1 g2) (hn : s.size = n) (hz : n ≤ 1048576) (hc : c < 256) (hf : ∀ i, f i < 256) :
    Calls Try.prog 41 #[.slice (some ⟨g, 0, none⟩) n cap, .int .u8 c, .string s, .pointer (some ⟨g1, 0, none⟩), .pointer (some ⟨g2, 0, none⟩)] w fun e w' =>
      e = .returned (.tuple #[]) ∧ OnlyB g w w' ∧ Blk w' g 5 (tabA n (u8c (addP c s n f))) := by
  subst hn
  have gl := hb.lt
  have gl1 := hT.1.lt
  have gl2 := hT.2.lt
  have ne1 : g1 ≠ g := hT.1.ne_ hb (by decide)
  have ne2 : g2 ≠ g := hT.2.ne_ hb (by decide)
  go_enter Try.func41, Try.ntmps41
  go_wp2_with (with_reducible refine wpList_str_bytes rfl 9 43 5 _ rfl Try.underlying9 Try.underlying43 Try.underlying5 s rfl ?_; intro C w2 hC hCb hCc hB2 hsz2)
  have hb2 := hb.ext hB2
  have hT2 := hT.ext hB2
  have hO2 : OnlyB g w w2 := (OnlyB.refl g w).ext hB2
  have ne3 : w.heap.size ≠ g := by omega
  generalize w.heap.size = gc at *
  clear hb hT hB2 hsz2
  go_loopw [15] (fun i wr => ∃ k : Nat, k ≤ s.size ∧ i = .int .i64 k ∧ OnlyB g w2 wr ∧ Blk wr g 5 (tabA s.size (u8c (addP c s k f)))) (fun i _ => s.size - (intOf i).toNat)
  case atStart => exact ⟨0, by omega, rfl, OnlyB.refl _ _, by rw [tabA_congr s.size (u8c (addP c s 0 f)) (u8c f) (fun i _ => by simp [u8c, addP])]; exact hb2⟩
  case round =>
    obtain ⟨k, hk, rfl, hO, hb⟩ := hrel
    by_cases hk2 : k < s.size
    · have cb : wr.cell? ⟨gc, k, none⟩ = some (.int .u8 (bn s k)) := by rw [(hO.blkM hCb ne3).cell, hCc k hk2]; rfl
      have hbn := bn_lt s k
      have hfk : addP c s k f k = f k := by simp [addP]
      have hsame : fm c (bn s k) = 0 → tabA s.size (u8c (addP c s (k + 1) f)) = tabA s.size (u8c (addP c s k f)) := fun h0 => tabA_congr _ _ _ (fun i _ => by
        unfold u8c addP
        by_cases e : i = k
        · subst e; rw [if_pos (by omega), if_neg (by omega), h0, Nat.xor_zero]
        · by_cases h1 : i < k
          · rw [if_pos (by omega), if_pos h1]
          · rw [if_neg (by omega), if_neg h1])
      by_cases c0 : c = 0
      · have hs := hsame (by rw [c0, fm_zero_l])
        have hq : ((c : Int) != 0) = false := by rw [c0]; rfl
        have HS := Lib.hid hs
        clear hs hsame c0 hfk
        go_wp2
        go_roundw
        case rel => exact ⟨k + 1, by omega, by go_num, hO, by rw [HS.out]; exact hb⟩
        case measure => simp [intOf]; omega
      have hq1 : ((c : Int) != 0) = true := by simp; omega
      by_cases b0 : bn s k = 0
      · have hs := hsame (by rw [b0, fm_zero_r])
        have hq : ((bn s k : Int) != 0) = false := by rw [b0]; rfl
        have HS := Lib.hid hs
        clear hs hsame b0 hfk c0
        go_wp2
        go_roundw
        case rel => exact ⟨k + 1, by omega, by go_num, hO, by rw [HS.out]; exact hb⟩
        case measure => simp [intOf]; omega
      have hq2 : ((bn s k : Int) != 0) = true := by simp; omega
      have hcg : wr.cell? ⟨g, k, none⟩ = some (.int .u8 (f k)) := by rw [hb.cell, tabA_at _ _ _ hk2, u8c, hfk]
      have hfr := hb.frozen k
      have hset := tabA_set s.size (u8c (addP c s k f)) (u8c (addP c s (k + 1) f)) k (.int .u8 ((f k ^^^ px (lg c + lg (bn s k)) : Nat) : Int)) hk2 (fun i _ => by
        unfold u8c addP
        by_cases e : i = k
        · subst e; rw [if_pos (by omega), if_pos rfl, fm_log c (bn s i) hc hbn c0 b0]
        · rw [if_neg e]
          by_cases h1 : i < k
          · rw [if_pos (by omega), if_pos h1]
          · rw [if_neg (by omega), if_neg h1])
      have HSET := Lib.hid hset
      have l1 := lg_lt c hc
      have l2 := lg_lt (bn s k) hbn
      have hTr : Tabs wr g1 g2 := ⟨hO.blk hT2.1 ne1, hO.blk hT2.2 ne2⟩
      have c1 := hTr.lt c hc
      have c2 := hTr.lt (bn s k) hbn
      have c3 := hTr.pt (lg c + lg (bn s k)) (by omega)
      have hx := u8_xor (f k) (px (lg c + lg (bn s k))) (hf k) (px_bd _).2
      have k1 : (c : Int) < 256 := by omega
      have k2 : (bn s k : Int) < 256 := by omega
      have k3 : IntKind.i64.wrap ((lg c : Int) + (lg (bn s k) : Int)) = (lg c : Int) + (lg (bn s k) : Int) := IntWalk.i64_in _ (by omega)
      have k4 : (lg c : Int) + (lg (bn s k) : Int) < 510 := by omega
      have k5 : 0 ≤ (lg c : Int) + (lg (bn s k) : Int) := by omega
      have k6 : ((lg c : Int) + (lg (bn s k) : Int)).toNat = lg c + lg (bn s k) := by omega
      have k7 : (k : Int) < (s.size : Int) := by omega
      clear hset hsame c0 b0 hfk hTr
      go_wp2_with fail
      go_still_tail 21, (by kernel_rfl)
      go_wp2
      go_roundw
      case rel => exact ⟨k + 1, by omega, by go_num, (hO.setCell _ _).drew, by rw [← HSET.out]; exact hb.set_ _ _⟩
      case measure => simp [intOf]; omega
    · obtain rfl : k = s.size := by omega
      go_wp2
      go_end0
      exact ⟨rfl, hO2.trans hO, hb⟩
