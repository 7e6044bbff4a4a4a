import Derived.Test.YtjmkbdbjefcfmaaC4
namespace Go.Proofs.Ytjmkbdbjefcfmaa
open Go.RowKit Go.Gf
/-- What long tells. -/
def LongIs (n : Nat) (l : List ByteArray) (e : Ending) : Prop := ∃ B : Bool, e = .returned (.bool B) ∧ (B = false → n ≤ 40 ∧ ∀ s ∈ l, s.size ≤ 512)
set_option maxRecDepth 100000 in
theorem long_any (A : Option Addr) (n cap : Nat) (l : List ByteArray) (w : World) (hr : Rd w A n (l.map Value.string)) :
    Calls Try.prog 8 #[.slice A n cap] w fun e w' => LongIs n l e ∧ Ext w w' := by
  have hlen : l.length = n := by have := hr.1; simpa using this
  by_cases h : 40 < n
  · have e1 : (40 : Int) < (n : Int) := by omega
    go_enter Try.func8, Try.ntmps8
    go_wp2
    go_ret
    exact ⟨⟨true, rfl, by simp⟩, Ext.refl _⟩
  · have e1 : ¬ (40 : Int) < (n : Int) := by omega
    go_enter Try.func8, Try.ntmps8
    go_wp2
    go_loopw [3] (fun i wr => ∃ k : Nat, k ≤ n ∧ i = .int .i64 k ∧ (∀ s ∈ l.take k, s.size ≤ 512) ∧ Ext w wr) (fun i _ => n - (intOf i).toNat)
    case atStart => exact ⟨0, by omega, rfl, by simp, Ext.refl _⟩
    case round =>
      obtain ⟨k, hk, rfl, hall, hE⟩ := hrel
      by_cases hk2 : k < n
      · obtain ⟨gs, os, rfl, hgs, hcell⟩ := (hr.ext hE).at_ hk2
        simp only [List.getElem_map] at hcell
        have htk : l.take (k + 1) = l.take k ++ [l[k]'(by omega)] := List.take_succ_eq_append_getElem (by omega)
        generalize l[k]'(by omega) = s at *
        have HTK := Lib.hid htk
        have HALL := Lib.hid hall
        clear htk hall hlen
        have kk : (k : Int) < (n : Int) := by omega
        by_cases hs : 512 < s.size
        · have e2 : (512 : Int) < (s.size : Int) := by omega
          go_wp2
          go_ret
          exact ⟨⟨true, rfl, by simp⟩, hE⟩
        · have e2 : ¬ (512 : Int) < (s.size : Int) := by omega
          go_wp2
          go_roundw
          case rel => exact ⟨k + 1, by omega, by go_num, fun s' h' => by
            rw [HTK.out, List.mem_append, List.mem_singleton] at h'
            rcases h' with h' | h'
            · exact HALL.out s' h'
            · rw [h']; omega, hE⟩
          case measure => simp [intOf]; omega
      · obtain rfl : k = n := by omega
        rw [List.take_of_length_le (by omega)] at hall
        have kk : ¬ (k : Int) < (k : Int) := by omega
        go_wp2
        go_ret
        exact ⟨⟨false, rfl, fun _ => ⟨by omega, hall⟩⟩, hE⟩
/-- c times s and d times t, added. -/
def lin (c d : Nat) (s t : ByteArray) (k : Nat) : ByteArray := strN k (fun i => fm c (bn s i) ^^^ fm d (bn t i))
theorem lin_size (c d : Nat) (s t : ByteArray) (k : Nat) : (lin c d s t k).size = k := strN_size _ _
theorem bn_lin (c d : Nat) (s t : ByteArray) (k i : Nat) (hc : c < 256) (hd : d < 256) (hi : i < k) : bn (lin c d s t k) i = fm c (bn s i) ^^^ fm d (bn t i) := bn_strN _ _ i hi (x8 (fm_lt _ _ hc) (fm_lt _ _ hd))
theorem sum2 (C s t : ByteArray) (k : Nat) (hC : C.size = 2) (hs : s.size = k) (ht : t.size = k) : sumV C [s, t] = lin (bn C 0) (bn C 1) s t k ∧ sumE C [s, t] = 0 := by
  have h := sum_yes C [s, t] ⟨hC, by intro x hx; simp at hx; rcases hx with rfl | rfl; exact rfl; exact ht.trans hs.symm⟩
  refine ⟨h.1.trans ?_, h.2⟩
  show strN s.size (acc C [s, t] 2) = _
  rw [hs]
  refine strN_congr _ _ _ fun i _ => ?_
  simp [acc]
theorem ones2 : (onesT 2).size = 2 ∧ bn (onesT 2) 0 = 1 ∧ bn (onesT 2) 1 = 1 := ⟨onesT_size 2, bn_strN _ _ 0 (by omega) (by omega), bn_strN _ _ 1 (by omega) (by omega)⟩
theorem times_lin (c : Nat) (s t : ByteArray) (k : Nat) (hc : c < 256) (hs : s.size = k) (ht : t.size = k) : lin 1 1 (timesT c s) (timesT c t) k = timesT c (lin 1 1 s t k) := by
  unfold timesT
  rw [lin_size]
  refine strN_congr _ _ _ fun i hi => ?_
  show fm 1 (bn (timesT c s) i) ^^^ fm 1 (bn (timesT c t) i) = _
  rw [bn_lin 1 1 s t k i (by omega) (by omega) hi, bn_timesT c s i hc (by omega), bn_timesT c t i hc (by omega)]
  have b1 := bn_lt s i
  have b2 := bn_lt t i
  have l1 := fm_lt c (bn s i) hc
  have l2 := fm_lt c (bn t i) hc
  rw [fm_comm 1 _ (by omega) l1, fm_comm 1 _ (by omega) l2, fm_comm 1 _ (by omega) b1, fm_comm 1 _ (by omega) b2, fm_one_r, fm_one_r, fm_one_r, fm_one_r, fm_xor_r]
theorem lin_times (c d : Nat) (s t : ByteArray) (k : Nat) (hc : c < 256) (hd : d < 256) (hs : s.size = k) (ht : t.size = k) : lin 1 1 (timesT c s) (timesT d t) k = lin c d s t k := by
  refine strN_congr _ _ _ fun i hi => ?_
  show fm 1 (bn (timesT c s) i) ^^^ fm 1 (bn (timesT d t) i) = _
  rw [bn_timesT c s i hc (by omega), bn_timesT d t i hd (by omega), fm_comm 1 _ (by omega) (fm_lt c _ hc), fm_comm 1 _ (by omega) (fm_lt d _ hd), fm_one_r, fm_one_r]
theorem times_times (c d : Nat) (s : ByteArray) (hc : c < 256) (hd : d < 256) : timesT c (timesT d s) = timesT (fm c d) s := by
  show strN (timesT d s).size _ = strN s.size _
  rw [timesT_size]
  refine strN_congr _ _ _ fun i hi => ?_
  rw [bn_timesT d s i hd hi, fm_assoc _ _ _ hc hd (bn_lt _ _)]
theorem times_one (s : ByteArray) : timesT 1 s = s := by
  rw [show timesT 1 s = strN s.size (bn s) from strN_congr _ _ _ fun i _ => by rw [fm_comm 1 _ (by omega) (bn_lt _ _), fm_one_r], strN_bn]
def CD (c d : Nat) : ByteArray := strN 2 (fun i => if i = 0 then c else d)
theorem CD_size (c d : Nat) : (CD c d).size = 2 := strN_size _ _
theorem CD_0 (c d : Nat) (hc : c < 256) : bn (CD c d) 0 = c := bn_strN _ _ 0 (by omega) hc
theorem CD_1 (c d : Nat) (hd : d < 256) : bn (CD c d) 1 = d := bn_strN _ _ 1 (by omega) hd
theorem cd_cells (c d : Nat) (hc : c < 256) (hd : d < 256) (w : World) (t : TypeId) : ∀ j, j < 2 → (w.alloc (.cells #[.int .u8 (c : Int), .int .u8 (d : Int)] t)).cell? ⟨w.heap.size, 0 + j, none⟩ = some (.int .u8 (bt (CD c d) j)) := by
  intro j hj
  rw [(Blk.new w t _).cell, bt_bn]
  obtain rfl | rfl : j = 0 ∨ j = 1 := by omega
  · rw [CD_0 c d hc]; rfl
  · rw [CD_1 c d hd]; rfl
section
variable {s t : ByteArray} {k c d : Nat} (hs : s.size = k) (ht : t.size = k) (hk : k ≤ 512) (hc : c < 256) (hd : d < 256)
include hs ht hk
theorem plus2 (A : Option Addr) (cap : Nat) (w : World) (hr : Rd w A 2 [.string s, .string t]) : Calls Try.prog 10 #[.slice A 2 cap] w fun e w' => e = .returned (.tuple #[.string (lin 1 1 s t k), .int .i64 0]) ∧ Ext w w' := by
  have := plusL_any A 2 cap [s, t] w hr (by omega) (by intro x hx; simp at hx; rcases hx with rfl | rfl <;> omega)
  rw [(sum2 _ s t k ones2.1 hs ht).1, (sum2 _ s t k ones2.1 hs ht).2, ones2.2.1, ones2.2.2] at this; exact this
include hc
theorem plus2c (A : Option Addr) (cap : Nat) (w : World) (hr : Rd w A 2 [.string (timesT c s), .string (timesT c t)]) : Calls Try.prog 10 #[.slice A 2 cap] w fun e w' => e = .returned (.tuple #[.string (timesT c (lin 1 1 s t k)), .int .i64 0]) ∧ Ext w w' := by
  have := plus2 ((timesT_size c s).trans hs) ((timesT_size c t).trans ht) hk A cap w hr
  rw [times_lin c s t k hc hs ht] at this; exact this
include hd
theorem plus2cd (A : Option Addr) (cap : Nat) (w : World) (hr : Rd w A 2 [.string (timesT c s), .string (timesT d t)]) : Calls Try.prog 10 #[.slice A 2 cap] w fun e w' => e = .returned (.tuple #[.string (lin c d s t k), .int .i64 0]) ∧ Ext w w' := by
  have := plus2 ((timesT_size c s).trans hs) ((timesT_size d t).trans ht) hk A cap w hr
  rw [lin_times c d s t k hc hd hs ht] at this; exact this
theorem sum2cd (A : Option Addr) (cap : Nat) (w : World) (hr : Rd w A 2 [.string s, .string t]) : Calls Try.prog 12 #[.string (CD c d), .slice A 2 cap] w fun e w' => e = .returned (.tuple #[.string (lin c d s t k), .int .i64 0]) ∧ Ext w w' := by
  have := sum_any (CD c d) A 2 cap [s, t] w hr (by omega) (by rw [CD_size]; omega) (by intro x hx; simp at hx; rcases hx with rfl | rfl <;> omega)
  rw [(sum2 _ s t k (CD_size c d) hs ht).1, (sum2 _ s t k (CD_size c d) hs ht).2, CD_0 c d hc, CD_1 c d hd] at this; exact this
theorem times2cd (w : World) : Calls Try.prog 14 #[.int .u8 c, .string (timesT d s)] w fun e w' => e = .returned (.string (timesT (fm c d) s)) ∧ Ext w w' := by
  have := times_any c (timesT d s) w hc (by rw [timesT_size]; omega)
  rw [times_times c d s hc hd] at this; exact this
end
