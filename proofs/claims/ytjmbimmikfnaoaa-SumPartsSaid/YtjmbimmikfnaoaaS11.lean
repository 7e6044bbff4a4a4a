import Derived.Test.YtjmbimmikfnaoaaS10
namespace Go.Proofs.Ytjmbimmikfnaoaa
open Go.RowKit
/-- Texts, one behind the other. -/
def catB (l : List ByteArray) : ByteArray := l.foldl (· ++ ·) { data := #[] }
theorem catB_snoc (l : List ByteArray) (s : ByteArray) : catB (l ++ [s]) = catB l ++ s := by simp [catB]
theorem catB_data (l : List ByteArray) : (catB l).data.toList = allBytes l := by
  have h : ∀ (l : List ByteArray) (a : ByteArray), (l.foldl (· ++ ·) a).data.toList = a.data.toList ++ allBytes l := by
    intro l
    induction l with
    | nil => intro a; simp [allBytes]
    | cons s l ih => intro a; rw [List.foldl_cons, ih, ByteArray.data_append]; simp [allBytes]
  have := h l { data := #[] }
  simpa [catB] using this
theorem sumOf_cat (l : List ByteArray) : sumOf [catB l] = sumOf l := by
  unfold sumOf prog_of
  rw [show allBytes [catB l] = allBytes l by rw [← catB_data l]; simp [allBytes]]
theorem maxLen_eq : maxLen = 9223372036854775807 := rfl
set_option maxRecDepth 100000 in
theorem sumOfs_walk (A : Option Addr) (n c : Nat) (ss : List ByteArray) (x : Int) (w : World) (hr : Rd w A n (ss.map Value.string)) (hn : n ≤ maxLen) (_hz : ∀ s ∈ ss, s.size ≤ maxLen) (hx : (Lit.int .u32 x).wf = true) :
    Calls Try.prog 3 #[.slice A n c, .int .u32 x] w fun e w' => e = .returned (.bool true) ∧ Ext w w' := by
  rw [maxLen_eq] at hn
  have hx' : 0 ≤ x ∧ x < 4294967296 := by
    simp [Lit.wf, IntKind.min, IntKind.max, IntKind.signed, IntKind.bits] at hx; omega
  obtain ⟨hx0, hx1⟩ := hx'
  clear hx
  have hlen : ss.length = n := by have := hr.1; simpa using this
  have HL := Lib.hid hlen
  clear hlen
  by_cases h40 : n > 40
  · go_enter Try.func3, Try.ntmps3
    go_wp2_with (go_at_call 6; refine (alive_any _).mono ?_; rintro e w1 ⟨rfl, hB1⟩)
    go_ret
    exact ⟨rfl, hB1⟩
  go_enter Try.func3, Try.ntmps3
  go_wp2
  go_loop [5, 6] (fun s i => ∃ k : Nat, k ≤ n ∧ i = .int .i64 k ∧ s = .string (catB (ss.take k)) ∧ (catB (ss.take k)).size ≤ 256 * k ∧ ∀ t ∈ ss.take k, t.size ≤ 256) (fun _ i => n - (intOf i).toNat)
  case atStart => exact ⟨0, by omega, rfl, rfl, by simp [catB, ByteArray.size], by simp⟩
  case round =>
    obtain ⟨k, hk, rfl, rfl, hcs, hall⟩ := hrel
    by_cases hk2 : k < n
    · obtain ⟨gs, os, rfl, hgs, hcell⟩ := hr.at_ hk2
      simp only [List.getElem_map] at hcell
      have hL := HL.out
      have hsnoc : catB (ss.take (k + 1)) = catB (ss.take k) ++ ss[k]'(by omega) := by rw [List.take_succ_eq_append_getElem (by omega), catB_snoc]
      have hmem : ∀ t ∈ ss.take (k + 1), t ∈ ss.take k ∨ t = ss[k]'(by omega) := by
        intro t ht; rw [List.take_succ_eq_append_getElem (by omega), List.mem_append, List.mem_singleton] at ht; exact ht
      generalize ss[k]'(by omega) = s at *
      have HS := Lib.hid hsnoc
      have HM := Lib.hid hmem
      have HA := Lib.hid hall
      clear hsnoc hmem hall hL
      generalize catB (ss.take k) = S at *
      by_cases hs : s.size > 256
      · go_wp2_with (go_at_call 6; refine (alive_any _).mono ?_; rintro e w1 ⟨rfl, hB1⟩)
        go_ret
        exact ⟨rfl, hB1⟩
      · go_wp2
        go_round
        case rel =>
          refine ⟨k + 1, by omega, by go_num, by rw [HS.out], by rw [HS.out, ByteArray.size_append]; omega, fun t ht => ?_⟩
          rcases HM.out t ht with h | h
          · exact HA.out t h
          · subst h; omega
        case measure => simp [intOf]; omega
    · obtain rfl : k = n := by omega
      have hs := sumOf_cat ss
      rw [List.take_of_length_le (by rw [HL.out]; omega)] at *
      generalize catB ss = S at *
      have HS := Lib.hid hs
      have HA := Lib.hid hall
      have HR := Lib.hid hr
      clear hs hall hr
      go_wp2_with fail
      refine (of_sum A k c ss _ HR.out (by omega) (fun s h => by have := HA.out s h; omega)).mono ?_; rintro e w1 ⟨rfl, hB1⟩
      go_wp2_with fail
      refine (rof_all S _ (by omega)).mono ?_; rintro e w2 ⟨rfl, hB2⟩
      rw [HS.out]
      go_wp2_with fail
      refine (of_one S _ _ (cell_new _ _ _ _ rfl) (by omega)).mono ?_; rintro e w3 ⟨rfl, hB3⟩
      rw [HS.out]
      go_wp2_with fail
      refine (rof_all S _ (by omega)).mono ?_; rintro e w4 ⟨rfl, hB4⟩
      rw [HS.out]
      go_wp2_with (first
        | (go_at_call 9; refine (bytes_any x _ hx0 hx1).mono ?_; rintro e w5 ⟨rfl, hB5⟩)
        | (go_at_call 10; refine (rbytes_any x _ hx0 hx1).mono ?_; rintro e w6 ⟨rfl, hB6⟩)
        | (go_at_call 6; refine (alive_any _).mono ?_; rintro e w7 ⟨rfl, hB7⟩))
      go_ret
      exact ⟨rfl, ((((((hB1.trans hB2).alloc _).trans hB3).trans hB4).trans hB5).trans hB6).trans hB7⟩
