import Derived.Test.YtimhekdfajakbaaR23
import Derived.Deep.RegionHeld3
import Derived.StillTailTactics
namespace Go.Proofs.Ytimhekdfajakbaa
open Go.RowKit
def zero64 : ByteArray := ⟨(List.replicate 64 (0 : UInt8)).toArray⟩
theorem make64 (w : World) : (Instr.makeSlice 48 (.int .i64 64) (.int .i64 64)).run Try.prog w = .ok (.slice (some ⟨w.heap.size, 0, none⟩) 64 64) (w.alloc (.cells (tabA 64 u8z) 5)) := by
  obtain ⟨i0, hi0, hz0, hz1, hz2⟩ := info_parts infoByte
  exact run_make_tab 48 5 i0 (.int .u8 0) Try.underlying48 hi0 hz0 hz1 rfl .i64 .i64 64 (by omega) (by omega) w
theorem str64 (w : World) : (convert 48 9 (.slice (some ⟨w.heap.size, 0, none⟩) 64 64)).run Try.prog (w.alloc (.cells (tabA 64 u8z) 5)) = .ok (.string zero64) (w.alloc (.cells (tabA 64 u8z) 5)) := by
  have hl : (List.replicate 64 (0 : UInt8)).length = 64 := List.length_replicate
  have h0 := run_convert_bytes_back (P := Try.prog) (w.alloc (.cells (tabA 64 u8z) 5)) 48 9 5 ⟨w.heap.size, 0, none⟩ 64 (List.replicate 64 (0 : UInt8)) Try.underlying48 Try.underlying5 Try.underlying9 (fun j hj => by
    rw [Addr.add_mid, Nat.zero_add, (Blk.new w 5 _).cell, tabA_at _ _ _ (by omega)]
    rw [List.getElem_replicate]; rfl)
  rw [hl] at h0
  exact h0
theorem none_ref (w : World) : Calls Try.prog 24 #[] w fun e w' => e = .returned (.string zero64) ∧ Ext w w' := by
  have hmk := make64
  have hcv := str64
  go_enter Try.func24, Try.ntmps24
  go_wp2
  go_ret
  exact ⟨rfl, (Ext.refl w).alloc _⟩
theorem zero64_size : zero64.size = 64 := by
  show (List.replicate 64 (0 : UInt8)).toArray.size = 64
  rw [List.size_toArray, List.length_replicate]
theorem zero64_is : strN 64 (fun _ => 0) = zero64 := by decide +kernel
/-- A text that is written, filled up. -/
def padS (t : ByteArray) : ByteArray := strN 64 (padB t)
theorem bn_app (s t : ByteArray) (j : Nat) : bn (s ++ t) j = if j < s.size then bn s j else bn t (j - s.size) := by
  unfold bn
  have e : (s ++ t).data.toList = s.data.toList ++ t.data.toList := by simp
  have hs : s.data.toList.length = s.size := rfl
  rw [e, List.getD_eq_getElem?_getD, List.getD_eq_getElem?_getD, List.getD_eq_getElem?_getD]
  by_cases h : j < s.size
  · rw [if_pos h, List.getElem?_append_left (by omega)]
  · rw [if_neg h, List.getElem?_append_right (by omega), hs]
theorem bn_zero64 (j : Nat) : bn zero64 j = 0 := by
  unfold bn zero64
  rw [List.getD_eq_getElem?_getD]
  show ((List.replicate 64 (0 : UInt8))[j]?.getD 0).toNat = 0
  rw [List.getElem?_replicate]
  split <;> rfl
theorem pad_is (t : ByteArray) (ht : t.size ≤ 64) : t ++ zero64.extract t.size 64 = padS t := by
  have hz := zero64_size
  refine str_ext' _ _ ?_ fun i hi => ?_
  · rw [ByteArray.size_append, ByteArray.size_extract, hz, padS, strN_size]; omega
  · have hi64 : i < 64 := by rw [ByteArray.size_append, ByteArray.size_extract, hz] at hi; omega
    rw [bn_app, padS, bn_strN _ _ _ hi64 (padB_lt _ _), padB]
    by_cases h : i < t.size
    · rw [if_pos h, if_pos h]
    · rw [if_neg h, if_neg h, bn_extract _ _ _ _ (by omega) (by omega), bn_zero64]
theorem thereN_nat0 {nd ns : Nat} {d : Int} (h : thereN nd ns d 0 = true) : ∃ i : Nat, d = i ∧ i < nd := by
  obtain ⟨i, _, h1, _, h2, _⟩ := thereN_nat h
  exact ⟨i, h1, h2⟩
section
variable {w : World} {q : Ql} {r : Rf}
def readR (q : Ql) (r : Rf) (d x : Int) : Int := if r.left = 0 then 71 else if thereN q.nd q.ns d x then (if r.bad d.toNat x.toNat then 72 else 0) else 70
def readRS (q : Ql) (r : Rf) (d x : Int) : ByteArray := if readR q r d x = 0 then r.sec d.toNat x.toNat else { data := #[] }
theorem read_ref (h : RefAt w q r) (d x : Int) : Calls Try.prog 26 #[.pointer (some ⟨q.gx, 0, none⟩), .int .i64 d, .int .i64 x] w fun e w' => e = .returned (.tuple #[.string (readRS q r d x), .int .i64 (readR q r d x)]) ∧ Ext w w' := by
  have h3 := h.x3
  by_cases hl : r.left = 0
  · have hc : readR q r d x = 71 := by unfold readR; rw [if_pos hl]
    have hs : readRS q r d x = { data := #[] } := by unfold readRS; rw [hc]; rfl
    rw [hc, hs]
    have t1 : (r.left == 0) = true := by simpa using hl
    clear hl hc hs
    go_enter Try.func26, Try.ntmps26
    go_wp2
    go_ret2
    exact ⟨rfl, Ext.refl w⟩
  · have t1 : (r.left == 0) = false := by simpa using hl
    have HT := there_ref h d x
    cases ht : thereN q.nd q.ns d x
    · have hc : readR q r d x = 70 := by unfold readR; rw [if_neg hl, ht]; rfl
      have hs : readRS q r d x = { data := #[] } := by unfold readRS; rw [hc]; rfl
      rw [hc, hs]
      rw [ht] at HT
      have HT := Lib.hid HT
      clear hl hc hs ht
      go_enter Try.func26, Try.ntmps26
      go_wp2_with (go_at_call 34; (with_reducible refine HT.out.mono ?_); rintro e w1 ⟨rfl, hE⟩)
      go_ret2
      exact ⟨rfl, hE⟩
    · rw [ht] at HT
      obtain ⟨i, j, rfl, rfl, hi, hj⟩ := thereN_nat ht
      have kd : (i : Int) < (q.nd : Int) := by omega
      have kd0 : (0 : Int) ≤ (i : Int) := by omega
      have kx : (j : Int) < (q.ns : Int) := by omega
      have kx0 : (0 : Int) ≤ (j : Int) := by omega
      have HT := Lib.hid HT
      cases hb : r.bad i j
      · have hc : readR q r i j = 0 := by unfold readR; rw [if_neg hl, ht]; simp [hb]
        have hs : readRS q r i j = r.sec i j := by unfold readRS; rw [hc]; rfl
        rw [hc, hs]
        clear hl hc hs ht
        have HB := Lib.hid hb
        clear hb
        go_enter Try.func26, Try.ntmps26
        go_wp2_with (go_at_call 34; (with_reducible refine HT.out.mono ?_); rintro e w1 ⟨rfl, hE⟩; have hR := h.ext hE; have c1 := hR.x1; have c2 := hR.b.cell i hi; have c3 := (hR.bs i hi).cell j hj; rw [HB.out] at c3; have c4 := hR.x0; have c5 := hR.s.cell i hi; have c6 := (hR.ss i hi).cell j hj)
        go_ret2
        exact ⟨rfl, hE⟩
      · have hc : readR q r i j = 72 := by unfold readR; rw [if_neg hl, ht]; simp [hb]
        have hs : readRS q r i j = { data := #[] } := by unfold readRS; rw [hc]; rfl
        rw [hc, hs]
        clear hl hc hs ht
        have HB := Lib.hid hb
        clear hb
        go_enter Try.func26, Try.ntmps26
        go_wp2_with (go_at_call 34; (with_reducible refine HT.out.mono ?_); rintro e w1 ⟨rfl, hE⟩; have hR := h.ext hE; have c1 := hR.x1; have c2 := hR.b.cell i hi; have c3 := (hR.bs i hi).cell j hj; rw [HB.out] at c3)
        go_ret2
        exact ⟨rfl, hE⟩
def cntR (q : Ql) (r : Rf) (d : Int) : Nat := if thereN q.nd q.ns d 0 then r.cnt d.toNat else 0
theorem writes_ref (h : RefAt w q r) (d : Int) : Calls Try.prog 15 #[.pointer (some ⟨q.gx, 0, none⟩), .int .i64 d] w fun e w' => e = .returned (.int .u64 (cntR q r d)) ∧ Ext w w' := by
  have HT := there_ref h d 0
  unfold cntR
  cases ht : thereN q.nd q.ns d 0
  · rw [ht] at HT
    have HT := Lib.hid HT
    clear ht
    simp only [Bool.false_eq_true, if_false]
    go_enter Try.func15, Try.ntmps15
    go_wp2_with (go_at_call 34; (with_reducible refine HT.out.mono ?_); rintro e w1 ⟨rfl, hE⟩)
    go_ret
    exact ⟨rfl, hE⟩
  · rw [ht] at HT
    obtain ⟨i, rfl, hi⟩ := thereN_nat0 ht
    have kd : (i : Int) < (q.nd : Int) := by omega
    have kd0 : (0 : Int) ≤ (i : Int) := by omega
    have HT := Lib.hid HT
    clear ht
    simp only [if_true, Int.toNat_natCast]
    go_enter Try.func15, Try.ntmps15
    go_wp2_with (go_at_call 34; (with_reducible refine HT.out.mono ?_); rintro e w1 ⟨rfl, hE⟩; have hR := h.ext hE; have c1 := hR.x2; have c2 := hR.c.cell i hi)
    go_ret
    exact ⟨rfl, hE⟩
def thereR (q : Ql) (d x : Int) : Int := if thereN q.nd q.ns d x then 0 else 70
def spoilR (q : Ql) (r : Rf) (d x : Int) : Rf := if thereN q.nd q.ns d x then { r with bad := setNN r.bad d.toNat x.toNat true } else r
theorem spoil_ref (h : RefAt w q r) (d x : Int) : Calls Try.prog 28 #[.pointer (some ⟨q.gx, 0, none⟩), .int .i64 d, .int .i64 x] w fun e w' => e = .returned (.int .i64 (thereR q d x)) ∧ RefAt w' q (spoilR q r d x) ∧ Turn q.has w w' := by
  have HT := there_ref h d x
  unfold thereR spoilR
  cases ht : thereN q.nd q.ns d x
  · rw [ht] at HT
    have HT := Lib.hid HT
    clear ht
    simp only [Bool.false_eq_true, if_false]
    go_enter Try.func28, Try.ntmps28
    go_wp2_with (go_at_call 34; (with_reducible refine HT.out.mono ?_); rintro e w1 ⟨rfl, hE⟩)
    go_ret
    exact ⟨rfl, h.ext hE, Turn.of hE⟩
  · rw [ht] at HT
    obtain ⟨i, j, rfl, rfl, hi, hj⟩ := thereN_nat ht
    have kd : (i : Int) < (q.nd : Int) := by omega
    have kd0 : (0 : Int) ≤ (i : Int) := by omega
    have kx : (j : Int) < (q.ns : Int) := by omega
    have kx0 : (0 : Int) ≤ (j : Int) := by omega
    have HT := Lib.hid HT
    clear ht
    simp only [if_true, Int.toNat_natCast]
    go_enter Try.func28, Try.ntmps28
    go_wp2_with (go_at_call 34; (with_reducible refine HT.out.mono ?_); rintro e w1 ⟨rfl, hE⟩; have hR := h.ext hE; have c1 := hR.x1; have c2 := hR.b.cell i hi; have c3 := (hR.bs i hi).cell j hj; have f3 := (hR.bs i hi).frozen j hj)
    go_ret
    exact ⟨rfl, hR.setBad i j true hi, (Turn.of hE).trans (Turn.set_ (a := ⟨q.hB i, j, none⟩) (has_b hi) _)⟩
end
