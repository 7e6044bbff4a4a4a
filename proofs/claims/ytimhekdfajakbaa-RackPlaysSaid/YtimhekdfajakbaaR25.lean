import Derived.Test.YtimhekdfajakbaaR24
namespace Go.Proofs.Ytimhekdfajakbaa
open Go.RowKit
section
variable {w : World} {q : Ql} {r : Rf}
def writeR (q : Ql) (r : Rf) (d x : Int) (t : ByteArray) : Int := if thereN q.nd q.ns d x then (if 64 < t.size then 4 else if r.left = 0 then 71 else 0) else 70
def wroteR (r : Rf) (d x : Nat) (t : ByteArray) : Rf := ⟨if 0 < r.left then r.left - 1 else r.left, setNN r.sec d x (padS t), setNN r.bad d x false, setN r.cnt d (r.cnt d + 1)⟩
theorem write_ref_no (h : RefAt w q r) (d x : Int) (t : ByteArray) (hne : writeR q r d x t ≠ 0) : Calls Try.prog 25 #[.pointer (some ⟨q.gx, 0, none⟩), .int .i64 d, .int .i64 x, .string t] w fun e w' => e = .returned (.int .i64 (writeR q r d x t)) ∧ Ext w w' := by
  have HT := there_ref h d x
  unfold writeR at hne ⊢
  cases ht : thereN q.nd q.ns d x
  · rw [ht] at HT
    have HT := Lib.hid HT
    clear ht hne
    simp only [Bool.false_eq_true, if_false]
    go_enter Try.func25, Try.ntmps25
    go_wp2_with (go_at_call 34; (with_reducible refine HT.out.mono ?_); rintro e w1 ⟨rfl, hE⟩)
    go_ret
    exact ⟨rfl, hE⟩
  · rw [ht] at HT hne
    have HT := Lib.hid HT
    clear ht
    simp only [if_true] at hne ⊢
    by_cases hz : 64 < t.size
    · have t1 : decide ((64 : Int) < (t.size : Int)) = true := by simp; omega
      rw [if_pos hz]
      clear hne hz
      go_enter Try.func25, Try.ntmps25
      go_wp2_with (go_at_call 34; (with_reducible refine HT.out.mono ?_); rintro e w1 ⟨rfl, hE⟩)
      go_ret
      exact ⟨rfl, hE⟩
    · have t1 : decide ((64 : Int) < (t.size : Int)) = false := by simp; omega
      rw [if_neg hz] at hne ⊢
      by_cases hl : r.left = 0
      · have t2 : (r.left == 0) = true := by simpa using hl
        rw [if_pos hl]
        clear hne hz hl
        go_enter Try.func25, Try.ntmps25
        go_wp2_with (go_at_call 34; (with_reducible refine HT.out.mono ?_); rintro e w1 ⟨rfl, hE⟩; have h3 := (h.ext hE).x3)
        go_ret
        exact ⟨rfl, hE⟩
      · rw [if_neg hl] at hne
        exact absurd rfl hne
theorem add_pad (t : ByteArray) (ht : t.size ≤ 64) (w : World) : (Op.stringOp .add t (zero64.extract t.size zero64.size)).run Try.prog w = .ok (.string (t ++ zero64.extract t.size zero64.size)) w := by
  have hs : (zero64.extract t.size zero64.size).size ≤ 64 := by rw [ByteArray.size_extract, zero64_size]; omega
  have h : ¬ (((t.size + (zero64.extract t.size zero64.size).size : Nat) : Int) > IntKind.i64.max) := by
    have : IntKind.i64.max = 9223372036854775807 := rfl
    rw [this]; omega
  unfold Op.stringOp
  simp only [if_neg h]
  rfl
set_option maxRecDepth 100000 in
theorem write_ref_yes (h : RefAt w q r) (d x : Nat) (t : ByteArray) (hd : d < q.nd) (hx : x < q.ns) (ht : t.size ≤ 64) (hl : r.left ≠ 0) (hb : -9223372036854775807 ≤ r.left ∧ r.left ≤ 9223372036854775807) (hc : r.cnt d ≤ 1000000) :
    Calls Try.prog 25 #[.pointer (some ⟨q.gx, 0, none⟩), .int .i64 d, .int .i64 x, .string t] w fun e w' => e = .returned (.int .i64 0) ∧ RefAt w' q (wroteR r d x t) ∧ Turn q.has w w' := by
  have HT := there_ref h d x
  have hth : thereN q.nd q.ns d x = true := by simp [thereN]; omega
  rw [hth] at HT
  have HT := Lib.hid HT
  clear hth
  have kd : (d : Int) < (q.nd : Int) := by omega
  have kd0 : (0 : Int) ≤ (d : Int) := by omega
  have kx : (x : Int) < (q.ns : Int) := by omega
  have kx0 : (0 : Int) ≤ (x : Int) := by omega
  have t1 : decide ((64 : Int) < (t.size : Int)) = false := by simp; omega
  have t2 : (r.left == 0) = false := by simpa using hl
  have hz : ((zero64.size : Nat) : Int) = 64 := by rw [zero64_size]; rfl
  have hts : (t.size : Int) ≤ 64 := by omega
  have hadd := add_pad t ht
  obtain ⟨b1, b2⟩ := hb
  by_cases hp : 0 < r.left
  · have t3 : decide (0 < r.left) = true := by simpa using hp
    have HWR := Lib.hid (show wroteR r d x t = ⟨r.left - 1, setNN r.sec d x (padS t), setNN r.bad d x false, setN r.cnt d (r.cnt d + 1)⟩ by unfold wroteR; rw [if_pos hp])
    clear hl
    go_enter Try.func25, Try.ntmps25
    go_wp2_with (go_at_call 34; (with_reducible refine HT.out.mono ?_); rintro e w1 ⟨rfl, hE⟩; have hR := h.ext hE; have c3 := hR.x3; have f3 := hR.x.frozen 3 (by omega))
    have hR2 := hR.setLeft (r.left - 1)
    have hT2 : Turn q.has w (w1.setCell ⟨q.gx, 3, none⟩ (.int .i64 (r.left - 1))) := (Turn.of hE).trans (Turn.set_ (a := ⟨q.gx, 3, none⟩) (has_x q) _)
    generalize w1.setCell ⟨q.gx, 3, none⟩ (.int .i64 (r.left - 1)) = w2 at *
    have q1 := hR2.x0
    have q2 := hR2.s.cell d hd
    have q3 := (hR2.ss d hd).cell x hx
    clear c3 f3
    go_region_held3 (fun w' => w'.cell? ⟨q.gx, 0, none⟩ = some (.slice (some ⟨q.gS, 0, none⟩) q.nd q.cS) ∧ w'.cell? ⟨q.gS, d, none⟩ = some (.slice (some ⟨q.hS d, 0, none⟩) q.ns (q.cs d)))
      (first | exact ⟨q1, q2⟩ | exact ⟨k1, k2⟩ | exact ⟨m1, m2⟩ | go_keep)
      (first | (go_at_call 24; refine (none_ref _).mono ?_; rintro e w3 ⟨rfl, hE3⟩; have hE3 : Ext w2 w3 := Ext.trans (Ext.drew (Ext.refl _)) hE3; have hR3 := hR2.ext hE3; have k1 := hR3.x0; have k2 := hR3.s.cell d hd; have k3 := (hR3.ss d hd).cell x hx; have f3 := (hR3.ss d hd).frozen x hx; have hR4 := hR3.setSec d x (t ++ zero64.extract t.size zero64.size) hd (by rw [zero64_size, pad_is t ht]; exact strN_size 64 _); have m1 := hR4.x0; have m2 := hR4.s.cell d hd))
    all_goals
      have hT4 : Turn q.has w (w3.setCell ⟨q.hS d, x, none⟩ (.string (t ++ zero64.extract t.size zero64.size))) := (hT2.trans (Turn.of hE3)).trans (Turn.set_ (a := ⟨q.hS d, x, none⟩) (has_s hd) _)
      generalize w3.setCell ⟨q.hS d, x, none⟩ (.string (t ++ zero64.extract t.size zero64.size)) = w4 at *
      rw [zero64_size, pad_is t ht] at hR4
      clear q1 q2 q3 k1 k2 k3 f3 m1 m2
      have c1 := hR4.x1
      have c2 := hR4.b.cell d hd
      have c3 := (hR4.bs d hd).cell x hx
      have f3 := (hR4.bs d hd).frozen x hx
      have hR5 := hR4.setBad d x false hd
      have d1 := hR5.x2
      have d2 : (w4.setCell ⟨q.hB d, x, none⟩ (.bool false)).cell? ⟨q.gC, d, none⟩ = some (.int .u64 (r.cnt d)) := hR5.c.cell d hd
      have d3 := hR5.c.frozen d hd
      have n1 : (0 : Int) ≤ (r.cnt d : Int) := by omega
      have n2 : (r.cnt d : Int) ≤ 1000000 := by omega
      go_wp2
      go_ret
      have hfin := hR5.setCnt d (r.cnt d + 1)
      rw [Int.natCast_add] at hfin
      refine ⟨rfl, ?_, (hT4.trans (Turn.set_ (a := ⟨q.hB d, x, none⟩) (has_b hd) _)).trans (Turn.set_ (a := ⟨q.gC, d, none⟩) (has_c q) _)⟩
      rw [HWR.out]
      exact hfin
  · have t3 : decide (0 < r.left) = false := by simpa using hp
    have HWR := Lib.hid (show wroteR r d x t = ⟨r.left, setNN r.sec d x (padS t), setNN r.bad d x false, setN r.cnt d (r.cnt d + 1)⟩ by unfold wroteR; rw [if_neg hp])
    clear hl
    go_enter Try.func25, Try.ntmps25
    go_wp2_with (go_at_call 34; (with_reducible refine HT.out.mono ?_); rintro e w1 ⟨rfl, hE⟩; have hR := h.ext hE; have c3 := hR.x3; have f3 := hR.x.frozen 3 (by omega))
    have hR2 := hR
    have hT2 : Turn q.has w w1 := Turn.of hE
    generalize w1 = w2 at *
    have q1 := hR2.x0
    have q2 := hR2.s.cell d hd
    have q3 := (hR2.ss d hd).cell x hx
    clear c3 f3
    go_region_held3 (fun w' => w'.cell? ⟨q.gx, 0, none⟩ = some (.slice (some ⟨q.gS, 0, none⟩) q.nd q.cS) ∧ w'.cell? ⟨q.gS, d, none⟩ = some (.slice (some ⟨q.hS d, 0, none⟩) q.ns (q.cs d)))
      (first | exact ⟨q1, q2⟩ | exact ⟨k1, k2⟩ | exact ⟨m1, m2⟩ | go_keep)
      (first | (go_at_call 24; refine (none_ref _).mono ?_; rintro e w3 ⟨rfl, hE3⟩; have hE3 : Ext w2 w3 := Ext.trans (Ext.drew (Ext.refl _)) hE3; have hR3 := hR2.ext hE3; have k1 := hR3.x0; have k2 := hR3.s.cell d hd; have k3 := (hR3.ss d hd).cell x hx; have f3 := (hR3.ss d hd).frozen x hx; have hR4 := hR3.setSec d x (t ++ zero64.extract t.size zero64.size) hd (by rw [zero64_size, pad_is t ht]; exact strN_size 64 _); have m1 := hR4.x0; have m2 := hR4.s.cell d hd))
    all_goals
      have hT4 : Turn q.has w (w3.setCell ⟨q.hS d, x, none⟩ (.string (t ++ zero64.extract t.size zero64.size))) := (hT2.trans (Turn.of hE3)).trans (Turn.set_ (a := ⟨q.hS d, x, none⟩) (has_s hd) _)
      generalize w3.setCell ⟨q.hS d, x, none⟩ (.string (t ++ zero64.extract t.size zero64.size)) = w4 at *
      rw [zero64_size, pad_is t ht] at hR4
      clear q1 q2 q3 k1 k2 k3 f3 m1 m2
      have c1 := hR4.x1
      have c2 := hR4.b.cell d hd
      have c3 := (hR4.bs d hd).cell x hx
      have f3 := (hR4.bs d hd).frozen x hx
      have hR5 := hR4.setBad d x false hd
      have d1 := hR5.x2
      have d2 : (w4.setCell ⟨q.hB d, x, none⟩ (.bool false)).cell? ⟨q.gC, d, none⟩ = some (.int .u64 (r.cnt d)) := hR5.c.cell d hd
      have d3 := hR5.c.frozen d hd
      have n1 : (0 : Int) ≤ (r.cnt d : Int) := by omega
      have n2 : (r.cnt d : Int) ≤ 1000000 := by omega
      go_wp2
      go_ret
      have hfin := hR5.setCnt d (r.cnt d + 1)
      rw [Int.natCast_add] at hfin
      refine ⟨rfl, ?_, (hT4.trans (Turn.set_ (a := ⟨q.hB d, x, none⟩) (has_b hd) _)).trans (Turn.set_ (a := ⟨q.gC, d, none⟩) (has_c q) _)⟩
      rw [HWR.out]
      exact hfin
end
