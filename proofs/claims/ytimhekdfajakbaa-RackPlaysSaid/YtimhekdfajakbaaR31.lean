import Derived.Test.YtimhekdfajakbaaR30
import Derived.Deep.DeepCutAuto
namespace Go.Proofs.Ytimhekdfajakbaa
open Go.RowKit
theorem Chg.turn {p : Pl} {w w' : World} (h : Chg p w w') : Turn p.has w w' := ⟨h.os, h.tape, h.output, h.size, h.block⟩
theorem Turn.chg {p : Pl} {w w' : World} (h : Turn p.has w w') : Chg p w w' := ⟨h.os, h.tape, h.output, h.size, h.block⟩
def Both (p : Pl) (q : Ql) (k : Nat) : Prop := p.has k ∨ q.has k
def DoPost (p : Pl) (q : Ql) (k : Nat) (w : World) (e : Ending) (w' : World) : Prop :=
  e = .returned (.bool true) ∧ ∃ s r, RackAt w' p s ∧ RefAt w' q r ∧ Same p q s r k ∧ Turn (Both p q) w w'
theorem RackAt.otherT {H : Nat → Prop} {p : Pl} {s : St} {w w' : World} (h : RackAt w p s) (t : Turn H w w') (hd : ∀ k, p.has k → ¬ H k) : RackAt w' p s :=
  ⟨t.cellsAt h.r (hd _ (.inl rfl)), t.cellsAt h.d (hd _ (.inr (.inl rfl))), fun d hl => t.cellsAt (h.se d hl) (hd _ (.inr (.inr ⟨d, hl, rfl⟩))), h.ok⟩
theorem RefAt.drew {q : Ql} {r : Rf} {w : World} (h : RefAt w q r) : RefAt w.drew q r := h.ext (Ext.drew (Ext.refl _))
section
variable {p : Pl} {q : Ql} {s : St} {r : Rf} {k : Nat} {w : World}
set_option maxRecDepth 100000 in
set_option maxHeartbeats 1000000 in
theorem do_ok (h : RackAt w p s) (hx : RefAt w q r) (hs : Same p q s r k) (hpq : ∀ b, p.has b → ¬ q.has b) (hk : k ≤ 1000) (m : Nat) (hm : m < 256) (d x : Int) (t : ByteArray) (hwx : -9223372036854775808 ≤ x ∧ x ≤ 9223372036854775807) :
    Calls Try.prog 11 #[.pointer (some ⟨p.gR, 0, none⟩), .pointer (some ⟨q.gx, 0, none⟩), .agg #[.int .u8 m, .int .i64 d, .int .i64 x, .string t]] w (DoPost p q (k + 1) w) := by
  obtain ⟨c, hc⟩ : ∃ c, c = m % 6 := ⟨_, rfl⟩
  have hmod : ((m : Int) % 6) = (c : Int) := by omega
  have hc6 : c = 0 ∨ c = 1 ∨ c = 2 ∨ c = 3 ∨ c = 4 ∨ c = 5 := by omega
  have hO := (Ext.refl w).alloc (.cells #[.int .u8 m, .int .i64 d, .int .i64 x, .string t] 34)
  have hB := Blk.new w 34 #[.int .u8 (m : Int), .int .i64 d, .int .i64 x, .string t]
  have h1 := h.ext hO
  have hx1 := hx.ext hO
  obtain ⟨b, hb⟩ : ∃ b, b = w.heap.size := ⟨_, rfl⟩
  have nbp : ¬ p.has b := fun hh => by have := h.lt b hh; omega
  have nbq : ¬ q.has b := fun hh => by have := hx.lt b hh; omega
  have hqp : ∀ b, q.has b → ¬ p.has b := fun b h1 h2 => hpq b h2 h1
  obtain ⟨l1, l2, l3, l4⟩ := hs.lfts hk
  have HPQ := Lib.hid hpq
  have HQP := Lib.hid hqp
  rw [← hb] at hB
  have q0 := hB.cell 0
  have q1 := hB.cell 1
  have q2 := hB.cell 2
  have q3 := hB.cell 3
  simp at q0 q1 q2 q3
  have HB := Lib.hid hb
  have HC := Lib.hid hc
  have hm0 : (0 : Int) ≤ (m : Int) := by omega
  have hm1 : (m : Int) < 256 := by omega
  obtain ⟨w1, hw1⟩ : ∃ w1, w1 = w.alloc (.cells #[.int .u8 (m : Int), .int .i64 d, .int .i64 x, .string t] 34) := ⟨_, rfl⟩
  rw [← hw1] at h1 hx1 q0 q1 q2 q3 hO
  have HW1 := Lib.hid hw1
  clear hpq hqp hc h hx hb hw1
  rcases hc6 with rfl | rfl | rfl | rfl | rfl | rfl
  · have HW := Lib.hid (write_any h1.drew d x t l1 l3)
    obtain ⟨E, hEE⟩ : ∃ E, E = writeE p s d x t := ⟨_, rfl⟩
    have HEE := Lib.hid hEE
    rw [← hEE] at HW
    clear hEE
    
    go_enter Try.func11, Try.ntmps11
    go_upto_region 1 with (fail)
    rw [← HB.out, ← HW1.out]
    go_wp2_with fail
    go_region_held3 (fun w' => w'.cell? ⟨b, 1, none⟩ = some (.int .i64 d) ∧ w'.cell? ⟨b, 2, none⟩ = some (.int .i64 x) ∧ w'.cell? ⟨b, 3, none⟩ = some (.string t))
      (first | exact ⟨q1, q2, q3⟩ | exact ⟨k1, k2, k3⟩ | exact ⟨n1, n2, n3⟩ | go_keep)
      (first
        | (go_at_call 19; refine HW.out.mono ?_; rintro e w4 ⟨rfl, hR4, hC4⟩; have k1 := hC4.turn.cellv q1 nbp; have k2 := hC4.turn.cellv q2 nbp; have k3 := hC4.turn.cellv q3 nbp; have HX := Lib.hid (write_ref_any (hx1.drew.other hC4.turn HQP.out) d x t l2 l4); have HX2 := HX.out; rw [hs.writeC d x t, ← HEE.out] at HX2; have HX2 := Lib.hid HX2)
        | (go_at_call 25; refine HX2.out.mono ?_; rintro e w5 ⟨rfl, hx5, hT5⟩; have n1 := hT5.cellv k1 nbq; have n2 := hT5.cellv k2 nbq; have n3 := hT5.cellv k3 nbq))
    all_goals
      go_wp2
      go_ret
      have hT4 := (Turn.of (H := Both p q) ((hO.drew))).trans (hC4.turn.mono (fun b hb => Or.inl hb))
      exact ⟨rfl, doWrite p s d x t, doWriteR q r d x t, hR4.otherT hT5 HPQ.out, hx5, hs.write d x t, hT4.trans (hT5.mono (fun b hb => Or.inr hb))⟩
  · have HW := Lib.hid (read_any h1 d x)
    obtain ⟨E, hEE⟩ : ∃ E, E = readE p s d x := ⟨_, rfl⟩
    obtain ⟨S, hSS⟩ : ∃ S, S = readS p s d x := ⟨_, rfl⟩
    have HX := fun (w : World) (hx : RefAt w q r) => read_ref hx d x
    rw [hs.readC, hs.readT, ← hEE, ← hSS] at HX
    rw [← hEE, ← hSS] at HW
    have HX := Lib.hid HX
    clear hEE hSS
    go_enter Try.func11, Try.ntmps11
    go_upto_region 1 with (fail)
    rw [← HB.out, ← HW1.out]
    go_wp2_with (first
      | (go_at_call 21; (with_reducible refine HW.out.mono ?_); rintro e w4 ⟨rfl, hE4⟩; have k1 := hE4.cellv q1; have k2 := hE4.cellv q2; have HX2 := Lib.hid (HX.out _ (hx1.ext hE4)))
      | (go_at_call 26; (with_reducible refine HX2.out.mono ?_); rintro e w5 ⟨rfl, hE5⟩))
    go_ret
    have hE := (hO.trans hE4).trans hE5
    exact ⟨rfl, s, r, (h1.ext hE4).ext hE5, (hx1.ext hE4).ext hE5, hs.mono, Turn.of hE⟩
  · by_cases hn : x < 0
    · have HW := cut_any h1 x
      rw [if_pos hn] at HW
      have hst : doCut s x = s := by unfold doCut; rw [if_pos hn]
      rw [hst] at HW
      have HW := Lib.hid HW
      have t1 : decide (x < 0) = true := by simpa using hn
      clear hst hn
      go_enter Try.func11, Try.ntmps11
      go_upto_region 1 with (fail)
      rw [← HB.out, ← HW1.out]
      go_wp2_with (go_at_call 18; (with_reducible refine HW.out.mono ?_); rintro e w4 ⟨rfl, hR4, hC4⟩)
      go_ret
      have hT4 := (Turn.of (H := Both p q) hO).trans (hC4.turn.mono (fun b hb => Or.inl hb))
      exact ⟨rfl, s, r, hR4, hx1.other hC4.turn HQP.out, hs.mono, hT4⟩
    · have t1 : decide (x < 0) = false := by simpa using hn
      have c3 := hx1.x3
      have f3 := hx1.x.frozen 3 (by omega)
      have hx2 := hx1.setLeft x
      have hT2 : Turn q.has w1 (w1.setCell ⟨q.gx, 3, none⟩ (.int .i64 x)) := Turn.set_ (a := ⟨q.gx, 3, none⟩) (has_x q) _
      have e2 := hT2.cellv q2 nbq
      have HW := cut_any (h1.otherT hT2 HPQ.out) x
      rw [if_neg hn] at HW
      have hst : doCut s x = { s with cut := true, left := x } := by unfold doCut; rw [if_neg hn]
      rw [hst] at HW
      have HW := Lib.hid HW
      have HSM := Lib.hid (hs.cut x (by omega) hwx.2)
      have HX2 := Lib.hid hx2
      have HT2 := Lib.hid hT2
      clear hst hn hx2 hT2
      go_enter Try.func11, Try.ntmps11
      go_upto_region 1 with (fail)
      rw [← HB.out, ← HW1.out]
      go_wp2_with (go_at_call 18; (with_reducible refine HW.out.mono ?_); rintro e w4 ⟨rfl, hR4, hC4⟩)
      go_ret
      have hT4 := ((Turn.of (H := Both p q) hO).trans (HT2.out.mono (fun b hb => Or.inr hb))).trans (hC4.turn.mono (fun b hb => Or.inl hb))
      exact ⟨rfl, _, _, hR4, HX2.out.other hC4.turn HQP.out, HSM.out, hT4⟩
  · have c3 := hx1.x3
    have f3 := hx1.x.frozen 3 (by omega)
    have hx2 := hx1.setLeft (-1)
    have hT2 : Turn q.has w1 (w1.setCell ⟨q.gx, 3, none⟩ (.int .i64 (-1))) := Turn.set_ (a := ⟨q.gx, 3, none⟩) (has_x q) _
    have HW := Lib.hid (lift_ok (h1.otherT hT2 HPQ.out))
    have HSM := Lib.hid hs.lift
    have HX2 := Lib.hid hx2
    have HT2 := Lib.hid hT2
    clear hx2 hT2
    go_enter Try.func11, Try.ntmps11
    go_upto_region 1 with (fail)
    rw [← HB.out, ← HW1.out]
    go_wp2_with (go_at_call 20; (with_reducible refine HW.out.mono ?_); rintro e w4 ⟨rfl, hR4, hC4⟩)
    go_ret
    have hT4 := ((Turn.of (H := Both p q) hO).trans (HT2.out.mono (fun b hb => Or.inr hb))).trans (hC4.turn.mono (fun b hb => Or.inl hb))
    exact ⟨rfl, _, _, hR4, HX2.out.other hC4.turn HQP.out, HSM.out, hT4⟩
  · have HW := Lib.hid (wipe_any h1.drew d)
    obtain ⟨E, hEE⟩ : ∃ E, E = thereE p d 0 := ⟨_, rfl⟩
    have HEE := Lib.hid hEE
    rw [← hEE] at HW
    clear hEE
    
    go_enter Try.func11, Try.ntmps11
    go_upto_region 1 with (fail)
    rw [← HB.out, ← HW1.out]
    go_wp2_with fail
    go_region_held3 (fun w' => w'.cell? ⟨b, 1, none⟩ = some (.int .i64 d))
      (first | exact q1 | exact k1 | exact n1 | go_keep)
      (first
        | (go_at_call 23; refine HW.out.mono ?_; rintro e w4 ⟨rfl, hR4, hC4⟩; have k1 := hC4.turn.cellv q1 nbp; have k2 := hC4.turn.cellv q2 nbp; have k3 := hC4.turn.cellv q3 nbp; have HX := Lib.hid (wipe_ref (hx1.drew.other hC4.turn HQP.out) d); have HX2 := HX.out; rw [hs.thereC d 0, ← HEE.out] at HX2; have HX2 := Lib.hid HX2)
        | (go_at_call 27; refine HX2.out.mono ?_; rintro e w5 ⟨rfl, hx5, hT5⟩; have n1 := hT5.cellv k1 nbq; have n2 := hT5.cellv k2 nbq; have n3 := hT5.cellv k3 nbq))
    all_goals
      go_wp2
      go_ret
      have hT4 := (Turn.of (H := Both p q) ((hO.drew))).trans (hC4.turn.mono (fun b hb => Or.inl hb))
      exact ⟨rfl, doWipe p s d, wipeR q r d, hR4.otherT hT5 HPQ.out, hx5, hs.wipe d, hT4.trans (hT5.mono (fun b hb => Or.inr hb))⟩
  · have HW := Lib.hid (spoil_any h1.drew d x)
    obtain ⟨E, hEE⟩ : ∃ E, E = thereE p d x := ⟨_, rfl⟩
    have HEE := Lib.hid hEE
    rw [← hEE] at HW
    clear hEE
    
    go_enter Try.func11, Try.ntmps11
    go_upto_region 1 with (fail)
    rw [← HB.out, ← HW1.out]
    go_wp2_with fail
    go_region_held3 (fun w' => w'.cell? ⟨b, 1, none⟩ = some (.int .i64 d) ∧ w'.cell? ⟨b, 2, none⟩ = some (.int .i64 x))
      (first | exact ⟨q1, q2⟩ | exact ⟨k1, k2⟩ | exact ⟨n1, n2⟩ | go_keep)
      (first
        | (go_at_call 22; refine HW.out.mono ?_; rintro e w4 ⟨rfl, hR4, hC4⟩; have k1 := hC4.turn.cellv q1 nbp; have k2 := hC4.turn.cellv q2 nbp; have k3 := hC4.turn.cellv q3 nbp; have HX := Lib.hid (spoil_ref (hx1.drew.other hC4.turn HQP.out) d x); have HX2 := HX.out; rw [hs.thereC d x, ← HEE.out] at HX2; have HX2 := Lib.hid HX2)
        | (go_at_call 28; refine HX2.out.mono ?_; rintro e w5 ⟨rfl, hx5, hT5⟩; have n1 := hT5.cellv k1 nbq; have n2 := hT5.cellv k2 nbq; have n3 := hT5.cellv k3 nbq))
    all_goals
      go_wp2
      go_ret
      have hT4 := (Turn.of (H := Both p q) ((hO.drew))).trans (hC4.turn.mono (fun b hb => Or.inl hb))
      exact ⟨rfl, doSpoil p s d x, spoilR q r d x, hR4.otherT hT5 HPQ.out, hx5, hs.spoil d x, hT4.trans (hT5.mono (fun b hb => Or.inr hb))⟩
end
