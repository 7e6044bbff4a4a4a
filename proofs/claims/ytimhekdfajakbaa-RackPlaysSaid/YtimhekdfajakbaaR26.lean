import Derived.Test.YtimhekdfajakbaaR25
namespace Go.Proofs.Ytimhekdfajakbaa
open Go.RowKit
def wipedR (r : Rf) (d k : Nat) : Rf := { r with sec := fun a b => if a = d ∧ b < k then zero64 else r.sec a b, bad := fun a b => if a = d ∧ b < k then false else r.bad a b }
section
variable {w : World} {q : Ql} {r : Rf}
theorem RefAt.congr {r' : Rf} (h : RefAt w q r) (h1 : r'.left = r.left) (h2 : ∀ a b, r'.sec a b = r.sec a b) (h3 : ∀ a b, r'.bad a b = r.bad a b) (h4 : ∀ a, r'.cnt a = r.cnt a) : RefAt w q r' := by
  have : r' = r := by
    obtain ⟨l', s', b', c'⟩ := r'
    obtain ⟨l, s, b, c⟩ := r
    simp only at h1 h2 h3 h4
    obtain rfl := h1
    obtain rfl := funext fun a => funext fun b => h2 a b
    obtain rfl := funext fun a => funext fun b => h3 a b
    obtain rfl := funext fun a => h4 a
    rfl
  rw [this]; exact h
theorem RefAt.wipe0 (h : RefAt w q r) (d : Nat) : RefAt w q (wipedR r d 0) :=
  h.congr rfl (fun a b => if_neg (fun h => by omega)) (fun a b => if_neg (fun h => by omega)) (fun _ => rfl)
theorem RefAt.wipeS (d k : Nat) (h : RefAt w q { wipedR r d k with sec := setNN (wipedR r d k).sec d k zero64, bad := setNN (wipedR r d k).bad d k false }) : RefAt w q (wipedR r d (k + 1)) := by
  refine h.congr rfl (fun a b => ?_) (fun a b => ?_) (fun _ => rfl)
  · show (if a = d ∧ b < k + 1 then zero64 else r.sec a b) = if a = d ∧ b = k then zero64 else if a = d ∧ b < k then zero64 else r.sec a b
    by_cases e1 : a = d ∧ b = k
    · rw [if_pos e1, if_pos ⟨e1.1, by omega⟩]
    · rw [if_neg e1]
      by_cases e2 : a = d ∧ b < k
      · rw [if_pos e2, if_pos ⟨e2.1, by omega⟩]
      · rw [if_neg e2, if_neg (fun h => by
          by_cases e3 : b = k
          · exact e1 ⟨h.1, e3⟩
          · exact e2 ⟨h.1, by omega⟩)]
  · show (if a = d ∧ b < k + 1 then false else r.bad a b) = if a = d ∧ b = k then false else if a = d ∧ b < k then false else r.bad a b
    by_cases e1 : a = d ∧ b = k
    · rw [if_pos e1, if_pos ⟨e1.1, by omega⟩]
    · rw [if_neg e1]
      by_cases e2 : a = d ∧ b < k
      · rw [if_pos e2, if_pos ⟨e2.1, by omega⟩]
      · rw [if_neg e2, if_neg (fun h => by
          by_cases e3 : b = k
          · exact e1 ⟨h.1, e3⟩
          · exact e2 ⟨h.1, by omega⟩)]
def wipeR (q : Ql) (r : Rf) (d : Int) : Rf := if thereN q.nd q.ns d 0 then wipedR r d.toNat q.ns else r
set_option maxRecDepth 100000 in
theorem wipe_ref (h : RefAt w q r) (d : Int) : Calls Try.prog 27 #[.pointer (some ⟨q.gx, 0, none⟩), .int .i64 d] w fun e w' => e = .returned (.int .i64 (thereR q d 0)) ∧ RefAt w' q (wipeR q r d) ∧ Turn q.has w w' := by
  have HT := there_ref h d 0
  unfold thereR wipeR
  cases ht : thereN q.nd q.ns d 0
  · rw [ht] at HT
    have HT := Lib.hid HT
    clear ht
    simp only [Bool.false_eq_true, if_false]
    go_enter Try.func27, Try.ntmps27
    go_wp2_with (go_at_call 34; (with_reducible refine HT.out.mono ?_); rintro e w1 ⟨rfl, hE⟩)
    go_ret
    exact ⟨rfl, h.ext hE, Turn.of hE⟩
  · rw [ht] at HT
    obtain ⟨i, rfl, hi⟩ := thereN_nat0 ht
    have kd : (i : Int) < (q.nd : Int) := by omega
    have kd0 : (0 : Int) ≤ (i : Int) := by omega
    have HT := Lib.hid HT
    clear ht
    simp only [if_true, Int.toNat_natCast]
    have hns := h.n4
    go_enter Try.func27, Try.ntmps27
    go_wp2_with (go_at_call 34; (with_reducible refine HT.out.mono ?_); rintro e w1 ⟨rfl, hE⟩)
    have hR1 := (h.ext hE).wipe0 i
    have hT1 : Turn q.has w w1 := Turn.of hE
    go_loopw [5] (fun x wr => ∃ k : Nat, k ≤ q.ns ∧ x = .int .i64 k ∧ RefAt wr q (wipedR r i k) ∧ Turn q.has w wr) (fun x _ => q.ns - (intOf x).toNat)
    case atStart => exact ⟨0, by omega, rfl, hR1, hT1⟩
    case round =>
      obtain ⟨k, hk, rfl, hR2, hT2⟩ := hrel
      clear hR1 hT1
      have q1 := hR2.x0
      have q2 := hR2.s.cell i hi
      by_cases hk2 : k < q.ns
      · have kk : (k : Int) < (q.ns : Int) := by omega
        have kk0 : (0 : Int) ≤ (k : Int) := by omega
        have q3 := (hR2.ss i hi).cell k hk2
        obtain ⟨qs, hqs⟩ : ∃ s, s = (wipedR r i k).sec i k := ⟨_, rfl⟩
        rw [← hqs] at q3
        clear hqs
        go_wp2_with fail
        go_region_held3 (fun w' => w'.cell? ⟨q.gx, 0, none⟩ = some (.slice (some ⟨q.gS, 0, none⟩) q.nd q.cS) ∧ w'.cell? ⟨q.gS, i, none⟩ = some (.slice (some ⟨q.hS i, 0, none⟩) q.ns (q.cs i)))
          (first | exact ⟨q1, q2⟩ | exact ⟨k1, k2⟩ | exact ⟨m1, m2⟩ | go_keep)
          (first | (go_at_call 24; refine (none_ref _).mono ?_; rintro e w3 ⟨rfl, hE3⟩; have hE3 : Ext wr w3 := Ext.trans (Ext.drew (Ext.refl _)) hE3; have hR3 := hR2.ext hE3; have k1 := hR3.x0; have k2 := hR3.s.cell i hi; have k3 := (hR3.ss i hi).cell k hk2; have f3 := (hR3.ss i hi).frozen k hk2; have hR4 := hR3.setSec i k zero64 hi zero64_size; have m1 := hR4.x0; have m2 := hR4.s.cell i hi))
        all_goals
          have hT4 : Turn q.has w (w3.setCell ⟨q.hS i, k, none⟩ (.string zero64)) := (hT2.trans (Turn.of hE3)).trans (Turn.set_ (a := ⟨q.hS i, k, none⟩) (has_s hi) _)
          generalize w3.setCell ⟨q.hS i, k, none⟩ (.string zero64) = w4 at *
          clear q1 q2 q3 k1 k2 k3 f3 m1 m2
          have c1 := hR4.x1
          have c2 := hR4.b.cell i hi
          have c3 := (hR4.bs i hi).cell k hk2
          have f3 := (hR4.bs i hi).frozen k hk2
          have hR5 := RefAt.wipeS (r := r) i k (hR4.setBad i k false hi)
          go_wp2
          go_roundw
          case rel => exact ⟨k + 1, by omega, by go_num, hR5, hT4.trans (Turn.set_ (a := ⟨q.hB i, k, none⟩) (has_b hi) _)⟩
          case measure => simp [intOf]; omega
      · obtain rfl : q.ns = k := by omega
        go_wp2
        go_ret
        exact ⟨rfl, hR2, hT2⟩
end
