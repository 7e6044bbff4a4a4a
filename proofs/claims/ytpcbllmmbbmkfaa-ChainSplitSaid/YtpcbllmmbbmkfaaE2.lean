import Derived.Test.YtpcbllmmbbmkfaaE1
import Derived.Deep.LoopGhost
namespace Go.Proofs.Ytpcbllmmbbmkfaa
open Go.RowKit
set_option maxRecDepth 100000 in
theorem none_any (r : Rf) (B : Option Addr) (c : Nat) (w : World) : Calls Try.prog 30 #[.agg #[.int .i64 r.len, .slice B r.ps.length c]] w fun e w' => e = .returned (.bool (noneR r)) ∧ Ext w w' := by
  obtain ⟨L, ps⟩ := r
  have hB : noneR ⟨L, ps⟩ = (decide (L = 0) && decide (ps.length = 0)) := rfl
  rw [hB]
  clear hB
  generalize ps.length = m
  by_cases h1 : L = 0
  · subst h1
    by_cases h2 : m = 0
    · subst h2
      go_enter Try.func30, Try.ntmps30
      go_wp2
      go_ret
      exact ⟨rfl, (Ext.refl w).alloc _⟩
    · have t1 : ((m : Int) == 0) = false := by rw [beq_eq_false_iff_ne]; omega
      go_enter Try.func30, Try.ntmps30
      go_wp2
      go_ret
      exact ⟨by simp [h2], (Ext.refl w).alloc _⟩
  · have t1 : (L == 0) = false := by rw [beq_eq_false_iff_ne]; omega
    go_enter Try.func30, Try.ntmps30
    go_wp2
    go_ret
    exact ⟨by simp [h1], (Ext.refl w).alloc _⟩
set_option maxRecDepth 100000 in
theorem rnone_any (r : Rf) (B : Option Addr) (c : Nat) (w : World) : Calls Try.prog 34 #[.agg #[.int .i64 r.len, .slice B r.ps.length c]] w fun e w' => e = .returned (.bool (noneR r)) ∧ Ext w w' := by
  obtain ⟨L, ps⟩ := r
  have hB : noneR ⟨L, ps⟩ = (decide (L = 0) && decide (ps.length = 0)) := rfl
  rw [hB]
  clear hB
  generalize ps.length = m
  by_cases h1 : L = 0
  · subst h1
    by_cases h2 : m = 0
    · subst h2
      go_enter Try.func34, Try.ntmps34
      go_wp2
      go_ret
      exact ⟨rfl, (Ext.refl w).alloc _⟩
    · have t1 : ((m : Int) == 0) = false := by rw [beq_eq_false_iff_ne]; omega
      go_enter Try.func34, Try.ntmps34
      go_wp2
      go_ret
      exact ⟨by simp [h2], (Ext.refl w).alloc _⟩
  · have t1 : (L == 0) = false := by rw [beq_eq_false_iff_ne]; omega
    go_enter Try.func34, Try.ntmps34
    go_wp2
    go_ret
    exact ⟨by simp [h1], (Ext.refl w).alloc _⟩
theorem drop_pc {l : List Pc} {k : Nat} (h : k < l.length) : l.drop k = l.getD k default :: l.drop (k + 1) := by
  rw [List.drop_eq_getElem_cons h, List.getD_eq_getElem?_getD, List.getElem?_eq_getElem h, Option.getD_some]
theorem mayRs_step {l : List Pc} {k : Nat} (h : k < l.length) (left : Int) : mayRs left (l.drop k) = (mayP (l.getD k default) && (decide ((l.getD k default).len ≤ left) && mayRs (left - (l.getD k default).len) (l.drop (k + 1)))) := by
  rw [drop_pc h]; rfl
theorem mayP_len {p : Pc} (h : mayP p = true) : 1 ≤ p.len ∧ p.len ≤ 131072 := by
  unfold mayP at h
  simp only [Bool.and_eq_true, decide_eq_true_eq] at h
  omega
set_option maxRecDepth 100000 in
theorem mayRef_any {w : World} (r : Rf) {B : Option Addr} {c : Nat} (h : PcRd w B r.ps.length r.ps) (hn : r.ps.length ≤ 1048576) : Calls Try.prog 45 #[.agg #[.int .i64 r.len, .slice B r.ps.length c]] w fun e w' => e = .returned (.bool (mayR r)) ∧ Ext w w' := by
  obtain ⟨L, ps⟩ := r
  replace h : PcRd w B ps.length ps := h
  replace hn : ps.length ≤ 1048576 := hn
  have hB : mayR ⟨L, ps⟩ = (decide (1 ≤ L) && (decide (L ≤ 131072) && (decide (1 ≤ ps.length) && (decide (ps.length ≤ 512) && mayRs L ps)))) := rfl
  rw [hB]
  clear hB
  obtain ⟨m, hm⟩ : ∃ m, m = ps.length := ⟨_, rfl⟩
  show Calls Try.prog 45 #[.agg #[.int .i64 L, .slice B ps.length c]] w _
  rw [← hm] at h hn ⊢
  by_cases h1 : 1 ≤ L
  · by_cases h2 : L ≤ 131072
    · by_cases h3 : 1 ≤ m
      · by_cases h4 : m ≤ 512
        · have t1 : decide (L < 1) = false := by simp; omega
          have t2 : decide ((131072 : Int) < L) = false := by simp; omega
          have t3 : decide ((m : Int) < 1) = false := by simp; omega
          have t4 : decide ((512 : Int) < (m : Int)) = false := by simp; omega
          rw [decide_eq_true h1, decide_eq_true h2, decide_eq_true h3, decide_eq_true h4]
          simp only [Bool.true_and]
          obtain ⟨g, o, rfl, _⟩ := h.at_ 0 (by omega)
          have HC := Lib.hid (fun k (hk : k < m) => h.at_ k hk)
          have HM := Lib.hid hm
          have H12 := Lib.hid (And.intro h1 h2)
          clear h hn h1 h2 h3 hm
          go_enter Try.func45, Try.ntmps45
          go_wp2
          go_loopw [3, 31] (fun lv iv wr => ∃ (k : Nat) (L2 : Int), k ≤ m ∧ lv = .int .i64 L2 ∧ iv = .int .i64 k ∧ Hid (mayRs L ps = mayRs L2 (ps.drop k)) ∧ Hid (0 ≤ L2 ∧ L2 ≤ 131072) ∧ Ext w wr) (fun _ iv _ => m - (intOf iv).toNat)
          case atStart => exact ⟨0, L, by omega, rfl, rfl, Lib.hid rfl, Lib.hid ⟨by have := H12.out; omega, H12.out.2⟩, (Ext.refl w).alloc _⟩
          case round =>
            obtain ⟨k, L2, hk, rfl, rfl, hs, hL2, hE⟩ := hrel
            by_cases hk2 : k < m
            · have kk : (k : Int) < (m : Int) := by omega
              have kk0 : (0 : Int) ≤ (k : Int) := by omega
              obtain ⟨g', o', eA, c0, c1, c2⟩ := HC.out k hk2
              cases eA
              replace c0 := hE.cellv c0
              replace c1 := hE.cellv c1
              replace c2 := hE.cellv c2
              have hst := mayRs_step (l := ps) (k := k) (by rw [← HM.out]; omega) L2
              obtain ⟨p, hp⟩ : ∃ p, p = ps.getD k default := ⟨_, rfl⟩
              rw [← hp] at c0 c1 c2 hst
              have box2 : (wr.alloc (.cells #[.int .i64 p.row, .int .u64 p.st, .int .i64 p.len] 39)).cell? ⟨wr.heap.size, 2, none⟩ = some (.int .i64 p.len) := (Blk.new wr 39 _).cell 2
              have hEb := hE.alloc (.cells #[.int .i64 p.row, .int .u64 p.st, .int .i64 p.len] 39)
              cases hmp : mayP p
              · have HMP : Hid (∀ w, Calls Try.prog 46 #[.agg #[.int .i64 p.row, .int .u64 p.st, .int .i64 p.len]] w fun e w' => e = .returned (.bool false) ∧ Ext w w') := Lib.hid (fun w => by have := mayPiece_any p w; rw [hmp] at this; exact this)
                have HST : Hid (mayRs L ps = false) := Lib.hid (by rw [hs.out, hst, hmp]; rfl)
                clear hst hp hmp hs
                go_wp2_with (go_at_call 46; (with_reducible refine (HMP.out _).mono ?_); rintro e w3 ⟨rfl, hE3⟩; have q2 := hE3.cellv box2)
                go_ret
                exact ⟨by rw [HST.out]; rfl, hEb.trans hE3⟩
              · have HMP : Hid (∀ w, Calls Try.prog 46 #[.agg #[.int .i64 p.row, .int .u64 p.st, .int .i64 p.len]] w fun e w' => e = .returned (.bool true) ∧ Ext w w') := Lib.hid (fun w => by have := mayPiece_any p w; rw [hmp] at this; exact this)
                have hpl := mayP_len hmp
                have hLL := hL2.out
                by_cases hle : p.len ≤ L2
                · have t5 : decide (L2 < p.len) = false := by simp; omega
                  have HST : Hid (mayRs L ps = mayRs (L2 - p.len) (ps.drop (k + 1))) := Lib.hid (by rw [hs.out, hst, hmp, decide_eq_true hle]; rfl)
                  have hw : IntKind.i64.wrap (L2 - p.len) = L2 - p.len := IntWalk.i64_in _ (by omega)
                  have HN : Hid (0 ≤ L2 - p.len ∧ L2 - p.len ≤ 131072) := Lib.hid (by omega)
                  clear hst hp hmp hs hpl hLL hle hL2
                  go_wp2_with (go_at_call 46; (with_reducible refine (HMP.out _).mono ?_); rintro e w3 ⟨rfl, hE3⟩; have q2 := hE3.cellv box2)
                  exact ⟨⟨k + 1, L2 - p.len, by omega, rfl, rfl, HST, HN, hEb.trans hE3⟩, by simp [intOf]; omega⟩
                · have t5 : decide (L2 < p.len) = true := by simp; omega
                  have HST : Hid (mayRs L ps = false) := Lib.hid (by rw [hs.out, hst, hmp, decide_eq_false hle]; rfl)
                  clear hst hp hmp hs hpl hLL hle hL2
                  go_wp2_with (go_at_call 46; (with_reducible refine (HMP.out _).mono ?_); rintro e w3 ⟨rfl, hE3⟩; have q2 := hE3.cellv box2)
                  go_ret
                  exact ⟨by rw [HST.out]; rfl, hEb.trans hE3⟩
            · obtain rfl : k = m := by omega
              have kk : ¬ (k : Int) < (k : Int) := by omega
              have HST : Hid (mayRs L ps = decide (L2 = 0)) := Lib.hid (by rw [hs.out, List.drop_of_length_le (by rw [← HM.out]; omega)]; rfl)
              by_cases hz : L2 = 0
              · have HZ := Lib.hid hz
                subst hz
                clear hs hL2
                go_wp2
                go_ret
                exact ⟨by rw [HST.out]; rfl, hE⟩
              · have tz : (L2 == 0) = false := by rw [beq_eq_false_iff_ne]; exact hz
                have HZ := Lib.hid hz
                clear hs hL2 hz
                go_wp2
                go_ret
                exact ⟨by rw [HST.out, decide_eq_false HZ.out]; rfl, hE⟩
        · have t1 : decide (L < 1) = false := by simp; omega
          have t2 : decide ((131072 : Int) < L) = false := by simp; omega
          have t3 : decide ((m : Int) < 1) = false := by simp; omega
          have t4 : decide ((512 : Int) < (m : Int)) = true := by simp; omega
          rw [decide_eq_false h4]
          simp only [Bool.false_and, Bool.and_false]
          clear h1 h2 h3 h4 h hm
          go_enter Try.func45, Try.ntmps45
          go_wp2
          go_ret
          exact ⟨rfl, (Ext.refl w).alloc _⟩
      · have t1 : decide (L < 1) = false := by simp; omega
        have t2 : decide ((131072 : Int) < L) = false := by simp; omega
        have t3 : decide ((m : Int) < 1) = true := by simp; omega
        rw [decide_eq_false h3]
        simp only [Bool.false_and, Bool.and_false]
        clear h1 h2 h3 h hm
        go_enter Try.func45, Try.ntmps45
        go_wp2
        go_ret
        exact ⟨rfl, (Ext.refl w).alloc _⟩
    · have t1 : decide (L < 1) = false := by simp; omega
      have t2 : decide ((131072 : Int) < L) = true := by simp; omega
      rw [decide_eq_false h2]
      simp only [Bool.false_and, Bool.and_false]
      clear h1 h2 h hm
      go_enter Try.func45, Try.ntmps45
      go_wp2
      go_ret
      exact ⟨rfl, (Ext.refl w).alloc _⟩
  · have t1 : decide (L < 1) = true := by simp; omega
    rw [decide_eq_false h1]
    simp only [Bool.false_and]
    clear h1 h hm
    go_enter Try.func45, Try.ntmps45
    go_wp2
    go_ret
    exact ⟨rfl, (Ext.refl w).alloc _⟩
