import Derived.Test.YtbpicdjpgbboiaaW14
namespace Go.Proofs.Ytbpicdjpgbboiaa
open Go.RowKit Go.Nb
/-- Do keys rise? -/
def upB : List Pr → Bool
  | [] => true
  | [_] => true
  | p :: q :: l => Op.bytesLess p.k q.k && upB (q :: l)
theorem upB_step {l : List Pr} {k : Nat} (h : k + 1 < l.length) : upB (l.drop k) = (Op.bytesLess (l.getD k default).k (l.getD (k + 1) default).k && upB (l.drop (k + 1))) := by
  rw [drop_cons (by omega), drop_cons h]
  rfl
theorem upB_last {l : List Pr} {k : Nat} (h : l.length ≤ k + 1) : upB (l.drop k) = true := by
  cases hd : l.drop k with
  | nil => rfl
  | cons p r =>
    have : (l.drop k).length ≤ 1 := by rw [List.length_drop]; omega
    rw [hd] at this
    cases r with
    | nil => rfl
    | cons q r => simp at this
/-- May pairs be a block? -/
def mayB (l : List Pr) : Bool := decide (1 ≤ l.length) && (decide (l.length ≤ 4096) && (!(l.any badP) && upB l))
set_option maxRecDepth 100000 in
theorem may_any {w : World} {A : Option Addr} {n c : Nat} {l : List Pr} (h : PRd w A n l) (hn : n ≤ 1048576) (hc : n ≤ c) : Calls Try.prog 14 #[.slice A n c] w fun e w' => e = .returned (.bool (mayB l)) ∧ Ext w w' := by
  have HL := Lib.hid h.1
  have hnc : (n : Int) ≤ (c : Int) := by omega
  have HC := Lib.hid (fun w' (hE : Ext w w') => containsFunc_any (c := c) (h.ext hE) hn)
  by_cases h1 : n < 1
  · have t1 : decide ((n : Int) < 1) = true := by simp; omega
    have e1 : mayB l = false := by unfold mayB; rw [HL.out]; simp; omega
    rw [e1]
    clear h1 e1
    go_enter Try.func14, Try.ntmps14
    go_wp2
    go_ret
    exact ⟨rfl, Ext.refl w⟩
  · have t1 : decide ((n : Int) < 1) = false := by simp; omega
    by_cases h2 : 4096 < n
    · have t2 : decide ((4096 : Int) < (n : Int)) = true := by simp; omega
      have e1 : mayB l = false := by unfold mayB; rw [HL.out]; simp; omega
      rw [e1]
      clear h1 h2 e1
      go_enter Try.func14, Try.ntmps14
      go_wp2
      go_ret
      exact ⟨rfl, Ext.refl w⟩
    · have t2 : decide ((4096 : Int) < (n : Int)) = false := by simp; omega
      have e1 : mayB l = (!(l.any badP) && upB l) := by
        unfold mayB; rw [HL.out]
        have a1 : decide (1 ≤ n) = true := by simp; omega
        have a2 : decide (n ≤ 4096) = true := by simp; omega
        rw [a1, a2]; rfl
      rw [e1]
      cases hb : l.any badP
      · rw [hb] at HC
        clear hb e1
        obtain ⟨m, rfl⟩ : ∃ m, n = m + 1 := ⟨n - 1, by omega⟩
        by_cases hm : m = 0
        · subst hm
          have hu := upB_last (l := l) (k := 0) (by rw [HL.out]; omega)
          rw [List.drop_zero] at hu
          rw [hu]
          clear hu
          go_enter Try.func14, Try.ntmps14
          go_wp2_with (go_at_call 31; (with_reducible refine (HC.out _ (Ext.refl _)).mono ?_); rintro e w2 ⟨rfl, hE2⟩)
          all_goals
            go_loopw [22] (fun iv wr => iv = .int .i64 0 ∧ Ext w wr) (fun iv _ => 0)
            case atStart => exact ⟨rfl, hE2⟩
            case round =>
              obtain ⟨rfl, hE⟩ := hrel
              go_wp2
              go_ret
              exact ⟨rfl, hE⟩
        · have hcne : ¬ c = 1 := by omega
          have hcnI : ¬ (c : Int) = 1 := by omega
          obtain ⟨g, o, rfl, hcell⟩ := h.2.at_ (by omega) (by omega)
          have HCL := Lib.hid hcell
          clear hcell
          go_enter Try.func14, Try.ntmps14
          go_wp2_with (go_at_call 31; (with_reducible refine (HC.out _ (Ext.refl _)).mono ?_); rintro e w2 ⟨rfl, hE2⟩)
          go_loopw [22] (fun iv wr => ∃ k : Nat, k ≤ m ∧ iv = .int .i64 k ∧ Hid (upB l = upB (l.drop k)) ∧ Ext w wr) (fun iv _ => m - (intOf iv).toNat)
          case atStart => exact ⟨0, by omega, rfl, Lib.hid rfl, hE2⟩
          case round =>
            obtain ⟨k, hk, rfl, hs, hE⟩ := hrel
            by_cases hk2 : k < m
            · have kk : (k : Int) < (m : Int) := by omega
              have kk0 : (0 : Int) ≤ (k : Int) := by omega
              have hst := upB_step (l := l) (k := k) (by rw [HL.out]; omega)
              have hT := toList_Bt
              have c0 : wr.cell? ⟨g, o + k * 2, none⟩ = some (.string (Bt (l.getD k default).k)) := by
                have := hE.cellv (HCL.out k 0 (by omega) (by omega))
                simpa [prF] using this
              have c2 : wr.cell? ⟨g, o + 2 + k * 2, none⟩ = some (.string (Bt (l.getD (k + 1) default).k)) := by
                have := hE.cellv (HCL.out (k + 1) 0 (by omega) (by omega))
                rw [show o + (k + 1) * 2 + 0 = o + 2 + k * 2 by omega] at this
                simpa [prF] using this
              have c3 : wr.cell? ⟨g, o + 2 + k * 2 + 1, none⟩ = some (.string (Bt (l.getD (k + 1) default).v)) := by
                have := hE.cellv (HCL.out (k + 1) 1 (by omega) (by omega))
                rw [show o + (k + 1) * 2 + 1 = o + 2 + k * 2 + 1 by omega] at this
                simpa [prF] using this
              generalize (l.getD k default).k = x at *
              generalize (l.getD (k + 1) default).k = y at *
              generalize (l.getD (k + 1) default).v = z at *
              have q0 : (wr.alloc (.cells #[.string (Bt y), .string (Bt z)] 36)).cell? ⟨wr.heap.size, 0, none⟩ = some (.string (Bt y)) := (Blk.new wr 36 _).cell 0
              have q1 : (wr.alloc (.cells #[.string (Bt y), .string (Bt z)] 36)).cell? ⟨g, o + k * 2, none⟩ = some (.string (Bt x)) := ((Ext.refl wr).alloc _).cellv c0
              have hE3 := hE.alloc (.cells #[.string (Bt y), .string (Bt z)] 36)
              cases hlt : Op.bytesLess x y
              · have hs2 : upB l = false := by rw [hs.out, hst, hlt]; rfl
                have HS2 := Lib.hid hs2
                clear hs2 hst
                go_wp2
                go_quiet (fail)
                go_wp2
                go_ret
                exact ⟨by rw [HS2.out]; rfl, hE3.drewN _⟩
              · have hs2 : upB l = upB (l.drop (k + 1)) := by rw [hs.out, hst, hlt]; rfl
                have HS2 := Lib.hid hs2
                clear hs2 hst
                go_wp2
                go_quiet (fail)
                go_wp2
                exact ⟨⟨k + 1, by omega, rfl, HS2, hE3.drewN _⟩, by simp [intOf]; omega⟩
            · have kk : ¬ (k : Int) < (m : Int) := by omega
              have hs2 : upB l = true := by rw [hs.out, upB_last (by rw [HL.out]; omega)]
              have HS2 := Lib.hid hs2
              clear hs2
              go_wp2
              go_ret
              exact ⟨by rw [HS2.out]; rfl, hE⟩
      · rw [hb] at HC
        clear hb e1
        go_enter Try.func14, Try.ntmps14
        go_wp2_with (go_at_call 31; (with_reducible refine (HC.out _ (Ext.refl _)).mono ?_); rintro e w2 ⟨rfl, hE2⟩)
        go_ret
        exact ⟨rfl, hE2⟩
