import Derived.Test.YtpcbllmmbbmkfaaE5
namespace Go.Proofs.Ytpcbllmmbbmkfaa
open Go.RowKit
theorem ret_bool {a b : Bool} (h : a = b) : Ending.returned (.bool a) = Ending.returned (.bool b) := by rw [h]
theorem list_ext_P {a b : List Pc} (hl : a.length = b.length) (h : ∀ i, i < a.length → a.getD i default = b.getD i default) : a = b := by
  apply List.ext_getElem hl
  intro i h1 h2
  have := h i h1
  rwa [List.getD_eq_getElem?_getD, List.getD_eq_getElem?_getD, List.getElem?_eq_getElem h1, List.getElem?_eq_getElem h2] at this
theorem pc_eq (p q : Pc) : (p.row == q.row && (p.st == q.st && p.len == q.len)) = decide (p = q) := by
  obtain ⟨a, b, c⟩ := p
  obtain ⟨d, e, f⟩ := q
  by_cases h1 : a = d <;> by_cases h2 : b = e <;> by_cases h3 : c = f <;> simp [h1, h2, h3]
set_option maxRecDepth 100000 in
theorem equal_any {w : World} {A B : Option Addr} {n c m c' : Nat} {a b : List Pc} (ha : PcRd w A n a) (hb : PcRd w B m b) (hn : n ≤ 1048576) (hm : m ≤ 1048576) : Calls Try.prog 26 #[.slice A n c, .slice B m c'] w fun e w' => e = .returned (.bool (decide (a = b))) ∧ Ext w w' := by
  have HA := Lib.hid ha.1
  have HB := Lib.hid hb.1
  have HPA := Lib.hid ha
  have HPB := Lib.hid hb
  clear ha hb
  by_cases hnm : n = m
  · subst hnm
    have t1 : ((n : Int) != (n : Int)) = false := by simp
    go_enter Try.func26, Try.ntmps26
    go_wp2
    go_loopw [13] (fun iv wr => ∃ k : Nat, k ≤ n ∧ iv = .int .i64 k ∧ Hid (∀ i, i < k → a.getD i default = b.getD i default) ∧ Ext w wr) (fun iv _ => n - (intOf iv).toNat)
    case atStart => exact ⟨0, by omega, rfl, Lib.hid (fun i hi => by omega), Ext.refl _⟩
    case round =>
      obtain ⟨k, hk, rfl, hs, hE0⟩ := hrel
      have hE : Ext w wr := hE0
      by_cases hk2 : k < n
      · have kk : (k : Int) < (n : Int) := by omega
        have kk0 : (0 : Int) ≤ (k : Int) := by omega
        obtain ⟨g, o, rfl, c0, c1, c2⟩ := (HPA.out.ext hE).at_ k hk2
        obtain ⟨g2, o2, rfl, d0, d1, d2⟩ := (HPB.out.ext hE).at_ k hk2
        obtain ⟨p, hp⟩ : ∃ p, p = a.getD k default := ⟨_, rfl⟩
        obtain ⟨q, hq⟩ : ∃ p, p = b.getD k default := ⟨_, rfl⟩
        rw [← hp] at c0 c1 c2
        rw [← hq] at d0 d1 d2
        have heq := eqPc p.row p.st p.len q.row q.st q.len
        have hpq := pc_eq p q
        rw [hpq] at heq
        by_cases he : p = q
        · rw [decide_eq_true he] at heq
          have HS2 : Hid (∀ i, i < k + 1 → a.getD i default = b.getD i default) := Lib.hid (fun i hi => by
            by_cases hik : i = k
            · rw [hik, ← hp, ← hq, he]
            · exact hs.out i (by omega))
          clear he hpq hp hq
          go_wp2
          go_quiet (fail)
          go_wp2
          exact ⟨⟨k + 1, by omega, rfl, HS2, hE0.drewN _⟩, by simp [intOf]; omega⟩
        · rw [decide_eq_false he] at heq
          have HS2 : Hid (a ≠ b) := Lib.hid (fun h => he (by rw [hp, hq, h]))
          clear he hpq hp hq
          go_wp2
          go_quiet (fail)
          go_wp2
          go_ret
          exact ⟨ret_bool (decide_eq_false HS2.out).symm, hE.drewN _⟩
      · have kk : ¬ (k : Int) < (n : Int) := by omega
        have HS2 : Hid (a = b) := Lib.hid (list_ext_P (HA.out.trans HB.out.symm) (fun i hi => hs.out i (by have := HA.out; omega)))
        go_wp2
        go_ret
        exact ⟨ret_bool (decide_eq_true HS2.out).symm, hE⟩
  · have t1 : ((n : Int) != (m : Int)) = true := by simp; omega
    go_enter Try.func26, Try.ntmps26
    go_wp2
    go_ret
    exact ⟨ret_bool (decide_eq_false (fun h => hnm (by rw [← HA.out, ← HB.out, h]))).symm, Ext.refl w⟩
set_option maxRecDepth 100000 in
set_option maxHeartbeats 1000000 in
theorem rsameBody_any {w : World} {A B : Option Addr} {n c m c' : Nat} {a b : List Pc} (L M : Int) (ha : PcRd w A n a) (hb : PcRd w B m b) (hn : n ≤ 1048576) (hm : m ≤ 1048576) : Calls Try.prog 44 #[.agg #[.int .i64 L, .string ⟨#[]⟩, .slice A n c], .agg #[.int .i64 M, .string ⟨#[]⟩, .slice B m c']] w fun e w' => e = .returned (.bool (decide (L = M ∧ a = b))) ∧ Ext w w' := by
  have HA := Lib.hid ha.1
  have HB := Lib.hid hb.1
  have HPA := Lib.hid ha
  have HPB := Lib.hid hb
  clear ha hb
  obtain ⟨w0, hw0⟩ : ∃ w0, w0 = (w.alloc (.cells #[.int .i64 L, .string ⟨#[]⟩, .slice A n c] 73)).alloc (.cells #[.int .i64 M, .string ⟨#[]⟩, .slice B m c'] 73) := ⟨_, rfl⟩
  have hX : Ext w w0 := by rw [hw0]; exact ((Ext.refl w).alloc _).alloc _
  have x2 : w0.cell? ⟨w.heap.size, 2, none⟩ = some (.slice A n c) := by
    rw [hw0]; exact ((Ext.refl _).alloc _).cellv ((Blk.new w 73 #[.int .i64 L, .string ⟨#[]⟩, .slice A n c]).cell 2)
  have y2 : w0.cell? ⟨w.heap.size + 1, 2, none⟩ = some (.slice B m c') := by
    have := (Blk.new (w.alloc (.cells #[.int .i64 L, .string ⟨#[]⟩, .slice A n c] 73)) 73 #[.int .i64 M, .string ⟨#[]⟩, .slice B m c']).cell 2
    rw [World.size_alloc, ← hw0] at this
    exact this
  by_cases hLM : L = M
  · subst hLM
    have t0 : (L != L) = false := by simp
    by_cases hnm : n = m
    · subst hnm
      have t1 : ((n : Int) != (n : Int)) = false := by simp
      go_enter Try.func44, Try.ntmps44
      go_wp2
      rw [← hw0]
      clear hw0
      go_loopw [5] (fun iv wr => ∃ k : Nat, k ≤ n ∧ iv = .int .i64 k ∧ Hid (∀ i, i < k → a.getD i default = b.getD i default) ∧ Ext w0 wr) (fun iv _ => n - (intOf iv).toNat)
      case atStart => exact ⟨0, by omega, rfl, Lib.hid (fun i hi => by omega), Ext.refl _⟩
      case round =>
        obtain ⟨k, hk, rfl, hs, hE0⟩ := hrel
        have hE : Ext w wr := hX.trans hE0
        have x2 := hE0.cellv x2
        have y2 := hE0.cellv y2
        by_cases hk2 : k < n
        · have kk : (k : Int) < (n : Int) := by omega
          have kk0 : (0 : Int) ≤ (k : Int) := by omega
          obtain ⟨g, o, rfl, c0, c1, c2⟩ := (HPA.out.ext hE).at_ k hk2
          obtain ⟨g2, o2, rfl, d0, d1, d2⟩ := (HPB.out.ext hE).at_ k hk2
          obtain ⟨p, hp⟩ : ∃ p, p = a.getD k default := ⟨_, rfl⟩
          obtain ⟨q, hq⟩ : ∃ p, p = b.getD k default := ⟨_, rfl⟩
          rw [← hp] at c0 c1 c2
          rw [← hq] at d0 d1 d2
          have heq := eqPc p.row p.st p.len q.row q.st q.len
          have hpq := pc_eq p q
          rw [hpq] at heq
          by_cases he : p = q
          · rw [decide_eq_true he] at heq
            have HS2 : Hid (∀ i, i < k + 1 → a.getD i default = b.getD i default) := Lib.hid (fun i hi => by
              by_cases hik : i = k
              · rw [hik, ← hp, ← hq, he]
              · exact hs.out i (by omega))
            clear he hpq hp hq
            go_wp2
            go_quiet (fail)
            go_wp2
            exact ⟨⟨k + 1, by omega, rfl, HS2, hE0.drewN _⟩, by simp [intOf]; omega⟩
          · rw [decide_eq_false he] at heq
            have HS2 : Hid (a ≠ b) := Lib.hid (fun h => he (by rw [hp, hq, h]))
            clear he hpq hp hq
            go_wp2
            go_quiet (fail)
            go_wp2
            go_ret
            exact ⟨ret_bool (decide_eq_false (fun h => HS2.out h.2)).symm, hE.drewN _⟩
        · have kk : ¬ (k : Int) < (n : Int) := by omega
          have HS2 : Hid (a = b) := Lib.hid (list_ext_P (HA.out.trans HB.out.symm) (fun i hi => hs.out i (by have := HA.out; omega)))
          go_wp2
          go_ret
          exact ⟨ret_bool (by simpa using HS2.out), hE⟩
    · have t1 : ((n : Int) != (m : Int)) = true := by simp; omega
      clear hw0 x2 y2
      go_enter Try.func44, Try.ntmps44
      go_wp2
      go_ret
      exact ⟨ret_bool (decide_eq_false (fun h => hnm (by rw [← HA.out, ← HB.out, h.2]))).symm, ((Ext.refl w).alloc _).alloc _⟩
  · have t0 : (L != M) = true := by simpa using hLM
    clear hw0 x2 y2
    go_enter Try.func44, Try.ntmps44
    go_wp2
    go_ret
    exact ⟨ret_bool (decide_eq_false (fun h => hLM h.1)).symm, ((Ext.refl w).alloc _).alloc _⟩
theorem rf_eq (L M : Int) (a b : List Pc) : decide (L = M ∧ a = b) = decide ((⟨L, a⟩ : Rf) = ⟨M, b⟩) := by rw [decide_eq_decide]; simp
set_option maxRecDepth 100000 in
/-- Two refs: the document's. -/
theorem rsameRef_any {w : World} (x y : Rf) {A B : Option Addr} {c c' : Nat} (ha : PcRd w A x.ps.length x.ps) (hb : PcRd w B y.ps.length y.ps) (hn : x.ps.length ≤ 1048576) (hm : y.ps.length ≤ 1048576) : Calls Try.prog 23 #[.agg #[.int .i64 x.len, .slice A x.ps.length c], .agg #[.int .i64 y.len, .slice B y.ps.length c']] w fun e w' => e = .returned (.bool (decide (x = y))) ∧ Ext w w' := by
  have HS : Hid (∀ w', Ext w w' → Calls Try.prog 44 #[.agg #[.int .i64 x.len, .string ⟨#[]⟩, .slice A x.ps.length c], .agg #[.int .i64 y.len, .string ⟨#[]⟩, .slice B y.ps.length c']] w' fun e w2 => e = .returned (.bool (decide (x = y))) ∧ Ext w' w2) := Lib.hid (fun w' hE => by
    have := rsameBody_any (c := c) (c' := c') x.len y.len (ha.ext hE) (hb.ext hE) hn hm
    rw [rf_eq] at this
    exact this)
  clear ha hb hn hm
  generalize decide (x = y) = r at *
  go_enter Try.func23, Try.ntmps23
  go_wp2_with (go_at_call 44; (with_reducible refine (HS.out _ (((Ext.refl w).alloc _).alloc _)).mono ?_); rintro e w1 ⟨rfl, hE1⟩)
  go_ret
  exact ⟨rfl, (((Ext.refl w).alloc _).alloc _).trans hE1⟩
set_option maxRecDepth 100000 in
/-- Two refs: the program's. -/
theorem sameRef_any {w : World} (x y : Rf) {A B : Option Addr} {c c' : Nat} (ha : PcRd w A x.ps.length x.ps) (hb : PcRd w B y.ps.length y.ps) (hn : x.ps.length ≤ 1048576) (hm : y.ps.length ≤ 1048576) : Calls Try.prog 25 #[.agg #[.int .i64 x.len, .slice A x.ps.length c], .agg #[.int .i64 y.len, .slice B y.ps.length c']] w fun e w' => e = .returned (.bool (decide (x = y))) ∧ Ext w w' := by
  have HS := Lib.hid (fun w' (hE : Ext w w') => equal_any (c := c) (c' := c') (ha.ext hE) (hb.ext hE) hn hm)
  have hr : decide (x = y) = (decide (x.len = y.len) && decide (x.ps = y.ps)) := by
    rw [← rf_eq x.len y.len x.ps y.ps]; simp
  rw [hr]
  clear ha hb hn hm hr
  generalize decide (x.ps = y.ps) = r at *
  by_cases hL : x.len = y.len
  · have t0 : (x.len == y.len) = true := by simpa using hL
    rw [decide_eq_true hL]
    clear hL
    go_enter Try.func25, Try.ntmps25
    go_wp2_with (go_at_call 26; (with_reducible refine (HS.out _ (((Ext.refl w).alloc _).alloc _)).mono ?_); rintro e w1 ⟨rfl, hE1⟩)
    go_ret
    exact ⟨rfl, (((Ext.refl w).alloc _).alloc _).trans hE1⟩
  · have t0 : (x.len == y.len) = false := by simpa using hL
    rw [decide_eq_false hL]
    clear hL
    go_enter Try.func25, Try.ntmps25
    go_wp2
    go_ret
    exact ⟨rfl, ((Ext.refl w).alloc _).alloc _⟩
