import Derived.Test.YtbpicdjpgbboiaaW21
import Derived.Laws.StructEq
namespace Go.Proofs.Ytbpicdjpgbboiaa
open Go.RowKit Go.Nb
theorem eq36 (x y u v : Bs) (w : World) : (Op.equalIn 10000 36 (.agg #[.string (Bt x), .string (Bt y)]) (.agg #[.string (Bt u), .string (Bt v)])).run Try.prog w = .ok (x == u && y == v) w := by
  have hf : Try.prog.underlying 36 = some (.struct (Try.prog.fieldsOf 36)) := by kernel_rfl
  have hp : Try.prog.stoodInHeld 36 = false := by kernel_rfl
  have u9 := Try.underlying9
  have a9 := Try.isAgg9
  have z9 := Try.sizeOf9
  have hT := toList_Bt
  rw [show (10000 : Nat) = 9999 + 1 from rfl, run_equalIn_agg w 9999 36 _ _ hf hp]
  simp only [Program.fieldsOf, Try.underlying36]
  go_simp
  by_cases h1 : x = u <;> by_cases h2 : y = v <;> simp [h1, h2]
theorem list_ext_D {a b : List Pr} (hl : a.length = b.length) (h : ∀ i, i < a.length → a.getD i default = b.getD i default) : a = b := by
  refine List.ext_getElem hl (fun i h1 h2 => ?_)
  have := h i h1
  rw [List.getD_eq_getElem?_getD, List.getD_eq_getElem?_getD, List.getElem?_eq_getElem h1, List.getElem?_eq_getElem h2] at this
  exact this
set_option maxRecDepth 100000 in
theorem same_ref {w : World} {A B : Option Addr} {n c m c' : Nat} {a b : List Pr} (ha : PRd w A n a) (hb : PRd w B m b) (hn : n ≤ 1048576) (hm : m ≤ 1048576) : Calls Try.prog 15 #[.slice A n c, .slice B m c'] w fun e w' => e = .returned (.bool (decide (a = b))) ∧ Ext w w' := by
  have HA := Lib.hid ha.1
  have HB := Lib.hid hb.1
  by_cases hnm : n = m
  · subst hnm
    have t1 : ((n : Int) != (n : Int)) = false := by simp
    go_enter Try.func15, Try.ntmps15
    go_wp2
    go_loopw [5] (fun iv wr => ∃ k : Nat, k ≤ n ∧ iv = .int .i64 k ∧ Hid (∀ i, i < k → a.getD i default = b.getD i default) ∧ Ext w wr) (fun iv _ => n - (intOf iv).toNat)
    case atStart => exact ⟨0, by omega, rfl, Lib.hid (fun i hi => by omega), Ext.refl w⟩
    case round =>
      obtain ⟨k, hk, rfl, hs, hE⟩ := hrel
      have hT := toList_Bt
      by_cases hk2 : k < n
      · have kk : (k : Int) < (n : Int) := by omega
        have kk0 : (0 : Int) ≤ (k : Int) := by omega
        obtain ⟨g, o, rfl, c0, c1⟩ := (ha.ext hE).at_ k hk2
        obtain ⟨g2, o2, rfl, d0, d1⟩ := (hb.ext hE).at_ k hk2
        obtain ⟨p, hp⟩ : ∃ p, p = a.getD k default := ⟨_, rfl⟩
        obtain ⟨q, hq⟩ : ∃ p, p = b.getD k default := ⟨_, rfl⟩
        rw [← hp] at c0 c1
        rw [← hq] at d0 d1
        have hE36 := eq36 p.k p.v q.k q.v
        have hpq : (p.k == q.k && p.v == q.v) = decide (p = q) := by
          obtain ⟨pk, pv⟩ := p
          obtain ⟨qk, qv⟩ := q
          by_cases h1 : pk = qk <;> by_cases h2 : pv = qv <;> simp [h1, h2]
        rw [hpq] at hE36
        have HP := Lib.hid hp
        have HQ := Lib.hid hq
        by_cases he : p = q
        · have td : decide (p = q) = true := by simpa using he
          rw [td] at hE36
          have hs2 : ∀ i, i < k + 1 → a.getD i default = b.getD i default := fun i hi => by
            by_cases hik : i = k
            · rw [hik, ← hp, ← hq, he]
            · exact hs.out i (by omega)
          have HS2 := Lib.hid hs2
          clear hs2 td he hpq hp hq
          go_wp2
          go_quiet (fail)
          go_wp2
          exact ⟨⟨k + 1, by omega, rfl, HS2, hE.drewN _⟩, by simp [intOf]; omega⟩
        · have td : decide (p = q) = false := by simpa using he
          rw [td] at hE36
          have hs2 : decide (a = b) = false := by
            simp only [decide_eq_false_iff_not]
            intro h
            apply he
            rw [hp, hq, h]
          have HS2 := Lib.hid hs2
          clear hs2 td he hpq hp hq
          go_wp2
          go_quiet (fail)
          go_wp2
          go_ret
          exact ⟨ret_bool HS2.out.symm, hE.drewN _⟩
      · have kk : ¬ (k : Int) < (n : Int) := by omega
        have hs2 : decide (a = b) = true := by
          simp only [decide_eq_true_eq]
          exact list_ext_D (HA.out.trans HB.out.symm) (fun i hi => hs.out i (by rw [HA.out] at hi; omega))
        have HS2 := Lib.hid hs2
        clear hs2
        go_wp2
        go_ret
        exact ⟨ret_bool HS2.out.symm, hE⟩
  · have t1 : ((n : Int) != (m : Int)) = true := by simp; omega
    go_enter Try.func15, Try.ntmps15
    go_wp2
    go_ret
    refine ⟨ret_bool ?_, Ext.refl w⟩
    symm
    simp
    intro h
    rw [h] at HA
    exact hnm (HA.out.symm.trans HB.out)
