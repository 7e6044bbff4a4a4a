import Derived.Test.YtimhekdfajakbaaR29
namespace Go.Proofs.Ytimhekdfajakbaa
open Go.RowKit
section
variable {w : World} {q : Ql} {r : Rf}
def doWriteR (q : Ql) (r : Rf) (d x : Int) (t : ByteArray) : Rf := if writeR q r d x t = 0 then wroteR r d.toNat x.toNat t else r
theorem write_ref_any (h : RefAt w q r) (d x : Int) (t : ByteArray) (hb : -9223372036854775807 ≤ r.left ∧ r.left ≤ 9223372036854775807) (hc : ∀ d, r.cnt d ≤ 1000000) :
    Calls Try.prog 25 #[.pointer (some ⟨q.gx, 0, none⟩), .int .i64 d, .int .i64 x, .string t] w fun e w' => e = .returned (.int .i64 (writeR q r d x t)) ∧ RefAt w' q (doWriteR q r d x t) ∧ Turn q.has w w' := by
  by_cases hE : writeR q r d x t = 0
  · have hth : thereN q.nd q.ns d x = true := by
      unfold writeR at hE
      by_cases h1 : thereN q.nd q.ns d x = true
      · exact h1
      · rw [if_neg h1] at hE; cases hE
    have ht : t.size ≤ 64 := by
      unfold writeR at hE
      rw [if_pos hth] at hE
      by_cases h1 : 64 < t.size
      · rw [if_pos h1] at hE; cases hE
      · omega
    have hl : r.left ≠ 0 := by
      unfold writeR at hE
      rw [if_pos hth, if_neg (by omega)] at hE
      intro h1; rw [if_pos h1] at hE; cases hE
    obtain ⟨i, j, rfl, rfl, hi, hj⟩ := thereN_nat hth
    refine (write_ref_yes h i j t hi hj ht hl hb (hc i)).mono fun e w' ⟨h1, h2, h3⟩ => ⟨by rw [hE]; exact h1, ?_, h3⟩
    unfold doWriteR
    rw [if_pos hE]; exact h2
  · refine (write_ref_no h d x t hE).mono fun e w' ⟨h1, h2⟩ => ⟨h1, ?_, Turn.of h2⟩
    unfold doWriteR
    rw [if_neg hE]; exact h.ext h2
end
/-- A rack is what the document's is, behind k calls. -/
structure Same (p : Pl) (q : Ql) (s : St) (r : Rf) (k : Nat) : Prop where
  nd : q.nd = p.nd
  ns : q.ns = p.ns
  sec : ∀ a b, a < p.nd → b < p.ns → r.sec a b = secS s a b
  bad : ∀ a b, a < p.nd → b < p.ns → r.bad a b = s.bad a b
  cnt : ∀ a, a < p.nd → r.cnt a = s.cnt a
  left : (s.cut = false ∧ r.left = -1) ∨ (s.cut = true ∧ r.left = s.left ∧ 0 ≤ s.left)
  lo : -(k : Int) ≤ s.left
  hi : s.left ≤ 9223372036854775807
  few : ∀ a, s.cnt a ≤ k
  few' : ∀ a, r.cnt a ≤ k
theorem secL_is (s : St) (d x : Nat) : (if s.bad d x = true then zero64 else secS s d x).data.toList = secL s d x := by
  by_cases hb : s.bad d x = true
  · rw [if_pos hb]
    refine List.ext_getElem (by rw [secL_len]; exact zero64_size) fun j h1 h2 => ?_
    have e : zero64.data.toList[j] = 0 := by
      show (List.replicate 64 (0 : UInt8))[j]'(by simpa [zero64] using h1) = 0
      exact List.getElem_replicate _
    refine e.trans ?_
    simp [secL, hb]
  · rw [if_neg hb]
    refine List.ext_getElem (by rw [secL_len]; exact strN_size 64 _) fun j h1 h2 => ?_
    simp [secL, hb, secS, strN, strOf]
section
variable {p : Pl} {q : Ql} {s : St} {r : Rf} {k : Nat}
theorem Same.start (p : Pl) (q : Ql) (h1 : q.nd = p.nd) (h2 : q.ns = p.ns) : Same p q St0 Rf0 0 :=
  ⟨h1, h2, fun a b _ _ => by show zero64 = secS St0 a b; rw [← zero64_is]; rfl, fun _ _ _ _ => rfl, fun _ _ => rfl, .inl ⟨rfl, rfl⟩, by decide, by decide, fun _ => Nat.le_refl _, fun _ => Nat.le_refl _⟩
theorem Same.th (h : Same p q s r k) (d x : Int) : thereN q.nd q.ns d x = there p d x := by rw [h.nd, h.ns]; rfl
theorem Same.down (h : Same p q s r k) : (r.left = 0) ↔ (s.cut && (s.left == 0)) = true := by
  rcases h.left with ⟨h1, h2⟩ | ⟨h1, h2, h3⟩
  · rw [h1, h2]; simp
  · rw [h1, h2]; simp
theorem Same.mono (h : Same p q s r k) : Same p q s r (k + 1) :=
  { h with lo := by have := h.lo; omega, few := fun a => by have := h.few a; omega, few' := fun a => by have := h.few' a; omega }
theorem Same.lfts (h : Same p q s r k) (hk : k ≤ 1000) : (-9223372036854775807 ≤ s.left ∧ s.left ≤ 9223372036854775807) ∧ (-9223372036854775807 ≤ r.left ∧ r.left ≤ 9223372036854775807) ∧ (∀ d, s.cnt d ≤ 1000000) ∧ ∀ d, r.cnt d ≤ 1000000 := by
  have h1 := h.lo
  have h2 := h.hi
  refine ⟨by omega, ?_, fun d => by have := h.few d; omega, fun d => by have := h.few' d; omega⟩
  rcases h.left with ⟨_, h3⟩ | ⟨_, h3, _⟩ <;> omega
theorem Same.writeC (h : Same p q s r k) (d x : Int) (t : ByteArray) : writeR q r d x t = writeE p s d x t := by
  unfold writeR writeE
  rw [h.th]
  by_cases h1 : there p d x = true
  · rw [if_pos h1, if_pos h1]
    by_cases h2 : 64 < t.size
    · rw [if_pos h2, if_pos h2]
    · rw [if_neg h2, if_neg h2]
      by_cases h3 : r.left = 0
      · rw [if_pos h3, if_pos (h.down.mp h3)]
      · rw [if_neg h3, if_neg (fun h4 => h3 (h.down.mpr h4))]
  · rw [if_neg h1, if_neg h1]
theorem Same.write (h : Same p q s r k) (d x : Int) (t : ByteArray) : Same p q (doWrite p s d x t) (doWriteR q r d x t) (k + 1) := by
  unfold doWrite doWriteR
  rw [h.writeC d x t]
  by_cases hE : writeE p s d x t = 0
  · rw [if_pos hE, if_pos hE]
    have hl : ¬ (s.cut && (s.left == 0)) = true := by
      unfold writeE at hE
      by_cases h1 : there p d x = true
      · rw [if_pos h1] at hE
        by_cases h2 : 64 < t.size
        · rw [if_pos h2] at hE; cases hE
        · rw [if_neg h2] at hE
          intro h3; rw [if_pos h3] at hE; cases hE
      · rw [if_neg h1] at hE; cases hE
    have hlo := h.lo
    have hhi := h.hi
    refine ⟨h.nd, h.ns, fun a b ha hb => ?_, fun a b ha hb => ?_, fun a ha => ?_, ?_, ?_, ?_, fun a => ?_, fun a => ?_⟩
    · show setNN r.sec d.toNat x.toNat (padS t) a b = secS (wrote s d.toNat x.toNat t) a b
      unfold setNN
      by_cases e : a = d.toNat ∧ b = x.toNat
      · rw [if_pos e, e.1, e.2, secS_wrote]; rfl
      · rw [if_neg e, h.sec a b ha hb]
        unfold secS
        refine strN_congr _ _ _ fun i _ => ?_
        show s.sec a b i = if a = d.toNat ∧ b = x.toNat then padB t i else s.sec a b i
        rw [if_neg e]
    · show setNN r.bad d.toNat x.toNat false a b = setNN s.bad d.toNat x.toNat false a b
      unfold setNN
      rw [h.bad a b ha hb]
    · show setN r.cnt d.toNat (r.cnt d.toNat + 1) a = setN s.cnt d.toNat (s.cnt d.toNat + 1) a
      unfold setN
      by_cases e : a = d.toNat
      · rw [if_pos e, if_pos e, ← e, h.cnt a ha]
      · rw [if_neg e, if_neg e, h.cnt a ha]
    · rcases h.left with ⟨h1, h2⟩ | ⟨h1, h2, h3⟩
      · refine .inl ⟨h1, ?_⟩
        show (if 0 < r.left then r.left - 1 else r.left) = -1
        rw [h2]; rfl
      · have h4 : s.left ≠ 0 := fun h4 => hl (by rw [h1, h4]; rfl)
        refine .inr ⟨h1, ?_, ?_⟩
        · show (if 0 < r.left then r.left - 1 else r.left) = s.left - 1
          rw [h2, if_pos (by omega)]
        · show 0 ≤ s.left - 1; omega
    · show _ ≤ s.left - 1; omega
    · show s.left - 1 ≤ _; omega
    · show setN s.cnt d.toNat (s.cnt d.toNat + 1) a ≤ k + 1
      unfold setN
      have h1 := h.few a
      have h2 := h.few d.toNat
      split <;> omega
    · show setN r.cnt d.toNat (r.cnt d.toNat + 1) a ≤ k + 1
      unfold setN
      have h1 := h.few' a
      have h2 := h.few' d.toNat
      split <;> omega
  · rw [if_neg hE, if_neg hE]; exact h.mono
theorem Same.readC (h : Same p q s r k) (d x : Int) : readR q r d x = readE p s d x := by
  unfold readR readE
  rw [h.th]
  by_cases h3 : r.left = 0
  · rw [if_pos h3, if_pos (h.down.mp h3)]
  · rw [if_neg h3, if_neg (fun h4 => h3 (h.down.mpr h4))]
    by_cases h1 : there p d x = true
    · rw [if_pos h1, if_pos h1]
      obtain ⟨i, j, rfl, rfl, hi, hj⟩ := there_nat h1
      show (if r.bad i j = true then (72 : Int) else 0) = if s.bad i j = true then 72 else 0
      rw [h.bad i j hi hj]
    · rw [if_neg h1, if_neg h1]
theorem Same.readT (h : Same p q s r k) (d x : Int) : readRS q r d x = readS p s d x := by
  unfold readRS readS
  rw [h.readC]
  by_cases h0 : readE p s d x = 0
  · rw [if_pos h0, if_pos h0]
    have h1 : there p d x = true := by
      unfold readE at h0
      by_cases h3 : (s.cut && (s.left == 0)) = true
      · rw [if_pos h3] at h0; cases h0
      · rw [if_neg h3] at h0
        by_cases h1 : there p d x = true
        · exact h1
        · rw [if_neg h1] at h0; cases h0
    obtain ⟨i, j, rfl, rfl, hi, hj⟩ := there_nat h1
    simp only [Int.toNat_natCast]
    exact h.sec i j hi hj
  · rw [if_neg h0, if_neg h0]
theorem Same.cut (h : Same p q s r k) (n : Int) (hn : 0 ≤ n) (hm : n ≤ 9223372036854775807) : Same p q { s with cut := true, left := n } { r with left := n } (k + 1) :=
  { h with left := .inr ⟨rfl, rfl, hn⟩, lo := by show -((k + 1 : Nat) : Int) ≤ n; omega, hi := hm, few := fun a => Nat.le_succ_of_le (h.few a), few' := fun a => Nat.le_succ_of_le (h.few' a) }
theorem Same.lift (h : Same p q s r k) : Same p q { s with cut := false } { r with left := -1 } (k + 1) :=
  { h with left := .inl ⟨rfl, rfl⟩, lo := by have := h.lo; show -((k + 1 : Nat) : Int) ≤ s.left; omega, few := fun a => Nat.le_succ_of_le (h.few a), few' := fun a => Nat.le_succ_of_le (h.few' a) }
theorem Same.thereC (h : Same p q s r k) (d x : Int) : thereR q d x = thereE p d x := by
  unfold thereR thereE
  rw [h.th]
theorem Same.spoil (h : Same p q s r k) (d x : Int) : Same p q (doSpoil p s d x) (spoilR q r d x) (k + 1) := by
  unfold doSpoil spoilR
  rw [h.th]
  split
  · refine { h with bad := fun a b ha hb => ?_, lo := by have := h.lo; show -((k + 1 : Nat) : Int) ≤ s.left; omega, few := fun a => Nat.le_succ_of_le (h.few a), few' := fun a => Nat.le_succ_of_le (h.few' a) }
    show setNN r.bad d.toNat x.toNat true a b = setNN s.bad d.toNat x.toNat true a b
    unfold setNN
    rw [h.bad a b ha hb]
  · exact h.mono
theorem Same.wipe (h : Same p q s r k) (d : Int) : Same p q (doWipe p s d) (wipeR q r d) (k + 1) := by
  unfold doWipe wipeR
  rw [h.th]
  split
  · refine { h with sec := fun a b ha hb => ?_, bad := fun a b ha hb => ?_, lo := by have := h.lo; show -((k + 1 : Nat) : Int) ≤ s.left; omega, few := fun a => Nat.le_succ_of_le (h.few a), few' := fun a => Nat.le_succ_of_le (h.few' a) }
    · show (if a = d.toNat ∧ b < q.ns then zero64 else r.sec a b) = secS (wiped s d.toNat) a b
      by_cases e : a = d.toNat
      · rw [if_pos ⟨e, by rw [h.ns]; exact hb⟩, ← zero64_is]
        unfold secS
        refine strN_congr _ _ _ fun i _ => ?_
        show 0 = (if a = d.toNat then 0 else s.sec a b i)
        rw [if_pos e]
      · rw [if_neg (fun h => e h.1), h.sec a b ha hb]
        unfold secS
        refine strN_congr _ _ _ fun i _ => ?_
        show s.sec a b i = (if a = d.toNat then 0 else s.sec a b i)
        rw [if_neg e]
    · show (if a = d.toNat ∧ b < q.ns then false else r.bad a b) = if a = d.toNat then false else s.bad a b
      by_cases e : a = d.toNat
      · rw [if_pos ⟨e, by rw [h.ns]; exact hb⟩, if_pos e]
      · rw [if_neg (fun h => e h.1), if_neg e, h.bad a b ha hb]
  · exact h.mono
theorem Same.all (h : Same p q s r k) (d : Int) : allR q r d = allS p s d := by
  unfold allR allS
  rw [h.th]
  by_cases h1 : there p d 0 = true
  · rw [if_pos h1, if_pos h1]
    obtain ⟨i, j, rfl, _, hi, _⟩ := there_nat h1
    have : ∀ m, m ≤ p.ns → allRL r i m = allL s i m := by
      intro m
      induction m with
      | zero => intro _; rfl
      | succ m ih =>
        intro hm
        simp only [allRL, allL, ih (by omega)]
        rw [show secRL r i m = if s.bad i m = true then zero64 else secS s i m by unfold secRL; rw [h.bad i m hi (by omega), h.sec i m hi (by omega)], secL_is]
    rw [Int.toNat_natCast, h.ns, this p.ns (Nat.le_refl _)]
  · rw [if_neg h1, if_neg h1]
theorem Same.cnts (h : Same p q s r k) (d : Int) : cntR q r d = cntE p s d := by
  unfold cntR cntE
  rw [h.th]
  by_cases h1 : there p d 0 = true
  · rw [if_pos h1, if_pos h1]
    obtain ⟨i, j, rfl, _, hi, _⟩ := there_nat h1
    exact h.cnt i hi
  · rw [if_neg h1, if_neg h1]
end
