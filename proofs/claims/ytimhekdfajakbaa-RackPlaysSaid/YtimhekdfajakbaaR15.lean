import Derived.Test.YtimhekdfajakbaaR14
namespace Go.Proofs.Ytimhekdfajakbaa
open Go.RowKit
def doWrite (p : Pl) (s : St) (d x : Int) (t : ByteArray) : St := if writeE p s d x t = 0 then wrote s d.toNat x.toNat t else s
def doCut (s : St) (n : Int) : St := if n < 0 then s else { s with cut := true, left := n }
def doSpoil (p : Pl) (s : St) (d x : Int) : St := if there p d x then { s with bad := setNN s.bad d.toNat x.toNat true } else s
def doWipe (p : Pl) (s : St) (d : Int) : St := if there p d 0 then wiped s d.toNat else s
def readS (p : Pl) (s : St) (d x : Int) : ByteArray := if readE p s d x = 0 then secS s d.toNat x.toNat else { data := #[] }
def allS (p : Pl) (s : St) (d : Int) : ByteArray := if there p d 0 then ⟨(allL s d.toNat p.ns).toArray⟩ else { data := #[] }
def cntE (p : Pl) (s : St) (d : Int) : Nat := if there p d 0 then s.cnt d.toNat else 0
section
variable {p : Pl} {s : St} {w : World}
theorem write_any (h : RackAt w p s) (d x : Int) (t : ByteArray) (hl : -9223372036854775807 ≤ s.left ∧ s.left ≤ 9223372036854775807) (hc : ∀ d, s.cnt d ≤ 1000000) :
    Calls Try.prog 19 #[.pointer (some ⟨p.gR, 0, none⟩), .int .i64 d, .int .i64 x, .string t] w fun e w' => e = .returned (.int .i64 (writeE p s d x t)) ∧ RackAt w' p (doWrite p s d x t) ∧ Chg p w w' := by
  by_cases hE : writeE p s d x t = 0
  · have hth : there p d x = true := by
      unfold writeE at hE
      by_cases h1 : there p d x = true
      · exact h1
      · rw [if_neg h1] at hE; cases hE
    have ht : t.size ≤ 64 := by
      unfold writeE at hE
      rw [if_pos hth] at hE
      by_cases h1 : 64 < t.size
      · rw [if_pos h1] at hE; cases hE
      · omega
    have hs : (s.cut && (s.left == 0)) = false := by
      unfold writeE at hE
      rw [if_pos hth, if_neg (by omega)] at hE
      by_cases h1 : (s.cut && (s.left == 0)) = true
      · rw [if_pos h1] at hE; cases hE
      · simpa using h1
    obtain ⟨i, j, rfl, rfl, hi, hj⟩ := there_nat hth
    have := write_yes h i j t hi hj ht hs hl (hc i)
    refine this.mono fun e w' ⟨h1, h2, h3⟩ => ⟨by rw [hE]; exact h1, ?_, h3⟩
    unfold doWrite
    rw [if_pos hE]; exact h2
  · refine (write_no h d x t hE).mono fun e w' ⟨h1, h2, h3⟩ => ⟨h1, ?_, h3⟩
    unfold doWrite
    rw [if_neg hE]; exact h2
theorem cut_any (h : RackAt w p s) (n : Int) : Calls Try.prog 18 #[.pointer (some ⟨p.gR, 0, none⟩), .int .i64 n] w fun e w' => e = .returned (.int .i64 (if n < 0 then 2 else 0)) ∧ RackAt w' p (doCut s n) ∧ Chg p w w' := by
  unfold doCut
  by_cases hn : n < 0
  · rw [if_pos hn, if_pos hn]; exact cut_no h n hn
  · rw [if_neg hn, if_neg hn]; exact cut_yes h n (by omega)
theorem spoil_any (h : RackAt w p s) (d x : Int) : Calls Try.prog 22 #[.pointer (some ⟨p.gR, 0, none⟩), .int .i64 d, .int .i64 x] w fun e w' => e = .returned (.int .i64 (thereE p d x)) ∧ RackAt w' p (doSpoil p s d x) ∧ Chg p w w' := by
  unfold doSpoil thereE
  by_cases hn : there p d x = true
  · rw [if_pos hn, if_pos hn]
    obtain ⟨i, j, rfl, rfl, hi, hj⟩ := there_nat hn
    exact spoil_yes h i j hi hj
  · rw [if_neg hn, if_neg hn]; exact spoil_no h d x (by simpa using hn)
theorem wipe_any (h : RackAt w p s) (d : Int) : Calls Try.prog 23 #[.pointer (some ⟨p.gR, 0, none⟩), .int .i64 d] w fun e w' => e = .returned (.int .i64 (thereE p d 0)) ∧ RackAt w' p (doWipe p s d) ∧ Chg p w w' := by
  unfold doWipe thereE
  by_cases hn : there p d 0 = true
  · rw [if_pos hn, if_pos hn]
    obtain ⟨i, j, rfl, _, hi, hj⟩ := there_nat hn
    exact wipe_yes h i hi
  · rw [if_neg hn, if_neg hn]; exact wipe_no h d (by simpa using hn)
theorem read_any (h : RackAt w p s) (d x : Int) : Calls Try.prog 21 #[.pointer (some ⟨p.gR, 0, none⟩), .int .i64 d, .int .i64 x] w fun e w' => e = .returned (.tuple #[.string (readS p s d x), .int .i64 (readE p s d x)]) ∧ Ext w w' := by
  unfold readS
  by_cases hE : readE p s d x = 0
  · have hth : there p d x = true := by
      unfold readE at hE
      by_cases h0 : (s.cut && (s.left == 0)) = true
      · rw [if_pos h0] at hE; cases hE
      · rw [if_neg h0] at hE
        by_cases h1 : there p d x = true
        · exact h1
        · rw [if_neg h1] at hE; cases hE
    obtain ⟨i, j, rfl, rfl, hi, hj⟩ := there_nat hth
    rw [if_pos hE, hE]
    exact read_yes i j hi hj w h hE
  · rw [if_neg hE]; exact read_no d x w h hE
theorem writes_any (h : RackAt w p s) (d : Int) : Calls Try.prog 14 #[.pointer (some ⟨p.gR, 0, none⟩), .int .i64 d] w fun e w' => e = .returned (.int .u64 (cntE p s d)) ∧ Ext w w' := by
  unfold cntE
  by_cases hn : there p d 0 = true
  · rw [if_pos hn]
    obtain ⟨i, j, rfl, _, hi, hj⟩ := there_nat hn
    exact writes_yes h i hi
  · rw [if_neg hn]; exact writes_no h d (by simpa using hn)
theorem all_any (h : RackAt w p s) (d : Int) : Calls Try.prog 12 #[.pointer (some ⟨p.gR, 0, none⟩), .int .i64 d] w fun e w' => e = .returned (.string (allS p s d)) ∧ Ext w w' := by
  unfold allS
  by_cases hn : there p d 0 = true
  · rw [if_pos hn]
    obtain ⟨i, j, rfl, _, hi, hj⟩ := there_nat hn
    exact all_yes h i hi
  · rw [if_neg hn]; exact all_no h d (by simpa using hn)
theorem new_at (d x : Int) (hd : newOk d x) (w : World) : Calls Try.prog 9 #[.int .i64 d, .int .i64 x] w fun e w' => ∃ (gR gD : Nat) (gS : Nat → Nat), e = .returned (.tuple #[.pointer (some ⟨gR, 0, none⟩), .int .i64 0]) ∧ RackAt w' ⟨gR, gD, gS, d.toNat, x.toNat⟩ St0 ∧ (∀ k, (⟨gR, gD, gS, d.toNat, x.toNat⟩ : Pl).has k → w.heap.size ≤ k) ∧ Ext w w' := by
  obtain ⟨i, rfl⟩ : ∃ i : Nat, d = i := ⟨d.toNat, by unfold newOk at hd; omega⟩
  obtain ⟨j, rfl⟩ : ∃ j : Nat, x = j := ⟨x.toNat, by unfold newOk at hd; omega⟩
  unfold newOk at hd
  refine (new_yes i j (by omega) (by omega) w).mono ?_
  rintro e w' ⟨⟨gR, gD, gS, nd, ns⟩, h1, h2, h3, h4, h5, h6⟩
  subst h1
  subst h2
  exact ⟨gR, gD, gS, h3, h4, h5, h6⟩
end
