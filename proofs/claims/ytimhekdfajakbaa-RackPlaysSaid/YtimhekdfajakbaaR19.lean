import Derived.Test.YtimhekdfajakbaaR18
namespace Go.Proofs.Ytimhekdfajakbaa
open Go.RowKit
/-- How many drives and sectors. -/
structure Dims (p : Pl) (nd ns : Nat) : Prop where
  nd : p.nd = nd
  ns : p.ns = ns
def Fresh (p : Pl) (w : World) : Prop := ∀ k, p.has k → w.heap.size ≤ k
def Apart (p q : Pl) : Prop := ∀ k, q.has k → ¬ p.has k
theorem there_dims {p q : Pl} {nd ns : Nat} (hp : Dims p nd ns) (hq : Dims q nd ns) (d x : Int) : there p d x = there q d x := by unfold there; rw [hp.nd, hp.ns, hq.nd, hq.ns]
theorem new_dims (a b : Int) (nd ns : Nat) (hd : newOk a b) (ha : a = nd) (hb : b = ns) (w : World) : Calls Try.prog 9 #[.int .i64 a, .int .i64 b] w fun e w' => ∃ p : Pl, e = .returned (.tuple #[.pointer (some ⟨p.gR, 0, none⟩), .int .i64 0]) ∧ Dims p nd ns ∧ RackAt w' p St0 ∧ Fresh p w ∧ Ext w w' := by
  subst ha
  subst hb
  refine (new_at nd ns hd w).mono ?_
  rintro e w' ⟨gR, gD, gS, h1, h2, h3, h4⟩
  exact ⟨⟨gR, gD, gS, nd, ns⟩, h1, ⟨rfl, rfl⟩, h2, h3, h4⟩
/-- The two racks behind k calls, dn of them done. -/
structure CutInv (c k dn : Nat) (r x : St) : Prop where
  cut : r.cut = true
  left : r.left = (c : Int) - dn
  le : dn ≤ c
  cut' : x.cut = false
  left' : x.left = -(dn : Int)
  sec : x.sec = r.sec
  bad : x.bad = r.bad
  cnt : x.cnt = r.cnt
  sum : r.cnt 0 + r.cnt 1 + r.cnt 2 = dn
  each : ∀ d, r.cnt d ≤ dn
  few : dn ≤ k
section
variable {p q : Pl} {r x : St} {c k dn : Nat}
theorem CutInv.down (h : CutInv c k dn r x) {d s : Int} {t : ByteArray} (he : writeE p r d s t = 71) : dn = c ∧ CutInv c (k + 1) dn (doWrite p r d s t) x := by
  have h1 : (r.cut && (r.left == 0)) = true := by
    unfold writeE at he
    split at he
    · split at he
      · cases he
      · split at he
        · assumption
        · cases he
    · cases he
  have h2 : doWrite p r d s t = r := by unfold doWrite; rw [he, if_neg (by decide)]
  rw [h2]
  refine ⟨?_, { h with few := by have := h.few; omega }⟩
  rw [h.left] at h1
  simp at h1
  omega
theorem CutInv.other (h : CutInv c k dn r x) {nd ns : Nat} (hp : Dims p nd ns) (hq : Dims q nd ns) {d s : Int} {t : ByteArray} (he : writeE p r d s t ≠ 71) (h0 : writeE p r d s t ≠ 0) :
    writeE q x d s t = writeE p r d s t ∧ CutInv c (k + 1) dn (doWrite p r d s t) (doWrite q x d s t) := by
  have e1 : writeE q x d s t = writeE p r d s t := by
    unfold writeE at he h0 ⊢
    rw [there_dims hq hp]
    by_cases a : there p d s = true
    · rw [if_pos a] at he h0
      rw [if_pos a, if_pos a]
      by_cases b : 64 < t.size
      · rw [if_pos b, if_pos b]
      · rw [if_neg b] at he h0
        by_cases e : (r.cut && (r.left == 0)) = true
        · rw [if_pos e] at he; exact absurd rfl he
        · rw [if_neg e] at h0; exact absurd rfl h0
    · rw [if_neg a, if_neg a]
  have h2 : doWrite p r d s t = r := by unfold doWrite; rw [if_neg h0]
  have h3 : doWrite q x d s t = x := by unfold doWrite; rw [e1, if_neg h0]
  rw [h2, h3]
  exact ⟨e1, { h with few := by have := h.few; omega }⟩
theorem CutInv.done (h : CutInv c k dn r x) {ns : Nat} (hp : Dims p 3 ns) (hq : Dims q 3 ns) {d s : Int} {t : ByteArray} (h0 : writeE p r d s t = 0) :
    writeE q x d s t = 0 ∧ CutInv c (k + 1) (dn + 1) (doWrite p r d s t) (doWrite q x d s t) := by
  have a : there p d s = true := by
    unfold writeE at h0
    split at h0
    · assumption
    · cases h0
  have b : ¬ 64 < t.size := by
    unfold writeE at h0
    rw [if_pos a] at h0
    intro h; rw [if_pos h] at h0; cases h0
  have e : ¬ (r.cut && (r.left == 0)) = true := by
    unfold writeE at h0
    rw [if_pos a, if_neg b] at h0
    intro h; rw [if_pos h] at h0; cases h0
  have e1 : writeE q x d s t = 0 := by
    unfold writeE
    rw [there_dims hq hp, if_pos a, if_neg b, h.cut']; rfl
  have h2 : doWrite p r d s t = wrote r d.toNat s.toNat t := by unfold doWrite; rw [if_pos h0]
  have h3 : doWrite q x d s t = wrote x d.toNat s.toNat t := by unfold doWrite; rw [if_pos e1]
  rw [h2, h3]
  have hlt : dn < c := by
    rw [h.cut, h.left] at e
    have := h.le
    simp at e
    omega
  obtain ⟨i, j, rfl, rfl, hi, hj⟩ := there_nat a
  rw [hp.nd] at hi
  have hs := h.sum
  have hf := h.few
  refine ⟨e1, ⟨h.cut, ?_, by omega, h.cut', ?_, ?_, ?_, ?_, ?_, ?_, by omega⟩⟩
  · show r.left - 1 = _; rw [h.left]; omega
  · show x.left - 1 = _; rw [h.left']; omega
  · simp only [wrote, setSec, h.sec]
  · simp only [wrote, setSec, h.bad]
  · simp only [wrote, setSec, h.cnt]
  · show setN r.cnt i (r.cnt i + 1) 0 + setN r.cnt i (r.cnt i + 1) 1 + setN r.cnt i (r.cnt i + 1) 2 = _
    unfold setN
    have hi' : i = 0 ∨ i = 1 ∨ i = 2 := by omega
    rcases hi' with rfl | rfl | rfl <;> simp <;> omega
  · intro y
    show setN r.cnt i (r.cnt i + 1) y ≤ _
    unfold setN
    have h4 := h.each y
    have h5 := h.each i
    split <;> omega
end
