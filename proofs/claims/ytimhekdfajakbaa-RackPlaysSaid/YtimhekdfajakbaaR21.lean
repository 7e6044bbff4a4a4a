import Derived.Test.YtimhekdfajakbaaR20
namespace Go.Proofs.Ytimhekdfajakbaa
open Go.RowKit
/-- A rack of which nothing is spoilt and nothing cut, behind k calls. -/
structure Plain (k : Nat) (s : St) : Prop where
  cut : s.cut = false
  bad : ∀ a b, s.bad a b = false
  lft : -(k : Int) ≤ s.left ∧ s.left ≤ 0
  cnt : ∀ d, s.cnt d ≤ k
theorem Plain.start : Plain 0 St0 := ⟨rfl, fun _ _ => rfl, by decide, fun _ => Nat.le_refl _⟩
theorem Plain.write {k : Nat} {s : St} (h : Plain k s) (p : Pl) (d x : Int) (t : ByteArray) : Plain (k + 1) (doWrite p s d x t) := by
  unfold doWrite
  have hl := h.lft
  split
  · refine ⟨h.cut, fun a b => ?_, ?_, fun y => ?_⟩
    · show setNN s.bad d.toNat x.toNat false a b = false
      unfold setNN
      split
      · rfl
      · exact h.bad a b
    · show _ ≤ s.left - 1 ∧ s.left - 1 ≤ 0; omega
    · show setN s.cnt d.toNat (s.cnt d.toNat + 1) y ≤ k + 1
      unfold setN
      have h1 := h.cnt y
      have h2 := h.cnt d.toNat
      split <;> omega
  · exact ⟨h.cut, h.bad, by omega, fun y => by have := h.cnt y; omega⟩
theorem Plain.lfts {k : Nat} {s : St} (h : Plain k s) (hk : k ≤ 300) : (-9223372036854775807 ≤ s.left ∧ s.left ≤ 9223372036854775807) ∧ ∀ d, s.cnt d ≤ 1000000 := by
  have := h.lft
  exact ⟨by omega, fun d => by have := h.cnt d; omega⟩
/-- What drive d of 8 sectors tells. -/
def drv (s : St) (d : Nat) : ByteArray := ⟨(allL s d 8).toArray⟩
theorem drv_size (s : St) (d : Nat) : (drv s d).size = 512 := by
  show (allL s d 8).toArray.size = 512
  rw [List.size_toArray, allL_len]
theorem all_drv {p : Pl} {s : St} {w : World} (h : RackAt w p s) (hp : Dims p 3 8) (i : Nat) (hi : i < 3) : Calls Try.prog 12 #[.pointer (some ⟨p.gR, 0, none⟩), .int .i64 i] w fun e w' => e = .returned (.string (drv s i)) ∧ Ext w w' := by
  have h1 := all_any h (i : Int)
  unfold allS at h1
  rw [if_pos (by simp [there, hp.nd, hp.ns]; omega), hp.ns] at h1
  exact h1
/-- The byte at place x * 64 + j of what a drive tells is byte j of sector x. -/
theorem allL_at (s : St) (d : Nat) : ∀ (m x j : Nat), x < m → j < 64 → (allL s d m)[x * 64 + j]? = (secL s d x)[j]?
  | 0, x, j, h, _ => absurd h (by omega)
  | m + 1, x, j, h, hj => by
    simp only [allL]
    by_cases e : x = m
    · subst e
      rw [List.getElem?_append_right (by rw [allL_len]; omega), allL_len]
      congr 1; omega
    · rw [List.getElem?_append_left (by rw [allL_len]; omega)]
      exact allL_at s d m x j (by omega) hj
theorem secL_at (s : St) (d x j : Nat) (hj : j < 64) : (secL s d x)[j]? = some (UInt8.ofNat (if s.bad d x then 0 else s.sec d x j)) := by
  simp [secL, hj]
theorem bn_of {l : List UInt8} {j : Nat} {b : UInt8} (h : l[j]? = some b) : bn ⟨l.toArray⟩ j = b.toNat := by
  unfold bn
  rw [List.getD_eq_getElem?_getD]
  show (l.toArray.toList[j]?.getD 0).toNat = _
  rw [List.toList_toArray, h]; rfl
theorem bn_drv (s : St) (d x j : Nat) (hx : x < 8) (hj : j < 64) (hs : ∀ i, s.sec d x i < 256) : bn (drv s d) (x * 64 + j) = if s.bad d x then 0 else s.sec d x j := by
  unfold drv
  rw [bn_of ((allL_at s d 8 x j hx hj).trans (secL_at s d x j hj))]
  have := hs j
  split <;> simp <;> omega
theorem bn_extract (s : ByteArray) (a b j : Nat) (hb : b ≤ s.size) (hj : j < b - a) : bn (s.extract a b) j = bn s (a + j) := by
  unfold bn
  rw [List.getD_eq_getElem?_getD, List.getD_eq_getElem?_getD]
  congr 2
  have hsz : a + j < s.data.size := by have : s.data.size = s.size := rfl; omega
  have h1 : (s.extract a b).data = s.data.extract a b := by simp
  rw [h1, Array.getElem?_toList, Array.getElem?_toList, Array.getElem?_extract]
  rw [if_pos (by have : s.data.size = s.size := rfl; omega)]
/-- Sector x of what a drive tells. -/
theorem drv_sec (s : St) (d x : Nat) (hx : x < 8) (hs : ∀ i, s.sec d x i < 256) (hb : s.bad d x = false) : (drv s d).extract (x * 64) ((x + 1) * 64) = secS s d x := by
  have hz := drv_size s d
  refine str_ext' _ _ ?_ fun i hi => ?_
  · rw [ByteArray.size_extract, hz, secS, strN_size]; omega
  · have hi64 : i < 64 := by rw [ByteArray.size_extract, hz] at hi; omega
    rw [bn_extract _ _ _ _ (by rw [hz]; omega) (by omega), bn_drv s d x i hx hi64 hs, hb, secS, bn_strN _ _ _ hi64 (hs i)]; rfl
theorem drv_congr {s s' : St} (d : Nat) (h1 : ∀ x j, s'.sec d x j = s.sec d x j) (h2 : ∀ x, s'.bad d x = s.bad d x) : drv s' d = drv s d := by
  have : ∀ m, allL s' d m = allL s d m := by
    intro m
    induction m with
    | zero => rfl
    | succ m ih => simp only [allL, ih, secL, h1, h2]
  unfold drv; rw [this]
def zero512 : ByteArray := ⟨(List.replicate 512 (0 : UInt8)).toArray⟩
theorem drv_zero {s : St} (d : Nat) (h : ∀ x j, s.sec d x j = 0) : drv s d = zero512 := by
  have h1 : ∀ x, secL s d x = List.replicate 64 0 := by
    intro x
    refine List.ext_getElem (by simp [secL]) fun i h2 h3 => ?_
    rw [List.getElem_replicate]
    simp [secL, h]
  have : ∀ m, allL s d m = List.replicate (64 * m) 0 := by
    intro m
    induction m with
    | zero => rfl
    | succ m ih => simp only [allL, ih, h1, List.replicate_append_replicate]; congr 1
  unfold drv zero512; rw [this]
theorem drvs3 (s : St) (k : Nat) : (List.range (k + 1)).map (fun i => Value.string (drv s i)) = (List.range k).map (fun i => Value.string (drv s i)) ++ [Value.string (drv s k)] := by
  rw [List.range_succ, List.map_append]; rfl
theorem info9 : (Try.prog.info? 9).map (fun i => (i.zero, i.size, i.bytes)) = some (some (.string { data := #[] }), 1, 16) := by kernel_rfl
