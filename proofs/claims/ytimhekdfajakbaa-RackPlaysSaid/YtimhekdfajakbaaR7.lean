import Derived.Test.YtimhekdfajakbaaR6
namespace Go.Proofs.Ytimhekdfajakbaa
open Go.RowKit
theorem run_make_k {P : Program} (t e : TypeId) (i : TypeInfo) (z : Value) (k : Nat) (ht : P.underlying t = some (.slice e)) (hi : P.info? e = some i) (hz : i.zero = some z) (hs : i.size = k) (hb1 : i.bytes ≤ 1024)
    (kl kc : IntKind) (n : Nat) (hn : n ≤ 1048576) (f : Nat → Value) (hf : ∀ j, j < n * k → (madeCells z.cells (n * k))[j]? = some (f j)) (hsz : (madeCells z.cells (n * k)).size = n * k) (w : World) :
    (Instr.makeSlice t (.int kl (n : Int)) (.int kc (n : Int))).run P w = .ok (.slice (some ⟨w.heap.size, 0, none⟩) n n) (w.alloc (.cells (tabA (n * k) f) e)) := by
  have hb : (i.bytes : Int) * (n : Int) ≤ 281474976710656 := by
    have h1 := Nat.mul_le_mul hb1 hn
    have h : ((i.bytes * n : Nat) : Int) ≤ 281474976710656 := by omega
    rwa [Int.natCast_mul] at h
  have hr := run_make (P := P) w t e i z ht hi hz kl kc n n (by omega) (by omega) hb (by omega)
  simp only [Int.toNat_natCast, hs] at hr
  rw [tabA_of _ (n * k) f hsz hf] at hr
  exact hr
theorem madeCells_size (c : Array Value) (m : Nat) : (madeCells c m).size = m := by simp [madeCells]
theorem info56 : (Try.prog.info? 56).map (fun i => (i.zero, i.size, i.bytes)) = some (some (.agg #[.slice none 0 0, .int .u64 0]), 2, 32) := by kernel_rfl
def Z78 : Array Value := (Array.replicate 64 (.int .u8 0)).push (.bool false)
theorem info78 : (Try.prog.info? 78).map (fun i => (i.zero, i.size, i.bytes)) = some (some (.agg Z78), 65, 65) := by kernel_rfl
theorem made56 (n j : Nat) (hj : j < n * 2) : (madeCells (Value.agg #[.slice none 0 0, .int .u64 0]).cells (n * 2))[j]? = some (if j % 2 = 0 then .slice none 0 0 else .int .u64 0) := by
  have : (Value.agg #[.slice none 0 0, .int .u64 0]).cells = #[.slice none 0 0, .int .u64 0] := rfl
  rw [this]
  simp only [madeCells, Array.getElem?_map, Array.getElem?_range, hj, if_true, Option.map_some]
  have h : j % 2 = 0 ∨ j % 2 = 1 := by omega
  rcases h with h | h
  · simp [h]
  · simp [h]
theorem made78 (n j : Nat) (hj : j < n * 65) : (madeCells (Value.agg Z78).cells (n * 65))[j]? = some (if j % 65 = 64 then .bool false else .int .u8 0) := by
  have h1 : (Value.agg Z78).cells = Z78 := rfl
  have h2 : Z78.size = 65 := by decide +kernel
  rw [h1]
  simp only [madeCells, Array.getElem?_map, Array.getElem?_range, hj, if_true, Option.map_some, h2]
  have key : ∀ x, x < 65 → Z78[x]! = if x = 64 then .bool false else .int .u8 0 := by
    intro x hx
    unfold Z78
    rw [getElem!_pos _ _ (by simp; omega), Array.getElem_push]
    by_cases e : x = 64
    · subst e; simp
    · rw [dif_pos (by simp; omega), if_neg e]; simp
  rw [key _ (Nat.mod_lt _ (by omega))]
def St0 : St := ⟨false, 0, fun _ => 0, fun _ _ => false, fun _ _ _ => 0⟩
theorem make56 (n : Nat) (hn : n ≤ 1048576) (w : World) : (Instr.makeSlice 51 (.int .i64 (n : Int)) (.int .i64 (n : Int))).run Try.prog w = .ok (.slice (some ⟨w.heap.size, 0, none⟩) n n) (w.alloc (.cells (tabA (n * 2) fun j => if j % 2 = 0 then .slice none 0 0 else .int .u64 0) 56)) := by
  obtain ⟨i0, hi0, hz0, hz1, hz2⟩ := info_parts info56
  exact run_make_k 51 56 i0 _ 2 Try.underlying51 hi0 hz0 hz1 (by omega) _ _ n hn _ (made56 n) (madeCells_size _ _) w
theorem make78 (n : Nat) (hn : n ≤ 1048576) (w : World) : (Instr.makeSlice 54 (.int .i64 (n : Int)) (.int .i64 (n : Int))).run Try.prog w = .ok (.slice (some ⟨w.heap.size, 0, none⟩) n n) (w.alloc (.cells (tabA (n * 65) fun j => if j % 65 = 64 then .bool false else .int .u8 0) 78)) := by
  obtain ⟨i0, hi0, hz0, hz1, hz2⟩ := info_parts info78
  exact run_make_k 54 78 i0 _ 65 Try.underlying54 hi0 hz0 hz1 (by omega) _ _ n hn _ (made78 n) (madeCells_size _ _) w
def newOk (d x : Int) : Prop := (1 ≤ d ∧ d ≤ 12) ∧ (1 ≤ x ∧ x ≤ 4096)
instance (d x : Int) : Decidable (newOk d x) := by unfold newOk; infer_instance
theorem new_no (d x : Int) (h : ¬ newOk d x) (w : World) : Calls Try.prog 9 #[.int .i64 d, .int .i64 x] w fun e w' => e = .returned (.tuple #[.pointer none, .int .i64 2]) ∧ Ext w w' := by
  have hO := Ext.refl w
  by_cases d0 : d < 1
  · have t1 : decide (d < 1) = true := by simpa using d0
    go_enter Try.func9, Try.ntmps9
    go_wp2
    go_ret2
    exact ⟨rfl, hO⟩
  · have t1 : decide (d < 1) = false := by simpa using d0
    by_cases d1 : 12 < d
    · have t2 : decide (12 < d) = true := by simpa using d1
      go_enter Try.func9, Try.ntmps9
      go_wp2
      go_ret2
      exact ⟨rfl, hO⟩
    · have t2 : decide (12 < d) = false := by simpa using d1
      by_cases x0 : x < 1
      · have t3 : decide (x < 1) = true := by simpa using x0
        go_enter Try.func9, Try.ntmps9
        go_wp2
        go_ret2
        exact ⟨rfl, hO⟩
      · have t3 : decide (x < 1) = false := by simpa using x0
        have x1 : 4096 < x := by unfold newOk at h; omega
        have t4 : decide (4096 < x) = true := by simpa using x1
        go_enter Try.func9, Try.ntmps9
        go_wp2
        go_ret2
        exact ⟨rfl, hO⟩
