import Derived.Test.YtpcbllmmbbmkfaaD1
namespace Go.Proofs.Ytpcbllmmbbmkfaa
open Go.RowKit
/-- A piece, a ref, a link as values. -/
def Pc.val (p : Pc) : Value := .agg #[.int .i64 p.row, .int .u64 p.st, .int .i64 p.len]
set_option maxRecDepth 100000 in
theorem mayPiece_any (p : Pc) (w : World) : Calls Try.prog 46 #[p.val] w fun e w' => e = .returned (.bool (mayP p)) ∧ Ext w w' := by
  obtain ⟨a, b, c⟩ := p
  have hP : Pc.val ⟨a, b, c⟩ = .agg #[.int .i64 a, .int .u64 b, .int .i64 c] := rfl
  have hB : mayP ⟨a, b, c⟩ = (decide (0 ≤ a) && (decide (a < 4096) && (decide (b ≤ 281474976710656) && (decide (1 ≤ c) && decide (c ≤ 131072))))) := rfl
  rw [hP, hB]
  clear hP hB
  by_cases h1 : 0 ≤ a
  · by_cases h2 : a < 4096
    · by_cases h3 : b ≤ 281474976710656
      · by_cases h4 : 1 ≤ c
        · by_cases h5 : c ≤ 131072
          · go_enter Try.func46, Try.ntmps46
            go_wp2
            go_ret
            exact ⟨by simp [h1, h2, h3, h4, h5], (Ext.refl w).alloc _⟩
          · go_enter Try.func46, Try.ntmps46
            go_wp2
            go_ret
            exact ⟨by simp; omega, (Ext.refl w).alloc _⟩
        · go_enter Try.func46, Try.ntmps46
          go_wp2
          go_ret
          exact ⟨by simp; omega, (Ext.refl w).alloc _⟩
      · go_enter Try.func46, Try.ntmps46
        go_wp2
        go_ret
        exact ⟨by simp; omega, (Ext.refl w).alloc _⟩
    · go_enter Try.func46, Try.ntmps46
      go_wp2
      go_ret
      exact ⟨by simp; omega, (Ext.refl w).alloc _⟩
  · go_enter Try.func46, Try.ntmps46
    go_wp2
    go_ret
    exact ⟨by simp; omega, (Ext.refl w).alloc _⟩
set_option maxRecDepth 100000 in
theorem rmayPiece_any (p : Pc) (w : World) : Calls Try.prog 36 #[p.val] w fun e w' => e = .returned (.bool (mayP p)) ∧ Ext w w' := by
  obtain ⟨a, b, c⟩ := p
  have hP : Pc.val ⟨a, b, c⟩ = .agg #[.int .i64 a, .int .u64 b, .int .i64 c] := rfl
  have hB : mayP ⟨a, b, c⟩ = (decide (0 ≤ a) && (decide (a < 4096) && (decide (b ≤ 281474976710656) && (decide (1 ≤ c) && decide (c ≤ 131072))))) := rfl
  rw [hP, hB]
  clear hP hB
  by_cases h1 : 0 ≤ a
  · by_cases h2 : a < 4096
    · by_cases h3 : b ≤ 281474976710656
      · by_cases h4 : 1 ≤ c
        · by_cases h5 : c ≤ 131072
          · go_enter Try.func36, Try.ntmps36
            go_wp2
            go_ret
            exact ⟨by simp [h1, h2, h3, h4, h5], (Ext.refl w).alloc _⟩
          · go_enter Try.func36, Try.ntmps36
            go_wp2
            go_ret
            exact ⟨by simp; omega, (Ext.refl w).alloc _⟩
        · go_enter Try.func36, Try.ntmps36
          go_wp2
          go_ret
          exact ⟨by simp; omega, (Ext.refl w).alloc _⟩
      · go_enter Try.func36, Try.ntmps36
        go_wp2
        go_ret
        exact ⟨by simp; omega, (Ext.refl w).alloc _⟩
    · go_enter Try.func36, Try.ntmps36
      go_wp2
      go_ret
      exact ⟨by simp; omega, (Ext.refl w).alloc _⟩
  · go_enter Try.func36, Try.ntmps36
    go_wp2
    go_ret
    exact ⟨by simp; omega, (Ext.refl w).alloc _⟩
