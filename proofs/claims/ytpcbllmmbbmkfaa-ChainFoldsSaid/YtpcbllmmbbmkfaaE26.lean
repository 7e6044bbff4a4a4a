import Derived.Test.YtpcbllmmbbmkfaaE24
import Derived.LoopIn
import Derived.RangeFuncNested
import Derived.Shelf.RegionOpen
import Derived.Shelf.AbstractIn
import Derived.Maps.AppendAt
namespace Go.Proofs.Ytpcbllmmbbmkfaa
open Go.RowKit Go.Nb Go.Shelf
attribute [local go_sem] Oper.semAt_some
/-- What Backward tells: places, from the last on. -/
def backT (n : Nat) : List Nat := (List.range n).reverse
theorem backT_len (n : Nat) : (backT n).length = n := by simp [backT]
theorem backT_take {n k : Nat} (h : k < n) : (backT n).take (k + 1) = (backT n).take k ++ [n - 1 - k] := by
  rw [List.take_succ_eq_append_getElem (by rw [backT_len]; exact h)]
  simp [backT]
/-- A ref's place and its two values. -/
abbrev encR (va vb : Nat → Value) (i : Nat) : Array Value := #[.int .i64 i, .agg #[va i, vb i]]
set_option maxRecDepth 100000 in
set_option maxHeartbeats 2000000 in
theorem back_in (n : Nat) (hn : 1 ≤ n) (lp bx m : Nat) (H : Nat → Prop) (W0 : World) (A : Option Addr) (c : Nat) (va vb : Nat → Value) (hm : m ≤ 1048576)
    (hv : ∀ i, i < m → ∃ g o, A = some ⟨g, o, none⟩ ∧ W0.cell? ⟨g, o + i * 2, none⟩ = some (va i) ∧ W0.cell? ⟨g, o + i * 2 + 1, none⟩ = some (vb i)) (J Jx : List Nat → World → Prop)
    (hY : ∀ pre x W, J pre W → pre.length < m → YieldAt Fence.wide (n - 1) Try.prog lp (encR va vb x) W fun e W' =>
      (e = .returned (.bool true) ∧ J (pre ++ [x]) W' ∧ Turn H W W') ∨ (e = .returned (.bool false) ∧ Jx (pre ++ [x]) W'))
    (W : World) (hE : Turn H W0 W) (hHb : ¬ H bx) (hHg : 0 < m → ∀ g o, A = some ⟨g, o, none⟩ → ¬ H g) (hbx0 : W0.cell? ⟨bx, 0, none⟩ = some (.slice A m c)) (h0 : J [] W) :
    CallsIn Fence.wide n Try.prog 50 #[.func (.yield lp) #[] #[], .pointer (some ⟨bx, 0, none⟩)] W fun e W' => (∃ v, e = .returned v) ∧
      ((∃ ys, ys = backT m ∧ J ys W') ∨ (∃ pre, pre <+: backT m ∧ Jx pre W')) := by
  have hbx := hE.cellv hbx0 hHb
  have HV := Lib.hid hv
  have HBX := Lib.hid (And.intro hbx0 hHb)
  have HHG := Lib.hid hHg
  have HY := Lib.hid hY
  clear hv hY hbx0 hHb hHg
  refine callsIn_of_wp Try.func50 rfl trivial ?_ rfl
  simp only [Try.ntmps50, List.size_toArray, List.length_cons, List.length_nil, Nat.reduceAdd, Nat.reduceSub, Array.replicate_succ, Array.replicate_zero, List.push_toArray, List.append_toArray, List.nil_append, List.cons_append]
  obtain ⟨s, hs⟩ : ∃ s : Int, s = (m : Int) - 1 := ⟨_, rfl⟩
  have w0 : IntKind.i64.wrap ((m : Int) - 1) = s := by rw [hs]; exact IntWalk.i64_in _ (by omega)
  have HS := Lib.hid hs
  clear hs
  gi_wp2
  gi_loopw [3] (fun iv wr => ∃ s : Int, iv = .int .i64 s ∧ -1 ≤ s ∧ s < m ∧ J ((backT m).take (m - (s + 1).toNat)) wr ∧ Turn H W0 wr) (fun iv _ => (intOf iv + 1).toNat)
  case atStart => exact ⟨s, rfl, by have := HS.out; omega, by have := HS.out; omega, by have := HS.out; rw [show m - (s + 1).toNat = 0 by omega]; exact h0, hE⟩
  case round =>
    obtain ⟨s2, rfl, hs1, hs2, hJ, hEr⟩ := hrel
    by_cases hlt : 0 ≤ s2
    · obtain ⟨i, rfl⟩ : ∃ i : Nat, s2 = i := ⟨s2.toNat, by omega⟩
      have hi : i < m := by omega
      obtain ⟨g, o, rfl, c0, c1⟩ := HV.out i hi
      have hb := hEr.cellv HBX.out.1 HBX.out.2
      have hg := HHG.out (by omega) g o rfl
      replace c0 := hEr.cellv c0 hg
      replace c1 := hEr.cellv c1 hg
      have hT := backT_take (n := m) (k := m - (i + 1)) (by omega)
      rw [show m - 1 - (m - (i + 1)) = i by omega, show m - (i + 1) + 1 = m - i by omega] at hT
      rw [show ((i : Int) + 1).toNat = i + 1 by omega] at hJ
      have hlen : ((backT m).take (m - (i + 1))).length < m := by rw [List.length_take, backT_len]; omega
      obtain ⟨fn, tmps, assign, body, hy, hRd⟩ := HY.out ((backT m).take (m - (i + 1))) i wr hJ hlen
      have k1 : (i : Int) < (m : Int) := by omega
      have k2 : (0 : Int) ≤ (i : Int) := by omega
      have hw1 : IntKind.i64.wrap ((i : Int) - 1) = (i : Int) - 1 := IntWalk.i64_in _ (by omega)
      have HT := Lib.hid hT
      clear hT hlen
      unfold encR at hy
      gi_wp2
      refine hRd.mono ?_
      rintro e W3 (⟨rfl, hJ3, hk3⟩ | ⟨rfl, hJx3⟩)
      · gi_wp2
        go_roundw
        case rel => exact ⟨(i : Int) - 1, rfl, by omega, by omega, by rw [show m - ((i : Int) - 1 + 1).toNat = m - i by omega, HT.out]; exact hJ3, hEr.trans hk3⟩
        case measure => simp [intOf]
      · gi_wp2
        refine bodyPost_ret (results_none rfl _ _ _) rfl ?_
        exact ⟨⟨_, rfl⟩, .inr ⟨(backT m).take (m - i), List.take_prefix _ _, by rw [HT.out]; exact hJx3⟩⟩
    · obtain rfl : s2 = -1 := by omega
      gi_wp2
      go_end0
      exact ⟨⟨_, rfl⟩, .inl (by have := hJ; rwa [List.take_of_length_le (by rw [backT_len]; omega)] at this)⟩
theorem back_stops (n : Nat) (hn : 1 ≤ n) (bx m : Nat) (H : Nat → Prop) (W0 : World) (A : Option Addr) (c : Nat) (va vb : Nat → Value) (hm : m ≤ 1048576)
    (hv : ∀ i, i < m → ∃ g o, A = some ⟨g, o, none⟩ ∧ W0.cell? ⟨g, o + i * 2, none⟩ = some (va i) ∧ W0.cell? ⟨g, o + i * 2 + 1, none⟩ = some (vb i)) (hbx : W0.cell? ⟨bx, 0, none⟩ = some (.slice A m c)) (w : World) (hE : Turn H W0 w) (hHb : ¬ H bx) (hHg : 0 < m → ∀ g o, A = some ⟨g, o, none⟩ → ¬ H g) :
    SeqStopsK Fence.wide n Try.prog 50 #[.pointer (some ⟨bx, 0, none⟩)] (encR va vb) (Turn H) (fun ys => ys = backT m) (fun pre => pre <+: backT m) m w := fun l J Jx W hW _ _ hY h0 => by
  have hw : Ext w W := hW
  exact back_in n hn l bx m H W0 A c va vb hm hv J Jx hY W (hE.trans (Turn.of hw)) hHb hHg hbx h0
set_option maxRecDepth 100000 in
theorem backward_any {w : World} (A : Option Addr) (n c : Nat) : Calls Try.prog 35 #[.slice A n c] w fun e w' => e = .returned (.func (.func 50) #[] #[.pointer (some ⟨w.heap.size, 0, none⟩)]) ∧ w' = w.alloc (.cells #[.slice A n c] 22) := by
  go_enter Try.func35, Try.ntmps35
  go_wp2
  go_ret
  exact ⟨rfl, rfl⟩
