import Derived.Test.YtfelfhgfkfijgaaM11
import Derived.RangeFuncNested
import Derived.RangeFuncBound
import Derived.RangeFuncCalls
import Derived.RangeFuncLeaves
import Derived.RangeFuncBox
import Derived.Shelf.RegionOpen
import Derived.WalkKit
import Derived.OwnWalkIn
import Derived.TacticsInMore
import Derived.LoopNIn
import Derived.LoopIn
namespace Go.Proofs.Ytfelfhgfkfijgaa
open Go.RowKit Go.Nb Go.Shelf
attribute [local go_sem] Oper.semAt_some
theorem grown_ext {w w' : World} (h : Ext w w') : w.grownBy w' none := ⟨h.os, h.tape, h.output, h.size, fun k hk _ => h.block k hk⟩
theorem from_any (q : Option Addr) (key : ByteArray) (w : World) : Calls Try.prog 20 #[.pointer q, .string key] w fun e w' => e = .returned (.func (.func 28) #[] #[.pointer (some ⟨w.heap.size, 0, none⟩), .pointer (some ⟨w.heap.size + 1, 0, none⟩)]) ∧ w' = (w.alloc (.cells #[.pointer q] 31)).alloc (.cells #[.string key] 9) := by
  go_enter Try.func20, Try.ntmps20
  go_wp2
  go_ret
  exact ⟨by simp, rfl⟩
set_option maxRecDepth 100000 in
set_option maxHeartbeats 2000000 in
theorem it_in (n : Nat) (hn : 1 ≤ n) (l bm bk g : Nat) (W0 : World) (mo : Int) (L : List Pr) (key : Bs) (hm : MemIs W0 g mo L) (hu : upB L = true) (hL : L.length ≤ 1048576) (J Jx : List Pr → World → Prop)
    (hY : ∀ pre x W, J pre W → pre.length < (L.drop (seekL key L)).length → YieldAt Fence.wide (n - 1) Try.prog l #[.string (Bt x.k), .string (Bt x.v)] W fun e W' =>
      (e = .returned (.bool true) ∧ J (pre ++ [x]) W' ∧ Below W0.heap.size W W') ∨ (e = .returned (.bool false) ∧ Jx (pre ++ [x]) W'))
    (W : World) (hJ : AbidesFrom W.heap.size J) (hE : Ext W0 W) (hbm : W.cell? ⟨bm, 0, none⟩ = some (.pointer (some ⟨g, 0, none⟩))) (hbk : W.cell? ⟨bk, 0, none⟩ = some (.string (Bt key))) (h0 : J [] W) :
    CallsIn Fence.wide n Try.prog 28 #[.func (.yield l) #[] #[], .pointer (some ⟨bm, 0, none⟩), .pointer (some ⟨bk, 0, none⟩)] W fun e W' => (∃ v, e = .returned v) ∧
      ((∃ ys, ys = L.drop (seekL key L) ∧ J ys W') ∨ (∃ pre, pre <+: L.drop (seekL key L) ∧ Jx pre W')) := by
  obtain ⟨A, c, hma, hP, hN, hC, _⟩ := hm
  have m2 := (hma.ext hE).c2
  have hle := seekL_le key L
  have HSK : Hid (∀ w', Ext W0 w' → Calls Try.prog 27 #[.slice A L.length c, .string (Bt key)] w' fun e w2 => e = .returned (.int .i64 (seekL key L)) ∧ Ext w' w2) := Lib.hid (fun w' h => seek_any (c := c) (hP.ext h) hL hu key)
  have HP := Lib.hid hP
  obtain ⟨m, hmm⟩ : ∃ m, m = L.length := ⟨_, rfl⟩
  rw [← hmm] at m2 hle HSK hL HP hC
  obtain ⟨s, hs⟩ : ∃ s, s = seekL key L := ⟨_, rfl⟩
  rw [← hs] at HSK hle hY ⊢
  have s0 : (0 : Int) ≤ (s : Int) := by omega
  have s1 : (s : Int) ≤ (m : Int) := by omega
  have HMM := Lib.hid hmm
  have HMA := Lib.hid hma
  have HN := Lib.hid hN
  clear hma hP hN hmm hs
  refine callsIn_of_wp Try.func28 rfl trivial ?_ rfl
  simp only [Try.ntmps28, List.size_toArray, List.length_cons, List.length_nil, Nat.reduceAdd, Nat.reduceSub, Array.replicate_succ, Array.replicate_zero, List.push_toArray, List.append_toArray, List.nil_append, List.cons_append]
  refine wpIn_wide.2 ?_
  by_cases hsm : s < m
  · obtain ⟨ga, oa, rfl, hcell⟩ := HP.out.2.at_ (by omega) (by omega)
    have hcs : ¬ (c = s) := by omega
    have HCELL := Lib.hid hcell
    clear hcell
    go_wp2
    go_region_held3 (fun w' => w'.cell? ⟨bm, 0, none⟩ = some (.pointer (some ⟨g, 0, none⟩)) ∧ w'.cell? ⟨bk, 0, none⟩ = some (.string (Bt key)) ∧ w'.cell? ⟨g, 2, none⟩ = some (.slice (some ⟨ga, oa, none⟩) m c) ∧ Ext W w')
      (first | exact ⟨hbm, hbk, m2, (Ext.refl _).drew⟩ | exact ⟨hE1.cellv hbm, hE1.cellv hbk, hE1.cellv m2, (Ext.refl _).drew.trans hE1⟩ | go_keep)
      (first | (go_at_call 27; (with_reducible refine (HSK.out _ (hE.trans (Ext.refl _).drew)).mono ?_); rintro e w1 ⟨rfl, hE1⟩))
    go_wp2
    refine (wpIn_wide (n := n)).1 ?_
    have HE1 := Lib.hid hE1
    obtain ⟨R, hR⟩ : ∃ R, R = L.drop s := ⟨_, rfl⟩
    have hRl : R.length = m - s := by rw [hR, List.length_drop, ← HMM.out]
    have HR := Lib.hid hR
    rw [← hR] at hY
    clear hR
    gi_loopw [20] (fun iv wr => ∃ k : Nat, k ≤ m - s ∧ iv = .int .i64 k ∧ J (R.take k) wr ∧ Ext W0 wr ∧ W.heap.size ≤ wr.heap.size) (fun iv _ => (m - s) - (intOf iv).toNat)
    case atStart =>
      have hEx := (Ext.refl W).drew.trans HE1.out
      exact ⟨0, by omega, rfl, hJ [] W w1 none h0 (grown_ext hEx) (fun r e => by cases e), hE.trans hEx, hEx.sz⟩
    case round =>
      obtain ⟨k, hk, rfl, hJs, hEr, hsz⟩ := hrel
      by_cases hlt : k < m - s
      · have kk : (k : Int) < ((m - s : Nat) : Int) := by omega
        have kk0 : (0 : Int) ≤ (k : Int) := by omega
        have c0 := hEr.cellv (HCELL.out (s + k) 0 (by omega) (by omega))
        have c1 := hEr.cellv (HCELL.out (s + k) 1 (by omega) (by omega))
        rw [show oa + (s + k) * 2 + 0 = oa + s * 2 + k * 2 by omega] at c0
        rw [show oa + (s + k) * 2 + 1 = oa + s * 2 + k * 2 + 1 by omega] at c1
        obtain ⟨x, hx⟩ : ∃ x, x = R.getD k default := ⟨_, rfl⟩
        have hxL : L.getD (s + k) default = x := by rw [hx, HR.out, List.getD_eq_getElem?_getD, List.getD_eq_getElem?_getD, List.getElem?_drop]
        replace c0 : wr.cell? ⟨ga, oa + s * 2 + k * 2, none⟩ = some (.string (Bt x.k)) := by rw [c0]; unfold prF; rw [hxL]; rfl
        replace c1 : wr.cell? ⟨ga, oa + s * 2 + k * 2 + 1, none⟩ = some (.string (Bt x.v)) := by rw [c1]; unfold prF; rw [hxL]; rfl
        have hsn : R.take (k + 1) = R.take k ++ [x] := by
          rw [List.take_succ_eq_append_getElem (by omega), hx, List.getD_eq_getElem?_getD, List.getElem?_eq_getElem (by omega)]
          rfl
        have HSN := Lib.hid hsn
        have hXb := (Ext.refl wr).alloc (.cells #[.string (Bt x.k), .string (Bt x.v)] 30)
        have HPB := Lib.hid (PBox.new wr (Bt x.k) (Bt x.v))
        have d0 := HPB.out.c0
        have d1 := HPB.out.c1
        have hJ2 := hJ (R.take k) wr _ none hJs (grown_ext hXb) (fun r e => by cases e)
        obtain ⟨fn, tmps, assign, body, hy, hRd⟩ := hY (R.take k) x (wr.alloc (.cells #[.string (Bt x.k), .string (Bt x.v)] 30)) hJ2 (by rw [List.length_take]; omega)
        have HXb := Lib.hid hXb
        clear hx hxL hsn hXb hJ2
        gi_wp2
        refine hRd.mono ?_
        rintro e W3 (⟨rfl, hJ3, hk3⟩ | ⟨rfl, hJx3⟩)
        · gi_wp2
          go_roundw
          case rel => exact ⟨k + 1, by omega, by simp, by rw [HSN.out]; exact hJ3, Below.trans (hEr.trans HXb.out) hk3, Nat.le_trans hsz (Nat.le_trans HXb.out.sz hk3.size)⟩
          case measure => simp [intOf]; omega
        · gi_wp2
          refine bodyPost_ret (results_none rfl _ _ _) rfl ?_
          exact ⟨⟨_, rfl⟩, .inr ⟨R.take (k + 1), by rw [← HR.out]; exact List.take_prefix _ _, by rw [HSN.out]; exact hJx3⟩⟩
      · obtain rfl : k = m - s := by omega
        gi_wp2
        go_end0
        exact ⟨⟨_, rfl⟩, .inl ⟨_, HR.out, by rw [← List.take_of_length_le (l := R) (i := m - s) (by omega)]; exact hJs⟩⟩
  · obtain rfl : s = m := by omega
    have HD : Hid (([] : List Pr) = L.drop s) := Lib.hid (by rw [List.drop_of_length_le (by rw [← HMM.out]; omega)])
    rcases A with _ | ⟨ga, oa, sa⟩
    · obtain rfl : s = 0 := by
        rcases Nat.eq_zero_or_pos s with h0 | h0
        · exact h0
        · obtain ⟨g, o, ha, _⟩ := HP.out.2 h0
          cases ha
      obtain rfl : c = 0 := HN.out rfl
      go_wp2
      go_region_held3 (fun w' => w'.cell? ⟨bm, 0, none⟩ = some (.pointer (some ⟨g, 0, none⟩)) ∧ w'.cell? ⟨bk, 0, none⟩ = some (.string (Bt key)) ∧ w'.cell? ⟨g, 2, none⟩ = some (.slice none 0 0) ∧ Ext W w')
        (first | exact ⟨hbm, hbk, m2, (Ext.refl _).drew⟩ | exact ⟨hE1.cellv hbm, hE1.cellv hbk, hE1.cellv m2, (Ext.refl _).drew.trans hE1⟩ | go_keep)
        (first | (go_at_call 27; (with_reducible refine (HSK.out _ (hE.trans (Ext.refl _).drew)).mono ?_); rintro e w1 ⟨rfl, hE1⟩))
      go_wp2
      go_loopw [20] (fun iv wr => iv = .int .i64 0 ∧ Ext W wr) (fun _ _ => 0)
      case atStart => exact ⟨rfl, (Ext.refl W).drew.trans hE1⟩
      case round =>
        obtain ⟨rfl, hEr⟩ := hrel
        go_wp2
        go_end0
        exact ⟨⟨_, rfl⟩, .inl ⟨[], HD.out, hJ [] W wr none h0 (grown_ext hEr) (fun r e => by cases e)⟩⟩
    · by_cases hcs : c = s
      · subst hcs
        go_wp2
        go_region_held3 (fun w' => w'.cell? ⟨bm, 0, none⟩ = some (.pointer (some ⟨g, 0, none⟩)) ∧ w'.cell? ⟨bk, 0, none⟩ = some (.string (Bt key)) ∧ w'.cell? ⟨g, 2, none⟩ = some (.slice (some ⟨ga, oa, sa⟩) c c) ∧ Ext W w')
          (first | exact ⟨hbm, hbk, m2, (Ext.refl _).drew⟩ | exact ⟨hE1.cellv hbm, hE1.cellv hbk, hE1.cellv m2, (Ext.refl _).drew.trans hE1⟩ | go_keep)
          (first | (go_at_call 27; (with_reducible refine (HSK.out _ (hE.trans (Ext.refl _).drew)).mono ?_); rintro e w1 ⟨rfl, hE1⟩))
        go_wp2
        go_loopw [20] (fun iv wr => iv = .int .i64 0 ∧ Ext W wr) (fun _ _ => 0)
        case atStart => exact ⟨rfl, (Ext.refl W).drew.trans hE1⟩
        case round =>
          obtain ⟨rfl, hEr⟩ := hrel
          go_wp2
          go_end0
          exact ⟨⟨_, rfl⟩, .inl ⟨[], HD.out, hJ [] W wr none h0 (grown_ext hEr) (fun r e => by cases e)⟩⟩
      · go_wp2
        go_region_held3 (fun w' => w'.cell? ⟨bm, 0, none⟩ = some (.pointer (some ⟨g, 0, none⟩)) ∧ w'.cell? ⟨bk, 0, none⟩ = some (.string (Bt key)) ∧ w'.cell? ⟨g, 2, none⟩ = some (.slice (some ⟨ga, oa, sa⟩) s c) ∧ Ext W w')
          (first | exact ⟨hbm, hbk, m2, (Ext.refl _).drew⟩ | exact ⟨hE1.cellv hbm, hE1.cellv hbk, hE1.cellv m2, (Ext.refl _).drew.trans hE1⟩ | go_keep)
          (first | (go_at_call 27; (with_reducible refine (HSK.out _ (hE.trans (Ext.refl _).drew)).mono ?_); rintro e w1 ⟨rfl, hE1⟩))
        go_wp2
        go_loopw [20] (fun iv wr => iv = .int .i64 0 ∧ Ext W wr) (fun _ _ => 0)
        case atStart => exact ⟨rfl, (Ext.refl W).drew.trans hE1⟩
        case round =>
          obtain ⟨rfl, hEr⟩ := hrel
          go_wp2
          go_end0
          exact ⟨⟨_, rfl⟩, .inl ⟨[], HD.out, hJ [] W wr none h0 (grown_ext hEr) (fun r e => by cases e)⟩⟩
set_option maxRecDepth 100000 in
theorem it_nil (n l bm bk : Nat) (J : List Pr → World → Prop) (W : World) (hbm : W.cell? ⟨bm, 0, none⟩ = some (.pointer none)) (h0 : J [] W) :
    CallsIn Fence.wide n Try.prog 28 #[.func (.yield l) #[] #[], .pointer (some ⟨bm, 0, none⟩), .pointer (some ⟨bk, 0, none⟩)] W fun e W' => (∃ v, e = .returned v) ∧ J [] W' := by
  refine callsIn_of_wp Try.func28 rfl trivial ?_ rfl
  simp only [Try.ntmps28, List.size_toArray, List.length_cons, List.length_nil, Nat.reduceAdd, Nat.reduceSub, Array.replicate_succ, Array.replicate_zero, List.push_toArray, List.append_toArray, List.nil_append, List.cons_append]
  refine wpIn_wide.2 ?_
  go_wp2
  refine bodyPost_ret (results_none rfl _ _ _) rfl ?_
  exact ⟨⟨_, rfl⟩, h0⟩
/-- What an iterator tells. -/
abbrev encsP (x : Pr) : Array Value := #[.string (Bt x.k), .string (Bt x.v)]
theorem it_stops (n : Nat) (hn : 1 ≤ n) (bm bk g : Nat) (W0 : World) (mo : Int) (L : List Pr) (key : Bs) (hm : MemIs W0 g mo L) (hu : upB L = true) (hL : L.length ≤ 1048576) (w : World) (hE : Ext W0 w) (hbm : w.cell? ⟨bm, 0, none⟩ = some (.pointer (some ⟨g, 0, none⟩))) (hbk : w.cell? ⟨bk, 0, none⟩ = some (.string (Bt key))) :
    SeqStopsK Fence.wide n Try.prog 28 #[.pointer (some ⟨bm, 0, none⟩), .pointer (some ⟨bk, 0, none⟩)] encsP (Below W0.heap.size) (fun ys => ys = L.drop (seekL key L)) (fun pre => pre <+: L.drop (seekL key L)) (L.drop (seekL key L)).length w := fun l J Jx W hW hJ _ hY h0 => by
  have hw : Ext w W := hW
  exact it_in n hn l bm bk g W0 mo L key hm hu hL J Jx hY W hJ (hE.trans hw) (hw.cellv hbm) (hw.cellv hbk) h0
theorem it_stops_nil (n : Nat) (bm bk n₀ : Nat) (w : World) (hbm : w.cell? ⟨bm, 0, none⟩ = some (.pointer none)) :
    SeqStopsK Fence.wide n Try.prog 28 #[.pointer (some ⟨bm, 0, none⟩), .pointer (some ⟨bk, 0, none⟩)] encsP (Below n₀) (fun ys => ys = []) (fun pre => pre <+: []) 0 w := fun l J Jx W hW _ _ _ h0 => by
  have hw : Ext w W := hW
  refine (it_nil n l bm bk J W (hw.cellv hbm) h0).mono ?_
  rintro e W' ⟨h1, h2⟩
  exact ⟨h1, .inl ⟨[], rfl, h2⟩⟩
