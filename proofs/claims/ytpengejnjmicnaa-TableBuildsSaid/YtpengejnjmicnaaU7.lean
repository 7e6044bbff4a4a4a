import Derived.Test.YtpengejnjmicnaaU6
import Derived.RangeFuncNested
import Derived.RangeFuncBound
import Derived.RangeFuncCalls
import Derived.RangeFuncLeaves
import Derived.RangeFuncBox
import Derived.Shelf.RegionOpen
import Derived.WalkKit
import Derived.OwnWalkIn
import Derived.TacticsInMore
import Derived.LoopNIn
import Derived.LoopIn
section
namespace Go.Proofs.Ytpengejnjmicnaa
open Go.RowKit Go.Nb Go.Shelf
attribute [local go_sem] Oper.semAt_some
theorem grown_ext {w w' : World} (h : Ext w w') : w.grownBy w' none := ⟨h.os, h.tape, h.output, h.size, fun k hk _ => h.block k hk⟩
theorem from_any (q : Option Addr) (key : ByteArray) (w : World) : Calls Try.prog 20 #[.pointer q, .string key] w fun e w' => e = .returned (.func (.func 43) #[] #[.pointer (some ⟨w.heap.size, 0, none⟩), .pointer (some ⟨w.heap.size + 1, 0, none⟩)]) ∧ w' = (w.alloc (.cells #[.pointer q] 30)).alloc (.cells #[.string key] 9) := by
  go_enter Try.func20, Try.ntmps20
  go_wp2
  go_ret
  exact ⟨by simp, rfl⟩
set_option maxRecDepth 100000 in
theorem it_nil (n l bm bk : Nat) (J : List Pr → World → Prop) (W : World) (hbm : W.cell? ⟨bm, 0, none⟩ = some (.pointer none)) (h0 : J [] W) :
    CallsIn Fence.wide n Try.prog 43 #[.func (.yield l) #[] #[], .pointer (some ⟨bm, 0, none⟩), .pointer (some ⟨bk, 0, none⟩)] W fun e W' => (∃ v, e = .returned v) ∧ J [] W' := by
  refine callsIn_of_wp Try.func43 rfl trivial ?_ rfl
  simp only [Try.ntmps43, List.size_toArray, List.length_cons, List.length_nil, Nat.reduceAdd, Nat.reduceSub, Array.replicate_succ, Array.replicate_zero, List.push_toArray, List.append_toArray, List.nil_append, List.cons_append]
  refine wpIn_wide.2 ?_
  refine wp_scope_straight ?_
  go_wp2
  rw [Exit.noGoto_ret]
  refine bodyPost_ret (results_none rfl _ _ _) rfl ?_
  exact ⟨⟨_, rfl⟩, h0⟩
abbrev encsP (x : Pr) : Array Value := #[.string (Bt x.k), .string (Bt x.v)]
theorem it_stops_nil (n : Nat) (bm bk n₀ : Nat) (w : World) (hbm : w.cell? ⟨bm, 0, none⟩ = some (.pointer none)) :
    SeqStopsK Fence.wide n Try.prog 43 #[.pointer (some ⟨bm, 0, none⟩), .pointer (some ⟨bk, 0, none⟩)] encsP (Below n₀) (fun ys => ys = []) (fun pre => pre <+: []) 0 w := fun l J Jx W hW _ _ _ h0 => by
  have hw : Ext w W := hW
  refine (it_nil n l bm bk J W (hw.cellv hbm) h0).mono ?_
  rintro e W' ⟨h1, h2⟩
  exact ⟨h1, .inl ⟨[], rfl, h2⟩⟩
end Go.Proofs.Ytpengejnjmicnaa
end
section
namespace Go.Proofs.Ytpengejnjmicnaa
open Go.RowKit Go.Nb Go.Shelf
attribute [local go_sem] Oper.semAt_some
/-- What an iterator tells of one block, and of all. -/
def tellB (key : Bs) (b : List Pr) : List Pr := if Op.bytesLess (b.getD (b.length - 1) default).k key = true then [] else b.drop (seekL key b)
def tellL (key : Bs) (bs : List (List Pr)) : List Pr := (bs.map (tellB key)).flatten
theorem tellL_take {key : Bs} {bs : List (List Pr)} {i : Nat} (h : i < bs.length) : tellL key (bs.take (i + 1)) = tellL key (bs.take i) ++ tellB key (bs.getD i []) := by
  unfold tellL
  rw [getD_take h, List.map_append, List.flatten_append]
  simp
theorem tellL_pre (key : Bs) (bs : List (List Pr)) (i : Nat) : tellL key (bs.take i) <+: tellL key bs := by
  refine ⟨tellL key (bs.drop i), ?_⟩
  unfold tellL
  rw [← List.flatten_append, ← List.map_append, List.take_append_drop]
set_option maxRecDepth 100000 in
set_option maxHeartbeats 2000000 in
theorem it_in (n : Nat) (hn : 1 ≤ n) (l bm bk gt : Nat) (W0 : World) (bs : List (List Pr)) (key : Bs) (hm : Tbl W0 gt bs) (h2 : ∀ b ∈ bs, b ≠ []) (hu : ∀ b ∈ bs, upB b = true) (hL : bs.flatten.length ≤ 1048576) (J Jx : List Pr → World → Prop)
    (hY : ∀ pre x W, J pre W → pre.length < (tellL key bs).length → YieldAt Fence.wide (n - 1) Try.prog l #[.string (Bt x.k), .string (Bt x.v)] W fun e W' =>
      (e = .returned (.bool true) ∧ J (pre ++ [x]) W' ∧ Below W0.heap.size W W') ∨ (e = .returned (.bool false) ∧ Jx (pre ++ [x]) W'))
    (W : World) (hJ : AbidesFrom W.heap.size J) (hE : Ext W0 W) (hbm0 : W0.cell? ⟨bm, 0, none⟩ = some (.pointer (some ⟨gt, 0, none⟩))) (hbk0 : W0.cell? ⟨bk, 0, none⟩ = some (.string (Bt key))) (h0 : J [] W) :
    CallsIn Fence.wide n Try.prog 43 #[.func (.yield l) #[] #[], .pointer (some ⟨bm, 0, none⟩), .pointer (some ⟨bk, 0, none⟩)] W fun e W' => (∃ v, e = .returned v) ∧
      ((∃ ys, ys = tellL key bs ∧ J ys W') ∨ (∃ pre, pre <+: tellL key bs ∧ Jx pre W')) := by
  obtain ⟨v, hT, hV⟩ := hm
  have hV0 : BsRd W0 0 v bs := hV.mono0
  obtain ⟨A, c, rfl, hB, hkc⟩ := hV0.blRd
  have c0 := hE.cellv hT.c0
  have hkn : bs.length ≤ bs.flatten.length := len_flat_le h2
  have HBL := Lib.hid hB
  obtain ⟨k, hk⟩ : ∃ k, k = bs.length := ⟨_, rfl⟩
  rw [← hk] at c0 hkn hkc
  have HK := Lib.hid hk
  have HBK := Lib.hid hbk0
  have hbm := hE.cellv hbm0
  have hbk := hE.cellv hbk0
  clear hk hV hV0 hB hT
  refine callsIn_of_wp Try.func43 rfl trivial ?_ rfl
  simp only [Try.ntmps43, List.size_toArray, List.length_cons, List.length_nil, Nat.reduceAdd, Nat.reduceSub, Array.replicate_succ, Array.replicate_zero, List.push_toArray, List.append_toArray, List.nil_append, List.cons_append]
  refine wpIn_wide.2 ?_
  refine wp_scope_straight ?_
  go_wp2
  refine wp_label ?_
  go_wp2
  refine (wpIn_wide (n := n)).1 ?_
  gi_loopw [15] (fun iv wr => ∃ i : Nat, i ≤ k ∧ iv = .int .i64 i ∧ J (tellL key (bs.take i)) wr ∧ Ext W0 wr ∧ W.heap.size ≤ wr.heap.size) (fun iv _ => k - (intOf iv).toNat)
  case atStart => exact ⟨0, by omega, rfl, by simpa [tellL] using h0, hE, Nat.le_refl _⟩
  case round =>
    obtain ⟨i, hi, rfl, hJs, hEr, hsz⟩ := hrel
    by_cases hlt : i < k
    · have kk : (i : Int) < (k : Int) := by omega
      have kk0 : (0 : Int) ≤ (i : Int) := by omega
      have hik : i < bs.length := by rw [← HK.out]; exact hlt
      obtain ⟨g, B, cb, rfl, e1, p1, hcb⟩ := HBL.out i hik
      have htk := tellL_take (key := key) hik
      have hpos := pos_ne (h2 _ (mem_getD hik))
      have hub := hu _ (mem_getD hik)
      have hmx := len_mem_flat (mem_getD hik)
      have hpre := tellL_pre key bs (i + 1)
      obtain ⟨b, hb⟩ : ∃ b, b = bs.getD i [] := ⟨_, rfl⟩
      rw [← hb] at e1 p1 hcb htk hpos hub hmx
      have hdef : tellB key b = if Op.bytesLess (b.getD (b.length - 1) default).k key = true then [] else b.drop (seekL key b) := rfl
      have hslt : Op.bytesLess (b.getD (b.length - 1) default).k key = false → seekL key b < b.length := fun h => by
        have h3 := seekL_le key b
        rcases Nat.lt_or_ge (seekL key b) b.length with h4 | h4
        · exact h4
        · have := seekL_lt key b (b.length - 1) (by omega)
          rw [h] at this; cases this
      have HSK : Hid (∀ w', Ext W0 w' → Calls Try.prog 44 #[.slice B b.length cb, .string (Bt key)] w' fun e w2 => e = .returned (.int .i64 (seekL key b)) ∧ Ext w' w2) := Lib.hid (fun w' h => seek_any (c := cb) (p1.ext h) (by omega) hub key)
      obtain ⟨z, hz⟩ : ∃ z, z = b.length - 1 := ⟨_, rfl⟩
      obtain ⟨gb, ob, rfl, z0, _⟩ := p1.at_ z (by omega)
      have hcell := fun j (hj : j < b.length) => p1.at_ j hj
      have HCELL := Lib.hid hcell
      rw [← hz] at hdef hslt
      obtain ⟨m, hmm⟩ : ∃ m, m = b.length := ⟨_, rfl⟩
      rw [← hmm] at e1 hcb hpos hmx hslt HSK hz
      have HMM := Lib.hid hmm
      have e1' := hEr.cellv e1
      have z0' := hEr.cellv z0
      have wz : IntKind.i64.wrap ((m : Int) - 1) = (z : Int) := by
        rw [show (m : Int) - 1 = (z : Int) by omega]; exact IntWalk.i64_in _ (by omega)
      have zm : (z : Int) < (m : Int) := by omega
      have zm0 : (0 : Int) ≤ (z : Int) := by omega
      have hTB := toList_Bt
      have hbk' : wr.cell? ⟨bk, 0, none⟩ = some (.string (Bt key)) := hEr.cellv HBK.out
      obtain ⟨lk, hlk⟩ : ∃ lk, lk = (b.getD z default).k := ⟨_, rfl⟩
      rw [← hlk] at z0' hdef hslt
      have HTK := Lib.hid htk
      have HDEF := Lib.hid hdef
      have HSLT := Lib.hid hslt
      have HPRE := Lib.hid hpre
      clear htk hdef hslt hpre hcell hz hb hmm hlk z0 e1 p1 hub
      cases htt : Op.bytesLess lk key
      case true =>
        have hD : tellB key b = [] := by rw [HDEF.out, htt]; rfl
        have HD := Lib.hid hD
        clear hD
        gi_wp2
        refine wpIn_wide.2 ?_
        go_quiet (fail)
        go_wp2
        gi_wp2
        go_roundw
        case rel => exact ⟨i + 1, by omega, by simp, by rw [HTK.out, HD.out, List.append_nil]; exact hJ _ wr _ none hJs (grown_ext ((Ext.refl wr).drewN _)) (fun r e => by cases e), hEr.drewN _, Nat.le_trans hsz ((Ext.refl wr).drewN _).sz⟩
        case measure => simp [intOf]; omega
      case false =>
        have hD : tellB key b = b.drop (seekL key b) := by rw [HDEF.out, htt]; rfl
        have hsl := HSLT.out htt
        obtain ⟨s, hs⟩ : ∃ s, s = seekL key b := ⟨_, rfl⟩
        rw [← hs] at hD hsl HSK
        obtain ⟨R, hR⟩ : ∃ R, R = tellB key b := ⟨_, rfl⟩
        have HTK2 : Hid (tellL key (bs.take (i + 1)) = tellL key (bs.take i) ++ R) := Lib.hid (by rw [hR]; exact HTK.out)
        have hRl : R.length = m - s := by rw [hR, hD, List.length_drop, HMM.out]
        have hRg : ∀ j, R.getD j default = b.getD (s + j) default := fun j => by rw [hR, hD, List.getD_eq_getElem?_getD, List.getElem?_drop, ← List.getD_eq_getElem?_getD]
        have HRG := Lib.hid hRg
        have s0 : (0 : Int) ≤ (s : Int) := by omega
        have s1 : (s : Int) ≤ (m : Int) := by omega
        have hcs : ¬ (cb = s) := by omega
        obtain ⟨P, hP⟩ : ∃ P, P = tellL key (bs.take i) := ⟨_, rfl⟩
        rw [← hP] at hJs HTK2
        have HPR : Hid (P ++ R <+: tellL key bs) := Lib.hid (by rw [← HTK2.out]; exact HPRE.out)
        clear hD hs hR hRg hP HTK HDEF HSLT HPRE
        gi_wp2
        refine wpIn_wide.2 ?_
        go_quiet (fail)
        go_wp2
        refine wpIn_wide.2 ?_
        go_wp2
        refine wpIn_wide.2 ?_
        go_wp2_with (go_at_call 44; (with_reducible refine (HSK.out _ (hEr.drewN _)).mono ?_); rintro e w1 ⟨rfl, hE1⟩)
        have HE1 := Lib.hid ((hEr.drewN _).trans hE1)
        have hsz1 := Nat.le_trans hsz (((Ext.refl wr).drewN _).trans hE1).sz
        have hJ1 := hJ P wr w1 none hJs (grown_ext (((Ext.refl wr).drewN _).trans hE1)) (fun r e => by cases e)
        clear hJs hE1 hEr hsz
        refine (wpIn_wide (n := n)).1 ?_
        gi_loopw [34] (fun jv wr => ∃ j : Nat, j ≤ m - s ∧ jv = .int .i64 j ∧ J (P ++ R.take j) wr ∧ Ext W0 wr ∧ W.heap.size ≤ wr.heap.size) (fun jv _ => (m - s) - (intOf jv).toNat)
        case atStart => exact ⟨0, by omega, rfl, by simpa using hJ1, HE1.out, hsz1⟩
        case round =>
          clear hJ1 hsz1 HE1
          obtain ⟨j, hj, rfl, hJs, hEr, hsz⟩ := hrel
          by_cases hlt2 : j < m - s
          · have jj : (j : Int) < ((m - s : Nat) : Int) := by omega
            have jj0 : (0 : Int) ≤ (j : Int) := by omega
            obtain ⟨gx, ox, hgx, d0, d1⟩ := HCELL.out (s + j) (by rw [← HMM.out]; omega)
            injection hgx with hgx
            injection hgx with hg1 hg2 hg3
            subst hg1 hg2
            replace d0 := hEr.cellv d0
            replace d1 := hEr.cellv d1
            rw [show ob + (s + j) * 2 = ob + s * 2 + j * 2 by omega, ← HRG.out j] at d0 d1
            obtain ⟨x, hx⟩ : ∃ x, x = R.getD j default := ⟨_, rfl⟩
            rw [← hx] at d0 d1
            have hsn : P ++ R.take (j + 1) = (P ++ R.take j) ++ [x] := by
              rw [List.append_assoc, List.take_succ_eq_append_getElem (by omega), hx, List.getD_eq_getElem?_getD, List.getElem?_eq_getElem (by omega)]
              rfl
            have HSN := Lib.hid hsn
            have hXb := (Ext.refl wr).alloc (.cells #[.string (Bt x.k), .string (Bt x.v)] 53)
            have HPB := Lib.hid (PBox.new wr (Bt x.k) (Bt x.v))
            have f0 := HPB.out.c0
            have f1 := HPB.out.c1
            have hJ2 := hJ _ wr _ none hJs (grown_ext hXb) (fun r e => by cases e)
            obtain ⟨fn, tmps, assign, body, hy, hRd⟩ := hY (P ++ R.take j) x (wr.alloc (.cells #[.string (Bt x.k), .string (Bt x.v)] 53)) hJ2 (by
              have := HPR.out.length_le
              rw [List.length_append] at this ⊢
              rw [List.length_take]; omega)
            have HXb := Lib.hid hXb
            clear hx hsn hXb hJ2
            gi_wp2
            refine hRd.mono ?_
            rintro e W3 (⟨rfl, hJ3, hk3⟩ | ⟨rfl, hJx3⟩)
            · gi_wp2
              go_roundw
              case rel => exact ⟨j + 1, by omega, by simp, by rw [HSN.out]; exact hJ3, Below.trans (hEr.trans HXb.out) hk3, Nat.le_trans hsz (Nat.le_trans HXb.out.sz hk3.size)⟩
              case measure => simp [intOf]; omega
            · gi_wp2
              rw [Exit.noGoto_normal]
              go_end0
              exact ⟨⟨_, rfl⟩, .inr ⟨P ++ R.take (j + 1), (List.prefix_append_right_inj P).2 (List.take_prefix _ _) |>.trans HPR.out, by rw [HSN.out]; exact hJx3⟩⟩
          · obtain rfl : j = m - s := by omega
            gi_wp2
            go_roundw
            case rel => exact ⟨i + 1, by omega, by simp, by rw [HTK2.out]; rw [List.take_of_length_le (by omega)] at hJs; exact hJs, hEr, hsz⟩
            case measure => simp [intOf]; omega
    · obtain rfl : i = k := by omega
      gi_wp2
      rw [Exit.noGoto_normal]
      go_end0
      exact ⟨⟨_, rfl⟩, .inl ⟨_, rfl, by rw [HK.out, List.take_length] at hJs; exact hJs⟩⟩
theorem it_stops (n : Nat) (hn : 1 ≤ n) (bm bk gt : Nat) (W0 : World) (bs : List (List Pr)) (key : Bs) (hm : Tbl W0 gt bs) (h2 : ∀ b ∈ bs, b ≠ []) (hu : ∀ b ∈ bs, upB b = true) (hL : bs.flatten.length ≤ 1048576) (w : World) (hE : Ext W0 w) (hbm : W0.cell? ⟨bm, 0, none⟩ = some (.pointer (some ⟨gt, 0, none⟩))) (hbk : W0.cell? ⟨bk, 0, none⟩ = some (.string (Bt key))) :
    SeqStopsK Fence.wide n Try.prog 43 #[.pointer (some ⟨bm, 0, none⟩), .pointer (some ⟨bk, 0, none⟩)] encsP (Below W0.heap.size) (fun ys => ys = tellL key bs) (fun pre => pre <+: tellL key bs) (tellL key bs).length w := fun l J Jx W hW hJ _ hY h0 => by
  have hw : Ext w W := hW
  exact it_in n hn l bm bk gt W0 bs key hm h2 hu hL J Jx hY W hJ (hE.trans hw) hbm hbk h0
end Go.Proofs.Ytpengejnjmicnaa
end
section
namespace Go.Proofs.Ytpengejnjmicnaa
open Go.RowKit Go.Nb
theorem seek_while (key : Bs) : ∀ l : List Pr, l.drop (seekL key l) = l.dropWhile (fun p => Op.bytesLess p.k key)
  | [] => rfl
  | p :: l => by
    unfold seekL
    by_cases h : Op.bytesLess p.k key = true
    · rw [if_pos h, List.drop_succ_cons, seek_while key l, List.dropWhile_cons, if_pos h]
    · rw [if_neg h, List.dropWhile_cons, if_neg h]; rfl
theorem upB_app : ∀ a b : List Pr, upB (a ++ b) = true → upB b = true
  | [], _, h => h
  | [p], [], _ => rfl
  | [p], q :: b, h => by
    simp only [List.cons_append, List.nil_append, upB, Bool.and_eq_true] at h
    exact h.2
  | p :: q :: a, b, h => by
    simp only [List.cons_append, upB, Bool.and_eq_true] at h
    exact upB_app (q :: a) b h.2
theorem tellB_all {key : Bs} {b : List Pr} (hn : b ≠ []) (h : ∀ p ∈ b, Op.bytesLess p.k key = false) : tellB key b = b := by
  cases b with
  | nil => exact absurd rfl hn
  | cons p l =>
    unfold tellB
    have h1 : Op.bytesLess ((p :: l).getD ((p :: l).length - 1) default).k key = false := by
      apply h
      rw [List.getD_eq_getElem?_getD, List.getElem?_eq_getElem (by simp)]
      exact List.getElem_mem _
    rw [h1, seek_while, List.dropWhile_cons, h p (by simp)]
    rfl
theorem tellL_all {key : Bs} : ∀ {bs : List (List Pr)}, (∀ b ∈ bs, b ≠ []) → (∀ p ∈ bs.flatten, Op.bytesLess p.k key = false) → tellL key bs = bs.flatten
  | [], _, _ => rfl
  | b :: r, h1, h2 => by
    have ih := tellL_all (key := key) (bs := r) (fun x hx => h1 x (by simp [hx])) (fun p hp => h2 p (by rw [List.flatten_cons]; exact List.mem_append_right _ hp))
    have e1 := tellB_all (key := key) (h1 b (by simp)) (fun p hp => h2 p (by rw [List.flatten_cons]; exact List.mem_append_left _ hp))
    unfold tellL at ih ⊢
    rw [List.map_cons, List.flatten_cons, ih, e1, List.flatten_cons]
/-- What the iterator tells is all from where the key stands. -/
theorem tell_flat {key : Bs} : ∀ {bs : List (List Pr)}, (∀ b ∈ bs, b ≠ []) → upB bs.flatten = true → tellL key bs = bs.flatten.drop (seekL key bs.flatten)
  | [], _, _ => by simp [tellL]
  | b :: r, h1, hu => by
    have hb := h1 b (by simp)
    have hbp := pos_ne hb
    have hr : ∀ x ∈ r, x ≠ [] := fun x hx => h1 x (by simp [hx])
    rw [List.flatten_cons] at hu ⊢
    have hur := upB_app _ _ hu
    have hub : upB b = true := by have := upB_take _ b.length hu; rwa [List.take_left] at this
    have ih := tell_flat (key := key) hr hur
    have hcons : tellL key (b :: r) = tellB key b ++ tellL key r := rfl
    have hlast : (b ++ r.flatten).getD (b.length - 1) default = b.getD (b.length - 1) default := by
      rw [List.getD_eq_getElem?_getD, List.getElem?_append_left (by omega), ← List.getD_eq_getElem?_getD]
    rw [hcons, seek_while, List.dropWhile_append]
    cases ht : Op.bytesLess (b.getD (b.length - 1) default).k key
    · have hall : ∀ p ∈ r.flatten, Op.bytesLess p.k key = false := fun p hp => by
        obtain ⟨j, hj, rfl⟩ := List.getElem_of_mem hp
        cases hq : Op.bytesLess (r.flatten[j]).k key
        · rfl
        · have := less_mono hu (key := key) (i := b.length - 1) (j := b.length + j) (by omega) (by rw [List.length_append]; omega) (by
            rw [List.getD_eq_getElem?_getD, List.getElem?_append_right (by omega), Nat.add_sub_cancel_left, List.getElem?_eq_getElem hj]; exact hq)
          rw [hlast, ht] at this
          cases this
      have hne : (b.dropWhile fun p => Op.bytesLess p.k key).isEmpty = false := by
        rw [← seek_while]
        cases he : (b.drop (seekL key b)).isEmpty
        · rfl
        · rw [List.isEmpty_iff, List.drop_eq_nil_iff] at he
          have := seekL_lt key b (b.length - 1) (by omega)
          rw [ht] at this; cases this
      rw [hne, tellL_all hr hall, ← seek_while]
      have e1 : tellB key b = b.drop (seekL key b) := by unfold tellB; rw [ht]; rfl
      rw [e1, seek_while]
      simp
    · have hem : (b.dropWhile fun p => Op.bytesLess p.k key).isEmpty = true := by
        rw [← seek_while, List.isEmpty_iff, List.drop_eq_nil_iff]
        rcases Nat.lt_or_ge (seekL key b) b.length with h4 | h4
        · have h5 := seekL_at key b h4
          rw [less_mono hub (key := key) (i := seekL key b) (j := b.length - 1) (by omega) (by omega) ht] at h5
          cases h5
        · exact h4
      have e1 : tellB key b = [] := by unfold tellB; rw [ht]; rfl
      rw [hem, ih, seek_while, e1]
      simp
end Go.Proofs.Ytpengejnjmicnaa
end
