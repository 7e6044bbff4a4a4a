import Derived.Test.YtpengejnjmicnaaU8
import Derived.Test.YtpengejnjmicnaaU5
import Derived.Test.YtpengejnjmicnaaU6
section
namespace Go.Proofs.Ytpengejnjmicnaa
open Go.RowKit Go.Nb
def LW : List Pr := [⟨[97], [49]⟩, ⟨[98], [50]⟩]
def BW1 : List (List Pr) := [[⟨[97], [49]⟩], [⟨[98], [50]⟩]]
def BW2 : List (List Pr) := [[⟨[97], [49]⟩, ⟨[98], [50]⟩]]
theorem bw1_blk : blkL 1 LW = BW1 := by decide
theorem bw2_blk : blkL 100 LW = BW2 := by decide
theorem bw1_ok : okB [] BW1 = true := by decide
theorem bw2_ok : okB [] BW2 = true := by decide
theorem bw1_tab : TabIs (txt BW1) BW1 := ⟨by decide, bw1_ok, rfl⟩
theorem bw2_tab : TabIs (txt BW2) BW2 := ⟨by decide, bw2_ok, rfl⟩
theorem bw1_len : (txt BW1).length ≤ 65536 := by decide
theorem bw2_len : (txt BW2).length = 29 := by decide
theorem bw1_bld : bldR 1 LW = .tuple #[.string (Bt (txt BW1)), .int .i64 0] := by
  unfold bldR
  rw [if_neg (by decide), bw1_blk, bldV_yes bw1_ok]
theorem bw2_bld : bldR 100 LW = .tuple #[.string (Bt (txt BW2)), .int .i64 0] := by
  unfold bldR
  rw [if_neg (by decide), bw2_blk, bldV_yes bw2_ok]
theorem bw2_no (bs : List (List Pr)) : ¬ TabIs ((txt BW2).drop 1) bs := fun h => by
  have h2 := ((tab_sol (S := (txt BW2).drop 1) (by decide) (by decide) (n := 14) (by decide) (by decide) bs).1 h).2
  refine rest_fail (bs0 := []) (n := 0) (R1 := [1, 1, 98, 1, 14].drop 1) (by decide) (rest_start (by decide) (by decide)) (.inl (by decide)) bs h2
theorem tbl_of {S : Bs} {bs : List (List Pr)} (h : TabIs S bs) (hS : S.length ≤ 131072) (W : World) : Calls Try.prog 14 #[.string (Bt S)] W fun e w' => ∃ gt, e = .returned (.tuple #[.pointer (some ⟨gt, 0, none⟩), .int .i64 0]) ∧ Tbl w' gt bs ∧ Ext W w' := by
  refine (open_any hS W).mono ?_
  rintro e w' (⟨bs2, gt, h1, h2, h3, h4⟩ | ⟨h1, _⟩)
  · rw [tab_one hS h h1]
    exact ⟨gt, h2, h3, h4⟩
  · exact absurd h (h1 bs)
theorem tbl_no {S : Bs} (h : ∀ bs, ¬ TabIs S bs) (hS : S.length ≤ 131072) (W : World) : Calls Try.prog 14 #[.string (Bt S)] W fun e w' => e = .returned (.tuple #[.pointer none, .int .i64 8]) ∧ Ext W w' := by
  refine (open_any hS W).mono ?_
  rintro e w' (⟨bs2, gt, h1, _⟩ | ⟨_, h2, h3⟩)
  · exact absurd h1 (h bs2)
  · exact ⟨h2, h3⟩
theorem prd_lit (w : World) (a b c d : Bs) : PRd (w.alloc (.cells #[.string (Bt a), .string (Bt b), .string (Bt c), .string (Bt d)] 53)) (some ⟨w.heap.size, 0, none⟩) 2 [⟨a, b⟩, ⟨c, d⟩] := by
  refine ⟨rfl, fun _ => ⟨w.heap.size, 0, rfl, fun i j hi hj => ?_⟩⟩
  have hb := Blk.new w 53 #[.string (Bt a), .string (Bt b), .string (Bt c), .string (Bt d)]
  rw [hb.cell]
  rcases (by omega : i = 0 ∨ i = 1) with rfl | rfl <;> rcases (by omega : j = 0 ∨ j = 1) with rfl | rfl <;> rfl
theorem bw1_tok : Tok BW1 := ⟨by decide, bw1_ok, by decide⟩
theorem bw2_tok : Tok BW2 := ⟨by decide, bw2_ok, by decide⟩
theorem lw_small : Small LW := by unfold Small; decide
set_option maxRecDepth 100000 in
set_option maxHeartbeats 4000000 in
theorem works_any (w : World) : Calls Try.prog 10 #[] w fun e w' => e = .returned (.bool true) ∧ Ext w w' := by
  have hP0 : PRd (w.alloc (.cells #[.string ⟨#[97]⟩, .string ⟨#[49]⟩, .string ⟨#[98]⟩, .string ⟨#[50]⟩] 53)) (some ⟨w.heap.size, 0, none⟩) 2 LW := prd_lit w [97] [49] [98] [50]
  have hE0 : Ext w (w.alloc (.cells #[.string ⟨#[97]⟩, .string ⟨#[49]⟩, .string ⟨#[98]⟩, .string ⟨#[50]⟩] 53)) := (Ext.refl w).alloc _
  have HB1 : Hid (∀ W A, PRd W A 2 LW → Calls Try.prog 11 #[.slice A 2 2, .int .i64 1] W fun e w' => e = .returned (.tuple #[.string (Bt (txt BW1)), .int .i64 0]) ∧ Ext W w') := Lib.hid (fun W A h => by
    have := build_all h (c := 2) (by omega) (by omega) 1 lw_small (by rw [bw1_blk]; exact bw1_len)
    rw [bw1_bld] at this
    exact this)
  have HB2 : Hid (∀ W A, PRd W A 2 LW → Calls Try.prog 11 #[.slice A 2 2, .int .i64 100] W fun e w' => e = .returned (.tuple #[.string (Bt (txt BW2)), .int .i64 0]) ∧ Ext W w') := Lib.hid (fun W A h => by
    have := build_all h (c := 2) (by omega) (by omega) 100 lw_small (by rw [bw2_blk, bw2_len]; omega)
    rw [bw2_bld] at this
    exact this)
  have HO1 := Lib.hid (fun W => tbl_of bw1_tab (by have := bw1_len; omega) W)
  have HO2 := Lib.hid (fun W => tbl_of bw2_tab (by rw [bw2_len]; omega) W)
  have HO3 := Lib.hid (fun W => tbl_no bw2_no (by rw [List.length_drop, bw2_len]; omega) W)
  have e3 : (Bt (txt BW2)).extract (min (1 : Int) 29).toNat (Bt (txt BW2)).size = Bt ((txt BW2).drop 1) := by
    rw [show (min (1 : Int) 29).toNat = 1 from rfl, Bt_size, Bt_extract, List.take_length]
  rw [← e3] at HO3
  have zs : ((Bt (txt BW2)).size : Int) = 29 := by rw [Bt_size, bw2_len]; rfl
  have HG : Hid (∀ W gt, Tbl W gt BW1 → Calls Try.prog 21 #[.pointer (some ⟨gt, 0, none⟩), .string ⟨#[98]⟩] W fun e w' => e = .returned (.tuple #[.string ⟨#[50]⟩, .bool true]) ∧ Ext W w') := Lib.hid (fun W gt h => get_t h bw1_tok [98])
  have HE : Hid (∀ W gt, Tbl W gt BW2 → Calls Try.prog 22 #[.pointer (some ⟨gt, 0, none⟩)] W fun e w' => e = .returned (.tuple #[.string ⟨#[97]⟩, .string ⟨#[98]⟩]) ∧ Ext W w') := Lib.hid (fun W gt h => ends_t h (by decide) bw2_tok.nn (by decide))
  have HK1 : Hid (∀ W gt, Tbl W gt BW1 → Calls Try.prog 17 #[.pointer (some ⟨gt, 0, none⟩)] W fun e w' => e = .returned (.int .i64 2) ∧ Ext W w') := Lib.hid (fun W gt h => tblocks_any h)
  have HK2 : Hid (∀ W gt, Tbl W gt BW2 → Calls Try.prog 17 #[.pointer (some ⟨gt, 0, none⟩)] W fun e w' => e = .returned (.int .i64 1) ∧ Ext W w') := Lib.hid (fun W gt h => tblocks_any h)
  have HL2 : Hid (∀ W gt, Tbl W gt BW2 → Calls Try.prog 23 #[.pointer (some ⟨gt, 0, none⟩)] W fun e w' => e = .returned (.int .i64 2) ∧ Ext W w') := Lib.hid (fun W gt h => tlen_any h)
  have HF : Hid (∀ W gt, Tbl W gt BW1 → Calls Try.prog 20 #[.pointer (some ⟨gt, 0, none⟩), .string ⟨#[97, 97]⟩] W fun e w' => ∃ lb, e = .returned (.func (.func 43) #[] lb) ∧ SeqOf w' lb [⟨[98], [50]⟩] ∧ Ext W w') := Lib.hid (fun W gt h => from_t h bw1_tok [97, 97])
  have HC : Hid (∀ W lb, SeqOf W lb [⟨[98], [50]⟩] → Calls Try.prog 19 #[.func (.func 43) #[] lb, .int .i64 9] W fun e w' => ∃ A c, e = .returned (.slice A 1 c) ∧ Ext W w') := Lib.hid (fun W lb h => (collect_t h (most := 9) (by omega) (by omega)).mono (by
    rintro e w' ⟨A, c, h1, _, h2⟩
    exact ⟨A, c, h1, h2⟩))
  generalize hX1 : Bt (txt BW1) = X1 at *
  generalize hX2 : Bt (txt BW2) = X2 at *
  clear hX1 hX2 e3
  go_enter Try.func10, Try.ntmps10
  go_wp2_with (first
    | (go_at_call 11; (with_reducible refine (HB1.out _ _ hP0).mono ?_); rintro e w1 ⟨rfl, hE1⟩)
    | (go_at_call 14; (with_reducible refine (HO1.out _).mono ?_); rintro e w2 ⟨g1, rfl, hT1, hE2⟩; have hO2 := (hE0.trans hE1).trans hE2; have hP2 := (hP0.ext hE1).ext hE2)
    | (go_at_call 11; (with_reducible refine (HB2.out _ _ hP2).mono ?_); rintro e w3 ⟨rfl, hE3⟩)
    | (go_at_call 14; (with_reducible refine (HO2.out _).mono ?_); rintro e w4 ⟨g2, rfl, hT2, hE4⟩)
    | (go_at_call 14; (with_reducible refine (HO3.out _).mono ?_); rintro e w5 ⟨rfl, hE5⟩; have hO5 := ((hO2.trans hE3).trans hE4).trans hE5; have hU1 := ((hT1.ext hE3).ext hE4).ext hE5; have hU2 := hT2.ext hE5)
    | (go_at_call 21; (with_reducible refine (HG.out _ _ hU1).mono ?_); rintro e w6 ⟨rfl, hE6⟩; have hU6 := hU2.ext hE6)
    | (go_at_call 22; (with_reducible refine (HE.out _ _ hU6).mono ?_); rintro e w7 ⟨rfl, hE7⟩; have hU7 := (hU1.ext hE6).ext hE7)
    | (go_at_call 17; (with_reducible refine (HK1.out _ _ hU7).mono ?_); rintro e w8 ⟨rfl, hE8⟩; have hU8 := (hU6.ext hE7).ext hE8)
    | (go_at_call 17; (with_reducible refine (HK2.out _ _ hU8).mono ?_); rintro e w9 ⟨rfl, hE9⟩; have hU9 := hU8.ext hE9)
    | (go_at_call 23; (with_reducible refine (HL2.out _ _ hU9).mono ?_); rintro e w10 ⟨rfl, hE10⟩; have hU10 := ((hU7.ext hE8).ext hE9).ext hE10)
    | (go_at_call 20; (with_reducible refine (HF.out _ _ hU10).mono ?_); rintro e w11 ⟨lb, rfl, hS, hE11⟩)
    | (go_at_call 19; (with_reducible refine (HC.out _ _ hS).mono ?_); rintro e w12 ⟨A12, c12, rfl, hE12⟩))
  go_ret
  exact ⟨rfl, ((((((hO5.trans hE6).trans hE7).trans hE8).trans hE9).trans hE10).trans hE11).trans hE12⟩
end Go.Proofs.Ytpengejnjmicnaa
end
