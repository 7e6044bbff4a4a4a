import Derived.Test.YtbmemogajgbdgaaM4
namespace Go.Proofs.Ytbmemogajgbdgaa
open Go.RowKit Go.Gf
def unitF (i j : Nat) : Nat := if j = i then 1 else 0
theorem unitF_lt (i j : Nat) : unitF i j < 256 := by unfold unitF; split <;> omega
def unitM (n : Nat) : List ByteArray := mkM n n unitF
def unitV (n : Int) : List ByteArray := if 1 ≤ n ∧ n ≤ 64 then unitM n.toNat else []
theorem unitV_ok (n : Nat) (h : 1 ≤ n ∧ n ≤ 64) : unitV (n : Int) = unitM n := by
  unfold unitV; rw [if_pos (by omega), Int.toNat_natCast]
theorem unitV_no (n : Int) (h : ¬ (1 ≤ n ∧ n ≤ 64)) : unitV n = [] := by unfold unitV; rw [if_neg h]
theorem unitM_len (n : Nat) : (unitM n).length = n := mkM_len _ _ _
def LisOwn (l : List ByteArray) (w : World) (e : Ending) (w' : World) : Prop :=
  ∃ (A : Option Addr) (n cap : Nat), e = .returned (.slice A n cap) ∧ n = l.length ∧ w'.ownsRow w.heap.size 9 1 (.slice A n cap) n (l.map Value.string) ∧ Ext w w'
theorem lis_nil {l : List ByteArray} {w w' : World} (h : l = []) (hE : Ext w w') : LisOwn l w (.returned (.slice none 0 0)) w' := by
  subst h; exact ⟨none, 0, 0, rfl, rfl, World.ownsRow_nil _ _ _ _, hE⟩
theorem unit_cells {w : World} {g n i : Nat} (hb : Blk w g 5 ((tabA n (fun _ => Value.int .u8 0)).setIfInBounds i (.int .u8 1))) (hi : i < n) : BytesAt w g n (unitF i) := by
  refine ⟨5, _, by rw [Array.size_setIfInBounds, tabA_size]; exact Nat.le_refl _, hb.m, fun j hj => ?_⟩
  rw [Array.getElem?_setIfInBounds, tabA_size, tabA_at _ _ _ hj]
  unfold u8c unitF
  by_cases e : i = j
  · subst e; rw [if_pos rfl, if_pos hi, if_pos rfl]; rfl
  · rw [if_neg e, if_neg (fun h => e h.symm)]; rfl
set_option maxRecDepth 100000 in
theorem unit_any (n : Int) (w : World) : Calls Try.prog 17 #[.int .i64 n] w (LisOwn (unitV n) w) := by
  by_cases h : 1 ≤ n ∧ n ≤ 64
  · obtain ⟨n, rfl⟩ := Int.eq_ofNat_of_zero_le (show 0 ≤ n by omega)
    have h' : 1 ≤ n ∧ n ≤ 64 := by omega
    have HV := Lib.hid (unitV_ok n h')
    have S1 := Lib.hid (side_yes n h')
    obtain ⟨h1, h2⟩ := h'
    obtain ⟨i0, hi0, hz0, hz1, hz2⟩ := info_parts info5
    clear h
    go_enter Try.func17, Try.ntmps17
    go_wp2_with (go_at_call 33; refine (side_any _ _).mono ?_; rintro e w1 ⟨rfl, rfl⟩; rw [S1.out])
    go_loopw [2, 9] (fun v i wr => ∃ k : Nat, k ≤ n ∧ i = .int .i64 k ∧ ∃ (A1 : Option Addr) (c1 : Nat), v = .slice A1 k c1 ∧ wr.ownsRow w.heap.size 9 1 (.slice A1 k c1) k ((mkM k n unitF).map Value.string) ∧ Ext w wr) (fun _ i _ => n - (intOf i).toNat)
    case atStart => exact ⟨0, by omega, rfl, none, 0, rfl, World.ownsRow_nil _ _ _ _, Ext.refl _⟩
    case round =>
      obtain ⟨i, hi, rfl, A1, c1, rfl, hown, hE⟩ := hrel
      by_cases hi2 : i < n
      · have kk : (i : Int) < (n : Int) := by omega
        have kk0 : (0 : Int) ≤ (i : Int) := by omega
        have hb0 : Blk (wr.alloc (.cells (tabA n (fun _ => Value.int .u8 0)) 5)) wr.heap.size 5 (tabA n (fun _ => Value.int .u8 0)) := Blk.new _ _ _
        have c0 : (wr.alloc (.cells (tabA n (fun _ => Value.int .u8 0)) 5)).cell? ⟨wr.heap.size, i, none⟩ = some (.int .u8 0) := by rw [hb0.cell, tabA_at _ _ _ hi2]
        have f0 := hb0.frozen i
        have hb1 : Blk (wr.alloc (.cells ((tabA n (fun _ => Value.int .u8 0)).setIfInBounds i (.int .u8 1)) 5)) wr.heap.size 5 ((tabA n (fun _ => Value.int .u8 0)).setIfInBounds i (.int .u8 1)) := Blk.new _ _ _
        have HCS := Lib.hid (cells_bytes (unit_cells hb1 hi2) (fun j _ => unitF_lt i j))
        have hE2 : Ext wr (wr.alloc (.cells ((tabA n (fun _ => Value.int .u8 0)).setIfInBounds i (.int .u8 1)) 5)) := (Ext.refl wr).alloc _
        have hwz := hE.sz
        have HO := Lib.hid (hown.ext hE2)
        have hEE := hE.trans hE2
        have HP := Lib.hid (mkM_succ i n unitF)
        clear hb0 hb1 hown hE2
        go_wp2_with (first
          | (at_make; refine wpList_make_tab rfl _ _ 43 rfl 5 i0 (.int .u8 0) Try.underlying43 hi0 hz0 hz1 rfl _ _ n rfl rfl (by rw [hz2]; omega) (by omega) ?_)
          | (with_reducible refine wpList_bytes_str rfl 43 9 5 _ rfl Try.underlying43 Try.underlying5 Try.underlying9 wr.heap.size 0 n n rfl (strN n (unitF i)) (strN_size _ _) HCS.out ?_)
          | (at_builtin; refine wpList_app _ rfl _ _ 23 9 rfl Try.underlying23 (.string { data := #[] }) [.string (strN n (unitF i))] 1 16 info9 rfl rfl (by decide) (by decide) w.heap.size (.slice A1 i c1) i ((mkM i n unitF).map Value.string) rfl HO.out (one_str _) _ rfl (by simp) (by omega) (by simp; omega) ?_; intro g4 cap4 w4 hown4 hG4 hg4))
        go_roundw
        case rel => exact ⟨i + 1, by omega, by go_num, _, cap4, rfl, by rw [HP.out, List.map_append]; exact hown4, hG4.ext hEE (Nat.le_refl _)⟩
        case measure => simp [intOf]; omega
      · obtain rfl : i = n := by omega
        have HO := Lib.hid hown
        clear hown
        go_wp2
        go_ret
        exact ⟨A1, i, c1, rfl, by rw [HV.out, unitM_len], by rw [HV.out]; exact HO.out, hE⟩
  · have HV := Lib.hid (unitV_no n h)
    have S1 : sideB n = false := by unfold sideB; simp; omega
    have HS := Lib.hid S1
    clear h S1
    go_enter Try.func17, Try.ntmps17
    go_wp2_with (go_at_call 33; refine (side_any _ _).mono ?_; rintro e w1 ⟨rfl, rfl⟩; rw [HS.out])
    go_ret
    exact lis_nil HV.out (Ext.refl _)
set_option maxRecDepth 100000 in
theorem runit_any (n : Int) (w : World) : Calls Try.prog 18 #[.int .i64 n] w (LisOwn (unitV n) w) := by
  by_cases h : 1 ≤ n ∧ n ≤ 64
  · obtain ⟨n, rfl⟩ := Int.eq_ofNat_of_zero_le (show 0 ≤ n by omega)
    have h' : 1 ≤ n ∧ n ≤ 64 := by omega
    have HV := Lib.hid (unitV_ok n h')
    obtain ⟨h1, h2⟩ := h'
    have e1 : decide ((n : Int) < 1) = false := by simp; omega
    have e2 : decide ((64 : Int) < (n : Int)) = false := by simp; omega
    obtain ⟨i0, hi0, hz0, hz1, hz2⟩ := info_parts info5
    clear h
    go_enter Try.func18, Try.ntmps18
    go_wp2
    go_loopw [3, 4] (fun v i wr => ∃ k : Nat, k ≤ n ∧ i = .int .i64 k ∧ ∃ (A1 : Option Addr) (c1 : Nat), v = .slice A1 k c1 ∧ wr.ownsRow w.heap.size 9 1 (.slice A1 k c1) k ((mkM k n unitF).map Value.string) ∧ Ext w wr) (fun _ i _ => n - (intOf i).toNat)
    case atStart => exact ⟨0, by omega, rfl, none, 0, rfl, World.ownsRow_nil _ _ _ _, Ext.refl _⟩
    case round =>
      obtain ⟨i, hi, rfl, A1, c1, rfl, hown, hE⟩ := hrel
      by_cases hi2 : i < n
      · have kk : (i : Int) < (n : Int) := by omega
        have kk0 : (0 : Int) ≤ (i : Int) := by omega
        have hb0 : Blk (wr.alloc (.cells (tabA n (fun _ => Value.int .u8 0)) 5)) wr.heap.size 5 (tabA n (fun _ => Value.int .u8 0)) := Blk.new _ _ _
        have c0 : (wr.alloc (.cells (tabA n (fun _ => Value.int .u8 0)) 5)).cell? ⟨wr.heap.size, i, none⟩ = some (.int .u8 0) := by rw [hb0.cell, tabA_at _ _ _ hi2]
        have f0 := hb0.frozen i
        have hb1 : Blk (wr.alloc (.cells ((tabA n (fun _ => Value.int .u8 0)).setIfInBounds i (.int .u8 1)) 5)) wr.heap.size 5 ((tabA n (fun _ => Value.int .u8 0)).setIfInBounds i (.int .u8 1)) := Blk.new _ _ _
        have HCS := Lib.hid (cells_bytes (unit_cells hb1 hi2) (fun j _ => unitF_lt i j))
        have hE2 : Ext wr (wr.alloc (.cells ((tabA n (fun _ => Value.int .u8 0)).setIfInBounds i (.int .u8 1)) 5)) := (Ext.refl wr).alloc _
        have hwz := hE.sz
        have HO := Lib.hid (hown.ext hE2)
        have hEE := hE.trans hE2
        have HP := Lib.hid (mkM_succ i n unitF)
        clear hb0 hb1 hown hE2
        go_wp2_with (first
          | (at_make; refine wpList_make_tab rfl _ _ 43 rfl 5 i0 (.int .u8 0) Try.underlying43 hi0 hz0 hz1 rfl _ _ n rfl rfl (by rw [hz2]; omega) (by omega) ?_)
          | (with_reducible refine wpList_bytes_str rfl 43 9 5 _ rfl Try.underlying43 Try.underlying5 Try.underlying9 wr.heap.size 0 n n rfl (strN n (unitF i)) (strN_size _ _) HCS.out ?_)
          | (at_builtin; refine wpList_app _ rfl _ _ 23 9 rfl Try.underlying23 (.string { data := #[] }) [.string (strN n (unitF i))] 1 16 info9 rfl rfl (by decide) (by decide) w.heap.size (.slice A1 i c1) i ((mkM i n unitF).map Value.string) rfl HO.out (one_str _) _ rfl (by simp) (by omega) (by simp; omega) ?_; intro g4 cap4 w4 hown4 hG4 hg4))
        go_roundw
        case rel => exact ⟨i + 1, by omega, by go_num, _, cap4, rfl, by rw [HP.out, List.map_append]; exact hown4, hG4.ext hEE (Nat.le_refl _)⟩
        case measure => simp [intOf]; omega
      · obtain rfl : i = n := by omega
        have HO := Lib.hid hown
        clear hown
        go_wp2
        go_ret
        exact ⟨A1, i, c1, rfl, by rw [HV.out, unitM_len], by rw [HV.out]; exact HO.out, hE⟩
  · have HV := Lib.hid (unitV_no n h)
    by_cases h1 : n < 1
    · have e1 : decide (n < 1) = true := by simpa using h1
      clear h
      go_enter Try.func18, Try.ntmps18
      go_wp2
      go_ret
      exact lis_nil HV.out (Ext.refl _)
    · have e1 : decide (n < 1) = false := by simpa using h1
      have e2 : decide (64 < n) = true := by simp; omega
      clear h
      go_enter Try.func18, Try.ntmps18
      go_wp2
      go_ret
      exact lis_nil HV.out (Ext.refl _)
