import Derived.Test.YtjdppgogdilgkaaMA
import Derived.Test.YtjdppgogdilgkaaPB
import Derived.Deep.LoopGhost
section
namespace Go.Proofs.Ytjdppgogdilgkaa
open Go.RowKit Go.Gf
def unitF (i j : Nat) : Nat := if j = i then 1 else 0
theorem unitF_lt (i j : Nat) : unitF i j < 256 := by unfold unitF; split <;> omega
def unitM (n : Nat) : List ByteArray := mkM n n unitF
def unitV (n : Int) : List ByteArray := if 1 ≤ n ∧ n ≤ 64 then unitM n.toNat else []
theorem unitV_ok (n : Nat) (h : 1 ≤ n ∧ n ≤ 64) : unitV (n : Int) = unitM n := by
  unfold unitV; rw [if_pos (by omega), Int.toNat_natCast]
theorem unitV_no (n : Int) (h : ¬ (1 ≤ n ∧ n ≤ 64)) : unitV n = [] := by unfold unitV; rw [if_neg h]
theorem unitM_len (n : Nat) : (unitM n).length = n := mkM_len _ _ _
def LisOwn (l : List ByteArray) (w : World) (e : Ending) (w' : World) : Prop :=
  ∃ (A : Option Addr) (n cap : Nat), e = .returned (.slice A n cap) ∧ n = l.length ∧ w'.ownsRow w.heap.size 9 1 (.slice A n cap) n (l.map Value.string) ∧ Ext w w'
theorem lis_nil {l : List ByteArray} {w w' : World} (h : l = []) (hE : Ext w w') : LisOwn l w (.returned (.slice none 0 0)) w' := by
  subst h; exact ⟨none, 0, 0, rfl, rfl, World.ownsRow_nil _ _ _ _, hE⟩
theorem unit_cells {w : World} {g n i : Nat} (hb : Blk w g 5 ((tabA n (fun _ => Value.int .u8 0)).setIfInBounds i (.int .u8 1))) (hi : i < n) : BytesAt w g n (unitF i) := by
  refine ⟨5, _, by rw [Array.size_setIfInBounds, tabA_size]; exact Nat.le_refl _, hb.m, fun j hj => ?_⟩
  rw [Array.getElem?_setIfInBounds, tabA_size, tabA_at _ _ _ hj]
  unfold u8c unitF
  by_cases e : i = j
  · subst e; rw [if_pos rfl, if_pos hi, if_pos rfl]; rfl
  · rw [if_neg e, if_neg (fun h => e h.symm)]; rfl
set_option maxRecDepth 100000 in
theorem unit_any (n : Int) (w : World) : Calls Try.prog 42 #[.int .i64 n] w (LisOwn (unitV n) w) := by
  by_cases h : 1 ≤ n ∧ n ≤ 64
  · obtain ⟨n, rfl⟩ := Int.eq_ofNat_of_zero_le (show 0 ≤ n by omega)
    have h' : 1 ≤ n ∧ n ≤ 64 := by omega
    have HV := Lib.hid (unitV_ok n h')
    have S1 := Lib.hid (side_yes n h')
    obtain ⟨h1, h2⟩ := h'
    obtain ⟨i0, hi0, hz0, hz1, hz2⟩ := info_parts info5
    clear h
    go_enter Try.func42, Try.ntmps42
    go_wp2_with (go_at_call 61; refine (side_any _ _).mono ?_; rintro e w1 ⟨rfl, rfl⟩; rw [S1.out])
    go_loopw [2, 9] (fun v i wr => ∃ k : Nat, k ≤ n ∧ i = .int .i64 k ∧ ∃ (A1 : Option Addr) (c1 : Nat), v = .slice A1 k c1 ∧ wr.ownsRow w.heap.size 9 1 (.slice A1 k c1) k ((mkM k n unitF).map Value.string) ∧ Ext w wr) (fun _ i _ => n - (intOf i).toNat)
    case atStart => exact ⟨0, by omega, rfl, none, 0, rfl, World.ownsRow_nil _ _ _ _, Ext.refl _⟩
    case round =>
      obtain ⟨i, hi, rfl, A1, c1, rfl, hown, hE⟩ := hrel
      by_cases hi2 : i < n
      · have kk : (i : Int) < (n : Int) := by omega
        have kk0 : (0 : Int) ≤ (i : Int) := by omega
        have hb0 : Blk (wr.alloc (.cells (tabA n (fun _ => Value.int .u8 0)) 5)) wr.heap.size 5 (tabA n (fun _ => Value.int .u8 0)) := Blk.new _ _ _
        have c0 : (wr.alloc (.cells (tabA n (fun _ => Value.int .u8 0)) 5)).cell? ⟨wr.heap.size, i, none⟩ = some (.int .u8 0) := by rw [hb0.cell, tabA_at _ _ _ hi2]
        have f0 := hb0.frozen i
        have hb1 : Blk (wr.alloc (.cells ((tabA n (fun _ => Value.int .u8 0)).setIfInBounds i (.int .u8 1)) 5)) wr.heap.size 5 ((tabA n (fun _ => Value.int .u8 0)).setIfInBounds i (.int .u8 1)) := Blk.new _ _ _
        have HCS := Lib.hid (cells_bytes (unit_cells hb1 hi2) (fun j _ => unitF_lt i j))
        have hE2 : Ext wr (wr.alloc (.cells ((tabA n (fun _ => Value.int .u8 0)).setIfInBounds i (.int .u8 1)) 5)) := (Ext.refl wr).alloc _
        have hwz := hE.sz
        have HO := Lib.hid (hown.ext hE2)
        have hEE := hE.trans hE2
        have HP := Lib.hid (mkM_succ i n unitF)
        clear hb0 hb1 hown hE2
        go_wp2_with (first
          | (at_make; refine wpList_make_tab rfl _ _ 41 rfl 5 i0 (.int .u8 0) Try.underlying41 hi0 hz0 hz1 rfl _ _ n rfl rfl (by rw [hz2]; omega) (by omega) ?_)
          | (with_reducible refine wpList_bytes_str rfl 41 9 5 _ rfl Try.underlying41 Try.underlying5 Try.underlying9 wr.heap.size 0 n n rfl (strN n (unitF i)) (strN_size _ _) HCS.out ?_)
          | (at_builtin; refine wpList_app _ rfl _ _ 50 9 rfl Try.underlying50 (.string { data := #[] }) [.string (strN n (unitF i))] 1 16 info9 rfl rfl (by decide) (by decide) w.heap.size (.slice A1 i c1) i ((mkM i n unitF).map Value.string) rfl HO.out (one_str _) _ rfl (by simp) (by omega) (by simp; omega) ?_; intro g4 cap4 w4 hown4 hG4 hg4))
        go_roundw
        case rel => exact ⟨i + 1, by omega, by go_num, _, cap4, rfl, by rw [HP.out, List.map_append]; exact hown4, hG4.ext hEE (Nat.le_refl _)⟩
        case measure => simp [intOf]; omega
      · obtain rfl : i = n := by omega
        have HO := Lib.hid hown
        clear hown
        go_wp2
        go_ret
        exact ⟨A1, i, c1, rfl, by rw [HV.out, unitM_len], by rw [HV.out]; exact HO.out, hE⟩
  · have HV := Lib.hid (unitV_no n h)
    have S1 : sideB n = false := by unfold sideB; simp; omega
    have HS := Lib.hid S1
    clear h S1
    go_enter Try.func42, Try.ntmps42
    go_wp2_with (go_at_call 61; refine (side_any _ _).mono ?_; rintro e w1 ⟨rfl, rfl⟩; rw [HS.out])
    go_ret
    exact lis_nil HV.out (Ext.refl _)
set_option maxRecDepth 100000 in
theorem runit_any (n : Int) (w : World) : Calls Try.prog 44 #[.int .i64 n] w (LisOwn (unitV n) w) := by
  by_cases h : 1 ≤ n ∧ n ≤ 64
  · obtain ⟨n, rfl⟩ := Int.eq_ofNat_of_zero_le (show 0 ≤ n by omega)
    have h' : 1 ≤ n ∧ n ≤ 64 := by omega
    have HV := Lib.hid (unitV_ok n h')
    obtain ⟨h1, h2⟩ := h'
    have e1 : decide ((n : Int) < 1) = false := by simp; omega
    have e2 : decide ((64 : Int) < (n : Int)) = false := by simp; omega
    obtain ⟨i0, hi0, hz0, hz1, hz2⟩ := info_parts info5
    clear h
    go_enter Try.func44, Try.ntmps44
    go_wp2
    go_loopw [3, 4] (fun v i wr => ∃ k : Nat, k ≤ n ∧ i = .int .i64 k ∧ ∃ (A1 : Option Addr) (c1 : Nat), v = .slice A1 k c1 ∧ wr.ownsRow w.heap.size 9 1 (.slice A1 k c1) k ((mkM k n unitF).map Value.string) ∧ Ext w wr) (fun _ i _ => n - (intOf i).toNat)
    case atStart => exact ⟨0, by omega, rfl, none, 0, rfl, World.ownsRow_nil _ _ _ _, Ext.refl _⟩
    case round =>
      obtain ⟨i, hi, rfl, A1, c1, rfl, hown, hE⟩ := hrel
      by_cases hi2 : i < n
      · have kk : (i : Int) < (n : Int) := by omega
        have kk0 : (0 : Int) ≤ (i : Int) := by omega
        have hb0 : Blk (wr.alloc (.cells (tabA n (fun _ => Value.int .u8 0)) 5)) wr.heap.size 5 (tabA n (fun _ => Value.int .u8 0)) := Blk.new _ _ _
        have c0 : (wr.alloc (.cells (tabA n (fun _ => Value.int .u8 0)) 5)).cell? ⟨wr.heap.size, i, none⟩ = some (.int .u8 0) := by rw [hb0.cell, tabA_at _ _ _ hi2]
        have f0 := hb0.frozen i
        have hb1 : Blk (wr.alloc (.cells ((tabA n (fun _ => Value.int .u8 0)).setIfInBounds i (.int .u8 1)) 5)) wr.heap.size 5 ((tabA n (fun _ => Value.int .u8 0)).setIfInBounds i (.int .u8 1)) := Blk.new _ _ _
        have HCS := Lib.hid (cells_bytes (unit_cells hb1 hi2) (fun j _ => unitF_lt i j))
        have hE2 : Ext wr (wr.alloc (.cells ((tabA n (fun _ => Value.int .u8 0)).setIfInBounds i (.int .u8 1)) 5)) := (Ext.refl wr).alloc _
        have hwz := hE.sz
        have HO := Lib.hid (hown.ext hE2)
        have hEE := hE.trans hE2
        have HP := Lib.hid (mkM_succ i n unitF)
        clear hb0 hb1 hown hE2
        go_wp2_with (first
          | (at_make; refine wpList_make_tab rfl _ _ 41 rfl 5 i0 (.int .u8 0) Try.underlying41 hi0 hz0 hz1 rfl _ _ n rfl rfl (by rw [hz2]; omega) (by omega) ?_)
          | (with_reducible refine wpList_bytes_str rfl 41 9 5 _ rfl Try.underlying41 Try.underlying5 Try.underlying9 wr.heap.size 0 n n rfl (strN n (unitF i)) (strN_size _ _) HCS.out ?_)
          | (at_builtin; refine wpList_app _ rfl _ _ 50 9 rfl Try.underlying50 (.string { data := #[] }) [.string (strN n (unitF i))] 1 16 info9 rfl rfl (by decide) (by decide) w.heap.size (.slice A1 i c1) i ((mkM i n unitF).map Value.string) rfl HO.out (one_str _) _ rfl (by simp) (by omega) (by simp; omega) ?_; intro g4 cap4 w4 hown4 hG4 hg4))
        go_roundw
        case rel => exact ⟨i + 1, by omega, by go_num, _, cap4, rfl, by rw [HP.out, List.map_append]; exact hown4, hG4.ext hEE (Nat.le_refl _)⟩
        case measure => simp [intOf]; omega
      · obtain rfl : i = n := by omega
        have HO := Lib.hid hown
        clear hown
        go_wp2
        go_ret
        exact ⟨A1, i, c1, rfl, by rw [HV.out, unitM_len], by rw [HV.out]; exact HO.out, hE⟩
  · have HV := Lib.hid (unitV_no n h)
    by_cases h1 : n < 1
    · have e1 : decide (n < 1) = true := by simpa using h1
      clear h
      go_enter Try.func44, Try.ntmps44
      go_wp2
      go_ret
      exact lis_nil HV.out (Ext.refl _)
    · have e1 : decide (n < 1) = false := by simpa using h1
      have e2 : decide (64 < n) = true := by simp; omega
      clear h
      go_enter Try.func44, Try.ntmps44
      go_wp2
      go_ret
      exact lis_nil HV.out (Ext.refl _)
end Go.Proofs.Ytjdppgogdilgkaa
end
section
namespace Go.Proofs.Ytjdppgogdilgkaa
open Go.RowKit Go.Gf
def cauchyF (m i j : Nat) : Nat := invV ((m + i) ^^^ j)
def cauchyOk (n m : Int) : Prop := (1 ≤ n ∧ n ≤ 64) ∧ (1 ≤ m ∧ m ≤ 64)
instance (n m : Int) : Decidable (cauchyOk n m) := by unfold cauchyOk; infer_instance
def cauchyV (n m : Int) : List ByteArray := if cauchyOk n m then mkM n.toNat m.toNat (cauchyF m.toNat) else []
def cauchyE (n m : Int) : Int := if cauchyOk n m then 0 else 2
theorem cauchy_ok (n m : Nat) (h : cauchyOk n m) : cauchyV n m = mkM n m (cauchyF m) ∧ cauchyE n m = 0 := by
  unfold cauchyV cauchyE; rw [if_pos h, if_pos h]; simp
theorem cauchy_no (n m : Int) (h : ¬ cauchyOk n m) : cauchyV n m = [] ∧ cauchyE n m = 2 := by
  unfold cauchyV cauchyE; rw [if_neg h, if_neg h]; exact ⟨rfl, rfl⟩
theorem cauchyF_lt (m i j : Nat) : cauchyF m i j < 256 := invV_lt _
def rowC (m i j x : Nat) : Nat := if x < j then cauchyF m i x else 0
theorem rowC_step (m i j x : Nat) : rowC m i (j + 1) x = if x = j then cauchyF m i j else rowC m i j x := by
  unfold rowC
  by_cases e : x = j
  · subst e; rw [if_pos (by omega), if_pos rfl]
  · rw [if_neg e]
    by_cases h : x < j
    · rw [if_pos (by omega), if_pos h]
    · rw [if_neg (by omega), if_neg h]
set_option maxRecDepth 100000 in
theorem cauchy_any (n m : Int) (w : World) : Calls Try.prog 43 #[.int .i64 n, .int .i64 m] w (MatIs (cauchyV n m) (cauchyE n m) w) := by
  by_cases h : cauchyOk n m
  · obtain ⟨n, rfl⟩ := Int.eq_ofNat_of_zero_le (show 0 ≤ n by have := h.1.1; omega)
    obtain ⟨m, rfl⟩ := Int.eq_ofNat_of_zero_le (show 0 ≤ m by have := h.2.1; omega)
    have HV := Lib.hid (cauchy_ok n m h)
    have h1 : 1 ≤ n ∧ n ≤ 64 := by have := h.1; omega
    have h2 : 1 ≤ m ∧ m ≤ 64 := by have := h.2; omega
    have S1 := Lib.hid (side_yes n h1)
    have S2 := Lib.hid (side_yes m h2)
    obtain ⟨h1a, h1b⟩ := h1
    obtain ⟨h2a, h2b⟩ := h2
    obtain ⟨i0, hi0, hz0, hz1, hz2⟩ := info_parts info5
    clear h
    go_enter Try.func43, Try.ntmps43
    go_wp2_with (go_at_call 61; refine (side_any _ _).mono ?_; rintro e w1 ⟨rfl, rfl⟩; first | rw [S1.out] | rw [S2.out])
    go_loopw [4, 18] (fun v i wr => ∃ k : Nat, k ≤ n ∧ i = .int .i64 k ∧ ∃ (A1 : Option Addr) (c1 : Nat), v = .slice A1 k c1 ∧ wr.ownsRow w.heap.size 9 1 (.slice A1 k c1) k ((mkM k m (cauchyF m)).map Value.string) ∧ Ext w wr) (fun _ i _ => n - (intOf i).toNat)
    case atStart => exact ⟨0, by omega, rfl, none, 0, rfl, World.ownsRow_nil _ _ _ _, Ext.refl _⟩
    case round =>
      obtain ⟨i, hi, rfl, A1, c1, rfl, hown, hE⟩ := hrel
      by_cases hi2 : i < n
      · have kk : (i : Int) < (n : Int) := by omega
        have kk0 : (0 : Int) ≤ (i : Int) := by omega
        have HO := Lib.hid hown
        clear hown
        go_wp2_with (at_make; refine wpList_make_tab rfl _ _ 41 rfl 5 i0 (.int .u8 0) Try.underlying41 hi0 hz0 hz1 rfl _ _ m rfl rfl (by rw [hz2]; omega) (by omega) ?_)
        have hbn : BytesAt (wr.alloc (.cells (tabA m (fun _ => Value.int .u8 0)) 5)) wr.heap.size m (rowC m i 0) := by
          have : Blk (wr.alloc (.cells (tabA m (fun _ => Value.int .u8 0)) 5)) wr.heap.size 5 (tabA m (u8c (fun _ => 0))) := Blk.new _ _ _
          exact this.bytes.congr (fun x _ => by simp [rowC])
        have hEn : Ext wr (wr.alloc (.cells (tabA m (fun _ => Value.int .u8 0)) 5)) := (Ext.refl wr).alloc _
        generalize wr.alloc (.cells (tabA m (fun _ => Value.int .u8 0)) 5) = wb at *
        obtain ⟨g, hg⟩ : ∃ g, g = wr.heap.size := ⟨_, rfl⟩
        rw [← hg] at hbn ⊢
        have hge : wr.heap.size ≤ g := by omega
        obtain ⟨wo, hwo⟩ : ∃ wo : World, wo = wr := ⟨_, rfl⟩
        rw [← hwo] at hE HO hEn hge hg
        clear hwo hg
        go_loopw [25] (fun x wr => ∃ j : Nat, j ≤ m ∧ x = .int .i64 j ∧ Ext wo wr ∧ BytesAt wr g m (rowC m i j)) (fun x _ => m - (intOf x).toNat)
        case atStart => exact ⟨0, by omega, rfl, hEn, hbn⟩
        case round =>
          obtain ⟨j, hj, rfl, hEo, hb⟩ := hrel
          clear hbn hEn
          by_cases hj2 : j < m
          · have kj : (j : Int) < (m : Int) := by omega
            have kj0 : (0 : Int) ≤ (j : Int) := by omega
            have A36 : ∀ w : World, Calls Try.prog 62 #[.int .u8 ((m : Int) + (i : Int)), .int .u8 j] w fun e w' => e = .returned (.int .u8 (((m + i) ^^^ j : Nat) : Int)) ∧ Ext w w' := fun w => by
              have := add_any (m + i) j w (by omega) (by omega)
              rwa [Int.natCast_add] at this
            have hxl : (m + i) ^^^ j < 256 := x8 (by omega) (by omega)
            go_wp2_with (first
              | (go_at_call 62; refine (A36 _).mono ?_; rintro e w3 ⟨rfl, hE3⟩)
              | (go_at_call 50; refine (inv_any ((m + i) ^^^ j) _ hxl).mono ?_; rintro e w4 ⟨rfl, hE4⟩; have hb4 := (hb.ext hE3).ext hE4; have c4 := hb4.cell j hj2; have f4 := hb4.frozen j hj2))
            go_roundw
            case rel => exact ⟨j + 1, by omega, by go_num, ((hEo.trans hE3).trans hE4).setCell hge _, hb4.set_ j _ hj2 (fun x _ => rowC_step m i j x)⟩
            case measure => simp [intOf]; omega
          · obtain rfl : j = m := by omega
            have hb2 : BytesAt wr g j (cauchyF j i) := hb.congr (fun x hx => by unfold rowC; rw [if_pos hx])
            have HCS := Lib.hid (cells_bytes hb2 (fun x _ => cauchyF_lt j i x))
            have HP := Lib.hid (mkM_succ i j (cauchyF j))
            have hwz := hE.sz
            have hwz2 := hEo.sz
            clear hb2
            go_wp2_with (first
              | (with_reducible refine wpList_bytes_str rfl 41 9 5 _ rfl Try.underlying41 Try.underlying5 Try.underlying9 g 0 j j rfl (strN j (cauchyF j i)) (strN_size _ _) HCS.out ?_)
              | (at_builtin; refine wpList_app wr rfl _ _ 50 9 rfl Try.underlying50 (.string { data := #[] }) [.string (strN j (cauchyF j i))] 1 16 info9 rfl rfl (by decide) (by decide) w.heap.size (.slice A1 i c1) i ((mkM i j (cauchyF j)).map Value.string) rfl (HO.out.ext hEo) (one_str _) _ rfl rfl (by omega) (by omega) ?_; intro g4 cap4 w4 hown4 hG4 hg4))
            go_roundw
            case rel => exact ⟨i + 1, by omega, by go_num, _, cap4, rfl, by rw [HP.out, List.map_append]; exact hown4, hG4.ext (hE.trans hEo) (Nat.le_refl _)⟩
            case measure => simp [intOf]; omega
      · obtain rfl : i = n := by omega
        have HO := Lib.hid hown
        clear hown
        go_wp2
        go_ret2
        exact ⟨A1, i, c1, by rw [HV.out.2]; rfl, by rw [HV.out.1, mkM_len], by rw [HV.out.1]; exact HO.out.rd, hE⟩
  · have HV := Lib.hid (cauchy_no n m h)
    by_cases h1 : 1 ≤ n ∧ n ≤ 64
    · have s1 : sideB n = true := by unfold sideB; simp; exact h1
      have s2 : sideB m = false := by
        have : ¬ (1 ≤ m ∧ m ≤ 64) := fun x => h ⟨h1, x⟩
        unfold sideB; simp; omega
      have S1 := Lib.hid s1
      have S2 := Lib.hid s2
      clear h h1 s1 s2
      go_enter Try.func43, Try.ntmps43
      go_wp2_with (go_at_call 61; refine (side_any _ _).mono ?_; rintro e w1 ⟨rfl, rfl⟩; first | rw [S1.out] | rw [S2.out])
      go_ret2
      exact mat_nil HV.out (Ext.refl _)
    · have s1 : sideB n = false := by unfold sideB; simp; omega
      have S1 := Lib.hid s1
      clear h h1 s1
      go_enter Try.func43, Try.ntmps43
      go_wp2_with (go_at_call 61; refine (side_any _ _).mono ?_; rintro e w1 ⟨rfl, rfl⟩; rw [S1.out])
      go_ret2
      exact mat_nil HV.out (Ext.refl _)
set_option maxRecDepth 100000 in
theorem rcauchy_any (n m : Int) (w : World) : Calls Try.prog 45 #[.int .i64 n, .int .i64 m] w (MatIs (cauchyV n m) (cauchyE n m) w) := by
  by_cases h : cauchyOk n m
  · obtain ⟨n, rfl⟩ := Int.eq_ofNat_of_zero_le (show 0 ≤ n by have := h.1.1; omega)
    obtain ⟨m, rfl⟩ := Int.eq_ofNat_of_zero_le (show 0 ≤ m by have := h.2.1; omega)
    have HV := Lib.hid (cauchy_ok n m h)
    have h1 : 1 ≤ n ∧ n ≤ 64 := by have := h.1; omega
    have h2 : 1 ≤ m ∧ m ≤ 64 := by have := h.2; omega
    obtain ⟨h1a, h1b⟩ := h1
    obtain ⟨h2a, h2b⟩ := h2
    have e1 : decide ((n : Int) < 1) = false := by simp; omega
    have e2 : decide ((64 : Int) < (n : Int)) = false := by simp; omega
    have e3 : decide ((m : Int) < 1) = false := by simp; omega
    have e4 : decide ((64 : Int) < (m : Int)) = false := by simp; omega
    obtain ⟨i0, hi0, hz0, hz1, hz2⟩ := info_parts info5
    clear h
    go_enter Try.func45, Try.ntmps45
    go_wp2
    go_loopw [6, 7] (fun v i wr => ∃ k : Nat, k ≤ n ∧ i = .int .i64 k ∧ ∃ (A1 : Option Addr) (c1 : Nat), v = .slice A1 k c1 ∧ wr.ownsRow w.heap.size 9 1 (.slice A1 k c1) k ((mkM k m (cauchyF m)).map Value.string) ∧ Ext w wr) (fun _ i _ => n - (intOf i).toNat)
    case atStart => exact ⟨0, by omega, rfl, none, 0, rfl, World.ownsRow_nil _ _ _ _, Ext.refl _⟩
    case round =>
      obtain ⟨i, hi, rfl, A1, c1, rfl, hown, hE⟩ := hrel
      by_cases hi2 : i < n
      · have kk : (i : Int) < (n : Int) := by omega
        have kk0 : (0 : Int) ≤ (i : Int) := by omega
        have HO := Lib.hid hown
        clear hown
        go_wp2_with (at_make; refine wpList_make_tab rfl _ _ 41 rfl 5 i0 (.int .u8 0) Try.underlying41 hi0 hz0 hz1 rfl _ _ m rfl rfl (by rw [hz2]; omega) (by omega) ?_)
        have hbn : BytesAt (wr.alloc (.cells (tabA m (fun _ => Value.int .u8 0)) 5)) wr.heap.size m (rowC m i 0) := by
          have : Blk (wr.alloc (.cells (tabA m (fun _ => Value.int .u8 0)) 5)) wr.heap.size 5 (tabA m (u8c (fun _ => 0))) := Blk.new _ _ _
          exact this.bytes.congr (fun x _ => by simp [rowC])
        have hEn : Ext wr (wr.alloc (.cells (tabA m (fun _ => Value.int .u8 0)) 5)) := (Ext.refl wr).alloc _
        generalize wr.alloc (.cells (tabA m (fun _ => Value.int .u8 0)) 5) = wb at *
        obtain ⟨g, hg⟩ : ∃ g, g = wr.heap.size := ⟨_, rfl⟩
        rw [← hg] at hbn ⊢
        have hge : wr.heap.size ≤ g := by omega
        obtain ⟨wo, hwo⟩ : ∃ wo : World, wo = wr := ⟨_, rfl⟩
        rw [← hwo] at hE HO hEn hge hg
        clear hwo hg
        go_loopw [9] (fun x wr => ∃ j : Nat, j ≤ m ∧ x = .int .i64 j ∧ Ext wo wr ∧ BytesAt wr g m (rowC m i j)) (fun x _ => m - (intOf x).toNat)
        case atStart => exact ⟨0, by omega, rfl, hEn, hbn⟩
        case round =>
          obtain ⟨j, hj, rfl, hEo, hb⟩ := hrel
          clear hbn hEn
          by_cases hj2 : j < m
          · have kj : (j : Int) < (m : Int) := by omega
            have kj0 : (0 : Int) ≤ (j : Int) := by omega
            have hx : bits BinOp.xor IntKind.u8 ((m : Int) + (i : Int)) (j : Int) = (((m + i) ^^^ j : Nat) : Int) := by
              have := u8_xor (m + i) j (by omega) (by omega)
              rwa [Int.natCast_add] at this
            have hxl : (m + i) ^^^ j < 256 := x8 (by omega) (by omega)
            go_wp2_with (first
              | (go_at_call 63; refine (rinv_any ((m + i) ^^^ j) _ hxl).mono ?_; rintro e w4 ⟨rfl, hE4⟩; have hb4 := hb.ext hE4; have c4 := hb4.cell j hj2; have f4 := hb4.frozen j hj2))
            go_roundw
            case rel => exact ⟨j + 1, by omega, by go_num, (hEo.trans hE4).setCell hge _, hb4.set_ j _ hj2 (fun x _ => rowC_step m i j x)⟩
            case measure => simp [intOf]; omega
          · obtain rfl : j = m := by omega
            have hb2 : BytesAt wr g j (cauchyF j i) := hb.congr (fun x hx => by unfold rowC; rw [if_pos hx])
            have HCS := Lib.hid (cells_bytes hb2 (fun x _ => cauchyF_lt j i x))
            have HP := Lib.hid (mkM_succ i j (cauchyF j))
            have hwz := hE.sz
            have hwz2 := hEo.sz
            clear hb2
            go_wp2_with (first
              | (with_reducible refine wpList_bytes_str rfl 41 9 5 _ rfl Try.underlying41 Try.underlying5 Try.underlying9 g 0 j j rfl (strN j (cauchyF j i)) (strN_size _ _) HCS.out ?_)
              | (at_builtin; refine wpList_app wr rfl _ _ 50 9 rfl Try.underlying50 (.string { data := #[] }) [.string (strN j (cauchyF j i))] 1 16 info9 rfl rfl (by decide) (by decide) w.heap.size (.slice A1 i c1) i ((mkM i j (cauchyF j)).map Value.string) rfl (HO.out.ext hEo) (one_str _) _ rfl rfl (by omega) (by omega) ?_; intro g4 cap4 w4 hown4 hG4 hg4))
            go_roundw
            case rel => exact ⟨i + 1, by omega, by go_num, _, cap4, rfl, by rw [HP.out, List.map_append]; exact hown4, hG4.ext (hE.trans hEo) (Nat.le_refl _)⟩
            case measure => simp [intOf]; omega
      · obtain rfl : i = n := by omega
        have HO := Lib.hid hown
        clear hown
        go_wp2
        go_ret2
        exact ⟨A1, i, c1, by rw [HV.out.2]; rfl, by rw [HV.out.1, mkM_len], by rw [HV.out.1]; exact HO.out.rd, hE⟩
  · have HV := Lib.hid (cauchy_no n m h)
    by_cases h1 : n < 1
    · have e1 : decide (n < 1) = true := by simpa using h1
      clear h
      go_enter Try.func45, Try.ntmps45
      go_wp2
      go_ret2
      exact mat_nil HV.out (Ext.refl _)
    · have e1 : decide (n < 1) = false := by simpa using h1
      by_cases h2 : 64 < n
      · have e2 : decide (64 < n) = true := by simpa using h2
        clear h
        go_enter Try.func45, Try.ntmps45
        go_wp2
        go_ret2
        exact mat_nil HV.out (Ext.refl _)
      · have e2 : decide (64 < n) = false := by simpa using h2
        by_cases h3 : m < 1
        · have e3 : decide (m < 1) = true := by simpa using h3
          clear h
          go_enter Try.func45, Try.ntmps45
          go_wp2
          go_ret2
          exact mat_nil HV.out (Ext.refl _)
        · have e3 : decide (m < 1) = false := by simpa using h3
          have e4 : decide (64 < m) = true := by
            have : ¬ ((1 ≤ n ∧ n ≤ 64) ∧ (1 ≤ m ∧ m ≤ 64)) := h
            simp; omega
          clear h
          go_enter Try.func45, Try.ntmps45
          go_wp2
          go_ret2
          exact mat_nil HV.out (Ext.refl _)
end Go.Proofs.Ytjdppgogdilgkaa
end
section
namespace Go.Proofs.Ytjdppgogdilgkaa
open Go.RowKit Go.Gf
def outB (n : Nat) (i : Int) : Bool := decide (i < 0) || decide ((n : Int) ≤ i)
theorem outB_no (n : Nat) (i : Int) (h : outB n i = false) : 0 ≤ i ∧ i < n := by unfold outB at h; simp at h; omega
theorem outB_yes (n : Nat) (i : Int) (h : outB n i = true) : ¬ (0 ≤ i ∧ i < n) := by unfold outB at h; simp at h; omega
def pickOk (l : List ByteArray) (r : List Int) : Prop := (1 ≤ r.length ∧ r.length ≤ 64) ∧ ∀ i ∈ r, 0 ≤ i ∧ i < (l.length : Int)
instance (l : List ByteArray) (r : List Int) : Decidable (pickOk l r) := by unfold pickOk; infer_instance
def pickL (l : List ByteArray) (r : List Int) : List ByteArray := r.map (fun i => l.getD i.toNat { data := #[] })
def pickV (l : List ByteArray) (r : List Int) : List ByteArray := if mayP l ∧ pickOk l r then pickL l r else []
def pickE (l : List ByteArray) (r : List Int) : Int := if mayP l then (if pickOk l r then 0 else 2) else 8
theorem pick_ok {l : List ByteArray} {r : List Int} (h1 : mayP l) (h2 : pickOk l r) : pickV l r = pickL l r ∧ pickE l r = 0 := by
  unfold pickV pickE; rw [if_pos ⟨h1, h2⟩, if_pos h1, if_pos h2]; exact ⟨rfl, rfl⟩
theorem pick_no {l : List ByteArray} {r : List Int} (h1 : mayP l) (h2 : ¬ pickOk l r) : pickV l r = [] ∧ pickE l r = 2 := by
  unfold pickV pickE; rw [if_neg (fun x => h2 x.2), if_pos h1, if_neg h2]; exact ⟨rfl, rfl⟩
theorem pick_form {l : List ByteArray} {r : List Int} (h1 : ¬ mayP l) : pickV l r = [] ∧ pickE l r = 8 := by
  unfold pickV pickE; rw [if_neg (fun x => h1 x.1), if_neg h1]; exact ⟨rfl, rfl⟩
theorem pickL_succ (l : List ByteArray) (r : List Int) (k : Nat) (hk : k < r.length) : pickL l (r.take (k + 1)) = pickL l (r.take k) ++ [l.getD (r[k]).toNat { data := #[] }] := by
  unfold pickL; rw [List.take_succ_eq_append_getElem hk, List.map_append]; rfl
theorem pickL_len (l : List ByteArray) (r : List Int) : (pickL l r).length = r.length := by simp [pickL]
end Go.Proofs.Ytjdppgogdilgkaa
end
section
namespace Go.Proofs.Ytjdppgogdilgkaa
open Go.RowKit Go.Gf
theorem strs_one (l : List ByteArray) : ∀ u ∈ l.map Value.string, u.oneCell' = true := by
  intro u hu
  obtain ⟨s, _, rfl⟩ := List.mem_map.mp hu
  rfl
def OwnIs (l : List ByteArray) (w : World) (e : Ending) (w' : World) : Prop :=
  ∃ (g n cap : Nat), e = .returned (.slice (some ⟨g, 0, none⟩) n cap) ∧ n = l.length ∧ w'.ownsRow w.heap.size 9 1 (.slice (some ⟨g, 0, none⟩) n cap) n (l.map Value.string) ∧ Ext w w'
theorem clone_any (A : Option Addr) (n cap : Nat) (l : List ByteArray) (w : World) (hr : Rd w A n (l.map Value.string)) (hn : n ≤ 1048576) (h1 : 1 ≤ n) :
    Calls Try.prog 49 #[.slice A n cap] w (OwnIs l w) := by
  have hlen : l.length = n := by have := hr.1; simpa using this
  obtain ⟨gs, os, rfl, _⟩ := hr.2 (show 0 < n by omega)
  have hne := fun w => Lib.run_eql_slice_nil (P := Try.prog) w
  have hr2 := hr.ext ((Ext.refl w).alloc (.cells #[] 9))
  have HR := Lib.hid hr2
  have HL := Lib.hid hlen
  have HO := Lib.hid (owns_empty w w.heap.size 9 1 (Nat.le_refl _))
  clear hr2 hr hlen
  go_enter Try.func49, Try.ntmps49
  go_wp2_with (at_builtin; refine wpList_apps _ rfl _ _ 50 9 rfl Try.underlying50 (.string { data := #[] }) 16 info9 rfl (by decide) w.heap.size _ 0 [] rfl HO.out _ n cap _ rfl HR.out (strs_one l) (by omega) (by omega) (by simp) ?_; intro g4 cap4 w4 hown4 hG4 hg4)
  go_ret
  simp only [Nat.zero_add, List.nil_append] at hown4 ⊢
  exact ⟨g4, n, cap4, rfl, HL.out.symm, hown4, hG4.ext ((Ext.refl w).alloc _) (Nat.le_refl _)⟩
def catL (a b : List ByteArray) : Nat → List ByteArray
  | 0 => []
  | 1 => a
  | _ => a ++ b
def catN (n m : Nat) : Nat → Nat
  | 0 => 0
  | 1 => n
  | _ => n + m
theorem cat_at {w : World} {g : Nat} {A B : Option Addr} {n cap m cap2 : Nat} {a b : List ByteArray} (hb : Blk w g 23 #[.slice A n cap, .slice B m cap2]) (hr : Rd w A n (a.map Value.string)) (hq : Rd w B m (b.map Value.string)) (h1 : 1 ≤ n) (h2 : 1 ≤ m) (k : Nat) (hk : k < 2) :
    ∃ (X : Option Addr) (nk ck : Nat) (xs : List ByteArray), w.cell? ⟨g, k, none⟩ = some (.slice X nk ck) ∧ Rd w X nk (xs.map Value.string) ∧ catN n m (k + 1) = catN n m k + nk ∧ catL a b (k + 1) = catL a b k ++ xs ∧ 1 ≤ nk ∧ catN n m k + nk ≤ n + m := by
  obtain rfl | rfl : k = 0 ∨ k = 1 := by omega
  · exact ⟨A, n, cap, a, hb.cell 0, hr, by simp [catN], by simp [catL], h1, by simp [catN]⟩
  · exact ⟨B, m, cap2, b, hb.cell 1, hq, by simp [catN], by simp [catL], h2, by simp [catN]⟩
def belowP (a b : List ByteArray) : Prop := len0 a = len0 b ∧ a.length + b.length ≤ 64
def belowV (a b : List ByteArray) : List ByteArray := if mayP a ∧ mayP b ∧ len0 a = len0 b ∧ a.length + b.length ≤ 64 then a ++ b else []
def belowE (a b : List ByteArray) : Int := if mayP a ∧ mayP b then (if len0 a = len0 b then (if a.length + b.length ≤ 64 then 0 else 2) else 50) else 8
theorem below_form {a b : List ByteArray} (h : ¬ (mayP a ∧ mayP b)) : belowV a b = [] ∧ belowE a b = 8 := by
  unfold belowV belowE; rw [if_neg (fun x => h ⟨x.1, x.2.1⟩), if_neg h]; exact ⟨rfl, rfl⟩
theorem below_side {a b : List ByteArray} (h1 : mayP a) (h2 : mayP b) (h : len0 a ≠ len0 b) : belowV a b = [] ∧ belowE a b = 50 := by
  unfold belowV belowE; rw [if_neg (fun x => h x.2.2.1), if_pos ⟨h1, h2⟩, if_neg h]; exact ⟨rfl, rfl⟩
theorem below_arg {a b : List ByteArray} (h1 : mayP a) (h2 : mayP b) (h : len0 a = len0 b) (h4 : ¬ a.length + b.length ≤ 64) : belowV a b = [] ∧ belowE a b = 2 := by
  unfold belowV belowE; rw [if_neg (fun x => h4 x.2.2.2), if_pos ⟨h1, h2⟩, if_pos h, if_neg h4]; exact ⟨rfl, rfl⟩
theorem below_ok {a b : List ByteArray} (h1 : mayP a) (h2 : mayP b) (h : len0 a = len0 b) (h4 : a.length + b.length ≤ 64) : belowV a b = a ++ b ∧ belowE a b = 0 := by
  unfold belowV belowE; rw [if_pos ⟨h1, h2, h, h4⟩, if_pos ⟨h1, h2⟩, if_pos h, if_pos h4]; exact ⟨rfl, rfl⟩
end Go.Proofs.Ytjdppgogdilgkaa
end
section
namespace Go.Proofs.Ytjdppgogdilgkaa
open Go.RowKit Go.Gf
end Go.Proofs.Ytjdppgogdilgkaa
end
section
namespace Go.Proofs.Ytjdppgogdilgkaa
open Go.RowKit Go.Gf
abbrev St := Nat → Nat → Nat
def st0 (l : List ByteArray) (n : Nat) : St := fun i j => if j < n then ent l i j else unitF i (j - n)
def pivF (n : Nat) (s : St) (c : Nat) : Option Nat := (List.range n).find? (fun p => decide (c ≤ p) && s p c != 0)
def swapF (s : St) (c p : Nat) : St := fun i => if i = c then s p else if i = p then s c else s i
def rowR (s : St) (c j : Nat) : Nat := fm (invV (s c c)) (s c j)
def elimTo (s : St) (c i0 : Nat) : St := fun i j => if i = c then rowR s c j else if i < i0 then s i j ^^^ fm (s i c) (rowR s c j) else s i j
def stepF (n : Nat) (s : St) (c : Nat) : Option St := (pivF n s c).map (fun p => elimTo (swapF s c p) c n)
def undoSt (l : List ByteArray) (n : Nat) : Nat → Option St
  | 0 => some (st0 l n)
  | c + 1 => (undoSt l n c).bind (fun s => stepF n s c)
def undoV (l : List ByteArray) : List ByteArray :=
  if mayP l ∧ l.length = len0 l then (match undoSt l l.length l.length with | some s => mkM l.length l.length (fun i j => s i (l.length + j)) | none => []) else []
def undoE (l : List ByteArray) : Int :=
  if mayP l then (if l.length = len0 l then (match undoSt l l.length l.length with | some _ => 0 | none => 51) else 50) else 8
theorem undo_form {l : List ByteArray} (h : ¬ mayP l) : undoV l = [] ∧ undoE l = 8 := by
  unfold undoV undoE; rw [if_neg (fun x => h x.1), if_neg h]; exact ⟨rfl, rfl⟩
theorem undo_side {l : List ByteArray} (h1 : mayP l) (h : l.length ≠ len0 l) : undoV l = [] ∧ undoE l = 50 := by
  unfold undoV undoE; rw [if_neg (fun x => h x.2), if_pos h1, if_neg h]; exact ⟨rfl, rfl⟩
theorem undo_sing {l : List ByteArray} (h1 : mayP l) (h : l.length = len0 l) (h2 : undoSt l l.length l.length = none) : undoV l = [] ∧ undoE l = 51 := by
  unfold undoV undoE; rw [if_pos ⟨h1, h⟩, if_pos h1, if_pos h, h2]; exact ⟨rfl, rfl⟩
theorem undo_ok {l : List ByteArray} (h1 : mayP l) (h : l.length = len0 l) (s : St) (h2 : undoSt l l.length l.length = some s) : undoV l = mkM l.length l.length (fun i j => s i (l.length + j)) ∧ undoE l = 0 := by
  unfold undoV undoE; rw [if_pos ⟨h1, h⟩, if_pos h1, if_pos h, h2]; exact ⟨rfl, rfl⟩
theorem undoSt_none (l : List ByteArray) (n c k : Nat) (h : undoSt l n c = none) (hk : c ≤ k) : undoSt l n k = none := by
  induction k with
  | zero => obtain rfl : c = 0 := by omega
            exact h
  | succ k ih =>
    rcases Nat.lt_or_ge k c with h1 | h1
    · obtain rfl : c = k + 1 := by omega
      exact h
    · simp [undoSt, ih h1]
theorem pivF_some {n : Nat} {s : St} {c p : Nat} (hp : p < n) (hc : c ≤ p) (hne : s p c ≠ 0) (hz : ∀ q, c ≤ q → q < p → s q c = 0) : pivF n s c = some p := by
  unfold pivF
  rw [List.find?_eq_some_iff_append]
  refine ⟨by simp [hc, hne], List.range p, (List.range (n - p - 1)).map (fun x => p + 1 + x), ?_, ?_⟩
  · have : n = (p + 1) + (n - p - 1) := by omega
    conv => lhs; rw [this, List.range_add, List.range_succ]
    simp
  · intro q hq
    have hq' := List.mem_range.mp hq
    by_cases h : c ≤ q
    · simp [hz q h hq']
    · simp; omega
theorem pivF_none {n : Nat} {s : St} {c : Nat} (hz : ∀ q, c ≤ q → q < n → s q c = 0) : pivF n s c = none := by
  unfold pivF
  rw [List.find?_eq_none]
  intro q hq
  have hq' := List.mem_range.mp hq
  by_cases h : c ≤ q
  · simp [hz q h hq']
  · simp; omega
theorem undo_step {l : List ByteArray} {n c p : Nat} {s : St} (hs : undoSt l n c = some s) (hp : p < n) (hc : c ≤ p) (hne : s p c ≠ 0) (hz : ∀ q, c ≤ q → q < p → s q c = 0) :
    undoSt l n (c + 1) = some (elimTo (swapF s c p) c n) := by
  simp [undoSt, hs, stepF, pivF_some hp hc hne hz]
theorem undo_stop {l : List ByteArray} {n c : Nat} {s : St} (hs : undoSt l n c = some s) (hc : c < n) (hz : ∀ q, c ≤ q → q < n → s q c = 0) : undoSt l n n = none :=
  undoSt_none l n (c + 1) n (by simp [undoSt, hs, stepF, pivF_none hz]) (by omega)
def Byte (s : St) : Prop := ∀ i j, s i j < 256
theorem st0_byte (l : List ByteArray) (n : Nat) : Byte (st0 l n) := by
  intro i j; unfold st0; split
  · exact ent_lt _ _ _
  · exact unitF_lt _ _
theorem swapF_byte {s : St} (h : Byte s) (c p : Nat) : Byte (swapF s c p) := by
  intro i j; unfold swapF; split
  · exact h _ _
  · split
    · exact h _ _
    · exact h _ _
theorem rowR_lt {s : St} (c j : Nat) : rowR s c j < 256 := fm_lt _ _ (invV_lt _)
theorem elimTo_byte {s : St} (h : Byte s) (c k : Nat) : Byte (elimTo s c k) := by
  intro i j; unfold elimTo; split
  · exact rowR_lt _ _
  · split
    · exact x8 (h _ _) (fm_lt _ _ (h _ _))
    · exact h _ _
theorem elimTo_zero (s : St) (c i : Nat) (hi : i ≠ c) : elimTo s c 0 i = s i := by
  funext j; unfold elimTo; rw [if_neg hi, if_neg (by omega)]
theorem elimTo_at (s : St) (c k : Nat) : elimTo s c k c = rowR s c := by
  funext j; unfold elimTo; rw [if_pos rfl]
theorem elimTo_todo (s : St) (c i : Nat) (hi : i ≠ c) : elimTo s c i i = s i := by
  funext j; unfold elimTo; rw [if_neg hi, if_neg (by omega)]
theorem elimTo_skip (s : St) (c : Nat) : elimTo s c (c + 1) = elimTo s c c := by
  funext i j; unfold elimTo
  by_cases h : i = c
  · rw [if_pos h, if_pos h]
  · rw [if_neg h, if_neg h]
    by_cases h2 : i < c
    · rw [if_pos h2, if_pos (by omega)]
    · rw [if_neg h2, if_neg (by omega)]
theorem elimTo_next (s : St) (c k i : Nat) (hk : k ≠ c) : elimTo s c (k + 1) i = if i = k then (fun j => s k j ^^^ fm (s k c) (rowR s c j)) else elimTo s c k i := by
  funext j
  unfold elimTo
  by_cases h : i = k
  · subst h
    rw [if_neg hk, if_pos (by omega), if_pos rfl]
  · rw [if_neg h]
    by_cases h1 : i = c
    · rw [if_pos h1, if_pos h1]
    · rw [if_neg h1, if_neg h1]
      by_cases h2 : i < k
      · rw [if_pos (by omega), if_pos h2]
      · rw [if_neg (by omega), if_neg h2]
theorem bn_app (s t : ByteArray) (j : Nat) : bn (s ++ t) j = if j < s.size then bn s j else bn t (j - s.size) := by
  unfold bn
  have h : (s ++ t).data.toList = s.data.toList ++ t.data.toList := by simp
  have hl : s.data.toList.length = s.size := rfl
  rw [h, List.getD_eq_getElem?_getD, List.getElem?_append, hl]
  split
  · rw [List.getD_eq_getElem?_getD]
  · rw [List.getD_eq_getElem?_getD]
theorem st0_row (l : List ByteArray) (n i : Nat) (hs : (l.getD i { data := #[] }).size = n) : l.getD i { data := #[] } ++ strN n (unitF i) = strN (2 * n) (st0 l n i) := by
  apply str_ext'
  · rw [ByteArray.size_append, strN_size, strN_size, hs]; omega
  · intro j hj
    rw [ByteArray.size_append, strN_size, hs] at hj
    rw [bn_app, bn_strN _ _ j (by omega) (st0_byte l n i j), hs]
    unfold st0 ent
    split
    · rfl
    · rw [bn_strN _ _ _ (by omega) (unitF_lt _ _)]
theorem times_row (n c : Nat) (f : Nat → Nat) (hf : ∀ j, f j < 256) : timesT c (strN n f) = strN n (fun j => fm c (f j)) := by
  unfold timesT
  rw [strN_size]
  exact strN_congr _ _ _ fun j hj => by rw [bn_strN n f j hj (hf j)]
theorem cut_row (n : Nat) (f : Nat → Nat) (hf : ∀ j, f j < 256) : (strN (2 * n) f).extract n (2 * n) = strN n (fun j => f (n + j)) := by
  apply str_ext'
  · rw [ByteArray.size_extract, strN_size, strN_size]; omega
  · intro j hj
    rw [ByteArray.size_extract, strN_size] at hj
    rw [bn_strN n (fun j => f (n + j)) j (by omega) (hf _)]
    have : bn ((strN (2 * n) f).extract n (2 * n)) j = bn (strN (2 * n) f) (n + j) := by
      unfold bn
      simp only [ByteArray.data_extract, Array.toList_extract, List.getD_eq_getElem?_getD]
      rw [List.extract_eq_take_drop, List.getElem?_take, if_pos (by omega), List.getElem?_drop]
    rw [this, bn_strN _ _ _ (by omega) (hf _)]
end Go.Proofs.Ytjdppgogdilgkaa
end
section
namespace Go.Proofs.Ytjdppgogdilgkaa
open Go.RowKit Go.Gf
def CD (c d : Nat) : ByteArray := strN 2 (fun i => if i = 0 then c else d)
theorem CD_size (c d : Nat) : (CD c d).size = 2 := strN_size _ _
theorem CD_0 (c d : Nat) (hc : c < 256) : bn (CD c d) 0 = c := bn_strN _ _ 0 (by omega) hc
theorem CD_1 (c d : Nat) (hd : d < 256) : bn (CD c d) 1 = d := bn_strN _ _ 1 (by omega) hd
theorem cd_cells (d : Nat) (hd : d < 256) (w : World) (t : TypeId) : ∀ j, j < 2 → (w.alloc (.cells #[.int .u8 1, .int .u8 (d : Int)] t)).cell? ⟨w.heap.size, 0 + j, none⟩ = some (.int .u8 (bt (CD 1 d) j)) := by
  intro j hj
  rw [(Blk.new w t _).cell, bt_bn]
  obtain rfl | rfl : j = 0 ∨ j = 1 := by omega
  · rw [CD_0 1 d (by omega)]; rfl
  · rw [CD_1 1 d hd]; rfl
theorem sum2 (N c : Nat) (f g : Nat → Nat) (hc : c < 256) (hf : ∀ j, f j < 256) (hg : ∀ j, g j < 256) : sumV (CD 1 c) [strN N f, strN N g] = strN N (fun j => f j ^^^ fm c (g j)) := by
  have h := sum_yes (CD 1 c) [strN N f, strN N g] ⟨CD_size _ _, by intro x hx; simp at hx; rcases hx with rfl | rfl <;> simp [len0, strN_size]⟩
  rw [h.1]
  have h0 : len0 [strN N f, strN N g] = N := by simp [len0, strN_size]
  rw [h0]
  refine strN_congr _ _ _ fun j hj => ?_
  simp only [List.length_cons, List.length_nil, acc, Nat.zero_xor]
  rw [CD_0 1 c (by omega), CD_1 1 c hc]
  simp only [List.getD_cons_zero, List.getD_cons_succ]
  rw [bn_strN N f j hj (hf j), bn_strN N g j hj (hg j), fm_comm 1 _ (by omega) (hf j), fm_one_r]
set_option maxRecDepth 100000 in
theorem msum_any (N c : Nat) (f g : Nat → Nat) (w : World) (hc : c < 256) (hf : ∀ j, f j < 256) (hg : ∀ j, g j < 256) (hN : N ≤ 1048576) :
    Calls Try.prog 52 #[.string (strN N f), .int .u8 c, .string (strN N g)] w fun e w' => e = .returned (.string (strN N (fun j => f j ^^^ fm c (g j)))) ∧ Ext w w' := by
  have H2 := Lib.hid (sum2 N c f g hc hf hg)
  have S1 := strN_size N f
  have S2 := strN_size N g
  have hs1 : (strN N f).size ≤ 1048576 := by omega
  have hs2 : (strN N g).size ≤ 1048576 := by omega
  have hcd := cd_cells c hc
  clear S1 S2
  generalize strN N f = s at *
  generalize strN N g = t at *
  have HCD := Lib.hid hcd
  clear hcd
  go_enter Try.func52, Try.ntmps52
  go_wp2_with (first
    | (with_reducible refine wpList_bytes_str rfl 41 9 5 _ rfl Try.underlying41 Try.underlying5 Try.underlying9 _ 0 2 2 rfl (CD 1 c) (CD_size 1 c) (HCD.out _ _) ?_)
    | (go_at_call 40; refine (sum_any (CD 1 c) _ 2 2 [s, t] _ (Rd.new2 _ _ _ _ 2 rfl) (by omega) (by rw [CD_size]; omega) (by intro x hx; simp at hx; rcases hx with rfl | rfl <;> assumption)).mono ?_; rintro e w1 ⟨rfl, hE1⟩))
  go_ret
  exact ⟨ret_str H2.out, (((Ext.refl w).alloc _).alloc _).trans hE1⟩
end Go.Proofs.Ytjdppgogdilgkaa
end
