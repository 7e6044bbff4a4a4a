import Derived.Test.YtbmemogajgbdgaaM6
namespace Go.Proofs.Ytbmemogajgbdgaa
open Go.RowKit Go.Gf
def cauchyF (m i j : Nat) : Nat := invV ((m + i) ^^^ j)
def cauchyOk (n m : Int) : Prop := (1 ≤ n ∧ n ≤ 64) ∧ (1 ≤ m ∧ m ≤ 64)
instance (n m : Int) : Decidable (cauchyOk n m) := by unfold cauchyOk; infer_instance
def cauchyV (n m : Int) : List ByteArray := if cauchyOk n m then mkM n.toNat m.toNat (cauchyF m.toNat) else []
def cauchyE (n m : Int) : Int := if cauchyOk n m then 0 else 2
theorem cauchy_ok (n m : Nat) (h : cauchyOk n m) : cauchyV n m = mkM n m (cauchyF m) ∧ cauchyE n m = 0 := by
  unfold cauchyV cauchyE; rw [if_pos h, if_pos h]; simp
theorem cauchy_no (n m : Int) (h : ¬ cauchyOk n m) : cauchyV n m = [] ∧ cauchyE n m = 2 := by
  unfold cauchyV cauchyE; rw [if_neg h, if_neg h]; exact ⟨rfl, rfl⟩
theorem cauchyF_lt (m i j : Nat) : cauchyF m i j < 256 := invV_lt _
/-- While byte j of a row is made. -/
def rowC (m i j x : Nat) : Nat := if x < j then cauchyF m i x else 0
theorem rowC_step (m i j x : Nat) : rowC m i (j + 1) x = if x = j then cauchyF m i j else rowC m i j x := by
  unfold rowC
  by_cases e : x = j
  · subst e; rw [if_pos (by omega), if_pos rfl]
  · rw [if_neg e]
    by_cases h : x < j
    · rw [if_pos (by omega), if_pos h]
    · rw [if_neg (by omega), if_neg h]
set_option maxRecDepth 100000 in
theorem cauchy_any (n m : Int) (w : World) : Calls Try.prog 19 #[.int .i64 n, .int .i64 m] w (MatIs (cauchyV n m) (cauchyE n m) w) := by
  by_cases h : cauchyOk n m
  · obtain ⟨n, rfl⟩ := Int.eq_ofNat_of_zero_le (show 0 ≤ n by have := h.1.1; omega)
    obtain ⟨m, rfl⟩ := Int.eq_ofNat_of_zero_le (show 0 ≤ m by have := h.2.1; omega)
    have HV := Lib.hid (cauchy_ok n m h)
    have h1 : 1 ≤ n ∧ n ≤ 64 := by have := h.1; omega
    have h2 : 1 ≤ m ∧ m ≤ 64 := by have := h.2; omega
    have S1 := Lib.hid (side_yes n h1)
    have S2 := Lib.hid (side_yes m h2)
    obtain ⟨h1a, h1b⟩ := h1
    obtain ⟨h2a, h2b⟩ := h2
    obtain ⟨i0, hi0, hz0, hz1, hz2⟩ := info_parts info5
    clear h
    go_enter Try.func19, Try.ntmps19
    go_wp2_with (go_at_call 33; refine (side_any _ _).mono ?_; rintro e w1 ⟨rfl, rfl⟩; first | rw [S1.out] | rw [S2.out])
    go_loopw [4, 18] (fun v i wr => ∃ k : Nat, k ≤ n ∧ i = .int .i64 k ∧ ∃ (A1 : Option Addr) (c1 : Nat), v = .slice A1 k c1 ∧ wr.ownsRow w.heap.size 9 1 (.slice A1 k c1) k ((mkM k m (cauchyF m)).map Value.string) ∧ Ext w wr) (fun _ i _ => n - (intOf i).toNat)
    case atStart => exact ⟨0, by omega, rfl, none, 0, rfl, World.ownsRow_nil _ _ _ _, Ext.refl _⟩
    case round =>
      obtain ⟨i, hi, rfl, A1, c1, rfl, hown, hE⟩ := hrel
      by_cases hi2 : i < n
      · have kk : (i : Int) < (n : Int) := by omega
        have kk0 : (0 : Int) ≤ (i : Int) := by omega
        have HO := Lib.hid hown
        clear hown
        go_wp2_with (at_make; refine wpList_make_tab rfl _ _ 43 rfl 5 i0 (.int .u8 0) Try.underlying43 hi0 hz0 hz1 rfl _ _ m rfl rfl (by rw [hz2]; omega) (by omega) ?_)
        have hbn : BytesAt (wr.alloc (.cells (tabA m (fun _ => Value.int .u8 0)) 5)) wr.heap.size m (rowC m i 0) := by
          have : Blk (wr.alloc (.cells (tabA m (fun _ => Value.int .u8 0)) 5)) wr.heap.size 5 (tabA m (u8c (fun _ => 0))) := Blk.new _ _ _
          exact this.bytes.congr (fun x _ => by simp [rowC])
        have hEn : Ext wr (wr.alloc (.cells (tabA m (fun _ => Value.int .u8 0)) 5)) := (Ext.refl wr).alloc _
        generalize wr.alloc (.cells (tabA m (fun _ => Value.int .u8 0)) 5) = wb at *
        obtain ⟨g, hg⟩ : ∃ g, g = wr.heap.size := ⟨_, rfl⟩
        rw [← hg] at hbn ⊢
        have hge : wr.heap.size ≤ g := by omega
        obtain ⟨wo, hwo⟩ : ∃ wo : World, wo = wr := ⟨_, rfl⟩
        rw [← hwo] at hE HO hEn hge hg
        clear hwo hg
        go_loopw [25] (fun x wr => ∃ j : Nat, j ≤ m ∧ x = .int .i64 j ∧ Ext wo wr ∧ BytesAt wr g m (rowC m i j)) (fun x _ => m - (intOf x).toNat)
        case atStart => exact ⟨0, by omega, rfl, hEn, hbn⟩
        case round =>
          obtain ⟨j, hj, rfl, hEo, hb⟩ := hrel
          clear hbn hEn
          by_cases hj2 : j < m
          · have kj : (j : Int) < (m : Int) := by omega
            have kj0 : (0 : Int) ≤ (j : Int) := by omega
            have A36 : ∀ w : World, Calls Try.prog 36 #[.int .u8 ((m : Int) + (i : Int)), .int .u8 j] w fun e w' => e = .returned (.int .u8 (((m + i) ^^^ j : Nat) : Int)) ∧ Ext w w' := fun w => by
              have := add_any (m + i) j w (by omega) (by omega)
              rwa [Int.natCast_add] at this
            have hxl : (m + i) ^^^ j < 256 := x8 (by omega) (by omega)
            go_wp2_with (first
              | (go_at_call 36; refine (A36 _).mono ?_; rintro e w3 ⟨rfl, hE3⟩)
              | (go_at_call 28; refine (inv_any ((m + i) ^^^ j) _ hxl).mono ?_; rintro e w4 ⟨rfl, hE4⟩; have hb4 := (hb.ext hE3).ext hE4; have c4 := hb4.cell j hj2; have f4 := hb4.frozen j hj2))
            go_roundw
            case rel => exact ⟨j + 1, by omega, by go_num, ((hEo.trans hE3).trans hE4).setCell hge _, hb4.set_ j _ hj2 (fun x _ => rowC_step m i j x)⟩
            case measure => simp [intOf]; omega
          · obtain rfl : j = m := by omega
            have hb2 : BytesAt wr g j (cauchyF j i) := hb.congr (fun x hx => by unfold rowC; rw [if_pos hx])
            have HCS := Lib.hid (cells_bytes hb2 (fun x _ => cauchyF_lt j i x))
            have HP := Lib.hid (mkM_succ i j (cauchyF j))
            have hwz := hE.sz
            have hwz2 := hEo.sz
            clear hb2
            go_wp2_with (first
              | (with_reducible refine wpList_bytes_str rfl 43 9 5 _ rfl Try.underlying43 Try.underlying5 Try.underlying9 g 0 j j rfl (strN j (cauchyF j i)) (strN_size _ _) HCS.out ?_)
              | (at_builtin; refine wpList_app wr rfl _ _ 23 9 rfl Try.underlying23 (.string { data := #[] }) [.string (strN j (cauchyF j i))] 1 16 info9 rfl rfl (by decide) (by decide) w.heap.size (.slice A1 i c1) i ((mkM i j (cauchyF j)).map Value.string) rfl (HO.out.ext hEo) (one_str _) _ rfl rfl (by omega) (by omega) ?_; intro g4 cap4 w4 hown4 hG4 hg4))
            go_roundw
            case rel => exact ⟨i + 1, by omega, by go_num, _, cap4, rfl, by rw [HP.out, List.map_append]; exact hown4, hG4.ext (hE.trans hEo) (Nat.le_refl _)⟩
            case measure => simp [intOf]; omega
      · obtain rfl : i = n := by omega
        have HO := Lib.hid hown
        clear hown
        go_wp2
        go_ret2
        exact ⟨A1, i, c1, by rw [HV.out.2]; rfl, by rw [HV.out.1, mkM_len], by rw [HV.out.1]; exact HO.out.rd, hE⟩
  · have HV := Lib.hid (cauchy_no n m h)
    by_cases h1 : 1 ≤ n ∧ n ≤ 64
    · have s1 : sideB n = true := by unfold sideB; simp; exact h1
      have s2 : sideB m = false := by
        have : ¬ (1 ≤ m ∧ m ≤ 64) := fun x => h ⟨h1, x⟩
        unfold sideB; simp; omega
      have S1 := Lib.hid s1
      have S2 := Lib.hid s2
      clear h h1 s1 s2
      go_enter Try.func19, Try.ntmps19
      go_wp2_with (go_at_call 33; refine (side_any _ _).mono ?_; rintro e w1 ⟨rfl, rfl⟩; first | rw [S1.out] | rw [S2.out])
      go_ret2
      exact mat_nil HV.out (Ext.refl _)
    · have s1 : sideB n = false := by unfold sideB; simp; omega
      have S1 := Lib.hid s1
      clear h h1 s1
      go_enter Try.func19, Try.ntmps19
      go_wp2_with (go_at_call 33; refine (side_any _ _).mono ?_; rintro e w1 ⟨rfl, rfl⟩; rw [S1.out])
      go_ret2
      exact mat_nil HV.out (Ext.refl _)
set_option maxRecDepth 100000 in
theorem rcauchy_any (n m : Int) (w : World) : Calls Try.prog 20 #[.int .i64 n, .int .i64 m] w (MatIs (cauchyV n m) (cauchyE n m) w) := by
  by_cases h : cauchyOk n m
  · obtain ⟨n, rfl⟩ := Int.eq_ofNat_of_zero_le (show 0 ≤ n by have := h.1.1; omega)
    obtain ⟨m, rfl⟩ := Int.eq_ofNat_of_zero_le (show 0 ≤ m by have := h.2.1; omega)
    have HV := Lib.hid (cauchy_ok n m h)
    have h1 : 1 ≤ n ∧ n ≤ 64 := by have := h.1; omega
    have h2 : 1 ≤ m ∧ m ≤ 64 := by have := h.2; omega
    obtain ⟨h1a, h1b⟩ := h1
    obtain ⟨h2a, h2b⟩ := h2
    have e1 : decide ((n : Int) < 1) = false := by simp; omega
    have e2 : decide ((64 : Int) < (n : Int)) = false := by simp; omega
    have e3 : decide ((m : Int) < 1) = false := by simp; omega
    have e4 : decide ((64 : Int) < (m : Int)) = false := by simp; omega
    obtain ⟨i0, hi0, hz0, hz1, hz2⟩ := info_parts info5
    clear h
    go_enter Try.func20, Try.ntmps20
    go_wp2
    go_loopw [6, 7] (fun v i wr => ∃ k : Nat, k ≤ n ∧ i = .int .i64 k ∧ ∃ (A1 : Option Addr) (c1 : Nat), v = .slice A1 k c1 ∧ wr.ownsRow w.heap.size 9 1 (.slice A1 k c1) k ((mkM k m (cauchyF m)).map Value.string) ∧ Ext w wr) (fun _ i _ => n - (intOf i).toNat)
    case atStart => exact ⟨0, by omega, rfl, none, 0, rfl, World.ownsRow_nil _ _ _ _, Ext.refl _⟩
    case round =>
      obtain ⟨i, hi, rfl, A1, c1, rfl, hown, hE⟩ := hrel
      by_cases hi2 : i < n
      · have kk : (i : Int) < (n : Int) := by omega
        have kk0 : (0 : Int) ≤ (i : Int) := by omega
        have HO := Lib.hid hown
        clear hown
        go_wp2_with (at_make; refine wpList_make_tab rfl _ _ 43 rfl 5 i0 (.int .u8 0) Try.underlying43 hi0 hz0 hz1 rfl _ _ m rfl rfl (by rw [hz2]; omega) (by omega) ?_)
        have hbn : BytesAt (wr.alloc (.cells (tabA m (fun _ => Value.int .u8 0)) 5)) wr.heap.size m (rowC m i 0) := by
          have : Blk (wr.alloc (.cells (tabA m (fun _ => Value.int .u8 0)) 5)) wr.heap.size 5 (tabA m (u8c (fun _ => 0))) := Blk.new _ _ _
          exact this.bytes.congr (fun x _ => by simp [rowC])
        have hEn : Ext wr (wr.alloc (.cells (tabA m (fun _ => Value.int .u8 0)) 5)) := (Ext.refl wr).alloc _
        generalize wr.alloc (.cells (tabA m (fun _ => Value.int .u8 0)) 5) = wb at *
        obtain ⟨g, hg⟩ : ∃ g, g = wr.heap.size := ⟨_, rfl⟩
        rw [← hg] at hbn ⊢
        have hge : wr.heap.size ≤ g := by omega
        obtain ⟨wo, hwo⟩ : ∃ wo : World, wo = wr := ⟨_, rfl⟩
        rw [← hwo] at hE HO hEn hge hg
        clear hwo hg
        go_loopw [9] (fun x wr => ∃ j : Nat, j ≤ m ∧ x = .int .i64 j ∧ Ext wo wr ∧ BytesAt wr g m (rowC m i j)) (fun x _ => m - (intOf x).toNat)
        case atStart => exact ⟨0, by omega, rfl, hEn, hbn⟩
        case round =>
          obtain ⟨j, hj, rfl, hEo, hb⟩ := hrel
          clear hbn hEn
          by_cases hj2 : j < m
          · have kj : (j : Int) < (m : Int) := by omega
            have kj0 : (0 : Int) ≤ (j : Int) := by omega
            have hx : bits BinOp.xor IntKind.u8 ((m : Int) + (i : Int)) (j : Int) = (((m + i) ^^^ j : Nat) : Int) := by
              have := u8_xor (m + i) j (by omega) (by omega)
              rwa [Int.natCast_add] at this
            have hxl : (m + i) ^^^ j < 256 := x8 (by omega) (by omega)
            go_wp2_with (first
              | (go_at_call 31; refine (rinv_any ((m + i) ^^^ j) _ hxl).mono ?_; rintro e w4 ⟨rfl, hE4⟩; have hb4 := hb.ext hE4; have c4 := hb4.cell j hj2; have f4 := hb4.frozen j hj2))
            go_roundw
            case rel => exact ⟨j + 1, by omega, by go_num, (hEo.trans hE4).setCell hge _, hb4.set_ j _ hj2 (fun x _ => rowC_step m i j x)⟩
            case measure => simp [intOf]; omega
          · obtain rfl : j = m := by omega
            have hb2 : BytesAt wr g j (cauchyF j i) := hb.congr (fun x hx => by unfold rowC; rw [if_pos hx])
            have HCS := Lib.hid (cells_bytes hb2 (fun x _ => cauchyF_lt j i x))
            have HP := Lib.hid (mkM_succ i j (cauchyF j))
            have hwz := hE.sz
            have hwz2 := hEo.sz
            clear hb2
            go_wp2_with (first
              | (with_reducible refine wpList_bytes_str rfl 43 9 5 _ rfl Try.underlying43 Try.underlying5 Try.underlying9 g 0 j j rfl (strN j (cauchyF j i)) (strN_size _ _) HCS.out ?_)
              | (at_builtin; refine wpList_app wr rfl _ _ 23 9 rfl Try.underlying23 (.string { data := #[] }) [.string (strN j (cauchyF j i))] 1 16 info9 rfl rfl (by decide) (by decide) w.heap.size (.slice A1 i c1) i ((mkM i j (cauchyF j)).map Value.string) rfl (HO.out.ext hEo) (one_str _) _ rfl rfl (by omega) (by omega) ?_; intro g4 cap4 w4 hown4 hG4 hg4))
            go_roundw
            case rel => exact ⟨i + 1, by omega, by go_num, _, cap4, rfl, by rw [HP.out, List.map_append]; exact hown4, hG4.ext (hE.trans hEo) (Nat.le_refl _)⟩
            case measure => simp [intOf]; omega
      · obtain rfl : i = n := by omega
        have HO := Lib.hid hown
        clear hown
        go_wp2
        go_ret2
        exact ⟨A1, i, c1, by rw [HV.out.2]; rfl, by rw [HV.out.1, mkM_len], by rw [HV.out.1]; exact HO.out.rd, hE⟩
  · have HV := Lib.hid (cauchy_no n m h)
    by_cases h1 : n < 1
    · have e1 : decide (n < 1) = true := by simpa using h1
      clear h
      go_enter Try.func20, Try.ntmps20
      go_wp2
      go_ret2
      exact mat_nil HV.out (Ext.refl _)
    · have e1 : decide (n < 1) = false := by simpa using h1
      by_cases h2 : 64 < n
      · have e2 : decide (64 < n) = true := by simpa using h2
        clear h
        go_enter Try.func20, Try.ntmps20
        go_wp2
        go_ret2
        exact mat_nil HV.out (Ext.refl _)
      · have e2 : decide (64 < n) = false := by simpa using h2
        by_cases h3 : m < 1
        · have e3 : decide (m < 1) = true := by simpa using h3
          clear h
          go_enter Try.func20, Try.ntmps20
          go_wp2
          go_ret2
          exact mat_nil HV.out (Ext.refl _)
        · have e3 : decide (m < 1) = false := by simpa using h3
          have e4 : decide (64 < m) = true := by
            have : ¬ ((1 ≤ n ∧ n ≤ 64) ∧ (1 ≤ m ∧ m ≤ 64)) := h
            simp; omega
          clear h
          go_enter Try.func20, Try.ntmps20
          go_wp2
          go_ret2
          exact mat_nil HV.out (Ext.refl _)
