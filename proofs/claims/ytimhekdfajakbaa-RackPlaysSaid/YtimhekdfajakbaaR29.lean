import Derived.Test.YtimhekdfajakbaaR28
namespace Go.Proofs.Ytimhekdfajakbaa
open Go.RowKit
def Rf0 : Rf := ⟨-1, fun _ _ => zero64, fun _ _ => false, fun _ => 0⟩
theorem info46 : (Try.prog.info? 46).map (fun i => (i.zero, i.size, i.bytes)) = some (some (.slice none 0 0), 1, 24) := by kernel_rfl
theorem info63 : (Try.prog.info? 63).map (fun i => (i.zero, i.size, i.bytes)) = some (some (.slice none 0 0), 1, 24) := by kernel_rfl
theorem info36 : (Try.prog.info? 36).map (fun i => (i.zero, i.size, i.bytes)) = some (some (.int .u64 0), 1, 8) := by kernel_rfl
theorem info4 : (Try.prog.info? 4).map (fun i => (i.zero, i.size, i.bytes)) = some (some (.bool false), 1, 1) := by kernel_rfl
theorem make57 (n : Nat) (hn : n ≤ 4096) (w : World) : (Instr.makeSlice 57 (.int .i64 n) (.int .i64 n)).run Try.prog w = .ok (.slice (some ⟨w.heap.size, 0, none⟩) n n) (w.alloc (.cells (tabA n fun _ => .int .u64 0) 36)) := by
  obtain ⟨i0, hi0, hz0, hz1, hz2⟩ := info_parts info36
  exact run_make_tab 57 36 i0 (.int .u64 0) Try.underlying57 hi0 hz0 hz1 rfl .i64 .i64 n (by rw [hz2]; omega) (by omega) w
theorem make63 (n : Nat) (hn : n ≤ 4096) (w : World) : (Instr.makeSlice 63 (.int .i64 n) (.int .i64 n)).run Try.prog w = .ok (.slice (some ⟨w.heap.size, 0, none⟩) n n) (w.alloc (.cells (tabA n fun _ => .bool false) 4)) := by
  obtain ⟨i0, hi0, hz0, hz1, hz2⟩ := info_parts info4
  exact run_make_tab 63 4 i0 (.bool false) Try.underlying63 hi0 hz0 hz1 rfl .i64 .i64 n (by rw [hz2]; omega) (by omega) w
theorem one_slice (A : Option Addr) (n c : Nat) : ∀ u ∈ [Value.slice A n c], u.oneCell' = true := by intro u h; simp at h; subst h; rfl
theorem reps {α : Type} (a : α) (k : Nat) : (List.range (k + 1)).map (fun _ => a) = (List.range k).map (fun _ => a) ++ [a] := rows_snoc _ _ k (fun _ _ => rfl)
theorem NewInv.done {B gx gC nd ns c1 c2 : Nat} {w : World} {A1 A2 : Option Addr} {hS hB cs : Nat → Nat} (h : NewInv B w gx gC nd ns nd nd A1 A2 c1 c2 hS hB cs) (n1 : 1 ≤ nd) (n2 : nd ≤ 12) (n3 : 1 ≤ ns) (n4 : ns ≤ 4096) :
    ∃ q : Ql, q.gx = gx ∧ q.nd = nd ∧ q.ns = ns ∧ RefAt w q Rf0 ∧ ∀ k, q.has k → B ≤ k := by
  obtain ⟨gS, rfl⟩ : ∃ g, A1 = some ⟨g, 0, none⟩ := by
    rcases h.s.2 with ⟨_, h0⟩ | ⟨g, cap, cur, hv, _⟩
    · omega
    · injection hv with h1; exact ⟨g, h1⟩
  obtain ⟨gB, rfl⟩ : ∃ g, A2 = some ⟨g, 0, none⟩ := by
    rcases h.b.2 with ⟨_, h0⟩ | ⟨g, cap, cur, hv, _⟩
    · omega
    · injection hv with h1; exact ⟨g, h1⟩
  have hs := h.s.cellsT
  have hb := h.b.cellsT
  refine ⟨⟨gx, gS, gB, gC, hS, hB, c1, c2, cs, nd, ns⟩, rfl, rfl, rfl, ⟨h.x, hs.1.congr (fun j hj => ?_), hb.1.congr (fun j hj => ?_), h.c, h.ss, h.bs, h.iS, h.iB, n1, n2, n3, n4, fun _ _ => zero64_size⟩, ?_⟩
  · rw [List.getD_eq_getElem?_getD, List.getElem?_map, List.getElem?_range hj]; rfl
  · rw [List.getD_eq_getElem?_getD, List.getElem?_map, List.getElem?_range hj]; rfl
  · rintro k (rfl | rfl | rfl | rfl | ⟨i, hi, rfl | rfl⟩)
    · exact h.fx
    · exact hs.2
    · exact hb.2
    · exact h.fc
    · exact h.fs i hi
    · exact h.fb i hi
theorem new_ref_no (d x : Int) (h : ¬ newOk d x) (w : World) : Calls Try.prog 10 #[.int .i64 d, .int .i64 x] w fun e w' => e = .returned (.tuple #[.pointer none, .int .i64 2]) ∧ Ext w w' := by
  have hO := Ext.refl w
  by_cases d0 : d < 1
  · have t1 : decide (d < 1) = true := by simpa using d0
    go_enter Try.func10, Try.ntmps10
    go_wp2
    go_ret2
    exact ⟨rfl, hO⟩
  · have t1 : decide (d < 1) = false := by simpa using d0
    by_cases d1 : 12 < d
    · have t2 : decide (12 < d) = true := by simpa using d1
      go_enter Try.func10, Try.ntmps10
      go_wp2
      go_ret2
      exact ⟨rfl, hO⟩
    · have t2 : decide (12 < d) = false := by simpa using d1
      by_cases x0 : x < 1
      · have t3 : decide (x < 1) = true := by simpa using x0
        go_enter Try.func10, Try.ntmps10
        go_wp2
        go_ret2
        exact ⟨rfl, hO⟩
      · have t3 : decide (x < 1) = false := by simpa using x0
        have x1 : 4096 < x := by unfold newOk at h; omega
        have t4 : decide (4096 < x) = true := by simpa using x1
        go_enter Try.func10, Try.ntmps10
        go_wp2
        go_ret2
        exact ⟨rfl, hO⟩
set_option maxRecDepth 100000 in
theorem new_ref_yes (nd ns : Nat) (h1 : 1 ≤ nd ∧ nd ≤ 12) (h2 : 1 ≤ ns ∧ ns ≤ 4096) (w : World) : Calls Try.prog 10 #[.int .i64 nd, .int .i64 ns] w fun e w' => ∃ q : Ql, e = .returned (.tuple #[.pointer (some ⟨q.gx, 0, none⟩), .int .i64 0]) ∧ q.nd = nd ∧ q.ns = ns ∧ RefAt w' q Rf0 ∧ (∀ k, q.has k → w.heap.size ≤ k) ∧ Ext w w' := by
  obtain ⟨a1, a2⟩ := h1
  obtain ⟨b1, b2⟩ := h2
  have t1 : decide ((nd : Int) < 1) = false := by simp; omega
  have t2 : decide ((12 : Int) < (nd : Int)) = false := by simp; omega
  have t3 : decide ((ns : Int) < 1) = false := by simp; omega
  have t4 : decide ((4096 : Int) < (ns : Int)) = false := by simp; omega
  have m1 := make57 nd (by omega)
  have m2 := make63 ns b2
  go_enter Try.func10, Try.ntmps10
  go_wp2
  have hI : NewInv w.heap.size ((w.alloc (.cells (tabA nd fun _ => Value.int .u64 0) 36)).alloc (.cells #[.slice none 0 0, .slice none 0 0, .slice (some ⟨w.heap.size, 0, none⟩) nd nd, .int .i64 (-1)] 61)) (w.heap.size + 1) w.heap.size nd ns 0 0 none none 0 0 id id id := by
    have hx := Blk.new (w.alloc (.cells (tabA nd fun _ => Value.int .u64 0) 36)) 61 #[.slice none 0 0, .slice none 0 0, .slice (some ⟨w.heap.size, 0, none⟩) nd nd, .int .i64 (-1)]
    rw [show (w.alloc (.cells (tabA nd fun _ => Value.int .u64 0) 36)).heap.size = w.heap.size + 1 by simp] at hx
    refine ⟨CellsT.of_blk hx (Nat.le_refl _) (fun j hj => by
      match j, hj with
      | 0, _ => rfl
      | 1, _ => rfl
      | 2, _ => rfl
      | 3, _ => rfl), World.ownsRow_nil _ _ _ _, World.ownsRow_nil _ _ _ _, CellsT.of_blk ((Blk.new w 36 _).alloc _) (by rw [tabA_size]; exact Nat.le_refl _) (fun j hj => tabA_at _ _ _ hj), fun i hi => absurd hi (by omega), fun i hi => absurd hi (by omega), fun i _ hi => absurd hi (by omega), fun i _ hi => absurd hi (by omega), by omega, Nat.le_refl _, fun i hi => absurd hi (by omega), fun i hi => absurd hi (by omega)⟩
  have hE : Ext w ((w.alloc (.cells (tabA nd fun _ => Value.int .u64 0) 36)).alloc (.cells #[.slice none 0 0, .slice none 0 0, .slice (some ⟨w.heap.size, 0, none⟩) nd nd, .int .i64 (-1)] 61)) := ((Ext.refl w).alloc _).alloc _
  generalize ((w.alloc (.cells (tabA nd fun _ => Value.int .u64 0) 36)).alloc (.cells #[.slice none 0 0, .slice none 0 0, .slice (some ⟨w.heap.size, 0, none⟩) nd nd, .int .i64 (-1)] 61)) = w1 at *
  obtain ⟨B, hB⟩ : ∃ g, g = w.heap.size := ⟨_, rfl⟩
  rw [← hB] at hI
  rw [← hB]
  obtain ⟨gx, hgx⟩ : ∃ g, g = B + 1 := ⟨_, rfl⟩
  rw [← hgx] at hI
  rw [← hgx]
  have HGX := Lib.hid hgx
  have HB := Lib.hid hB
  clear hgx hB m1
  go_loopw [7] (fun i wr => ∃ (k : Nat) (A1 A2 : Option Addr) (c1 c2 : Nat) (hS hB cs : Nat → Nat), k ≤ nd ∧ i = .int .i64 k ∧ NewInv B wr gx B nd ns k k A1 A2 c1 c2 hS hB cs ∧ Ext w wr) (fun i _ => nd - (intOf i).toNat)
  case atStart => exact ⟨0, none, none, 0, 0, id, id, id, by omega, rfl, hI, hE⟩
  case round =>
    obtain ⟨k, A1, A2, c1, c2, hS, hB, cs, hk, rfl, hI2, hE2⟩ := hrel
    clear hI hE
    by_cases hk2 : k < nd
    · have kk : (k : Int) < (nd : Int) := by omega
      have kk0 : (0 : Int) ≤ (k : Int) := by omega
      go_wp2_with fail
      obtain ⟨wo, rfl⟩ : ∃ wo : World, wo = wr := ⟨_, rfl⟩
      go_loopw [8, 9] (fun v i wr => ∃ (j : Nat) (A3 : Option Addr) (c3 : Nat), j ≤ ns ∧ i = .int .i64 j ∧ v = .slice A3 j c3 ∧ wr.ownsRow wo.heap.size 9 1 (.slice A3 j c3) j ((List.range j).map fun _ => .string zero64) ∧ Ext wo wr) (fun _ i _ => ns - (intOf i).toNat)
      case atStart => exact ⟨0, none, 0, by omega, rfl, rfl, World.ownsRow_nil _ _ _ _, Ext.refl _⟩
      case round =>
        obtain ⟨j, A3, c3, hj, rfl, rfl, hown, hE3⟩ := hrel
        by_cases hj2 : j < ns
        · have jj : (j : Int) < (ns : Int) := by omega
          have jj0 : (0 : Int) ≤ (j : Int) := by omega
          have HO := Lib.hid hown
          have HRP := Lib.hid (reps (Value.string zero64) j)
          clear hown
          go_wp2_with (first
            | (go_at_call 24; (with_reducible refine (none_ref _).mono ?_); rintro e w4 ⟨rfl, hE4⟩; have hE34 := hE3.trans hE4; have hsz4 := hE34.sz; have HO4 := Lib.hid (HO.out.ext hE4))
            | (at_builtin; refine wpList_app w4 rfl _ _ 46 9 rfl Try.underlying46 (.string { data := #[] }) [.string zero64] 1 16 info9 rfl rfl (by decide) (by decide) wo.heap.size (.slice A3 j c3) j _ rfl HO4.out (one_str _) _ rfl rfl (by omega) hsz4 ?_; intro g4 cap4 w5 hown4 hG4 hg4))
          go_roundw
          case rel => exact ⟨j + 1, some ⟨g4, 0, none⟩, cap4, by omega, by go_num, rfl, by rw [HRP.out]; exact hown4, hG4.ext hE34 (Nat.le_refl _)⟩
          case measure => simp [intOf]; omega
        · obtain rfl : ns = j := by omega
          obtain ⟨b, rfl⟩ : ∃ g, A3 = some ⟨g, 0, none⟩ := by
            rcases hown.2 with ⟨_, h0⟩ | ⟨g, cap, cur, hv, _⟩
            · omega
            · injection hv with h1; exact ⟨g, h1⟩
          have hb0 := hown.cellsT
          have hbt : CellsT wr 9 b ns (fun _ => .string zero64) := hb0.1.congr (fun j hj => by
            rw [List.getD_eq_getElem?_getD, List.getElem?_map, List.getElem?_range hj]; rfl)
          have hge := hb0.2
          have hI3 := hI2.ext hE3
          have hnb : ∀ i, i < k → hS i ≠ b := fun i hi he => by have := (hI2.ss i hi).lt; omega
          have hBb : B ≤ b := by have := hE2.sz; have := HB.out; omega
          have c0 : wr.cell? ⟨gx, 0, none⟩ = some (.slice A1 k c1) := hI3.x.cell 0 (by omega)
          have hBw : B ≤ wr.heap.size := by have := hE3.sz; have := hE2.sz; have := HB.out; omega
          have HI3 := Lib.hid hI3
          have HNB := Lib.hid hnb
          have HBT := Lib.hid hbt
          have hE5 := hE2.trans hE3
          have hf1 := (Ext.refl wr).alloc (.cells #[.slice (some ⟨b, 0, none⟩) ns c3] 46)
          clear hown hb0 hbt hnb hI2 hE2
          go_wp2_with (at_builtin; refine wpList_app wr rfl (.tmp 46) (.tmp 48) 58 46 rfl Try.underlying58 (.slice none 0 0) [.slice (some ⟨b, 0, none⟩) ns c3] 1 24 info46 rfl rfl (by decide) (by decide) B (.slice A1 k c1) k _ rfl HI3.out.s (one_slice _ _ _) _ rfl rfl (by omega) hBw ?_; intro g4 cap4 w5 hown4 hG4 hg4; have HA := Lib.hid (HI3.out.addS HBT.out HNB.out hBb hown4 rfl hg4); have HX := (HI3.out.x.ext hf1).grown (HI3.out.s.ext hf1) hg4 (by decide); have d0 : w5.cell? ⟨gx, 0, none⟩ = some (.slice A1 k c1) := HX.cell 0 (by omega); have f0 := HX.frozen 0 (by omega))
          have hE6 : Ext w (w5.setCell ⟨gx, 0, none⟩ (.slice (some ⟨g4, 0, none⟩) (k + 1) cap4)) := (hG4.ext hE5 (by have := HB.out; omega)).setCell (by have := HB.out; have := HGX.out; show w.heap.size ≤ gx; omega) _
          clear c0 hBw HI3 HNB HBT hE5 hf1 hge hBb hown4 hG4 hg4 d0 f0 HX hE3
          have hI6 := HA.out
          generalize w5.setCell ⟨gx, 0, none⟩ (.slice (some ⟨g4, 0, none⟩) (k + 1) cap4) = w6 at *
          clear HA
          have HI6 := Lib.hid hI6
          have c1' : w6.cell? ⟨gx, 1, none⟩ = some (.slice A2 k c2) := hI6.x.cell 1 (by omega)
          have c2' : (w6.alloc (.cells (tabA ns fun _ => Value.bool false) 4)).cell? ⟨gx, 1, none⟩ = some (.slice A2 k c2) := ((Ext.refl w6).alloc _).cellv c1'
          have c3' : ((w6.alloc (.cells (tabA ns fun _ => Value.bool false) 4)).alloc (.cells #[.slice (some ⟨w6.heap.size, 0, none⟩) ns ns] 63)).cell? ⟨gx, 1, none⟩ = some (.slice A2 k c2) := (((Ext.refl w6).alloc _).alloc _).cellv c1'
          have hBw6 : B ≤ w6.heap.size := by have := hE6.sz; have := HB.out; omega
          have hE7 : Ext w6 (w6.drew.alloc (.cells (tabA ns fun _ => Value.bool false) 4)) := ((Ext.refl w6).drew).alloc _
          have HI7 := Lib.hid (hI6.ext hE7)
          have hbt : CellsT (w6.drew.alloc (.cells (tabA ns fun _ => Value.bool false) 4)) 4 w6.heap.size ns (fun _ => .bool false) := CellsT.of_blk (Blk.new w6.drew 4 _) (by rw [tabA_size]; exact Nat.le_refl _) (fun j hj => tabA_at _ _ _ hj)
          have HBT := Lib.hid hbt
          have hnb : ∀ i, i < k → hB i ≠ w6.heap.size := fun i hi he => by have := (hI6.bs i hi).lt; omega
          have HNB := Lib.hid hnb
          have hE78 := Lib.hid (hE6.trans hE7)
          have hBw7 : B ≤ (w6.drew.alloc (.cells (tabA ns fun _ => Value.bool false) 4)).heap.size := by have := hE7.sz; omega
          have hf7 := (Ext.refl (w6.drew.alloc (.cells (tabA ns fun _ => Value.bool false) 4))).alloc (.cells #[.slice (some ⟨w6.heap.size, 0, none⟩) ns ns] 63)
          have HF7 := Lib.hid hf7
          have HBW := Lib.hid hBw7
          clear hI6 hE7 hbt hnb hf7 hBw7
          go_region_law (first
            | (refine step_app (w6.drew.alloc (.cells (tabA ns fun _ => Value.bool false) 4)) (by rfl) (.tmp 56) (.tmp 59) 59 63 (by rfl) Try.underlying59 (.slice none 0 0) [.slice (some ⟨w6.heap.size, 0, none⟩) ns ns] 1 24 info63 rfl rfl (by decide) (by decide) B (.slice A2 k c2) k _ (by rfl) HI7.out.b (one_slice _ _ _) _ (by rfl) (by simp) (by omega) HBW.out ?_; intro g5 cap5 w8 hown8 hG8 hg8; have HA := Lib.hid (HI7.out.addB HBT.out HNB.out hBw6 hown8 rfl hg8); have HX := (HI7.out.x.ext HF7.out).grown (HI7.out.b.ext HF7.out) hg8 (by decide); have d0 : w8.cell? ⟨gx, 1, none⟩ = some (.slice A2 k c2) := HX.cell 1 (by omega); have f0 := HX.frozen 1 (by omega)))
          all_goals
            go_wp2
            go_roundw
            case rel => exact ⟨k + 1, some ⟨g4, 0, none⟩, some ⟨g5, 0, none⟩, cap4, cap5, _, _, _, by omega, by go_num, HA.out, (hG8.ext hE78.out (by have := HB.out; omega)).setCell (by have := HB.out; have := HGX.out; show w.heap.size ≤ gx; omega) _⟩
            case measure => simp [intOf]; omega
    · obtain rfl : nd = k := by omega
      obtain ⟨q, z1, z2, z3, z4, z5⟩ := hI2.done a1 a2 b1 b2
      have hz5 : ∀ k, q.has k → w.heap.size ≤ k := fun k hk => by have := z5 k hk; have := HB.out; omega
      subst z1
      have Z := Lib.hid (And.intro z2 (And.intro z3 (And.intro z4 (And.intro hz5 hE2))))
      clear z2 z3 z4 z5 hz5 hE2 hI2
      go_wp2
      go_ret2
      exact ⟨q, rfl, Z.out.1, Z.out.2.1, Z.out.2.2.1, Z.out.2.2.2.1, Z.out.2.2.2.2⟩
