import Derived.Test.YtimhekdfajakbaaR7
import Derived.BigRegion
namespace Go.Proofs.Ytimhekdfajakbaa
open Go.RowKit
/-- The drives while drive k is made. -/
def mkC (g ns k i : Nat) : Value := if i % 2 = 0 then (if i / 2 < k then .slice (some ⟨g + i / 2, 0, none⟩) ns ns else .slice none 0 0) else .int .u64 0
def zeC (i : Nat) : Value := if i % 65 = 64 then .bool false else .int .u8 0
set_option maxRecDepth 100000 in
theorem new_yes (nd ns : Nat) (h1 : 1 ≤ nd ∧ nd ≤ 12) (h2 : 1 ≤ ns ∧ ns ≤ 4096) (w : World) : Calls Try.prog 9 #[.int .i64 nd, .int .i64 ns] w fun e w' => ∃ p : Pl, p.nd = nd ∧ p.ns = ns ∧ e = .returned (.tuple #[.pointer (some ⟨p.gR, 0, none⟩), .int .i64 0]) ∧ RackAt w' p St0 ∧ (∀ k, p.has k → w.heap.size ≤ k) ∧ Ext w w' := by
  obtain ⟨a1, a2⟩ := h1
  obtain ⟨b1, b2⟩ := h2
  have t1 : decide ((nd : Int) < 1) = false := by simp; omega
  have t2 : decide ((12 : Int) < (nd : Int)) = false := by simp; omega
  have t3 : decide ((ns : Int) < 1) = false := by simp; omega
  have t4 : decide ((4096 : Int) < (ns : Int)) = false := by simp; omega
  have m1 := make56 nd (by omega)
  have m2 := make78 ns (by omega)
  go_enter Try.func9, Try.ntmps9
  go_wp2
  obtain ⟨w2, hw2⟩ : ∃ w2 : World, w2 = (w.alloc (.cells (tabA (nd * 2) fun j => if j % 2 = 0 then Value.slice none 0 0 else Value.int .u64 0) 56)).alloc (.cells #[.slice (some ⟨w.heap.size, 0, none⟩) nd nd, .bool false, .int .i64 0] 53) := ⟨_, rfl⟩
  have c0 : CellsAt w2 w.heap.size (2 * nd) (mkC (w.heap.size + 2) ns 0) := by
    rw [hw2]
    refine ⟨56, _, by rw [tabA_size]; omega, ((Blk.new w 56 _).alloc _).m, fun j hj => ?_⟩
    rw [tabA_at _ _ j (by omega)]
    unfold mkC
    by_cases e : j % 2 = 0
    · rw [if_pos e, if_pos e, if_neg (by omega)]
    · rw [if_neg e, if_neg e]
  have c1 : CellsAt w2 (w.heap.size + 1) 3 (fun i => if i = 0 then .slice (some ⟨w.heap.size, 0, none⟩) nd nd else if i = 1 then .bool false else .int .i64 0) := by
    rw [hw2]
    have hb := Blk.new (w.alloc (.cells (tabA (nd * 2) fun j => if j % 2 = 0 then Value.slice none 0 0 else Value.int .u64 0) 56)) 53 #[.slice (some ⟨w.heap.size, 0, none⟩) nd nd, .bool false, .int .i64 0]
    rw [show (w.alloc (.cells (tabA (nd * 2) fun j => if j % 2 = 0 then Value.slice none 0 0 else Value.int .u64 0) 56)).heap.size = w.heap.size + 1 by simp] at hb
    refine ⟨53, _, Nat.le_refl _, hb.m, fun j hj => ?_⟩
    match j, hj with
    | 0, _ => rfl
    | 1, _ => rfl
    | 2, _ => rfl
  have hO : Ext w w2 := by rw [hw2]; exact ((Ext.refl w).alloc _).alloc _
  have hz : w2.heap.size = w.heap.size + 2 := by rw [hw2]; simp
  rw [← hw2]
  clear hw2
  obtain ⟨g, hg⟩ : ∃ g, g = w.heap.size := ⟨_, rfl⟩
  rw [← hg] at c0 c1 hz
  rw [← hg]
  obtain ⟨g1, hg1⟩ : ∃ g1, g1 = g + 1 := ⟨_, rfl⟩
  rw [← hg1] at c1
  rw [← hg1]
  go_loopw [31] (fun i wr => ∃ k : Nat, k ≤ nd ∧ i = .int .i64 k ∧ Ext w wr ∧ wr.heap.size = g + 2 + k ∧ CellsAt wr g1 3 (fun i => if i = 0 then .slice (some ⟨g, 0, none⟩) nd nd else if i = 1 then .bool false else .int .i64 0) ∧ CellsAt wr g (2 * nd) (mkC (g + 2) ns k) ∧ ∀ e, e < k → CellsAt wr (g + 2 + e) (65 * ns) zeC) (fun i _ => nd - (intOf i).toNat)
  case atStart => exact ⟨0, by omega, rfl, hO, hz, c1, c0, fun e he => by omega⟩
  case round =>
    obtain ⟨k, hk, rfl, hE, hzr, d1, d0, ds⟩ := hrel
    clear c0 c1 hO hz
    have DS := Lib.hid ds
    have HZ := Lib.hid hzr
    have HG := Lib.hid hg
    have HG1 := Lib.hid hg1
    clear ds hzr hg hg1
    by_cases hk2 : k < nd
    · have kk : (k : Int) < (nd : Int) := by omega
      have kk0 : (0 : Int) ≤ (k : Int) := by omega
      have r0 : wr.cell? ⟨g1, 0, none⟩ = some (.slice (some ⟨g, 0, none⟩) nd nd) := d1.cell 0 (by omega)
      obtain ⟨cv, hcv⟩ : ∃ cv, cv = mkC (g + 2) ns k (k * 2) := ⟨_, rfl⟩
      have r1 := d0.cell (k * 2) (by omega)
      rw [← hcv] at r1
      have f1 := d0.frozen (k * 2) (by omega)
      clear hcv
      obtain ⟨ob, hob⟩ : ∃ ob : Obj, ob = .cells (tabA (ns * 65) fun j => if j % 65 = 64 then Value.bool false else Value.int .u8 0) 78 := ⟨_, rfl⟩
      rw [← hob] at m2
      have HOB := Lib.hid hob
      clear hob
      have hEa := (Ext.refl wr).alloc ob
      have s0 := hEa.cellv r0
      have s1 := hEa.cellv r1
      have s2 := (d0.ext hEa).frozen (k * 2) (by omega)
      go_wp2
      go_region
      go_wp2
      go_roundw
      case rel =>
        have hnew : CellsAt (wr.alloc ob) (g + 2 + k) (65 * ns) zeC := by
          rw [HOB.out]
          refine ⟨78, (tabA (ns * 65) fun j => if j % 65 = 64 then Value.bool false else Value.int .u8 0), by rw [tabA_size]; omega, ?_, fun j hj => by rw [tabA_at (ns * 65) _ j (by omega)]; rfl⟩
          have := (Blk.new wr 78 (tabA (ns * 65) fun j => if j % 65 = 64 then Value.bool false else Value.int .u8 0)).m
          rwa [HZ.out] at this
        have hzz := HZ.out
        have hgg := HG.out
        have hg1g := HG1.out
        refine ⟨k + 1, by omega, by go_num, Ext.drew ((hE.trans hEa).setCell (by show w.heap.size ≤ g; omega) _), ?_, ?_, ?_, ?_⟩
        · simp; omega
        · exact ((d1.ext hEa).far (p := ⟨g, k * 2, none⟩) (by show g1 ≠ g; omega) _).drew
        · refine ((d0.ext hEa).set_ (k * 2) _ (fun j hj => ?_)).drew
          unfold mkC
          by_cases e : j = k * 2
          · subst e
            rw [if_pos (by omega), if_pos (by omega), if_pos rfl, HZ.out]
            congr 4; omega
          · rw [if_neg e]
            by_cases e2 : j % 2 = 0
            · rw [if_pos e2, if_pos e2]
              by_cases e3 : j / 2 < k
              · rw [if_pos e3, if_pos (by omega)]
              · rw [if_neg e3, if_neg (by omega)]
            · rw [if_neg e2, if_neg e2]
        · intro e he
          by_cases e2 : e = k
          · subst e2; exact (hnew.far (p := ⟨g, e * 2, none⟩) (by show g + 2 + e ≠ g; omega) _).drew
          · exact (((DS.out e (by omega)).ext hEa).far (p := ⟨g, k * 2, none⟩) (by show g + 2 + e ≠ g; omega) _).drew
      case measure => simp [intOf]; omega
    · obtain rfl : nd = k := by omega
      go_wp2
      go_ret2
      refine ⟨⟨g1, g, fun e => g + 2 + e, nd, ns⟩, rfl, rfl, rfl, ⟨d1, d0.congr (fun j hj => ?_), fun e he => DS.out e he, ⟨a1, a2, b1, b2, ?_, ?_, ?_, ?_, fun _ _ _ => by show (0 : Nat) < 256; omega⟩⟩, ?_, hE⟩
      · unfold mkC drC
        by_cases e : j % 2 = 0
        · rw [if_pos e, if_pos e, if_pos (by omega)]
        · rw [if_neg e, if_neg e]; rfl
      · have := HG1.out; show g1 ≠ g; omega
      · intro d hd; have := HG1.out; show g1 ≠ g + 2 + d; omega
      · intro d hd; show g ≠ g + 2 + d; omega
      · intro d e _ _ h; have h' : g + 2 + d = g + 2 + e := h; omega
      · have q1 := HG.out
        have q2 := HG1.out
        rintro x (h | h | ⟨d, hd, h⟩)
        · have h' : x = g1 := h; omega
        · have h' : x = g := h; omega
        · have h' : x = g + 2 + d := h; omega
