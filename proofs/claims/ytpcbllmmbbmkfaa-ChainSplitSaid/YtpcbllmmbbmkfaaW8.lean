import Derived.Test.YtpcbllmmbbmkfaaW6
import Derived.Test.YtpcbllmmbbmkfaaE9
namespace Go.Proofs.Ytpcbllmmbbmkfaa
open Go.RowKit Go.Nb
/-- The reader behind a number that is read. -/
def numP (g most : Nat) (l : Bs) (w : World) (e : Ending) (w' : World) : Prop := e = .returned (.int .u64 (rdNum most l).1) ∧ RdrAt w' g (rdNum most l).2.1 (rdNum most l).2.2 ∧ Turn (· = g) w w'
set_option maxRecDepth 100000 in
theorem num_any {w : World} {g most : Nat} {l : Bs} (h : RdrAt w g l 0) (hl : l.length ≤ 1048576) : Calls Try.prog 40 #[.pointer (some ⟨g, 0, none⟩), .int .u64 most] w (numP g most l w) := by
  have hO := ((Ext.refl w).alloc (.cells #[.int .u64 most] 37)).alloc (.cells #[.int .u64 0] 37)
  have hbm : BoxAt ((w.alloc (.cells #[.int .u64 most] 37)).alloc (.cells #[.int .u64 0] 37)) 37 w.heap.size (.int .u64 most) := (BoxAt.new w 37 _).ext ((Ext.refl _).alloc _)
  have hbx := BoxAt.new (w.alloc (.cells #[.int .u64 (most : Int)] 37)) 37 (.int .u64 0)
  rw [show (w.alloc (.cells #[.int .u64 (most : Int)] 37)).heap.size = w.heap.size + 1 by simp] at hbx
  obtain ⟨bm, hbmm⟩ : ∃ b, b = w.heap.size := ⟨_, rfl⟩
  obtain ⟨bx, hbxx⟩ : ∃ b, b = w.heap.size + 1 := ⟨_, rfl⟩
  have HBX := Lib.hid hbxx
  have h2 := h.ext hO
  have hgl := CellsT.lt h
  have HT : ∀ w', w' = ((w.alloc (.cells #[.int .u64 most] 37)).alloc (.cells #[.int .u64 0] 37)) → Calls Try.prog 54 #[.pointer (some ⟨g, 0, none⟩), .func (.func 55) #[] #[.pointer (some ⟨w.heap.size + 1, 0, none⟩), .pointer (some ⟨w.heap.size, 0, none⟩)]] w' (TakePost (RNum w' bx most l) g l) := by
    rintro w' rfl
    refine take_any _ h2 55 _ e41 (fun w3 hE3 => ?_)
    have := num1_any (h2.ext hE3) hl (hbx.ext hE3) (hbm.ext hE3).cell (by omega)
    refine this.mono ?_
    rintro e w4 ⟨n, k, he, hr, hn, h5, h6, h7, h8⟩
    rw [hbxx]
    exact ⟨n, k, he, hr, hn, h5, h6, h7, (Turn.of hE3).trans h8⟩
  have HT2 := Lib.hid (HT _ rfl)
  have hgx : bx ≠ g := by omega
  have hV := numV_is most l
  have hL := numL_is most l
  have hEE := numE_is most l
  obtain ⟨E, hE⟩ : ∃ E, E = numE most l := ⟨_, rfl⟩
  rw [← hE] at hV hL hEE
  have HE := Lib.hid hE
  have hfin : ∀ w1 w2 n v, RNum ((w.alloc (.cells #[.int .u64 most] 37)).alloc (.cells #[.int .u64 0] 37)) bx most l n E w1 → OnlyB g w1 w2 → RdrAt w2 g (if E = 0 then l.drop n else l) E →
      RdrAt (w2.setCell ⟨w.heap.size + 1, 0, none⟩ v) g (rdNum most l).2.1 (rdNum most l).2.2 ∧ Turn (· = g) w (w2.setCell ⟨w.heap.size + 1, 0, none⟩ v) := fun w1 w2 n v hr ho hR => by
    obtain ⟨_, hn, _, ht⟩ := hr
    have t1 : Turn (fun b => b = bx ∨ b = g) w w2 := ((Turn.of hO).trans (ht.mono (fun b hb => .inl hb))).trans (Turn.only (H := fun b => b = bx ∨ b = g) (g := g) (.inr rfl) ho)
    have t2 : Turn (fun b => b = bx ∨ b = g) w (w2.setCell ⟨w.heap.size + 1, 0, none⟩ v) := t1.trans (Turn.set_ (H := fun b => b = bx ∨ b = g) (a := ⟨w.heap.size + 1, 0, none⟩) (.inl hbxx.symm) _)
    refine ⟨?_, t2.old (fun b hb hh => by
      rcases hh with h1 | h1
      · omega
      · exact h1)⟩
    have e1 : (if E = 0 then l.drop n else l) = (rdNum most l).2.1 := by rw [hL, hn]
    rw [hEE, ← e1]
    exact CellsT.far (p := ⟨w.heap.size + 1, 0, none⟩) hR (by show g ≠ w.heap.size + 1; omega) _
  have HFIN := Lib.hid hfin
  clear HT hbm hbx hfin
  by_cases hE0 : E = 0
  · have t0 : (E == 0) = true := by simpa using hE0
    have hV2 : (rdNum most l).1 = (readL l).1 := by rw [hV, if_pos hE0]
    have hL2 : (rdNum most l).2.1 = l.drop (readL l).2.1 := by rw [hL, if_pos hE0]
    have HV2 := Lib.hid hV2
    have HL2 := Lib.hid hL2
    have HEE := Lib.hid hEE
    have HE0 := Lib.hid hE0
    clear hV hL hEE hV2 hL2 hE hE0
    go_enter Try.func40, Try.ntmps40
    go_wp2_with (go_at_call 54; (with_reducible refine HT2.out.mono ?_); rintro e w2 ⟨n, k, w1, hr, rfl, hR, hO2⟩; have hk : k = E := (hr.1.trans HE.out.symm); subst hk; have hX2 := BoxAt.only hr.2.2.1 hO2 hgx; rw [HBX.out] at hX2; have cx := hX2.cell; have fx := hX2.frozen)
    go_outline
    refine bodyPost_ret (v := .int .u64 (readL l).1) ?_ rfl ⟨by rw [HV2.out], HFIN.out _ _ _ _ hr hO2 hR⟩
    rw [results_cell1 rfl]
    go_simp
  · have t0 : (E == 0) = false := by simpa using hE0
    have hV2 : (rdNum most l).1 = 0 := by rw [hV, if_neg hE0]
    have hL2 : (rdNum most l).2.1 = l := by rw [hL, if_neg hE0]
    have HV2 := Lib.hid hV2
    have HL2 := Lib.hid hL2
    have HEE := Lib.hid hEE
    have HE0 := Lib.hid hE0
    have HGX := Lib.hid hgx
    clear hV hL hEE hV2 hL2 hE hE0
    go_enter Try.func40, Try.ntmps40
    go_wp2_with (go_at_call 54; (with_reducible refine HT2.out.mono ?_); rintro e w2 ⟨n, k, w1, hr, rfl, hR, hO2⟩; have hk : k = E := (hr.1.trans HE.out.symm); subst hk; have hX2 := BoxAt.only hr.2.2.1 hO2 hgx; rw [HBX.out] at hX2; have cx := hX2.cell; have fx := hX2.frozen)
    refine bodyPost_ret (v := .int .u64 0) ?_ rfl ⟨by rw [HV2.out]; rfl, HFIN.out _ _ _ _ hr hO2 hR⟩
    rw [results_cell1 rfl]
    go_simp
