import Derived.Test.YtpcbllmmbbmkfaaW8
namespace Go.Proofs.Ytpcbllmmbbmkfaa
open Go.RowKit Go.Nb
theorem num_err {w : World} {g most : Nat} {l : Bs} {e : Int} (h : RdrAt w g l e) (he : e ≠ 0) : Calls Try.prog 40 #[.pointer (some ⟨g, 0, none⟩), .int .u64 most] w fun x w' => x = .returned (.int .u64 0) ∧ Turn (fun _ => False) w w' := by
  have hO := ((Ext.refl w).alloc (.cells #[.int .u64 most] 37)).alloc (.cells #[.int .u64 0] 37)
  have hbx := BoxAt.new (w.alloc (.cells #[.int .u64 (most : Int)] 37)) 37 (.int .u64 0)
  rw [show (w.alloc (.cells #[.int .u64 (most : Int)] 37)).heap.size = w.heap.size + 1 by simp] at hbx
  have HT2 := Lib.hid (fun v => take_err (h.ext hO) he v)
  have hfin : ∀ w2 v, Ext ((w.alloc (.cells #[.int .u64 most] 37)).alloc (.cells #[.int .u64 0] 37)) w2 → Turn (fun _ => False) w (w2.setCell ⟨w.heap.size + 1, 0, none⟩ v) := fun w2 v hE => by
    have t2 : Turn (fun b => b = w.heap.size + 1) w (w2.setCell ⟨w.heap.size + 1, 0, none⟩ v) := (Turn.of (hO.trans hE)).trans (Turn.set_ (H := fun b => b = w.heap.size + 1) (a := ⟨w.heap.size + 1, 0, none⟩) rfl _)
    exact t2.old (fun b hb hh => by omega)
  have HFIN := Lib.hid hfin
  clear hfin
  go_enter Try.func40, Try.ntmps40
  go_wp2_with (go_at_call 54; (with_reducible refine (HT2.out _).mono ?_); rintro e1 w2 ⟨rfl, hE2⟩; have hX2 := hbx.ext hE2; have cx := hX2.cell; have fx := hX2.frozen)
  refine bodyPost_ret (v := .int .u64 0) ?_ rfl ⟨rfl, HFIN.out _ _ hE2⟩
  rw [results_cell1 rfl]
  go_simp
/-- A reader goes on as it was where an error lies in it. -/
def numS (most : Nat) (l : Bs) (e : Int) : Nat × Bs × Int := if e = 0 then rdNum most l else (0, l, e)
theorem num_all {w : World} {g most : Nat} {l : Bs} {e : Int} (h : RdrAt w g l e) (hl : l.length ≤ 1048576) : Calls Try.prog 40 #[.pointer (some ⟨g, 0, none⟩), .int .u64 most] w fun x w' => x = .returned (.int .u64 (numS most l e).1) ∧ RdrAt w' g (numS most l e).2.1 (numS most l e).2.2 ∧ Turn (· = g) w w' := by
  by_cases he : e = 0
  · subst he
    exact num_any h hl
  · refine (num_err h he).mono ?_
    rintro x w' ⟨rfl, ht⟩
    rw [numS, if_neg he]
    exact ⟨rfl, ht.cellsT h (by simp), ht.mono (fun _ hf => hf.elim)⟩