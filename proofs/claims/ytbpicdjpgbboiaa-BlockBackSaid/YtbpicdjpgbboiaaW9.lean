import Derived.Test.YtbpicdjpgbboiaaW8
namespace Go.Proofs.Ytbpicdjpgbboiaa
open Go.RowKit Go.Nb
def textP (g most : Nat) (l : Bs) (w : World) (e : Ending) (w' : World) : Prop := e = .returned (.string (Bt (rdText most l).1)) ∧ RdrAt w' g (rdText most l).2.1 (rdText most l).2.2 ∧ Turn (· = g) w w'
theorem BoxAt.new9 (w : World) (v : Value) : BoxAt (w.alloc (.cells #[v] 9)) 9 w.heap.size v := BoxAt.new w 9 v
set_option maxRecDepth 100000 in
theorem text_any {w : World} {g most : Nat} {l : Bs} (h : RdrAt w g l 0) (hl : l.length ≤ 1048576) (hmo : most ≤ 65536) : Calls Try.prog 24 #[.pointer (some ⟨g, 0, none⟩), .int .i64 most] w (textP g most l w) := by
  have hO := ((Ext.refl w).alloc (.cells #[.int .i64 most] 3)).alloc (.cells #[.string ⟨#[]⟩] 9)
  have hbm : BoxAt ((w.alloc (.cells #[.int .i64 most] 3)).alloc (.cells #[.string ⟨#[]⟩] 9)) 3 w.heap.size (.int .i64 most) := (BoxAt.new w 3 _).ext ((Ext.refl _).alloc _)
  have hbx := BoxAt.new (w.alloc (.cells #[.int .i64 (most : Int)] 3)) 9 (.string ⟨#[]⟩)
  rw [show (w.alloc (.cells #[.int .i64 (most : Int)] 3)).heap.size = w.heap.size + 1 by simp] at hbx
  obtain ⟨bm, hbmm⟩ : ∃ b, b = w.heap.size := ⟨_, rfl⟩
  obtain ⟨bx, hbxx⟩ : ∃ b, b = w.heap.size + 1 := ⟨_, rfl⟩
  have HBX := Lib.hid hbxx
  have h2 := h.ext hO
  have hgl := CellsT.lt h
  have HT : ∀ w', w' = ((w.alloc (.cells #[.int .i64 most] 3)).alloc (.cells #[.string ⟨#[]⟩] 9)) → Calls Try.prog 40 #[.pointer (some ⟨g, 0, none⟩), .func (.func 43) #[] #[.pointer (some ⟨w.heap.size, 0, none⟩), .pointer (some ⟨w.heap.size + 1, 0, none⟩)]] w' (TakePost (RTx w' bx most l) g l) := by
    rintro w' rfl
    refine take_any _ h2 43 _ e43 (fun w3 hE3 => ?_)
    have := text1_any (h2.ext hE3) hl hmo (hbx.ext hE3) (hbm.ext hE3).cell
    refine this.mono ?_
    rintro e w4 ⟨n, k, he, hr, hn, h5, h6, h7, h8⟩
    rw [hbxx]
    exact ⟨n, k, he, hr, hn, h5, h6, h7, (Turn.of hE3).trans h8⟩
  have HT2 := Lib.hid (HT _ rfl)
  have hgx : bx ≠ g := by omega
  have hL := txL_is most l
  have hEE := txE_is most l
  obtain ⟨E, hE⟩ : ∃ E, E = txE most l := ⟨_, rfl⟩
  rw [← hE] at hL hEE
  have hfin : ∀ w1 w2 n k v, RTx ((w.alloc (.cells #[.int .i64 most] 3)).alloc (.cells #[.string ⟨#[]⟩] 9)) bx most l n k w1 → OnlyB g w1 w2 → RdrAt w2 g (if k = 0 then l.drop n else l) k →
      RdrAt (w2.setCell ⟨w.heap.size + 1, 0, none⟩ v) g (rdText most l).2.1 (rdText most l).2.2 ∧ Turn (· = g) w (w2.setCell ⟨w.heap.size + 1, 0, none⟩ v) := fun w1 w2 n k v hr ho hR => by
    obtain ⟨hk, hn, _, ht⟩ := hr
    rw [← hE] at hk
    subst hk
    have t1 : Turn (fun b => b = bx ∨ b = g) w w2 := ((Turn.of hO).trans (ht.mono (fun b hb => .inl hb))).trans (Turn.only (H := fun b => b = bx ∨ b = g) (g := g) (.inr rfl) ho)
    have t2 : Turn (fun b => b = bx ∨ b = g) w (w2.setCell ⟨w.heap.size + 1, 0, none⟩ v) := t1.trans (Turn.set_ (H := fun b => b = bx ∨ b = g) (a := ⟨w.heap.size + 1, 0, none⟩) (.inl hbxx.symm) _)
    refine ⟨?_, t2.old (fun b hb hh => by
      rcases hh with h1 | h1
      · omega
      · exact h1)⟩
    have e1 : (if k = 0 then l.drop n else l) = (rdText most l).2.1 := by rw [hL, hn]
    rw [hEE, ← e1]
    exact CellsT.far (p := ⟨w.heap.size + 1, 0, none⟩) hR (by show g ≠ w.heap.size + 1; omega) _
  have HFIN := Lib.hid hfin
  clear HT hbm hbx hfin hL hEE hE
  go_enter Try.func24, Try.ntmps24
  go_wp2_with (go_at_call 40; (with_reducible refine HT2.out.mono ?_); rintro e w2 ⟨n, k, w1, hr, rfl, hR, hO2⟩; have hX2 := BoxAt.only hr.2.2.1 hO2 hgx; rw [HBX.out] at hX2; have cx := hX2.cell; have fx := hX2.frozen)
  refine bodyPost_ret (v := .string (Bt (rdText most l).1)) ?_ rfl ⟨rfl, HFIN.out _ _ _ _ _ hr hO2 hR⟩
  rw [results_cell1 rfl]
  go_simp
theorem num_err {w : World} {g most : Nat} {l : Bs} {e : Int} (h : RdrAt w g l e) (he : e ≠ 0) : Calls Try.prog 23 #[.pointer (some ⟨g, 0, none⟩), .int .u64 most] w fun x w' => x = .returned (.int .u64 0) ∧ Turn (fun _ => False) w w' := by
  have hO := ((Ext.refl w).alloc (.cells #[.int .u64 most] 48)).alloc (.cells #[.int .u64 0] 48)
  have hbx := BoxAt.new (w.alloc (.cells #[.int .u64 (most : Int)] 48)) 48 (.int .u64 0)
  rw [show (w.alloc (.cells #[.int .u64 (most : Int)] 48)).heap.size = w.heap.size + 1 by simp] at hbx
  have HT2 := Lib.hid (fun v => take_err (h.ext hO) he v)
  have hfin : ∀ w2 v, Ext ((w.alloc (.cells #[.int .u64 most] 48)).alloc (.cells #[.int .u64 0] 48)) w2 → Turn (fun _ => False) w (w2.setCell ⟨w.heap.size + 1, 0, none⟩ v) := fun w2 v hE => by
    have t2 : Turn (fun b => b = w.heap.size + 1) w (w2.setCell ⟨w.heap.size + 1, 0, none⟩ v) := (Turn.of (hO.trans hE)).trans (Turn.set_ (H := fun b => b = w.heap.size + 1) (a := ⟨w.heap.size + 1, 0, none⟩) rfl _)
    exact t2.old (fun b hb hh => by omega)
  have HFIN := Lib.hid hfin
  clear hfin
  go_enter Try.func23, Try.ntmps23
  go_wp2_with (go_at_call 40; (with_reducible refine (HT2.out _).mono ?_); rintro e1 w2 ⟨rfl, hE2⟩; have hX2 := hbx.ext hE2; have cx := hX2.cell; have fx := hX2.frozen)
  refine bodyPost_ret (v := .int .u64 0) ?_ rfl ⟨rfl, HFIN.out _ _ hE2⟩
  rw [results_cell1 rfl]
  go_simp
theorem text_err {w : World} {g most : Nat} {l : Bs} {e : Int} (h : RdrAt w g l e) (he : e ≠ 0) : Calls Try.prog 24 #[.pointer (some ⟨g, 0, none⟩), .int .i64 most] w fun x w' => x = .returned (.string ⟨#[]⟩) ∧ Turn (fun _ => False) w w' := by
  have hO := ((Ext.refl w).alloc (.cells #[.int .i64 most] 3)).alloc (.cells #[.string ⟨#[]⟩] 9)
  have hbx := BoxAt.new (w.alloc (.cells #[.int .i64 (most : Int)] 3)) 9 (.string ⟨#[]⟩)
  rw [show (w.alloc (.cells #[.int .i64 (most : Int)] 3)).heap.size = w.heap.size + 1 by simp] at hbx
  have HT2 := Lib.hid (fun v => take_err (h.ext hO) he v)
  have hfin : ∀ w2 v, Ext ((w.alloc (.cells #[.int .i64 most] 3)).alloc (.cells #[.string ⟨#[]⟩] 9)) w2 → Turn (fun _ => False) w (w2.setCell ⟨w.heap.size + 1, 0, none⟩ v) := fun w2 v hE => by
    have t2 : Turn (fun b => b = w.heap.size + 1) w (w2.setCell ⟨w.heap.size + 1, 0, none⟩ v) := (Turn.of (hO.trans hE)).trans (Turn.set_ (H := fun b => b = w.heap.size + 1) (a := ⟨w.heap.size + 1, 0, none⟩) rfl _)
    exact t2.old (fun b hb hh => by omega)
  have HFIN := Lib.hid hfin
  clear hfin
  go_enter Try.func24, Try.ntmps24
  go_wp2_with (go_at_call 40; (with_reducible refine (HT2.out _).mono ?_); rintro e1 w2 ⟨rfl, hE2⟩; have hX2 := hbx.ext hE2; have cx := hX2.cell; have fx := hX2.frozen)
  refine bodyPost_ret (v := .string ⟨#[]⟩) ?_ rfl ⟨rfl, HFIN.out _ _ hE2⟩
  rw [results_cell1 rfl]
  go_simp
/-- A reader goes on as it was where an error lies in it. -/
def numS (most : Nat) (l : Bs) (e : Int) : Nat × Bs × Int := if e = 0 then rdNum most l else (0, l, e)
def textS (most : Nat) (l : Bs) (e : Int) : Bs × Bs × Int := if e = 0 then rdText most l else ([], l, e)
theorem num_all {w : World} {g most : Nat} {l : Bs} {e : Int} (h : RdrAt w g l e) (hl : l.length ≤ 1048576) : Calls Try.prog 23 #[.pointer (some ⟨g, 0, none⟩), .int .u64 most] w fun x w' => x = .returned (.int .u64 (numS most l e).1) ∧ RdrAt w' g (numS most l e).2.1 (numS most l e).2.2 ∧ Turn (· = g) w w' := by
  by_cases he : e = 0
  · subst he
    exact num_any h hl
  · refine (num_err h he).mono ?_
    rintro x w' ⟨rfl, ht⟩
    rw [numS, if_neg he]
    exact ⟨rfl, ht.cellsT h (by simp), ht.mono (fun _ hf => hf.elim)⟩
theorem text_all {w : World} {g most : Nat} {l : Bs} {e : Int} (h : RdrAt w g l e) (hl : l.length ≤ 1048576) (hmo : most ≤ 65536) : Calls Try.prog 24 #[.pointer (some ⟨g, 0, none⟩), .int .i64 most] w fun x w' => x = .returned (.string (Bt (textS most l e).1)) ∧ RdrAt w' g (textS most l e).2.1 (textS most l e).2.2 ∧ Turn (· = g) w w' := by
  by_cases he : e = 0
  · subst he
    exact text_any h hl hmo
  · refine (text_err h he).mono ?_
    rintro x w' ⟨rfl, ht⟩
    rw [textS, if_neg he]
    exact ⟨rfl, ht.cellsT h (by simp), ht.mono (fun _ hf => hf.elim)⟩
