import Derived.Test.YtbpicdjpgbboiaaW7
namespace Go.Proofs.Ytbpicdjpgbboiaa
open Go.RowKit Go.Nb
theorem rdr_box9 {w : World} {g b : Nat} {l : Bs} {e : Int} {v : Value} (h : RdrAt w g l e) (hb : BoxAt w 9 b v) : g ≠ b :=
  CellsT.ne (t := 66) (t' := 9) h hb (by decide)
def RTx (w : World) (bt most : Nat) (l : Bs) (n : Nat) (k : Int) (w' : World) : Prop := k = txE most l ∧ n = txN most l + txC most l ∧ BoxAt w' 9 bt (.string (Bt (rdText most l).1)) ∧ Turn (· = bt) w w'
set_option maxRecDepth 100000 in
theorem text1_any {w : World} {g bt bm most : Nat} {l : Bs} {tv : Value} (h : RdrAt w g l 0) (hl : l.length ≤ 1048576) (hmo : most ≤ 65536) (hx : BoxAt w 9 bt tv) (hm : w.cell? ⟨bm, 0, none⟩ = some (.int .i64 most)) :
    Calls Try.prog 43 #[.string (Bt l), .pointer (some ⟨bm, 0, none⟩), .pointer (some ⟨bt, 0, none⟩)] w (Finds (RTx w bt most l) g l) := by
  have HR := counted_any hl hmo w
  have hle := tx_le most l
  have hT := txT_is most l
  obtain ⟨c, hcc⟩ : ∃ x, x = txC most l := ⟨_, rfl⟩
  obtain ⟨n, hnn⟩ : ∃ x, x = txN most l := ⟨_, rfl⟩
  obtain ⟨e, hee⟩ : ∃ x, x = txE most l := ⟨_, rfl⟩
  rw [← hnn, ← hcc, ← hee] at HR
  rw [← hnn, ← hcc] at hT
  have hP : ∀ w1 w', Ext w w1 → w' = w1.setCell ⟨bt, 0, none⟩ (.string ((Bt l).extract n (n + c))) → Finds (RTx w bt most l) g l (.returned (.tuple #[.int .i64 ((n : Int) + c), .int .i64 e])) w' := fun w1 w' hE hw => by
    subst hw
    have e1 : (Bt l).extract n (n + c) = Bt (rdText most l).1 := by rw [Bt_extract, hT, List.drop_take, Nat.add_sub_cancel_left]
    rw [e1]
    refine ⟨n + c, e, by rw [Int.natCast_add], ?_, by omega, hee, by rw [hnn, hcc], (hx.ext hE).set_ _, (Turn.of hE).trans (Turn.set_ (H := (· = bt)) (a := ⟨bt, 0, none⟩) rfl _)⟩
    exact CellsT.far (p := ⟨bt, 0, none⟩) (h.ext hE) (rdr_box9 h hx) _
  have HP := Lib.hid hP
  have HR2 := Lib.hid HR
  have hz : (n : Int) + (c : Int) ≤ ((Bt l).size : Int) := by show (n : Int) + c ≤ (l.length : Int); omega
  have hz2 : n + c ≤ (Bt l).size := by show n + c ≤ l.length; omega
  have hz3 : ((Bt l).size : Int) ≤ 1048576 := by show (l.length : Int) ≤ _; omega
  clear hP HR hcc hnn hee hT hle
  go_enter Try.func43, Try.ntmps43
  go_wp2_with (go_at_call 44; (with_reducible refine HR2.out.mono ?_); rintro e1 w1 ⟨rfl, hE⟩; have cx := (hx.ext hE).cell; have fx := (hx.ext hE).frozen)
  go_ret2
  exact HP.out w1 _ hE rfl
theorem results_cell1 {fn : Func} {p : Tmp} {ty : TypeId} (h : fn.results = #[.cell p ty]) (tmps : Array Value) (P : Program) (w : World) :
    (results fn tmps).run P w = ((asAddr (tmps.getD p undef)).run P w).andThen fun a w₁ => (loadVar ty a).run P w₁ := by
  simp only [results, h]
  simp [Sem.run_bind, Result.andThen]
/-- The reader behind a number that is read. -/
def numP (g most : Nat) (l : Bs) (w : World) (e : Ending) (w' : World) : Prop := e = .returned (.int .u64 (rdNum most l).1) ∧ RdrAt w' g (rdNum most l).2.1 (rdNum most l).2.2 ∧ Turn (· = g) w w'
set_option maxRecDepth 100000 in
theorem num_any {w : World} {g most : Nat} {l : Bs} (h : RdrAt w g l 0) (hl : l.length ≤ 1048576) : Calls Try.prog 23 #[.pointer (some ⟨g, 0, none⟩), .int .u64 most] w (numP g most l w) := by
  have hO := ((Ext.refl w).alloc (.cells #[.int .u64 most] 48)).alloc (.cells #[.int .u64 0] 48)
  have hbm : BoxAt ((w.alloc (.cells #[.int .u64 most] 48)).alloc (.cells #[.int .u64 0] 48)) 48 w.heap.size (.int .u64 most) := (BoxAt.new w 48 _).ext ((Ext.refl _).alloc _)
  have hbx := BoxAt.new (w.alloc (.cells #[.int .u64 (most : Int)] 48)) 48 (.int .u64 0)
  rw [show (w.alloc (.cells #[.int .u64 (most : Int)] 48)).heap.size = w.heap.size + 1 by simp] at hbx
  obtain ⟨bm, hbmm⟩ : ∃ b, b = w.heap.size := ⟨_, rfl⟩
  obtain ⟨bx, hbxx⟩ : ∃ b, b = w.heap.size + 1 := ⟨_, rfl⟩
  have HBX := Lib.hid hbxx
  have h2 := h.ext hO
  have hgl := CellsT.lt h
  have HT : ∀ w', w' = ((w.alloc (.cells #[.int .u64 most] 48)).alloc (.cells #[.int .u64 0] 48)) → Calls Try.prog 40 #[.pointer (some ⟨g, 0, none⟩), .func (.func 41) #[] #[.pointer (some ⟨w.heap.size + 1, 0, none⟩), .pointer (some ⟨w.heap.size, 0, none⟩)]] w' (TakePost (RNum w' bx most l) g l) := by
    rintro w' rfl
    refine take_any _ h2 41 _ e41 (fun w3 hE3 => ?_)
    have := num1_any (h2.ext hE3) hl (hbx.ext hE3) (hbm.ext hE3).cell (by omega)
    refine this.mono ?_
    rintro e w4 ⟨n, k, he, hr, hn, h5, h6, h7, h8⟩
    rw [hbxx]
    exact ⟨n, k, he, hr, hn, h5, h6, h7, (Turn.of hE3).trans h8⟩
  have HT2 := Lib.hid (HT _ rfl)
  have hgx : bx ≠ g := by omega
  have hV := numV_is most l
  have hL := numL_is most l
  have hEE := numE_is most l
  obtain ⟨E, hE⟩ : ∃ E, E = numE most l := ⟨_, rfl⟩
  rw [← hE] at hV hL hEE
  have HE := Lib.hid hE
  have hfin : ∀ w1 w2 n v, RNum ((w.alloc (.cells #[.int .u64 most] 48)).alloc (.cells #[.int .u64 0] 48)) bx most l n E w1 → OnlyB g w1 w2 → RdrAt w2 g (if E = 0 then l.drop n else l) E →
      RdrAt (w2.setCell ⟨w.heap.size + 1, 0, none⟩ v) g (rdNum most l).2.1 (rdNum most l).2.2 ∧ Turn (· = g) w (w2.setCell ⟨w.heap.size + 1, 0, none⟩ v) := fun w1 w2 n v hr ho hR => by
    obtain ⟨_, hn, _, ht⟩ := hr
    have t1 : Turn (fun b => b = bx ∨ b = g) w w2 := ((Turn.of hO).trans (ht.mono (fun b hb => .inl hb))).trans (Turn.only (H := fun b => b = bx ∨ b = g) (g := g) (.inr rfl) ho)
    have t2 : Turn (fun b => b = bx ∨ b = g) w (w2.setCell ⟨w.heap.size + 1, 0, none⟩ v) := t1.trans (Turn.set_ (H := fun b => b = bx ∨ b = g) (a := ⟨w.heap.size + 1, 0, none⟩) (.inl hbxx.symm) _)
    refine ⟨?_, t2.old (fun b hb hh => by
      rcases hh with h1 | h1
      · omega
      · exact h1)⟩
    have e1 : (if E = 0 then l.drop n else l) = (rdNum most l).2.1 := by rw [hL, hn]
    rw [hEE, ← e1]
    exact CellsT.far (p := ⟨w.heap.size + 1, 0, none⟩) hR (by show g ≠ w.heap.size + 1; omega) _
  have HFIN := Lib.hid hfin
  clear HT hbm hbx hfin
  by_cases hE0 : E = 0
  · have t0 : (E == 0) = true := by simpa using hE0
    have hV2 : (rdNum most l).1 = (readL l).1 := by rw [hV, if_pos hE0]
    have hL2 : (rdNum most l).2.1 = l.drop (readL l).2.1 := by rw [hL, if_pos hE0]
    have HV2 := Lib.hid hV2
    have HL2 := Lib.hid hL2
    have HEE := Lib.hid hEE
    have HE0 := Lib.hid hE0
    clear hV hL hEE hV2 hL2 hE hE0
    go_enter Try.func23, Try.ntmps23
    go_wp2_with (go_at_call 40; (with_reducible refine HT2.out.mono ?_); rintro e w2 ⟨n, k, w1, hr, rfl, hR, hO2⟩; have hk : k = E := (hr.1.trans HE.out.symm); subst hk; have hX2 := BoxAt.only hr.2.2.1 hO2 hgx; rw [HBX.out] at hX2; have cx := hX2.cell; have fx := hX2.frozen)
    go_outline
    refine bodyPost_ret (v := .int .u64 (readL l).1) ?_ rfl ⟨by rw [HV2.out], HFIN.out _ _ _ _ hr hO2 hR⟩
    rw [results_cell1 rfl]
    go_simp
  · have t0 : (E == 0) = false := by simpa using hE0
    have hV2 : (rdNum most l).1 = 0 := by rw [hV, if_neg hE0]
    have hL2 : (rdNum most l).2.1 = l := by rw [hL, if_neg hE0]
    have HV2 := Lib.hid hV2
    have HL2 := Lib.hid hL2
    have HEE := Lib.hid hEE
    have HE0 := Lib.hid hE0
    have HGX := Lib.hid hgx
    clear hV hL hEE hV2 hL2 hE hE0
    go_enter Try.func23, Try.ntmps23
    go_wp2_with (go_at_call 40; (with_reducible refine HT2.out.mono ?_); rintro e w2 ⟨n, k, w1, hr, rfl, hR, hO2⟩; have hk : k = E := (hr.1.trans HE.out.symm); subst hk; have hX2 := BoxAt.only hr.2.2.1 hO2 hgx; rw [HBX.out] at hX2; have cx := hX2.cell; have fx := hX2.frozen)
    refine bodyPost_ret (v := .int .u64 0) ?_ rfl ⟨by rw [HV2.out]; rfl, HFIN.out _ _ _ _ hr hO2 hR⟩
    rw [results_cell1 rfl]
    go_simp
