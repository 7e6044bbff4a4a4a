import Derived.Test.YtpengejnjmicnaaV1
import Derived.Lib.Strings
import Derived.Lib.Slices
import Derived.Lib.Walk
import Derived.Lib.Builder
import Derived.Lib.UnsafeStr
import Derived.Laws.Externs
section
namespace Go.Proofs.Ytpengejnjmicnaa
open Go.RowKit Go.Nb
/-- What is wrong with a text that is read. -/
def txE (most : Nat) (l : Bs) : Int := if (readL l).2.2 ≠ 0 then (readL l).2.2 else if most < (readL l).1 then 4 else if l.length - (readL l).2.1 < (readL l).1 then 10 else 0
/-- How many bytes it has, and where it begins. -/
def txC (most : Nat) (l : Bs) : Nat := if txE most l = 0 then (readL l).1 else 0
def txN (most : Nat) (l : Bs) : Nat := if txE most l = 0 then (readL l).2.1 else 0
theorem txE_is (most : Nat) (l : Bs) : (rdText most l).2.2 = txE most l := by
  unfold rdText txE
  split
  · rfl
  · split
    · rfl
    · split <;> rfl
theorem txL_is (most : Nat) (l : Bs) : (rdText most l).2.1 = if txE most l = 0 then l.drop (txN most l + txC most l) else l := by
  unfold rdText txN txC txE
  split
  · rfl
  · split
    · rfl
    · split
      · rfl
      · rfl
theorem txT_is (most : Nat) (l : Bs) : (rdText most l).1 = (l.drop (txN most l)).take (txC most l) := by
  unfold rdText txN txC txE
  split
  · simp
  · split
    · simp
    · split
      · simp
      · simp
theorem tx_le (most : Nat) (l : Bs) : txN most l + txC most l ≤ l.length := by
  have hn := readL_n l
  unfold txN txC txE
  split
  · exact Nat.zero_le _
  · split
    · exact Nat.zero_le _
    · split
      · exact Nat.zero_le _
      · next h =>
        show (readL l).2.1 + (readL l).1 ≤ l.length
        omega
set_option maxRecDepth 100000 in
theorem counted_any {l : Bs} {most : Nat} (hl : l.length ≤ 1048576) (hm : most ≤ 65536) (w : World) :
    Calls Try.prog 75 #[.string (Bt l), .int .i64 most] w fun e w' => e = .returned (.tuple #[.int .i64 (txC most l), .int .i64 (txN most l), .int .i64 (txE most l)]) ∧ Ext w w' := by
  have HR := Lib.hid (read_any (Bt l) hl w)
  have hn := readL_n l
  have hE : txE most l = if (readL l).2.2 ≠ 0 then (readL l).2.2 else if most < (readL l).1 then 4 else if l.length - (readL l).2.1 < (readL l).1 then 10 else 0 := rfl
  have hC : txC most l = if txE most l = 0 then (readL l).1 else 0 := rfl
  have hN : txN most l = if txE most l = 0 then (readL l).2.1 else 0 := rfl
  obtain ⟨x, hxx⟩ : ∃ x, x = (readL l).1 := ⟨_, rfl⟩
  obtain ⟨n, hnn⟩ : ∃ x, x = (readL l).2.1 := ⟨_, rfl⟩
  obtain ⟨e, hee⟩ : ∃ x, x = (readL l).2.2 := ⟨_, rfl⟩
  have HRD : ReadIs (Bt l) w = fun e' w' => e' = .returned (.tuple #[.int .u64 x, .int .i64 n, .int .i64 e]) ∧ Ext w w' := by
    rw [hxx, hnn, hee]; rfl
  have HR2 := HR.out
  rw [HRD] at HR2
  have HR2 := Lib.hid HR2
  rw [← hee, ← hxx, ← hnn] at hE
  rw [← hxx] at hC
  rw [← hnn] at hN
  rw [← hnn] at hn
  clear hxx hnn hee HRD
  have m0 : (0 : Int) ≤ (most : Int) := by omega
  have m1 : (most : Int) ≤ 65536 := by omega
  have m2 : decide ((most : Int) < 0) = false := by simp
  have hw : IntKind.u64.wrap (most : Int) = most := u64_lt (by omega)
  have hz : ((Bt l).size : Int) = (l.length : Int) := rfl
  by_cases he : e = 0
  · have t1 : (e != 0) = false := by simpa using he
    by_cases hb : most < x
    · have t2 : decide (most < x) = true := by simpa using hb
      rw [if_neg (by simpa using he), if_pos hb] at hE
      rw [hE] at hC hN ⊢
      rw [if_neg (by decide)] at hC hN
      rw [hC, hN]
      clear hE hC hN he hb
      go_enter Try.func75, Try.ntmps75
      go_wp2_with (go_at_call 73; (with_reducible refine HR2.out.mono ?_); rintro e1 w1 ⟨rfl, hE⟩)
      go_ret3
      exact ⟨rfl, hE⟩
    · have t2 : decide (most < x) = false := by simpa using hb
      have x0 : (0 : Int) ≤ (x : Int) := by omega
      have x1 : (x : Int) ≤ 65536 := by omega
      have n0 : (0 : Int) ≤ (n : Int) := by omega
      have n1 : (n : Int) ≤ (l.length : Int) := by omega
      have l1 : (l.length : Int) ≤ 1048576 := by omega
      by_cases hs : l.length - n < x
      · have t3 : decide ((l.length : Int) - (n : Int) < (x : Int)) = true := by simp; omega
        rw [if_neg (by simpa using he), if_neg hb, if_pos hs] at hE
        rw [hE] at hC hN ⊢
        rw [if_neg (by decide)] at hC hN
        rw [hC, hN]
        clear hE hC hN he hb hs
        go_enter Try.func75, Try.ntmps75
        go_wp2_with (go_at_call 73; (with_reducible refine HR2.out.mono ?_); rintro e1 w1 ⟨rfl, hE⟩)
        go_ret3
        exact ⟨rfl, hE⟩
      · have t3 : decide ((l.length : Int) - (n : Int) < (x : Int)) = false := by simp; omega
        rw [if_neg (by simpa using he), if_neg hb, if_neg hs] at hE
        rw [hE] at hC hN ⊢
        rw [if_pos rfl] at hC hN
        rw [hC, hN]
        clear hE hC hN he hb hs
        go_enter Try.func75, Try.ntmps75
        go_wp2_with (go_at_call 73; (with_reducible refine HR2.out.mono ?_); rintro e1 w1 ⟨rfl, hE⟩)
        go_ret3
        exact ⟨rfl, hE⟩
  · have t1 : (e != 0) = true := by simpa using he
    rw [if_pos he] at hE
    rw [hE] at hC hN ⊢
    rw [if_neg he] at hC hN
    rw [hC, hN]
    clear hE hC hN he
    go_enter Try.func75, Try.ntmps75
    go_wp2_with (go_at_call 73; (with_reducible refine HR2.out.mono ?_); rintro e1 w1 ⟨rfl, hE⟩)
    go_ret3
    exact ⟨rfl, hE⟩
end Go.Proofs.Ytpengejnjmicnaa
end
section
namespace Go.Proofs.Ytpengejnjmicnaa
open Go.RowKit Go.Nb
theorem rdr_box9 {w : World} {g b : Nat} {l : Bs} {e : Int} {v : Value} (h : RdrAt w g l e) (hb : BoxAt w 9 b v) : g ≠ b :=
  CellsT.ne (t := 96) (t' := 9) h hb (by decide)
def RTx (w : World) (bt most : Nat) (l : Bs) (n : Nat) (k : Int) (w' : World) : Prop := k = txE most l ∧ n = txN most l + txC most l ∧ BoxAt w' 9 bt (.string (Bt (rdText most l).1)) ∧ Turn (· = bt) w w'
set_option maxRecDepth 100000 in
theorem text1_any {w : World} {g bt bm most : Nat} {l : Bs} {tv : Value} (h : RdrAt w g l 0) (hl : l.length ≤ 1048576) (hmo : most ≤ 65536) (hx : BoxAt w 9 bt tv) (hm : w.cell? ⟨bm, 0, none⟩ = some (.int .i64 most)) :
    Calls Try.prog 74 #[.string (Bt l), .pointer (some ⟨bm, 0, none⟩), .pointer (some ⟨bt, 0, none⟩)] w (Finds (RTx w bt most l) g l) := by
  have HR := counted_any hl hmo w
  have hle := tx_le most l
  have hT := txT_is most l
  obtain ⟨c, hcc⟩ : ∃ x, x = txC most l := ⟨_, rfl⟩
  obtain ⟨n, hnn⟩ : ∃ x, x = txN most l := ⟨_, rfl⟩
  obtain ⟨e, hee⟩ : ∃ x, x = txE most l := ⟨_, rfl⟩
  rw [← hnn, ← hcc, ← hee] at HR
  rw [← hnn, ← hcc] at hT
  have hP : ∀ w1 w', Ext w w1 → w' = w1.setCell ⟨bt, 0, none⟩ (.string ((Bt l).extract n (n + c))) → Finds (RTx w bt most l) g l (.returned (.tuple #[.int .i64 ((n : Int) + c), .int .i64 e])) w' := fun w1 w' hE hw => by
    subst hw
    have e1 : (Bt l).extract n (n + c) = Bt (rdText most l).1 := by rw [Bt_extract, hT, List.drop_take, Nat.add_sub_cancel_left]
    rw [e1]
    refine ⟨n + c, e, by rw [Int.natCast_add], ?_, by omega, hee, by rw [hnn, hcc], (hx.ext hE).set_ _, (Turn.of hE).trans (Turn.set_ (H := (· = bt)) (a := ⟨bt, 0, none⟩) rfl _)⟩
    exact CellsT.far (p := ⟨bt, 0, none⟩) (h.ext hE) (rdr_box9 h hx) _
  have HP := Lib.hid hP
  have HR2 := Lib.hid HR
  have hz : (n : Int) + (c : Int) ≤ ((Bt l).size : Int) := by show (n : Int) + c ≤ (l.length : Int); omega
  have hz2 : n + c ≤ (Bt l).size := by show n + c ≤ l.length; omega
  have hz3 : ((Bt l).size : Int) ≤ 1048576 := by show (l.length : Int) ≤ _; omega
  clear hP HR hcc hnn hee hT hle
  go_enter Try.func74, Try.ntmps74
  go_wp2_with (go_at_call 75; (with_reducible refine HR2.out.mono ?_); rintro e1 w1 ⟨rfl, hE⟩; have cx := (hx.ext hE).cell; have fx := (hx.ext hE).frozen)
  go_ret2
  exact HP.out w1 _ hE rfl
theorem results_cell1 {fn : Func} {p : Tmp} {ty : TypeId} (h : fn.results = #[.cell p ty]) (tmps : Array Value) (P : Program) (w : World) :
    (results fn tmps).run P w = ((asAddr (tmps.getD p undef)).run P w).andThen fun a w₁ => (loadVar ty a).run P w₁ := by
  simp only [results, h]
  simp [Sem.run_bind, Result.andThen]
/-- The reader behind a number that is read. -/
def numP (g most : Nat) (l : Bs) (w : World) (e : Ending) (w' : World) : Prop := e = .returned (.int .u64 (rdNum most l).1) ∧ RdrAt w' g (rdNum most l).2.1 (rdNum most l).2.2 ∧ Turn (· = g) w w'
set_option maxRecDepth 100000 in
theorem num_any {w : World} {g most : Nat} {l : Bs} (h : RdrAt w g l 0) (hl : l.length ≤ 1048576) : Calls Try.prog 54 #[.pointer (some ⟨g, 0, none⟩), .int .u64 most] w (numP g most l w) := by
  have hO := ((Ext.refl w).alloc (.cells #[.int .u64 most] 57)).alloc (.cells #[.int .u64 0] 57)
  have hbm : BoxAt ((w.alloc (.cells #[.int .u64 most] 57)).alloc (.cells #[.int .u64 0] 57)) 57 w.heap.size (.int .u64 most) := (BoxAt.new w 57 _).ext ((Ext.refl _).alloc _)
  have hbx := BoxAt.new (w.alloc (.cells #[.int .u64 (most : Int)] 57)) 57 (.int .u64 0)
  rw [show (w.alloc (.cells #[.int .u64 (most : Int)] 57)).heap.size = w.heap.size + 1 by simp] at hbx
  obtain ⟨bm, hbmm⟩ : ∃ b, b = w.heap.size := ⟨_, rfl⟩
  obtain ⟨bx, hbxx⟩ : ∃ b, b = w.heap.size + 1 := ⟨_, rfl⟩
  have HBX := Lib.hid hbxx
  have h2 := h.ext hO
  have hgl := CellsT.lt h
  have HT : ∀ w', w' = ((w.alloc (.cells #[.int .u64 most] 57)).alloc (.cells #[.int .u64 0] 57)) → Calls Try.prog 71 #[.pointer (some ⟨g, 0, none⟩), .func (.func 72) #[] #[.pointer (some ⟨w.heap.size + 1, 0, none⟩), .pointer (some ⟨w.heap.size, 0, none⟩)]] w' (TakePost (RNum w' bx most l) g l) := by
    rintro w' rfl
    refine take_any _ h2 72 _ e41 (fun w3 hE3 => ?_)
    have := num1_any (h2.ext hE3) hl (hbx.ext hE3) (hbm.ext hE3).cell (by omega)
    refine this.mono ?_
    rintro e w4 ⟨n, k, he, hr, hn, h5, h6, h7, h8⟩
    rw [hbxx]
    exact ⟨n, k, he, hr, hn, h5, h6, h7, (Turn.of hE3).trans h8⟩
  have HT2 := Lib.hid (HT _ rfl)
  have hgx : bx ≠ g := by omega
  have hV := numV_is most l
  have hL := numL_is most l
  have hEE := numE_is most l
  obtain ⟨E, hE⟩ : ∃ E, E = numE most l := ⟨_, rfl⟩
  rw [← hE] at hV hL hEE
  have HE := Lib.hid hE
  have hfin : ∀ w1 w2 n v, RNum ((w.alloc (.cells #[.int .u64 most] 57)).alloc (.cells #[.int .u64 0] 57)) bx most l n E w1 → OnlyB g w1 w2 → RdrAt w2 g (if E = 0 then l.drop n else l) E →
      RdrAt (w2.setCell ⟨w.heap.size + 1, 0, none⟩ v) g (rdNum most l).2.1 (rdNum most l).2.2 ∧ Turn (· = g) w (w2.setCell ⟨w.heap.size + 1, 0, none⟩ v) := fun w1 w2 n v hr ho hR => by
    obtain ⟨_, hn, _, ht⟩ := hr
    have t1 : Turn (fun b => b = bx ∨ b = g) w w2 := ((Turn.of hO).trans (ht.mono (fun b hb => .inl hb))).trans (Turn.only (H := fun b => b = bx ∨ b = g) (g := g) (.inr rfl) ho)
    have t2 : Turn (fun b => b = bx ∨ b = g) w (w2.setCell ⟨w.heap.size + 1, 0, none⟩ v) := t1.trans (Turn.set_ (H := fun b => b = bx ∨ b = g) (a := ⟨w.heap.size + 1, 0, none⟩) (.inl hbxx.symm) _)
    refine ⟨?_, t2.old (fun b hb hh => by
      rcases hh with h1 | h1
      · omega
      · exact h1)⟩
    have e1 : (if E = 0 then l.drop n else l) = (rdNum most l).2.1 := by rw [hL, hn]
    rw [hEE, ← e1]
    exact CellsT.far (p := ⟨w.heap.size + 1, 0, none⟩) hR (by show g ≠ w.heap.size + 1; omega) _
  have HFIN := Lib.hid hfin
  clear HT hbm hbx hfin
  by_cases hE0 : E = 0
  · have t0 : (E == 0) = true := by simpa using hE0
    have hV2 : (rdNum most l).1 = (readL l).1 := by rw [hV, if_pos hE0]
    have hL2 : (rdNum most l).2.1 = l.drop (readL l).2.1 := by rw [hL, if_pos hE0]
    have HV2 := Lib.hid hV2
    have HL2 := Lib.hid hL2
    have HEE := Lib.hid hEE
    have HE0 := Lib.hid hE0
    clear hV hL hEE hV2 hL2 hE hE0
    go_enter Try.func54, Try.ntmps54
    go_wp2_with (go_at_call 71; (with_reducible refine HT2.out.mono ?_); rintro e w2 ⟨n, k, w1, hr, rfl, hR, hO2⟩; have hk : k = E := (hr.1.trans HE.out.symm); subst hk; have hX2 := BoxAt.only hr.2.2.1 hO2 hgx; rw [HBX.out] at hX2; have cx := hX2.cell; have fx := hX2.frozen)
    go_outline
    refine bodyPost_ret (v := .int .u64 (readL l).1) ?_ rfl ⟨by rw [HV2.out], HFIN.out _ _ _ _ hr hO2 hR⟩
    rw [results_cell1 rfl]
    go_simp
  · have t0 : (E == 0) = false := by simpa using hE0
    have hV2 : (rdNum most l).1 = 0 := by rw [hV, if_neg hE0]
    have hL2 : (rdNum most l).2.1 = l := by rw [hL, if_neg hE0]
    have HV2 := Lib.hid hV2
    have HL2 := Lib.hid hL2
    have HEE := Lib.hid hEE
    have HE0 := Lib.hid hE0
    have HGX := Lib.hid hgx
    clear hV hL hEE hV2 hL2 hE hE0
    go_enter Try.func54, Try.ntmps54
    go_wp2_with (go_at_call 71; (with_reducible refine HT2.out.mono ?_); rintro e w2 ⟨n, k, w1, hr, rfl, hR, hO2⟩; have hk : k = E := (hr.1.trans HE.out.symm); subst hk; have hX2 := BoxAt.only hr.2.2.1 hO2 hgx; rw [HBX.out] at hX2; have cx := hX2.cell; have fx := hX2.frozen)
    refine bodyPost_ret (v := .int .u64 0) ?_ rfl ⟨by rw [HV2.out]; rfl, HFIN.out _ _ _ _ hr hO2 hR⟩
    rw [results_cell1 rfl]
    go_simp
end Go.Proofs.Ytpengejnjmicnaa
end
section
namespace Go.Proofs.Ytpengejnjmicnaa
open Go.RowKit Go.Nb
def textP (g most : Nat) (l : Bs) (w : World) (e : Ending) (w' : World) : Prop := e = .returned (.string (Bt (rdText most l).1)) ∧ RdrAt w' g (rdText most l).2.1 (rdText most l).2.2 ∧ Turn (· = g) w w'
theorem BoxAt.new9 (w : World) (v : Value) : BoxAt (w.alloc (.cells #[v] 9)) 9 w.heap.size v := BoxAt.new w 9 v
set_option maxRecDepth 100000 in
theorem text_any {w : World} {g most : Nat} {l : Bs} (h : RdrAt w g l 0) (hl : l.length ≤ 1048576) (hmo : most ≤ 65536) : Calls Try.prog 55 #[.pointer (some ⟨g, 0, none⟩), .int .i64 most] w (textP g most l w) := by
  have hO := ((Ext.refl w).alloc (.cells #[.int .i64 most] 3)).alloc (.cells #[.string ⟨#[]⟩] 9)
  have hbm : BoxAt ((w.alloc (.cells #[.int .i64 most] 3)).alloc (.cells #[.string ⟨#[]⟩] 9)) 3 w.heap.size (.int .i64 most) := (BoxAt.new w 3 _).ext ((Ext.refl _).alloc _)
  have hbx := BoxAt.new (w.alloc (.cells #[.int .i64 (most : Int)] 3)) 9 (.string ⟨#[]⟩)
  rw [show (w.alloc (.cells #[.int .i64 (most : Int)] 3)).heap.size = w.heap.size + 1 by simp] at hbx
  obtain ⟨bm, hbmm⟩ : ∃ b, b = w.heap.size := ⟨_, rfl⟩
  obtain ⟨bx, hbxx⟩ : ∃ b, b = w.heap.size + 1 := ⟨_, rfl⟩
  have HBX := Lib.hid hbxx
  have h2 := h.ext hO
  have hgl := CellsT.lt h
  have HT : ∀ w', w' = ((w.alloc (.cells #[.int .i64 most] 3)).alloc (.cells #[.string ⟨#[]⟩] 9)) → Calls Try.prog 71 #[.pointer (some ⟨g, 0, none⟩), .func (.func 74) #[] #[.pointer (some ⟨w.heap.size, 0, none⟩), .pointer (some ⟨w.heap.size + 1, 0, none⟩)]] w' (TakePost (RTx w' bx most l) g l) := by
    rintro w' rfl
    refine take_any _ h2 74 _ e43 (fun w3 hE3 => ?_)
    have := text1_any (h2.ext hE3) hl hmo (hbx.ext hE3) (hbm.ext hE3).cell
    refine this.mono ?_
    rintro e w4 ⟨n, k, he, hr, hn, h5, h6, h7, h8⟩
    rw [hbxx]
    exact ⟨n, k, he, hr, hn, h5, h6, h7, (Turn.of hE3).trans h8⟩
  have HT2 := Lib.hid (HT _ rfl)
  have hgx : bx ≠ g := by omega
  have hL := txL_is most l
  have hEE := txE_is most l
  obtain ⟨E, hE⟩ : ∃ E, E = txE most l := ⟨_, rfl⟩
  rw [← hE] at hL hEE
  have hfin : ∀ w1 w2 n k v, RTx ((w.alloc (.cells #[.int .i64 most] 3)).alloc (.cells #[.string ⟨#[]⟩] 9)) bx most l n k w1 → OnlyB g w1 w2 → RdrAt w2 g (if k = 0 then l.drop n else l) k →
      RdrAt (w2.setCell ⟨w.heap.size + 1, 0, none⟩ v) g (rdText most l).2.1 (rdText most l).2.2 ∧ Turn (· = g) w (w2.setCell ⟨w.heap.size + 1, 0, none⟩ v) := fun w1 w2 n k v hr ho hR => by
    obtain ⟨hk, hn, _, ht⟩ := hr
    rw [← hE] at hk
    subst hk
    have t1 : Turn (fun b => b = bx ∨ b = g) w w2 := ((Turn.of hO).trans (ht.mono (fun b hb => .inl hb))).trans (Turn.only (H := fun b => b = bx ∨ b = g) (g := g) (.inr rfl) ho)
    have t2 : Turn (fun b => b = bx ∨ b = g) w (w2.setCell ⟨w.heap.size + 1, 0, none⟩ v) := t1.trans (Turn.set_ (H := fun b => b = bx ∨ b = g) (a := ⟨w.heap.size + 1, 0, none⟩) (.inl hbxx.symm) _)
    refine ⟨?_, t2.old (fun b hb hh => by
      rcases hh with h1 | h1
      · omega
      · exact h1)⟩
    have e1 : (if k = 0 then l.drop n else l) = (rdText most l).2.1 := by rw [hL, hn]
    rw [hEE, ← e1]
    exact CellsT.far (p := ⟨w.heap.size + 1, 0, none⟩) hR (by show g ≠ w.heap.size + 1; omega) _
  have HFIN := Lib.hid hfin
  clear HT hbm hbx hfin hL hEE hE
  go_enter Try.func55, Try.ntmps55
  go_wp2_with (go_at_call 71; (with_reducible refine HT2.out.mono ?_); rintro e w2 ⟨n, k, w1, hr, rfl, hR, hO2⟩; have hX2 := BoxAt.only hr.2.2.1 hO2 hgx; rw [HBX.out] at hX2; have cx := hX2.cell; have fx := hX2.frozen)
  refine bodyPost_ret (v := .string (Bt (rdText most l).1)) ?_ rfl ⟨rfl, HFIN.out _ _ _ _ _ hr hO2 hR⟩
  rw [results_cell1 rfl]
  go_simp
theorem num_err {w : World} {g most : Nat} {l : Bs} {e : Int} (h : RdrAt w g l e) (he : e ≠ 0) : Calls Try.prog 54 #[.pointer (some ⟨g, 0, none⟩), .int .u64 most] w fun x w' => x = .returned (.int .u64 0) ∧ Turn (fun _ => False) w w' := by
  have hO := ((Ext.refl w).alloc (.cells #[.int .u64 most] 57)).alloc (.cells #[.int .u64 0] 57)
  have hbx := BoxAt.new (w.alloc (.cells #[.int .u64 (most : Int)] 57)) 57 (.int .u64 0)
  rw [show (w.alloc (.cells #[.int .u64 (most : Int)] 57)).heap.size = w.heap.size + 1 by simp] at hbx
  have HT2 := Lib.hid (fun v => take_err (h.ext hO) he v)
  have hfin : ∀ w2 v, Ext ((w.alloc (.cells #[.int .u64 most] 57)).alloc (.cells #[.int .u64 0] 57)) w2 → Turn (fun _ => False) w (w2.setCell ⟨w.heap.size + 1, 0, none⟩ v) := fun w2 v hE => by
    have t2 : Turn (fun b => b = w.heap.size + 1) w (w2.setCell ⟨w.heap.size + 1, 0, none⟩ v) := (Turn.of (hO.trans hE)).trans (Turn.set_ (H := fun b => b = w.heap.size + 1) (a := ⟨w.heap.size + 1, 0, none⟩) rfl _)
    exact t2.old (fun b hb hh => by omega)
  have HFIN := Lib.hid hfin
  clear hfin
  go_enter Try.func54, Try.ntmps54
  go_wp2_with (go_at_call 71; (with_reducible refine (HT2.out _).mono ?_); rintro e1 w2 ⟨rfl, hE2⟩; have hX2 := hbx.ext hE2; have cx := hX2.cell; have fx := hX2.frozen)
  refine bodyPost_ret (v := .int .u64 0) ?_ rfl ⟨rfl, HFIN.out _ _ hE2⟩
  rw [results_cell1 rfl]
  go_simp
theorem text_err {w : World} {g most : Nat} {l : Bs} {e : Int} (h : RdrAt w g l e) (he : e ≠ 0) : Calls Try.prog 55 #[.pointer (some ⟨g, 0, none⟩), .int .i64 most] w fun x w' => x = .returned (.string ⟨#[]⟩) ∧ Turn (fun _ => False) w w' := by
  have hO := ((Ext.refl w).alloc (.cells #[.int .i64 most] 3)).alloc (.cells #[.string ⟨#[]⟩] 9)
  have hbx := BoxAt.new (w.alloc (.cells #[.int .i64 (most : Int)] 3)) 9 (.string ⟨#[]⟩)
  rw [show (w.alloc (.cells #[.int .i64 (most : Int)] 3)).heap.size = w.heap.size + 1 by simp] at hbx
  have HT2 := Lib.hid (fun v => take_err (h.ext hO) he v)
  have hfin : ∀ w2 v, Ext ((w.alloc (.cells #[.int .i64 most] 3)).alloc (.cells #[.string ⟨#[]⟩] 9)) w2 → Turn (fun _ => False) w (w2.setCell ⟨w.heap.size + 1, 0, none⟩ v) := fun w2 v hE => by
    have t2 : Turn (fun b => b = w.heap.size + 1) w (w2.setCell ⟨w.heap.size + 1, 0, none⟩ v) := (Turn.of (hO.trans hE)).trans (Turn.set_ (H := fun b => b = w.heap.size + 1) (a := ⟨w.heap.size + 1, 0, none⟩) rfl _)
    exact t2.old (fun b hb hh => by omega)
  have HFIN := Lib.hid hfin
  clear hfin
  go_enter Try.func55, Try.ntmps55
  go_wp2_with (go_at_call 71; (with_reducible refine (HT2.out _).mono ?_); rintro e1 w2 ⟨rfl, hE2⟩; have hX2 := hbx.ext hE2; have cx := hX2.cell; have fx := hX2.frozen)
  refine bodyPost_ret (v := .string ⟨#[]⟩) ?_ rfl ⟨rfl, HFIN.out _ _ hE2⟩
  rw [results_cell1 rfl]
  go_simp
/-- A reader goes on as it was where an error lies in it. -/
def numS (most : Nat) (l : Bs) (e : Int) : Nat × Bs × Int := if e = 0 then rdNum most l else (0, l, e)
def textS (most : Nat) (l : Bs) (e : Int) : Bs × Bs × Int := if e = 0 then rdText most l else ([], l, e)
theorem num_all {w : World} {g most : Nat} {l : Bs} {e : Int} (h : RdrAt w g l e) (hl : l.length ≤ 1048576) : Calls Try.prog 54 #[.pointer (some ⟨g, 0, none⟩), .int .u64 most] w fun x w' => x = .returned (.int .u64 (numS most l e).1) ∧ RdrAt w' g (numS most l e).2.1 (numS most l e).2.2 ∧ Turn (· = g) w w' := by
  by_cases he : e = 0
  · subst he
    exact num_any h hl
  · refine (num_err h he).mono ?_
    rintro x w' ⟨rfl, ht⟩
    rw [numS, if_neg he]
    exact ⟨rfl, ht.cellsT h (by simp), ht.mono (fun _ hf => hf.elim)⟩
theorem text_all {w : World} {g most : Nat} {l : Bs} {e : Int} (h : RdrAt w g l e) (hl : l.length ≤ 1048576) (hmo : most ≤ 65536) : Calls Try.prog 55 #[.pointer (some ⟨g, 0, none⟩), .int .i64 most] w fun x w' => x = .returned (.string (Bt (textS most l e).1)) ∧ RdrAt w' g (textS most l e).2.1 (textS most l e).2.2 ∧ Turn (· = g) w w' := by
  by_cases he : e = 0
  · subst he
    exact text_any h hl hmo
  · refine (text_err h he).mono ?_
    rintro x w' ⟨rfl, ht⟩
    rw [textS, if_neg he]
    exact ⟨rfl, ht.cellsT h (by simp), ht.mono (fun _ hf => hf.elim)⟩
end Go.Proofs.Ytpengejnjmicnaa
end
section
namespace Go.Proofs.Ytpengejnjmicnaa
open Go.RowKit Go.Nb
theorem sizeB : (Try.prog.info? 83).map (·.size) = some 2 := by kernel_rfl
theorem liesB : liesAt Try.prog Try.prog.depth 83 (2 / Try.prog.cellsOf 83) 0 83 1 = true := by kernel_rfl
theorem cellsByte : Try.prog.cellsOf 5 = 1 := by kernel_rfl
theorem strCells_Bt (l : Bs) : Lib.strCells (Bt l) = Lib.byteCells l := rfl
set_option maxRecDepth 100000 in
theorem copyCheck_used (b : Nat) (w : World) (h0 : w.cell? ⟨b, 0, none⟩ = some (.pointer (some ⟨b, 0, none⟩))) :
    Calls Try.prog 65 #[.pointer (some ⟨b, 0, none⟩)] w fun e w' => e = .returned (.tuple #[]) ∧ w' = w := by
  obtain ⟨j, hj, _⟩ := Option.map_eq_some_iff.1 sizeB
  go_enter Try.func65, Try.ntmps65
  go_wp2
  rw [Lib.run_neq_ptr_same w _ Try.underlying81 hj]
  go_wp2
  go_end0
  exact ⟨rfl, rfl⟩
set_option maxRecDepth 100000 in
theorem copyCheck_fresh (b : Nat) (w : World) (h0 : w.cell? ⟨b, 0, none⟩ = some (.pointer none)) (hsh : w.shape? b = some (83, 2)) (hfz : w.frozen? ⟨b, 0, none⟩ = false) :
    Calls Try.prog 65 #[.pointer (some ⟨b, 0, none⟩)] w fun e w' => e = .returned (.tuple #[]) ∧ w' = w.setCell ⟨b, 0, none⟩ (.pointer (some ⟨b, 0, none⟩)) := by
  obtain ⟨j, hj, hjs⟩ := Option.map_eq_some_iff.1 sizeB
  go_enter Try.func65, Try.ntmps65
  go_wp2
  rw [Lib.run_to_unsafe w ⟨b, 0, none⟩ Try.underlying81 Try.underlying113 hj (by rw [hjs]; decide) hsh (Nat.zero_lt_succ 1)]
  simp only [Result.andThen]
  rw [Oper.upon_value]
  go_wp2
  rw [run_callFunc_extern Try.func79 (by kernel_rfl) (by kernel_rfl) (by kernel_rfl) (e := Extern.AbiNoEscape.same) (by kernel_rfl)]
  rw [Lib.run_noEscape]
  simp only [Result.andThen]
  rw [Oper.upon_value]
  go_wp2
  rw [Lib.run_from_unsafe w ⟨b, 0, none⟩ Try.underlying113 Try.underlying81 hj hsh liesB]
  simp only [Result.andThen]
  rw [Oper.upon_value]
  go_wp2
  go_end0
  exact ⟨rfl, rfl⟩
/-- From block B on only, and of what is there only block b. -/
theorem copyCheck_any (B b : Nat) (bs : List Value) (w : World) (h : Lib.IsBuilder 83 5 B b bs w) :
    Calls Try.prog 65 #[.pointer (some ⟨b, 0, none⟩)] w fun e w' => e = .returned (.tuple #[]) ∧ Lib.BuilderAt 83 5 B b (.pointer (some ⟨b, 0, none⟩)) bs w' ∧ OnlyB b w w' := by
  rcases h with h | h
  · refine (copyCheck_fresh b w h.cell0 h.shape h.frozen0).mono ?_
    rintro e w' ⟨rfl, rfl⟩
    exact ⟨rfl, h.used _, (OnlyB.refl b w).setCell _ _⟩
  · refine (copyCheck_used b w h.cell0).mono ?_
    rintro e w' ⟨rfl, rfl⟩
    exact ⟨rfl, h, OnlyB.refl b _⟩
set_option maxRecDepth 100000 in
theorem bwrite_any (B b : Nat) (bs t : Bs) (w : World) (h : Lib.IsBuilder 83 5 B b (Lib.byteCells bs) w) (hlen : bs.length + t.length ≤ 1048576) (hBw : B ≤ w.heap.size) :
    Calls Try.prog 46 #[.pointer (some ⟨b, 0, none⟩), .string (Bt t)] w fun e w' => e = .returned (.tuple #[.int .i64 t.length, .nilIface]) ∧ (Lib.BuilderAt 83 5 B b (.pointer (some ⟨b, 0, none⟩)) (Lib.byteCells (bs ++ t)) w' ∧ Below B w w') := by
  have cC := copyCheck_any B b _ w h
  obtain ⟨i0, hi, hz0, hz1, hz2⟩ := info_parts infoByte
  have hsz : (Bt t).size = t.length := rfl
  have hszI : ((Bt t).size : Int) = (t.length : Int) := rfl
  go_enter Try.func46, Try.ntmps46
  go_wp2_with (go_at_call 65; refine cC.mono ?_)
  rintro e w1 ⟨rfl, ⟨hB, v, hbk, hown, hne⟩, hb1⟩
  rw [Lib.byteCells_length] at hown
  have c1 : w1.cell? ⟨b, 1, none⟩ = some v := by rw [Lib.cell_of_heap hbk]; rfl
  have hw1 : B ≤ w1.heap.size := Nat.le_trans hBw hb1.size
  go_wp2_with (at_builtin; refine Lib.wpList_append_own_string _ rfl _ _ 40 9 rfl B 5 i0 Try.underlying40 Try.underlying9 hi hz0 hz1 hz2 _ bs.length _ rfl hown (Bt t) rfl (by rw [hsz]; unfold maxLen; omega) (by rw [hsz]; omega) hw1 ?_)
  intro v' w2 hown' hgrow _
  rw [strCells_Bt, ← Lib.byteCells_append] at hown'
  have hb2 : w2.heap[b]? = some (.cells #[.pointer (some ⟨b, 0, none⟩), v] 83 (0, 0)) := by
    rw [hgrow.block b (Lib.BuilderAt.lt ⟨hB, v, hbk, by rw [Lib.byteCells_length]; exact hown, hne⟩) (fun e => hne e.symm)]
    exact hbk
  have d1 : w2.cell? ⟨b, 1, none⟩ = some v := by rw [Lib.cell_of_heap hb2]; rfl
  have f1 : w2.frozen? ⟨b, 1, none⟩ = false := Lib.frozen_of_heap hb2 1
  obtain ⟨ao, n', cap, rfl⟩ : ∃ ao n' cap, v' = .slice ao n' cap := by
    rcases hown'.2 with ⟨hv, _⟩ | ⟨g, cap, cur, hv, _⟩
    · exact ⟨_, _, _, hv⟩
    · exact ⟨_, _, _, hv⟩
  clear c1
  go_wp2
  go_ret2
  refine ⟨rfl, ?_, ?_⟩
  · exact Lib.BuilderAt.put (T := 83) (e := 5) hB hb2 (bs' := Lib.byteCells (bs ++ t)) (by rw [Lib.byteCells_length, List.length_append]; exact hown') (by decide)
  · refine (Below.grown (row := v.ownBlock) ?_ hgrow (by omega) (fun k hk => (hown.lt k hk).1)).setCell (p := ⟨b, 1, none⟩) hB _
    exact ⟨hb1.os, hb1.tape, hb1.output, hb1.size, fun k hk => hb1.block k (by omega) (by simp; omega)⟩
set_option maxRecDepth 100000 in
theorem bstring_any (B b : Nat) (l : Bs) (w : World) (h : Lib.IsBuilder 83 5 B b (Lib.byteCells l) w) (h0 : l ≠ []) :
    Calls Try.prog 48 #[.pointer (some ⟨b, 0, none⟩)] w fun e w' => e = .returned (.string (Bt l)) ∧ Below B w w' := by
  obtain ⟨p, hB, v, hbk, hown, hne⟩ : ∃ p, Lib.BuilderAt 83 5 B b p (Lib.byteCells l) w := by
    rcases h with h | h
    · exact ⟨_, h⟩
    · exact ⟨_, h⟩
  have hl0 : l.length ≠ 0 := by simpa using h0
  rw [Lib.byteCells_length] at hown
  obtain ⟨g, cap, cur, rfl, hbg, hg, hnc, hcm, hcs, htake⟩ : ∃ g cap cur, v = .slice (some ⟨g, 0, none⟩) l.length cap ∧ B ≤ g ∧ w.heap[g]? = some (.cells cur 5 (0, 0)) ∧ l.length ≤ cap ∧ cap ≤ maxLen ∧ cur.size = cap * 1 ∧ cur.toList.take (l.length * 1) = Lib.byteCells l := by
    rcases hown.2 with ⟨_, hz⟩ | ⟨g, cap, cur, hv, r⟩
    · exact absurd hz hl0
    · exact ⟨g, cap, cur, hv, r⟩
  have c1 : w.drew.cell? ⟨b, 1, none⟩ = some (.slice (some ⟨g, 0, none⟩) l.length cap) := by
    have : w.drew.heap[b]? = some (.cells #[p, .slice (some ⟨g, 0, none⟩) l.length cap] 83 (0, 0)) := hbk
    rw [Lib.cell_of_heap this]; rfl
  have hSD : (Builtin.unsafeSliceData_ #[40] 105 #[.slice (some ⟨g, 0, none⟩) l.length cap]).run Try.prog w.drew = .ok (.pointer (some ⟨g, 0, none⟩)) w.drew :=
    Lib.run_unsafeSliceData_row _ _ _ _ _ _ (by omega)
  have hUS : (Builtin.unsafeString_ #[105, 3] 9 #[.pointer (some ⟨g, 0, none⟩), .int .i64 l.length]).run Try.prog w.drew = .ok (.string (Bt l)) (w.drew.freeze ⟨g, 0, none⟩ l.length) := by
    refine Lib.run_unsafeString_row w.drew 105 3 9 5 Try.underlying105 cellsByte g cur.size (by have hg' : w.drew.heap[g]? = some (.cells cur 5 (0, 0)) := hg; simp [World.shape?, hg']) l h0 (by omega) (by unfold maxLen at hcm; omega) ?_
    intro j x hx
    have := hown.cells (g := g) rfl j (.int .u8 x.toNat) (by simp [Lib.byteCells, hx])
    exact this
  clear hl0 hcs htake hcm hnc
  go_enter Try.func48, Try.ntmps48
  go_wp2
  go_region
  all_goals (go_wp2; go_ret; exact ⟨rfl, Lib.below_freeze (Below.drew (Below.refl B w)) (p := ⟨g, 0, none⟩) hbg _⟩)
end Go.Proofs.Ytpengejnjmicnaa
end
section
namespace Go.Proofs.Ytpengejnjmicnaa
open Go.RowKit Go.Nb
theorem _root_.Go.Lib.BuilderAt.ext {T e : TypeId} {B b : Nat} {p : Value} {bs : List Value} {w w' : World} (h : Lib.BuilderAt T e B b p bs w) (hE : Ext w w') : Lib.BuilderAt T e B b p bs w' := by
  have hl := h.lt
  obtain ⟨hB, v, hb, hown, hne⟩ := h
  exact ⟨hB, v, (hE.block b hl).trans hb, hown.ext hE, hne⟩
theorem _root_.Go.Lib.IsBuilder.ext {T e : TypeId} {B b : Nat} {bs : List Value} {w w' : World} (h : Lib.IsBuilder T e B b bs w) (hE : Ext w w') : Lib.IsBuilder T e B b bs w' := by
  rcases h with h | h
  · exact .inl (h.ext hE)
  · exact .inr (h.ext hE)
theorem zero83 (w : World) : (zeroValue 83).run Try.prog w = .ok (.agg #[.pointer none, .slice none 0 0]) w := by kernel_rfl
/-- Numbers' bytes, one behind the other. -/
def catN (f : Nat → Bs) : Nat → Bs
  | 0 => []
  | k + 1 => catN f k ++ f k
theorem catN_len (f : Nat → Bs) (m : Nat) : ∀ k, (∀ i, i < k → (f i).length ≤ m) → (catN f k).length ≤ k * m
  | 0, _ => by simp [catN]
  | k + 1, h => by
    have := catN_len f m k (fun i hi => h i (by omega))
    have h2 := h k (by omega)
    rw [catN, List.length_append, Nat.succ_mul]; omega
theorem catN_ne (f : Nat → Bs) (n : Nat) (hn : 0 < n) (h : ∀ i, f i ≠ []) : catN f n ≠ [] := by
  obtain ⟨k, rfl⟩ : ∃ k, n = k + 1 := ⟨n - 1, by omega⟩
  rw [catN]
  intro h0
  exact h k (List.append_eq_nil_iff.1 h0).2
theorem catN_mono (f : Nat → Bs) (n : Nat) : ∀ k, k ≤ n → (catN f k).length ≤ (catN f n).length := by
  intro k hk
  obtain ⟨d, rfl⟩ : ∃ d, n = k + d := ⟨n - k, by omega⟩
  clear hk
  induction d with
  | zero => exact Nat.le_refl _
  | succ d ih =>
    rw [← Nat.add_assoc, catN, List.length_append]
    omega
set_option maxRecDepth 100000 in
theorem nums_any {w : World} {ga n c : Nat} {x : Nat → Nat} (h : CellsAt w ga n (fun i => .int .u64 (x i))) (hn : 0 < n) (hn2 : n ≤ 64) (hx : ∀ i, x i < 256 ^ 8) :
    Calls Try.prog 25 #[.slice (some ⟨ga, 0, none⟩) n c] w fun e w' => e = .returned (.string (Bt (catN (fun i => upL (x i)) n))) ∧ Ext w w' := by
  have hub : ∀ i, (upL (x i)).length ≤ 9 := fun i => (upL_len2 _).2
  have hlen : ∀ k, k ≤ n → (catN (fun i => upL (x i)) k).length ≤ 576 := fun k hk => by
    have := catN_len (fun i => upL (x i)) 9 k (fun i _ => hub i)
    omega
  have HLEN := Lib.hid hlen
  have HX := Lib.hid hx
  have HUB := Lib.hid hub
  have n1 : (n : Int) ≤ 64 := by omega
  obtain ⟨F, hF⟩ : ∃ F : Nat → Bs, F = fun i => upL (x i) := ⟨_, rfl⟩
  rw [← hF]
  rw [← hF] at HLEN
  have HF := Lib.hid hF
  have hne : catN F n ≠ [] := catN_ne _ _ hn (fun i => by rw [hF]; simp [upL])
  have HNE := Lib.hid hne
  clear hlen hx hub hF hne hn hn2
  go_enter Try.func25, Try.ntmps25
  go_wp2
  have hI : Lib.IsBuilder 83 5 w.heap.size w.heap.size (Lib.byteCells (catN F 0)) (w.alloc (.cells #[.pointer none, .slice none 0 0] 83)) := Lib.fresh_isBuilder 83 5 w
  have hEw : Ext w (w.alloc (.cells #[.pointer none, .slice none 0 0] 83)) := (Ext.refl w).alloc _
  generalize w.alloc (.cells #[.pointer none, .slice none 0 0] 83) = w2 at *
  obtain ⟨b, hb⟩ : ∃ b, b = w.heap.size := ⟨_, rfl⟩
  have HB := Lib.hid hb
  rw [← hb] at hI ⊢
  clear hb
  go_loopw [8] (fun i wr => ∃ k : Nat, k ≤ n ∧ i = .int .i64 k ∧ Ext w wr ∧ Lib.IsBuilder 83 5 b b (Lib.byteCells (catN F k)) wr) (fun i _ => n - (intOf i).toNat)
  case atStart => exact ⟨0, by omega, rfl, hEw, hI⟩
  case round =>
    obtain ⟨k, hk, rfl, hEr, hIr⟩ := hrel
    have HI := Lib.hid hIr
    clear hI hEw hIr
    by_cases hk2 : k < n
    · have kk : (k : Int) < (n : Int) := by omega
      have kk0 : (0 : Int) ≤ (k : Int) := by omega
      have hcell := (h.ext hEr).cell k hk2
      go_wp2_with (first
        | (go_at_call 47; (with_reducible refine (up_any (x k) (HX.out k) _).mono ?_); rintro e w3 ⟨rfl, hE3⟩; have hw3 : b ≤ w3.heap.size := by (have := HB.out; have := hEr.sz; have := hE3.sz; omega))
        | (go_at_call 46; (with_reducible refine (bwrite_any b b _ _ w3 (HI.out.ext hE3) (by have := HLEN.out k hk; have := HUB.out k; omega) hw3).mono ?_); rintro e w4 ⟨rfl, hB4, hE4⟩))
      refine ⟨⟨k + 1, by omega, rfl, Below.trans (hEr.trans hE3) (by rw [HB.out] at hE4; exact hE4), .inr ?_⟩, by simp [intOf]; omega⟩
      rw [catN, HF.out]
      rw [HF.out] at hB4
      exact hB4
    · obtain rfl : k = n := by omega
      have kk : ¬ (k : Int) < (k : Int) := by omega
      have CS := Lib.hid (bstring_any b b _ wr HI.out HNE.out)
      go_wp2_with (go_at_call 48; (with_reducible refine CS.out.mono ?_); rintro e w4 ⟨rfl, hE4⟩)
      go_ret
      rw [HB.out] at hE4
      exact ⟨rfl, Below.trans hEr hE4⟩
set_option maxRecDepth 100000 in
theorem texts_any {w : World} {ga n c : Nat} {x : Nat → Bs} (h : CellsAt w ga n (fun i => .string (Bt (x i)))) (hn : 0 < n) (hn2 : n ≤ 4) (hx : ∀ i, (x i).length ≤ 65536) :
    Calls Try.prog 27 #[.slice (some ⟨ga, 0, none⟩) n c] w fun e w' => e = .returned (.string (Bt (catN (fun i => textL (x i)) n))) ∧ Ext w w' := by
  have hub : ∀ i, (textL (x i)).length ≤ 65545 := fun i => by have := (upL_len2 (x i).length).2; have := hx i; rw [textL, List.length_append]; omega
  have hlen : ∀ k, k ≤ n → (catN (fun i => textL (x i)) k).length ≤ 262180 := fun k hk => by
    have := catN_len (fun i => textL (x i)) 65545 k (fun i _ => hub i)
    omega
  have HLEN := Lib.hid hlen
  have HX := Lib.hid hx
  have HUB := Lib.hid hub
  have n1 : (n : Int) ≤ 4 := by omega
  obtain ⟨F, hF⟩ : ∃ F : Nat → Bs, F = fun i => textL (x i) := ⟨_, rfl⟩
  rw [← hF]
  rw [← hF] at HLEN
  have HF := Lib.hid hF
  have hne : catN F n ≠ [] := catN_ne _ _ hn (fun i => by rw [hF]; simp [textL, upL])
  have HNE := Lib.hid hne
  clear hlen hx hub hF hne hn hn2
  go_enter Try.func27, Try.ntmps27
  go_wp2
  have hI : Lib.IsBuilder 83 5 w.heap.size w.heap.size (Lib.byteCells (catN F 0)) (w.alloc (.cells #[.pointer none, .slice none 0 0] 83)) := Lib.fresh_isBuilder 83 5 w
  have hEw : Ext w (w.alloc (.cells #[.pointer none, .slice none 0 0] 83)) := (Ext.refl w).alloc _
  generalize w.alloc (.cells #[.pointer none, .slice none 0 0] 83) = w2 at *
  obtain ⟨b, hb⟩ : ∃ b, b = w.heap.size := ⟨_, rfl⟩
  have HB := Lib.hid hb
  rw [← hb] at hI ⊢
  clear hb
  go_loopw [8] (fun i wr => ∃ k : Nat, k ≤ n ∧ i = .int .i64 k ∧ Ext w wr ∧ Lib.IsBuilder 83 5 b b (Lib.byteCells (catN F k)) wr) (fun i _ => n - (intOf i).toNat)
  case atStart => exact ⟨0, by omega, rfl, hEw, hI⟩
  case round =>
    obtain ⟨k, hk, rfl, hEr, hIr⟩ := hrel
    have HI := Lib.hid hIr
    clear hI hEw hIr
    by_cases hk2 : k < n
    · have kk : (k : Int) < (n : Int) := by omega
      have kk0 : (0 : Int) ≤ (k : Int) := by omega
      have hcell := (h.ext hEr).cell k hk2
      have hxl := HX.out k
      obtain ⟨y, hy⟩ : ∃ y, y = x k := ⟨_, rfl⟩
      rw [← hy] at hcell hxl
      have HY := Lib.hid hy
      clear hy
      have hyz : ((Bt y).size : Int) = (y.length : Int) := rfl
      have hyw : IntKind.u64.wrap (y.length : Int) = (y.length : Int) := u64_lt (by omega)
      have hadd := fun w => add_Bt (upL y.length) y (by have := (upL_len2 y.length).2; omega) w
      have hyu : y.length < 256 ^ 8 := by rw [pow8]; omega
      have htx : upL y.length ++ y = textL y := rfl
      rw [htx] at hadd
      have HYU := Lib.hid hyu
      clear htx hxl hyu
      go_wp2_with (first
        | (go_at_call 47; (with_reducible refine (up_any y.length HYU.out _).mono ?_); rintro e w3 ⟨rfl, hE3⟩; have hw3 : b ≤ w3.heap.size := by (have := HB.out; have := hEr.sz; have := hE3.sz; omega))
        | (go_at_call 46; (with_reducible refine (bwrite_any b b _ _ w3 (HI.out.ext hE3) (by have := HLEN.out k hk; have := HUB.out k; rw [← HY.out] at this; omega) hw3).mono ?_); rintro e w4 ⟨rfl, hB4, hE4⟩))
      refine ⟨⟨k + 1, by omega, rfl, Below.trans (hEr.trans hE3) (by rw [HB.out] at hE4; exact hE4), .inr ?_⟩, by simp [intOf]; omega⟩
      rw [catN, HF.out]
      rw [HF.out, HY.out] at hB4
      exact hB4
    · obtain rfl : k = n := by omega
      have kk : ¬ (k : Int) < (k : Int) := by omega
      have CS := Lib.hid (bstring_any b b _ wr HI.out HNE.out)
      go_wp2_with (go_at_call 48; (with_reducible refine CS.out.mono ?_); rintro e w4 ⟨rfl, hE4⟩)
      go_ret
      rw [HB.out] at hE4
      exact ⟨rfl, Below.trans hEr hE4⟩
end Go.Proofs.Ytpengejnjmicnaa
end
section
namespace Go.Proofs.Ytpengejnjmicnaa
open Go.RowKit Go.Nb
/-- How many bytes both begin with. -/
def shL : Bs → Bs → Nat
  | a :: l, b :: m => if a = b then shL l m + 1 else 0
  | [], _ => 0
  | _ :: _, [] => 0
theorem shL_le : ∀ a b, shL a b ≤ a.length ∧ shL a b ≤ b.length
  | a :: l, b :: m => by
    have := shL_le l m
    simp only [shL, List.length_cons]
    split <;> omega
  | [], _ => by simp [shL]
  | _ :: _, [] => by simp [shL]
theorem shL_nil (a : Bs) : shL a [] = 0 := by cases a <;> rfl
theorem shL_take : ∀ a b : Bs, a.take (shL a b) = b.take (shL a b)
  | a :: l, b :: m => by
    simp only [shL]
    split
    · next h => subst h; simp [shL_take l m]
    · simp
  | [], _ => by simp [shL]
  | _ :: _, [] => by simp [shL]
theorem shL_step (a b : Bs) (k : Nat) (ha : k < a.length) (hb : k < b.length) : shL (a.drop k) (b.drop k) = if a[k] = b[k] then shL (a.drop (k + 1)) (b.drop (k + 1)) + 1 else 0 := by
  rw [List.drop_eq_getElem_cons ha, List.drop_eq_getElem_cons hb]
  rfl
theorem bn_Bt (l : Bs) (k : Nat) (h : k < l.length) : bn (Bt l) k = (l[k]).toNat := bn_Ls (Bt l) l rfl k h
theorem shL_end (a b : Bs) (k : Nat) (h : a.length ≤ k ∨ b.length ≤ k) : shL (a.drop k) (b.drop k) = 0 := by
  rcases h with h | h
  · rw [List.drop_of_length_le h]; rfl
  · rw [List.drop_of_length_le h, shL_nil]
set_option maxRecDepth 100000 in
theorem shared_any (a b : Bs) (ha : a.length ≤ 1048576) (hb : b.length ≤ 1048576) (w : World) : Calls Try.prog 68 #[.string (Bt a), .string (Bt b)] w fun e w' => e = .returned (.int .i64 (shL a b)) ∧ Ext w w' := by
  have hza : ((Bt a).size : Int) = (a.length : Int) := rfl
  have hzb : ((Bt b).size : Int) = (b.length : Int) := rfl
  obtain ⟨m, hm⟩ : ∃ m, m = min a.length b.length := ⟨_, rfl⟩
  have hmi : (if (b.length : Int) < (a.length : Int) then (b.length : Int) else (a.length : Int)) = (m : Int) := by split <;> omega
  have hmi2 : min (a.length : Int) (b.length : Int) = (m : Int) := by omega
  have hmm : (m : Int) ≤ 1048576 := by omega
  have HM := Lib.hid hm
  clear hm
  go_enter Try.func68, Try.ntmps68
  go_wp2
  go_step3
  go_wp2
  go_step3
  go_wp2
  go_loopw [4] (fun iv wr => ∃ k : Nat, iv = .int .i64 k ∧ k ≤ m ∧ Hid (shL a b = k + shL (a.drop k) (b.drop k)) ∧ Ext w wr) (fun iv _ => m - (intOf iv).toNat)
  case atStart => exact ⟨0, rfl, by omega, Lib.hid (by simp), Ext.refl w⟩
  case round =>
    obtain ⟨k, rfl, hk, hs, hE⟩ := hrel
    have kk0 : (0 : Int) ≤ (k : Int) := by omega
    by_cases hk2 : k < m
    · have kk : (k : Int) < (m : Int) := by omega
      have hka : k < a.length := by have := HM.out; omega
      have hkb : k < b.length := by have := HM.out; omega
      have ga := str_index (Bt a) k hka
      have gb := str_index (Bt b) k hkb
      have hst := shL_step a b k hka hkb
      have exy : (bn (Bt a) k = bn (Bt b) k) ↔ a[k] = b[k] := by
        rw [bn_Bt a k hka, bn_Bt b k hkb]
        exact UInt8.toNat_inj
      obtain ⟨x, hx⟩ : ∃ x, x = bn (Bt a) k := ⟨_, rfl⟩
      obtain ⟨y, hy⟩ : ∃ x, x = bn (Bt b) k := ⟨_, rfl⟩
      rw [← hx, ← hy] at exy
      rw [← hx] at ga
      rw [← hy] at gb
      by_cases hxy : x = y
      · have t1 : ((x : Int) != (y : Int)) = false := by simp; omega
        have hs2 : shL a b = k + 1 + shL (a.drop (k + 1)) (b.drop (k + 1)) := by rw [hs.out, hst, if_pos (exy.1 hxy)]; omega
        have HS2 := Lib.hid hs2
        clear hx hy exy hst hxy hs2 hka hkb
        go_wp2
        go_quiet (fail)
        go_wp2
        refine ⟨⟨k + 1, rfl, by omega, HS2, hE.drewN _⟩, by simp [intOf]; omega⟩
      · have t1 : ((x : Int) != (y : Int)) = true := by simp; omega
        have hs2 : shL a b = k := by rw [hs.out, hst, if_neg (fun h => hxy (exy.2 h))]; omega
        have HS2 := Lib.hid hs2
        clear hx hy exy hst hxy hs2 hka hkb
        go_wp2
        go_quiet (fail)
        go_wp2
        rw [Exit.noGoto_ret]
        go_ret
        exact ⟨by rw [HS2.out]; rfl, hE.drewN _⟩
    · have kk : ¬ (k : Int) < (m : Int) := by omega
      have hs2 : shL a b = k := by rw [hs.out, shL_end a b k (by have := HM.out; omega)]; omega
      have HS2 := Lib.hid hs2
      clear hs2
      go_wp2
      go_ret
      exact ⟨by rw [HS2.out]; rfl, hE⟩
set_option maxRecDepth 100000 in
theorem shared_ref (a b : Bs) (ha : a.length ≤ 1048576) (hb : b.length ≤ 1048576) (w : World) : Calls Try.prog 69 #[.string (Bt a), .string (Bt b)] w fun e w' => e = .returned (.int .i64 (shL a b)) ∧ Ext w w' := by
  have hza : ((Bt a).size : Int) = (a.length : Int) := rfl
  have hzb : ((Bt b).size : Int) = (b.length : Int) := rfl
  go_enter Try.func69, Try.ntmps69
  go_wp2
  go_loopw [5] (fun iv wr => ∃ k : Nat, iv = .int .i64 k ∧ k ≤ a.length ∧ k ≤ b.length ∧ Hid (shL a b = k + shL (a.drop k) (b.drop k)) ∧ Ext w wr) (fun iv _ => a.length - (intOf iv).toNat)
  case atStart => exact ⟨0, rfl, by omega, by omega, Lib.hid (by simp), Ext.refl w⟩
  case round =>
    obtain ⟨k, rfl, hka, hkb, hs, hE⟩ := hrel
    have kk0 : (0 : Int) ≤ (k : Int) := by omega
    by_cases hk2 : k < a.length
    · have kk : (k : Int) < (a.length : Int) := by omega
      by_cases hk3 : k < b.length
      · have kk3 : (k : Int) < (b.length : Int) := by omega
        have ga := str_index (Bt a) k hk2
        have gb := str_index (Bt b) k hk3
        have hst := shL_step a b k hk2 hk3
        have exy : (bn (Bt a) k = bn (Bt b) k) ↔ a[k] = b[k] := by
          rw [bn_Bt a k hk2, bn_Bt b k hk3]
          exact UInt8.toNat_inj
        obtain ⟨x, hx⟩ : ∃ x, x = bn (Bt a) k := ⟨_, rfl⟩
        obtain ⟨y, hy⟩ : ∃ x, x = bn (Bt b) k := ⟨_, rfl⟩
        rw [← hx, ← hy] at exy
        rw [← hx] at ga
        rw [← hy] at gb
        have hk4 : k + 1 ≤ b.length := by omega
        by_cases hxy : x = y
        · have t1 : ((x : Int) == (y : Int)) = true := by simp; omega
          have hs2 : shL a b = k + 1 + shL (a.drop (k + 1)) (b.drop (k + 1)) := by rw [hs.out, hst, if_pos (exy.1 hxy)]; omega
          have HS2 := Lib.hid hs2
          clear hx hy exy hst hxy hs2
          go_wp2
          go_quiet (fail)
          go_wp2
          refine ⟨⟨k + 1, rfl, by omega, hk4, HS2, hE.drewN _⟩, by simp [intOf]; omega⟩
        · have t1 : ((x : Int) == (y : Int)) = false := by simp; omega
          have hs2 : shL a b = k := by rw [hs.out, hst, if_neg (fun h => hxy (exy.2 h))]; omega
          have HS2 := Lib.hid hs2
          clear hx hy exy hst hxy hs2
          go_wp2
          go_quiet (fail)
          go_wp2
          go_ret
          exact ⟨by rw [HS2.out]; rfl, hE.drewN _⟩
      · have kk3 : ¬ (k : Int) < (b.length : Int) := by omega
        have hs2 : shL a b = k := by rw [hs.out, shL_end a b k (by omega)]; omega
        have HS2 := Lib.hid hs2
        clear hs2
        go_wp2
        go_quiet (fail)
        go_wp2
        go_ret
        exact ⟨by rw [HS2.out]; rfl, hE.drewN _⟩
    · have kk : ¬ (k : Int) < (a.length : Int) := by omega
      have hs2 : shL a b = k := by rw [hs.out, shL_end a b k (by omega)]; omega
      have HS2 := Lib.hid hs2
      clear hs2
      go_wp2
      go_quiet (fail)
      go_wp2
      go_ret
      exact ⟨by rw [HS2.out]; rfl, hE.drewN _⟩
end Go.Proofs.Ytpengejnjmicnaa
end
