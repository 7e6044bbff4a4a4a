import Derived.Test.YtpcbllmmbbmkfaaW5
namespace Go.Proofs.Ytpcbllmmbbmkfaa
open Go.RowKit Go.Nb
/-- A variable that is shared. -/
def BoxAt (w : World) (t : TypeId) (b : Nat) (v : Value) : Prop := CellsT w t b 1 (fun _ => v)
theorem BoxAt.ext {w w' : World} {t : TypeId} {b : Nat} {v : Value} (h : BoxAt w t b v) (hE : Ext w w') : BoxAt w' t b v := CellsT.ext h hE
theorem BoxAt.cell {w : World} {t : TypeId} {b : Nat} {v : Value} (h : BoxAt w t b v) : w.cell? ⟨b, 0, none⟩ = some v := CellsT.cell h 0 (by omega)
theorem BoxAt.frozen {w : World} {t : TypeId} {b : Nat} {v : Value} (h : BoxAt w t b v) : w.frozen? ⟨b, 0, none⟩ = false := CellsT.frozen h 0 (by omega)
theorem BoxAt.set_ {w : World} {t : TypeId} {b : Nat} {v : Value} (h : BoxAt w t b v) (u : Value) : BoxAt (w.setCell ⟨b, 0, none⟩ u) t b u := CellsT.set_ h 0 u (fun j hj => by rw [if_pos (by omega)])
theorem BoxAt.new (w : World) (t : TypeId) (v : Value) : BoxAt (w.alloc (.cells #[v] t)) t w.heap.size v := CellsT.of_blk (Blk.new w t _) (by simp) (fun j hj => by
  obtain rfl : j = 0 := by omega
  rfl)
theorem BoxAt.lt {w : World} {t : TypeId} {b : Nat} {v : Value} (h : BoxAt w t b v) : b < w.heap.size := CellsT.lt h
theorem BoxAt.only {w w' : World} {t : TypeId} {b g : Nat} {v : Value} (h : BoxAt w t b v) (hO : OnlyB g w w') (hne : b ≠ g) : BoxAt w' t b v := CellsT.only h hO hne
theorem rdr_box {w : World} {g b : Nat} {l : Bs} {e : Int} {v : Value} (h : RdrAt w g l e) (hb : BoxAt w 37 b v) : g ≠ b :=
  CellsT.ne (t := 89) (t' := 37) h hb (by decide)
def numE (most : Nat) (l : Bs) : Int := if (readL l).2.2 ≠ 0 then (readL l).2.2 else if most < (readL l).1 then 9 else 0
theorem numE_is (most : Nat) (l : Bs) : (rdNum most l).2.2 = numE most l := by
  unfold rdNum numE
  split
  · rfl
  · split <;> rfl
theorem numL_is (most : Nat) (l : Bs) : (rdNum most l).2.1 = if numE most l = 0 then l.drop (readL l).2.1 else l := by
  unfold rdNum numE
  split
  · rfl
  · split
    · rfl
    · rfl
theorem numV_is (most : Nat) (l : Bs) : (rdNum most l).1 = if numE most l = 0 then (readL l).1 else 0 := by
  unfold rdNum numE
  split
  · rfl
  · split
    · rfl
    · rfl
theorem readL_n (l : Bs) : (readL l).2.1 ≤ l.length := by
  cases l with
  | nil => exact Nat.le_refl _
  | cons c r =>
    rw [readL_cons]
    split
    · exact Nat.zero_le _
    · split
      · exact Nat.zero_le _
      · split
        · exact Nat.zero_le _
        · simp; omega
/-- What Num's find leaves. -/
def RNum (w : World) (bx most : Nat) (l : Bs) (n : Nat) (k : Int) (w' : World) : Prop := k = numE most l ∧ n = (readL l).2.1 ∧ BoxAt w' 37 bx (.int .u64 (readL l).1) ∧ Turn (· = bx) w w'
theorem e41 : Enters Try.prog 55 := enters_of Try.func55 (by kernel_rfl) rfl
set_option maxRecDepth 100000 in
theorem num1_any {w : World} {g bx bm most : Nat} {l : Bs} {xv : Value} (h : RdrAt w g l 0) (hl : l.length ≤ 1048576) (hx : BoxAt w 37 bx xv) (hm : w.cell? ⟨bm, 0, none⟩ = some (.int .u64 most)) (hne : bm ≠ bx) :
    Calls Try.prog 55 #[.string (Bt l), .pointer (some ⟨bx, 0, none⟩), .pointer (some ⟨bm, 0, none⟩)] w (Finds (RNum w bx most l) g l) := by
  have HR := Lib.hid (read_any (Bt l) hl w)
  have hn := readL_n l
  have hnE : numE most l = if (readL l).2.2 ≠ 0 then (readL l).2.2 else if most < (readL l).1 then 9 else 0 := rfl
  obtain ⟨x, hxx⟩ : ∃ x, x = (readL l).1 := ⟨_, rfl⟩
  obtain ⟨n, hnn⟩ : ∃ x, x = (readL l).2.1 := ⟨_, rfl⟩
  obtain ⟨e, hee⟩ : ∃ x, x = (readL l).2.2 := ⟨_, rfl⟩
  rw [← hee, ← hxx] at hnE
  have HP : ∀ k w1 w', k = numE most l → Ext w w1 → w' = w1.setCell ⟨bx, 0, none⟩ (.int .u64 x) → Finds (RNum w bx most l) g l (.returned (.tuple #[.int .i64 n, .int .i64 k])) w' := fun k w1 w' hk hE hw => by
    subst hw
    refine ⟨n, k, rfl, ?_, by rw [hnn]; exact hn, hk, hnn, by rw [← hxx]; exact (hx.ext hE).set_ _, (Turn.of hE).trans (Turn.set_ (H := (· = bx)) (a := ⟨bx, 0, none⟩) rfl _)⟩
    exact CellsT.far (p := ⟨bx, 0, none⟩) (h.ext hE) (rdr_box h hx) _
  have HP := Lib.hid HP
  have HE := Lib.hid hnE
  have HRD : ReadIs (Bt l) w = fun e' w' => e' = .returned (.tuple #[.int .u64 x, .int .i64 n, .int .i64 e]) ∧ Ext w w' := by
    rw [hxx, hnn, hee]; rfl
  have HR2 := HR.out
  rw [HRD] at HR2
  have HR2 := Lib.hid HR2
  clear hnE hxx hnn hee HRD hn
  by_cases he : e = 0
  · have t1 : (e == 0) = true := by simpa using he
    by_cases hb : most < x
    · have t2 : decide (most < x) = true := by simpa using hb
      have hk : (9 : Int) = numE most l := by rw [HE.out, if_neg (by simpa using he), if_pos hb]
      have HK := Lib.hid hk
      clear hk he hb
      go_enter Try.func55, Try.ntmps55
      go_wp2_with (go_at_call 56; (with_reducible refine HR2.out.mono ?_); rintro e1 w1 ⟨rfl, hE⟩; have cx := (hx.ext hE).cell; have fx := (hx.ext hE).frozen; have cm := hE.cellv hm)
      go_ret2
      exact HP.out _ w1 _ HK.out hE rfl
    · have t2 : decide (most < x) = false := by simpa using hb
      have hk : e = numE most l := by rw [HE.out, if_neg (by simpa using he), if_neg hb]; exact he
      have HK := Lib.hid hk
      clear hk he hb
      go_enter Try.func55, Try.ntmps55
      go_wp2_with (go_at_call 56; (with_reducible refine HR2.out.mono ?_); rintro e1 w1 ⟨rfl, hE⟩; have cx := (hx.ext hE).cell; have fx := (hx.ext hE).frozen; have cm := hE.cellv hm)
      go_ret2
      exact HP.out _ w1 _ HK.out hE rfl
  · have t1 : (e == 0) = false := by simpa using he
    have hk : e = numE most l := by rw [HE.out, if_pos he]
    have HK := Lib.hid hk
    clear hk he
    go_enter Try.func55, Try.ntmps55
    go_wp2_with (go_at_call 56; (with_reducible refine HR2.out.mono ?_); rintro e1 w1 ⟨rfl, hE⟩; have cx := (hx.ext hE).cell; have fx := (hx.ext hE).frozen; have cm := hE.cellv hm)
    go_ret2
    exact HP.out _ w1 _ HK.out hE rfl
