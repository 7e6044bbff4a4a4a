import Derived.Test.YtbpicdjpgbboiaaW16
namespace Go.Proofs.Ytbpicdjpgbboiaa
open Go.RowKit Go.Nb
def rfC (l : Bs) (e : Int) (i : Nat) : Value := if i = 0 then .string (Bt l) else .int .i64 e
/-- The document's reader. -/
def RfAt (w : World) (g : Nat) (l : Bs) (e : Int) : Prop := CellsT w 55 g 2 (rfC l e)
section
variable {w w' : World} {g : Nat} {l : Bs} {e : Int}
theorem RfAt.ext (h : RfAt w g l e) (hE : Ext w w') : RfAt w' g l e := CellsT.ext h hE
theorem RfAt.c0 (h : RfAt w g l e) : w.cell? ⟨g, 0, none⟩ = some (.string (Bt l)) := CellsT.cell h 0 (by omega)
theorem RfAt.c1 (h : RfAt w g l e) : w.cell? ⟨g, 1, none⟩ = some (.int .i64 e) := CellsT.cell h 1 (by omega)
theorem RfAt.f0 (h : RfAt w g l e) : w.frozen? ⟨g, 0, none⟩ = false := CellsT.frozen h 0 (by omega)
theorem RfAt.f1 (h : RfAt w g l e) : w.frozen? ⟨g, 1, none⟩ = false := CellsT.frozen h 1 (by omega)
theorem RfAt.setE (h : RfAt w g l e) (k : Int) : RfAt (w.setCell ⟨g, 1, none⟩ (.int .i64 k)) g l k := CellsT.set_ h 1 _ (fun j hj => by
  obtain rfl | rfl : j = 0 ∨ j = 1 := by omega
  · rfl
  · rfl)
theorem RfAt.setL (h : RfAt w g l e) (l' : Bs) : RfAt (w.setCell ⟨g, 0, none⟩ (.string (Bt l'))) g l' e := CellsT.set_ h 0 _ (fun j hj => by
  obtain rfl | rfl : j = 0 ∨ j = 1 := by omega
  · rfl
  · rfl)
def num3P (g most : Nat) (l : Bs) (e : Int) (w : World) (x : Ending) (w' : World) : Prop := x = .returned (.int .u64 (numS most l e).1) ∧ RfAt w' g (numS most l e).2.1 (numS most l e).2.2 ∧ Turn (· = g) w w'
set_option maxRecDepth 100000 in
theorem num3_any {most : Nat} (h : RfAt w g l e) (hl : l.length ≤ 1048576) : Calls Try.prog 27 #[.pointer (some ⟨g, 0, none⟩), .int .u64 most] w (num3P g most l e w) := by
  have c1 := h.c1
  by_cases he : e = 0
  · have t0 : (e != 0) = false := by simpa using he
    have hp : num3P g most l e w = fun x w' => x = .returned (.int .u64 (rdNum most l).1) ∧ RfAt w' g (rdNum most l).2.1 (rdNum most l).2.2 ∧ Turn (· = g) w w' := by
      unfold num3P numS; rw [if_pos he]
    rw [hp]
    have c0 := h.c0
    have hn := readL_n l
    have HR := read_ref (Bt l) hl w
    have hrd : rdNum most l = if (readL l).2.2 ≠ 0 then (0, l, (readL l).2.2) else if most < (readL l).1 then (0, l, 9) else ((readL l).1, l.drop (readL l).2.1, 0) := rfl
    have HRD : ReadIs (Bt l) w = fun e' w' => e' = .returned (.tuple #[.int .u64 (readL l).1, .int .i64 (readL l).2.1, .int .i64 (readL l).2.2]) ∧ Ext w w' := rfl
    rw [HRD] at HR
    obtain ⟨x, hxx⟩ : ∃ x, x = (readL l).1 := ⟨_, rfl⟩
    obtain ⟨n, hnn⟩ : ∃ x, x = (readL l).2.1 := ⟨_, rfl⟩
    obtain ⟨k, hkk⟩ : ∃ x, x = (readL l).2.2 := ⟨_, rfl⟩
    rw [← hxx, ← hnn, ← hkk] at HR hrd
    rw [← hnn] at hn
    have HR := Lib.hid HR
    clear hxx hnn hkk HRD hp
    have hsl := slice_str l n hn
    have hsl2 := slice_str2 l n hn
    by_cases hk : k = 0
    · have t1 : (k != 0) = false := by simpa using hk
      have t1b : (k == 0) = true := by simpa using hk
      by_cases hm : most < x
      · have t2 : decide (most < x) = true := by simpa using hm
        rw [if_neg (by simpa using hk), if_pos hm] at hrd
        rw [hrd]
        clear hrd hm hk he
        go_enter Try.func27, Try.ntmps27
        go_wp2_with (go_at_call 46; (with_reducible refine HR.out.mono ?_); rintro e1 w1 ⟨rfl, hE⟩; have h1 := h.ext hE; have d0 := h1.c0; have d1 := h1.c1; have f0 := h1.f0; have f1 := h1.f1)
        go_ret
        exact ⟨rfl, h1.setE 9, (Turn.of hE).trans (Turn.set_ (H := (· = g)) (a := ⟨g, 1, none⟩) rfl _)⟩
      · have t2 : decide (most < x) = false := by simpa using hm
        rw [if_neg (by simpa using hk), if_neg hm] at hrd
        rw [hrd]
        clear hrd hm
        go_enter Try.func27, Try.ntmps27
        go_wp2_with (go_at_call 46; (with_reducible refine HR.out.mono ?_); rintro e1 w1 ⟨rfl, hE⟩; have h1 := h.ext hE; have d0 := h1.c0; have d1 := h1.c1; have f0 := h1.f0; have f1 := h1.f1)
        go_ret
        refine ⟨rfl, ?_, (Turn.of hE).trans (Turn.set_ (H := (· = g)) (a := ⟨g, 0, none⟩) rfl _)⟩
        have := h1.setL (l.drop n)
        rw [he] at this
        exact this
    · have t1 : (k != 0) = true := by simpa using hk
      have t1b : (k == 0) = false := by simpa using hk
      rw [if_pos hk] at hrd
      rw [hrd]
      clear hrd hk he
      go_enter Try.func27, Try.ntmps27
      go_wp2_with (go_at_call 46; (with_reducible refine HR.out.mono ?_); rintro e1 w1 ⟨rfl, hE⟩; have h1 := h.ext hE; have d0 := h1.c0; have d1 := h1.c1; have f0 := h1.f0; have f1 := h1.f1)
      go_ret
      exact ⟨rfl, h1.setE k, (Turn.of hE).trans (Turn.set_ (H := (· = g)) (a := ⟨g, 1, none⟩) rfl _)⟩
  · have t0 : (e != 0) = true := by simpa using he
    have hp : num3P g most l e w = fun x w' => x = .returned (.int .u64 0) ∧ RfAt w' g l e ∧ Turn (· = g) w w' := by
      unfold num3P numS; rw [if_neg he]; rfl
    rw [hp]
    clear hp he
    go_enter Try.func27, Try.ntmps27
    go_wp2
    go_ret
    exact ⟨rfl, h, Turn.refl w⟩
end
