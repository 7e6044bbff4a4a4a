import Derived.Test.YtpcbllmmbbmkfaaW3
import Derived.Shelf.Abstract
namespace Go.Proofs.Ytpcbllmmbbmkfaa
open Go.RowKit Go.Nb
/-- Bytes that are read: what is left, what is wrong. -/
def rdC (l : Bs) (e : Int) (i : Nat) : Value := if i = 0 then .string (Bt l) else if i = 1 then .int .i64 e else .bool true
def RdrAt (w : World) (g : Nat) (l : Bs) (e : Int) : Prop := CellsT w 89 g 3 (rdC l e)
section
variable {w w' : World} {g : Nat} {l : Bs} {e : Int}
theorem RdrAt.ext (h : RdrAt w g l e) (hE : Ext w w') : RdrAt w' g l e := CellsT.ext h hE
theorem RdrAt.c0 (h : RdrAt w g l e) : w.cell? ⟨g, 0, none⟩ = some (.string (Bt l)) := CellsT.cell h 0 (by omega)
theorem RdrAt.c1 (h : RdrAt w g l e) : w.cell? ⟨g, 1, none⟩ = some (.int .i64 e) := CellsT.cell h 1 (by omega)
theorem RdrAt.c2 (h : RdrAt w g l e) : w.cell? ⟨g, 2, none⟩ = some (.bool true) := CellsT.cell h 2 (by omega)
theorem RdrAt.setE (h : RdrAt w g l e) (k : Int) : RdrAt (w.setCell ⟨g, 1, none⟩ (.int .i64 k)) g l k := CellsT.set_ h 1 _ (fun j hj => by
    match j, hj with
    | 0, _ => rfl
    | 1, _ => rfl
    | 2, _ => rfl)
theorem RdrAt.setL (h : RdrAt w g l e) (l' : Bs) : RdrAt (w.setCell ⟨g, 0, none⟩ (.string (Bt l'))) g l' e := CellsT.set_ h 0 _ (fun j hj => by
    match j, hj with
    | 0, _ => rfl
    | 1, _ => rfl
    | 2, _ => rfl)
theorem wire_new (s : ByteArray) (w : World) : Calls Try.prog 39 #[.string s] w fun e w' => e = .returned (.pointer (some ⟨w.heap.size, 0, none⟩)) ∧ RdrAt w' w.heap.size (Ls s) 0 ∧ Ext w w' := by
  go_enter Try.func39, Try.ntmps39
  go_wp2
  go_ret
  refine ⟨rfl, CellsT.of_blk (Blk.new w 89 _) (by simp) (fun j hj => ?_), (Ext.refl w).alloc _⟩
  match j, hj with
  | 0, _ => rfl
  | 1, _ => rfl
  | 2, _ => rfl
theorem rd_none (h : RdrAt w g l e) : Calls Try.prog 57 #[.pointer (some ⟨g, 0, none⟩)] w fun e w' => e = .returned (.bool false) ∧ Ext w w' := by
  have c2 := h.c2
  go_enter Try.func57, Try.ntmps57
  go_wp2
  go_ret
  exact ⟨rfl, Ext.refl w⟩
theorem err_any (h : RdrAt w g l e) : Calls Try.prog 41 #[.pointer (some ⟨g, 0, none⟩)] w fun x w' => x = .returned (.int .i64 e) ∧ Ext w w' := by
  go_enter Try.func41, Try.ntmps41
  go_wp2_with (go_at_call 57; (with_reducible refine (rd_none h).mono ?_); rintro e w1 ⟨rfl, hE⟩; have c1 := (h.ext hE).c1)
  go_ret
  exact ⟨rfl, hE⟩
theorem take_err (h : RdrAt w g l e) (he : e ≠ 0) (v : Value) : Calls Try.prog 54 #[.pointer (some ⟨g, 0, none⟩), v] w fun x w' => x = .returned (.bool false) ∧ Ext w w' := by
  have t1 : (e != 0) = true := by simpa using he
  clear he
  go_enter Try.func54, Try.ntmps54
  go_wp2_with (go_at_call 57; (with_reducible refine (rd_none h).mono ?_); rintro e w1 ⟨rfl, hE⟩; have c1 := (h.ext hE).c1)
  go_ret
  exact ⟨rfl, hE⟩
end
/-- What a call of take finds: n bytes, or an error. -/
def Finds (R : Nat → Int → World → Prop) (g : Nat) (l : Bs) (e : Ending) (w' : World) : Prop :=
  ∃ (n : Nat) (k : Int), e = .returned (.tuple #[.int .i64 n, .int .i64 k]) ∧ RdrAt w' g l 0 ∧ n ≤ l.length ∧ R n k w'
def TakePost (R : Nat → Int → World → Prop) (g : Nat) (l : Bs) (e : Ending) (w' : World) : Prop :=
  ∃ (n : Nat) (k : Int) (w1 : World), R n k w1 ∧ e = .returned (.bool (k == 0)) ∧ RdrAt w' g (if k = 0 then l.drop n else l) k ∧ OnlyB g w1 w'
set_option maxRecDepth 100000 in
theorem take_any (R : Nat → Int → World → Prop) {w : World} {g : Nat} {l : Bs} (h : RdrAt w g l 0) (f : Nat) (ca : Array Value) (hen : Enters Try.prog f)
    (hf : ∀ w', Ext w w' → Calls Try.prog f (#[.string (Bt l)] ++ ca) w' (Finds R g l)) : Calls Try.prog 54 #[.pointer (some ⟨g, 0, none⟩), .func (.func f) #[] ca] w (TakePost R g l) := by
  have HF := Lib.hid hf
  have hent2 : ∀ (args : Array Value) (w : World), (callFunc f args).run Try.prog w = .ok (.enter f args) w := hen
  clear hf hen
  go_enter Try.func54, Try.ntmps54
  go_wp2_with (first
    | (go_at_call 57; (with_reducible refine (rd_none h).mono ?_); rintro e w1 ⟨rfl, hE⟩; have hR := h.ext hE; have c0 := hR.c0; have c1 := hR.c1)
    | (go_at_fn f; refine (HF.out _ hE).mono ?_; rintro e w2 ⟨n, k, rfl, hR2, hn, hRR⟩; have d0 := hR2.c0; have d1 := hR2.c1; have f0 := CellsT.frozen hR2 0 (by omega); have f1 := CellsT.frozen hR2 1 (by omega); have hn2 : n ≤ (Bt l).size := hn))
  · go_ret
    have hk : (k != 0) = true := by assumption
    have hk2 : k ≠ 0 := by simpa using hk
    refine ⟨n, k, w2, hRR, ?_, ?_, (OnlyB.refl g w2).setCell 1 _⟩
    · have : (k == 0) = false := by simpa using hk2
      rw [this]; rfl
    · rw [if_neg hk2]; exact hR2.setE k
  · go_ret
    have hk : (k != 0) = false := by assumption
    have hk2 : k = 0 := by simpa using hk
    refine ⟨n, k, w2, hRR, ?_, ?_, ((OnlyB.refl g w2).setCell 1 _).setCell 0 _⟩
    · have : (k == 0) = true := by simpa using hk2
      rw [this]; rfl
    · rw [if_pos hk2]
      have := (hR2.setE k).setL (l.drop n)
      have e : (Bt l).extract n (Bt l).size = Bt (l.drop n) := by
        rw [Bt_extract, Bt_size, List.take_of_length_le (Nat.le_refl _)]
      rw [e]
      exact this
