import Derived.Test.YtimhekdfajakbaaR21
import Derived.Test.YtimhekdfajakbaaPre5
namespace Go.Proofs.Ytimhekdfajakbaa
open Go.RowKit
/-- Where the document's rack lies. -/
structure Ql where
  gx : Nat
  gS : Nat
  gB : Nat
  gC : Nat
  hS : Nat → Nat
  hB : Nat → Nat
  cS : Nat
  cB : Nat
  cs : Nat → Nat
  nd : Nat
  ns : Nat
/-- What the document's rack is. -/
structure Rf where
  left : Int
  sec : Nat → Nat → ByteArray
  bad : Nat → Nat → Bool
  cnt : Nat → Nat
def xC (q : Ql) (r : Rf) (i : Nat) : Value := if i = 0 then .slice (some ⟨q.gS, 0, none⟩) q.nd q.cS else if i = 1 then .slice (some ⟨q.gB, 0, none⟩) q.nd q.cB else if i = 2 then .slice (some ⟨q.gC, 0, none⟩) q.nd q.nd else .int .i64 r.left
def Ql.has (q : Ql) (k : Nat) : Prop := k = q.gx ∨ k = q.gS ∨ k = q.gB ∨ k = q.gC ∨ ∃ i, i < q.nd ∧ (k = q.hS i ∨ k = q.hB i)
structure RefAt (w : World) (q : Ql) (r : Rf) : Prop where
  x : CellsT w 61 q.gx 4 (xC q r)
  s : CellsT w 46 q.gS q.nd (fun i => .slice (some ⟨q.hS i, 0, none⟩) q.ns (q.cs i))
  b : CellsT w 63 q.gB q.nd (fun i => .slice (some ⟨q.hB i, 0, none⟩) q.ns q.ns)
  c : CellsT w 36 q.gC q.nd (fun i => .int .u64 (r.cnt i))
  ss : ∀ i, i < q.nd → CellsT w 9 (q.hS i) q.ns (fun j => .string (r.sec i j))
  bs : ∀ i, i < q.nd → CellsT w 4 (q.hB i) q.ns (fun j => .bool (r.bad i j))
  iS : ∀ i j, i < q.nd → j < q.nd → q.hS i = q.hS j → i = j
  iB : ∀ i j, i < q.nd → j < q.nd → q.hB i = q.hB j → i = j
  n1 : 1 ≤ q.nd
  n2 : q.nd ≤ 12
  n3 : 1 ≤ q.ns
  n4 : q.ns ≤ 4096
  sz : ∀ i j, (r.sec i j).size = 64
def thereN (nd ns : Nat) (d x : Int) : Bool := decide (0 ≤ d) && decide (d < (nd : Int)) && decide (0 ≤ x) && decide (x < (ns : Int))
theorem there_N (p : Pl) (d x : Int) : there p d x = thereN p.nd p.ns d x := rfl
theorem thereN_nat {nd ns : Nat} {d x : Int} (h : thereN nd ns d x = true) : ∃ i j : Nat, d = i ∧ x = j ∧ i < nd ∧ j < ns := by
  simp [thereN] at h
  exact ⟨d.toNat, x.toNat, by omega, by omega, by omega, by omega⟩
section
variable {w w' : World} {q : Ql} {r : Rf}
theorem RefAt.ext (h : RefAt w q r) (e : Ext w w') : RefAt w' q r := ⟨h.x.ext e, h.s.ext e, h.b.ext e, h.c.ext e, fun i hi => (h.ss i hi).ext e, fun i hi => (h.bs i hi).ext e, h.iS, h.iB, h.n1, h.n2, h.n3, h.n4, h.sz⟩
theorem RefAt.lt (h : RefAt w q r) (k : Nat) (hk : q.has k) : k < w.heap.size := by
  rcases hk with rfl | rfl | rfl | rfl | ⟨i, hi, rfl | rfl⟩
  · exact h.x.lt
  · exact h.s.lt
  · exact h.b.lt
  · exact h.c.lt
  · exact (h.ss i hi).lt
  · exact (h.bs i hi).lt
theorem RefAt.other {H : Nat → Prop} (h : RefAt w q r) (t : Turn H w w') (hd : ∀ k, q.has k → ¬ H k) : RefAt w' q r :=
  ⟨t.cellsT h.x (hd _ (.inl rfl)), t.cellsT h.s (hd _ (.inr (.inl rfl))), t.cellsT h.b (hd _ (.inr (.inr (.inl rfl)))), t.cellsT h.c (hd _ (.inr (.inr (.inr (.inl rfl))))),
    fun i hi => t.cellsT (h.ss i hi) (hd _ (.inr (.inr (.inr (.inr ⟨i, hi, .inl rfl⟩))))), fun i hi => t.cellsT (h.bs i hi) (hd _ (.inr (.inr (.inr (.inr ⟨i, hi, .inr rfl⟩))))), h.iS, h.iB, h.n1, h.n2, h.n3, h.n4, h.sz⟩
theorem RefAt.x0 (h : RefAt w q r) : w.cell? ⟨q.gx, 0, none⟩ = some (.slice (some ⟨q.gS, 0, none⟩) q.nd q.cS) := h.x.cell 0 (by omega)
theorem RefAt.x1 (h : RefAt w q r) : w.cell? ⟨q.gx, 1, none⟩ = some (.slice (some ⟨q.gB, 0, none⟩) q.nd q.cB) := h.x.cell 1 (by omega)
theorem RefAt.x2 (h : RefAt w q r) : w.cell? ⟨q.gx, 2, none⟩ = some (.slice (some ⟨q.gC, 0, none⟩) q.nd q.nd) := h.x.cell 2 (by omega)
theorem RefAt.x3 (h : RefAt w q r) : w.cell? ⟨q.gx, 3, none⟩ = some (.int .i64 r.left) := h.x.cell 3 (by omega)
theorem RefAt.setLeft (h : RefAt w q r) (n : Int) : RefAt (w.setCell ⟨q.gx, 3, none⟩ (.int .i64 n)) q { r with left := n } :=
  ⟨h.x.set_ 3 _ (fun j hj => by
    match j, hj with
    | 0, _ => rfl
    | 1, _ => rfl
    | 2, _ => rfl
    | 3, _ => rfl), h.s.farT h.x (by decide) _, h.b.farT h.x (by decide) _, h.c.farT h.x (by decide) _, fun i hi => (h.ss i hi).farT h.x (by decide) _, fun i hi => (h.bs i hi).farT h.x (by decide) _, h.iS, h.iB, h.n1, h.n2, h.n3, h.n4, h.sz⟩
theorem RefAt.setSec (h : RefAt w q r) (d x : Nat) (t : ByteArray) (hd : d < q.nd) (ht : t.size = 64) : RefAt (w.setCell ⟨q.hS d, x, none⟩ (.string t)) q { r with sec := setNN r.sec d x t } :=
  ⟨h.x.farT (h.ss d hd) (by decide) _, h.s.farT (h.ss d hd) (by decide) _, h.b.farT (h.ss d hd) (by decide) _, h.c.farT (h.ss d hd) (by decide) _, fun i hi => by
    by_cases e : i = d
    · subst e
      refine (h.ss i hi).set_ x _ (fun j hj => ?_)
      simp only [setNN]
      by_cases e2 : j = x
      · rw [if_pos e2, if_pos ⟨trivial, e2⟩]
      · rw [if_neg e2, if_neg (fun h => e2 h.2)]
    · refine ((h.ss i hi).far (p := ⟨q.hS d, x, none⟩) (fun e2 => e (h.iS i d hi hd e2)) _).congr (fun j hj => ?_)
      simp only [setNN]
      rw [if_neg (fun h => e h.1)], fun i hi => (h.bs i hi).farT (h.ss d hd) (by decide) _, h.iS, h.iB, h.n1, h.n2, h.n3, h.n4, fun i j => by
    show (setNN r.sec d x t i j).size = 64
    unfold setNN
    split
    · exact ht
    · exact h.sz i j⟩
theorem RefAt.setBad (h : RefAt w q r) (d x : Nat) (b : Bool) (hd : d < q.nd) : RefAt (w.setCell ⟨q.hB d, x, none⟩ (.bool b)) q { r with bad := setNN r.bad d x b } :=
  ⟨h.x.farT (h.bs d hd) (by decide) _, h.s.farT (h.bs d hd) (by decide) _, h.b.farT (h.bs d hd) (by decide) _, h.c.farT (h.bs d hd) (by decide) _, fun i hi => (h.ss i hi).farT (h.bs d hd) (by decide) _, fun i hi => by
    by_cases e : i = d
    · subst e
      refine (h.bs i hi).set_ x _ (fun j hj => ?_)
      simp only [setNN]
      by_cases e2 : j = x
      · rw [if_pos e2, if_pos ⟨trivial, e2⟩]
      · rw [if_neg e2, if_neg (fun h => e2 h.2)]
    · refine ((h.bs i hi).far (p := ⟨q.hB d, x, none⟩) (fun e2 => e (h.iB i d hi hd e2)) _).congr (fun j hj => ?_)
      simp only [setNN]
      rw [if_neg (fun h => e h.1)], h.iS, h.iB, h.n1, h.n2, h.n3, h.n4, h.sz⟩
theorem RefAt.setCnt (h : RefAt w q r) (d v : Nat) : RefAt (w.setCell ⟨q.gC, d, none⟩ (.int .u64 v)) q { r with cnt := setN r.cnt d v } :=
  ⟨h.x.farT h.c (by decide) _, h.s.farT h.c (by decide) _, h.b.farT h.c (by decide) _, h.c.set_ d _ (fun j hj => by
    simp only [setN]
    by_cases e : j = d
    · rw [if_pos e, if_pos e]
    · rw [if_neg e, if_neg e]), fun i hi => (h.ss i hi).farT h.c (by decide) _, fun i hi => (h.bs i hi).farT h.c (by decide) _, h.iS, h.iB, h.n1, h.n2, h.n3, h.n4, h.sz⟩
theorem has_x (q : Ql) : q.has q.gx := .inl rfl
theorem has_c (q : Ql) : q.has q.gC := .inr (.inr (.inr (.inl rfl)))
theorem has_s {i : Nat} (hi : i < q.nd) : q.has (q.hS i) := .inr (.inr (.inr (.inr ⟨i, hi, .inl rfl⟩)))
theorem has_b {i : Nat} (hi : i < q.nd) : q.has (q.hB i) := .inr (.inr (.inr (.inr ⟨i, hi, .inr rfl⟩)))
set_option maxRecDepth 100000 in
theorem there_ref (h : RefAt w q r) (d x : Int) : Calls Try.prog 34 #[.pointer (some ⟨q.gx, 0, none⟩), .int .i64 d, .int .i64 x] w fun e w' => e = .returned (.bool (thereN q.nd q.ns d x)) ∧ Ext w w' := by
  have h0 := h.x0
  have h1 := h.s.cell 0 (by have := h.n1; omega)
  have n0 : (0 : Int) < (q.nd : Int) := by have := h.n1; omega
  have fin : ∀ b, thereN q.nd q.ns d x = b → (Ending.returned (.bool b) = Ending.returned (.bool (thereN q.nd q.ns d x)) ∧ Ext w w) := fun b hb => ⟨by rw [hb], Ext.refl w⟩
  have FIN := Lib.hid fin
  clear fin
  by_cases d0 : 0 ≤ d
  · have t1 : decide (0 ≤ d) = true := by simpa using d0
    by_cases d1 : d < (q.nd : Int)
    · have t2 : decide (d < (q.nd : Int)) = true := by simpa using d1
      by_cases x0 : 0 ≤ x
      · have t3 : decide (0 ≤ x) = true := by simpa using x0
        by_cases x1 : x < (q.ns : Int)
        · have t4 : decide (x < (q.ns : Int)) = true := by simpa using x1
          have F := FIN.out true (by simp [thereN]; omega)
          clear d0 d1 x0 x1
          have HF := Lib.hid F
          clear F
          go_enter Try.func34, Try.ntmps34
          go_wp2
          go_ret
          exact HF.out
        · have t4 : decide (x < (q.ns : Int)) = false := by simpa using x1
          have F := FIN.out false (by simp [thereN]; omega)
          clear d0 d1 x0 x1
          have HF := Lib.hid F
          clear F
          go_enter Try.func34, Try.ntmps34
          go_wp2
          go_ret
          exact HF.out
      · have t3 : decide (0 ≤ x) = false := by simpa using x0
        have F := FIN.out false (by simp [thereN]; omega)
        clear d0 d1 x0
        have HF := Lib.hid F
        clear F
        go_enter Try.func34, Try.ntmps34
        go_wp2
        go_ret
        exact HF.out
    · have t2 : decide (d < (q.nd : Int)) = false := by simpa using d1
      have F := FIN.out false (by simp [thereN]; omega)
      clear d0 d1
      have HF := Lib.hid F
      clear F
      go_enter Try.func34, Try.ntmps34
      go_wp2
      go_ret
      exact HF.out
  · have t1 : decide (0 ≤ d) = false := by simpa using d0
    have F := FIN.out false (by simp [thereN]; omega)
    clear d0
    have HF := Lib.hid F
    clear F
    go_enter Try.func34, Try.ntmps34
    go_wp2
    go_ret
    exact HF.out
end
