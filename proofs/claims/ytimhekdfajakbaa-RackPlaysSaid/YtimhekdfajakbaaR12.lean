import Derived.Test.YtimhekdfajakbaaR11
namespace Go.Proofs.Ytimhekdfajakbaa
open Go.RowKit
section
variable {P : Program}
/-- clear of a slice whose cells are known. -/
theorem run_clear_cells (w : World) (t e ty : TypeId) (z : Value) (Z : Array Value) (ht : P.underlying t = some (.slice e)) (hv : ∀ w, (zeroValue e).run P w = .ok z w) (g off n c N : Nat) (f : Nat → Value) (hz : Builtin.zeroCells z.cells n = Z) (hn : 0 < n)
    (hb : CellsAt w g N f) (hl : off + Z.size ≤ N) (h1 : ∀ v ∈ Z.toList, v.oneCell' = true) :
    ∃ w', (Builtin.clear_ #[t] ty #[.slice (some ⟨g, off, none⟩) n c]).run P w = .ok (.tuple #[]) w' ∧ CellsAt w' g N (overC off Z f) ∧ OnlyB g w w' := by
  subst hz
  obtain ⟨k, rfl⟩ : ∃ k, n = k + 1 := ⟨n - 1, by omega⟩
  obtain ⟨el, cur, hn, hbm, hf⟩ := hb
  obtain ⟨w', D, hst, hsz, hbm', hO, hat⟩ := run_storeCells_m P g off el (Builtin.zeroCells z.cells (k + 1)).toList 0 cur w hbm (by simp; omega) h1
  refine ⟨w', ?_, ⟨el, D, by omega, hbm', fun j hj => ?_⟩, hO⟩
  · simp [Builtin.clear_, run_underlying ht, hv, hst]
  · rw [hat j]
    unfold overC
    by_cases hc : off ≤ j ∧ j < off + (Builtin.zeroCells z.cells (k + 1)).size
    · rw [if_pos (by simpa using hc), if_pos hc, Array.getElem?_toList, Nat.add_zero, Array.getD_eq_getD_getElem?]
      have hx : (Builtin.zeroCells z.cells (k + 1))[j - off]? = some ((Builtin.zeroCells z.cells (k + 1))[j - off]'(by omega)) := Array.getElem?_eq_getElem (by omega)
      simp only [Nat.add_zero, hx, Option.getD_some]
    · rw [if_neg (by simpa using hc), if_neg hc, hf j hj]
theorem wpList_clear_cells {ops : Array Oper} {rest : List Oper} {a : Act} {w : World} {Q : Exit → Act → World → Prop} {o : Oper} (hgd : o.guard = none) (t e : TypeId) (x : Operand) (ho : o.op = .call { callee := .builtin .clear, args := #[x], argTypes := #[t] })
    (z : Value) (Z : Array Value) (ht : P.underlying t = some (.slice e)) (hv : ∀ w, (zeroValue e).run P w = .ok z w) (g off n c N : Nat) (f : Nat → Value) (hz : Builtin.zeroCells z.cells n = Z) (hn : 0 < n)
    (hx : a.eval x = .slice (some ⟨g, off, none⟩) n c) (hb : CellsAt w g N f) (hl : off + Z.size ≤ N) (h1 : ∀ v ∈ Z.toList, v.oneCell' = true)
    (h : ∀ w', CellsAt w' g N (overC off Z f) → OnlyB g w w' → wpList P ops Q rest (a.put o.dst (.tuple #[])) w') : wpList P ops Q (o :: rest) a w := by
  refine wpList_plain hgd fun _ hK => ?_
  obtain ⟨w', hr, h1', h2'⟩ := run_clear_cells (P := P) w t e o.type z Z ht hv g off n c N f hz hn hb hl h1
  unfold Oper.wp execOp
  simp only [ho, resolve, invoke, builtin, Sem.run_bind, Sem.run_pure, Result.andThen_ok, List.map_toArray, List.map_cons, List.map_nil, hx, hr]
  exact hK _ _ (h w' h1' h2')
end
theorem zero78c (n : Nat) : Builtin.zeroCells (Value.agg Z78).cells n = tabA (65 * n) zeC := by
  have h2 : (Value.agg Z78).cells.size = 65 := by decide +kernel
  have e : Builtin.zeroCells (Value.agg Z78).cells n = madeCells (Value.agg Z78).cells (n * 65) := by
    rw [← h2]; rfl
  rw [e]
  refine tabA_of _ _ _ (by rw [madeCells_size, Nat.mul_comm]) (fun i hi => ?_)
  rw [made78 n i (by omega)]; rfl
theorem zeC_one (n : Nat) : ∀ v ∈ (tabA n zeC).toList, v.oneCell' = true := by
  intro v hv
  simp [tabA] at hv
  obtain ⟨j, _, rfl⟩ := hv
  unfold zeC
  split <;> rfl
def wiped (s : St) (d : Nat) : St := { s with sec := fun a b j => if a = d then 0 else s.sec a b j, bad := fun a b => if a = d then false else s.bad a b }
theorem RackAt.wipe {p : Pl} {s : St} {w w' : World} (h : RackAt w p s) (d : Nat) (hd : d < p.nd)
    (hc : CellsAt w' (p.gS d) (65 * p.ns) (overC 0 (tabA (65 * p.ns) zeC) (seC s d))) (hO : OnlyB (p.gS d) w w') : RackAt w' p (wiped s d) :=
  ⟨h.r.only hO (h.ok.rs d hd), h.d.only hO (h.ok.ds d hd), fun y hy => by
    by_cases e : y = d
    · subst e
      refine hc.congr fun j hj => ?_
      unfold overC seC
      have e1 : (tabA (65 * p.ns) zeC).getD (j - 0) undef = zeC j := by rw [Array.getD_eq_getD_getElem?, Nat.sub_zero, tabA_at _ _ _ hj]; rfl
      rw [tabA_size, e1]
      simp [wiped, zeC, hj]
    · refine ((h.se y hy).only hO (fun e3 => e (h.ok.ss y d hy hd e3))).congr fun j hj => ?_
      unfold seC
      simp [wiped, e], ⟨h.ok.nd1, h.ok.nd2, h.ok.ns1, h.ok.ns2, h.ok.rd, h.ok.rs, h.ok.ds, h.ok.ss, fun a b j => by
    show (if a = d then 0 else s.sec a b j) < 256
    split
    · omega
    · exact h.ok.by_ _ _ _⟩⟩
section
variable {p : Pl} {s : St} {w : World}
theorem wipe_no (h : RackAt w p s) (d : Int) (hd : there p d 0 = false) : Calls Try.prog 23 #[.pointer (some ⟨p.gR, 0, none⟩), .int .i64 d] w fun e w' => e = .returned (.int .i64 70) ∧ RackAt w' p s ∧ Chg p w w' := by
  have hmf := mkf
  have HD := Lib.hid (thereE_no hd)
  go_enter Try.func23, Try.ntmps23
  go_wp2_with (first
    | (go_at_call 31; (with_reducible refine (away_any _ d 0 _).mono ?_); rintro e w0 ⟨gd, gr, gs, rfl, hd, hr, hs, hO⟩)
    | (go_at_call 29; (with_reducible refine (first_2 (h.ext hO) d 0 gd gr gs hd hr hs _ rfl 71).mono ?_); rintro e w1 ⟨rfl, hE⟩; rw [HD.out]))
  go_ret
  exact ⟨rfl, (h.ext hO).ext hE, Chg.of (hO.trans hE)⟩
theorem wipe_yes (h : RackAt w p s) (d : Nat) (hd : d < p.nd) : Calls Try.prog 23 #[.pointer (some ⟨p.gR, 0, none⟩), .int .i64 d] w fun e w' => e = .returned (.int .i64 0) ∧ RackAt w' p (wiped s d) ∧ Chg p w w' := by
  have hmf := mkf
  have ht : there p d 0 = true := by have := h.ok.ns1; simp [there]; omega
  have HD := Lib.hid (thereE_yes ht)
  have kd : (d : Int) < (p.nd : Int) := by omega
  have kd0 : (0 : Int) ≤ (d : Int) := by omega
  have n1 : 0 < p.ns := by have := h.ok.ns1; omega
  go_enter Try.func23, Try.ntmps23
  go_wp2_with (first
    | (go_at_call 31; (with_reducible refine (away_any _ d 0 _).mono ?_); rintro e w0 ⟨gd, gr, gs, rfl, hd1, hr, hs, hO⟩)
    | (go_at_call 29; (with_reducible refine (first_2 (h.ext hO) d 0 gd gr gs hd1 hr hs _ rfl 71).mono ?_); rintro e w1 ⟨rfl, hE⟩; rw [HD.out]; have hR := (h.ext hO).ext hE; have c0 := hR.r0; have c1 := hR.d0 d hd; have hse := hR.se d hd)
    | (with_reducible refine wpList_clear_cells rfl 54 78 (.tmp 23) rfl (.agg Z78) _ Try.underlying54 zero78 (p.gS d) 0 p.ns p.ns (65 * p.ns) _ (zero78c p.ns) n1 rfl hse (by rw [tabA_size]; omega) (zeC_one _) ?_; intro w2 hc2 hO2))
  go_ret
  exact ⟨rfl, hR.wipe d hd hc2 hO2, (Chg.of (hO.trans hE)).trans (Chg.only (.inr (.inr ⟨d, hd, rfl⟩)) hO2)⟩
end
