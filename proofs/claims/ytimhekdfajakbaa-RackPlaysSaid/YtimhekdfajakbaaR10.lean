import Derived.Test.YtimhekdfajakbaaR9
import Derived.Deep.RegionLaw
import Derived.Deep.MidRow
import Derived.StillTailTactics
namespace Go.Proofs.Ytimhekdfajakbaa
open Go.RowKit
theorem still_load {P : Program} {ops : Array Oper} {a : Act} {w : World} {o : Oper} {rest : List Oper} {Q : Act → Prop} (hgd : o.guard = none) (ty : TypeId) (x : Operand) (ho : o.op = .load ty x) (v : Value)
    (hx : (Instr.loadAt ty (a.eval x)).run P w = .ok v w) (h : wpStill P ops w Q rest (a.put o.dst v)) : wpStill P ops w Q (o :: rest) a := by
  refine wpStill_step fun K hK => ?_
  rw [if_pos (by simp [Region.wanted, hgd])]
  unfold Oper.still execOp
  simp only [ho, Sem.run_bind, Sem.run_pure, Result.andThen_ok, hx]
  exact ⟨rfl, hK _ h⟩
/-- Cells from off on are turned into those of cs. -/
def overC (off : Nat) (cs : Array Value) (f : Nat → Value) (j : Nat) : Value := if off ≤ j ∧ j < off + cs.size then cs.getD (j - off) undef else f j
theorem wpList_store_cells {P : Program} {ops : Array Oper} {rest : List Oper} {a : Act} {w : World} {Q : Exit → Act → World → Prop} {o : Oper} (hgd : o.guard = none) (t : TypeId) (x y : Operand) (ho : o.op = .store t x y) (g off n : Nat) (f : Nat → Value) (cs : Array Value)
    (hx : a.eval x = .pointer (some ⟨g, off, none⟩)) (hy : a.eval y = .agg cs) (hb : CellsAt w g n f) (hl : off + cs.size ≤ n) (hi : (P.info? t).map (·.size) = some cs.size)
    (h1 : ∀ v ∈ cs.toList, v.oneCell' = true) (h : ∀ w', CellsAt w' g n (overC off cs f) → OnlyB g w w' → wpList P ops Q rest (a.put o.dst undef) w') : wpList P ops Q (o :: rest) a w := by
  refine wpList_plain hgd fun _ hK => ?_
  obtain ⟨e, cur, hn, hbm, hf⟩ := hb
  obtain ⟨w', D, hst, hsz, hbm', hO, hat⟩ := run_storeCells_m P g off e cs.toList 0 cur w hbm (by simp; omega) h1
  have hrun : (storeVar t ⟨g, off, none⟩ (.agg cs)).run P w = .ok () w' := by
    cases hq : P.info? t with
    | none => simp [hq] at hi
    | some i =>
      have hs' : cs.size = i.size := by simp [hq] at hi; omega
      simp [storeVar, sizeOf, typeInfo, hq, Value.cells, ← hs', hst]
  unfold Oper.wp execOp
  simp only [ho, hx, hy, Instr.storeAt, Instr.sureAddr, Sem.run_bind, Sem.run_pure, Result.andThen_ok, hrun]
  refine hK _ _ (h w' ⟨e, D, by omega, hbm', fun j hj => ?_⟩ hO)
  rw [hat j]
  unfold overC
  by_cases hc : off ≤ j ∧ j < off + cs.size
  · rw [if_pos (by simpa using hc), if_pos hc, Array.getElem?_toList, Nat.add_zero, Array.getD_eq_getD_getElem?]
    rw [Array.getElem?_eq_getElem (by omega)]; rfl
  · rw [if_neg (by simpa using hc), if_neg hc, hf j hj]
theorem Chg.only {p : Pl} {g : Nat} {w w' : World} (hg : p.has g) (h : OnlyB g w w') : Chg p w w' :=
  ⟨h.os, h.tape, h.output, h.size, fun k hk hn => h.block k hk (fun e => hn (by cases e; exact hg))⟩
/-- The bytes of a text that is written, filled up with 0. -/
def padB (t : ByteArray) (j : Nat) : Nat := if j < t.size then bn t j else 0
def setSec (s : St) (d x : Nat) (t : ByteArray) : St := { s with sec := fun a b j => if a = d ∧ b = x then padB t j else s.sec a b j, bad := setNN s.bad d x false }
theorem padB_lt (t : ByteArray) (j : Nat) : padB t j < 256 := by unfold padB; split; exact bn_lt t j; omega
/-- What a sector's variable holds behind the copy. -/
def secA (t : ByteArray) : Array Value := tabA 65 (fun j => if j = 64 then .bool false else .int .u8 (padB t j))
theorem secA_of (t : ByteArray) (ht : t.size ≤ 64) : (Lib.byteCells t.data.toList ++ Z78.toList.drop t.size).toArray = secA t := by
  have h0 : (Lib.byteCells t.data.toList).length = t.size := by simp [Lib.byteCells]
  have hz : Z78.size = 65 := by decide +kernel
  refine tabA_of _ 65 _ (by simp [h0, hz]; omega) (fun i hi => ?_)
  rw [List.getElem?_toArray]
  by_cases h : i < t.size
  · rw [List.getElem?_append_left (by omega), if_neg (by omega), padB, if_pos h]
    have hl : i < t.data.toList.length := h
    unfold Lib.byteCells bn
    rw [List.getElem?_map, List.getD_eq_getElem?_getD, List.getElem?_eq_getElem hl]; rfl
  · rw [List.getElem?_append_right (by omega), h0, List.getElem?_drop, show t.size + (i - t.size) = i by omega, padB, if_neg h, Array.getElem?_toList]
    unfold Z78
    rw [Array.getElem?_push]
    by_cases e : i = 64
    · subst e; simp
    · rw [if_neg (by simp; omega), if_neg e, Array.getElem?_replicate, if_pos (by omega)]; rfl
theorem secA_size (t : ByteArray) : (secA t).size = 65 := tabA_size _ _
theorem secA_one (t : ByteArray) : ∀ v ∈ (secA t).toList, v.oneCell' = true := by
  intro v hv
  simp [secA, tabA] at hv
  obtain ⟨j, _, rfl⟩ := hv
  split <;> rfl
theorem RackAt.setSec {p : Pl} {s : St} {w w' : World} (h : RackAt w p s) (d x : Nat) (t : ByteArray) (hd : d < p.nd) (_ : x < p.ns)
    (hc : CellsAt w' (p.gS d) (65 * p.ns) (overC (x * 65) (secA t) (seC s d))) (hO : OnlyB (p.gS d) w w') : RackAt w' p (setSec s d x t) :=
  ⟨h.r.only hO (h.ok.rs d hd), h.d.only hO (h.ok.ds d hd), fun y hy => by
    by_cases e : y = d
    · subst e
      refine hc.congr fun j hj => ?_
      unfold overC seC
      rw [secA_size]
      simp only [Ytimhekdfajakbaa.setSec, setNN]
      by_cases hin : x * 65 ≤ j ∧ j < x * 65 + 65
      · rw [if_pos hin, secA, Array.getD_eq_getD_getElem?, tabA_at _ _ _ (by omega), Option.getD_some]
        have a2 : j / 65 = x := by omega
        have a3 : j - x * 65 = j % 65 := by omega
        simp [a2, a3]
      · rw [if_neg hin]
        have a2 : j / 65 ≠ x := by omega
        simp [a2]
    · refine ((h.se y hy).only hO (fun e3 => e (h.ok.ss y d hy hd e3))).congr fun j hj => ?_
      unfold seC
      simp only [Ytimhekdfajakbaa.setSec, setNN]
      by_cases e2 : j % 65 = 64
      · rw [if_pos e2, if_pos e2, if_neg (by omega)]
      · rw [if_neg e2, if_neg e2, if_neg (by omega)], ⟨h.ok.nd1, h.ok.nd2, h.ok.ns1, h.ok.ns2, h.ok.rd, h.ok.rs, h.ok.ds, h.ok.ss, fun a b j => by
    show (if a = d ∧ b = x then padB t j else s.sec a b j) < 256
    split
    · exact padB_lt _ _
    · exact h.ok.by_ _ _ _⟩⟩
theorem RackAt.only {p : Pl} {s : St} {g : Nat} {w w' : World} (h : RackAt w p s) (hO : OnlyB g w w') (hg : ¬ p.has g) : RackAt w' p s :=
  ⟨h.r.only hO (fun e => hg (.inl e.symm)), h.d.only hO (fun e => hg (.inr (.inl e.symm))), fun d hd => (h.se d hd).only hO (fun e => hg (.inr (.inr ⟨d, hd, e.symm⟩))), h.ok⟩
theorem RackAt.lt {p : Pl} {s : St} {w : World} (h : RackAt w p s) (k : Nat) (hk : p.has k) : k < w.heap.size := by
  rcases hk with rfl | rfl | ⟨d, hd, rfl⟩
  · exact h.r.lt
  · exact h.d.lt
  · exact (h.se d hd).lt
/-- The rack behind a write that is done. -/
def wrote (s : St) (d x : Nat) (t : ByteArray) : St := { setSec { s with left := s.left - 1 } d x t with cnt := setN s.cnt d (s.cnt d + 1) }
section
variable {p : Pl} {s : St} {w : World}
set_option maxRecDepth 100000 in
theorem write_yes (h : RackAt w p s) (d x : Nat) (t : ByteArray) (hd : d < p.nd) (hx : x < p.ns) (ht : t.size ≤ 64) (hs : (s.cut && (s.left == 0)) = false) (hl : -9223372036854775807 ≤ s.left ∧ s.left ≤ 9223372036854775807) (hcnt : s.cnt d ≤ 1000000) :
    Calls Try.prog 19 #[.pointer (some ⟨p.gR, 0, none⟩), .int .i64 d, .int .i64 x, .string t] w fun e w' => e = .returned (.int .i64 0) ∧ RackAt w' p (wrote s d x t) ∧ Chg p w w' := by
  have hmf := mkf
  have hO := (Ext.refl w).alloc (.cells #[.string t] 9)
  have hb : (w.alloc (.cells #[.string t] 9)).cell? ⟨w.heap.size, 0, none⟩ = some (.string t) := (Blk.new w 9 #[.string t]).cell 0
  have hth : there p d x = true := by simp [there]; omega
  have hEE : writeE p s d x t = 0 := by unfold writeE; rw [if_pos hth, if_neg (by omega), hs]; rfl
  have HEE := Lib.hid hEE
  have kd : (d : Int) < (p.nd : Int) := by omega
  have kd0 : (0 : Int) ≤ (d : Int) := by omega
  have kx : (x : Int) < (p.ns : Int) := by omega
  have kx0 : (0 : Int) ≤ (x : Int) := by omega
  obtain ⟨hl1, hl2⟩ := hl
  clear hEE hth hs
  go_enter Try.func19, Try.ntmps19
  go_wp2_with (first
    | (go_at_call 31; (with_reducible refine (away_any _ d x _).mono ?_); rintro e w0 ⟨gd, gr, gs, rfl, hd1, hr, hs1, hE0⟩; have hb0 := hE0.cellv hb)
    | (go_at_call 29; (with_reducible refine (first_write ((h.ext hO).ext hE0) d x t gd gr gs _ hd1 hr hs1 hb0 _ rfl 71).mono ?_); rintro e w1 ⟨rfl, hE⟩; rw [HEE.out]; have hR := ((h.ext hO).ext hE0).ext hE; have r2 := hR.r2; have f2 := hR.r.frozen 2 (by omega))
    | (with_reducible refine wpList_alloc_big rfl 78 rfl Z78 zero78 ?_))
  have hgt : ¬ p.has w.heap.size := fun hk => by have := h.lt _ hk; omega
  have hb1 := hE.cellv hb0
  have hRs := hR.setLeft (s.left - 1)
  have hCs : Chg p w1 (w1.setCell ⟨p.gR, 2, none⟩ (.int .i64 (s.left - 1))) := Chg.set_ (.inl rfl) _
  have hbs : (w1.setCell ⟨p.gR, 2, none⟩ (.int .i64 (s.left - 1))).cell? ⟨w.heap.size, 0, none⟩ = some (.string t) := by
    rw [← hb1]
    have z1 := hE.sz
    have z2 := hE0.sz
    have z3 : (w.alloc (.cells #[.string t] 9)).heap.size = w.heap.size + 1 := by simp
    have z4 : w.heap.size < w1.heap.size := by omega
    exact World.cell?_of_block (hCs.block w.heap.size z4 hgt)
  have hC0 := (Chg.of (p := p) ((hO.trans hE0).trans hE)).trans hCs
  generalize w1.setCell ⟨p.gR, 2, none⟩ (.int .i64 (s.left - 1)) = ws at *
  have hBn := Blk.new ws 78 Z78
  have hEa := (Ext.refl ws).alloc (.cells Z78 78)
  have hb5 := hEa.cellv hbs
  have hR5 := hRs.ext hEa
  generalize ws.alloc (.cells Z78 78) = w5 at *
  obtain ⟨gb, hgb⟩ : ∃ gb, gb = ws.heap.size := ⟨_, rfl⟩
  obtain ⟨gt, hgt2⟩ : ∃ gt, gt = w.heap.size := ⟨_, rfl⟩
  have hgbN : ¬ p.has gb := fun hk => by have := hRs.lt _ hk; omega
  rw [← hgb] at hBn
  rw [← hgt2] at hb5
  rw [← hgb, ← hgt2]
  have HGB := Lib.hid hgb
  have HGT := Lib.hid hgt2
  clear r2 f2 hb1 hbs hgb hgt2
  have z78 : t.size ≤ Z78.size := by rw [show Z78.size = 65 by decide +kernel]; omega
  go_region_law (refine step_copy_str _ (by rfl) (.tmp 35) (.tmp 36) 48 9 5 (by rfl) Try.underlying48 (by kernel_rfl) gb 64 64 78 Z78 t (by simp [Act.eval]) (by simp [Act.eval]) hBn ht z78 ?_; intro w6 hB6 hO6)
  have hO6 : OnlyB gb w5 w6 := ((OnlyB.refl gb w5).drew).trans hO6
  rw [secA_of t ht] at hB6
  have hR6 := hR5.only hO6 hgbN
  have hC6 : Chg p w w6 := hC0.trans (Chg.of (hEa.only (by rw [HGB.out]; exact Nat.le_refl _) hO6))
  have hrg : (w6.drew).rangeAt gb 0 (secA t).toList := fun j v hj => by
    rw [Nat.zero_add]
    have := hB6.drew.cell j
    rw [this, ← Array.getElem?_toList]; exact hj
  have ld3 : (Instr.loadAt 78 (.pointer (some ⟨gb, 0, none⟩))).run Try.prog { w6 with drawn := w6.drawn + 1 } = .ok (.agg (secA t)) { w6 with drawn := w6.drawn + 1 } := by
    have := run_loadAt_mid (P := Try.prog) w6.drew gb 0 78 (secA t).toList _ hrg Try.underlying78 rfl (by rw [Array.length_toList, secA_size]; kernel_rfl)
    simpa using this
  have c0 := hR6.r0
  have c1 := hR6.d0 d hd
  have HB6 := Lib.hid hB6
  clear hrg hB6 hBn z78 hgt
  go_wp2_with fail
  go_still_tail 11, (by kernel_rfl)
  refine still_load (by rfl) 78 (.tmp 11) (by rfl) _ ld3 ?_
  still_step
  refine wpStill_nil ?_
  clear ld3 c0 c1
  have hse := (hR6.se d hd).drew
  have hR6d := hR6.ext (Ext.drew (Ext.refl _))
  have hC6d := hC6.trans (Chg.of (p := p) (Ext.drew (Ext.refl _)))
  generalize hw6 : w6.drew = w6d at *
  unfold World.drew at hw6
  rw [hw6]
  clear hw6 hR6 hC6
  refine wpList_store_cells rfl 78 (.tmp 48) (.tmp 47) rfl (p.gS d) (x * 65) (65 * p.ns) (seC _ d) (secA t) rfl rfl hse (by rw [secA_size]; omega) (by rw [secA_size]; kernel_rfl) (secA_one t) ?_
  intro w7 hc7 hO7
  have hR7 := hR6d.setSec d x t hd hx hc7 hO7
  have hC7 := hC6d.trans (Chg.only (.inr (.inr ⟨d, hd, rfl⟩)) hO7)
  have c0 := hR7.r0
  have c1 : w7.cell? ⟨p.gD, d * 2 + 1, none⟩ = some (.int .u64 (s.cnt d)) := hR7.d1 d hd
  have f1 := hR7.d.frozen (d * 2 + 1) (by omega)
  have n1 : (0 : Int) ≤ (s.cnt d : Int) := by omega
  have n2 : (s.cnt d : Int) ≤ 1000000 := by omega
  clear hc7 hO7 hse hR6d hC6d
  go_wp2
  go_ret
  have hfin := hR7.setCnt d (s.cnt d + 1) hd
  rw [Int.natCast_add] at hfin
  exact ⟨rfl, hfin, hC7.trans (Chg.set_ (a := ⟨p.gD, d * 2 + 1, none⟩) (.inr (.inl rfl)) _)⟩
end
