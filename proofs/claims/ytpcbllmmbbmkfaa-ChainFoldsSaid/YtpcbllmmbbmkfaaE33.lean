import Derived.Test.YtpcbllmmbbmkfaaE32
import Derived.Deep.RegionHeld3
import Derived.Deep.CutBlock
import Derived.Deep.Cut
namespace Go.Proofs.Ytpcbllmmbbmkfaa
open Go.RowKit Go.Nb
/-- A piece that is handed on (the two bases apart). -/
theorem open_s39 {H : Type} {enc : TypeId × Value → H} {w : World} {base b2 : Nat} {spare : Nat → Bool} {held : Bool} {v : Value} {d : DataW H} {ps : List MemPlace} (hv : Value.okWide Try.prog w .any b2 39 v) (h : DataW.Trod enc Try.prog w base spare held 39 v d ps) :
    ∃ p : Pc, v = .agg #[.int .i64 p.row, .int .u64 p.st, .int .i64 p.len] ∧ d = .agg [.lit (.int .i64 p.row), .lit (.int .u64 p.st), .lit (.int .i64 p.len)] ∧ ps = [] ∧ ((Lit.int .i64 p.row).wf = true ∧ (Lit.int .u64 p.st).wf = true ∧ (Lit.int .i64 p.len).wf = true) := by
  obtain ⟨cs, rfl, _⟩ := Go.WideShapes.okWide_struct Try.underlying39 hv
  obtain ⟨fuel, hf⟩ := h
  obtain ⟨p, h1, w0, w1, w2, _, h2⟩ := open_pc hf
  rw [Prod.mk.injEq] at h2
  refine ⟨p, ?_, h2.1, h2.2, w0, w1, w2⟩
  have : cs.toList = pcc p := by simpa [Value.cells] using h1
  congr 1
  apply Array.toList_inj.1
  rw [this]; rfl
theorem LkVP.set3 {P : Value → List Pc → Prop} : ∀ {xs : List Value} {l : List Lk} (i : Nat) (q : Pc), LkVP P xs l → LkVP P (((xs.set (i * 7 + 4) (.int .i64 q.row)).set (i * 7 + 5) (.int .u64 q.st)).set (i * 7 + 6) (.int .i64 q.len)) (l.set i { l.getD i default with before := q })
  | [], [], _, _, _ => by simp [LkVP]
  | _ :: _ :: _ :: _ :: _ :: _ :: _ :: _, _ :: _, 0, _, h => ⟨⟨h.1.1, h.1.2.1, h.1.2.2.1, h.1.2.2.2.1, rfl, rfl, rfl⟩, h.2⟩
  | _ :: _ :: _ :: _ :: _ :: _ :: _ :: xs, k :: l, i + 1, q, h => by
    have := LkVP.set3 i q h.2
    rw [show (i + 1) * 7 + 4 = i * 7 + 4 + 1 + 1 + 1 + 1 + 1 + 1 + 1 by omega, show (i + 1) * 7 + 5 = i * 7 + 5 + 1 + 1 + 1 + 1 + 1 + 1 + 1 by omega, show (i + 1) * 7 + 6 = i * 7 + 6 + 1 + 1 + 1 + 1 + 1 + 1 + 1 by omega]
    simp only [List.set_cons_succ, List.getD_cons_succ]
    exact ⟨h.1, this⟩
theorem LkOw.blk {w : World} {base n c : Nat} {A : Option Addr} {l : List Lk} (h : LkOw w base A n c l) (hn : 0 < n) : ∃ g cur, A = some ⟨g, 0, none⟩ ∧ base ≤ g ∧ w.heap[g]? = some (.cells cur 41 (0, 0)) := by
  obtain ⟨h1, xs, h2, h3⟩ := h
  rcases h2.2 with ⟨h4, h0⟩ | ⟨g', cap, cur, hv, h4, h5, _⟩
  · omega
  · injection hv with e1 e2 e3
    exact ⟨g', cur, e1, h4, h5⟩
theorem LkOw.put3 {w : World} {base n c g : Nat} {l : List Lk} (h : LkOw w base (some ⟨g, 0, none⟩) n c l) (k : Nat) (q : Pc) (hk : k < n) :
    LkOw (((w.setCell ⟨g, k * 7 + 4, none⟩ (.int .i64 q.row)).setCell ⟨g, k * 7 + 5, none⟩ (.int .u64 q.st)).setCell ⟨g, k * 7 + 6, none⟩ (.int .i64 q.len)) base (some ⟨g, 0, none⟩) n c (l.set k { l.getD k default with before := q }) := by
  obtain ⟨g', cur, e, hgb, hcur⟩ := h.blk (by omega)
  injection e with e; injection e with e
  subst e
  obtain ⟨h1, xs, h2, h3⟩ := h
  have hc2 : (w.setCell ⟨g, k * 7 + 4, none⟩ (.int .i64 q.row)).heap[g]? = some (.cells (cur.setIfInBounds (k * 7 + 4) (.int .i64 q.row)) 41 (0, 0)) := by
    simp [World.setCell, Array.getElem?_modify, hcur]
  have hc3 : ((w.setCell ⟨g, k * 7 + 4, none⟩ (.int .i64 q.row)).setCell ⟨g, k * 7 + 5, none⟩ (.int .u64 q.st)).heap[g]? = some (.cells ((cur.setIfInBounds (k * 7 + 4) (.int .i64 q.row)).setIfInBounds (k * 7 + 5) (.int .u64 q.st)) 41 (0, 0)) := by
    simp [World.setCell, Array.getElem?_modify, hcur]
  exact ⟨by rw [List.length_set]; exact h1, _, own_put (own_put (own_put h2)), (h3.set3 k q).mono fun _ _ z => ((z.set hcur (by decide) hgb).set hc2 (by decide) hgb).set hc3 (by decide) hgb⟩
theorem LkOw.frz {w : World} {base n c g : Nat} {l : List Lk} (h : LkOw w base (some ⟨g, 0, none⟩) n c l) (k : Nat) : w.frozen? ⟨g, k, none⟩ = false := by
  obtain ⟨_, xs, h2, _⟩ := h
  exact own_frozen h2 k
theorem wholeB_at {b : Pc} {R : List Rf} {k : Nat} (hk : k < R.length) : (wholeB b R).getD k default = ⟨0, 0, R.getD k default, if k = 0 then b else P0⟩ := by
  cases R with
  | nil => simp at hk
  | cons r R =>
    cases k with
    | zero => rfl
    | succ k =>
      have hk' : k < R.length := by simpa using hk
      simp [wholeB, List.getD_eq_getElem?_getD, List.getElem?_eq_getElem hk']
theorem wholeB_z {b pq : Pc} {R : List Rf} {k : Nat} (_ : pq = b) (h0 : k = 0) (hk : k < R.length) : (wholeB pq R).getD k default = ⟨0, 0, R.getD k default, pq⟩ := by
  rw [wholeB_at hk, if_pos h0]
theorem wholeB_s {pq : Pc} {R : List Rf} {k : Nat} (hp : pq = P0) (h0 : ¬ k = 0) (hk : k < R.length) : (wholeB pq R).getD k default = ⟨0, 0, R.getD k default, pq⟩ := by
  rw [wholeB_at hk, if_neg h0, hp]
theorem wholeB_set {b : Pc} {R : List Rf} {k : Nat} (hk : k < R.length) : (wholeB (if k = 0 then b else P0) R).set k { (wholeB (if k = 0 then b else P0) R).getD k default with before := P0 } = wholeB P0 R := by
  rw [wholeB_at hk]
  cases R with
  | nil => simp at hk
  | cons r R =>
    cases k with
    | zero => simp [wholeB]
    | succ k =>
      have hk' : k < R.length := by simpa using hk
      have e : wholeB (if k + 1 = 0 then b else P0) (r :: R) = wholeB P0 (r :: R) := by rw [if_neg (by omega)]
      rw [e]
      apply List.ext_getElem (by simp)
      intro i h1 h2
      rw [List.getElem_set]
      split
      · next h => subst h; simp [wholeB, List.getD_eq_getElem?_getD, List.getElem?_eq_getElem hk']
      · rfl
theorem wholeB_zero (R : List Rf) : wholeB P0 R = R.map fun r => ⟨0, 0, r, P0⟩ := by
  cases R <;> rfl
theorem whole_is (T : List Rf) : wholeB P0 T.reverse = wholeL T := by rw [wholeB_zero]; rfl
theorem FewB {T : List Rf} (h : Few T) : FewK (wholeL T) := by
  intro x hx
  unfold wholeL at hx
  obtain ⟨r, hr, rfl⟩ := List.mem_map.mp hx
  exact h r (List.mem_reverse.mp hr)
/-- May the first tables be? -/
def mayT (T : List Rf) (k : Nat) : Bool := decide (T.length ≤ 64) && (T.take k).all mayR
theorem mayT_succ {T : List Rf} {k : Nat} (hk : k < T.length) : mayT T (k + 1) = (mayT T k && mayR (T.getD k default)) := by
  unfold mayT
  rw [take_snoc hk, List.all_append, Bool.and_assoc]
  simp
theorem mayT_all {T : List Rf} (h : mayT T T.length = true) : T.length ≤ 64 ∧ ∀ r ∈ T, mayR r = true := by
  unfold mayT at h
  simp only [Bool.and_eq_true, decide_eq_true_eq, List.take_length, List.all_eq_true] at h
  exact h
theorem heldB {W w w' : World} {k : Nat} {x y z : Value} (h : w.cell? ⟨k, 0, none⟩ = some x ∧ w.cell? ⟨k, 1, none⟩ = some y ∧ w.cell? ⟨k, 2, none⟩ = some z ∧ Ext W w) (hE : Ext w w') : w'.cell? ⟨k, 0, none⟩ = some x ∧ w'.cell? ⟨k, 1, none⟩ = some y ∧ w'.cell? ⟨k, 2, none⟩ = some z ∧ Ext W w' := ⟨hE.cellv h.1, hE.cellv h.2.1, hE.cellv h.2.2.1, h.2.2.2.trans hE⟩
set_option maxRecDepth 100000 in
set_option maxHeartbeats 8000000 in
theorem chainWhole_walk (A : Option Addr) (n c : Nat) (T : List Rf) (b : Pc) (W : World) (rd : RfRd W A n T) (mm : n ≤ maxLen) (ok : n ≤ c ∧ Few T) (_ : (Lit.int .i64 b.row).wf = true ∧ (Lit.int .u64 b.st).wf = true ∧ (Lit.int .i64 b.len).wf = true) :
    Calls Try.prog 4 #[.slice A n c, .agg #[.int .i64 b.row, .int .u64 b.st, .int .i64 b.len]] W fun e w' => e = .returned (.bool true) ∧ Ext W w' := by
  have HWK := Lib.hid (fun w => works_any w)
  have hEB : Ext W (W.alloc (.cells #[.int .i64 b.row, .int .u64 b.st, .int .i64 b.len] 39)) := (Ext.refl W).alloc _
  have hzB : (W.alloc (.cells #[.int .i64 b.row, .int .u64 b.st, .int .i64 b.len] 39)).heap.size = W.heap.size + 1 := World.size_alloc _ _
  have hB0 : Blk (W.alloc (.cells #[.int .i64 b.row, .int .u64 b.st, .int .i64 b.len] 39)) W.heap.size 39 #[.int .i64 b.row, .int .u64 b.st, .int .i64 b.len] := Blk.new W 39 _
  obtain ⟨W0, hW0⟩ : ∃ W0, W0 = W.alloc (.cells #[.int .i64 b.row, .int .u64 b.st, .int .i64 b.len] 39) := ⟨_, rfl⟩
  have HV := Lib.hid (heavy_any (A := none) (c := 0) (d := c) (lnrd_nil W0 none) (by rw [hW0]; exact rd.ext hEB) (Nat.zero_le _) mm)
  have HB0 : Hid (Blk W0 W.heap.size 39 #[.int .i64 b.row, .int .u64 b.st, .int .i64 b.len]) := Lib.hid (by rw [hW0]; exact hB0)
  have HE0 : Hid (Ext W W0) := Lib.hid (by rw [hW0]; exact hEB)
  have HZ0 : Hid (W0.heap.size = W.heap.size + 1) := Lib.hid (by rw [hW0]; exact hzB)
  cases hh : heavyL [] T
  · rw [hh] at HV
    have hn : n ≤ 200 := by have := (heavyL_few hh).2; rw [rd.1] at this; exact this
    have HRT := Lib.hid (fun w (hE : Ext W w) => refs_any (c := c) (rd.ext hE) (by omega) ok.2)
    have HWH := Lib.hid (fun w A1 c1 (h : RfRd w A1 n T) => whole_any (c := c1) h (by omega) ok.2 b)
    have HRD := Lib.hid rd
    have HF := Lib.hid ok.2
    have HN := Lib.hid hn
    have HTL := Lib.hid rd.1
    have HW0 := Lib.hid hW0
    clear hh rd mm ok hn hEB hzB hB0
    go_enter Try.func4, Try.ntmps4
    go_wp2_with (go_at_call 6; rw [← hW0]; (with_reducible refine HV.out.mono ?_); rintro e w1 ⟨rfl, hE1⟩)
    have hE := HE0.out.trans hE1
    have c0 := hE1.cellv (HB0.out.cell 0)
    have c1 := hE1.cellv (HB0.out.cell 1)
    have c2 := hE1.cellv (HB0.out.cell 2)
    simp at c0 c1 c2
    clear hW0
    go_region_held3 (fun w' => w'.cell? ⟨W.heap.size, 0, none⟩ = some (.int .i64 b.row) ∧ w'.cell? ⟨W.heap.size, 1, none⟩ = some (.int .u64 b.st) ∧ w'.cell? ⟨W.heap.size, 2, none⟩ = some (.int .i64 b.len) ∧ Ext W w')
      (first | exact ⟨c0, c1, c2, hE.drew⟩ | exact heldB (by assumption) hE3 | exact heldB (by assumption) hE2)
      (first
        | (go_at_call 13; refine (HRT.out _ hE.drew).mono ?_; rintro e w2 ⟨A2, d2, rfl, hP2, hE2⟩; have HP2 := Lib.hid hP2.rd; clear hP2)
        | (go_at_call 16; refine (HWH.out _ _ _ HP2.out).mono ?_; rintro e w3 ⟨A3, d3, rfl, hP3, hE3⟩; have HP3 := Lib.hid hP3; clear hP3))
    all_goals (
      have hX3 := (hE.drew.trans hE2).trans hE3
      have hB3 := HB0.out.ext ((hE1.drew.trans hE2).trans hE3)
      have HW3 : Hid (∃ bs, W.heap.size + 1 ≤ bs ∧ LkOw w3 bs A3 n d3 (wholeB b T.reverse)) := Lib.hid ⟨_, by
        have h1 := hE1.size
        have h2 := hE2.size
        have h3 := HZ0.out
        exact Nat.le_trans (h3 ▸ h1) h2, HP3.out⟩
      obtain ⟨bs, hbs, hlo⟩ := HW3.out
      have HBS := Lib.hid hbs
      have HLO := Lib.hid hlo
      have HB3 := Lib.hid hB3
      clear HW3 hbs hlo hB3 HP3 HWH HV HB0 HZ0
      have tn : ((n : Int) != (n : Int)) = false := by simp
      go_wp2
      go_loopw [6, 7] (fun mv iv wr => ∃ (k : Nat) (q : Bool), k ≤ n ∧ mv = .bool q ∧ iv = .int .i64 k ∧ Hid (q = mayT T k) ∧ Hid (Blk wr W.heap.size 39 #[.int .i64 b.row, .int .u64 b.st, .int .i64 b.len]) ∧ Hid (LkOw wr bs A3 n d3 (wholeB (if k = 0 then b else P0) T.reverse)) ∧ Ext W wr) (fun _ iv _ => n - (intOf iv).toNat)
      case atStart => exact ⟨0, _, by omega, rfl, rfl, Lib.hid (by unfold mayT; rw [HTL.out, List.take_zero, List.all_nil, Bool.and_true, decide_eq_decide]; omega), HB3, HLO, hX3⟩
      case round =>
        clear hX3 hE2 hE3 hE1 hE HB3 HLO
        obtain ⟨k, q, hk, rfl, rfl, hq, hbx, hlo, hE⟩ := hrel
        by_cases hk2 : k < n
        · have kk : (k : Int) < (n : Int) := by omega
          have kk0 : (0 : Int) ≤ (k : Int) := by omega
          have kb : (k : Int) < 200 := by have := HN.out; omega
          obtain ⟨g, cur, rfl, hgb, hcur⟩ := hlo.out.blk (by omega)
          obtain ⟨g0, o0, u0, rfl, t0, t1, hv⟩ := (HRD.out.ext hE).at_ k hk2
          obtain ⟨r, hr⟩ : ∃ r, r = T.getD k default := ⟨_, rfl⟩
          have f1 : r.ps.length ≤ 1048576 := by rw [hr]; exact HF.out.at_ k
          rw [← hr] at t0 hv
          obtain ⟨C1, k1, rfl, r1, r2, r3⟩ := hv
          have HMR := Lib.hid (rmayRef_any r (c := k1) r1 f1)
          have hqs := mayT_succ (T := T) (k := k) (by rw [HTL.out]; exact hk2)
          rw [← hr, ← hq.out] at hqs
          have HQS := Lib.hid hqs
          have HGB := Lib.hid hgb
          obtain ⟨mr, hmr⟩ : ∃ m, m = mayR r := ⟨_, rfl⟩
          rw [← hmr] at HMR HQS
          clear hr r1 r2 r3 f1 hqs hgb hcur hmr
          obtain ⟨pq, hpq⟩ : ∃ q, q = if k = 0 then b else P0 := ⟨_, rfl⟩
          rw [← hpq] at hlo
          by_cases hk0 : k = 0
          · have kn1 : ((k : Int) == 0) = true := by simp; omega
            have kn2 : (k : Int) = 0 := by omega
            rw [if_pos hk0] at hpq
            have HPQ := Lib.hid hpq
            have HK0 := Lib.hid hk0
            clear hpq hk0 kn2
            cases q
            · have hlo1 := hlo
              have hbx1 := hbx
              have hbx2 := hbx1.out.ext ((Ext.refl wr).alloc (.cells #[.int .i64 0, .int .u64 0, .int .i64 0] 39))
              have b0 := hbx2.cell 0
              have b1 := hbx2.cell 1
              have b2 := hbx2.cell 2
              simp at b0 b1 b2
              clear hbx2
              go_upto_region 14 with fail
              obtain ⟨V, hV⟩ : ∃ V, V = wr.alloc (.cells #[.int .i64 b.row, .int .u64 b.st, .int .i64 b.len] 39) := ⟨_, rfl⟩
              rw [← hV]
              have hEV : Ext wr V := by rw [hV]; exact (Ext.refl wr).alloc _
              have hWB : Blk V wr.heap.size 39 #[.int .i64 pq.row, .int .u64 pq.st, .int .i64 pq.len] := by
                rw [hV, HPQ.out]; exact Blk.new wr 39 _
              have hlo2 := hlo1.out.ext hEV
              have hbx2 := hbx1.out.ext hEV
              have hE2 := hE.trans hEV
              clear hV hlo1 hbx1 hEV
              obtain ⟨z, hz⟩ : ∃ z, z = wr.heap.size := ⟨_, rfl⟩
              rw [← hz] at hWB ⊢
              clear hz
              have hrl : T.reverse.length = n := by rw [List.length_reverse]; exact HTL.out
              obtain ⟨g', o', u', hA', m0, m1, -, -, -, m4, m5, m6⟩ := hlo2.rd.at_ k hk2
              injection hA' with hA'; injection hA' with e1 e2
              subst e1 e2
              rw [wholeB_z (HPQ.out) HK0.out (by rw [hrl]; exact hk2)] at m0 m1 m4 m5 m6
              have x0 := hWB.cell 0
              have x1 := hWB.cell 1
              have x2 := hWB.cell 2
              have f4 := hlo2.frz (k * 7 + 4)
              have f5 := hlo2.frz (k * 7 + 4 + 1)
              have f6 := hlo2.frz (k * 7 + 4 + 2)
              have HLO2 := Lib.hid hlo2
              have HBX2 := Lib.hid hbx2
              have heq := fun (w : World) => eqPc pq.row pq.st pq.len pq.row pq.st pq.len w
              simp only [beq_self_eq_true, Bool.and_self] at heq
              clear hWB hlo2 hbx2
              simp only [Nat.zero_add] at m0 m1 m4 m5 m6
              simp at x0 x1 x2
              have HPZ : Hid (pq = if k = 0 then b else P0) := Lib.hid (by rw [if_pos HK0.out]; exact HPQ.out)
              generalize pq.row = y0 at *
              generalize pq.st = y1 at *
              generalize pq.len = y2 at *
              go_quiet (fail)
              go_wp2
              have hgn : W.heap.size ≤ g := by have h1 := HBS.out; have h2 := HGB.out; omega
              have hne : W.heap.size ≠ g := by have h1 := HBS.out; have h2 := HGB.out; omega
              refine ⟨⟨k + 1, _, by omega, rfl, rfl, Lib.hid (by rw [HQS.out]; rfl), Lib.hid ((((HBX2.out.ext ((Ext.refl V).drewN _)).far (p := ⟨g, k * 7 + 4, none⟩) hne _).far (p := ⟨g, k * 7 + 4 + 1, none⟩) hne _).far (p := ⟨g, k * 7 + 4 + 2, none⟩) hne _), Lib.hid ?_, (((hE2.drewN _).setCell (p := ⟨g, k * 7 + 4, none⟩) hgn _).setCell (p := ⟨g, k * 7 + 4 + 1, none⟩) hgn _).setCell (p := ⟨g, k * 7 + 4 + 2, none⟩) hgn _⟩, by simp [intOf]; omega⟩
              have hlast := (HLO2.out.ext ((Ext.refl V).drewN nq)).put3 k P0 hk2
              rw [if_neg (by omega : ¬ k + 1 = 0)]
              rw [HPZ.out, wholeB_set (by rw [hrl]; exact hk2)] at hlast
              exact hlast
            · go_upto_region 14 with (go_at_call 17; (with_reducible refine HMR.out.mono ?_); rintro e v1 ⟨rfl, hE1⟩; have hE := hE.trans hE1; have hlo1 := Lib.hid (hlo.out.ext hE1); have hbx1 := Lib.hid (hbx.out.ext hE1); have hbx2 := hbx1.out.ext ((Ext.refl v1).alloc (.cells #[.int .i64 0, .int .u64 0, .int .i64 0] 39)); have b0 := hbx2.cell 0; have b1 := hbx2.cell 1; have b2 := hbx2.cell 2; simp at b0 b1 b2; clear hbx2)
              obtain ⟨V, hV⟩ : ∃ V, V = v1.alloc (.cells #[.int .i64 b.row, .int .u64 b.st, .int .i64 b.len] 39) := ⟨_, rfl⟩
              rw [← hV]
              have hEV : Ext v1 V := by rw [hV]; exact (Ext.refl v1).alloc _
              have hWB : Blk V v1.heap.size 39 #[.int .i64 pq.row, .int .u64 pq.st, .int .i64 pq.len] := by
                rw [hV, HPQ.out]; exact Blk.new v1 39 _
              have hlo2 := hlo1.out.ext hEV
              have hbx2 := hbx1.out.ext hEV
              have hE2 := hE.trans hEV
              clear hV hlo1 hbx1 hEV
              obtain ⟨z, hz⟩ : ∃ z, z = v1.heap.size := ⟨_, rfl⟩
              rw [← hz] at hWB ⊢
              clear hz
              have hrl : T.reverse.length = n := by rw [List.length_reverse]; exact HTL.out
              obtain ⟨g', o', u', hA', m0, m1, -, -, -, m4, m5, m6⟩ := hlo2.rd.at_ k hk2
              injection hA' with hA'; injection hA' with e1 e2
              subst e1 e2
              rw [wholeB_z (HPQ.out) HK0.out (by rw [hrl]; exact hk2)] at m0 m1 m4 m5 m6
              have x0 := hWB.cell 0
              have x1 := hWB.cell 1
              have x2 := hWB.cell 2
              have f4 := hlo2.frz (k * 7 + 4)
              have f5 := hlo2.frz (k * 7 + 4 + 1)
              have f6 := hlo2.frz (k * 7 + 4 + 2)
              have HLO2 := Lib.hid hlo2
              have HBX2 := Lib.hid hbx2
              have heq := fun (w : World) => eqPc pq.row pq.st pq.len pq.row pq.st pq.len w
              simp only [beq_self_eq_true, Bool.and_self] at heq
              clear hWB hlo2 hbx2
              simp only [Nat.zero_add] at m0 m1 m4 m5 m6
              simp at x0 x1 x2
              have HPZ : Hid (pq = if k = 0 then b else P0) := Lib.hid (by rw [if_pos HK0.out]; exact HPQ.out)
              generalize pq.row = y0 at *
              generalize pq.st = y1 at *
              generalize pq.len = y2 at *
              go_quiet (fail)
              go_wp2
              have hgn : W.heap.size ≤ g := by have h1 := HBS.out; have h2 := HGB.out; omega
              have hne : W.heap.size ≠ g := by have h1 := HBS.out; have h2 := HGB.out; omega
              refine ⟨⟨k + 1, _, by omega, rfl, rfl, Lib.hid (by rw [HQS.out, Bool.true_and]), Lib.hid ((((HBX2.out.ext ((Ext.refl V).drewN _)).far (p := ⟨g, k * 7 + 4, none⟩) hne _).far (p := ⟨g, k * 7 + 4 + 1, none⟩) hne _).far (p := ⟨g, k * 7 + 4 + 2, none⟩) hne _), Lib.hid ?_, (((hE2.drewN _).setCell (p := ⟨g, k * 7 + 4, none⟩) hgn _).setCell (p := ⟨g, k * 7 + 4 + 1, none⟩) hgn _).setCell (p := ⟨g, k * 7 + 4 + 2, none⟩) hgn _⟩, by simp [intOf]; omega⟩
              have hlast := (HLO2.out.ext ((Ext.refl V).drewN nq)).put3 k P0 hk2
              rw [if_neg (by omega : ¬ k + 1 = 0)]
              rw [HPZ.out, wholeB_set (by rw [hrl]; exact hk2)] at hlast
              exact hlast
          · have kn1 : ((k : Int) == 0) = false := by simp; omega
            rw [if_neg hk0] at hpq
            have HPQ := Lib.hid hpq
            have HK0 := Lib.hid hk0
            clear hpq hk0
            cases q
            · have hlo1 := hlo
              have hbx1 := hbx
              go_upto_region 14 with fail
              obtain ⟨V, hV⟩ : ∃ V, V = wr.alloc (.cells #[.int .i64 0, .int .u64 0, .int .i64 0] 39) := ⟨_, rfl⟩
              rw [← hV]
              have hEV : Ext wr V := by rw [hV]; exact (Ext.refl wr).alloc _
              have hWB : Blk V wr.heap.size 39 #[.int .i64 pq.row, .int .u64 pq.st, .int .i64 pq.len] := by
                rw [hV, HPQ.out]; exact Blk.new wr 39 _
              have hlo2 := hlo1.out.ext hEV
              have hbx2 := hbx1.out.ext hEV
              have hE2 := hE.trans hEV
              clear hV hlo1 hbx1 hEV
              obtain ⟨z, hz⟩ : ∃ z, z = wr.heap.size := ⟨_, rfl⟩
              rw [← hz] at hWB ⊢
              clear hz
              have hrl : T.reverse.length = n := by rw [List.length_reverse]; exact HTL.out
              obtain ⟨g', o', u', hA', m0, m1, -, -, -, m4, m5, m6⟩ := hlo2.rd.at_ k hk2
              injection hA' with hA'; injection hA' with e1 e2
              subst e1 e2
              rw [wholeB_s (HPQ.out) HK0.out (by rw [hrl]; exact hk2)] at m0 m1 m4 m5 m6
              have x0 := hWB.cell 0
              have x1 := hWB.cell 1
              have x2 := hWB.cell 2
              have f4 := hlo2.frz (k * 7 + 4)
              have f5 := hlo2.frz (k * 7 + 4 + 1)
              have f6 := hlo2.frz (k * 7 + 4 + 2)
              have HLO2 := Lib.hid hlo2
              have HBX2 := Lib.hid hbx2
              have heq := fun (w : World) => eqPc pq.row pq.st pq.len pq.row pq.st pq.len w
              simp only [beq_self_eq_true, Bool.and_self] at heq
              clear hWB hlo2 hbx2
              simp only [Nat.zero_add] at m0 m1 m4 m5 m6
              simp at x0 x1 x2
              have HPZ : Hid (pq = if k = 0 then b else P0) := Lib.hid (by rw [if_neg HK0.out]; exact HPQ.out)
              generalize pq.row = y0 at *
              generalize pq.st = y1 at *
              generalize pq.len = y2 at *
              go_quiet (fail)
              go_wp2
              have hgn : W.heap.size ≤ g := by have h1 := HBS.out; have h2 := HGB.out; omega
              have hne : W.heap.size ≠ g := by have h1 := HBS.out; have h2 := HGB.out; omega
              refine ⟨⟨k + 1, _, by omega, rfl, rfl, Lib.hid (by rw [HQS.out]; rfl), Lib.hid ((((HBX2.out.ext ((Ext.refl V).drewN _)).far (p := ⟨g, k * 7 + 4, none⟩) hne _).far (p := ⟨g, k * 7 + 4 + 1, none⟩) hne _).far (p := ⟨g, k * 7 + 4 + 2, none⟩) hne _), Lib.hid ?_, (((hE2.drewN _).setCell (p := ⟨g, k * 7 + 4, none⟩) hgn _).setCell (p := ⟨g, k * 7 + 4 + 1, none⟩) hgn _).setCell (p := ⟨g, k * 7 + 4 + 2, none⟩) hgn _⟩, by simp [intOf]; omega⟩
              have hlast := (HLO2.out.ext ((Ext.refl V).drewN nq)).put3 k P0 hk2
              rw [if_neg (by omega : ¬ k + 1 = 0)]
              rw [HPZ.out, wholeB_set (by rw [hrl]; exact hk2)] at hlast
              exact hlast
            · go_upto_region 14 with (go_at_call 17; (with_reducible refine HMR.out.mono ?_); rintro e v1 ⟨rfl, hE1⟩; have hE := hE.trans hE1; have hlo1 := Lib.hid (hlo.out.ext hE1); have hbx1 := Lib.hid (hbx.out.ext hE1))
              obtain ⟨V, hV⟩ : ∃ V, V = v1.alloc (.cells #[.int .i64 0, .int .u64 0, .int .i64 0] 39) := ⟨_, rfl⟩
              rw [← hV]
              have hEV : Ext v1 V := by rw [hV]; exact (Ext.refl v1).alloc _
              have hWB : Blk V v1.heap.size 39 #[.int .i64 pq.row, .int .u64 pq.st, .int .i64 pq.len] := by
                rw [hV, HPQ.out]; exact Blk.new v1 39 _
              have hlo2 := hlo1.out.ext hEV
              have hbx2 := hbx1.out.ext hEV
              have hE2 := hE.trans hEV
              clear hV hlo1 hbx1 hEV
              obtain ⟨z, hz⟩ : ∃ z, z = v1.heap.size := ⟨_, rfl⟩
              rw [← hz] at hWB ⊢
              clear hz
              have hrl : T.reverse.length = n := by rw [List.length_reverse]; exact HTL.out
              obtain ⟨g', o', u', hA', m0, m1, -, -, -, m4, m5, m6⟩ := hlo2.rd.at_ k hk2
              injection hA' with hA'; injection hA' with e1 e2
              subst e1 e2
              rw [wholeB_s (HPQ.out) HK0.out (by rw [hrl]; exact hk2)] at m0 m1 m4 m5 m6
              have x0 := hWB.cell 0
              have x1 := hWB.cell 1
              have x2 := hWB.cell 2
              have f4 := hlo2.frz (k * 7 + 4)
              have f5 := hlo2.frz (k * 7 + 4 + 1)
              have f6 := hlo2.frz (k * 7 + 4 + 2)
              have HLO2 := Lib.hid hlo2
              have HBX2 := Lib.hid hbx2
              have heq := fun (w : World) => eqPc pq.row pq.st pq.len pq.row pq.st pq.len w
              simp only [beq_self_eq_true, Bool.and_self] at heq
              clear hWB hlo2 hbx2
              simp only [Nat.zero_add] at m0 m1 m4 m5 m6
              simp at x0 x1 x2
              have HPZ : Hid (pq = if k = 0 then b else P0) := Lib.hid (by rw [if_neg HK0.out]; exact HPQ.out)
              generalize pq.row = y0 at *
              generalize pq.st = y1 at *
              generalize pq.len = y2 at *
              go_quiet (fail)
              go_wp2
              have hgn : W.heap.size ≤ g := by have h1 := HBS.out; have h2 := HGB.out; omega
              have hne : W.heap.size ≠ g := by have h1 := HBS.out; have h2 := HGB.out; omega
              refine ⟨⟨k + 1, _, by omega, rfl, rfl, Lib.hid (by rw [HQS.out, Bool.true_and]), Lib.hid ((((HBX2.out.ext ((Ext.refl V).drewN _)).far (p := ⟨g, k * 7 + 4, none⟩) hne _).far (p := ⟨g, k * 7 + 4 + 1, none⟩) hne _).far (p := ⟨g, k * 7 + 4 + 2, none⟩) hne _), Lib.hid ?_, (((hE2.drewN _).setCell (p := ⟨g, k * 7 + 4, none⟩) hgn _).setCell (p := ⟨g, k * 7 + 4 + 1, none⟩) hgn _).setCell (p := ⟨g, k * 7 + 4 + 2, none⟩) hgn _⟩, by simp [intOf]; omega⟩
              have hlast := (HLO2.out.ext ((Ext.refl V).drewN nq)).put3 k P0 hk2
              rw [if_neg (by omega : ¬ k + 1 = 0)]
              rw [HPZ.out, wholeB_set (by rw [hrl]; exact hk2)] at hlast
              exact hlast
        · obtain rfl : k = n := by omega
          have kk : ¬ (k : Int) < (k : Int) := by omega
          have hwl : wholeB (if k = 0 then b else P0) T.reverse = wholeL T := by
            by_cases h0 : k = 0
            · have : T = [] := List.eq_nil_of_length_eq_zero (by rw [HTL.out]; exact h0)
              subst this
              rfl
            · rw [if_neg h0]; exact whole_is T
          rw [hwl] at hlo
          have HFO := Lib.hid (fold_any (c := d3) hlo.out.rd (by have := HN.out; omega) (FewB HF.out))
          cases q
          · clear HFO
            go_wp2_with (go_at_call 7; (with_reducible refine (HWK.out _).mono ?_); rintro e w6 ⟨rfl, hF6⟩)
            go_ret
            exact ⟨rfl, hE.trans hF6⟩
          · have hma := mayT_all (T := T) (by rw [HTL.out]; exact hq.out.symm)
            rw [whole_fold T hma.1 hma.2] at HFO
            have HSS := Lib.hid (fun w A1 c1 (hw : Ext W w) (h1 : RfRd w A1 T.length T) => by
              have := rsame_any (c := c1) (c' := c) h1 (HRD.out.ext hw) (by omega) (by have := HN.out; omega) HF.out HF.out
              rw [decide_eq_true rfl] at this
              exact this)
            clear hma
            go_wp2_with (first
              | (go_at_call 8; (with_reducible refine HFO.out.mono ?_); rintro e v1 ⟨B1, d1, rfl, h1, h2, h3, hF1⟩; have HX := Lib.hid h3; clear h1 h2 h3)
              | (go_at_call 11; (with_reducible refine (HSS.out _ B1 d1 (hE.trans hF1) HX.out).mono ?_); rintro e v2 ⟨rfl, hF2⟩)
              | (go_at_call 7; (with_reducible refine (HWK.out _).mono ?_); rintro e w6 ⟨rfl, hF6⟩))
            go_ret
            exact ⟨rfl, ((hE.trans hF1).trans hF2).trans hF6⟩)
  · rw [hh] at HV
    clear hh rd mm ok
    go_enter Try.func4, Try.ntmps4
    go_wp2_with (first
      | (go_at_call 6; rw [← hW0]; (with_reducible refine HV.out.mono ?_); rintro e w1 ⟨rfl, hE1⟩)
      | (go_at_call 7; (with_reducible refine (HWK.out _).mono ?_); rintro e w5 ⟨rfl, hE5⟩))
    go_ret
    exact ⟨rfl, (HE0.out.trans hE1).trans hE5⟩
