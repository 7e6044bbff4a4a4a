import Derived.Test.YtpcbllmmbbmkfaaE23
namespace Go.Proofs.Ytpcbllmmbbmkfaa
open Go.RowKit Go.Nb
abbrev z7 : Array Value := #[.int .i64 0, .int .i64 0, .int .i64 0, .slice none 0 0, .int .i64 0, .int .u64 0, .int .i64 0]
abbrev lc (v : Value) : Array Value := #[.int .i64 0, .int .i64 0, .int .i64 10, v, .int .i64 0, .int .u64 0, .int .i64 0]
theorem results_ct {fn : Func} {p q : Tmp} {t : TypeId} (h : fn.results = #[.cell p t, .tmp q]) (tmps : Array Value) (P : Program) (w : World) :
    (results fn tmps).run P w = ((asAddr (tmps.getD p undef)).run P w).andThen fun a w₁ => ((loadVar t a).run P w₁).andThen fun x w₂ => .ok (.tuple #[x, tmps.getD q undef]) w₂ := by
  simp only [results, h]
  simp [Sem.run_bind, Result.andThen]
theorem st7 {w : World} {z : Nat} {c0 c1 c2 c3 c4 c5 c6 v0 v1 v2 v3 v4 v5 v6 : Value} (h : Blk w z 41 #[c0, c1, c2, c3, c4, c5, c6]) : w.cell? ⟨z, 0, none⟩ = some c0 ∧ w.frozen? ⟨z, 0, none⟩ = false ∧ (w.setCell ⟨z, 0, none⟩ v0).cell? ⟨z, 1, none⟩ = some c1 ∧ (w.setCell ⟨z, 0, none⟩ v0).frozen? ⟨z, 1, none⟩ = false ∧ ((w.setCell ⟨z, 0, none⟩ v0).setCell ⟨z, 1, none⟩ v1).cell? ⟨z, 2, none⟩ = some c2 ∧ ((w.setCell ⟨z, 0, none⟩ v0).setCell ⟨z, 1, none⟩ v1).frozen? ⟨z, 2, none⟩ = false ∧ (((w.setCell ⟨z, 0, none⟩ v0).setCell ⟨z, 1, none⟩ v1).setCell ⟨z, 2, none⟩ v2).cell? ⟨z, 3, none⟩ = some c3 ∧ (((w.setCell ⟨z, 0, none⟩ v0).setCell ⟨z, 1, none⟩ v1).setCell ⟨z, 2, none⟩ v2).frozen? ⟨z, 3, none⟩ = false ∧ ((((w.setCell ⟨z, 0, none⟩ v0).setCell ⟨z, 1, none⟩ v1).setCell ⟨z, 2, none⟩ v2).setCell ⟨z, 3, none⟩ v3).cell? ⟨z, 4, none⟩ = some c4 ∧ ((((w.setCell ⟨z, 0, none⟩ v0).setCell ⟨z, 1, none⟩ v1).setCell ⟨z, 2, none⟩ v2).setCell ⟨z, 3, none⟩ v3).frozen? ⟨z, 4, none⟩ = false ∧ (((((w.setCell ⟨z, 0, none⟩ v0).setCell ⟨z, 1, none⟩ v1).setCell ⟨z, 2, none⟩ v2).setCell ⟨z, 3, none⟩ v3).setCell ⟨z, 4, none⟩ v4).cell? ⟨z, 5, none⟩ = some c5 ∧ (((((w.setCell ⟨z, 0, none⟩ v0).setCell ⟨z, 1, none⟩ v1).setCell ⟨z, 2, none⟩ v2).setCell ⟨z, 3, none⟩ v3).setCell ⟨z, 4, none⟩ v4).frozen? ⟨z, 5, none⟩ = false ∧ ((((((w.setCell ⟨z, 0, none⟩ v0).setCell ⟨z, 1, none⟩ v1).setCell ⟨z, 2, none⟩ v2).setCell ⟨z, 3, none⟩ v3).setCell ⟨z, 4, none⟩ v4).setCell ⟨z, 5, none⟩ v5).cell? ⟨z, 6, none⟩ = some c6 ∧ ((((((w.setCell ⟨z, 0, none⟩ v0).setCell ⟨z, 1, none⟩ v1).setCell ⟨z, 2, none⟩ v2).setCell ⟨z, 3, none⟩ v3).setCell ⟨z, 4, none⟩ v4).setCell ⟨z, 5, none⟩ v5).frozen? ⟨z, 6, none⟩ = false ∧ Blk (((((((w.setCell ⟨z, 0, none⟩ v0).setCell ⟨z, 1, none⟩ v1).setCell ⟨z, 2, none⟩ v2).setCell ⟨z, 3, none⟩ v3).setCell ⟨z, 4, none⟩ v4).setCell ⟨z, 5, none⟩ v5).setCell ⟨z, 6, none⟩ v6) z 41 #[v0, v1, v2, v3, v4, v5, v6] := by
  refine ⟨by rw [h.cell 0]; simp, h.frozen 0, by rw [(h.set_ 0 v0).cell 1]; simp, (h.set_ 0 v0).frozen 1, by rw [((h.set_ 0 v0).set_ 1 v1).cell 2]; simp, ((h.set_ 0 v0).set_ 1 v1).frozen 2, by rw [(((h.set_ 0 v0).set_ 1 v1).set_ 2 v2).cell 3]; simp, (((h.set_ 0 v0).set_ 1 v1).set_ 2 v2).frozen 3, by rw [((((h.set_ 0 v0).set_ 1 v1).set_ 2 v2).set_ 3 v3).cell 4]; simp, ((((h.set_ 0 v0).set_ 1 v1).set_ 2 v2).set_ 3 v3).frozen 4, by rw [(((((h.set_ 0 v0).set_ 1 v1).set_ 2 v2).set_ 3 v3).set_ 4 v4).cell 5]; simp, (((((h.set_ 0 v0).set_ 1 v1).set_ 2 v2).set_ 3 v3).set_ 4 v4).frozen 5, by rw [((((((h.set_ 0 v0).set_ 1 v1).set_ 2 v2).set_ 3 v3).set_ 4 v4).set_ 5 v5).cell 6]; simp, ((((((h.set_ 0 v0).set_ 1 v1).set_ 2 v2).set_ 3 v3).set_ 4 v4).set_ 5 v5).frozen 6, ?_⟩
  have := (((((((h.set_ 0 v0).set_ 1 v1).set_ 2 v2).set_ 3 v3).set_ 4 v4).set_ 5 v5).set_ 6 v6)
  simpa using this
theorem st3 {w : World} {z : Nat} {c0 c1 c2 c3 c4 c5 c6 v0 v1 v2 : Value} (h : Blk w z 41 #[c0, c1, c2, c3, c4, c5, c6]) : w.cell? ⟨z, 4, none⟩ = some c4 ∧ w.frozen? ⟨z, 4, none⟩ = false ∧ (w.setCell ⟨z, 4, none⟩ v0).cell? ⟨z, 5, none⟩ = some c5 ∧ (w.setCell ⟨z, 4, none⟩ v0).frozen? ⟨z, 5, none⟩ = false ∧ ((w.setCell ⟨z, 4, none⟩ v0).setCell ⟨z, 5, none⟩ v1).cell? ⟨z, 6, none⟩ = some c6 ∧ ((w.setCell ⟨z, 4, none⟩ v0).setCell ⟨z, 5, none⟩ v1).frozen? ⟨z, 6, none⟩ = false ∧ Blk (((w.setCell ⟨z, 4, none⟩ v0).setCell ⟨z, 5, none⟩ v1).setCell ⟨z, 6, none⟩ v2) z 41 #[c0, c1, c2, c3, v0, v1, v2] := by
  refine ⟨by rw [h.cell 4]; simp, h.frozen 4, by rw [(h.set_ 4 v0).cell 5]; simp, (h.set_ 4 v0).frozen 5, by rw [((h.set_ 4 v0).set_ 5 v1).cell 6]; simp, ((h.set_ 4 v0).set_ 5 v1).frozen 6, ?_⟩
  have := (((h.set_ 4 v0).set_ 5 v1).set_ 6 v2)
  simpa using this
theorem bl7 {w : World} {z : Nat} {c0 c1 c2 c3 c4 c5 c6 : Value} (h : Blk w z 41 #[c0, c1, c2, c3, c4, c5, c6]) : w.cell? ⟨z, 0, none⟩ = some c0 ∧ w.cell? ⟨z, 1, none⟩ = some c1 ∧ w.cell? ⟨z, 2, none⟩ = some c2 ∧ w.cell? ⟨z, 3, none⟩ = some c3 ∧ w.cell? ⟨z, 4, none⟩ = some c4 ∧ w.cell? ⟨z, 5, none⟩ = some c5 ∧ w.cell? ⟨z, 6, none⟩ = some c6 := by
  refine ⟨by rw [h.cell 0]; simp, by rw [h.cell 1]; simp, by rw [h.cell 2]; simp, by rw [h.cell 3]; simp, by rw [h.cell 4]; simp, by rw [h.cell 5]; simp, by rw [h.cell 6]; simp⟩
theorem pcrd_turn {w w' : World} {H : Nat → Prop} {A : Option Addr} {n : Nat} {l : List Pc} (h : PcRd w A n l) (ht : Turn H w w') (hn : ∀ g o, A = some ⟨g, o, none⟩ → ¬ H g) : PcRd w' A n l := by
  refine ⟨h.1, h.2.1, fun h0 => ?_⟩
  obtain ⟨g, o, e, hc⟩ := h.2.2 h0
  exact ⟨g, o, e, fun i x hi => ht.cellv (hc i x hi) (hn g o e)⟩
set_option maxRecDepth 100000 in
theorem decode_1 (w : World) : Calls Try.prog 20 #[.string (Bt B1)] w fun e w' => ∃ A c, e = .returned (.tuple #[.agg #[.int .i64 0, .int .i64 0, .int .i64 10, .slice A 1 c, .int .i64 4, .int .u64 5, .int .i64 6], .int .i64 0]) ∧ PcRd w' A 1 [⟨1, 7, 10⟩] ∧ Ext w w' := by
  obtain ⟨g, hg⟩ : ∃ g, g = w.heap.size + 1 := ⟨_, rfl⟩
  have HG := Lib.hid hg
  have HNW : Hid (Calls Try.prog 39 #[.string (Bt B1)] (w.alloc (.cells z7 41)) fun e w' => e = .returned (.pointer (some ⟨g, 0, none⟩)) ∧ RdrAt w' g B1 0 ∧ Ext (w.alloc (.cells z7 41)) w') := Lib.hid (by
    have := wire_new (Bt B1) (w.alloc (.cells z7 41))
    rw [World.size_alloc, ← hg] at this
    exact this)
  have HZ0 := Lib.hid (Blk.new w 41 z7)
  have H1 : Hid (∀ w', RdrAt w' g B1 0 → Calls Try.prog 40 #[.pointer (some ⟨g, 0, none⟩), .int .u64 64] w' fun e w2 => e = .returned (.int .u64 0) ∧ RdrAt w2 g (B1.drop 1) 0 ∧ Turn (· = g) w' w2) := Lib.hid (fun w' h' => num_ok h' (by decide) rd1)
  have H2 : Hid (∀ w', RdrAt w' g (B1.drop 1) 0 → Calls Try.prog 40 #[.pointer (some ⟨g, 0, none⟩), .int .u64 64] w' fun e w2 => e = .returned (.int .u64 0) ∧ RdrAt w2 g (B1.drop 2) 0 ∧ Turn (· = g) w' w2) := Lib.hid (fun w' h' => num_ok h' (by decide) rd2)
  have H3 : Hid (∀ w', RdrAt w' g (B1.drop 2) 0 → Calls Try.prog 40 #[.pointer (some ⟨g, 0, none⟩), .int .u64 131072] w' fun e w2 => e = .returned (.int .u64 10) ∧ RdrAt w2 g (B1.drop 4) 0 ∧ Turn (· = g) w' w2) := Lib.hid (fun w' h' => num_ok h' (by decide) rd3)
  have H4 : Hid (∀ w', RdrAt w' g (B1.drop 4) 0 → Calls Try.prog 40 #[.pointer (some ⟨g, 0, none⟩), .int .u64 512] w' fun e w2 => e = .returned (.int .u64 1) ∧ RdrAt w2 g (B1.drop 6) 0 ∧ Turn (· = g) w' w2) := Lib.hid (fun w' h' => num_ok h' (by decide) rd4)
  have U1 : Hid (∀ w', RdrAt w' g (B1.drop 6) 0 → Calls Try.prog 42 #[.pointer (some ⟨g, 0, none⟩)] w' fun e w2 => e = .returned (.agg #[.int .i64 1, .int .u64 7, .int .i64 10]) ∧ RdrAt w2 g (B1.drop 12) 0 ∧ Turn (· = g) w' w2) := Lib.hid (fun w' h' => unpiece_ok h' (by decide) (by decide) (by decide) rd5 rd6 rd7 (by decide) (by decide))
  have U2 : Hid (∀ w', RdrAt w' g (B1.drop 12) 0 → Calls Try.prog 42 #[.pointer (some ⟨g, 0, none⟩)] w' fun e w2 => e = .returned (.agg #[.int .i64 4, .int .u64 5, .int .i64 6]) ∧ RdrAt w2 g [] 0 ∧ Turn (· = g) w' w2) := Lib.hid (fun w' h' => unpiece_ok h' (by decide) (by decide) (by decide) rd8 rd9 rd10 (by decide) (by decide))
  have HEN : Hid (∀ w', RdrAt w' g [] 0 → Calls Try.prog 43 #[.pointer (some ⟨g, 0, none⟩)] w' fun e w2 => e = .returned (.int .i64 0) ∧ Turn (· = g) w' w2) := Lib.hid (fun w' h' => end_any h')
  have hzg : ¬ w.heap.size = g := by omega
  have hX0 : Ext w (w.alloc (.cells z7 41)) := (Ext.refl w).alloc _
  clear hg
  go_enter Try.func20, Try.ntmps20
  go_wp2_with (first
    | (go_at_call 39; (with_reducible refine HNW.out.mono ?_); rintro e w1 ⟨rfl, hR1, hE1⟩; have HR1 := Lib.hid hR1; have HZ1 := Lib.hid (HZ0.out.ext hE1); clear hR1)
    | (go_at_call 40; (with_reducible refine (H1.out _ HR1.out).mono ?_); rintro e w2 ⟨rfl, hR2, hT2⟩; have HRA := Lib.hid (RdrAt.ext hR2 ((Ext.refl w2).alloc (.cells z7 41))); have HBA := Lib.hid (Blk.new w2 41 z7); have HZA := Lib.hid ((blk_turn HZ1.out hT2 hzg).alloc (.cells z7 41)); have hgb : g < w2.heap.size := (CellsT.lt hR2); have hbg : ¬ w2.heap.size = g := (by omega); have hgb' : g ≠ w2.heap.size := (by omega); have hzb : w.heap.size ≠ w2.heap.size := (by have := HG.out; omega); have HTA := Lib.hid (Turn.ext ((hT2.trans (Turn.of ((Ext.refl w2).alloc (.cells z7 41))))) (hX0.trans hE1) (fun k hk => by have := HG.out; omega)); clear hR2)
    | (go_at_call 40; (with_reducible refine (H2.out _ HRA.out).mono ?_); rintro e w3 ⟨rfl, hR3, hT3⟩; have hB3 := blk_turn HBA.out hT3 hbg; have x1 := hB3.cell 1; have f1 := hB3.frozen 1; simp at x1; have HB3 := Lib.hid (hB3.set_ 1 (.int .i64 0)); have HR3 : Hid (RdrAt (w3.setCell ⟨w2.heap.size, 1, none⟩ (.int .i64 0)) g (B1.drop 2) 0) := Lib.hid (CellsT.far hR3 (p := ⟨w2.heap.size, 1, none⟩) hgb' _); have HZ3 := Lib.hid ((blk_turn HZA.out hT3 hzg).far (p := ⟨w2.heap.size, 1, none⟩) hzb (.int .i64 0)); clear hB3 hR3)
    | (go_at_call 40; (with_reducible refine (H3.out _ HR3.out).mono ?_); rintro e w4 ⟨rfl, hR4, hT4⟩; have hB4 := blk_turn HB3.out hT4 hbg; have x2 := hB4.cell 2; have f2 := hB4.frozen 2; simp at x2; have hB4' := hB4.set_ 2 (.int .i64 10); have x2' := hB4'.cell 2; simp at x2'; have HB4 : Hid (Blk (w4.setCell ⟨w2.heap.size, 2, none⟩ (.int .i64 10)) w2.heap.size 41 (lc (.slice none 0 0))) := Lib.hid hB4'; have HR4 : Hid (RdrAt (w4.setCell ⟨w2.heap.size, 2, none⟩ (.int .i64 10)) g (B1.drop 4) 0) := Lib.hid (CellsT.far hR4 (p := ⟨w2.heap.size, 2, none⟩) hgb' _); have HZ4 := Lib.hid ((blk_turn HZ3.out hT4 hzg).far (p := ⟨w2.heap.size, 2, none⟩) hzb (.int .i64 10)); clear hB4 hR4 hB4')
    | (go_at_call 40; (with_reducible refine (H4.out _ HR4.out).mono ?_); rintro e w5 ⟨rfl, hR5, hT5⟩; have HB5 := Lib.hid (blk_turn HB4.out hT5 hbg); have HR5 := Lib.hid hR5; have HZ5 := Lib.hid (blk_turn HZ4.out hT5 hzg); clear hR5))
  have hTE : Ext w w5 := by
    have k : ∀ b, b = g → w.heap.size ≤ b := fun b hb => by have := HG.out; omega
    have hz : w.heap.size ≤ w2.heap.size := by have := HG.out; omega
    exact hT5.ext (((hT4.ext (((hT3.ext HTA.out k)).setCell (p := ⟨w2.heap.size, 1, none⟩) hz _) k)).setCell (p := ⟨w2.heap.size, 2, none⟩) hz _) k
  obtain ⟨b, hb⟩ : ∃ b, b = w2.heap.size := ⟨_, rfl⟩
  rw [← hb] at HB5 hbg hgb' hzb hgb ⊢
  clear HB4 HZ4 HR4 HB3 HZ3 HR3 HBA HZA HRA HZ1 HR1 HTA hT2 hT3 hT4 hT5 hE1 x1 x2 f1 f2 x2'
  clear hb H1 H2 H3 H4 HNW HZ0
  go_loopw [6] (fun tv wr => ∃ k : Nat, k ≤ 1 ∧ tv = .int .u64 k ∧ Hid (Blk wr w.heap.size 41 z7) ∧ Hid (RdrAt wr g (if k = 1 then B1.drop 6 else B1.drop 12) 0) ∧ (∃ A c, Hid (Blk wr b 41 (lc (.slice A (1 - k) c))) ∧ Hid (if k = 1 then A = none ∧ c = 0 else PcRd wr A 1 [⟨1, 7, 10⟩] ∧ ∀ g9 o9, A = some ⟨g9, o9, none⟩ → b < g9)) ∧ Ext w wr) (fun tv _ => (intOf tv).toNat)
  case atStart => exact ⟨1, by omega, rfl, HZ5, HR5, ⟨none, 0, HB5, Lib.hid ⟨rfl, rfl⟩⟩, hTE⟩
  case round =>
    obtain ⟨k, hk, rfl, hZ, hR, ⟨A, c, hB, hP⟩, hE⟩ := hrel
    by_cases h1 : k = 1
    · subst h1
      have hRR : RdrAt wr g (B1.drop 6) 0 := hR.out
      obtain ⟨rfl, rfl⟩ : A = none ∧ c = 0 := hP.out
      have hBB : Blk wr b 41 (lc (.slice none 0 0)) := hB.out
      have HER := Lib.hid (err_any hRR)
      clear hP
      go_wp2_with (go_at_call 41; (with_reducible refine HER.out.mono ?_); rintro e w6 ⟨rfl, hE6⟩)
      have HR6 : Hid (RdrAt w6.drew g (B1.drop 6) 0) := Lib.hid (CellsT.drew (CellsT.ext hRR hE6))
      have hB6 : Blk w6.drew b 41 (lc (.slice none 0 0)) := Blk.drew (hBB.ext hE6)
      have x3 := hB6.cell 3
      simp at x3
      have HB6 := Lib.hid hB6
      have HZ6 : Hid (Blk w6.drew w.heap.size 41 z7) := Lib.hid (Blk.drew (hZ.out.ext hE6))
      clear hB6 hBB hZ
      go_region_law
        (first
          | (go_simp; go_at_call 42; refine (U1.out _ HR6.out).mono ?_; rintro e w7 ⟨rfl, hR7, hT7⟩; have hB7 := blk_turn HB6.out hT7 hbg; have x3b := hB7.cell 3; have HB7 := Lib.hid hB7; have HR7 := Lib.hid hR7; simp at x3b; have x3d := ((Ext.refl w7).alloc (.cells #[.int .i64 1, .int .u64 7, .int .i64 10] 39)).cellv x3b; clear hB7 hR7)
          | (refine step_app w7 (by rfl) (.tmp 39) (.tmp 42) 34 39 (by rfl) Try.underlying34 (.agg #[.int .i64 0, .int .u64 0, .int .i64 0]) [.int .i64 1, .int .u64 7, .int .i64 10] 3 24 infoPc rfl rfl (by decide) (by decide) w7.heap.size (.slice none 0 0) 0 [] (by rfl) (World.ownsRow_nil _ _ _ _) (pcc_one [⟨1, 7, 10⟩]) _ (by rfl) (by simp) (by omega) (Nat.le_refl _) ?_; intro g8 cap8 w8 hown8 hG8 hg8; have hE8 := ((Ext.refl w7).alloc (.cells [Value.int .i64 1, .int .u64 7, .int .i64 10].toArray 39)).grown hg8 (fun k hk => by cases hk); have hB8 := HB7.out.ext hE8; have x3c := hB8.cell 3; have f3c := hB8.frozen 3; simp at x3c; have HO8 := Lib.hid hown8; have HB8 := Lib.hid (hB8.set_ 3 (.slice (some ⟨g8, 0, none⟩) 1 cap8)); have hlt : b < g8 := Nat.lt_of_lt_of_le HB7.out.lt (own_block hown8 rfl); clear hB8 hown8 hG8 hg8))
      all_goals (
        go_wp2
        have hps : PsV w8 (.slice (some ⟨g8, 0, none⟩) 1 cap8) [⟨1, 7, 10⟩] := own_ps (ps := [⟨1, 7, 10⟩]) HO8.out
        obtain ⟨A', c', hv, hq, _⟩ := hps
        cases hv
        have ht : Turn (· = b) w8 (w8.setCell ⟨b, 3, none⟩ (.slice (some ⟨g8, 0, none⟩) 1 cap8)) := Turn.set_ (H := (· = b)) (a := ⟨b, 3, none⟩) rfl _
        have hEz : ∀ k, k = g → w.heap.size ≤ k := fun k hk => by have := HG.out; omega
        exact ⟨⟨0, by omega, rfl, Lib.hid ((((blk_turn HZ6.out hT7 hzg).ext hE8).far (p := ⟨b, 3, none⟩) hzb _)), Lib.hid (CellsT.far (CellsT.ext HR7.out hE8) (p := ⟨b, 3, none⟩) hgb' _), ⟨_, _, HB8, Lib.hid ⟨pcrd_turn hq ht (fun g9 o9 e => by cases e; show ¬ g8 = b; omega), fun g9 o9 e => by cases e; exact hlt⟩⟩, ((hT7.ext ((hE.trans hE6).drew) hEz).trans hE8).setCell (p := ⟨b, 3, none⟩) (by have := HG.out; show w.heap.size ≤ b; omega) _⟩, by simp [intOf]⟩)
    · obtain rfl : k = 0 := by omega
      have hRR : RdrAt wr g (B1.drop 12) 0 := hR.out
      obtain ⟨hPP, hFAR⟩ : PcRd wr A 1 [⟨1, 7, 10⟩] ∧ ∀ g9 o9, A = some ⟨g9, o9, none⟩ → b < g9 := hP.out
      have hBB : Blk wr b 41 (lc (.slice A 1 c)) := hB.out
      clear hP
      have HPC := Lib.hid hPP
      have HPT : Hid (∀ w', Turn (fun k => k = g ∨ k = b ∨ k = w.heap.size) wr w' → PcRd w' A 1 [⟨1, 7, 10⟩]) := Lib.hid (fun w' ht => pcrd_turn hPP ht (fun g9 o9 e => by have h1 := hFAR g9 o9 e; have := HG.out; omega))
      have HB := Lib.hid hBB
      have HZ := Lib.hid hZ.out
      have HMY : Hid (∀ w', PcRd w' A 1 [⟨1, 7, 10⟩] → Calls Try.prog 27 #[.agg #[.int .i64 0, .int .i64 0, .int .i64 10, .slice A 1 c, .int .i64 4, .int .u64 5, .int .i64 6]] w' fun e w2 => e = .returned (.bool true) ∧ Ext w' w2) := Lib.hid (fun w' h => may_any (w := w') L1 (B := A) (c := c) h (by decide))
      clear hPP hBB hZ
      go_wp2_with (first
        | (go_at_call 42; (with_reducible refine (U2.out _ hRR).mono ?_); rintro e w6 ⟨rfl, hR6, hT6⟩
           obtain ⟨x4, f4, x5, f5, x6, f6, hB7⟩ := st3 (v0 := (.int .i64 4)) (v1 := (.int .u64 5)) (v2 := (.int .i64 6)) (blk_turn HB.out hT6 hbg)
           have HB7 := Lib.hid hB7; clear hB7
           have HR7 : Hid (RdrAt (((w6.setCell ⟨b, 4, none⟩ (.int .i64 4)).setCell ⟨b, 5, none⟩ (.int .u64 5)).setCell ⟨b, 6, none⟩ (.int .i64 6)) g [] 0) := Lib.hid (CellsT.far (CellsT.far (CellsT.far hR6 (p := ⟨b, 4, none⟩) hgb' _) (p := ⟨b, 5, none⟩) hgb' _) (p := ⟨b, 6, none⟩) hgb' _)
           have HZ7 : Hid (Blk (((w6.setCell ⟨b, 4, none⟩ (.int .i64 4)).setCell ⟨b, 5, none⟩ (.int .u64 5)).setCell ⟨b, 6, none⟩ (.int .i64 6)) w.heap.size 41 z7) := Lib.hid ((((blk_turn HZ.out hT6 hzg).far (p := ⟨b, 4, none⟩) hzb _).far (p := ⟨b, 5, none⟩) hzb _).far (p := ⟨b, 6, none⟩) hzb _)
           have HT7 : Hid (Turn (fun k => k = g ∨ k = b ∨ k = w.heap.size) wr (((w6.setCell ⟨b, 4, none⟩ (.int .i64 4)).setCell ⟨b, 5, none⟩ (.int .u64 5)).setCell ⟨b, 6, none⟩ (.int .i64 6))) := Lib.hid ((((hT6.mono (fun k hk => .inl hk)).trans (Turn.set_ (a := ⟨b, 4, none⟩) (.inr (.inl rfl)) _)).trans (Turn.set_ (a := ⟨b, 5, none⟩) (.inr (.inl rfl)) _)).trans (Turn.set_ (a := ⟨b, 6, none⟩) (.inr (.inl rfl)) _)))
        | (go_at_call 43; (with_reducible refine (HEN.out _ HR7.out).mono ?_); rintro e w8 ⟨rfl, hT8⟩
           have HB8 := Lib.hid (blk_turn HB7.out hT8 hbg)
           have HZ8 := Lib.hid (blk_turn HZ7.out hT8 hzg)
           have HT8 := Lib.hid (HT7.out.trans (hT8.mono (fun k hk => .inl hk)))
           have HP8 := Lib.hid (HPT.out _ HT8.out)
           obtain ⟨l0, l1, l2, l3, l4, l5, l6⟩ := bl7 HB8.out)
        | (go_at_call 27; (with_reducible refine (HMY.out _ HP8.out).mono ?_); rintro e w9 ⟨rfl, hE9⟩
           have HB9 := Lib.hid (HB8.out.ext hE9)
           obtain ⟨m0, m1, m2, m3, m4, m5, m6⟩ := bl7 HB9.out
           obtain ⟨n0, o0, n1, o1, n2, o2, n3, o3, n4, o4, n5, o5, n6, o6, hZ10⟩ := st7 (v0 := (.int .i64 0)) (v1 := (.int .i64 0)) (v2 := (.int .i64 10)) (v3 := (.slice A 1 c)) (v4 := (.int .i64 4)) (v5 := (.int .u64 5)) (v6 := (.int .i64 6)) (HZ8.out.ext hE9)
           obtain ⟨q0, q1, q2, q3, q4, q5, q6⟩ := bl7 hZ10
           have HZ10 := Lib.hid hZ10; clear hZ10))
      refine bodyPost_ret (v := .tuple #[.agg #[.int .i64 0, .int .i64 0, .int .i64 10, .slice A 1 c, .int .i64 4, .int .u64 5, .int .i64 6], .int .i64 0]) ?_ rfl ?_
      · rw [results_ct rfl]
        go_simp
      · have tf := HT8.out.trans ((Turn.of hE9).trans ((Turn.set_ (a := ⟨w.heap.size, 0, none⟩) (.inr (.inr rfl)) (.int .i64 0)).trans ((Turn.set_ (a := ⟨w.heap.size, 1, none⟩) (.inr (.inr rfl)) (.int .i64 0)).trans ((Turn.set_ (a := ⟨w.heap.size, 2, none⟩) (.inr (.inr rfl)) (.int .i64 10)).trans ((Turn.set_ (a := ⟨w.heap.size, 3, none⟩) (.inr (.inr rfl)) (.slice A 1 c)).trans ((Turn.set_ (a := ⟨w.heap.size, 4, none⟩) (.inr (.inr rfl)) (.int .i64 4)).trans ((Turn.set_ (a := ⟨w.heap.size, 5, none⟩) (.inr (.inr rfl)) (.int .u64 5)).trans (Turn.set_ (a := ⟨w.heap.size, 6, none⟩) (.inr (.inr rfl)) (.int .i64 6)))))))))
        exact ⟨A, c, rfl, HPT.out _ tf, tf.ext hE (fun k hk => by have h1 := HG.out; omega)⟩
