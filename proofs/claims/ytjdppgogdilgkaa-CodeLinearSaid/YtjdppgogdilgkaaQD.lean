import Derived.Test.YtjdppgogdilgkaaQC
section
namespace Go.Proofs.Ytjdppgogdilgkaa
open Go.RowKit Go.Gf Go.Co Go.Conc
set_option linter.unusedSimpArgs false
set_option linter.unusedVariables false
noncomputable def comp22 : Code := match Try.f22.body with
  | some (.seq _ (.scope (.seq _ (.seq _ c)))) => c
  | _ => .skip
theorem lend_in {V : View} {D : List Nat} {b : Nat} {m : Bool} {o : Obj} (hb : b ∈ D) (h : V b = some (m, o)) : lend V D b = some (false, o) := by
  unfold lend; rw [if_pos hb, h]; rfl
theorem keep_in {V : View} {D : List Nat} {b : Nat} {m : Bool} {o : Obj} (hb : b ∈ D) (h : V b = some (m, o)) : keep V D b = some (false, o) := by
  unfold keep; rw [if_pos hb, h]; rfl
theorem keep_out {V : View} {D : List Nat} {b : Nat} (hb : b ∉ D) : keep V D b = V b := by
  unfold keep; rw [if_neg hb]
theorem keep_known {V : View} {D : List Nat} {b : Nat} {o : Obj} (h : ∃ m, V b = some (m, o)) : ∃ m, keep V D b = some (m, o) := by
  obtain ⟨m, h⟩ := h
  by_cases hb : b ∈ D
  · exact ⟨_, keep_in hb h⟩
  · exact ⟨m, by rw [keep_out hb]; exact h⟩
theorem keep_ext {V0 V : View} {D : List Nat} (hE : VExt V0 V) (hD : ∀ b ∈ D, ∀ r, V0 b = some r → r.1 = false) : VExt V0 (keep V D) := fun b r hb => by
  by_cases h : b ∈ D
  · have h1 := hD b h r hb
    obtain ⟨m, o⟩ := r
    simp only at h1
    subst h1
    exact keep_in h (hE _ _ hb)
  · rw [keep_out h]; exact hE _ _ hb
def fspec (cd : Nat) (made : Nat → ByteArray) (D : Nat → List Nat) (k : Nat) : List SE := (List.range k).map fun (i : Nat) => SE.mk cd (.agg #[.int .i64 i, .string (made i)]) (D i)
theorem fspec_succ {cd : Nat} {made : Nat → ByteArray} {D : Nat → List Nat} {k : Nat} {Dk : List Nat} : fspec cd made D k ++ [SE.mk cd (.agg #[.int .i64 k, .string (made k)]) Dk] = fspec cd made (fun i => if i = k then Dk else D i) (k + 1) := by
  unfold fspec
  rw [List.range_succ, List.map_append]
  congr 1
  · apply List.map_congr_left
    intro i hi
    have : i ≠ k := by have := List.mem_range.1 hi; omega
    simp [this]
  · simp
def TmA (g2 g3 go g6 g7 n : Nat) (a : Act) : Prop := a.defers = [] ∧ a.tmps.size = 54 ∧ a.tmps[2]? = some (.pointer (some ⟨g2, 0, none⟩)) ∧ a.tmps[3]? = some (.pointer (some ⟨g3, 0, none⟩)) ∧ a.tmps[5]? = some (.slice (some ⟨go, 0, none⟩) n n) ∧ a.tmps[6]? = some (.pointer (some ⟨g6, 0, none⟩)) ∧ a.tmps[7]? = some (.pointer (some ⟨g7, 0, none⟩))
set_option maxRecDepth 100000 in
theorem TmA.lit {g2 g3 go g6 g7 n : Nat} {a : Act} (h : TmA g2 g3 go g6 g7 n a) : ∃ x : Nat → Value, a = ⟨#[x 0, x 1, .pointer (some ⟨g2, 0, none⟩), .pointer (some ⟨g3, 0, none⟩), x 4, .slice (some ⟨go, 0, none⟩) n n, .pointer (some ⟨g6, 0, none⟩), .pointer (some ⟨g7, 0, none⟩), x 8, x 9, x 10, x 11, x 12, x 13, x 14, x 15, x 16, x 17, x 18, x 19, x 20, x 21, x 22, x 23, x 24, x 25, x 26, x 27, x 28, x 29, x 30, x 31, x 32, x 33, x 34, x 35, x 36, x 37, x 38, x 39, x 40, x 41, x 42, x 43, x 44, x 45, x 46, x 47, x 48, x 49, x 50, x 51, x 52, x 53], []⟩ := by
  obtain ⟨T, ds⟩ := a
  obtain ⟨h1, h2, t2, t3, t5, t6, t7⟩ := h
  simp only at h1 h2 t2 t3 t5 t6 t7
  subst h1
  obtain ⟨x, rfl⟩ := tmps54 T h2
  refine ⟨x, ?_⟩
  have e2 : x 2 = .pointer (some ⟨g2, 0, none⟩) := Option.some.inj t2
  have e3 : x 3 = .pointer (some ⟨g3, 0, none⟩) := Option.some.inj t3
  have e5 : x 5 = .slice (some ⟨go, 0, none⟩) n n := Option.some.inj t5
  have e6 : x 6 = .pointer (some ⟨g6, 0, none⟩) := Option.some.inj t6
  have e7 : x 7 = .pointer (some ⟨g7, 0, none⟩) := Option.some.inj t7
  rw [e2, e3, e5, e6, e7]
def TmB (g2 g3 go g6 g7 n : Nat) (A2 : Option Addr) (c2 k : Nat) (a : Act) : Prop := a.defers = [] ∧ a.tmps.size = 54 ∧ a.tmps[2]? = some (.pointer (some ⟨g2, 0, none⟩)) ∧ a.tmps[3]? = some (.pointer (some ⟨g3, 0, none⟩)) ∧ a.tmps[5]? = some (.slice (some ⟨go, 0, none⟩) n n) ∧ a.tmps[6]? = some (.pointer (some ⟨g6, 0, none⟩)) ∧ a.tmps[7]? = some (.pointer (some ⟨g7, 0, none⟩)) ∧ a.tmps[18]? = some (.slice A2 n c2) ∧ a.tmps[19]? = some (.int .i64 (n : Nat)) ∧ a.tmps[20]? = some (.int .i64 (k : Nat))
set_option maxRecDepth 100000 in
theorem TmB.lit {g2 g3 go g6 g7 n : Nat} {A2 : Option Addr} {c2 k : Nat} {a : Act} (h : TmB g2 g3 go g6 g7 n A2 c2 k a) : ∃ x : Nat → Value, a = ⟨#[x 0, x 1, .pointer (some ⟨g2, 0, none⟩), .pointer (some ⟨g3, 0, none⟩), x 4, .slice (some ⟨go, 0, none⟩) n n, .pointer (some ⟨g6, 0, none⟩), .pointer (some ⟨g7, 0, none⟩), x 8, x 9, x 10, x 11, x 12, x 13, x 14, x 15, x 16, x 17, .slice A2 n c2, .int .i64 (n : Nat), .int .i64 (k : Nat), x 21, x 22, x 23, x 24, x 25, x 26, x 27, x 28, x 29, x 30, x 31, x 32, x 33, x 34, x 35, x 36, x 37, x 38, x 39, x 40, x 41, x 42, x 43, x 44, x 45, x 46, x 47, x 48, x 49, x 50, x 51, x 52, x 53], []⟩ := by
  obtain ⟨T, ds⟩ := a
  obtain ⟨h1, h2, t2, t3, t5, t6, t7, t18, t19, t20⟩ := h
  simp only at h1 h2 t2 t3 t5 t6 t7 t18 t19 t20
  subst h1
  obtain ⟨x, rfl⟩ := tmps54 T h2
  refine ⟨x, ?_⟩
  have e2 : x 2 = .pointer (some ⟨g2, 0, none⟩) := Option.some.inj t2
  have e3 : x 3 = .pointer (some ⟨g3, 0, none⟩) := Option.some.inj t3
  have e5 : x 5 = .slice (some ⟨go, 0, none⟩) n n := Option.some.inj t5
  have e6 : x 6 = .pointer (some ⟨g6, 0, none⟩) := Option.some.inj t6
  have e7 : x 7 = .pointer (some ⟨g7, 0, none⟩) := Option.some.inj t7
  have e18 : x 18 = .slice A2 n c2 := Option.some.inj t18
  have e19 : x 19 = .int .i64 (n : Nat) := Option.some.inj t19
  have e20 : x 20 = .int .i64 (k : Nat) := Option.some.inj t20
  rw [e2, e3, e5, e6, e7, e18, e19, e20]
set_option maxHeartbeats 4000000 in
set_option maxRecDepth 100000 in
theorem comp_S {n0 : Nat} {Post : Value → World → Prop} {W : World} {cd ca go g6 g7 g2 g3 n n1 cp1 c2 : Nat} {A A2 : Option Addr} {rows l : List ByteArray} {grl : List Nat} {V0 V : View} {a : Act} (ha : TmA g2 g3 go g6 g7 n a) (hcc : cd ≠ ca) (hn : n ≤ 1048576) (hn1 : n1 ≤ 1048576) (hl : l.length = n1) (hz : ∀ s ∈ l, s.size ≤ 1048576) (hgrl : ∀ b ∈ grl, ∃ o, V0 b = some (false, o))
    (hr1 : 0 < n1 → ∃ gr o R tr fr, gr ∈ grl ∧ A = some ⟨gr, o, none⟩ ∧ V0 gr = some (false, .cells R tr fr) ∧ ∀ j, j < n1 → R[o + j]? = some (.string (l.getD j { data := #[] })))
    (hr2 : 0 < n → ∃ gq oq m R tr fr, A2 = some ⟨gq, oq, none⟩ ∧ V0 gq = some (m, .cells R tr fr) ∧ ∀ j, j < n → R[oq + j]? = some (.string (rows.getD j { data := #[] })))
    (hE : VExt V0 V) (h02 : V0 g2 = none) (h03 : V0 g3 = none) (h0o : V0 go = none) (h06 : V0 g6 = none) (h07 : V0 g7 = none) (h2 : ∃ m, V g2 = some (m, .cells #[.slice A2 n c2] 50 (0, 0))) (h3 : ∃ m, V g3 = some (m, .cells #[.slice A n1 cp1] 23 (0, 0))) (h6 : ∃ m, V g6 = some (m, .cells #[.chan (some cd)] 76 (0, 0))) (h7 : V g7 = some (true, .cells #[.chan (some ca)] 77 (0, 0))) (ho : V go = some (true, .cells (tabA n (fun _ => .string { data := #[] })) 9 (0, 0))) : wpK (ZC n0 Try.prog Post [cd, ca] W) [] comp22 (fun (s : List SE) (e : Exit) (a' : Act) (V' : View) => s = [] ∧ e = .ret ∧ a'.defers = [] ∧ a'.tmps.getD 4 undef = .slice (some ⟨go, 0, none⟩) n n ∧ VExt V0 V' ∧ V' go = some (true, .cells (tabA n (fun i => .string (sumV (rows.getD i { data := #[] }) l))) 9 (0, 0))) a V := by
  have n26 : g2 ≠ g6 := fun e => by subst e; obtain ⟨m, h2⟩ := h2; obtain ⟨m', h6⟩ := h6; rw [h2] at h6; injection h6 with h6; injection h6 with _ h6; injection h6 with _ h6; revert h6; decide
  have n27 : g2 ≠ g7 := fun e => by subst e; obtain ⟨m, h2⟩ := h2; rw [h2] at h7; injection h7 with h7; injection h7 with _ h7; injection h7 with _ h7; revert h7; decide
  have n37 : g3 ≠ g7 := fun e => by subst e; obtain ⟨m, h3⟩ := h3; rw [h3] at h7; injection h7 with h7; injection h7 with _ h7; injection h7 with _ h7; revert h7; decide
  have n67 : g6 ≠ g7 := fun e => by subst e; obtain ⟨m, h6⟩ := h6; rw [h6] at h7; injection h7 with h7; injection h7 with _ h7; injection h7 with _ h7; revert h7; decide
  have n2o : g2 ≠ go := fun e => by subst e; obtain ⟨m, h2⟩ := h2; rw [h2] at ho; injection ho with ho; injection ho with _ ho; injection ho with _ ho; revert ho; decide
  have n3o : g3 ≠ go := fun e => by subst e; obtain ⟨m, h3⟩ := h3; rw [h3] at ho; injection ho with ho; injection ho with _ ho; injection ho with _ ho; revert ho; decide
  have n6o : g6 ≠ go := fun e => by subst e; obtain ⟨m, h6⟩ := h6; rw [h6] at ho; injection ho with ho; injection ho with _ ho; injection ho with _ ho; revert ho; decide
  have n7o : g7 ≠ go := fun e => by subst e; rw [h7] at ho; injection ho with ho; injection ho with _ ho; injection ho with _ ho; revert ho; decide
  obtain ⟨x, rfl⟩ := ha.lit
  clear ha
  unfold comp22 Try.f22
  dsimp only
  refine wpK_seq zc_own ?_
  have HE := Lib.hid hE
  have H2 := Lib.hid h2
  have H3 := Lib.hid h3
  have H6 := Lib.hid h6
  have H7 := Lib.hid h7
  have HO := Lib.hid ho
  clear hE h2 h3 h6 h7 ho
  refine wpK_seq zc_own ?_
  refine wpK_of_V (wpV_region (zc_own _) ?_)
  simp only [List.size_toArray, List.length_cons, List.length_nil, Nat.reduceAdd, Nat.zero_add, List.range, List.range.loop]
  obtain ⟨mm, hmm⟩ := H2.out
  have HM := Lib.hid hmm
  clear hmm
  refine opsV_load1 (zc_own _) rfl (by rfl) rfl rfl (isAgg_no Try.underlying50 rfl) (HM.out) (v := .slice A2 n c2) rfl ?_
  simp only [Act.put, List.getElem_toArray, List.getElem_cons_zero, List.getElem_cons_succ, List.setIfInBounds_toArray, List.set_cons_zero, List.set_cons_succ]
  clear HM mm
  refine opsV_k (zc_own _) rfl (by rfl) ?_
  intro w hS hL K hK
  go_simp
  refine hK _ _ ?_
  clear hK K
  refine .quiet hS hL (by first | rfl | simp [go_sem, *]) ?_
  clear hS hL w
  refine opsV_k (zc_own _) rfl (by rfl) ?_
  intro w hS hL K hK
  go_simp
  refine hK _ _ ?_
  clear hK K
  refine .quiet hS hL (by first | rfl | simp [go_sem, *]) ?_
  clear hS hL w
  refine opsV_nil (zc_own _) ?_
  simp only [NxK, BlK]
  refine wpK_block zc_own ?_
  refine wpK_loop zc_own (fun (m : Nat) (s : List SE) (a : Act) (V1 : View) => ∃ (k : Nat) (D : Nat → List Nat), k ≤ n ∧ m = n - k ∧ s = fspec cd (fun i => sumV (rows.getD i { data := #[] }) l) D k ∧ (∀ i, i < k → g7 ∉ D i) ∧ VExt V0 V1 ∧ (∃ m, V1 g2 = some (m, .cells #[.slice A2 n c2] 50 (0, 0))) ∧ (∃ m, V1 g3 = some (m, .cells #[.slice A n1 cp1] 23 (0, 0))) ∧ (∃ m, V1 g6 = some (m, .cells #[.chan (some cd)] 76 (0, 0))) ∧ V1 g7 = some (true, .cells #[.chan (some ca)] 77 (0, 0)) ∧ V1 go = some (true, .cells (tabA n (fun _ => .string { data := #[] })) 9 (0, 0)) ∧ TmB g2 g3 go g6 g7 n A2 c2 k a) n ⟨0, fun _ => [], by omega, rfl, rfl, fun i hi => by omega, HE.out, H2.out, H3.out, H6.out, H7.out, HO.out, ⟨rfl, rfl, rfl, rfl, rfl, rfl, rfl, rfl, rfl, rfl⟩⟩ ?_
  clear HE H2 H3 H6 H7 HO V x
  rintro m s a V ⟨k, D, hk, rfl, rfl, hD, hE, h2, h3, h6, h7, ho, ha⟩
  obtain ⟨x, rfl⟩ := ha.lit
  clear ha
  have HE := Lib.hid hE
  have H2 := Lib.hid h2
  have H3 := Lib.hid h3
  have H6 := Lib.hid h6
  have H7 := Lib.hid h7
  have HO := Lib.hid ho
  clear hE h2 h3 h6 h7 ho
  have HD := Lib.hid hD
  clear hD
  by_cases hk2 : k < n
  · have c1 : decide ((k : Int) < (n : Int)) = true := by simp; omega
    have k9 : IntKind.i64.wrap ((k : Int) + 1) = (k : Int) + 1 := IntWalk.i64_in _ (by omega)
    obtain ⟨gq, oq, mq, Rq, tq, fq, rfl, hVq, hRq⟩ := hr2 (by omega)
    have HVQ := Lib.hid hVq
    have HRQ := Lib.hid (hRq k hk2)
    clear hVq hRq hr2
    refine wpK_seq zc_own ?_
    refine wpK_of_V (wpV_region (zc_own _) ?_)
    simp only [List.size_toArray, List.length_cons, List.length_nil, Nat.reduceAdd, Nat.zero_add, List.range, List.range.loop]
    refine opsV_k (zc_own _) rfl (by rfl) ?_
    intro w hS hL K hK
    go_simp
    refine hK _ _ ?_
    clear hK K
    refine .quiet hS hL (by first | rfl | simp [go_sem, *]) ?_
    clear hS hL w
    refine opsV_nil (zc_own _) ?_
    simp only [NxK, BlK]
    refine wpK_seq zc_own ?_
    refine wpK_cond zc_own (t := true) (by first | rfl | simp [Act.eval, *]) ?_
    simp only [Bool.false_eq_true, if_true, if_false, reduceIte]
    refine wpK_of_V (wpV_skip (zc_own _) ?_)
    try simp only [NxK, BlK]
    refine wpK_seq zc_own ?_
    refine wpK_block zc_own ?_
    refine wpK_seq zc_own ?_
    refine wpK_of_V (wpV_region (zc_own _) ?_)
    simp only [List.size_toArray, List.length_cons, List.length_nil, Nat.reduceAdd, Nat.zero_add, List.range, List.range.loop]
    refine opsV_k (zc_own _) rfl (by rfl) ?_
    intro w hS hL K hK
    go_simp
    refine hK _ _ ?_
    clear hK K
    refine .quiet hS hL (by first | rfl | simp [go_sem, *]) ?_
    clear hS hL w
    refine opsV_pure (zc_own _) rfl (by rfl) (runT_index_slice rfl Try.underlying50 (by rfl) (size_of_map sz9) rfl rfl (j := k) rfl hk2) ?_
    simp only [Act.put, List.getElem_toArray, List.getElem_cons_zero, List.getElem_cons_succ, List.setIfInBounds_toArray, List.set_cons_zero, List.set_cons_succ]
    refine opsV_load1 (zc_own _) rfl (by rfl) rfl rfl (isAgg_no Try.underlying9 rfl) (HE.out _ _ HVQ.out) (v := .string (rows.getD k { data := #[] })) HRQ.out ?_
    simp only [Act.put, List.getElem_toArray, List.getElem_cons_zero, List.getElem_cons_succ, List.setIfInBounds_toArray, List.set_cons_zero, List.set_cons_succ]
    refine opsV_alloc (zc_own _) rfl (by rfl) (t := 3) rfl zero3 ?_
    intro g8 hg8
    simp only [Act.put, List.getElem_toArray, List.getElem_cons_zero, List.getElem_cons_succ, List.setIfInBounds_toArray, List.set_cons_zero, List.set_cons_succ]
    refine opsV_alloc (zc_own _) rfl (by rfl) (t := 9) rfl zero9 ?_
    intro g9 hg9
    simp only [Act.put, List.getElem_toArray, List.getElem_cons_zero, List.getElem_cons_succ, List.setIfInBounds_toArray, List.set_cons_zero, List.set_cons_succ]
    have n98 : g9 ≠ g8 := fun e => by subst e; rw [View.set_same] at hg9; cases hg9
    rw [View.set_ne _ _ _ n98] at hg9
    refine opsV_store1 (u := .int .i64 (k : Nat)) (zc_own _) rfl (by rfl) rfl rfl rfl (size_of_map sz3) rfl ((View.set_ne _ _ _ (Ne.symm n98)).trans (View.set_same _ _ _ _)) (by simp [Value.cells]) ?_
    simp only [Act.put, List.getElem_toArray, List.getElem_cons_zero, List.getElem_cons_succ, List.setIfInBounds_toArray, List.set_cons_zero, List.set_cons_succ]
    refine opsV_store1 (u := .string (rows.getD k { data := #[] })) (zc_own _) rfl (by rfl) rfl rfl rfl (size_of_map sz9) rfl ((View.set_ne _ _ _ n98).trans (View.set_same _ _ _ _)) (by simp [Value.cells]) ?_
    simp only [Act.put, List.getElem_toArray, List.getElem_cons_zero, List.getElem_cons_succ, List.setIfInBounds_toArray, List.set_cons_zero, List.set_cons_succ]
    show opsV _ _ _ _ _ ((((V.set g8 true (.cells #[.int .i64 0] 3 (0, 0))).set g9 true (.cells #[.string { data := #[] }] 9 (0, 0))).set g8 true (.cells #[.int .i64 (k : Nat)] 3 (0, 0))).set g9 true (.cells #[.string (rows.getD k { data := #[] })] 9 (0, 0)))
    have h08 : V0 g8 = none := by cases h : V0 g8 with | none => rfl | some r => have := HE.out _ _ h; rw [hg8] at this; cases this
    have h09 : V0 g9 = none := by cases h : V0 g9 with | none => rfl | some r => have := HE.out _ _ h; rw [hg9] at this; cases this
    have hsame : ∀ b r, V b = some r → ((((V.set g8 true (.cells #[.int .i64 0] 3 (0, 0))).set g9 true (.cells #[.string { data := #[] }] 9 (0, 0))).set g8 true (.cells #[.int .i64 (k : Nat)] 3 (0, 0))).set g9 true (.cells #[.string (rows.getD k { data := #[] })] 9 (0, 0))) b = some r := fun b r hb => by
      have e8 : b ≠ g8 := fun e => by subst e; rw [hg8] at hb; cases hb
      have e9 : b ≠ g9 := fun e => by subst e; rw [hg9] at hb; cases hb
      rw [View.set_ne _ _ _ e9, View.set_ne _ _ _ e8, View.set_ne _ _ _ e9, View.set_ne _ _ _ e8]; exact hb
    have h8 : ((((V.set g8 true (.cells #[.int .i64 0] 3 (0, 0))).set g9 true (.cells #[.string { data := #[] }] 9 (0, 0))).set g8 true (.cells #[.int .i64 (k : Nat)] 3 (0, 0))).set g9 true (.cells #[.string (rows.getD k { data := #[] })] 9 (0, 0))) g8 = some (true, .cells #[.int .i64 (k : Nat)] 3 (0, 0)) := by rw [View.set_ne _ _ _ (Ne.symm n98), View.set_same]
    have h9 : ((((V.set g8 true (.cells #[.int .i64 0] 3 (0, 0))).set g9 true (.cells #[.string { data := #[] }] 9 (0, 0))).set g8 true (.cells #[.int .i64 (k : Nat)] 3 (0, 0))).set g9 true (.cells #[.string (rows.getD k { data := #[] })] 9 (0, 0))) g9 = some (true, .cells #[.string (rows.getD k { data := #[] })] 9 (0, 0)) := View.set_same _ _ _ _
    have n7 : g7 ≠ g8 ∧ g7 ≠ g9 := ⟨fun e => (by subst e; rw [H7.out] at hg8; cases hg8), fun e => (by subst e; rw [H7.out] at hg9; cases hg9)⟩
    have no : go ≠ g8 ∧ go ≠ g9 := ⟨fun e => (by subst e; rw [HO.out] at hg8; cases hg8), fun e => (by subst e; rw [HO.out] at hg9; cases hg9)⟩
    generalize ((((V.set g8 true (.cells #[.int .i64 0] 3 (0, 0))).set g9 true (.cells #[.string { data := #[] }] 9 (0, 0))).set g8 true (.cells #[.int .i64 (k : Nat)] 3 (0, 0))).set g9 true (.cells #[.string (rows.getD k { data := #[] })] 9 (0, 0))) = V2 at *
    have HS := Lib.hid hsame
    have H8 := Lib.hid h8
    have H9 := Lib.hid h9
    clear hsame h8 h9 hg8 hg9
    refine opsV_nil (zc_own _) ?_
    simp only [NxK, BlK]
    refine wpK_region zc_own ?_
    simp only [List.size_toArray, List.length_cons, List.length_nil, Nat.reduceAdd, Nat.zero_add, List.range, List.range.loop]
    refine opsK_yields zc_own rfl (v := .func (.func 39) #[] #[.pointer (some ⟨g9, 0, none⟩), .pointer (some ⟨g3, 0, none⟩), .pointer (some ⟨g6, 0, none⟩), .pointer (some ⟨g8, 0, none⟩)]) (.still (by rfl) (fun w => runT_of (by go_simp) (by simp [go_sem, *]))) ?_
    simp only [Act.put, List.getElem_toArray, List.getElem_cons_zero, List.getElem_cons_succ, List.setIfInBounds_toArray, List.set_cons_zero, List.set_cons_succ]
    have HEK := Lib.hid (show VExt V0 (keep V2 (g9 :: g3 :: g6 :: g8 :: grl)) from keep_ext (HE.out.trans HS.out) (fun b hb r hr => by
      simp only [List.mem_cons] at hb
      rcases hb with rfl | rfl | rfl | rfl | hb
      · rw [h09] at hr; cases hr
      · rw [h03] at hr; cases hr
      · rw [h06] at hr; cases hr
      · rw [h08] at hr; cases hr
      · obtain ⟨ob, h1⟩ := hgrl b hb
        rw [h1] at hr; injection hr with hr; rw [← hr]))
    have n7D : g7 ∉ (g9 :: g3 :: g6 :: g8 :: grl) := fun h => by
      simp only [List.mem_cons] at h
      rcases h with h | h | h | h | h
      · exact n7.2 h
      · exact n37 h.symm
      · exact n67 h.symm
      · exact n7.1 h
      · obtain ⟨ob, h1⟩ := hgrl _ h
        rw [h07] at h1; cases h1
    have noD : go ∉ (g9 :: g3 :: g6 :: g8 :: grl) := fun h => by
      simp only [List.mem_cons] at h
      rcases h with h | h | h | h | h
      · exact no.2 h
      · exact n3o h.symm
      · exact n6o h.symm
      · exact no.1 h
      · obtain ⟨ob, h1⟩ := hgrl _ h
        rw [h0o] at h1; cases h1
    refine opsK_go rfl (by rfl) (f := 39) (caps := #[.pointer (some ⟨g9, 0, none⟩), .pointer (some ⟨g3, 0, none⟩), .pointer (some ⟨g6, 0, none⟩), .pointer (some ⟨g8, 0, none⟩)]) (by simp [execOp, resolve, Act.eval, Deferred.ofValue]) (SE.mk cd (.agg #[.int .i64 (k : Nat), .string (sumV (rows.getD k { data := #[] }) l)]) (g9 :: g3 :: g6 :: g8 :: grl)) (by simp) ?_ ?_
    · obtain ⟨m3, h3⟩ := H3.out
      obtain ⟨m6, h6⟩ := H6.out
      exact worker39 (lend V2 (g9 :: g3 :: g6 :: g8 :: grl)) _ A n1 cp1 l hl (fun hp => by
        obtain ⟨gr, o, R, tr, fr, q1, q2, q3, q4⟩ := hr1 hp
        exact ⟨gr, o, false, R, tr, fr, q2, lend_in (by simp [q1]) (HS.out _ _ (HE.out _ _ q3)), q4⟩) hn1 hz (lend_in (by simp) H9.out) (lend_in (by simp) (HS.out _ _ h3)) (lend_in (by simp) (HS.out _ _ h6)) (lend_in (by simp) H8.out)
    rw [fspec_succ]
    simp only [Act.put, List.getElem_toArray, List.getElem_cons_zero, List.getElem_cons_succ, List.setIfInBounds_toArray, List.set_cons_zero, List.set_cons_succ]
    refine opsK_nil zc_own ?_
    simp only [NxK, BlK]
    refine wpK_of_V (wpV_region (zc_own _) ?_)
    simp only [List.size_toArray, List.length_cons, List.length_nil, Nat.reduceAdd, Nat.zero_add, List.range, List.range.loop]
    refine opsV_k (zc_own _) rfl (by rfl) ?_
    intro w hS hL K hK
    go_simp
    refine hK _ _ ?_
    clear hK K
    refine .quiet hS hL (by first | rfl | simp [go_sem, *]) ?_
    clear hS hL w
    refine opsV_k (zc_own _) rfl (by rfl) ?_
    intro w hS hL K hK
    go_simp
    refine hK _ _ ?_
    clear hK K
    refine .quiet hS hL (by first | rfl | simp [go_sem, *]) ?_
    clear hS hL w
    refine opsV_nil (zc_own _) ?_
    simp only [NxK, BlK]
    exact ⟨n - (k + 1), by omega, k + 1, (fun i => if i = k then (g9 :: g3 :: g6 :: g8 :: grl) else D i), by omega, rfl, rfl, fun i hi => (by
      by_cases e : i = k
      · simp only [e, if_true]; exact n7D
      · simp only [e, if_false]; exact HD.out i (by omega)), HEK.out, keep_known (H2.out.imp fun m h => HS.out _ _ h), keep_known (H3.out.imp fun m h => HS.out _ _ h), keep_known (H6.out.imp fun m h => HS.out _ _ h), by rw [keep_out n7D]; exact HS.out _ _ H7.out, by rw [keep_out noD]; exact HS.out _ _ HO.out, ⟨rfl, rfl, rfl, rfl, rfl, rfl, rfl, rfl, rfl, rfl⟩⟩
  · obtain rfl : k = n := by omega
    have c1 : decide ((k : Int) < (k : Int)) = false := by simp
    refine wpK_seq zc_own ?_
    refine wpK_of_V (wpV_region (zc_own _) ?_)
    simp only [List.size_toArray, List.length_cons, List.length_nil, Nat.reduceAdd, Nat.zero_add, List.range, List.range.loop]
    refine opsV_k (zc_own _) rfl (by rfl) ?_
    intro w hS hL K hK
    go_simp
    refine hK _ _ ?_
    clear hK K
    refine .quiet hS hL (by first | rfl | simp [go_sem, *]) ?_
    clear hS hL w
    refine opsV_nil (zc_own _) ?_
    simp only [NxK, BlK]
    refine wpK_seq zc_own ?_
    refine wpK_cond zc_own (t := false) (by first | rfl | simp [Act.eval, *]) ?_
    simp only [Bool.false_eq_true, if_true, if_false, reduceIte]
    refine wpK_of_V (wpV_exit (zc_own _) ?_)
    try simp only [NxK, BlK, if_true, if_false, reduceIte, Nat.reduceEqDiff]
    refine wpK_seq zc_own ?_
    refine wpK_region zc_own ?_
    simp only [List.size_toArray, List.length_cons, List.length_nil, Nat.reduceAdd, Nat.zero_add, List.range, List.range.loop]
    refine opsK_yields zc_own rfl (v := .func (.func 41) #[] #[.pointer (some ⟨g7, 0, none⟩), .pointer (some ⟨g2, 0, none⟩)]) (.still (by rfl) (fun w => runT_of (by go_simp) (by simp [go_sem, *]))) ?_
    simp only [Act.put, List.getElem_toArray, List.getElem_cons_zero, List.getElem_cons_succ, List.setIfInBounds_toArray, List.set_cons_zero, List.set_cons_succ]
    have HEK := Lib.hid (show VExt V0 (keep V [g7, g2]) from keep_ext HE.out (fun b hb r hr => by
      simp only [List.mem_cons, List.not_mem_nil, or_false] at hb
      rcases hb with rfl | rfl
      · rw [h07] at hr; cases hr
      · rw [h02] at hr; cases hr))
    have noD : go ∉ [g7, g2] := fun h => by
      simp only [List.mem_cons, List.not_mem_nil, or_false] at h
      rcases h with h | h
      · exact n7o h.symm
      · exact n2o h.symm
    refine opsK_go rfl (by rfl) (f := 41) (caps := #[.pointer (some ⟨g7, 0, none⟩), .pointer (some ⟨g2, 0, none⟩)]) (by simp [execOp, resolve, Act.eval, Deferred.ofValue]) (SE.mk ca (.bool ((k : Int) == 0)) [g7, g2]) (by simp) ?_ ?_
    · obtain ⟨m2, h2⟩ := H2.out
      exact worker41 (lend V [g7, g2]) A2 k c2 (lend_in (by simp) H7.out) (lend_in (by simp) h2)
    simp only [Act.put, List.getElem_toArray, List.getElem_cons_zero, List.getElem_cons_succ, List.setIfInBounds_toArray, List.set_cons_zero, List.set_cons_succ]
    rw [show fspec cd (fun i => sumV (rows.getD i { data := #[] }) l) D k ++ [SE.mk ca (.bool ((k : Int) == 0)) [g7, g2]] = specR cd ca (fun i => sumV (rows.getD i { data := #[] }) l) D k g7 g2 (List.range k) true from rfl]
    refine opsK_nil zc_own ?_
    simp only [NxK, BlK]
    have H2K := Lib.hid (keep_known (D := [g7, g2]) H2.out)
    have H6K := Lib.hid (keep_known (D := [g7, g2]) H6.out)
    have H7K := Lib.hid (keep_in (D := [g7, g2]) (by simp) H7.out)
    have HOK := Lib.hid (show keep V [g7, g2] go = _ from (keep_out noD).trans HO.out)
    generalize keep V [g7, g2] = V3 at *
    refine wpK_seq zc_own ?_
    refine wpK_of_V (wpV_region (zc_own _) ?_)
    simp only [List.size_toArray, List.length_cons, List.length_nil, Nat.reduceAdd, Nat.zero_add, List.range, List.range.loop]
    obtain ⟨mm, hmm⟩ := H2K.out
    have HM := Lib.hid hmm
    clear hmm
    refine opsV_load1 (zc_own _) rfl (by rfl) rfl rfl (isAgg_no Try.underlying50 rfl) (HM.out) (v := .slice A2 k c2) rfl ?_
    simp only [Act.put, List.getElem_toArray, List.getElem_cons_zero, List.getElem_cons_succ, List.setIfInBounds_toArray, List.set_cons_zero, List.set_cons_succ]
    clear HM mm
    refine opsV_k (zc_own _) rfl (by rfl) ?_
    intro w hS hL K hK
    go_simp
    refine hK _ _ ?_
    clear hK K
    refine .quiet hS hL (by first | rfl | simp [go_sem, *]) ?_
    clear hS hL w
    refine opsV_k (zc_own _) rfl (by rfl) ?_
    intro w hS hL K hK
    go_simp
    refine hK _ _ ?_
    clear hK K
    refine .quiet hS hL (by first | rfl | simp [go_sem, *]) ?_
    clear hS hL w
    refine opsV_nil (zc_own _) ?_
    simp only [NxK, BlK]
    refine wpK_seq zc_own ?_
    refine wpK_of_V (wpV_label (zc_own _) ?_)
    simp only [NxK, BlK]
    refine wpK_seq zc_own ?_
    refine wpK_mono (Q := fun s e a' V' => s = [] ∧ e = .normal ∧ VExt V0 V' ∧ V' go = some (true, .cells (tabA k (fun i => .string (sumV (rows.getD i { data := #[] }) l))) 9 (0, 0)) ∧ ∃ j, TmR go g6 g7 k j a') (show wpK (ZC n0 Try.prog Post [cd, ca] W) (specR cd ca (fun i => sumV (rows.getD i { data := #[] }) l) D k g7 g2 (List.range k) true) recv22 _ _ _ from ?_) ?_
    · exact recv_S (by rw [List.length_range]; exact ⟨rfl, rfl, rfl, rfl, rfl, rfl⟩) hcc HD.out List.nodup_range (fun i hi => List.mem_range.1 hi) (by rw [List.length_range]; exact Nat.le_refl _) hn (fun h => by have := (specR_nil.1 h).2; cases this) HEK.out h0o h07 n67 (Ne.symm n6o) (Ne.symm n7o) H6K.out H7K.out (by rw [HOK.out, tabA_congr k (outR (fun i => sumV (rows.getD i { data := #[] }) l) (List.range k)) (fun _ => .string { data := #[] }) (fun i hi => by unfold outR; rw [if_pos (List.mem_range.2 hi)])])
    rintro s e a' V' ⟨rfl, rfl, hE4, ho4, j, ha'⟩
    obtain ⟨x, rfl⟩ := ha'.lit
    simp only [NxK, BlK]
    refine wpK_seq zc_own ?_
    refine wpK_of_V (wpV_region (zc_own _) ?_)
    simp only [List.size_toArray, List.length_cons, List.length_nil, Nat.reduceAdd, Nat.zero_add, List.range, List.range.loop]
    refine opsV_k (zc_own _) rfl (by rfl) ?_
    intro w hS hL K hK
    go_simp
    refine hK _ _ ?_
    clear hK K
    refine .quiet hS hL (by first | rfl | simp [go_sem, *]) ?_
    clear hS hL w
    refine opsV_k (zc_own _) rfl (by rfl) ?_
    intro w hS hL K hK
    go_simp
    refine hK _ _ ?_
    clear hK K
    refine .quiet hS hL (by first | rfl | simp [go_sem, *]) ?_
    clear hS hL w
    refine opsV_nil (zc_own _) ?_
    simp only [NxK, BlK]
    refine wpK_of_V (wpV_ret (zc_own _) ?_)
    try simp only [NxK, BlK]
    exact ⟨by trivial, by trivial, by trivial, by trivial, hE4, ho4⟩
end Go.Proofs.Ytjdppgogdilgkaa
end
section
namespace Go.Proofs.Ytjdppgogdilgkaa
open Go.RowKit Go.Gf Go.Co Go.Conc
set_option linter.unusedSimpArgs false
set_option linter.unusedVariables false
theorem info9q : (Try.prog.info? 9).map (fun i => (i.zero, i.size, i.bytes)) = some (some (.string { data := #[] }), 1, 16) := by kernel_rfl
theorem inf80 : ∃ i, Try.prog.info? 80 = some i := by
  have := sz80
  cases h : Try.prog.info? 80 with
  | none => rw [h] at this; cases this
  | some i => exact ⟨i, rfl⟩
theorem sz4 : (Try.prog.info? 4).map (·.size) = some 1 := by kernel_rfl
theorem inf4 : ∃ i, Try.prog.info? 4 = some i := by
  have := sz4
  cases h : Try.prog.info? 4 with
  | none => rw [h] at this; cases this
  | some i => exact ⟨i, rfl⟩
theorem VExt.none_of {V V' : View} {g : Nat} (h : VExt V V') (hg : V' g = none) : V g = none := by
  cases e : V g with
  | none => rfl
  | some r => have := h _ _ e; rw [hg] at this; cases this
set_option maxHeartbeats 4000000 in
set_option maxRecDepth 100000 in
theorem sums_V {n0 : Nat} {Post : Value → World → Prop} {W : World} {V : View} {n n1 cp1 c2 : Nat} {A A2 : Option Addr} {rows l : List ByteArray} (hn : n ≤ 1048576) (hn1 : n1 ≤ 1048576) (hl : l.length = n1) (hz : ∀ s ∈ l, s.size ≤ 1048576)
    (hr1 : 0 < n1 → ∃ gr o R tr fr, A = some ⟨gr, o, none⟩ ∧ V gr = some (false, .cells R tr fr) ∧ ∀ j, j < n1 → R[o + j]? = some (.string (l.getD j { data := #[] })))
    (hr2 : 0 < n → ∃ gq oq m R tr fr, A2 = some ⟨gq, oq, none⟩ ∧ V gq = some (m, .cells R tr fr) ∧ ∀ j, j < n → R[oq + j]? = some (.string (rows.getD j { data := #[] }))) :
    CallsV Try.prog (ZB n0 Try.prog Post W) 22 #[.slice A2 n c2, .slice A n1 cp1] V fun v V' => ∃ g, v = .slice (some ⟨g, 0, none⟩) n n ∧ V g = none ∧ V' g = some (true, .cells (tabA n (fun i => .string (sumV (rows.getD i { data := #[] }) l))) 9 (0, 0)) ∧ VExt V V' := by
  have hZ : OwnV n0 Try.prog true (ZB n0 Try.prog Post W) := zb_own
  obtain ⟨i9, hi9, hz9, hs9, hb9⟩ := info_parts info9q
  obtain ⟨grl, hgrl, hr1'⟩ : ∃ grl : List Nat, (∀ b ∈ grl, ∃ o, V b = some (false, o)) ∧ (0 < n1 → ∃ gr o R tr fr, gr ∈ grl ∧ A = some ⟨gr, o, none⟩ ∧ V gr = some (false, .cells R tr fr) ∧ ∀ j, j < n1 → R[o + j]? = some (.string (l.getD j { data := #[] }))) := by
    by_cases h : 0 < n1
    · obtain ⟨gr, o, R, tr, fr, q1, q2, q3⟩ := hr1 h
      exact ⟨[gr], fun b hb => by rw [List.mem_singleton.1 hb]; exact ⟨_, q2⟩, fun _ => ⟨gr, o, R, tr, fr, by simp, q1, q2, q3⟩⟩
    · exact ⟨[], fun b hb => by simp at hb, fun h' => absurd h' h⟩
  have HR1 := Lib.hid hr1'
  have HR2 := Lib.hid hr2
  have HGR := Lib.hid hgrl
  clear hr1 hr1' hr2 hgrl
  refine callsV_of_wp hZ Try.func22 rfl ?_
  simp only [Try.ntmps22, List.size_toArray, List.length_cons, List.length_nil, Nat.reduceAdd, Nat.reduceSub, Array.replicate_succ, Array.replicate_zero, List.push_toArray, List.append_toArray, List.nil_append, List.cons_append]
  refine wpV_seq hZ ?_
  refine wpV_region hZ ?_
  simp only [List.size_toArray, List.length_cons, List.length_nil, Nat.reduceAdd, Nat.zero_add, List.range, List.range.loop]
  refine opsV_box hZ rfl (by rfl) (t := 50) rfl ?_
  intro g2 hg2
  simp only [Act.put, List.getElem_toArray, List.getElem_cons_zero, List.getElem_cons_succ, List.setIfInBounds_toArray, List.set_cons_zero, List.set_cons_succ]
  refine opsV_box hZ rfl (by rfl) (t := 23) rfl ?_
  intro g3 hg3
  simp only [Act.put, List.getElem_toArray, List.getElem_cons_zero, List.getElem_cons_succ, List.setIfInBounds_toArray, List.set_cons_zero, List.set_cons_succ]
  show opsV _ _ _ _ _ ((V.set g2 true (.cells #[.slice A2 n c2] 50 (0, 0))).set g3 true (.cells #[.slice A n1 cp1] 23 (0, 0)))
  have n32 : g3 ≠ g2 := fun e => by subst e; rw [View.set_same] at hg3; cases hg3
  rw [View.set_ne _ _ _ n32] at hg3
  have hE : VExt V ((V.set g2 true (.cells #[.slice A2 n c2] 50 (0, 0))).set g3 true (.cells #[.slice A n1 cp1] 23 (0, 0))) := ((VExt.refl V).set hg2).set hg3
  have h2 : ((V.set g2 true (.cells #[.slice A2 n c2] 50 (0, 0))).set g3 true (.cells #[.slice A n1 cp1] 23 (0, 0))) g2 = some (true, .cells #[.slice A2 n c2] 50 (0, 0)) := by rw [View.set_ne _ _ _ (Ne.symm n32), View.set_same]
  have h3 : ((V.set g2 true (.cells #[.slice A2 n c2] 50 (0, 0))).set g3 true (.cells #[.slice A n1 cp1] 23 (0, 0))) g3 = some (true, .cells #[.slice A n1 cp1] 23 (0, 0)) := View.set_same _ _ _ _
  generalize ((V.set g2 true (.cells #[.slice A2 n c2] 50 (0, 0))).set g3 true (.cells #[.slice A n1 cp1] 23 (0, 0))) = Va at *
  have HE := Lib.hid hE
  have H2 := Lib.hid h2
  have H3 := Lib.hid h3
  clear hE h2 h3
  refine opsV_k hZ rfl (by rfl) ?_
  intro w hS hL K hK
  go_simp
  refine hK _ _ ?_
  clear hK K
  refine .quiet hS hL (by first | rfl | simp [go_sem, *]) ?_
  clear hS hL w
  refine opsV_nil hZ ?_
  simp only [NxV]
  refine wpV_scope hZ ?_
  refine wpV_seq hZ ?_
  refine wpV_region hZ ?_
  simp only [List.size_toArray, List.length_cons, List.length_nil, Nat.reduceAdd, Nat.zero_add, List.range, List.range.loop]
  refine opsV_load1 hZ rfl (by rfl) rfl rfl (isAgg_no Try.underlying50 rfl) H2.out (v := .slice A2 n c2) rfl ?_
  simp only [Act.put, List.getElem_toArray, List.getElem_cons_zero, List.getElem_cons_succ, List.setIfInBounds_toArray, List.set_cons_zero, List.set_cons_succ]
  refine opsV_k hZ rfl (by rfl) ?_
  intro w hS hL K hK
  go_simp
  refine hK _ _ ?_
  clear hK K
  refine .quiet hS hL (by first | rfl | simp [go_sem, *]) ?_
  clear hS hL w
  refine opsV_make hZ rfl (by rfl) rfl Try.underlying23 hi9 hz9 hs9 (m := n) rfl rfl (by rw [hb9]; omega) (by omega) ?_
  intro go hgo
  simp only [Act.put, List.getElem_toArray, List.getElem_cons_zero, List.getElem_cons_succ, List.setIfInBounds_toArray, List.set_cons_zero, List.set_cons_succ]
  rw [madeCells_one _ _ rfl]
  have hoV := VExt.none_of HE.out hgo
  have n2o : g2 ≠ go := fun e => by subst e; rw [H2.out] at hgo; cases hgo
  have n3o : g3 ≠ go := fun e => by subst e; rw [H3.out] at hgo; cases hgo
  generalize hV1 : Va.set go true (.cells (tabA n (fun _ => Value.string { data := #[] })) 9 (0, 0)) = V1
  have HE1 := Lib.hid (show VExt V V1 by rw [← hV1]; exact HE.out.trans ((VExt.refl Va).set hgo))
  have H21 := Lib.hid (show V1 g2 = some (true, .cells #[.slice A2 n c2] 50 (0, 0)) by rw [← hV1, View.set_ne _ _ _ n2o]; exact H2.out)
  have H31 := Lib.hid (show V1 g3 = some (true, .cells #[.slice A n1 cp1] 23 (0, 0)) by rw [← hV1, View.set_ne _ _ _ n3o]; exact H3.out)
  have HO1 := Lib.hid (show V1 go = some (true, .cells (tabA n (fun _ => Value.string { data := #[] })) 9 (0, 0)) by rw [← hV1, View.set_same])
  clear hV1 hgo HE H2 H3 Va
  refine opsV_k hZ rfl (by rfl) ?_
  intro w hS hL K hK
  go_simp
  refine hK _ _ ?_
  clear hK K
  refine .quiet hS hL (by first | rfl | simp [go_sem, *]) ?_
  clear hS hL w
  refine opsV_nil hZ ?_
  simp only [NxV]
  refine wpV_seq hZ ?_
  refine wpV_draw hZ (by kernel_rfl) (fun _ => True) (fun _ => false) (anyV_inv (fun (listed : Array Bool) (a : Act) (V : View) => ∃ (l0 l1 l2 l3 l4 l5 : Bool) (x6 x7 x16 x17 : Value), listed = #[l0, l1, l2, l3, l4, l5] ∧ a = ⟨#[.slice A2 n c2, .slice A n1 cp1, .pointer (some ⟨g2, 0, none⟩), .pointer (some ⟨g3, 0, none⟩), .slice none 0 0, .slice (some ⟨go, 0, none⟩) n n, x6, x7, undef, undef, undef, undef, undef, .slice A2 n c2, .int .i64 (n : Nat), .slice (some ⟨go, 0, none⟩) n n, x16, x17, undef, undef, undef, undef, undef, undef, undef, undef, undef, undef, undef, undef, undef, undef, undef, undef, undef, undef, undef, undef, undef, undef, undef, undef, undef, undef, undef, undef, undef, undef, undef, undef, undef, undef, undef, undef], []⟩ ∧ VExt V1 V ∧ CH V1 V l0 x16 ∧ CH V1 V l1 x17 ∧ (l0 = true → l1 = true → x16 ≠ x17) ∧ VR V1 V 76 l2 l4 x6 x16 ∧ VR V1 V 77 l3 l5 x7 x17 ∧ (l4 = true → l0 = true ∧ l2 = true) ∧ (l5 = true → l1 = true ∧ l3 = true)) ?step ?done _ _ _ _ (by decide) ?start)
  case start => exact ⟨false, false, false, false, false, false, undef, undef, undef, undef, rfl, rfl, VExt.refl V1, (fun h => by cases h), (fun h => by cases h), (fun h => by cases h), (fun h => by cases h), (fun h => by cases h), (fun h => by cases h), (fun h => by cases h)⟩
  case step =>
    rintro listed a V2 ⟨l0, l1, l2, l3, l4, l5, x6, x7, x16, x17, rfl, rfl, hE, hc0, hc1, hne, hv6, hv7, h4, h5⟩ i hi
    obtain ⟨hl, o, ho, hall⟩ := mem_ready.1 hi
    have hi6 : i < 6 := by have := (Array.getElem?_eq_some_iff.1 ho).1; simpa using this
    clear hi
    rcases (show i = 0 ∨ i = 1 ∨ i = 2 ∨ i = 3 ∨ i = 4 ∨ i = 5 by omega) with rfl | rfl | rfl | rfl | rfl | rfl
    · obtain rfl : l0 = false := hl
      obtain ⟨ii, hii⟩ := inf80
      refine OpV.makeChan rfl (by rfl) rfl rfl Try.underlying76 hii (fun g hg => ?_)
      simp only [Act.put, List.getElem_toArray, List.getElem_cons_zero, List.getElem_cons_succ, List.setIfInBounds_toArray, List.set_cons_zero, List.set_cons_succ]
      exact ⟨true, l1, l2, l3, l4, l5, x6, x7, .chan (some g), x17, rfl, rfl, hE.trans (VExt.new hg), fun _ => ⟨g, rfl, View.set_same _ _ _ _, VExt.none_of hE hg⟩, hc1.new hg, (fun _ h1 e => by
        obtain ⟨c, e1, e2, _⟩ := hc1 h1
        rw [e1] at e
        injection e with e
        injection e with e
        subst e
        rw [hg] at e2; cases e2), (fun h => by obtain ⟨b, y, e1, e2, e3, e4⟩ := (hv6.new hg) h; exact ⟨b, y, e1, e2, e3, fun h => by have := (h4 h).1; cases this⟩), hv7.new hg, (fun h => ⟨rfl, (h4 h).2⟩), h5⟩
    · obtain rfl : l1 = false := hl
      obtain ⟨ii, hii⟩ := inf4
      refine OpV.makeChan rfl (by rfl) rfl rfl Try.underlying77 hii (fun g hg => ?_)
      simp only [Act.put, List.getElem_toArray, List.getElem_cons_zero, List.getElem_cons_succ, List.setIfInBounds_toArray, List.set_cons_zero, List.set_cons_succ]
      exact ⟨l0, true, l2, l3, l4, l5, x6, x7, x16, .chan (some g), rfl, rfl, hE.trans (VExt.new hg), hc0.new hg, fun _ => ⟨g, rfl, View.set_same _ _ _ _, VExt.none_of hE hg⟩, (fun h0 _ e => by
        obtain ⟨c, e1, e2, _⟩ := hc0 h0
        rw [e1] at e
        injection e with e
        injection e with e
        subst e
        rw [hg] at e2; cases e2), hv6.new hg, (fun h => by obtain ⟨b, y, e1, e2, e3, e4⟩ := (hv7.new hg) h; exact ⟨b, y, e1, e2, e3, fun h => by have := (h5 h).1; cases this⟩), h4, (fun h => ⟨rfl, (h5 h).2⟩)⟩
    · obtain rfl : l2 = false := hl
      refine OpV.alloc rfl (by rfl) rfl zero76 (fun g hg => ?_)
      simp only [Act.put, List.getElem_toArray, List.getElem_cons_zero, List.getElem_cons_succ, List.setIfInBounds_toArray, List.set_cons_zero, List.set_cons_succ]
      exact ⟨l0, l1, true, l3, l4, l5, .pointer (some ⟨g, 0, none⟩), x7, x16, x17, rfl, rfl, hE.trans (VExt.new hg), hc0.new hg, hc1.new hg, hne, (fun _ => ⟨g, .chan none, rfl, View.set_same _ _ _ _, VExt.none_of hE hg, fun h => by have := (h4 h).2; cases this⟩), hv7.new hg, (fun h => ⟨(h4 h).1, rfl⟩), h5⟩
    · obtain rfl : l3 = false := hl
      refine OpV.alloc rfl (by rfl) rfl zero77 (fun g hg => ?_)
      simp only [Act.put, List.getElem_toArray, List.getElem_cons_zero, List.getElem_cons_succ, List.setIfInBounds_toArray, List.set_cons_zero, List.set_cons_succ]
      exact ⟨l0, l1, l2, true, l4, l5, x6, .pointer (some ⟨g, 0, none⟩), x16, x17, rfl, rfl, hE.trans (VExt.new hg), hc0.new hg, hc1.new hg, hne, hv6.new hg, (fun _ => ⟨g, .chan none, rfl, View.set_same _ _ _ _, VExt.none_of hE hg, fun h => by have := (h5 h).2; cases this⟩), h4, (fun h => ⟨(h5 h).1, rfl⟩)⟩
    · obtain rfl : l4 = false := hl
      obtain rfl := Option.some.inj ho
      obtain rfl : l0 = true := hall { on := 0, ground := .data } (by simp) rfl
      obtain rfl : l2 = true := hall { on := 2, ground := .data } (by simp) rfl
      clear hall ho
      obtain ⟨c, rfl, hc, hcn⟩ := hc0 rfl
      obtain ⟨b, y, rfl, hb, hbn, _⟩ := hv6 rfl
      refine OpV.store rfl (by rfl) rfl rfl (A := ⟨b, 0, none⟩) (u := .chan (some c)) rfl hb (fun w hw => Go.Co.run_storeVar_one (size_of_map sz76) rfl hw (by simp)) ?_
      simp only [Act.put, List.getElem_toArray, List.getElem_cons_zero, List.getElem_cons_succ, List.setIfInBounds_toArray, List.set_cons_zero, List.set_cons_succ]
      exact ⟨true, l1, true, l3, true, l5, _, x7, _, x17, rfl, rfl, hE.set hbn, hc0.store hb, hc1.store hb, hne, (fun _ => ⟨b, .chan (some c), rfl, View.set_same _ _ _ _, hbn, fun _ => rfl⟩), hv7.store hb (by decide), (fun _ => ⟨rfl, rfl⟩), h5⟩
    · obtain rfl : l5 = false := hl
      obtain rfl := Option.some.inj ho
      obtain rfl : l1 = true := hall { on := 1, ground := .data } (by simp) rfl
      obtain rfl : l3 = true := hall { on := 3, ground := .data } (by simp) rfl
      clear hall ho
      obtain ⟨c, rfl, hc, hcn⟩ := hc1 rfl
      obtain ⟨b, y, rfl, hb, hbn, _⟩ := hv7 rfl
      refine OpV.store rfl (by rfl) rfl rfl (A := ⟨b, 0, none⟩) (u := .chan (some c)) rfl hb (fun w hw => Go.Co.run_storeVar_one (size_of_map sz77) rfl hw (by simp)) ?_
      simp only [Act.put, List.getElem_toArray, List.getElem_cons_zero, List.getElem_cons_succ, List.setIfInBounds_toArray, List.set_cons_zero, List.set_cons_succ]
      exact ⟨l0, true, l2, true, l4, true, x6, _, x16, _, rfl, rfl, hE.set hbn, hc0.store hb, hc1.store hb, hne, hv6.store hb (by decide), (fun _ => ⟨b, .chan (some c), rfl, View.set_same _ _ _ _, hbn, fun _ => rfl⟩), h4, (fun _ => ⟨rfl, rfl⟩)⟩
  case done =>
    rintro listed a V2 ⟨l0, l1, l2, l3, l4, l5, x6, x7, x16, x17, rfl, rfl, hE, hc0, hc1, hne, hv6, hv7, h4, h5⟩ hr
    obtain ⟨rfl, rfl, rfl, rfl, rfl, rfl⟩ : l0 = true ∧ l1 = true ∧ l2 = true ∧ l3 = true ∧ l4 = true ∧ l5 = true := by
      clear hc0 hc1 hne hv6 hv7 h4 h5
      revert hr
      revert l0 l1 l2 l3 l4 l5
      decide +kernel
    clear hr h4 h5
    obtain ⟨cd, rfl, hcd, hcdn⟩ := hc0 rfl
    obtain ⟨ca, rfl, hca, hcan⟩ := hc1 rfl
    obtain ⟨g6, y6, rfl, h6, h6n, e6⟩ := hv6 rfl
    obtain ⟨g7, y7, rfl, h7, h7n, e7⟩ := hv7 rfl
    obtain rfl := e6 rfl
    obtain rfl := e7 rfl
    have hcc : cd ≠ ca := fun e => hne rfl rfl (by rw [e])
    clear hc0 hc1 hne hv6 hv7 e6 e7
    simp only [NxV]
    have hnc : ∀ b r, V1 b = some r → ¬ (b = cd ∨ b = ca) := fun b r hb h => by
      rcases h with rfl | rfl
      · rw [hcdn] at hb; cases hb
      · rw [hcan] at hb; cases hb
    have hnk : ∀ b m c t f, V2 b = some (m, .cells c t f) → ¬ (b = cd ∨ b = ca) := fun b m c t f hb h => by
      rcases h with rfl | rfl
      · rw [hcd] at hb; injection hb with hb; injection hb with _ hb; cases hb
      · rw [hca] at hb; injection hb with hb; injection hb with _ hb; cases hb
    have hE3 : VExt V (fun b => if b = cd ∨ b = ca then none else V2 b) := fun b r hb => by
      have h1 := HE1.out _ _ hb
      simp only [if_neg (hnc b r h1)]
      exact hE _ _ h1
    refine wpV_company [cd, ca] (V0 := fun b => if b = cd ∨ b = ca then none else V2 b) (fun b r hb => ?_) (fun c hc => ?_) (fun c hc => ?_) ?_
    · by_cases h : b = cd ∨ b = ca
      · simp only [if_pos h] at hb; cases hb
      · simp only [if_neg h] at hb; exact hb
    · simp only [List.mem_cons, List.not_mem_nil, or_false] at hc
      rcases hc with rfl | rfl
      · exact ⟨_, _, _, hcd⟩
      · exact ⟨_, _, _, hca⟩
    · simp only [List.mem_cons, List.not_mem_nil, or_false] at hc
      simp only [if_pos hc]
    have hk2 := hE _ _ H21.out
    have hk3 := hE _ _ H31.out
    have hko := hE _ _ HO1.out
    have h02 : V g2 = none := hg2
    have h03 : V g3 = none := hg3
    refine wpK_mono (comp_S (rows := rows) (l := l) (A := A) (A2 := A2) (n1 := n1) (cp1 := cp1) (c2 := c2) (g2 := g2) (g3 := g3) (go := go) (g6 := g6) (g7 := g7) (n := n) (V0 := V) (grl := grl) ⟨rfl, rfl, rfl, rfl, rfl, rfl, rfl⟩ hcc hn hn1 hl hz HGR.out HR1.out HR2.out hE3 h02 h03 hoV (VExt.none_of HE1.out h6n) (VExt.none_of HE1.out h7n) ⟨true, by simp only [if_neg (hnk _ _ _ _ _ hk2)]; exact hk2⟩ ⟨true, by simp only [if_neg (hnk _ _ _ _ _ hk3)]; exact hk3⟩ ⟨true, by simp only [if_neg (hnk _ _ _ _ _ h6)]; exact h6⟩ (by simp only [if_neg (hnk _ _ _ _ _ h7)]; exact h7) (by simp only [if_neg (hnk _ _ _ _ _ hko)]; exact hko)) ?_
    rintro s e a' V' ⟨rfl, rfl, hds, hv, hE4, ho4⟩
    exact ⟨rfl, hds, _, fun w hs => resultsV_tmp rfl hv w, go, rfl, hoV, ho4, hE4⟩
theorem rd_rows {w : World} {A : Option Addr} {n : Nat} {l : List ByteArray} (h : Rd w A n (l.map Value.string)) (hn : 0 < n) :
    ∃ gr o R tr fr, A = some ⟨gr, o, none⟩ ∧ allV w gr = some (false, .cells R tr fr) ∧ ∀ j, j < n → R[o + j]? = some (.string (l.getD j { data := #[] })) := by
  have hl : l.length = n := by have := h.1; simpa using this
  obtain ⟨g, o, e, hc⟩ := h.2 hn
  have hat : ∀ j, j < n → w.cell? ⟨g, o + j, none⟩ = some (.string (l.getD j { data := #[] })) := fun j hj => hc j _ (by
    rw [List.getElem?_map, List.getD_eq_getElem?_getD, List.getElem?_eq_getElem (by omega)]; rfl)
  cases hb : w.heap[g]? with
  | none => have := hat 0 hn; simp [World.cell?, hb] at this
  | some ob =>
    cases ob with
    | cells R tr fr =>
      refine ⟨g, o, R, tr, fr, e, allV_some hb, fun j hj => ?_⟩
      have := hat j hj
      simpa [World.cell?, hb] using this
    | _ => have := hat 0 hn; simp [World.cell?, hb] at this
theorem sums_B {n0 n n1 cp1 c2 : Nat} {A A2 : Option Addr} {rows l : List ByteArray} {w : World} (hr2 : Rd w A2 n (rows.map Value.string)) (hr1 : Rd w A n1 (l.map Value.string)) (hn : n ≤ 1048576) (hn1 : n1 ≤ 1048576) (hz : ∀ s ∈ l, s.size ≤ 1048576) :
    CallsB n0 Try.prog 22 #[.slice A2 n c2, .slice A n1 cp1] w fun v w' => ∃ g, v = .slice (some ⟨g, 0, none⟩) n n ∧ w.heap.size ≤ g ∧ Blk w' g 9 (tabA n (fun i => .string (sumV (rows.getD i { data := #[] }) l))) ∧ Ext w w' := by
  refine callsB_of_V fun Post => ?_
  intro cs k
  refine sums_V (V := allV w) (rows := rows) (l := l) hn hn1 (by have := hr1.1; simpa using this) hz (fun h => rd_rows hr1 h) (fun h => by
    obtain ⟨gr, o, R, tr, fr, q⟩ := rd_rows hr2 h
    exact ⟨gr, o, false, R, tr, fr, q⟩) cs (fun v V' fr hR h1 h2 => k v V' fr (fun w' hs hk ht => ?_) h1 h2)
  obtain ⟨g, rfl, hg, hv, hE⟩ := hR
  have hb := below_of_sat hE hs hk ht
  refine ⟨g, rfl, ?_, hs _ _ _ hv, ⟨hb.1, hb.2.1, hb.2.2.1, hb.2.2.2.1, hb.2.2.2.2⟩⟩
  rcases Nat.lt_or_ge g w.heap.size with h | h
  · rw [allV_some (Array.getElem?_eq_getElem h)] at hg; cases hg
  · exact h
end Go.Proofs.Ytjdppgogdilgkaa
end
