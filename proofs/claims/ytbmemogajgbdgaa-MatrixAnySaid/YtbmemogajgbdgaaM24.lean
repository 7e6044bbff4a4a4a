import Derived.Test.YtbmemogajgbdgaaM23
namespace Go.Proofs.Ytbmemogajgbdgaa
open Go.RowKit Go.Gf
/-- What is taken, what is left. -/
def Two (n i fl : Nat) (R F : List Nat) : Prop := R.length = i ∧ F.length = fl ∧ fl + i = n ∧ (R ++ F).Nodup ∧ ∀ x ∈ R ++ F, x < n
theorem Two.start (n : Nat) : Two n 0 n [] (List.range n) := ⟨rfl, List.length_range, by omega, by simpa using List.nodup_range, fun x hx => by simpa using hx⟩
theorem Two.step {n i fl : Nat} {R F : List Nat} (h : Two n i fl R F) (p : Nat) (hp : p < fl) : Two n (i + 1) (fl - 1) (R ++ [F[p]'(by rw [h.2.1]; exact hp)]) (F.take p ++ F.drop (p + 1)) := by
  obtain ⟨h1, h2, h3, h4, h5⟩ := h
  have hpf : p < F.length := by omega
  have hpm := take_one (R := R) hpf
  refine ⟨by simp [h1], by simp; omega, by omega, hpm.nodup_iff.mpr h4, fun x hx => h5 x (hpm.mem_iff.mp hx)⟩
theorem owns_cap {w : World} {base : Nat} {e : TypeId} {s : Nat} {A : Option Addr} {n c : Nat} {xs : List Value} (h : w.ownsRow base e s (.slice A n c) n xs) : n ≤ c := by
  rcases h.2 with ⟨_, h0⟩ | ⟨g, cap, cur, hv, hb, hg, hc, _⟩
  · omega
  · injection hv with h1 h2 h3
    omega
theorem owns_lt {w : World} {base : Nat} {e : TypeId} {s : Nat} {g o n c : Nat} {xs : List Value} (h : w.ownsRow base e s (.slice (some ⟨g, o, none⟩) n c) n xs) : g < w.heap.size := by
  rcases h.2 with ⟨h0, _⟩ | ⟨g', cap, cur, hv, hb, hg, _⟩
  · cases h0
  · injection hv with h1 h2 h3
    injection h1 with h1
    injection h1 with h1
    subst h1
    rcases Nat.lt_or_ge g w.heap.size with hlt | hge
    · exact hlt
    · rw [Array.getElem?_eq_none hge] at hg; cases hg
theorem wr_owns_ne {w w0 : World} {base : Nat} {e : TypeId} {v : Value} {n : Nat} {xs : List Value} (h : w.ownsRow base e 1 v n xs) (hb : w0.heap.size ≤ base) : ∀ g, v.ownBlock = some g → w0.heap.size ≤ g := fun g hg => by have := h.blockGe g hg; omega
set_option maxRecDepth 100000 in
set_option maxHeartbeats 4000000 in
theorem matrixAny_walk (p q : Int) (C : Option Addr) (m cap3 : Nat) (r : List Int) (W : World) (hp : (Lit.int .u8 p).wf = true) (hq : (Lit.int .u8 q).wf = true)
    (hr : Rd W C m (r.map (Value.int .u8))) (hkm : m ≤ maxLen) (hw : ∀ x ∈ r, (Lit.int .u8 x).wf = true) :
    Calls Try.prog 6 #[.int .u8 p, .int .u8 q, .slice C m cap3] W fun e w' => e = .returned (.bool true) ∧ Ext W w' := by
  have hp0 : IntKind.u8.min ≤ p ∧ p ≤ IntKind.u8.max := by simpa [Lit.wf] using hp
  have hp1 : 0 ≤ p ∧ p ≤ 255 := hp0
  have hq0 : IntKind.u8.min ≤ q ∧ q ≤ IntKind.u8.max := by simpa [Lit.wf] using hq
  have hq1 : 0 ≤ q ∧ q ≤ 255 := hq0
  clear hp0 hq0 hp hq
  obtain ⟨k, hk, k1, k2⟩ : ∃ k : Nat, 1 + p % 12 = (k : Int) ∧ 1 ≤ k ∧ k ≤ 12 := ⟨(1 + p % 12).toNat, by omega, by omega, by omega⟩
  obtain ⟨t, ht, t1, t2⟩ : ∃ t : Nat, 1 + q % 12 = (t : Int) ∧ 1 ≤ t ∧ t ≤ 12 := ⟨(1 + q % 12).toNat, by omega, by omega, by omega⟩
  obtain ⟨n, hn⟩ : ∃ n : Nat, k + t = n := ⟨_, rfl⟩
  have hnI : (k : Int) + 1 + q % 12 = (n : Int) := by omega
  have htI : (n : Int) - (k : Int) = (t : Int) := by omega
  have HR := Lib.hid hr
  unfold maxLen at hkm
  have HW := Lib.hid hw
  have HN := Lib.hid hn
  obtain ⟨p0, p1⟩ := hp1
  obtain ⟨q0, q1⟩ := hq1
  have n2 : n ≤ 24 := by omega
  have n3 : k < n := by omega
  clear hw hr hn ht
  have hO := Ext.refl W
  by_cases hm : 100 < m
  · have hmB : decide ((100 : Int) < (m : Int)) = true := by simp; omega
    go_enter Try.func6, Try.ntmps6
    go_wp2_with (first
      | (go_at_call 9; (with_reducible refine (alive_any _).mono ?_); rintro e w39 ⟨rfl, hE⟩; replace hO := hO.trans hE; clear hE))
    go_ret
    exact ⟨rfl, hO⟩
  · have hmB : decide ((100 : Int) < (m : Int)) = false := by simp; omega
    obtain ⟨i0, hi0, hz0, hz1, hz2⟩ := info_parts info3
    have hkr : k ≤ 64 := by omega
    go_enter Try.func6, Try.ntmps6
    go_wp2_with (first
      | (go_at_call 19; (with_reducible refine (anyC k1 t1 (by omega) _).mono ?_); rintro e w1 ⟨A1, n1, c1, rfl, rfl, hr1, hE⟩; replace hO := hO.trans hE; clear hE)
      | (go_at_call 17; (with_reducible refine (unitS k ⟨k1, hkr⟩ _).mono ?_); rintro e w2 ⟨A2, c2, rfl, hr2, hE⟩; replace hO := hO.trans hE; replace hr1 := hr1.ext hE; clear hE)
      | (go_at_call 23; (with_reducible refine (anyB k1 t1 HN.out (by omega) A2 A1 c2 c1 _ hr2 hr1).mono ?_); rintro e w3 ⟨M, cM, rfl, hM, hE⟩; replace hO := hO.trans hE; clear hE hr1 hr2)
      | (at_make; refine wpList_make_tab rfl _ _ 36 rfl 3 i0 (.int .i64 0) Try.underlying36 hi0 hz0 hz1 rfl _ _ n rfl rfl (by rw [hz2]; omega) (by omega) ?_))
    have hbn : CellsAt (w3.alloc (.cells (tabA n (fun _ => Value.int .i64 0)) 3)) w3.heap.size n (fun y => if y < 0 then .int .i64 y else .int .i64 0) :=
      ⟨3, _, by rw [tabA_size]; exact Nat.le_refl _, (Blk.new _ _ _).m, fun j hj => by rw [tabA_at n _ j hj]; simp⟩
    have hEn : Ext w3 (w3.alloc (.cells (tabA n (fun _ => Value.int .i64 0)) 3)) := (Ext.refl w3).alloc _
    generalize w3.alloc (.cells (tabA n (fun _ => Value.int .i64 0)) 3) = wb at *
    obtain ⟨g, hg⟩ : ∃ g, g = w3.heap.size := ⟨_, rfl⟩
    rw [← hg] at hbn ⊢
    have hge : w3.heap.size ≤ g := by omega
    clear hg
    go_loopw [14] (fun x wr => ∃ j : Nat, j ≤ n ∧ x = .int .i64 j ∧ Ext w3 wr ∧ CellsAt wr g n (fun y => if y < j then .int .i64 y else .int .i64 0)) (fun x _ => n - (intOf x).toNat)
    case atStart => exact ⟨0, by omega, rfl, hEn, hbn⟩
    case round =>
      obtain ⟨j, hj, rfl, hE, hb⟩ := hrel
      clear hbn hEn
      by_cases hj2 : j < n
      · have kj : (j : Int) < (n : Int) := by omega
        have kj0 : (0 : Int) ≤ (j : Int) := by omega
        have hcj := hb.cell j hj2
        have hfj := hb.frozen j hj2
        go_wp2
        go_roundw
        case rel => exact ⟨j + 1, by omega, by go_num, hE.setCell hge _, hb.set_ j _ (fun x hx => by
          by_cases e : x = j
          · subst e; simp
          · rw [if_neg e]; by_cases e2 : x < j
            · rw [if_pos e2, if_pos (by omega)]
            · rw [if_neg e2, if_neg (by omega)])⟩
        case measure => simp [intOf]; omega
      · obtain rfl : n = j := by omega
        have hF : Rd wr (some ⟨g, 0, none⟩) n (ints (List.range n)) := hb.rd _ (by rw [ints_len, List.length_range]) (fun i v hi => by
          have hl : i < n := by
            rcases Nat.lt_or_ge i n with h | h
            · exact h
            · rw [List.getElem?_eq_none (by rw [ints_len, List.length_range]; exact h)] at hi; cases hi
          rw [if_pos hl]
          rw [List.getElem?_eq_getElem (by rw [ints_len, List.length_range]; exact hl)] at hi
          rw [ints_get _ i (by rw [List.length_range]; exact hl), List.getElem_range] at hi
          exact Option.some.inj hi)
        have T0 := Lib.hid (Two.start n)
        have hgz := hb.lt
        clear hb hj hj2
        go_wp2
        obtain ⟨B, hB⟩ : ∃ B, B = w3.heap.size := ⟨_, rfl⟩
        go_loopw [13, 15, 16] (fun f v x wr => ∃ (i fl gF cF cl : Nat) (L : Option Addr) (R F : List Nat), i ≤ k ∧ x = .int .i64 i ∧ f = .slice (some ⟨gF, 0, none⟩) fl cF ∧ v = .slice L i cl ∧ fl ≤ cF ∧ wr.ownsRow B 3 1 (.slice L i cl) i (ints R) ∧ Rd wr (some ⟨gF, 0, none⟩) fl (ints F) ∧ (∀ g, (Value.slice L i cl).ownBlock = some g → g ≠ gF) ∧ B ≤ gF ∧ Two n i fl R F ∧ Ext w3 wr) (fun _ _ x _ => k - (intOf x).toNat)
        case atStart => exact ⟨0, n, g, n, 0, none, [], List.range n, by omega, rfl, rfl, rfl, Nat.le_refl _, World.ownsRow_nil _ _ _ _, hF, (fun _ h => by cases h), by omega, T0.out, hE⟩
        case round =>
          obtain ⟨i, fl, gF, cF, cl, L, R, F, hik, rfl, rfl, rfl, hcF, hown, hRF, hne, hBg, hT, hE2⟩ := hrel
          clear hF T0 hE
          have HT := Lib.hid hT
          by_cases hi2 : i < k
          · have hfl := hT.2.2.1
            have hfi : 1 < fl := by omega
            have ki : (i : Int) < (k : Int) := by omega
            have ki0 : (0 : Int) ≤ (i : Int) := by omega
            have HO := Lib.hid hown
            have hwz := hE2.sz
            clear hown hT
            by_cases him : i < m
            · have kim : (i : Int) < (m : Int) := by omega
              obtain ⟨gt, ot, rfl, hgt, hc2⟩ := (HR.out.ext (hO.trans hE2)).at_ him
              have hlr : r.length = m := by have := HR.out.1; simpa using this
              simp only [List.getElem_map] at hc2
              have hwx := HW.out (r[i]'(by omega)) (List.getElem_mem _)
              generalize r[i]'(by omega) = x at *
              have hx0 : IntKind.u8.min ≤ x ∧ x ≤ IntKind.u8.max := by simpa [Lit.wf] using hwx
              have hx1 : 0 ≤ x ∧ x ≤ 255 := hx0
              clear hx0 hwx hlr
              obtain ⟨x0, x1⟩ := hx1
              obtain ⟨pp, hpp, hpf⟩ : ∃ pp : Nat, x % (fl : Int) = (pp : Int) ∧ pp < fl := by
                have h1 := Int.emod_nonneg x (show (fl : Int) ≠ 0 by omega)
                have h2 := Int.emod_lt_of_pos x (show (0 : Int) < (fl : Int) by omega)
                exact ⟨(x % (fl : Int)).toNat, by omega, by omega⟩
              have fl0 : ((fl : Int) == 0) = false := by simp; omega
              have ppf : (pp : Int) < (fl : Int) := by omega
              have pp0 : (0 : Int) ≤ (pp : Int) := by omega
              have hlF := HT.out.2.1
              obtain ⟨gx, ox, hgx, hgz2, hcp⟩ := hRF.at_ hpf
              injection hgx with hgx
              injection hgx with h1 h2 _
              subst h1; subst h2
              rw [ints_get F pp (by omega), Nat.zero_add] at hcp
              have hST := HT.out.step pp hpf
              generalize F[pp]'(by omega) = y at *
              have HST := Lib.hid hST
              clear hfl hlF hST
              go_wp2_with (at_builtin; refine wpList_app wr rfl _ _ 36 3 rfl Try.underlying36 (.int .i64 0) [.int .i64 y] 1 8 info3 rfl rfl (by decide) (by decide) B (.slice L i cl) i _ rfl HO.out (one_int _ _) _ rfl rfl (by omega) (by omega) ?_; intro g4 cap4 w4 hown4 hG4 hg4)
              have hRF4 := Rd.far (hRF.ext ((Ext.refl _).alloc (.cells #[.int .i64 y] 3))) hg4 (fun e => hne gF e.symm rfl)
              obtain ⟨P1, hP1⟩ : ∃ P1 : Nat, pp + 1 = P1 := ⟨_, rfl⟩
              have hP1I : (pp : Int) + 1 = (P1 : Int) := by omega
              obtain ⟨A, hA, hAr⟩ : ∃ A : Addr, (if cF = P1 then some (⟨gF, 0, none⟩ : Addr) else some ⟨gF, P1, none⟩) = some A ∧ (P1 < fl → A = ⟨gF, 0 + P1, none⟩) := by
                by_cases e : cF = P1
                · exact ⟨_, by rw [if_pos e], fun h => by omega⟩
                · exact ⟨_, by rw [if_neg e], fun h => by rw [Nat.zero_add]⟩
              have HK := Lib.hid (Rd.take_ hRF4 pp (by omega))
              have HO4 := Lib.hid hown4
              have HA := Lib.hid hAr
              have HP1 := Lib.hid hP1
              have HST2 := Lib.hid hpf
              have hc1 : pp ≤ cF := by omega
              have hc2 : (P1 : Int) ≤ (fl : Int) := by omega
              have hc3 : pp ≤ 24 := by have := HT.out.2.2.1; omega
              have hc4 : fl - P1 ≤ 24 := by have := HT.out.2.2.1; omega
              have hwr : IntKind.i64.wrap (P1 : Int) = (P1 : Int) := by rw [IntKind.wrap_i64]; omega
              have hw4 : wr.heap.size ≤ w4.heap.size := Nat.le_trans (Ext.sz ((Ext.refl wr).alloc _)) hg4.size
              have HDK : (∀ w5 : World, (w4.alloc (.cells #[] 3)).drew.grownBy w5 (some w4.heap.size) → Rd w5 (some A) (fl - P1) (ints (F.drop P1))) := fun w5 h5 => by
                rw [ints_drop]
                exact Rd.drop_ (Rd.far (hRF4.ext ((Ext.refl w4).alloc _).drew) h5 (by intro e; injection e with e; omega)) P1 (by omega) HA.out
              have HDK2 := Lib.hid HDK
              clear hown4 hAr hP1 hRF hRF4 HDK
              go_region_law (first
                | (refine step_apps _ (by rfl) (.tmp 98) (.tmp 101) 36 3 (by rfl) Try.underlying36 (.int .i64 0) 8 info3 (by rfl) (by decide) w4.heap.size _ 0 [] (by simp [Act.eval]) (owns_empty w4 w4.heap.size 3 1 (Nat.le_refl _)) ⟨gF, 0, none⟩ pp cF (ints (F.take pp)) (by simp [Act.eval]) (by rw [ints_take]; exact HK.out.ext (((Ext.refl w4).alloc _).drew)) (ints_one _) (by omega) (Ext.sz (((Ext.refl w4).alloc _).drew)) ?_; intro v5 w5 hown5 hg5; have hsz5 := hg5.size)
                | (refine step_apps _ (by rfl) (.tmp 102) (.tmp 106) 36 3 (by rfl) Try.underlying36 (.int .i64 0) 8 info3 (by rfl) (by decide) w4.heap.size _ (0 + pp) ([] ++ ints (F.take pp)) (by simp [Act.eval]) hown5 A (fl - P1) (cF - P1) (ints (F.drop P1)) (by simp [Act.eval]) (HDK2.out _ hg5) (ints_one _) (by omega) (Nat.le_trans (Ext.sz (((Ext.refl w4).alloc _).drew)) hsz5) ?_; intro v6 w6 hown6 hg6))
              have hE6 : Ext w4 w6 := ((((Ext.refl w4).alloc (.cells #[] 3)).drew).grown hg5 (fun k hk => by cases hk; exact Nat.le_refl _)).grown hg6 hown5.blockGe
              rw [Nat.zero_add, List.nil_append] at hown6
              obtain ⟨g6, cap6, rfl, hg6b, hg6l⟩ := hown6.form (by have := HP1.out; omega)
              go_wp2
              go_roundw
              case rel =>
                have hel : pp + (fl - P1) = fl - 1 := by have := HP1.out; omega
                refine ⟨i + 1, pp + (fl - P1), g6, cap6, cap4, some ⟨g4, 0, none⟩, R ++ [y], F.take pp ++ F.drop (pp + 1), by omega, by go_num, rfl, rfl, ?_, ?_, ?_, ?_, ?_, ?_, ?_⟩
                · exact owns_cap hown6
                · rw [ints_app]; exact HO4.out.ext hE6
                · rw [ints_app, HP1.out]; exact hown6.rd
                · intro g h
                  have h' : g4 = g := Option.some.inj h
                  have := owns_lt HO4.out
                  omega
                · omega
                · rw [hel]; exact HST.out
                · exact (hG4.ext hE2 (by omega)).trans hE6
              case measure => simp [intOf]; omega
            · have kim : ¬ (i : Int) < (m : Int) := by omega
              have kimB : decide ((i : Int) < (m : Int)) = false := by simp; omega
              have hpf : 0 < fl := by omega
              have ppf : (0 : Int) < (fl : Int) := by omega
              have hlF := HT.out.2.1
              obtain ⟨gx, ox, hgx, hgz2, hcp⟩ := hRF.at_ hpf
              injection hgx with hgx
              injection hgx with h1 h2 _
              subst h1; subst h2
              rw [ints_get F 0 (by omega), Nat.zero_add] at hcp
              have hST := HT.out.step 0 hpf
              generalize F[0]'(by omega) = y at *
              have HST := Lib.hid hST
              clear hfl hlF hST
              go_wp2_with (at_builtin; refine wpList_app wr rfl _ _ 36 3 rfl Try.underlying36 (.int .i64 0) [.int .i64 y] 1 8 info3 rfl rfl (by decide) (by decide) B (.slice L i cl) i _ rfl HO.out (one_int _ _) _ rfl rfl (by omega) (by omega) ?_; intro g4 cap4 w4 hown4 hG4 hg4)
              have hRF4 := Rd.far (hRF.ext ((Ext.refl _).alloc (.cells #[.int .i64 y] 3))) hg4 (fun e => hne gF e.symm rfl)
              obtain ⟨A, hA, hAr⟩ : ∃ A : Addr, (if cF = 1 then some (⟨gF, 0, none⟩ : Addr) else some ⟨gF, 1, none⟩) = some A ∧ (1 < fl → A = ⟨gF, 0 + 1, none⟩) := by
                by_cases e : cF = 1
                · exact ⟨_, by rw [if_pos e], fun h => by omega⟩
                · exact ⟨_, by rw [if_neg e], fun h => by rw [Nat.zero_add]⟩
              have HK := Lib.hid (Rd.take_ hRF4 0 (by omega))
              have HO4 := Lib.hid hown4
              have HA := Lib.hid hAr
              have HST2 := Lib.hid hpf
              have hc2 : (1 : Int) ≤ (fl : Int) := by omega
              have hwr : IntKind.i64.wrap 1 = 1 := by decide
              have hc4 : fl - 1 ≤ 24 := by have := HT.out.2.2.1; omega
              have hw4 : wr.heap.size ≤ w4.heap.size := Nat.le_trans (Ext.sz ((Ext.refl wr).alloc _)) hg4.size
              have HDK : (∀ w5 : World, (w4.alloc (.cells #[] 3)).drew.grownBy w5 (some w4.heap.size) → Rd w5 (some A) (fl - 1) (ints (F.drop 1))) := fun w5 h5 => by
                rw [ints_drop]
                exact Rd.drop_ (Rd.far (hRF4.ext ((Ext.refl w4).alloc _).drew) h5 (by intro e; injection e with e; omega)) 1 (by omega) HA.out
              have HDK2 := Lib.hid HDK
              clear hown4 hAr hRF hRF4 HDK
              go_region_law (first
                | (refine step_apps _ (by rfl) (.tmp 98) (.tmp 101) 36 3 (by rfl) Try.underlying36 (.int .i64 0) 8 info3 (by rfl) (by decide) w4.heap.size _ 0 [] (by simp [Act.eval]) (owns_empty w4 w4.heap.size 3 1 (Nat.le_refl _)) ⟨gF, 0, none⟩ 0 cF (ints (F.take 0)) (by simp [Act.eval]) (by rw [ints_take]; exact HK.out.ext (((Ext.refl w4).alloc _).drew)) (ints_one _) (by omega) (Ext.sz (((Ext.refl w4).alloc _).drew)) ?_; intro v5 w5 hown5 hg5; have hsz5 := hg5.size)
                | (refine step_apps _ (by rfl) (.tmp 102) (.tmp 106) 36 3 (by rfl) Try.underlying36 (.int .i64 0) 8 info3 (by rfl) (by decide) w4.heap.size _ (0 + 0) ([] ++ ints (F.take 0)) (by simp [Act.eval]) hown5 A (fl - 1) (cF - 1) (ints (F.drop 1)) (by simp [Act.eval]) (HDK2.out _ hg5) (ints_one _) (by omega) (Nat.le_trans (Ext.sz (((Ext.refl w4).alloc _).drew)) hsz5) ?_; intro v6 w6 hown6 hg6))
              have hE6 : Ext w4 w6 := ((((Ext.refl w4).alloc (.cells #[] 3)).drew).grown hg5 (fun k hk => by cases hk; exact Nat.le_refl _)).grown hg6 hown5.blockGe
              simp only [Nat.zero_add, List.nil_append] at hown6
              obtain ⟨g6, cap6, rfl, hg6b, hg6l⟩ := hown6.form (by omega)
              go_wp2
              go_roundw
              case rel =>
                refine ⟨i + 1, fl - 1, g6, cap6, cap4, some ⟨g4, 0, none⟩, R ++ [y], F.take 0 ++ F.drop (0 + 1), by omega, by go_num, rfl, rfl, ?_, ?_, ?_, ?_, ?_, ?_, ?_⟩
                · exact owns_cap hown6
                · rw [ints_app]; exact HO4.out.ext hE6
                · rw [ints_app]; exact hown6.rd
                · intro g h
                  have h' : g4 = g := Option.some.inj h
                  have := owns_lt HO4.out
                  omega
                · omega
                · exact HST.out
                · exact (hG4.ext hE2 (by omega)).trans hE6
              case measure => simp [intOf]; omega
          · obtain rfl : i = k := by omega
            have hrd : Rd wr L i (ints R) := hown.rd
            have hMr := hM.ext hE2
            have hT1 := hT.1
            have hTx : ∀ x ∈ R, x < n := fun x hx => hT.2.2.2.2 x (List.mem_append.mpr (.inl hx))
            have hTn : R.Nodup := (List.nodup_append.mp hT.2.2.2.1).1
            have PK := Lib.hid (fun w hr hq => anyP (cap := cM) (cl := cl) k1 t1 HN.out (by omega) hT1 hTx M L w hr hq)
            have UN := Lib.hid (anyU k1 t1 HN.out (by omega) hT1 hTx 0 (by
              have hh := HN.out
              subst hh
              exact tow_undo k1 t1 (by omega) hT1 hTx hTn))
            have HO := Lib.hid hown
            have hO2 := hO.trans hE2
            clear hown hTn hT
            by_cases hk1 : i = 1
            · have hkB : decide ((1 : Int) < (i : Int)) = false := by simp; omega
              clear hT1 hTx hk1
              go_wp2_with (first
                | (go_at_call 21; (with_reducible refine (PK.out _ hMr hrd).mono ?_); rintro e w7 ⟨A7, n7, c7, rfl, hn7, hr7, hE⟩; replace hO2 := hO2.trans hE; clear hE)
                | (go_at_call 12; (with_reducible refine (UN.out A7 n7 c7 hn7 _ hr7).mono ?_); rintro e w8 ⟨A8, n8, c8, rfl, hn8, hr8, hE⟩; replace hO2 := hO2.trans hE; clear hE)
                | (go_at_call 9; (with_reducible refine (alive_any _).mono ?_); rintro e w39 ⟨rfl, hE⟩; replace hO2 := hO2.trans hE; clear hE))
              go_ret
              exact ⟨rfl, hO2⟩
            · have hkB : decide ((1 : Int) < (i : Int)) = true := by simp; omega
              have hk1' : 1 < i := by omega
              obtain ⟨gR, capR, hv, hgR, hgl⟩ := HO.out.form (by omega)
              injection hv with hv1 _ hv3
              subst hv1
              subst hv3
              obtain ⟨hC0, hCb⟩ := HO.out.cells1
              have i0' : (0 : Int) < (i : Int) := by omega
              have i1' : (1 : Int) < (i : Int) := by omega
              have hR1 : 1 < R.length := by omega
              have hR0 : 0 < R.length := by omega
              obtain ⟨y1, hy1⟩ : ∃ y1, y1 = R[1] := ⟨_, rfl⟩
              obtain ⟨y0, hy0⟩ : ∃ y0, y0 = R[0] := ⟨_, rfl⟩
              have hS : ∀ w : World, Ext wr w → w.cell? ⟨gR, 1, none⟩ = some (.int .i64 y1) ∧ w.cell? ⟨gR, 0, none⟩ = some (.int .i64 y0) ∧ w.frozen? ⟨gR, 0, none⟩ = false ∧ Rd (w.setCell ⟨gR, 0, none⟩ (.int .i64 y1)) (some ⟨gR, 0, none⟩) i (ints (R.set 0 y1)) := fun w hE => by
                have hCw := hC0.ext hE
                have g : ∀ j (h : j < R.length), (ints R).getD j undef = .int .i64 (R[j] : Nat) := fun j h => by
                  rw [List.getD_eq_getElem?_getD, List.getElem?_eq_getElem (by rw [ints_len]; exact h), ints_get R j h]; rfl
                refine ⟨by rw [hCw.cell 1 (by omega), g 1 hR1, hy1], by rw [hCw.cell 0 (by omega), g 0 hR0, hy0], hCw.frozen 0 (by omega), ?_⟩
                refine (hCw.set_ (h := fun j => (ints (R.set 0 y1)).getD j undef) 0 (.int .i64 y1) (fun j hj => ?_)).rd _ (by rw [ints_len, List.length_set]; exact hT1) (fun j v hj => by rw [List.getD_eq_getElem?_getD, hj]; rfl)
                have hjl : j < (R.set 0 y1).length := by rw [List.length_set]; omega
                rw [List.getD_eq_getElem?_getD, List.getElem?_eq_getElem (by rw [ints_len]; exact hjl), ints_get _ j hjl]
                by_cases e : j = 0
                · subst e; rw [if_pos rfl, List.getElem_set_self]; rfl
                · rw [if_neg e, g j (by omega), List.getElem_set_ne (fun h => e h.symm)]; rfl
              have hT1' : (R.set 0 y1).length = i := by rw [List.length_set]; exact hT1
              have hTx' : ∀ x ∈ R.set 0 y1, x < n := fun x hx => by
                rcases List.mem_or_eq_of_mem_set hx with h | h
                · exact hTx x h
                · rw [h, hy1]; exact hTx _ (List.getElem_mem _)
              have PK2 := Lib.hid (fun w hr hq => anyP (cap := cM) (cl := cl) k1 t1 HN.out (by omega) hT1' hTx' M (some ⟨gR, 0, none⟩) w hr hq)
              have UN2 := Lib.hid (anyU k1 t1 HN.out (by omega) hT1' hTx' 51 (by
                have hh := HN.out
                subst hh
                exact tow_twice hk1' t1 (by omega) hT1' hTx' (by rw [List.getElem_set_self, List.getElem_set_ne (by omega)]; exact hy1)))
              have HS := Lib.hid hS
              have hgB : w3.heap.size ≤ gR := by omega
              have hgW : W.heap.size ≤ gR := by have := hO.sz; omega
              have hEr := Ext.refl wr
              clear hS hT1 hTx hT1' hTx' hk1 hR1 hR0 hy1 hy0 hC0 hk1'
              go_wp2_with (first
                | (go_at_call 21; (with_reducible refine (PK.out _ hMr hrd).mono ?_); rintro e w7 ⟨A7, n7, c7, rfl, hn7, hr7, hE⟩; replace hO2 := hO2.trans hE; replace hEr := hEr.trans hE; clear hE)
                | (go_at_call 12; (with_reducible refine (UN.out A7 n7 c7 hn7 _ hr7).mono ?_); rintro e w8 ⟨A8, n8, c8, rfl, hn8, hr8, hE⟩; replace hO2 := hO2.trans hE; replace hEr := hEr.trans hE; clear hE; obtain ⟨q1, q2, q3, hrd2⟩ := HS.out _ hEr; have hM2 := hM.ext ((hE2.trans hEr).setCell (p := ⟨gR, 0, none⟩) hgB (.int .i64 y1)); replace hO2 := hO2.setCell (p := ⟨gR, 0, none⟩) hgW (.int .i64 y1))
                | (go_at_call 21; (with_reducible refine (PK2.out _ hM2 hrd2).mono ?_); rintro e w9 ⟨A9, n9, c9, rfl, hn9, hr9, hE⟩; replace hO2 := hO2.trans hE; clear hE)
                | (go_at_call 12; (with_reducible refine (UN2.out A9 n9 c9 hn9 _ hr9).mono ?_); rintro e w10 ⟨A10, n10, c10, rfl, hn10, hr10, hE⟩; replace hO2 := hO2.trans hE; clear hE)
                | (go_at_call 9; (with_reducible refine (alive_any _).mono ?_); rintro e w39 ⟨rfl, hE⟩; replace hO2 := hO2.trans hE; clear hE))
              go_ret
              exact ⟨rfl, hO2⟩
