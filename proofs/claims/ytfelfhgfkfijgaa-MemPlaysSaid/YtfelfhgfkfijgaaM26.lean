import Derived.Test.YtfelfhgfkfijgaaM25
import Derived.Test.YtfelfhgfkfijgaaM19
import Derived.Deep.CutBlock
namespace Go.Proofs.Ytfelfhgfkfijgaa
open Go.RowKit Go.Nb
/-- 'append(nil, x...)' of pairs at a step of a region that draws its order. -/
theorem step_copyP {o : Oper} {a : Act} {K : Act → World → Prop} {Q : Exit → Act → World → Prop} {E : Prop} {ops : Array Oper} {w : World} (hgd : o.guard = none) (s x : Operand) (ho : o.op = .call { callee := .builtin .append, args := #[s, x], argTypes := #[22, 22] })
    (hs : a.eval s = .slice none 0 0) (B : Option Addr) (m d : Nat) (q : List Pr) (hx : a.eval x = .slice B m d) (hq : PRd w B m q) (hn : m ≤ 1048576)
    (h : ∀ A' c' w', PRd w' A' m q → RowT w' A' → Ext w w' → K (a.put o.dst (.slice A' m c')) w') :
    if Region.wanted o (yielded ops a.tmps) = true then Oper.wp Try.prog o a w K Q else E := by
  have hw : Region.wanted o (yielded ops a.tmps) = true := by simp [Region.wanted, hgd]
  rw [if_pos hw]
  by_cases h0 : m = 0
  · subst h0
    have hq0 : q = [] := List.eq_nil_of_length_eq_zero hq.1
    subst hq0
    have hrun := run_app0 w none B 0 0 d (Nat.le_refl _) o.type
    unfold Oper.wp execOp
    simp only [ho, resolve, invoke, builtin, Sem.run_bind, Sem.run_pure, Result.andThen_ok, List.map_toArray, List.map_cons, List.map_nil, hs, hx, hrun]
    exact h none 0 w (prd_nil w) (fun a ha => by cases ha) (Ext.refl w)
  · obtain ⟨ga, oa, rfl, hcell⟩ := hq.2.at_ (by omega) (by omega)
    obtain ⟨i0, hi0, hz0, hz1, hz2⟩ := info_parts infoPr
    refine wp_append_lies w s x 22 ho w.heap.size 30 i0 _ 2 32 Try.underlying22 hi0 hz0 hz1 hz2 rfl (by decide) (.slice none 0 0) 0 [] hs (World.ownsRow_nil _ _ _ _) ⟨ga, oa, none⟩ m d (prCs q m) hx (prCs_len q m) (fun j u hj => ?_) (prCs_one q m) (by omega) (by unfold maxLen; omega) (by omega) (Nat.le_refl _) _ rfl ?_
    · have hj2 : j < m * 2 := by
        rcases Nat.lt_or_ge j (m * 2) with h1 | h1
        · exact h1
        · rw [List.getElem?_eq_none (by rw [prCs_len]; exact h1)] at hj; cases hj
      rw [prCs_at q m j hj2] at hj
      cases hj
      have := hcell (j / 2) (j % 2) (by omega) (by omega)
      rw [Addr.add_mid]
      rw [show oa + j / 2 * 2 + j % 2 = oa + j by omega] at this
      exact this
    · intro gr cap w5 hown5 hg5 _ _
      rw [Nat.zero_add, List.nil_append] at hown5
      rw [Nat.zero_add]
      exact h _ cap w5 (World.ownsRow.prd hq.1 hown5) (own_rowT hown5) ((Ext.refl w).grown hg5 (fun k hk => by cases hk))
/-- Mem, the document's mem and the step at hand. -/
structure PSt (W : World) (g r b2 : Nat) (x : Int) (B : Option Addr) (ql cb : Nat) (q lm lr : List Pr) (w : World) : Prop where
  hm : MemIs w g x lm
  hr : RefIs w r x lr
  he : Ext W w
  hc : w.cell? ⟨b2, 1, none⟩ = some (.slice B ql cb)
  hq : PRd w B ql q
structure Plc (W : World) (g r b2 : Nat) : Prop where
  hg : W.heap.size ≤ g
  hr : W.heap.size ≤ r
  gb : b2 ≠ g
  rb : b2 ≠ r
section
variable {W : World} {g r b2 : Nat} {x : Int} {B : Option Addr} {ql cb : Nat} {q lm lr l2 : List Pr} {w w' : World}
theorem PSt.ext (h : PSt W g r b2 x B ql cb q lm lr w) (hE : Ext w w') : PSt W g r b2 x B ql cb q lm lr w' :=
  ⟨h.hm.ext hE, h.hr.ext hE, h.he.trans hE, hE.cellv h.hc, h.hq.ext hE⟩
/-- A row that lies in a block of its own kind. -/
def RW (w : World) (A : Option Addr) (ql : Nat) (q : List Pr) : Prop := PRd w A ql q ∧ RowT w A
theorem RW.ext {A : Option Addr} (h : RW w A ql q) (hE : Ext w w') : RW w' A ql q := ⟨h.1.ext hE, h.2.ext hE⟩
theorem PSt.putM (h : PSt W g r b2 x B ql cb q lm lr w) (hp : Plc W g r b2) (hq0 : PRd W B ql q) (hM : MemIs w' g x l2) (hT : Turn (· = g) w w') : PSt W g r b2 x B ql cb q l2 lr w' ∧ ∀ A, RW w A ql q → RW w' A ql q := by
  have hE := hT.ext h.he (fun k hk => by rw [hk]; exact hp.hg)
  refine ⟨⟨hM, h.hr.turnM h.hm hT, hE, hT.cellv h.hc hp.gb, hq0.ext hE⟩, fun A hA => ?_⟩
  obtain ⟨_, _, m1, _⟩ := h.hm
  have hr := hA.2.ne m1 (by decide)
  exact ⟨hA.1.turn hT hr, hA.2.turn hT hr⟩
theorem PSt.putR (h : PSt W g r b2 x B ql cb q lm lr w) (hp : Plc W g r b2) (hq0 : PRd W B ql q) (hM : RefIs w' r x l2) (hT : Turn (· = r) w w') : PSt W g r b2 x B ql cb q lm l2 w' ∧ ∀ A, RW w A ql q → RW w' A ql q := by
  have hE := hT.ext h.he (fun k hk => by rw [hk]; exact hp.hr)
  refine ⟨⟨h.hm.turnR h.hr hT, hM, hE, hT.cellv h.hc hp.rb, hq0.ext hE⟩, fun A hA => ?_⟩
  obtain ⟨_, _, m1, _⟩ := h.hr
  have hr := hA.2.ne m1 (by decide)
  exact ⟨hA.1.turn hT hr, hA.2.turn hT hr⟩
end
theorem putE_0 {mo : Int} {l q : List Pr} (h : putE mo l q = 0) : (sizeP (putsL l q) : Int) ≤ mo := by
  unfold putE at h
  split at h
  · cases h
  · split at h
    · cases h
    · omega
theorem putR_up {mo : Int} {l q : List Pr} (h : upB l = true) : upB (putR mo l q) = true := by
  unfold putR
  split
  · exact putsL_up _ _ h
  · exact h
theorem putR_size {mo : Int} {l q : List Pr} (h : (sizeP l : Int) ≤ mo) : (sizeP (putR mo l q) : Int) ≤ mo := by
  unfold putR
  split
  · next h0 => exact putE_0 h0
  · exact h

set_option linter.unusedSimpArgs false in
set_option maxHeartbeats 4000000 in
set_option maxRecDepth 100000 in
theorem memPlays_walk (a0 : Int) (A : Option Addr) (n c : Nat) (ss : List Stp) (W : World) (_w0 : (Lit.int .i64 a0).wf = true) (rd : SRd W A n ss) (mm : n ≤ maxLen) (_ok : n ≤ c) : Calls Try.prog 4 #[.int .i64 a0, .slice A n c] W fun e w' => e = .returned (.bool true) ∧ Ext W w' := by
  have HWK := Lib.hid (fun w => works_any w)
  have hTB := toList_Bt
  have HV := heavy_any (c := c) rd mm
  cases hb : heavyS ss
  case true =>
    rw [hb] at HV
    have HV := Lib.hid HV
    clear hb
    go_enter Try.func4, Try.ntmps4
    go_wp2_with (first
      | (go_at_call 7; (with_reducible refine HV.out.mono ?_); rintro e w1 ⟨rfl, hE1⟩)
      | (go_at_call 8; (with_reducible refine (HWK.out _).mono ?_); rintro e w2 ⟨rfl, hE2⟩))
    go_ret
    exact ⟨rfl, hE1.trans hE2⟩
  case false =>
    have hlt := heavy_light hb
    have hn : n ≤ 100 := by rw [← rd.1]; exact hlt.1
    have HQ := Lib.hid hlt.2
    rw [hb] at HV
    have HV := Lib.hid HV
    have HL := Lib.hid rd.1
    have HRD := Lib.hid rd
    clear hb hlt rd mm
    by_cases hbad : a0 < 0 ∨ 65536 < a0
    · have HN := Lib.hid (fun w => new_no hbad w)
      by_cases h1 : a0 < 0
      · have t1 : decide (a0 < 0) = true := by simpa using h1
        clear hbad
        go_enter Try.func4, Try.ntmps4
        go_wp2_with (first
          | (go_at_call 7; (with_reducible refine HV.out.mono ?_); rintro e w1 ⟨rfl, hE1⟩)
          | (go_at_call 9; (with_reducible refine (HN.out _).mono ?_); rintro e w2 ⟨rfl, hE2⟩)
          | (go_at_call 8; (with_reducible refine (HWK.out _).mono ?_); rintro e w3 ⟨rfl, hE3⟩))
        go_ret
        exact ⟨rfl, (hE1.trans hE2).trans hE3⟩
      · have t1 : decide (a0 < 0) = false := by simpa using h1
        have t2 : decide ((65536 : Int) < a0) = true := by simp; omega
        clear hbad
        go_enter Try.func4, Try.ntmps4
        go_wp2_with (first
          | (go_at_call 7; (with_reducible refine HV.out.mono ?_); rintro e w1 ⟨rfl, hE1⟩)
          | (go_at_call 9; (with_reducible refine (HN.out _).mono ?_); rintro e w2 ⟨rfl, hE2⟩)
          | (go_at_call 8; (with_reducible refine (HWK.out _).mono ?_); rintro e w3 ⟨rfl, hE3⟩))
        go_ret
        exact ⟨rfl, (hE1.trans hE2).trans hE3⟩
    · obtain ⟨x, rfl⟩ : ∃ x : Nat, a0 = x := ⟨a0.toNat, by omega⟩
      have hx : x ≤ 65536 := by omega
      have HX := Lib.hid hx
      have HN1 : Hid (∀ w', Calls Try.prog 9 #[.int .i64 x] w' fun e w2 => e = .returned (.tuple #[.pointer (some ⟨w'.heap.size, 0, none⟩), .int .i64 0]) ∧ MemIs w2 w'.heap.size x [] ∧ Ext w' w2) := Lib.hid (fun w' => new_yes (by omega) (by omega) w')
      have t1 : decide ((x : Int) < 0) = false := by simp
      have t2 : decide ((65536 : Int) < (x : Int)) = false := by simp; omega
      clear hbad hx
      go_enter Try.func4, Try.ntmps4
      go_wp2_with (first
        | (go_at_call 7; (with_reducible refine HV.out.mono ?_); rintro e w1 ⟨rfl, hE1⟩)
        | (go_at_call 9; (with_reducible refine (HN1.out _).mono ?_); rintro e w2 ⟨rfl, hM2, hE2⟩))
      obtain ⟨g, hg⟩ : ∃ g, g = w1.heap.size := ⟨_, rfl⟩
      rw [← hg] at hM2 ⊢
      obtain ⟨r, hr⟩ : ∃ r, r = w2.heap.size := ⟨_, rfl⟩
      have hRf : RefIs (w2.alloc (.cells #[.int .i64 x, .slice none 0 0] 42)) r x [] := by rw [hr]; exact RefIs.new (prd_nil _) (Nat.le_refl _) (fun a ha => by cases ha)
      rw [← hr]
      have HST0 := Lib.hid (show MemIs (w2.alloc (.cells #[.int .i64 x, .slice none 0 0] 42)) g x [] ∧ RefIs (w2.alloc (.cells #[.int .i64 x, .slice none 0 0] 42)) r x [] ∧ Ext W (w2.alloc (.cells #[.int .i64 x, .slice none 0 0] 42)) from ⟨hM2.ext ((Ext.refl w2).alloc _), hRf, (hE1.trans hE2).alloc _⟩)
      have HGW := Lib.hid (show W.heap.size ≤ g by rw [hg]; exact hE1.sz)
      have HRW := Lib.hid (show W.heap.size ≤ r by rw [hr]; exact (hE1.trans hE2).sz)
      clear hg hr hM2 hE1 hE2 hRf
      go_loopw [8] (fun iv wr => ∃ (i : Nat) (l : List Pr), i ≤ n ∧ iv = .int .i64 i ∧ MemIs wr g x l ∧ RefIs wr r x l ∧ Ext W wr ∧ Hid (upB l = true) ∧ Hid ((sizeP l : Int) ≤ x)) (fun iv _ => n - (intOf iv).toNat)
      case atStart => exact ⟨0, [], by omega, rfl, HST0.out.1, HST0.out.2.1, HST0.out.2.2, Lib.hid rfl, Lib.hid (by simp [sizeP])⟩
      case round =>
        obtain ⟨i, l, hi, rfl, hM, hR, hE, hup, hsz⟩ := hrel
        by_cases hi2 : i < n
        · have ii : (i : Int) < (n : Int) := by omega
          have ii0 : (0 : Int) ≤ (i : Int) := by omega
          obtain ⟨ga, oa, B, cb, rfl, c0, c1, c2, hB⟩ := HRD.out.at_ i hi2
          have HBW := Lib.hid hB
          replace c0 := hE.cellv c0
          replace c1 := hE.cellv c1
          replace c2 := hE.cellv c2
          obtain ⟨s, hs⟩ : ∃ s, s = ss.getD i default := ⟨_, rfl⟩
          rw [← hs] at c0 c1 c2 HBW
          have hql : s.q.length ≤ 100 := HQ.out s (by
            rw [hs, List.getD_eq_getElem?_getD, List.getElem?_eq_getElem (by rw [HL.out]; exact hi2)]; exact List.getElem_mem _)
          obtain ⟨q, hq⟩ : ∃ q, q = s.q := ⟨_, rfl⟩
          obtain ⟨d, hd⟩ : ∃ d, d = s.d := ⟨_, rfl⟩
          obtain ⟨ky, hky⟩ : ∃ ky, ky = s.key := ⟨_, rfl⟩
          rw [← hq] at c1 hql HBW
          rw [← hd] at c0
          rw [← hky] at c2
          obtain ⟨ql, hqq⟩ : ∃ ql, ql = q.length := ⟨_, rfl⟩
          rw [← hqq] at c1 hql HBW
          clear hs hq hd hky hqq hB
          have hln := len_size l
          have HLN : Hid (l.length ≤ 16384 ∧ sizeP l ≤ 65536) := Lib.hid (by have h1 := hsz.out; have h2 := HX.out; omega)
          have hb1 : (wr.alloc (.cells #[.int .i64 d, .slice B ql cb, .string (Bt ky)] 25)).cell? ⟨wr.heap.size, 1, none⟩ = some (.slice B ql cb) := (Blk.new wr 25 _).cell 1
          have hb2 : (wr.alloc (.cells #[.int .i64 d, .slice B ql cb, .string (Bt ky)] 25)).cell? ⟨wr.heap.size, 2, none⟩ = some (.string (Bt ky)) := (Blk.new wr 25 _).cell 2
          have hXA := (Ext.refl wr).alloc (.cells #[.int .i64 d, .slice B ql cb, .string (Bt ky)] 25)
          have HPS := Lib.hid (show PSt W g r wr.heap.size x B ql cb q l l (wr.alloc (.cells #[.int .i64 d, .slice B ql cb, .string (Bt ky)] 25)) from ⟨hM.ext hXA, hR.ext hXA, hE.trans hXA, hb1, HBW.out.ext (hE.trans hXA)⟩)
          have HPL := Lib.hid (show Plc W g r wr.heap.size from ⟨HGW.out, HRW.out, fun e => by have := hM.lt; omega, fun e => by have := hR.lt; omega⟩)
          clear hln
          go_upto_block 2 with fail
          go_cut [10, 11, 12, 13, 14] from 47 to 188 (fun c10 c11 c12 c13 c14 wx => c10 = .bool true ∧ ∃ l3, MemIs wx g x l3 ∧ RefIs wx r x l3 ∧ Ext W wx ∧ Hid (upB l3 = true) ∧ Hid ((sizeP l3 : Int) ≤ x))
          case first =>
            by_cases d0 : d = 0
            · subst d0
              as_aux_lemma =>
                have HC1 : Hid (∀ lr w' B' c', PSt W g r wr.heap.size x B ql cb q l lr w' → RW w' B' ql q → Calls Try.prog 10 #[.pointer (some ⟨g, 0, none⟩), .slice B' ql c'] w' fun e w2 => e = .returned (.int .i64 (putE x l q)) ∧ PSt W g r wr.heap.size x B ql cb q (putR x l q) lr w2 ∧ ∀ A, RW w' A ql q → RW w2 A ql q) := Lib.hid (fun lr w' B' c' h1 h2 => (put_any h1.hm hup.out (by have := HLN.out; omega) (by have := HLN.out; omega) h2.1 (by omega)).mono (by
                  rintro e w2 ⟨h3, h4, h5⟩
                  exact ⟨h3, h1.putM HPL.out HBW.out h4 h5⟩))
                have HC2 : Hid (∀ lm w', PSt W g r wr.heap.size x B ql cb q lm l w' → Calls Try.prog 14 #[.pointer (some ⟨r, 0, none⟩), .slice B ql cb] w' fun e w2 => e = .returned (.int .i64 (putE x l q)) ∧ PSt W g r wr.heap.size x B ql cb q lm (putR x l q) w2 ∧ ∀ A, RW w' A ql q → RW w2 A ql q) := Lib.hid (fun lm w' h1 => (put_ref h1.hr (by have := HLN.out; omega) (by have := HLN.out; omega) h1.hq (by omega)).mono (by
                  rintro e w2 ⟨h3, h4, h5⟩
                  exact ⟨h3, h1.putR HPL.out HBW.out h4 h5⟩))
                have up3 := putR_up (mo := x) (q := q) hup.out
                have sz3 := putR_size (mo := x) (q := q) hsz.out
                obtain ⟨l3, hl3⟩ : ∃ l3, l3 = putR x l q := ⟨_, rfl⟩
                rw [← hl3] at HC1 HC2 up3 sz3
                obtain ⟨z, hz⟩ : ∃ z, z = putE x l q := ⟨_, rfl⟩
                rw [← hz] at HC1 HC2
                have UP3 := Lib.hid up3
                have SZ3 := Lib.hid sz3
                have b1 := hb1
                obtain ⟨b2, hbb⟩ : ∃ b2, b2 = wr.heap.size := ⟨_, rfl⟩
                have HBB := Lib.hid hbb
                have st := HPS.out.ext (Ext.refl _).drew
                clear hl3 hz up3 sz3 hup hsz hM hR hE
                rw [← hbb] at HC1 HC2 HPS HPL st b1 hb1 hb2
                go_wp2
                rw [← hbb]
                clear hbb
                go_region_held3 (fun w' => w'.cell? ⟨b2, 1, none⟩ = some (.slice B ql cb) ∧ Ext W w')
                  (first | exact ⟨st.hc, st.he⟩ | go_keep)
                  (first
                    | (refine step_copyP rfl _ _ (by rfl) (by rfl) B ql cb q (by rfl) st.hq (by omega) ?_; intro B4 c4 w4 hP4 hT4 hE4; have st := st.ext hE4; have rw4 : RW w4 B4 ql q := ⟨hP4, hT4⟩)
                    | (go_at_call 10; (with_reducible refine (HC1.out _ _ _ _ st rw4).mono ?_); rintro e w4 ⟨rfl, st, _⟩)
                    | (go_at_call 14; (with_reducible refine (HC2.out _ _ st).mono ?_); rintro e w4 ⟨rfl, st, hkeep⟩; (try have rw4 := hkeep _ rw4)))
                all_goals go_wp2
                all_goals obtain rfl := HBB.out
                all_goals go_meet
                all_goals exact ⟨rfl, l3, st.hm, st.hr, st.he, UP3, SZ3⟩
            have t0 : (d == 0) = false := by simpa using d0
            by_cases d1 : d = 1
            · subst d1
              as_aux_lemma =>
                have HC1 : Hid (∀ lr w' B' c', PSt W g r wr.heap.size x B ql cb q l lr w' → RW w' B' ql q → Calls Try.prog 15 #[.pointer (some ⟨g, 0, none⟩), .slice B' ql c'] w' fun e w2 => e = .returned (.bool (putE x l q == 0)) ∧ PSt W g r wr.heap.size x B ql cb q l lr w2 ∧ ∀ A, RW w' A ql q → RW w2 A ql q) := Lib.hid (fun lr w' B' c' h1 h2 => (fits_any h1.hm hup.out (by have := HLN.out; omega) (by have := HLN.out; omega) h2.1 (by omega)).mono (by
                  rintro e w2 ⟨h3, h4⟩
                  exact ⟨h3, h1.ext h4, fun A h => h.ext h4⟩))
                have HC2 : Hid (∀ lm w', PSt W g r wr.heap.size x B ql cb q lm l w' → Calls Try.prog 16 #[.pointer (some ⟨r, 0, none⟩), .slice B ql cb] w' fun e w2 => e = .returned (.bool (putE x l q == 0)) ∧ PSt W g r wr.heap.size x B ql cb q lm l w2 ∧ ∀ A, RW w' A ql q → RW w2 A ql q) := Lib.hid (fun lm w' h1 => (fits_ref h1.hr (by have := HLN.out; omega) (by have := HLN.out; omega) h1.hq (by omega)).mono (by
                  rintro e w2 ⟨h3, h4⟩
                  exact ⟨h3, h1.ext h4, fun A h => h.ext h4⟩))
                obtain ⟨z, hz⟩ : ∃ z, z = (putE x l q == 0) := ⟨_, rfl⟩
                rw [← hz] at HC1 HC2
                have b1 := hb1
                obtain ⟨b2, hbb⟩ : ∃ b2, b2 = wr.heap.size := ⟨_, rfl⟩
                have HBB := Lib.hid hbb
                have st := HPS.out.ext (Ext.refl _).drew
                clear hz hM hR hE
                rw [← hbb] at HC1 HC2 HPS HPL st b1 hb1 hb2
                go_wp2
                rw [← hbb]
                clear hbb
                go_region_held3 (fun w' => w'.cell? ⟨b2, 1, none⟩ = some (.slice B ql cb) ∧ Ext W w')
                  (first | exact ⟨st.hc, st.he⟩ | go_keep)
                  (first
                    | (refine step_copyP rfl _ _ (by rfl) (by rfl) B ql cb q (by rfl) st.hq (by omega) ?_; intro B4 c4 w4 hP4 hT4 hE4; have st := st.ext hE4; have rw4 : RW w4 B4 ql q := ⟨hP4, hT4⟩)
                    | (go_at_call 15; (with_reducible refine (HC1.out _ _ _ _ st rw4).mono ?_); rintro e w4 ⟨rfl, st, _⟩)
                    | (go_at_call 16; (with_reducible refine (HC2.out _ _ st).mono ?_); rintro e w4 ⟨rfl, st, hkeep⟩; (try have rw4 := hkeep _ rw4)))
                all_goals go_wp2
                all_goals obtain rfl := HBB.out
                all_goals go_meet
                all_goals exact ⟨rfl, l, st.hm, st.hr, st.he, hup, hsz⟩
            have t1 : (d == 1) = false := by simpa using d1
            by_cases d4 : d = 4
            · subst d4
              as_aux_lemma =>
                have HCL := Lib.hid (clear_any HPS.out.hm)
                have HR0 := Lib.hid HPS.out.hr
                have hgl := hM.lt
                have hrl := hR.lt
                have HM0 := Lib.hid HPS.out.hm
                clear hM hR hE hup hsz
                go_wp2_with (go_at_call 21; (with_reducible refine HCL.out.mono ?_); rintro e w3 ⟨rfl, hM3, hT3⟩; have hR3 := HR0.out.turnM HM0.out hT3; have hR3' := Lib.hid hR3; obtain ⟨A3, c3, hc3, hp3, hn3, ht3⟩ := hR3; have f1 := rf_f1 hc3; have r1 := rf_c1 hc3; have HC3 := Lib.hid hc3; clear hc3 hp3 hn3 ht3)
                have hT4 : Turn (· = r) w3 (w3.setCell ⟨r, 1, none⟩ (.slice none 0 0)) := Turn.set_ (H := (· = r)) (a := ⟨r, 1, none⟩) rfl _
                have hR4 : RefIs (w3.setCell ⟨r, 1, none⟩ (.slice none 0 0)) r x [] := ⟨none, 0, rf_set HC3.out none 0 0, prd_nil _, Nat.le_refl _, fun a ha => by cases ha⟩
                have hM4 := hM3.turnR hR3'.out hT4
                have hE4 : Ext W (w3.setCell ⟨r, 1, none⟩ (.slice none 0 0)) := hT4.ext (hT3.ext HPS.out.he (fun k hk => by rw [hk]; exact HGW.out)) (fun k hk => by rw [hk]; exact HRW.out)
                obtain ⟨w4, hw4⟩ : ∃ w4, w4 = w3.setCell ⟨r, 1, none⟩ (.slice none 0 0) := ⟨_, rfl⟩
                rw [← hw4] at hT4 hR4 hM4 hE4 ⊢
                clear hw4 f1 r1
                have HPE := Lib.hid (And.intro hM4 (And.intro hR4 hE4))
                obtain ⟨l3, hl3⟩ : ∃ l3 : List Pr, l3 = [] := ⟨_, rfl⟩
                rw [← hl3] at HPE
                have UP3 : Hid (upB l3 = true) := Lib.hid (by rw [hl3]; rfl)
                have SZ3 : Hid ((sizeP l3 : Int) ≤ x) := Lib.hid (by rw [hl3]; simp [sizeP])
                clear hl3 hM4 hR4 hE4 hT4 hM3 hT3
                go_wp2
                go_meet
                exact ⟨rfl, l3, HPE.out.1, HPE.out.2.1, HPE.out.2.2, UP3, SZ3⟩
            
            have t4 : (d == 4) = false := by simpa using d4
            by_cases d23 : d = 2 ∨ d = 3
            · go_upto_region 19 with fail
              go_cut [58, 83] from 47 to 188 (fun c58 c83 wx => c58 = .int .i64 d ∧ c83 = .bool (decide (d = 2)) ∧ wx = wr.alloc (.cells #[.int .i64 d, .slice B ql cb, .string (Bt ky)] 25))
              case first =>
                rcases d23 with rfl | rfl
                · go_wp2
                  go_meet
                  exact ⟨rfl, rfl, rfl⟩
                · go_wp2
                  go_meet
                  exact ⟨rfl, rfl, rfl⟩
              case rest =>
                obtain ⟨rfl, rfl, rfl⟩ := hcut
                go_upto_if 83 with fail
                go_cut [58, 83] from 47 to 188 (fun c58 c83 wx => c58 = .int .i64 d ∧ c83 = .bool true ∧ wx = wr.alloc (.cells #[.int .i64 d, .slice B ql cb, .string (Bt ky)] 25))
                case first =>
                  rcases d23 with rfl | rfl
                  · go_wp2
                    go_meet
                    exact ⟨rfl, rfl, rfl⟩
                  · go_wp2
                    go_meet
                    exact ⟨rfl, rfl, rfl⟩
                case rest =>
                  obtain ⟨rfl, rfl, rfl⟩ := hcut
                  have hst := HPS.out
                  obtain ⟨AR, cR, hRa, hRp, hRc, hRt⟩ := hst.hr
                  have r1 := rf_c1 hRa
                  have k2 := hb2
                  obtain ⟨wq, hwq⟩ : ∃ wq, wq = wr.alloc (.cells #[.int .i64 d, .slice B ql cb, .string (Bt ky)] 25) := ⟨_, rfl⟩
                  have HGT : Hid (∀ w', Ext wq w' → Calls Try.prog 17 #[.pointer (some ⟨g, 0, none⟩), .string (Bt ky)] w' fun e w2 => e = .returned (.tuple #[.string (Bt (if hasL l ky = true then (l.getD (seekL ky l) default).v else [])), .bool (hasL l ky)]) ∧ Ext w' w2) := Lib.hid (fun w' h => get_any (hst.hm.ext (by rw [← hwq]; exact h)) hup.out (by have := HLN.out; omega) ky)
                  have HSK : Hid (∀ w', Ext wq w' → Calls Try.prog 18 #[.slice AR l.length cR, .string (Bt ky)] w' fun e w2 => e = .returned (.int .i64 (seekL ky l)) ∧ Ext w' w2) := Lib.hid (fun w' h => seek_ref (hRp.ext (by rw [← hwq]; exact h)) (by have := HLN.out; omega) ky)
                  have HFR : Hid (∀ W, Calls Try.prog 20 #[.pointer (some ⟨g, 0, none⟩), .string (Bt ky)] W fun e w' => e = .returned (.func (.func 28) #[] #[.pointer (some ⟨W.heap.size, 0, none⟩), .pointer (some ⟨W.heap.size + 1, 0, none⟩)]) ∧ w' = (W.alloc (.cells #[.pointer (some ⟨g, 0, none⟩)] 31)).alloc (.cells #[.string (Bt ky)] 9)) := Lib.hid (fun W => from_any (some ⟨g, 0, none⟩) (Bt ky) W)
                  have hdl : (l.drop (seekL ky l)).length = l.length - seekL ky l := List.length_drop
                  have HCO0 : Hid (∀ W, MemIs W g x l → Calls Try.prog 19 #[.func (.func 28) #[] #[.pointer (some ⟨W.heap.size, 0, none⟩), .pointer (some ⟨W.heap.size + 1, 0, none⟩)]] ((W.alloc (.cells #[.pointer (some ⟨g, 0, none⟩)] 31)).alloc (.cells #[.string (Bt ky)] 9)) fun e w' => ∃ A c, e = .returned (.slice A (l.length - seekL ky l) c) ∧ PRd w' A (l.length - seekL ky l) (l.drop (seekL ky l)) ∧ Ext ((W.alloc (.cells #[.pointer (some ⟨g, 0, none⟩)] 31)).alloc (.cells #[.string (Bt ky)] 9)) w') := Lib.hid (fun W h => by
                    have hE1 := (Ext.refl W).alloc (.cells #[.pointer (some ⟨g, 0, none⟩)] 31)
                    have hE2 := (Ext.refl (W.alloc (.cells #[.pointer (some ⟨g, 0, none⟩)] 31))).alloc (.cells #[.string (Bt ky)] 9)
                    have c0 : ((W.alloc (.cells #[.pointer (some ⟨g, 0, none⟩)] 31)).alloc (.cells #[.string (Bt ky)] 9)).cell? ⟨W.heap.size, 0, none⟩ = some (.pointer (some ⟨g, 0, none⟩)) := hE2.cellv ((Blk.new W 31 #[.pointer (some ⟨g, 0, none⟩)]).cell 0)
                    have c1 : ((W.alloc (.cells #[.pointer (some ⟨g, 0, none⟩)] 31)).alloc (.cells #[.string (Bt ky)] 9)).cell? ⟨W.heap.size + 1, 0, none⟩ = some (.string (Bt ky)) := by
                      have := (Blk.new (W.alloc (.cells #[.pointer (some ⟨g, 0, none⟩)] 31)) 9 #[.string (Bt ky)]).cell 0
                      rw [World.size_alloc] at this
                      exact this
                    have hh := HLN.out
                    rw [← hdl]
                    exact collect_any (T := l.drop (seekL ky l)) (n₀ := W.heap.size) (by simp; omega) (by rw [hdl]; omega) (fun w' hE' => it_stops 3 (by omega) _ _ g W x l ky h hup.out (by omega) w' ((hE1.trans hE2).trans hE') (hE'.cellv c0) (hE'.cellv c1)))
                  have hsl := seekL_le ky l
                  obtain ⟨A4, hSB, hPB⟩ := slice_suf AR l.length cR (seekL ky l) hsl hRc
                  have hSB2 := fun w => (slice_at Try.underlying22 _ _ _ _ w).trans (hSB w)
                  have HSA0 : Hid (∀ w' P c1, Ext wq w' → PRd w' P (l.length - seekL ky l) (l.drop (seekL ky l)) → Calls Try.prog 11 #[.slice P (l.length - seekL ky l) c1, .slice A4 (l.length - seekL ky l) (cR - seekL ky l)] w' fun e w2 => e = .returned (.bool true) ∧ Ext w' w2) := Lib.hid (fun w' P c1 h h1 => by
                    have hh := HLN.out
                    have := same_ref (c := c1) (c' := cR - seekL ky l) h1 (hPB _ _ (hRp.ext (by rw [← hwq]; exact h))) (by omega) (by omega)
                    rwa [decide_eq_true rfl] at this)
                  have hat := fun h => hRp.at_ (seekL ky l) h
                  have hdef : hasL l ky = (decide (seekL ky l < l.length) && ((l.getD (seekL ky l) default).k == ky)) := rfl
                  obtain ⟨sk, hsk⟩ : ∃ sk, sk = seekL ky l := ⟨_, rfl⟩
                  obtain ⟨ln, hln⟩ : ∃ ln, ln = l.length := ⟨_, rfl⟩
                  obtain ⟨tl, htl⟩ : ∃ tl, tl = l.drop sk := ⟨_, rfl⟩
                  rw [← hsk] at HGT HSK HCO0 hsl hSB hSB2 HSA0 hat hdef
                  rw [← hln] at HSK HCO0 hsl r1 hSB hSB2 HSA0 hat hdef
                  rw [← htl] at HCO0 HSA0
                  have HPQ := Lib.hid (show MemIs wq g x l ∧ RefIs wq r x l ∧ Ext W wq by rw [hwq]; exact ⟨hst.hm, hst.hr, hst.he⟩)
                  have HCO : Hid (∀ W nW, Ext wq W → nW = W.heap.size → Calls Try.prog 19 #[.func (.func 28) #[] #[.pointer (some ⟨nW, 0, none⟩), .pointer (some ⟨nW + 1, 0, none⟩)]] ((W.alloc (.cells #[.pointer (some ⟨g, 0, none⟩)] 31)).alloc (.cells #[.string (Bt ky)] 9)) fun e w' => ∃ A c, e = .returned (.slice A (ln - sk) c) ∧ PRd w' A (ln - sk) tl ∧ Ext ((W.alloc (.cells #[.pointer (some ⟨g, 0, none⟩)] 31)).alloc (.cells #[.string (Bt ky)] 9)) w') := Lib.hid (fun W nW h hn => by subst hn; exact HCO0.out W (HPQ.out.1.ext h))
                  have HSA9 := HSA0
                  obtain ⟨b2, hbb⟩ : ∃ b2, b2 = wr.heap.size := ⟨_, rfl⟩
                  rw [← hbb] at k2
                  rw [← hwq] at k2 r1
                  have HWQ := Lib.hid hwq
                  have HBB := Lib.hid hbb
                  have s0 : (0 : Int) ≤ (sk : Int) := by omega
                  have s1 : (sk : Int) ≤ (ln : Int) := by omega
                  clear hsk hln htl hRa hRp hRc hRt hst hPB hdl HCO0 HSA0 hM hR hE hwq hbb HPL
                  by_cases hh : sk < ln ∧ (l.getD sk default).k = ky
                  · have hhas : hasL l ky = true := by rw [hdef, decide_eq_true hh.1, hh.2]; simp
                    rw [hhas, if_pos rfl] at HGT
                    obtain ⟨gv, ov, rfl, v0, v1⟩ := hat hh.1
                    have kk : (sk : Int) < (ln : Int) := by omega
                    have tk : decide ((sk : Int) < (ln : Int)) = true := by simp; omega
                    rw [hh.2] at v0
                    obtain ⟨vv, hvv⟩ : ∃ vv, vv = (l.getD sk default).v := ⟨_, rfl⟩
                    rw [← hvv] at HGT v1
                    rw [← HWQ.out] at v0 v1
                    clear hh hdef hhas hvv hat
                    as_aux_lemma =>
                      go_wp2_with (go_at_call 17; rw [← HWQ.out, ← HBB.out]; (with_reducible refine (HGT.out _ (Ext.refl wq)).mono ?_); rintro e w7 ⟨rfl, hE7⟩; have k2 := hE7.cellv k2; have r1 := hE7.cellv r1)
                      go_region_held3 (fun w' => w'.cell? ⟨b2, 2, none⟩ = some (.string (Bt ky)) ∧ w'.cell? ⟨r, 1, none⟩ = some (.slice (some ⟨gv, ov, none⟩) ln cR) ∧ Ext wq w')
                        (first | exact ⟨k2, r1, hE7.drew⟩ | exact ⟨hE8.cellv k2, hE8.cellv r1, hE7.drew.trans hE8⟩ | go_keep)
                        (first | (go_at_call 18; (with_reducible refine (HSK.out _ hE7.drew).mono ?_); rintro e w8 ⟨rfl, hE8⟩))
                      have k2 := hE8.cellv k2
                      have r1 := hE8.cellv r1
                      have hE9 := hE7.drew.trans hE8
                      have v0 := hE9.cellv v0
                      have v1 := hE9.cellv v1
                      go_wp2
                      go_quiet (fail)
                      go_wp2
                      obtain ⟨w9, hw9⟩ : ∃ w9, w9 = w8.drewN nq := ⟨_, rfl⟩
                      rw [← hw9]
                      rw [show w8.cell? = w9.cell? by rw [hw9]; rfl] at k2
                      rw [show w8.cell? = w9.cell? by rw [hw9]; rfl] at r1
                      rw [show w8.cell? = w9.cell? by rw [hw9]; rfl] at v1
                      have hE9n : Ext wq w9 := by rw [hw9]; exact hE9.drewN nq
                      have hco9 := HCO.out w9.drew w9.heap.size (hE9n.trans (Ext.refl w9).drew) rfl
                      rw [show (w9.drew.alloc (.cells #[.pointer (some ⟨g, 0, none⟩)] 31)).alloc (.cells #[.string (Bt ky)] 9) = ((w9.alloc (.cells #[.pointer (some ⟨g, 0, none⟩)] 31)).alloc (.cells #[.string (Bt ky)] 9)).drew from rfl] at hco9
                      have HCO9 := Lib.hid hco9
                      clear hco9
                      clear hw9 hE7 hE8 hE9
                      refine wp_region_noPanic ?_
                      refine wp_region_held_drew (S := fun w' => w'.cell? ⟨b2, 2, none⟩ = some (.string (Bt ky)) ∧ w'.cell? ⟨r, 1, none⟩ = some (.slice (some ⟨gv, ov, none⟩) ln cR) ∧ w'.cell? ⟨gv, ov + sk * 2 + 1, none⟩ = some (.string (Bt vv)) ∧ Ext w9 w') (by kernel_rfl) ⟨k2, r1, v1, (Ext.refl _).drew⟩ (fun hHeld => ?_)
                      refine wpAnyH_take (i := 0) (v := ?_) rfl (by kernel_rfl) (by kernel_rfl) (by kernel_rfl) (fun _ _ _ h => h) (Or.inl ⟨by simp [Region.wanted, yielded], ?_⟩) (by assumption) ?_
                      rotate_left 1
                      · (intro w hSw; (try dsimp only at hSw); go_simp; all_goals with_reducible rfl)
                      try simp only [Act.put, List.getElem_toArray, List.getElem_cons_zero, List.getElem_cons_succ, List.setIfInBounds_toArray, List.set_cons_zero, List.set_cons_succ]
                      refine wpAnyH_take (i := 1) (v := ?_) rfl (by kernel_rfl) (by kernel_rfl) (by kernel_rfl) (fun _ _ _ h => h) (Or.inl ⟨by simp [Region.wanted, yielded], ?_⟩) (by assumption) ?_
                      rotate_left 1
                      · (intro w hSw; (try dsimp only at hSw); go_simp; all_goals with_reducible rfl)
                      try simp only [Act.put, List.getElem_toArray, List.getElem_cons_zero, List.getElem_cons_succ, List.setIfInBounds_toArray, List.set_cons_zero, List.set_cons_succ]
                      refine wpAnyH_take (i := 2) (v := ?_) rfl (by kernel_rfl) (by kernel_rfl) (by kernel_rfl) (fun _ _ _ h => h) (Or.inl ⟨by simp [Region.wanted, yielded], ?_⟩) (by assumption) ?_
                      rotate_left 1
                      · (intro w hSw; (try dsimp only at hSw); go_simp; all_goals with_reducible rfl)
                      try simp only [Act.put, List.getElem_toArray, List.getElem_cons_zero, List.getElem_cons_succ, List.setIfInBounds_toArray, List.set_cons_zero, List.set_cons_succ]
                      refine wpAnyH_take (i := 3) (v := ?_) rfl (by kernel_rfl) (by kernel_rfl) (by kernel_rfl) (fun _ _ _ h => h) (Or.inl ⟨by simp [Region.wanted, yielded], ?_⟩) (by assumption) ?_
                      rotate_left 1
                      · (intro w hSw; (try dsimp only at hSw); go_simp; all_goals with_reducible rfl)
                      try simp only [Act.put, List.getElem_toArray, List.getElem_cons_zero, List.getElem_cons_succ, List.setIfInBounds_toArray, List.set_cons_zero, List.set_cons_succ]
                      refine wpAnyH_take (i := 4) (v := ?_) rfl (by kernel_rfl) (by kernel_rfl) (by kernel_rfl) (fun _ _ _ h => h) (Or.inl ⟨by simp [Region.wanted, yielded], ?_⟩) (by assumption) ?_
                      rotate_left 1
                      · (intro w hSw; (try dsimp only at hSw); go_simp; all_goals with_reducible rfl)
                      try simp only [Act.put, List.getElem_toArray, List.getElem_cons_zero, List.getElem_cons_succ, List.setIfInBounds_toArray, List.set_cons_zero, List.set_cons_succ]
                      refine wpAnyH_take (i := 5) (v := ?_) rfl (by kernel_rfl) (by kernel_rfl) (by kernel_rfl) (fun _ _ _ h => h) (Or.inl ⟨by simp [Region.wanted, yielded], ?_⟩) (by assumption) ?_
                      rotate_left 1
                      · (intro w hSw; (try dsimp only at hSw); go_simp; all_goals with_reducible rfl)
                      try simp only [Act.put, List.getElem_toArray, List.getElem_cons_zero, List.getElem_cons_succ, List.setIfInBounds_toArray, List.set_cons_zero, List.set_cons_succ]
                      refine wpAnyH_take (i := 6) (v := ?_) rfl (by kernel_rfl) (by kernel_rfl) (by kernel_rfl) (fun _ _ _ h => h) (Or.inl ⟨by simp [Region.wanted, yielded], ?_⟩) (by assumption) ?_
                      rotate_left 1
                      · (intro w hSw; (try dsimp only at hSw); go_simp; all_goals with_reducible rfl)
                      try simp only [Act.put, List.getElem_toArray, List.getElem_cons_zero, List.getElem_cons_succ, List.setIfInBounds_toArray, List.set_cons_zero, List.set_cons_succ]
                      refine wpAnyH_take (i := 7) (v := ?_) rfl (by kernel_rfl) (by kernel_rfl) (by kernel_rfl) (fun _ _ _ h => h) (Or.inl ⟨by simp [Region.wanted, yielded], ?_⟩) (by assumption) ?_
                      rotate_left 1
                      · (intro w hSw; (try dsimp only at hSw); go_simp; all_goals with_reducible rfl)
                      try simp only [Act.put, List.getElem_toArray, List.getElem_cons_zero, List.getElem_cons_succ, List.setIfInBounds_toArray, List.set_cons_zero, List.set_cons_succ]
                      refine wpAnyH_take (i := 8) (v := ?_) rfl (by kernel_rfl) (by kernel_rfl) (by kernel_rfl) (fun _ _ _ h => h) (Or.inl ⟨by simp [Region.wanted, yielded], ?_⟩) (by assumption) ?_
                      rotate_left 1
                      · (intro w hSw; (try dsimp only at hSw); go_simp; all_goals with_reducible rfl)
                      try simp only [Act.put, List.getElem_toArray, List.getElem_cons_zero, List.getElem_cons_succ, List.setIfInBounds_toArray, List.set_cons_zero, List.set_cons_succ]
                      refine wpAnyH_take (i := 9) (v := ?_) rfl (by kernel_rfl) (by kernel_rfl) (by kernel_rfl) (fun _ _ _ h => h) (Or.inl ⟨by simp [Region.wanted, yielded], ?_⟩) (by assumption) ?_
                      rotate_left 1
                      · (intro w hSw; (try dsimp only at hSw); go_simp; all_goals with_reducible rfl)
                      try simp only [Act.put, List.getElem_toArray, List.getElem_cons_zero, List.getElem_cons_succ, List.setIfInBounds_toArray, List.set_cons_zero, List.set_cons_succ]
                      refine wpAnyH_take (i := 10) (v := ?_) rfl (by kernel_rfl) (by kernel_rfl) (by kernel_rfl) (fun _ _ _ h => h) (Or.inl ⟨by simp [Region.wanted, yielded], ?_⟩) (by assumption) ?_
                      rotate_left 1
                      · (intro w hSw; (try dsimp only at hSw); go_simp; all_goals with_reducible rfl)
                      try simp only [Act.put, List.getElem_toArray, List.getElem_cons_zero, List.getElem_cons_succ, List.setIfInBounds_toArray, List.set_cons_zero, List.set_cons_succ]
                      refine wpAnyH_take (i := 11) (v := ?_) rfl (by kernel_rfl) (by kernel_rfl) (by kernel_rfl) (fun _ _ _ h => h) (Or.inl ⟨by simp [Region.wanted, yielded], ?_⟩) (by assumption) ?_
                      rotate_left 1
                      · (intro w hSw; (try dsimp only at hSw); go_simp; all_goals with_reducible rfl)
                      try simp only [Act.put, List.getElem_toArray, List.getElem_cons_zero, List.getElem_cons_succ, List.setIfInBounds_toArray, List.set_cons_zero, List.set_cons_succ]
                      refine wpAnyH_take (i := 12) (v := ?_) rfl (by kernel_rfl) (by kernel_rfl) (by kernel_rfl) (fun _ _ _ h => h) (Or.inl ⟨by simp [Region.wanted, yielded], ?_⟩) (by assumption) ?_
                      rotate_left 1
                      · (intro w hSw; (try dsimp only at hSw); go_simp; all_goals with_reducible rfl)
                      try simp only [Act.put, List.getElem_toArray, List.getElem_cons_zero, List.getElem_cons_succ, List.setIfInBounds_toArray, List.set_cons_zero, List.set_cons_succ]
                      refine wpAnyH_take (i := 13) (v := ?_) rfl (by kernel_rfl) (by kernel_rfl) (by kernel_rfl) (fun _ _ _ h => h) (Or.inl ⟨by simp [Region.wanted, yielded], ?_⟩) (by assumption) ?_
                      rotate_left 1
                      · (intro w hSw; (try dsimp only at hSw); go_simp; all_goals with_reducible rfl)
                      try simp only [Act.put, List.getElem_toArray, List.getElem_cons_zero, List.getElem_cons_succ, List.setIfInBounds_toArray, List.set_cons_zero, List.set_cons_succ]
                      refine wpAnyH_take (i := 14) (v := ?_) rfl (by kernel_rfl) (by kernel_rfl) (by kernel_rfl) (fun _ _ _ h => h) (Or.inl ⟨by simp [Region.wanted, yielded], ?_⟩) (by assumption) ?_
                      rotate_left 1
                      · (intro w hSw; (try dsimp only at hSw); go_simp; all_goals with_reducible rfl)
                      try simp only [Act.put, List.getElem_toArray, List.getElem_cons_zero, List.getElem_cons_succ, List.setIfInBounds_toArray, List.set_cons_zero, List.set_cons_succ]
                      refine wpAnyH_take (i := 15) (v := ?_) rfl (by kernel_rfl) (by kernel_rfl) (by kernel_rfl) (fun _ _ _ h => h) (Or.inl ⟨by simp [Region.wanted, yielded], ?_⟩) (by assumption) ?_
                      rotate_left 1
                      · (intro w hSw; (try dsimp only at hSw); go_simp; all_goals with_reducible rfl)
                      try simp only [Act.put, List.getElem_toArray, List.getElem_cons_zero, List.getElem_cons_succ, List.setIfInBounds_toArray, List.set_cons_zero, List.set_cons_succ]
                      refine wpAnyH_take (i := 16) (v := ?_) rfl (by kernel_rfl) (by kernel_rfl) (by kernel_rfl) (fun _ _ _ h => h) (Or.inl ⟨by simp [Region.wanted, yielded], ?_⟩) (by assumption) ?_
                      rotate_left 1
                      · (intro w hSw; (try dsimp only at hSw); go_simp; all_goals with_reducible rfl)
                      try simp only [Act.put, List.getElem_toArray, List.getElem_cons_zero, List.getElem_cons_succ, List.setIfInBounds_toArray, List.set_cons_zero, List.set_cons_succ]
                      refine wpAnyH_take (i := 17) (v := ?_) rfl (by kernel_rfl) (by kernel_rfl) (by kernel_rfl) (fun _ _ _ h => h) (Or.inl ⟨by simp [Region.wanted, yielded], ?_⟩) (by assumption) ?_
                      rotate_left 1
                      · (intro w hSw; (try dsimp only at hSw); go_simp; all_goals with_reducible rfl)
                      try simp only [Act.put, List.getElem_toArray, List.getElem_cons_zero, List.getElem_cons_succ, List.setIfInBounds_toArray, List.set_cons_zero, List.set_cons_succ]
                      refine wpAnyH_take (i := 18) (v := ?_) rfl (by kernel_rfl) (by kernel_rfl) (by kernel_rfl) (fun _ _ _ h => h) (Or.inl ⟨by simp [Region.wanted, yielded], ?_⟩) (by assumption) ?_
                      rotate_left 1
                      · (intro w hSw; (try dsimp only at hSw); go_simp; all_goals with_reducible rfl)
                      try simp only [Act.put, List.getElem_toArray, List.getElem_cons_zero, List.getElem_cons_succ, List.setIfInBounds_toArray, List.set_cons_zero, List.set_cons_succ]
                      refine wpAnyH_take (i := 19) (v := ?_) rfl (by kernel_rfl) (by kernel_rfl) (by kernel_rfl) (fun _ _ _ h => h) (Or.inl ⟨by simp [Region.wanted, yielded], ?_⟩) (by assumption) ?_
                      rotate_left 1
                      · (intro w hSw; (try dsimp only at hSw); go_simp; all_goals with_reducible rfl)
                      try simp only [Act.put, List.getElem_toArray, List.getElem_cons_zero, List.getElem_cons_succ, List.setIfInBounds_toArray, List.set_cons_zero, List.set_cons_succ]
                      refine wpAnyH_take (i := 20) (v := ?_) rfl (by kernel_rfl) (by kernel_rfl) (by kernel_rfl) (fun _ _ _ h => h) (Or.inl ⟨by simp [Region.wanted, yielded], ?_⟩) (by assumption) ?_
                      rotate_left 1
                      · (intro w hSw; (try dsimp only at hSw); go_simp; all_goals with_reducible rfl)
                      try simp only [Act.put, List.getElem_toArray, List.getElem_cons_zero, List.getElem_cons_succ, List.setIfInBounds_toArray, List.set_cons_zero, List.set_cons_succ]
                      refine wpAnyH_take (i := 21) (v := ?_) rfl (by kernel_rfl) (by kernel_rfl) (by kernel_rfl) (fun _ _ _ h => h) (Or.inl ⟨by simp [Region.wanted, yielded], ?_⟩) (by assumption) ?_
                      rotate_left 1
                      · (intro w hSw; (try dsimp only at hSw); go_simp; all_goals with_reducible rfl)
                      try simp only [Act.put, List.getElem_toArray, List.getElem_cons_zero, List.getElem_cons_succ, List.setIfInBounds_toArray, List.set_cons_zero, List.set_cons_succ]
                      refine wpAnyH_take (i := 22) (v := undef) rfl (by kernel_rfl) (by kernel_rfl) (by kernel_rfl) (fun _ _ _ h => h) (Or.inr ⟨by simp [Region.wanted, yielded, undef], rfl⟩) (by assumption) ?_
                      try simp only [Act.put, List.getElem_toArray, List.getElem_cons_zero, List.getElem_cons_succ, List.setIfInBounds_toArray, List.set_cons_zero, List.set_cons_succ]
                      refine wpAnyH_take (i := 23) (v := undef) rfl (by kernel_rfl) (by kernel_rfl) (by kernel_rfl) (fun _ _ _ h => h) (Or.inr ⟨by simp [Region.wanted, yielded, undef], rfl⟩) (by assumption) ?_
                      try simp only [Act.put, List.getElem_toArray, List.getElem_cons_zero, List.getElem_cons_succ, List.setIfInBounds_toArray, List.set_cons_zero, List.set_cons_succ]
                      refine wpAnyH_take (i := 24) (v := ?_) rfl (by kernel_rfl) (by kernel_rfl) (by kernel_rfl) (fun _ _ _ h => h) (Or.inl ⟨by simp [Region.wanted, yielded], ?_⟩) (by assumption) ?_
                      rotate_left 1
                      · (intro w hSw; (try dsimp only at hSw); go_simp; all_goals with_reducible rfl)
                      try simp only [Act.put, List.getElem_toArray, List.getElem_cons_zero, List.getElem_cons_succ, List.setIfInBounds_toArray, List.set_cons_zero, List.set_cons_succ]
                      refine wpAnyH_take (i := 25) (v := ?_) rfl (by kernel_rfl) (by kernel_rfl) (by kernel_rfl) (fun _ _ _ h => h) (Or.inl ⟨by simp [Region.wanted, yielded], ?_⟩) (by assumption) ?_
                      rotate_left 1
                      · (intro w hSw; (try dsimp only at hSw); go_simp; all_goals with_reducible rfl)
                      try simp only [Act.put, List.getElem_toArray, List.getElem_cons_zero, List.getElem_cons_succ, List.setIfInBounds_toArray, List.set_cons_zero, List.set_cons_succ]
                      refine wpAnyH_take (i := 26) (v := ?_) rfl (by kernel_rfl) (by kernel_rfl) (by kernel_rfl) (fun _ _ _ h => h) (Or.inl ⟨by simp [Region.wanted, yielded], ?_⟩) (by assumption) ?_
                      rotate_left 1
                      · (intro w hSw; (try dsimp only at hSw); go_simp; all_goals with_reducible rfl)
                      try simp only [Act.put, List.getElem_toArray, List.getElem_cons_zero, List.getElem_cons_succ, List.setIfInBounds_toArray, List.set_cons_zero, List.set_cons_succ]
                      refine wpAnyH_take (i := 27) (v := ?_) rfl (by kernel_rfl) (by kernel_rfl) (by kernel_rfl) (fun _ _ _ h => h) (Or.inl ⟨by simp [Region.wanted, yielded], ?_⟩) (by assumption) ?_
                      rotate_left 1
                      · (intro w hSw; (try dsimp only at hSw); go_simp; all_goals with_reducible rfl)
                      try simp only [Act.put, List.getElem_toArray, List.getElem_cons_zero, List.getElem_cons_succ, List.setIfInBounds_toArray, List.set_cons_zero, List.set_cons_succ]
                      refine wpAnyH_take (i := 28) (v := ?_) rfl (by kernel_rfl) (by kernel_rfl) (by kernel_rfl) (fun _ _ _ h => h) (Or.inl ⟨by simp [Region.wanted, yielded], ?_⟩) (by assumption) ?_
                      rotate_left 1
                      · (intro w hSw; (try dsimp only at hSw); go_simp; all_goals with_reducible rfl)
                      try simp only [Act.put, List.getElem_toArray, List.getElem_cons_zero, List.getElem_cons_succ, List.setIfInBounds_toArray, List.set_cons_zero, List.set_cons_succ]
                      refine wpAnyH_take (i := 29) (v := ?_) rfl (by kernel_rfl) (by kernel_rfl) (by kernel_rfl) (fun _ _ _ h => h) (Or.inl ⟨by simp [Region.wanted, yielded], ?_⟩) (by assumption) ?_
                      rotate_left 1
                      · (intro w hSw; (try dsimp only at hSw); go_simp; all_goals with_reducible rfl)
                      try simp only [Act.put, List.getElem_toArray, List.getElem_cons_zero, List.getElem_cons_succ, List.setIfInBounds_toArray, List.set_cons_zero, List.set_cons_succ]
                      refine wpAnyH_take (i := 32) (v := ?_) rfl (by kernel_rfl) (by kernel_rfl) (by kernel_rfl) (fun _ _ _ h => h) (Or.inl ⟨by simp [Region.wanted, yielded], ?_⟩) (by assumption) ?_
                      rotate_left 1
                      · (intro w hSw; (try dsimp only at hSw); go_simp; all_goals with_reducible rfl)
                      try simp only [Act.put, List.getElem_toArray, List.getElem_cons_zero, List.getElem_cons_succ, List.setIfInBounds_toArray, List.set_cons_zero, List.set_cons_succ]
                      refine wpAnyH_take (i := 33) (v := ?_) rfl (by kernel_rfl) (by kernel_rfl) (by kernel_rfl) (fun _ _ _ h => h) (Or.inl ⟨by simp [Region.wanted, yielded], ?_⟩) (by assumption) ?_
                      rotate_left 1
                      · (intro w hSw; (try dsimp only at hSw); go_simp; all_goals with_reducible rfl)
                      try simp only [Act.put, List.getElem_toArray, List.getElem_cons_zero, List.getElem_cons_succ, List.setIfInBounds_toArray, List.set_cons_zero, List.set_cons_succ]
                      refine wpAnyH_take (i := 34) (v := ?_) rfl (by kernel_rfl) (by kernel_rfl) (by kernel_rfl) (fun _ _ _ h => h) (Or.inl ⟨by simp [Region.wanted, yielded], ?_⟩) (by assumption) ?_
                      rotate_left 1
                      · (intro w hSw; (try dsimp only at hSw); go_simp; all_goals with_reducible rfl)
                      try simp only [Act.put, List.getElem_toArray, List.getElem_cons_zero, List.getElem_cons_succ, List.setIfInBounds_toArray, List.set_cons_zero, List.set_cons_succ]
                      refine wpAnyH_take (i := 35) (v := ?_) rfl (by kernel_rfl) (by kernel_rfl) (by kernel_rfl) (fun _ _ _ h => h) (Or.inl ⟨by simp [Region.wanted, yielded], ?_⟩) (by assumption) ?_
                      rotate_left 1
                      · (intro w hSw; (try dsimp only at hSw); go_simp; all_goals with_reducible rfl)
                      try simp only [Act.put, List.getElem_toArray, List.getElem_cons_zero, List.getElem_cons_succ, List.setIfInBounds_toArray, List.set_cons_zero, List.set_cons_succ]
                      refine wpAnyH_take (i := 36) (v := ?_) rfl (by kernel_rfl) (by kernel_rfl) (by kernel_rfl) (fun _ _ _ h => h) (Or.inl ⟨by simp [Region.wanted, yielded], ?_⟩) (by assumption) ?_
                      rotate_left 1
                      · (intro w hSw; (try dsimp only at hSw); go_simp; all_goals with_reducible rfl)
                      try simp only [Act.put, List.getElem_toArray, List.getElem_cons_zero, List.getElem_cons_succ, List.setIfInBounds_toArray, List.set_cons_zero, List.set_cons_succ]
                      refine wpAnyH_take (i := 37) (v := ?_) rfl (by kernel_rfl) (by kernel_rfl) (by kernel_rfl) (fun _ _ _ h => h) (Or.inl ⟨by simp [Region.wanted, yielded], ?_⟩) (by assumption) ?_
                      rotate_left 1
                      · (intro w hSw; (try dsimp only at hSw); go_simp; all_goals with_reducible rfl)
                      try simp only [Act.put, List.getElem_toArray, List.getElem_cons_zero, List.getElem_cons_succ, List.setIfInBounds_toArray, List.set_cons_zero, List.set_cons_succ]
                      refine wpAnyH_ready (rs := [30]) (by kernel_rfl) (by simp) ?_
                      refine AllReadyH.cons rfl (fun K hK => ?_) AllReadyH.nil
                      go_simp
                      go_at_call 20; (with_reducible refine (HFR.out _).mono ?_); rintro e w10 ⟨rfl, rfl⟩; have hX0 := Lib.hid (((Ext.refl w9).drew.alloc (.cells #[.pointer (some ⟨g, 0, none⟩)] 31)).alloc (.cells #[.string (Bt ky)] 9))
                      refine hK.out _ _ ⟨hX0.out.cellv k2, hX0.out.cellv r1, hX0.out.cellv v1, hX0.out⟩ (fun hHeld => ?_)
                      clear hK K
                      try simp only [Act.put, List.getElem_toArray, List.getElem_cons_zero, List.getElem_cons_succ, List.setIfInBounds_toArray, List.set_cons_zero, List.set_cons_succ]
                      refine wpAnyH_ready (rs := [31]) (by kernel_rfl) (by simp) ?_
                      refine AllReadyH.cons rfl (fun K hK => ?_) AllReadyH.nil
                      go_simp
                      go_at_call 19; (with_reducible refine HCO9.out.mono ?_); rintro e w11 ⟨A11, c11, rfl, hP11, hE11⟩; have hX1 := Lib.hid (hX0.out.trans hE11)
                      refine hK.out _ _ ⟨hX1.out.cellv k2, hX1.out.cellv r1, hX1.out.cellv v1, hX1.out⟩ (fun hHeld => ?_)
                      clear hK K
                      try simp only [Act.put, List.getElem_toArray, List.getElem_cons_zero, List.getElem_cons_succ, List.setIfInBounds_toArray, List.set_cons_zero, List.set_cons_succ]
                      refine wpAnyH_ready (rs := [38]) (by kernel_rfl) (by simp) ?_
                      refine AllReadyH.cons rfl (fun K hK => ?_) AllReadyH.nil
                      go_simp
                      go_at_call 11; (with_reducible refine (HSA9.out _ _ _ (hE9n.trans hX1.out) hP11).mono ?_); rintro e w12 ⟨rfl, hE12⟩; have hX2 := Lib.hid (hX1.out.trans hE12)
                      refine hK.out _ _ ⟨hX2.out.cellv k2, hX2.out.cellv r1, hX2.out.cellv v1, hX2.out⟩ (fun hHeld => ?_)
                      clear hK K
                      try simp only [Act.put, List.getElem_toArray, List.getElem_cons_zero, List.getElem_cons_succ, List.setIfInBounds_toArray, List.set_cons_zero, List.set_cons_succ]
                      refine wpAnyH_take (i := 39) (v := ?_) rfl (by kernel_rfl) (by kernel_rfl) (by kernel_rfl) (fun _ _ _ h => h) (Or.inl ⟨by simp [Region.wanted, yielded], ?_⟩) (by assumption) ?_
                      rotate_left 1
                      · (intro w hSw; (try dsimp only at hSw); go_simp; all_goals with_reducible rfl)
                      try simp only [Act.put, List.getElem_toArray, List.getElem_cons_zero, List.getElem_cons_succ, List.setIfInBounds_toArray, List.set_cons_zero, List.set_cons_succ]
                      refine wpAnyH_take (i := 40) (v := ?_) rfl (by kernel_rfl) (by kernel_rfl) (by kernel_rfl) (fun _ _ _ h => h) (Or.inl ⟨by simp [Region.wanted, yielded], ?_⟩) (by assumption) ?_
                      rotate_left 1
                      · (intro w hSw; (try dsimp only at hSw); go_simp; all_goals with_reducible rfl)
                      try simp only [Act.put, List.getElem_toArray, List.getElem_cons_zero, List.getElem_cons_succ, List.setIfInBounds_toArray, List.set_cons_zero, List.set_cons_succ]
                      refine wpAnyH_done (by kernel_rfl) ?_ _
                      refine NoPanic.normal ?_
                      have hXF := hE9n.trans hX2.out
                      have HPE := Lib.hid (show MemIs w12 g x l ∧ RefIs w12 r x l ∧ Ext W w12 from ⟨HPQ.out.1.ext hXF, HPQ.out.2.1.ext hXF, HPQ.out.2.2.trans hXF⟩)
                      clear hXF hHeld k2 r1 hP11 hE11 hE12
                      obtain rfl := HBB.out
                      go_wp2
                      go_meet
                      exact ⟨rfl, l, HPE.out.1, HPE.out.2.1, HPE.out.2.2, hup, hsz⟩
                  · have hhas : hasL l ky = false := by
                      rw [hdef]
                      cases h1 : decide (sk < ln)
                      · rfl
                      · simp only [Bool.true_and]
                        rw [beq_eq_false_iff_ne]
                        intro h2
                        exact hh ⟨by simpa using h1, h2⟩
                    rw [hhas, if_neg (by simp)] at HGT
                    by_cases hk : sk < ln
                    · have kk : (sk : Int) < (ln : Int) := by omega
                      have tk : decide ((sk : Int) < (ln : Int)) = true := by simp; omega
                      have hne : ¬ (l.getD sk default).k = ky := fun e => hh ⟨hk, e⟩
                      obtain ⟨gv, ov, rfl, v0, v1⟩ := hat hk
                      obtain ⟨kv, hkv⟩ : ∃ kv, kv = (l.getD sk default).k := ⟨_, rfl⟩
                      rw [← hkv] at hne v0
                      have tx : (kv == ky) = false := by simpa using hne
                      rw [← HWQ.out] at v0 v1
                      clear hh hdef hhas hkv hat hne
                      as_aux_lemma =>
                        go_wp2_with (go_at_call 17; rw [← HWQ.out, ← HBB.out]; (with_reducible refine (HGT.out _ (Ext.refl wq)).mono ?_); rintro e w7 ⟨rfl, hE7⟩; have k2 := hE7.cellv k2; have r1 := hE7.cellv r1)
                        go_region_held3 (fun w' => w'.cell? ⟨b2, 2, none⟩ = some (.string (Bt ky)) ∧ w'.cell? ⟨r, 1, none⟩ = some (.slice (some ⟨gv, ov, none⟩) ln cR) ∧ Ext wq w')
                          (first | exact ⟨k2, r1, hE7.drew⟩ | exact ⟨hE8.cellv k2, hE8.cellv r1, hE7.drew.trans hE8⟩ | go_keep)
                          (first | (go_at_call 18; (with_reducible refine (HSK.out _ hE7.drew).mono ?_); rintro e w8 ⟨rfl, hE8⟩))
                        have k2 := hE8.cellv k2
                        have r1 := hE8.cellv r1
                        have hE9 := hE7.drew.trans hE8
                        have v0 := hE9.cellv v0
                        have v1 := hE9.cellv v1
                        go_wp2
                        go_quiet (fail)
                        go_wp2
                        obtain ⟨w9, hw9⟩ : ∃ w9, w9 = w8.drewN nq := ⟨_, rfl⟩
                        rw [← hw9]
                        rw [show w8.cell? = w9.cell? by rw [hw9]; rfl] at k2
                        rw [show w8.cell? = w9.cell? by rw [hw9]; rfl] at r1
                        have hE9n : Ext wq w9 := by rw [hw9]; exact hE9.drewN nq
                        have hco9 := HCO.out w9.drew w9.heap.size (hE9n.trans (Ext.refl w9).drew) rfl
                        rw [show (w9.drew.alloc (.cells #[.pointer (some ⟨g, 0, none⟩)] 31)).alloc (.cells #[.string (Bt ky)] 9) = ((w9.alloc (.cells #[.pointer (some ⟨g, 0, none⟩)] 31)).alloc (.cells #[.string (Bt ky)] 9)).drew from rfl] at hco9
                        have HCO9 := Lib.hid hco9
                        clear hco9
                        clear hw9 hE7 hE8 hE9
                        refine wp_region_noPanic ?_
                        refine wp_region_held_drew (S := fun w' => w'.cell? ⟨b2, 2, none⟩ = some (.string (Bt ky)) ∧ w'.cell? ⟨r, 1, none⟩ = some (.slice (some ⟨gv, ov, none⟩) ln cR) ∧ Ext w9 w') (by kernel_rfl) ⟨k2, r1, (Ext.refl _).drew⟩ (fun hHeld => ?_)
                        refine wpAnyH_take (i := 0) (v := ?_) rfl (by kernel_rfl) (by kernel_rfl) (by kernel_rfl) (fun _ _ _ h => h) (Or.inl ⟨by simp [Region.wanted, yielded], ?_⟩) (by assumption) ?_
                        rotate_left 1
                        · (intro w hSw; (try dsimp only at hSw); go_simp; all_goals with_reducible rfl)
                        try simp only [Act.put, List.getElem_toArray, List.getElem_cons_zero, List.getElem_cons_succ, List.setIfInBounds_toArray, List.set_cons_zero, List.set_cons_succ]
                        refine wpAnyH_take (i := 1) (v := ?_) rfl (by kernel_rfl) (by kernel_rfl) (by kernel_rfl) (fun _ _ _ h => h) (Or.inl ⟨by simp [Region.wanted, yielded], ?_⟩) (by assumption) ?_
                        rotate_left 1
                        · (intro w hSw; (try dsimp only at hSw); go_simp; all_goals with_reducible rfl)
                        try simp only [Act.put, List.getElem_toArray, List.getElem_cons_zero, List.getElem_cons_succ, List.setIfInBounds_toArray, List.set_cons_zero, List.set_cons_succ]
                        refine wpAnyH_take (i := 2) (v := ?_) rfl (by kernel_rfl) (by kernel_rfl) (by kernel_rfl) (fun _ _ _ h => h) (Or.inl ⟨by simp [Region.wanted, yielded], ?_⟩) (by assumption) ?_
                        rotate_left 1
                        · (intro w hSw; (try dsimp only at hSw); go_simp; all_goals with_reducible rfl)
                        try simp only [Act.put, List.getElem_toArray, List.getElem_cons_zero, List.getElem_cons_succ, List.setIfInBounds_toArray, List.set_cons_zero, List.set_cons_succ]
                        refine wpAnyH_take (i := 3) (v := ?_) rfl (by kernel_rfl) (by kernel_rfl) (by kernel_rfl) (fun _ _ _ h => h) (Or.inl ⟨by simp [Region.wanted, yielded], ?_⟩) (by assumption) ?_
                        rotate_left 1
                        · (intro w hSw; (try dsimp only at hSw); go_simp; all_goals with_reducible rfl)
                        try simp only [Act.put, List.getElem_toArray, List.getElem_cons_zero, List.getElem_cons_succ, List.setIfInBounds_toArray, List.set_cons_zero, List.set_cons_succ]
                        refine wpAnyH_take (i := 4) (v := ?_) rfl (by kernel_rfl) (by kernel_rfl) (by kernel_rfl) (fun _ _ _ h => h) (Or.inl ⟨by simp [Region.wanted, yielded], ?_⟩) (by assumption) ?_
                        rotate_left 1
                        · (intro w hSw; (try dsimp only at hSw); go_simp; all_goals with_reducible rfl)
                        try simp only [Act.put, List.getElem_toArray, List.getElem_cons_zero, List.getElem_cons_succ, List.setIfInBounds_toArray, List.set_cons_zero, List.set_cons_succ]
                        refine wpAnyH_take (i := 5) (v := ?_) rfl (by kernel_rfl) (by kernel_rfl) (by kernel_rfl) (fun _ _ _ h => h) (Or.inl ⟨by simp [Region.wanted, yielded], ?_⟩) (by assumption) ?_
                        rotate_left 1
                        · (intro w hSw; (try dsimp only at hSw); go_simp; all_goals with_reducible rfl)
                        try simp only [Act.put, List.getElem_toArray, List.getElem_cons_zero, List.getElem_cons_succ, List.setIfInBounds_toArray, List.set_cons_zero, List.set_cons_succ]
                        refine wpAnyH_take (i := 6) (v := ?_) rfl (by kernel_rfl) (by kernel_rfl) (by kernel_rfl) (fun _ _ _ h => h) (Or.inl ⟨by simp [Region.wanted, yielded], ?_⟩) (by assumption) ?_
                        rotate_left 1
                        · (intro w hSw; (try dsimp only at hSw); go_simp; all_goals with_reducible rfl)
                        try simp only [Act.put, List.getElem_toArray, List.getElem_cons_zero, List.getElem_cons_succ, List.setIfInBounds_toArray, List.set_cons_zero, List.set_cons_succ]
                        refine wpAnyH_take (i := 7) (v := undef) rfl (by kernel_rfl) (by kernel_rfl) (by kernel_rfl) (fun _ _ _ h => h) (Or.inr ⟨by simp [Region.wanted, yielded, undef], rfl⟩) (by assumption) ?_
                        try simp only [Act.put, List.getElem_toArray, List.getElem_cons_zero, List.getElem_cons_succ, List.setIfInBounds_toArray, List.set_cons_zero, List.set_cons_succ]
                        refine wpAnyH_take (i := 8) (v := undef) rfl (by kernel_rfl) (by kernel_rfl) (by kernel_rfl) (fun _ _ _ h => h) (Or.inr ⟨by simp [Region.wanted, yielded, undef], rfl⟩) (by assumption) ?_
                        try simp only [Act.put, List.getElem_toArray, List.getElem_cons_zero, List.getElem_cons_succ, List.setIfInBounds_toArray, List.set_cons_zero, List.set_cons_succ]
                        refine wpAnyH_take (i := 9) (v := undef) rfl (by kernel_rfl) (by kernel_rfl) (by kernel_rfl) (fun _ _ _ h => h) (Or.inr ⟨by simp [Region.wanted, yielded, undef], rfl⟩) (by assumption) ?_
                        try simp only [Act.put, List.getElem_toArray, List.getElem_cons_zero, List.getElem_cons_succ, List.setIfInBounds_toArray, List.set_cons_zero, List.set_cons_succ]
                        refine wpAnyH_take (i := 10) (v := undef) rfl (by kernel_rfl) (by kernel_rfl) (by kernel_rfl) (fun _ _ _ h => h) (Or.inr ⟨by simp [Region.wanted, yielded, undef], rfl⟩) (by assumption) ?_
                        try simp only [Act.put, List.getElem_toArray, List.getElem_cons_zero, List.getElem_cons_succ, List.setIfInBounds_toArray, List.set_cons_zero, List.set_cons_succ]
                        refine wpAnyH_take (i := 11) (v := undef) rfl (by kernel_rfl) (by kernel_rfl) (by kernel_rfl) (fun _ _ _ h => h) (Or.inr ⟨by simp [Region.wanted, yielded, undef], rfl⟩) (by assumption) ?_
                        try simp only [Act.put, List.getElem_toArray, List.getElem_cons_zero, List.getElem_cons_succ, List.setIfInBounds_toArray, List.set_cons_zero, List.set_cons_succ]
                        refine wpAnyH_take (i := 12) (v := undef) rfl (by kernel_rfl) (by kernel_rfl) (by kernel_rfl) (fun _ _ _ h => h) (Or.inr ⟨by simp [Region.wanted, yielded, undef], rfl⟩) (by assumption) ?_
                        try simp only [Act.put, List.getElem_toArray, List.getElem_cons_zero, List.getElem_cons_succ, List.setIfInBounds_toArray, List.set_cons_zero, List.set_cons_succ]
                        refine wpAnyH_take (i := 13) (v := undef) rfl (by kernel_rfl) (by kernel_rfl) (by kernel_rfl) (fun _ _ _ h => h) (Or.inr ⟨by simp [Region.wanted, yielded, undef], rfl⟩) (by assumption) ?_
                        try simp only [Act.put, List.getElem_toArray, List.getElem_cons_zero, List.getElem_cons_succ, List.setIfInBounds_toArray, List.set_cons_zero, List.set_cons_succ]
                        refine wpAnyH_take (i := 14) (v := undef) rfl (by kernel_rfl) (by kernel_rfl) (by kernel_rfl) (fun _ _ _ h => h) (Or.inr ⟨by simp [Region.wanted, yielded, undef], rfl⟩) (by assumption) ?_
                        try simp only [Act.put, List.getElem_toArray, List.getElem_cons_zero, List.getElem_cons_succ, List.setIfInBounds_toArray, List.set_cons_zero, List.set_cons_succ]
                        refine wpAnyH_take (i := 15) (v := undef) rfl (by kernel_rfl) (by kernel_rfl) (by kernel_rfl) (fun _ _ _ h => h) (Or.inr ⟨by simp [Region.wanted, yielded, undef], rfl⟩) (by assumption) ?_
                        try simp only [Act.put, List.getElem_toArray, List.getElem_cons_zero, List.getElem_cons_succ, List.setIfInBounds_toArray, List.set_cons_zero, List.set_cons_succ]
                        refine wpAnyH_take (i := 16) (v := undef) rfl (by kernel_rfl) (by kernel_rfl) (by kernel_rfl) (fun _ _ _ h => h) (Or.inr ⟨by simp [Region.wanted, yielded, undef], rfl⟩) (by assumption) ?_
                        try simp only [Act.put, List.getElem_toArray, List.getElem_cons_zero, List.getElem_cons_succ, List.setIfInBounds_toArray, List.set_cons_zero, List.set_cons_succ]
                        refine wpAnyH_take (i := 17) (v := ?_) rfl (by kernel_rfl) (by kernel_rfl) (by kernel_rfl) (fun _ _ _ h => h) (Or.inl ⟨by simp [Region.wanted, yielded], ?_⟩) (by assumption) ?_
                        rotate_left 1
                        · (intro w hSw; (try dsimp only at hSw); go_simp; all_goals with_reducible rfl)
                        try simp only [Act.put, List.getElem_toArray, List.getElem_cons_zero, List.getElem_cons_succ, List.setIfInBounds_toArray, List.set_cons_zero, List.set_cons_succ]
                        refine wpAnyH_take (i := 18) (v := ?_) rfl (by kernel_rfl) (by kernel_rfl) (by kernel_rfl) (fun _ _ _ h => h) (Or.inl ⟨by simp [Region.wanted, yielded], ?_⟩) (by assumption) ?_
                        rotate_left 1
                        · (intro w hSw; (try dsimp only at hSw); go_simp; all_goals with_reducible rfl)
                        try simp only [Act.put, List.getElem_toArray, List.getElem_cons_zero, List.getElem_cons_succ, List.setIfInBounds_toArray, List.set_cons_zero, List.set_cons_succ]
                        refine wpAnyH_take (i := 19) (v := ?_) rfl (by kernel_rfl) (by kernel_rfl) (by kernel_rfl) (fun _ _ _ h => h) (Or.inl ⟨by simp [Region.wanted, yielded], ?_⟩) (by assumption) ?_
                        rotate_left 1
                        · (intro w hSw; (try dsimp only at hSw); go_simp; all_goals with_reducible rfl)
                        try simp only [Act.put, List.getElem_toArray, List.getElem_cons_zero, List.getElem_cons_succ, List.setIfInBounds_toArray, List.set_cons_zero, List.set_cons_succ]
                        refine wpAnyH_take (i := 20) (v := ?_) rfl (by kernel_rfl) (by kernel_rfl) (by kernel_rfl) (fun _ _ _ h => h) (Or.inl ⟨by simp [Region.wanted, yielded], ?_⟩) (by assumption) ?_
                        rotate_left 1
                        · (intro w hSw; (try dsimp only at hSw); go_simp; all_goals with_reducible rfl)
                        try simp only [Act.put, List.getElem_toArray, List.getElem_cons_zero, List.getElem_cons_succ, List.setIfInBounds_toArray, List.set_cons_zero, List.set_cons_succ]
                        refine wpAnyH_take (i := 21) (v := ?_) rfl (by kernel_rfl) (by kernel_rfl) (by kernel_rfl) (fun _ _ _ h => h) (Or.inl ⟨by simp [Region.wanted, yielded], ?_⟩) (by assumption) ?_
                        rotate_left 1
                        · (intro w hSw; (try dsimp only at hSw); go_simp; all_goals with_reducible rfl)
                        try simp only [Act.put, List.getElem_toArray, List.getElem_cons_zero, List.getElem_cons_succ, List.setIfInBounds_toArray, List.set_cons_zero, List.set_cons_succ]
                        refine wpAnyH_take (i := 22) (v := ?_) rfl (by kernel_rfl) (by kernel_rfl) (by kernel_rfl) (fun _ _ _ h => h) (Or.inl ⟨by simp [Region.wanted, yielded], ?_⟩) (by assumption) ?_
                        rotate_left 1
                        · (intro w hSw; (try dsimp only at hSw); go_simp; all_goals with_reducible rfl)
                        try simp only [Act.put, List.getElem_toArray, List.getElem_cons_zero, List.getElem_cons_succ, List.setIfInBounds_toArray, List.set_cons_zero, List.set_cons_succ]
                        refine wpAnyH_take (i := 23) (v := ?_) rfl (by kernel_rfl) (by kernel_rfl) (by kernel_rfl) (fun _ _ _ h => h) (Or.inl ⟨by simp [Region.wanted, yielded], ?_⟩) (by assumption) ?_
                        rotate_left 1
                        · (intro w hSw; (try dsimp only at hSw); go_simp; all_goals with_reducible rfl)
                        try simp only [Act.put, List.getElem_toArray, List.getElem_cons_zero, List.getElem_cons_succ, List.setIfInBounds_toArray, List.set_cons_zero, List.set_cons_succ]
                        refine wpAnyH_take (i := 24) (v := ?_) rfl (by kernel_rfl) (by kernel_rfl) (by kernel_rfl) (fun _ _ _ h => h) (Or.inl ⟨by simp [Region.wanted, yielded], ?_⟩) (by assumption) ?_
                        rotate_left 1
                        · (intro w hSw; (try dsimp only at hSw); go_simp; all_goals with_reducible rfl)
                        try simp only [Act.put, List.getElem_toArray, List.getElem_cons_zero, List.getElem_cons_succ, List.setIfInBounds_toArray, List.set_cons_zero, List.set_cons_succ]
                        refine wpAnyH_take (i := 25) (v := ?_) rfl (by kernel_rfl) (by kernel_rfl) (by kernel_rfl) (fun _ _ _ h => h) (Or.inl ⟨by simp [Region.wanted, yielded], ?_⟩) (by assumption) ?_
                        rotate_left 1
                        · (intro w hSw; (try dsimp only at hSw); go_simp; all_goals with_reducible rfl)
                        try simp only [Act.put, List.getElem_toArray, List.getElem_cons_zero, List.getElem_cons_succ, List.setIfInBounds_toArray, List.set_cons_zero, List.set_cons_succ]
                        refine wpAnyH_take (i := 26) (v := ?_) rfl (by kernel_rfl) (by kernel_rfl) (by kernel_rfl) (fun _ _ _ h => h) (Or.inl ⟨by simp [Region.wanted, yielded], ?_⟩) (by assumption) ?_
                        rotate_left 1
                        · (intro w hSw; (try dsimp only at hSw); go_simp; all_goals with_reducible rfl)
                        try simp only [Act.put, List.getElem_toArray, List.getElem_cons_zero, List.getElem_cons_succ, List.setIfInBounds_toArray, List.set_cons_zero, List.set_cons_succ]
                        refine wpAnyH_take (i := 27) (v := ?_) rfl (by kernel_rfl) (by kernel_rfl) (by kernel_rfl) (fun _ _ _ h => h) (Or.inl ⟨by simp [Region.wanted, yielded], ?_⟩) (by assumption) ?_
                        rotate_left 1
                        · (intro w hSw; (try dsimp only at hSw); go_simp; all_goals with_reducible rfl)
                        try simp only [Act.put, List.getElem_toArray, List.getElem_cons_zero, List.getElem_cons_succ, List.setIfInBounds_toArray, List.set_cons_zero, List.set_cons_succ]
                        refine wpAnyH_take (i := 28) (v := ?_) rfl (by kernel_rfl) (by kernel_rfl) (by kernel_rfl) (fun _ _ _ h => h) (Or.inl ⟨by simp [Region.wanted, yielded], ?_⟩) (by assumption) ?_
                        rotate_left 1
                        · (intro w hSw; (try dsimp only at hSw); go_simp; all_goals with_reducible rfl)
                        try simp only [Act.put, List.getElem_toArray, List.getElem_cons_zero, List.getElem_cons_succ, List.setIfInBounds_toArray, List.set_cons_zero, List.set_cons_succ]
                        refine wpAnyH_take (i := 29) (v := ?_) rfl (by kernel_rfl) (by kernel_rfl) (by kernel_rfl) (fun _ _ _ h => h) (Or.inl ⟨by simp [Region.wanted, yielded], ?_⟩) (by assumption) ?_
                        rotate_left 1
                        · (intro w hSw; (try dsimp only at hSw); go_simp; all_goals with_reducible rfl)
                        try simp only [Act.put, List.getElem_toArray, List.getElem_cons_zero, List.getElem_cons_succ, List.setIfInBounds_toArray, List.set_cons_zero, List.set_cons_succ]
                        refine wpAnyH_take (i := 32) (v := ?_) rfl (by kernel_rfl) (by kernel_rfl) (by kernel_rfl) (fun _ _ _ h => h) (Or.inl ⟨by simp [Region.wanted, yielded], ?_⟩) (by assumption) ?_
                        rotate_left 1
                        · (intro w hSw; (try dsimp only at hSw); go_simp; all_goals with_reducible rfl)
                        try simp only [Act.put, List.getElem_toArray, List.getElem_cons_zero, List.getElem_cons_succ, List.setIfInBounds_toArray, List.set_cons_zero, List.set_cons_succ]
                        refine wpAnyH_take (i := 33) (v := ?_) rfl (by kernel_rfl) (by kernel_rfl) (by kernel_rfl) (fun _ _ _ h => h) (Or.inl ⟨by simp [Region.wanted, yielded], ?_⟩) (by assumption) ?_
                        rotate_left 1
                        · (intro w hSw; (try dsimp only at hSw); go_simp; all_goals with_reducible rfl)
                        try simp only [Act.put, List.getElem_toArray, List.getElem_cons_zero, List.getElem_cons_succ, List.setIfInBounds_toArray, List.set_cons_zero, List.set_cons_succ]
                        refine wpAnyH_take (i := 34) (v := ?_) rfl (by kernel_rfl) (by kernel_rfl) (by kernel_rfl) (fun _ _ _ h => h) (Or.inl ⟨by simp [Region.wanted, yielded], ?_⟩) (by assumption) ?_
                        rotate_left 1
                        · (intro w hSw; (try dsimp only at hSw); go_simp; all_goals with_reducible rfl)
                        try simp only [Act.put, List.getElem_toArray, List.getElem_cons_zero, List.getElem_cons_succ, List.setIfInBounds_toArray, List.set_cons_zero, List.set_cons_succ]
                        refine wpAnyH_take (i := 35) (v := ?_) rfl (by kernel_rfl) (by kernel_rfl) (by kernel_rfl) (fun _ _ _ h => h) (Or.inl ⟨by simp [Region.wanted, yielded], ?_⟩) (by assumption) ?_
                        rotate_left 1
                        · (intro w hSw; (try dsimp only at hSw); go_simp; all_goals with_reducible rfl)
                        try simp only [Act.put, List.getElem_toArray, List.getElem_cons_zero, List.getElem_cons_succ, List.setIfInBounds_toArray, List.set_cons_zero, List.set_cons_succ]
                        refine wpAnyH_take (i := 36) (v := ?_) rfl (by kernel_rfl) (by kernel_rfl) (by kernel_rfl) (fun _ _ _ h => h) (Or.inl ⟨by simp [Region.wanted, yielded], ?_⟩) (by assumption) ?_
                        rotate_left 1
                        · (intro w hSw; (try dsimp only at hSw); go_simp; all_goals with_reducible rfl)
                        try simp only [Act.put, List.getElem_toArray, List.getElem_cons_zero, List.getElem_cons_succ, List.setIfInBounds_toArray, List.set_cons_zero, List.set_cons_succ]
                        refine wpAnyH_take (i := 37) (v := ?_) rfl (by kernel_rfl) (by kernel_rfl) (by kernel_rfl) (fun _ _ _ h => h) (Or.inl ⟨by simp [Region.wanted, yielded], ?_⟩) (by assumption) ?_
                        rotate_left 1
                        · (intro w hSw; (try dsimp only at hSw); go_simp; all_goals with_reducible rfl)
                        try simp only [Act.put, List.getElem_toArray, List.getElem_cons_zero, List.getElem_cons_succ, List.setIfInBounds_toArray, List.set_cons_zero, List.set_cons_succ]
                        refine wpAnyH_ready (rs := [30]) (by kernel_rfl) (by simp) ?_
                        refine AllReadyH.cons rfl (fun K hK => ?_) AllReadyH.nil
                        go_simp
                        go_at_call 20; (with_reducible refine (HFR.out _).mono ?_); rintro e w10 ⟨rfl, rfl⟩; have hX0 := Lib.hid (((Ext.refl w9).drew.alloc (.cells #[.pointer (some ⟨g, 0, none⟩)] 31)).alloc (.cells #[.string (Bt ky)] 9))
                        refine hK.out _ _ ⟨hX0.out.cellv k2, hX0.out.cellv r1, hX0.out⟩ (fun hHeld => ?_)
                        clear hK K
                        try simp only [Act.put, List.getElem_toArray, List.getElem_cons_zero, List.getElem_cons_succ, List.setIfInBounds_toArray, List.set_cons_zero, List.set_cons_succ]
                        refine wpAnyH_ready (rs := [31]) (by kernel_rfl) (by simp) ?_
                        refine AllReadyH.cons rfl (fun K hK => ?_) AllReadyH.nil
                        go_simp
                        go_at_call 19; (with_reducible refine HCO9.out.mono ?_); rintro e w11 ⟨A11, c11, rfl, hP11, hE11⟩; have hX1 := Lib.hid (hX0.out.trans hE11)
                        refine hK.out _ _ ⟨hX1.out.cellv k2, hX1.out.cellv r1, hX1.out⟩ (fun hHeld => ?_)
                        clear hK K
                        try simp only [Act.put, List.getElem_toArray, List.getElem_cons_zero, List.getElem_cons_succ, List.setIfInBounds_toArray, List.set_cons_zero, List.set_cons_succ]
                        refine wpAnyH_ready (rs := [38]) (by kernel_rfl) (by simp) ?_
                        refine AllReadyH.cons rfl (fun K hK => ?_) AllReadyH.nil
                        go_simp
                        go_at_call 11; (with_reducible refine (HSA9.out _ _ _ (hE9n.trans hX1.out) hP11).mono ?_); rintro e w12 ⟨rfl, hE12⟩; have hX2 := Lib.hid (hX1.out.trans hE12)
                        refine hK.out _ _ ⟨hX2.out.cellv k2, hX2.out.cellv r1, hX2.out⟩ (fun hHeld => ?_)
                        clear hK K
                        try simp only [Act.put, List.getElem_toArray, List.getElem_cons_zero, List.getElem_cons_succ, List.setIfInBounds_toArray, List.set_cons_zero, List.set_cons_succ]
                        refine wpAnyH_take (i := 39) (v := ?_) rfl (by kernel_rfl) (by kernel_rfl) (by kernel_rfl) (fun _ _ _ h => h) (Or.inl ⟨by simp [Region.wanted, yielded], ?_⟩) (by assumption) ?_
                        rotate_left 1
                        · (intro w hSw; (try dsimp only at hSw); go_simp; all_goals with_reducible rfl)
                        try simp only [Act.put, List.getElem_toArray, List.getElem_cons_zero, List.getElem_cons_succ, List.setIfInBounds_toArray, List.set_cons_zero, List.set_cons_succ]
                        refine wpAnyH_take (i := 40) (v := ?_) rfl (by kernel_rfl) (by kernel_rfl) (by kernel_rfl) (fun _ _ _ h => h) (Or.inl ⟨by simp [Region.wanted, yielded], ?_⟩) (by assumption) ?_
                        rotate_left 1
                        · (intro w hSw; (try dsimp only at hSw); go_simp; all_goals with_reducible rfl)
                        try simp only [Act.put, List.getElem_toArray, List.getElem_cons_zero, List.getElem_cons_succ, List.setIfInBounds_toArray, List.set_cons_zero, List.set_cons_succ]
                        refine wpAnyH_done (by kernel_rfl) ?_ _
                        refine NoPanic.normal ?_
                        have hXF := hE9n.trans hX2.out
                        have HPE := Lib.hid (show MemIs w12 g x l ∧ RefIs w12 r x l ∧ Ext W w12 from ⟨HPQ.out.1.ext hXF, HPQ.out.2.1.ext hXF, HPQ.out.2.2.trans hXF⟩)
                        clear hXF hHeld k2 r1 hP11 hE11 hE12
                        obtain rfl := HBB.out
                        go_wp2
                        go_meet
                        exact ⟨rfl, l, HPE.out.1, HPE.out.2.1, HPE.out.2.2, hup, hsz⟩
                    · have kk : ¬ (sk : Int) < (ln : Int) := by omega
                      have tk : decide ((sk : Int) < (ln : Int)) = false := by simp; omega
                      clear hh hdef hhas hat
                      as_aux_lemma =>
                        go_wp2_with (go_at_call 17; rw [← HWQ.out, ← HBB.out]; (with_reducible refine (HGT.out _ (Ext.refl wq)).mono ?_); rintro e w7 ⟨rfl, hE7⟩; have k2 := hE7.cellv k2; have r1 := hE7.cellv r1)
                        go_region_held3 (fun w' => w'.cell? ⟨b2, 2, none⟩ = some (.string (Bt ky)) ∧ w'.cell? ⟨r, 1, none⟩ = some (.slice AR ln cR) ∧ Ext wq w')
                          (first | exact ⟨k2, r1, hE7.drew⟩ | exact ⟨hE8.cellv k2, hE8.cellv r1, hE7.drew.trans hE8⟩ | go_keep)
                          (first | (go_at_call 18; (with_reducible refine (HSK.out _ hE7.drew).mono ?_); rintro e w8 ⟨rfl, hE8⟩))
                        have k2 := hE8.cellv k2
                        have r1 := hE8.cellv r1
                        have hE9 := hE7.drew.trans hE8
                        go_wp2
                        go_quiet (fail)
                        go_wp2
                        obtain ⟨w9, hw9⟩ : ∃ w9, w9 = w8.drewN nq := ⟨_, rfl⟩
                        rw [← hw9]
                        rw [show w8.cell? = w9.cell? by rw [hw9]; rfl] at k2
                        rw [show w8.cell? = w9.cell? by rw [hw9]; rfl] at r1
                        have hE9n : Ext wq w9 := by rw [hw9]; exact hE9.drewN nq
                        have hco9 := HCO.out w9.drew w9.heap.size (hE9n.trans (Ext.refl w9).drew) rfl
                        rw [show (w9.drew.alloc (.cells #[.pointer (some ⟨g, 0, none⟩)] 31)).alloc (.cells #[.string (Bt ky)] 9) = ((w9.alloc (.cells #[.pointer (some ⟨g, 0, none⟩)] 31)).alloc (.cells #[.string (Bt ky)] 9)).drew from rfl] at hco9
                        have HCO9 := Lib.hid hco9
                        clear hco9
                        clear hw9 hE7 hE8 hE9
                        refine wp_region_noPanic ?_
                        refine wp_region_held_drew (S := fun w' => w'.cell? ⟨b2, 2, none⟩ = some (.string (Bt ky)) ∧ w'.cell? ⟨r, 1, none⟩ = some (.slice AR ln cR) ∧ Ext w9 w') (by kernel_rfl) ⟨k2, r1, (Ext.refl _).drew⟩ (fun hHeld => ?_)
                        refine wpAnyH_take (i := 0) (v := ?_) rfl (by kernel_rfl) (by kernel_rfl) (by kernel_rfl) (fun _ _ _ h => h) (Or.inl ⟨by simp [Region.wanted, yielded], ?_⟩) (by assumption) ?_
                        rotate_left 1
                        · (intro w hSw; (try dsimp only at hSw); go_simp; all_goals with_reducible rfl)
                        try simp only [Act.put, List.getElem_toArray, List.getElem_cons_zero, List.getElem_cons_succ, List.setIfInBounds_toArray, List.set_cons_zero, List.set_cons_succ]
                        refine wpAnyH_take (i := 1) (v := ?_) rfl (by kernel_rfl) (by kernel_rfl) (by kernel_rfl) (fun _ _ _ h => h) (Or.inl ⟨by simp [Region.wanted, yielded], ?_⟩) (by assumption) ?_
                        rotate_left 1
                        · (intro w hSw; (try dsimp only at hSw); go_simp; all_goals with_reducible rfl)
                        try simp only [Act.put, List.getElem_toArray, List.getElem_cons_zero, List.getElem_cons_succ, List.setIfInBounds_toArray, List.set_cons_zero, List.set_cons_succ]
                        refine wpAnyH_take (i := 2) (v := ?_) rfl (by kernel_rfl) (by kernel_rfl) (by kernel_rfl) (fun _ _ _ h => h) (Or.inl ⟨by simp [Region.wanted, yielded], ?_⟩) (by assumption) ?_
                        rotate_left 1
                        · (intro w hSw; (try dsimp only at hSw); go_simp; all_goals with_reducible rfl)
                        try simp only [Act.put, List.getElem_toArray, List.getElem_cons_zero, List.getElem_cons_succ, List.setIfInBounds_toArray, List.set_cons_zero, List.set_cons_succ]
                        refine wpAnyH_take (i := 3) (v := ?_) rfl (by kernel_rfl) (by kernel_rfl) (by kernel_rfl) (fun _ _ _ h => h) (Or.inl ⟨by simp [Region.wanted, yielded], ?_⟩) (by assumption) ?_
                        rotate_left 1
                        · (intro w hSw; (try dsimp only at hSw); go_simp; all_goals with_reducible rfl)
                        try simp only [Act.put, List.getElem_toArray, List.getElem_cons_zero, List.getElem_cons_succ, List.setIfInBounds_toArray, List.set_cons_zero, List.set_cons_succ]
                        refine wpAnyH_take (i := 4) (v := ?_) rfl (by kernel_rfl) (by kernel_rfl) (by kernel_rfl) (fun _ _ _ h => h) (Or.inl ⟨by simp [Region.wanted, yielded], ?_⟩) (by assumption) ?_
                        rotate_left 1
                        · (intro w hSw; (try dsimp only at hSw); go_simp; all_goals with_reducible rfl)
                        try simp only [Act.put, List.getElem_toArray, List.getElem_cons_zero, List.getElem_cons_succ, List.setIfInBounds_toArray, List.set_cons_zero, List.set_cons_succ]
                        refine wpAnyH_take (i := 5) (v := ?_) rfl (by kernel_rfl) (by kernel_rfl) (by kernel_rfl) (fun _ _ _ h => h) (Or.inl ⟨by simp [Region.wanted, yielded], ?_⟩) (by assumption) ?_
                        rotate_left 1
                        · (intro w hSw; (try dsimp only at hSw); go_simp; all_goals with_reducible rfl)
                        try simp only [Act.put, List.getElem_toArray, List.getElem_cons_zero, List.getElem_cons_succ, List.setIfInBounds_toArray, List.set_cons_zero, List.set_cons_succ]
                        refine wpAnyH_take (i := 6) (v := ?_) rfl (by kernel_rfl) (by kernel_rfl) (by kernel_rfl) (fun _ _ _ h => h) (Or.inl ⟨by simp [Region.wanted, yielded], ?_⟩) (by assumption) ?_
                        rotate_left 1
                        · (intro w hSw; (try dsimp only at hSw); go_simp; all_goals with_reducible rfl)
                        try simp only [Act.put, List.getElem_toArray, List.getElem_cons_zero, List.getElem_cons_succ, List.setIfInBounds_toArray, List.set_cons_zero, List.set_cons_succ]
                        refine wpAnyH_take (i := 7) (v := undef) rfl (by kernel_rfl) (by kernel_rfl) (by kernel_rfl) (fun _ _ _ h => h) (Or.inr ⟨by simp [Region.wanted, yielded, undef], rfl⟩) (by assumption) ?_
                        try simp only [Act.put, List.getElem_toArray, List.getElem_cons_zero, List.getElem_cons_succ, List.setIfInBounds_toArray, List.set_cons_zero, List.set_cons_succ]
                        refine wpAnyH_take (i := 8) (v := undef) rfl (by kernel_rfl) (by kernel_rfl) (by kernel_rfl) (fun _ _ _ h => h) (Or.inr ⟨by simp [Region.wanted, yielded, undef], rfl⟩) (by assumption) ?_
                        try simp only [Act.put, List.getElem_toArray, List.getElem_cons_zero, List.getElem_cons_succ, List.setIfInBounds_toArray, List.set_cons_zero, List.set_cons_succ]
                        refine wpAnyH_take (i := 9) (v := undef) rfl (by kernel_rfl) (by kernel_rfl) (by kernel_rfl) (fun _ _ _ h => h) (Or.inr ⟨by simp [Region.wanted, yielded, undef], rfl⟩) (by assumption) ?_
                        try simp only [Act.put, List.getElem_toArray, List.getElem_cons_zero, List.getElem_cons_succ, List.setIfInBounds_toArray, List.set_cons_zero, List.set_cons_succ]
                        refine wpAnyH_take (i := 10) (v := undef) rfl (by kernel_rfl) (by kernel_rfl) (by kernel_rfl) (fun _ _ _ h => h) (Or.inr ⟨by simp [Region.wanted, yielded, undef], rfl⟩) (by assumption) ?_
                        try simp only [Act.put, List.getElem_toArray, List.getElem_cons_zero, List.getElem_cons_succ, List.setIfInBounds_toArray, List.set_cons_zero, List.set_cons_succ]
                        refine wpAnyH_take (i := 11) (v := undef) rfl (by kernel_rfl) (by kernel_rfl) (by kernel_rfl) (fun _ _ _ h => h) (Or.inr ⟨by simp [Region.wanted, yielded, undef], rfl⟩) (by assumption) ?_
                        try simp only [Act.put, List.getElem_toArray, List.getElem_cons_zero, List.getElem_cons_succ, List.setIfInBounds_toArray, List.set_cons_zero, List.set_cons_succ]
                        refine wpAnyH_take (i := 12) (v := undef) rfl (by kernel_rfl) (by kernel_rfl) (by kernel_rfl) (fun _ _ _ h => h) (Or.inr ⟨by simp [Region.wanted, yielded, undef], rfl⟩) (by assumption) ?_
                        try simp only [Act.put, List.getElem_toArray, List.getElem_cons_zero, List.getElem_cons_succ, List.setIfInBounds_toArray, List.set_cons_zero, List.set_cons_succ]
                        refine wpAnyH_take (i := 13) (v := undef) rfl (by kernel_rfl) (by kernel_rfl) (by kernel_rfl) (fun _ _ _ h => h) (Or.inr ⟨by simp [Region.wanted, yielded, undef], rfl⟩) (by assumption) ?_
                        try simp only [Act.put, List.getElem_toArray, List.getElem_cons_zero, List.getElem_cons_succ, List.setIfInBounds_toArray, List.set_cons_zero, List.set_cons_succ]
                        refine wpAnyH_take (i := 14) (v := undef) rfl (by kernel_rfl) (by kernel_rfl) (by kernel_rfl) (fun _ _ _ h => h) (Or.inr ⟨by simp [Region.wanted, yielded, undef], rfl⟩) (by assumption) ?_
                        try simp only [Act.put, List.getElem_toArray, List.getElem_cons_zero, List.getElem_cons_succ, List.setIfInBounds_toArray, List.set_cons_zero, List.set_cons_succ]
                        refine wpAnyH_take (i := 15) (v := undef) rfl (by kernel_rfl) (by kernel_rfl) (by kernel_rfl) (fun _ _ _ h => h) (Or.inr ⟨by simp [Region.wanted, yielded, undef], rfl⟩) (by assumption) ?_
                        try simp only [Act.put, List.getElem_toArray, List.getElem_cons_zero, List.getElem_cons_succ, List.setIfInBounds_toArray, List.set_cons_zero, List.set_cons_succ]
                        refine wpAnyH_take (i := 16) (v := undef) rfl (by kernel_rfl) (by kernel_rfl) (by kernel_rfl) (fun _ _ _ h => h) (Or.inr ⟨by simp [Region.wanted, yielded, undef], rfl⟩) (by assumption) ?_
                        try simp only [Act.put, List.getElem_toArray, List.getElem_cons_zero, List.getElem_cons_succ, List.setIfInBounds_toArray, List.set_cons_zero, List.set_cons_succ]
                        refine wpAnyH_take (i := 17) (v := ?_) rfl (by kernel_rfl) (by kernel_rfl) (by kernel_rfl) (fun _ _ _ h => h) (Or.inl ⟨by simp [Region.wanted, yielded], ?_⟩) (by assumption) ?_
                        rotate_left 1
                        · (intro w hSw; (try dsimp only at hSw); go_simp; all_goals with_reducible rfl)
                        try simp only [Act.put, List.getElem_toArray, List.getElem_cons_zero, List.getElem_cons_succ, List.setIfInBounds_toArray, List.set_cons_zero, List.set_cons_succ]
                        refine wpAnyH_take (i := 18) (v := ?_) rfl (by kernel_rfl) (by kernel_rfl) (by kernel_rfl) (fun _ _ _ h => h) (Or.inl ⟨by simp [Region.wanted, yielded], ?_⟩) (by assumption) ?_
                        rotate_left 1
                        · (intro w hSw; (try dsimp only at hSw); go_simp; all_goals with_reducible rfl)
                        try simp only [Act.put, List.getElem_toArray, List.getElem_cons_zero, List.getElem_cons_succ, List.setIfInBounds_toArray, List.set_cons_zero, List.set_cons_succ]
                        refine wpAnyH_take (i := 19) (v := ?_) rfl (by kernel_rfl) (by kernel_rfl) (by kernel_rfl) (fun _ _ _ h => h) (Or.inl ⟨by simp [Region.wanted, yielded], ?_⟩) (by assumption) ?_
                        rotate_left 1
                        · (intro w hSw; (try dsimp only at hSw); go_simp; all_goals with_reducible rfl)
                        try simp only [Act.put, List.getElem_toArray, List.getElem_cons_zero, List.getElem_cons_succ, List.setIfInBounds_toArray, List.set_cons_zero, List.set_cons_succ]
                        refine wpAnyH_take (i := 20) (v := ?_) rfl (by kernel_rfl) (by kernel_rfl) (by kernel_rfl) (fun _ _ _ h => h) (Or.inl ⟨by simp [Region.wanted, yielded], ?_⟩) (by assumption) ?_
                        rotate_left 1
                        · (intro w hSw; (try dsimp only at hSw); go_simp; all_goals with_reducible rfl)
                        try simp only [Act.put, List.getElem_toArray, List.getElem_cons_zero, List.getElem_cons_succ, List.setIfInBounds_toArray, List.set_cons_zero, List.set_cons_succ]
                        refine wpAnyH_take (i := 21) (v := ?_) rfl (by kernel_rfl) (by kernel_rfl) (by kernel_rfl) (fun _ _ _ h => h) (Or.inl ⟨by simp [Region.wanted, yielded], ?_⟩) (by assumption) ?_
                        rotate_left 1
                        · (intro w hSw; (try dsimp only at hSw); go_simp; all_goals with_reducible rfl)
                        try simp only [Act.put, List.getElem_toArray, List.getElem_cons_zero, List.getElem_cons_succ, List.setIfInBounds_toArray, List.set_cons_zero, List.set_cons_succ]
                        refine wpAnyH_take (i := 22) (v := ?_) rfl (by kernel_rfl) (by kernel_rfl) (by kernel_rfl) (fun _ _ _ h => h) (Or.inl ⟨by simp [Region.wanted, yielded], ?_⟩) (by assumption) ?_
                        rotate_left 1
                        · (intro w hSw; (try dsimp only at hSw); go_simp; all_goals with_reducible rfl)
                        try simp only [Act.put, List.getElem_toArray, List.getElem_cons_zero, List.getElem_cons_succ, List.setIfInBounds_toArray, List.set_cons_zero, List.set_cons_succ]
                        refine wpAnyH_take (i := 23) (v := ?_) rfl (by kernel_rfl) (by kernel_rfl) (by kernel_rfl) (fun _ _ _ h => h) (Or.inl ⟨by simp [Region.wanted, yielded], ?_⟩) (by assumption) ?_
                        rotate_left 1
                        · (intro w hSw; (try dsimp only at hSw); go_simp; all_goals with_reducible rfl)
                        try simp only [Act.put, List.getElem_toArray, List.getElem_cons_zero, List.getElem_cons_succ, List.setIfInBounds_toArray, List.set_cons_zero, List.set_cons_succ]
                        refine wpAnyH_take (i := 24) (v := ?_) rfl (by kernel_rfl) (by kernel_rfl) (by kernel_rfl) (fun _ _ _ h => h) (Or.inl ⟨by simp [Region.wanted, yielded], ?_⟩) (by assumption) ?_
                        rotate_left 1
                        · (intro w hSw; (try dsimp only at hSw); go_simp; all_goals with_reducible rfl)
                        try simp only [Act.put, List.getElem_toArray, List.getElem_cons_zero, List.getElem_cons_succ, List.setIfInBounds_toArray, List.set_cons_zero, List.set_cons_succ]
                        refine wpAnyH_take (i := 25) (v := ?_) rfl (by kernel_rfl) (by kernel_rfl) (by kernel_rfl) (fun _ _ _ h => h) (Or.inl ⟨by simp [Region.wanted, yielded], ?_⟩) (by assumption) ?_
                        rotate_left 1
                        · (intro w hSw; (try dsimp only at hSw); go_simp; all_goals with_reducible rfl)
                        try simp only [Act.put, List.getElem_toArray, List.getElem_cons_zero, List.getElem_cons_succ, List.setIfInBounds_toArray, List.set_cons_zero, List.set_cons_succ]
                        refine wpAnyH_take (i := 26) (v := ?_) rfl (by kernel_rfl) (by kernel_rfl) (by kernel_rfl) (fun _ _ _ h => h) (Or.inl ⟨by simp [Region.wanted, yielded], ?_⟩) (by assumption) ?_
                        rotate_left 1
                        · (intro w hSw; (try dsimp only at hSw); go_simp; all_goals with_reducible rfl)
                        try simp only [Act.put, List.getElem_toArray, List.getElem_cons_zero, List.getElem_cons_succ, List.setIfInBounds_toArray, List.set_cons_zero, List.set_cons_succ]
                        refine wpAnyH_take (i := 27) (v := ?_) rfl (by kernel_rfl) (by kernel_rfl) (by kernel_rfl) (fun _ _ _ h => h) (Or.inl ⟨by simp [Region.wanted, yielded], ?_⟩) (by assumption) ?_
                        rotate_left 1
                        · (intro w hSw; (try dsimp only at hSw); go_simp; all_goals with_reducible rfl)
                        try simp only [Act.put, List.getElem_toArray, List.getElem_cons_zero, List.getElem_cons_succ, List.setIfInBounds_toArray, List.set_cons_zero, List.set_cons_succ]
                        refine wpAnyH_take (i := 28) (v := ?_) rfl (by kernel_rfl) (by kernel_rfl) (by kernel_rfl) (fun _ _ _ h => h) (Or.inl ⟨by simp [Region.wanted, yielded], ?_⟩) (by assumption) ?_
                        rotate_left 1
                        · (intro w hSw; (try dsimp only at hSw); go_simp; all_goals with_reducible rfl)
                        try simp only [Act.put, List.getElem_toArray, List.getElem_cons_zero, List.getElem_cons_succ, List.setIfInBounds_toArray, List.set_cons_zero, List.set_cons_succ]
                        refine wpAnyH_take (i := 29) (v := ?_) rfl (by kernel_rfl) (by kernel_rfl) (by kernel_rfl) (fun _ _ _ h => h) (Or.inl ⟨by simp [Region.wanted, yielded], ?_⟩) (by assumption) ?_
                        rotate_left 1
                        · (intro w hSw; (try dsimp only at hSw); go_simp; all_goals with_reducible rfl)
                        try simp only [Act.put, List.getElem_toArray, List.getElem_cons_zero, List.getElem_cons_succ, List.setIfInBounds_toArray, List.set_cons_zero, List.set_cons_succ]
                        refine wpAnyH_take (i := 32) (v := ?_) rfl (by kernel_rfl) (by kernel_rfl) (by kernel_rfl) (fun _ _ _ h => h) (Or.inl ⟨by simp [Region.wanted, yielded], ?_⟩) (by assumption) ?_
                        rotate_left 1
                        · (intro w hSw; (try dsimp only at hSw); go_simp; all_goals with_reducible rfl)
                        try simp only [Act.put, List.getElem_toArray, List.getElem_cons_zero, List.getElem_cons_succ, List.setIfInBounds_toArray, List.set_cons_zero, List.set_cons_succ]
                        refine wpAnyH_take (i := 33) (v := ?_) rfl (by kernel_rfl) (by kernel_rfl) (by kernel_rfl) (fun _ _ _ h => h) (Or.inl ⟨by simp [Region.wanted, yielded], ?_⟩) (by assumption) ?_
                        rotate_left 1
                        · (intro w hSw; (try dsimp only at hSw); go_simp; all_goals with_reducible rfl)
                        try simp only [Act.put, List.getElem_toArray, List.getElem_cons_zero, List.getElem_cons_succ, List.setIfInBounds_toArray, List.set_cons_zero, List.set_cons_succ]
                        refine wpAnyH_take (i := 34) (v := ?_) rfl (by kernel_rfl) (by kernel_rfl) (by kernel_rfl) (fun _ _ _ h => h) (Or.inl ⟨by simp [Region.wanted, yielded], ?_⟩) (by assumption) ?_
                        rotate_left 1
                        · (intro w hSw; (try dsimp only at hSw); go_simp; all_goals with_reducible rfl)
                        try simp only [Act.put, List.getElem_toArray, List.getElem_cons_zero, List.getElem_cons_succ, List.setIfInBounds_toArray, List.set_cons_zero, List.set_cons_succ]
                        refine wpAnyH_take (i := 35) (v := ?_) rfl (by kernel_rfl) (by kernel_rfl) (by kernel_rfl) (fun _ _ _ h => h) (Or.inl ⟨by simp [Region.wanted, yielded], ?_⟩) (by assumption) ?_
                        rotate_left 1
                        · (intro w hSw; (try dsimp only at hSw); go_simp; all_goals with_reducible rfl)
                        try simp only [Act.put, List.getElem_toArray, List.getElem_cons_zero, List.getElem_cons_succ, List.setIfInBounds_toArray, List.set_cons_zero, List.set_cons_succ]
                        refine wpAnyH_take (i := 36) (v := ?_) rfl (by kernel_rfl) (by kernel_rfl) (by kernel_rfl) (fun _ _ _ h => h) (Or.inl ⟨by simp [Region.wanted, yielded], ?_⟩) (by assumption) ?_
                        rotate_left 1
                        · (intro w hSw; (try dsimp only at hSw); go_simp; all_goals with_reducible rfl)
                        try simp only [Act.put, List.getElem_toArray, List.getElem_cons_zero, List.getElem_cons_succ, List.setIfInBounds_toArray, List.set_cons_zero, List.set_cons_succ]
                        refine wpAnyH_take (i := 37) (v := ?_) rfl (by kernel_rfl) (by kernel_rfl) (by kernel_rfl) (fun _ _ _ h => h) (Or.inl ⟨by simp [Region.wanted, yielded], ?_⟩) (by assumption) ?_
                        rotate_left 1
                        · (intro w hSw; (try dsimp only at hSw); go_simp; all_goals with_reducible rfl)
                        try simp only [Act.put, List.getElem_toArray, List.getElem_cons_zero, List.getElem_cons_succ, List.setIfInBounds_toArray, List.set_cons_zero, List.set_cons_succ]
                        refine wpAnyH_ready (rs := [30]) (by kernel_rfl) (by simp) ?_
                        refine AllReadyH.cons rfl (fun K hK => ?_) AllReadyH.nil
                        go_simp
                        go_at_call 20; (with_reducible refine (HFR.out _).mono ?_); rintro e w10 ⟨rfl, rfl⟩; have hX0 := Lib.hid (((Ext.refl w9).drew.alloc (.cells #[.pointer (some ⟨g, 0, none⟩)] 31)).alloc (.cells #[.string (Bt ky)] 9))
                        refine hK.out _ _ ⟨hX0.out.cellv k2, hX0.out.cellv r1, hX0.out⟩ (fun hHeld => ?_)
                        clear hK K
                        try simp only [Act.put, List.getElem_toArray, List.getElem_cons_zero, List.getElem_cons_succ, List.setIfInBounds_toArray, List.set_cons_zero, List.set_cons_succ]
                        refine wpAnyH_ready (rs := [31]) (by kernel_rfl) (by simp) ?_
                        refine AllReadyH.cons rfl (fun K hK => ?_) AllReadyH.nil
                        go_simp
                        go_at_call 19; (with_reducible refine HCO9.out.mono ?_); rintro e w11 ⟨A11, c11, rfl, hP11, hE11⟩; have hX1 := Lib.hid (hX0.out.trans hE11)
                        refine hK.out _ _ ⟨hX1.out.cellv k2, hX1.out.cellv r1, hX1.out⟩ (fun hHeld => ?_)
                        clear hK K
                        try simp only [Act.put, List.getElem_toArray, List.getElem_cons_zero, List.getElem_cons_succ, List.setIfInBounds_toArray, List.set_cons_zero, List.set_cons_succ]
                        refine wpAnyH_ready (rs := [38]) (by kernel_rfl) (by simp) ?_
                        refine AllReadyH.cons rfl (fun K hK => ?_) AllReadyH.nil
                        go_simp
                        go_at_call 11; (with_reducible refine (HSA9.out _ _ _ (hE9n.trans hX1.out) hP11).mono ?_); rintro e w12 ⟨rfl, hE12⟩; have hX2 := Lib.hid (hX1.out.trans hE12)
                        refine hK.out _ _ ⟨hX2.out.cellv k2, hX2.out.cellv r1, hX2.out⟩ (fun hHeld => ?_)
                        clear hK K
                        try simp only [Act.put, List.getElem_toArray, List.getElem_cons_zero, List.getElem_cons_succ, List.setIfInBounds_toArray, List.set_cons_zero, List.set_cons_succ]
                        refine wpAnyH_take (i := 39) (v := ?_) rfl (by kernel_rfl) (by kernel_rfl) (by kernel_rfl) (fun _ _ _ h => h) (Or.inl ⟨by simp [Region.wanted, yielded], ?_⟩) (by assumption) ?_
                        rotate_left 1
                        · (intro w hSw; (try dsimp only at hSw); go_simp; all_goals with_reducible rfl)
                        try simp only [Act.put, List.getElem_toArray, List.getElem_cons_zero, List.getElem_cons_succ, List.setIfInBounds_toArray, List.set_cons_zero, List.set_cons_succ]
                        refine wpAnyH_take (i := 40) (v := ?_) rfl (by kernel_rfl) (by kernel_rfl) (by kernel_rfl) (fun _ _ _ h => h) (Or.inl ⟨by simp [Region.wanted, yielded], ?_⟩) (by assumption) ?_
                        rotate_left 1
                        · (intro w hSw; (try dsimp only at hSw); go_simp; all_goals with_reducible rfl)
                        try simp only [Act.put, List.getElem_toArray, List.getElem_cons_zero, List.getElem_cons_succ, List.setIfInBounds_toArray, List.set_cons_zero, List.set_cons_succ]
                        refine wpAnyH_done (by kernel_rfl) ?_ _
                        refine NoPanic.normal ?_
                        have hXF := hE9n.trans hX2.out
                        have HPE := Lib.hid (show MemIs w12 g x l ∧ RefIs w12 r x l ∧ Ext W w12 from ⟨HPQ.out.1.ext hXF, HPQ.out.2.1.ext hXF, HPQ.out.2.2.trans hXF⟩)
                        clear hXF hHeld k2 r1 hP11 hE11 hE12
                        obtain rfl := HBB.out
                        go_wp2
                        go_meet
                        exact ⟨rfl, l, HPE.out.1, HPE.out.2.1, HPE.out.2.2, hup, hsz⟩
            
            have t2 : (d == 2) = false := by simp; omega
            have t3 : (d == 3) = false := by simp; omega
            
            have HPE := Lib.hid (And.intro HPS.out.hm (And.intro HPS.out.hr HPS.out.he))
            clear hM hR hE
            go_wp2
            obtain ⟨w4, hw4⟩ : ∃ w4, w4 = wr.alloc (.cells #[.int .i64 d, .slice B ql cb, .string (Bt ky)] 25) := ⟨_, rfl⟩
            rw [← hw4] at HPE ⊢
            clear hw4
            go_wp2
            go_meet
            exact ⟨rfl, l, HPE.out.1, HPE.out.2.1, HPE.out.2.2, hup, hsz⟩
          case rest =>
            obtain ⟨rfl, l3, hm3, hr3, he3, UP3, SZ3⟩ := hcut
            clear hM hR hE hup hsz
            as_aux_lemma =>
              have HPE := Lib.hid (And.intro hm3 (And.intro hr3 he3))
              clear hm3 hr3 he3
              have hlen := len_size l3
              have hsz2 := SZ3.out
              have HX' := HX.out
              obtain ⟨AR, cR, hRa, hRp, hRc, hRt⟩ := HPE.out.2.1
              have r1 := rf_c1 hRa
              have HSM : Hid (∀ w', Ext wc w' → Calls Try.prog 13 #[.pointer (some ⟨g, 0, none⟩)] w' fun e w2 => e = .returned (.int .i64 (sizeP l3)) ∧ Ext w' w2) := Lib.hid (fun w' h => msize_any (HPE.out.1.ext h) (by omega) (by omega))
              have HSR : Hid (∀ w', Ext wc w' → Calls Try.prog 22 #[.slice AR l3.length cR] w' fun e w2 => e = .returned (.int .i64 (sizeP l3)) ∧ Ext w' w2) := Lib.hid (fun w' h => size_ref (hRp.ext h) (by omega) (by omega))
              have HAL : Hid (∀ w', Ext wc w' → Calls Try.prog 12 #[.pointer (some ⟨g, 0, none⟩)] w' fun e w2 => ∃ A c, e = .returned (.slice A l3.length c) ∧ PRd w2 A l3.length l3 ∧ Ext w' w2) := Lib.hid (fun w' h => all_any (HPE.out.1.ext h) (by omega))
              have HSA : Hid (∀ w' P c1, Ext wc w' → PRd w' P l3.length l3 → Calls Try.prog 11 #[.slice P l3.length c1, .slice AR l3.length cR] w' fun e w2 => e = .returned (.bool true) ∧ Ext w' w2) := Lib.hid (fun w' P c1 h h1 => by have := same_ref (c := c1) (c' := cR) h1 (hRp.ext h) (by omega) (by omega); rwa [decide_eq_true rfl] at this)
              obtain ⟨lnE, hlnE⟩ : ∃ lnE, lnE = l3.length := ⟨_, rfl⟩
              rw [← hlnE] at r1 HSR HAL HSA
              obtain ⟨zE, hzE⟩ : ∃ zE, zE = sizeP l3 := ⟨_, rfl⟩
              rw [← hzE] at HSM HSR
              clear hlnE hzE hRa hRp hRc hRt hlen hsz2 HX'
              go_wp2
              go_region_held3 (fun w' => w'.cell? ⟨r, 1, none⟩ = some (.slice AR lnE cR) ∧ Ext wc w')
                (first | exact ⟨r1, (Ext.refl _).drew⟩ | exact ⟨hEn.cellv (by go_split_ands; assumption), Ext.trans (by go_split_ands; assumption) hEn⟩ | go_keep)
                (first
                  | (go_at_call 13; (with_reducible refine (HSM.out _ (by go_split_ands; assumption)).mono ?_); rintro e w6 ⟨rfl, hEn⟩)
                  | (go_at_call 22; (with_reducible refine (HSR.out _ (by go_split_ands; assumption)).mono ?_); rintro e w6 ⟨rfl, hEn⟩)
                  | (go_at_call 12; (with_reducible refine (HAL.out _ (by go_split_ands; assumption)).mono ?_); rintro e w6 ⟨A9, c9, rfl, hP9, hEn⟩)
                  | (go_at_call 11; (with_reducible refine (HSA.out _ _ _ (by go_split_ands; assumption) hP9).mono ?_); rintro e w6 ⟨rfl, hEn⟩))
              all_goals have hXE : Ext wc w6 := by go_split_ands; assumption
              all_goals go_wp2
              all_goals exact ⟨⟨i + 1, l3, by omega, rfl, HPE.out.1.ext hXE, HPE.out.2.1.ext hXE, HPE.out.2.2.trans hXE, UP3, SZ3⟩, by simp [intOf]; omega⟩
        · obtain rfl : i = n := by omega
          have ii : ¬ (i : Int) < (i : Int) := by omega
          go_wp2_with (go_at_call 8; (with_reducible refine (HWK.out _).mono ?_); rintro e w6 ⟨rfl, hE6⟩)
          go_ret
          exact ⟨rfl, hE.trans hE6⟩
end Go.Proofs.Ytfelfhgfkfijgaa
