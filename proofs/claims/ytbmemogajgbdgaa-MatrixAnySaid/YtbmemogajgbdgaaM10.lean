import Derived.Test.YtbmemogajgbdgaaM9
namespace Go.Proofs.Ytbmemogajgbdgaa
open Go.RowKit Go.Gf
set_option maxRecDepth 100000 in
set_option maxHeartbeats 1000000 in
theorem below_any (A B : Option Addr) (n cap m cap2 : Nat) (a b : List ByteArray) (w : World) (hr : Rd w A n (a.map Value.string)) (hq : Rd w B m (b.map Value.string)) (hn : n ≤ 1048576) (hm : m ≤ 1048576)
    (hz : ∀ s ∈ a, s.size ≤ 1048576) (hy : ∀ s ∈ b, s.size ≤ 1048576) :
    Calls Try.prog 23 #[.slice A n cap, .slice B m cap2] w (MatIs (belowV a b) (belowE a b) w) := by
  have hla : a.length = n := by have := hr.1; simpa using this
  have hlb : b.length = m := by have := hq.1; simpa using this
  have HZ := Lib.hid hz
  have HY := Lib.hid hy
  clear hz hy
  have hO := Ext.refl w
  by_cases h1 : mayP a
  · have M1 := Lib.hid (mayB_yes h1)
    by_cases h2 : mayP b
    · have M2 := Lib.hid (mayB_yes h2)
      have hn1 : 1 ≤ n := by have := h1.1.1; omega
      have hm1 : 1 ≤ m := by have := h2.1.1; omega
      obtain ⟨gs, os, rfl, hgs, hcell⟩ := hr.at_ (show 0 < n by omega)
      obtain ⟨gt, ot, rfl, hgt, hcell2⟩ := hq.at_ (show 0 < m by omega)
      have hl0 := len0_eq (l := a) (by omega)
      have hl1 := len0_eq (l := b) (by omega)
      simp only [List.getElem_map, Nat.add_zero] at hcell hcell2
      generalize a[0]'(by omega) = s0 at *
      generalize b[0]'(by omega) = t0 at *
      have k1 : (0 : Int) < (n : Int) := by omega
      have k2 : (0 : Int) < (m : Int) := by omega
      have hm2 : m ≤ 64 := by have := h2.1.2; omega
      have hn2 : n ≤ 64 := by have := h1.1.2; omega
      by_cases h3 : s0.size = t0.size
      · have b1 : ((s0.size : Int) != (t0.size : Int)) = false := by rw [h3]; simp
        have hlen : len0 a = len0 b := by omega
        clear h3
        by_cases h4 : n + m ≤ 64
        · have HV := Lib.hid (below_ok h1 h2 hlen (by omega))
          have HLA := Lib.hid hla
          have HLB := Lib.hid hlb
          have S1 := Lib.hid (side_yes (n + m) (by omega))
          clear h1 h2 hl0 hl1 hlen hla hlb
          go_enter Try.func23, Try.ntmps23
          go_wp2_with (first
            | (go_at_call 14; with_reducible refine (may_is true _ n cap a _ (hr.ext hO) hn HZ.out M1.out).mono ?_; rintro e w1 ⟨rfl, hE1⟩; replace hO := hO.trans hE1; clear hE1)
            | (go_at_call 14; with_reducible refine (may_is true _ m cap2 b _ (hq.ext hO) hm HY.out M2.out).mono ?_; rintro e w2 ⟨rfl, hE2⟩; replace hO := hO.trans hE2; clear hE2))
          replace hcell := hO.cellv hcell
          replace hcell2 := hO.cellv hcell2
          go_quiet (fail)
          have hO4 := hO.drewN nq
          have hb : Blk ((w2.drewN nq).alloc (.cells #[.slice (some ⟨gs, os, none⟩) n cap, .slice (some ⟨gt, ot, none⟩) m cap2] 23)) w2.heap.size 23 #[.slice (some ⟨gs, os, none⟩) n cap, .slice (some ⟨gt, ot, none⟩) m cap2] := Blk.new (w2.drewN nq) _ _
          have hO5 := hO4.alloc (.cells #[.slice (some ⟨gs, os, none⟩) n cap, .slice (some ⟨gt, ot, none⟩) m cap2] 23)
          have HB := Lib.hid (concat_any _ _ _ n cap m cap2 a b _ hb (hr.ext hO5) (hq.ext hO5) hn1 hm1 (by omega))
          clear hb
          go_wp2_with (first
            | (go_at_call 33; refine (side_any _ _).mono ?_; rintro e w1 ⟨rfl, rfl⟩; rw [← Int.natCast_add, S1.out])
            | (go_at_call 39; (with_reducible refine HB.out.mono ?_); rintro e w6 ⟨A6, n6, c6, rfl, hn6, hr6, hE6⟩; have HN6 := Lib.hid hn6; clear hn6))
          go_ret2
          exact ⟨A6, n6, c6, by rw [HV.out.2]; rfl, by rw [HV.out.1]; exact HN6.out, by rw [HV.out.1]; exact hr6, hO5.trans hE6⟩
        · have HV := Lib.hid (below_arg h1 h2 hlen (by omega))
          have S1 := Lib.hid (side_no (n + m) (by omega))
          clear h1 h2 hl0 hl1 hlen hla hlb
          go_enter Try.func23, Try.ntmps23
          go_wp2_with (first
            | (go_at_call 14; with_reducible refine (may_is true _ n cap a _ (hr.ext hO) hn HZ.out M1.out).mono ?_; rintro e w1 ⟨rfl, hE1⟩; replace hO := hO.trans hE1; clear hE1)
            | (go_at_call 14; with_reducible refine (may_is true _ m cap2 b _ (hq.ext hO) hm HY.out M2.out).mono ?_; rintro e w2 ⟨rfl, hE2⟩; replace hO := hO.trans hE2; clear hE2))
          replace hcell := hO.cellv hcell
          replace hcell2 := hO.cellv hcell2
          go_quiet (fail)
          go_wp2_with (go_at_call 33; refine (side_any _ _).mono ?_; rintro e w1 ⟨rfl, rfl⟩; rw [← Int.natCast_add, S1.out])
          go_ret2
          exact mat_nil HV.out (hO.drewN _)
      · have b1 : ((s0.size : Int) != (t0.size : Int)) = true := by simp; omega
        have HV := Lib.hid (below_side h1 h2 (by omega))
        clear h1 h2 hl0 hl1 hla hlb h3
        go_enter Try.func23, Try.ntmps23
        go_wp2_with (first
          | (go_at_call 14; with_reducible refine (may_is true _ n cap a _ (hr.ext hO) hn HZ.out M1.out).mono ?_; rintro e w1 ⟨rfl, hE1⟩; replace hO := hO.trans hE1; clear hE1)
          | (go_at_call 14; with_reducible refine (may_is true _ m cap2 b _ (hq.ext hO) hm HY.out M2.out).mono ?_; rintro e w2 ⟨rfl, hE2⟩; replace hO := hO.trans hE2; clear hE2))
        replace hcell := hO.cellv hcell
        replace hcell2 := hO.cellv hcell2
        go_quiet (fail)
        go_wp2
        go_ret2
        exact mat_nil HV.out (hO.drewN _)
    · have M2 := Lib.hid (mayB_no h2)
      have HV := Lib.hid (below_form (a := a) (b := b) (fun x => h2 x.2))
      clear h1 h2 hla hlb
      go_enter Try.func23, Try.ntmps23
      go_wp2_with (first
        | (go_at_call 14; with_reducible refine (may_is true _ n cap a _ (hr.ext hO) hn HZ.out M1.out).mono ?_; rintro e w1 ⟨rfl, hE1⟩; replace hO := hO.trans hE1; clear hE1)
        | (go_at_call 14; with_reducible refine (may_is false _ m cap2 b _ (hq.ext hO) hm HY.out M2.out).mono ?_; rintro e w2 ⟨rfl, hE2⟩; replace hO := hO.trans hE2; clear hE2))
      go_ret2
      exact mat_nil HV.out hO
  · have M1 := Lib.hid (mayB_no h1)
    have HV := Lib.hid (below_form (a := a) (b := b) (fun x => h1 x.1))
    clear h1 hla hlb
    go_enter Try.func23, Try.ntmps23
    go_wp2_with (go_at_call 14; with_reducible refine (may_is false _ n cap a _ (hr.ext hO) hn HZ.out M1.out).mono ?_; rintro e w1 ⟨rfl, hE1⟩; replace hO := hO.trans hE1; clear hE1)
    go_ret2
    exact mat_nil HV.out hO
set_option maxRecDepth 100000 in
set_option maxHeartbeats 1000000 in
theorem rbelow_any (A B : Option Addr) (n cap m cap2 : Nat) (a b : List ByteArray) (w : World) (hr : Rd w A n (a.map Value.string)) (hq : Rd w B m (b.map Value.string)) (hn : n ≤ 1048576) (hm : m ≤ 1048576)
    (hz : ∀ s ∈ a, s.size ≤ 1048576) (hy : ∀ s ∈ b, s.size ≤ 1048576) :
    Calls Try.prog 24 #[.slice A n cap, .slice B m cap2] w (MatIs (belowV a b) (belowE a b) w) := by
  have hla : a.length = n := by have := hr.1; simpa using this
  have hlb : b.length = m := by have := hq.1; simpa using this
  have HZ := Lib.hid hz
  have HY := Lib.hid hy
  clear hz hy
  have hO := Ext.refl w
  by_cases h1 : mayP a
  · have M1 := Lib.hid (mayB_yes h1)
    by_cases h2 : mayP b
    · have M2 := Lib.hid (mayB_yes h2)
      have hn1 : 1 ≤ n := by have := h1.1.1; omega
      have hm1 : 1 ≤ m := by have := h2.1.1; omega
      obtain ⟨gs, os, rfl, hgs, hcell⟩ := hr.at_ (show 0 < n by omega)
      obtain ⟨gt, ot, rfl, hgt, hcell2⟩ := hq.at_ (show 0 < m by omega)
      have hl0 := len0_eq (l := a) (by omega)
      have hl1 := len0_eq (l := b) (by omega)
      simp only [List.getElem_map, Nat.add_zero] at hcell hcell2
      generalize a[0]'(by omega) = s0 at *
      generalize b[0]'(by omega) = t0 at *
      have k1 : (0 : Int) < (n : Int) := by omega
      have k2 : (0 : Int) < (m : Int) := by omega
      have hm2 : m ≤ 64 := by have := h2.1.2; omega
      have hn2 : n ≤ 64 := by have := h1.1.2; omega
      by_cases h3 : s0.size = t0.size
      · have b1 : ((s0.size : Int) != (t0.size : Int)) = false := by rw [h3]; simp
        have hlen : len0 a = len0 b := by omega
        clear h3
        by_cases h4 : n + m ≤ 64
        · have HV := Lib.hid (below_ok h1 h2 hlen (by omega))
          have HLA := Lib.hid hla
          have HLB := Lib.hid hlb
          have b2 : decide ((64 : Int) < (n : Int) + (m : Int)) = false := by simp; omega
          clear h1 h2 hl0 hl1 hlen hla hlb
          go_enter Try.func24, Try.ntmps24
          go_wp2_with (first
            | (go_at_call 15; with_reducible refine (rmay_is true _ n cap a _ (hr.ext hO) hn HZ.out M1.out).mono ?_; rintro e w1 ⟨rfl, hE1⟩; replace hO := hO.trans hE1; clear hE1)
            | (go_at_call 15; with_reducible refine (rmay_is true _ m cap2 b _ (hq.ext hO) hm HY.out M2.out).mono ?_; rintro e w2 ⟨rfl, hE2⟩; replace hO := hO.trans hE2; clear hE2))
          replace hcell := hO.cellv hcell
          replace hcell2 := hO.cellv hcell2
          go_quiet (fail)
          have hO4 := hO.drewN nq
          have HO := Lib.hid (owns_empty (w2.drewN nq) w.heap.size 9 1 hO4.sz)
          have hra := hr.ext (hO4.alloc (.cells #[] 9))
          have hqb := hq.ext hO4
          go_wp2_with (first
            | (at_builtin; refine wpList_apps _ rfl _ _ 23 9 rfl Try.underlying23 (.string { data := #[] }) 16 info9 rfl (by decide) w.heap.size _ 0 [] rfl HO.out _ n cap _ rfl hra (strs_one a) (by omega) (by omega) (by have := hO4.sz; simp at this ⊢; omega) ?_; intro g4 cap4 w4 hown4 hG4 hg4; simp only [Nat.zero_add, List.nil_append] at hown4 ⊢; have hO5 := hG4.ext (hO4.alloc (.cells #[] 9)) (Nat.le_refl _))
            | (at_builtin; refine wpList_apps _ rfl _ _ 23 9 rfl Try.underlying23 (.string { data := #[] }) 16 info9 rfl (by decide) w.heap.size _ n _ rfl hown4 _ m cap2 _ rfl (hq.ext hO5) (strs_one b) (by omega) (by omega) hO5.sz ?_; intro g5 cap5 w5 hown5 hG5 hg5))
          go_ret2
          rw [← List.map_append] at hown5
          exact ⟨_, _, cap5, by rw [HV.out.2]; rfl, by rw [HV.out.1, List.length_append, HLA.out, HLB.out], by rw [HV.out.1]; exact hown5.rd, hG5.ext hO5 (Nat.le_refl _)⟩
        · have HV := Lib.hid (below_arg h1 h2 hlen (by omega))
          have b2 : decide ((64 : Int) < (n : Int) + (m : Int)) = true := by simp; omega
          clear h1 h2 hl0 hl1 hlen hla hlb
          go_enter Try.func24, Try.ntmps24
          go_wp2_with (first
            | (go_at_call 15; with_reducible refine (rmay_is true _ n cap a _ (hr.ext hO) hn HZ.out M1.out).mono ?_; rintro e w1 ⟨rfl, hE1⟩; replace hO := hO.trans hE1; clear hE1)
            | (go_at_call 15; with_reducible refine (rmay_is true _ m cap2 b _ (hq.ext hO) hm HY.out M2.out).mono ?_; rintro e w2 ⟨rfl, hE2⟩; replace hO := hO.trans hE2; clear hE2))
          replace hcell := hO.cellv hcell
          replace hcell2 := hO.cellv hcell2
          go_quiet (fail)
          go_wp2
          go_ret2
          exact mat_nil HV.out (hO.drewN _)
      · have b1 : ((s0.size : Int) != (t0.size : Int)) = true := by simp; omega
        have HV := Lib.hid (below_side h1 h2 (by omega))
        clear h1 h2 hl0 hl1 hla hlb h3
        go_enter Try.func24, Try.ntmps24
        go_wp2_with (first
          | (go_at_call 15; with_reducible refine (rmay_is true _ n cap a _ (hr.ext hO) hn HZ.out M1.out).mono ?_; rintro e w1 ⟨rfl, hE1⟩; replace hO := hO.trans hE1; clear hE1)
          | (go_at_call 15; with_reducible refine (rmay_is true _ m cap2 b _ (hq.ext hO) hm HY.out M2.out).mono ?_; rintro e w2 ⟨rfl, hE2⟩; replace hO := hO.trans hE2; clear hE2))
        replace hcell := hO.cellv hcell
        replace hcell2 := hO.cellv hcell2
        go_quiet (fail)
        go_wp2
        go_ret2
        exact mat_nil HV.out (hO.drewN _)
    · have M2 := Lib.hid (mayB_no h2)
      have HV := Lib.hid (below_form (a := a) (b := b) (fun x => h2 x.2))
      clear h1 h2 hla hlb
      go_enter Try.func24, Try.ntmps24
      go_wp2_with (first
        | (go_at_call 15; with_reducible refine (rmay_is true _ n cap a _ (hr.ext hO) hn HZ.out M1.out).mono ?_; rintro e w1 ⟨rfl, hE1⟩; replace hO := hO.trans hE1; clear hE1)
        | (go_at_call 15; with_reducible refine (rmay_is false _ m cap2 b _ (hq.ext hO) hm HY.out M2.out).mono ?_; rintro e w2 ⟨rfl, hE2⟩; replace hO := hO.trans hE2; clear hE2))
      go_ret2
      exact mat_nil HV.out hO
  · have M1 := Lib.hid (mayB_no h1)
    have HV := Lib.hid (below_form (a := a) (b := b) (fun x => h1 x.1))
    clear h1 hla hlb
    go_enter Try.func24, Try.ntmps24
    go_wp2_with (go_at_call 15; with_reducible refine (rmay_is false _ n cap a _ (hr.ext hO) hn HZ.out M1.out).mono ?_; rintro e w1 ⟨rfl, hE1⟩; replace hO := hO.trans hE1; clear hE1)
    go_ret2
    exact mat_nil HV.out hO
