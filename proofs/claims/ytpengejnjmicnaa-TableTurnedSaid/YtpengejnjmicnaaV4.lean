import Derived.Test.YtpengejnjmicnaaV3
import Derived.Laws.StructEq
import Derived.Deep.AppendLies
section
namespace Go.Proofs.Ytpengejnjmicnaa
open Go.RowKit Go.Nb
theorem readL_lt (l : Bs) : (readL l).1 < 18446744073709551616 := by
  by_cases h : (readL l).2.2 = 0
  · exact (readL_ok (s := l) (x := (readL l).1) (n := (readL l).2.1) (by rw [← h])).1
  · have := (readL_err (s := l) (x := (readL l).1) (n := (readL l).2.1) (e := (readL l).2.2) rfl h).1
    omega
/-- A count that is read. -/
def cntS (most : Nat) (l : Bs) (e : Int) : Nat × Bs × Int :=
  if e ≠ 0 then (0, l, e) else if (readL l).2.2 ≠ 0 then (0, l, (readL l).2.2) else if most < (readL l).1 then (0, l, 4) else if l.length - (readL l).2.1 < (readL l).1 then (0, l, 10) else ((readL l).1, l.drop (readL l).2.1, 0)
def cnt3P (g most : Nat) (l : Bs) (e : Int) (w : World) (x : Ending) (w' : World) : Prop := x = .returned (.int .i64 (cntS most l e).1) ∧ RfAt w' g (cntS most l e).2.1 (cntS most l e).2.2 ∧ Turn (· = g) w w'
theorem numS_max (l : Bs) : numS 18446744073709551615 l 0 = if (readL l).2.2 ≠ 0 then (0, l, (readL l).2.2) else ((readL l).1, l.drop (readL l).2.1, 0) := by
  have := readL_lt l
  unfold numS rdNum
  rw [if_pos rfl]
  split
  · rfl
  · rw [if_neg (by omega)]
set_option maxRecDepth 100000 in
theorem cnt3_any {w : World} {g most : Nat} {l : Bs} {e : Int} (h : RfAt w g l e) (hl : l.length ≤ 1048576) (hmo : most ≤ 65536) : Calls Try.prog 60 #[.pointer (some ⟨g, 0, none⟩), .int .i64 most] w (cnt3P g most l e w) := by
  have c0 := h.c0
  have HN : Calls Try.prog 38 #[.pointer (some ⟨g, 0, none⟩), .int .u64 18446744073709551615] w (num3P g 18446744073709551615 l e w) := num3_any (most := 18446744073709551615) h hl
  have hn := readL_n l
  have hmw : IntKind.u64.wrap (most : Int) = most := u64_lt (by omega)
  have m0 : (0 : Int) ≤ (most : Int) := by omega
  have tm : decide ((most : Int) < 0) = false := by simp
  by_cases he : e = 0
  · have hp : cnt3P g most l e w = fun x w' => x = .returned (.int .i64 (cntS most l 0).1) ∧ RfAt w' g (cntS most l 0).2.1 (cntS most l 0).2.2 ∧ Turn (· = g) w w' := by rw [he]; rfl
    have hn3 : num3P g 18446744073709551615 l e w = fun x w' => x = .returned (.int .u64 (numS 18446744073709551615 l 0).1) ∧ RfAt w' g (numS 18446744073709551615 l 0).2.1 (numS 18446744073709551615 l 0).2.2 ∧ Turn (· = g) w w' := by rw [he]; rfl
    have hc : cntS most l 0 = if (readL l).2.2 ≠ 0 then (0, l, (readL l).2.2) else if most < (readL l).1 then (0, l, 4) else if l.length - (readL l).2.1 < (readL l).1 then (0, l, 10) else ((readL l).1, l.drop (readL l).2.1, 0) := by
      unfold cntS; rw [if_neg (by simp)]
    rw [hn3, numS_max] at HN
    rw [hp]
    obtain ⟨x, hxx⟩ : ∃ x, x = (readL l).1 := ⟨_, rfl⟩
    obtain ⟨n, hnn⟩ : ∃ x, x = (readL l).2.1 := ⟨_, rfl⟩
    obtain ⟨k, hkk⟩ : ∃ x, x = (readL l).2.2 := ⟨_, rfl⟩
    rw [← hxx, ← hnn, ← hkk] at HN hc
    rw [← hnn] at hn
    clear hxx hnn hkk hp hn3
    by_cases hk : k = 0
    · have t1 : (k != 0) = false := by simpa using hk
      rw [if_neg (by simpa using hk)] at HN hc
      have HN := Lib.hid HN
      have hlz : (Bt (l.drop n)).size = l.length - n := by rw [Bt_size, List.length_drop]
      have hlzI : ((Bt (l.drop n)).size : Int) = ((l.length - n : Nat) : Int) := by rw [hlz]
      have hlw : IntKind.u64.wrap (((l.length - n : Nat)) : Int) = ((l.length - n : Nat) : Int) := u64_lt (by omega)
      obtain ⟨z, hz⟩ : ∃ z, z = l.length - n := ⟨_, rfl⟩
      rw [← hz] at hlz hlzI hlw hc
      have hzI : z ≤ 1048576 := by omega
      by_cases hm : most < x
      · have t2 : decide (most < x) = true := by simpa using hm
        rw [if_pos hm] at hc
        rw [hc]
        clear hc hm hk he hz hlz
        go_enter Try.func60, Try.ntmps60
        go_wp2_with (go_at_call 38; (with_reducible refine HN.out.mono ?_); rintro e1 w1 ⟨rfl, h1, hT⟩; have d0 := h1.c0; have d1 := h1.c1; have f0 := h1.f0; have f1 := h1.f1)
        go_ret
        exact ⟨rfl, (h1.setL l).setE 4, (hT.trans (Turn.set_ (H := (· = g)) (a := ⟨g, 0, none⟩) rfl _)).trans (Turn.set_ (H := (· = g)) (a := ⟨g, 1, none⟩) rfl _)⟩
      · have t2 : decide (most < x) = false := by simpa using hm
        rw [if_neg hm] at hc
        by_cases hs : z < x
        · have t3 : decide (z < x) = true := by simpa using hs
          rw [if_pos hs] at hc
          rw [hc]
          clear hc hm hk he hz hlz hs
          go_enter Try.func60, Try.ntmps60
          go_wp2_with (go_at_call 38; (with_reducible refine HN.out.mono ?_); rintro e1 w1 ⟨rfl, h1, hT⟩; have d0 := h1.c0; have d1 := h1.c1; have f0 := h1.f0; have f1 := h1.f1)
          go_ret
          exact ⟨rfl, (h1.setL l).setE 10, (hT.trans (Turn.set_ (H := (· = g)) (a := ⟨g, 0, none⟩) rfl _)).trans (Turn.set_ (H := (· = g)) (a := ⟨g, 1, none⟩) rfl _)⟩
        · have t3 : decide (z < x) = false := by simpa using hs
          have xi : IntKind.i64.wrap (x : Int) = x := IntWalk.i64_in _ (by omega)
          rw [if_neg hs] at hc
          rw [hc]
          clear hc hm hk he hz hlz hs
          go_enter Try.func60, Try.ntmps60
          go_wp2_with (go_at_call 38; (with_reducible refine HN.out.mono ?_); rintro e1 w1 ⟨rfl, h1, hT⟩; have d0 := h1.c0; have d1 := h1.c1; have f0 := h1.f0; have f1 := h1.f1)
          go_ret
          exact ⟨rfl, h1, hT⟩
    · have t1 : (k != 0) = true := by simpa using hk
      rw [if_pos hk] at HN hc
      rw [hc]
      have HN := Lib.hid HN
      clear hc hk he
      go_enter Try.func60, Try.ntmps60
      go_wp2_with (go_at_call 38; (with_reducible refine HN.out.mono ?_); rintro e1 w1 ⟨rfl, h1, hT⟩; have d0 := h1.c0; have d1 := h1.c1)
      go_ret
      exact ⟨rfl, h1, hT⟩
  · have t0 : (e != 0) = true := by simpa using he
    have hp : cnt3P g most l e w = fun x w' => x = .returned (.int .i64 0) ∧ RfAt w' g l e ∧ Turn (· = g) w w' := by
      unfold cnt3P cntS; rw [if_pos he]; rfl
    have hn3 : num3P g 18446744073709551615 l e w = fun x w' => x = .returned (.int .u64 0) ∧ RfAt w' g l e ∧ Turn (· = g) w w' := by
      unfold num3P numS; rw [if_neg he]; rfl
    rw [hn3] at HN
    rw [hp]
    have HN := Lib.hid HN
    clear hp he hn3
    go_enter Try.func60, Try.ntmps60
    go_wp2_with (go_at_call 38; (with_reducible refine HN.out.mono ?_); rintro e1 w1 ⟨rfl, h1, hT⟩; have d0 := h1.c0; have d1 := h1.c1)
    go_ret
    exact ⟨rfl, h1, hT⟩
def text3P (g most : Nat) (l : Bs) (e : Int) (w : World) (x : Ending) (w' : World) : Prop := x = .returned (.string (Bt (textS most l e).1)) ∧ RfAt w' g (textS most l e).2.1 (textS most l e).2.2 ∧ Turn (· = g) w w'
theorem textS_is (most : Nat) (l : Bs) (e : Int) : textS most l e = ((cntS most l e).2.1.take (cntS most l e).1, (cntS most l e).2.1.drop (cntS most l e).1, (cntS most l e).2.2) := by
  unfold textS cntS rdText
  by_cases he : e = 0
  · by_cases h1 : (readL l).2.2 = 0
    · by_cases h2 : most < (readL l).1
      · simp [he, h1, h2]
      · by_cases h3 : l.length - (readL l).2.1 < (readL l).1
        · simp [he, h1, h2, h3]
        · simp [he, h1, h2, h3, List.drop_drop]
    · simp [he, h1]
  · simp [he]
theorem cntS_le (most : Nat) (l : Bs) (e : Int) : (cntS most l e).1 ≤ (cntS most l e).2.1.length := by
  unfold cntS
  split
  · simp
  · split
    · simp
    · split
      · simp
      · split
        · simp
        · simp; omega
theorem cntS_len (most : Nat) (l : Bs) (e : Int) : (cntS most l e).2.1.length ≤ l.length := by
  unfold cntS
  split
  · simp
  · split
    · simp
    · split
      · simp
      · split
        · simp
        · simp
set_option maxRecDepth 100000 in
theorem text3_any {w : World} {g most : Nat} {l : Bs} {e : Int} (h : RfAt w g l e) (hl : l.length ≤ 1048576) (hmo : most ≤ 65536) : Calls Try.prog 39 #[.pointer (some ⟨g, 0, none⟩), .int .i64 most] w (text3P g most l e w) := by
  have HC := cnt3_any h hl hmo
  have hle := cntS_le most l e
  have hll := cntS_len most l e
  have hp : text3P g most l e w = fun x w' => x = .returned (.string (Bt ((cntS most l e).2.1.take (cntS most l e).1))) ∧ RfAt w' g ((cntS most l e).2.1.drop (cntS most l e).1) (cntS most l e).2.2 ∧ Turn (· = g) w w' := by
    unfold text3P; rw [textS_is]
  rw [hp]
  clear hp
  have hcp : cnt3P g most l e w = fun x w' => x = .returned (.int .i64 (cntS most l e).1) ∧ RfAt w' g (cntS most l e).2.1 (cntS most l e).2.2 ∧ Turn (· = g) w w' := rfl
  rw [hcp] at HC
  clear hcp
  generalize cntS most l e = r at *
  obtain ⟨n, l1, k⟩ := r
  replace hle : n ≤ l1.length := hle
  replace hll : l1.length ≤ l.length := hll
  have hz : ((Bt l1).size : Int) = (l1.length : Int) := rfl
  have hzn : (Bt l1).size = l1.length := rfl
  have n0 : (0 : Int) ≤ (n : Int) := by omega
  have n1 : (n : Int) ≤ ((Bt l1).size : Int) := by rw [hz]; omega
  have hsl := slice_str l1 n hle
  have hsl2 := slice_str2 l1 n hle
  have htk : (Bt l1).extract 0 n = Bt (l1.take n) := by rw [Bt_extract]; rfl
  have HC := Lib.hid HC
  go_enter Try.func39, Try.ntmps39
  go_wp2_with (go_at_call 60; (with_reducible refine HC.out.mono ?_); rintro e1 w1 ⟨rfl, h1, hT⟩; have d0 := h1.c0; have f0 := h1.f0)
  go_ret
  exact ⟨rfl, h1.setL _, hT.trans (Turn.set_ (H := (· = g)) (a := ⟨g, 0, none⟩) rfl _)⟩
end Go.Proofs.Ytpengejnjmicnaa
end
section
namespace Go.Proofs.Ytpengejnjmicnaa
open Go.RowKit Go.Nb
/-- Pairs' bytes, behind a key. -/
def encL : Bs → List Pr → Bs
  | _, [] => []
  | last, p :: l => oneL last p ++ encL p.k l
/-- The key ahead of place k. -/
def keyAt (l : List Pr) (k : Nat) : Bs := if k = 0 then [] else (l.getD (k - 1) default).k
theorem keyAt_succ (l : List Pr) (k : Nat) : keyAt l (k + 1) = (l.getD k default).k := by
  unfold keyAt
  rw [if_neg (by omega), Nat.add_sub_cancel]
/-- What may be turned into bytes: no key, no value is too long. -/
def Fits (l : List Pr) : Prop := (∀ i, (l.getD i default).k.length ≤ 65536 ∧ (l.getD i default).v.length ≤ 65536) ∧ (encL [] l).length ≤ 1048576
theorem keyAt_len {l : List Pr} (h : Fits l) (k : Nat) : (keyAt l k).length ≤ 65536 := by
  unfold keyAt
  split
  · simp
  · exact (h.1 _).1
set_option maxRecDepth 100000 in
theorem bytes_ref {w : World} {A : Option Addr} {n c : Nat} {l : List Pr} (h : PRd w A n l) (hn : n ≤ 1048576) (hf : Fits l) : Calls Try.prog 32 #[.slice A n c] w fun e w' => e = .returned (.string (Bt (encL [] l))) ∧ Ext w w' := by
  have HL := Lib.hid h.1
  have HF := Lib.hid hf
  have HK := Lib.hid (keyAt_len hf)
  clear hf
  go_enter Try.func32, Try.ntmps32
  go_wp2
  go_loopw [3, 4, 5] (fun sv lv iv wr => ∃ (k : Nat) (s last : Bs), k ≤ n ∧ iv = .int .i64 k ∧ sv = .string (Bt s) ∧ lv = .string (Bt last) ∧ Hid (last = keyAt l k) ∧ Hid (s ++ encL last (l.drop k) = encL [] l) ∧ Ext w wr) (fun _ _ iv _ => n - (intOf iv).toNat)
  case atStart => exact ⟨0, [], [], by omega, rfl, rfl, rfl, Lib.hid rfl, Lib.hid rfl, Ext.refl w⟩
  case round =>
    obtain ⟨k, s, last, hk, rfl, rfl, rfl, hla, hs, hE⟩ := hrel
    by_cases hk2 : k < n
    · have kk : (k : Int) < (n : Int) := by omega
      have kk0 : (0 : Int) ≤ (k : Int) := by omega
      obtain ⟨g, o, rfl, c0, c1⟩ := (h.ext hE).at_ k hk2
      have hd : l.drop k = l.getD k default :: l.drop (k + 1) := drop_cons (by rw [HL.out]; exact hk2)
      have hks := keyAt_succ l k
      obtain ⟨p, hp⟩ : ∃ p, p = l.getD k default := ⟨_, rfl⟩
      have hpf := HF.out.1 k
      rw [← hp] at c0 c1 hd hks hpf
      have hnx : (s ++ oneL last p) ++ encL p.k (l.drop (k + 1)) = encL [] l := by rw [← hs.out, hd, encL, List.append_assoc]
      have hlen : s.length + (oneL last p).length ≤ 1048576 := by
        have h1 := congrArg List.length hnx
        have h2 := HF.out.2
        simp only [List.length_append] at h1
        omega
      have hadd := fun w => add_Bt s (oneL last p) hlen w
      have HO := Lib.hid (fun w => one_ref last p (by rw [hla.out]; exact HK.out k) hpf.1 hpf.2 w)
      have hP : p.val = .agg #[.string (Bt p.k), .string (Bt p.v)] := rfl
      rw [hP] at HO
      have HNX := Lib.hid hnx
      have HKS := Lib.hid hks
      obtain ⟨z, hz⟩ : ∃ z, z = oneL last p := ⟨_, rfl⟩
      rw [← hz] at hadd HO HNX
      clear hnx hks hd hpf hp hP hlen hz
      go_wp2_with (go_at_call 52; (with_reducible refine (HO.out _).mono ?_); rintro e w2 ⟨rfl, hE2⟩; have d0 := hE2.cellv c0)
      exact ⟨⟨k + 1, s ++ z, p.k, by omega, rfl, rfl, rfl, Lib.hid HKS.out.symm, HNX, hE.trans hE2⟩, by simp [intOf]; omega⟩
    · have kk : ¬ (k : Int) < (n : Int) := by omega
      have hs2 : s = encL [] l := by rw [← hs.out, List.drop_of_length_le (by rw [HL.out]; omega), encL, List.append_nil]
      have HS2 := Lib.hid hs2
      clear hs2
      go_wp2
      go_ret
      exact ⟨by rw [← HS2.out]; rfl, hE⟩
end Go.Proofs.Ytpengejnjmicnaa
end
section
namespace Go.Proofs.Ytpengejnjmicnaa
open Go.RowKit Go.Nb
theorem run_str_own {w : World} {base g n cap : Nat} {l : Bs} (hl : l.length = n) (h : w.ownsRow base 5 1 (.slice (some ⟨g, 0, none⟩) n cap) n (Lib.byteCells l)) :
    (convert 40 9 (.slice (some ⟨g, 0, none⟩) n cap)).run Try.prog w = .ok (.string (Bt l)) w := by
  subst hl
  refine run_convert_bytes_back (P := Try.prog) w 40 9 5 ⟨g, 0, none⟩ cap l Try.underlying40 Try.underlying5 Try.underlying9 (fun j hj => ?_)
  rw [Addr.add_mid, Nat.zero_add, h.cells1.1.cell j hj, List.getD_eq_getElem?_getD]
  simp [Lib.byteCells, hj]
theorem _root_.Go.World.ownsRow.val {w : World} {base : Nat} {e : TypeId} {size n : Nat} {v : Value} {xs : List Value} (h : w.ownsRow base e size v n xs) : ∃ A c, v = .slice A n c := by
  rcases h.2 with ⟨h1, h2⟩ | ⟨g, cap, cur, hv, _⟩
  · subst h2; exact ⟨none, 0, h1⟩
  · exact ⟨_, _, hv⟩
set_option maxRecDepth 100000 in
theorem encode_any {w : World} {A : Option Addr} {n c : Nat} {l : List Pr} (h : PRd w A n l) (hn : n ≤ 1048576) (hc : n ≤ c) (hf : mayB l = true → Fits l) : Calls Try.prog 26 #[.slice A n c] w fun e w' => e = .returned (if mayB l = true then .tuple #[.string (Bt (encL [] l)), .int .i64 0] else .tuple #[.string ⟨#[]⟩, .int .i64 2]) ∧ Ext w w' := by
  have HL := Lib.hid h.1
  have HM := may_any (c := c) h hn hc
  cases hm : mayB l
  · rw [hm] at HM
    have HM := Lib.hid HM
    simp only [Bool.false_eq_true, if_false]
    clear hm hf
    go_enter Try.func26, Try.ntmps26
    go_wp2_with (go_at_call 49; (with_reducible refine HM.out.mono ?_); rintro e w1 ⟨rfl, hE⟩)
    go_ret2
    exact ⟨rfl, hE⟩
  · rw [hm] at HM
    have HM := Lib.hid HM
    have HF := Lib.hid (hf hm)
    have HK := Lib.hid (keyAt_len (hf hm))
    clear hf
    simp only [if_true]
    have hn1 : 1 ≤ n := by
      unfold mayB at hm
      rw [HL.out] at hm
      simp at hm
      omega
    clear hm
    obtain ⟨i0, hi0, hz0, hz1, hz2⟩ := info_parts infoByte
    go_enter Try.func26, Try.ntmps26
    go_wp2_with (go_at_call 49; (with_reducible refine HM.out.mono ?_); rintro e w1 ⟨rfl, hE⟩)
    go_loopw [4, 5, 13] (fun sv lv iv wr => ∃ (k : Nat) (s last : Bs) (A1 : Option Addr) (c1 : Nat), k ≤ n ∧ iv = .int .i64 k ∧ sv = .slice A1 s.length c1 ∧ lv = .string (Bt last) ∧ Hid (last = keyAt l k) ∧ Hid (s ++ encL last (l.drop k) = encL [] l) ∧ wr.ownsRow w.heap.size 5 1 (.slice A1 s.length c1) s.length (Lib.byteCells s) ∧ Ext w wr) (fun _ _ iv _ => n - (intOf iv).toNat)
    case atStart => exact ⟨0, [], [], none, 0, by omega, rfl, rfl, rfl, Lib.hid rfl, Lib.hid rfl, World.ownsRow_nil _ _ _ _, hE⟩
    case round =>
      obtain ⟨k, s, last, A1, c1, hk, rfl, rfl, rfl, hla, hs, hown, hE⟩ := hrel
      by_cases hk2 : k < n
      · have kk : (k : Int) < (n : Int) := by omega
        have kk0 : (0 : Int) ≤ (k : Int) := by omega
        obtain ⟨g, o, rfl, c0, c1'⟩ := (h.ext hE).at_ k hk2
        have hd : l.drop k = l.getD k default :: l.drop (k + 1) := drop_cons (by rw [HL.out]; exact hk2)
        have hks := keyAt_succ l k
        obtain ⟨p, hp⟩ : ∃ p, p = l.getD k default := ⟨_, rfl⟩
        have hpf := HF.out.1 k
        rw [← hp] at c0 c1' hd hks hpf
        have hnx : (s ++ oneL last p) ++ encL p.k (l.drop (k + 1)) = encL [] l := by rw [← hs.out, hd, encL, List.append_assoc]
        have hlen : s.length + (oneL last p).length ≤ 1048576 := by
          have h1 := congrArg List.length hnx
          have h2 := HF.out.2
          simp only [List.length_append] at h1
          omega
        have HO := Lib.hid (fun w => one_any last p (by rw [hla.out]; exact HK.out k) hpf.1 hpf.2 w)
        have hP : p.val = .agg #[.string (Bt p.k), .string (Bt p.v)] := rfl
        rw [hP] at HO
        have HNX := Lib.hid hnx
        have HKS := Lib.hid hks
        obtain ⟨z, hz⟩ : ∃ z, z = oneL last p := ⟨_, rfl⟩
        rw [← hz] at hlen HO HNX
        have HLEN := Lib.hid hlen
        have HOW := Lib.hid hown
        have HG := Lib.hid hown.blockGe
        have HLT := Lib.hid hown.lt
        have q0 : (wr.alloc (.cells #[.string (Bt p.k), .string (Bt p.v)] 53)).cell? ⟨wr.heap.size, 0, none⟩ = some (.string (Bt p.k)) := (Blk.new wr 53 _).cell 0
        have HQ := Lib.hid q0
        have HE3 := Lib.hid ((Ext.refl wr).alloc (.cells #[.string (Bt p.k), .string (Bt p.v)] 53))
        have HW0 := Lib.hid hE.sz
        clear hnx hks hd hpf hp hP hlen hz hown
        go_wp2_with (first
          | (go_at_call 50; (with_reducible refine (HO.out _).mono ?_); rintro e w2 ⟨rfl, hE2⟩; have hE4 := HE3.out.trans hE2; have d0 := hE2.cellv HQ.out; have hw4 : w.heap.size ≤ w2.heap.size := Nat.le_trans HW0.out hE4.sz; have HO2 := Lib.hid (HOW.out.ext hE4))
          | (at_builtin; refine Lib.wpList_append_own_string _ rfl (.tmp 17) (.tmp 20) 40 9 rfl w.heap.size 5 i0 Try.underlying40 Try.underlying9 hi0 hz0 hz1 hz2 (.slice A1 s.length c1) s.length _ rfl HO2.out (Bt z) rfl (by have := HLEN.out; rw [Bt_size]; unfold maxLen; omega) (by have := HLEN.out; rw [Bt_size]; omega) hw4 ?_; intro v' w3 hown3 hg3 _; rw [strCells_Bt, ← Lib.byteCells_append] at hown3; replace hown3 : w3.ownsRow w.heap.size 5 1 v' (s ++ z).length (Lib.byteCells (s ++ z)) := (by rw [List.length_append]; exact hown3); obtain ⟨A2, c2, rfl⟩ := hown3.val; have HO3 := Lib.hid hown3; have d1 : w3.cell? ⟨wr.heap.size, 0, none⟩ = some (.string (Bt p.k)) := hg3.cell d0 (fun he => absurd (HLT.out _ he.symm).2 (Nat.lt_irrefl _)); clear hown3))
        exact ⟨⟨k + 1, s ++ z, p.k, A2, c2, by omega, rfl, by rw [List.length_append], rfl, Lib.hid HKS.out.symm, HNX, HO3.out, (hE.trans hE4).grown hg3 HG.out⟩, by simp [intOf]; omega⟩
      · obtain rfl : k = n := by omega
        have kk : ¬ (k : Int) < (k : Int) := by omega
        have hs2 : s = encL [] l := by rw [← hs.out, List.drop_of_length_le (by rw [HL.out]; omega), encL, List.append_nil]
        have hs0 : s.length ≠ 0 := by
          rw [hs2]
          cases l with
          | nil => have := HL.out; simp at this; omega
          | cons p r => simp [encL, oneL, upL]
        obtain ⟨g, rfl⟩ : ∃ g, A1 = some ⟨g, 0, none⟩ := by
          rcases hown.2 with ⟨_, h0⟩ | ⟨g, cap, cur, hv, _⟩
          · exact absurd h0 hs0
          · injection hv with h1; exact ⟨g, h1⟩
        have hcv := run_str_own rfl hown
        have HS2 := Lib.hid hs2
        clear hs2 hs0 hown
        go_wp2
        go_ret2
        exact ⟨by rw [← HS2.out]; rfl, hE⟩
end Go.Proofs.Ytpengejnjmicnaa
end
section
namespace Go.Proofs.Ytpengejnjmicnaa
open Go.RowKit Go.Nb
/-- How many pairs at the front are below a key. -/
def seekL (key : Bs) : List Pr → Nat
  | [] => 0
  | p :: l => if Op.bytesLess p.k key = true then seekL key l + 1 else 0
set_option maxRecDepth 100000 in
theorem seek_ref {w : World} {A : Option Addr} {n c : Nat} {l : List Pr} (h : PRd w A n l) (hn : n ≤ 1048576) (key : Bs) : Calls Try.prog 42 #[.slice A n c, .string (Bt key)] w fun e w' => e = .returned (.int .i64 (seekL key l)) ∧ Ext w w' := by
  have HL := Lib.hid h.1
  go_enter Try.func42, Try.ntmps42
  go_wp2
  go_loopw [5] (fun iv wr => ∃ k : Nat, k ≤ n ∧ iv = .int .i64 k ∧ Hid (seekL key l = k + seekL key (l.drop k)) ∧ Ext w wr) (fun iv _ => n - (intOf iv).toNat)
  case atStart => exact ⟨0, by omega, rfl, Lib.hid (by simp), Ext.refl w⟩
  case round =>
    obtain ⟨k, hk, rfl, hs, hE⟩ := hrel
    have hT := toList_Bt
    by_cases hk2 : k < n
    · have kk : (k : Int) < (n : Int) := by omega
      have tk : decide ((k : Int) < (n : Int)) = true := by simp; omega
      have kk0 : (0 : Int) ≤ (k : Int) := by omega
      obtain ⟨g, o, rfl, c0, c1⟩ := (h.ext hE).at_ k hk2
      have hd : l.drop k = l.getD k default :: l.drop (k + 1) := drop_cons (by rw [HL.out]; exact hk2)
      obtain ⟨p, hp⟩ : ∃ p, p = l.getD k default := ⟨_, rfl⟩
      rw [← hp] at c0 c1 hd
      obtain ⟨x, hx⟩ : ∃ x, x = p.k := ⟨_, rfl⟩
      rw [← hx] at c0
      cases hlt : Op.bytesLess x key
      · have hs2 : seekL key l = k := by rw [hs.out, hd, seekL, ← hx, hlt, if_neg (by simp)]; rfl
        have HS2 := Lib.hid hs2
        clear hs2 hd hp hx
        go_wp2
        go_ret
        exact ⟨by rw [HS2.out]; rfl, hE⟩
      · have hs2 : seekL key l = k + 1 + seekL key (l.drop (k + 1)) := by rw [hs.out, hd, seekL, ← hx, hlt, if_pos rfl]; omega
        have HS2 := Lib.hid hs2
        clear hs2 hd hp hx
        go_wp2
        exact ⟨⟨k + 1, by omega, rfl, HS2, hE⟩, by simp [intOf]; omega⟩
    · have kk : ¬ (k : Int) < (n : Int) := by omega
      have tk : decide ((k : Int) < (n : Int)) = false := by simp; omega
      have hs2 : seekL key l = k := by rw [hs.out, List.drop_of_length_le (by rw [HL.out]; omega)]; rfl
      have HS2 := Lib.hid hs2
      clear hs2
      go_wp2
      go_ret
      exact ⟨by rw [HS2.out]; rfl, hE⟩
end Go.Proofs.Ytpengejnjmicnaa
end
section
namespace Go.Proofs.Ytpengejnjmicnaa
open Go.RowKit Go.Nb
theorem eq36 (x y u v : Bs) (w : World) : (Op.equalIn 10000 53 (.agg #[.string (Bt x), .string (Bt y)]) (.agg #[.string (Bt u), .string (Bt v)])).run Try.prog w = .ok (x == u && y == v) w := by
  have hf : Try.prog.underlying 53 = some (.struct (Try.prog.fieldsOf 53)) := by kernel_rfl
  have hp : Try.prog.stoodInHeld 53 = false := by kernel_rfl
  have u9 := Try.underlying9
  have a9 := Try.isAgg9
  have z9 := Try.sizeOf9
  have hT := toList_Bt
  rw [show (10000 : Nat) = 9999 + 1 from rfl, run_equalIn_agg w 9999 53 _ _ hf hp]
  simp only [Program.fieldsOf, Try.underlying53]
  go_simp
  by_cases h1 : x = u <;> by_cases h2 : y = v <;> simp [h1, h2]
theorem list_ext_D {a b : List Pr} (hl : a.length = b.length) (h : ∀ i, i < a.length → a.getD i default = b.getD i default) : a = b := by
  refine List.ext_getElem hl (fun i h1 h2 => ?_)
  have := h i h1
  rw [List.getD_eq_getElem?_getD, List.getD_eq_getElem?_getD, List.getElem?_eq_getElem h1, List.getElem?_eq_getElem h2] at this
  exact this
set_option maxRecDepth 100000 in
theorem same_ref {w : World} {A B : Option Addr} {n c m c' : Nat} {a b : List Pr} (ha : PRd w A n a) (hb : PRd w B m b) (hn : n ≤ 1048576) (hm : m ≤ 1048576) : Calls Try.prog 18 #[.slice A n c, .slice B m c'] w fun e w' => e = .returned (.bool (decide (a = b))) ∧ Ext w w' := by
  have HA := Lib.hid ha.1
  have HB := Lib.hid hb.1
  by_cases hnm : n = m
  · subst hnm
    have t1 : ((n : Int) != (n : Int)) = false := by simp
    go_enter Try.func18, Try.ntmps18
    go_wp2
    go_loopw [5] (fun iv wr => ∃ k : Nat, k ≤ n ∧ iv = .int .i64 k ∧ Hid (∀ i, i < k → a.getD i default = b.getD i default) ∧ Ext w wr) (fun iv _ => n - (intOf iv).toNat)
    case atStart => exact ⟨0, by omega, rfl, Lib.hid (fun i hi => by omega), Ext.refl w⟩
    case round =>
      obtain ⟨k, hk, rfl, hs, hE⟩ := hrel
      have hT := toList_Bt
      by_cases hk2 : k < n
      · have kk : (k : Int) < (n : Int) := by omega
        have kk0 : (0 : Int) ≤ (k : Int) := by omega
        obtain ⟨g, o, rfl, c0, c1⟩ := (ha.ext hE).at_ k hk2
        obtain ⟨g2, o2, rfl, d0, d1⟩ := (hb.ext hE).at_ k hk2
        obtain ⟨p, hp⟩ : ∃ p, p = a.getD k default := ⟨_, rfl⟩
        obtain ⟨q, hq⟩ : ∃ p, p = b.getD k default := ⟨_, rfl⟩
        rw [← hp] at c0 c1
        rw [← hq] at d0 d1
        have hE36 := eq36 p.k p.v q.k q.v
        have hpq : (p.k == q.k && p.v == q.v) = decide (p = q) := by
          obtain ⟨pk, pv⟩ := p
          obtain ⟨qk, qv⟩ := q
          by_cases h1 : pk = qk <;> by_cases h2 : pv = qv <;> simp [h1, h2]
        rw [hpq] at hE36
        have HP := Lib.hid hp
        have HQ := Lib.hid hq
        by_cases he : p = q
        · have td : decide (p = q) = true := by simpa using he
          rw [td] at hE36
          have hs2 : ∀ i, i < k + 1 → a.getD i default = b.getD i default := fun i hi => by
            by_cases hik : i = k
            · rw [hik, ← hp, ← hq, he]
            · exact hs.out i (by omega)
          have HS2 := Lib.hid hs2
          clear hs2 td he hpq hp hq
          go_wp2
          go_quiet (fail)
          go_wp2
          exact ⟨⟨k + 1, by omega, rfl, HS2, hE.drewN _⟩, by simp [intOf]; omega⟩
        · have td : decide (p = q) = false := by simpa using he
          rw [td] at hE36
          have hs2 : decide (a = b) = false := by
            simp only [decide_eq_false_iff_not]
            intro h
            apply he
            rw [hp, hq, h]
          have HS2 := Lib.hid hs2
          clear hs2 td he hpq hp hq
          go_wp2
          go_quiet (fail)
          go_wp2
          go_ret
          exact ⟨ret_bool HS2.out.symm, hE.drewN _⟩
      · have kk : ¬ (k : Int) < (n : Int) := by omega
        have hs2 : decide (a = b) = true := by
          simp only [decide_eq_true_eq]
          exact list_ext_D (HA.out.trans HB.out.symm) (fun i hi => hs.out i (by rw [HA.out] at hi; omega))
        have HS2 := Lib.hid hs2
        clear hs2
        go_wp2
        go_ret
        exact ⟨ret_bool HS2.out.symm, hE⟩
  · have t1 : ((n : Int) != (m : Int)) = true := by simp; omega
    go_enter Try.func18, Try.ntmps18
    go_wp2
    go_ret
    refine ⟨ret_bool ?_, Ext.refl w⟩
    symm
    simp
    intro h
    rw [h] at HA
    exact hnm (HA.out.symm.trans HB.out)
end Go.Proofs.Ytpengejnjmicnaa
end
section
namespace Go.Proofs.Ytpengejnjmicnaa
open Go.RowKit Go.Nb
/-- How many bytes the first k pairs have, as the machine reckons it. -/
def sumW (l : List Pr) : Nat → Int
  | 0 => 0
  | k + 1 => wrap64 (wrap64 (sumW l k + ((l.getD k default).k.length : Int)) + ((l.getD k default).v.length : Int))
/-- More than a statement looks at. -/
def heavyB (l : List Pr) : Bool := decide (500 < l.length) || decide (16384 < sumW l (min l.length 2000))
end Go.Proofs.Ytpengejnjmicnaa
end
section
namespace Go.Proofs.Ytpengejnjmicnaa
open Go.RowKit Go.Nb
/-- Pairs' cells, one behind the other. -/
def prCs (l : List Pr) (n : Nat) : List Value := (List.range (n * 2)).map fun j => prF l (j / 2) (j % 2)
theorem prCs_len (l : List Pr) (n : Nat) : (prCs l n).length = n * 2 := by simp [prCs]
theorem prCs_at (l : List Pr) (n j : Nat) (hj : j < n * 2) : (prCs l n)[j]? = some (prF l (j / 2) (j % 2)) := by simp [prCs, hj]
theorem prCs_one (l : List Pr) (n : Nat) : ∀ u ∈ prCs l n, u.oneCell' = true := by
  intro u hu
  simp only [prCs, List.mem_map] at hu
  obtain ⟨j, _, rfl⟩ := hu
  rfl
theorem infoPr : (Try.prog.info? 53).map (fun i => (i.zero, i.size, i.bytes)) = some (some (.agg #[.string ⟨#[]⟩, .string ⟨#[]⟩]), 2, 32) := by kernel_rfl
theorem World.ownsRow.prd {w : World} {base n cap : Nat} {A : Option Addr} {l : List Pr} (hl : l.length = n) (h : w.ownsRow base 53 2 (.slice A n cap) n (prCs l n)) : PRd w A n l := by
  refine ⟨hl, fun hn => ?_⟩
  rcases h.2 with ⟨_, h0⟩ | ⟨g, cp, cur, hv, _⟩
  · omega
  · injection hv with h1
    subst h1
    refine ⟨g, 0, rfl, fun i j hi hj => ?_⟩
    have := h.cells (g := g) rfl (i * 2 + j) (prF l i j) (by
      rw [prCs_at l n _ (by omega), show (i * 2 + j) / 2 = i by omega, show (i * 2 + j) % 2 = j by omega])
    rw [Addr.add_mid] at this
    rw [show 0 + i * 2 + j = 0 + (i * 2 + j) by omega]
    exact this
end Go.Proofs.Ytpengejnjmicnaa
end
