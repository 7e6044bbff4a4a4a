import Derived.Test.YtpengejnjmicnaaU5
import Derived.Deep.AppendLies
section
namespace Go.Proofs.Ytpengejnjmicnaa
open Go.RowKit Go.Nb
/-- More than a statement about tables looks at. -/
def heavyT (l : List Pr) : Bool := decide (400 < l.length) || decide (16384 < sumW l (min l.length 2000))
set_option maxRecDepth 100000 in
theorem heavy_any {w : World} {A : Option Addr} {n c : Nat} {l : List Pr} (h : PRd w A n l) (hn : n ≤ maxLen) : Calls Try.prog 9 #[.slice A n c] w fun e w' => e = .returned (.bool (heavyT l)) ∧ Ext w w' := by
  have HL := Lib.hid h.1
  unfold maxLen at hn
  obtain ⟨m, hm⟩ : ∃ m, m = min n 2000 := ⟨_, rfl⟩
  have HM := Lib.hid hm
  clear hm
  go_enter Try.func9, Try.ntmps9
  go_wp2
  go_loopw [3, 4] (fun sv iv wr => ∃ (k : Nat) (s : Int), k ≤ m ∧ iv = .int .i64 k ∧ sv = .int .i64 s ∧ Hid (s = sumW l k) ∧ Ext w wr) (fun _ iv _ => m - (intOf iv).toNat)
  case atStart => exact ⟨0, 0, by omega, rfl, rfl, Lib.hid rfl, Ext.refl w⟩
  case round =>
    obtain ⟨k, s, hk, rfl, rfl, hs, hE⟩ := hrel
    by_cases hk2 : k < m
    · have hkn : k < n := by have := HM.out; omega
      have kk : (k : Int) < (n : Int) := by omega
      have t1 : decide ((k : Int) < (n : Int)) = true := by simp; omega
      have t2 : decide ((k : Int) < 2000) = true := by have := HM.out; simp; omega
      have kk0 : (0 : Int) ≤ (k : Int) := by omega
      have k2 : (k : Int) < 2000 := by have := HM.out; omega
      obtain ⟨g, o, rfl, c0, c1⟩ := (h.ext hE).at_ k hkn
      obtain ⟨p, hp⟩ : ∃ p, p = l.getD k default := ⟨_, rfl⟩
      have hnx : sumW l (k + 1) = wrap64 (wrap64 (s + (p.k.length : Int)) + (p.v.length : Int)) := by rw [hs.out, hp]; rfl
      rw [← hp] at c0 c1
      have HNX := Lib.hid hnx
      have z1 : ((Bt p.k).size : Int) = (p.k.length : Int) := rfl
      have z2 : ((Bt p.v).size : Int) = (p.v.length : Int) := rfl
      clear hnx hp
      go_wp2
      go_quiet (fail)
      go_wp2
      exact ⟨⟨k + 1, _, by omega, rfl, rfl, Lib.hid (by rw [HNX.out]), hE.drewN _⟩, by simp [intOf]; omega⟩
    · obtain rfl : k = m := by omega
      have hs2 : heavyT l = (decide (400 < n) || decide (16384 < s)) := by unfold heavyT; rw [HL.out, ← HM.out, ← hs.out]
      have HS2 := Lib.hid hs2
      clear hs2
      have d1 : decide ((400 : Int) < (n : Int)) = decide (400 < n) := by rw [decide_eq_decide]; omega
      by_cases hkn : k < n
      · have t1 : decide ((k : Int) < (n : Int)) = true := by simp; omega
        have t2 : decide ((k : Int) < 2000) = false := by have := HM.out; simp; omega
        have kk : (k : Int) < (n : Int) := by omega
        have k2 : ¬ (k : Int) < 2000 := by have := HM.out; omega
        have d2 : decide (400 < n) = true := by have := HM.out; simp; omega
        rw [d2] at d1 HS2
        clear d2
        go_wp2
        go_ret
        exact ⟨ret_bool (HS2.out.symm ▸ rfl), hE⟩
      · have t1 : decide ((k : Int) < (n : Int)) = false := by simp; omega
        have kk : ¬ (k : Int) < (n : Int) := by omega
        obtain ⟨b, hb⟩ : ∃ b, b = decide (400 < n) := ⟨_, rfl⟩
        obtain ⟨b2, hb2⟩ : ∃ b, b = decide (16384 < s) := ⟨_, rfl⟩
        have hb3 := hb2.symm
        rw [← hb] at d1 HS2
        rw [← hb2] at HS2
        clear hb hb2
        cases b
        · cases b2
          all_goals
            go_wp2
            go_ret
            exact ⟨ret_bool (HS2.out.symm ▸ rfl), hE⟩
        · go_wp2
          go_ret
          exact ⟨ret_bool (HS2.out.symm ▸ rfl), hE⟩
end Go.Proofs.Ytpengejnjmicnaa
end
section
namespace Go.Proofs.Ytpengejnjmicnaa
open Go.RowKit Go.Nb
set_option maxRecDepth 100000 in
theorem own_any {w : World} {A : Option Addr} {n c : Nat} {l : List Pr} (h : PRd w A n l) (hn : n ≤ 1048576) : Calls Try.prog 12 #[.slice A n c] w fun e w' => ∃ A' c', e = .returned (.slice A' n c') ∧ n ≤ c' ∧ PRd w' A' n l ∧ Ext w w' := by
  have HL := Lib.hid h.1
  by_cases h0 : n = 0
  · subst h0
    have hnil : ∀ w', Ext w w' → PRd w' none 0 l := fun w' _ => ⟨HL.out, FRd.nil _ _ _ _⟩
    have HN := Lib.hid hnil
    clear hnil h
    rcases A with _ | a
    all_goals
      go_enter Try.func12, Try.ntmps12
      go_wp2
      go_ret
      exact ⟨none, 0, rfl, Nat.le_refl _, HN.out _ (Ext.refl w), Ext.refl w⟩
  · obtain ⟨i0, hi0, hz0, hz1, hz2⟩ := info_parts infoPr
    obtain ⟨g, o, rfl, hcell⟩ := h.2.at_ (by omega) (by omega)
    have HC := Lib.hid hcell
    clear hcell
    go_enter Try.func12, Try.ntmps12
    go_wp2_with (at_builtin; refine wpList_append_lies _ rfl _ _ 22 rfl w.heap.size 53 i0 _ 2 32 Try.underlying22 hi0 hz0 hz1 hz2 rfl (by decide) (.slice none 0 0) 0 [] rfl (World.ownsRow_nil _ _ _ _) ⟨g, o, none⟩ n c (prCs l n) rfl (prCs_len l n) (fun j u hj => by
      have hj2 : j < n * 2 := by
        rcases Nat.lt_or_ge j (n * 2) with h1 | h1
        · exact h1
        · rw [List.getElem?_eq_none (by rw [prCs_len]; exact h1)] at hj; cases hj
      rw [prCs_at l n j hj2] at hj
      cases hj
      have := HC.out (j / 2) (j % 2) (by omega) (by omega)
      rw [Addr.add_mid]
      rw [show o + j / 2 * 2 + j % 2 = o + j by omega] at this
      exact this) (prCs_one l n) (by omega) (by unfold maxLen; omega) (by omega) (Nat.le_refl _) _ rfl ?_; intro g2 cap w1 hown hgrow _ _)
    go_wp2
    go_ret
    have hcap : n ≤ cap := by
      rcases hown.2 with ⟨_, h1⟩ | ⟨_, cp, _, hv, _, _, h1, _⟩
      · omega
      · injection hv with _ _ h2
        omega
    have hown2 : w1.ownsRow w.heap.size 53 2 (.slice (some ⟨g2, 0, none⟩) n cap) n (prCs l n) := by
      have := hown
      rw [Nat.zero_add, List.nil_append] at this
      exact this
    refine ⟨_, cap, rfl, hcap, World.ownsRow.prd HL.out hown2, ?_⟩
    exact (Ext.refl w).grown hgrow (fun k hk => by cases hk)
end Go.Proofs.Ytpengejnjmicnaa
end
section
namespace Go.Proofs.Ytpengejnjmicnaa
open Go.RowKit Go.Nb
theorem tlen_nil (w : World) : Calls Try.prog 23 #[.pointer none] w fun e w' => e = .returned (.int .i64 0) ∧ Ext w w' := by
  go_enter Try.func23, Try.ntmps23
  go_wp2
  go_ret
  exact ⟨rfl, Ext.refl w⟩
theorem tblocks_nil (w : World) : Calls Try.prog 17 #[.pointer none] w fun e w' => e = .returned (.int .i64 0) ∧ Ext w w' := by
  go_enter Try.func17, Try.ntmps17
  go_wp2
  go_ret
  exact ⟨rfl, Ext.refl w⟩
theorem tlen_any {w : World} {gt : Nat} {bs : List (List Pr)} (h : Tbl w gt bs) : Calls Try.prog 23 #[.pointer (some ⟨gt, 0, none⟩)] w fun e w' => e = .returned (.int .i64 (bs.flatten.length : Nat)) ∧ Ext w w' := by
  obtain ⟨v, hT, hV⟩ := h
  obtain ⟨n, hn⟩ : ∃ n, n = bs.flatten.length := ⟨_, rfl⟩
  rw [← hn] at hT ⊢
  have c1 := hT.c1
  clear hn hV
  go_enter Try.func23, Try.ntmps23
  go_wp2
  go_ret
  exact ⟨rfl, Ext.refl w⟩
theorem tblocks_any {w : World} {gt : Nat} {bs : List (List Pr)} (h : Tbl w gt bs) : Calls Try.prog 17 #[.pointer (some ⟨gt, 0, none⟩)] w fun e w' => e = .returned (.int .i64 (bs.length : Nat)) ∧ Ext w w' := by
  obtain ⟨v, hT, hV⟩ := h
  obtain ⟨A, c, rfl⟩ := hV.val
  have c0 := hT.c0
  obtain ⟨n, hn⟩ : ∃ n, n = bs.length := ⟨_, rfl⟩
  rw [← hn] at c0 ⊢
  clear hn hV
  go_enter Try.func17, Try.ntmps17
  go_wp2
  go_ret
  exact ⟨rfl, Ext.refl w⟩
end Go.Proofs.Ytpengejnjmicnaa
end
section
namespace Go.Proofs.Ytpengejnjmicnaa
open Go.RowKit Go.Nb
theorem pos_ne {α : Type} {l : List α} (h : l ≠ []) : 0 < l.length := List.length_pos_iff.2 h
theorem len_mem_flat : ∀ {bs : List (List Pr)} {b : List Pr}, b ∈ bs → b.length ≤ bs.flatten.length
  | c :: r, b, h => by
    rw [List.flatten_cons, List.length_append]
    rcases List.mem_cons.1 h with h | h
    · rw [h]; omega
    · have := len_mem_flat h; omega
theorem len_flat_le : ∀ {bs : List (List Pr)}, (∀ b ∈ bs, b ≠ []) → bs.length ≤ bs.flatten.length
  | [], _ => Nat.le_refl _
  | b :: r, h => by
    rw [List.flatten_cons, List.length_append, List.length_cons]
    have h1 := pos_ne (h b (by simp))
    have h2 := len_flat_le (bs := r) (fun x hx => h x (by simp [hx]))
    omega
theorem flat_first {bs : List (List Pr)} (h1 : bs ≠ []) (h2 : ∀ b ∈ bs, b ≠ []) : bs.flatten.getD 0 default = (bs.getD 0 []).getD 0 default := by
  cases bs with
  | nil => exact absurd rfl h1
  | cons b r =>
    cases b with
    | nil => exact absurd rfl (h2 [] (by simp))
    | cons p q => rfl
theorem flat_last : ∀ {bs : List (List Pr)}, bs ≠ [] → (∀ b ∈ bs, b ≠ []) → bs.flatten.getD (bs.flatten.length - 1) default = (bs.getD (bs.length - 1) []).getD ((bs.getD (bs.length - 1) []).length - 1) default ∧ bs.flatten ≠ []
  | [], h1, _ => absurd rfl h1
  | [b], _, h2 => by
    have := h2 b (by simp)
    simp [this]
  | b :: c :: r, _, h2 => by
    have ih := flat_last (bs := c :: r) (by simp) (fun x hx => h2 x (by simp at hx ⊢; exact .inr hx))
    have hl : 0 < (c :: r).flatten.length := pos_ne ih.2
    refine ⟨?_, ?_⟩
    · rw [List.flatten_cons, List.length_append, show b.length + (c :: r).flatten.length - 1 = b.length + ((c :: r).flatten.length - 1) by omega]
      rw [List.getD_eq_getElem?_getD, List.getElem?_append_right (by omega), Nat.add_sub_cancel_left, ← List.getD_eq_getElem?_getD, ih.1]
      rfl
    · rw [List.flatten_cons]
      intro h
      exact ih.2 (List.append_eq_nil_iff.1 h).2
set_option maxRecDepth 100000 in
theorem ends_t {w : World} {gt : Nat} {bs : List (List Pr)} (h : Tbl w gt bs) (h1 : bs ≠ []) (h2 : ∀ b ∈ bs, b ≠ []) (hn : bs.flatten.length ≤ 1048576) : Calls Try.prog 22 #[.pointer (some ⟨gt, 0, none⟩)] w fun e w' => e = .returned (.tuple #[.string (Bt (bs.flatten.getD 0 default).k), .string (Bt (bs.flatten.getD (bs.flatten.length - 1) default).k)]) ∧ Ext w w' := by
  have hf := flat_last h1 h2
  have hf0 := flat_first h1 h2
  have hk0 : 0 < bs.length := pos_ne h1
  have hkn : bs.length ≤ bs.flatten.length := len_flat_le h2
  have hlen : ∀ j, j < bs.length → 0 < (bs.getD j []).length ∧ (bs.getD j []).length ≤ bs.flatten.length := fun j hj => ⟨pos_ne (h2 _ (mem_getD hj)), len_mem_flat (mem_getD hj)⟩
  have HL := Lib.hid (fun w' (hE : Ext w w') => tlen_any (h.ext hE))
  obtain ⟨v, hT, hV⟩ := h
  have hV0 : BsRd w 0 v bs := hV.mono0
  obtain ⟨A, c, rfl, hB, hkc⟩ := hV0.blRd
  obtain ⟨j, hj⟩ : ∃ j, j = bs.length - 1 := ⟨_, rfl⟩
  obtain ⟨g, B, cb, rfl, e1, p1, _⟩ := hB j (by omega)
  obtain ⟨g', B0, cb0, hg', e0, p0, _⟩ := hB 0 hk0
  cases hg'
  have hl1 := hlen j (by omega)
  have hl0 := hlen 0 hk0
  rw [← hj] at hf
  obtain ⟨b1, hb1⟩ : ∃ b, b = bs.getD j [] := ⟨_, rfl⟩
  obtain ⟨b0, hb0⟩ : ∃ b, b = bs.getD 0 [] := ⟨_, rfl⟩
  rw [← hb1] at hf hl1 e1 p1
  rw [← hb0] at hf0 hl0 e0 p0
  obtain ⟨k, hk⟩ : ∃ k, k = bs.length := ⟨_, rfl⟩
  obtain ⟨n, hnn⟩ : ∃ n, n = bs.flatten.length := ⟨_, rfl⟩
  obtain ⟨i, hi⟩ : ∃ i, i = b1.length - 1 := ⟨_, rfl⟩
  obtain ⟨ga, oa, rfl, a0, _⟩ := p0.at_ 0 hl0.1
  obtain ⟨gb, ob, rfl, z0, _⟩ := p1.at_ i (by omega)
  rw [hf0, hf.1, ← hi]
  have c0 := hT.c0
  rw [← hk] at c0 hj hk0 hkn hkc
  rw [← hnn] at hn hkn hl1 hl0 HL
  obtain ⟨m1, hm1⟩ : ∃ m, m = b1.length := ⟨_, rfl⟩
  obtain ⟨m0, hm0⟩ : ∃ m, m = b0.length := ⟨_, rfl⟩
  rw [← hm1] at e1 hl1 hi
  rw [← hm0] at e0 hl0
  have tn : ((n : Int) == 0) = false := by simp; omega
  have wj : IntKind.i64.wrap ((k : Int) - 1) = (j : Int) := by
    rw [show (k : Int) - 1 = (j : Int) by omega]; exact IntWalk.i64_in _ (by omega)
  have wi : IntKind.i64.wrap ((m1 : Int) - 1) = (i : Int) := by
    rw [show (m1 : Int) - 1 = (i : Int) by omega]; exact IntWalk.i64_in _ (by omega)
  have jk : (j : Int) < (k : Int) := by omega
  have jk0 : (0 : Int) ≤ (j : Int) := by omega
  have k0 : (0 : Int) < (k : Int) := by omega
  have im : (i : Int) < (m1 : Int) := by omega
  have im0 : (0 : Int) ≤ (i : Int) := by omega
  have mm0 : (0 : Int) < (m0 : Int) := by omega
  have k0n : 0 < k := hk0
  have m0n : 0 < m0 := by omega
  rw [Nat.zero_mul, Nat.add_zero] at a0
  clear hf hf0 hlen hV hV0 hB p0 p1 hb1 hb0 hk hnn hi hm1 hm0 hj hl0 hl1 hkn hk0 hkc hn h1 h2 hT
  go_enter Try.func22, Try.ntmps22
  go_wp2_with (go_at_call 23; (with_reducible refine (HL.out _ (Ext.refl w)).mono ?_); rintro e w1 ⟨rfl, hE⟩; have c0' := hE.cellv c0; have e0' := hE.cellv e0; have e1' := hE.cellv e1; have a0' := hE.cellv a0; have z0' := hE.cellv z0)
  go_quiet (fail)
  go_wp2
  go_quiet (fail)
  go_wp2
  go_ret2
  exact ⟨rfl, (hE.drewN _).drewN _⟩
theorem ends_nil (w : World) : Calls Try.prog 22 #[.pointer none] w fun e w' => e = .returned (.tuple #[.string (Bt []), .string (Bt [])]) ∧ Ext w w' := by
  have HL := Lib.hid (tlen_nil w)
  go_enter Try.func22, Try.ntmps22
  go_wp2_with (go_at_call 23; (with_reducible refine HL.out.mono ?_); rintro e w1 ⟨rfl, hE⟩)
  go_ret2
  exact ⟨rfl, hE⟩
end Go.Proofs.Ytpengejnjmicnaa
end
