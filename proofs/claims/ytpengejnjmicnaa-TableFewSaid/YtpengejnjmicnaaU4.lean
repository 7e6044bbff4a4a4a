import Derived.Test.YtpengejnjmicnaaU3
import Derived.Deep.RegionLaw
section
namespace Go.Proofs.Ytpengejnjmicnaa
open Go.RowKit Go.Nb
/-- What End answers. -/
def endE (l : Bs) (e : Int) : Int := if e ≠ 0 then e else if l = [] then 0 else 8
theorem e77 : Enters Try.prog 77 := enters_of Try.func77 (by kernel_rfl) rfl
theorem end1_any (l : Bs) (w : World) : Calls Try.prog 77 #[.string (Bt l)] w fun e w' => e = .returned (.tuple #[.int .i64 0, .int .i64 (if l = [] then 0 else 8)]) ∧ Ext w w' := by
  have hTB := toList_Bt
  by_cases h : l = []
  · subst h
    rw [if_pos rfl]
    go_enter Try.func77, Try.ntmps77
    go_wp2
    go_ret2
    exact ⟨rfl, Ext.refl w⟩
  · rw [if_neg h]
    have t1 : (l == []) = false := by simpa using h
    go_enter Try.func77, Try.ntmps77
    go_wp2
    go_ret2
    exact ⟨rfl, Ext.refl w⟩
theorem end_any {w : World} {g : Nat} {l : Bs} {e : Int} (h : RdrAt w g l e) : Calls Try.prog 58 #[.pointer (some ⟨g, 0, none⟩)] w fun x w' => x = .returned (.int .i64 (endE l e)) ∧ Turn (· = g) w w' := by
  by_cases he : e = 0
  · subst he
    have hT : ∀ w', RdrAt w' g l 0 → Calls Try.prog 71 #[.pointer (some ⟨g, 0, none⟩), .func (.func 77) #[] #[]] w' (TakePost (fun n k w2 => n = 0 ∧ k = (if l = [] then 0 else 8) ∧ Ext w' w2) g l) := fun w' h' => by
      refine take_any _ h' 77 #[] e77 (fun w3 hE3 => ?_)
      refine (end1_any l w3).mono ?_
      rintro e w4 ⟨rfl, hE4⟩
      exact ⟨0, _, rfl, h'.ext (hE3.trans hE4), Nat.zero_le _, rfl, rfl, hE3.trans hE4⟩
    have HT := Lib.hid (hT w h)
    have hv : endE l 0 = (if l = [] then 0 else 8) := by unfold endE; simp
    rw [hv]
    obtain ⟨k, hk⟩ : ∃ k : Int, k = (if l = [] then 0 else 8) := ⟨_, rfl⟩
    rw [← hk] at HT ⊢
    clear hT hv
    have HK := Lib.hid hk
    clear hk
    go_enter Try.func58, Try.ntmps58
    go_wp2_with (first
      | (go_at_call 71; (with_reducible refine HT.out.mono ?_); rintro e w2 ⟨n, k2, w1, ⟨rfl, rfl, hE1⟩, rfl, hR2, hO2⟩; have HR2 := Lib.hid hR2; have HTU := Lib.hid ((Turn.of hE1).trans (Turn.only (H := (· = g)) rfl hO2)); clear hR2 hO2 hE1)
      | (go_at_call 56; (with_reducible refine (err_any HR2.out).mono ?_); rintro e w3 ⟨rfl, hE3⟩))
    go_ret
    exact ⟨rfl, HTU.out.trans (Turn.of hE3)⟩
  · have HT := Lib.hid (take_err h he (.func (.func 77) #[] #[]))
    have hv : endE l e = e := by unfold endE; rw [if_pos he]
    rw [hv]
    have HR := Lib.hid h
    clear hv
    go_enter Try.func58, Try.ntmps58
    go_wp2_with (first
      | (go_at_call 71; (with_reducible refine HT.out.mono ?_); rintro e1 w2 ⟨rfl, hE2⟩)
      | (go_at_call 56; (with_reducible refine (err_any (HR.out.ext hE2)).mono ?_); rintro e1 w3 ⟨rfl, hE3⟩))
    go_ret
    exact ⟨rfl, Turn.of (hE2.trans hE3)⟩
theorem end_ref {w : World} {g : Nat} {l : Bs} {e : Int} (h : RfAt w g l e) : Calls Try.prog 41 #[.pointer (some ⟨g, 0, none⟩)] w fun x w' => x = .returned (.int .i64 (endE l e)) ∧ Turn (· = g) w w' := by
  have hTB := toList_Bt
  have c0 := h.c0
  have c1 := h.c1
  have f1 := h.f1
  by_cases he : e = 0
  · subst he
    by_cases hl : l = []
    · subst hl
      go_enter Try.func41, Try.ntmps41
      go_wp2
      go_ret
      exact ⟨rfl, Turn.refl _⟩
    · have hv : endE l 0 = 8 := by unfold endE; simp [hl]
      rw [hv]
      have t1 : (l == []) = false := by simpa using hl
      clear hv hl
      go_enter Try.func41, Try.ntmps41
      go_wp2
      go_ret
      exact ⟨rfl, Turn.set_ (H := (· = g)) (a := ⟨g, 1, none⟩) rfl _⟩
  · have hv : endE l e = e := by unfold endE; rw [if_pos he]
    rw [hv]
    have t1 : (e == 0) = false := by simpa using he
    clear hv
    go_enter Try.func41, Try.ntmps41
    go_wp2
    go_ret
    exact ⟨rfl, Turn.refl _⟩
end Go.Proofs.Ytpengejnjmicnaa
end
section
namespace Go.Proofs.Ytpengejnjmicnaa
open Go.RowKit Go.Nb
/-- What the bytes of blocks and of an index say. -/
structure Sol (s R : Bs) (bs : List (List Pr)) : Prop where
  ok : okB [] bs = true
  enc : encs bs = s
  idx : upL bs.length ++ idxs bs = R
/-- One entry of the index: the key, the size. -/
def rkK (r : Bs) : Bs × Bs × Int := textS 1024 r 0
def rkN (r : Bs) : Nat × Bs × Int := numS 131072 (rkK r).2.1 (rkK r).2.2
theorem rk_ok {r : Bs} (h : (rkN r).2.2 = 0) : (rkN r).1 ≤ 131072 ∧ (rkK r).1.length ≤ 1024 ∧ r = textL (rkK r).1 ++ (upL (rkN r).1 ++ (rkN r).2.1) := by
  have h2 : (rkK r).2.2 = 0 := by
    rcases Decidable.em ((rkK r).2.2 = 0) with h1 | h1
    · exact h1
    · unfold rkN numS at h; rw [if_neg h1] at h; exact h
  have a := rdText_ok (most := 1024) (s := r) (t := (rkK r).1) (r := (rkK r).2.1) (by
    have : rkK r = rdText 1024 r := by unfold rkK textS; rw [if_pos rfl]
    rw [← this, ← h2])
  have b := rdNum_ok (most := 131072) (s := (rkK r).2.1) (x := (rkN r).1) (r := (rkN r).2.1) (by
    have : rkN r = rdNum 131072 (rkK r).2.1 := by unfold rkN numS; rw [if_pos h2]
    rw [← this, ← h])
  refine ⟨b.1, a.1, ?_⟩
  rw [← b.2.2]
  exact a.2.2
theorem rk_up {k : Bs} {z : Nat} (hk : k.length ≤ 1024) (hz : z ≤ 131072) (r : Bs) : (rkK (textL k ++ (upL z ++ r))).1 = k ∧ rkN (textL k ++ (upL z ++ r)) = (z, r, 0) := by
  have a : rkK (textL k ++ (upL z ++ r)) = (k, upL z ++ r, 0) := by
    unfold rkK textS; rw [if_pos rfl]; exact rdText_up hk (by omega) _
  refine ⟨by rw [a], ?_⟩
  unfold rkN numS; rw [a, if_pos rfl]; exact rdNum_up hz (by omega) _
theorem enc_pos {b : List Pr} (h : mayB b = true) : 1 ≤ (encL [] b).length := by
  have h1 := (may_len h).1
  cases b with
  | nil => simp at h1
  | cons p r =>
    have := oneL_two [] p
    rw [encL, List.length_append]; omega
theorem encs_ge : ∀ (bs : List (List Pr)), (∀ b ∈ bs, mayB b = true) → bs.length ≤ (encs bs).length
  | [], _ => Nat.le_refl _
  | b :: bs, h => by
    have h1 := enc_pos (h b (List.mem_cons_self ..))
    have h2 := encs_ge bs (fun x hx => h x (List.mem_cons_of_mem _ hx))
    rw [encs, List.length_append, List.length_cons]; omega
theorem Sol.le {s R : Bs} {bs : List (List Pr)} (h : Sol s R bs) : bs.length ≤ s.length := by
  rw [← h.enc]; exact encs_ge bs (okB_may bs [] h.ok)
/-- What is left to be read. -/
def Rest (s R : Bs) (bs0 : List (List Pr)) (s1 R1 : Bs) (n : Nat) : Prop := ∀ bs, Sol s R bs → ∃ bs1, bs = bs0 ++ bs1 ∧ encs bs1 = s1 ∧ idxs bs1 = R1 ∧ bs1.length = n
theorem rest_start {s R R1 : Bs} {n : Nat} (hs : s.length ≤ 131072) (h : rdNum 131072 R = (n, R1, 0)) : Rest s R [] s R1 n := fun bs hb => by
  have hl := hb.le
  have := rdNum_up (most := 131072) (x := bs.length) (by omega) (by omega) (idxs bs)
  rw [hb.idx, h] at this
  simp only [Prod.mk.injEq, and_true] at this
  exact ⟨bs, rfl, hb.enc, this.2.symm, this.1.symm⟩
theorem rest_none {s R : Bs} (hs : s.length ≤ 131072) (h : (rdNum 131072 R).2.2 ≠ 0) : ∀ bs, ¬ Sol s R bs := fun bs hb => by
  have hl := hb.le
  have := rdNum_up (most := 131072) (x := bs.length) (by omega) (by omega) (idxs bs)
  rw [hb.idx] at this
  rw [this] at h
  exact h rfl
/-- So far. -/
structure Pos (s R : Bs) (bs0 : List (List Pr)) (s1 R1 : Bs) (n : Nat) : Prop where
  ok : okB [] bs0 = true
  enc : encs bs0 ++ s1 = s
  idx : upL (bs0.length + n) ++ (idxs bs0 ++ R1) = R
theorem pos_start {s R R1 : Bs} {n : Nat} (h : rdNum 131072 R = (n, R1, 0)) : Pos s R [] s R1 n := by
  have := rdNum_ok h
  exact ⟨rfl, rfl, by rw [this.2.2]; simp [idxs]⟩
theorem rest_core {s R s1 R1 : Bs} {bs0 : List (List Pr)} {n : Nat} (hs : s.length ≤ 131072) (h : Rest s R bs0 s1 R1 (n + 1)) {bs : List (List Pr)} (hb : Sol s R bs) : ∃ b bs2, bs = bs0 ++ b :: bs2 ∧ mayB b = true ∧ Op.bytesLess (lastB [] bs0) (b.getD 0 default).k = true ∧ (rkK R1).1 = lastK [] b ∧ rkN R1 = ((encL [] b).length, idxs bs2, 0) ∧ s1 = encL [] b ++ encs bs2 ∧ bs2.length = n := by
  obtain ⟨bs1, h1, h2, h3, h4⟩ := h bs hb
  obtain ⟨b, bs2, rfl⟩ : ∃ b bs2, bs1 = b :: bs2 := by
    cases bs1 with
    | nil => simp at h4
    | cons b bs2 => exact ⟨b, bs2, rfl⟩
  have hok := hb.ok
  rw [h1, okB_append, Bool.and_eq_true, okB, Bool.and_eq_true, Bool.and_eq_true] at hok
  have hm := hok.2.1.1
  have hk : (lastK [] b).length ≤ 1024 := by
    have h1 := (may_len hm).1
    rw [lastK_at b [] (by rintro rfl; simp at h1)]
    exact (badP_not (bad_of_may hm _ (getD_mem (by omega)))).2.1
  have hz : (encL [] b).length ≤ 131072 := by
    have := congrArg List.length hb.enc
    rw [h1, encs_append, encs, List.length_append, List.length_append] at this
    omega
  have hr := rk_up hk hz (idxs bs2)
  have e : R1 = textL (lastK [] b) ++ (upL (encL [] b).length ++ idxs bs2) := by rw [← h3, idxs, idx1, List.append_assoc]
  rw [← e] at hr
  exact ⟨b, bs2, h1, hm, hok.2.1.2, hr.1, hr.2, by rw [← h2, encs], by rw [List.length_cons] at h4; omega⟩
theorem rest_step {s R s1 R1 : Bs} {bs0 : List (List Pr)} {n : Nat} (hs : s.length ≤ 131072) (h : Rest s R bs0 s1 R1 (n + 1)) {l : List Pr} (hm : mayB l = true) (he : encL [] l = s1.take (rkN R1).1) : Rest s R (bs0 ++ [l]) (s1.drop (rkN R1).1) (rkN R1).2.1 n := fun bs hb => by
  obtain ⟨b, bs2, h1, h2, h3, h4, h5, h6, h7⟩ := rest_core hs h hb
  rw [h5] at he ⊢
  rw [h6, List.take_left' rfl] at he
  have : l = b := enc_inj hm h2 he
  subst this
  exact ⟨bs2, by rw [h1]; simp, by rw [h6, List.drop_left' rfl], rfl, h7⟩
theorem rest_fail {s R s1 R1 : Bs} {bs0 : List (List Pr)} {n : Nat} (hs : s.length ≤ 131072) (h : Rest s R bs0 s1 R1 (n + 1)) (hf : (rkN R1).2.2 ≠ 0 ∨ s1.length < (rkN R1).1 ∨ (∀ l, mayB l = true → encL [] l ≠ s1.take (rkN R1).1) ∨ ∃ l, mayB l = true ∧ encL [] l = s1.take (rkN R1).1 ∧ (Op.bytesLess (lastB [] bs0) (l.getD 0 default).k = false ∨ lastK [] l ≠ (rkK R1).1)) : ∀ bs, ¬ Sol s R bs := fun bs hb => by
  obtain ⟨b, bs2, h1, h2, h3, h4, h5, h6, h7⟩ := rest_core hs h hb
  rw [h5] at hf
  rcases hf with h8 | h8 | h8 | ⟨l, hm, he, h8⟩
  · exact h8 rfl
  · rw [h6, List.length_append] at h8; simp only at h8; omega
  · exact h8 b h2 (by rw [h6, List.take_left' rfl])
  · rw [h6, List.take_left' rfl] at he
    have : l = b := enc_inj hm h2 he
    subst this
    rcases h8 with h9 | h9
    · rw [h3] at h9; cases h9
    · exact h9 h4.symm
theorem pos_step {s R s1 R1 : Bs} {bs0 : List (List Pr)} {n : Nat} (h : Pos s R bs0 s1 R1 (n + 1)) (he0 : (rkN R1).2.2 = 0) (hz : (rkN R1).1 ≤ s1.length) {l : List Pr} (hm : mayB l = true) (he : encL [] l = s1.take (rkN R1).1) (hl : Op.bytesLess (lastB [] bs0) (l.getD 0 default).k = true) (hk : lastK [] l = (rkK R1).1) : Pos s R (bs0 ++ [l]) (s1.drop (rkN R1).1) (rkN R1).2.1 n := by
  obtain ⟨_, _, hr⟩ := rk_ok he0
  have hzl : (encL [] l).length = (rkN R1).1 := by rw [he, List.length_take]; omega
  refine ⟨?_, ?_, ?_⟩
  · rw [okB_append, h.ok, okB, hm, hl]; rfl
  · rw [encs_append, encs, encs, List.append_nil, List.append_assoc, he, List.take_append_drop]; exact h.enc
  · rw [← h.idx, idxs_append, idxs, idxs, List.append_nil, idx1, hk, hzl, List.length_append, List.length_singleton]
    conv => rhs; rw [hr]
    simp only [List.append_assoc]
    rw [show bs0.length + 1 + n = bs0.length + (n + 1) by omega]
theorem pos_end {s R : Bs} {bs0 : List (List Pr)} (h : Pos s R bs0 [] [] 0) : Sol s R bs0 := ⟨h.ok, by have := h.enc; rwa [List.append_nil] at this, by have := h.idx; rwa [List.append_nil, Nat.add_zero] at this⟩
theorem rest_end {s R s1 R1 : Bs} {bs0 : List (List Pr)} (h : Rest s R bs0 s1 R1 0) {bs : List (List Pr)} (hb : Sol s R bs) : bs = bs0 ∧ s1 = [] ∧ R1 = [] := by
  obtain ⟨bs1, h1, h2, h3, h4⟩ := h bs hb
  have : bs1 = [] := List.eq_nil_of_length_eq_zero h4
  subst this
  exact ⟨by rw [h1, List.append_nil], h2.symm, h3.symm⟩
/-- There is one at most. -/
theorem sol_one {s R : Bs} {a b : List (List Pr)} (hs : s.length ≤ 131072) (ha : Sol s R a) (hb : Sol s R b) : a = b := by
  have hl := ha.le
  have key : ∀ (a b : List (List Pr)), (∀ x ∈ a, mayB x = true) → (∀ x ∈ b, mayB x = true) → idxs a = idxs b → encs a = encs b → (encs a).length ≤ 131072 → a.length = b.length → a = b := by
    intro a
    induction a with
    | nil => intro b _ _ _ _ _ h; exact (List.eq_nil_of_length_eq_zero h.symm).symm
    | cons x a ih =>
      intro b hma hmb hi he hl hn
      cases b with
      | nil => simp at hn
      | cons y b =>
        have hx := hma x (List.mem_cons_self ..)
        have hy := hmb y (List.mem_cons_self ..)
        rw [encs, encs] at he
        have hl2 := congrArg List.length he
        rw [encs, List.length_append] at hl
        rw [List.length_append, List.length_append] at hl2
        have hk : ∀ b : List Pr, mayB b = true → (lastK [] b).length ≤ 1024 := fun b hm => by
          have h1 := (may_len hm).1
          rw [lastK_at b [] (by rintro rfl; simp at h1)]
          exact (badP_not (bad_of_may hm _ (getD_mem (by omega)))).2.1
        have r1 := rk_up (hk x hx) (show (encL [] x).length ≤ 131072 by omega) (idxs a)
        have r2 := rk_up (hk y hy) (show (encL [] y).length ≤ 131072 by omega) (idxs b)
        rw [idxs, idxs, idx1, idx1, List.append_assoc, List.append_assoc] at hi
        rw [hi] at r1
        have h3 := r1.2.symm.trans r2.2
        simp only [Prod.mk.injEq, and_true] at h3
        have h4 := List.append_inj he h3.1
        have : x = y := enc_inj hx hy h4.1
        subst this
        rw [ih b (fun z hz => hma z (List.mem_cons_of_mem _ hz)) (fun z hz => hmb z (List.mem_cons_of_mem _ hz)) h3.2 h4.2 (by omega) (by simpa using hn)]
  have h1 := rdNum_up (most := 131072) (x := a.length) (by omega) (by omega) (idxs a)
  have h2 := rdNum_up (most := 131072) (x := b.length) (by have := hb.le; omega) (by have := hb.le; omega) (idxs b)
  rw [ha.idx] at h1
  rw [hb.idx, h1] at h2
  simp only [Prod.mk.injEq, and_true] at h2
  exact key a b (okB_may a [] ha.ok) (okB_may b [] hb.ok) h2.2 (ha.enc.trans hb.enc.symm) (by rw [ha.enc]; exact hs) h2.1
end Go.Proofs.Ytpengejnjmicnaa
end
section
namespace Go.Proofs.Ytpengejnjmicnaa
open Go.RowKit Go.Nb
/-- Blocks in a row of one's own, each in a block of pairs. -/
def TsRd (w : World) (base : Nat) (v : Value) (bs : List (List Pr)) : Prop := ∃ vs, w.ownsRow base 22 1 v bs.length vs ∧ VsRd w 0 vs bs
theorem TsRd.ext {w w' : World} {base : Nat} {v : Value} {bs : List (List Pr)} (h : TsRd w base v bs) (hE : Ext w w') : TsRd w' base v bs := by
  obtain ⟨vs, h1, h2⟩ := h
  exact ⟨vs, World.ownsRow.ext h1 hE, h2.ext hE⟩
theorem TsRd.nil (w : World) (base : Nat) : TsRd w base (.slice none 0 0) [] := ⟨[], World.ownsRow_nil _ _ _ _, rfl, fun j hj => by cases hj⟩
theorem TsRd.val {w : World} {base : Nat} {v : Value} {bs : List (List Pr)} (h : TsRd w base v bs) : ∃ A c, v = .slice A bs.length c := by
  obtain ⟨vs, h1, _⟩ := h
  exact h1.val
theorem ownsRow_mono {w : World} {b b' : Nat} {e : TypeId} {s : Nat} {v : Value} {n : Nat} {xs : List Value} (h : w.ownsRow b e s v n xs) (hb : b' ≤ b) : w.ownsRow b' e s v n xs := by
  refine ⟨h.1, ?_⟩
  rcases h.2 with h2 | ⟨g, cap, cur, hv, hg, rest⟩
  · exact .inl h2
  · exact .inr ⟨g, cap, cur, hv, by omega, rest⟩
theorem Far.r53 {w : World} {B : Option Addr} (h : Far w 0 B) : Row53 w B := fun a ha => by
  rcases h a ha with h1 | h1
  · omega
  · exact h1
theorem Row53.ne {w : World} {B : Option Addr} (h : Row53 w B) {t : TypeId} {g n : Nat} {f : Nat → Value} (hc : CellsT w t g n f) (hne : t ≠ 53) : ∀ a, B = some a → a.block ≠ g := fun a ha e => by
  obtain ⟨cs, fz, h1⟩ := h a ha
  obtain ⟨D, _, ⟨lo, hi, hb, _⟩, _⟩ := hc
  rw [e, hb] at h1
  injection h1 with h1
  injection h1 with _ h2
  exact hne h2
theorem Row53.turn {w w' : World} {B : Option Addr} {H : Nat → Prop} (h : Row53 w B) (hT : Turn H w w') (hH : ∀ a, B = some a → ¬ H a.block) : Row53 w' B := fun a ha => by
  obtain ⟨cs, fz, h1⟩ := h a ha
  exact ⟨cs, fz, by rw [hT.block a.block (heap_lt h1) (hH a ha)]; exact h1⟩
theorem PRd.turn {w w' : World} {A : Option Addr} {n : Nat} {l : List Pr} {H : Nat → Prop} (h : PRd w A n l) (hT : Turn H w w') (hA : ∀ a, A = some a → ¬ H a.block) : PRd w' A n l := by
  refine ⟨h.1, fun h0 => ?_⟩
  obtain ⟨gg, o, ha, hc⟩ := h.2 h0
  exact ⟨gg, o, ha, fun i j hi hj => hT.cellv (hc i j hi hj) (hA ⟨gg, o, none⟩ ha)⟩
theorem own22_blk {w : World} {base n : Nat} {v : Value} {xs : List Value} (h : w.ownsRow base 22 1 v n xs) {t : TypeId} {g m : Nat} {f : Nat → Value} (hc : CellsT w t g m f) (hne : t ≠ 22) : ∀ k, v.ownBlock = some k → k ≠ g := fun k hk e => by
  rcases h.2 with ⟨h1, _⟩ | ⟨g2, cap, cur, hv, _, hg, _⟩
  · rw [h1] at hk; cases hk
  · rw [hv] at hk
    have e2 : g2 = k := by simpa [Value.ownBlock] using hk
    obtain ⟨D, _, ⟨lo, hi, hb, _⟩, _⟩ := hc
    rw [← e, ← e2, hg] at hb
    injection hb with hb
    injection hb with _ h2
    exact hne h2.symm
/-- Where the block of a struct turns. -/
theorem TsRd.turn {w w' : World} {base : Nat} {v : Value} {bs : List (List Pr)} (h : TsRd w base v bs) {t : TypeId} {g n : Nat} {f : Nat → Value} (hc : CellsT w t g n f) (h1 : t ≠ 22) (h2 : t ≠ 53) (hT : Turn (· = g) w w') : TsRd w' base v bs := by
  obtain ⟨vs, ho, hv⟩ := h
  refine ⟨vs, World.ownsRow.turn ho hT (own22_blk ho hc h1), hv.1, fun j hj => ?_⟩
  obtain ⟨B, cb, e1, e2, e3, e4⟩ := hv.2 j hj
  have hne := (Far.r53 e4).ne hc h2
  exact ⟨B, cb, e1, e2.turn hT hne, e3, fun a ha => .inr ((Far.r53 e4).turn hT hne a ha)⟩
section
variable {ops : Array Oper} {a : Act} {K : Act → World → Prop} {Q : Exit → Act → World → Prop} {E : Prop}
theorem step_appT {o : Oper} (w0 : World) (hgd : o.guard = none) (s x : Operand) (ho : o.op = .call { callee := .builtin .append, args := #[s, x], argTypes := #[54, 54] })
    (base : Nat) (v : Value) (bs : List (List Pr)) (hs : a.eval s = v) (hB : TsRd w0 base v bs) (u : Value) (b : List Pr) (hu : BlkV w0 0 u b)
    (H : Nat) (hx : a.eval x = .slice (some ⟨H, 0, none⟩) 1 1) (hH : w0.heap.size = H) (hn : bs.length ≤ 1048576) (hbase : base ≤ w0.heap.size)
    (h : ∀ g cap w', TsRd w' base (.slice (some ⟨g, 0, none⟩) (bs.length + 1) cap) (bs ++ [b]) → Gro base w0 w' → (w0.alloc (.cells #[u] 22)).grownBy w' v.ownBlock → K (a.put o.dst (.slice (some ⟨g, 0, none⟩) (bs.length + 1) cap)) w') :
    if Region.wanted o (yielded ops a.tmps) = true then Oper.wp Try.prog o a (w0.alloc (.cells #[u] 22)) K Q else E := by
  obtain ⟨vs, hown, hvs⟩ := hB
  have hu2 := hu
  obtain ⟨B, cb, rfl, _, _, _⟩ := hu2
  refine step_app w0 hgd s x 54 22 ho Try.underlying54 _ [.slice B b.length cb] 1 24 infoSl rfl rfl (by decide) (by decide) base v bs.length vs hs hown (one_slice _ _ _) H hx hH hn hbase ?_
  intro g cap w' hO hG hg
  have hX := (Ext.refl w0).alloc (.cells #[.slice B b.length cb] 22)
  refine h g cap w' ⟨vs ++ [.slice B b.length cb], ?_, ?_⟩ hG hg
  · rw [List.length_append, List.length_singleton]; exact hO
  · have ho2 := ownsRow_mono (World.ownsRow.ext hown hX) (Nat.zero_le base)
    exact VsRd.snoc ⟨hvs.1, fun j hj => ((hvs.2 j hj).ext hX).row ho2 hg⟩ ((hu.ext hX).row ho2 hg)
end
/-- A table's block. -/
def tbC (v : Value) (n : Nat) (i : Nat) : Value := if i = 0 then v else .int .i64 n
def TbAt (w : World) (gt : Nat) (v : Value) (n : Nat) : Prop := CellsT w 66 gt 2 (tbC v n)
section
variable {w w' : World} {gt : Nat} {v : Value} {n : Nat}
theorem TbAt.c0 (h : TbAt w gt v n) : w.cell? ⟨gt, 0, none⟩ = some v := CellsT.cell h 0 (by omega)
theorem TbAt.c1 (h : TbAt w gt v n) : w.cell? ⟨gt, 1, none⟩ = some (.int .i64 n) := CellsT.cell h 1 (by omega)
theorem TbAt.f0 (h : TbAt w gt v n) : w.frozen? ⟨gt, 0, none⟩ = false := CellsT.frozen h 0 (by omega)
theorem TbAt.f1 (h : TbAt w gt v n) : w.frozen? ⟨gt, 1, none⟩ = false := CellsT.frozen h 1 (by omega)
theorem TbAt.set2 (h : TbAt w gt v n) (u : Value) (m : Nat) : TbAt ((w.setCell ⟨gt, 0, none⟩ u).setCell ⟨gt, 1, none⟩ (.int .i64 m)) gt u m :=
  CellsT.set_ (CellsT.set_ (h := tbC u n) h 0 u (fun j hj => by
    rcases (by omega : j = 0 ∨ j = 1) with rfl | rfl <;> rfl)) 1 (.int .i64 m) (fun j hj => by
    rcases (by omega : j = 0 ∨ j = 1) with rfl | rfl <;> rfl)
end
theorem _root_.Go.CellsT.growT {w w' : World} {t : TypeId} {g m : Nat} {f : Nat → Value} {base : Nat} {v : Value} {bs : List (List Pr)} (h : CellsT w t g m f) (hne : t ≠ 22) (hs : TsRd w base v bs) (hg : w.grownBy w' v.ownBlock) : CellsT w' t g m f := by
  obtain ⟨vs, ho, _⟩ := hs
  exact h.heap (hg.block g h.lt (fun e => own22_blk ho h hne _ e.symm rfl))
/-- What 'reads' answers. -/
def ReadsIs (s R : Bs) (W : World) (gt g : Nat) (e : Ending) (w' : World) : Prop :=
  (∃ bs v, bs ≠ [] ∧ Sol s R bs ∧ e = .returned (.bool true) ∧ TbAt w' gt v bs.flatten.length ∧ TsRd w' W.heap.size v bs ∧ Turn (fun k => k = gt ∨ k = g) W w') ∨
  ((∀ bs, bs ≠ [] → ¬ Sol s R bs) ∧ e = .returned (.bool false) ∧ Turn (fun k => k = gt ∨ k = g) W w')
/-- Table and reader, as 'reads' has them. -/
structure RSt (W : World) (gt g : Nat) (R1 : Bs) (e : Int) (v : Value) (bs0 : List (List Pr)) (w : World) : Prop where
  rd : RdrAt w g R1 e
  tb : TbAt w gt v bs0.flatten.length
  ts : TsRd w W.heap.size v bs0
  tu : Turn (fun k => k = gt ∨ k = g) W w
section
variable {W w w' : World} {gt g : Nat} {R1 R2 : Bs} {e e2 : Int} {v : Value} {bs0 : List (List Pr)}
theorem RSt.ext (h : RSt W gt g R1 e v bs0 w) (hE : Ext w w') : RSt W gt g R1 e v bs0 w' := ⟨h.rd.ext hE, CellsT.ext h.tb hE, h.ts.ext hE, h.tu.trans (Turn.of hE)⟩
theorem RSt.read (h : RSt W gt g R1 e v bs0 w) (hR : RdrAt w' g R2 e2) (hT : Turn (· = g) w w') : RSt W gt g R2 e2 v bs0 w' :=
  ⟨hR, hT.cellsT h.tb (CellsT.ne h.tb h.rd (by decide)), h.ts.turn h.rd (by decide) (by decide) hT, h.tu.trans (hT.mono (fun k hk => .inr hk))⟩
end
theorem rkN_le (r : Bs) : (rkN r).1 ≤ 131072 := by
  unfold rkN
  unfold numS
  split
  · exact (show (rdNum 131072 _).1 ≤ 131072 by
      have := (numS_val 131072 (rkK r).2.1).1
      unfold numS at this
      rwa [if_pos rfl] at this)
  · exact Nat.zero_le _
theorem rk_lens (r : Bs) : (rkK r).2.1.length ≤ r.length ∧ (rkN r).2.1.length ≤ r.length := by
  have h1 := textS_len 1024 r 0
  refine ⟨h1, ?_⟩
  unfold rkN numS
  split
  · have := (numS_val 131072 (rkK r).2.1).2
    unfold numS at this
    rw [if_pos rfl] at this
    exact Nat.le_trans this h1
  · exact h1
theorem encs_flat : ∀ bs : List (List Pr), bs.flatten.length ≤ (encs bs).length
  | [] => Nat.le_refl _
  | b :: bs => by
    have h1 : ∀ (b : List Pr) (last : Bs), b.length ≤ (encL last b).length := by
      intro b
      induction b with
      | nil => intro _; exact Nat.le_refl _
      | cons p r ih => intro last; have := ih p.k; have := oneL_two last p; rw [encL, List.length_append, List.length_cons]; omega
    have h2 := h1 b []
    have h3 := encs_flat bs
    rw [List.flatten_cons, encs, List.length_append, List.length_append]; omega
/-- How far 'reads' has come. -/
def RInv (s R : Bs) (bs0 : List (List Pr)) (s1 R1 : Bs) (n : Nat) (e : Int) : Prop := (e = 0 ∧ Rest s R bs0 s1 R1 n ∧ Pos s R bs0 s1 R1 n) ∨ (e ≠ 0 ∧ n = 0 ∧ ∀ bs, ¬ Sol s R bs)
set_option maxHeartbeats 2000000 in
set_option maxRecDepth 100000 in
theorem reads_any {W : World} {gt g : Nat} {s R : Bs} (hT : TbAt W gt (.slice none 0 0) 0) (hR : RdrAt W g R 0) (hs : s.length ≤ 131072) (hR2 : R.length ≤ 1048576) : Calls Try.prog 35 #[.pointer (some ⟨gt, 0, none⟩), .string (Bt s), .pointer (some ⟨g, 0, none⟩)] W (ReadsIs s R W gt g) := by
  have HS := Lib.hid hs
  have hN := num_all (most := 131072) hR hR2
  have hn0 : (numS 131072 R 0).1 ≤ 131072 ∧ (numS 131072 R 0).2.1.length ≤ R.length := numS_val 131072 R
  have hNS : numS 131072 R 0 = rdNum 131072 R := by unfold numS; rw [if_pos rfl]
  have HI : Hid (RInv s R [] s (numS 131072 R 0).2.1 (numS 131072 R 0).1 (numS 131072 R 0).2.2) := Lib.hid (by
    rw [hNS]
    by_cases h0 : (rdNum 131072 R).2.2 = 0
    · have e : rdNum 131072 R = ((rdNum 131072 R).1, (rdNum 131072 R).2.1, 0) := by rw [← h0]
      exact .inl ⟨h0, rest_start hs e, pos_start e⟩
    · refine .inr ⟨h0, ?_, rest_none hs h0⟩
      have h1 := numV_is 131072 R
      have h2 := numE_is 131072 R
      rw [← h2, if_neg h0] at h1
      exact h1)
  obtain ⟨n0, hn0'⟩ : ∃ n0, n0 = (numS 131072 R 0).1 := ⟨_, rfl⟩
  obtain ⟨R0, hR0⟩ : ∃ R0, R0 = (numS 131072 R 0).2.1 := ⟨_, rfl⟩
  obtain ⟨e0, he0⟩ : ∃ e0, e0 = (numS 131072 R 0).2.2 := ⟨_, rfl⟩
  rw [← hn0', ← hR0, ← he0] at HI
  rw [← hn0', ← hR0] at hn0
  rw [← hn0', ← hR0, ← he0] at hN
  have HN : Hid (Calls Try.prog 54 #[.pointer (some ⟨g, 0, none⟩), .int .u64 131072] W fun x w' => x = .returned (.int .u64 n0) ∧ RdrAt w' g R0 e0 ∧ Turn (· = g) W w') := Lib.hid hN
  have HST := Lib.hid (show RSt W gt g R 0 (.slice none 0 0) [] W from ⟨hR, hT, TsRd.nil _ _, Turn.refl _⟩)
  have HN0 := Lib.hid hn0
  have HRL := Lib.hid hR2
  clear hs hN hn0 hNS hn0' hR0 he0 hT hR hR2
  go_enter Try.func35, Try.ntmps35
  go_wp2
  go_step3
  go_wp2
  go_step3
  go_wp2_with (go_at_call 54; (with_reducible refine HN.out.mono ?_); rintro e w1 ⟨rfl, hR1, hT1⟩)
  have HS1 := Lib.hid (HST.out.read hR1 hT1)
  clear hR1 hT1
  go_loopw [1, 7, 8, 9] (fun sv kv fv nv wr => ∃ (n : Nat) (s1 R1 : Bs) (e : Int) (bs0 : List (List Pr)) (v : Value), sv = .string (Bt s1) ∧ kv = .string (Bt (lastB [] bs0)) ∧ fv = .bool true ∧ nv = .int .u64 n ∧ n ≤ 131072 ∧ s1.length ≤ s.length ∧ R1.length ≤ R.length ∧ Hid (RInv s R bs0 s1 R1 n e) ∧ RSt W gt g R1 e v bs0 wr) (fun _ _ _ nv _ => (intOf nv).toNat)
  case atStart => exact ⟨n0, s, R0, e0, [], _, rfl, rfl, rfl, rfl, HN0.out.1, Nat.le_refl _, HN0.out.2, HI, HS1.out⟩
  case round =>
    obtain ⟨n, s1, R1, e, bs0, v, rfl, rfl, rfl, rfl, hn, hs1, hr1, hI, hst⟩ := hrel
    have HSS := HS.out
    have HRR := HRL.out
    have nn : (0 : Int) ≤ (n : Int) := by omega
    by_cases hn0 : n = 0
    · subst hn0
      have jj : ¬ (0 : Int) < (0 : Int) := by omega
      have hTB := toList_Bt
      have HEN := end_any hst.rd
      have hst0 := hst
      obtain ⟨A1, c1, rfl⟩ := hst.ts.val
      by_cases hE : endE R1 e = 0
      · have hee : e = 0 ∧ R1 = [] := by
          unfold endE at hE
          by_cases h1 : e = 0
          · subst h1
            refine ⟨rfl, ?_⟩
            rw [if_neg (by simp)] at hE
            by_cases h2 : R1 = []
            · exact h2
            · rw [if_neg h2] at hE; cases hE
          · rw [if_pos h1] at hE; exact absurd hE h1
        obtain ⟨rfl, rfl⟩ := hee
        rw [hE] at HEN
        have HEN := Lib.hid HEN
        obtain ⟨hrest, hpos⟩ : Rest s R bs0 s1 [] 0 ∧ Pos s R bs0 s1 [] 0 := by
          rcases hI.out with ⟨_, h, h'⟩ | ⟨h, _⟩
          · exact ⟨h, h'⟩
          · exact absurd rfl h
        by_cases hs0 : s1 = []
        · subst hs0
          by_cases hb0 : bs0 = []
          · subst hb0
            have HNO : Hid (∀ bs, bs ≠ [] → ¬ Sol s R bs) := Lib.hid (fun bs hne hb => hne (rest_end hrest hb).1)
            have HST := Lib.hid hst0
            clear hI hrest hpos hE hst hst0
            go_wp2_with (go_at_call 58; (with_reducible refine HEN.out.mono ?_); rintro e1 w2 ⟨rfl, hT2⟩; have tb2 := hT2.cellsT HST.out.tb (CellsT.ne HST.out.tb HST.out.rd (by decide)); have t0 : w2.cell? ⟨gt, 0, none⟩ = some (.slice A1 0 c1) := TbAt.c0 tb2)
            rw [Exit.noGoto_ret]
            go_ret
            exact .inr ⟨HNO.out, rfl, HST.out.tu.trans (hT2.mono (fun k hk => .inr hk))⟩
          · have HSOL := Lib.hid (pos_end hpos)
            have HST := Lib.hid hst0
            have HB0 := Lib.hid hb0
            have hl0 : 0 < bs0.length := List.length_pos_iff.mpr hb0
            obtain ⟨m, hm⟩ : ∃ m, m = bs0.length := ⟨_, rfl⟩
            have m0 : (0 : Int) < (m : Int) := by omega
            have m1 : decide (0 < m) = true := by simp; omega
            have m2 : decide ((0 : Int) < (m : Int)) = true := by simp; omega
            rw [← hm] at HST
            have HM := Lib.hid hm
            clear hI hrest hpos hE hst hst0 hb0 hl0 hm
            go_wp2_with (go_at_call 58; (with_reducible refine HEN.out.mono ?_); rintro e1 w2 ⟨rfl, hT2⟩; have tb2 := hT2.cellsT HST.out.tb (CellsT.ne HST.out.tb HST.out.rd (by decide)); have t0 : w2.cell? ⟨gt, 0, none⟩ = some (.slice A1 m c1) := TbAt.c0 tb2)
            rw [Exit.noGoto_ret]
            go_ret
            exact .inl ⟨bs0, _, HB0.out, HSOL.out, rfl, tb2, HST.out.ts.turn HST.out.rd (by decide) (by decide) hT2, HST.out.tu.trans (hT2.mono (fun k hk => .inr hk))⟩
        · have HNO : Hid (∀ bs, ¬ Sol s R bs) := Lib.hid (fun bs hb => hs0 (rest_end hrest hb).2.1)
          have HST := Lib.hid hst0
          have t1 : (s1 == []) = false := by simpa using hs0
          clear hI hrest hpos hE hst hst0 hs0
          go_wp2_with (go_at_call 58; (with_reducible refine HEN.out.mono ?_); rintro e1 w2 ⟨rfl, hT2⟩)
          rw [Exit.noGoto_ret]
          go_ret
          exact .inr ⟨fun bs _ => HNO.out bs, rfl, HST.out.tu.trans (hT2.mono (fun k hk => .inr hk))⟩
      · have HNO : Hid (∀ bs, ¬ Sol s R bs) := Lib.hid (fun bs hb => by
          rcases hI.out with ⟨h1, h2, _⟩ | ⟨_, _, h⟩
          · have := (rest_end h2 hb).2.2
            apply hE
            unfold endE
            rw [h1, this]; rfl
          · exact h bs hb)
        have HST := Lib.hid hst0
        obtain ⟨E, hEE⟩ : ∃ E, E = endE R1 e := ⟨_, rfl⟩
        rw [← hEE] at HEN hE
        have tE : (E == 0) = false := by simpa using hE
        have HEN := Lib.hid HEN
        clear hI hE hst hst0 hEE
        go_wp2_with (go_at_call 58; (with_reducible refine HEN.out.mono ?_); rintro e1 w2 ⟨rfl, hT2⟩)
        rw [Exit.noGoto_ret]
        go_ret
        exact .inr ⟨fun bs _ => HNO.out bs, rfl, HST.out.tu.trans (hT2.mono (fun k hk => .inr hk))⟩
    · have kk : (0 : Int) < (n : Int) := by omega
      obtain ⟨n', rfl⟩ : ∃ n', n = n' + 1 := ⟨n - 1, by omega⟩
      obtain ⟨rfl, hrest, hpos⟩ : e = 0 ∧ Rest s R bs0 s1 R1 (n' + 1) ∧ Pos s R bs0 s1 R1 (n' + 1) := by
        rcases hI.out with h | ⟨_, h, _⟩
        · exact h
        · omega
      have hlen := rk_lens R1
      have HT1 : Hid (∀ w', RdrAt w' g R1 0 → Calls Try.prog 55 #[.pointer (some ⟨g, 0, none⟩), .int .i64 1024] w' fun x w2 => x = .returned (.string (Bt (rkK R1).1)) ∧ RdrAt w2 g (rkK R1).2.1 (rkK R1).2.2 ∧ Turn (· = g) w' w2) := Lib.hid (fun w' h => text_all (most := 1024) h (by omega) (by omega))
      have HN1 : Hid (∀ w', RdrAt w' g (rkK R1).2.1 (rkK R1).2.2 → Calls Try.prog 54 #[.pointer (some ⟨g, 0, none⟩), .int .u64 131072] w' fun x w2 => x = .returned (.int .u64 (rkN R1).1) ∧ RdrAt w2 g (rkN R1).2.1 (rkN R1).2.2 ∧ Turn (· = g) w' w2) := Lib.hid (fun w' h => num_all (most := 131072) h (by omega))
      have hzle := rkN_le R1
      have HREST := Lib.hid hrest
      have HPOS := Lib.hid hpos
      obtain ⟨key, hkey⟩ : ∃ key, key = (rkK R1).1 := ⟨_, rfl⟩
      obtain ⟨z, hz⟩ : ∃ z, z = (rkN R1).1 := ⟨_, rfl⟩
      obtain ⟨e2, he2⟩ : ∃ e2, e2 = (rkN R1).2.2 := ⟨_, rfl⟩
      have HKEY := Lib.hid hkey
      have HZ := Lib.hid hz
      have HE2 := Lib.hid he2
      rw [← hkey] at HT1
      rw [← hz, ← he2] at HN1
      rw [← hz] at hzle
      have z0 : (0 : Int) ≤ (z : Int) := by omega
      have z1 : (z : Int) ≤ 131072 := by omega
      have zs : ((Bt s1).size : Int) = (s1.length : Int) := rfl
      have HST2 := Lib.hid hst
      have HLEN := Lib.hid hlen
      clear hrest hpos hkey hz he2 hI hst hlen
      by_cases h2 : e2 = 0
      · subst h2
        by_cases h3 : s1.length < z
        · have t3 : decide ((s1.length : Int) < (z : Int)) = true := by simp; omega
          have HNO := Lib.hid (rest_fail HS.out HREST.out (.inr (.inl (by rw [← HZ.out]; exact h3))))
          go_wp2_with (first
            | (go_at_call 55; (with_reducible refine (HT1.out _ HST2.out.rd).mono ?_); rintro e w2 ⟨rfl, hR2, hT2⟩; have st2 := HST2.out.read hR2 hT2)
            | (go_at_call 54; (with_reducible refine (HN1.out _ hR2).mono ?_); rintro e w3 ⟨rfl, hR3, hT3⟩; have st3 := st2.read hR3 hT3)
            | (go_at_call 56; (with_reducible refine (err_any st3.rd).mono ?_); rintro e w4 ⟨rfl, hE4⟩; have st4 := Lib.hid (st3.ext hE4)))
          rw [Exit.noGoto_ret]
          go_ret
          exact .inr ⟨fun bs _ => HNO.out bs, rfl, st4.out.tu⟩
        · have t3 : decide ((s1.length : Int) < (z : Int)) = false := by simp; omega
          have hzs : z ≤ s1.length := by omega
          have zi : (z : Int) ≤ (s1.length : Int) := by omega
          have hsl := slice_hi s1 z hzs
          have hsl2 := slice_hi2 s1 z hzs
          have HD : Hid (∀ w, Calls Try.prog 57 #[.string (Bt (s1.take z))] w (DecIs (s1.take z) w)) := Lib.hid (fun w => decode_any (Bt (s1.take z)) (by rw [Bt_size, List.length_take]; omega) w)
          have HZS := Lib.hid hzs
          go_wp2_with (first
            | (go_at_call 55; (with_reducible refine (HT1.out _ HST2.out.rd).mono ?_); rintro e w2 ⟨rfl, hR2, hT2⟩; have st2 := HST2.out.read hR2 hT2)
            | (go_at_call 54; (with_reducible refine (HN1.out _ hR2).mono ?_); rintro e w3 ⟨rfl, hR3, hT3⟩; have st3 := st2.read hR3 hT3)
            | (go_at_call 56; (with_reducible refine (err_any st3.rd).mono ?_); rintro e w4 ⟨rfl, hE4⟩; have st4 := Lib.hid (st3.ext hE4)))
          refine (HD.out _).mono ?_
          rintro e w5 (⟨l, A, c, hm, he, rfl, hc, hP, hr, hE5⟩ | ⟨hno, rfl, hE5⟩)
          · have st5 := Lib.hid (st4.out.ext hE5)
            have HM := Lib.hid hm
            have HE := Lib.hid he
            have hml := may_len hm
            obtain ⟨bl, hbl⟩ : ∃ bl, bl = l.length := ⟨_, rfl⟩
            have HBV : Hid (BlkV w5 0 (.slice A bl c) l) := Lib.hid (by rw [hbl]; exact ⟨A, c, rfl, hP, hc, fun a ha => .inr (hr a ha)⟩)
            rw [← hbl] at hP hml
            obtain ⟨g2, o2, rfl, k0c, _⟩ := hP.at_ 0 (by omega)
            obtain ⟨_, _, hAA, k1c, _⟩ := hP.at_ (bl - 1) (by omega)
            injection hAA with hAA
            injection hAA with e1 e2'
            subst e1
            subst e2'
            rw [Nat.zero_mul, Nat.add_zero] at k0c
            have hlk := last_getD (b := l) (by intro e; rw [e] at hbl; simp at hbl; omega)
            rw [← hbl] at hlk
            rw [← hlk] at k1c
            have hxy : ∀ bs : List (List Pr), (Op.bytesLess (lastB [] bs0) (l.getD 0 default).k = false ∨ lastK [] l ≠ key) → ¬ Sol s R bs := fun bs h8 => rest_fail HS.out HREST.out (.inr (.inr (.inr ⟨l, HM.out, by rw [← HZ.out]; exact HE.out, by rw [← HKEY.out]; exact h8⟩))) bs
            have hgo : Op.bytesLess (lastB [] bs0) (l.getD 0 default).k = true → lastK [] l = key → Rest s R (bs0 ++ [l]) (s1.drop z) (rkN R1).2.1 n' ∧ Pos s R (bs0 ++ [l]) (s1.drop z) (rkN R1).2.1 n' := fun h8 h9 => by
              have a1 := rest_step HS.out HREST.out HM.out (by rw [← HZ.out]; exact HE.out)
              have a2 := pos_step HPOS.out HE2.out.symm (by rw [← HZ.out]; exact HZS.out) HM.out (by rw [← HZ.out]; exact HE.out) h8 (by rw [h9, HKEY.out])
              rw [← HZ.out] at a1 a2
              exact ⟨a1, a2⟩
            obtain ⟨k0, hk0⟩ : ∃ k0, k0 = (l.getD 0 default).k := ⟨_, rfl⟩
            obtain ⟨k1, hk1⟩ : ∃ k1, k1 = lastK [] l := ⟨_, rfl⟩
            obtain ⟨lb, hlb⟩ : ∃ lb, lb = lastB [] bs0 := ⟨_, rfl⟩
            rw [← hk0] at k0c hxy hgo
            rw [← hk1] at k1c hxy hgo
            rw [← hlb] at hxy hgo
            have HXY := Lib.hid hxy
            have HGO := Lib.hid hgo
            have HK1 := Lib.hid hk1
            obtain ⟨q, hq⟩ : ∃ q, q = bl - 1 := ⟨_, rfl⟩
            rw [← hq] at k1c
            have hqI : (bl : Int) - 1 = (q : Int) := by omega
            have q0 : (0 : Int) ≤ (q : Int) := by omega
            have q1 : (q : Int) < (bl : Int) := by omega
            have bl0 : (0 : Int) < (bl : Int) := by omega
            have q4 : (q : Int) ≤ 4096 := by omega
            rw [← hbl]
            rw [← hlb]
            have hTB := toList_Bt
            have HBL := Lib.hid hbl
            have HLB := Lib.hid hlb
            clear hm he hc hP hr hml hlk hxy hgo hk0 hk1 hq hbl hlb
            cases hx : Op.bytesLess lb k0
            · have HNO : Hid (∀ bs, ¬ Sol s R bs) := Lib.hid (fun bs => HXY.out bs (.inl hx))
              cases hy : Op.bytesLess k0 lb
              · have hz : (k0 == lb) = true := by
                  rw [beq_iff_eq]
                  apply Classical.byContradiction
                  intro hne
                  have := not_less hx (fun e => hne e.symm)
                  rw [hy] at this; cases this
                go_wp2
                rw [Exit.noGoto_ret]
                go_ret
                exact .inr ⟨fun bs _ => HNO.out bs, rfl, st5.out.tu⟩
              · go_wp2
                rw [Exit.noGoto_ret]
                go_ret
                exact .inr ⟨fun bs _ => HNO.out bs, rfl, st5.out.tu⟩
            · obtain ⟨hy, hz⟩ := less_asymm hx
              by_cases hk : k1 = key
              · have tk : (k1 == key) = true := by simp [hk]
                have HG2 := Lib.hid (HGO.out hx hk)
                have HKK := Lib.hid hk
                clear hk
                have hsl3 := slice_str s1 z HZS.out
                have hsl4 := slice_str2 s1 z HZS.out
                have hts := st5.out.ts
                obtain ⟨A1, c1, rfl⟩ := hts.val
                have htb := st5.out.tb
                have hfl : bs0.flatten.length ≤ 131072 := by
                  have h1 := encs_flat bs0
                  have h2 := congrArg List.length HPOS.out.enc
                  rw [List.length_append] at h2
                  omega
                have HB5 : Hid (bs0.length ≤ 131072) := Lib.hid (by
                  have h1 := encs_ge bs0 (okB_may bs0 [] HPOS.out.ok)
                  have h2 := congrArg List.length HPOS.out.enc
                  rw [List.length_append] at h2
                  omega)
                have HTS := Lib.hid hts
                have HTB := Lib.hid htb
                have HFLX := Lib.hid (show (bs0 ++ [l]).flatten.length = bs0.flatten.length + bl by rw [List.flatten_append, List.length_append, HBL.out]; simp)
                have t0 : w5.cell? ⟨gt, 0, none⟩ = some (.slice A1 bs0.length c1) := TbAt.c0 htb
                have t1 : w5.cell? ⟨gt, 1, none⟩ = some (.int .i64 bs0.flatten.length) := TbAt.c1 htb
                obtain ⟨cn, hcn⟩ : ∃ cn, cn = bs0.flatten.length := ⟨_, rfl⟩
                rw [← hcn] at t1 hfl
                have n0' : (0 : Int) ≤ (cn : Int) := by omega
                have n1' : (cn : Int) ≤ 131072 := by omega
                have b4 : (bl : Int) ≤ 4097 := by omega
                have hwr : IntKind.i64.wrap ((cn : Int) + (bl : Int)) = (cn : Int) + (bl : Int) := IntWalk.i64_in _ (by omega)
                have HCN := Lib.hid hcn
                have HTUS := Lib.hid st5.out.tu.size
                have ta0 := ((Ext.refl w5).alloc (.cells #[.slice (some ⟨g2, o2, none⟩) bl c] 22)).cellv t0
                have ta1 := ((Ext.refl w5).alloc (.cells #[.slice (some ⟨g2, o2, none⟩) bl c] 22)).cellv t1
                clear hts htb hfl hcn
                go_wp2
                go_region_law ((refine step_appT w5.drew rfl _ _ (by rfl) W.heap.size (.slice A1 bs0.length c1) bs0 (by rfl) (HTS.out.ext (Ext.refl _).drew) (.slice (some ⟨g2, o2, none⟩) bl c) l (HBV.out.ext (Ext.refl _).drew) _ (by rfl) (by simp) (by have := HB5.out; omega) (by have := HTUS.out; simpa using this) ?_; intro g6 c6 w6 hT6 hG6 hg6; have tb6 := (HTB.out.ext (((Ext.refl w5).drew).alloc (.cells #[.slice (some ⟨g2, o2, none⟩) bl c] 22))).growT (by decide) (HTS.out.ext (((Ext.refl w5).drew).alloc (.cells #[.slice (some ⟨g2, o2, none⟩) bl c] 22))) hg6; have t0 := TbAt.c0 tb6; have t1 := TbAt.c1 tb6; rw [← HCN.out] at t1; have f0 := TbAt.f0 tb6; have f1 := TbAt.f1 tb6))
                all_goals
                  have hxd := ((Ext.refl w5).drew).alloc (.cells #[.slice (some ⟨g2, o2, none⟩) bl c] 22)
                  have rd6 := (st5.out.rd.ext hxd).growT (by decide) (HTS.out.ext hxd) hg6
                  have hT7 : Turn (· = gt) w6 ((w6.setCell ⟨gt, 0, none⟩ (.slice (some ⟨g6, 0, none⟩) (bs0.length + 1) c6)).setCell ⟨gt, 1, none⟩ (.int .i64 ((cn : Int) + (bl : Int)))) := (Turn.set_ (H := (· = gt)) (a := ⟨gt, 0, none⟩) rfl _).trans (Turn.set_ (H := (· = gt)) (a := ⟨gt, 1, none⟩) rfl _)
                  have htu : Turn (fun k => k = gt ∨ k = g) W w6 := by
                    obtain ⟨vs, ho, _⟩ := HTS.out
                    have h1 := ((st5.out.tu.mono (K := fun k => (k = gt ∨ k = g) ∨ (Value.slice A1 bs0.length c1).ownBlock = some k) (fun k hk => .inl hk)).trans (Turn.of hxd)).trans ((turn_grown hg6).mono (K := fun k => (k = gt ∨ k = g) ∨ (Value.slice A1 bs0.length c1).ownBlock = some k) (fun k hk => .inr hk))
                    exact h1.old (fun k hk hh => by
                      rcases hh with h2 | h2
                      · exact h2
                      · have := ho.blockGe k h2
                        omega)
                  have st7 := Lib.hid (show RSt W gt g (rkN R1).2.1 0 (.slice (some ⟨g6, 0, none⟩) (bs0.length + 1) c6) (bs0 ++ [l]) ((w6.setCell ⟨gt, 0, none⟩ (.slice (some ⟨g6, 0, none⟩) (bs0.length + 1) c6)).setCell ⟨gt, 1, none⟩ (.int .i64 ((cn : Int) + (bl : Int)))) from
                    ⟨hT7.cellsT rd6 (CellsT.ne rd6 tb6 (by decide)), by rw [HFLX.out, ← HCN.out]; exact TbAt.set2 tb6 _ (cn + bl), hT6.turn tb6 (by decide) (by decide) hT7, htu.trans (hT7.mono (fun k hk => .inl hk))⟩)
                  clear hxd rd6 hT7 htu tb6 t0 t1 f0 f1 hG6 hg6 hT6
                  go_wp2
                  exact ⟨⟨n', s1.drop z, (rkN R1).2.1, 0, bs0 ++ [l], _, rfl, by rw [lastB_snoc, ← HK1.out, HKK.out], rfl, by first | rfl | (congr 1; omega), by omega, by rw [List.length_drop]; omega, Nat.le_trans HLEN.out.2 hr1, Lib.hid (.inl ⟨rfl, HG2.out⟩), st7.out⟩, by simp [intOf]⟩
              · have tk : (k1 == key) = false := by simpa using hk
                have HNO : Hid (∀ bs, ¬ Sol s R bs) := Lib.hid (fun bs => HXY.out bs (.inr hk))
                clear hk
                go_wp2
                rw [Exit.noGoto_ret]
                go_ret
                exact .inr ⟨fun bs _ => HNO.out bs, rfl, st5.out.tu⟩
          · have st5 := Lib.hid (st4.out.ext hE5)
            have HNO := Lib.hid (rest_fail HS.out HREST.out (.inr (.inr (.inl (by rw [← HZ.out]; exact hno)))))
            clear hno
            go_wp2
            rw [Exit.noGoto_ret]
            go_ret
            exact .inr ⟨fun bs _ => HNO.out bs, rfl, st5.out.tu⟩
      · have t2 : (e2 != 0) = true := by simpa using h2
        have t2' : (e2 == 0) = false := by simpa using h2
        have HNO := Lib.hid (rest_fail HS.out HREST.out (.inl (by rw [← HE2.out]; exact h2)))
        go_wp2_with (first
          | (go_at_call 55; (with_reducible refine (HT1.out _ HST2.out.rd).mono ?_); rintro e w2 ⟨rfl, hR2, hT2⟩; have st2 := HST2.out.read hR2 hT2)
          | (go_at_call 54; (with_reducible refine (HN1.out _ hR2).mono ?_); rintro e w3 ⟨rfl, hR3, hT3⟩; have st3 := st2.read hR3 hT3)
          | (go_at_call 56; (with_reducible refine (err_any st3.rd).mono ?_); rintro e w4 ⟨rfl, hE4⟩; have st4 := Lib.hid (st3.ext hE4)))
        rw [Exit.noGoto_ret]
        go_ret
        exact .inr ⟨fun bs _ => HNO.out bs, rfl, st4.out.tu⟩
end Go.Proofs.Ytpengejnjmicnaa
end
section
namespace Go.Proofs.Ytpengejnjmicnaa
open Go.RowKit Go.Nb
/-- A number in so many bytes. -/
def fixL : Nat → Nat → Bs
  | 0, _ => []
  | f + 1, n => fixL f (n / 256) ++ [UInt8.ofNat (n % 256)]
theorem fixL_8 (n : Nat) : e8L n = fixL 8 n := by
  simp [e8L, fixL, byD, List.range_succ, Nat.div_div_eq_div_mul]
theorem valL_fix : ∀ (f n : Nat), n < 256 ^ f → valL (fixL f n) = n
  | 0, n, h => by simp at h; subst h; rfl
  | f + 1, n, h => by
    have h1 : n / 256 < 256 ^ f := by rw [Nat.pow_succ] at h; omega
    rw [fixL, valL_snoc, valL_fix f _ h1]
    simp
    omega
theorem fixL_val (l : Bs) : fixL l.length (valL l) = l := by
  refine snoc_ind (P := fun l => fixL l.length (valL l) = l) rfl (fun l c ih => ?_) l
  have hc := c.toNat_lt
  rw [List.length_append, List.length_singleton, fixL, valL_snoc]
  rw [show (256 * valL l + c.toNat) / 256 = valL l by omega, show (256 * valL l + c.toNat) % 256 = c.toNat by omega, ih]
  simp
theorem valL_e8 {n : Nat} (h : n < 18446744073709551616) : valL (e8L n) = n := by rw [fixL_8]; exact valL_fix 8 n (by rw [pow8]; exact h)
theorem e8_val {l : Bs} (h : l.length = 8) : e8L (valL l) = l := by
  have := fixL_val l
  rw [h] at this
  rw [fixL_8]; exact this
theorem valL_mono : ∀ (b a : Bs), valL a ≤ valL (a ++ b)
  | [], a => by rw [List.append_nil]; exact Nat.le_refl _
  | c :: b, a => by
    have h1 := valL_mono b (a ++ [c])
    rw [valL_snoc] at h1
    rw [show a ++ c :: b = (a ++ [c]) ++ b by simp]
    omega
/-- The blocks of a table's bytes. -/
structure TabIs (S : Bs) (bs : List (List Pr)) : Prop where
  ne : bs ≠ []
  ok : okB [] bs = true
  txt : txt bs = S
theorem tab_len {S : Bs} {bs : List (List Pr)} (h : TabIs S bs) : 8 ≤ S.length := by
  rw [← h.txt, txt_len]; omega
/-- What they are, by the tail's number. -/
theorem tab_sol {S : Bs} (h8 : 8 ≤ S.length) (hS : S.length ≤ 1000000) {n : Nat} (hn : n = valL (S.drop (S.length - 8))) (hb : n ≤ S.length - 8) (bs : List (List Pr)) : TabIs S bs ↔ bs ≠ [] ∧ Sol ((S.take (S.length - 8)).take n) ((S.take (S.length - 8)).drop n) bs := by
  have ht : (S.drop (S.length - 8)).length = 8 := by rw [List.length_drop]; omega
  have hb8 : (S.take (S.length - 8)).length = S.length - 8 := by rw [List.length_take]; omega
  constructor
  · intro h
    have e : (encs bs ++ (upL bs.length ++ idxs bs)) ++ e8L (encs bs).length = S.take (S.length - 8) ++ S.drop (S.length - 8) := by
      rw [List.take_append_drop, ← h.txt]; unfold txt; simp only [List.append_assoc]
    have hl := congrArg List.length e
    have hl2 : (encs bs ++ (upL bs.length ++ idxs bs)).length = (S.take (S.length - 8)).length := by
      rw [List.length_append, List.length_append (bs := S.drop (S.length - 8)), e8L_len, ht] at hl; omega
    obtain ⟨h1, h2⟩ := List.append_inj e hl2
    have hln : (encs bs).length = n := by
      rw [hn, ← h2, valL_e8]
      have := congrArg List.length h1
      rw [List.length_append, hb8] at this
      omega
    have h3 : encs bs ++ (upL bs.length ++ idxs bs) = (S.take (S.length - 8)).take n ++ (S.take (S.length - 8)).drop n := by rw [List.take_append_drop]; exact h1
    obtain ⟨h4, h5⟩ := List.append_inj h3 (by rw [hln, List.length_take, hb8]; omega)
    exact ⟨h.ne, h.ok, h4, h5⟩
  · rintro ⟨h1, h2, h3, h4⟩
    refine ⟨h1, h2, ?_⟩
    unfold txt
    have hln : (encs bs).length = n := by rw [h3, List.length_take, hb8]; omega
    rw [hln, hn, e8_val ht, h4, h3, ← List.append_assoc, List.take_append_drop, List.take_append_drop]
theorem tab_no {S : Bs} (h8 : 8 ≤ S.length) (hS : S.length ≤ 1000000) {k : Nat} (hb : S.length - 8 < valL ((S.drop (S.length - 8)).take k)) (bs : List (List Pr)) : ¬ TabIs S bs := fun h => by
  have e : (encs bs ++ (upL bs.length ++ idxs bs)) ++ e8L (encs bs).length = S.take (S.length - 8) ++ S.drop (S.length - 8) := by
    rw [List.take_append_drop, ← h.txt]; unfold txt; simp only [List.append_assoc]
  have ht : (S.drop (S.length - 8)).length = 8 := by rw [List.length_drop]; omega
  have hb8 : (S.take (S.length - 8)).length = S.length - 8 := by rw [List.length_take]; omega
  have hl := congrArg List.length e
  have hl2 : (encs bs ++ (upL bs.length ++ idxs bs)).length = (S.take (S.length - 8)).length := by
    rw [List.length_append, List.length_append (bs := S.drop (S.length - 8)), e8L_len, ht] at hl; omega
  obtain ⟨h1, h2⟩ := List.append_inj e hl2
  have h3 := congrArg List.length h1
  rw [List.length_append, hb8] at h3
  have hm := valL_mono ((S.drop (S.length - 8)).drop k) ((S.drop (S.length - 8)).take k)
  rw [List.take_append_drop, ← h2, valL_e8 (by omega)] at hm
  rw [← h2] at hb
  omega
theorem tab_one {S : Bs} (hS : S.length ≤ 131072) {a b : List (List Pr)} (ha : TabIs S a) (hb : TabIs S b) : a = b := by
  have h8 := tab_len ha
  have hle : valL (S.drop (S.length - 8)) ≤ S.length - 8 := by
    apply Classical.byContradiction
    intro h
    exact tab_no h8 (by omega) (k := 8) (by rw [List.take_of_length_le (by rw [List.length_drop]; omega)]; omega) a ha
  have h1 := ((tab_sol h8 (by omega) rfl hle a).1 ha).2
  have h2 := ((tab_sol h8 (by omega) rfl hle b).1 hb).2
  exact sol_one (by rw [List.length_take, List.length_take]; omega) h1 h2
end Go.Proofs.Ytpengejnjmicnaa
end
