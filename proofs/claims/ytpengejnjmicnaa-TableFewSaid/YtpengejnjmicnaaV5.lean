import Derived.Test.YtpengejnjmicnaaV4
import Derived.Sort.Walk0
section
namespace Go.Proofs.Ytpengejnjmicnaa
open Go.RowKit Go.Nb
/-- What cmp.Compare says of two texts. -/
def cmpV (a b : Bs) : Int := if Op.bytesLess a b = true then -1 else if a = b then 0 else 1
theorem isNaN_any (a : Bs) (w : World) : Calls Try.prog 78 #[.string (Bt a)] w fun e w' => e = .returned (.bool false) ∧ Ext w w' := by
  have hT := toList_Bt
  go_enter Try.func78, Try.ntmps78
  go_wp2
  go_ret
  exact ⟨by simp, Ext.refl w⟩
set_option maxRecDepth 100000 in
theorem compare_any (a b : Bs) (w : World) : Calls Try.prog 64 #[.string (Bt a), .string (Bt b)] w fun e w' => e = .returned (.int .i64 (cmpV a b)) ∧ Ext w w' := by
  have hT := toList_Bt
  have HA := Lib.hid (isNaN_any a)
  have HB := Lib.hid (isNaN_any b)
  cases hlt : Op.bytesLess a b
  · by_cases he : a = b
    · have hv : cmpV a b = 0 := by unfold cmpV; rw [hlt, if_neg (by simp), if_pos he]
      rw [hv]
      have t1 : (a == b) = true := by simpa using he
      clear hv he
      go_enter Try.func64, Try.ntmps64
      go_wp2_with (first
        | (go_at_call 78; (with_reducible refine (HA.out _).mono ?_); rintro e w1 ⟨rfl, hE⟩)
        | (go_at_call 78; (with_reducible refine (HB.out _).mono ?_); rintro e w2 ⟨rfl, hE2⟩))
      go_ret
      exact ⟨rfl, hE.trans hE2⟩
    · have hv : cmpV a b = 1 := by unfold cmpV; rw [hlt, if_neg (by simp), if_neg he]
      rw [hv]
      have t1 : (a == b) = false := by simpa using he
      clear hv he
      go_enter Try.func64, Try.ntmps64
      go_wp2_with (first
        | (go_at_call 78; (with_reducible refine (HA.out _).mono ?_); rintro e w1 ⟨rfl, hE⟩)
        | (go_at_call 78; (with_reducible refine (HB.out _).mono ?_); rintro e w2 ⟨rfl, hE2⟩))
      go_ret
      exact ⟨rfl, hE.trans hE2⟩
  · have hv : cmpV a b = -1 := by unfold cmpV; rw [hlt, if_pos rfl]
    rw [hv]
    clear hv
    go_enter Try.func64, Try.ntmps64
    go_wp2_with (first
      | (go_at_call 78; (with_reducible refine (HA.out _).mono ?_); rintro e w1 ⟨rfl, hE⟩)
      | (go_at_call 78; (with_reducible refine (HB.out _).mono ?_); rintro e w2 ⟨rfl, hE2⟩))
    go_ret
    exact ⟨rfl, hE.trans hE2⟩
theorem e36f : Enters Try.prog 63 := enters_of Try.func63 (by kernel_rfl) rfl
set_option maxRecDepth 100000 in
theorem seek1_any (p : Pr) (key : Bs) (w : World) : Calls Try.prog 63 #[p.val, .string (Bt key)] w fun e w' => e = .returned (.int .i64 (cmpV p.k key)) ∧ Ext w w' := by
  obtain ⟨k, v⟩ := p
  have hP : Pr.val ⟨k, v⟩ = .agg #[.string (Bt k), .string (Bt v)] := rfl
  rw [hP]
  have HC := Lib.hid (compare_any k key)
  clear hP
  go_enter Try.func63, Try.ntmps63
  go_wp2_with (go_at_call 64; (with_reducible refine (HC.out _).mono ?_); rintro e w1 ⟨rfl, hE⟩)
  go_ret
  exact ⟨rfl, ((Ext.refl w).alloc _).trans hE⟩
end Go.Proofs.Ytpengejnjmicnaa
end
section
namespace Go.Proofs.Ytpengejnjmicnaa
open Go.RowKit Go.Nb
theorem less_trans {a b c : Bs} (h : Op.bytesLess a b = true) (k : Op.bytesLess b c = true) : Op.bytesLess a c = true := by
  rw [bytesLess_eq, decide_eq_true_eq] at *
  exact List.lt_trans h k
theorem less_irrefl (a : Bs) : Op.bytesLess a a = false := by
  rw [bytesLess_eq, decide_eq_false_iff_not]
  exact List.lt_irrefl a
theorem up_next {l : List Pr} (h : upB l = true) : ∀ i, i + 1 < l.length → Op.bytesLess (l.getD i default).k (l.getD (i + 1) default).k = true := by
  induction l with
  | nil => intro i hi; simp at hi
  | cons p r ih =>
    cases r with
    | nil => intro i hi; simp at hi
    | cons q m =>
      simp only [upB, Bool.and_eq_true] at h
      intro i hi
      cases i with
      | zero => exact h.1
      | succ i => exact ih h.2 i (by simpa using hi)
theorem up_lt {l : List Pr} (h : upB l = true) (i : Nat) : ∀ d, i + d + 1 < l.length → Op.bytesLess (l.getD i default).k (l.getD (i + d + 1) default).k = true
  | 0, hi => up_next h i hi
  | d + 1, hi => less_trans (up_lt h i d (by omega)) (up_next h (i + d + 1) hi)
theorem up_less {l : List Pr} (h : upB l = true) {i j : Nat} (hij : i < j) (hj : j < l.length) : Op.bytesLess (l.getD i default).k (l.getD j default).k = true := by
  obtain ⟨d, rfl⟩ : ∃ d, j = i + d + 1 := ⟨j - i - 1, by omega⟩
  exact up_lt h i d hj
theorem less_mono {l : List Pr} (h : upB l = true) {key : Bs} {i j : Nat} (hij : i ≤ j) (hj : j < l.length) (hk : Op.bytesLess (l.getD j default).k key = true) : Op.bytesLess (l.getD i default).k key = true := by
  rcases Nat.lt_or_ge i j with h1 | h1
  · exact less_trans (up_less h h1 hj) hk
  · have : i = j := by omega
    rw [this]; exact hk
theorem seekL_le (key : Bs) : ∀ l, seekL key l ≤ l.length
  | [] => Nat.le_refl _
  | p :: l => by
    have := seekL_le key l
    simp only [seekL, List.length_cons]
    split <;> omega
theorem seekL_lt (key : Bs) : ∀ l i, i < seekL key l → Op.bytesLess (l.getD i default).k key = true
  | [], i, h => by simp [seekL] at h
  | p :: l, i, h => by
    simp only [seekL] at h
    split at h
    · next hp =>
      cases i with
      | zero => exact hp
      | succ i => exact seekL_lt key l i (by omega)
    · omega
theorem seekL_at (key : Bs) : ∀ l, seekL key l < l.length → Op.bytesLess (l.getD (seekL key l) default).k key = false
  | [], h => by simp [seekL] at h
  | p :: l, h => by
    simp only [seekL] at h ⊢
    split at h
    · next hp =>
      rw [if_pos hp]
      exact seekL_at key l (by simpa using h)
    · next hp =>
      rw [if_neg hp]
      simpa using hp
/-- Where all ahead are below a key, and what stands there is not. -/
theorem seekL_of {key : Bs} {l : List Pr} {j : Nat} (hj : j ≤ l.length) (h1 : ∀ i, i < j → Op.bytesLess (l.getD i default).k key = true) (h2 : j < l.length → Op.bytesLess (l.getD j default).k key = false) : seekL key l = j := by
  have hle := seekL_le key l
  rcases Nat.lt_trichotomy (seekL key l) j with h | h | h
  · have a := seekL_at key l (by omega)
    rw [h1 _ h] at a; cases a
  · exact h
  · have a := seekL_lt key l j h
    rw [h2 (by omega)] at a; cases a
theorem cmpV_neg (a b : Bs) : decide (cmpV a b < 0) = Op.bytesLess a b := by
  unfold cmpV
  cases Op.bytesLess a b
  · simp
    split <;> omega
  · simp
end Go.Proofs.Ytpengejnjmicnaa
end
section
namespace Go.Proofs.Ytpengejnjmicnaa
open Go.RowKit Go.Nb
set_option maxRecDepth 100000 in
theorem bsearch_any {w : World} {A : Option Addr} {n c : Nat} {l : List Pr} (h : PRd w A n l) (hn : n ≤ 1048576) (hu : upB l = true) (key : Bs) : Calls Try.prog 62 #[.slice A n c, .string (Bt key), .func (.func 63) #[] #[]] w fun e w' => ∃ b, e = .returned (.tuple #[.int .i64 (seekL key l), .bool b]) ∧ Ext w w' := by
  have hent2 : ∀ (args : Array Value) (w : World), (callFunc 63 args).run Try.prog w = .ok (.enter 63 args) w := e36f
  have HL := Lib.hid h.1
  have HU := Lib.hid hu
  clear hu
  go_enter Try.func62, Try.ntmps62
  go_wp2
  go_loopw [9, 10] (fun iv jv wr => ∃ lo hi : Nat, lo ≤ hi ∧ hi ≤ n ∧ iv = .int .i64 lo ∧ jv = .int .i64 hi ∧ Hid (∀ i, i < lo → Op.bytesLess (l.getD i default).k key = true) ∧ Hid (∀ i, hi ≤ i → i < n → Op.bytesLess (l.getD i default).k key = false) ∧ Ext w wr) (fun iv jv _ => (intOf jv).toNat - (intOf iv).toNat)
  case atStart => exact ⟨0, n, by omega, by omega, rfl, rfl, Lib.hid (fun i hi => by omega), Lib.hid (fun i hi hi2 => by omega), Ext.refl w⟩
  case round =>
    obtain ⟨lo, hi, hlh, hhn, rfl, rfl, hlo, hhi, hE⟩ := hrel
    have a0 : (0 : Int) ≤ (lo : Int) := by omega
    have b0 : (0 : Int) ≤ (hi : Int) := by omega
    have b1 : (hi : Int) ≤ 1048576 := by omega
    by_cases hlt : lo < hi
    · have kk : (lo : Int) < (hi : Int) := by omega
      obtain ⟨m, hm⟩ : ∃ m, m = (lo + hi) / 2 := ⟨_, rfl⟩
      have hmn : m < n := by omega
      have hmI : ((lo : Int) + (hi : Int)) / 2 = (m : Int) := by omega
      have mm0 : (0 : Int) ≤ (m : Int) := by omega
      have mm : (m : Int) < (n : Int) := by omega
      obtain ⟨g, o, rfl, c0, c1⟩ := (h.ext hE).at_ m hmn
      obtain ⟨p, hp⟩ : ∃ p, p = l.getD m default := ⟨_, rfl⟩
      rw [← hp] at c0 c1
      have HS := Lib.hid (seek1_any p key)
      have hP : p.val = .agg #[.string (Bt p.k), .string (Bt p.v)] := rfl
      rw [hP] at HS
      have hcv := cmpV_neg p.k key
      obtain ⟨z, hz⟩ : ∃ z, z = cmpV p.k key := ⟨_, rfl⟩
      rw [← hz] at HS hcv
      have HM := Lib.hid hm
      have HP := Lib.hid hp
      clear hm hp hP hz
      go_wp2_with (go_at_fn 63; refine (HS.out _).mono ?_; rintro e w2 ⟨rfl, hE2⟩)
      all_goals first
        | (rename_i hbl
           refine ⟨⟨m + 1, hi, by have := HM.out; omega, hhn, by first | rfl | (congr 1; omega), rfl, Lib.hid (fun i hi1 => less_mono HU.out (j := m) (by omega) (by have := HL.out; omega) (by rw [← HP.out]; exact hbl)), hhi, hE.trans hE2⟩, ?_⟩
           have := HM.out
           simp only [intOf]
           omega)
        | (rename_i hbl
           refine ⟨⟨lo, m, by have := HM.out; omega, by omega, rfl, rfl, hlo, Lib.hid (fun i hi1 hi2 => ?_), hE.trans hE2⟩, ?_⟩
           · cases hq : Op.bytesLess (l.getD i default).k key
             · rfl
             · have h3 := less_mono HU.out (i := m) (j := i) (by omega) (by have := HL.out; omega) hq
               rw [← HP.out, hbl] at h3
               cases h3
           · have := HM.out
             simp only [intOf]
             omega)
    · obtain rfl : lo = hi := by omega
      have HK : Hid (seekL key l = lo) := Lib.hid (seekL_of (by have := HL.out; omega) hlo.out (fun hi1 => hhi.out lo (by omega) (by have := HL.out; omega)))
      by_cases hln : lo < n
      · have kk : (lo : Int) < (n : Int) := by omega
        have tk : decide ((lo : Int) < (n : Int)) = true := by simp; omega
        obtain ⟨g, o, rfl, c0, c1⟩ := (h.ext hE).at_ lo hln
        obtain ⟨p, hp⟩ : ∃ p, p = l.getD lo default := ⟨_, rfl⟩
        rw [← hp] at c0 c1
        have HS := Lib.hid (seek1_any p key)
        have hP : p.val = .agg #[.string (Bt p.k), .string (Bt p.v)] := rfl
        rw [hP] at HS
        obtain ⟨z, hz⟩ : ∃ z, z = cmpV p.k key := ⟨_, rfl⟩
        rw [← hz] at HS
        have HP := Lib.hid hp
        clear hp hP hz
        go_wp2_with (go_at_fn 63; refine (HS.out _).mono ?_; rintro e w2 ⟨rfl, hE2⟩)
        go_ret2
        exact ⟨z == 0, by rw [HK.out]; rfl, hE.trans hE2⟩
      · have tk : decide ((lo : Int) < (n : Int)) = false := by simp; omega
        go_wp2
        go_ret2
        exact ⟨false, by rw [HK.out]; rfl, hE⟩
set_option maxRecDepth 100000 in
theorem seek_any {w : World} {A : Option Addr} {n c : Nat} {l : List Pr} (h : PRd w A n l) (hn : n ≤ 1048576) (hu : upB l = true) (key : Bs) : Calls Try.prog 44 #[.slice A n c, .string (Bt key)] w fun e w' => e = .returned (.int .i64 (seekL key l)) ∧ Ext w w' := by
  have HS := Lib.hid (bsearch_any (c := c) h hn hu key)
  go_enter Try.func44, Try.ntmps44
  go_wp2_with (go_at_call 62; (with_reducible refine HS.out.mono ?_); rintro e w1 ⟨b, rfl, hE⟩)
  go_ret
  exact ⟨rfl, hE⟩
end Go.Proofs.Ytpengejnjmicnaa
end
section
namespace Go.Proofs.Ytpengejnjmicnaa
open Go.RowKit Go.Nb
/-- What one turn of the reading takes: a number, a text, a text. -/
def stN (r : Bs) : Nat × Bs × Int := numS 1024 r 0
def stK (r : Bs) : Bs × Bs × Int := textS 1024 (stN r).2.1 (stN r).2.2
def stV (r : Bs) : Bs × Bs × Int := textS 8192 (stK r).2.1 (stK r).2.2
/-- The pair that one turn reads. -/
def stP (last r : Bs) : Pr := ⟨last.take (stN r).1 ++ (stK r).1, (stV r).1⟩
theorem st_ok {r : Bs} (h : (stV r).2.2 = 0) : (stN r).1 ≤ 1024 ∧ (stK r).1.length ≤ 1024 ∧ (stV r).1.length ≤ 8192 ∧ r = upL (stN r).1 ++ (textL (stK r).1 ++ (textL (stV r).1 ++ (stV r).2.1)) := by
  have h2 : (stK r).2.2 = 0 := by
    rcases Decidable.em ((stK r).2.2 = 0) with h1 | h1
    · exact h1
    · unfold stV textS at h; rw [if_neg h1] at h; exact h
  have h3 : (stN r).2.2 = 0 := by
    rcases Decidable.em ((stN r).2.2 = 0) with h1 | h1
    · exact h1
    · unfold stK textS at h2; rw [if_neg h1] at h2; exact h2
  have a := rdNum_ok (most := 1024) (s := r) (x := (stN r).1) (r := (stN r).2.1) (by
    have : stN r = rdNum 1024 r := by unfold stN numS; rw [if_pos rfl]
    rw [← this, ← h3])
  have b := rdText_ok (most := 1024) (s := (stN r).2.1) (t := (stK r).1) (r := (stK r).2.1) (by
    have : stK r = rdText 1024 (stN r).2.1 := by unfold stK textS; rw [if_pos h3]
    rw [← this, ← h2])
  have c := rdText_ok (most := 8192) (s := (stK r).2.1) (t := (stV r).1) (r := (stV r).2.1) (by
    have : stV r = rdText 8192 (stK r).2.1 := by unfold stV textS; rw [if_pos h2]
    rw [← this, ← h])
  refine ⟨a.1, b.1, c.1, ?_⟩
  rw [← c.2.2, ← b.2.2]
  exact a.2.2
theorem st_up {n : Nat} {k v : Bs} (hn : n ≤ 1024) (hk : k.length ≤ 1024) (hv : v.length ≤ 8192) (r : Bs) : stN (upL n ++ (textL k ++ (textL v ++ r))) = (n, textL k ++ (textL v ++ r), 0) ∧ stK (upL n ++ (textL k ++ (textL v ++ r))) = (k, textL v ++ r, 0) ∧ stV (upL n ++ (textL k ++ (textL v ++ r))) = (v, r, 0) := by
  have a : stN (upL n ++ (textL k ++ (textL v ++ r))) = (n, textL k ++ (textL v ++ r), 0) := by
    unfold stN numS; rw [if_pos rfl]; exact rdNum_up hn (by omega) _
  have b : stK (upL n ++ (textL k ++ (textL v ++ r))) = (k, textL v ++ r, 0) := by
    unfold stK textS; rw [a, if_pos rfl]; exact rdText_up hk (by omega) _
  have c : stV (upL n ++ (textL k ++ (textL v ++ r))) = (v, r, 0) := by
    unfold stV textS; rw [b, if_pos rfl]; exact rdText_up hv (by omega) _
  exact ⟨a, b, c⟩
theorem badP_not {p : Pr} (h : badP p = false) : 1 ≤ p.k.length ∧ p.k.length ≤ 1024 ∧ p.v.length ≤ 8192 := by
  unfold badP at h
  simp only [Bool.or_eq_false_iff, decide_eq_false_iff_not] at h
  omega
theorem sh_take (last k : Bs) : last.take (shL last k) ++ k.drop (shL last k) = k := by
  rw [shL_take, List.take_append_drop]
/-- What a right pair's bytes are read as. -/
theorem st_one {last : Bs} {p : Pr} (hb : badP p = false) (r : Bs) : (stN (oneL last p ++ r)).1 = shL last p.k ∧ stV (oneL last p ++ r) = (p.v, r, 0) ∧ stP last (oneL last p ++ r) = p := by
  have hp := badP_not hb
  have hs := shL_le last p.k
  have e : oneL last p ++ r = upL (shL last p.k) ++ (textL (p.k.drop (shL last p.k)) ++ (textL p.v ++ r)) := by simp [oneL]
  obtain ⟨a, b, c⟩ := st_up (n := shL last p.k) (k := p.k.drop (shL last p.k)) (v := p.v) (by omega) (by rw [List.length_drop]; omega) hp.2.2 r
  rw [e]
  refine ⟨by rw [a], c, ?_⟩
  unfold stP
  rw [a, b, c, sh_take]
theorem oneL_ne (last : Bs) (p : Pr) : oneL last p ≠ [] := by simp [oneL, upL]
theorem bad_of_may {l : List Pr} (h : mayB l = true) : ∀ p, p ∈ l → badP p = false := by
  unfold mayB at h
  simp only [Bool.and_eq_true, Bool.not_eq_true'] at h
  intro p hp
  have := h.2.2.1
  rw [List.any_eq_false] at this
  simpa using this p hp
theorem may_len {l : List Pr} (h : mayB l = true) : 1 ≤ l.length ∧ l.length ≤ 4096 := by
  unfold mayB at h
  simp only [Bool.and_eq_true, decide_eq_true_eq] at h
  exact ⟨h.1, h.2.1⟩
/-- What the bytes of pairs may still be, behind some of them. -/
def Tail (s : Bs) (l0 : List Pr) (last r : Bs) : Prop := ∀ l, mayB l = true → encL [] l = s → ∃ l1, l = l0 ++ l1 ∧ encL last l1 = r
theorem tail_nil (s : Bs) : Tail s [] [] s := fun l _ h => ⟨l, rfl, h⟩
theorem tail_core {s : Bs} {l0 : List Pr} {last r : Bs} (h : Tail s l0 last r) (hr : r ≠ []) {l : List Pr} (hl : mayB l = true) (he : encL [] l = s) : ∃ p l2, l = l0 ++ (p :: l2) ∧ badP p = false ∧ (stN r).1 = shL last p.k ∧ stV r = (p.v, encL p.k l2, 0) ∧ stP last r = p := by
  obtain ⟨l1, h1, h2⟩ := h l hl he
  cases l1 with
  | nil => exact absurd h2.symm hr
  | cons p l2 =>
    have hb := bad_of_may hl p (by rw [h1]; simp)
    obtain ⟨a, b, c⟩ := st_one (last := last) hb (encL p.k l2)
    rw [show oneL last p ++ encL p.k l2 = r from h2] at a b c
    exact ⟨p, l2, h1, hb, a, b, c⟩
theorem tail_fail {s : Bs} {l0 : List Pr} {last r : Bs} (h : Tail s l0 last r) (hr : r ≠ []) (hf : (stV r).2.2 ≠ 0 ∨ last.length < (stN r).1 ∨ 4096 ≤ l0.length ∨ (stN r).1 ≠ shL last (stP last r).k) : ∀ l, mayB l = true → encL [] l ≠ s := by
  intro l hl he
  obtain ⟨p, l2, h1, hb, a, b, c⟩ := tail_core h hr hl he
  rcases hf with hf | hf | hf | hf
  · rw [b] at hf; exact hf rfl
  · have := shL_le last p.k; omega
  · have := (may_len hl).2
    rw [h1] at this
    simp at this
    omega
  · rw [c] at hf; exact hf a
theorem tail_step {s : Bs} {l0 : List Pr} {last r : Bs} (h : Tail s l0 last r) (hr : r ≠ []) : Tail s (l0 ++ [stP last r]) (stP last r).k (stV r).2.1 := by
  intro l hl he
  obtain ⟨p, l2, h1, hb, a, b, c⟩ := tail_core h hr hl he
  refine ⟨l2, by rw [h1, c]; simp, by rw [b, c]⟩
theorem tail_end {s : Bs} {l0 : List Pr} {last : Bs} (h : Tail s l0 last []) {l : List Pr} (hl : mayB l = true) (he : encL [] l = s) : l = l0 := by
  obtain ⟨l1, h1, h2⟩ := h l hl he
  cases l1 with
  | nil => simpa using h1
  | cons p l2 =>
    rw [encL] at h2
    exact absurd (List.append_eq_nil_iff.mp h2).1 (oneL_ne last p)
theorem tail_long {s : Bs} {l0 : List Pr} {last r : Bs} (h : Tail s l0 last r) (hn : mayB l0 = false) (h0 : r = [] ∨ 4096 < l0.length) : ∀ l, mayB l = true → encL [] l ≠ s := by
  intro l hl he
  rcases h0 with rfl | h0
  · have := tail_end h hl he
    rw [this, hn] at hl; cases hl
  · obtain ⟨l1, h1, h2⟩ := h l hl he
    have := (may_len hl).2
    rw [h1] at this
    simp at this
    omega
/-- What is taken, where the shared number is right, are the pair's bytes. -/
theorem st_take {last r : Bs} (h : (stV r).2.2 = 0) (hn : (stN r).1 ≤ last.length) (hs : (stN r).1 = shL last (stP last r).k) : r = oneL last (stP last r) ++ (stV r).2.1 := by
  obtain ⟨_, _, _, e⟩ := st_ok h
  have hk : (stP last r).k.drop (shL last (stP last r).k) = (stK r).1 := by
    rw [← hs]
    show (last.take (stN r).1 ++ (stK r).1).drop (stN r).1 = _
    rw [List.drop_append_of_le_length (by rw [List.length_take]; omega), List.drop_of_length_le (by rw [List.length_take]; omega), List.nil_append]
  conv => lhs; rw [e]
  unfold oneL
  rw [hk, ← hs]
  show _ = upL (stN r).1 ++ (textL (stK r).1 ++ textL (stV r).1) ++ (stV r).2.1
  simp
theorem stP_len {last r : Bs} (h : (stV r).2.2 = 0) : (stP last r).k.length ≤ 2048 ∧ (stP last r).v.length ≤ 8192 := by
  obtain ⟨a, b, c, _⟩ := st_ok h
  refine ⟨?_, c⟩
  show (last.take (stN r).1 ++ (stK r).1).length ≤ _
  rw [List.length_append, List.length_take]
  omega
theorem shL_ge : ∀ (a b : Bs) (n : Nat), n ≤ a.length → n ≤ shL a (a.take n ++ b)
  | _, _, 0, _ => Nat.zero_le _
  | [], _, n + 1, h => by simp at h
  | x :: a, b, n + 1, h => by
    have := shL_ge a b n (by simpa using h)
    simp only [List.take_succ_cons, List.cons_append, shL, if_true]
    omega
/-- A pair that is read takes not much more than what was read. -/
theorem st_size {last r : Bs} (h : (stV r).2.2 = 0) (hn : (stN r).1 ≤ last.length) : (oneL last (stP last r)).length + (stV r).2.1.length ≤ r.length + 27 := by
  obtain ⟨_, _, _, e⟩ := st_ok h
  have e2 := congrArg List.length e
  have u := (upL_len2 (shL last (stP last r).k)).2
  have t1 := textL_len ((stP last r).k.drop (shL last (stP last r).k))
  have t2 := textL_len (stP last r).v
  have hsh : (stN r).1 ≤ shL last (stP last r).k := by
    exact shL_ge last (stK r).1 _ hn
  have hd : ((stP last r).k.drop (shL last (stP last r).k)).length ≤ (stK r).1.length := by
    rw [List.length_drop]
    show (last.take (stN r).1 ++ (stK r).1).length - _ ≤ _
    rw [List.length_append, List.length_take]
    omega
  have hv : (stP last r).v = (stV r).1 := rfl
  simp only [oneL, textL, List.length_append] at *
  rw [hv] at *
  omega
theorem st_less {r : Bs} (h : (stV r).2.2 = 0) : (stV r).2.1.length < r.length := by
  obtain ⟨_, _, _, e⟩ := st_ok h
  have e2 := congrArg List.length e
  have u := (upL_len2 (stN r).1).1
  simp only [List.length_append] at e2
  omega
end Go.Proofs.Ytpengejnjmicnaa
end
