import Derived.Test.YtpengejnjmicnaaV5
import Derived.ProofKit
import Derived.OpenShut
import Derived.ShutString
import Derived.ChangeOld
import Derived.SliceStrings
section
namespace Go.Proofs.Ytpengejnjmicnaa
open Go.RowKit Go.Nb
/-- The key behind pairs. -/
def lastK : Bs → List Pr → Bs
  | b, [] => b
  | _, p :: l => lastK p.k l
theorem lastK_snoc (p : Pr) : ∀ (l : List Pr) (b : Bs), lastK b (l ++ [p]) = p.k
  | [], _ => rfl
  | q :: l, _ => lastK_snoc p l q.k
theorem encL_snoc (p : Pr) : ∀ (l : List Pr) (b : Bs), encL b (l ++ [p]) = encL b l ++ oneL (lastK b l) p
  | [], b => by simp [encL, lastK]
  | q :: l, b => by
    rw [List.cons_append, encL, encL, lastK, encL_snoc p l q.k, List.append_assoc]
theorem prCs_snoc (l : List Pr) (p : Pr) : prCs (l ++ [p]) (l.length + 1) = prCs l l.length ++ [.string (Bt p.k), .string (Bt p.v)] := by
  unfold prCs
  rw [show (l.length + 1) * 2 = l.length * 2 + 1 + 1 by omega, List.range_succ, List.range_succ]
  simp only [List.map_append, List.map_cons, List.map_nil, List.append_assoc]
  congr 1
  · apply List.map_congr_left
    intro j hj
    have hj := List.mem_range.mp hj
    unfold prF
    rw [List.getD_eq_getElem?_getD, List.getD_eq_getElem?_getD, List.getElem?_append_left (by omega)]
  · have e1 : l.length * 2 / 2 = l.length := by omega
    have e2 : (l.length * 2 + 1) / 2 = l.length := by omega
    have e3 : l.length * 2 % 2 = 0 := by omega
    have e4 : (l.length * 2 + 1) % 2 = 1 := by omega
    rw [e1, e2, e3, e4]
    unfold prF
    simp
/-- Where other blocks turn a row of one's own stays. -/
theorem _root_.Go.World.ownsRow.turn {w w' : World} {base : Nat} {e : TypeId} {size : Nat} {v : Value} {n : Nat} {xs : List Value} {H : Nat → Prop} (h : w.ownsRow base e size v n xs) (hT : Turn H w w') (hH : ∀ k, v.ownBlock = some k → ¬ H k) : w'.ownsRow base e size v n xs := by
  refine ⟨h.1, ?_⟩
  rcases h.2 with hn | ⟨g, cap, cur, hv, hb, hg, rest⟩
  · exact .inl hn
  · refine .inr ⟨g, cap, cur, hv, hb, ?_, rest⟩
    have hlt : g < w.heap.size := by
      rcases Nat.lt_or_ge g w.heap.size with h1 | h1
      · exact h1
      · rw [Array.getElem?_eq_none h1] at hg; cases hg
    rw [hT.block g hlt (hH g (by rw [hv]; rfl))]
    exact hg
/-- What has grown, but for one row, has turned in that row alone. -/
theorem turn_grown {w w' : World} {row : Option Nat} (h : w.grownBy w' row) : Turn (fun k => row = some k) w w' := ⟨h.os, h.tape, h.output, h.size, fun k hk hn => h.block k hk (fun e => hn e.symm)⟩
theorem World.ownsRow.cap_ {w : World} {base : Nat} {e : TypeId} {size n c : Nat} {A : Option Addr} {xs : List Value} (h : w.ownsRow base e size (.slice A n c) n xs) : n ≤ c := by
  rcases h.2 with ⟨_, h1⟩ | ⟨_, cp, _, hv, _, _, h1, _⟩
  · omega
  · injection hv with _ _ h2
    omega
theorem two_str (a b : ByteArray) : ∀ u ∈ [Value.string a, Value.string b], u.oneCell' = true := by
  intro u hu
  rcases List.mem_cons.mp hu with rfl | hu
  · rfl
  · rcases List.mem_cons.mp hu with rfl | hu
    · rfl
    · cases hu
/-- A pair's own block. -/
def pbC (k v : ByteArray) (i : Nat) : Value := if i = 0 then .string k else .string v
def PBox (w : World) (b : Nat) (k v : ByteArray) : Prop := CellsT w 53 b 2 (pbC k v)
section
variable {w w' : World} {b : Nat} {k v : ByteArray}
theorem PBox.ext (h : PBox w b k v) (hE : Ext w w') : PBox w' b k v := CellsT.ext h hE
theorem PBox.c0 (h : PBox w b k v) : w.cell? ⟨b, 0, none⟩ = some (.string k) := CellsT.cell h 0 (by omega)
theorem PBox.c1 (h : PBox w b k v) : w.cell? ⟨b, 1, none⟩ = some (.string v) := CellsT.cell h 1 (by omega)
theorem PBox.f0 (h : PBox w b k v) : w.frozen? ⟨b, 0, none⟩ = false := CellsT.frozen h 0 (by omega)
theorem PBox.new (w : World) (k v : ByteArray) : PBox (w.alloc (.cells #[.string k, .string v] 53)) w.heap.size k v := CellsT.of_blk (Blk.new w 53 _) (by simp) (fun j hj => by
  rcases (by omega : j = 0 ∨ j = 1) with rfl | rfl <;> rfl)
theorem PBox.setK (h : PBox w b k v) (u : ByteArray) : PBox (w.setCell ⟨b, 0, none⟩ (.string u)) b u v := CellsT.set_ h 0 (.string u) (fun j hj => by
  rcases (by omega : j = 0 ∨ j = 1) with rfl | rfl <;> rfl)
end
theorem slice_hi (t : Bs) (n : Nat) (hn : n ≤ t.length) (w : World) : (Instr.sliceAt 9 (.string (Bt t)) none (some (.int .i64 (n : Int))) none).run Try.prog w = .ok (.string (Bt (t.take n))) w := by
  rw [run_sliceAt_string (P := Try.prog) w 9 _ _ _ _ Try.underlying9]
  have hz : (Bt t).size = t.length := rfl
  have e1 : (Bt t).extract 0 n = Bt (t.take n) := by rw [Bt_extract]; rfl
  simp [go_sem, hz, e1]
  intro h
  omega
theorem slice_hi2 (t : Bs) (n : Nat) (hn : n ≤ t.length) (w : World) : (Instr.slice 9 (.string (Bt t)) none (some (.int .i64 (n : Int))) none).run Try.prog w = .ok (.string (Bt (t.take n))) w := by
  rw [← run_sliceAt_string (P := Try.prog) w 9 _ _ _ _ Try.underlying9]
  exact slice_hi t n hn w
theorem numS_val (most : Nat) (l : Bs) : (numS most l 0).1 ≤ most ∧ (numS most l 0).2.1.length ≤ l.length := by
  unfold numS rdNum
  rw [if_pos rfl]
  split
  · exact ⟨Nat.zero_le _, Nat.le_refl _⟩
  · split
    · exact ⟨Nat.zero_le _, Nat.le_refl _⟩
    · exact ⟨by omega, by simp⟩
theorem textS_len (most : Nat) (l : Bs) (e : Int) : (textS most l e).2.1.length ≤ l.length := by
  unfold textS rdText
  split
  · split
    · exact Nat.le_refl _
    · split
      · exact Nat.le_refl _
      · split
        · exact Nat.le_refl _
        · simp
  · exact Nat.le_refl _
theorem st_lens (r : Bs) : (stN r).1 ≤ 1024 ∧ (stN r).2.1.length ≤ r.length ∧ (stK r).2.1.length ≤ r.length := by
  have a := numS_val 1024 r
  have b := textS_len 1024 (stN r).2.1 (stN r).2.2
  exact ⟨a.1, a.2, Nat.le_trans b a.2⟩
/-- In a block of pairs. -/
def Row53 (w : World) (A : Option Addr) : Prop := ∀ a, A = some a → ∃ cs fz, w.heap[a.block]? = some (.cells cs 53 fz)
theorem Row53.ext {w w' : World} {A : Option Addr} (h : Row53 w A) (hE : Ext w w') : Row53 w' A := fun a ha => by
  obtain ⟨cs, fz, h1⟩ := h a ha
  refine ⟨cs, fz, ?_⟩
  rw [hE.block a.block (by
    rcases Nat.lt_or_ge a.block w.heap.size with h2 | h2
    · exact h2
    · rw [Array.getElem?_eq_none h2] at h1; cases h1)]
  exact h1
theorem Row53.of_own {w : World} {b2 n c : Nat} {A : Option Addr} {xs : List Value} (h : w.ownsRow b2 53 2 (.slice A n c) n xs) : Row53 w A := fun a ha => by
  rcases h.2 with ⟨h1, _⟩ | ⟨g, cap, cur, hv, _, hg, _⟩
  · injection h1 with h1; rw [h1] at ha; cases ha
  · injection hv with h1
    rw [h1] at ha; cases ha
    exact ⟨cur, _, hg⟩
/-- What reading bytes as pairs answers. -/
def DecIs (s : Bs) (w : World) (e : Ending) (w' : World) : Prop := (∃ (l : List Pr) (A : Option Addr) (c : Nat), mayB l = true ∧ encL [] l = s ∧ e = .returned (.tuple #[.slice A l.length c, .int .i64 0]) ∧ l.length ≤ c ∧ PRd w' A l.length l ∧ Row53 w' A ∧ Ext w w') ∨ ((∀ l, mayB l = true → encL [] l ≠ s) ∧ e = .returned (.tuple #[.slice none 0 0, .int .i64 8]) ∧ Ext w w')
set_option maxRecDepth 100000 in
theorem decode_any (s : ByteArray) (hs : s.size ≤ 1048576) (w : World) : Calls Try.prog 57 #[.string s] w (DecIs (Ls s) w) := by
  have HN := Lib.hid (wire_new s w)
  have hsl : s.size = (Ls s).length := by simp [Ls]
  obtain ⟨S, hS⟩ : ∃ S, S = Ls s := ⟨_, rfl⟩
  rw [← hS] at HN hsl ⊢
  have hlen : S.length ≤ 1048576 := by omega
  obtain ⟨g, hg⟩ : ∃ g, g = w.heap.size := ⟨_, rfl⟩
  rw [← hg] at HN
  have HG := Lib.hid hg
  have HSL := Lib.hid hsl
  clear hg hS hsl
  obtain ⟨i0, hi0, hz0, hz1, hz2⟩ := info_parts infoPr
  go_enter Try.func57, Try.ntmps57
  go_wp2_with (go_at_call 36; (with_reducible refine HN.out.mono ?_); rintro e w1 ⟨rfl, hR, hE⟩)
  have HW1 := Lib.hid hE.sz
  go_loopw [4, 5, 6] (fun lv sv iv wr => ∃ (l0 : List Pr) (last r : Bs) (A1 : Option Addr) (c1 : Nat), lv = .slice A1 l0.length c1 ∧ sv = .string (Bt last) ∧ iv = .int .i64 r.length ∧ l0.length ≤ 4096 ∧ Hid (Tail S l0 last r) ∧ Hid (encL [] l0 ++ r = S) ∧ Hid (last = lastK [] l0) ∧ last.length ≤ 2048 ∧ RdrAt wr g r 0 ∧ wr.ownsRow (g + 1) 53 2 (.slice A1 l0.length c1) l0.length (prCs l0 l0.length) ∧ Ext w wr) (fun _ _ iv _ => (intOf iv).toNat)
  case atStart => exact ⟨[], [], S, none, 0, rfl, rfl, by rw [HSL.out], by simp, Lib.hid (tail_nil S), Lib.hid rfl, Lib.hid rfl, by simp, hR, World.ownsRow_nil _ _ _ _, hE⟩
  case round =>
    clear hR hE
    obtain ⟨l0, last, r, A1, c1, rfl, rfl, rfl, hl0, hT, hen, hla, hll, hR, hown, hE⟩ := hrel
    have hrS : r.length ≤ S.length := by rw [← hen.out, List.length_append]; omega
    by_cases hr : r = []
    · subst hr
      have kk : ¬ (0 : Int) < (([] : Bs).length : Int) := by simp
      have hp := World.ownsRow.prd rfl hown
      have hc := World.ownsRow.cap_ hown
      have HRW := Lib.hid (Row53.of_own hown)
      have HM := may_any (c := c1) hp (by omega) hc
      have HP := Lib.hid hp
      have hen2 : encL [] l0 = S := by have := hen.out; rwa [List.append_nil] at this
      have HEN := Lib.hid hen2
      clear hp hen2 hown
      cases hm : mayB l0
      · rw [hm] at HM
        have HF2 := Lib.hid (tail_long hT.out hm (.inl rfl))
        have HM := Lib.hid HM
        go_wp2_with (go_at_call 49; (with_reducible refine HM.out.mono ?_); rintro e w2 ⟨rfl, hE2⟩)
        go_ret2
        exact .inr ⟨HF2.out, rfl, hE.trans hE2⟩
      · rw [hm] at HM
        have HM := Lib.hid HM
        have HMM := Lib.hid hm
        go_wp2_with (go_at_call 49; (with_reducible refine HM.out.mono ?_); rintro e w2 ⟨rfl, hE2⟩)
        go_ret2
        exact .inl ⟨l0, A1, c1, HMM.out, HEN.out, rfl, hc, HP.out.ext hE2, HRW.out.ext hE2, hE.trans hE2⟩
    · have hr0 : 0 < r.length := List.length_pos_iff.mpr hr
      have kk : (0 : Int) < (r.length : Int) := by omega
      have HR := Lib.hid hr
      have HA : Hid (∀ w', RdrAt w' g r 0 → Calls Try.prog 54 #[.pointer (some ⟨g, 0, none⟩), .int .u64 1024] w' fun x w2 => x = .returned (.int .u64 (numS 1024 r 0).1) ∧ RdrAt w2 g (numS 1024 r 0).2.1 (numS 1024 r 0).2.2 ∧ Turn (· = g) w' w2) := Lib.hid (fun w' h => num_all (most := 1024) h (by omega))
      have hN : numS 1024 r 0 = stN r := rfl
      obtain ⟨hn1, hl1, hl2⟩ := st_lens r
      have HB : Hid (∀ w', RdrAt w' g (stN r).2.1 (stN r).2.2 → Calls Try.prog 55 #[.pointer (some ⟨g, 0, none⟩), .int .i64 1024] w' fun x w2 => x = .returned (.string (Bt (textS 1024 (stN r).2.1 (stN r).2.2).1)) ∧ RdrAt w2 g (textS 1024 (stN r).2.1 (stN r).2.2).2.1 (textS 1024 (stN r).2.1 (stN r).2.2).2.2 ∧ Turn (· = g) w' w2) := Lib.hid (fun w' h => text_all (most := 1024) h (by omega) (by omega))
      have HC : Hid (∀ w', RdrAt w' g (stK r).2.1 (stK r).2.2 → Calls Try.prog 55 #[.pointer (some ⟨g, 0, none⟩), .int .i64 8192] w' fun x w2 => x = .returned (.string (Bt (textS 8192 (stK r).2.1 (stK r).2.2).1)) ∧ RdrAt w2 g (textS 8192 (stK r).2.1 (stK r).2.2).2.1 (textS 8192 (stK r).2.1 (stK r).2.2).2.2 ∧ Turn (· = g) w' w2) := Lib.hid (fun w' h => text_all (most := 8192) h (by omega) (by omega))
      have hK : textS 1024 (stN r).2.1 (stN r).2.2 = stK r := rfl
      have hV : textS 8192 (stK r).2.1 (stK r).2.2 = stV r := rfl
      rw [hN] at HA
      rw [hK] at HB
      rw [hV] at HC
      have hP : stP last r = ⟨last.take (stN r).1 ++ (stK r).1, (stV r).1⟩ := rfl
      have hfail := tail_fail hT.out hr
      have hstep := tail_step hT.out hr
      have htake := fun h1 h2 h3 => st_take (last := last) (r := r) h1 h2 h3
      have hpl := fun h1 => stP_len (last := last) (r := r) h1
      have hless := fun h1 => st_less (r := r) h1
      rw [hP] at hfail hstep htake hpl
      obtain ⟨nv, hnv⟩ : ∃ x, x = (stN r).1 := ⟨_, rfl⟩
      obtain ⟨r1, hr1⟩ : ∃ x, x = (stN r).2.1 := ⟨_, rfl⟩
      obtain ⟨e1, he1⟩ : ∃ x, x = (stN r).2.2 := ⟨_, rfl⟩
      obtain ⟨kv, hkv⟩ : ∃ x, x = (stK r).1 := ⟨_, rfl⟩
      obtain ⟨r2, hr2⟩ : ∃ x, x = (stK r).2.1 := ⟨_, rfl⟩
      obtain ⟨e2, he2⟩ : ∃ x, x = (stK r).2.2 := ⟨_, rfl⟩
      obtain ⟨vv, hvv⟩ : ∃ x, x = (stV r).1 := ⟨_, rfl⟩
      obtain ⟨r3, hr3⟩ : ∃ x, x = (stV r).2.1 := ⟨_, rfl⟩
      obtain ⟨e3, he3⟩ : ∃ x, x = (stV r).2.2 := ⟨_, rfl⟩
      rw [← hnv, ← hr1, ← he1] at HA
      rw [← hr1, ← he1, ← hkv, ← hr2, ← he2] at HB
      rw [← hr2, ← he2, ← hvv, ← hr3, ← he3] at HC
      rw [← hnv, ← hkv, ← hvv] at hfail hstep htake hpl
      rw [← hr3] at hstep htake hless
      rw [← he3] at hfail htake hpl hless
      rw [← hnv] at hn1
      have HF := Lib.hid hfail
      have HST := Lib.hid hstep
      have HTK := Lib.hid htake
      have HPL := Lib.hid hpl
      have HLE := Lib.hid hless
      clear hfail hstep htake hpl hless hP hN hK hV hl1 hl2 hnv hr1 he1 hkv hr2 he2 hvv hr3 he3 hr
      have n0 : (0 : Int) ≤ (nv : Int) := by omega
      have n1 : (nv : Int) ≤ 1024 := by omega
      have HR2 := Lib.hid hR
      have HOW := Lib.hid hown
      have HG2 := Lib.hid (Lib.hid hR.lt)
      clear hown
      by_cases he : e3 = 0
      · subst he
        have te : ((0 : Int) == 0) = true := rfl
        by_cases hnl : last.length < nv
        · have t1 : decide ((Bt last).size < nv) = true := by rw [Bt_size]; simpa using hnl
          have t2 : (Bt last).size < nv := hnl
          have hf := HF.out (.inr (.inl hnl))
          have HF2 := Lib.hid hf
          clear hf
          go_wp2_with (first
          | (go_at_call 54; (with_reducible refine (HA.out _ HR2.out).mono ?_); rintro e wa ⟨rfl, hRa, hTa⟩)
          | (go_at_call 55; (with_reducible refine (HB.out _ hRa).mono ?_); rintro e wb ⟨rfl, hRb, hTb⟩)
          | (go_at_call 55; (with_reducible refine (HC.out _ hRb).mono ?_); rintro e wc ⟨rfl, hRc, hTc⟩; have hX := (Ext.refl wc).alloc (.cells #[.string ⟨#[]⟩, .string (Bt vv)] 53); have hRx := hRc.ext hX; have HPB := Lib.hid (PBox.new wc ⟨#[]⟩ (Bt vv)))
          | (go_at_call 56; (with_reducible refine (err_any hRx).mono ?_); rintro e wd ⟨rfl, hEd⟩; have HPD := Lib.hid (HPB.out.ext hEd); have d0 := HPD.out.c0; have d1 := HPD.out.c1; have f0 := HPD.out.f0))
          go_ret2
          exact .inr ⟨HF2.out, rfl, ((((hTa.trans hTb).trans hTc).trans (Turn.of hX)).trans (Turn.of hEd)).ext hE (fun k hk => by have := HG.out; omega)⟩
        · have t1 : decide ((Bt last).size < nv) = false := by rw [Bt_size]; simpa using hnl
          have t2 : nv ≤ (Bt last).size := by rw [Bt_size]; omega
          have t22 : ¬ (Bt last).size < nv := by rw [Bt_size]; omega
          by_cases hfu : 4096 ≤ l0.length
          · have t3 : decide ((4096 : Int) ≤ (l0.length : Int)) = true := by simp; omega
            have t4 : decide (4096 ≤ l0.length) = true := by simpa using hfu
            have HF2 := Lib.hid (HF.out (.inr (.inr (.inl hfu))))
            go_wp2_with (first
          | (go_at_call 54; (with_reducible refine (HA.out _ HR2.out).mono ?_); rintro e wa ⟨rfl, hRa, hTa⟩)
          | (go_at_call 55; (with_reducible refine (HB.out _ hRa).mono ?_); rintro e wb ⟨rfl, hRb, hTb⟩)
          | (go_at_call 55; (with_reducible refine (HC.out _ hRb).mono ?_); rintro e wc ⟨rfl, hRc, hTc⟩; have hX := (Ext.refl wc).alloc (.cells #[.string ⟨#[]⟩, .string (Bt vv)] 53); have hRx := hRc.ext hX; have HPB := Lib.hid (PBox.new wc ⟨#[]⟩ (Bt vv)))
          | (go_at_call 56; (with_reducible refine (err_any hRx).mono ?_); rintro e wd ⟨rfl, hEd⟩; have HPD := Lib.hid (HPB.out.ext hEd); have d0 := HPD.out.c0; have d1 := HPD.out.c1; have f0 := HPD.out.f0))
            go_ret2
            exact .inr ⟨HF2.out, rfl, ((((hTa.trans hTb).trans hTc).trans (Turn.of hX)).trans (Turn.of hEd)).ext hE (fun k hk => by have := HG.out; omega)⟩
          · have t3 : decide ((4096 : Int) ≤ (l0.length : Int)) = false := by simp; omega
            have t4 : decide (4096 ≤ l0.length) = false := by simpa using hfu
            have hslh := fun w => slice_hi last nv (by omega) w
            have hslh2 := fun w => slice_hi2 last nv (by omega) w
            have hpl : (last.take nv ++ kv).length ≤ 2048 ∧ vv.length ≤ 8192 := HPL.out rfl
            have hkl : (last.take nv).length + kv.length ≤ 1048576 := by
              have := hpl.1
              rw [List.length_append] at this
              omega
            have hadd := fun w => add_Bt (last.take nv) kv hkl w
            have HSH := Lib.hid (fun w => shared_any last (last.take nv ++ kv) (by omega) (by omega) w)
            have HON := Lib.hid (fun w => one_any last ⟨last.take nv ++ kv, vv⟩ (by omega) (show (last.take nv ++ kv).length ≤ 65536 by have := hpl.1; omega) (show vv.length ≤ 65536 by have := hpl.2; omega) w)
            have hex : (Bt last).extract 0 nv = Bt (last.take nv) := by rw [Bt_extract]; rfl
            obtain ⟨tk, htk⟩ : ∃ x, x = last.take nv := ⟨_, rfl⟩
            rw [← htk] at hslh hslh2 hadd hex hkl HSH HON HF HST HTK HPL hpl
            obtain ⟨key, hkey⟩ : ∃ x, x = tk ++ kv := ⟨_, rfl⟩
            rw [← hkey] at hadd HSH HON HF HST HTK HPL hpl
            obtain ⟨sh, hsh⟩ : ∃ x, x = shL last key := ⟨_, rfl⟩
            rw [← hsh] at HSH HF HTK
            have HHS := Lib.hid hsh
            clear htk hkey hsh hpl hkl
            by_cases hns : nv = sh
            · subst hns
              have t5 : ((nv : Int) == (nv : Int)) = true := by simp
              have hrt : r = oneL last ⟨key, vv⟩ ++ r3 := HTK.out rfl (by omega) rfl
              have hPv : Pr.val ⟨key, vv⟩ = .agg #[.string (Bt key), .string (Bt vv)] := rfl
              have henc : encL [] (l0 ++ [⟨key, vv⟩]) ++ r3 = S := by rw [encL_snoc, ← hla.out, List.append_assoc, ← hrt]; exact hen.out
              have hcs := prCs_snoc l0 ⟨key, vv⟩
              have hls := lastK_snoc ⟨key, vv⟩ l0 []
              rw [hPv] at HON
              obtain ⟨z, hz⟩ : ∃ x, x = oneL last ⟨key, vv⟩ := ⟨_, rfl⟩
              rw [← hz] at HON hrt
              have hlr : r.length = z.length + r3.length := by rw [hrt, List.length_append]
              have hsub : (r.length : Int) - (z.length : Int) = (r3.length : Int) := by omega
              have hsub2 : (r.length : Int) - ((Bt z).size : Int) = (r3.length : Int) := hsub
              have hz1 : 0 < z.length := by rw [hz]; exact List.length_pos_iff.mpr (oneL_ne _ _)
              have r30 : (0 : Int) ≤ (r3.length : Int) := by omega
              have HENC := Lib.hid henc
              have HCS := Lib.hid hcs
              have HLS := Lib.hid hls
              have HLR := Lib.hid hlr
              have HZ1 := Lib.hid hz1
              clear hrt hPv henc hcs hls hz hlr hz1
              go_wp2_with (first
          | (go_at_call 54; (with_reducible refine (HA.out _ HR2.out).mono ?_); rintro e wa ⟨rfl, hRa, hTa⟩)
          | (go_at_call 55; (with_reducible refine (HB.out _ hRa).mono ?_); rintro e wb ⟨rfl, hRb, hTb⟩)
          | (go_at_call 55; (with_reducible refine (HC.out _ hRb).mono ?_); rintro e wc ⟨rfl, hRc, hTc⟩; have hX := (Ext.refl wc).alloc (.cells #[.string ⟨#[]⟩, .string (Bt vv)] 53); have hRx := hRc.ext hX; have HPB := Lib.hid (PBox.new wc ⟨#[]⟩ (Bt vv)))
          | (go_at_call 56; (with_reducible refine (err_any hRx).mono ?_); rintro e wd ⟨rfl, hEd⟩; have HPD := Lib.hid (HPB.out.ext hEd); have d0 := HPD.out.c0; have d1 := HPD.out.c1; have f0 := HPD.out.f0); have HPK := Lib.hid (HPD.out.setK (Bt key)); have s0 := HPK.out.c0; have s1 := HPK.out.c1
          | (go_at_call 68; (with_reducible refine (HSH.out _).mono ?_); rintro e we ⟨rfl, hEe⟩; have HPE := Lib.hid (HPK.out.ext hEe); have g0 := HPE.out.c0; have g1 := HPE.out.c1)
          | (go_at_call 50; (with_reducible refine (HON.out _).mono ?_); rintro e wf ⟨rfl, hEf⟩; have HPF := Lib.hid (HPE.out.ext hEf); have i0 := HPF.out.c0; have i1 := HPF.out.c1))
              have HG3 := HG2.out
              have hTT := ((((hTa.trans hTb).trans hTc).trans (Turn.of hX)).trans (Turn.of hEd))
              have hgc : g < wc.heap.size := hRc.lt
              have hws : wr.heap.size ≤ wc.heap.size := by have h2 := hTa.size; have h3 := hTb.size; have h4 := hTc.size; omega
              have HNE := Lib.hid (fun k (hk : (Value.slice A1 l0.length c1).ownBlock = some k) => (show g + 1 ≤ k ∧ k < wc.heap.size from ⟨(HOW.out.lt k hk).1, Nat.lt_of_lt_of_le (HOW.out.lt k hk).2 hws⟩))
              have hset : Turn (· = wc.heap.size) wd (wd.setCell ⟨wc.heap.size, 0, none⟩ (.string (Bt key))) := Turn.set_ (H := (· = wc.heap.size)) (a := ⟨wc.heap.size, 0, none⟩) rfl _
              have HOF := Lib.hid (((((HOW.out.turn hTT (fun k hk he => by have := (HNE.out k hk).1; omega)).turn hset (fun k hk he => by have := (HNE.out k hk).2; omega)).ext hEe).ext hEf).drew)
              have HRF := Lib.hid ((((hset.cellsT (CellsT.ext hRx hEd) (show ¬ g = wc.heap.size by omega)).ext hEe).ext hEf).drew)
              have HEF := Lib.hid ((((((((hTa.trans hTb).trans hTc).trans (Turn.of hX)).trans (Turn.of hEd)).ext hE (fun k hk => by have := HG.out; omega)).setCell (p := ⟨wc.heap.size, 0, none⟩) (by have h1 := hE.sz; have h2 := hTa.size; have h3 := hTb.size; have h4 := hTc.size; show w.heap.size ≤ wc.heap.size; omega) _).trans hEe).trans hEf)
              have HBF := Lib.hid (show g + 1 ≤ wf.drew.heap.size from HRF.out.lt)
              go_region_held3 (fun w' => w'.cell? ⟨wc.heap.size, 0, none⟩ = some (.string (Bt key)) ∧ w'.cell? ⟨wc.heap.size, 1, none⟩ = some (.string (Bt vv)))
                (first | exact ⟨i0, i1⟩ | exact ⟨j0, j1⟩ | exact hcs8 | go_keep)
                (first | (refine step_app wf.drew (by rfl) (.tmp 57) (.tmp 59) 22 53 (by rfl) Try.underlying22 (.agg #[.string ⟨#[]⟩, .string ⟨#[]⟩]) [.string (Bt key), .string (Bt vv)] 2 32 infoPr rfl rfl (by decide) (by decide) (g + 1) (.slice A1 l0.length c1) l0.length _ (by rfl) HOF.out (two_str _ _) _ (by rfl) (by simp) (by omega) HBF.out ?_; intro g8 cap8 w8 hown8 hG8 hg8; have HG8 := Lib.hid hg8; have HO8 := Lib.hid hown8; have hcs8 : w8.cell? ⟨wc.heap.size, 0, none⟩ = some (.string (Bt key)) ∧ w8.cell? ⟨wc.heap.size, 1, none⟩ = some (.string (Bt vv)) := ⟨(turn_grown hg8).cellv (((Ext.refl wf.drew).alloc _).cellv i0) (fun he => by have := (HNE.out _ he).2; exact absurd this (Nat.lt_irrefl _)), (turn_grown hg8).cellv (((Ext.refl wf.drew).alloc _).cellv i1) (fun he => by have := (HNE.out _ he).2; exact absurd this (Nat.lt_irrefl _))⟩; obtain ⟨j0, j1⟩ := hcs8))
              go_wp2
              have hEa := ((Ext.refl wf.drew).alloc (.cells #[.string (Bt key), .string (Bt vv)] 53))
              have hR8 : RdrAt w8 g r3 0 := (turn_grown HG8.out).cellsT (CellsT.ext HRF.out hEa) (fun he => by have := (HNE.out _ he).1; omega)
              have hE8 : Ext w w8 := (turn_grown HG8.out).ext ((HEF.out.drew).trans hEa) (fun k hk => by have h1 := (HNE.out k hk).1; have h2 := HG.out; omega)
              refine ⟨⟨l0 ++ [⟨key, vv⟩], key, r3, some ⟨g8, 0, none⟩, cap8, by rw [List.length_append]; rfl, rfl, rfl, by rw [List.length_append]; simp; omega, HST, HENC, Lib.hid HLS.out.symm, (HPL.out trivial).1, hR8, ?_, hE8⟩, by simp only [intOf]; have h1 := HLR.out; have h2 := HZ1.out; omega⟩
              rw [List.length_append]
              show w8.ownsRow (g + 1) 53 2 (.slice (some ⟨g8, 0, none⟩) (l0.length + 1) cap8) (l0.length + 1) (prCs (l0 ++ [⟨key, vv⟩]) (l0.length + 1))
              rw [HCS.out]
              exact HO8.out
            · have t5 : ((nv : Int) == (sh : Int)) = false := by simp; omega
              have t6 : (nv == sh) = false := by simpa using hns
              have HF2 := Lib.hid (HF.out (.inr (.inr (.inr hns))))
              go_wp2_with (first
          | (go_at_call 54; (with_reducible refine (HA.out _ HR2.out).mono ?_); rintro e wa ⟨rfl, hRa, hTa⟩)
          | (go_at_call 55; (with_reducible refine (HB.out _ hRa).mono ?_); rintro e wb ⟨rfl, hRb, hTb⟩)
          | (go_at_call 55; (with_reducible refine (HC.out _ hRb).mono ?_); rintro e wc ⟨rfl, hRc, hTc⟩; have hX := (Ext.refl wc).alloc (.cells #[.string ⟨#[]⟩, .string (Bt vv)] 53); have hRx := hRc.ext hX; have HPB := Lib.hid (PBox.new wc ⟨#[]⟩ (Bt vv)))
          | (go_at_call 56; (with_reducible refine (err_any hRx).mono ?_); rintro e wd ⟨rfl, hEd⟩; have HPD := Lib.hid (HPB.out.ext hEd); have d0 := HPD.out.c0; have d1 := HPD.out.c1; have f0 := HPD.out.f0); have HPK := Lib.hid (HPD.out.setK (Bt key)); have s0 := HPK.out.c0; have s1 := HPK.out.c1
          | (go_at_call 68; (with_reducible refine (HSH.out _).mono ?_); rintro e we ⟨rfl, hEe⟩; have HPE := Lib.hid (HPK.out.ext hEe); have g0 := HPE.out.c0; have g1 := HPE.out.c1))
              go_ret2
              exact .inr ⟨HF2.out, rfl, ((((((hTa.trans hTb).trans hTc).trans (Turn.of hX)).trans (Turn.of hEd)).ext hE (fun k hk => by have := HG.out; omega)).setCell (p := ⟨wc.heap.size, 0, none⟩) (by have h1 := hE.sz; have h2 := hTa.size; have h3 := hTb.size; have h4 := hTc.size; show w.heap.size ≤ wc.heap.size; omega) _).trans hEe⟩
      · have te : (e3 == 0) = false := by simpa using he
        have HF2 := Lib.hid (HF.out (.inl he))
        go_wp2_with (first
          | (go_at_call 54; (with_reducible refine (HA.out _ HR2.out).mono ?_); rintro e wa ⟨rfl, hRa, hTa⟩)
          | (go_at_call 55; (with_reducible refine (HB.out _ hRa).mono ?_); rintro e wb ⟨rfl, hRb, hTb⟩)
          | (go_at_call 55; (with_reducible refine (HC.out _ hRb).mono ?_); rintro e wc ⟨rfl, hRc, hTc⟩; have hX := (Ext.refl wc).alloc (.cells #[.string ⟨#[]⟩, .string (Bt vv)] 53); have hRx := hRc.ext hX; have HPB := Lib.hid (PBox.new wc ⟨#[]⟩ (Bt vv)))
          | (go_at_call 56; (with_reducible refine (err_any hRx).mono ?_); rintro e wd ⟨rfl, hEd⟩; have HPD := Lib.hid (HPB.out.ext hEd); have d0 := HPD.out.c0; have d1 := HPD.out.c1; have f0 := HPD.out.f0))
        go_ret2
        exact .inr ⟨HF2.out, rfl, ((((hTa.trans hTb).trans hTc).trans (Turn.of hX)).trans (Turn.of hEd)).ext hE (fun k hk => by have := HG.out; omega)⟩
end Go.Proofs.Ytpengejnjmicnaa
end
section
namespace Go.Proofs.Ytpengejnjmicnaa
open Go.RowKit Go.Nb
/-- What the document's reading of bytes as pairs answers. -/
def OfIs (s : Bs) (w : World) (e : Ending) (w' : World) : Prop := (∃ (l : List Pr) (A : Option Addr) (c : Nat), mayB l = true ∧ encL [] l = s ∧ e = .returned (.tuple #[.slice A l.length c, .bool true]) ∧ PRd w' A l.length l ∧ Ext w w') ∨ ((∀ l, mayB l = true → encL [] l ≠ s) ∧ e = .returned (.tuple #[.slice none 0 0, .bool false]) ∧ Ext w w')
theorem RfAt.new (w : World) (l : Bs) (e : Int) : RfAt (w.alloc (.cells #[.string (Bt l), .int .i64 e] 73)) w.heap.size l e := CellsT.of_blk (Blk.new w 73 _) (by simp) (fun j hj => by
  rcases (by omega : j = 0 ∨ j = 1) with rfl | rfl <;> rfl)
theorem fits_of {l : List Pr} (hm : mayB l = true) (h : (encL [] l).length ≤ 1048576) : Fits l := by
  refine ⟨fun i => ?_, h⟩
  rcases Nat.lt_or_ge i l.length with hi | hi
  · have hb := badP_not (bad_of_may hm (l.getD i default) (by rw [List.getD_eq_getElem?_getD, List.getElem?_eq_getElem hi]; exact List.getElem_mem hi))
    omega
  · rw [List.getD_eq_getElem?_getD, List.getElem?_eq_none hi]
    exact ⟨Nat.zero_le _, Nat.zero_le _⟩
set_option maxRecDepth 100000 in
theorem of_any (S : Bs) (hlen : S.length ≤ 65536) (w : World) : Calls Try.prog 40 #[.string (Bt S)] w (OfIs S w) := by
  have hR0 := RfAt.new w S 0
  obtain ⟨g, hg⟩ : ∃ g, g = w.heap.size := ⟨_, rfl⟩
  have HR0 := Lib.hid (show RfAt (w.alloc (.cells #[.string (Bt S), .int .i64 0] 73)) g S 0 by rw [hg]; exact hR0)
  have HG := Lib.hid hg
  have hTB := toList_Bt
  clear hg hR0
  go_enter Try.func40, Try.ntmps40
  go_wp2
  rw [← HG.out]
  go_loopw [5, 6] (fun lv sv wr => ∃ (l0 : List Pr) (last r : Bs) (A1 : Option Addr) (c1 : Nat), lv = .slice A1 l0.length c1 ∧ sv = .string (Bt last) ∧ l0.length ≤ 4097 ∧ Hid (Tail S l0 last r) ∧ Hid ((encL [] l0).length + r.length ≤ S.length + 27 * l0.length) ∧ Hid (last = lastK [] l0) ∧ last.length ≤ 2048 ∧ r.length ≤ S.length ∧ RfAt wr g r 0 ∧ wr.ownsRow (g + 1) 53 2 (.slice A1 l0.length c1) l0.length (prCs l0 l0.length) ∧ Ext w wr) (fun _ _ wr => ((wr.cell? ⟨g, 0, none⟩).getD undef).str!.size)
  case atStart => exact ⟨[], [], S, none, 0, rfl, rfl, by simp, Lib.hid (tail_nil S), Lib.hid (by simp [encL]), Lib.hid rfl, by simp, Nat.le_refl _, HR0.out, World.ownsRow_nil _ _ _ _, (Ext.refl w).alloc _⟩
  case round =>
    clear HR0
    obtain ⟨l0, last, r, A1, c1, rfl, rfl, hl0, hT, hen, hla, hll, hrS, hR, hown, hE⟩ := hrel
    have k0 := hR.c0
    have k1 := hR.c1
    by_cases hr : r = []
    · have kb : decide (0 < (Bt r).size) = false := by rw [Bt_size, hr]; rfl
      have kb2 : ¬ 0 < (Bt r).size := by rw [Bt_size, hr]; simp
      have HRN := Lib.hid hr
      clear hr
      have hp := World.ownsRow.prd rfl hown
      have HP := Lib.hid hp
      have HM := may_ref (c := c1) hp (by omega)
      have HFE := Lib.hid hen.out
      clear hown
      cases hm : mayB l0
      · rw [hm] at HM
        have HF2 := Lib.hid (tail_long hT.out hm (.inl HRN.out))
        have HM := Lib.hid HM
        clear hp hm
        go_wp2_with (go_at_call 61; (with_reducible refine HM.out.mono ?_); rintro e w2 ⟨rfl, hE2⟩)
        go_ret2
        exact .inr ⟨HF2.out, rfl, hE.trans hE2⟩
      · rw [hm] at HM
        have HM := Lib.hid HM
        have HMM := Lib.hid hm
        have HB := Lib.hid (fun w' (hE' : Ext wr w') => bytes_ref (c := c1) (hp.ext hE') (by omega) (fits_of hm (by have := HFE.out; omega)))
        by_cases hq : encL [] l0 = S
        · have HQ := Lib.hid hq
          obtain ⟨z, hz⟩ : ∃ x, x = encL [] l0 := ⟨_, rfl⟩
          rw [← hz] at HB hq
          have tz : (z == S) = true := by simpa using hq
          have tz2 : (z != S) = false := by simpa using hq
          clear hp hm hz hq
          go_wp2_with (first
            | (go_at_call 61; (with_reducible refine HM.out.mono ?_); rintro e w2 ⟨rfl, hE2⟩)
            | (go_at_call 32; (with_reducible refine (HB.out _ hE2).mono ?_); rintro e w3 ⟨rfl, hE3⟩))
          go_ret2
          exact .inl ⟨l0, A1, c1, HMM.out, HQ.out, rfl, HP.out.ext (hE2.trans hE3), (hE.trans hE2).trans hE3⟩
        · have HF2 : Hid (∀ l, mayB l = true → encL [] l ≠ S) := Lib.hid (fun l hl he => by
            have hT2 := hT.out
            rw [HRN.out] at hT2
            rw [tail_end hT2 hl he] at he
            exact hq he)
          obtain ⟨z, hz⟩ : ∃ x, x = encL [] l0 := ⟨_, rfl⟩
          rw [← hz] at HB hq
          have tz : (z == S) = false := by simpa using hq
          have tz2 : (z != S) = true := by simpa using hq
          clear hp hm hz hq
          go_wp2_with (first
            | (go_at_call 61; (with_reducible refine HM.out.mono ?_); rintro e w2 ⟨rfl, hE2⟩)
            | (go_at_call 32; (with_reducible refine (HB.out _ hE2).mono ?_); rintro e w3 ⟨rfl, hE3⟩))
          go_ret2
          exact .inr ⟨HF2.out, rfl, (hE.trans hE2).trans hE3⟩
    · have hr0 : 0 < r.length := List.length_pos_iff.mpr hr
      have kk : (0 : Int) < (r.length : Int) := by omega
      have kb : decide (0 < (Bt r).size) = true := by rw [Bt_size]; simpa using hr0
      have kb2 : 0 < (Bt r).size := hr0
      by_cases hfu : 4096 < l0.length
      · have t3 : decide ((l0.length : Int) ≤ 4096) = false := by simp; omega
        have hp := World.ownsRow.prd rfl hown
        have HP := Lib.hid hp
        have HM := may_ref (c := c1) hp (by omega)
        have HFE := Lib.hid hen.out
        clear hown
        cases hm : mayB l0
        · rw [hm] at HM
          have HF2 := Lib.hid (tail_long hT.out hm (.inr (by omega)))
          have HM := Lib.hid HM
          clear hp hm
          go_wp2_with (go_at_call 61; (with_reducible refine HM.out.mono ?_); rintro e w2 ⟨rfl, hE2⟩)
          go_ret2
          exact .inr ⟨HF2.out, rfl, hE.trans hE2⟩
        · exact absurd (may_len hm).2 (by omega)
      · have t3 : decide ((l0.length : Int) ≤ 4096) = true := by simp; omega
        have HR := Lib.hid hr
        have HA : Hid (∀ w', RfAt w' g r 0 → Calls Try.prog 38 #[.pointer (some ⟨g, 0, none⟩), .int .u64 1024] w' fun x w2 => x = .returned (.int .u64 (numS 1024 r 0).1) ∧ RfAt w2 g (numS 1024 r 0).2.1 (numS 1024 r 0).2.2 ∧ Turn (· = g) w' w2) := Lib.hid (fun w' h => num3_any (most := 1024) h (by omega))
        obtain ⟨hn1, hl1, hl2⟩ := st_lens r
        have HB : Hid (∀ w', RfAt w' g (stN r).2.1 (stN r).2.2 → Calls Try.prog 39 #[.pointer (some ⟨g, 0, none⟩), .int .i64 1024] w' fun x w2 => x = .returned (.string (Bt (textS 1024 (stN r).2.1 (stN r).2.2).1)) ∧ RfAt w2 g (textS 1024 (stN r).2.1 (stN r).2.2).2.1 (textS 1024 (stN r).2.1 (stN r).2.2).2.2 ∧ Turn (· = g) w' w2) := Lib.hid (fun w' h => text3_any (most := 1024) h (by omega) (by omega))
        have HC : Hid (∀ w', RfAt w' g (stK r).2.1 (stK r).2.2 → Calls Try.prog 39 #[.pointer (some ⟨g, 0, none⟩), .int .i64 8192] w' fun x w2 => x = .returned (.string (Bt (textS 8192 (stK r).2.1 (stK r).2.2).1)) ∧ RfAt w2 g (textS 8192 (stK r).2.1 (stK r).2.2).2.1 (textS 8192 (stK r).2.1 (stK r).2.2).2.2 ∧ Turn (· = g) w' w2) := Lib.hid (fun w' h => text3_any (most := 8192) h (by omega) (by omega))
        have hN : numS 1024 r 0 = stN r := rfl
        obtain ⟨hn1, hl1, hl2⟩ := st_lens r
        have hK : textS 1024 (stN r).2.1 (stN r).2.2 = stK r := rfl
        have hV : textS 8192 (stK r).2.1 (stK r).2.2 = stV r := rfl
        rw [hN] at HA
        rw [hK] at HB
        rw [hV] at HC
        have hP : stP last r = ⟨last.take (stN r).1 ++ (stK r).1, (stV r).1⟩ := rfl
        have hfail := tail_fail hT.out hr
        have hstep := tail_step hT.out hr
        have hsz := fun h1 h2 => st_size (last := last) (r := r) h1 h2
        have hpl := fun h1 => stP_len (last := last) (r := r) h1
        have hless := fun h1 => st_less (r := r) h1
        rw [hP] at hfail hstep hsz hpl
        obtain ⟨nv, hnv⟩ : ∃ x, x = (stN r).1 := ⟨_, rfl⟩
        obtain ⟨r1, hr1⟩ : ∃ x, x = (stN r).2.1 := ⟨_, rfl⟩
        obtain ⟨e1, he1⟩ : ∃ x, x = (stN r).2.2 := ⟨_, rfl⟩
        obtain ⟨kv, hkv⟩ : ∃ x, x = (stK r).1 := ⟨_, rfl⟩
        obtain ⟨r2, hr2⟩ : ∃ x, x = (stK r).2.1 := ⟨_, rfl⟩
        obtain ⟨e2, he2⟩ : ∃ x, x = (stK r).2.2 := ⟨_, rfl⟩
        obtain ⟨vv, hvv⟩ : ∃ x, x = (stV r).1 := ⟨_, rfl⟩
        obtain ⟨r3, hr3⟩ : ∃ x, x = (stV r).2.1 := ⟨_, rfl⟩
        obtain ⟨e3, he3⟩ : ∃ x, x = (stV r).2.2 := ⟨_, rfl⟩
        rw [← hnv, ← hr1, ← he1] at HA
        rw [← hr1, ← he1, ← hkv, ← hr2, ← he2] at HB
        rw [← hr2, ← he2, ← hvv, ← hr3, ← he3] at HC
        rw [← hnv, ← hkv, ← hvv] at hfail hstep hsz hpl
        rw [← hr3] at hstep hsz hless
        rw [← he3] at hfail hsz hpl hless
        rw [← hnv] at hn1
        have HF := Lib.hid hfail
        have HST := Lib.hid hstep
        have HSZ := Lib.hid hsz
        have HPL := Lib.hid hpl
        have HLE := Lib.hid hless
        clear hfail hstep hsz hpl hless hP hN hK hV hl1 hl2 hnv hr1 he1 hkv hr2 he2 hvv hr3 he3 hr
        have n0 : (0 : Int) ≤ (nv : Int) := by omega
        have n1 : (nv : Int) ≤ 1024 := by omega
        have HR2 := Lib.hid hR
        have HOW := Lib.hid hown
        have HG2 := Lib.hid (Lib.hid hR.lt)
        clear hown
        by_cases he : e3 = 0
        · subst he
          have te : ((0 : Int) == 0) = true := rfl
          by_cases hnl : last.length < nv
          · have t1 : decide ((Bt last).size < nv) = true := by rw [Bt_size]; simpa using hnl
            have t2 : (Bt last).size < nv := hnl
            have HF2 := Lib.hid (HF.out (.inr (.inl hnl)))
            go_wp2_with (first
          | (go_at_call 38; (with_reducible refine (HA.out _ HR2.out).mono ?_); rintro e wa ⟨rfl, hRa, hTa⟩)
          | (go_at_call 39; (with_reducible refine (HB.out _ hRa).mono ?_); rintro e wb ⟨rfl, hRb, hTb⟩)
          | (go_at_call 39; (with_reducible refine (HC.out _ hRb).mono ?_); rintro e wc ⟨rfl, hRc, hTc⟩; have k0 := hRc.c0; have k1 := hRc.c1))
            go_ret2
            exact .inr ⟨HF2.out, rfl, ((hTa.trans hTb).trans hTc).ext hE (fun k hk => by have := HG.out; omega)⟩
          · have t1 : decide ((Bt last).size < nv) = false := by rw [Bt_size]; simpa using hnl
            have t2 : nv ≤ (Bt last).size := by rw [Bt_size]; omega
            have t22 : ¬ (Bt last).size < nv := by rw [Bt_size]; omega
            have hslh := fun w => slice_hi last nv (by omega) w
            have hslh2 := fun w => slice_hi2 last nv (by omega) w
            have hpl : (last.take nv ++ kv).length ≤ 2048 ∧ vv.length ≤ 8192 := HPL.out rfl
            have hkl : (last.take nv).length + kv.length ≤ 1048576 := by
              have := hpl.1
              rw [List.length_append] at this
              omega
            have hadd := fun w => add_Bt (last.take nv) kv hkl w
            have hex : (Bt last).extract 0 nv = Bt (last.take nv) := by rw [Bt_extract]; rfl
            obtain ⟨tk, htk⟩ : ∃ x, x = last.take nv := ⟨_, rfl⟩
            rw [← htk] at hslh hslh2 hadd hex hkl HST HSZ HPL hpl
            obtain ⟨key, hkey⟩ : ∃ x, x = tk ++ kv := ⟨_, rfl⟩
            rw [← hkey] at hadd HST HSZ HPL hpl
            have HKY := Lib.hid hpl.1
            have hsz2 : (oneL last ⟨key, vv⟩).length + r3.length ≤ r.length + 27 := HSZ.out rfl (by omega)
            have henc : (encL [] (l0 ++ [⟨key, vv⟩])).length + r3.length ≤ S.length + 27 * (l0.length + 1) := by
              rw [encL_snoc, ← hla.out, List.length_append]
              have := hen.out
              omega
            have HENC := Lib.hid henc
            have HCS := Lib.hid (prCs_snoc l0 ⟨key, vv⟩)
            have HLS := Lib.hid (lastK_snoc ⟨key, vv⟩ l0 [])
            have HLT := Lib.hid (HLE.out rfl)
            clear htk hkey hpl hkl hsz2 henc
            go_wp2_with (first
          | (go_at_call 38; (with_reducible refine (HA.out _ HR2.out).mono ?_); rintro e wa ⟨rfl, hRa, hTa⟩)
          | (go_at_call 39; (with_reducible refine (HB.out _ hRa).mono ?_); rintro e wb ⟨rfl, hRb, hTb⟩)
          | (go_at_call 39; (with_reducible refine (HC.out _ hRb).mono ?_); rintro e wc ⟨rfl, hRc, hTc⟩; have k0 := hRc.c0; have k1 := hRc.c1; have HRC := Lib.hid hRc; have hTT := (hTa.trans hTb).trans hTc; have HNE := Lib.hid (fun k (hk : (Value.slice A1 l0.length c1).ownBlock = some k) => (show g + 1 ≤ k ∧ k < wc.heap.size from ⟨(HOW.out.lt k hk).1, Nat.lt_of_lt_of_le (HOW.out.lt k hk).2 hTT.size⟩)); have hXp := (Ext.refl wc).alloc (.cells #[.string (Bt key), .string (Bt vv)] 53); have HOF := Lib.hid ((HOW.out.turn hTT (fun k hk he => by have := (HNE.out k hk).1; omega)).ext hXp); have HPB := Lib.hid (PBox.new wc (Bt key) (Bt vv)); have d0 := HPB.out.c0; have d1 := HPB.out.c1; have HBF := Lib.hid (show g + 1 ≤ (wc.alloc (.cells #[.string (Bt key), .string (Bt vv)] 53)).heap.size from (hRc.ext hXp).lt))
          | (at_builtin; refine wpList_app (wc.alloc (.cells #[.string (Bt key), .string (Bt vv)] 53)) rfl _ _ 22 53 rfl Try.underlying22 (.agg #[.string ⟨#[]⟩, .string ⟨#[]⟩]) [.string (Bt key), .string (Bt vv)] 2 32 infoPr rfl rfl (by decide) (by decide) (g + 1) (.slice A1 l0.length c1) l0.length _ rfl HOF.out (two_str _ _) _ rfl (by simp) (by omega) HBF.out ?_; intro g8 cap8 w8 hown8 hG8 hg8; have HG8 := Lib.hid hg8; have HO8 := Lib.hid hown8; have j0 := (turn_grown hg8).cellv (((Ext.refl _).alloc _).cellv d0) (fun he => by have := (HNE.out _ he).2; exact absurd this (Nat.lt_irrefl _))))
            have hE8 : Ext w w8 := (turn_grown HG8.out).ext (((hTT.ext hE (fun k hk => by have := HG.out; omega)).trans hXp).trans ((Ext.refl _).alloc _)) (fun k hk => by have h1 := (HNE.out k hk).1; have h2 := HG.out; omega)
            have hR8 : RfAt w8 g r3 0 := (turn_grown HG8.out).cellsT (CellsT.ext (CellsT.ext HRC.out hXp) ((Ext.refl _).alloc _)) (fun he => by have := (HNE.out _ he).1; omega)
            refine ⟨⟨l0 ++ [⟨key, vv⟩], key, r3, some ⟨g8, 0, none⟩, cap8, by rw [List.length_append]; rfl, rfl, by rw [List.length_append]; simp; omega, HST, Lib.hid (by have h := HENC.out; rw [show (l0 ++ [(⟨key, vv⟩ : Pr)]).length = l0.length + 1 from List.length_append]; exact h), Lib.hid HLS.out.symm, HKY.out, by have := HLT.out; omega, hR8, ?_, hE8⟩, ?_⟩
            · rw [List.length_append]
              show w8.ownsRow (g + 1) 53 2 (.slice (some ⟨g8, 0, none⟩) (l0.length + 1) cap8) (l0.length + 1) (prCs (l0 ++ [⟨key, vv⟩]) (l0.length + 1))
              rw [HCS.out]
              exact HO8.out
            · rw [hR8.c0, HR2.out.c0]
              exact HLT.out
        · have te : (e3 == 0) = false := by simpa using he
          have HF2 := Lib.hid (HF.out (.inl he))
          go_wp2_with (first
          | (go_at_call 38; (with_reducible refine (HA.out _ HR2.out).mono ?_); rintro e wa ⟨rfl, hRa, hTa⟩)
          | (go_at_call 39; (with_reducible refine (HB.out _ hRa).mono ?_); rintro e wb ⟨rfl, hRb, hTb⟩)
          | (go_at_call 39; (with_reducible refine (HC.out _ hRb).mono ?_); rintro e wc ⟨rfl, hRc, hTc⟩; have k0 := hRc.c0; have k1 := hRc.c1))
          go_ret2
          exact .inr ⟨HF2.out, rfl, ((hTa.trans hTb).trans hTc).ext hE (fun k hk => by have := HG.out; omega)⟩
end Go.Proofs.Ytpengejnjmicnaa
end
section
namespace Go.Proofs.Ytpengejnjmicnaa
open Go.RowKit Go.Nb
/-- Where the bytes of some pairs begin those of others, these begin with those pairs. -/
theorem enc_pre : ∀ (z l : List Pr) (last t : Bs), (∀ p, p ∈ z → badP p = false) → (∀ p, p ∈ l → badP p = false) → encL last z ++ t = encL last l → ∃ l2, l = z ++ l2 ∧ encL (lastK last z) l2 = t
  | [], l, last, t, _, _, h => ⟨l, rfl, h.symm⟩
  | p :: z, [], last, t, _, _, h => by
    rw [encL, encL, List.append_assoc] at h
    exact absurd (List.append_eq_nil_iff.mp h).1 (oneL_ne last p)
  | p :: z, q :: l, last, t, hz, hl, h => by
    rw [encL, encL, List.append_assoc] at h
    have a := st_one (last := last) (hz p (by simp)) (encL p.k z ++ t)
    have b := st_one (last := last) (hl q (by simp)) (encL q.k l)
    rw [h] at a
    have e : p = q := a.2.2.symm.trans b.2.2
    subst e
    have h2 : encL p.k z ++ t = encL p.k l := List.append_cancel_left h
    obtain ⟨l2, e2, e3⟩ := enc_pre z l p.k t (fun x hx => hz x (by simp [hx])) (fun x hx => hl x (by simp [hx])) h2
    exact ⟨l2, by rw [e2]; rfl, e3⟩
theorem encL_nil {last : Bs} {l : List Pr} (h : encL last l = []) : l = [] := by
  cases l with
  | nil => rfl
  | cons p r => exact absurd (List.append_eq_nil_iff.mp h).1 (oneL_ne last p)
theorem enc_inj {l m : List Pr} (hl : mayB l = true) (hm : mayB m = true) (h : encL [] l = encL [] m) : l = m := by
  obtain ⟨l2, e1, e2⟩ := enc_pre l m [] [] (bad_of_may hl) (bad_of_may hm) (by rw [List.append_nil]; exact h)
  rw [encL_nil e2, List.append_nil] at e1
  exact e1.symm
theorem encL_append : ∀ (a b : List Pr) (last : Bs), encL last (a ++ b) = encL last a ++ encL (lastK last a) b
  | [], _, _ => rfl
  | p :: a, b, last => by rw [List.cons_append, encL, encL, encL_append a b p.k, lastK, List.append_assoc]
theorem lastK_at : ∀ (l : List Pr) (b : Bs), l ≠ [] → lastK b l = (l.getD (l.length - 1) default).k
  | [], _, h => absurd rfl h
  | [p], _, _ => rfl
  | p :: q :: l, _, _ => by
    rw [lastK, lastK_at (q :: l) p.k (by simp)]
    simp
theorem upB_take : ∀ (l : List Pr) (n : Nat), upB l = true → upB (l.take n) = true
  | [], n, _ => by simp [upB]
  | [p], 0, _ => rfl
  | [p], n + 1, _ => by simp [upB]
  | p :: q :: l, 0, _ => rfl
  | p :: q :: l, 1, _ => rfl
  | p :: q :: l, n + 2, h => by
    simp only [upB, Bool.and_eq_true] at h
    have := upB_take (q :: l) (n + 1) h.2
    simp only [List.take_succ_cons, upB, Bool.and_eq_true] at this ⊢
    exact ⟨h.1, this⟩
theorem mayB_take {l : List Pr} {n : Nat} (h : mayB l = true) (h1 : 1 ≤ n) : mayB (l.take n) = true := by
  have hb := bad_of_may h
  have hl := may_len h
  unfold mayB at h ⊢
  simp only [Bool.and_eq_true, decide_eq_true_eq, Bool.not_eq_true'] at h ⊢
  refine ⟨by rw [List.length_take]; omega, by rw [List.length_take]; omega, ?_, upB_take l n h.2.2.2⟩
  rw [List.any_eq_false]
  intro p hp
  simpa using hb p (List.mem_of_mem_take hp)
theorem may_up {l : List Pr} (h : mayB l = true) : upB l = true := by
  unfold mayB at h
  simp only [Bool.and_eq_true] at h
  exact h.2.2.2
/-- How many bytes the first pairs have. -/
def sumP (l : List Pr) : Nat → Nat
  | 0 => 0
  | k + 1 => sumP l k + (l.getD k default).k.length + (l.getD k default).v.length
theorem getD_bad {l : List Pr} (h : ∀ p, p ∈ l → badP p = false) (i : Nat) : (l.getD i default).k.length ≤ 1024 ∧ (l.getD i default).v.length ≤ 8192 := by
  rcases Nat.lt_or_ge i l.length with hi | hi
  · have hb := badP_not (h (l.getD i default) (by rw [List.getD_eq_getElem?_getD, List.getElem?_eq_getElem hi]; exact List.getElem_mem hi))
    omega
  · rw [List.getD_eq_getElem?_getD, List.getElem?_eq_none hi]
    exact ⟨Nat.zero_le _, Nat.zero_le _⟩
theorem wrap_small {x : Int} (h0 : 0 ≤ x) (h1 : x < 9223372036854775808) : wrap64 x = x := IntWalk.wrap64_in x (by omega)
theorem sumW_is {l : List Pr} (h : ∀ p, p ∈ l → badP p = false) : ∀ k, k ≤ 100000 → sumW l k = (sumP l k : Int) ∧ sumP l k ≤ 9216 * k
  | 0, _ => ⟨rfl, Nat.zero_le _⟩
  | k + 1, hk => by
    obtain ⟨a, b⟩ := sumW_is h k (by omega)
    have c := getD_bad h k
    rw [sumW, a, sumP]
    rw [wrap_small (x := (sumP l k : Int) + _) (by omega) (by omega), wrap_small (by omega) (by omega)]
    omega
theorem enc_len : ∀ (l : List Pr) (last : Bs) (k : Nat), k ≤ l.length → (encL last (l.take k)).length ≤ sumP l k + 27 * k := by
  intro l last k hk
  induction k with
  | zero => simp [encL, sumP]
  | succ k ih =>
    have ih := ih (by omega)
    rw [List.take_succ_eq_append_getElem (by omega), encL_snoc, List.length_append]
    have e : l.getD k default = l[k] := by rw [List.getD_eq_getElem?_getD, List.getElem?_eq_getElem]; rfl
    have o : (oneL (lastK last (l.take k)) l[k]).length ≤ l[k].k.length + l[k].v.length + 27 := by
      unfold oneL
      have u := (upL_len2 (shL (lastK last (l.take k)) l[k].k)).2
      have t1 := textL_len (l[k].k.drop (shL (lastK last (l.take k)) l[k].k))
      have t2 := textL_len l[k].v
      rw [List.length_drop] at t1
      simp only [List.length_append]
      omega
    rw [sumP, e]
    omega
theorem light_fits {l : List Pr} (hh : heavyB l = false) (hm : mayB l = true) : Fits l ∧ (encL [] l).length ≤ 32768 := by
  unfold heavyB at hh
  simp only [Bool.or_eq_false_iff, decide_eq_false_iff_not] at hh
  have hb := bad_of_may hm
  have hl : l.length ≤ 500 := by omega
  have hmin : min l.length 2000 = l.length := by omega
  rw [hmin] at hh
  obtain ⟨a, _⟩ := sumW_is hb l.length (by omega)
  have c := enc_len l [] l.length (Nat.le_refl _)
  rw [List.take_length] at c
  have : (encL [] l).length ≤ 32768 := by omega
  exact ⟨fits_of hm (by omega), this⟩
theorem light_len {l : List Pr} (hh : heavyB l = false) : l.length ≤ 500 := by
  unfold heavyB at hh
  simp only [Bool.or_eq_false_iff, decide_eq_false_iff_not] at hh
  omega
/-- Reading what is a block. -/
theorem decode_yes {S : Bs} {l : List Pr} (hm : mayB l = true) (he : encL [] l = S) (hs : S.length ≤ 1048576) (w : World) : Calls Try.prog 57 #[.string (Bt S)] w fun e w' => ∃ A c, e = .returned (.tuple #[.slice A l.length c, .int .i64 0]) ∧ l.length ≤ c ∧ PRd w' A l.length l ∧ Ext w w' := by
  refine (decode_any (Bt S) (by rw [Bt_size]; exact hs) w).mono ?_
  rintro e w' (⟨l2, A, c, h1, h2, h3, h4, h5, _, h6⟩ | ⟨h1, _⟩)
  · have : l2 = l := enc_inj h1 hm (h2.trans he.symm)
    subst this
    exact ⟨A, c, h3, h4, h5, h6⟩
  · exact absurd he (h1 l hm)
theorem decode_no {S : Bs} (h : ∀ l, mayB l = true → encL [] l ≠ S) (hs : S.length ≤ 1048576) (w : World) : Calls Try.prog 57 #[.string (Bt S)] w fun e w' => e = .returned (.tuple #[.slice none 0 0, .int .i64 8]) ∧ Ext w w' := by
  refine (decode_any (Bt S) (by rw [Bt_size]; exact hs) w).mono ?_
  rintro e w' (⟨l2, A, c, h1, h2, _⟩ | ⟨_, h2, h3⟩)
  · exact absurd h2 (h l2 h1)
  · exact ⟨h2, h3⟩
theorem of_yes {S : Bs} {l : List Pr} (hm : mayB l = true) (he : encL [] l = S) (hs : S.length ≤ 65536) (w : World) : Calls Try.prog 40 #[.string (Bt S)] w fun e w' => ∃ A c, e = .returned (.tuple #[.slice A l.length c, .bool true]) ∧ PRd w' A l.length l ∧ Ext w w' := by
  refine (of_any S hs w).mono ?_
  rintro e w' (⟨l2, A, c, h1, h2, h3, h5, h6⟩ | ⟨h1, _⟩)
  · have : l2 = l := enc_inj h1 hm (h2.trans he.symm)
    subst this
    exact ⟨A, c, h3, h5, h6⟩
  · exact absurd he (h1 l hm)
theorem of_no {S : Bs} (h : ∀ l, mayB l = true → encL [] l ≠ S) (hs : S.length ≤ 65536) (w : World) : Calls Try.prog 40 #[.string (Bt S)] w fun e w' => e = .returned (.tuple #[.slice none 0 0, .bool false]) ∧ Ext w w' := by
  refine (of_any S hs w).mono ?_
  rintro e w' (⟨l2, A, c, h1, h2, _⟩ | ⟨_, h2, h3⟩)
  · exact absurd h2 (h l2 h1)
  · exact ⟨h2, h3⟩
end Go.Proofs.Ytpengejnjmicnaa
end
section
namespace Go.Proofs.Ytpengejnjmicnaa
open Go.RowKit Go.Nb
/-- The two pairs of works. -/
def L2 : List Pr := [⟨[97, 98], [49]⟩, ⟨[97, 98, 99], []⟩]
def S2 : Bs := [0, 1, 2, 97, 98, 1, 1, 49, 1, 2, 1, 1, 99, 0]
theorem L2_may : mayB L2 = true := by decide
theorem L2_enc : encL [] L2 = S2 := by decide
theorem S2_no : ∀ l, mayB l = true → encL [] l ≠ S2 ++ [0] := by
  intro l hl he
  obtain ⟨l2, e1, e2⟩ := enc_pre L2 l [] [0] (by decide) (bad_of_may hl) (by rw [L2_enc]; exact he.symm)
  have hT : Tail (S2 ++ [0]) L2 (lastK [] L2) [0] := fun m hm h2 => by
    obtain ⟨l3, e3, e4⟩ := enc_pre L2 m [] [0] (by decide) (bad_of_may hm) (by rw [L2_enc]; exact h2.symm)
    exact ⟨l3, e3, e4⟩
  exact tail_fail hT (by simp) (.inl (by decide)) l hl he
theorem prd_new2 (w : World) : PRd (w.alloc (.cells #[.string ⟨#[97, 98]⟩, .string ⟨#[49]⟩, .string ⟨#[97, 98, 99]⟩, .string ⟨#[]⟩] 53)) (some ⟨w.heap.size, 0, none⟩) 2 L2 := by
  refine ⟨rfl, fun _ => ⟨w.heap.size, 0, rfl, fun i j hi hj => ?_⟩⟩
  have hb := Blk.new w 53 #[.string ⟨#[97, 98]⟩, .string ⟨#[49]⟩, .string ⟨#[97, 98, 99]⟩, .string ⟨#[]⟩]
  rw [hb.cell]
  rcases (by omega : i = 0 ∨ i = 1) with rfl | rfl <;> rcases (by omega : j = 0 ∨ j = 1) with rfl | rfl <;> rfl
end Go.Proofs.Ytpengejnjmicnaa
end
section
namespace Go.Proofs.Ytpengejnjmicnaa
open Go.RowKit Go.Nb Go.ChangeShapes Go.WideShapes Go.ChangeAt Go.Deep
theorem slice_cap {H : Type} {enc : TypeId × Value → H} {P : Program} {w : World} {base : Nat} {spare : Nat → Bool} {held : Bool} {t e : TypeId} {A : Option Addr} {n c : Nat} {d : DataW H} {ps : List MemPlace} (ht : P.underlying t = some (.slice e)) (h : DataW.Trod enc P w base spare held t (.slice A n c) d ps) : n ≤ c := by
  obtain ⟨fuel, hf⟩ := h
  rcases open_slice ht hf with ⟨hcs, _⟩ | ⟨a, len', cap', m, n', D, Pl, hcs, _, hl, hm, hmm, _, hi⟩
  · simp [Value.cells] at hcs
    omega
  · simp [Value.cells] at hcs
    omega
/-- What is known of pairs that are handed on. -/
def PrOk (n c : Nat) (l : List Pr) : Prop := n ≤ c ∧ ∀ x ∈ l, x.k.length ≤ maxLen ∧ x.v.length ≤ maxLen
theorem open_t22 {H : Type} {enc : TypeId × Value → H} {w : World} {base : Nat} {spare : Nat → Bool} {held : Bool} {A : Option Addr} {n c : Nat} {d : DataW H} {ps : List MemPlace} (h : DataW.Trod enc Try.prog w base spare held 22 (.slice A n c) d ps) :
    ∃ l : List Pr, PRd w A n l ∧ n ≤ maxLen ∧ PrOk n c l := by
  have hcap := slice_cap Try.underlying22 h
  obtain ⟨f, hf, hn, hr⟩ := open_fields Try.underlying22 Try.underlying53 (by kernel_rfl) (by kernel_rfl) (by decide) h
  have key : ∀ i, i < n → ∃ x : Pr, (x.k.length ≤ maxLen ∧ x.v.length ≤ maxLen) ∧ ∀ j, j < 2 → f i j = .string (Bt (if j = 0 then x.k else x.v)) := by
    intro i hi
    obtain ⟨m0, y0, h0⟩ := hr i 0 _ hi rfl
    obtain ⟨m1, y1, h1⟩ := hr i 1 _ hi rfl
    obtain ⟨a0, e0, w0⟩ := fld_string Try.underlying9 h0
    obtain ⟨a1, e1, w1⟩ := fld_string Try.underlying9 h1
    refine ⟨⟨Ls a0, Ls a1⟩, ⟨w0, w1⟩, fun j hj => ?_⟩
    match j, hj with
    | 0, _ => exact e0
    | 1, _ => exact e1
  refine ⟨(List.range n).attach.map fun i => Classical.choose (key i.1 (List.mem_range.mp i.2)), ⟨by simp, hf.congr fun i j hi hj => ?_⟩, hn, hcap, fun x hx => ?_⟩
  · have hx : ((List.range n).attach.map fun i => Classical.choose (key i.1 (List.mem_range.mp i.2))).getD i default = Classical.choose (key i hi) := by
      rw [List.getD_eq_getElem?_getD, List.getElem?_map, List.getElem?_eq_getElem (by simpa using hi)]
      simp
    unfold prF
    rw [hx]
    exact ((Classical.choose_spec (key i hi)).2 j hj).symm
  · obtain ⟨i, _, rfl⟩ := List.mem_map.mp hx
    exact (Classical.choose_spec (key i.1 (List.mem_range.mp i.2))).1
end Go.Proofs.Ytpengejnjmicnaa
end
