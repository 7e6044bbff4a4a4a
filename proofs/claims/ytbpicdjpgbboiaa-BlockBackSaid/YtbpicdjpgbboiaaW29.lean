import Derived.Test.YtbpicdjpgbboiaaW28
namespace Go.Proofs.Ytbpicdjpgbboiaa
open Go.RowKit Go.Nb
/-- The key behind pairs. -/
def lastK : Bs → List Pr → Bs
  | b, [] => b
  | _, p :: l => lastK p.k l
theorem lastK_snoc (p : Pr) : ∀ (l : List Pr) (b : Bs), lastK b (l ++ [p]) = p.k
  | [], _ => rfl
  | q :: l, _ => lastK_snoc p l q.k
theorem encL_snoc (p : Pr) : ∀ (l : List Pr) (b : Bs), encL b (l ++ [p]) = encL b l ++ oneL (lastK b l) p
  | [], b => by simp [encL, lastK]
  | q :: l, b => by
    rw [List.cons_append, encL, encL, lastK, encL_snoc p l q.k, List.append_assoc]
theorem prCs_snoc (l : List Pr) (p : Pr) : prCs (l ++ [p]) (l.length + 1) = prCs l l.length ++ [.string (Bt p.k), .string (Bt p.v)] := by
  unfold prCs
  rw [show (l.length + 1) * 2 = l.length * 2 + 1 + 1 by omega, List.range_succ, List.range_succ]
  simp only [List.map_append, List.map_cons, List.map_nil, List.append_assoc]
  congr 1
  · apply List.map_congr_left
    intro j hj
    have hj := List.mem_range.mp hj
    unfold prF
    rw [List.getD_eq_getElem?_getD, List.getD_eq_getElem?_getD, List.getElem?_append_left (by omega)]
  · have e1 : l.length * 2 / 2 = l.length := by omega
    have e2 : (l.length * 2 + 1) / 2 = l.length := by omega
    have e3 : l.length * 2 % 2 = 0 := by omega
    have e4 : (l.length * 2 + 1) % 2 = 1 := by omega
    rw [e1, e2, e3, e4]
    unfold prF
    simp
/-- Where other blocks turn a row of one's own stays. -/
theorem _root_.Go.World.ownsRow.turn {w w' : World} {base : Nat} {e : TypeId} {size : Nat} {v : Value} {n : Nat} {xs : List Value} {H : Nat → Prop} (h : w.ownsRow base e size v n xs) (hT : Turn H w w') (hH : ∀ k, v.ownBlock = some k → ¬ H k) : w'.ownsRow base e size v n xs := by
  refine ⟨h.1, ?_⟩
  rcases h.2 with hn | ⟨g, cap, cur, hv, hb, hg, rest⟩
  · exact .inl hn
  · refine .inr ⟨g, cap, cur, hv, hb, ?_, rest⟩
    have hlt : g < w.heap.size := by
      rcases Nat.lt_or_ge g w.heap.size with h1 | h1
      · exact h1
      · rw [Array.getElem?_eq_none h1] at hg; cases hg
    rw [hT.block g hlt (hH g (by rw [hv]; rfl))]
    exact hg
/-- What has grown, but for one row, has turned in that row alone. -/
theorem turn_grown {w w' : World} {row : Option Nat} (h : w.grownBy w' row) : Turn (fun k => row = some k) w w' := ⟨h.os, h.tape, h.output, h.size, fun k hk hn => h.block k hk (fun e => hn e.symm)⟩
theorem World.ownsRow.cap_ {w : World} {base : Nat} {e : TypeId} {size n c : Nat} {A : Option Addr} {xs : List Value} (h : w.ownsRow base e size (.slice A n c) n xs) : n ≤ c := by
  rcases h.2 with ⟨_, h1⟩ | ⟨_, cp, _, hv, _, _, h1, _⟩
  · omega
  · injection hv with _ _ h2
    omega
theorem two_str (a b : ByteArray) : ∀ u ∈ [Value.string a, Value.string b], u.oneCell' = true := by
  intro u hu
  rcases List.mem_cons.mp hu with rfl | hu
  · rfl
  · rcases List.mem_cons.mp hu with rfl | hu
    · rfl
    · cases hu
/-- A pair's own block. -/
def pbC (k v : ByteArray) (i : Nat) : Value := if i = 0 then .string k else .string v
def PBox (w : World) (b : Nat) (k v : ByteArray) : Prop := CellsT w 36 b 2 (pbC k v)
section
variable {w w' : World} {b : Nat} {k v : ByteArray}
theorem PBox.ext (h : PBox w b k v) (hE : Ext w w') : PBox w' b k v := CellsT.ext h hE
theorem PBox.c0 (h : PBox w b k v) : w.cell? ⟨b, 0, none⟩ = some (.string k) := CellsT.cell h 0 (by omega)
theorem PBox.c1 (h : PBox w b k v) : w.cell? ⟨b, 1, none⟩ = some (.string v) := CellsT.cell h 1 (by omega)
theorem PBox.f0 (h : PBox w b k v) : w.frozen? ⟨b, 0, none⟩ = false := CellsT.frozen h 0 (by omega)
theorem PBox.new (w : World) (k v : ByteArray) : PBox (w.alloc (.cells #[.string k, .string v] 36)) w.heap.size k v := CellsT.of_blk (Blk.new w 36 _) (by simp) (fun j hj => by
  rcases (by omega : j = 0 ∨ j = 1) with rfl | rfl <;> rfl)
theorem PBox.setK (h : PBox w b k v) (u : ByteArray) : PBox (w.setCell ⟨b, 0, none⟩ (.string u)) b u v := CellsT.set_ h 0 (.string u) (fun j hj => by
  rcases (by omega : j = 0 ∨ j = 1) with rfl | rfl <;> rfl)
end
theorem slice_hi (t : Bs) (n : Nat) (hn : n ≤ t.length) (w : World) : (Instr.sliceAt 9 (.string (Bt t)) none (some (.int .i64 (n : Int))) none).run Try.prog w = .ok (.string (Bt (t.take n))) w := by
  rw [run_sliceAt_string (P := Try.prog) w 9 _ _ _ _ Try.underlying9]
  have hz : (Bt t).size = t.length := rfl
  have e1 : (Bt t).extract 0 n = Bt (t.take n) := by rw [Bt_extract]; rfl
  simp [go_sem, hz, e1]
  intro h
  omega
theorem slice_hi2 (t : Bs) (n : Nat) (hn : n ≤ t.length) (w : World) : (Instr.slice 9 (.string (Bt t)) none (some (.int .i64 (n : Int))) none).run Try.prog w = .ok (.string (Bt (t.take n))) w := by
  rw [← run_sliceAt_string (P := Try.prog) w 9 _ _ _ _ Try.underlying9]
  exact slice_hi t n hn w
theorem numS_val (most : Nat) (l : Bs) : (numS most l 0).1 ≤ most ∧ (numS most l 0).2.1.length ≤ l.length := by
  unfold numS rdNum
  rw [if_pos rfl]
  split
  · exact ⟨Nat.zero_le _, Nat.le_refl _⟩
  · split
    · exact ⟨Nat.zero_le _, Nat.le_refl _⟩
    · exact ⟨by omega, by simp⟩
theorem textS_len (most : Nat) (l : Bs) (e : Int) : (textS most l e).2.1.length ≤ l.length := by
  unfold textS rdText
  split
  · split
    · exact Nat.le_refl _
    · split
      · exact Nat.le_refl _
      · split
        · exact Nat.le_refl _
        · simp
  · exact Nat.le_refl _
theorem st_lens (r : Bs) : (stN r).1 ≤ 1024 ∧ (stN r).2.1.length ≤ r.length ∧ (stK r).2.1.length ≤ r.length := by
  have a := numS_val 1024 r
  have b := textS_len 1024 (stN r).2.1 (stN r).2.2
  exact ⟨a.1, a.2, Nat.le_trans b a.2⟩
/-- What reading bytes as pairs answers. -/
def DecIs (s : Bs) (w : World) (e : Ending) (w' : World) : Prop := (∃ (l : List Pr) (A : Option Addr) (c : Nat), mayB l = true ∧ encL [] l = s ∧ e = .returned (.tuple #[.slice A l.length c, .int .i64 0]) ∧ l.length ≤ c ∧ PRd w' A l.length l ∧ Ext w w') ∨ ((∀ l, mayB l = true → encL [] l ≠ s) ∧ e = .returned (.tuple #[.slice none 0 0, .int .i64 8]) ∧ Ext w w')
set_option maxRecDepth 100000 in
theorem decode_any (s : ByteArray) (hs : s.size ≤ 1048576) (w : World) : Calls Try.prog 11 #[.string s] w (DecIs (Ls s) w) := by
  have HN := Lib.hid (wire_new s w)
  have hsl : s.size = (Ls s).length := by simp [Ls]
  obtain ⟨S, hS⟩ : ∃ S, S = Ls s := ⟨_, rfl⟩
  rw [← hS] at HN hsl ⊢
  have hlen : S.length ≤ 1048576 := by omega
  obtain ⟨g, hg⟩ : ∃ g, g = w.heap.size := ⟨_, rfl⟩
  rw [← hg] at HN
  have HG := Lib.hid hg
  have HSL := Lib.hid hsl
  clear hg hS hsl
  obtain ⟨i0, hi0, hz0, hz1, hz2⟩ := info_parts infoPr
  go_enter Try.func11, Try.ntmps11
  go_wp2_with (go_at_call 22; (with_reducible refine HN.out.mono ?_); rintro e w1 ⟨rfl, hR, hE⟩)
  have HW1 := Lib.hid hE.sz
  go_loopw [4, 5, 6] (fun lv sv iv wr => ∃ (l0 : List Pr) (last r : Bs) (A1 : Option Addr) (c1 : Nat), lv = .slice A1 l0.length c1 ∧ sv = .string (Bt last) ∧ iv = .int .i64 r.length ∧ l0.length ≤ 4096 ∧ Hid (Tail S l0 last r) ∧ Hid (encL [] l0 ++ r = S) ∧ Hid (last = lastK [] l0) ∧ last.length ≤ 2048 ∧ RdrAt wr g r 0 ∧ wr.ownsRow (g + 1) 36 2 (.slice A1 l0.length c1) l0.length (prCs l0 l0.length) ∧ Ext w wr) (fun _ _ iv _ => (intOf iv).toNat)
  case atStart => exact ⟨[], [], S, none, 0, rfl, rfl, by rw [HSL.out], by simp, Lib.hid (tail_nil S), Lib.hid rfl, Lib.hid rfl, by simp, hR, World.ownsRow_nil _ _ _ _, hE⟩
  case round =>
    clear hR hE
    obtain ⟨l0, last, r, A1, c1, rfl, rfl, rfl, hl0, hT, hen, hla, hll, hR, hown, hE⟩ := hrel
    have hrS : r.length ≤ S.length := by rw [← hen.out, List.length_append]; omega
    by_cases hr : r = []
    · subst hr
      have kk : ¬ (0 : Int) < (([] : Bs).length : Int) := by simp
      have hp := World.ownsRow.prd rfl hown
      have hc := World.ownsRow.cap_ hown
      have HM := may_any (c := c1) hp (by omega) hc
      have HP := Lib.hid hp
      have hen2 : encL [] l0 = S := by have := hen.out; rwa [List.append_nil] at this
      have HEN := Lib.hid hen2
      clear hp hen2 hown
      cases hm : mayB l0
      · rw [hm] at HM
        have HF2 := Lib.hid (tail_long hT.out hm (.inl rfl))
        have HM := Lib.hid HM
        go_wp2_with (go_at_call 14; (with_reducible refine HM.out.mono ?_); rintro e w2 ⟨rfl, hE2⟩)
        go_ret2
        exact .inr ⟨HF2.out, rfl, hE.trans hE2⟩
      · rw [hm] at HM
        have HM := Lib.hid HM
        have HMM := Lib.hid hm
        go_wp2_with (go_at_call 14; (with_reducible refine HM.out.mono ?_); rintro e w2 ⟨rfl, hE2⟩)
        go_ret2
        exact .inl ⟨l0, A1, c1, HMM.out, HEN.out, rfl, hc, HP.out.ext hE2, hE.trans hE2⟩
    · have hr0 : 0 < r.length := List.length_pos_iff.mpr hr
      have kk : (0 : Int) < (r.length : Int) := by omega
      have HR := Lib.hid hr
      have HA : Hid (∀ w', RdrAt w' g r 0 → Calls Try.prog 23 #[.pointer (some ⟨g, 0, none⟩), .int .u64 1024] w' fun x w2 => x = .returned (.int .u64 (numS 1024 r 0).1) ∧ RdrAt w2 g (numS 1024 r 0).2.1 (numS 1024 r 0).2.2 ∧ Turn (· = g) w' w2) := Lib.hid (fun w' h => num_all (most := 1024) h (by omega))
      have hN : numS 1024 r 0 = stN r := rfl
      obtain ⟨hn1, hl1, hl2⟩ := st_lens r
      have HB : Hid (∀ w', RdrAt w' g (stN r).2.1 (stN r).2.2 → Calls Try.prog 24 #[.pointer (some ⟨g, 0, none⟩), .int .i64 1024] w' fun x w2 => x = .returned (.string (Bt (textS 1024 (stN r).2.1 (stN r).2.2).1)) ∧ RdrAt w2 g (textS 1024 (stN r).2.1 (stN r).2.2).2.1 (textS 1024 (stN r).2.1 (stN r).2.2).2.2 ∧ Turn (· = g) w' w2) := Lib.hid (fun w' h => text_all (most := 1024) h (by omega) (by omega))
      have HC : Hid (∀ w', RdrAt w' g (stK r).2.1 (stK r).2.2 → Calls Try.prog 24 #[.pointer (some ⟨g, 0, none⟩), .int .i64 8192] w' fun x w2 => x = .returned (.string (Bt (textS 8192 (stK r).2.1 (stK r).2.2).1)) ∧ RdrAt w2 g (textS 8192 (stK r).2.1 (stK r).2.2).2.1 (textS 8192 (stK r).2.1 (stK r).2.2).2.2 ∧ Turn (· = g) w' w2) := Lib.hid (fun w' h => text_all (most := 8192) h (by omega) (by omega))
      have hK : textS 1024 (stN r).2.1 (stN r).2.2 = stK r := rfl
      have hV : textS 8192 (stK r).2.1 (stK r).2.2 = stV r := rfl
      rw [hN] at HA
      rw [hK] at HB
      rw [hV] at HC
      have hP : stP last r = ⟨last.take (stN r).1 ++ (stK r).1, (stV r).1⟩ := rfl
      have hfail := tail_fail hT.out hr
      have hstep := tail_step hT.out hr
      have htake := fun h1 h2 h3 => st_take (last := last) (r := r) h1 h2 h3
      have hpl := fun h1 => stP_len (last := last) (r := r) h1
      have hless := fun h1 => st_less (r := r) h1
      rw [hP] at hfail hstep htake hpl
      obtain ⟨nv, hnv⟩ : ∃ x, x = (stN r).1 := ⟨_, rfl⟩
      obtain ⟨r1, hr1⟩ : ∃ x, x = (stN r).2.1 := ⟨_, rfl⟩
      obtain ⟨e1, he1⟩ : ∃ x, x = (stN r).2.2 := ⟨_, rfl⟩
      obtain ⟨kv, hkv⟩ : ∃ x, x = (stK r).1 := ⟨_, rfl⟩
      obtain ⟨r2, hr2⟩ : ∃ x, x = (stK r).2.1 := ⟨_, rfl⟩
      obtain ⟨e2, he2⟩ : ∃ x, x = (stK r).2.2 := ⟨_, rfl⟩
      obtain ⟨vv, hvv⟩ : ∃ x, x = (stV r).1 := ⟨_, rfl⟩
      obtain ⟨r3, hr3⟩ : ∃ x, x = (stV r).2.1 := ⟨_, rfl⟩
      obtain ⟨e3, he3⟩ : ∃ x, x = (stV r).2.2 := ⟨_, rfl⟩
      rw [← hnv, ← hr1, ← he1] at HA
      rw [← hr1, ← he1, ← hkv, ← hr2, ← he2] at HB
      rw [← hr2, ← he2, ← hvv, ← hr3, ← he3] at HC
      rw [← hnv, ← hkv, ← hvv] at hfail hstep htake hpl
      rw [← hr3] at hstep htake hless
      rw [← he3] at hfail htake hpl hless
      rw [← hnv] at hn1
      have HF := Lib.hid hfail
      have HST := Lib.hid hstep
      have HTK := Lib.hid htake
      have HPL := Lib.hid hpl
      have HLE := Lib.hid hless
      clear hfail hstep htake hpl hless hP hN hK hV hl1 hl2 hnv hr1 he1 hkv hr2 he2 hvv hr3 he3 hr
      have n0 : (0 : Int) ≤ (nv : Int) := by omega
      have n1 : (nv : Int) ≤ 1024 := by omega
      have HR2 := Lib.hid hR
      have HOW := Lib.hid hown
      have HG2 := Lib.hid (Lib.hid hR.lt)
      clear hown
      by_cases he : e3 = 0
      · subst he
        have te : ((0 : Int) == 0) = true := rfl
        by_cases hnl : last.length < nv
        · have t1 : decide ((Bt last).size < nv) = true := by rw [Bt_size]; simpa using hnl
          have t2 : (Bt last).size < nv := hnl
          have hf := HF.out (.inr (.inl hnl))
          have HF2 := Lib.hid hf
          clear hf
          go_wp2_with (first
          | (go_at_call 23; (with_reducible refine (HA.out _ HR2.out).mono ?_); rintro e wa ⟨rfl, hRa, hTa⟩)
          | (go_at_call 24; (with_reducible refine (HB.out _ hRa).mono ?_); rintro e wb ⟨rfl, hRb, hTb⟩)
          | (go_at_call 24; (with_reducible refine (HC.out _ hRb).mono ?_); rintro e wc ⟨rfl, hRc, hTc⟩; have hX := (Ext.refl wc).alloc (.cells #[.string ⟨#[]⟩, .string (Bt vv)] 36); have hRx := hRc.ext hX; have HPB := Lib.hid (PBox.new wc ⟨#[]⟩ (Bt vv)))
          | (go_at_call 25; (with_reducible refine (err_any hRx).mono ?_); rintro e wd ⟨rfl, hEd⟩; have HPD := Lib.hid (HPB.out.ext hEd); have d0 := HPD.out.c0; have d1 := HPD.out.c1; have f0 := HPD.out.f0))
          go_ret2
          exact .inr ⟨HF2.out, rfl, ((((hTa.trans hTb).trans hTc).trans (Turn.of hX)).trans (Turn.of hEd)).ext hE (fun k hk => by have := HG.out; omega)⟩
        · have t1 : decide ((Bt last).size < nv) = false := by rw [Bt_size]; simpa using hnl
          have t2 : nv ≤ (Bt last).size := by rw [Bt_size]; omega
          have t22 : ¬ (Bt last).size < nv := by rw [Bt_size]; omega
          by_cases hfu : 4096 ≤ l0.length
          · have t3 : decide ((4096 : Int) ≤ (l0.length : Int)) = true := by simp; omega
            have t4 : decide (4096 ≤ l0.length) = true := by simpa using hfu
            have HF2 := Lib.hid (HF.out (.inr (.inr (.inl hfu))))
            go_wp2_with (first
          | (go_at_call 23; (with_reducible refine (HA.out _ HR2.out).mono ?_); rintro e wa ⟨rfl, hRa, hTa⟩)
          | (go_at_call 24; (with_reducible refine (HB.out _ hRa).mono ?_); rintro e wb ⟨rfl, hRb, hTb⟩)
          | (go_at_call 24; (with_reducible refine (HC.out _ hRb).mono ?_); rintro e wc ⟨rfl, hRc, hTc⟩; have hX := (Ext.refl wc).alloc (.cells #[.string ⟨#[]⟩, .string (Bt vv)] 36); have hRx := hRc.ext hX; have HPB := Lib.hid (PBox.new wc ⟨#[]⟩ (Bt vv)))
          | (go_at_call 25; (with_reducible refine (err_any hRx).mono ?_); rintro e wd ⟨rfl, hEd⟩; have HPD := Lib.hid (HPB.out.ext hEd); have d0 := HPD.out.c0; have d1 := HPD.out.c1; have f0 := HPD.out.f0))
            go_ret2
            exact .inr ⟨HF2.out, rfl, ((((hTa.trans hTb).trans hTc).trans (Turn.of hX)).trans (Turn.of hEd)).ext hE (fun k hk => by have := HG.out; omega)⟩
          · have t3 : decide ((4096 : Int) ≤ (l0.length : Int)) = false := by simp; omega
            have t4 : decide (4096 ≤ l0.length) = false := by simpa using hfu
            have hslh := fun w => slice_hi last nv (by omega) w
            have hslh2 := fun w => slice_hi2 last nv (by omega) w
            have hpl : (last.take nv ++ kv).length ≤ 2048 ∧ vv.length ≤ 8192 := HPL.out rfl
            have hkl : (last.take nv).length + kv.length ≤ 1048576 := by
              have := hpl.1
              rw [List.length_append] at this
              omega
            have hadd := fun w => add_Bt (last.take nv) kv hkl w
            have HSH := Lib.hid (fun w => shared_any last (last.take nv ++ kv) (by omega) (by omega) w)
            have HON := Lib.hid (fun w => one_any last ⟨last.take nv ++ kv, vv⟩ (by omega) (show (last.take nv ++ kv).length ≤ 65536 by have := hpl.1; omega) (show vv.length ≤ 65536 by have := hpl.2; omega) w)
            have hex : (Bt last).extract 0 nv = Bt (last.take nv) := by rw [Bt_extract]; rfl
            obtain ⟨tk, htk⟩ : ∃ x, x = last.take nv := ⟨_, rfl⟩
            rw [← htk] at hslh hslh2 hadd hex hkl HSH HON HF HST HTK HPL hpl
            obtain ⟨key, hkey⟩ : ∃ x, x = tk ++ kv := ⟨_, rfl⟩
            rw [← hkey] at hadd HSH HON HF HST HTK HPL hpl
            obtain ⟨sh, hsh⟩ : ∃ x, x = shL last key := ⟨_, rfl⟩
            rw [← hsh] at HSH HF HTK
            have HHS := Lib.hid hsh
            clear htk hkey hsh hpl hkl
            by_cases hns : nv = sh
            · subst hns
              have t5 : ((nv : Int) == (nv : Int)) = true := by simp
              have hrt : r = oneL last ⟨key, vv⟩ ++ r3 := HTK.out rfl (by omega) rfl
              have hPv : Pr.val ⟨key, vv⟩ = .agg #[.string (Bt key), .string (Bt vv)] := rfl
              have henc : encL [] (l0 ++ [⟨key, vv⟩]) ++ r3 = S := by rw [encL_snoc, ← hla.out, List.append_assoc, ← hrt]; exact hen.out
              have hcs := prCs_snoc l0 ⟨key, vv⟩
              have hls := lastK_snoc ⟨key, vv⟩ l0 []
              rw [hPv] at HON
              obtain ⟨z, hz⟩ : ∃ x, x = oneL last ⟨key, vv⟩ := ⟨_, rfl⟩
              rw [← hz] at HON hrt
              have hlr : r.length = z.length + r3.length := by rw [hrt, List.length_append]
              have hsub : (r.length : Int) - (z.length : Int) = (r3.length : Int) := by omega
              have hsub2 : (r.length : Int) - ((Bt z).size : Int) = (r3.length : Int) := hsub
              have hz1 : 0 < z.length := by rw [hz]; exact List.length_pos_iff.mpr (oneL_ne _ _)
              have r30 : (0 : Int) ≤ (r3.length : Int) := by omega
              have HENC := Lib.hid henc
              have HCS := Lib.hid hcs
              have HLS := Lib.hid hls
              have HLR := Lib.hid hlr
              have HZ1 := Lib.hid hz1
              clear hrt hPv henc hcs hls hz hlr hz1
              go_wp2_with (first
          | (go_at_call 23; (with_reducible refine (HA.out _ HR2.out).mono ?_); rintro e wa ⟨rfl, hRa, hTa⟩)
          | (go_at_call 24; (with_reducible refine (HB.out _ hRa).mono ?_); rintro e wb ⟨rfl, hRb, hTb⟩)
          | (go_at_call 24; (with_reducible refine (HC.out _ hRb).mono ?_); rintro e wc ⟨rfl, hRc, hTc⟩; have hX := (Ext.refl wc).alloc (.cells #[.string ⟨#[]⟩, .string (Bt vv)] 36); have hRx := hRc.ext hX; have HPB := Lib.hid (PBox.new wc ⟨#[]⟩ (Bt vv)))
          | (go_at_call 25; (with_reducible refine (err_any hRx).mono ?_); rintro e wd ⟨rfl, hEd⟩; have HPD := Lib.hid (HPB.out.ext hEd); have d0 := HPD.out.c0; have d1 := HPD.out.c1; have f0 := HPD.out.f0); have HPK := Lib.hid (HPD.out.setK (Bt key)); have s0 := HPK.out.c0; have s1 := HPK.out.c1
          | (go_at_call 26; (with_reducible refine (HSH.out _).mono ?_); rintro e we ⟨rfl, hEe⟩; have HPE := Lib.hid (HPK.out.ext hEe); have g0 := HPE.out.c0; have g1 := HPE.out.c1)
          | (go_at_call 21; (with_reducible refine (HON.out _).mono ?_); rintro e wf ⟨rfl, hEf⟩; have HPF := Lib.hid (HPE.out.ext hEf); have i0 := HPF.out.c0; have i1 := HPF.out.c1))
              have HG3 := HG2.out
              have hTT := ((((hTa.trans hTb).trans hTc).trans (Turn.of hX)).trans (Turn.of hEd))
              have hgc : g < wc.heap.size := hRc.lt
              have hws : wr.heap.size ≤ wc.heap.size := by have h2 := hTa.size; have h3 := hTb.size; have h4 := hTc.size; omega
              have HNE := Lib.hid (fun k (hk : (Value.slice A1 l0.length c1).ownBlock = some k) => (show g + 1 ≤ k ∧ k < wc.heap.size from ⟨(HOW.out.lt k hk).1, Nat.lt_of_lt_of_le (HOW.out.lt k hk).2 hws⟩))
              have hset : Turn (· = wc.heap.size) wd (wd.setCell ⟨wc.heap.size, 0, none⟩ (.string (Bt key))) := Turn.set_ (H := (· = wc.heap.size)) (a := ⟨wc.heap.size, 0, none⟩) rfl _
              have HOF := Lib.hid (((((HOW.out.turn hTT (fun k hk he => by have := (HNE.out k hk).1; omega)).turn hset (fun k hk he => by have := (HNE.out k hk).2; omega)).ext hEe).ext hEf).drew)
              have HRF := Lib.hid ((((hset.cellsT (CellsT.ext hRx hEd) (show ¬ g = wc.heap.size by omega)).ext hEe).ext hEf).drew)
              have HEF := Lib.hid ((((((((hTa.trans hTb).trans hTc).trans (Turn.of hX)).trans (Turn.of hEd)).ext hE (fun k hk => by have := HG.out; omega)).setCell (p := ⟨wc.heap.size, 0, none⟩) (by have h1 := hE.sz; have h2 := hTa.size; have h3 := hTb.size; have h4 := hTc.size; show w.heap.size ≤ wc.heap.size; omega) _).trans hEe).trans hEf)
              have HBF := Lib.hid (show g + 1 ≤ wf.drew.heap.size from HRF.out.lt)
              go_region_held3 (fun w' => w'.cell? ⟨wc.heap.size, 0, none⟩ = some (.string (Bt key)) ∧ w'.cell? ⟨wc.heap.size, 1, none⟩ = some (.string (Bt vv)))
                (first | exact ⟨i0, i1⟩ | exact ⟨j0, j1⟩ | exact hcs8 | go_keep)
                (first | (refine step_app wf.drew (by rfl) (.tmp 57) (.tmp 59) 22 36 (by rfl) Try.underlying22 (.agg #[.string ⟨#[]⟩, .string ⟨#[]⟩]) [.string (Bt key), .string (Bt vv)] 2 32 infoPr rfl rfl (by decide) (by decide) (g + 1) (.slice A1 l0.length c1) l0.length _ (by rfl) HOF.out (two_str _ _) _ (by rfl) (by simp) (by omega) HBF.out ?_; intro g8 cap8 w8 hown8 hG8 hg8; have HG8 := Lib.hid hg8; have HO8 := Lib.hid hown8; have hcs8 : w8.cell? ⟨wc.heap.size, 0, none⟩ = some (.string (Bt key)) ∧ w8.cell? ⟨wc.heap.size, 1, none⟩ = some (.string (Bt vv)) := ⟨(turn_grown hg8).cellv (((Ext.refl wf.drew).alloc _).cellv i0) (fun he => by have := (HNE.out _ he).2; exact absurd this (Nat.lt_irrefl _)), (turn_grown hg8).cellv (((Ext.refl wf.drew).alloc _).cellv i1) (fun he => by have := (HNE.out _ he).2; exact absurd this (Nat.lt_irrefl _))⟩; obtain ⟨j0, j1⟩ := hcs8))
              go_wp2
              have hEa := ((Ext.refl wf.drew).alloc (.cells #[.string (Bt key), .string (Bt vv)] 36))
              have hR8 : RdrAt w8 g r3 0 := (turn_grown HG8.out).cellsT (CellsT.ext HRF.out hEa) (fun he => by have := (HNE.out _ he).1; omega)
              have hE8 : Ext w w8 := (turn_grown HG8.out).ext ((HEF.out.drew).trans hEa) (fun k hk => by have h1 := (HNE.out k hk).1; have h2 := HG.out; omega)
              refine ⟨⟨l0 ++ [⟨key, vv⟩], key, r3, some ⟨g8, 0, none⟩, cap8, by rw [List.length_append]; rfl, rfl, rfl, by rw [List.length_append]; simp; omega, HST, HENC, Lib.hid HLS.out.symm, (HPL.out trivial).1, hR8, ?_, hE8⟩, by simp only [intOf]; have h1 := HLR.out; have h2 := HZ1.out; omega⟩
              rw [List.length_append]
              show w8.ownsRow (g + 1) 36 2 (.slice (some ⟨g8, 0, none⟩) (l0.length + 1) cap8) (l0.length + 1) (prCs (l0 ++ [⟨key, vv⟩]) (l0.length + 1))
              rw [HCS.out]
              exact HO8.out
            · have t5 : ((nv : Int) == (sh : Int)) = false := by simp; omega
              have t6 : (nv == sh) = false := by simpa using hns
              have HF2 := Lib.hid (HF.out (.inr (.inr (.inr hns))))
              go_wp2_with (first
          | (go_at_call 23; (with_reducible refine (HA.out _ HR2.out).mono ?_); rintro e wa ⟨rfl, hRa, hTa⟩)
          | (go_at_call 24; (with_reducible refine (HB.out _ hRa).mono ?_); rintro e wb ⟨rfl, hRb, hTb⟩)
          | (go_at_call 24; (with_reducible refine (HC.out _ hRb).mono ?_); rintro e wc ⟨rfl, hRc, hTc⟩; have hX := (Ext.refl wc).alloc (.cells #[.string ⟨#[]⟩, .string (Bt vv)] 36); have hRx := hRc.ext hX; have HPB := Lib.hid (PBox.new wc ⟨#[]⟩ (Bt vv)))
          | (go_at_call 25; (with_reducible refine (err_any hRx).mono ?_); rintro e wd ⟨rfl, hEd⟩; have HPD := Lib.hid (HPB.out.ext hEd); have d0 := HPD.out.c0; have d1 := HPD.out.c1; have f0 := HPD.out.f0); have HPK := Lib.hid (HPD.out.setK (Bt key)); have s0 := HPK.out.c0; have s1 := HPK.out.c1
          | (go_at_call 26; (with_reducible refine (HSH.out _).mono ?_); rintro e we ⟨rfl, hEe⟩; have HPE := Lib.hid (HPK.out.ext hEe); have g0 := HPE.out.c0; have g1 := HPE.out.c1))
              go_ret2
              exact .inr ⟨HF2.out, rfl, ((((((hTa.trans hTb).trans hTc).trans (Turn.of hX)).trans (Turn.of hEd)).ext hE (fun k hk => by have := HG.out; omega)).setCell (p := ⟨wc.heap.size, 0, none⟩) (by have h1 := hE.sz; have h2 := hTa.size; have h3 := hTb.size; have h4 := hTc.size; show w.heap.size ≤ wc.heap.size; omega) _).trans hEe⟩
      · have te : (e3 == 0) = false := by simpa using he
        have HF2 := Lib.hid (HF.out (.inl he))
        go_wp2_with (first
          | (go_at_call 23; (with_reducible refine (HA.out _ HR2.out).mono ?_); rintro e wa ⟨rfl, hRa, hTa⟩)
          | (go_at_call 24; (with_reducible refine (HB.out _ hRa).mono ?_); rintro e wb ⟨rfl, hRb, hTb⟩)
          | (go_at_call 24; (with_reducible refine (HC.out _ hRb).mono ?_); rintro e wc ⟨rfl, hRc, hTc⟩; have hX := (Ext.refl wc).alloc (.cells #[.string ⟨#[]⟩, .string (Bt vv)] 36); have hRx := hRc.ext hX; have HPB := Lib.hid (PBox.new wc ⟨#[]⟩ (Bt vv)))
          | (go_at_call 25; (with_reducible refine (err_any hRx).mono ?_); rintro e wd ⟨rfl, hEd⟩; have HPD := Lib.hid (HPB.out.ext hEd); have d0 := HPD.out.c0; have d1 := HPD.out.c1; have f0 := HPD.out.f0))
        go_ret2
        exact .inr ⟨HF2.out, rfl, ((((hTa.trans hTb).trans hTc).trans (Turn.of hX)).trans (Turn.of hEd)).ext hE (fun k hk => by have := HG.out; omega)⟩
