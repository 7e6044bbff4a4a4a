import Derived.Test.YtbpicdjpgbboiaaW19
namespace Go.Proofs.Ytbpicdjpgbboiaa
open Go.RowKit Go.Nb
theorem run_str_own {w : World} {base g n cap : Nat} {l : Bs} (hl : l.length = n) (h : w.ownsRow base 5 1 (.slice (some ⟨g, 0, none⟩) n cap) n (Lib.byteCells l)) :
    (convert 45 9 (.slice (some ⟨g, 0, none⟩) n cap)).run Try.prog w = .ok (.string (Bt l)) w := by
  subst hl
  refine run_convert_bytes_back (P := Try.prog) w 45 9 5 ⟨g, 0, none⟩ cap l Try.underlying45 Try.underlying5 Try.underlying9 (fun j hj => ?_)
  rw [Addr.add_mid, Nat.zero_add, h.cells1.1.cell j hj, List.getD_eq_getElem?_getD]
  simp [Lib.byteCells, hj]
theorem _root_.Go.World.ownsRow.val {w : World} {base : Nat} {e : TypeId} {size n : Nat} {v : Value} {xs : List Value} (h : w.ownsRow base e size v n xs) : ∃ A c, v = .slice A n c := by
  rcases h.2 with ⟨h1, h2⟩ | ⟨g, cap, cur, hv, _⟩
  · subst h2; exact ⟨none, 0, h1⟩
  · exact ⟨_, _, hv⟩
set_option maxRecDepth 100000 in
theorem encode_any {w : World} {A : Option Addr} {n c : Nat} {l : List Pr} (h : PRd w A n l) (hn : n ≤ 1048576) (hc : n ≤ c) (hf : mayB l = true → Fits l) : Calls Try.prog 9 #[.slice A n c] w fun e w' => e = .returned (if mayB l = true then .tuple #[.string (Bt (encL [] l)), .int .i64 0] else .tuple #[.string ⟨#[]⟩, .int .i64 2]) ∧ Ext w w' := by
  have HL := Lib.hid h.1
  have HM := may_any (c := c) h hn hc
  cases hm : mayB l
  · rw [hm] at HM
    have HM := Lib.hid HM
    simp only [Bool.false_eq_true, if_false]
    clear hm hf
    go_enter Try.func9, Try.ntmps9
    go_wp2_with (go_at_call 14; (with_reducible refine HM.out.mono ?_); rintro e w1 ⟨rfl, hE⟩)
    go_ret2
    exact ⟨rfl, hE⟩
  · rw [hm] at HM
    have HM := Lib.hid HM
    have HF := Lib.hid (hf hm)
    have HK := Lib.hid (keyAt_len (hf hm))
    clear hf
    simp only [if_true]
    have hn1 : 1 ≤ n := by
      unfold mayB at hm
      rw [HL.out] at hm
      simp at hm
      omega
    clear hm
    obtain ⟨i0, hi0, hz0, hz1, hz2⟩ := info_parts infoByte
    go_enter Try.func9, Try.ntmps9
    go_wp2_with (go_at_call 14; (with_reducible refine HM.out.mono ?_); rintro e w1 ⟨rfl, hE⟩)
    go_loopw [4, 5, 13] (fun sv lv iv wr => ∃ (k : Nat) (s last : Bs) (A1 : Option Addr) (c1 : Nat), k ≤ n ∧ iv = .int .i64 k ∧ sv = .slice A1 s.length c1 ∧ lv = .string (Bt last) ∧ Hid (last = keyAt l k) ∧ Hid (s ++ encL last (l.drop k) = encL [] l) ∧ wr.ownsRow w.heap.size 5 1 (.slice A1 s.length c1) s.length (Lib.byteCells s) ∧ Ext w wr) (fun _ _ iv _ => n - (intOf iv).toNat)
    case atStart => exact ⟨0, [], [], none, 0, by omega, rfl, rfl, rfl, Lib.hid rfl, Lib.hid rfl, World.ownsRow_nil _ _ _ _, hE⟩
    case round =>
      obtain ⟨k, s, last, A1, c1, hk, rfl, rfl, rfl, hla, hs, hown, hE⟩ := hrel
      by_cases hk2 : k < n
      · have kk : (k : Int) < (n : Int) := by omega
        have kk0 : (0 : Int) ≤ (k : Int) := by omega
        obtain ⟨g, o, rfl, c0, c1'⟩ := (h.ext hE).at_ k hk2
        have hd : l.drop k = l.getD k default :: l.drop (k + 1) := drop_cons (by rw [HL.out]; exact hk2)
        have hks := keyAt_succ l k
        obtain ⟨p, hp⟩ : ∃ p, p = l.getD k default := ⟨_, rfl⟩
        have hpf := HF.out.1 k
        rw [← hp] at c0 c1' hd hks hpf
        have hnx : (s ++ oneL last p) ++ encL p.k (l.drop (k + 1)) = encL [] l := by rw [← hs.out, hd, encL, List.append_assoc]
        have hlen : s.length + (oneL last p).length ≤ 1048576 := by
          have h1 := congrArg List.length hnx
          have h2 := HF.out.2
          simp only [List.length_append] at h1
          omega
        have HO := Lib.hid (fun w => one_any last p (by rw [hla.out]; exact HK.out k) hpf.1 hpf.2 w)
        have hP : p.val = .agg #[.string (Bt p.k), .string (Bt p.v)] := rfl
        rw [hP] at HO
        have HNX := Lib.hid hnx
        have HKS := Lib.hid hks
        obtain ⟨z, hz⟩ : ∃ z, z = oneL last p := ⟨_, rfl⟩
        rw [← hz] at hlen HO HNX
        have HLEN := Lib.hid hlen
        have HOW := Lib.hid hown
        have HG := Lib.hid hown.blockGe
        have HLT := Lib.hid hown.lt
        have q0 : (wr.alloc (.cells #[.string (Bt p.k), .string (Bt p.v)] 36)).cell? ⟨wr.heap.size, 0, none⟩ = some (.string (Bt p.k)) := (Blk.new wr 36 _).cell 0
        have HQ := Lib.hid q0
        have HE3 := Lib.hid ((Ext.refl wr).alloc (.cells #[.string (Bt p.k), .string (Bt p.v)] 36))
        have HW0 := Lib.hid hE.sz
        clear hnx hks hd hpf hp hP hlen hz hown
        go_wp2_with (first
          | (go_at_call 21; (with_reducible refine (HO.out _).mono ?_); rintro e w2 ⟨rfl, hE2⟩; have hE4 := HE3.out.trans hE2; have d0 := hE2.cellv HQ.out; have hw4 : w.heap.size ≤ w2.heap.size := Nat.le_trans HW0.out hE4.sz; have HO2 := Lib.hid (HOW.out.ext hE4))
          | (at_builtin; refine Lib.wpList_append_own_string _ rfl (.tmp 17) (.tmp 20) 45 9 rfl w.heap.size 5 i0 Try.underlying45 Try.underlying9 hi0 hz0 hz1 hz2 (.slice A1 s.length c1) s.length _ rfl HO2.out (Bt z) rfl (by have := HLEN.out; rw [Bt_size]; unfold maxLen; omega) (by have := HLEN.out; rw [Bt_size]; omega) hw4 ?_; intro v' w3 hown3 hg3 _; rw [strCells_Bt, ← Lib.byteCells_append] at hown3; replace hown3 : w3.ownsRow w.heap.size 5 1 v' (s ++ z).length (Lib.byteCells (s ++ z)) := (by rw [List.length_append]; exact hown3); obtain ⟨A2, c2, rfl⟩ := hown3.val; have HO3 := Lib.hid hown3; have d1 : w3.cell? ⟨wr.heap.size, 0, none⟩ = some (.string (Bt p.k)) := hg3.cell d0 (fun he => absurd (HLT.out _ he.symm).2 (Nat.lt_irrefl _)); clear hown3))
        exact ⟨⟨k + 1, s ++ z, p.k, A2, c2, by omega, rfl, by rw [List.length_append], rfl, Lib.hid HKS.out.symm, HNX, HO3.out, (hE.trans hE4).grown hg3 HG.out⟩, by simp [intOf]; omega⟩
      · obtain rfl : k = n := by omega
        have kk : ¬ (k : Int) < (k : Int) := by omega
        have hs2 : s = encL [] l := by rw [← hs.out, List.drop_of_length_le (by rw [HL.out]; omega), encL, List.append_nil]
        have hs0 : s.length ≠ 0 := by
          rw [hs2]
          cases l with
          | nil => have := HL.out; simp at this; omega
          | cons p r => simp [encL, oneL, upL]
        obtain ⟨g, rfl⟩ : ∃ g, A1 = some ⟨g, 0, none⟩ := by
          rcases hown.2 with ⟨_, h0⟩ | ⟨g, cap, cur, hv, _⟩
          · exact absurd h0 hs0
          · injection hv with h1; exact ⟨g, h1⟩
        have hcv := run_str_own rfl hown
        have HS2 := Lib.hid hs2
        clear hs2 hs0 hown
        go_wp2
        go_ret2
        exact ⟨by rw [← HS2.out]; rfl, hE⟩
