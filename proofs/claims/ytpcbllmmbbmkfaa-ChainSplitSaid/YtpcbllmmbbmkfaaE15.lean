import Derived.Test.YtpcbllmmbbmkfaaE14
namespace Go.Proofs.Ytpcbllmmbbmkfaa
open Go.RowKit
theorem fold_stop {l : List Lk} {k : Nat} {R : List Rf × Int} (h : foldL (l.take k) = R) (he : R.2 ≠ 0) : foldL l = R := by
  conv => lhs; rw [← List.take_append_drop k l]
  rw [foldL_append, h, foldF_err he]
theorem fold_step {l : List Lk} {k : Nat} {T : List Rf} (hk : k < l.length) (h : foldL (l.take k) = (T, 0)) : foldL (l.take (k + 1)) = applyL T (l.getD k default) := by
  rw [take_snocK hk, foldL_snoc, h, foldF, if_pos rfl]
set_option maxRecDepth 100000 in
set_option maxHeartbeats 1000000 in
/-- The document's Fold. -/
theorem rfold_any {w : World} {A : Option Addr} {n c : Nat} {l : List Lk} (h : LnRd w A n l) (hn : n ≤ 100000) (hf : FewK l) : Calls Try.prog 10 #[.slice A n c] w (TabsIs (foldL l) w) := by
  have HL := Lib.hid h.1
  have HR := Lib.hid h
  have HF := Lib.hid hf
  clear h hf
  go_enter Try.func10, Try.ntmps10
  go_wp2
  go_loopw [4, 5] (fun tv iv wr => ∃ (k : Nat) (A' : Option Addr) (c' m : Nat) (T : List Rf), k ≤ n ∧ tv = .slice A' m c' ∧ iv = .int .i64 k ∧ Hid (foldL (l.take k) = (T, 0)) ∧ Hid (m = T.length) ∧ Hid (RfRd wr A' m T) ∧ Hid (m ≤ c') ∧ Hid (A' = none → c' = 0) ∧ Hid (m ≤ 64) ∧ Ext w wr) (fun _ iv _ => n - (intOf iv).toNat)
  case atStart => exact ⟨0, none, 0, 0, [], by omega, rfl, rfl, Lib.hid rfl, Lib.hid rfl, Lib.hid (RfRd.nil _ _), Lib.hid (Nat.le_refl _), Lib.hid (fun _ => rfl), Lib.hid (Nat.zero_le _), Ext.refl w⟩
  case round =>
    obtain ⟨k, A', c', m, T, hk, rfl, rfl, hfo, hm, hT, hmc, hnil, hm64, hE⟩ := hrel
    by_cases hk2 : k < n
    · have kk : (k : Int) < (n : Int) := by omega
      have kk0 : (0 : Int) ≤ (k : Int) := by omega
      obtain ⟨g, o, u, rfl, c0, c1, c2, c3, hv, c4, c5, c6⟩ := (HR.out.ext hE).at_ k hk2
      have f1 := HF.out.at_ k
      have HST := Lib.hid (fold_step (l := l) (k := k) (by rw [HL.out]; exact hk2) hfo.out)
      obtain ⟨p, hp⟩ : ∃ p, p = l.getD k default := ⟨_, rfl⟩
      rw [← hp] at c0 c1 c2 c4 c5 c6 hv f1 HST
      obtain ⟨C1, k1, rfl, r1, r2, r3⟩ := hv
      have HO := Lib.hid (rapply_any (w := wr) hT.out (by have := hm64.out; omega) hmc.out p (B := C1) (d := k1) ⟨C1, k1, rfl, r1, r2, r3⟩ f1)
      have hle := applyL_len (T := T) (l := p)
      have her := applyL_err (T := T) (l := p)
      generalize hRR : applyL T p = R at *
      obtain ⟨S, x⟩ := R
      simp only at hle her
      have HLE := Lib.hid hle
      have HKN := Lib.hid hk2
      clear r1 r2 r3 f1 hp hRR hle
      by_cases hx : x = 0
      · subst hx
        clear her
        go_wp2_with (go_at_call 15; (with_reducible refine HO.out.mono ?_); rintro e w2 ⟨A2, d2, rfl, h1, h2, h3, hE2⟩; have HX := Lib.hid (And.intro h1 (And.intro h2 h3)); clear h1 h2 h3)
        exact ⟨⟨k + 1, A2, d2, S.length, S, by omega, rfl, rfl, HST, Lib.hid rfl, Lib.hid HX.out.2.2, Lib.hid HX.out.1, Lib.hid HX.out.2.1, Lib.hid HLE.out, hE.trans hE2⟩, by simp [intOf]; omega⟩
      · have tx : (x != 0) = true := by simpa using hx
        have hS := her hx
        have HFI := Lib.hid (fold_stop HST.out hx)
        subst hS
        clear her
        have HXX := Lib.hid hx
        clear hx
        go_wp2_with (go_at_call 15; (with_reducible refine HO.out.mono ?_); rintro e w2 ⟨A2, d2, rfl, h1, h2, h3, hE2⟩; clear h1 h2 h3)
        go_ret2
        exact TabsIs.no HFI.out (hE.trans hE2)
    · obtain rfl : k = n := by omega
      have kk : ¬ (k : Int) < (k : Int) := by omega
      have HT : Hid (foldL l = (T, 0)) := Lib.hid (by have := hfo.out; rwa [List.take_of_length_le (by rw [HL.out]; omega)] at this)
      go_wp2
      go_ret2
      rw [HT.out]
      have hm' := hm.out
      subst hm'
      exact ⟨A', c', rfl, hmc.out, hnil.out, hT.out, hE⟩
