import Derived.Test.YtpcbllmmbbmkfaaE19
namespace Go.Proofs.Ytpcbllmmbbmkfaa
open Go.RowKit
theorem applyL_few {T : List Rf} {l : Lk} (hT : Few T) (hl : l.add.ps.length ≤ 1048576) : Few (applyL T l).1 := by
  unfold applyL
  split
  · intro r hr; cases hr
  · split
    · intro r hr; cases hr
    · exact splice_few hT hl
theorem foldF_few : ∀ (l : List Lk) (_ : FewK l) (R : List Rf × Int), Few R.1 → Few (l.foldl foldF R).1 := by
  intro l; induction l with
  | nil => intro _ R h; exact h
  | cons a l ih =>
    intro hf R h
    rw [List.foldl_cons]
    refine ih (fun x hx => hf x (List.mem_cons_of_mem _ hx)) _ ?_
    unfold foldF
    split
    · exact applyL_few h (hf a List.mem_cons_self)
    · exact h
theorem foldL_few {l : List Lk} (hf : FewK l) : Few (foldL l).1 := foldF_few l hf _ (fun r hr => by cases hr)
set_option maxRecDepth 100000 in
set_option maxHeartbeats 1000000 in
/-- The program's Fold. -/
theorem fold_any {w : World} {A : Option Addr} {n c : Nat} {l : List Lk} (h : LnRd w A n l) (hn : n ≤ 100000) (hf : FewK l) : Calls Try.prog 8 #[.slice A n c] w (TabsIs (foldL l) w) := by
  have HL := Lib.hid h.1
  have HR := Lib.hid h
  have HF := Lib.hid hf
  clear h hf
  go_enter Try.func8, Try.ntmps8
  go_wp2
  refine wp_scope_straight ?_
  go_wp2
  refine wp_label ?_
  go_wp2
  go_loopw [2, 3, 8] (fun tv ev iv wr => ∃ (k : Nat) (A' : Option Addr) (c' m : Nat) (T : List Rf), k ≤ n ∧ tv = .slice A' m c' ∧ ev = .int .i64 0 ∧ iv = .int .i64 k ∧ Hid (foldL (l.take k) = (T, 0)) ∧ Hid (m = T.length) ∧ Hid (RfRd wr A' m T) ∧ Hid (m ≤ c') ∧ Hid (A' = none → c' = 0) ∧ Hid (m ≤ 64) ∧ Hid (Few T) ∧ Ext w wr) (fun _ _ iv _ => n - (intOf iv).toNat)
  case atStart => exact ⟨0, none, 0, 0, [], by omega, rfl, rfl, rfl, Lib.hid rfl, Lib.hid rfl, Lib.hid (RfRd.nil _ _), Lib.hid (Nat.le_refl _), Lib.hid (fun _ => rfl), Lib.hid (Nat.zero_le _), Lib.hid (fun r hr => by cases hr), Ext.refl w⟩
  case round =>
    obtain ⟨k, A', c', m, T, hk, rfl, rfl, rfl, hfo, hm, hT, hmc, hnil, hm64, hfew, hE⟩ := hrel
    by_cases hk2 : k < n
    · have kk : (k : Int) < (n : Int) := by omega
      have kk0 : (0 : Int) ≤ (k : Int) := by omega
      obtain ⟨g, o, u, rfl, c0, c1, c2, c3, hv, c4, c5, c6⟩ := (HR.out.ext hE).at_ k hk2
      have f1 := HF.out.at_ k
      have HST := Lib.hid (fold_step (l := l) (k := k) (by rw [HL.out]; exact hk2) hfo.out)
      obtain ⟨p, hp⟩ : ∃ p, p = l.getD k default := ⟨_, rfl⟩
      rw [← hp] at c0 c1 c2 c4 c5 c6 hv f1 HST
      obtain ⟨C1, k1, rfl, r1, r2, r3⟩ := hv
      have hEb : Ext wr (wr.alloc (.cells #[.int .i64 p.at_, .int .i64 p.take, .int .i64 p.add.len, .slice C1 p.add.ps.length k1, .int .i64 p.before.row, .int .u64 p.before.st, .int .i64 p.before.len] 41)) := (Ext.refl wr).alloc _
      have hb := Blk.new wr 41 #[.int .i64 p.at_, .int .i64 p.take, .int .i64 p.add.len, .slice C1 p.add.ps.length k1, .int .i64 p.before.row, .int .u64 p.before.st, .int .i64 p.before.len]
      have b0 := hb.cell 0
      have b1 := hb.cell 1
      have b2 := hb.cell 2
      have b3 := hb.cell 3
      have b4 := hb.cell 4
      have b5 := hb.cell 5
      have b6 := hb.cell 6
      simp at b0 b1 b2 b3 b4 b5 b6
      have HO := Lib.hid (apply_any (hT.out.ext hEb) hnil.out (by have := hm64.out; omega) hfew.out p (B := C1) (d := k1) ⟨C1, k1, rfl, r1.ext hEb, r2, r3⟩ f1)
      have hle := applyL_len (T := T) (l := p)
      have her := applyL_err (T := T) (l := p)
      have hfe := applyL_few (T := T) (l := p) hfew.out f1
      generalize hRR : applyL T p = R at *
      obtain ⟨S, x⟩ := R
      simp only at hle her hfe
      have HLE := Lib.hid hle
      have HKN := Lib.hid hk2
      have HFE := Lib.hid hfe
      clear r1 r2 r3 f1 hp hRR hle hfe
      by_cases hx : x = 0
      · subst hx
        clear her
        go_wp2_with (go_at_call 14; (with_reducible refine HO.out.mono ?_); rintro e w2 ⟨A2, d2, rfl, h1, h2, h3, hE2⟩; have HX := Lib.hid (And.intro h1 (And.intro h2 h3)); clear h1 h2 h3)
        exact ⟨⟨k + 1, A2, d2, S.length, S, by omega, rfl, rfl, rfl, HST, Lib.hid rfl, Lib.hid HX.out.2.2, Lib.hid HX.out.1, Lib.hid HX.out.2.1, Lib.hid HLE.out, HFE, (hE.trans hEb).trans hE2⟩, by simp [intOf]; omega⟩
      · have tx : (x != 0) = true := by simpa using hx
        have hS := her hx
        have HFI := Lib.hid (fold_stop HST.out hx)
        subst hS
        clear her
        have HXX := Lib.hid hx
        clear hx
        go_wp2_with (go_at_call 14; (with_reducible refine HO.out.mono ?_); rintro e w2 ⟨A2, d2, rfl, h1, h2, h3, hE2⟩; have HX := Lib.hid (And.intro h1 (And.intro h2 h3)); clear h1 h2 h3)
        go_ret2
        rw [HFI.out]
        exact ⟨A2, d2, rfl, HX.out.1, HX.out.2.1, HX.out.2.2, (hE.trans hEb).trans hE2⟩
    · obtain rfl : k = n := by omega
      have kk : ¬ (k : Int) < (k : Int) := by omega
      have HT : Hid (foldL l = (T, 0)) := Lib.hid (by have := hfo.out; rwa [List.take_of_length_le (by rw [HL.out]; omega)] at this)
      go_wp2
      go_ret2
      rw [HT.out]
      have hm' := hm.out
      subst hm'
      exact ⟨A', c', rfl, hmc.out, hnil.out, hT.out, hE⟩
