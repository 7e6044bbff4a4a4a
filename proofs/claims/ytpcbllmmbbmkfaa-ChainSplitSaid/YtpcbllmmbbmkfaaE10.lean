import Derived.Test.YtpcbllmmbbmkfaaE9
namespace Go.Proofs.Ytpcbllmmbbmkfaa
open Go.RowKit
theorem take_snoc {l : List Rf} {k : Nat} (h : k < l.length) : l.take (k + 1) = l.take k ++ [l.getD k default] := by
  rw [List.take_add_one, List.getElem?_eq_getElem h, List.getD_eq_getElem?_getD, List.getElem?_eq_getElem h]; rfl
theorem two_rf (a b : Value) (h : b.oneCell' = true) (ha : a.oneCell' = true) : ∀ u ∈ [a, b], u.oneCell' = true := by
  intro u hu
  rcases List.mem_cons.mp hu with rfl | hu
  · exact ha
  · rcases List.mem_cons.mp hu with rfl | hu
    · exact h
    · cases hu
/-- One ref more. -/
theorem RfOw.snoc {w0 w' : World} {base n c g cap : Nat} {A : Option Addr} {l : List Rf} {r : Rf} {v : Value} {xs : List Value} (hl : l.length = n) (hx : RfVP (PsB w0 base) xs l) (ho : w0.ownsRow base 36 2 (.slice A n c) n xs) (hv : PsB w0 base v r.ps)
    (h1 : w'.ownsRow base 36 2 (.slice (some ⟨g, 0, none⟩) (n + 1) cap) (n + 1) (xs ++ [.int .i64 r.len, v])) (hg : (w0.alloc (.cells [Value.int .i64 r.len, v].toArray 36)).grownBy w' (Value.slice A n c).ownBlock) : RfOw w' base (some ⟨g, 0, none⟩) (n + 1) cap (l ++ [r]) := by
  have hE : Ext w0 (w0.alloc (.cells [Value.int .i64 r.len, v].toArray 36)) := (Ext.refl w0).alloc _
  have ho2 := World.ownsRow.ext ho hE
  exact ⟨by rw [List.length_append, hl]; rfl, _, h1, RfVP.append ((hx.up hE).row ho2 (by decide) hg) ⟨rfl, (hv.ext hE).row ho2 (by decide) hg, trivial⟩⟩
set_option maxRecDepth 100000 in
set_option maxHeartbeats 1000000 in
/-- Refs of one's own: the law's. -/
theorem refs_any {w : World} {A : Option Addr} {n c : Nat} {l : List Rf} (h : RfRd w A n l) (hn : n ≤ 100000) (hf : Few l) : Calls Try.prog 13 #[.slice A n c] w fun e w' => ∃ A' c', e = .returned (.slice A' n c') ∧ RfOw w' w.heap.size A' n c' l ∧ Ext w w' := by
  have HL := Lib.hid h.1
  have HR := Lib.hid h
  have HF := Lib.hid hf
  clear h hf
  go_enter Try.func13, Try.ntmps13
  go_wp2
  go_loopw [3, 4] (fun ov iv wr => ∃ (k : Nat) (A' : Option Addr) (c' : Nat), k ≤ n ∧ ov = .slice A' k c' ∧ iv = .int .i64 k ∧ Hid (RfOw wr w.heap.size A' k c' (l.take k)) ∧ Ext w wr) (fun _ iv _ => n - (intOf iv).toNat)
  case atStart => exact ⟨0, none, 0, by omega, rfl, rfl, Lib.hid (RfOw.nil _ _), Ext.refl w⟩
  case round =>
    obtain ⟨k, A', c', hk, rfl, rfl, how, hE⟩ := hrel
    by_cases hk2 : k < n
    · have kk : (k : Int) < (n : Int) := by omega
      have kk0 : (0 : Int) ≤ (k : Int) := by omega
      obtain ⟨g, o, u, rfl, c0, c1, c2⟩ := (HR.out.ext hE).at_ k hk2
      have f1 := HF.out.at_ k
      have HT := Lib.hid (take_snoc (l := l) (k := k) (by rw [HL.out]; exact hk2))
      obtain ⟨p, hp⟩ : ∃ p, p = l.getD k default := ⟨_, rfl⟩
      rw [← hp] at c0 c2 f1 HT
      obtain ⟨C1, k1, rfl, r1, r2, r3⟩ := c2
      have HO := Lib.hid (lownRef_any (w := wr) p ⟨C1, k1, rfl, r1, r2, r3⟩ f1)
      have HKN := Lib.hid hk2
      clear r1 r2 r3 f1 hp
      go_wp2_with (first
        | (go_at_call 22; (with_reducible refine HO.out.mono ?_); rintro e w1 ⟨D1, d1, rfl, hP1, hE1⟩; have HP1 := Lib.hid hP1; clear hP1; have how1 := how.out.ext hE1; obtain ⟨HLL, xs, hxo, hxv⟩ := how1; have HXO := Lib.hid hxo; have HXV := Lib.hid hxv; have HLT := Lib.hid HLL; clear hxo hxv HLL)
        | (at_builtin; refine wpList_app w1 rfl _ _ 22 36 rfl Try.underlying22 (.agg #[.int .i64 0, .slice none 0 0]) [.int .i64 p.len, .slice D1 p.ps.length d1] 2 32 infoRf rfl rfl (by decide) (by decide) w.heap.size (.slice A' k c') k xs rfl HXO.out (two_rf _ _ rfl rfl) _ rfl rfl (by omega) (Nat.le_trans hE.size hE1.size) ?_; intro g4 cap4 w4 hown4 hG4 hg4; have HOW := Lib.hid (RfOw.snoc HLT.out HXV.out HXO.out (HP1.out w.heap.size) hown4 hg4); have HG := Lib.hid hG4; clear hown4 hg4 hG4))
      exact ⟨⟨k + 1, _, _, by omega, rfl, rfl, Lib.hid (by rw [HT.out]; exact HOW.out), HG.out.ext (hE.trans hE1) (Nat.le_refl _)⟩, by simp [intOf]; omega⟩
    · obtain rfl : k = n := by omega
      have kk : ¬ (k : Int) < (k : Int) := by omega
      have HT : Hid (l.take k = l) := Lib.hid (List.take_of_length_le (by rw [HL.out]; omega))
      go_wp2
      go_ret
      exact ⟨A', c', rfl, by rw [HT.out] at how; exact how.out, hE⟩
