import Derived.Test.YtbpicdjpgbboiaaW20
namespace Go.Proofs.Ytbpicdjpgbboiaa
open Go.RowKit Go.Nb
/-- How many pairs at the front are below a key. -/
def seekL (key : Bs) : List Pr → Nat
  | [] => 0
  | p :: l => if Op.bytesLess p.k key = true then seekL key l + 1 else 0
set_option maxRecDepth 100000 in
theorem seek_ref {w : World} {A : Option Addr} {n c : Nat} {l : List Pr} (h : PRd w A n l) (hn : n ≤ 1048576) (key : Bs) : Calls Try.prog 20 #[.slice A n c, .string (Bt key)] w fun e w' => e = .returned (.int .i64 (seekL key l)) ∧ Ext w w' := by
  have HL := Lib.hid h.1
  go_enter Try.func20, Try.ntmps20
  go_wp2
  go_loopw [5] (fun iv wr => ∃ k : Nat, k ≤ n ∧ iv = .int .i64 k ∧ Hid (seekL key l = k + seekL key (l.drop k)) ∧ Ext w wr) (fun iv _ => n - (intOf iv).toNat)
  case atStart => exact ⟨0, by omega, rfl, Lib.hid (by simp), Ext.refl w⟩
  case round =>
    obtain ⟨k, hk, rfl, hs, hE⟩ := hrel
    have hT := toList_Bt
    by_cases hk2 : k < n
    · have kk : (k : Int) < (n : Int) := by omega
      have tk : decide ((k : Int) < (n : Int)) = true := by simp; omega
      have kk0 : (0 : Int) ≤ (k : Int) := by omega
      obtain ⟨g, o, rfl, c0, c1⟩ := (h.ext hE).at_ k hk2
      have hd : l.drop k = l.getD k default :: l.drop (k + 1) := drop_cons (by rw [HL.out]; exact hk2)
      obtain ⟨p, hp⟩ : ∃ p, p = l.getD k default := ⟨_, rfl⟩
      rw [← hp] at c0 c1 hd
      obtain ⟨x, hx⟩ : ∃ x, x = p.k := ⟨_, rfl⟩
      rw [← hx] at c0
      cases hlt : Op.bytesLess x key
      · have hs2 : seekL key l = k := by rw [hs.out, hd, seekL, ← hx, hlt, if_neg (by simp)]; rfl
        have HS2 := Lib.hid hs2
        clear hs2 hd hp hx
        go_wp2
        go_ret
        exact ⟨by rw [HS2.out]; rfl, hE⟩
      · have hs2 : seekL key l = k + 1 + seekL key (l.drop (k + 1)) := by rw [hs.out, hd, seekL, ← hx, hlt, if_pos rfl]; omega
        have HS2 := Lib.hid hs2
        clear hs2 hd hp hx
        go_wp2
        exact ⟨⟨k + 1, by omega, rfl, HS2, hE⟩, by simp [intOf]; omega⟩
    · have kk : ¬ (k : Int) < (n : Int) := by omega
      have tk : decide ((k : Int) < (n : Int)) = false := by simp; omega
      have hs2 : seekL key l = k := by rw [hs.out, List.drop_of_length_le (by rw [HL.out]; omega)]; rfl
      have HS2 := Lib.hid hs2
      clear hs2
      go_wp2
      go_ret
      exact ⟨by rw [HS2.out]; rfl, hE⟩
