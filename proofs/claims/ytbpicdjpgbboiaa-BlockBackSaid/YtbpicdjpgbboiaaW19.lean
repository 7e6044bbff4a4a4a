import Derived.Test.YtbpicdjpgbboiaaW18
namespace Go.Proofs.Ytbpicdjpgbboiaa
open Go.RowKit Go.Nb
/-- Pairs' bytes, behind a key. -/
def encL : Bs → List Pr → Bs
  | _, [] => []
  | last, p :: l => oneL last p ++ encL p.k l
/-- The key ahead of place k. -/
def keyAt (l : List Pr) (k : Nat) : Bs := if k = 0 then [] else (l.getD (k - 1) default).k
theorem keyAt_succ (l : List Pr) (k : Nat) : keyAt l (k + 1) = (l.getD k default).k := by
  unfold keyAt
  rw [if_neg (by omega), Nat.add_sub_cancel]
/-- What may be turned into bytes: no key, no value is too long. -/
def Fits (l : List Pr) : Prop := (∀ i, (l.getD i default).k.length ≤ 65536 ∧ (l.getD i default).v.length ≤ 65536) ∧ (encL [] l).length ≤ 1048576
theorem keyAt_len {l : List Pr} (h : Fits l) (k : Nat) : (keyAt l k).length ≤ 65536 := by
  unfold keyAt
  split
  · simp
  · exact (h.1 _).1
set_option maxRecDepth 100000 in
theorem bytes_ref {w : World} {A : Option Addr} {n c : Nat} {l : List Pr} (h : PRd w A n l) (hn : n ≤ 1048576) (hf : Fits l) : Calls Try.prog 18 #[.slice A n c] w fun e w' => e = .returned (.string (Bt (encL [] l))) ∧ Ext w w' := by
  have HL := Lib.hid h.1
  have HF := Lib.hid hf
  have HK := Lib.hid (keyAt_len hf)
  clear hf
  go_enter Try.func18, Try.ntmps18
  go_wp2
  go_loopw [3, 4, 5] (fun sv lv iv wr => ∃ (k : Nat) (s last : Bs), k ≤ n ∧ iv = .int .i64 k ∧ sv = .string (Bt s) ∧ lv = .string (Bt last) ∧ Hid (last = keyAt l k) ∧ Hid (s ++ encL last (l.drop k) = encL [] l) ∧ Ext w wr) (fun _ _ iv _ => n - (intOf iv).toNat)
  case atStart => exact ⟨0, [], [], by omega, rfl, rfl, rfl, Lib.hid rfl, Lib.hid rfl, Ext.refl w⟩
  case round =>
    obtain ⟨k, s, last, hk, rfl, rfl, rfl, hla, hs, hE⟩ := hrel
    by_cases hk2 : k < n
    · have kk : (k : Int) < (n : Int) := by omega
      have kk0 : (0 : Int) ≤ (k : Int) := by omega
      obtain ⟨g, o, rfl, c0, c1⟩ := (h.ext hE).at_ k hk2
      have hd : l.drop k = l.getD k default :: l.drop (k + 1) := drop_cons (by rw [HL.out]; exact hk2)
      have hks := keyAt_succ l k
      obtain ⟨p, hp⟩ : ∃ p, p = l.getD k default := ⟨_, rfl⟩
      have hpf := HF.out.1 k
      rw [← hp] at c0 c1 hd hks hpf
      have hnx : (s ++ oneL last p) ++ encL p.k (l.drop (k + 1)) = encL [] l := by rw [← hs.out, hd, encL, List.append_assoc]
      have hlen : s.length + (oneL last p).length ≤ 1048576 := by
        have h1 := congrArg List.length hnx
        have h2 := HF.out.2
        simp only [List.length_append] at h1
        omega
      have hadd := fun w => add_Bt s (oneL last p) hlen w
      have HO := Lib.hid (fun w => one_ref last p (by rw [hla.out]; exact HK.out k) hpf.1 hpf.2 w)
      have hP : p.val = .agg #[.string (Bt p.k), .string (Bt p.v)] := rfl
      rw [hP] at HO
      have HNX := Lib.hid hnx
      have HKS := Lib.hid hks
      obtain ⟨z, hz⟩ : ∃ z, z = oneL last p := ⟨_, rfl⟩
      rw [← hz] at hadd HO HNX
      clear hnx hks hd hpf hp hP hlen hz
      go_wp2_with (go_at_call 17; (with_reducible refine (HO.out _).mono ?_); rintro e w2 ⟨rfl, hE2⟩; have d0 := hE2.cellv c0)
      exact ⟨⟨k + 1, s ++ z, p.k, by omega, rfl, rfl, rfl, Lib.hid HKS.out.symm, HNX, hE.trans hE2⟩, by simp [intOf]; omega⟩
    · have kk : ¬ (k : Int) < (n : Int) := by omega
      have hs2 : s = encL [] l := by rw [← hs.out, List.drop_of_length_le (by rw [HL.out]; omega), encL, List.append_nil]
      have HS2 := Lib.hid hs2
      clear hs2
      go_wp2
      go_ret
      exact ⟨by rw [← HS2.out]; rfl, hE⟩
