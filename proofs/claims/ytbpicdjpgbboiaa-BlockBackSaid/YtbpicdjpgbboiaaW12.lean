import Derived.Test.YtbpicdjpgbboiaaW11
namespace Go.Proofs.Ytbpicdjpgbboiaa
open Go.RowKit Go.Nb
/-- How many bytes both begin with. -/
def shL : Bs → Bs → Nat
  | a :: l, b :: m => if a = b then shL l m + 1 else 0
  | [], _ => 0
  | _ :: _, [] => 0
theorem shL_le : ∀ a b, shL a b ≤ a.length ∧ shL a b ≤ b.length
  | a :: l, b :: m => by
    have := shL_le l m
    simp only [shL, List.length_cons]
    split <;> omega
  | [], _ => by simp [shL]
  | _ :: _, [] => by simp [shL]
theorem shL_nil (a : Bs) : shL a [] = 0 := by cases a <;> rfl
theorem shL_take : ∀ a b : Bs, a.take (shL a b) = b.take (shL a b)
  | a :: l, b :: m => by
    simp only [shL]
    split
    · next h => subst h; simp [shL_take l m]
    · simp
  | [], _ => by simp [shL]
  | _ :: _, [] => by simp [shL]
theorem shL_step (a b : Bs) (k : Nat) (ha : k < a.length) (hb : k < b.length) : shL (a.drop k) (b.drop k) = if a[k] = b[k] then shL (a.drop (k + 1)) (b.drop (k + 1)) + 1 else 0 := by
  rw [List.drop_eq_getElem_cons ha, List.drop_eq_getElem_cons hb]
  rfl
theorem bn_Bt (l : Bs) (k : Nat) (h : k < l.length) : bn (Bt l) k = (l[k]).toNat := bn_Ls (Bt l) l rfl k h
theorem shL_end (a b : Bs) (k : Nat) (h : a.length ≤ k ∨ b.length ≤ k) : shL (a.drop k) (b.drop k) = 0 := by
  rcases h with h | h
  · rw [List.drop_of_length_le h]; rfl
  · rw [List.drop_of_length_le h, shL_nil]
set_option maxRecDepth 100000 in
theorem shared_any (a b : Bs) (ha : a.length ≤ 1048576) (hb : b.length ≤ 1048576) (w : World) : Calls Try.prog 26 #[.string (Bt a), .string (Bt b)] w fun e w' => e = .returned (.int .i64 (shL a b)) ∧ Ext w w' := by
  have hza : ((Bt a).size : Int) = (a.length : Int) := rfl
  have hzb : ((Bt b).size : Int) = (b.length : Int) := rfl
  obtain ⟨m, hm⟩ : ∃ m, m = min a.length b.length := ⟨_, rfl⟩
  have hmi : (if (b.length : Int) < (a.length : Int) then (b.length : Int) else (a.length : Int)) = (m : Int) := by split <;> omega
  have hmi2 : min (a.length : Int) (b.length : Int) = (m : Int) := by omega
  have hmm : (m : Int) ≤ 1048576 := by omega
  have HM := Lib.hid hm
  clear hm
  go_enter Try.func26, Try.ntmps26
  go_wp2
  go_step3
  go_wp2
  go_step3
  go_wp2
  go_loopw [4] (fun iv wr => ∃ k : Nat, iv = .int .i64 k ∧ k ≤ m ∧ Hid (shL a b = k + shL (a.drop k) (b.drop k)) ∧ Ext w wr) (fun iv _ => m - (intOf iv).toNat)
  case atStart => exact ⟨0, rfl, by omega, Lib.hid (by simp), Ext.refl w⟩
  case round =>
    obtain ⟨k, rfl, hk, hs, hE⟩ := hrel
    have kk0 : (0 : Int) ≤ (k : Int) := by omega
    by_cases hk2 : k < m
    · have kk : (k : Int) < (m : Int) := by omega
      have hka : k < a.length := by have := HM.out; omega
      have hkb : k < b.length := by have := HM.out; omega
      have ga := str_index (Bt a) k hka
      have gb := str_index (Bt b) k hkb
      have hst := shL_step a b k hka hkb
      have exy : (bn (Bt a) k = bn (Bt b) k) ↔ a[k] = b[k] := by
        rw [bn_Bt a k hka, bn_Bt b k hkb]
        exact UInt8.toNat_inj
      obtain ⟨x, hx⟩ : ∃ x, x = bn (Bt a) k := ⟨_, rfl⟩
      obtain ⟨y, hy⟩ : ∃ x, x = bn (Bt b) k := ⟨_, rfl⟩
      rw [← hx, ← hy] at exy
      rw [← hx] at ga
      rw [← hy] at gb
      by_cases hxy : x = y
      · have t1 : ((x : Int) != (y : Int)) = false := by simp; omega
        have hs2 : shL a b = k + 1 + shL (a.drop (k + 1)) (b.drop (k + 1)) := by rw [hs.out, hst, if_pos (exy.1 hxy)]; omega
        have HS2 := Lib.hid hs2
        clear hx hy exy hst hxy hs2 hka hkb
        go_wp2
        go_quiet (fail)
        go_wp2
        refine ⟨⟨k + 1, rfl, by omega, HS2, hE.drewN _⟩, by simp [intOf]; omega⟩
      · have t1 : ((x : Int) != (y : Int)) = true := by simp; omega
        have hs2 : shL a b = k := by rw [hs.out, hst, if_neg (fun h => hxy (exy.2 h))]; omega
        have HS2 := Lib.hid hs2
        clear hx hy exy hst hxy hs2 hka hkb
        go_wp2
        go_quiet (fail)
        go_wp2
        rw [Exit.noGoto_ret]
        go_ret
        exact ⟨by rw [HS2.out]; rfl, hE.drewN _⟩
    · have kk : ¬ (k : Int) < (m : Int) := by omega
      have hs2 : shL a b = k := by rw [hs.out, shL_end a b k (by have := HM.out; omega)]; omega
      have HS2 := Lib.hid hs2
      clear hs2
      go_wp2
      go_ret
      exact ⟨by rw [HS2.out]; rfl, hE⟩
set_option maxRecDepth 100000 in
theorem shared_ref (a b : Bs) (ha : a.length ≤ 1048576) (hb : b.length ≤ 1048576) (w : World) : Calls Try.prog 32 #[.string (Bt a), .string (Bt b)] w fun e w' => e = .returned (.int .i64 (shL a b)) ∧ Ext w w' := by
  have hza : ((Bt a).size : Int) = (a.length : Int) := rfl
  have hzb : ((Bt b).size : Int) = (b.length : Int) := rfl
  go_enter Try.func32, Try.ntmps32
  go_wp2
  go_loopw [5] (fun iv wr => ∃ k : Nat, iv = .int .i64 k ∧ k ≤ a.length ∧ k ≤ b.length ∧ Hid (shL a b = k + shL (a.drop k) (b.drop k)) ∧ Ext w wr) (fun iv _ => a.length - (intOf iv).toNat)
  case atStart => exact ⟨0, rfl, by omega, by omega, Lib.hid (by simp), Ext.refl w⟩
  case round =>
    obtain ⟨k, rfl, hka, hkb, hs, hE⟩ := hrel
    have kk0 : (0 : Int) ≤ (k : Int) := by omega
    by_cases hk2 : k < a.length
    · have kk : (k : Int) < (a.length : Int) := by omega
      by_cases hk3 : k < b.length
      · have kk3 : (k : Int) < (b.length : Int) := by omega
        have ga := str_index (Bt a) k hk2
        have gb := str_index (Bt b) k hk3
        have hst := shL_step a b k hk2 hk3
        have exy : (bn (Bt a) k = bn (Bt b) k) ↔ a[k] = b[k] := by
          rw [bn_Bt a k hk2, bn_Bt b k hk3]
          exact UInt8.toNat_inj
        obtain ⟨x, hx⟩ : ∃ x, x = bn (Bt a) k := ⟨_, rfl⟩
        obtain ⟨y, hy⟩ : ∃ x, x = bn (Bt b) k := ⟨_, rfl⟩
        rw [← hx, ← hy] at exy
        rw [← hx] at ga
        rw [← hy] at gb
        have hk4 : k + 1 ≤ b.length := by omega
        by_cases hxy : x = y
        · have t1 : ((x : Int) == (y : Int)) = true := by simp; omega
          have hs2 : shL a b = k + 1 + shL (a.drop (k + 1)) (b.drop (k + 1)) := by rw [hs.out, hst, if_pos (exy.1 hxy)]; omega
          have HS2 := Lib.hid hs2
          clear hx hy exy hst hxy hs2
          go_wp2
          go_quiet (fail)
          go_wp2
          refine ⟨⟨k + 1, rfl, by omega, hk4, HS2, hE.drewN _⟩, by simp [intOf]; omega⟩
        · have t1 : ((x : Int) == (y : Int)) = false := by simp; omega
          have hs2 : shL a b = k := by rw [hs.out, hst, if_neg (fun h => hxy (exy.2 h))]; omega
          have HS2 := Lib.hid hs2
          clear hx hy exy hst hxy hs2
          go_wp2
          go_quiet (fail)
          go_wp2
          go_ret
          exact ⟨by rw [HS2.out]; rfl, hE.drewN _⟩
      · have kk3 : ¬ (k : Int) < (b.length : Int) := by omega
        have hs2 : shL a b = k := by rw [hs.out, shL_end a b k (by omega)]; omega
        have HS2 := Lib.hid hs2
        clear hs2
        go_wp2
        go_quiet (fail)
        go_wp2
        go_ret
        exact ⟨by rw [HS2.out]; rfl, hE.drewN _⟩
    · have kk : ¬ (k : Int) < (a.length : Int) := by omega
      have hs2 : shL a b = k := by rw [hs.out, shL_end a b k (by omega)]; omega
      have HS2 := Lib.hid hs2
      clear hs2
      go_wp2
      go_quiet (fail)
      go_wp2
      go_ret
      exact ⟨by rw [HS2.out]; rfl, hE.drewN _⟩
