import Derived.Test.YtpcbllmmbbmkfaaW10
namespace Go.Proofs.Ytpcbllmmbbmkfaa
open Go.RowKit Go.Nb
theorem _root_.Go.Lib.BuilderAt.ext {T e : TypeId} {B b : Nat} {p : Value} {bs : List Value} {w w' : World} (h : Lib.BuilderAt T e B b p bs w) (hE : Ext w w') : Lib.BuilderAt T e B b p bs w' := by
  have hl := h.lt
  obtain ⟨hB, v, hb, hown, hne⟩ := h
  exact ⟨hB, v, (hE.block b hl).trans hb, hown.ext hE, hne⟩
theorem _root_.Go.Lib.IsBuilder.ext {T e : TypeId} {B b : Nat} {bs : List Value} {w w' : World} (h : Lib.IsBuilder T e B b bs w) (hE : Ext w w') : Lib.IsBuilder T e B b bs w' := by
  rcases h with h | h
  · exact .inl (h.ext hE)
  · exact .inr (h.ext hE)
theorem zero81 (w : World) : (zeroValue 81).run Try.prog w = .ok (.agg #[.pointer none, .slice none 0 0]) w := by kernel_rfl
/-- Numbers' bytes, one behind the other. -/
def catN (f : Nat → Bs) : Nat → Bs
  | 0 => []
  | k + 1 => catN f k ++ f k
theorem catN_len (f : Nat → Bs) (m : Nat) : ∀ k, (∀ i, i < k → (f i).length ≤ m) → (catN f k).length ≤ k * m
  | 0, _ => by simp [catN]
  | k + 1, h => by
    have := catN_len f m k (fun i hi => h i (by omega))
    have h2 := h k (by omega)
    rw [catN, List.length_append, Nat.succ_mul]; omega
theorem catN_ne (f : Nat → Bs) (n : Nat) (hn : 0 < n) (h : ∀ i, f i ≠ []) : catN f n ≠ [] := by
  obtain ⟨k, rfl⟩ : ∃ k, n = k + 1 := ⟨n - 1, by omega⟩
  rw [catN]
  intro h0
  exact h k (List.append_eq_nil_iff.1 h0).2
theorem catN_mono (f : Nat → Bs) (n : Nat) : ∀ k, k ≤ n → (catN f k).length ≤ (catN f n).length := by
  intro k hk
  obtain ⟨d, rfl⟩ : ∃ d, n = k + d := ⟨n - k, by omega⟩
  clear hk
  induction d with
  | zero => exact Nat.le_refl _
  | succ d ih =>
    rw [← Nat.add_assoc, catN, List.length_append]
    omega
set_option maxRecDepth 100000 in
theorem nums_any {w : World} {ga n c : Nat} {x : Nat → Nat} (h : CellsAt w ga n (fun i => .int .u64 (x i))) (hn : 0 < n) (hn2 : n ≤ 64) (hx : ∀ i, x i < 256 ^ 8) :
    Calls Try.prog 37 #[.slice (some ⟨ga, 0, none⟩) n c] w fun e w' => e = .returned (.string (Bt (catN (fun i => upL (x i)) n))) ∧ Ext w w' := by
  have hub : ∀ i, (upL (x i)).length ≤ 9 := fun i => (upL_len2 _).2
  have hlen : ∀ k, k ≤ n → (catN (fun i => upL (x i)) k).length ≤ 576 := fun k hk => by
    have := catN_len (fun i => upL (x i)) 9 k (fun i _ => hub i)
    omega
  have HLEN := Lib.hid hlen
  have HX := Lib.hid hx
  have HUB := Lib.hid hub
  have n1 : (n : Int) ≤ 64 := by omega
  obtain ⟨F, hF⟩ : ∃ F : Nat → Bs, F = fun i => upL (x i) := ⟨_, rfl⟩
  rw [← hF]
  rw [← hF] at HLEN
  have HF := Lib.hid hF
  have hne : catN F n ≠ [] := catN_ne _ _ hn (fun i => by rw [hF]; simp [upL])
  have HNE := Lib.hid hne
  clear hlen hx hub hF hne hn hn2
  go_enter Try.func37, Try.ntmps37
  go_wp2
  have hI : Lib.IsBuilder 81 5 w.heap.size w.heap.size (Lib.byteCells (catN F 0)) (w.alloc (.cells #[.pointer none, .slice none 0 0] 81)) := Lib.fresh_isBuilder 81 5 w
  have hEw : Ext w (w.alloc (.cells #[.pointer none, .slice none 0 0] 81)) := (Ext.refl w).alloc _
  generalize w.alloc (.cells #[.pointer none, .slice none 0 0] 81) = w2 at *
  obtain ⟨b, hb⟩ : ∃ b, b = w.heap.size := ⟨_, rfl⟩
  have HB := Lib.hid hb
  rw [← hb] at hI ⊢
  clear hb
  go_loopw [8] (fun i wr => ∃ k : Nat, k ≤ n ∧ i = .int .i64 k ∧ Ext w wr ∧ Lib.IsBuilder 81 5 b b (Lib.byteCells (catN F k)) wr) (fun i _ => n - (intOf i).toNat)
  case atStart => exact ⟨0, by omega, rfl, hEw, hI⟩
  case round =>
    obtain ⟨k, hk, rfl, hEr, hIr⟩ := hrel
    have HI := Lib.hid hIr
    clear hI hEw hIr
    by_cases hk2 : k < n
    · have kk : (k : Int) < (n : Int) := by omega
      have kk0 : (0 : Int) ≤ (k : Int) := by omega
      have hcell := (h.ext hEr).cell k hk2
      go_wp2_with (first
        | (go_at_call 52; (with_reducible refine (up_any (x k) (HX.out k) _).mono ?_); rintro e w3 ⟨rfl, hE3⟩; have hw3 : b ≤ w3.heap.size := by (have := HB.out; have := hEr.sz; have := hE3.sz; omega))
        | (go_at_call 51; (with_reducible refine (bwrite_any b b _ _ w3 (HI.out.ext hE3) (by have := HLEN.out k hk; have := HUB.out k; omega) hw3).mono ?_); rintro e w4 ⟨rfl, hB4, hE4⟩))
      refine ⟨⟨k + 1, by omega, rfl, Below.trans (hEr.trans hE3) (by rw [HB.out] at hE4; exact hE4), .inr ?_⟩, by simp [intOf]; omega⟩
      rw [catN, HF.out]
      rw [HF.out] at hB4
      exact hB4
    · obtain rfl : k = n := by omega
      have kk : ¬ (k : Int) < (k : Int) := by omega
      have CS := Lib.hid (bstring_any b b _ wr HI.out HNE.out)
      go_wp2_with (go_at_call 53; (with_reducible refine CS.out.mono ?_); rintro e w4 ⟨rfl, hE4⟩)
      go_ret
      rw [HB.out] at hE4
      exact ⟨rfl, Below.trans hEr hE4⟩