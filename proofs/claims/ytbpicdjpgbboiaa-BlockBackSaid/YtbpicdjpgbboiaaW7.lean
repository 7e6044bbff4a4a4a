import Derived.Test.YtbpicdjpgbboiaaW6
namespace Go.Proofs.Ytbpicdjpgbboiaa
open Go.RowKit Go.Nb
/-- What is wrong with a text that is read. -/
def txE (most : Nat) (l : Bs) : Int := if (readL l).2.2 ≠ 0 then (readL l).2.2 else if most < (readL l).1 then 4 else if l.length - (readL l).2.1 < (readL l).1 then 10 else 0
/-- How many bytes it has, and where it begins. -/
def txC (most : Nat) (l : Bs) : Nat := if txE most l = 0 then (readL l).1 else 0
def txN (most : Nat) (l : Bs) : Nat := if txE most l = 0 then (readL l).2.1 else 0
theorem txE_is (most : Nat) (l : Bs) : (rdText most l).2.2 = txE most l := by
  unfold rdText txE
  split
  · rfl
  · split
    · rfl
    · split <;> rfl
theorem txL_is (most : Nat) (l : Bs) : (rdText most l).2.1 = if txE most l = 0 then l.drop (txN most l + txC most l) else l := by
  unfold rdText txN txC txE
  split
  · rfl
  · split
    · rfl
    · split
      · rfl
      · rfl
theorem txT_is (most : Nat) (l : Bs) : (rdText most l).1 = (l.drop (txN most l)).take (txC most l) := by
  unfold rdText txN txC txE
  split
  · simp
  · split
    · simp
    · split
      · simp
      · simp
theorem tx_le (most : Nat) (l : Bs) : txN most l + txC most l ≤ l.length := by
  have hn := readL_n l
  unfold txN txC txE
  split
  · exact Nat.zero_le _
  · split
    · exact Nat.zero_le _
    · split
      · exact Nat.zero_le _
      · next h =>
        show (readL l).2.1 + (readL l).1 ≤ l.length
        omega
set_option maxRecDepth 100000 in
theorem counted_any {l : Bs} {most : Nat} (hl : l.length ≤ 1048576) (hm : most ≤ 65536) (w : World) :
    Calls Try.prog 44 #[.string (Bt l), .int .i64 most] w fun e w' => e = .returned (.tuple #[.int .i64 (txC most l), .int .i64 (txN most l), .int .i64 (txE most l)]) ∧ Ext w w' := by
  have HR := Lib.hid (read_any (Bt l) hl w)
  have hn := readL_n l
  have hE : txE most l = if (readL l).2.2 ≠ 0 then (readL l).2.2 else if most < (readL l).1 then 4 else if l.length - (readL l).2.1 < (readL l).1 then 10 else 0 := rfl
  have hC : txC most l = if txE most l = 0 then (readL l).1 else 0 := rfl
  have hN : txN most l = if txE most l = 0 then (readL l).2.1 else 0 := rfl
  obtain ⟨x, hxx⟩ : ∃ x, x = (readL l).1 := ⟨_, rfl⟩
  obtain ⟨n, hnn⟩ : ∃ x, x = (readL l).2.1 := ⟨_, rfl⟩
  obtain ⟨e, hee⟩ : ∃ x, x = (readL l).2.2 := ⟨_, rfl⟩
  have HRD : ReadIs (Bt l) w = fun e' w' => e' = .returned (.tuple #[.int .u64 x, .int .i64 n, .int .i64 e]) ∧ Ext w w' := by
    rw [hxx, hnn, hee]; rfl
  have HR2 := HR.out
  rw [HRD] at HR2
  have HR2 := Lib.hid HR2
  rw [← hee, ← hxx, ← hnn] at hE
  rw [← hxx] at hC
  rw [← hnn] at hN
  rw [← hnn] at hn
  clear hxx hnn hee HRD
  have m0 : (0 : Int) ≤ (most : Int) := by omega
  have m1 : (most : Int) ≤ 65536 := by omega
  have m2 : decide ((most : Int) < 0) = false := by simp
  have hw : IntKind.u64.wrap (most : Int) = most := u64_lt (by omega)
  have hz : ((Bt l).size : Int) = (l.length : Int) := rfl
  by_cases he : e = 0
  · have t1 : (e != 0) = false := by simpa using he
    by_cases hb : most < x
    · have t2 : decide (most < x) = true := by simpa using hb
      rw [if_neg (by simpa using he), if_pos hb] at hE
      rw [hE] at hC hN ⊢
      rw [if_neg (by decide)] at hC hN
      rw [hC, hN]
      clear hE hC hN he hb
      go_enter Try.func44, Try.ntmps44
      go_wp2_with (go_at_call 42; (with_reducible refine HR2.out.mono ?_); rintro e1 w1 ⟨rfl, hE⟩)
      go_ret3
      exact ⟨rfl, hE⟩
    · have t2 : decide (most < x) = false := by simpa using hb
      have x0 : (0 : Int) ≤ (x : Int) := by omega
      have x1 : (x : Int) ≤ 65536 := by omega
      have n0 : (0 : Int) ≤ (n : Int) := by omega
      have n1 : (n : Int) ≤ (l.length : Int) := by omega
      have l1 : (l.length : Int) ≤ 1048576 := by omega
      by_cases hs : l.length - n < x
      · have t3 : decide ((l.length : Int) - (n : Int) < (x : Int)) = true := by simp; omega
        rw [if_neg (by simpa using he), if_neg hb, if_pos hs] at hE
        rw [hE] at hC hN ⊢
        rw [if_neg (by decide)] at hC hN
        rw [hC, hN]
        clear hE hC hN he hb hs
        go_enter Try.func44, Try.ntmps44
        go_wp2_with (go_at_call 42; (with_reducible refine HR2.out.mono ?_); rintro e1 w1 ⟨rfl, hE⟩)
        go_ret3
        exact ⟨rfl, hE⟩
      · have t3 : decide ((l.length : Int) - (n : Int) < (x : Int)) = false := by simp; omega
        rw [if_neg (by simpa using he), if_neg hb, if_neg hs] at hE
        rw [hE] at hC hN ⊢
        rw [if_pos rfl] at hC hN
        rw [hC, hN]
        clear hE hC hN he hb hs
        go_enter Try.func44, Try.ntmps44
        go_wp2_with (go_at_call 42; (with_reducible refine HR2.out.mono ?_); rintro e1 w1 ⟨rfl, hE⟩)
        go_ret3
        exact ⟨rfl, hE⟩
  · have t1 : (e != 0) = true := by simpa using he
    rw [if_pos he] at hE
    rw [hE] at hC hN ⊢
    rw [if_neg he] at hC hN
    rw [hC, hN]
    clear hE hC hN he
    go_enter Try.func44, Try.ntmps44
    go_wp2_with (go_at_call 42; (with_reducible refine HR2.out.mono ?_); rintro e1 w1 ⟨rfl, hE⟩)
    go_ret3
    exact ⟨rfl, hE⟩
