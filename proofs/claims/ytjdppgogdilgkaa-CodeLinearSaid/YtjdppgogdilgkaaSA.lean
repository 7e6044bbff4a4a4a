import Derived.Test.YtjdppgogdilgkaaBA
import Derived.Shelf.Strings.Repeat
import Derived.Shelf.Strings.OnBuilder
import Derived.Ground.NamesProg
import Derived.Lib.Agree
import Derived.Test.YtjdppgogdilgkaaMB
section
namespace Go.Proofs.Ytjdppgogdilgkaa
open Go.Shelf Go.RowKit Go.Gf
def Try.laysRepeat_ren : Go.Shelf.Ren := ⟨fun | 105 => 21 | 212 => 33 | 99 => 34 | 165 => 35 | 166 => 36 | 170 => 37 | 169 => 38 | 263 => 54 | 264 => 55 | 206 => 56 | 240 => 57 | 241 => 58 | 276 => 69 | 277 => 70 | n => n, fun | 9 => 9 | 3 => 3 | 4 => 4 | 20 => 20 | 0 => 0 | 46 => 62 | 109 => 63 | 5 => 5 | 72 => 68 | 76 => 72 | 51 => 96 | 146 => 97 | 53 => 99 | 148 => 100 | 70 => 66 | 37 => 41 | 75 => 71 | 127 => 102 | 164 => 118 | 80 => 75 | n => n, fun | n => n⟩
theorem Try.laysRepeat : Go.Proofs.Lays.n105 Try.prog Try.laysRepeat_ren where
  mixed := by kernel_rfl
  f99 := Try.func34.trans (congrArg some (by kernel_rfl))
  f105 := Try.func21.trans (congrArg some (by kernel_rfl))
  f165 := Try.func35.trans (congrArg some (by kernel_rfl))
  f166 := Try.func36.trans (congrArg some (by kernel_rfl))
  f169 := Try.func38.trans (congrArg some (by kernel_rfl))
  f170 := Try.func37.trans (congrArg some (by kernel_rfl))
  f206 := Try.func56.trans (congrArg some (by kernel_rfl))
  f212 := Try.func33.trans (congrArg some (by kernel_rfl))
  f240 := Try.func57.trans (congrArg some (by kernel_rfl))
  f241 := Try.func58.trans (congrArg some (by kernel_rfl))
  f263 := Try.func54.trans (congrArg some (by kernel_rfl))
  f264 := Try.func55.trans (congrArg some (by kernel_rfl))
  f276 := Try.func69.trans (congrArg some (by kernel_rfl))
  f277 := Try.func70.trans (congrArg some (by kernel_rfl))
  t0 := Try.underlying0
  a0 := Try.isAgg0
  z0 := Try.sizeOf0
  v0 := Try.zeroValue0
  t3 := Try.underlying3
  a3 := Try.isAgg3
  z3 := Try.sizeOf3
  v3 := Try.zeroValue3
  t4 := Try.underlying4
  a4 := Try.isAgg4
  z4 := Try.sizeOf4
  v4 := Try.zeroValue4
  t5 := Try.underlying5
  a5 := Try.isAgg5
  z5 := Try.sizeOf5
  v5 := Try.zeroValue5
  t9 := Try.underlying9
  a9 := Try.isAgg9
  z9 := Try.sizeOf9
  v9 := Try.zeroValue9
  t20 := Try.underlying20
  a20 := Try.isAgg20
  z20 := Try.sizeOf20
  v20 := Try.zeroValue20
  t37 := Try.underlying41
  a37 := Try.isAgg41
  z37 := Try.sizeOf41
  v37 := Try.zeroValue41
  t46 := Try.underlying62
  a46 := Try.isAgg62
  z46 := Try.sizeOf62
  v46 := Try.zeroValue62
  t51 := Try.underlying96
  a51 := Try.isAgg96
  z51 := Try.sizeOf96
  v51 := Try.zeroValue96
  t53 := Try.underlying99
  a53 := Try.isAgg99
  z53 := Try.sizeOf99
  v53 := Try.zeroValue99
  t70 := Try.underlying66
  a70 := Try.isAgg66
  z70 := Try.sizeOf66
  v70 := Try.zeroValue66
  t72 := Try.underlying68
  a72 := Try.isAgg68
  z72 := Try.sizeOf68
  v72 := Try.zeroValue68
  t75 := Try.underlying71
  a75 := Try.isAgg71
  z75 := Try.sizeOf71
  v75 := Try.zeroValue71
  t76 := Try.underlying72
  a76 := Try.isAgg72
  z76 := Try.sizeOf72
  v76 := Try.zeroValue72
  t109 := Try.underlying63
  a109 := Try.isAgg63
  z109 := Try.sizeOf63
  v109 := Try.zeroValue63
  t127 := Try.underlying102
  a127 := Try.isAgg102
  z127 := Try.sizeOf102
  v127 := Try.zeroValue102
  t146 := Try.underlying97
  a146 := Try.isAgg97
  z146 := Try.sizeOf97
  v146 := Try.zeroValue97
  t148 := Try.underlying100
  a148 := Try.isAgg100
  z148 := Try.sizeOf100
  v148 := Try.zeroValue100
  t164 := Try.underlying118
  a164 := Try.isAgg118
  z164 := Try.sizeOf118
  v164 := Try.zeroValue118
def Try.laysJoin_ren : Go.Shelf.Ren := ⟨fun | 156 => 29 | 165 => 35 | 166 => 36 | 169 => 38 | 240 => 57 | 241 => 58 | 276 => 69 | 277 => 70 | n => n, fun | 31 => 23 | 9 => 9 | 3 => 3 | 4 => 4 | 0 => 0 | 20 => 20 | 72 => 68 | 76 => 72 | 70 => 66 | 37 => 41 | 75 => 71 | 127 => 102 | 164 => 118 | 5 => 5 | 80 => 75 | n => n, fun | n => n⟩
theorem Try.laysJoin : Go.Proofs.Lays.n156 Try.prog Try.laysJoin_ren where
  mixed := by kernel_rfl
  f156 := Try.func29.trans (congrArg some (by kernel_rfl))
  f165 := Try.func35.trans (congrArg some (by kernel_rfl))
  f166 := Try.func36.trans (congrArg some (by kernel_rfl))
  f169 := Try.func38.trans (congrArg some (by kernel_rfl))
  f240 := Try.func57.trans (congrArg some (by kernel_rfl))
  f241 := Try.func58.trans (congrArg some (by kernel_rfl))
  f276 := Try.func69.trans (congrArg some (by kernel_rfl))
  f277 := Try.func70.trans (congrArg some (by kernel_rfl))
  t0 := Try.underlying0
  a0 := Try.isAgg0
  z0 := Try.sizeOf0
  v0 := Try.zeroValue0
  t3 := Try.underlying3
  a3 := Try.isAgg3
  z3 := Try.sizeOf3
  v3 := Try.zeroValue3
  t4 := Try.underlying4
  a4 := Try.isAgg4
  z4 := Try.sizeOf4
  v4 := Try.zeroValue4
  t9 := Try.underlying9
  a9 := Try.isAgg9
  z9 := Try.sizeOf9
  v9 := Try.zeroValue9
  t20 := Try.underlying20
  a20 := Try.isAgg20
  z20 := Try.sizeOf20
  v20 := Try.zeroValue20
  t31 := Try.underlying23
  a31 := Try.isAgg23
  z31 := Try.sizeOf23
  v31 := Try.zeroValue23
  t37 := Try.underlying41
  a37 := Try.isAgg41
  z37 := Try.sizeOf41
  v37 := Try.zeroValue41
  t70 := Try.underlying66
  a70 := Try.isAgg66
  z70 := Try.sizeOf66
  v70 := Try.zeroValue66
  t72 := Try.underlying68
  a72 := Try.isAgg68
  z72 := Try.sizeOf68
  v72 := Try.zeroValue68
  t75 := Try.underlying71
  a75 := Try.isAgg71
  z75 := Try.sizeOf71
  v75 := Try.zeroValue71
  t76 := Try.underlying72
  a76 := Try.isAgg72
  z76 := Try.sizeOf72
  v76 := Try.zeroValue72
  t127 := Try.underlying102
  a127 := Try.isAgg102
  z127 := Try.sizeOf102
  v127 := Try.zeroValue102
  t164 := Try.underlying118
  a164 := Try.isAgg118
  z164 := Try.sizeOf118
  v164 := Try.zeroValue118
theorem fRepeat : Try.laysRepeat_ren.f 105 = 21 := by kernel_rfl
theorem fJoin : Try.laysJoin_ren.f 156 = 29 := by kernel_rfl
theorem xRepeat : Builder.Extra Try.prog Try.laysRepeat_ren where
  sizeBuilder := by kernel_rfl
  liesBuilder := by kernel_rfl
  t5 := Try.laysRepeat.t5
  a5 := Try.laysRepeat.a5
  z5 := Try.laysRepeat.z5
  v5 := Try.laysRepeat.v5
  infoByte := by kernel_rfl
  cellsByte := by kernel_rfl
  sizeByte := by kernel_rfl
  neB5 := by decide
theorem xJoin : Builder.Extra Try.prog Try.laysJoin_ren where
  sizeBuilder := by kernel_rfl
  liesBuilder := by kernel_rfl
  t5 := Try.underlying5
  a5 := Try.isAgg5
  z5 := Try.sizeOf5
  v5 := Try.zeroValue5
  infoByte := by kernel_rfl
  cellsByte := by kernel_rfl
  sizeByte := by kernel_rfl
  neB5 := by decide
def zeroT (n : Nat) : ByteArray := strN n (fun _ => 0)
theorem zeroT_eq (n : Nat) : (⟨(Lib.repeatL (ByteArray.mk #[0]).data.toList n).toArray⟩ : ByteArray) = zeroT n := by
  have h : Lib.repeatL (ByteArray.mk #[0]).data.toList n = List.replicate n 0 := by
    have := Lib.repeatL_replicate 0 1 n
    simpa using this
  rw [h]
  unfold zeroT strN strOf
  congr 1
  apply Array.ext (by simp)
  intro i h1 h2
  simp
theorem repeat_any (n : Nat) (hn : n ≤ 1048576) (w : World) : Calls Try.prog 21 #[.string { data := #[0] }, .int .i64 n] w fun e w' => e = .returned (.string (zeroT n)) ∧ Ext w w' := by
  have h := Any.strings_Repeat Try.laysRepeat xRepeat ⟨#[0]⟩ n w (by omega) (by show 1 * n ≤ _; omega)
  rw [fRepeat] at h
  refine h.mono fun e w' ⟨he, hw⟩ => ⟨by rw [he, zeroT_eq], hw⟩
def joinT (l : List ByteArray) : ByteArray := ⟨((l.map (·.data.toList)).flatten).toArray⟩
theorem join_flat (l : List (List UInt8)) : Lib.join l [] = l.flatten := by
  induction l with
  | nil => rfl
  | cons x r ih => rw [Lib.join_cons]; unfold Lib.joinTail; simp
theorem join_any (A : Option Addr) (n cap : Nat) (l : List ByteArray) (w : World) (hr : Rd w A n (l.map Value.string)) (hc : n ≤ cap) (hn : n ≤ 1048576) (ht : (joinT l).size ≤ 140737488355328) :
    Calls Try.prog 29 #[.slice A n cap, .string { data := #[] }] w fun e w' => e = .returned (.string (joinT l)) ∧ Ext w w' := by
  have hl : l.length = n := by have := hr.1; simpa using this
  by_cases h0 : n = 0
  · have h := Any.strings_Join_none Try.laysJoin xJoin A cap { data := #[] } w
    rw [fJoin] at h
    have hnil : l = [] := List.eq_nil_of_length_eq_zero (by omega)
    subst hnil
    subst h0
    exact h.mono fun e w' ⟨he, hw⟩ => ⟨he, by rw [hw]; exact Ext.refl _⟩
  · obtain ⟨g, o, rfl, hcell⟩ := hr.2 (by omega)
    obtain ⟨g', o', e1, hlt, _⟩ := hr.at_ (show 0 < n by omega)
    injection e1 with e1
    injection e1 with e1 e2
    subst e1 e2
    have h := Any.strings_Join Try.laysJoin xJoin g o cap l { data := #[] } w (fun j x hx => hcell j _ (by rw [List.getElem?_map, hx]; rfl)) hlt (by omega) (by omega) (by rw [join_flat]; simpa [joinT, ByteArray.size] using ht)
    rw [fJoin, hl] at h
    refine h.mono fun e w' ⟨he, hw⟩ => ⟨by rw [he]; unfold joinT; rw [join_flat], hw⟩
end Go.Proofs.Ytjdppgogdilgkaa
end
section
namespace Go.Proofs.Ytjdppgogdilgkaa
open Go.RowKit Go.Gf
def canB (k r : Int) : Bool := decide (1 ≤ k ∧ 0 ≤ r ∧ k ≤ 32 ∧ r ≤ 32 - k)
theorem can_any (k r : Int) (w : World) : Calls Try.prog 20 #[.int .i64 k, .int .i64 r] w fun e w' => e = .returned (.bool (canB k r)) ∧ w = w' := by
  by_cases h1 : 1 ≤ k
  · by_cases h2 : 0 ≤ r
    · by_cases h3 : k ≤ 32
      · have e3 : IntKind.i64.wrap (32 - k) = 32 - k := IntWalk.i64_in _ (by omega)
        have HC := Lib.hid (show decide (r ≤ 32 - k) = canB k r by unfold canB; simp [h1, h2, h3])
        have e1 : decide (1 ≤ k) = true := by simpa using h1
        have e2 : decide (0 ≤ r) = true := by simpa using h2
        have e4 : decide (k ≤ 32) = true := by simpa using h3
        go_enter Try.func20, Try.ntmps20
        go_wp2
        go_ret
        exact ⟨ret_bool HC.out, rfl⟩
      · have HC := Lib.hid (show false = canB k r by unfold canB; simp; omega)
        have e1 : decide (1 ≤ k) = true := by simpa using h1
        have e2 : decide (0 ≤ r) = true := by simpa using h2
        have e4 : decide (k ≤ 32) = false := by simpa using h3
        go_enter Try.func20, Try.ntmps20
        go_wp2
        go_ret
        exact ⟨ret_bool HC.out, rfl⟩
    · have HC := Lib.hid (show false = canB k r by unfold canB; simp; omega)
      have e1 : decide (1 ≤ k) = true := by simpa using h1
      have e2 : decide (0 ≤ r) = false := by simpa using h2
      go_enter Try.func20, Try.ntmps20
      go_wp2
      go_ret
      exact ⟨ret_bool HC.out, rfl⟩
  · have HC := Lib.hid (show false = canB k r by unfold canB; simp; omega)
    have e1 : decide (1 ≤ k) = false := by simpa using h1
    go_enter Try.func20, Try.ntmps20
    go_wp2
    go_ret
    exact ⟨ret_bool HC.out, rfl⟩
theorem rcan_any (k r : Int) (w : World) : Calls Try.prog 24 #[.int .i64 k, .int .i64 r] w fun e w' => e = .returned (.bool (canB k r)) ∧ w = w' := by
  by_cases h1 : 1 ≤ k
  · by_cases h2 : 0 ≤ r
    · by_cases h3 : k ≤ 32
      · have e3 : IntKind.i64.wrap (32 - k) = 32 - k := IntWalk.i64_in _ (by omega)
        have HC := Lib.hid (show decide (r ≤ 32 - k) = canB k r by unfold canB; simp [h1, h2, h3])
        have e1 : decide (1 ≤ k) = true := by simpa using h1
        have e2 : decide (0 ≤ r) = true := by simpa using h2
        have e4 : decide (k ≤ 32) = true := by simpa using h3
        go_enter Try.func24, Try.ntmps24
        go_wp2
        go_ret
        exact ⟨ret_bool HC.out, rfl⟩
      · have HC := Lib.hid (show false = canB k r by unfold canB; simp; omega)
        have e1 : decide (1 ≤ k) = true := by simpa using h1
        have e2 : decide (0 ≤ r) = true := by simpa using h2
        have e4 : decide (k ≤ 32) = false := by simpa using h3
        go_enter Try.func24, Try.ntmps24
        go_wp2
        go_ret
        exact ⟨ret_bool HC.out, rfl⟩
    · have HC := Lib.hid (show false = canB k r by unfold canB; simp; omega)
      have e1 : decide (1 ≤ k) = true := by simpa using h1
      have e2 : decide (0 ≤ r) = false := by simpa using h2
      go_enter Try.func24, Try.ntmps24
      go_wp2
      go_ret
      exact ⟨ret_bool HC.out, rfl⟩
  · have HC := Lib.hid (show false = canB k r by unfold canB; simp; omega)
    have e1 : decide (1 ≤ k) = false := by simpa using h1
    go_enter Try.func24, Try.ntmps24
    go_wp2
    go_ret
    exact ⟨ret_bool HC.out, rfl⟩
def sizeN (k t : Nat) : Nat := (t + k - 1) / k
def sizeI (k t : Int) : Int := if 1 ≤ k ∧ k ≤ 32 ∧ 0 ≤ t then (sizeN k.toNat t.toNat : Nat) else 0
theorem ret_i64 {a b : Int} (h : a = b) : Ending.returned (.int .i64 a) = Ending.returned (.int .i64 b) := by rw [h]
theorem sizeI_nat (k t : Nat) (h : 1 ≤ k ∧ k ≤ 32) : sizeI k t = (sizeN k t : Nat) := by
  unfold sizeI
  rw [if_pos ⟨by omega, by omega, by omega⟩]
  simp
theorem sizeN_le (k t : Nat) (h : 1 ≤ k) : sizeN k t ≤ t := by
  unfold sizeN
  rcases Nat.eq_zero_or_pos t with h0 | h0
  · subst h0
    rw [Nat.div_eq_of_lt (by omega)]
    exact Nat.le_refl _
  · apply Nat.div_le_of_le_mul
    have h2 : 1 * (k - 1) ≤ t * (k - 1) := Nat.mul_le_mul_right _ h0
    have h3 : k * t = t * (k - 1) + t := by
      obtain ⟨j, rfl⟩ : ∃ j, k = j + 1 := ⟨k - 1, by omega⟩
      simp only [Nat.add_sub_cancel]
      rw [Nat.mul_comm, Nat.mul_succ]
    omega
theorem sizeN_eq (k t : Nat) (h : 1 ≤ k) : sizeN k t = t / k + (t % k + k - 1) / k := by
  unfold sizeN
  have h1 := Nat.div_add_mod t k
  have h2 : t + k - 1 = k * (t / k) + (t % k + k - 1) := by omega
  rw [h2, Nat.mul_add_div (by omega)]
theorem size_any (k t : Int) (ht : t ≤ 9223372036854775807) (w : World) : Calls Try.prog 12 #[.int .i64 k, .int .i64 t] w fun e w' => e = .returned (.int .i64 (sizeI k t)) ∧ Ext w w' := by
  by_cases h1 : 1 ≤ k ∧ k ≤ 32
  · have HC := Lib.hid (show canB k 0 = true by unfold canB; simp; omega)
    by_cases h2 : 0 ≤ t
    · obtain ⟨k, rfl⟩ : ∃ n : Nat, k = n := ⟨k.toNat, by omega⟩
      obtain ⟨t, rfl⟩ : ∃ n : Nat, t = n := ⟨t.toNat, by omega⟩
      have HS := Lib.hid (show sizeI k t = _ by rw [sizeI_nat k t (by omega), sizeN_eq k t (by omega)])
      have e1 : decide ((t : Int) < 0) = false := by simp
      have hk1 : 1 ≤ k ∧ k ≤ 32 := by omega
      have hm := Nat.mod_lt t (show 0 < k by omega)
      have hd := Nat.div_le_self t k
      have hd2 := Nat.div_le_self (t % k + k - 1) k
      have hsz := sizeN_le k t (by omega)
      rw [sizeN_eq k t (by omega)] at hsz
      have q0 : ¬ k = 0 := by omega
      generalize hA6 : ((t % k + k - 1) / k) = a6 at *
      generalize hA5 : (t % k + k - 1) = a5 at *
      generalize hA2 : (t % k) = a2 at *
      generalize hA1 : (t / k) = a1 at *
      have q1 : IntKind.i64.wrap (Int.tdiv (t : Int) (k : Int)) = (a1 : Int) := by rw [← Int.ofNat_tdiv, hA1]; exact IntWalk.i64_in _ (by omega)
      have q2 : Int.tmod (t : Int) (k : Int) = (a2 : Int) := by rw [← Int.ofNat_tmod, hA2]
      have q4 : IntKind.i64.wrap ((a2 : Int) + (k : Int)) = (a2 : Int) + (k : Int) := IntWalk.i64_in _ (by omega)
      have q5 : IntKind.i64.wrap ((a2 : Int) + (k : Int) - 1) = (a5 : Int) := by rw [IntWalk.i64_in _ (by omega)]; omega
      have q6 : IntKind.i64.wrap (Int.tdiv (a5 : Int) (k : Int)) = (a6 : Int) := by rw [← Int.ofNat_tdiv, hA6]; exact IntWalk.i64_in _ (by omega)
      have q7 : IntKind.i64.wrap ((a1 : Int) + (a6 : Int)) = (a1 : Int) + (a6 : Int) := IntWalk.i64_in _ (by omega)
      have r1 : IntKind.i64.wrap ((t : Int) / (k : Int)) = (a1 : Int) := by rw [← Int.natCast_ediv, hA1]; exact IntWalk.i64_in _ (by omega)
      have r2 : (t : Int) % (k : Int) = (a2 : Int) := by rw [← Int.natCast_emod, hA2]
      have r6 : IntKind.i64.wrap ((a5 : Int) / (k : Int)) = (a6 : Int) := by rw [← Int.natCast_ediv, hA6]; exact IntWalk.i64_in _ (by omega)
      have HS2 := Lib.hid (show (a1 : Int) + (a6 : Int) = sizeI k t by rw [HS.out]; omega)
      clear hA1 hA2 hA5 hA6 HS
      clear hm hd hd2 hsz h1 hk1 h2
      go_enter Try.func12, Try.ntmps12
      go_wp2_with (go_at_call 20; refine (can_any _ _ _).mono ?_; rintro e w1 ⟨rfl, rfl⟩; rw [HC.out])
      go_still_tail 12, (by kernel_rfl)
      go_wp2
      go_ret
      exact ⟨ret_i64 HS2.out, (Ext.refl _).drew⟩
    · have HS := Lib.hid (show (0 : Int) = sizeI k t by unfold sizeI; rw [if_neg (by omega)])
      have e1 : decide (t < 0) = true := by simp; omega
      go_enter Try.func12, Try.ntmps12
      go_wp2_with (go_at_call 20; refine (can_any _ _ _).mono ?_; rintro e w1 ⟨rfl, rfl⟩; rw [HC.out])
      go_ret
      exact ⟨ret_i64 HS.out, Ext.refl _⟩
  · have HC := Lib.hid (show canB k 0 = false by unfold canB; simp; omega)
    have HS := Lib.hid (show (0 : Int) = sizeI k t by unfold sizeI; rw [if_neg (by omega)])
    go_enter Try.func12, Try.ntmps12
    go_wp2_with (go_at_call 20; refine (can_any _ _ _).mono ?_; rintro e w1 ⟨rfl, rfl⟩; rw [HC.out])
    go_ret
    exact ⟨ret_i64 HS.out, Ext.refl _⟩
theorem rsize_any (k t : Int) (ht : t ≤ 9223372036854775807) (w : World) : Calls Try.prog 13 #[.int .i64 k, .int .i64 t] w fun e w' => e = .returned (.int .i64 (sizeI k t)) ∧ Ext w w' := by
  by_cases h1 : 1 ≤ k
  · by_cases h3 : k ≤ 32
    · by_cases h2 : 0 ≤ t
      · obtain ⟨k, rfl⟩ : ∃ n : Nat, k = n := ⟨k.toNat, by omega⟩
        obtain ⟨t, rfl⟩ : ∃ n : Nat, t = n := ⟨t.toNat, by omega⟩
        have HS := Lib.hid (show sizeI k t = _ by rw [sizeI_nat k t (by omega), sizeN_eq k t (by omega)])
        have e1 : decide ((t : Int) < 0) = false := by simp
        have e2 : decide ((k : Int) < 1) = false := by simp; omega
        have e3 : decide ((32 : Int) < (k : Int)) = false := by simp; omega
        have hk1 : 1 ≤ k ∧ k ≤ 32 := by omega
        have hm := Nat.mod_lt t (show 0 < k by omega)
        have hd := Nat.div_le_self t k
        have hsz := sizeN_le k t (by omega)
        rw [sizeN_eq k t (by omega)] at hsz
        have q0 : ¬ k = 0 := by omega
        have hq : (t % k + k - 1) / k = if 0 < t % k then 1 else 0 := by
          split
          · rw [show t % k + k - 1 = (t % k - 1) + k by omega, Nat.add_div_right _ (by omega), Nat.div_eq_of_lt (by omega)]
          · exact Nat.div_eq_of_lt (by omega)
        rw [hq] at HS hsz
        generalize hA2 : (t % k) = a2 at *
        generalize hA1 : (t / k) = a1 at *
        have r1 : IntKind.i64.wrap ((t : Int) / (k : Int)) = (a1 : Int) := by rw [← Int.natCast_ediv, hA1]; exact IntWalk.i64_in _ (by omega)
        have r2 : (t : Int) % (k : Int) = (a2 : Int) := by rw [← Int.natCast_emod, hA2]
        by_cases h5 : 0 < a2
        · rw [if_pos h5] at HS hsz
          have q7 : IntKind.i64.wrap ((a1 : Int) + 1) = (a1 : Int) + 1 := IntWalk.i64_in _ (by omega)
          have HS2 := Lib.hid (show (a1 : Int) + 1 = sizeI k t by rw [HS.out]; omega)
          have e4 : decide ((0 : Int) < (a2 : Int)) = true := by simp; omega
          clear hA1 hA2 HS hq hm hd hsz hk1 h1 h2 h3
          go_enter Try.func13, Try.ntmps13
          go_wp2
          go_ret
          exact ⟨ret_i64 HS2.out, Ext.refl _⟩
        · rw [if_neg h5] at HS hsz
          have HS2 := Lib.hid (show (a1 : Int) = sizeI k t by rw [HS.out]; omega)
          have e4 : decide ((0 : Int) < (a2 : Int)) = false := by simp; omega
          clear hA1 hA2 HS hq hm hd hsz hk1 h1 h2 h3
          go_enter Try.func13, Try.ntmps13
          go_wp2
          go_ret
          exact ⟨ret_i64 HS2.out, Ext.refl _⟩
      · have HS := Lib.hid (show (0 : Int) = sizeI k t by unfold sizeI; rw [if_neg (by omega)])
        have e1 : decide (t < 0) = true := by simp; omega
        have e2 : decide (k < 1) = false := by simp; omega
        have e3 : decide (32 < k) = false := by simp; omega
        go_enter Try.func13, Try.ntmps13
        go_wp2
        go_ret
        exact ⟨ret_i64 HS.out, Ext.refl _⟩
    · have HS := Lib.hid (show (0 : Int) = sizeI k t by unfold sizeI; rw [if_neg (by omega)])
      have e2 : decide (k < 1) = false := by simp; omega
      have e3 : decide (32 < k) = true := by simp; omega
      go_enter Try.func13, Try.ntmps13
      go_wp2
      go_ret
      exact ⟨ret_i64 HS.out, Ext.refl _⟩
  · have HS := Lib.hid (show (0 : Int) = sizeI k t by unfold sizeI; rw [if_neg (by omega)])
    have e2 : decide (k < 1) = true := by simp; omega
    go_enter Try.func13, Try.ntmps13
    go_wp2
    go_ret
    exact ⟨ret_i64 HS.out, Ext.refl _⟩
end Go.Proofs.Ytjdppgogdilgkaa
end
section
namespace Go.Proofs.Ytjdppgogdilgkaa
open Go.RowKit Go.Gf
def partF (k : Nat) (s : ByteArray) (i j : Nat) : Nat := bn s (i * sizeN k s.size + j)
theorem partF_lt (k : Nat) (s : ByteArray) (i j : Nat) : partF k s i j < 256 := bn_lt _ _
def splitV (k : Nat) (s : ByteArray) : List ByteArray := mkM k (sizeN k s.size) (partF k s)
theorem bn_out (s : ByteArray) (j : Nat) (h : s.size ≤ j) : bn s j = 0 := by
  unfold bn
  have h' : s.data.toList.length ≤ j := h
  rw [List.getD_eq_getElem?_getD, List.getElem?_eq_none h']
  rfl
theorem bn_pad (s : ByteArray) (m j : Nat) (hj : j < s.size + m) : bn (s ++ zeroT m) j = bn s j := by
  unfold bn
  rw [ByteArray.data_append, Array.toList_append, List.getD_eq_getElem?_getD, List.getD_eq_getElem?_getD]
  by_cases h : j < s.size
  · have h' : j < s.data.toList.length := h
    rw [List.getElem?_append_left h']
  · have h' : s.data.toList.length ≤ j := by have : s.data.toList.length = s.size := rfl; omega
    rw [List.getElem?_append_right h', List.getElem?_eq_none h']
    have e : bn (zeroT m) (j - s.data.toList.length) = 0 := by
      unfold zeroT
      exact bn_strN m (fun _ => 0) _ (by have : s.data.toList.length = s.size := rfl; omega) (by omega)
    unfold bn at e
    rw [List.getD_eq_getElem?_getD] at e
    rw [e]; rfl
theorem cut_part (s : ByteArray) (m a n : Nat) (f : Nat → Nat) (h : a + n ≤ s.size + m) (hf : ∀ j, j < n → f j = bn s (a + j)) : (s ++ zeroT m).extract a (a + n) = strN n f := by
  have hs : (s ++ zeroT m).size = s.size + m := by rw [ByteArray.size_append]; unfold zeroT; rw [strN_size]
  apply str_ext'
  · rw [ByteArray.size_extract, strN_size, hs]; omega
  · intro j hj
    rw [ByteArray.size_extract, hs] at hj
    rw [bn_strN n f j (by omega) (by rw [hf j (by omega)]; exact bn_lt _ _), hf j (by omega)]
    have : bn ((s ++ zeroT m).extract a (a + n)) j = bn (s ++ zeroT m) (a + j) := by
      unfold bn
      simp only [ByteArray.data_extract, Array.toList_extract, List.getD_eq_getElem?_getD]
      rw [List.extract_eq_take_drop, List.getElem?_take, if_pos (by omega), List.getElem?_drop]
    rw [this, bn_pad s m (a + j) (by omega)]
theorem sizeN_mul (k t : Nat) (h : 1 ≤ k) : t ≤ k * sizeN k t ∧ k * sizeN k t ≤ t + k := by
  unfold sizeN
  have h1 := Nat.div_add_mod (t + k - 1) k
  have h2 := Nat.mod_lt (t + k - 1) (show 0 < k by omega)
  omega
set_option maxHeartbeats 4000000 in
set_option maxRecDepth 100000 in
theorem split_any (k : Nat) (s : ByteArray) (hk : 1 ≤ k ∧ k ≤ 32) (hz : s.size ≤ 1048000) (w : World) :
    Calls Try.prog 8 #[.int .i64 k, .string s] w fun e w' => ∃ (A : Option Addr) (cap : Nat), e = .returned (.tuple #[.slice A k cap, .int .i64 0]) ∧ w'.ownsRow w.heap.size 9 1 (.slice A k cap) k ((splitV k s).map Value.string) ∧ Ext w w' := by
  have HC := Lib.hid (show canB k 0 = true by unfold canB; simp; omega)
  have HS := Lib.hid (sizeI_nat k s.size hk)
  have h1 := sizeN_le k s.size hk.1
  have h2 := sizeN_mul k s.size hk.1
  have HV := Lib.hid (show splitV k s = mkM k (sizeN k s.size) (partF k s) from rfl)
  have hN : sizeN k s.size = sizeN k s.size := rfl
  generalize hNN : sizeN k s.size = n at HS h1 h2 HV
  have HN := Lib.hid hNN
  clear hN hNN
  obtain ⟨m, hm⟩ : ∃ m, k * n = s.size + m := ⟨k * n - s.size, by omega⟩
  have hm' : (k : Int) * (n : Int) = (s.size : Int) + (m : Int) := by rw [← Int.natCast_mul, hm]; simp
  have q1 : IntKind.i64.wrap ((k : Int) * (n : Int)) = (s.size : Int) + (m : Int) := by rw [hm']; exact IntWalk.i64_in _ (by omega)
  have q2 : IntKind.i64.wrap ((s.size : Int) + (m : Int) - (s.size : Int)) = (m : Int) := by rw [IntWalk.i64_in _ (by omega)]; omega
  have q3 : (s.size : Int) + (m : Int) - (s.size : Int) = (m : Int) := by omega
  have q4 : IntKind.i64.wrap (m : Int) = (m : Int) := IntWalk.i64_in _ (by omega)
  have HSZ := Lib.hid (size_any (k : Int) (s.size : Int) (by omega))
  have hrp := repeat_any m (by omega)
  generalize hzt : zeroT m = zt at hrp
  have HRP := Lib.hid hrp
  have hzs : zt.size = m := by rw [← hzt]; exact strN_size _ _
  have hsum : ¬ 9223372036854775807 < s.size + zt.size := by omega
  have HZT := Lib.hid hzt
  clear hrp hzt
  have HM := Lib.hid hm
  clear hm hm'
  go_enter Try.func8, Try.ntmps8
  go_wp2_with (first
    | (go_at_call 20; refine (can_any _ _ _).mono ?_; rintro e w1 ⟨rfl, rfl⟩; rw [HC.out])
    | (go_at_call 12; refine (HSZ.out _).mono ?_; rintro e w1 ⟨rfl, hE1⟩; rw [HS.out])
    | (go_at_call 21; refine (HRP.out _).mono ?_; rintro e w2 ⟨rfl, hE2⟩))
  have hE0 := hE1.trans hE2
  have hPT : (s ++ zt).size = k * n := by rw [ByteArray.size_append, hzs, HM.out]
  have HX := Lib.hid (show ∀ j, j < k → (s ++ zt).extract (j * n) (j * n + n) = strN n (partF k s j) from fun j hj => by
    rw [← HZT.out]
    refine cut_part s m (j * n) n _ ?_ (fun i _ => by unfold partF; rw [HN.out])
    have := Nat.mul_le_mul_right n (show j + 1 ≤ k by omega)
    rw [Nat.succ_mul, HM.out] at this
    exact this)
  generalize s ++ zt = PT at *
  have HPT := Lib.hid hPT
  clear hPT hE1 hE2 hsum hzs
  go_loopw [4, 25] (fun v i wr => ∃ j : Nat, j ≤ k ∧ i = .int .i64 j ∧ ∃ (A1 : Option Addr) (c1 : Nat), v = .slice A1 j c1 ∧ wr.ownsRow w.heap.size 9 1 (.slice A1 j c1) j ((mkM j n (partF k s)).map Value.string) ∧ Ext w wr) (fun _ i _ => k - (intOf i).toNat)
  case atStart => exact ⟨0, by omega, rfl, none, 0, rfl, World.ownsRow_nil _ _ _ _, hE0⟩
  case round =>
    obtain ⟨j, hj, rfl, A1, c1, rfl, hown, hE⟩ := hrel
    by_cases hj2 : j < k
    · have hX := HX.out j hj2
      have hle : j * n + n ≤ k * n := by
        have := Nat.mul_le_mul_right n (show j + 1 ≤ k by omega)
        rw [Nat.succ_mul] at this; exact this
      have hkn := HM.out
      obtain ⟨a, ha⟩ : ∃ a, j * n = a := ⟨_, rfl⟩
      rw [ha] at hX hle
      have hai : (j : Int) * (n : Int) = (a : Int) := by rw [← Int.natCast_mul, ha]
      have hbi : ((j : Int) + 1) * (n : Int) = (a : Int) + (n : Int) := by rw [Int.add_mul, hai, Int.one_mul]
      have p1 : IntKind.i64.wrap (a : Int) = (a : Int) := IntWalk.i64_in _ (by omega)
      have p2 : IntKind.i64.wrap ((j : Int) + 1) = (j : Int) + 1 := IntWalk.i64_in _ (by omega)
      have p3 : IntKind.i64.wrap ((a : Int) + (n : Int)) = (a : Int) + (n : Int) := IntWalk.i64_in _ (by omega)
      have p4 : (a : Int) ≤ (a : Int) + (n : Int) := by omega
      have p5 : (a : Int) + (n : Int) ≤ (PT.size : Int) := by rw [HPT.out]; omega
      have p6 : ((a : Int) + (n : Int)).toNat = a + n := by omega
      have p7 : (0 : Int) ≤ (a : Int) + (n : Int) := by omega
      have kk : decide ((j : Int) < (k : Int)) = true := by simp; omega
      have HO := Lib.hid hown
      have HP := Lib.hid (mkM_succ j n (partF k s))
      have HEE := Lib.hid hE
      have hwz := hE.sz
      clear hown hE ha hle hkn
      go_wp2_with (at_builtin; refine wpList_app _ rfl _ _ 23 9 rfl Try.underlying23 (.string { data := #[] }) [.string (strN n (partF k s j))] 1 16 info9 rfl rfl (by decide) (by decide) w.heap.size (.slice A1 j c1) j ((mkM j n (partF k s)).map Value.string) rfl HO.out (one_str _) _ rfl rfl (by omega) (by omega) ?_; intro g4 cap4 w4 hown4 hG4 hg4)
      go_roundw
      case rel => exact ⟨j + 1, by omega, by go_num, _, cap4, rfl, by rw [HP.out, List.map_append]; exact hown4, hG4.ext HEE.out (Nat.le_refl _)⟩
      case measure => simp [intOf]; omega
    · obtain rfl : j = k := by omega
      have HO := Lib.hid hown
      clear hown
      go_wp2
      go_ret2
      exact ⟨A1, c1, rfl, by rw [HV.out]; exact HO.out, hE⟩
end Go.Proofs.Ytjdppgogdilgkaa
end
section
namespace Go.Proofs.Ytjdppgogdilgkaa
open Go.RowKit Go.Gf
set_option maxHeartbeats 4000000 in
set_option maxRecDepth 100000 in
theorem rsplit_any (k : Nat) (s : ByteArray) (hk : 1 ≤ k ∧ k ≤ 32) (hz : s.size ≤ 1048000) (w : World) :
    Calls Try.prog 9 #[.int .i64 k, .string s] w fun e w' => ∃ (A : Option Addr) (cap : Nat), e = .returned (.tuple #[.slice A k cap, .int .i64 0]) ∧ w'.ownsRow w.heap.size 9 1 (.slice A k cap) k ((splitV k s).map Value.string) ∧ Ext w w' := by
  obtain ⟨i0, hi0, hz0, hz1, hz2⟩ := info_parts info5
  have d1 : decide ((k : Int) < 1) = false := by simp; omega
  have d2 : decide ((32 : Int) < (k : Int)) = false := by simp; omega
  have HS := Lib.hid (sizeI_nat k s.size hk)
  have h1 := sizeN_le k s.size hk.1
  have h2 := sizeN_mul k s.size hk.1
  have HV := Lib.hid (show splitV k s = mkM k (sizeN k s.size) (partF k s) from rfl)
  have hN : sizeN k s.size = sizeN k s.size := rfl
  generalize hNN : sizeN k s.size = n at HS h1 h2 HV
  have HN := Lib.hid hNN
  clear hN hNN
  obtain ⟨m, hm⟩ : ∃ m, k * n = s.size + m := ⟨k * n - s.size, by omega⟩
  have hm' : (k : Int) * (n : Int) = (s.size : Int) + (m : Int) := by rw [← Int.natCast_mul, hm]; simp
  have q1 : IntKind.i64.wrap ((k : Int) * (n : Int)) = (s.size : Int) + (m : Int) := by rw [hm']; exact IntWalk.i64_in _ (by omega)
  have q2 : IntKind.i64.wrap ((s.size : Int) + (m : Int) - (s.size : Int)) = (m : Int) := by rw [IntWalk.i64_in _ (by omega)]; omega
  have q3 : (s.size : Int) + (m : Int) - (s.size : Int) = (m : Int) := by omega
  have q4 : IntKind.i64.wrap (m : Int) = (m : Int) := IntWalk.i64_in _ (by omega)
  have HSZ := Lib.hid (rsize_any (k : Int) (s.size : Int) (by omega))
  obtain ⟨zt, hzt⟩ : ∃ zt, zeroT m = zt := ⟨_, rfl⟩
  have HCS := Lib.hid (show ∀ w' : World, ∀ jj, jj < m → (w'.alloc (.cells (tabA m (fun _ => Value.int .u8 0)) 5)).cell? ⟨w'.heap.size, 0 + jj, none⟩ = some (.int .u8 (bt zt jj)) from fun w' => by
    rw [← hzt]
    exact cells_str (f := fun _ => 0) (Blk.new w' 5 _) (fun _ _ => by omega))
  have hzs : zt.size = m := by rw [← hzt]; exact strN_size _ _
  have hsum : ¬ 9223372036854775807 < s.size + zt.size := by omega
  have HZT := Lib.hid hzt
  clear hzt
  have hmk : m ≤ k := by omega
  have HM := Lib.hid hm
  clear hm hm'
  go_enter Try.func9, Try.ntmps9
  go_wp2_with (first
    | (go_at_call 13; refine (HSZ.out _).mono ?_; rintro e w1 ⟨rfl, hE1⟩; rw [HS.out])
    | (at_make; refine wpList_make_tab rfl _ _ 41 rfl 5 i0 (.int .u8 0) Try.underlying41 hi0 hz0 hz1 rfl _ _ m rfl rfl (by rw [hz2]; omega) (by omega) ?_)
    | (with_reducible refine wpList_bytes_str rfl 41 9 5 _ rfl Try.underlying41 Try.underlying5 Try.underlying9 w1.heap.size 0 m m rfl zt hzs (HCS.out w1) ?_))
  have hE0 := hE1.alloc (.cells (tabA m (fun _ => Value.int .u8 0)) 5)
  have hPT : (s ++ zt).size = k * n := by rw [ByteArray.size_append, hzs, HM.out]
  have HX := Lib.hid (show ∀ j, j < k → (s ++ zt).extract (j * n) (j * n + n) = strN n (partF k s j) from fun j hj => by
    rw [← HZT.out]
    refine cut_part s m (j * n) n _ ?_ (fun i _ => by unfold partF; rw [HN.out])
    have := Nat.mul_le_mul_right n (show j + 1 ≤ k by omega)
    rw [Nat.succ_mul, HM.out] at this
    exact this)
  generalize s ++ zt = PT at *
  have HPT := Lib.hid hPT
  clear hPT hE1 hsum hzs
  go_loopw [8, 9] (fun v i wr => ∃ j : Nat, j ≤ k ∧ i = .int .i64 j ∧ ∃ (A1 : Option Addr) (c1 : Nat), v = .slice A1 j c1 ∧ wr.ownsRow w.heap.size 9 1 (.slice A1 j c1) j ((mkM j n (partF k s)).map Value.string) ∧ Ext w wr) (fun _ i _ => k - (intOf i).toNat)
  case atStart => exact ⟨0, by omega, rfl, none, 0, rfl, World.ownsRow_nil _ _ _ _, hE0⟩
  case round =>
    obtain ⟨j, hj, rfl, A1, c1, rfl, hown, hE⟩ := hrel
    by_cases hj2 : j < k
    · have hX := HX.out j hj2
      have hle : j * n + n ≤ k * n := by
        have := Nat.mul_le_mul_right n (show j + 1 ≤ k by omega)
        rw [Nat.succ_mul] at this; exact this
      have hkn := HM.out
      obtain ⟨a, ha⟩ : ∃ a, j * n = a := ⟨_, rfl⟩
      rw [ha] at hX hle
      have hai : (j : Int) * (n : Int) = (a : Int) := by rw [← Int.natCast_mul, ha]
      have hbi : ((j : Int) + 1) * (n : Int) = (a : Int) + (n : Int) := by rw [Int.add_mul, hai, Int.one_mul]
      have p1 : IntKind.i64.wrap (a : Int) = (a : Int) := IntWalk.i64_in _ (by omega)
      have p2 : IntKind.i64.wrap ((j : Int) + 1) = (j : Int) + 1 := IntWalk.i64_in _ (by omega)
      have p3 : IntKind.i64.wrap ((a : Int) + (n : Int)) = (a : Int) + (n : Int) := IntWalk.i64_in _ (by omega)
      have p4 : (a : Int) ≤ (a : Int) + (n : Int) := by omega
      have p5 : (a : Int) + (n : Int) ≤ (PT.size : Int) := by rw [HPT.out]; omega
      have p6 : ((a : Int) + (n : Int)).toNat = a + n := by omega
      have p7 : (0 : Int) ≤ (a : Int) + (n : Int) := by omega
      have kk : decide ((j : Int) < (k : Int)) = true := by simp; omega
      have HO := Lib.hid hown
      have HP := Lib.hid (mkM_succ j n (partF k s))
      have HEE := Lib.hid hE
      have hwz := hE.sz
      clear hown hE ha hle hkn
      go_wp2_with (at_builtin; refine wpList_app _ rfl _ _ 23 9 rfl Try.underlying23 (.string { data := #[] }) [.string (strN n (partF k s j))] 1 16 info9 rfl rfl (by decide) (by decide) w.heap.size (.slice A1 j c1) j ((mkM j n (partF k s)).map Value.string) rfl HO.out (one_str _) _ rfl rfl (by omega) (by omega) ?_; intro g4 cap4 w4 hown4 hG4 hg4)
      go_roundw
      case rel => exact ⟨j + 1, by omega, by go_num, _, cap4, rfl, by rw [HP.out, List.map_append]; exact hown4, hG4.ext HEE.out (Nat.le_refl _)⟩
      case measure => simp [intOf]; omega
    · obtain rfl : j = k := by omega
      have HO := Lib.hid hown
      clear hown
      go_wp2
      go_ret2
      exact ⟨A1, c1, rfl, by rw [HV.out]; exact HO.out, hE⟩
end Go.Proofs.Ytjdppgogdilgkaa
end
