import Derived.Test.YtjmkbdbjefcfmaaC8
namespace Go.Proofs.Ytjmkbdbjefcfmaa
open Go.RowKit Go.Gf
theorem texts_long (A : Option Addr) (n cap : Nat) (l : List ByteArray) (w : World) (hr : Rd w A n (l.map Value.string)) (hL : ¬ (n ≤ 40 ∧ ∀ s ∈ l, s.size ≤ 512)) :
    Calls Try.prog 8 #[.slice A n cap] w fun e w' => e = .returned (.bool true) ∧ Ext w w' := by
  refine (long_any A n cap l w hr).mono ?_
  rintro e w' ⟨⟨B, rfl, hB⟩, hE⟩
  cases B
  · exact absurd (hB rfl) hL
  · exact ⟨rfl, hE⟩
set_option maxRecDepth 100000 in
set_option maxHeartbeats 1000000 in
theorem fieldTexts_walk (c : ByteArray) (A : Option Addr) (n cap : Nat) (l : List ByteArray) (W : World) (_ : c.size ≤ maxLen) (hr : Rd W A n (l.map Value.string)) (hm : n ≤ maxLen) (_ : ∀ s ∈ l, s.size ≤ maxLen) :
    Calls Try.prog 3 #[.string c, .slice A n cap] W fun e w' => e = .returned (.bool true) ∧ Ext W w' := by
  have hlen : l.length = n := by have := hr.1; simpa using this
  have HLEN := Lib.hid hlen
  clear hlen
  unfold maxLen at hm
  by_cases hL : n ≤ 40 ∧ ∀ s ∈ l, s.size ≤ 512
  · obtain ⟨hn40, hz⟩ := hL
    have hz' : ∀ s ∈ l, s.size ≤ 1048576 := fun s hs => by have := hz s hs; omega
    have HZ := Lib.hid hz'
    clear hz hz'
    by_cases hc : 100 < c.size
    · have hc' : (100 : Int) < (c.size : Int) := by omega
      go_enter Try.func3, Try.ntmps3
      go_wp2_with (first
        | (go_at_call 8; refine (long_any A n cap l _ hr).mono ?_; rintro e w1 ⟨⟨B, rfl, hB⟩, hE1⟩; clear hB; cases B)
        | (go_at_call 9; refine (alive_any _).mono ?_; rintro e w2 ⟨rfl, hE2⟩))
      all_goals
        go_ret
        exact ⟨rfl, hE1.trans hE2⟩
    · have hc' : ¬ (100 : Int) < (c.size : Int) := by omega
      have hcb : decide ((100 : Int) < (c.size : Int)) = false := by simpa using hc'
      have hO := Ext.refl W
      go_enter Try.func3, Try.ntmps3
      go_wp2_with (first
        | (go_at_call 8; refine (long_any A n cap l _ hr).mono ?_; rintro e w1 ⟨⟨B, rfl, hB⟩, hE1⟩; replace hO := hO.trans hE1; clear hB hE1; cases B)
        | (go_at_call 9; refine (alive_any _).mono ?_; rintro e w9 ⟨rfl, hE9⟩)
        | (go_at_call 10; with_reducible refine (plusL_any A n cap l _ (hr.ext hO) (by omega) HZ.out).mono ?_; rintro e w2 ⟨rfl, hE2⟩; replace hO := hO.trans hE2; clear hE2)
        | (go_at_call 11; with_reducible refine (rplus_any A n cap l _ (hr.ext hO) (by omega) HZ.out).mono ?_; rintro e w3 ⟨rfl, hE3⟩; replace hO := hO.trans hE3; clear hE3)
        | (go_at_call 12; with_reducible refine (sum_any c A n cap l _ (hr.ext hO) (by omega) (by omega) HZ.out).mono ?_; rintro e w4 ⟨rfl, hE4⟩; replace hO := hO.trans hE4; clear hE4)
        | (go_at_call 13; with_reducible refine (rsum_any c A n cap l _ (hr.ext hO) (by omega) HZ.out).mono ?_; rintro e w5 ⟨rfl, hE5⟩; replace hO := hO.trans hE5; clear hE5))
      · have HO := Lib.hid hO
        clear hO
        generalize w5 = w5 at *
        go_loopw [13] (fun i wr => ∃ k : Nat, k ≤ n ∧ i = .int .i64 k ∧ Ext W wr) (fun i _ => n - (intOf i).toNat)
        case atStart => exact ⟨0, by omega, rfl, HO.out⟩
        case round =>
          obtain ⟨k, hk, rfl, hO⟩ := hrel
          clear HO
          by_cases hk1 : k < c.size
          · have kc : (k : Int) < (c.size : Int) := by omega
            by_cases hk2 : k < n
            · have kk : (k : Int) < (n : Int) := by omega
              obtain ⟨gs, os, rfl, hgs, hcell⟩ := hr.at_ hk2
              replace hcell := hO.cellv hcell
              simp only [List.getElem_map] at hcell
              have hlk : k < l.length := by rw [HLEN.out]; exact hk2
              have hsz := HZ.out (l[k]'hlk) (List.getElem_mem _)
              generalize l[k]'hlk = sk at *
              have hck := bt_get c k hk1
              rw [bt_bn] at hck
              have hbl := bn_lt c k
              have kk0 : (0 : Int) ≤ (k : Int) := by omega
              replace hO := hO.drew
              go_wp2_with fail
              go_region_held3 (fun w' => w'.cell? ⟨gs, os + k, none⟩ = some (.string sk))
                (first | exact hcell)
                (first
                  | (go_at_call 14; refine (times_any (bn c k) sk _ hbl hsz).mono ?_; rintro e w6 ⟨rfl, hE6⟩; replace hO := hO.trans hE6; replace hcell := hE6.cellv hcell)
                  | (go_at_call 15; refine (rtimes_any (bn c k) sk _ hbl hsz).mono ?_; rintro e w7 ⟨rfl, hE7⟩; replace hO := hO.trans hE7; replace hcell := hE7.cellv hcell))
              all_goals
                go_wp2
                go_roundw
                case rel => exact ⟨k + 1, by omega, by go_num, hO⟩
                case measure => simp [intOf]; omega
            · have kk : ¬ (k : Int) < (n : Int) := by omega
              go_wp2_with (go_at_call 9; refine (alive_any _).mono ?_; rintro e w9 ⟨rfl, hE9⟩)
              go_ret
              exact ⟨rfl, hO.trans hE9⟩
          · have kc : ¬ (k : Int) < (c.size : Int) := by omega
            go_wp2_with (go_at_call 9; refine (alive_any _).mono ?_; rintro e w9 ⟨rfl, hE9⟩)
            go_ret
            exact ⟨rfl, hO.trans hE9⟩
      · go_ret
        exact ⟨rfl, hO.trans hE9⟩
  · go_enter Try.func3, Try.ntmps3
    go_wp2_with (first
      | (go_at_call 8; refine (texts_long A n cap l _ hr hL).mono ?_; rintro e w1 ⟨rfl, hE1⟩)
      | (go_at_call 9; refine (alive_any _).mono ?_; rintro e w2 ⟨rfl, hE2⟩))
    go_ret
    exact ⟨rfl, hE1.trans hE2⟩
