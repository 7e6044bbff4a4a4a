import Derived.Test.YtbmemogajgbdgaaM18
namespace Go.Proofs.Ytbmemogajgbdgaa
open Go.RowKit Go.Gf
set_option maxRecDepth 100000 in
set_option maxHeartbeats 2000000 in
theorem matrixTells_walk (A : Option Addr) (n cap : Nat) (a : List ByteArray) (B : Option Addr) (m cap2 : Nat) (b : List ByteArray) (k : Int) (W : World) (ha : Rd W A n (a.map Value.string)) (_ : n ≤ maxLen) (_ : ∀ s ∈ a, s.size ≤ maxLen) (hb : Rd W B m (b.map Value.string)) (_ : m ≤ maxLen) (_ : ∀ s ∈ b, s.size ≤ maxLen) (_ : (Lit.int .i64 k).wf = true) :
    Calls Try.prog 3 #[.slice A n cap, .slice B m cap2, .int .i64 k] W fun e w' => e = .returned (.bool true) ∧ Ext W w' := by
  have hO := Ext.refl W
  by_cases haS : Sm n a
  · by_cases hbS : Sm m b
    · go_enter Try.func3, Try.ntmps3
      go_wp2_with (first
        | (go_at_call 8; (with_reducible refine (heavy_b A n cap a _ (ha.ext hO)).mono ?_); rintro e w1 ⟨⟨B, rfl⟩, hE⟩; replace hO := hO.trans hE; clear hE; cases B)
        | (go_at_call 8; (with_reducible refine (heavy_b B m cap2 b _ (hb.ext hO)).mono ?_); rintro e w2 ⟨⟨B, rfl⟩, hE⟩; replace hO := hO.trans hE; clear hE; cases B)
        | (go_at_call 10; (with_reducible refine (mtimes_big A B n cap m cap2 a b _ (ha.ext hO) (hb.ext hO) haS hbS).mono ?_); rintro e w3 ⟨A3, n3, c3, rfl, hn3, hr3, hE⟩; replace hO := hO.trans hE; clear hE)
        | (go_at_call 11; (with_reducible refine (rmtimes_big A B n cap m cap2 a b _ (ha.ext hO) (hb.ext hO) haS hbS).mono ?_); rintro e w4 ⟨A4, n4, c4, rfl, hn4, hr4, hE⟩; replace hO := hO.trans hE; replace hr3 := hr3.ext hE; clear hE)
        | (go_at_call 12; (with_reducible refine (undo_big A n cap a _ (ha.ext hO) haS).mono ?_); rintro e w5 ⟨A5, n5, c5, rfl, hn5, hr5, hE⟩; replace hO := hO.trans hE; replace hr3 := hr3.ext hE; replace hr4 := hr4.ext hE; clear hE)
        | (go_at_call 13; (with_reducible refine (rundo_big A n cap a _ (ha.ext hO) haS).mono ?_); rintro e w6 ⟨A6, n6, c6, rfl, hn6, hr6, hE⟩; replace hO := hO.trans hE; replace hr3 := hr3.ext hE; replace hr4 := hr4.ext hE; replace hr5 := hr5.ext hE; clear hE)
        | (go_at_call 14; (with_reducible refine (may_b A n cap a _ (ha.ext hO) haS).mono ?_); rintro e w7 ⟨rfl, hE⟩; replace hO := hO.trans hE; replace hr3 := hr3.ext hE; replace hr4 := hr4.ext hE; replace hr5 := hr5.ext hE; replace hr6 := hr6.ext hE; clear hE)
        | (go_at_call 15; (with_reducible refine (rmay_b A n cap a _ (ha.ext hO) haS).mono ?_); rintro e w8 ⟨rfl, hE⟩; replace hO := hO.trans hE; replace hr3 := hr3.ext hE; replace hr4 := hr4.ext hE; replace hr5 := hr5.ext hE; replace hr6 := hr6.ext hE; clear hE)
        | (go_at_call 17; (with_reducible refine (unit_big k _).mono ?_); rintro e w9 ⟨A9, n9, c9, rfl, hn9, hr9, hE⟩; replace hO := hO.trans hE; replace hr3 := hr3.ext hE; replace hr4 := hr4.ext hE; replace hr5 := hr5.ext hE; replace hr6 := hr6.ext hE; clear hE)
        | (go_at_call 18; (with_reducible refine (runit_big k _).mono ?_); rintro e w10 ⟨A10, n10, c10, rfl, hn10, hr10, hE⟩; replace hO := hO.trans hE; replace hr3 := hr3.ext hE; replace hr4 := hr4.ext hE; replace hr5 := hr5.ext hE; replace hr6 := hr6.ext hE; replace hr9 := hr9.ext hE; clear hE)
        | (go_at_call 16; (with_reducible refine (same_big A9 A10 n9 c9 n10 c10 _ _ hr9 hr10 hn9 hn10).mono ?_); rintro e w11 ⟨rfl, hE⟩; replace hO := hO.trans hE; replace hr3 := hr3.ext hE; replace hr4 := hr4.ext hE; replace hr5 := hr5.ext hE; replace hr6 := hr6.ext hE; replace hr9 := hr9.ext hE; replace hr10 := hr10.ext hE; clear hE)
        | (go_at_call 16; (with_reducible refine (same_big A3 A4 n3 c3 n4 c4 _ _ hr3 hr4 hn3 hn4).mono ?_); rintro e w12 ⟨rfl, hE⟩; replace hO := hO.trans hE; replace hr3 := hr3.ext hE; replace hr4 := hr4.ext hE; replace hr5 := hr5.ext hE; replace hr6 := hr6.ext hE; replace hr9 := hr9.ext hE; replace hr10 := hr10.ext hE; clear hE)
        | (go_at_call 16; (with_reducible refine (same_big A5 A6 n5 c5 n6 c6 _ _ hr5 hr6 hn5 hn6).mono ?_); rintro e w13 ⟨rfl, hE⟩; replace hO := hO.trans hE; replace hr3 := hr3.ext hE; replace hr4 := hr4.ext hE; replace hr5 := hr5.ext hE; replace hr6 := hr6.ext hE; replace hr9 := hr9.ext hE; replace hr10 := hr10.ext hE; clear hE)
        | (go_at_call 9; (with_reducible refine (alive_any _).mono ?_); rintro e w14 ⟨rfl, hE⟩; replace hO := hO.trans hE; clear hE))
      all_goals
        go_ret
        exact ⟨rfl, hO⟩
    · go_enter Try.func3, Try.ntmps3
      go_wp2_with (first
        | (go_at_call 8; (with_reducible refine (heavy_b A n cap a _ (ha.ext hO)).mono ?_); rintro e w1 ⟨⟨B, rfl⟩, hE⟩; replace hO := hO.trans hE; clear hE; cases B)
        | (go_at_call 8; (with_reducible refine (heavy_yes B m cap2 b _ (hb.ext hO) hbS).mono ?_); rintro e w2 ⟨rfl, hE⟩; replace hO := hO.trans hE; clear hE)
        | (go_at_call 9; (with_reducible refine (alive_any _).mono ?_); rintro e w3 ⟨rfl, hE⟩; replace hO := hO.trans hE; clear hE))
      all_goals
        go_ret
        exact ⟨rfl, hO⟩
  · go_enter Try.func3, Try.ntmps3
    go_wp2_with (first
      | (go_at_call 8; (with_reducible refine (heavy_yes A n cap a _ (ha.ext hO) haS).mono ?_); rintro e w1 ⟨rfl, hE⟩; replace hO := hO.trans hE; clear hE)
      | (go_at_call 9; (with_reducible refine (alive_any _).mono ?_); rintro e w2 ⟨rfl, hE⟩; replace hO := hO.trans hE; clear hE))
    all_goals
      go_ret
      exact ⟨rfl, hO⟩
set_option maxRecDepth 100000 in
set_option maxHeartbeats 2000000 in
theorem matrixRows_walk (A : Option Addr) (n cap : Nat) (a : List ByteArray) (B : Option Addr) (m cap2 : Nat) (b : List ByteArray) (C : Option Addr) (k cap3 : Nat) (r : List Int) (p q : Int) (W : World) (ha : Rd W A n (a.map Value.string)) (_ : n ≤ maxLen) (_ : ∀ s ∈ a, s.size ≤ maxLen) (hb : Rd W B m (b.map Value.string)) (_ : m ≤ maxLen) (_ : ∀ s ∈ b, s.size ≤ maxLen)
    (hr : Rd W C k (r.map (Value.int .i64))) (hkm : k ≤ maxLen) (_ : ∀ x ∈ r, (Lit.int .i64 x).wf = true) (_ : (Lit.int .i64 p).wf = true) (_ : (Lit.int .i64 q).wf = true) :
    Calls Try.prog 4 #[.slice A n cap, .slice B m cap2, .slice C k cap3, .int .i64 p, .int .i64 q] W fun e w' => e = .returned (.bool true) ∧ Ext W w' := by
  have hO := Ext.refl W
  unfold maxLen at hkm
  by_cases haS : Sm n a
  · by_cases hbS : Sm m b
    · by_cases hk : 200 < k
      · have hkB : decide ((200 : Int) < (k : Int)) = true := by simp; omega
        go_enter Try.func4, Try.ntmps4
        go_wp2_with (first
          | (go_at_call 8; (with_reducible refine (heavy_b A n cap a _ (ha.ext hO)).mono ?_); rintro e w1 ⟨⟨B, rfl⟩, hE⟩; replace hO := hO.trans hE; clear hE; cases B)
          | (go_at_call 8; (with_reducible refine (heavy_b B m cap2 b _ (hb.ext hO)).mono ?_); rintro e w2 ⟨⟨B, rfl⟩, hE⟩; replace hO := hO.trans hE; clear hE; cases B)
          | (go_at_call 9; (with_reducible refine (alive_any _).mono ?_); rintro e w3 ⟨rfl, hE⟩; replace hO := hO.trans hE; clear hE))
        all_goals
          go_ret
          exact ⟨rfl, hO⟩
      · have hkB : decide ((200 : Int) < (k : Int)) = false := by simp; omega
        have hkS : k ≤ 1048576 := by omega
        go_enter Try.func4, Try.ntmps4
        go_wp2_with (first
          | (go_at_call 8; (with_reducible refine (heavy_b A n cap a _ (ha.ext hO)).mono ?_); rintro e w1 ⟨⟨B, rfl⟩, hE⟩; replace hO := hO.trans hE; clear hE; cases B)
          | (go_at_call 8; (with_reducible refine (heavy_b B m cap2 b _ (hb.ext hO)).mono ?_); rintro e w2 ⟨⟨B, rfl⟩, hE⟩; replace hO := hO.trans hE; clear hE; cases B)
          | (go_at_call 19; (with_reducible refine (cauchy_big p q _).mono ?_); rintro e w3 ⟨A3, n3, c3, rfl, hn3, hr3, hE⟩; replace hO := hO.trans hE; clear hE)
          | (go_at_call 20; (with_reducible refine (rcauchy_big p q _).mono ?_); rintro e w4 ⟨A4, n4, c4, rfl, hn4, hr4, hE⟩; replace hO := hO.trans hE; replace hr3 := hr3.ext hE; clear hE)
          | (go_at_call 21; (with_reducible refine (pick_big A C n cap k cap3 a r _ (ha.ext hO) (hr.ext hO) haS hkS).mono ?_); rintro e w5 ⟨A5, n5, c5, rfl, hn5, hr5, hE⟩; replace hO := hO.trans hE; replace hr3 := hr3.ext hE; replace hr4 := hr4.ext hE; clear hE)
          | (go_at_call 22; (with_reducible refine (rpick_big A C n cap k cap3 a r _ (ha.ext hO) (hr.ext hO) haS hkS).mono ?_); rintro e w6 ⟨A6, n6, c6, rfl, hn6, hr6, hE⟩; replace hO := hO.trans hE; replace hr3 := hr3.ext hE; replace hr4 := hr4.ext hE; replace hr5 := hr5.ext hE; clear hE)
          | (go_at_call 23; (with_reducible refine (below_big A B n cap m cap2 a b _ (ha.ext hO) (hb.ext hO) haS hbS).mono ?_); rintro e w7 ⟨A7, n7, c7, rfl, hn7, hr7, hE⟩; replace hO := hO.trans hE; replace hr3 := hr3.ext hE; replace hr4 := hr4.ext hE; replace hr5 := hr5.ext hE; replace hr6 := hr6.ext hE; clear hE)
          | (go_at_call 24; (with_reducible refine (rbelow_big A B n cap m cap2 a b _ (ha.ext hO) (hb.ext hO) haS hbS).mono ?_); rintro e w8 ⟨A8, n8, c8, rfl, hn8, hr8, hE⟩; replace hO := hO.trans hE; replace hr3 := hr3.ext hE; replace hr4 := hr4.ext hE; replace hr5 := hr5.ext hE; replace hr6 := hr6.ext hE; replace hr7 := hr7.ext hE; clear hE)
          | (go_at_call 16; (with_reducible refine (same_big A3 A4 n3 c3 n4 c4 _ _ hr3 hr4 hn3 hn4).mono ?_); rintro e w9 ⟨rfl, hE⟩; replace hO := hO.trans hE; replace hr3 := hr3.ext hE; replace hr4 := hr4.ext hE; replace hr5 := hr5.ext hE; replace hr6 := hr6.ext hE; replace hr7 := hr7.ext hE; replace hr8 := hr8.ext hE; clear hE)
          | (go_at_call 16; (with_reducible refine (same_big A5 A6 n5 c5 n6 c6 _ _ hr5 hr6 hn5 hn6).mono ?_); rintro e w10 ⟨rfl, hE⟩; replace hO := hO.trans hE; replace hr3 := hr3.ext hE; replace hr4 := hr4.ext hE; replace hr5 := hr5.ext hE; replace hr6 := hr6.ext hE; replace hr7 := hr7.ext hE; replace hr8 := hr8.ext hE; clear hE)
          | (go_at_call 16; (with_reducible refine (same_big A7 A8 n7 c7 n8 c8 _ _ hr7 hr8 hn7 hn8).mono ?_); rintro e w11 ⟨rfl, hE⟩; replace hO := hO.trans hE; replace hr3 := hr3.ext hE; replace hr4 := hr4.ext hE; replace hr5 := hr5.ext hE; replace hr6 := hr6.ext hE; replace hr7 := hr7.ext hE; replace hr8 := hr8.ext hE; clear hE)
          | (go_at_call 9; (with_reducible refine (alive_any _).mono ?_); rintro e w12 ⟨rfl, hE⟩; replace hO := hO.trans hE; clear hE))
        all_goals
          go_ret
          exact ⟨rfl, hO⟩
    · go_enter Try.func4, Try.ntmps4
      go_wp2_with (first
        | (go_at_call 8; (with_reducible refine (heavy_b A n cap a _ (ha.ext hO)).mono ?_); rintro e w1 ⟨⟨B, rfl⟩, hE⟩; replace hO := hO.trans hE; clear hE; cases B)
        | (go_at_call 8; (with_reducible refine (heavy_yes B m cap2 b _ (hb.ext hO) hbS).mono ?_); rintro e w2 ⟨rfl, hE⟩; replace hO := hO.trans hE; clear hE)
        | (go_at_call 9; (with_reducible refine (alive_any _).mono ?_); rintro e w3 ⟨rfl, hE⟩; replace hO := hO.trans hE; clear hE))
      all_goals
        go_ret
        exact ⟨rfl, hO⟩
  · go_enter Try.func4, Try.ntmps4
    go_wp2_with (first
      | (go_at_call 8; (with_reducible refine (heavy_yes A n cap a _ (ha.ext hO) haS).mono ?_); rintro e w1 ⟨rfl, hE⟩; replace hO := hO.trans hE; clear hE)
      | (go_at_call 9; (with_reducible refine (alive_any _).mono ?_); rintro e w2 ⟨rfl, hE⟩; replace hO := hO.trans hE; clear hE))
    all_goals
      go_ret
      exact ⟨rfl, hO⟩
