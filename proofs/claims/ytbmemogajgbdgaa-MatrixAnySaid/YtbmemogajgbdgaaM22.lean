import Derived.Test.YtbmemogajgbdgaaM20
import Derived.Test.YtbmemogajgbdgaaA2
namespace Go.Proofs.Ytbmemogajgbdgaa
open Go.RowKit Go.Gf
def BadIs (w : World) (e : Ending) (w' : World) : Prop :=
  ∃ (A : Option Addr) (n cap : Nat) (E : Int), e = .returned (.tuple #[.slice A n cap, .int .i64 E]) ∧ (E == 0) = false ∧ Ext w w'
theorem bad_of {l : List ByteArray} {E : Int} {w w' : World} {e : Ending} (h : BigIs l E w e w') (h2 : E ≠ 0) : BadIs w e w' := by
  obtain ⟨A, n, cap, rfl, hn, hr, hE⟩ := h
  exact ⟨A, n, cap, E, rfl, by simpa using h2, hE⟩
section
variable {a b : List ByteArray} {A B : Option Addr} {n cap m cap2 : Nat}
theorem vU0 (he : undoE a = 0) (h : Sm n a) (w : World) (hr : Rd w A n (a.map Value.string)) : Calls Try.prog 12 #[.slice A n cap] w (BigIs (undoV a) 0 w) := by
  have := undo_big A n cap a w hr h
  rwa [he] at this
theorem vUF (he : undoE a ≠ 0) (h : Sm n a) (w : World) (hr : Rd w A n (a.map Value.string)) : Calls Try.prog 12 #[.slice A n cap] w (BadIs w) :=
  (undo_big A n cap a w hr h).mono fun _ _ h => bad_of h he
theorem vT0 (he : timesE a b = 0) (h1 : Sm n a) (h2 : Sm m b) (w : World) (hr : Rd w A n (a.map Value.string)) (hq : Rd w B m (b.map Value.string)) : Calls Try.prog 10 #[.slice A n cap, .slice B m cap2] w (BigIs (timesV a b) 0 w) := by
  have := mtimes_big A B n cap m cap2 a b w hr hq h1 h2
  rwa [he] at this
theorem vTF (he : timesE a b ≠ 0) (h1 : Sm n a) (h2 : Sm m b) (w : World) (hr : Rd w A n (a.map Value.string)) (hq : Rd w B m (b.map Value.string)) : Calls Try.prog 10 #[.slice A n cap, .slice B m cap2] w (BadIs w) :=
  (mtimes_big A B n cap m cap2 a b w hr hq h1 h2).mono fun _ _ h => bad_of h he
theorem vTt (he : timesE a b = 0) : mayP a ∧ mayP b := by
  unfold timesE at he
  split at he
  · rename_i h'; exact h'
  · exact absurd he (by decide)
theorem vXU (he : undoE a = 0) (hl : a.length = n) (A' : Option Addr) (n' c' : Nat) (hn' : n' ≤ 1048576) (w : World) (hr : Rd w A n (a.map Value.string)) (hq : Rd w A' n' ((undoV a).map Value.string)) : Calls Try.prog 10 #[.slice A n cap, .slice A' n' c'] w (BigIs (unitM n) 0 w) := by
  obtain ⟨h, hsq⟩ := undo_sq he
  have hu := (undo_sound a h hsq he).1
  have hn := h.1
  refine (mtimes_any A A' n cap n' c' a (undoV a) w hr hq (by omega) hn' h.z hu.z).mono fun _ _ h => big_of2 h ?_ (by rw [unitM_len]; omega)
  rw [← hl]
  exact (times_undo a he).1
theorem vYU (he : undoE a = 0) (hl : a.length = n) (A' : Option Addr) (n' c' : Nat) (hn' : n' ≤ 1048576) (w : World) (hr : Rd w A n (a.map Value.string)) (hq : Rd w A' n' ((undoV a).map Value.string)) : Calls Try.prog 10 #[.slice A' n' c', .slice A n cap] w (BigIs (unitM n) 0 w) := by
  obtain ⟨h, hsq⟩ := undo_sq he
  have hu := (undo_sound a h hsq he).1
  have hn := h.1
  refine (mtimes_any A' A n' c' n cap (undoV a) a w hq hr hn' (by omega) hu.z h.z).mono fun _ _ h => big_of2 h ?_ (by rw [unitM_len]; omega)
  rw [← hl]
  exact (times_undo a he).2
theorem vZU (he : undoE a = 0) (A' : Option Addr) (n' c' : Nat) (hn' : n' ≤ 1048576) (w : World) (hq : Rd w A' n' ((undoV a).map Value.string)) : Calls Try.prog 12 #[.slice A' n' c'] w (BigIs a 0 w) := by
  obtain ⟨h, hsq⟩ := undo_sq he
  have hu := (undo_sound a h hsq he).1
  exact (undo_any A' n' c' (undoV a) w hq hn' hu.z).mono fun _ _ h' => big_of2 h' (undo_undo a he) h.n
theorem vL {c : List ByteArray} {C : Option Addr} {k cap3 : Nat} (h1 : timesE a b = 0) (h2 : timesE b c = 0) (h3 : Sm k c) (A' : Option Addr) (n' c' : Nat) (hn' : n' ≤ 1048576) (w : World) (hr : Rd w C k (c.map Value.string)) (hq : Rd w A' n' ((timesV a b).map Value.string)) : Calls Try.prog 10 #[.slice A' n' c', .slice C k cap3] w (BigIs (timesV a (timesV b c)) 0 w) := by
  have ht := times_assoc a b c h1 h2
  have hm := (vTt ht.1).1
  refine (mtimes_any A' C n' c' k cap3 (timesV a b) c w hq hr hn' h3.n hm.z h3.z).mono fun _ _ h => big_of2 h ⟨ht.2.2, ht.1⟩ (by have := timesV_len a (timesV b c); omega)
theorem vR {c : List ByteArray} (h1 : timesE a b = 0) (h2 : timesE b c = 0) (h3 : Sm n a) (A' : Option Addr) (n' c' : Nat) (hn' : n' ≤ 1048576) (w : World) (hr : Rd w A n (a.map Value.string)) (hq : Rd w A' n' ((timesV b c).map Value.string)) : Calls Try.prog 10 #[.slice A n cap, .slice A' n' c'] w (BigIs (timesV a (timesV b c)) 0 w) := by
  have ht := times_assoc a b c h1 h2
  have hm := (vTt ht.2.1).2
  refine (mtimes_any A A' n cap n' c' a (timesV b c) w hr hq h3.n hn' h3.z hm.z).mono fun _ _ h => big_of2 h ⟨rfl, ht.2.1⟩ (by have := timesV_len a (timesV b c); omega)
end
set_option maxRecDepth 100000 in
set_option maxHeartbeats 4000000 in
theorem matrixUndoes_walk (A : Option Addr) (n cap : Nat) (a : List ByteArray) (B : Option Addr) (m cap2 : Nat) (b : List ByteArray) (C : Option Addr) (k cap3 : Nat) (c : List ByteArray) (W : World) (ha : Rd W A n (a.map Value.string)) (_ : n ≤ maxLen) (_ : ∀ s ∈ a, s.size ≤ maxLen) (hb : Rd W B m (b.map Value.string)) (_ : m ≤ maxLen) (_ : ∀ s ∈ b, s.size ≤ maxLen)
    (hc : Rd W C k (c.map Value.string)) (_ : k ≤ maxLen) (_ : ∀ s ∈ c, s.size ≤ maxLen) :
    Calls Try.prog 5 #[.slice A n cap, .slice B m cap2, .slice C k cap3] W fun e w' => e = .returned (.bool true) ∧ Ext W w' := by
  have hO := Ext.refl W
  by_cases haS : Sm n a
  · by_cases hbS : Sm m b
    · by_cases hcS : Sm k c
      · by_cases hu : undoE a = 0
        · have hun0 : (∀ w, Calls Try.prog 17 #[.int .i64 n] w fun e w' => ∃ (A : Option Addr) (cap : Nat), e = .returned (.slice A n cap) ∧ Rd w' A n ((unitM n).map Value.string) ∧ Ext w w') := (unitS n (by have := (undo_sq hu).1.1; have hla := ha.1; rw [List.length_map] at hla; omega))
          have hun := Lib.hid hun0
          have hla0 : (a.length = n) := (by have := ha.1; simpa using this)
          have hla := Lib.hid hla0
          clear hun0 hla0
          have hu := Lib.hid hu
          by_cases h1 : timesE a b = 0
          · have h1 := Lib.hid h1
            by_cases h2 : timesE b c = 0
            · have h2 := Lib.hid h2
              go_enter Try.func5, Try.ntmps5
              go_wp2_with (first
                | (go_at_call 8; (with_reducible refine (heavy_b A n cap a _ (ha.ext hO)).mono ?_); rintro e w1 ⟨⟨B, rfl⟩, hE⟩; replace hO := hO.trans hE; clear hE; cases B)
                | (go_at_call 8; (with_reducible refine (heavy_b B m cap2 b _ (hb.ext hO)).mono ?_); rintro e w2 ⟨⟨B, rfl⟩, hE⟩; replace hO := hO.trans hE; clear hE; cases B)
                | (go_at_call 8; (with_reducible refine (heavy_b C k cap3 c _ (hc.ext hO)).mono ?_); rintro e w3 ⟨⟨B, rfl⟩, hE⟩; replace hO := hO.trans hE; clear hE; cases B)
                | (go_at_call 12; (with_reducible refine (vU0 hu.out haS _ (ha.ext hO)).mono ?_); rintro e w4 ⟨A4, n4, c4, rfl, hn4, hr4, hE⟩; replace hO := hO.trans hE; clear hE)
                | (go_at_call 10; (with_reducible refine (vXU hu.out hla.out A4 n4 c4 hn4 _ (ha.ext hO) hr4).mono ?_); rintro e w5 ⟨A5, n5, c5, rfl, hn5, hr5, hE⟩; replace hO := hO.trans hE; replace hr4 := hr4.ext hE; clear hE)
                | (go_at_call 10; (with_reducible refine (vYU hu.out hla.out A4 n4 c4 hn4 _ (ha.ext hO) hr4).mono ?_); rintro e w6 ⟨A6, n6, c6, rfl, hn6, hr6, hE⟩; replace hO := hO.trans hE; replace hr4 := hr4.ext hE; replace hr5 := hr5.ext hE; clear hE)
                | (go_at_call 12; (with_reducible refine (vZU hu.out A4 n4 c4 hn4 _ hr4).mono ?_); rintro e w7 ⟨A7, n7, c7, rfl, hn7, hr7, hE⟩; replace hO := hO.trans hE; replace hr4 := hr4.ext hE; replace hr5 := hr5.ext hE; replace hr6 := hr6.ext hE; clear hE)
                | (go_at_call 17; (with_reducible refine (hun.out _).mono ?_); rintro e w8 ⟨AU, cU, rfl, hU, hE⟩; replace hO := hO.trans hE; replace hr5 := hr5.ext hE; replace hr6 := hr6.ext hE; replace hr7 := hr7.ext hE; clear hE)
                | (go_at_call 16; (with_reducible refine (same_big A5 AU n5 c5 n cU _ _ hr5 hU hn5 haS.n).mono ?_); rintro e w9 ⟨rfl, hE⟩; replace hO := hO.trans hE; replace hr5 := hr5.ext hE; replace hr6 := hr6.ext hE; replace hr7 := hr7.ext hE; clear hE)
                | (go_at_call 16; (with_reducible refine (same_big A5 A6 n5 c5 n6 c6 _ _ hr5 hr6 hn5 hn6).mono ?_); rintro e w10 ⟨rfl, hE⟩; replace hO := hO.trans hE; replace hr5 := hr5.ext hE; replace hr6 := hr6.ext hE; replace hr7 := hr7.ext hE; clear hE)
                | (go_at_call 16; (with_reducible refine (same_big A7 A n7 c7 n cap _ _ hr7 (ha.ext hO) hn7 haS.n).mono ?_); rintro e w11 ⟨rfl, hE⟩; replace hO := hO.trans hE; replace hr5 := hr5.ext hE; replace hr6 := hr6.ext hE; replace hr7 := hr7.ext hE; clear hE)
                | (go_at_call 10; (with_reducible refine (vT0 h1.out haS hbS _ (ha.ext hO) (hb.ext hO)).mono ?_); rintro e w12 ⟨A12, n12, c12, rfl, hn12, hr12, hE⟩; replace hO := hO.trans hE; clear hE)
                | (go_at_call 10; (with_reducible refine (vT0 h2.out hbS hcS _ (hb.ext hO) (hc.ext hO)).mono ?_); rintro e w13 ⟨A13, n13, c13, rfl, hn13, hr13, hE⟩; replace hO := hO.trans hE; replace hr12 := hr12.ext hE; clear hE)
                | (go_at_call 10; (with_reducible refine (vL h1.out h2.out hcS A12 n12 c12 hn12 _ (hc.ext hO) hr12).mono ?_); rintro e w14 ⟨A14, n14, c14, rfl, hn14, hr14, hE⟩; replace hO := hO.trans hE; replace hr12 := hr12.ext hE; replace hr13 := hr13.ext hE; clear hE)
                | (go_at_call 10; (with_reducible refine (vR h1.out h2.out haS A13 n13 c13 hn13 _ (ha.ext hO) hr13).mono ?_); rintro e w15 ⟨A15, n15, c15, rfl, hn15, hr15, hE⟩; replace hO := hO.trans hE; replace hr12 := hr12.ext hE; replace hr13 := hr13.ext hE; replace hr14 := hr14.ext hE; clear hE)
                | (go_at_call 16; (with_reducible refine (same_big A14 A15 n14 c14 n15 c15 _ _ hr14 hr15 hn14 hn15).mono ?_); rintro e w16 ⟨rfl, hE⟩; replace hO := hO.trans hE; replace hr12 := hr12.ext hE; replace hr13 := hr13.ext hE; replace hr14 := hr14.ext hE; replace hr15 := hr15.ext hE; clear hE)
                | (go_at_call 9; (with_reducible refine (alive_any _).mono ?_); rintro e w17 ⟨rfl, hE⟩; replace hO := hO.trans hE; clear hE))
              all_goals
                go_ret
                exact ⟨rfl, hO⟩
            · have h2 := Lib.hid h2
              go_enter Try.func5, Try.ntmps5
              go_wp2_with (first
                | (go_at_call 8; (with_reducible refine (heavy_b A n cap a _ (ha.ext hO)).mono ?_); rintro e w1 ⟨⟨B, rfl⟩, hE⟩; replace hO := hO.trans hE; clear hE; cases B)
                | (go_at_call 8; (with_reducible refine (heavy_b B m cap2 b _ (hb.ext hO)).mono ?_); rintro e w2 ⟨⟨B, rfl⟩, hE⟩; replace hO := hO.trans hE; clear hE; cases B)
                | (go_at_call 8; (with_reducible refine (heavy_b C k cap3 c _ (hc.ext hO)).mono ?_); rintro e w3 ⟨⟨B, rfl⟩, hE⟩; replace hO := hO.trans hE; clear hE; cases B)
                | (go_at_call 12; (with_reducible refine (vU0 hu.out haS _ (ha.ext hO)).mono ?_); rintro e w4 ⟨A4, n4, c4, rfl, hn4, hr4, hE⟩; replace hO := hO.trans hE; clear hE)
                | (go_at_call 10; (with_reducible refine (vXU hu.out hla.out A4 n4 c4 hn4 _ (ha.ext hO) hr4).mono ?_); rintro e w5 ⟨A5, n5, c5, rfl, hn5, hr5, hE⟩; replace hO := hO.trans hE; replace hr4 := hr4.ext hE; clear hE)
                | (go_at_call 10; (with_reducible refine (vYU hu.out hla.out A4 n4 c4 hn4 _ (ha.ext hO) hr4).mono ?_); rintro e w6 ⟨A6, n6, c6, rfl, hn6, hr6, hE⟩; replace hO := hO.trans hE; replace hr4 := hr4.ext hE; replace hr5 := hr5.ext hE; clear hE)
                | (go_at_call 12; (with_reducible refine (vZU hu.out A4 n4 c4 hn4 _ hr4).mono ?_); rintro e w7 ⟨A7, n7, c7, rfl, hn7, hr7, hE⟩; replace hO := hO.trans hE; replace hr4 := hr4.ext hE; replace hr5 := hr5.ext hE; replace hr6 := hr6.ext hE; clear hE)
                | (go_at_call 17; (with_reducible refine (hun.out _).mono ?_); rintro e w8 ⟨AU, cU, rfl, hU, hE⟩; replace hO := hO.trans hE; replace hr5 := hr5.ext hE; replace hr6 := hr6.ext hE; replace hr7 := hr7.ext hE; clear hE)
                | (go_at_call 16; (with_reducible refine (same_big A5 AU n5 c5 n cU _ _ hr5 hU hn5 haS.n).mono ?_); rintro e w9 ⟨rfl, hE⟩; replace hO := hO.trans hE; replace hr5 := hr5.ext hE; replace hr6 := hr6.ext hE; replace hr7 := hr7.ext hE; clear hE)
                | (go_at_call 16; (with_reducible refine (same_big A5 A6 n5 c5 n6 c6 _ _ hr5 hr6 hn5 hn6).mono ?_); rintro e w10 ⟨rfl, hE⟩; replace hO := hO.trans hE; replace hr5 := hr5.ext hE; replace hr6 := hr6.ext hE; replace hr7 := hr7.ext hE; clear hE)
                | (go_at_call 16; (with_reducible refine (same_big A7 A n7 c7 n cap _ _ hr7 (ha.ext hO) hn7 haS.n).mono ?_); rintro e w11 ⟨rfl, hE⟩; replace hO := hO.trans hE; replace hr5 := hr5.ext hE; replace hr6 := hr6.ext hE; replace hr7 := hr7.ext hE; clear hE)
                | (go_at_call 10; (with_reducible refine (vT0 h1.out haS hbS _ (ha.ext hO) (hb.ext hO)).mono ?_); rintro e w12 ⟨A12, n12, c12, rfl, hn12, hr12, hE⟩; replace hO := hO.trans hE; clear hE)
                | (go_at_call 10; (with_reducible refine (vTF h2.out hbS hcS _ (hb.ext hO) (hc.ext hO)).mono ?_); rintro e w13 ⟨A13, n13, c13, E13, rfl, hE13, hE⟩; replace hO := hO.trans hE; replace hr12 := hr12.ext hE; clear hE)
                | (go_at_call 9; (with_reducible refine (alive_any _).mono ?_); rintro e w14 ⟨rfl, hE⟩; replace hO := hO.trans hE; clear hE))
              all_goals
                go_ret
                exact ⟨rfl, hO⟩
          · have h1 := Lib.hid h1
            go_enter Try.func5, Try.ntmps5
            go_wp2_with (first
              | (go_at_call 8; (with_reducible refine (heavy_b A n cap a _ (ha.ext hO)).mono ?_); rintro e w1 ⟨⟨B, rfl⟩, hE⟩; replace hO := hO.trans hE; clear hE; cases B)
              | (go_at_call 8; (with_reducible refine (heavy_b B m cap2 b _ (hb.ext hO)).mono ?_); rintro e w2 ⟨⟨B, rfl⟩, hE⟩; replace hO := hO.trans hE; clear hE; cases B)
              | (go_at_call 8; (with_reducible refine (heavy_b C k cap3 c _ (hc.ext hO)).mono ?_); rintro e w3 ⟨⟨B, rfl⟩, hE⟩; replace hO := hO.trans hE; clear hE; cases B)
              | (go_at_call 12; (with_reducible refine (vU0 hu.out haS _ (ha.ext hO)).mono ?_); rintro e w4 ⟨A4, n4, c4, rfl, hn4, hr4, hE⟩; replace hO := hO.trans hE; clear hE)
              | (go_at_call 10; (with_reducible refine (vXU hu.out hla.out A4 n4 c4 hn4 _ (ha.ext hO) hr4).mono ?_); rintro e w5 ⟨A5, n5, c5, rfl, hn5, hr5, hE⟩; replace hO := hO.trans hE; replace hr4 := hr4.ext hE; clear hE)
              | (go_at_call 10; (with_reducible refine (vYU hu.out hla.out A4 n4 c4 hn4 _ (ha.ext hO) hr4).mono ?_); rintro e w6 ⟨A6, n6, c6, rfl, hn6, hr6, hE⟩; replace hO := hO.trans hE; replace hr4 := hr4.ext hE; replace hr5 := hr5.ext hE; clear hE)
              | (go_at_call 12; (with_reducible refine (vZU hu.out A4 n4 c4 hn4 _ hr4).mono ?_); rintro e w7 ⟨A7, n7, c7, rfl, hn7, hr7, hE⟩; replace hO := hO.trans hE; replace hr4 := hr4.ext hE; replace hr5 := hr5.ext hE; replace hr6 := hr6.ext hE; clear hE)
              | (go_at_call 17; (with_reducible refine (hun.out _).mono ?_); rintro e w8 ⟨AU, cU, rfl, hU, hE⟩; replace hO := hO.trans hE; replace hr5 := hr5.ext hE; replace hr6 := hr6.ext hE; replace hr7 := hr7.ext hE; clear hE)
              | (go_at_call 16; (with_reducible refine (same_big A5 AU n5 c5 n cU _ _ hr5 hU hn5 haS.n).mono ?_); rintro e w9 ⟨rfl, hE⟩; replace hO := hO.trans hE; replace hr5 := hr5.ext hE; replace hr6 := hr6.ext hE; replace hr7 := hr7.ext hE; clear hE)
              | (go_at_call 16; (with_reducible refine (same_big A5 A6 n5 c5 n6 c6 _ _ hr5 hr6 hn5 hn6).mono ?_); rintro e w10 ⟨rfl, hE⟩; replace hO := hO.trans hE; replace hr5 := hr5.ext hE; replace hr6 := hr6.ext hE; replace hr7 := hr7.ext hE; clear hE)
              | (go_at_call 16; (with_reducible refine (same_big A7 A n7 c7 n cap _ _ hr7 (ha.ext hO) hn7 haS.n).mono ?_); rintro e w11 ⟨rfl, hE⟩; replace hO := hO.trans hE; replace hr5 := hr5.ext hE; replace hr6 := hr6.ext hE; replace hr7 := hr7.ext hE; clear hE)
              | (go_at_call 10; (with_reducible refine (vTF h1.out haS hbS _ (ha.ext hO) (hb.ext hO)).mono ?_); rintro e w12 ⟨A12, n12, c12, E12, rfl, hE12, hE⟩; replace hO := hO.trans hE; clear hE)
              | (go_at_call 10; (with_reducible refine (mtimes_big B C m cap2 k cap3 b c _ (hb.ext hO) (hc.ext hO) hbS hcS).mono ?_); rintro e w13 ⟨A13, n13, c13, rfl, hn13, hr13, hE⟩; replace hO := hO.trans hE; clear hE)
              | (go_at_call 9; (with_reducible refine (alive_any _).mono ?_); rintro e w14 ⟨rfl, hE⟩; replace hO := hO.trans hE; clear hE))
            all_goals
              go_ret
              exact ⟨rfl, hO⟩
        · have hu := Lib.hid hu
          by_cases h1 : timesE a b = 0
          · have h1 := Lib.hid h1
            by_cases h2 : timesE b c = 0
            · have h2 := Lib.hid h2
              go_enter Try.func5, Try.ntmps5
              go_wp2_with (first
                | (go_at_call 8; (with_reducible refine (heavy_b A n cap a _ (ha.ext hO)).mono ?_); rintro e w1 ⟨⟨B, rfl⟩, hE⟩; replace hO := hO.trans hE; clear hE; cases B)
                | (go_at_call 8; (with_reducible refine (heavy_b B m cap2 b _ (hb.ext hO)).mono ?_); rintro e w2 ⟨⟨B, rfl⟩, hE⟩; replace hO := hO.trans hE; clear hE; cases B)
                | (go_at_call 8; (with_reducible refine (heavy_b C k cap3 c _ (hc.ext hO)).mono ?_); rintro e w3 ⟨⟨B, rfl⟩, hE⟩; replace hO := hO.trans hE; clear hE; cases B)
                | (go_at_call 12; (with_reducible refine (vUF hu.out haS _ (ha.ext hO)).mono ?_); rintro e w4 ⟨A4, n4, c4, E4, rfl, hE4, hE⟩; replace hO := hO.trans hE; clear hE)
                | (go_at_call 10; (with_reducible refine (vT0 h1.out haS hbS _ (ha.ext hO) (hb.ext hO)).mono ?_); rintro e w5 ⟨A5, n5, c5, rfl, hn5, hr5, hE⟩; replace hO := hO.trans hE; clear hE)
                | (go_at_call 10; (with_reducible refine (vT0 h2.out hbS hcS _ (hb.ext hO) (hc.ext hO)).mono ?_); rintro e w6 ⟨A6, n6, c6, rfl, hn6, hr6, hE⟩; replace hO := hO.trans hE; replace hr5 := hr5.ext hE; clear hE)
                | (go_at_call 10; (with_reducible refine (vL h1.out h2.out hcS A5 n5 c5 hn5 _ (hc.ext hO) hr5).mono ?_); rintro e w7 ⟨A7, n7, c7, rfl, hn7, hr7, hE⟩; replace hO := hO.trans hE; replace hr5 := hr5.ext hE; replace hr6 := hr6.ext hE; clear hE)
                | (go_at_call 10; (with_reducible refine (vR h1.out h2.out haS A6 n6 c6 hn6 _ (ha.ext hO) hr6).mono ?_); rintro e w8 ⟨A8, n8, c8, rfl, hn8, hr8, hE⟩; replace hO := hO.trans hE; replace hr5 := hr5.ext hE; replace hr6 := hr6.ext hE; replace hr7 := hr7.ext hE; clear hE)
                | (go_at_call 16; (with_reducible refine (same_big A7 A8 n7 c7 n8 c8 _ _ hr7 hr8 hn7 hn8).mono ?_); rintro e w9 ⟨rfl, hE⟩; replace hO := hO.trans hE; replace hr5 := hr5.ext hE; replace hr6 := hr6.ext hE; replace hr7 := hr7.ext hE; replace hr8 := hr8.ext hE; clear hE)
                | (go_at_call 9; (with_reducible refine (alive_any _).mono ?_); rintro e w10 ⟨rfl, hE⟩; replace hO := hO.trans hE; clear hE))
              all_goals
                go_ret
                exact ⟨rfl, hO⟩
            · have h2 := Lib.hid h2
              go_enter Try.func5, Try.ntmps5
              go_wp2_with (first
                | (go_at_call 8; (with_reducible refine (heavy_b A n cap a _ (ha.ext hO)).mono ?_); rintro e w1 ⟨⟨B, rfl⟩, hE⟩; replace hO := hO.trans hE; clear hE; cases B)
                | (go_at_call 8; (with_reducible refine (heavy_b B m cap2 b _ (hb.ext hO)).mono ?_); rintro e w2 ⟨⟨B, rfl⟩, hE⟩; replace hO := hO.trans hE; clear hE; cases B)
                | (go_at_call 8; (with_reducible refine (heavy_b C k cap3 c _ (hc.ext hO)).mono ?_); rintro e w3 ⟨⟨B, rfl⟩, hE⟩; replace hO := hO.trans hE; clear hE; cases B)
                | (go_at_call 12; (with_reducible refine (vUF hu.out haS _ (ha.ext hO)).mono ?_); rintro e w4 ⟨A4, n4, c4, E4, rfl, hE4, hE⟩; replace hO := hO.trans hE; clear hE)
                | (go_at_call 10; (with_reducible refine (vT0 h1.out haS hbS _ (ha.ext hO) (hb.ext hO)).mono ?_); rintro e w5 ⟨A5, n5, c5, rfl, hn5, hr5, hE⟩; replace hO := hO.trans hE; clear hE)
                | (go_at_call 10; (with_reducible refine (vTF h2.out hbS hcS _ (hb.ext hO) (hc.ext hO)).mono ?_); rintro e w6 ⟨A6, n6, c6, E6, rfl, hE6, hE⟩; replace hO := hO.trans hE; replace hr5 := hr5.ext hE; clear hE)
                | (go_at_call 9; (with_reducible refine (alive_any _).mono ?_); rintro e w7 ⟨rfl, hE⟩; replace hO := hO.trans hE; clear hE))
              all_goals
                go_ret
                exact ⟨rfl, hO⟩
          · have h1 := Lib.hid h1
            go_enter Try.func5, Try.ntmps5
            go_wp2_with (first
              | (go_at_call 8; (with_reducible refine (heavy_b A n cap a _ (ha.ext hO)).mono ?_); rintro e w1 ⟨⟨B, rfl⟩, hE⟩; replace hO := hO.trans hE; clear hE; cases B)
              | (go_at_call 8; (with_reducible refine (heavy_b B m cap2 b _ (hb.ext hO)).mono ?_); rintro e w2 ⟨⟨B, rfl⟩, hE⟩; replace hO := hO.trans hE; clear hE; cases B)
              | (go_at_call 8; (with_reducible refine (heavy_b C k cap3 c _ (hc.ext hO)).mono ?_); rintro e w3 ⟨⟨B, rfl⟩, hE⟩; replace hO := hO.trans hE; clear hE; cases B)
              | (go_at_call 12; (with_reducible refine (vUF hu.out haS _ (ha.ext hO)).mono ?_); rintro e w4 ⟨A4, n4, c4, E4, rfl, hE4, hE⟩; replace hO := hO.trans hE; clear hE)
              | (go_at_call 10; (with_reducible refine (vTF h1.out haS hbS _ (ha.ext hO) (hb.ext hO)).mono ?_); rintro e w5 ⟨A5, n5, c5, E5, rfl, hE5, hE⟩; replace hO := hO.trans hE; clear hE)
              | (go_at_call 10; (with_reducible refine (mtimes_big B C m cap2 k cap3 b c _ (hb.ext hO) (hc.ext hO) hbS hcS).mono ?_); rintro e w6 ⟨A6, n6, c6, rfl, hn6, hr6, hE⟩; replace hO := hO.trans hE; clear hE)
              | (go_at_call 9; (with_reducible refine (alive_any _).mono ?_); rintro e w7 ⟨rfl, hE⟩; replace hO := hO.trans hE; clear hE))
            all_goals
              go_ret
              exact ⟨rfl, hO⟩
      · go_enter Try.func5, Try.ntmps5
        go_wp2_with (first
          | (go_at_call 8; (with_reducible refine (heavy_b A n cap a _ (ha.ext hO)).mono ?_); rintro e w1 ⟨⟨B, rfl⟩, hE⟩; replace hO := hO.trans hE; clear hE; cases B)
          | (go_at_call 8; (with_reducible refine (heavy_b B m cap2 b _ (hb.ext hO)).mono ?_); rintro e w2 ⟨⟨B, rfl⟩, hE⟩; replace hO := hO.trans hE; clear hE; cases B)
          | (go_at_call 8; (with_reducible refine (heavy_yes C k cap3 c _ (hc.ext hO) hcS).mono ?_); rintro e w3 ⟨rfl, hE⟩; replace hO := hO.trans hE; clear hE)
          | (go_at_call 9; (with_reducible refine (alive_any _).mono ?_); rintro e w4 ⟨rfl, hE⟩; replace hO := hO.trans hE; clear hE))
        all_goals
          go_ret
          exact ⟨rfl, hO⟩
    · go_enter Try.func5, Try.ntmps5
      go_wp2_with (first
        | (go_at_call 8; (with_reducible refine (heavy_b A n cap a _ (ha.ext hO)).mono ?_); rintro e w1 ⟨⟨B, rfl⟩, hE⟩; replace hO := hO.trans hE; clear hE; cases B)
        | (go_at_call 8; (with_reducible refine (heavy_yes B m cap2 b _ (hb.ext hO) hbS).mono ?_); rintro e w2 ⟨rfl, hE⟩; replace hO := hO.trans hE; clear hE)
        | (go_at_call 9; (with_reducible refine (alive_any _).mono ?_); rintro e w3 ⟨rfl, hE⟩; replace hO := hO.trans hE; clear hE))
      all_goals
        go_ret
        exact ⟨rfl, hO⟩
  · go_enter Try.func5, Try.ntmps5
    go_wp2_with (first
      | (go_at_call 8; (with_reducible refine (heavy_yes A n cap a _ (ha.ext hO) haS).mono ?_); rintro e w1 ⟨rfl, hE⟩; replace hO := hO.trans hE; clear hE)
      | (go_at_call 9; (with_reducible refine (alive_any _).mono ?_); rintro e w2 ⟨rfl, hE⟩; replace hO := hO.trans hE; clear hE))
    all_goals
      go_ret
      exact ⟨rfl, hO⟩
