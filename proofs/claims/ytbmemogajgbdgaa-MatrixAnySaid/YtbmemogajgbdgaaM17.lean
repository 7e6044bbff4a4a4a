import Derived.Test.YtbmemogajgbdgaaM13
import Derived.Test.YtbmemogajgbdgaaM16
import Derived.Test.YtbmemogajgbdgaaM5
namespace Go.Proofs.Ytbmemogajgbdgaa
open Go.RowKit Go.Gf
/-- What Heavy tells. -/
def HeavyIs (n : Nat) (l : List ByteArray) (e : Ending) : Prop := ∃ B : Bool, e = .returned (.bool B) ∧ (B = false → n ≤ 80 ∧ ∀ s ∈ l, s.size ≤ 80)
set_option maxRecDepth 100000 in
theorem heavy_any (A : Option Addr) (n cap : Nat) (l : List ByteArray) (w : World) (hr : Rd w A n (l.map Value.string)) :
    Calls Try.prog 8 #[.slice A n cap] w fun e w' => HeavyIs n l e ∧ Ext w w' := by
  have hlen : l.length = n := by have := hr.1; simpa using this
  by_cases h : 80 < n
  · have e1 : (80 : Int) < (n : Int) := by omega
    go_enter Try.func8, Try.ntmps8
    go_wp2
    go_ret
    exact ⟨⟨true, rfl, by simp⟩, Ext.refl _⟩
  · have e1 : ¬ (80 : Int) < (n : Int) := by omega
    go_enter Try.func8, Try.ntmps8
    go_wp2
    go_loopw [3] (fun i wr => ∃ k : Nat, k ≤ n ∧ i = .int .i64 k ∧ (∀ s ∈ l.take k, s.size ≤ 80) ∧ Ext w wr) (fun i _ => n - (intOf i).toNat)
    case atStart => exact ⟨0, by omega, rfl, by simp, Ext.refl _⟩
    case round =>
      obtain ⟨k, hk, rfl, hall, hE⟩ := hrel
      by_cases hk2 : k < n
      · obtain ⟨gs, os, rfl, hgs, hcell⟩ := (hr.ext hE).at_ hk2
        simp only [List.getElem_map] at hcell
        have htk : l.take (k + 1) = l.take k ++ [l[k]'(by omega)] := List.take_succ_eq_append_getElem (by omega)
        generalize l[k]'(by omega) = s at *
        have HTK := Lib.hid htk
        have HALL := Lib.hid hall
        clear htk hall hlen
        have kk : (k : Int) < (n : Int) := by omega
        by_cases hs : 80 < s.size
        · have e2 : (80 : Int) < (s.size : Int) := by omega
          go_wp2
          go_ret
          exact ⟨⟨true, rfl, by simp⟩, hE⟩
        · have e2 : ¬ (80 : Int) < (s.size : Int) := by omega
          go_wp2
          go_roundw
          case rel => exact ⟨k + 1, by omega, by go_num, fun s' h' => by
            rw [HTK.out, List.mem_append, List.mem_singleton] at h'
            rcases h' with h' | h'
            · exact HALL.out s' h'
            · rw [h']; omega, hE⟩
          case measure => simp [intOf]; omega
      · obtain rfl : k = n := by omega
        rw [List.take_of_length_le (by omega)] at hall
        have kk : ¬ (k : Int) < (k : Int) := by omega
        have HALL := Lib.hid hall
        clear hall hlen
        by_cases h16 : 16 < k
        · have e3 : decide ((16 : Int) < (k : Int)) = true := by simp; omega
          obtain ⟨gs, os, rfl, hgs, hcell⟩ := (hr.ext hE).at_ (show 0 < k by omega)
          simp only [List.getElem_map, Nat.add_zero] at hcell
          have k0 : (0 : Int) < (k : Int) := by omega
          go_wp2
          go_ret
          exact ⟨⟨_, rfl, fun _ => ⟨by omega, HALL.out⟩⟩, hE⟩
        · have e3 : decide ((16 : Int) < (k : Int)) = false := by simp; omega
          go_wp2
          go_ret
          exact ⟨⟨false, rfl, fun _ => ⟨by omega, HALL.out⟩⟩, hE⟩
/-- Same says yes. -/
theorem same_yes (A B : Option Addr) (n cap m cap2 : Nat) (l r : List ByteArray) (w : World) (hr : Rd w A n (l.map Value.string)) (hq : Rd w B m (r.map Value.string)) (hn : n ≤ 1048576) (hm : m ≤ 1048576) (h : l = r) :
    Calls Try.prog 16 #[.slice A n cap, .slice B m cap2] w fun e w' => e = .returned (.bool true) ∧ Ext w w' := by
  have := same_any A B n cap m cap2 l r w hr hq hn hm
  rwa [show sameB l r = true by simpa [sameB] using h] at this
def b1 (a : UInt8) : ByteArray := { data := #[a] }
def b2 (a b : UInt8) : ByteArray := { data := #[a, b] }
theorem al1 : cauchyV 1 2 = [b2 142 244] ∧ cauchyE 1 2 = 0 := by decide +kernel
theorem al2 : undoV [b2 1 1, b2 1 2] = [b2 245 244, b2 244 244] ∧ undoE [b2 1 1, b2 1 2] = 0 := by decide +kernel
theorem al3 : undoV [b2 1 1, b2 1 1] = [] ∧ undoE [b2 1 1, b2 1 1] = 51 := by decide +kernel
theorem al4 : pickV [b1 97, b1 98] [1, 0, 1] = [b1 98, b1 97, b1 98] ∧ pickE [b1 97, b1 98] [1, 0, 1] = 0 := by decide +kernel
theorem al5 : belowV [b1 97] [b1 98] = [b1 97, b1 98] ∧ belowE [b1 97] [b1 98] = 0 := by decide +kernel
theorem al6 : timesV [b1 2] [b1 128] = [b1 29] ∧ timesE [b1 2] [b1 128] = 0 := by decide +kernel
theorem al7 : mayB [b1 97] = true := by decide +kernel
theorem al8 : (unitV 2).length = 2 := by decide +kernel
/-- A matrix of few rows. -/
def FewIs (l : List ByteArray) (E : Int) (w : World) (e : Ending) (w' : World) : Prop :=
  ∃ (A : Option Addr) (n cap : Nat), e = .returned (.tuple #[.slice A n cap, .int .i64 E]) ∧ n ≤ 64 ∧ Rd w' A n (l.map Value.string) ∧ Ext w w'
theorem few_of {l l' : List ByteArray} {E E' : Int} {w w' : World} {e : Ending} (h : MatIs l E w e w') (h1 : l = l' ∧ E = E') (h2 : l'.length ≤ 64) : FewIs l' E' w e w' := by
  obtain ⟨rfl, rfl⟩ := h1
  obtain ⟨A, n, cap, rfl, hn, hr, hE⟩ := h
  exact ⟨A, n, cap, rfl, by omega, hr, hE⟩
theorem small2 (a b : ByteArray) (ha : a.size ≤ 64) (hb : b.size ≤ 64) : ∀ s ∈ [a, b], s.size ≤ 1048576 := by
  intro s hs; simp at hs; rcases hs with rfl | rfl <;> omega
theorem small1 (a : ByteArray) (ha : a.size ≤ 64) : ∀ s ∈ [a], s.size ≤ 1048576 := by
  intro s hs; simp at hs; subst hs; omega
theorem alP2 (A : Option Addr) (cap : Nat) (w : World) (hr : Rd w A 2 [.string { data := #[1, 1] }, .string { data := #[1, 2] }]) : Calls Try.prog 12 #[.slice A 2 cap] w (FewIs [b2 245 244, b2 244 244] 0 w) :=
  (undo_any A 2 cap [b2 1 1, b2 1 2] w hr (by omega) (small2 _ _ (by decide) (by decide))).mono fun _ _ h => few_of h al2 (by decide)
theorem alP3 (A : Option Addr) (cap : Nat) (w : World) (hr : Rd w A 2 [.string { data := #[1, 1] }, .string { data := #[1, 1] }]) : Calls Try.prog 12 #[.slice A 2 cap] w (FewIs [] 51 w) :=
  (undo_any A 2 cap [b2 1 1, b2 1 1] w hr (by omega) (small2 _ _ (by decide) (by decide))).mono fun _ _ h => few_of h al3 (by decide)
theorem alP4 (A B : Option Addr) (cap cap2 : Nat) (w : World) (hr : Rd w A 2 [.string { data := #[97] }, .string { data := #[98] }]) (hq : Rd w B 3 [.int .i64 1, .int .i64 0, .int .i64 1]) : Calls Try.prog 21 #[.slice A 2 cap, .slice B 3 cap2] w (FewIs [b1 98, b1 97, b1 98] 0 w) :=
  (pick_any A B 2 cap 3 cap2 [b1 97, b1 98] [1, 0, 1] w hr hq (by omega) (by omega) (small2 _ _ (by decide) (by decide))).mono fun _ _ h => few_of h al4 (by decide)
theorem alP5 (A B : Option Addr) (cap cap2 : Nat) (w : World) (hr : Rd w A 1 [.string { data := #[97] }]) (hq : Rd w B 1 [.string { data := #[98] }]) : Calls Try.prog 23 #[.slice A 1 cap, .slice B 1 cap2] w (FewIs [b1 97, b1 98] 0 w) :=
  (below_any A B 1 cap 1 cap2 [b1 97] [b1 98] w hr hq (by omega) (by omega) (small1 _ (by decide)) (small1 _ (by decide))).mono fun _ _ h => few_of h al5 (by decide)
theorem alP6 (A B : Option Addr) (cap cap2 : Nat) (w : World) (hr : Rd w A 1 [.string { data := #[2] }]) (hq : Rd w B 1 [.string { data := #[128] }]) : Calls Try.prog 10 #[.slice A 1 cap, .slice B 1 cap2] w (FewIs [b1 29] 0 w) :=
  (mtimes_any A B 1 cap 1 cap2 [b1 2] [b1 128] w hr hq (by omega) (by omega) (small1 _ (by decide)) (small1 _ (by decide))).mono fun _ _ h => few_of h al6 (by decide)
theorem alP7 (A : Option Addr) (cap : Nat) (w : World) (hr : Rd w A 1 [.string { data := #[97] }]) : Calls Try.prog 14 #[.slice A 1 cap] w fun e w' => e = .returned (.bool true) ∧ Ext w w' :=
  may_is true A 1 cap [b1 97] w hr (by omega) (small1 _ (by decide)) al7
theorem alP8 (w : World) : Calls Try.prog 17 #[.int .i64 2] w fun e w' => (∃ (A : Option Addr) (cap : Nat), e = .returned (.slice A 2 cap)) ∧ Ext w w' := by
  refine (unit_any 2 w).mono ?_
  rintro e w' ⟨A, n, cap, rfl, hn, _, hE⟩
  rw [al8] at hn
  subst hn
  exact ⟨⟨A, cap, rfl⟩, hE⟩
theorem same_k (A B : Option Addr) (n cap m cap2 : Nat) (l : List ByteArray) (w : World) (hr : Rd w A n (l.map Value.string)) (hn : n ≤ 64) (hm : m ≤ 64) (hq : Rd w B m (l.map Value.string)) :
    Calls Try.prog 16 #[.slice A n cap, .slice B m cap2] w fun e w' => e = .returned (.bool true) ∧ Ext w w' :=
  same_yes A B n cap m cap2 l l w hr hq (by omega) (by omega) rfl
theorem sk1 (A B : Option Addr) (n cap cap2 : Nat) (w : World) (hr : Rd w A n ([b2 142 244].map Value.string)) (hn : n ≤ 64) (hq : Rd w B 1 [.string { data := #[142, 244] }]) : Calls Try.prog 16 #[.slice A n cap, .slice B 1 cap2] w fun e w' => e = .returned (.bool true) ∧ Ext w w' := same_k A B n cap 1 cap2 [b2 142 244] w hr hn (by omega) hq
theorem sk2 (A B : Option Addr) (n cap cap2 : Nat) (w : World) (hr : Rd w A n ([b2 245 244, b2 244 244].map Value.string)) (hn : n ≤ 64) (hq : Rd w B 2 [.string { data := #[245, 244] }, .string { data := #[244, 244] }]) : Calls Try.prog 16 #[.slice A n cap, .slice B 2 cap2] w fun e w' => e = .returned (.bool true) ∧ Ext w w' := same_k A B n cap 2 cap2 [b2 245 244, b2 244 244] w hr hn (by omega) hq
theorem sk4 (A B : Option Addr) (n cap cap2 : Nat) (w : World) (hr : Rd w A n ([b1 98, b1 97, b1 98].map Value.string)) (hn : n ≤ 64) (hq : Rd w B 3 [.string { data := #[98] }, .string { data := #[97] }, .string { data := #[98] }]) : Calls Try.prog 16 #[.slice A n cap, .slice B 3 cap2] w fun e w' => e = .returned (.bool true) ∧ Ext w w' := same_k A B n cap 3 cap2 [b1 98, b1 97, b1 98] w hr hn (by omega) hq
theorem sk5 (A B : Option Addr) (n cap cap2 : Nat) (w : World) (hr : Rd w A n ([b1 97, b1 98].map Value.string)) (hn : n ≤ 64) (hq : Rd w B 2 [.string { data := #[97] }, .string { data := #[98] }]) : Calls Try.prog 16 #[.slice A n cap, .slice B 2 cap2] w fun e w' => e = .returned (.bool true) ∧ Ext w w' := same_k A B n cap 2 cap2 [b1 97, b1 98] w hr hn (by omega) hq
theorem sk6 (A B : Option Addr) (n cap cap2 : Nat) (w : World) (hr : Rd w A n ([b1 29].map Value.string)) (hn : n ≤ 64) (hq : Rd w B 1 [.string { data := #[29] }]) : Calls Try.prog 16 #[.slice A n cap, .slice B 1 cap2] w fun e w' => e = .returned (.bool true) ∧ Ext w w' := same_k A B n cap 1 cap2 [b1 29] w hr hn (by omega) hq
set_option maxRecDepth 100000 in
set_option maxHeartbeats 1000000 in
theorem alive_any (w : World) : Calls Try.prog 9 #[] w fun e w' => e = .returned (.bool true) ∧ Ext w w' := by
  have P1 := fun w => (cauchy_any 1 2 w).mono fun _ _ h => few_of h al1 (by decide)
  go_enter Try.func9, Try.ntmps9
  have hO := Ext.refl w
  go_wp2_with (first
    | (go_at_call 19; (with_reducible refine (P1 _).mono ?_); rintro e w1 ⟨A1, n1, c1, rfl, hn1, hr1, hE⟩; have hX := (Ext.refl _).trans hE; replace hO := hO.trans hX; clear hX hE)
    | (go_at_call 12; (with_reducible refine (alP2 _ _ _ (Rd.new _ _ _ 2 rfl)).mono ?_); rintro e w2 ⟨A2, n2, c2, rfl, hn2, hr2, hE⟩; have hX := ((Ext.refl _).alloc _).trans hE; replace hO := hO.trans hX; replace hr1 := hr1.ext hX; clear hX hE)
    | (go_at_call 12; (with_reducible refine (alP3 _ _ _ (Rd.new _ _ _ 2 rfl)).mono ?_); rintro e w3 ⟨A3, n3, c3, rfl, hn3, hr3, hE⟩; have hX := ((Ext.refl _).alloc _).trans hE; replace hO := hO.trans hX; replace hr1 := hr1.ext hX; replace hr2 := hr2.ext hX; clear hX hE)
    | (go_at_call 21; (with_reducible refine (alP4 _ _ _ _ _ ((Rd.new _ _ _ 2 rfl).ext ((Ext.refl _).alloc _)) (Rd.new2 _ _ _ _ 3 rfl)).mono ?_); rintro e w4 ⟨A4, n4, c4, rfl, hn4, hr4, hE⟩; have hX := (((Ext.refl _).alloc _).alloc _).trans hE; replace hO := hO.trans hX; replace hr1 := hr1.ext hX; replace hr2 := hr2.ext hX; clear hX hE)
    | (go_at_call 23; (with_reducible refine (alP5 _ _ _ _ _ ((Rd.new _ _ _ 1 rfl).ext ((Ext.refl _).alloc _)) (Rd.new2 _ _ _ _ 1 rfl)).mono ?_); rintro e w5 ⟨A5, n5, c5, rfl, hn5, hr5, hE⟩; have hX := (((Ext.refl _).alloc _).alloc _).trans hE; replace hO := hO.trans hX; replace hr1 := hr1.ext hX; replace hr2 := hr2.ext hX; replace hr4 := hr4.ext hX; clear hX hE)
    | (go_at_call 10; (with_reducible refine (alP6 _ _ _ _ _ ((Rd.new _ _ _ 1 rfl).ext ((Ext.refl _).alloc _)) (Rd.new2 _ _ _ _ 1 rfl)).mono ?_); rintro e w6 ⟨A6, n6, c6, rfl, hn6, hr6, hE⟩; have hX := (((Ext.refl _).alloc _).alloc _).trans hE; replace hO := hO.trans hX; replace hr1 := hr1.ext hX; replace hr2 := hr2.ext hX; replace hr4 := hr4.ext hX; replace hr5 := hr5.ext hX; clear hX hE)
    | (go_at_call 16; (with_reducible refine (sk1 A1 _ n1 c1 1 _ (hr1.ext ((Ext.refl _).alloc _)) hn1 (Rd.new _ _ _ 1 rfl)).mono ?_); rintro e w11 ⟨rfl, hE⟩; have hX := ((Ext.refl _).alloc _).trans hE; replace hO := hO.trans hX; replace hr1 := hr1.ext hX; replace hr2 := hr2.ext hX; replace hr4 := hr4.ext hX; replace hr5 := hr5.ext hX; replace hr6 := hr6.ext hX; clear hX hE)
    | (go_at_call 16; (with_reducible refine (sk2 A2 _ n2 c2 2 _ (hr2.ext ((Ext.refl _).alloc _)) hn2 (Rd.new _ _ _ 2 rfl)).mono ?_); rintro e w12 ⟨rfl, hE⟩; have hX := ((Ext.refl _).alloc _).trans hE; replace hO := hO.trans hX; replace hr1 := hr1.ext hX; replace hr2 := hr2.ext hX; replace hr4 := hr4.ext hX; replace hr5 := hr5.ext hX; replace hr6 := hr6.ext hX; clear hX hE)
    | (go_at_call 16; (with_reducible refine (sk4 A4 _ n4 c4 3 _ (hr4.ext ((Ext.refl _).alloc _)) hn4 (Rd.new _ _ _ 3 rfl)).mono ?_); rintro e w14 ⟨rfl, hE⟩; have hX := ((Ext.refl _).alloc _).trans hE; replace hO := hO.trans hX; replace hr1 := hr1.ext hX; replace hr2 := hr2.ext hX; replace hr4 := hr4.ext hX; replace hr5 := hr5.ext hX; replace hr6 := hr6.ext hX; clear hX hE)
    | (go_at_call 16; (with_reducible refine (sk5 A5 _ n5 c5 2 _ (hr5.ext ((Ext.refl _).alloc _)) hn5 (Rd.new _ _ _ 2 rfl)).mono ?_); rintro e w15 ⟨rfl, hE⟩; have hX := ((Ext.refl _).alloc _).trans hE; replace hO := hO.trans hX; replace hr1 := hr1.ext hX; replace hr2 := hr2.ext hX; replace hr4 := hr4.ext hX; replace hr5 := hr5.ext hX; replace hr6 := hr6.ext hX; clear hX hE)
    | (go_at_call 16; (with_reducible refine (sk6 A6 _ n6 c6 1 _ (hr6.ext ((Ext.refl _).alloc _)) hn6 (Rd.new _ _ _ 1 rfl)).mono ?_); rintro e w16 ⟨rfl, hE⟩; have hX := ((Ext.refl _).alloc _).trans hE; replace hO := hO.trans hX; replace hr1 := hr1.ext hX; replace hr2 := hr2.ext hX; replace hr4 := hr4.ext hX; replace hr5 := hr5.ext hX; replace hr6 := hr6.ext hX; clear hX hE)
    | (go_at_call 14; (with_reducible refine (alP7 _ _ _ (Rd.new _ _ _ 1 rfl)).mono ?_); rintro e w20 ⟨rfl, hE⟩; have hX := ((Ext.refl _).alloc _).trans hE; replace hO := hO.trans hX; clear hX hE)
    | (go_at_call 17; (with_reducible refine (alP8 _).mono ?_); rintro e w21 ⟨⟨A9, c9, rfl⟩, hE⟩; have hX := (Ext.refl _).trans hE; replace hO := hO.trans hX; clear hX hE))
  go_ret
  exact ⟨rfl, hO⟩
