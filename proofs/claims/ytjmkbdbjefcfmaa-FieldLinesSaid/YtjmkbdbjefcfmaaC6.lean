import Derived.Test.YtjmkbdbjefcfmaaC5
namespace Go.Proofs.Ytjmkbdbjefcfmaa
open Go.RowKit Go.Gf
theorem _root_.Go.RowKit.Rd.new2 (w : World) (o : Obj) (t : TypeId) (cs : List Value) (n : Nat) (hn : cs.length = n) : Rd ((w.alloc o).alloc (.cells cs.toArray t)) (some ⟨w.heap.size + 1, 0, none⟩) n cs := by
  have := Rd.new (w.alloc o) t cs n hn
  simpa using this
theorem long2 (s t : ByteArray) (A : Option Addr) (cap : Nat) (w : World) (hr : Rd w A 2 [.string s, .string t]) : Calls Try.prog 8 #[.slice A 2 cap] w fun e w' => (∃ B : Bool, e = .returned (.bool B) ∧ (B = false → s.size ≤ 512 ∧ t.size ≤ 512)) ∧ Ext w w' := by
  refine (long_any A 2 cap [s, t] w hr).mono ?_
  rintro e w' ⟨⟨B, rfl, hB⟩, hE⟩
  exact ⟨⟨B, rfl, fun h => ⟨(hB h).2 s (by simp), (hB h).2 t (by simp)⟩⟩, hE⟩
set_option maxRecDepth 100000 in
set_option maxHeartbeats 2000000 in
theorem fieldLines_walk (a0 a1 : Int) (s t : ByteArray) (W : World) (h0 : (Lit.int .u8 a0).wf = true) (h1 : (Lit.int .u8 a1).wf = true) (_ : s.size ≤ maxLen) (_ : t.size ≤ maxLen) :
    Calls Try.prog 4 #[.int .u8 a0, .int .u8 a1, .string s, .string t] W fun e w' => e = .returned (.bool true) ∧ Ext W w' := by
  obtain ⟨c, rfl, hc⟩ := byte_of a0 h0
  obtain ⟨d, rfl, hd⟩ := byte_of a1 h1
  clear h0 h1
  by_cases hL : ¬ (s.size ≤ 512 ∧ t.size ≤ 512)
  · have LG : ∀ (A : Option Addr) (cap : Nat) (w : World), Rd w A 2 [.string s, .string t] → Calls Try.prog 8 #[.slice A 2 cap] w fun e w' => e = .returned (.bool true) ∧ Ext w w' := fun A cap w hr => by
      refine (long2 s t A cap w hr).mono ?_
      rintro e w' ⟨⟨B, rfl, hB⟩, hE⟩
      cases B
      · exact absurd (hB rfl) hL
      · exact ⟨rfl, hE⟩
    clear hL
    go_enter Try.func4, Try.ntmps4
    have hO := Ext.refl W
    go_wp2_with (first
      | (go_at_call 8; with_reducible refine (LG _ _ _ (Rd.new _ _ _ 2 rfl)).mono ?_; rintro e w1 ⟨rfl, hE1⟩; replace hO := (hO.alloc _).trans hE1; clear hE1)
      | (go_at_call 9; refine (alive_any _).mono ?_; rintro e w2 ⟨rfl, hE2⟩))
    go_ret
    exact ⟨rfl, hO.trans hE2⟩
  · obtain ⟨zs, zt⟩ := Decidable.not_not.mp hL
    have LG := long2 s t
    clear hL
    by_cases hst : s.size < t.size
    · have hs : s.size = s.size := by first | rfl | (simp only [ByteArray.size_extract]; omega)
      have ht : (t.extract 0 s.size).size = s.size := by first | rfl | (simp only [ByteArray.size_extract]; omega)
      have hk : s.size ≤ 512 := by omega
      have p1 := plus2 hs ht hk
      have p2 := plus2c hs ht hk hc
      have p3 := plus2cd hs ht hk hc hd
      have p4 := sum2cd hs ht hk hc hd
      have p5 := times2cd hs ht hk hc hd
      have q1 : ∀ w : World, Calls Try.prog 14 #[.int .u8 (c : Int), .string s] w fun e w' => e = .returned (.string (timesT c s)) ∧ Ext w w' := fun w => times_any c s w hc (by omega)
      have q2 : ∀ w : World, Calls Try.prog 14 #[.int .u8 (c : Int), .string (t.extract 0 s.size)] w fun e w' => e = .returned (.string (timesT c (t.extract 0 s.size))) ∧ Ext w w' := fun w => times_any c (t.extract 0 s.size) w hc (by omega)
      have q3 : ∀ w : World, Calls Try.prog 14 #[.int .u8 (d : Int), .string s] w fun e w' => e = .returned (.string (timesT d s)) ∧ Ext w w' := fun w => times_any d s w hd (by omega)
      have q4 : ∀ w : World, Calls Try.prog 14 #[.int .u8 (d : Int), .string (t.extract 0 s.size)] w fun e w' => e = .returned (.string (timesT d (t.extract 0 s.size))) ∧ Ext w w' := fun w => times_any d (t.extract 0 s.size) w hd (by omega)
      have q5 : ∀ w : World, Calls Try.prog 14 #[.int .u8 (c : Int), .string (lin 1 1 s (t.extract 0 s.size) s.size)] w fun e w' => e = .returned (.string (timesT c (lin 1 1 s (t.extract 0 s.size) s.size))) ∧ Ext w w' := fun w => times_any c _ w hc (by rw [lin_size]; omega)
      have q6 : ∀ w : World, Calls Try.prog 14 #[.int .u8 (fm c d : Int), .string s] w fun e w' => e = .returned (.string (timesT (fm c d) s)) ∧ Ext w w' := fun w => times_any (fm c d) s w (fm_lt c d hc) (by omega)
      have q7 := mul_any c d (ha := hc) (hb := hd)
      have cdc := cd_cells c d hc hd
      clear hk
      by_cases h : c = 0
      · have INV : ∀ w : World, Calls Try.prog 17 #[.int .u8 (c : Int)] w fun e w' => e = .returned (.tuple #[.int .u8 0, .int .i64 40]) ∧ Ext w w' := fun w => by
          subst h; exact inv_zero w
        clear h
        go_enter Try.func4, Try.ntmps4
        have hO := Ext.refl W
        go_wp2_with (first
          | (go_at_call 8; with_reducible refine (LG _ _ _ (Rd.new _ _ _ 2 rfl)).mono ?_; rintro e w1 ⟨⟨B, rfl, hB⟩, hE1⟩; clear hB; replace hO := (hO.alloc _).trans hE1; clear hE1; cases B)
          | (go_at_call 9; with_reducible refine (alive_any _).mono ?_; rintro e w2 ⟨rfl, hE2⟩; replace hO := hO.trans hE2; clear hE2)
          | (go_at_call 10; with_reducible refine (p1 _ _ _ (Rd.new _ _ _ 2 rfl)).mono ?_; rintro e w3 ⟨rfl, hE3⟩; replace hO := (hO.alloc _).trans hE3; clear hE3)
          | (go_at_call 10; with_reducible refine (p2 _ _ _ (Rd.new _ _ _ 2 rfl)).mono ?_; rintro e w4 ⟨rfl, hE4⟩; replace hO := (hO.alloc _).trans hE4; clear hE4)
          | (go_at_call 10; with_reducible refine (p3 _ _ _ (Rd.new _ _ _ 2 rfl)).mono ?_; rintro e w5 ⟨rfl, hE5⟩; replace hO := (hO.alloc _).trans hE5; clear hE5)
          | (go_at_call 12; with_reducible refine (p4 _ _ _ (Rd.new2 _ _ _ _ 2 rfl)).mono ?_; rintro e w7 ⟨rfl, hE7⟩; replace hO := ((hO.alloc _).alloc _).trans hE7; clear hE7)
          | (with_reducible refine wpList_bytes_str rfl 34 9 5 _ rfl Try.underlying34 Try.underlying5 Try.underlying9 _ 0 2 2 rfl (CD c d) (CD_size c d) (cdc _ _) ?_)
          | (go_at_call 14; with_reducible refine (p5 _).mono ?_; rintro e w10 ⟨rfl, hE10⟩; replace hO := hO.trans hE10; clear hE10)
          | (go_at_call 14; with_reducible refine (q1 _).mono ?_; rintro e w11 ⟨rfl, hE11⟩; replace hO := hO.trans hE11; clear hE11)
          | (go_at_call 14; with_reducible refine (q2 _).mono ?_; rintro e w12 ⟨rfl, hE12⟩; replace hO := hO.trans hE12; clear hE12)
          | (go_at_call 14; with_reducible refine (q3 _).mono ?_; rintro e w13 ⟨rfl, hE13⟩; replace hO := hO.trans hE13; clear hE13)
          | (go_at_call 14; with_reducible refine (q4 _).mono ?_; rintro e w14 ⟨rfl, hE14⟩; replace hO := hO.trans hE14; clear hE14)
          | (go_at_call 14; with_reducible refine (q5 _).mono ?_; rintro e w15 ⟨rfl, hE15⟩; replace hO := hO.trans hE15; clear hE15)
          | (go_at_call 14; with_reducible refine (q6 _).mono ?_; rintro e w16 ⟨rfl, hE16⟩; replace hO := hO.trans hE16; clear hE16)
          | (go_at_call 16; with_reducible refine (q7 _).mono ?_; rintro e w20 ⟨rfl, hE20⟩; replace hO := hO.trans hE20; clear hE20)
          | (go_at_call 17; with_reducible refine (INV _).mono ?_; rintro e w21 ⟨rfl, hE21⟩; replace hO := hO.trans hE21; clear hE21))
        · go_ret
          exact ⟨rfl, hO⟩
        · go_ret
          exact ⟨rfl, hO⟩
      · have INV : ∀ w : World, Calls Try.prog 17 #[.int .u8 (c : Int)] w fun e w' => e = .returned (.tuple #[.int .u8 (fi c), .int .i64 0]) ∧ Ext w w' := fun w => inv_ne c w hc h
        have q8 : ∀ w : World, Calls Try.prog 14 #[.int .u8 (fi c : Int), .string (timesT c s)] w fun e w' => e = .returned (.string s) ∧ Ext w w' := fun w => by
          have := times_any (fi c) (timesT c s) w (fi_bd c).2 (by rw [timesT_size]; omega)
          rw [times_times _ _ _ (fi_bd c).2 hc, fm_comm _ _ (fi_bd c).2 hc, fm_fi c hc h, times_one] at this; exact this
        clear h
        go_enter Try.func4, Try.ntmps4
        have hO := Ext.refl W
        go_wp2_with (first
          | (go_at_call 8; with_reducible refine (LG _ _ _ (Rd.new _ _ _ 2 rfl)).mono ?_; rintro e w1 ⟨⟨B, rfl, hB⟩, hE1⟩; clear hB; replace hO := (hO.alloc _).trans hE1; clear hE1; cases B)
          | (go_at_call 9; with_reducible refine (alive_any _).mono ?_; rintro e w2 ⟨rfl, hE2⟩; replace hO := hO.trans hE2; clear hE2)
          | (go_at_call 10; with_reducible refine (p1 _ _ _ (Rd.new _ _ _ 2 rfl)).mono ?_; rintro e w3 ⟨rfl, hE3⟩; replace hO := (hO.alloc _).trans hE3; clear hE3)
          | (go_at_call 10; with_reducible refine (p2 _ _ _ (Rd.new _ _ _ 2 rfl)).mono ?_; rintro e w4 ⟨rfl, hE4⟩; replace hO := (hO.alloc _).trans hE4; clear hE4)
          | (go_at_call 10; with_reducible refine (p3 _ _ _ (Rd.new _ _ _ 2 rfl)).mono ?_; rintro e w5 ⟨rfl, hE5⟩; replace hO := (hO.alloc _).trans hE5; clear hE5)
          | (go_at_call 12; with_reducible refine (p4 _ _ _ (Rd.new2 _ _ _ _ 2 rfl)).mono ?_; rintro e w7 ⟨rfl, hE7⟩; replace hO := ((hO.alloc _).alloc _).trans hE7; clear hE7)
          | (with_reducible refine wpList_bytes_str rfl 34 9 5 _ rfl Try.underlying34 Try.underlying5 Try.underlying9 _ 0 2 2 rfl (CD c d) (CD_size c d) (cdc _ _) ?_)
          | (go_at_call 14; with_reducible refine (p5 _).mono ?_; rintro e w10 ⟨rfl, hE10⟩; replace hO := hO.trans hE10; clear hE10)
          | (go_at_call 14; with_reducible refine (q1 _).mono ?_; rintro e w11 ⟨rfl, hE11⟩; replace hO := hO.trans hE11; clear hE11)
          | (go_at_call 14; with_reducible refine (q2 _).mono ?_; rintro e w12 ⟨rfl, hE12⟩; replace hO := hO.trans hE12; clear hE12)
          | (go_at_call 14; with_reducible refine (q3 _).mono ?_; rintro e w13 ⟨rfl, hE13⟩; replace hO := hO.trans hE13; clear hE13)
          | (go_at_call 14; with_reducible refine (q4 _).mono ?_; rintro e w14 ⟨rfl, hE14⟩; replace hO := hO.trans hE14; clear hE14)
          | (go_at_call 14; with_reducible refine (q5 _).mono ?_; rintro e w15 ⟨rfl, hE15⟩; replace hO := hO.trans hE15; clear hE15)
          | (go_at_call 14; with_reducible refine (q6 _).mono ?_; rintro e w16 ⟨rfl, hE16⟩; replace hO := hO.trans hE16; clear hE16)
          | (go_at_call 14; with_reducible refine (q8 _).mono ?_; rintro e w17 ⟨rfl, hE17⟩; replace hO := hO.trans hE17; clear hE17)
          | (go_at_call 16; with_reducible refine (q7 _).mono ?_; rintro e w20 ⟨rfl, hE20⟩; replace hO := hO.trans hE20; clear hE20)
          | (go_at_call 17; with_reducible refine (INV _).mono ?_; rintro e w21 ⟨rfl, hE21⟩; replace hO := hO.trans hE21; clear hE21))
        · go_ret
          exact ⟨rfl, hO⟩
        · go_ret
          exact ⟨rfl, hO⟩
    · have hs : (s.extract 0 t.size).size = t.size := by first | rfl | (simp only [ByteArray.size_extract]; omega)
      have ht : t.size = t.size := by first | rfl | (simp only [ByteArray.size_extract]; omega)
      have hk : t.size ≤ 512 := by omega
      have p1 := plus2 hs ht hk
      have p2 := plus2c hs ht hk hc
      have p3 := plus2cd hs ht hk hc hd
      have p4 := sum2cd hs ht hk hc hd
      have p5 := times2cd hs ht hk hc hd
      have q1 : ∀ w : World, Calls Try.prog 14 #[.int .u8 (c : Int), .string (s.extract 0 t.size)] w fun e w' => e = .returned (.string (timesT c (s.extract 0 t.size))) ∧ Ext w w' := fun w => times_any c (s.extract 0 t.size) w hc (by omega)
      have q2 : ∀ w : World, Calls Try.prog 14 #[.int .u8 (c : Int), .string t] w fun e w' => e = .returned (.string (timesT c t)) ∧ Ext w w' := fun w => times_any c t w hc (by omega)
      have q3 : ∀ w : World, Calls Try.prog 14 #[.int .u8 (d : Int), .string (s.extract 0 t.size)] w fun e w' => e = .returned (.string (timesT d (s.extract 0 t.size))) ∧ Ext w w' := fun w => times_any d (s.extract 0 t.size) w hd (by omega)
      have q4 : ∀ w : World, Calls Try.prog 14 #[.int .u8 (d : Int), .string t] w fun e w' => e = .returned (.string (timesT d t)) ∧ Ext w w' := fun w => times_any d t w hd (by omega)
      have q5 : ∀ w : World, Calls Try.prog 14 #[.int .u8 (c : Int), .string (lin 1 1 (s.extract 0 t.size) t t.size)] w fun e w' => e = .returned (.string (timesT c (lin 1 1 (s.extract 0 t.size) t t.size))) ∧ Ext w w' := fun w => times_any c _ w hc (by rw [lin_size]; omega)
      have q6 : ∀ w : World, Calls Try.prog 14 #[.int .u8 (fm c d : Int), .string (s.extract 0 t.size)] w fun e w' => e = .returned (.string (timesT (fm c d) (s.extract 0 t.size))) ∧ Ext w w' := fun w => times_any (fm c d) (s.extract 0 t.size) w (fm_lt c d hc) (by omega)
      have q7 := mul_any c d (ha := hc) (hb := hd)
      have cdc := cd_cells c d hc hd
      clear hk
      by_cases h : c = 0
      · have INV : ∀ w : World, Calls Try.prog 17 #[.int .u8 (c : Int)] w fun e w' => e = .returned (.tuple #[.int .u8 0, .int .i64 40]) ∧ Ext w w' := fun w => by
          subst h; exact inv_zero w
        clear h
        go_enter Try.func4, Try.ntmps4
        have hO := Ext.refl W
        go_wp2_with (first
          | (go_at_call 8; with_reducible refine (LG _ _ _ (Rd.new _ _ _ 2 rfl)).mono ?_; rintro e w1 ⟨⟨B, rfl, hB⟩, hE1⟩; clear hB; replace hO := (hO.alloc _).trans hE1; clear hE1; cases B)
          | (go_at_call 9; with_reducible refine (alive_any _).mono ?_; rintro e w2 ⟨rfl, hE2⟩; replace hO := hO.trans hE2; clear hE2)
          | (go_at_call 10; with_reducible refine (p1 _ _ _ (Rd.new _ _ _ 2 rfl)).mono ?_; rintro e w3 ⟨rfl, hE3⟩; replace hO := (hO.alloc _).trans hE3; clear hE3)
          | (go_at_call 10; with_reducible refine (p2 _ _ _ (Rd.new _ _ _ 2 rfl)).mono ?_; rintro e w4 ⟨rfl, hE4⟩; replace hO := (hO.alloc _).trans hE4; clear hE4)
          | (go_at_call 10; with_reducible refine (p3 _ _ _ (Rd.new _ _ _ 2 rfl)).mono ?_; rintro e w5 ⟨rfl, hE5⟩; replace hO := (hO.alloc _).trans hE5; clear hE5)
          | (go_at_call 12; with_reducible refine (p4 _ _ _ (Rd.new2 _ _ _ _ 2 rfl)).mono ?_; rintro e w7 ⟨rfl, hE7⟩; replace hO := ((hO.alloc _).alloc _).trans hE7; clear hE7)
          | (with_reducible refine wpList_bytes_str rfl 34 9 5 _ rfl Try.underlying34 Try.underlying5 Try.underlying9 _ 0 2 2 rfl (CD c d) (CD_size c d) (cdc _ _) ?_)
          | (go_at_call 14; with_reducible refine (p5 _).mono ?_; rintro e w10 ⟨rfl, hE10⟩; replace hO := hO.trans hE10; clear hE10)
          | (go_at_call 14; with_reducible refine (q1 _).mono ?_; rintro e w11 ⟨rfl, hE11⟩; replace hO := hO.trans hE11; clear hE11)
          | (go_at_call 14; with_reducible refine (q2 _).mono ?_; rintro e w12 ⟨rfl, hE12⟩; replace hO := hO.trans hE12; clear hE12)
          | (go_at_call 14; with_reducible refine (q3 _).mono ?_; rintro e w13 ⟨rfl, hE13⟩; replace hO := hO.trans hE13; clear hE13)
          | (go_at_call 14; with_reducible refine (q4 _).mono ?_; rintro e w14 ⟨rfl, hE14⟩; replace hO := hO.trans hE14; clear hE14)
          | (go_at_call 14; with_reducible refine (q5 _).mono ?_; rintro e w15 ⟨rfl, hE15⟩; replace hO := hO.trans hE15; clear hE15)
          | (go_at_call 14; with_reducible refine (q6 _).mono ?_; rintro e w16 ⟨rfl, hE16⟩; replace hO := hO.trans hE16; clear hE16)
          | (go_at_call 16; with_reducible refine (q7 _).mono ?_; rintro e w20 ⟨rfl, hE20⟩; replace hO := hO.trans hE20; clear hE20)
          | (go_at_call 17; with_reducible refine (INV _).mono ?_; rintro e w21 ⟨rfl, hE21⟩; replace hO := hO.trans hE21; clear hE21))
        · go_ret
          exact ⟨rfl, hO⟩
        · go_ret
          exact ⟨rfl, hO⟩
      · have INV : ∀ w : World, Calls Try.prog 17 #[.int .u8 (c : Int)] w fun e w' => e = .returned (.tuple #[.int .u8 (fi c), .int .i64 0]) ∧ Ext w w' := fun w => inv_ne c w hc h
        have q8 : ∀ w : World, Calls Try.prog 14 #[.int .u8 (fi c : Int), .string (timesT c (s.extract 0 t.size))] w fun e w' => e = .returned (.string (s.extract 0 t.size)) ∧ Ext w w' := fun w => by
          have := times_any (fi c) (timesT c (s.extract 0 t.size)) w (fi_bd c).2 (by rw [timesT_size]; omega)
          rw [times_times _ _ _ (fi_bd c).2 hc, fm_comm _ _ (fi_bd c).2 hc, fm_fi c hc h, times_one] at this; exact this
        clear h
        go_enter Try.func4, Try.ntmps4
        have hO := Ext.refl W
        go_wp2_with (first
          | (go_at_call 8; with_reducible refine (LG _ _ _ (Rd.new _ _ _ 2 rfl)).mono ?_; rintro e w1 ⟨⟨B, rfl, hB⟩, hE1⟩; clear hB; replace hO := (hO.alloc _).trans hE1; clear hE1; cases B)
          | (go_at_call 9; with_reducible refine (alive_any _).mono ?_; rintro e w2 ⟨rfl, hE2⟩; replace hO := hO.trans hE2; clear hE2)
          | (go_at_call 10; with_reducible refine (p1 _ _ _ (Rd.new _ _ _ 2 rfl)).mono ?_; rintro e w3 ⟨rfl, hE3⟩; replace hO := (hO.alloc _).trans hE3; clear hE3)
          | (go_at_call 10; with_reducible refine (p2 _ _ _ (Rd.new _ _ _ 2 rfl)).mono ?_; rintro e w4 ⟨rfl, hE4⟩; replace hO := (hO.alloc _).trans hE4; clear hE4)
          | (go_at_call 10; with_reducible refine (p3 _ _ _ (Rd.new _ _ _ 2 rfl)).mono ?_; rintro e w5 ⟨rfl, hE5⟩; replace hO := (hO.alloc _).trans hE5; clear hE5)
          | (go_at_call 12; with_reducible refine (p4 _ _ _ (Rd.new2 _ _ _ _ 2 rfl)).mono ?_; rintro e w7 ⟨rfl, hE7⟩; replace hO := ((hO.alloc _).alloc _).trans hE7; clear hE7)
          | (with_reducible refine wpList_bytes_str rfl 34 9 5 _ rfl Try.underlying34 Try.underlying5 Try.underlying9 _ 0 2 2 rfl (CD c d) (CD_size c d) (cdc _ _) ?_)
          | (go_at_call 14; with_reducible refine (p5 _).mono ?_; rintro e w10 ⟨rfl, hE10⟩; replace hO := hO.trans hE10; clear hE10)
          | (go_at_call 14; with_reducible refine (q1 _).mono ?_; rintro e w11 ⟨rfl, hE11⟩; replace hO := hO.trans hE11; clear hE11)
          | (go_at_call 14; with_reducible refine (q2 _).mono ?_; rintro e w12 ⟨rfl, hE12⟩; replace hO := hO.trans hE12; clear hE12)
          | (go_at_call 14; with_reducible refine (q3 _).mono ?_; rintro e w13 ⟨rfl, hE13⟩; replace hO := hO.trans hE13; clear hE13)
          | (go_at_call 14; with_reducible refine (q4 _).mono ?_; rintro e w14 ⟨rfl, hE14⟩; replace hO := hO.trans hE14; clear hE14)
          | (go_at_call 14; with_reducible refine (q5 _).mono ?_; rintro e w15 ⟨rfl, hE15⟩; replace hO := hO.trans hE15; clear hE15)
          | (go_at_call 14; with_reducible refine (q6 _).mono ?_; rintro e w16 ⟨rfl, hE16⟩; replace hO := hO.trans hE16; clear hE16)
          | (go_at_call 14; with_reducible refine (q8 _).mono ?_; rintro e w17 ⟨rfl, hE17⟩; replace hO := hO.trans hE17; clear hE17)
          | (go_at_call 16; with_reducible refine (q7 _).mono ?_; rintro e w20 ⟨rfl, hE20⟩; replace hO := hO.trans hE20; clear hE20)
          | (go_at_call 17; with_reducible refine (INV _).mono ?_; rintro e w21 ⟨rfl, hE21⟩; replace hO := hO.trans hE21; clear hE21))
        · go_ret
          exact ⟨rfl, hO⟩
        · go_ret
          exact ⟨rfl, hO⟩
