import Derived.Test.YtfelfhgfkfijgaaM14
import Derived.Test.YtfelfhgfkfijgaaM1b
namespace Go.Proofs.Ytfelfhgfkfijgaa
open Go.RowKit Go.Nb
theorem collect_nil (key : ByteArray) (W : World) : Calls Try.prog 19 #[.func (.func 28) #[] #[.pointer (some ⟨W.heap.size, 0, none⟩), .pointer (some ⟨W.heap.size + 1, 0, none⟩)]] ((W.alloc (.cells #[.pointer none] 31)).alloc (.cells #[.string key] 9)) fun e w' => ∃ A c, e = .returned (.slice A 0 c) ∧ Ext ((W.alloc (.cells #[.pointer none] 31)).alloc (.cells #[.string key] 9)) w' := by
  have hE2 := (Ext.refl (W.alloc (.cells #[.pointer none] 31))).alloc (.cells #[.string key] 9)
  have c0 : ((W.alloc (.cells #[.pointer none] 31)).alloc (.cells #[.string key] 9)).cell? ⟨W.heap.size, 0, none⟩ = some (.pointer none) := hE2.cellv ((Blk.new W 31 #[.pointer none]).cell 0)
  refine (collect_any (T := []) (n₀ := W.heap.size) (by simp; omega) (by decide) (fun w' hE' => it_stops_nil 3 _ _ W.heap.size w' (hE'.cellv c0))).mono ?_
  rintro e w' ⟨A, c, h1, _, h2⟩
  exact ⟨A, c, h1, h2⟩
set_option maxRecDepth 100000 in
theorem memNone_walk (key : ByteArray) (W : World) (_ : key.size ≤ maxLen) : Calls Try.prog 6 #[.string key] W fun e w' => e = .returned (.bool true) ∧ Ext W w' := by
  have HWK := Lib.hid (fun w => works_any w)
  by_cases hk : 2048 < key.size
  · have t1 : decide ((2048 : Int) < (key.size : Int)) = true := by simp; omega
    go_enter Try.func6, Try.ntmps6
    go_wp2_with (go_at_call 8; (with_reducible refine (HWK.out _).mono ?_); rintro e w1 ⟨rfl, hE1⟩)
    go_ret
    exact ⟨rfl, hE1⟩
  · have t1 : decide ((2048 : Int) < (key.size : Int)) = false := by simp; omega
    have HG := Lib.hid (fun w => get_nil key w)
    have HC := Lib.hid (fun w => clear_nil w)
    have HP := Lib.hid (fun B k cb w => put_nil B k cb w)
    have HF := Lib.hid (fun w => fits_nil none 0 0 w)
    have HA := Lib.hid (fun w => all_nil w)
    have HS := Lib.hid (fun w => msize_nil w)
    have HFR := Lib.hid (fun w => from_any none key w)
    have HCO := Lib.hid (fun w => collect_nil key w)
    clear hk
    go_enter Try.func6, Try.ntmps6
    go_wp2_with (first
      | (go_at_call 17; (with_reducible refine (HG.out _).mono ?_); rintro e w1 ⟨rfl, hE1⟩)
      | (go_at_call 21; (with_reducible refine (HC.out _).mono ?_); rintro e w2 ⟨rfl, hE2⟩; have hE12 := hE1.trans hE2)
      | (go_at_call 10; (with_reducible refine (HP.out _ _ _ _).mono ?_); rintro e w3 ⟨rfl, hE3⟩; have hE13 := (hE12.alloc (.cells #[.string key, .string ⟨#[]⟩] 30)).trans hE3)
      | (go_at_call 20; (with_reducible refine (HFR.out _).mono ?_); rintro e w4 ⟨rfl, rfl⟩)
      | (go_at_call 19; (with_reducible refine (HCO.out _).mono ?_); rintro e w5 ⟨A5, c5, rfl, hE5⟩; have hE15 := ((hE13.alloc (.cells #[.pointer none] 31)).alloc (.cells #[.string key] 9)).trans hE5)
      | (go_at_call 12; (with_reducible refine (HA.out _).mono ?_); rintro e w6 ⟨rfl, hE6⟩)
      | (go_at_call 13; (with_reducible refine (HS.out _).mono ?_); rintro e w7 ⟨rfl, hE7⟩; have hE17 := (hE15.trans hE6).trans hE7)
      | (go_at_call 15; (with_reducible refine (HF.out _).mono ?_); rintro e w8 ⟨rfl, hE8⟩)
      | (go_at_call 8; (with_reducible refine (HWK.out _).mono ?_); rintro e w9 ⟨rfl, hE9⟩))
    go_ret
    exact ⟨rfl, (hE17.trans hE8).trans hE9⟩
