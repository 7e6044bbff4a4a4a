import Derived.Test.YtimhekdfajakbaaR16
namespace Go.Proofs.Ytimhekdfajakbaa
open Go.RowKit
set_option maxRecDepth 100000 in
set_option maxHeartbeats 2000000 in
theorem rackNil_walk (d x : Int) (t : ByteArray) (W : World) (_w0 : (Lit.int .i64 d).wf = true) (_w1 : (Lit.int .i64 x).wf = true) (_w2 : t.size ≤ maxLen) :
    Calls Try.prog 6 #[.int .i64 d, .int .i64 x, .string t] W fun e w' => e = .returned (.bool true) ∧ Ext W w' := by
  go_enter Try.func6, Try.ntmps6
  go_wp2_with (first
    | (go_at_call 21; (with_reducible refine (read_nil d x _).mono ?_); rintro e w1 ⟨rfl, hO⟩)
    | (go_at_call 19; (with_reducible refine (write_nil d x t _).mono ?_); rintro e w2 ⟨rfl, hE⟩; replace hO := hO.trans hE)
    | (go_at_call 18; (with_reducible refine (cut_nil x _).mono ?_); rintro e w3 ⟨rfl, hE⟩; replace hO := hO.trans hE)
    | (go_at_call 20; (with_reducible refine (lift_nil _).mono ?_); rintro e w4 ⟨rfl, hE⟩; replace hO := hO.trans hE)
    | (go_at_call 23; (with_reducible refine (wipe_nil d _).mono ?_); rintro e w5 ⟨rfl, hE⟩; replace hO := hO.trans hE)
    | (go_at_call 22; (with_reducible refine (spoil_nil d x _).mono ?_); rintro e w6 ⟨rfl, hE⟩; replace hO := hO.trans hE)
    | (go_at_call 16; (with_reducible refine (drives_nil _).mono ?_); rintro e w7 ⟨rfl, hE⟩; replace hO := hO.trans hE)
    | (go_at_call 17; (with_reducible refine (sectors_nil _).mono ?_); rintro e w8 ⟨rfl, hE⟩; replace hO := hO.trans hE)
    | (go_at_call 14; (with_reducible refine (writes_nil d _).mono ?_); rintro e w9 ⟨rfl, hE⟩; replace hO := hO.trans hE)
    | (go_at_call 12; (with_reducible refine (all_nil d _).mono ?_); rintro e w10 ⟨rfl, hE⟩; replace hO := hO.trans hE)
    | (go_at_call 8; (with_reducible refine (alive_ok _).mono ?_); rintro e w11 ⟨rfl, hE⟩; replace hO := hO.trans hE))
  go_ret
  exact ⟨rfl, hO⟩
