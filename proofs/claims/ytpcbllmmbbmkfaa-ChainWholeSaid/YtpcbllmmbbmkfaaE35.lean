import Derived.Test.YtpcbllmmbbmkfaaE34
namespace Go.Proofs.Ytpcbllmmbbmkfaa
open Go.RowKit Go.Nb
set_option maxRecDepth 100000 in
theorem chainSplit_full (A : Option Addr) (n c : Nat) (l : List Lk) (a : Int) (W : World) (rd : LnRd W A n l) (mm : n ≤ maxLen) (ok : n ≤ c ∧ ∀ x ∈ l, x.add.ps.length ≤ 2 ^ 47) (wa : (Lit.int .u8 a).wf = true) : Calls Try.prog 5 #[.slice A n c, .int .u8 a] W fun e w' => e = .returned (.bool true) ∧ Ext W w' := by
  have HWK := Lib.hid (fun w => works_any w)
  have HV := Lib.hid (heavy_any (c := c) (d := 0) rd (RfRd.nil W none) mm (Nat.zero_le _))
  cases hh : heavyL l []
  · exact chainSplit_walk A n c l a W rd mm ⟨ok.1, (heavyL_all hh ok.2 (fun x hx => by cases hx)).1⟩ wa
  · rw [hh] at HV
    clear hh ok rd mm wa
    go_enter Try.func5, Try.ntmps5
    go_wp2_with (first
      | (go_at_call 6; (with_reducible refine HV.out.mono ?_); rintro e w1 ⟨rfl, hE1⟩)
      | (go_at_call 7; (with_reducible refine (HWK.out _).mono ?_); rintro e w5 ⟨rfl, hE5⟩))
    go_ret
    exact ⟨rfl, hE1.trans hE5⟩
set_option maxRecDepth 100000 in
theorem chainFolds_full (A : Option Addr) (n c : Nat) (T : List Rf) (B : Option Addr) (m d : Nat) (O : List Rf) (D : Option Addr) (q f : Nat) (l : List Lk) (W : World) (rdT : RfRd W A n T) (mmT : n ≤ maxLen) (okT : n ≤ c ∧ ∀ x ∈ T, x.ps.length ≤ 2 ^ 47) (rdO : RfRd W B m O) (mmO : m ≤ maxLen) (okO : m ≤ d ∧ ∀ x ∈ O, x.ps.length ≤ 2 ^ 47) (rdL : LnRd W D q l) (mmL : q ≤ maxLen) (okL : q ≤ f ∧ ∀ x ∈ l, x.add.ps.length ≤ 2 ^ 47) :
    Calls Try.prog 3 #[.slice A n c, .slice B m d, .slice D q f] W fun e w' => e = .returned (.bool true) ∧ Ext W w' := by
  have HWK := Lib.hid (fun w => works_any w)
  have HV1 := Lib.hid (heavy_any (c := f) (d := c) rdL rdT mmL mmT)
  have HV2 := Lib.hid (fun w (h : Ext W w) => heavy_any (A := none) (c := 0) (d := d) (lnrd_nil w none) (rdO.ext h) (Nat.zero_le _) mmO)
  cases hh : heavyL l T
  · rw [hh] at HV1
    cases hh2 : heavyL [] O
    · obtain ⟨f1, f2⟩ := heavyL_all hh okL.2 okT.2
      exact chainFolds_walk A n c T B m d O D q f l W rdT mmT ⟨okT.1, f2⟩ rdO mmO ⟨okO.1, (heavyL_all hh2 (fun x hx => by cases hx) okO.2).2⟩ rdL mmL ⟨okL.1, f1⟩
    · rw [hh2] at HV2
      clear hh hh2 rdL rdT rdO mmL mmT mmO okL okT okO
      go_enter Try.func3, Try.ntmps3
      go_wp2_with (first
        | (go_at_call 6; (with_reducible refine HV1.out.mono ?_); rintro e w1 ⟨rfl, hE1⟩)
        | (go_at_call 6; (with_reducible refine (HV2.out _ hE1).mono ?_); rintro e w2 ⟨rfl, hE2⟩)
        | (go_at_call 7; (with_reducible refine (HWK.out _).mono ?_); rintro e w5 ⟨rfl, hE5⟩))
      go_ret
      exact ⟨rfl, (hE1.trans hE2).trans hE5⟩
  · rw [hh] at HV1
    clear hh rdL rdT rdO mmL mmT mmO okL okT okO
    go_enter Try.func3, Try.ntmps3
    go_wp2_with (first
      | (go_at_call 6; (with_reducible refine HV1.out.mono ?_); rintro e w1 ⟨rfl, hE1⟩)
      | (go_at_call 7; (with_reducible refine (HWK.out _).mono ?_); rintro e w5 ⟨rfl, hE5⟩))
    go_ret
    exact ⟨rfl, hE1.trans hE5⟩
set_option maxRecDepth 100000 in
theorem chainWhole_full (A : Option Addr) (n c : Nat) (T : List Rf) (b : Pc) (W : World) (rd : RfRd W A n T) (mm : n ≤ maxLen) (ok : n ≤ c ∧ ∀ x ∈ T, x.ps.length ≤ 2 ^ 47) (wb : (Lit.int .i64 b.row).wf = true ∧ (Lit.int .u64 b.st).wf = true ∧ (Lit.int .i64 b.len).wf = true) :
    Calls Try.prog 4 #[.slice A n c, .agg #[.int .i64 b.row, .int .u64 b.st, .int .i64 b.len]] W fun e w' => e = .returned (.bool true) ∧ Ext W w' := by
  have HWK := Lib.hid (fun w => works_any w)
  have hEB : Ext W (W.alloc (.cells #[.int .i64 b.row, .int .u64 b.st, .int .i64 b.len] 39)) := (Ext.refl W).alloc _
  obtain ⟨W0, hW0⟩ : ∃ W0, W0 = W.alloc (.cells #[.int .i64 b.row, .int .u64 b.st, .int .i64 b.len] 39) := ⟨_, rfl⟩
  have HV := Lib.hid (heavy_any (A := none) (c := 0) (d := c) (lnrd_nil W0 none) (by rw [hW0]; exact rd.ext hEB) (Nat.zero_le _) mm)
  have HE0 : Hid (Ext W W0) := Lib.hid (by rw [hW0]; exact hEB)
  cases hh : heavyL [] T
  · exact chainWhole_walk A n c T b W rd mm ⟨ok.1, (heavyL_all hh (fun x hx => by cases hx) ok.2).2⟩ wb
  · rw [hh] at HV
    clear hh rd mm ok wb
    go_enter Try.func4, Try.ntmps4
    go_wp2_with (first
      | (go_at_call 6; rw [← hW0]; (with_reducible refine HV.out.mono ?_); rintro e w1 ⟨rfl, hE1⟩)
      | (go_at_call 7; (with_reducible refine (HWK.out _).mono ?_); rintro e w5 ⟨rfl, hE5⟩))
    go_ret
    exact ⟨rfl, (HE0.out.trans hE1).trans hE5⟩
