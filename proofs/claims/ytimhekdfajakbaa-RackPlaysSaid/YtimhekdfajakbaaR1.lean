import Derived.Test.YtimhekdfajakbaaPre3
import Derived.Deep.QuietTactic
import Derived.BigQuiet
import Derived.WalkLawsBesides
import Derived.WalkSpells
namespace Go.Proofs.Ytimhekdfajakbaa
open Go.RowKit
/-- Where a rack lies. -/
structure Pl where
  gR : Nat
  gD : Nat
  gS : Nat → Nat
  nd : Nat
  ns : Nat
/-- What a rack is. -/
structure St where
  cut : Bool
  left : Int
  cnt : Nat → Nat
  bad : Nat → Nat → Bool
  sec : Nat → Nat → Nat → Nat
def rkC (p : Pl) (s : St) (i : Nat) : Value := if i = 0 then .slice (some ⟨p.gD, 0, none⟩) p.nd p.nd else if i = 1 then .bool s.cut else .int .i64 s.left
def drC (p : Pl) (s : St) (i : Nat) : Value := if i % 2 = 0 then .slice (some ⟨p.gS (i / 2), 0, none⟩) p.ns p.ns else .int .u64 (s.cnt (i / 2))
def seC (s : St) (d i : Nat) : Value := if i % 65 = 64 then .bool (s.bad d (i / 65)) else .int .u8 (s.sec d (i / 65) (i % 65))
structure Ok (p : Pl) (s : St) : Prop where
  nd1 : 1 ≤ p.nd
  nd2 : p.nd ≤ 12
  ns1 : 1 ≤ p.ns
  ns2 : p.ns ≤ 4096
  rd : p.gR ≠ p.gD
  rs : ∀ d, d < p.nd → p.gR ≠ p.gS d
  ds : ∀ d, d < p.nd → p.gD ≠ p.gS d
  ss : ∀ d e, d < p.nd → e < p.nd → p.gS d = p.gS e → d = e
  by_ : ∀ d i j, s.sec d i j < 256
structure RackAt (w : World) (p : Pl) (s : St) : Prop where
  r : CellsAt w p.gR 3 (rkC p s)
  d : CellsAt w p.gD (2 * p.nd) (drC p s)
  se : ∀ d, d < p.nd → CellsAt w (p.gS d) (65 * p.ns) (seC s d)
  ok : Ok p s
theorem RackAt.ext {w w' : World} {p : Pl} {s : St} (h : RackAt w p s) (e : Ext w w') : RackAt w' p s := ⟨h.r.ext e, h.d.ext e, fun d hd => (h.se d hd).ext e, h.ok⟩
section
variable {w : World} {p : Pl} {s : St}
theorem RackAt.r0 (h : RackAt w p s) : w.cell? ⟨p.gR, 0, none⟩ = some (.slice (some ⟨p.gD, 0, none⟩) p.nd p.nd) := h.r.cell 0 (by omega)
theorem RackAt.r1 (h : RackAt w p s) : w.cell? ⟨p.gR, 1, none⟩ = some (.bool s.cut) := h.r.cell 1 (by omega)
theorem RackAt.r2 (h : RackAt w p s) : w.cell? ⟨p.gR, 2, none⟩ = some (.int .i64 s.left) := h.r.cell 2 (by omega)
theorem RackAt.d0 (h : RackAt w p s) (i : Nat) (hi : i < p.nd) : w.cell? ⟨p.gD, i * 2, none⟩ = some (.slice (some ⟨p.gS i, 0, none⟩) p.ns p.ns) := by
  rw [h.d.cell (i * 2) (by omega)]
  unfold drC
  rw [if_pos (by omega), show i * 2 / 2 = i by omega]
theorem RackAt.d1 (h : RackAt w p s) (i : Nat) (hi : i < p.nd) : w.cell? ⟨p.gD, i * 2 + 1, none⟩ = some (.int .u64 (s.cnt i)) := by
  rw [h.d.cell (i * 2 + 1) (by omega)]
  unfold drC
  rw [if_neg (by omega), show (i * 2 + 1) / 2 = i by omega]
end
/-- What a check tells. -/
def Tells (b : Bool) (k : Int) (w : World) (e : Ending) (w' : World) : Prop := e = .returned (.tuple #[.bool b, .int .i64 k]) ∧ Ext w w'
theorem none_nil (w : World) : Calls Try.prog 30 #[.pointer none] w (Tells true 1 w) := by
  go_enter Try.func30, Try.ntmps30
  go_wp2
  go_ret2
  exact ⟨rfl, Ext.refl _⟩
theorem none_ok (p : Pl) (s : St) (w : World) (h : RackAt w p s) : Calls Try.prog 30 #[.pointer (some ⟨p.gR, 0, none⟩)] w (Tells false 1 w) := by
  have h0 := h.r0
  have hnil := fun (a : Option Addr) (n c : Nat) (w : World) => Lib.run_eql_slice_nil (P := Try.prog) w 51 56 a n c 0 0 Try.underlying51
  go_enter Try.func30, Try.ntmps30
  go_wp2
  go_ret2
  exact ⟨rfl, Ext.refl _⟩
theorem still_ok (p : Pl) (s : St) (w : World) (h : RackAt w p s) : Calls Try.prog 37 #[.pointer (some ⟨p.gR, 0, none⟩)] w (Tells (s.cut && (s.left == 0)) 71 w) := by
  have h1 := h.r1
  have h2 := h.r2
  cases hc : s.cut
  · rw [hc] at h1
    go_enter Try.func37, Try.ntmps37
    go_wp2
    go_ret2
    exact ⟨rfl, Ext.refl _⟩
  · rw [hc] at h1
    go_enter Try.func37, Try.ntmps37
    go_wp2
    go_ret2
    exact ⟨rfl, Ext.refl _⟩
theorem long_ok (g : Nat) (t : ByteArray) (w : World) (h : w.cell? ⟨g, 0, none⟩ = some (.string t)) : Calls Try.prog 36 #[.pointer (some ⟨g, 0, none⟩)] w (Tells (decide (64 < t.size)) 4 w) := by
  go_enter Try.func36, Try.ntmps36
  go_wp2
  go_ret2
  refine ⟨?_, Ext.refl _⟩
  simp; omega
theorem below_ok (g : Nat) (n : Int) (w : World) (h : w.cell? ⟨g, 0, none⟩ = some (.int .i64 n)) : Calls Try.prog 35 #[.pointer (some ⟨g, 0, none⟩)] w (Tells (decide (n < 0)) 2 w) := by
  go_enter Try.func35, Try.ntmps35
  go_wp2
  go_ret2
  exact ⟨rfl, Ext.refl _⟩
def there (p : Pl) (d x : Int) : Bool := decide (0 ≤ d) && decide (d < (p.nd : Int)) && decide (0 ≤ x) && decide (x < (p.ns : Int))
set_option maxRecDepth 100000 in
theorem awayIn_ok (p : Pl) (s : St) (gd gr gs : Nat) (d x : Int) (w : World) (h : RackAt w p s) (hd : w.cell? ⟨gd, 0, none⟩ = some (.int .i64 d)) (hr : w.cell? ⟨gr, 0, none⟩ = some (.pointer (some ⟨p.gR, 0, none⟩))) (hs : w.cell? ⟨gs, 0, none⟩ = some (.int .i64 x)) :
    Calls Try.prog 39 #[.pointer (some ⟨gd, 0, none⟩), .pointer (some ⟨gr, 0, none⟩), .pointer (some ⟨gs, 0, none⟩)] w (Tells (!there p d x) 70 w) := by
  have h0 := h.r0
  have h1 := h.d0 0 (by have := h.ok.nd1; omega)
  rw [Nat.zero_mul] at h1
  have n0 : (0 : Int) < (p.nd : Int) := by have := h.ok.nd1; omega
  have fin : ∀ b, (!there p d x) = b → ∀ w', Ext w w' → Tells (!there p d x) 70 w (.returned (.tuple #[.bool b, .int .i64 70])) w' := fun b hb w' hE => ⟨by rw [hb], hE⟩
  have FIN := Lib.hid fin
  clear fin
  by_cases d0 : d < 0
  · have t1 : decide (d < 0) = true := by simpa using d0
    go_enter Try.func39, Try.ntmps39
    go_wp2_with fail
    go_quiet (fail)
    go_wp2
    go_ret2
    exact FIN.out true (by simp [there]; omega) _ ((Ext.refl _).drewN _)
  · have t1 : decide (d < 0) = false := by simpa using d0
    by_cases d1 : (p.nd : Int) ≤ d
    · have t2 : decide ((p.nd : Int) ≤ d) = true := by simpa using d1
      go_enter Try.func39, Try.ntmps39
      go_wp2_with fail
      go_quiet (fail)
      go_wp2
      go_ret2
      exact FIN.out true (by simp [there]; omega) _ ((Ext.refl _).drewN _)
    · have t2 : decide ((p.nd : Int) ≤ d) = false := by simpa using d1
      by_cases x0 : x < 0
      · have t3 : decide (x < 0) = true := by simpa using x0
        go_enter Try.func39, Try.ntmps39
        go_wp2_with fail
        go_quiet (fail)
        go_wp2
        go_ret2
        exact FIN.out true (by simp [there]; omega) _ ((Ext.refl _).drewN _)
      · have t3 : decide (x < 0) = false := by simpa using x0
        by_cases x1 : (p.ns : Int) ≤ x
        · have t4 : decide ((p.ns : Int) ≤ x) = true := by simpa using x1
          go_enter Try.func39, Try.ntmps39
          go_wp2_with fail
          go_quiet (fail)
          go_wp2
          go_ret2
          exact FIN.out true (by simp [there]; omega) _ ((Ext.refl _).drewN _)
        · have t4 : decide ((p.ns : Int) ≤ x) = false := by simpa using x1
          go_enter Try.func39, Try.ntmps39
          go_wp2_with fail
          go_quiet (fail)
          go_wp2
          go_ret2
          exact FIN.out false (by simp [there]; omega) _ ((Ext.refl _).drewN _)
