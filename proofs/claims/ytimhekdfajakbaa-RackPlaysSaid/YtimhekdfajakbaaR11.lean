import Derived.Test.YtimhekdfajakbaaR10
import Derived.Test.YtimhekdfajakbaaR4
namespace Go.Proofs.Ytimhekdfajakbaa
open Go.RowKit
section
variable {p : Pl} {s : St} {w : World}
set_option maxRecDepth 100000 in
theorem media_ok (h : RackAt w p s) (d x : Nat) (hd : d < p.nd) (hx : x < p.ns) (g1 g2 g3 : Nat) (q1 : w.cell? ⟨g1, 0, none⟩ = some (.pointer (some ⟨p.gR, 0, none⟩))) (q2 : w.cell? ⟨g2, 0, none⟩ = some (.int .i64 d)) (q3 : w.cell? ⟨g3, 0, none⟩ = some (.int .i64 x)) :
    Calls Try.prog 38 #[.pointer (some ⟨g1, 0, none⟩), .pointer (some ⟨g2, 0, none⟩), .pointer (some ⟨g3, 0, none⟩)] w (Tells (s.bad d x) 72 w) := by
  have kd : (d : Int) < (p.nd : Int) := by omega
  have kd0 : (0 : Int) ≤ (d : Int) := by omega
  have kx : (x : Int) < (p.ns : Int) := by omega
  have kx0 : (0 : Int) ≤ (x : Int) := by omega
  have c0 := h.r0
  have c1 := h.d0 d hd
  have c2 : w.cell? ⟨p.gS d, x * 65 + 64, none⟩ = some (.bool (s.bad d x)) := by
    rw [(h.se d hd).cell (x * 65 + 64) (by omega)]
    unfold seC
    rw [if_pos (by omega), show (x * 65 + 64) / 65 = x by omega]
  go_enter Try.func38, Try.ntmps38
  go_wp2_with fail
  go_quiet (fail)
  go_wp2
  go_ret2
  exact ⟨rfl, (Ext.refl _).drewN _⟩
def readE (p : Pl) (s : St) (d x : Int) : Int := if s.cut && (s.left == 0) then 71 else if there p d x then (if s.bad d.toNat x.toNat then 72 else 0) else 70
def cMedia (_ : Pl) (s : St) (d x : Int) (g1 g2 g3 : Nat) : Clo := ⟨38, #[], #[.pointer (some ⟨g1, 0, none⟩), .pointer (some ⟨g2, 0, none⟩), .pointer (some ⟨g3, 0, none⟩)], s.bad d.toNat x.toNat, 72⟩
theorem fE4 (f1 f2 f3 f4 : Nat) (a1 a2 a3 a4 c1 c2 c3 c4 : Array Value) (b2 b3 b4 : Bool) (e1 e2 e3 e4 : Int) :
    firstE [⟨f1, a1, c1, false, e1⟩, ⟨f2, a2, c2, b2, e2⟩, ⟨f3, a3, c3, b3, e3⟩, ⟨f4, a4, c4, b4, e4⟩] = if b2 then e2 else if b3 then e3 else if b4 then e4 else 0 := by
  cases b2 <;> cases b3 <;> cases b4 <;> rfl
theorem first_read (h : RackAt w p s) (d x : Int) (g1 g2 g3 gd gr gs : Nat) (q1 : w.cell? ⟨g1, 0, none⟩ = some (.pointer (some ⟨p.gR, 0, none⟩))) (q2 : w.cell? ⟨g2, 0, none⟩ = some (.int .i64 d)) (q3 : w.cell? ⟨g3, 0, none⟩ = some (.int .i64 x))
    (hd : w.cell? ⟨gd, 0, none⟩ = some (.int .i64 d)) (hr : w.cell? ⟨gr, 0, none⟩ = some (.pointer (some ⟨p.gR, 0, none⟩))) (hs : w.cell? ⟨gs, 0, none⟩ = some (.int .i64 x)) (H : Nat) (hH : w.heap.size = H) (ty : TypeId) :
    Calls Try.prog 29 #[.slice (some ⟨H, 0, none⟩) 4 4] (w.alloc (.cells #[.func (.func 30) #[.pointer (some ⟨p.gR, 0, none⟩)] #[], .func (.func 37) #[.pointer (some ⟨p.gR, 0, none⟩)] #[], .func (.func 39) #[] #[.pointer (some ⟨gd, 0, none⟩), .pointer (some ⟨gr, 0, none⟩), .pointer (some ⟨gs, 0, none⟩)], .func (.func 38) #[] #[.pointer (some ⟨g1, 0, none⟩), .pointer (some ⟨g2, 0, none⟩), .pointer (some ⟨g3, 0, none⟩)]] ty)) fun e w' => e = .returned (.int .i64 (readE p s d x)) ∧ Ext w w' := by
  have := first_at [cNone (some ⟨p.gR, 0, none⟩) false, cStill p s, cAway p d x gd gr gs, cMedia p s d x g1 g2 g3] 4 w H hH ty rfl (by omega) (fun c hc => by
    simp at hc
    rcases hc with rfl | rfl | rfl | rfl
    · exact e30
    · exact e37
    · exact e39
    · exact e38) (fun i hi hj w' hE => by
    match i, hi, hj with
    | 0, _, _ => exact none_ok p s w' (h.ext hE)
    | 1, _, _ => exact still_ok p s w' (h.ext hE)
    | 2, _, _ => exact awayIn_ok p s gd gr gs d x w' (h.ext hE) (hE.cellv hd) (hE.cellv hr) (hE.cellv hs)
    | 3, _, hj =>
      have h2 := hj 2 (by omega)
      have h3 : there p d x = true := by simpa [cAway] using h2
      obtain ⟨i, j, rfl, rfl, hi1, hj1⟩ := there_nat h3
      exact media_ok (h.ext hE) i j hi1 hj1 g1 g2 g3 (hE.cellv q1) (hE.cellv q2) (hE.cellv q3))
  refine this.mono fun e w' h => ⟨?_, h.2⟩
  rw [h.1]
  refine congrArg (fun z => Ending.returned (Value.int .i64 z)) ?_
  refine (fE4 _ _ _ _ _ _ _ _ _ _ _ _ _ _ _ _ _ _ _).trans ?_
  unfold readE
  generalize (s.cut && (s.left == 0)) = b1
  generalize there p d x = b2
  generalize s.bad d.toNat x.toNat = b3
  cases b1 <;> cases b2 <;> cases b3 <;> rfl
end
/-- What a sector that is read tells. -/
def secS (s : St) (d x : Nat) : ByteArray := strN 64 (s.sec d x)
set_option maxRecDepth 100000 in
theorem read_no {p : Pl} {s : St} (d x : Int) (w : World) (h : RackAt w p s) (hne : readE p s d x ≠ 0) :
    Calls Try.prog 21 #[.pointer (some ⟨p.gR, 0, none⟩), .int .i64 d, .int .i64 x] w fun e w' => e = .returned (.tuple #[.string { data := #[] }, .int .i64 (readE p s d x)]) ∧ Ext w w' := by
  have hmf := mkf
  obtain ⟨E, hEE⟩ : ∃ E, E = readE p s d x := ⟨_, rfl⟩
  have HEE := Lib.hid hEE
  rw [← hEE] at hne ⊢
  have hneB : (E != 0) = true := by simpa using hne
  clear hne hEE
  obtain ⟨w3, hw3, q1, q2, q3, hO⟩ := three w (.pointer (some ⟨p.gR, 0, none⟩)) (.int .i64 d) (.int .i64 x) 25 3 3
  go_enter Try.func21, Try.ntmps21
  go_wp2_with fail
  rw [← hw3]
  clear hw3
  obtain ⟨g1, h1⟩ : ∃ g, g = w.heap.size := ⟨_, rfl⟩
  obtain ⟨g2, h2⟩ : ∃ g, g = g1 + 1 := ⟨_, rfl⟩
  obtain ⟨g3, h3⟩ : ∃ g, g = g2 + 1 := ⟨_, rfl⟩
  rw [← h1, ← h2] at q2
  rw [← h1] at q1
  rw [← h1, ← h2, ← h3] at q3
  rw [← h1, ← h2, ← h3]
  clear h1 h2 h3
  have hR3 := h.ext hO
  go_region_held3 (fun w' => w'.cell? ⟨g1, 0, none⟩ = some (.pointer (some ⟨p.gR, 0, none⟩)) ∧ w'.cell? ⟨g2, 0, none⟩ = some (.int .i64 d) ∧ w'.cell? ⟨g3, 0, none⟩ = some (.int .i64 x))
    (first | exact ⟨q1, q2, q3⟩ | exact ⟨k1, k2, k3⟩ | exact ⟨m1, m2, m3⟩ | go_keep)
    (first
      | (go_at_call 31; refine (away_any _ d x _).mono ?_; rintro e w4 ⟨gd, gr, gs, rfl, hd, hr, hs, hE⟩; have hE : Ext w3 w4 := Ext.trans (Ext.drew (Ext.refl _)) hE; have k1 := hE.cellv q1; have k2 := hE.cellv q2; have k3 := hE.cellv q3)
      | (go_at_call 29; refine (first_read (hR3.ext hE) d x g1 g2 g3 gd gr gs k1 k2 k3 hd hr hs _ rfl 71).mono ?_; rintro e w5 ⟨rfl, hE2⟩; rw [← HEE.out]; have m1 := hE2.cellv k1; have m2 := hE2.cellv k2; have m3 := hE2.cellv k3))
  all_goals go_wp2
  all_goals
    go_ret2
    exact ⟨rfl, (hO.trans hE).trans hE2⟩
theorem sec_str {p : Pl} {s : St} {w : World} (h : RackAt w p s) (d x : Nat) (hd : d < p.nd) (hx : x < p.ns) (n : Nat) :
    (convert 48 9 (.slice (some ⟨p.gS d, x * 65, none⟩) 64 64)).run Try.prog (w.drewN n) = .ok (.string (secS s d x)) (w.drewN n) := by
  have hl : (secS s d x).data.toList.length = 64 := strN_size 64 (s.sec d x)
  have h0 := run_convert_bytes_back (P := Try.prog) (w.drewN n) 48 9 5 ⟨p.gS d, x * 65, none⟩ 64 (secS s d x).data.toList Try.underlying48 Try.underlying5 Try.underlying9 (fun j hj => by
    rw [Addr.add_mid]
    have hj' : j < 64 := by omega
    have := (h.se d hd).cell (x * 65 + j) (by omega)
    rw [show ((w.drewN n).cell? ⟨p.gS d, x * 65 + j, none⟩) = w.cell? ⟨p.gS d, x * 65 + j, none⟩ from rfl, this]
    unfold seC
    rw [if_neg (by omega), show (x * 65 + j) / 65 = x by omega, show (x * 65 + j) % 65 = j by omega]
    have hb := bn_strN 64 (s.sec d x) j hj' (h.ok.by_ _ _ _)
    unfold bn at hb
    rw [List.getD_eq_getElem?_getD] at hb
    have e : (strN 64 (s.sec d x)).data.toList[j]? = some ((strN 64 (s.sec d x)).data.toList[j]'hj) := List.getElem?_eq_getElem hj
    rw [e] at hb
    simp only [Option.getD_some] at hb
    rw [← hb]; rfl)
  rw [hl] at h0
  exact h0
set_option maxRecDepth 100000 in
theorem read_yes {p : Pl} {s : St} (d x : Nat) (hd0 : d < p.nd) (hx0 : x < p.ns) (w : World) (h : RackAt w p s) (hE0 : readE p s d x = 0) :
    Calls Try.prog 21 #[.pointer (some ⟨p.gR, 0, none⟩), .int .i64 d, .int .i64 x] w fun e w' => e = .returned (.tuple #[.string (secS s d x), .int .i64 0]) ∧ Ext w w' := by
  have hmf := mkf
  have HEE := Lib.hid hE0
  have kd : (d : Int) < (p.nd : Int) := by omega
  have kd0 : (0 : Int) ≤ (d : Int) := by omega
  have kx : (x : Int) < (p.ns : Int) := by omega
  have kx0 : (0 : Int) ≤ (x : Int) := by omega
  clear hE0
  obtain ⟨w3, hw3, q1, q2, q3, hO⟩ := three w (.pointer (some ⟨p.gR, 0, none⟩)) (.int .i64 d) (.int .i64 x) 25 3 3
  go_enter Try.func21, Try.ntmps21
  go_wp2_with fail
  rw [← hw3]
  clear hw3
  obtain ⟨g1, h1⟩ : ∃ g, g = w.heap.size := ⟨_, rfl⟩
  obtain ⟨g2, h2⟩ : ∃ g, g = g1 + 1 := ⟨_, rfl⟩
  obtain ⟨g3, h3⟩ : ∃ g, g = g2 + 1 := ⟨_, rfl⟩
  rw [← h1, ← h2] at q2
  rw [← h1] at q1
  rw [← h1, ← h2, ← h3] at q3
  rw [← h1, ← h2, ← h3]
  clear h1 h2 h3
  have hR3 := h.ext hO
  go_region_held3 (fun w' => w'.cell? ⟨g1, 0, none⟩ = some (.pointer (some ⟨p.gR, 0, none⟩)) ∧ w'.cell? ⟨g2, 0, none⟩ = some (.int .i64 d) ∧ w'.cell? ⟨g3, 0, none⟩ = some (.int .i64 x))
    (first | exact ⟨q1, q2, q3⟩ | exact ⟨k1, k2, k3⟩ | exact ⟨m1, m2, m3⟩ | go_keep)
    (first
      | (go_at_call 31; refine (away_any _ d x _).mono ?_; rintro e w4 ⟨gd, gr, gs, rfl, hd, hr, hs, hE⟩; have hE : Ext w3 w4 := Ext.trans (Ext.drew (Ext.refl _)) hE; have k1 := hE.cellv q1; have k2 := hE.cellv q2; have k3 := hE.cellv q3)
      | (go_at_call 29; refine (first_read (hR3.ext hE) d x g1 g2 g3 gd gr gs k1 k2 k3 hd hr hs _ rfl 71).mono ?_; rintro e w5 ⟨rfl, hE2⟩; rw [HEE.out]; have hR5 := (hR3.ext hE).ext hE2; have c0 := hR5.r0; have c1 := hR5.d0 d hd0; have m1 := hE2.cellv k1; have m2 := hE2.cellv k2; have m3 := hE2.cellv k3))
  all_goals go_wp2
  all_goals
    have hcv := sec_str hR5 d x hd0 hx0
    go_quiet (fail)
    go_wp2
    go_ret2
    exact ⟨rfl, ((hO.trans hE).trans hE2).drewN _⟩
