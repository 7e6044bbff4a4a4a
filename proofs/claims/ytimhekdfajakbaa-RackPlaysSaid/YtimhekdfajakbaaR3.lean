import Derived.Test.YtimhekdfajakbaaR2
namespace Go.Proofs.Ytimhekdfajakbaa
open Go.RowKit
theorem e30 : Enters Try.prog 30 := enters_of Try.func30 (by kernel_rfl) rfl
theorem e35 : Enters Try.prog 35 := enters_of Try.func35 (by kernel_rfl) rfl
theorem e36 : Enters Try.prog 36 := enters_of Try.func36 (by kernel_rfl) rfl
theorem e37 : Enters Try.prog 37 := enters_of Try.func37 (by kernel_rfl) rfl
theorem e38 : Enters Try.prog 38 := enters_of Try.func38 (by kernel_rfl) rfl
theorem e39 : Enters Try.prog 39 := enters_of Try.func39 (by kernel_rfl) rfl
def cNone (r : Option Addr) (b : Bool) : Clo := ⟨30, #[.pointer r], #[], b, 1⟩
def cStill (p : Pl) (s : St) : Clo := ⟨37, #[.pointer (some ⟨p.gR, 0, none⟩)], #[], s.cut && (s.left == 0), 71⟩
def cAway (p : Pl) (d x : Int) (gd gr gs : Nat) : Clo := ⟨39, #[], #[.pointer (some ⟨gd, 0, none⟩), .pointer (some ⟨gr, 0, none⟩), .pointer (some ⟨gs, 0, none⟩)], !there p d x, 70⟩
def cLong (g : Nat) (t : ByteArray) : Clo := ⟨36, #[], #[.pointer (some ⟨g, 0, none⟩)], decide (64 < t.size), 4⟩
def cBelow (g : Nat) (n : Int) : Clo := ⟨35, #[], #[.pointer (some ⟨g, 0, none⟩)], decide (n < 0), 2⟩
/-- What a call of first tells, over the cells that the call site lays. -/
theorem first_at (l : List Clo) (m : Nat) (w : World) (H : Nat) (hH : w.heap.size = H) (t : TypeId) (hm : l.length = m) (hm8 : m ≤ 8) (hen : ∀ c ∈ l, Enters Try.prog c.f)
    (hc : ∀ i (hi : i < l.length), (∀ j (h : j < i), (l[j]'(by omega)).b = false) → ∀ w', Ext w w' → Calls Try.prog l[i].f (l[i].fa ++ l[i].ca) w' (Tells l[i].b l[i].e w')) :
    Calls Try.prog 29 #[.slice (some ⟨H, 0, none⟩) m m] (w.alloc (.cells (l.map Clo.v).toArray t)) fun e w' => e = .returned (.int .i64 (firstE l)) ∧ Ext w w' := by
  subst hH
  have hE := (Ext.refl w).alloc (.cells (l.map Clo.v).toArray t)
  exact (first_any _ m m l _ (Rd.new w t _ m (by simp [hm])) hm8 hen fun i hi hj w' h => hc i hi hj w' (hE.trans h)).mono fun e w' h => ⟨h.1, hE.trans h.2⟩
/-- No rack: the first check tells. -/
theorem first_nil (l : List Clo) (m : Nat) (w : World) (H : Nat) (hH : w.heap.size = H) (t : TypeId) (hm : l.length + 1 = m) (hm8 : m ≤ 8) (hen : ∀ c ∈ l, Enters Try.prog c.f) :
    Calls Try.prog 29 #[.slice (some ⟨H, 0, none⟩) m m] (w.alloc (.cells ((cNone none true :: l).map Clo.v).toArray t)) fun e w' => e = .returned (.int .i64 1) ∧ Ext w w' := by
  have h := first_at (cNone none true :: l) m w H hH t (by simp [hm]) hm8 (fun c hc => by
    rcases List.mem_cons.mp hc with h | h
    · rw [h]; exact e30
    · exact hen c h) (fun i hi hj w' hE => by
    match i, hi, hj with
    | 0, _, _ => exact none_nil w'
    | i + 1, _, hj => exact absurd (hj 0 (by omega)) (by simp [cNone]))
  exact h
section
variable {p : Pl} {s : St} {w : World}
theorem first_1 (h : RackAt w p s) (H : Nat) (hH : w.heap.size = H) (t : TypeId) :
    Calls Try.prog 29 #[.slice (some ⟨H, 0, none⟩) 1 1] (w.alloc (.cells #[.func (.func 30) #[.pointer (some ⟨p.gR, 0, none⟩)] #[]] t)) fun e w' => e = .returned (.int .i64 0) ∧ Ext w w' :=
  first_at [cNone (some ⟨p.gR, 0, none⟩) false] 1 w H hH t rfl (by omega) (fun c hc => by
    simp at hc; rw [hc]; exact e30) (fun i hi hj w' hE => by
    match i, hi with
    | 0, _ => exact none_ok p s w' (h.ext hE))
def thereE (p : Pl) (d x : Int) : Int := if there p d x then 0 else 70
theorem first_2 (h : RackAt w p s) (d x : Int) (gd gr gs : Nat) (hd : w.cell? ⟨gd, 0, none⟩ = some (.int .i64 d)) (hr : w.cell? ⟨gr, 0, none⟩ = some (.pointer (some ⟨p.gR, 0, none⟩))) (hs : w.cell? ⟨gs, 0, none⟩ = some (.int .i64 x)) (H : Nat) (hH : w.heap.size = H) (t : TypeId) :
    Calls Try.prog 29 #[.slice (some ⟨H, 0, none⟩) 2 2] (w.alloc (.cells #[.func (.func 30) #[.pointer (some ⟨p.gR, 0, none⟩)] #[], .func (.func 39) #[] #[.pointer (some ⟨gd, 0, none⟩), .pointer (some ⟨gr, 0, none⟩), .pointer (some ⟨gs, 0, none⟩)]] t)) fun e w' => e = .returned (.int .i64 (thereE p d x)) ∧ Ext w w' := by
  have := first_at [cNone (some ⟨p.gR, 0, none⟩) false, cAway p d x gd gr gs] 2 w H hH t rfl (by omega) (fun c hc => by
    simp at hc
    rcases hc with rfl | rfl
    · exact e30
    · exact e39) (fun i hi hj w' hE => by
    match i, hi with
    | 0, _ => exact none_ok p s w' (h.ext hE)
    | 1, _ => exact awayIn_ok p s gd gr gs d x w' (h.ext hE) (hE.cellv hd) (hE.cellv hr) (hE.cellv hs))
  refine this.mono fun e w' h => ⟨?_, h.2⟩
  rw [h.1]
  simp [firstE, cNone, cAway, thereE]
  cases there p d x <;> rfl
theorem first_cut (h : RackAt w p s) (n : Int) (g : Nat) (hg : w.cell? ⟨g, 0, none⟩ = some (.int .i64 n)) (H : Nat) (hH : w.heap.size = H) (t : TypeId) :
    Calls Try.prog 29 #[.slice (some ⟨H, 0, none⟩) 2 2] (w.alloc (.cells #[.func (.func 30) #[.pointer (some ⟨p.gR, 0, none⟩)] #[], .func (.func 35) #[] #[.pointer (some ⟨g, 0, none⟩)]] t)) fun e w' => e = .returned (.int .i64 (if n < 0 then 2 else 0)) ∧ Ext w w' := by
  have := first_at [cNone (some ⟨p.gR, 0, none⟩) false, cBelow g n] 2 w H hH t rfl (by omega) (fun c hc => by
    simp at hc
    rcases hc with rfl | rfl
    · exact e30
    · exact e35) (fun i hi hj w' hE => by
    match i, hi with
    | 0, _ => exact none_ok p s w' (h.ext hE)
    | 1, _ => exact below_ok g n w' (hE.cellv hg))
  refine this.mono fun e w' h => ⟨?_, h.2⟩
  rw [h.1]
  simp [firstE, cNone, cBelow]
def writeE (p : Pl) (s : St) (d x : Int) (t : ByteArray) : Int := if there p d x then (if 64 < t.size then 4 else if s.cut && (s.left == 0) then 71 else 0) else 70
theorem first_write (h : RackAt w p s) (d x : Int) (t : ByteArray) (gd gr gs gt : Nat) (hd : w.cell? ⟨gd, 0, none⟩ = some (.int .i64 d)) (hr : w.cell? ⟨gr, 0, none⟩ = some (.pointer (some ⟨p.gR, 0, none⟩))) (hs : w.cell? ⟨gs, 0, none⟩ = some (.int .i64 x)) (ht : w.cell? ⟨gt, 0, none⟩ = some (.string t)) (H : Nat) (hH : w.heap.size = H) (ty : TypeId) :
    Calls Try.prog 29 #[.slice (some ⟨H, 0, none⟩) 4 4] (w.alloc (.cells #[.func (.func 30) #[.pointer (some ⟨p.gR, 0, none⟩)] #[], .func (.func 39) #[] #[.pointer (some ⟨gd, 0, none⟩), .pointer (some ⟨gr, 0, none⟩), .pointer (some ⟨gs, 0, none⟩)], .func (.func 36) #[] #[.pointer (some ⟨gt, 0, none⟩)], .func (.func 37) #[.pointer (some ⟨p.gR, 0, none⟩)] #[]] ty)) fun e w' => e = .returned (.int .i64 (writeE p s d x t)) ∧ Ext w w' := by
  have := first_at [cNone (some ⟨p.gR, 0, none⟩) false, cAway p d x gd gr gs, cLong gt t, cStill p s] 4 w H hH ty rfl (by omega) (fun c hc => by
    simp at hc
    rcases hc with rfl | rfl | rfl | rfl
    · exact e30
    · exact e39
    · exact e36
    · exact e37) (fun i hi hj w' hE => by
    match i, hi with
    | 0, _ => exact none_ok p s w' (h.ext hE)
    | 1, _ => exact awayIn_ok p s gd gr gs d x w' (h.ext hE) (hE.cellv hd) (hE.cellv hr) (hE.cellv hs)
    | 2, _ => exact long_ok gt t w' (hE.cellv ht)
    | 3, _ => exact still_ok p s w' (h.ext hE))
  refine this.mono fun e w' h => ⟨?_, h.2⟩
  rw [h.1]
  simp [firstE, cNone, cAway, cLong, cStill, writeE]
  cases there p d x <;> simp
end
theorem first_nil1 (w : World) (H : Nat) (hH : w.heap.size = H) (t : TypeId) :
    Calls Try.prog 29 #[.slice (some ⟨H, 0, none⟩) 1 1] (w.alloc (.cells #[.func (.func 30) #[.pointer none] #[]] t)) fun e w' => e = .returned (.int .i64 1) ∧ Ext w w' :=
  first_nil [] 1 w H hH t rfl (by omega) (by simp)
theorem first_nil2 (w : World) (H : Nat) (hH : w.heap.size = H) (t : TypeId) (f : Nat) (fa ca : Array Value) (hf : Enters Try.prog f) :
    Calls Try.prog 29 #[.slice (some ⟨H, 0, none⟩) 2 2] (w.alloc (.cells #[.func (.func 30) #[.pointer none] #[], .func (.func f) fa ca] t)) fun e w' => e = .returned (.int .i64 1) ∧ Ext w w' :=
  first_nil [⟨f, fa, ca, true, 0⟩] 2 w H hH t rfl (by omega) (by simp; exact hf)
theorem first_nil4 (w : World) (H : Nat) (hH : w.heap.size = H) (t : TypeId) (f g h : Nat) (fa ca ga da ha ea : Array Value) (hf : Enters Try.prog f) (hg : Enters Try.prog g) (hh : Enters Try.prog h) :
    Calls Try.prog 29 #[.slice (some ⟨H, 0, none⟩) 4 4] (w.alloc (.cells #[.func (.func 30) #[.pointer none] #[], .func (.func f) fa ca, .func (.func g) ga da, .func (.func h) ha ea] t)) fun e w' => e = .returned (.int .i64 1) ∧ Ext w w' :=
  first_nil [⟨f, fa, ca, true, 0⟩, ⟨g, ga, da, true, 0⟩, ⟨h, ha, ea, true, 0⟩] 4 w H hH t rfl (by omega) (by simp; exact ⟨hf, hg, hh⟩)
theorem mkf : ∀ (fn : Fn) (first cap : Array Value) (w : World), (Instr.makeFunc fn first cap).run Try.prog w = .ok (.func fn first cap) w := fun _ _ _ _ => rfl
/-- No rack. -/
theorem lift_nil (w : World) : Calls Try.prog 20 #[.pointer none] w fun e w' => e = .returned (.int .i64 1) ∧ Ext w w' := by
  have hmf := mkf
  go_enter Try.func20, Try.ntmps20
  go_wp2_with (go_at_call 29; (with_reducible refine (first_nil1 _ _ rfl 71).mono ?_); rintro e w1 ⟨rfl, hE⟩)
  go_ret
  exact ⟨rfl, hE⟩
theorem cut_nil (n : Int) (w : World) : Calls Try.prog 18 #[.pointer none, .int .i64 n] w fun e w' => e = .returned (.int .i64 1) ∧ Ext w w' := by
  have hmf := mkf
  have hO := (Ext.refl w).alloc (.cells #[.int .i64 n] 3)
  go_enter Try.func18, Try.ntmps18
  go_wp2_with (go_at_call 29; (with_reducible refine (first_nil2 _ _ (by simp) 71 35 #[] _ e35).mono ?_); rintro e w1 ⟨rfl, hE⟩)
  go_ret
  exact ⟨rfl, hO.trans hE⟩
theorem wipe_nil (d : Int) (w : World) : Calls Try.prog 23 #[.pointer none, .int .i64 d] w fun e w' => e = .returned (.int .i64 1) ∧ Ext w w' := by
  have hmf := mkf
  go_enter Try.func23, Try.ntmps23
  go_wp2_with (first
    | (go_at_call 31; (with_reducible refine (away_any none d 0 _).mono ?_); rintro e w0 ⟨gd, gr, gs, rfl, hd, hr, hs, hO⟩)
    | (go_at_call 29; (with_reducible refine (first_nil2 _ _ rfl 71 39 #[] _ e39).mono ?_); rintro e w1 ⟨rfl, hE⟩))
  go_ret
  exact ⟨rfl, hO.trans hE⟩
theorem spoil_nil (d x : Int) (w : World) : Calls Try.prog 22 #[.pointer none, .int .i64 d, .int .i64 x] w fun e w' => e = .returned (.int .i64 1) ∧ Ext w w' := by
  have hmf := mkf
  go_enter Try.func22, Try.ntmps22
  go_wp2_with (first
    | (go_at_call 31; (with_reducible refine (away_any none d x _).mono ?_); rintro e w0 ⟨gd, gr, gs, rfl, hd, hr, hs, hO⟩)
    | (go_at_call 29; (with_reducible refine (first_nil2 _ _ rfl 71 39 #[] _ e39).mono ?_); rintro e w1 ⟨rfl, hE⟩))
  go_ret
  exact ⟨rfl, hO.trans hE⟩
theorem writes_nil (d : Int) (w : World) : Calls Try.prog 14 #[.pointer none, .int .i64 d] w fun e w' => e = .returned (.int .u64 0) ∧ Ext w w' := by
  have hmf := mkf
  go_enter Try.func14, Try.ntmps14
  go_wp2_with (first
    | (go_at_call 31; (with_reducible refine (away_any none d 0 _).mono ?_); rintro e w0 ⟨gd, gr, gs, rfl, hd, hr, hs, hO⟩)
    | (go_at_call 29; (with_reducible refine (first_nil2 _ _ rfl 71 39 #[] _ e39).mono ?_); rintro e w1 ⟨rfl, hE⟩))
  go_ret
  exact ⟨rfl, hO.trans hE⟩
theorem all_nil (d : Int) (w : World) : Calls Try.prog 12 #[.pointer none, .int .i64 d] w fun e w' => e = .returned (.string { data := #[] }) ∧ Ext w w' := by
  have hmf := mkf
  go_enter Try.func12, Try.ntmps12
  go_wp2_with (first
    | (go_at_call 31; (with_reducible refine (away_any none d 0 _).mono ?_); rintro e w0 ⟨gd, gr, gs, rfl, hd, hr, hs, hO⟩)
    | (go_at_call 29; (with_reducible refine (first_nil2 _ _ rfl 71 39 #[] _ e39).mono ?_); rintro e w1 ⟨rfl, hE⟩))
  go_ret
  exact ⟨rfl, hO.trans hE⟩
theorem drives_nil (w : World) : Calls Try.prog 16 #[.pointer none] w fun e w' => e = .returned (.int .i64 0) ∧ Ext w w' := by
  go_enter Try.func16, Try.ntmps16
  go_wp2_with (go_at_call 30; (with_reducible refine (none_nil _).mono ?_); rintro e w0 ⟨rfl, hO⟩)
  go_ret
  exact ⟨rfl, hO⟩
theorem sectors_nil (w : World) : Calls Try.prog 17 #[.pointer none] w fun e w' => e = .returned (.int .i64 0) ∧ Ext w w' := by
  go_enter Try.func17, Try.ntmps17
  go_wp2_with (go_at_call 30; (with_reducible refine (none_nil _).mono ?_); rintro e w0 ⟨rfl, hO⟩)
  go_ret
  exact ⟨rfl, hO⟩
theorem write_nil (d x : Int) (t : ByteArray) (w : World) : Calls Try.prog 19 #[.pointer none, .int .i64 d, .int .i64 x, .string t] w fun e w' => e = .returned (.int .i64 1) ∧ Ext w w' := by
  have hmf := mkf
  have hO := (Ext.refl w).alloc (.cells #[.string t] 9)
  go_enter Try.func19, Try.ntmps19
  go_wp2_with (first
    | (go_at_call 31; (with_reducible refine (away_any none d x _).mono ?_); rintro e w0 ⟨gd, gr, gs, rfl, hd, hr, hs, hE0⟩; replace hO := hO.trans hE0)
    | (go_at_call 29; (with_reducible refine (first_nil4 _ _ rfl 71 39 36 37 #[] _ #[] _ _ #[] e39 e36 e37).mono ?_); rintro e w1 ⟨rfl, hE⟩))
  go_ret
  exact ⟨rfl, hO.trans hE⟩
