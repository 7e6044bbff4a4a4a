import Derived.Test.YtimhekdfajakbaaR17
import Derived.Test.YtimhekdfajakbaaPre4
namespace Go.Proofs.Ytimhekdfajakbaa
open Go.RowKit Go.ChangeShapes Go.WideShapes Go.Deep
/-- A call of a script. -/
structure Stp where
  act : Int
  d : Int
  s : Int
  text : ByteArray
def stV (x : Stp) (j : Nat) : Value := if j = 0 then .int .u8 x.act else if j = 1 then .int .i64 x.d else if j = 2 then .int .i64 x.s else .string x.text
def stF (l : List Stp) (i j : Nat) : Value := match l[i]? with
  | none => undef
  | some x => stV x j
def SRd (w : World) (A : Option Addr) (n : Nat) (l : List Stp) : Prop := l.length = n ∧ FRd w A n 4 (stF l)
def StpOk (x : Stp) : Prop := (Lit.int .u8 x.act).wf = true ∧ (Lit.int .i64 x.d).wf = true ∧ (Lit.int .i64 x.s).wf = true ∧ x.text.size ≤ maxLen
theorem SRd.ext {w w' : World} {A : Option Addr} {n : Nat} {l : List Stp} (h : SRd w A n l) (e : Ext w w') : SRd w' A n l := ⟨h.1, h.2.ext e⟩
theorem SRd.at_ {w : World} {A : Option Addr} {n : Nat} {l : List Stp} (h : SRd w A n l) (k : Nat) (hk : k < n) : ∃ g o x, A = some ⟨g, o, none⟩ ∧ l[k]? = some x ∧ w.cell? ⟨g, o + k * 4, none⟩ = some (.int .u8 x.act) ∧ w.cell? ⟨g, o + k * 4 + 1, none⟩ = some (.int .i64 x.d) ∧ w.cell? ⟨g, o + k * 4 + 2, none⟩ = some (.int .i64 x.s) ∧ w.cell? ⟨g, o + k * 4 + 3, none⟩ = some (.string x.text) := by
  obtain ⟨g, o, e, hc⟩ := h.2 (by omega)
  have hl : l[k]? = some (l[k]'(by have := h.1; omega)) := List.getElem?_eq_getElem _
  refine ⟨g, o, _, e, hl, ?_, ?_, ?_, ?_⟩
  · have := hc k 0 hk (by omega); rw [stF, hl] at this; exact this
  · have := hc k 1 hk (by omega); rw [stF, hl] at this; exact this
  · have := hc k 2 hk (by omega); rw [stF, hl] at this; exact this
  · have := hc k 3 hk (by omega); rw [stF, hl] at this; exact this
theorem open_t22 {H : Type} {enc : TypeId × Value → H} {w : World} {base : Nat} {spare : Nat → Bool} {held : Bool} {A : Option Addr} {n c : Nat} {d : DataW H} {ps : List MemPlace} (h : DataW.Trod enc Try.prog w base spare held 22 (.slice A n c) d ps) :
    ∃ l : List Stp, SRd w A n l ∧ n ≤ maxLen ∧ ∀ x ∈ l, StpOk x := by
  obtain ⟨f, hf, hn, hr⟩ := open_fields Try.underlying22 Try.underlying34 (by kernel_rfl) (by kernel_rfl) (by decide) h
  have key : ∀ i, i < n → ∃ x : Stp, StpOk x ∧ ∀ j, j < 4 → f i j = stV x j := by
    intro i hi
    obtain ⟨m0, y0, h0⟩ := hr i 0 _ hi rfl
    obtain ⟨m1, y1, h1⟩ := hr i 1 _ hi rfl
    obtain ⟨m2, y2, h2⟩ := hr i 2 _ hi rfl
    obtain ⟨m3, y3, h3⟩ := hr i 3 _ hi rfl
    obtain ⟨a0, e0, w0⟩ := fld_int Try.underlying5 h0
    obtain ⟨a1, e1, w1⟩ := fld_int Try.underlying3 h1
    obtain ⟨a2, e2, w2⟩ := fld_int Try.underlying3 h2
    obtain ⟨a3, e3, w3⟩ := fld_string Try.underlying9 h3
    refine ⟨⟨a0, a1, a2, a3⟩, ⟨w0, w1, w2, w3⟩, fun j hj => ?_⟩
    match j, hj with
    | 0, _ => exact e0
    | 1, _ => exact e1
    | 2, _ => exact e2
    | 3, _ => exact e3
  refine ⟨(List.range n).attach.map fun i => Classical.choose (key i.1 (List.mem_range.mp i.2)), ⟨by simp, hf.congr fun i j hi hj => ?_⟩, hn, fun x hx => ?_⟩
  · have hx : ((List.range n).attach.map fun i => Classical.choose (key i.1 (List.mem_range.mp i.2)))[i]? = some (Classical.choose (key i hi)) := by
      rw [List.getElem?_map, List.getElem?_eq_getElem (by simpa using hi)]
      simp
    rw [stF, hx]
    exact ((Classical.choose_spec (key i hi)).2 j hj).symm
  · obtain ⟨i, _, rfl⟩ := List.mem_map.mp hx
    exact (Classical.choose_spec (key i.1 (List.mem_range.mp i.2))).1
/-- More than a statement makes. -/
def heavyB (l : List Stp) : Bool := decide (300 < l.length) || l.any fun x => decide (1024 < x.text.size)
theorem heavy_no {l : List Stp} (h : heavyB l = false) : l.length ≤ 300 ∧ ∀ (k : Nat) x, l[k]? = some x → x.text.size ≤ 1024 := by
  unfold heavyB at h
  simp at h
  refine ⟨h.1, fun k x hx => h.2 x (List.mem_of_getElem? hx)⟩
set_option maxRecDepth 100000 in
theorem heavy_ok (A : Option Addr) (n c : Nat) (l : List Stp) (w : World) (hr : SRd w A n l) (hn : n ≤ maxLen) : Calls Try.prog 7 #[.slice A n c] w fun e w' => e = .returned (.bool (heavyB l)) ∧ Ext w w' := by
  unfold maxLen at hn
  have hlen := Lib.hid hr.1
  by_cases hb : 300 < n
  · have t1 : decide ((300 : Int) < (n : Int)) = true := by simp; omega
    have hB : heavyB l = true := by unfold heavyB; rw [hlen.out]; simp [hb]
    rw [hB]
    clear hB
    go_enter Try.func7, Try.ntmps7
    go_wp2
    go_ret
    exact ⟨rfl, Ext.refl _⟩
  · have t1 : decide ((300 : Int) < (n : Int)) = false := by simp; omega
    have hB : heavyB l = l.any fun x => decide (1024 < x.text.size) := by unfold heavyB; rw [hlen.out]; simp [hb]
    rw [hB]
    clear hB
    go_enter Try.func7, Try.ntmps7
    go_wp2
    go_loopw [3] (fun i wr => ∃ k : Nat, k ≤ n ∧ i = .int .i64 k ∧ Ext w wr ∧ ∀ j x, j < k → l[j]? = some x → x.text.size ≤ 1024) (fun i _ => n - (intOf i).toNat)
    case atStart => exact ⟨0, by omega, rfl, Ext.refl _, fun j _ h => by omega⟩
    case round =>
      obtain ⟨k, hk, rfl, hE, hall⟩ := hrel
      have HALL := Lib.hid hall
      clear hall
      by_cases hk2 : k < n
      · obtain ⟨g, o, x, rfl, hx, _, _, _, c3⟩ := (hr.ext hE).at_ k hk2
        have HX := Lib.hid hx
        clear hx
        have kk : (k : Int) < (n : Int) := by omega
        have kk0 : (0 : Int) ≤ (k : Int) := by omega
        by_cases hz : 1024 < x.text.size
        · have t2 : decide ((1024 : Int) < (x.text.size : Int)) = true := by simp; omega
          go_wp2
          go_ret
          refine ⟨ret_bool ?_, hE⟩
          symm
          rw [List.any_eq_true]
          exact ⟨x, List.mem_of_getElem? HX.out, by simpa using hz⟩
        · have t2 : decide ((1024 : Int) < (x.text.size : Int)) = false := by simp; omega
          go_wp2
          go_roundw
          case rel => exact ⟨k + 1, by omega, by go_num, hE, fun j y hj hy => by
            by_cases e : j = k
            · subst e
              have h2 := HX.out
              rw [hy] at h2; cases h2; omega
            · exact HALL.out j y (by omega) hy⟩
          case measure => simp [intOf]; omega
      · obtain rfl : n = k := by omega
        go_wp2
        go_ret
        refine ⟨ret_bool ?_, hE⟩
        symm
        rw [List.any_eq_false]
        intro x hx
        obtain ⟨j, hj, rfl⟩ := List.mem_iff_getElem.mp hx
        have := HALL.out j _ (by have := hlen.out; omega) (List.getElem?_eq_getElem hj)
        simp; omega
