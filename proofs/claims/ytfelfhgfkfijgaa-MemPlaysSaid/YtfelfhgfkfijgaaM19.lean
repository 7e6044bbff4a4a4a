import Derived.Test.YtfelfhgfkfijgaaM18
namespace Go.Proofs.Ytfelfhgfkfijgaa
open Go.RowKit Go.Nb Go.ChangeShapes Go.WideShapes Go.ChangeAt Go.Deep
/-- A field that is a slice. -/
theorem fld_slice {H : Type} {enc : TypeId × Value → H} {P : Program} {w : World} {base : Nat} {spare : Nat → Bool} {held : Bool} {t e : TypeId} {m : Nat} {v : Value} {y : DataW H × List MemPlace} (ht : P.underlying t = some (.slice e)) (h : DataW.trod enc P w base spare held m t [v] = some y) : ∃ A n c, v = .slice A n c ∧ DataW.Trod enc P w base spare held t (.slice A n c) y.1 y.2 := by
  rcases open_slice ht h with ⟨hcs, _⟩ | ⟨a, len', cap', m', n', D, Pl, hcs, _⟩
  · have : v = .slice none 0 0 := by simpa [Value.cells] using hcs
    subst this
    exact ⟨none, 0, 0, rfl, m, h⟩
  · have : v = .slice (some a) len' cap' := by simpa [Value.cells] using hcs
    subst this
    exact ⟨some a, len', cap', rfl, m, h⟩
theorem open_t26 {H : Type} {enc : TypeId × Value → H} {w : World} {base : Nat} {spare : Nat → Bool} {held : Bool} {A : Option Addr} {n c : Nat} {d : DataW H} {ps : List MemPlace} (h : DataW.Trod enc Try.prog w base spare held 26 (.slice A n c) d ps) :
    ∃ ss : List Stp, SRd w A n ss ∧ n ≤ maxLen ∧ n ≤ c := by
  have hcap := slice_cap Try.underlying26 h
  obtain ⟨f, hf, hn, hr⟩ := open_fields Try.underlying26 Try.underlying25 (by kernel_rfl) (by kernel_rfl) (by decide) h
  have key : ∀ i, i < n → ∃ x : Stp, f i 0 = .int .i64 x.d ∧ f i 2 = .string (Bt x.key) ∧ ∃ B cb, f i 1 = .slice B x.q.length cb ∧ PRd w B x.q.length x.q := by
    intro i hi
    obtain ⟨m0, y0, h0⟩ := hr i 0 _ hi rfl
    obtain ⟨m1, y1, h1⟩ := hr i 1 _ hi rfl
    obtain ⟨m2, y2, h2⟩ := hr i 2 _ hi rfl
    obtain ⟨a0, e0, w0⟩ := fld_int Try.underlying3 h0
    obtain ⟨B, k, cb, e1, t1⟩ := fld_slice Try.underlying22 h1
    obtain ⟨a2, e2, w2⟩ := fld_string Try.underlying9 h2
    obtain ⟨q, hq, _, _⟩ := open_t22 t1
    refine ⟨⟨a0, q, Ls a2⟩, e0, e2, B, cb, ?_, ?_⟩
    · rw [e1]; show _ = Value.slice B q.length cb; rw [hq.1]
    · show PRd w B q.length q; rw [hq.1]; exact hq
  refine ⟨(List.range n).attach.map fun i => Classical.choose (key i.1 (List.mem_range.mp i.2)), ⟨by simp, fun h0 => ?_⟩, hn, hcap⟩
  obtain ⟨g, o, ha, hc⟩ := hf h0
  refine ⟨g, o, ha, fun i hi => ?_⟩
  have hx : ((List.range n).attach.map fun i => Classical.choose (key i.1 (List.mem_range.mp i.2))).getD i default = Classical.choose (key i hi) := by
    rw [List.getD_eq_getElem?_getD, List.getElem?_map, List.getElem?_eq_getElem (by simpa using hi)]
    simp
  rw [hx]
  obtain ⟨s0, s2, B, cb, s1, sp⟩ := Classical.choose_spec (key i hi)
  have hs : (#[] : Array Field).size ≤ 3 := by simp
  refine ⟨B, cb, ?_, ?_, ?_, sp⟩
  · rw [← s0]; exact hc i 0 hi (by decide)
  · rw [← s1]; exact hc i 1 hi (by decide)
  · rw [← s2]; exact hc i 2 hi (by decide)
