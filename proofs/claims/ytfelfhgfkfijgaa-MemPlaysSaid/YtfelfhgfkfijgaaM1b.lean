import Derived.Test.YtfelfhgfkfijgaaM1
import Derived.ProofKit
import Derived.OpenShut
import Derived.ShutString
import Derived.ChangeOld
import Derived.SliceStrings
namespace Go.Proofs.Ytfelfhgfkfijgaa
open Go.RowKit Go.Nb Go.ChangeShapes Go.WideShapes Go.ChangeAt Go.Deep
theorem slice_cap {H : Type} {enc : TypeId × Value → H} {P : Program} {w : World} {base : Nat} {spare : Nat → Bool} {held : Bool} {t e : TypeId} {A : Option Addr} {n c : Nat} {d : DataW H} {ps : List MemPlace} (ht : P.underlying t = some (.slice e)) (h : DataW.Trod enc P w base spare held t (.slice A n c) d ps) : n ≤ c := by
  obtain ⟨fuel, hf⟩ := h
  rcases open_slice ht hf with ⟨hcs, _⟩ | ⟨a, len', cap', m, n', D, Pl, hcs, _, hl, hm, hmm, _, hi⟩
  · simp [Value.cells] at hcs
    omega
  · simp [Value.cells] at hcs
    omega
/-- What is known of pairs that are handed on. -/
def PrOk (n c : Nat) (l : List Pr) : Prop := n ≤ c ∧ ∀ x ∈ l, x.k.length ≤ maxLen ∧ x.v.length ≤ maxLen
theorem open_t22 {H : Type} {enc : TypeId × Value → H} {w : World} {base : Nat} {spare : Nat → Bool} {held : Bool} {A : Option Addr} {n c : Nat} {d : DataW H} {ps : List MemPlace} (h : DataW.Trod enc Try.prog w base spare held 22 (.slice A n c) d ps) :
    ∃ l : List Pr, PRd w A n l ∧ n ≤ maxLen ∧ PrOk n c l := by
  have hcap := slice_cap Try.underlying22 h
  obtain ⟨f, hf, hn, hr⟩ := open_fields Try.underlying22 Try.underlying30 (by kernel_rfl) (by kernel_rfl) (by decide) h
  have key : ∀ i, i < n → ∃ x : Pr, (x.k.length ≤ maxLen ∧ x.v.length ≤ maxLen) ∧ ∀ j, j < 2 → f i j = .string (Bt (if j = 0 then x.k else x.v)) := by
    intro i hi
    obtain ⟨m0, y0, h0⟩ := hr i 0 _ hi rfl
    obtain ⟨m1, y1, h1⟩ := hr i 1 _ hi rfl
    obtain ⟨a0, e0, w0⟩ := fld_string Try.underlying9 h0
    obtain ⟨a1, e1, w1⟩ := fld_string Try.underlying9 h1
    refine ⟨⟨Ls a0, Ls a1⟩, ⟨w0, w1⟩, fun j hj => ?_⟩
    match j, hj with
    | 0, _ => exact e0
    | 1, _ => exact e1
  refine ⟨(List.range n).attach.map fun i => Classical.choose (key i.1 (List.mem_range.mp i.2)), ⟨by simp, hf.congr fun i j hi hj => ?_⟩, hn, hcap, fun x hx => ?_⟩
  · have hx : ((List.range n).attach.map fun i => Classical.choose (key i.1 (List.mem_range.mp i.2))).getD i default = Classical.choose (key i hi) := by
      rw [List.getD_eq_getElem?_getD, List.getElem?_map, List.getElem?_eq_getElem (by simpa using hi)]
      simp
    unfold prF
    rw [hx]
    exact ((Classical.choose_spec (key i hi)).2 j hj).symm
  · obtain ⟨i, _, rfl⟩ := List.mem_map.mp hx
    exact (Classical.choose_spec (key i.1 (List.mem_range.mp i.2))).1

