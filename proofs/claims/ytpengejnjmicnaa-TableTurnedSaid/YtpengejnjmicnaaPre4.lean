import Derived.Test.YtpengejnjmicnaaPre3
import Derived.Deep.Slices
import Derived.Deep.Fields
import Derived.ChangeSame
import Derived.SliceStrings
namespace Go
open Go.RowKit Go.ChangeShapes Go.WideShapes Go.Deep
/-- A slice of structs of k one-cell fields that reads as f: element i, field j. -/
def FRd (w : World) (A : Option Addr) (n k : Nat) (f : Nat → Nat → Value) : Prop :=
  0 < n → ∃ g o, A = some ⟨g, o, none⟩ ∧ ∀ i j, i < n → j < k → w.cell? ⟨g, o + i * k + j, none⟩ = some (f i j)
section
variable {w w' : World} {A : Option Addr} {n k : Nat} {f : Nat → Nat → Value}
theorem FRd.nil (w : World) (A : Option Addr) (k : Nat) (f : Nat → Nat → Value) : FRd w A 0 k f := fun h => absurd h (by omega)
theorem FRd.ext (h : FRd w A n k f) (e : Ext w w') : FRd w' A n k f := fun hn => by
  obtain ⟨g, o, e1, hc⟩ := h hn
  exact ⟨g, o, e1, fun i j hi hj => e.cellv (hc i j hi hj)⟩
theorem FRd.at_ (h : FRd w A n k f) (hn : 0 < n) (_ : 0 < k) : ∃ g o, A = some ⟨g, o, none⟩ ∧ ∀ i j, i < n → j < k → w.cell? ⟨g, o + i * k + j, none⟩ = some (f i j) := h hn
theorem FRd.congr (h : FRd w A n k f) {f' : Nat → Nat → Value} (hf : ∀ i j, i < n → j < k → f' i j = f i j) : FRd w A n k f' := fun hn => by
  obtain ⟨g, o, e1, hc⟩ := h hn
  exact ⟨g, o, e1, fun i j hi hj => by rw [hf i j hi hj]; exact hc i j hi hj⟩
end
theorem addr_cell {w : World} {a : Addr} {v : Value} (h : w.cell? (a.add 0) = some v) : a.spot = none := by
  simpa [Addr.add] using World.cell?_spot h
section
variable {H : Type} {enc : TypeId × Value → H} {P : Program} {w : World} {base : Nat} {spare : Nat → Bool} {held : Bool}
/-- An argument that is a slice of structs of one-cell fields. -/
theorem open_fields {t e : TypeId} {fs : Array Field} {A : Option Addr} {len cap : Nat} {d : DataW H} {ps : List MemPlace} (ht : P.underlying t = some (.slice e)) (he : P.underlying e = some (.struct fs))
    (hone : oneCellFields P fs = true) (hC : P.cellsOf e = fs.size) (hk : 0 < fs.size) (h : DataW.Trod enc P w base spare held t (.slice A len cap) d ps) :
    ∃ f : Nat → Nat → Value, FRd w A len fs.size f ∧ len ≤ maxLen ∧ ∀ i j fl, i < len → fs[j]? = some fl → ∃ m y, DataW.trod enc P w base spare held m fl.type [f i j] = some y := by
  obtain ⟨fuel, hf⟩ := h
  rcases open_slice ht hf with ⟨hcs, _⟩ | ⟨a, len', cap', m, n, D, Pl, hcs, _, hl, hm, hmm, _, hi⟩
  · simp [Value.cells] at hcs
    obtain ⟨rfl, rfl, rfl⟩ := hcs
    exact ⟨fun _ _ => undef, FRd.nil _ _ _ _, Nat.zero_le _, fun i j fl h => absurd h (by omega)⟩
  · simp [Value.cells] at hcs
    obtain ⟨rfl, rfl, rfl⟩ := hcs
    have hlm : len ≤ m := by rw [hmm]; split <;> omega
    have key : ∀ i, i < len → ∀ j fl, fs[j]? = some fl → ∃ v, w.cell? (a.add (i * fs.size + j)) = some v ∧ ∃ m y, DataW.trod enc P w base spare held m fl.type [v] = some y := by
      intro i hil j fl hj
      obtain ⟨cs', hc, ht'⟩ := hi i (by omega)
      rw [hC] at hc
      obtain ⟨ys, n', hn', hy, hlen, hyl, hff⟩ := DataW.trod_struct he ht'
      obtain ⟨_, hcl, hat⟩ := World.cells?_some hc
      obtain ⟨ho, hk1⟩ := hone_of hone j fl hj
      have hjl : j < fs.size := (Array.getElem?_eq_some_iff.1 hj).1
      have hcell := hat j hjl
      have h1 := hff j fl hj
      rw [ho, hk1] at h1
      have hone' : (cs'.drop j).take 1 = [cs'[j]'(by omega)] := by
        rw [List.drop_eq_getElem_cons (by omega)]; rfl
      rw [hone'] at h1
      have hys : ys[j]? = some (ys[j]'(by omega)) := List.getElem?_eq_getElem (by omega)
      refine ⟨cs'[j]'(by omega), ?_, _, _, h1.trans hys⟩
      rw [← Go.Deep.add_add, hcell, List.getElem?_eq_getElem (by omega)]
    refine ⟨fun i j => (w.cell? (a.add (i * fs.size + j))).getD undef, ?_, Nat.le_trans hl hm, ?_⟩
    · intro hn
      have hs : a.spot = none := by
        obtain ⟨v, hv, _⟩ := key 0 hn 0 (fs[0]'hk) (Array.getElem?_eq_getElem hk)
        rw [Nat.zero_mul] at hv
        exact addr_cell hv
      obtain ⟨b, o, sp⟩ := a
      simp only at hs
      subst hs
      refine ⟨b, o, rfl, fun i j hil hjl => ?_⟩
      obtain ⟨v, hv, _⟩ := key i hil j (fs[j]'hjl) (Array.getElem?_eq_getElem hjl)
      show _ = some ((w.cell? ((⟨b, o, none⟩ : Addr).add (i * fs.size + j))).getD undef)
      rw [hv, Option.getD_some]
      rw [Addr.add_mid] at hv
      rw [← hv, Nat.add_assoc]
    · intro i j fl hil hj
      obtain ⟨v, hv, hr⟩ := key i hil j fl hj
      simp only [hv, Option.getD_some]
      exact hr
end
section
variable {H : Type} {enc : TypeId × Value → H} {P : Program} {w : World} {base : Nat} {spare : Nat → Bool} {held : Bool} {t : TypeId} {m : Nat} {v : Value} {y : DataW H × List MemPlace}
theorem fld_int {k : IntKind} (ht : P.underlying t = some (.int k)) (h : DataW.trod enc P w base spare held m t [v] = some y) : ∃ n, v = .int k n ∧ (Lit.int k n).wf = true := by
  obtain ⟨n, h1, _, h2⟩ := DataW.trod_int ht h
  exact ⟨n, by simpa using h1, h2⟩
theorem fld_string (ht : P.underlying t = some .string) (h : DataW.trod enc P w base spare held m t [v] = some y) : ∃ s, v = .string s ∧ s.size ≤ maxLen := by
  obtain ⟨s, h1, _, h2⟩ := DataW.trod_string ht h
  exact ⟨s, by simpa using h1, h2⟩
theorem fld_bool (ht : P.underlying t = some .bool) (h : DataW.trod enc P w base spare held m t [v] = some y) : ∃ b, v = .bool b := by
  obtain ⟨b, h1, _⟩ := DataW.trod_bool ht h
  exact ⟨b, by simpa using h1⟩
end
/-- Values of int kinds and texts that were read off cells. -/
def Value.int! : Value → Int
  | .int _ n => n
  | _ => 0
def Value.str! : Value → ByteArray
  | .string s => s
  | _ => ByteArray.empty
def Value.bool! : Value → Bool
  | .bool b => b
  | _ => false
end Go
