import Derived.Test.YtimhekdfajakbaaR27
import Derived.Deep.RegionLaw
namespace Go.Proofs.Ytimhekdfajakbaa
open Go.RowKit
theorem ownsRow_typed {w : World} {base g : Nat} {e : TypeId} {v : Value} {n : Nat} {xs : List Value} (h : w.ownsRow base e 1 v n xs) (hv : v.ownBlock = some g) : ∃ D : Array Value, w.heap[g]? = some (.cells D e (0, 0)) := by
  rcases h.2 with ⟨h1, _⟩ | ⟨g', cap, cur, h1, _, h2, _⟩
  · rw [h1] at hv; cases hv
  · rw [h1] at hv
    simp only [Value.ownBlock, Option.some.injEq] at hv
    subst hv
    exact ⟨cur, h2⟩
theorem _root_.Go.CellsT.grown {w w' : World} {t e : TypeId} {base g n m : Nat} {f : Nat → Value} {v : Value} {xs : List Value} (hc : CellsT w t g n f) (hown : w.ownsRow base e 1 v m xs) (hg : w.grownBy w' v.ownBlock) (hne : t ≠ e) : CellsT w' t g n f := by
  refine hc.heap (hg.block g hc.lt fun he => ?_)
  obtain ⟨D, hD⟩ := ownsRow_typed hown he.symm
  obtain ⟨D', _, ⟨lo, hi, hb, _⟩, _⟩ := hc
  rw [hb] at hD
  injection hD with hD
  injection hD with _ ht
  exact hne ht
theorem ownsRow_grown {w w' : World} {t e : TypeId} {base base' n m : Nat} {u v : Value} {xs ys : List Value} (hc : w.ownsRow base' t 1 u n ys) (hown : w.ownsRow base e 1 v m xs) (hg : w.grownBy w' v.ownBlock) (hne : t ≠ e) : w'.ownsRow base' t 1 u n ys := by
  refine hc.kept hg ?_
  cases hu : u.ownBlock with
  | none => exact .inl rfl
  | some g =>
    right
    intro he
    obtain ⟨D, hD⟩ := ownsRow_typed hc hu
    obtain ⟨D', hD'⟩ := ownsRow_typed hown (he.symm)
    rw [hD] at hD'
    injection hD' with h1
    injection h1 with _ ht
    exact hne ht
theorem ownsRow_set {w : World} {t e : TypeId} {base g n m i : Nat} {u x : Value} {ys : List Value} {f : Nat → Value} (hc : w.ownsRow base t 1 u n ys) (hx : CellsT w e g m f) (hne : t ≠ e) : (w.setCell ⟨g, i, none⟩ x).ownsRow base t 1 u n ys := by
  refine hc.only ((OnlyB.refl g w).setCell i x) fun he => ?_
  obtain ⟨D, hD⟩ := ownsRow_typed hc he
  obtain ⟨D', _, ⟨lo, hi, hb, _⟩, _⟩ := hx
  rw [hb] at hD
  injection hD with hD
  injection hD with _ ht
  exact hne ht.symm
/-- The document's rack while it is made: k1 drives have their texts, k2 their marks. -/
structure NewInv (B : Nat) (w : World) (gx gC nd ns k1 k2 : Nat) (A1 A2 : Option Addr) (c1 c2 : Nat) (hS hB cs : Nat → Nat) : Prop where
  x : CellsT w 61 gx 4 (fun i => if i = 0 then .slice A1 k1 c1 else if i = 1 then .slice A2 k2 c2 else if i = 2 then .slice (some ⟨gC, 0, none⟩) nd nd else .int .i64 (-1))
  s : w.ownsRow B 46 1 (.slice A1 k1 c1) k1 ((List.range k1).map fun i => .slice (some ⟨hS i, 0, none⟩) ns (cs i))
  b : w.ownsRow B 63 1 (.slice A2 k2 c2) k2 ((List.range k2).map fun i => .slice (some ⟨hB i, 0, none⟩) ns ns)
  c : CellsT w 36 gC nd (fun _ => .int .u64 0)
  ss : ∀ i, i < k1 → CellsT w 9 (hS i) ns (fun _ => .string zero64)
  bs : ∀ i, i < k2 → CellsT w 4 (hB i) ns (fun _ => .bool false)
  iS : ∀ i j, i < k1 → j < k1 → hS i = hS j → i = j
  iB : ∀ i j, i < k2 → j < k2 → hB i = hB j → i = j
  fx : B ≤ gx
  fc : B ≤ gC
  fs : ∀ i, i < k1 → B ≤ hS i
  fb : ∀ i, i < k2 → B ≤ hB i
section
variable {B gx gC nd ns k1 k2 c1 c2 : Nat} {w w' : World} {A1 A2 : Option Addr} {hS hB cs : Nat → Nat}
theorem NewInv.ext (h : NewInv B w gx gC nd ns k1 k2 A1 A2 c1 c2 hS hB cs) (e : Ext w w') : NewInv B w' gx gC nd ns k1 k2 A1 A2 c1 c2 hS hB cs :=
  ⟨h.x.ext e, h.s.ext e, h.b.ext e, h.c.ext e, fun i hi => (h.ss i hi).ext e, fun i hi => (h.bs i hi).ext e, h.iS, h.iB, h.fx, h.fc, h.fs, h.fb⟩
theorem setN_same (f : Nat → Nat) (d v : Nat) : setN f d v d = v := if_pos rfl
theorem setN_ne (f : Nat → Nat) (d v i : Nat) (h : i ≠ d) : setN f d v i = f i := if_neg h
theorem rows_snoc {α : Type} (f g : Nat → α) (k : Nat) (h : ∀ i, i < k → f i = g i) : (List.range (k + 1)).map f = (List.range k).map g ++ [f k] := by
  rw [List.range_succ, List.map_append]
  congr 1
  exact List.map_congr_left fun i hi => h i (List.mem_range.mp hi)
/-- Behind 'r.S = append(r.S, l)'. -/
theorem NewInv.addS (h : NewInv B w gx gC nd ns k1 k2 A1 A2 c1 c2 hS hB cs) {b cb : Nat} (hb : CellsT w 9 b ns (fun _ => .string zero64)) (hnb : ∀ i, i < k1 → hS i ≠ b) (hB' : B ≤ b) {v : Value} {o : Obj} {w1 : World} {g4 cap4 : Nat}
    (hown : w1.ownsRow B 46 1 (.slice (some ⟨g4, 0, none⟩) (k1 + 1) cap4) (k1 + 1) (((List.range k1).map fun i => .slice (some ⟨hS i, 0, none⟩) ns (cs i)) ++ [.slice (some ⟨b, 0, none⟩) ns cb])) (hv : v = .slice A1 k1 c1) (hg : (w.alloc o).grownBy w1 v.ownBlock) :
    NewInv B (w1.setCell ⟨gx, 0, none⟩ (.slice (some ⟨g4, 0, none⟩) (k1 + 1) cap4)) gx gC nd ns (k1 + 1) k2 (some ⟨g4, 0, none⟩) A2 cap4 c2 (setN hS k1 b) hB (setN cs k1 cb) := by
  subst hv
  have e := (Ext.refl w).alloc o
  have h0 := h.ext e
  have hx1 := h0.x.grown h0.s hg (by decide)
  have hb1 := ownsRow_grown h0.b h0.s hg (by decide)
  have hc1 := h0.c.grown h0.s hg (by decide)
  have hss : ∀ i, i < k1 → CellsT w1 9 (hS i) ns (fun _ => .string zero64) := fun i hi => (h0.ss i hi).grown h0.s hg (by decide)
  have hbb := (hb.ext e).grown h0.s hg (by decide)
  have hbs : ∀ i, i < k2 → CellsT w1 4 (hB i) ns (fun _ => .bool false) := fun i hi => (h0.bs i hi).grown h0.s hg (by decide)
  refine ⟨hx1.set_ 0 _ (fun j hj => by
    match j, hj with
    | 0, _ => rfl
    | 1, _ => rfl
    | 2, _ => rfl
    | 3, _ => rfl), ?_, ownsRow_set hb1 hx1 (by decide), hc1.farT hx1 (by decide) _, fun i hi => ?_, fun i hi => (hbs i hi).farT hx1 (by decide) _, fun i j hi hj he => ?_, h.iB, h.fx, h.fc, fun i hi => ?_, h.fb⟩
  · have := ownsRow_set (i := 0) (x := .slice (some ⟨g4, 0, none⟩) (k1 + 1) cap4) hown hx1 (by decide)
    rw [rows_snoc _ (fun i => .slice (some ⟨hS i, 0, none⟩) ns (cs i)) k1 (fun i hi => by rw [setN_ne _ _ _ _ (by omega), setN_ne _ _ _ _ (by omega)]), setN_same, setN_same]
    exact this
  · by_cases e : i = k1
    · subst e; rw [setN_same]; exact hbb.farT hx1 (by decide) _
    · rw [setN_ne _ _ _ _ e]; exact (hss i (by omega)).farT hx1 (by decide) _
  · by_cases e1 : i = k1
    · by_cases e2 : j = k1
      · omega
      · rw [e1, setN_same, setN_ne _ _ _ _ e2] at he
        exact absurd he.symm (hnb j (by omega))
    · by_cases e2 : j = k1
      · rw [e2, setN_same, setN_ne _ _ _ _ e1] at he
        exact absurd he (hnb i (by omega))
      · rw [setN_ne _ _ _ _ e1, setN_ne _ _ _ _ e2] at he
        exact h.iS i j (by omega) (by omega) he
  · by_cases e : i = k1
    · subst e; rw [setN_same]; exact hB'
    · rw [setN_ne _ _ _ _ e]; exact h.fs i (by omega)
/-- Behind 'r.Bad = append(r.Bad, make([]bool, sectors))'. -/
theorem NewInv.addB (h : NewInv B w gx gC nd ns k1 k2 A1 A2 c1 c2 hS hB cs) {b : Nat} (hb : CellsT w 4 b ns (fun _ => .bool false)) (hnb : ∀ i, i < k2 → hB i ≠ b) (hB' : B ≤ b) {v : Value} {o : Obj} {w1 : World} {g4 cap4 : Nat}
    (hown : w1.ownsRow B 63 1 (.slice (some ⟨g4, 0, none⟩) (k2 + 1) cap4) (k2 + 1) (((List.range k2).map fun i => .slice (some ⟨hB i, 0, none⟩) ns ns) ++ [.slice (some ⟨b, 0, none⟩) ns ns])) (hv : v = .slice A2 k2 c2) (hg : (w.alloc o).grownBy w1 v.ownBlock) :
    NewInv B (w1.setCell ⟨gx, 1, none⟩ (.slice (some ⟨g4, 0, none⟩) (k2 + 1) cap4)) gx gC nd ns k1 (k2 + 1) A1 (some ⟨g4, 0, none⟩) c1 cap4 hS (setN hB k2 b) cs := by
  subst hv
  have e := (Ext.refl w).alloc o
  have h0 := h.ext e
  have hx1 := h0.x.grown h0.b hg (by decide)
  have hs1 := ownsRow_grown h0.s h0.b hg (by decide)
  have hc1 := h0.c.grown h0.b hg (by decide)
  have hss : ∀ i, i < k1 → CellsT w1 9 (hS i) ns (fun _ => .string zero64) := fun i hi => (h0.ss i hi).grown h0.b hg (by decide)
  have hbb := (hb.ext e).grown h0.b hg (by decide)
  have hbs : ∀ i, i < k2 → CellsT w1 4 (hB i) ns (fun _ => .bool false) := fun i hi => (h0.bs i hi).grown h0.b hg (by decide)
  refine ⟨hx1.set_ 1 _ (fun j hj => by
    match j, hj with
    | 0, _ => rfl
    | 1, _ => rfl
    | 2, _ => rfl
    | 3, _ => rfl), ownsRow_set hs1 hx1 (by decide), ?_, hc1.farT hx1 (by decide) _, fun i hi => (hss i hi).farT hx1 (by decide) _, fun i hi => ?_, h.iS, fun i j hi hj he => ?_, h.fx, h.fc, h.fs, fun i hi => ?_⟩
  · have := ownsRow_set (i := 1) (x := .slice (some ⟨g4, 0, none⟩) (k2 + 1) cap4) hown hx1 (by decide)
    rw [rows_snoc _ (fun i => .slice (some ⟨hB i, 0, none⟩) ns ns) k2 (fun i hi => by rw [setN_ne _ _ _ _ (by omega)]), setN_same]
    exact this
  · by_cases e : i = k2
    · subst e; rw [setN_same]; exact hbb.farT hx1 (by decide) _
    · rw [setN_ne _ _ _ _ e]; exact (hbs i (by omega)).farT hx1 (by decide) _
  · by_cases e1 : i = k2
    · by_cases e2 : j = k2
      · omega
      · rw [e1, setN_same, setN_ne _ _ _ _ e2] at he
        exact absurd he.symm (hnb j (by omega))
    · by_cases e2 : j = k2
      · rw [e2, setN_same, setN_ne _ _ _ _ e1] at he
        exact absurd he (hnb i (by omega))
      · rw [setN_ne _ _ _ _ e1, setN_ne _ _ _ _ e2] at he
        exact h.iB i j (by omega) (by omega) he
  · by_cases e : i = k2
    · subst e; rw [setN_same]; exact hB'
    · rw [setN_ne _ _ _ _ e]; exact h.fb i (by omega)
end
