import Derived.Test.YtbmemogajgbdgaaM14
namespace Go.Proofs.Ytbmemogajgbdgaa
open Go.RowKit Go.Gf
/-- n rows in blocks of their own, told by a block of slices. -/
def RI (base : Nat) (wr : World) (go n : Nat) (s : St) (G C : Nat → Nat) : Prop :=
  CellsAt wr go n (fun i => .slice (some ⟨G i, 0, none⟩) (2 * n) (C i)) ∧ (∀ i, i < n → BytesAt wr (G i) (2 * n) (s i) ∧ base ≤ G i ∧ go ≠ G i) ∧ (∀ i j, i < n → j < n → G i = G j → i = j) ∧ ∀ i, i < n → 2 * n ≤ C i
section
variable {base go n : Nat} {wr w' : World} {s : St} {G C : Nat → Nat}
theorem RI.cell (h : RI base wr go n s G C) (i : Nat) (hi : i < n) : wr.cell? ⟨go, i, none⟩ = some (.slice (some ⟨G i, 0, none⟩) (2 * n) (C i)) := h.1.cell i hi
theorem RI.frozen (h : RI base wr go n s G C) (i : Nat) (hi : i < n) : wr.frozen? ⟨go, i, none⟩ = false := h.1.frozen i hi
theorem RI.byte (h : RI base wr go n s G C) (i j : Nat) (hi : i < n) (hj : j < 2 * n) : wr.cell? ⟨G i, j, none⟩ = some (.int .u8 (s i j : Int)) := (h.2.1 i hi).1.cell j hj
theorem RI.ext (h : RI base wr go n s G C) (e : Ext wr w') : RI base w' go n s G C := ⟨h.1.ext e, fun i hi => ⟨(h.2.1 i hi).1.ext e, (h.2.1 i hi).2⟩, h.2.2⟩
theorem RI.congr (h : RI base wr go n s G C) {s' : St} (e : ∀ i, i < n → s' i = s i) : RI base wr go n s' G C := ⟨h.1, fun i hi => ⟨by rw [e i hi]; exact (h.2.1 i hi).1, (h.2.1 i hi).2⟩, h.2.2⟩
theorem RI.of {v : Value} {c : Nat} (hv : v.ownBlock = some go) (hown : wr.ownsRow base 43 1 (.slice (some ⟨go, 0, none⟩) n c) n (rowsL n n G C)) (hR : Rows2 base wr v n n s G) (hC : ∀ i, i < n → 2 * n ≤ C i) : RI base wr go n s G C := by
  obtain ⟨hc, _⟩ := hown.cells1
  refine ⟨hc.congr fun j hj => (rowsL_at n n G C j hj).symm, fun i hi => ⟨(hR.1 i hi).1, (hR.1 i hi).2.1, fun e => (hR.1 i hi).2.2 (by rw [hv, e])⟩, hR.2, hC⟩
def sw (c p : Nat) (G : Nat → Nat) (i : Nat) : Nat := if i = c then G p else if i = p then G c else G i
theorem RI.swap (h : RI base wr go n s G C) (c p : Nat) (hc : c < n) (hp : p < n) :
    RI base ((wr.setCell ⟨go, p, none⟩ (.slice (some ⟨G c, 0, none⟩) (2 * n) (C c))).setCell ⟨go, c, none⟩ (.slice (some ⟨G p, 0, none⟩) (2 * n) (C p))) go n (swapF s c p) (sw c p G) (sw c p C) := by
  have h1 := h.1.set_ (h := fun i => if i = p then .slice (some ⟨G c, 0, none⟩) (2 * n) (C c) else .slice (some ⟨G i, 0, none⟩) (2 * n) (C i)) p (.slice (some ⟨G c, 0, none⟩) (2 * n) (C c)) (fun j _ => rfl)
  have h2 := h1.set_ (h := fun i => .slice (some ⟨sw c p G i, 0, none⟩) (2 * n) (sw c p C i)) c (.slice (some ⟨G p, 0, none⟩) (2 * n) (C p)) (fun j _ => by
    unfold sw
    by_cases e : j = c
    · rw [if_pos e, if_pos e, if_pos e]
    · rw [if_neg e, if_neg e, if_neg e]
      by_cases e2 : j = p
      · rw [if_pos e2, if_pos e2, if_pos e2]
      · rw [if_neg e2, if_neg e2, if_neg e2])
  refine ⟨h2, fun i hi => ?_, fun i j hi hj hij => ?_, fun i hi => by unfold sw; split; exact h.2.2.2 p hp; split; exact h.2.2.2 c hc; exact h.2.2.2 i hi⟩
  · have key : ∀ k, k < n → BytesAt ((wr.setCell ⟨go, p, none⟩ (.slice (some ⟨G c, 0, none⟩) (2 * n) (C c))).setCell ⟨go, c, none⟩ (.slice (some ⟨G p, 0, none⟩) (2 * n) (C p))) (G k) (2 * n) (s k) ∧ base ≤ G k ∧ go ≠ G k := fun k hk =>
      ⟨((h.2.1 k hk).1.far (p := ⟨go, p, none⟩) (Ne.symm (h.2.1 k hk).2.2) _).far (p := ⟨go, c, none⟩) (Ne.symm (h.2.1 k hk).2.2) _, (h.2.1 k hk).2⟩
    unfold swapF sw
    by_cases e : i = c
    · rw [if_pos e, if_pos e]; exact key p hp
    · rw [if_neg e, if_neg e]
      by_cases e2 : i = p
      · rw [if_pos e2, if_pos e2]; exact key c hc
      · rw [if_neg e2, if_neg e2]; exact key i hi
  · unfold sw at hij
    have inj := h.2.2.1
    by_cases e1 : i = c
    · rw [if_pos e1] at hij
      by_cases f1 : j = c
      · omega
      · rw [if_neg f1] at hij
        by_cases f2 : j = p
        · rw [if_pos f2] at hij; have := inj _ _ hp hc hij; omega
        · rw [if_neg f2] at hij; have := inj _ _ hp hj hij; omega
    · rw [if_neg e1] at hij
      by_cases e2 : i = p
      · rw [if_pos e2] at hij
        by_cases f1 : j = c
        · rw [if_pos f1] at hij; have := inj _ _ hc hp hij; omega
        · rw [if_neg f1] at hij
          by_cases f2 : j = p
          · omega
          · rw [if_neg f2] at hij; have := inj _ _ hc hj hij; omega
      · rw [if_neg e2] at hij
        by_cases f1 : j = c
        · rw [if_pos f1] at hij; have := inj _ _ hi hp hij; omega
        · rw [if_neg f1] at hij
          by_cases f2 : j = p
          · rw [if_pos f2] at hij; have := inj _ _ hi hc hij; omega
          · rw [if_neg f2] at hij; exact inj _ _ hi hj hij
def upd (c g : Nat) (G : Nat → Nat) (i : Nat) : Nat := if i = c then g else G i
theorem RI.put (h : RI base wr go n s G C) (c gn cn : Nat) (r : Nat → Nat) (_hc : c < n) (hb : BytesAt wr gn (2 * n) r) (hg : base ≤ gn) (hgo : go ≠ gn) (hne : ∀ i, i < n → G i ≠ gn) (hcn : 2 * n ≤ cn) {s' : St} (hs' : ∀ i, i < n → s' i = if i = c then r else s i) :
    RI base (wr.setCell ⟨go, c, none⟩ (.slice (some ⟨gn, 0, none⟩) (2 * n) cn)) go n s' (upd c gn G) (upd c cn C) := by
  have h2 := h.1.set_ (h := fun i => .slice (some ⟨upd c gn G i, 0, none⟩) (2 * n) (upd c cn C i)) c (.slice (some ⟨gn, 0, none⟩) (2 * n) cn) (fun j _ => by
    unfold upd
    by_cases e : j = c
    · rw [if_pos e, if_pos e, if_pos e]
    · rw [if_neg e, if_neg e, if_neg e])
  refine ⟨h2, fun i hi => ?_, fun i j hi hj hij => ?_, fun i hi => by unfold upd; split; exact hcn; exact h.2.2.2 i hi⟩
  · rw [hs' i hi]
    unfold upd
    by_cases e : i = c
    · rw [if_pos e, if_pos e]
      exact ⟨hb.far (p := ⟨go, c, none⟩) (Ne.symm hgo) _, hg, hgo⟩
    · rw [if_neg e, if_neg e]
      exact ⟨(h.2.1 i hi).1.far (p := ⟨go, c, none⟩) (Ne.symm (h.2.1 i hi).2.2) _, (h.2.1 i hi).2⟩
  · unfold upd at hij
    by_cases e1 : i = c
    · by_cases e2 : j = c
      · omega
      · rw [if_pos e1, if_neg e2] at hij
        exact absurd hij.symm (hne j hj)
    · by_cases e2 : j = c
      · rw [if_neg e1, if_pos e2] at hij
        exact absurd hij (hne i hi)
      · rw [if_neg e1, if_neg e2] at hij
        exact h.2.2.1 i j hi hj hij
theorem RI.only {gn : Nat} (h : RI base wr go n s G C) (hO : OnlyB gn wr w') (hgo : go ≠ gn) (hne : ∀ i, i < n → G i ≠ gn) : RI base w' go n s G C :=
  ⟨h.1.only hO hgo, fun i hi => ⟨(h.2.1 i hi).1.only hO (hne i hi), (h.2.1 i hi).2⟩, h.2.2⟩
theorem RI.upd_ (h : RI base wr go n s G C) (i : Nat) (hi : i < n) (r : Nat → Nat) (hO : OnlyB (G i) wr w') (hb : BytesAt w' (G i) (2 * n) r) {s' : St} (hs' : ∀ k, k < n → s' k = if k = i then r else s k) : RI base w' go n s' G C := by
  refine ⟨h.1.only hO (h.2.1 i hi).2.2, fun k hk => ?_, h.2.2⟩
  rw [hs' k hk]
  by_cases e : k = i
  · subst e; rw [if_pos rfl]; exact ⟨hb, (h.2.1 k hk).2⟩
  · rw [if_neg e]
    exact ⟨(h.2.1 k hk).1.only hO (fun x => e (h.2.2.1 k i hk hi x)), (h.2.1 k hk).2⟩
end
theorem scF_full (c n : Nat) (f r : Nat → Nat) (j : Nat) (hj : j < n) : scF c f r n j = f j ^^^ fm c (r j) := by unfold scF; rw [if_pos hj]
