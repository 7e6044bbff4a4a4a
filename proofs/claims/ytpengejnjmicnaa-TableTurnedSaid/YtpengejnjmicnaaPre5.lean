import Derived.Test.YtpengejnjmicnaaPre4
namespace Go
open Go.RowKit
/-- The first n cells of a block of element type t are f 0, f 1, .. -/
def CellsT (w : World) (t : TypeId) (g n : Nat) (f : Nat → Value) : Prop := ∃ (D : Array Value), n ≤ D.size ∧ BlkM w g t D ∧ ∀ j, j < n → D[j]? = some (f j)
section
variable {w w' : World} {t : TypeId} {g n : Nat} {f : Nat → Value}
theorem CellsT.c (h : CellsT w t g n f) : CellsAt w g n f := by
  obtain ⟨D, h1, h2, h3⟩ := h
  exact ⟨t, D, h1, h2, h3⟩
theorem CellsT.lt (h : CellsT w t g n f) : g < w.heap.size := h.c.lt
theorem CellsT.cell (h : CellsT w t g n f) (j : Nat) (hj : j < n) : w.cell? ⟨g, j, none⟩ = some (f j) := h.c.cell j hj
theorem CellsT.frozen (h : CellsT w t g n f) (j : Nat) (hj : j < n) : w.frozen? ⟨g, j, none⟩ = false := h.c.frozen j hj
theorem CellsT.set_ (hb : CellsT w t g n f) {h : Nat → Value} (i : Nat) (v : Value) (hh : ∀ j, j < n → h j = if j = i then v else f j) : CellsT (w.setCell ⟨g, i, none⟩ v) t g n h := by
  obtain ⟨D, hn, hD, hf⟩ := hb
  refine ⟨D.setIfInBounds i v, by rw [Array.size_setIfInBounds]; exact hn, hD.set_ _ _, fun j hj => ?_⟩
  rw [Array.getElem?_setIfInBounds]
  by_cases e : i = j
  · subst e; rw [if_pos rfl, if_pos (by omega), hh i hj, if_pos rfl]
  · rw [if_neg e, hf j hj, hh j hj, if_neg (fun h => e h.symm)]
theorem CellsT.congr (hb : CellsT w t g n f) {h : Nat → Value} (hh : ∀ j, j < n → h j = f j) : CellsT w t g n h := by
  obtain ⟨D, hn, hD, hf⟩ := hb
  exact ⟨D, hn, hD, fun j hj => by rw [hf j hj, hh j hj]⟩
theorem CellsT.heap (hb : CellsT w t g n f) (e : w'.heap[g]? = w.heap[g]?) : CellsT w' t g n f := by
  obtain ⟨D, hn, hD, hf⟩ := hb
  exact ⟨D, hn, hD.of_heap e, hf⟩
theorem CellsT.ext (hb : CellsT w t g n f) (e : Ext w w') : CellsT w' t g n f := by
  obtain ⟨D, hn, hD, hf⟩ := hb
  exact ⟨D, hn, hD.ext e, hf⟩
theorem CellsT.drew (hb : CellsT w t g n f) : CellsT w.drew t g n f := hb
theorem CellsT.drewN (hb : CellsT w t g n f) (k : Nat) : CellsT (w.drewN k) t g n f := hb
theorem CellsT.far (hb : CellsT w t g n f) {p : Addr} (hp : g ≠ p.block) (u : Value) : CellsT (w.setCell p u) t g n f := hb.heap (Below.heap_setCell w p u g hp)
theorem CellsT.only {k : Nat} (hb : CellsT w t k n f) (h : OnlyB g w w') (hne : k ≠ g) : CellsT w' t k n f := hb.heap (h.block k hb.lt (by simpa using hne))
/-- Blocks of unlike element types are two. -/
theorem CellsT.ne {t' : TypeId} {g' n' : Nat} {f' : Nat → Value} (h : CellsT w t g n f) (h' : CellsT w t' g' n' f') (hne : t ≠ t') : g ≠ g' := by
  rintro rfl
  obtain ⟨D, _, ⟨lo, hi, hb, _⟩, _⟩ := h
  obtain ⟨D', _, ⟨lo', hi', hb', _⟩, _⟩ := h'
  rw [hb] at hb'
  injection hb' with hb'
  injection hb' with _ ht
  exact hne ht
theorem CellsT.farT {t' : TypeId} {g' n' i : Nat} {f' : Nat → Value} (h : CellsT w t g n f) (h' : CellsT w t' g' n' f') (hne : t ≠ t') (u : Value) : CellsT (w.setCell ⟨g', i, none⟩ u) t g n f := h.far (h.ne h' hne) u
theorem CellsT.of_blk {cs : Array Value} (h : Blk w g t cs) (hn : n ≤ cs.size) (hf : ∀ j, j < n → cs[j]? = some (f j)) : CellsT w t g n f := ⟨cs, hn, h.m, hf⟩
theorem CellsT.rd (hb : CellsT w t g n f) (xs : List Value) (hl : xs.length = n) (hx : ∀ i v, xs[i]? = some v → f i = v) : Rd w (some ⟨g, 0, none⟩) n xs := hb.c.rd xs hl hx
end
theorem World.ownsRow.cellsT {w : World} {base : Nat} {e : TypeId} {g n cap : Nat} {xs : List Value} (h : w.ownsRow base e 1 (.slice (some ⟨g, 0, none⟩) n cap) n xs) : CellsT w e g n (fun i => xs.getD i undef) ∧ base ≤ g := by
  rcases h.2 with ⟨h0, _⟩ | ⟨g', c', cur, hv, hb, hg, hc1, _, hs, ht⟩
  · cases h0
  · injection hv with h1 h2 h3
    injection h1 with h1; injection h1 with h1
    subst h1; subst h3
    refine ⟨⟨cur, by omega, ⟨0, 0, hg, .inl (Nat.le_refl _)⟩, fun j hj => ?_⟩, hb⟩
    show cur[j]? = some (xs.getD j undef)
    rw [← ht, List.getD_eq_getElem?_getD, List.getElem?_take, if_pos (by omega), Array.getElem?_toList]
    rw [Array.getElem?_eq_getElem (by omega)]; rfl
/-- Only the blocks of H have turned, and what is new. -/
structure Turn (H : Nat → Prop) (w w' : World) : Prop where
  os : w'.os = w.os
  tape : w'.tape = w.tape
  output : w'.output = w.output
  size : w.heap.size ≤ w'.heap.size
  block : ∀ k, k < w.heap.size → ¬ H k → w'.heap[k]? = w.heap[k]?
section
variable {H K : Nat → Prop} {w w' w1 W : World}
theorem Turn.of (h : Ext w w') : Turn H w w' := ⟨h.os, h.tape, h.output, h.size, fun k hk _ => h.block k hk⟩
theorem Turn.refl (w : World) : Turn H w w := Turn.of (Ext.refl w)
theorem Turn.trans (h : Turn H w w1) (k : Turn H w1 w') : Turn H w w' :=
  ⟨k.os.trans h.os, k.tape.trans h.tape, k.output.trans h.output, Nat.le_trans h.size k.size, fun g hg hn => (k.block g (Nat.lt_of_lt_of_le hg h.size) hn).trans (h.block g hg hn)⟩
theorem Turn.mono (h : Turn H w w') (hk : ∀ k, H k → K k) : Turn K w w' := ⟨h.os, h.tape, h.output, h.size, fun k hl hn => h.block k hl (fun hh => hn (hk k hh))⟩
/-- Of what is turned only what was there counts. -/
theorem Turn.old (h : Turn H w w') (hk : ∀ k, k < w.heap.size → H k → K k) : Turn K w w' := ⟨h.os, h.tape, h.output, h.size, fun k hl hn => h.block k hl (fun hh => hn (hk k hl hh))⟩
theorem Turn.set_ {a : Addr} (h : H a.block) (u : Value) : Turn H w (w.setCell a u) := by
  refine ⟨?_, ?_, ?_, ?_, fun k _ hn => Below.heap_setCell w a u k (fun e => hn (by rw [e]; exact h))⟩
  all_goals first | (simp [World.setCell]; done) | (unfold World.setCell; split <;> simp)
theorem Turn.only {g : Nat} (hg : H g) (h : OnlyB g w w') : Turn H w w' :=
  ⟨h.os, h.tape, h.output, h.size, fun k hk hn => h.block k hk (fun e => hn (by cases e; exact hg))⟩
theorem Turn.ext (h : Turn H w w') (hE : Ext W w) (hp : ∀ k, H k → W.heap.size ≤ k) : Ext W w' :=
  ⟨h.os.trans hE.os, h.tape.trans hE.tape, h.output.trans hE.output, Nat.le_trans hE.size h.size, fun k hk => (h.block k (Nat.lt_of_lt_of_le hk hE.size) (fun hh => by have := hp k hh; omega)).trans (hE.block k hk)⟩
theorem Turn.cellv (h : Turn H w w') {a : Addr} {v : Value} (hc : w.cell? a = some v) (hn : ¬ H a.block) : w'.cell? a = some v := by
  rw [← hc]; exact World.cell?_of_block (h.block a.block (block_lt_of_cell hc) hn)
theorem Turn.cellsT (h : Turn H w w') {t : TypeId} {g n : Nat} {f : Nat → Value} (hc : CellsT w t g n f) (hn : ¬ H g) : CellsT w' t g n f := hc.heap (h.block g hc.lt hn)
theorem Turn.cellsAt (h : Turn H w w') {g n : Nat} {f : Nat → Value} (hc : CellsAt w g n f) (hn : ¬ H g) : CellsAt w' g n f := hc.heap (h.block g hc.lt hn)
end
end Go
