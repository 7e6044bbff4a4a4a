import Derived.Test.YtpengejnjmicnaaRows
import Derived.WalkKit
import Derived.WalkSpells
import Derived.WalkLawsBesides
import Derived.Lib.Hide
import Derived.Deep.Draws
import Derived.Deep.MidRow
import Derived.Maps.AppendAt
import Derived.Laws.CopyOwn
import Derived.Lib.ConvBytes
import Derived.Deep.QuietTactic
namespace Go
open Go.RowKit

def Blk (w : World) (g : Nat) (t : TypeId) (cs : Array Value) : Prop := w.heap[g]? = some (.cells cs t (0, 0))

section
variable {w w' : World} {g : Nat} {t : TypeId} {cs : Array Value}
theorem Blk.lt (h : Blk w g t cs) : g < w.heap.size := by
  rcases Nat.lt_or_ge g w.heap.size with hlt | hge
  · exact hlt
  · unfold Blk at h; rw [Array.getElem?_eq_none hge] at h; cases h
theorem Blk.cell (h : Blk w g t cs) (i : Nat) : w.cell? ⟨g, i, none⟩ = cs[i]? := cell_of_row w g i cs t (0, 0) h
theorem Blk.frozen (h : Blk w g t cs) (i : Nat) : w.frozen? ⟨g, i, none⟩ = false := by
  unfold Blk at h
  simp [World.frozen?, h]
theorem Blk.new (w : World) (t : TypeId) (cs : Array Value) : Blk (w.alloc (.cells cs t)) w.heap.size t cs := heap_alloc_new w _
theorem Blk.drew (h : Blk w g t cs) : Blk w.drew g t cs := h
theorem Blk.drewN (h : Blk w g t cs) (n : Nat) : Blk (w.drewN n) g t cs := h
theorem Blk.alloc (h : Blk w g t cs) (o : Obj) : Blk (w.alloc o) g t cs := (Below.heap_alloc w o g h.lt).trans h
theorem Blk.set_ (h : Blk w g t cs) (i : Nat) (u : Value) : Blk (w.setCell ⟨g, i, none⟩ u) g t (cs.setIfInBounds i u) := by
  unfold Blk at h ⊢
  simp [World.setCell, Array.getElem?_modify, h]
theorem Blk.far (h : Blk w g t cs) {p : Addr} (hp : g ≠ p.block) (u : Value) : Blk (w.setCell p u) g t cs := (Below.heap_setCell w p u g hp).trans h
theorem Blk.below {B : Nat} (h : Blk w g t cs) (hb : Below B w w') (hg : g < B) : Blk w' g t cs := (hb.block g hg).trans h
theorem Blk.grown {row : Option Nat} (h : Blk w g t cs) (hb : w.grownBy w' row) (hg : some g ≠ row) : Blk w' g t cs := (hb.block g h.lt hg).trans h
end

section
variable {P : Program} {ops : Array Oper} {rest : List Oper} {a : Act} {w : World} {Q : Exit → Act → World → Prop}

/-- A new variable of a large array. -/
theorem wpList_alloc_big {o : Oper} (hgd : o.guard = none) (t : TypeId) (ho : o.op = .alloc t) (Z : Array Value)
    (hz : ∀ w, (zeroValue t).run P w = .ok (.agg Z) w)
    (h : wpList P ops Q rest (a.put o.dst (.pointer (some ⟨w.heap.size, 0, none⟩))) (w.alloc (.cells Z t))) : wpList P ops Q (o :: rest) a w := by
  refine wpList_plain hgd fun _ hK => ?_
  unfold Oper.wp execOp
  simp only [ho, Instr.alloc, newVar, newRow, newObj, Sem.run_bind, Sem.run_pure, hz, Result.andThen_ok, Value.cells]
  exact hK _ _ h

/-- A whole array is stored into a block that is known whole. -/
theorem wpList_store_big {o : Oper} (hgd : o.guard = none) (t : TypeId) (x y : Operand) (ho : o.op = .store t x y) (g : Nat) (e : TypeId) (old cs : Array Value)
    (hx : a.eval x = .pointer (some ⟨g, 0, none⟩)) (hy : a.eval y = .agg cs) (hb : Blk w g e old) (hs : old.size = cs.size) (hi : (P.info? t).map (·.size) = some cs.size)
    (h1 : ∀ v ∈ cs.toList, v.oneCell' = true) (h : wpList P ops Q rest (a.put o.dst undef) (w.setRow g cs)) : wpList P ops Q (o :: rest) a w := by
  refine wpList_plain hgd fun _ hK => ?_
  have hst := run_storeCells_at P g 0 e cs.toList 0 old w hb (by simp [hs]) h1
  have hrun : (storeVar t ⟨g, 0, none⟩ (.agg cs)).run P w = .ok () (w.setRow g cs) := by
    cases hq : P.info? t with
    | none => simp [hq] at hi
    | some i =>
      have hs' : cs.size = i.size := by simp [hq] at hi; omega
      simp [Nat.add_zero] at hst
      have hd : old.toList.drop cs.size = [] := by simp [hs]
      simp [storeVar, sizeOf, typeInfo, hq, Value.cells, ← hs', hst]
      rw [hd]; simp
  unfold Oper.wp execOp
  simp only [ho, hx, hy, Instr.storeAt, Instr.sureAddr, Sem.run_bind, Sem.run_pure, Result.andThen_ok, hrun]
  exact hK _ _ h

/-- The result lies in a block that is known whole. -/
theorem ret_row {fn : Func} {R : Ending → World → Prop} {p : Tmp} {ty : TypeId} (hres : fn.results = #[.cell p ty]) (g : Nat) (t : TypeId) (cs : Array Value) (d : TypeDesc)
    (hp : a.tmps.getD p undef = .pointer (some ⟨g, 0, none⟩)) (hg : Blk w g t cs)
    (hu : P.underlying ty = some d) (hd : (match d with | .struct _ | .array _ _ => true | _ => false) = true) (hi : (P.info? ty).map (·.size) = some cs.size)
    (hde : a.defers = []) (hR : R (.returned (.agg cs)) w) : bodyPost P fn R .ret a w :=
  bodyPost_ret (results_cell_row hres a.tmps w g t cs (0, 0) d hp hg hu hd hi) hde hR
end

theorem Blk.setRow {w : World} {g : Nat} {t : TypeId} {old : Array Value} (h : Blk w g t old) (cs : Array Value) : Blk (w.setRow g cs) g t cs := setRow_heap w g old cs t (0, 0) h
theorem Blk.setRow_far {w : World} {g g' : Nat} {t : TypeId} {cs : Array Value} (h : Blk w g t cs) (hne : g ≠ g') (cs' : Array Value) : Blk (w.setRow g' cs') g t cs := (setRow_other w g' g cs' hne).trans h

/-- A block that is known whole, whatever mark stands behind its end. -/
def BlkM (w : World) (g : Nat) (t : TypeId) (cs : Array Value) : Prop := ∃ lo hi, w.heap[g]? = some (.cells cs t (lo, hi)) ∧ (hi ≤ lo ∨ cs.size ≤ lo)
section
variable {w w' : World} {g : Nat} {t : TypeId} {cs : Array Value}
theorem Blk.m (h : Blk w g t cs) : BlkM w g t cs := ⟨0, 0, h, .inl (Nat.le_refl _)⟩
theorem BlkM.lt (h : BlkM w g t cs) : g < w.heap.size := by
  obtain ⟨lo, hi, h, _⟩ := h
  rcases Nat.lt_or_ge g w.heap.size with hlt | hge
  · exact hlt
  · rw [Array.getElem?_eq_none hge] at h; cases h
theorem BlkM.cell (h : BlkM w g t cs) (i : Nat) : w.cell? ⟨g, i, none⟩ = cs[i]? := by
  obtain ⟨lo, hi, h, _⟩ := h
  exact cell_of_row w g i cs t (lo, hi) h
theorem BlkM.frozen (h : BlkM w g t cs) (i : Nat) (hi : i < cs.size) : w.frozen? ⟨g, i, none⟩ = false := by
  obtain ⟨lo, hi, h, hm⟩ := h
  simp [World.frozen?, h]; omega
theorem BlkM.drew (h : BlkM w g t cs) : BlkM w.drew g t cs := h
theorem BlkM.drewN (h : BlkM w g t cs) (n : Nat) : BlkM (w.drewN n) g t cs := h
theorem BlkM.of_heap (h : BlkM w g t cs) (e : w'.heap[g]? = w.heap[g]?) : BlkM w' g t cs := by
  obtain ⟨lo, hi, h, hm⟩ := h
  exact ⟨lo, hi, e.trans h, hm⟩
theorem BlkM.alloc (h : BlkM w g t cs) (o : Obj) : BlkM (w.alloc o) g t cs := h.of_heap (Below.heap_alloc w o g h.lt)
theorem BlkM.set_ (h : BlkM w g t cs) (i : Nat) (u : Value) : BlkM (w.setCell ⟨g, i, none⟩ u) g t (cs.setIfInBounds i u) := by
  obtain ⟨lo, hi, h, hm⟩ := h
  refine ⟨lo, hi, ?_, by simpa using hm⟩
  simp [World.setCell, Array.getElem?_modify, h]
theorem BlkM.far (h : BlkM w g t cs) {p : Addr} (hp : g ≠ p.block) (u : Value) : BlkM (w.setCell p u) g t cs := h.of_heap (Below.heap_setCell w p u g hp)
theorem BlkM.below {B : Nat} (h : BlkM w g t cs) (hb : Below B w w') (hg : g < B) : BlkM w' g t cs := h.of_heap (hb.block g hg)
theorem BlkM.grown {row : Option Nat} (h : BlkM w g t cs) (hb : w.grownBy w' row) (hg : some g ≠ row) : BlkM w' g t cs := h.of_heap (hb.block g h.lt hg)
end

/-- Byte i of a text, as a number. -/
def bt (s : ByteArray) (i : Nat) : Int := ((s.data.toList.getD i 0).toNat : Int)
theorem bt_bd (s : ByteArray) (i : Nat) : 0 ≤ bt s i ∧ bt s i < 256 := by
  unfold bt
  have := (s.data.toList.getD i 0).toNat_lt
  omega

section
variable {P : Program} {ops : Array Oper} {rest : List Oper} {a : Act} {w : World} {Q : Exit → Act → World → Prop}
/-- '[]byte(s)'. -/
theorem wpList_str_bytes {o : Oper} (hgd : o.guard = none) (src dst e : TypeId) (x : Operand) (ho : o.op = .convert src dst x)
    (hs : P.underlying src = some .string) (hd : P.underlying dst = some (.slice e)) (he : P.underlying e = some (.int .u8)) (s : ByteArray) (hx : a.eval x = .string s)
    (h : ∀ C w', s.size ≤ C.size → BlkM w' w.heap.size e C → (∀ j, j < s.size → C[j]? = some (.int .u8 (bt s j))) → Below w.heap.size w w' → w'.heap.size = w.heap.size + 1 →
      wpList P ops Q rest (a.put o.dst (.slice (some ⟨w.heap.size, 0, none⟩) s.size C.size)) w') : wpList P ops Q (o :: rest) a w := by
  refine wpList_plain hgd fun _ hK => ?_
  have hrun := Lib.run_convert_string_bytes (P := P) w src dst e s hs hd he
  have hc := grownCap_ge w s.size 0 e
  have hsz : (Lib.bytesCells w e s).size = grownCap w s.size 0 e := by
    have : s.data.size = s.size := rfl
    simp [Lib.bytesCells, this]; omega
  unfold Oper.wp execOp
  simp only [ho, hx, Sem.run_bind, Sem.run_pure, Result.andThen_ok, hrun]
  refine hK _ _ ?_
  rw [← hsz]
  refine h _ _ (by omega) ⟨_, _, Lib.bytesWorld_at_new w e s, .inr (Nat.le_refl _)⟩ ?_ ?_ (Lib.bytesWorld_size w e s)
  · intro j hj
    have hj' : j < s.data.size := hj
    rw [← cell_of_row _ _ j _ e _ (Lib.bytesWorld_at_new w e s)]
    exact Lib.bytesWorld_cell w e s j hj
  · exact ⟨rfl, rfl, rfl, by rw [Lib.bytesWorld_size]; omega, fun k hk => Lib.bytesWorld_at_old w e s k hk⟩

/-- 'string(b)', b's cells known. -/
theorem wpList_bytes_str {o : Oper} (hgd : o.guard = none) (src dst e : TypeId) (x : Operand) (ho : o.op = .convert src dst x)
    (hs : P.underlying src = some (.slice e)) (he : P.underlying e = some (.int .u8)) (hd : P.underlying dst = some .string)
    (g off len cap : Nat) (hx : a.eval x = .slice (some ⟨g, off, none⟩) len cap) (t : ByteArray) (hl : t.size = len)
    (hc : ∀ j, j < len → w.cell? ⟨g, off + j, none⟩ = some (.int .u8 (bt t j)))
    (h : wpList P ops Q rest (a.put o.dst (.string t)) w) : wpList P ops Q (o :: rest) a w := by
  refine wpList_plain hgd fun _ hK => ?_
  have hl' : t.data.toList.length = len := hl
  subst hl'
  have hrun := run_convert_bytes_back (P := P) w src dst e ⟨g, off, none⟩ cap t.data.toList hs he hd (fun j hj => by
    rw [Addr.add_mid, hc j hj, bt, List.getD_eq_getElem?_getD, List.getElem?_eq_getElem hj]; rfl)
  unfold Oper.wp execOp
  simp only [ho, hx, Sem.run_bind, Sem.run_pure, Result.andThen_ok, hrun]
  exact hK _ _ h
end

/-- The text of n bytes f 0, f 1, .. -/
def strOf (n : Nat) (f : Nat → Int) : ByteArray := ⟨((List.range n).map fun i => UInt8.ofNat (f i).toNat).toArray⟩
theorem strOf_size (n : Nat) (f : Nat → Int) : (strOf n f).size = n := by simp [strOf, ByteArray.size]
theorem bt_strOf (n : Nat) (f : Nat → Int) (i : Nat) (hi : i < n) (h0 : 0 ≤ f i) (h1 : f i < 256) : bt (strOf n f) i = f i := by
  simp [bt, strOf, List.getD, hi]
  omega
theorem strOf_bt (s : ByteArray) (n : Nat) (f : Nat → Int) (hn : s.size = n) (hf : ∀ i, i < n → f i = bt s i) : strOf n f = s := by
  have : s.data.toList.length = n := hn
  obtain ⟨⟨l⟩⟩ := s
  simp only at this
  subst this
  unfold strOf
  congr 2
  apply List.ext_getElem
  · simp
  · intro i h1 h2
    simp [hf i (by simpa using h1), bt, List.getD, List.getElem?_eq_getElem h2]
/-- A value that is a text is the one of its bytes. -/
theorem str_ext (s t : ByteArray) (hn : s.size = t.size) (h : ∀ i, i < s.size → bt s i = bt t i) : s = t := by
  rw [← strOf_bt s s.size (bt s) rfl (fun _ _ => rfl), strOf_bt t s.size (bt s) hn.symm h]
/-- A slice of one-cell elements that reads as a list of values. -/
def Rd (w : World) (A : Option Addr) (n : Nat) (xs : List Value) : Prop :=
  xs.length = n ∧ (0 < n → ∃ g o, A = some ⟨g, o, none⟩ ∧ ∀ i v, xs[i]? = some v → w.cell? ⟨g, o + i, none⟩ = some v)
section
variable {w w' : World} {A : Option Addr} {n : Nat} {xs : List Value}
theorem Rd.nil (w : World) (A : Option Addr) : Rd w A 0 [] := ⟨rfl, fun h => absurd h (by omega)⟩
theorem Rd.at_ {k : Nat} (h : Rd w A n xs) (hk : k < n) : ∃ g o, A = some ⟨g, o, none⟩ ∧ g < w.heap.size ∧ w.cell? ⟨g, o + k, none⟩ = some (xs[k]'(by have := h.1; omega)) := by
  obtain ⟨g, o, e, hc⟩ := h.2 (by omega)
  have hl : k < xs.length := by have := h.1; omega
  have := hc k _ (List.getElem?_eq_getElem hl)
  exact ⟨g, o, e, block_lt_of_cell this, this⟩
theorem Rd.keep (h : Rd w A n xs) (hk : ∀ p : Addr, p.block < w.heap.size → w'.cell? p = w.cell? p) : Rd w' A n xs :=
  ⟨h.1, fun hn => by
    obtain ⟨g, o, e, hc⟩ := h.2 hn
    refine ⟨g, o, e, fun i v hv => ?_⟩
    have := hc i v hv
    rw [hk _ (block_lt_of_cell this)]; exact this⟩
theorem Rd.below {B : Nat} (h : Rd w A n xs) (hb : Below B w w') (hB : w.heap.size ≤ B) : Rd w' A n xs := h.keep fun _ hp => hb.cell (by omega)
theorem Rd.of_blk {g o c : Nat} {t : TypeId} {cs : Array Value} (h : BlkM w g t cs) (hl : xs.length = n) (hx : ∀ i v, xs[i]? = some v → cs[o + i]? = some v) (_ : c = c) : Rd w (some ⟨g, o, none⟩) n xs :=
  ⟨hl, fun _ => ⟨g, o, rfl, fun i v hv => by rw [h.cell]; exact hx i v hv⟩⟩
end

/-- THE WORLD HAS AT MOST GROWN: nothing that was there has turned. -/
def Ext (w w' : World) : Prop := Below w.heap.size w w'
section
variable {w w' w1 w2 : World}
theorem Ext.refl (w : World) : Ext w w := Below.refl _ _
theorem Ext.trans (h : Ext w w1) (k : Ext w1 w2) : Ext w w2 := Below.trans h (Below.mono k h.size)
theorem Ext.of_below {B : Nat} (h : Below B w w') (hB : w.heap.size ≤ B) : Ext w w' := h.mono hB
theorem Ext.below (h : Ext w w') : Below w.heap.size w w' := h
theorem Ext.alloc (h : Ext w w') (o : Obj) : Ext w (w'.alloc o) := Below.alloc h h.size o
theorem Ext.drew (h : Ext w w') : Ext w w'.drew := Below.drew h
theorem Ext.drewN (h : Ext w w') (n : Nat) : Ext w (w'.drewN n) := ⟨h.os, h.tape, h.output, h.size, h.block⟩
theorem Ext.setCell (h : Ext w w') {p : Addr} (hp : w.heap.size ≤ p.block) (u : Value) : Ext w (w'.setCell p u) := Below.setCell h hp u
theorem Ext.setRow (h : Ext w w') {g : Nat} (hp : w.heap.size ≤ g) (cs : Array Value) : Ext w (w'.setRow g cs) := below_setRow h hp cs
theorem Ext.sz (h : Ext w w') : w.heap.size ≤ w'.heap.size := h.size
theorem Ext.cell (h : Ext w w') {p : Addr} (hp : p.block < w.heap.size) : w'.cell? p = w.cell? p := Below.cell h hp
theorem Ext.frozen (h : Ext w w') {p : Addr} (hp : p.block < w.heap.size) : w'.frozen? p = w.frozen? p := Below.frozen h hp
theorem Ext.cellv (h : Ext w w') {p : Addr} {v : Value} (hp : w.cell? p = some v) : w'.cell? p = some v := (h.cell (block_lt_of_cell hp)).trans hp
theorem Rd.ext {A : Option Addr} {n : Nat} {xs : List Value} (h : Rd w A n xs) (hb : Ext w w') : Rd w' A n xs := h.below hb (Nat.le_refl _)
theorem Blk.ext {g : Nat} {t : TypeId} {cs : Array Value} (h : Blk w g t cs) (hb : Ext w w') : Blk w' g t cs := h.below hb h.lt
theorem BlkM.ext {g : Nat} {t : TypeId} {cs : Array Value} (h : BlkM w g t cs) (hb : Ext w w') : BlkM w' g t cs := h.below hb h.lt
theorem Ext.grown {row : Option Nat} (h : Ext w w1) (hg : w1.grownBy w2 row) (hr : ∀ k, row = some k → w.heap.size ≤ k) : Ext w w2 := Below.grown h hg h.size hr
end

theorem news_one (w : World) (v : Value) (t : TypeId) : ∀ j u, [v][j]? = some u → (w.alloc (.cells #[v] t)).cell? ((⟨w.heap.size, 0, none⟩ : Addr).add j) = some u := by
  intro j u h
  match j, h with
  | 0, h =>
    simp at h; subst h
    rw [Addr.add_lit, (Blk.new w t _).cell]; rfl
theorem one_bool (b : Bool) : ∀ u ∈ [Value.bool b], u.oneCell' = true := by intro u h; simp at h; subst h; rfl
theorem one_int (k : IntKind) (n : Int) : ∀ u ∈ [Value.int k n], u.oneCell' = true := by intro u h; simp at h; subst h; rfl
theorem one_str (s : ByteArray) : ∀ u ∈ [Value.string s], u.oneCell' = true := by intro u h; simp at h; subst h; rfl
theorem bt_get (s : ByteArray) (k : Nat) (h : k < s.size) : ((s[k]'h).toNat : Int) = bt s k := by
  unfold bt
  have h' : k < s.data.toList.length := h
  rw [List.getD_eq_getElem?_getD, List.getElem?_eq_getElem h']; rfl

/-- Only block g may have turned (and what is new). -/
def OnlyB (g : Nat) (w w' : World) : Prop := w.grownBy w' (some g)
theorem OnlyB.refl (g : Nat) (w : World) : OnlyB g w w := ⟨rfl, rfl, rfl, Nat.le_refl _, fun _ _ _ => rfl⟩
theorem OnlyB.trans {g : Nat} {a b c : World} (h : OnlyB g a b) (k : OnlyB g b c) : OnlyB g a c :=
  ⟨k.os.trans h.os, k.tape.trans h.tape, k.output.trans h.output, Nat.le_trans h.size k.size, fun i hi hne => (k.block i (Nat.lt_of_lt_of_le hi h.size) hne).trans (h.block i hi hne)⟩
theorem OnlyB.ext {g : Nat} {a b c : World} (h : OnlyB g a b) (k : Ext b c) : OnlyB g a c :=
  ⟨k.os.trans h.os, k.tape.trans h.tape, k.output.trans h.output, Nat.le_trans h.size k.size, fun i hi hne => (k.block i (Nat.lt_of_lt_of_le hi h.size)).trans (h.block i hi hne)⟩
theorem OnlyB.setCell {g : Nat} {a w : World} (h : OnlyB g a w) (i : Nat) (u : Value) : OnlyB g a (w.setCell ⟨g, i, none⟩ u) :=
  ⟨h.os, h.tape, h.output, by simpa [World.setCell] using h.size, fun k hk hne => (Below.heap_setCell w ⟨g, i, none⟩ u k (fun e => hne (by rw [e]))).trans (h.block k hk hne)⟩
theorem OnlyB.alloc {g : Nat} {a w : World} (h : OnlyB g a w) (o : Obj) : OnlyB g a (w.alloc o) :=
  ⟨h.os, h.tape, h.output, Nat.le_trans h.size (by simp), fun i hi hne => (Below.heap_alloc w o i (Nat.lt_of_lt_of_le hi h.size)).trans (h.block i hi hne)⟩
theorem OnlyB.drew {g : Nat} {a w : World} (h : OnlyB g a w) : OnlyB g a w.drew := ⟨h.os, h.tape, h.output, h.size, h.block⟩
theorem OnlyB.drewN {g : Nat} {a w : World} (h : OnlyB g a w) (n : Nat) : OnlyB g a (w.drewN n) := ⟨h.os, h.tape, h.output, h.size, h.block⟩
theorem Ext.only {g : Nat} {a b c : World} (h : Ext a b) (hg : a.heap.size ≤ g) (k : OnlyB g b c) : Ext a c := h.grown k (fun k hk => by cases hk; exact hg)
theorem OnlyB.blk {g k : Nat} {w w' : World} {t : TypeId} {cs : Array Value} (h : OnlyB g w w') (hb : Blk w k t cs) (hne : k ≠ g) : Blk w' k t cs := hb.grown h (by simpa using hne)
theorem OnlyB.blkM {g k : Nat} {w w' : World} {t : TypeId} {cs : Array Value} (h : OnlyB g w w') (hb : BlkM w k t cs) (hne : k ≠ g) : BlkM w' k t cs := hb.grown h (by simpa using hne)
theorem OnlyB.cellv {g : Nat} {w w' : World} (h : OnlyB g w w') {p : Addr} {v : Value} (hp : w.cell? p = some v) (hne : p.block ≠ g) : w'.cell? p = some v := h.cell hp (by simpa using hne)
/-- An owned row that is full is a block known whole. -/
theorem ownsRow_blk {w : World} {base : Nat} {e : TypeId} {g n : Nat} {xs : List Value} (h : w.ownsRow base e 1 (.slice (some ⟨g, 0, none⟩) n n) n xs) : Blk w g e xs.toArray := by
  rcases h.2 with ⟨h0, _⟩ | ⟨g', cap, cur, hv, _, hg, _, _, hs, ht⟩
  · cases h0
  · injection hv with h1 h2 h3
    injection h1 with h1; injection h1 with h1
    subst h1; subst h3
    have : xs.toArray = cur := by
      rw [← ht, List.take_of_length_le (by simp; omega)]
    rw [this]; exact hg

theorem Rd.of_cells {w : World} {a : Addr} {n : Nat} {xs : List Value} (hl : xs.length = n) (h : ∀ i v, xs[i]? = some v → w.cell? (a.add i) = some v) : Rd w (some a) n xs := by
  refine ⟨hl, fun hn => ?_⟩
  have h0 := h 0 _ (List.getElem?_eq_getElem (show 0 < xs.length by omega))
  have hs : a.spot = none := by simpa [Addr.add] using World.cell?_spot h0
  obtain ⟨b, o, sp⟩ := a
  simp only at hs
  subst hs
  exact ⟨b, o, rfl, fun i v hv => by rw [← Addr.add_mid]; exact h i v hv⟩
theorem Rd.of_strs {w : World} {a : Addr} {n : Nat} {ss : List ByteArray} (hl : n ≤ ss.length) (h : ∀ i, i < ss.length → w.cell? (a.add i) = some (.string (ss.getD i ByteArray.empty))) : Rd w (some a) n ((ss.take n).map Value.string) := by
  refine Rd.of_cells (by simp; omega) fun i v hv => ?_
  rw [List.getElem?_map, List.getElem?_take] at hv
  by_cases hi : i < n
  · rw [if_pos hi, List.getElem?_eq_getElem (by omega)] at hv
    simp at hv; subst hv
    rw [h i (by omega), List.getD_eq_getElem?_getD, List.getElem?_eq_getElem (by omega)]; rfl
  · rw [if_neg hi] at hv; simp at hv
theorem Rd.of_ints {w : World} {a : Addr} {n : Nat} {k : IntKind} {zs : List Int} (hl : n ≤ zs.length) (h : ∀ i, i < zs.length → w.cell? (a.add i) = some (.int k (zs.getD i 0))) : Rd w (some a) n ((zs.take n).map (Value.int k)) := by
  refine Rd.of_cells (by simp; omega) fun i v hv => ?_
  rw [List.getElem?_map, List.getElem?_take] at hv
  by_cases hi : i < n
  · rw [if_pos hi, List.getElem?_eq_getElem (by omega)] at hv
    simp at hv; subst hv
    rw [h i (by omega), List.getD_eq_getElem?_getD, List.getElem?_eq_getElem (by omega)]; rfl
  · rw [if_neg hi] at hv; simp at hv

theorem Rd.new (w : World) (t : TypeId) (cs : List Value) (n : Nat) (hn : cs.length = n) : Rd (w.alloc (.cells cs.toArray t)) (some ⟨w.heap.size, 0, none⟩) n cs :=
  ⟨hn, fun _ => ⟨w.heap.size, 0, rfl, fun i v h => by rw [Nat.zero_add, (Blk.new w t _).cell]; simpa using h⟩⟩
theorem Rd.newd (w : World) (t : TypeId) (cs : List Value) (n : Nat) (hn : cs.length = n) : Rd (w.alloc (.cells cs.toArray t)).drew (some ⟨w.heap.size, 0, none⟩) n cs := Rd.new w t cs n hn

theorem cell_n (w : World) (c : Array Value) (t : TypeId) (i : Nat) (v : Value) (h : c[i]? = some v) : (w.alloc (.cells c t)).cell? ⟨w.heap.size, i, none⟩ = some v := by
  rw [(Blk.new w t c).cell]; exact h
theorem cell_nd (w : World) (c : Array Value) (t : TypeId) (i : Nat) (v : Value) (h : c[i]? = some v) : (w.alloc (.cells c t)).drew.cell? ⟨w.heap.size, i, none⟩ = some v := cell_n w c t i v h
theorem cell_n2 (w : World) (c : Array Value) (t : TypeId) (o : Obj) (i : Nat) (v : Value) (h : c[i]? = some v) : ((w.alloc (.cells c t)).alloc o).cell? ⟨w.heap.size, i, none⟩ = some v :=
  ((Ext.refl _).alloc o).cellv (cell_n w c t i v h)
theorem cell_n2d (w : World) (c : Array Value) (t : TypeId) (o : Obj) (i : Nat) (v : Value) (h : c[i]? = some v) : ((w.alloc (.cells c t)).alloc o).drew.cell? ⟨w.heap.size, i, none⟩ = some v := cell_n2 w c t o i v h
theorem cell_n3 (w : World) (c : Array Value) (t : TypeId) (o : Obj) (i : Nat) (v : Value) (h : c[i]? = some v) : ((w.alloc o).alloc (.cells c t)).cell? ⟨w.heap.size + 1, i, none⟩ = some v := by
  have := cell_n (w.alloc o) c t i v h
  simpa using this
theorem cell_n3d (w : World) (c : Array Value) (t : TypeId) (o : Obj) (i : Nat) (v : Value) (h : c[i]? = some v) : ((w.alloc o).alloc (.cells c t)).drew.cell? ⟨w.heap.size + 1, i, none⟩ = some v := cell_n3 w c t o i v h

section
variable {P : Program} {ops : Array Oper} {a : Act} {C : World → Prop} {K : Act → Prop}
/-- A whole array is read out of a block that is known whole: in a region that draws its order. -/
theorem quiet_load_row {o : Oper} (hgd : o.guard = none) (ty : TypeId) (x : Operand) (ho : o.op = .load ty x) (g : Nat) (hx : a.eval x = .pointer (some ⟨g, 0, none⟩)) (t : TypeId) (cs : Array Value) (d : TypeDesc)
    (hC : ∀ w, C w → Blk w g t cs) (hu : P.underlying ty = some d) (hd : (match d with | .struct _ | .array _ _ => true | _ => false) = true) (hi : (P.info? ty).map (·.size) = some cs.size)
    (hK : K (a.put o.dst (.agg cs))) : if Region.wanted o (yielded ops a.tmps) = true then o.quiet P a C K else K (a.put o.dst undef) := by
  rw [if_pos (by simp [Region.wanted, hgd])]
  refine ⟨.agg cs, fun w hw => ?_, hK⟩
  have hrun := run_loadVar_row (P := P) w g t ty cs (0, 0) d (hC w hw) hu hd hi
  unfold Oper.quietAt execOp
  simp only [ho, hx, Instr.loadAt, Instr.sureAddr, Sem.run_bind, Sem.run_pure, Result.andThen_ok, hrun]
  exact ⟨rfl, rfl⟩
/-- A whole array is stored into a block that holds just it: nothing turns. -/
theorem quiet_store_same {o : Oper} (hgd : o.guard = none) (t : TypeId) (x y : Operand) (ho : o.op = .store t x y) (g : Nat) (e : TypeId) (cs : Array Value)
    (hx : a.eval x = .pointer (some ⟨g, 0, none⟩)) (hy : a.eval y = .agg cs) (hC : ∀ w, C w → Blk w g e cs) (hi : (P.info? t).map (·.size) = some cs.size) (h1 : ∀ v ∈ cs.toList, v.oneCell' = true)
    (hK : K (a.put o.dst undef)) : if Region.wanted o (yielded ops a.tmps) = true then o.quiet P a C K else K (a.put o.dst undef) := by
  rw [if_pos (by simp [Region.wanted, hgd])]
  refine ⟨undef, fun w hw => ?_, hK⟩
  have hb := hC w hw
  have hst := run_storeCells_at P g 0 e cs.toList 0 cs w hb (by simp) h1
  have hself : w.setRow g cs = w := setRow_self w g cs e (0, 0) hb
  have hrun : (storeVar t ⟨g, 0, none⟩ (.agg cs)).run P w = .ok () w := by
    cases hq : P.info? t with
    | none => simp [hq] at hi
    | some i =>
      have hs' : cs.size = i.size := by simp [hq] at hi; omega
      simp [Nat.add_zero] at hst
      have hd : List.drop cs.size cs.toList = [] := by simp
      simp [storeVar, sizeOf, typeInfo, hq, Value.cells, ← hs', hst]
      rw [hd]; simpa using hself
  unfold Oper.quietAt execOp
  simp only [ho, hx, hy, Instr.storeAt, Instr.sureAddr, Sem.run_bind, Sem.run_pure, Result.andThen_ok, hrun]
  exact ⟨rfl, rfl⟩
end

/-- Two results that lie in blocks known whole. -/
theorem ret_row2 {P : Program} {a : Act} {w : World} {fn : Func} {R : Ending → World → Prop} {p q : Tmp} {ty ty' : TypeId} (hres : fn.results = #[.cell p ty, .cell q ty']) (g g' : Nat) (t t' : TypeId) (cs cs' : Array Value) (d d' : TypeDesc)
    (hp : a.tmps.getD p undef = .pointer (some ⟨g, 0, none⟩)) (hg : Blk w g t cs) (hp' : a.tmps.getD q undef = .pointer (some ⟨g', 0, none⟩)) (hg' : Blk w g' t' cs')
    (hu : P.underlying ty = some d) (hd : (match d with | .struct _ | .array _ _ => true | _ => false) = true) (hi : (P.info? ty).map (·.size) = some cs.size)
    (hu' : P.underlying ty' = some d') (hd' : (match d' with | .struct _ | .array _ _ => true | _ => false) = true) (hi' : (P.info? ty').map (·.size) = some cs'.size)
    (hde : a.defers = []) (hR : R (.returned (.tuple #[.agg cs, .agg cs'])) w) : bodyPost P fn R .ret a w := by
  refine bodyPost_ret (v := .tuple #[.agg cs, .agg cs']) ?_ hde hR
  have h1 : a.tmps[p]?.getD undef = .pointer (some ⟨g, 0, none⟩) := by simpa using hp
  have h2 : a.tmps[q]?.getD undef = .pointer (some ⟨g', 0, none⟩) := by simpa using hp'
  simp [results, hres, h1, h2, asAddr, run_loadVar_row w g t ty cs (0, 0) d hg hu hd hi, run_loadVar_row w g' t' ty' cs' (0, 0) d' hg' hu' hd' hi']

/-- A new variable of a large array, its place said. -/
theorem wpList_alloc_at {P : Program} {ops : Array Oper} {rest : List Oper} {a : Act} {w : World} {Q : Exit → Act → World → Prop} {o : Oper} (hgd : o.guard = none) (t : TypeId) (ho : o.op = .alloc t) (Z : Array Value)
    (hz : ∀ w, (zeroValue t).run P w = .ok (.agg Z) w) (n : Nat) (hn : w.heap.size = n)
    (h : wpList P ops Q rest (a.put o.dst (.pointer (some ⟨n, 0, none⟩))) (w.alloc (.cells Z t))) : wpList P ops Q (o :: rest) a w := by
  subst hn; exact wpList_alloc_big hgd t ho Z hz h

/-- n cells, told by a function. -/
def tabA (n : Nat) (f : Nat → Value) : Array Value := ((List.range n).map f).toArray
theorem tabA_size (n : Nat) (f : Nat → Value) : (tabA n f).size = n := by simp [tabA]
theorem tabA_at (n : Nat) (f : Nat → Value) (i : Nat) (hi : i < n) : (tabA n f)[i]? = some (f i) := by simp [tabA, hi]
theorem tabA_out (n : Nat) (f : Nat → Value) (i : Nat) (hi : n ≤ i) : (tabA n f)[i]? = none := by rw [Array.getElem?_eq_none]; rw [tabA_size]; exact hi
theorem tabA_set (n : Nat) (f g : Nat → Value) (i : Nat) (v : Value) (hi : i < n) (h : ∀ k, k < n → g k = if k = i then v else f k) : (tabA n f).setIfInBounds i v = tabA n g := by
  apply Array.ext_getElem?
  intro k
  rw [Array.getElem?_setIfInBounds, tabA_size]
  by_cases hk : k < n
  · rw [tabA_at n g k hk, h k hk]
    by_cases e : i = k
    · subst e; rw [if_pos rfl, if_pos rfl, if_pos hi]
    · rw [if_neg e, tabA_at n f k hk, if_neg (fun h => e h.symm)]
  · rw [if_neg (by omega), tabA_out n f k (by omega), tabA_out n g k (by omega)]
theorem tabA_congr (n : Nat) (f g : Nat → Value) (h : ∀ i, i < n → f i = g i) : tabA n f = tabA n g := by
  unfold tabA; congr 1; apply List.map_congr_left; intro i hi; exact h i (by simpa using hi)
theorem tabA_of (cs : Array Value) (n : Nat) (f : Nat → Value) (hn : cs.size = n) (h : ∀ i, i < n → cs[i]? = some (f i)) : cs = tabA n f := by
  apply Array.ext_getElem?
  intro k
  by_cases hk : k < n
  · rw [tabA_at n f k hk, h k hk]
  · rw [tabA_out n f k (by omega), Array.getElem?_eq_none]; omega
/-- Byte i of a text, as a natural number. -/
def bn (s : ByteArray) (i : Nat) : Nat := (s.data.toList.getD i 0).toNat
theorem bn_lt (s : ByteArray) (i : Nat) : bn s i < 256 := (s.data.toList.getD i 0).toNat_lt
theorem bt_bn (s : ByteArray) (i : Nat) : bt s i = (bn s i : Int) := rfl
theorem str_ext' (s t : ByteArray) (hn : s.size = t.size) (h : ∀ i, i < s.size → bn s i = bn t i) : s = t := str_ext s t hn (fun i hi => by rw [bt_bn, bt_bn, h i hi])
theorem bn_strOf (n : Nat) (f : Nat → Nat) (i : Nat) (hi : i < n) (h : f i < 256) : bn (strOf n (fun i => (f i : Int))) i = f i := by
  have := bt_strOf n (fun i => (f i : Int)) i hi (by omega) (by omega)
  rw [bt_bn] at this; omega
/-- The text of n bytes f 0, f 1, .. -/
def strN (n : Nat) (f : Nat → Nat) : ByteArray := strOf n (fun i => (f i : Int))
theorem strN_size (n : Nat) (f : Nat → Nat) : (strN n f).size = n := strOf_size _ _
theorem bn_strN (n : Nat) (f : Nat → Nat) (i : Nat) (hi : i < n) (h : f i < 256) : bn (strN n f) i = f i := bn_strOf n f i hi h
theorem strN_congr (n : Nat) (f g : Nat → Nat) (h : ∀ i, i < n → f i = g i) : strN n f = strN n g := by
  unfold strN strOf; congr 2; apply List.map_congr_left; intro i hi; simp only [h i (by simpa using hi)]
theorem strN_bn (s : ByteArray) : strN s.size (bn s) = s := strOf_bt s s.size _ rfl (fun _ _ => rfl)
/-- Cells that are bytes. -/
def u8c (f : Nat → Nat) (i : Nat) : Value := .int .u8 (f i : Int)

/-- Two blocks of unlike element types are two. -/
theorem Blk.ne_ {w : World} {g g' : Nat} {t t' : TypeId} {cs cs' : Array Value} (h : Blk w g t cs) (h' : Blk w g' t' cs') (hne : t ≠ t') : g ≠ g' := by
  rintro rfl
  unfold Blk at h h'
  rw [h] at h'
  injection h' with h'
  injection h' with _ ht
  exact hne ht

theorem madeCells_one (z : Value) (n : Nat) (hz : z.cells = #[z]) : madeCells z.cells n = tabA n (fun _ => z) := by
  rw [hz]
  refine tabA_of _ n _ (by simp [madeCells]) (fun i hi => ?_)
  simp [madeCells, hi, Nat.mod_one]
theorem run_make_tab {P : Program} (t e : TypeId) (i : TypeInfo) (z : Value) (ht : P.underlying t = some (.slice e)) (hi : P.info? e = some i) (hz : i.zero = some z) (hs : i.size = 1) (hzc : z.cells = #[z])
    (kl kc : IntKind) (n : Nat) (hbytes : i.bytes * n ≤ 281474976710656) (h63 : n ≤ 9223372036854775807) (w : World) :
    (Instr.makeSlice t (.int kl (n : Int)) (.int kc (n : Int))).run P w = .ok (.slice (some ⟨w.heap.size, 0, none⟩) n n) (w.alloc (.cells (tabA n (fun _ => z)) e)) := by
  have hb : (i.bytes : Int) * (n : Int) ≤ 281474976710656 := by
    have h : ((i.bytes * n : Nat) : Int) ≤ 281474976710656 := by omega
    rwa [Int.natCast_mul] at h
  have hr := run_make (P := P) w t e i z ht hi hz kl kc n n (by omega) (by omega) hb (by omega)
  simp only [Int.toNat_natCast, hs, Nat.mul_one] at hr
  rw [madeCells_one z n hzc] at hr
  exact hr
/-- 'make([]T, n)', an element of one cell. -/
theorem wpList_make_tab {P : Program} {ops : Array Oper} {rest : List Oper} {a : Act} {w : World} {Q : Exit → Act → World → Prop} {o : Oper} (hgd : o.guard = none) (l c : Operand) (t : TypeId) (ho : o.op = .makeSlice t l c)
    (e : TypeId) (i : TypeInfo) (z : Value) (ht : P.underlying t = some (.slice e)) (hi : P.info? e = some i) (hz : i.zero = some z) (hs : i.size = 1) (hzc : z.cells = #[z])
    (kl kc : IntKind) (n : Nat) (hl : a.eval l = .int kl (n : Int)) (hc : a.eval c = .int kc (n : Int)) (hbytes : i.bytes * n ≤ 281474976710656) (h63 : n ≤ 9223372036854775807)
    (h : wpList P ops Q rest (a.put o.dst (.slice (some ⟨w.heap.size, 0, none⟩) n n)) (w.alloc (.cells (tabA n (fun _ => z)) e))) : wpList P ops Q (o :: rest) a w := by
  refine wpList_plain hgd fun _ hK => ?_
  have hrun := run_make_tab (P := P) t e i z ht hi hz hs hzc kl kc n hbytes h63 w
  unfold Oper.wp execOp
  simp only [ho, hl, hc, Sem.run_bind, Sem.run_pure, Result.andThen_ok, hrun]
  exact hK _ _ h
end Go
