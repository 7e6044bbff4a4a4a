import Derived.Test.YtjdppgogdilgkaaRows
import Derived.WalkKit
import Derived.WalkSpells
import Derived.WalkLawsBesides
import Derived.Lib.Hide
import Derived.Deep.Draws
import Derived.Deep.MidRow
import Derived.Maps.AppendAt
import Derived.Laws.CopyOwn
import Derived.Lib.ConvBytes
import Derived.Deep.QuietTactic
section
namespace Go
open Go.RowKit
def Blk (w : World) (g : Nat) (t : TypeId) (cs : Array Value) : Prop := w.heap[g]? = some (.cells cs t (0, 0))
section
variable {w w' : World} {g : Nat} {t : TypeId} {cs : Array Value}
theorem Blk.lt (h : Blk w g t cs) : g < w.heap.size := by
  rcases Nat.lt_or_ge g w.heap.size with hlt | hge
  · exact hlt
  · unfold Blk at h; rw [Array.getElem?_eq_none hge] at h; cases h
theorem Blk.cell (h : Blk w g t cs) (i : Nat) : w.cell? ⟨g, i, none⟩ = cs[i]? := cell_of_row w g i cs t (0, 0) h
theorem Blk.frozen (h : Blk w g t cs) (i : Nat) : w.frozen? ⟨g, i, none⟩ = false := by
  unfold Blk at h
  simp [World.frozen?, h]
theorem Blk.new (w : World) (t : TypeId) (cs : Array Value) : Blk (w.alloc (.cells cs t)) w.heap.size t cs := heap_alloc_new w _
theorem Blk.drew (h : Blk w g t cs) : Blk w.drew g t cs := h
theorem Blk.drewN (h : Blk w g t cs) (n : Nat) : Blk (w.drewN n) g t cs := h
theorem Blk.alloc (h : Blk w g t cs) (o : Obj) : Blk (w.alloc o) g t cs := (Below.heap_alloc w o g h.lt).trans h
theorem Blk.set_ (h : Blk w g t cs) (i : Nat) (u : Value) : Blk (w.setCell ⟨g, i, none⟩ u) g t (cs.setIfInBounds i u) := by
  unfold Blk at h ⊢
  simp [World.setCell, Array.getElem?_modify, h]
theorem Blk.far (h : Blk w g t cs) {p : Addr} (hp : g ≠ p.block) (u : Value) : Blk (w.setCell p u) g t cs := (Below.heap_setCell w p u g hp).trans h
theorem Blk.below {B : Nat} (h : Blk w g t cs) (hb : Below B w w') (hg : g < B) : Blk w' g t cs := (hb.block g hg).trans h
theorem Blk.grown {row : Option Nat} (h : Blk w g t cs) (hb : w.grownBy w' row) (hg : some g ≠ row) : Blk w' g t cs := (hb.block g h.lt hg).trans h
end
section
variable {P : Program} {ops : Array Oper} {rest : List Oper} {a : Act} {w : World} {Q : Exit → Act → World → Prop}
theorem wpList_alloc_big {o : Oper} (hgd : o.guard = none) (t : TypeId) (ho : o.op = .alloc t) (Z : Array Value)
    (hz : ∀ w, (zeroValue t).run P w = .ok (.agg Z) w)
    (h : wpList P ops Q rest (a.put o.dst (.pointer (some ⟨w.heap.size, 0, none⟩))) (w.alloc (.cells Z t))) : wpList P ops Q (o :: rest) a w := by
  refine wpList_plain hgd fun _ hK => ?_
  unfold Oper.wp execOp
  simp only [ho, Instr.alloc, newVar, newRow, newObj, Sem.run_bind, Sem.run_pure, hz, Result.andThen_ok, Value.cells]
  exact hK _ _ h
theorem wpList_store_big {o : Oper} (hgd : o.guard = none) (t : TypeId) (x y : Operand) (ho : o.op = .store t x y) (g : Nat) (e : TypeId) (old cs : Array Value)
    (hx : a.eval x = .pointer (some ⟨g, 0, none⟩)) (hy : a.eval y = .agg cs) (hb : Blk w g e old) (hs : old.size = cs.size) (hi : (P.info? t).map (·.size) = some cs.size)
    (h1 : ∀ v ∈ cs.toList, v.oneCell' = true) (h : wpList P ops Q rest (a.put o.dst undef) (w.setRow g cs)) : wpList P ops Q (o :: rest) a w := by
  refine wpList_plain hgd fun _ hK => ?_
  have hst := run_storeCells_at P g 0 e cs.toList 0 old w hb (by simp [hs]) h1
  have hrun : (storeVar t ⟨g, 0, none⟩ (.agg cs)).run P w = .ok () (w.setRow g cs) := by
    cases hq : P.info? t with
    | none => simp [hq] at hi
    | some i =>
      have hs' : cs.size = i.size := by simp [hq] at hi; omega
      simp [Nat.add_zero] at hst
      have hd : old.toList.drop cs.size = [] := by simp [hs]
      simp [storeVar, sizeOf, typeInfo, hq, Value.cells, ← hs', hst]
      rw [hd]; simp
  unfold Oper.wp execOp
  simp only [ho, hx, hy, Instr.storeAt, Instr.sureAddr, Sem.run_bind, Sem.run_pure, Result.andThen_ok, hrun]
  exact hK _ _ h
theorem ret_row {fn : Func} {R : Ending → World → Prop} {p : Tmp} {ty : TypeId} (hres : fn.results = #[.cell p ty]) (g : Nat) (t : TypeId) (cs : Array Value) (d : TypeDesc)
    (hp : a.tmps.getD p undef = .pointer (some ⟨g, 0, none⟩)) (hg : Blk w g t cs)
    (hu : P.underlying ty = some d) (hd : (match d with | .struct _ | .array _ _ => true | _ => false) = true) (hi : (P.info? ty).map (·.size) = some cs.size)
    (hde : a.defers = []) (hR : R (.returned (.agg cs)) w) : bodyPost P fn R .ret a w :=
  bodyPost_ret (results_cell_row hres a.tmps w g t cs (0, 0) d hp hg hu hd hi) hde hR
end
theorem Blk.setRow {w : World} {g : Nat} {t : TypeId} {old : Array Value} (h : Blk w g t old) (cs : Array Value) : Blk (w.setRow g cs) g t cs := setRow_heap w g old cs t (0, 0) h
theorem Blk.setRow_far {w : World} {g g' : Nat} {t : TypeId} {cs : Array Value} (h : Blk w g t cs) (hne : g ≠ g') (cs' : Array Value) : Blk (w.setRow g' cs') g t cs := (setRow_other w g' g cs' hne).trans h
def BlkM (w : World) (g : Nat) (t : TypeId) (cs : Array Value) : Prop := ∃ lo hi, w.heap[g]? = some (.cells cs t (lo, hi)) ∧ (hi ≤ lo ∨ cs.size ≤ lo)
section
variable {w w' : World} {g : Nat} {t : TypeId} {cs : Array Value}
theorem Blk.m (h : Blk w g t cs) : BlkM w g t cs := ⟨0, 0, h, .inl (Nat.le_refl _)⟩
theorem BlkM.lt (h : BlkM w g t cs) : g < w.heap.size := by
  obtain ⟨lo, hi, h, _⟩ := h
  rcases Nat.lt_or_ge g w.heap.size with hlt | hge
  · exact hlt
  · rw [Array.getElem?_eq_none hge] at h; cases h
theorem BlkM.cell (h : BlkM w g t cs) (i : Nat) : w.cell? ⟨g, i, none⟩ = cs[i]? := by
  obtain ⟨lo, hi, h, _⟩ := h
  exact cell_of_row w g i cs t (lo, hi) h
theorem BlkM.frozen (h : BlkM w g t cs) (i : Nat) (hi : i < cs.size) : w.frozen? ⟨g, i, none⟩ = false := by
  obtain ⟨lo, hi, h, hm⟩ := h
  simp [World.frozen?, h]; omega
theorem BlkM.drew (h : BlkM w g t cs) : BlkM w.drew g t cs := h
theorem BlkM.drewN (h : BlkM w g t cs) (n : Nat) : BlkM (w.drewN n) g t cs := h
theorem BlkM.of_heap (h : BlkM w g t cs) (e : w'.heap[g]? = w.heap[g]?) : BlkM w' g t cs := by
  obtain ⟨lo, hi, h, hm⟩ := h
  exact ⟨lo, hi, e.trans h, hm⟩
theorem BlkM.alloc (h : BlkM w g t cs) (o : Obj) : BlkM (w.alloc o) g t cs := h.of_heap (Below.heap_alloc w o g h.lt)
theorem BlkM.set_ (h : BlkM w g t cs) (i : Nat) (u : Value) : BlkM (w.setCell ⟨g, i, none⟩ u) g t (cs.setIfInBounds i u) := by
  obtain ⟨lo, hi, h, hm⟩ := h
  refine ⟨lo, hi, ?_, by simpa using hm⟩
  simp [World.setCell, Array.getElem?_modify, h]
theorem BlkM.far (h : BlkM w g t cs) {p : Addr} (hp : g ≠ p.block) (u : Value) : BlkM (w.setCell p u) g t cs := h.of_heap (Below.heap_setCell w p u g hp)
theorem BlkM.below {B : Nat} (h : BlkM w g t cs) (hb : Below B w w') (hg : g < B) : BlkM w' g t cs := h.of_heap (hb.block g hg)
theorem BlkM.grown {row : Option Nat} (h : BlkM w g t cs) (hb : w.grownBy w' row) (hg : some g ≠ row) : BlkM w' g t cs := h.of_heap (hb.block g h.lt hg)
end
def bt (s : ByteArray) (i : Nat) : Int := ((s.data.toList.getD i 0).toNat : Int)
theorem bt_bd (s : ByteArray) (i : Nat) : 0 ≤ bt s i ∧ bt s i < 256 := by
  unfold bt
  have := (s.data.toList.getD i 0).toNat_lt
  omega
section
variable {P : Program} {ops : Array Oper} {rest : List Oper} {a : Act} {w : World} {Q : Exit → Act → World → Prop}
theorem wpList_str_bytes {o : Oper} (hgd : o.guard = none) (src dst e : TypeId) (x : Operand) (ho : o.op = .convert src dst x)
    (hs : P.underlying src = some .string) (hd : P.underlying dst = some (.slice e)) (he : P.underlying e = some (.int .u8)) (s : ByteArray) (hx : a.eval x = .string s)
    (h : ∀ C w', s.size ≤ C.size → BlkM w' w.heap.size e C → (∀ j, j < s.size → C[j]? = some (.int .u8 (bt s j))) → Below w.heap.size w w' → w'.heap.size = w.heap.size + 1 →
      wpList P ops Q rest (a.put o.dst (.slice (some ⟨w.heap.size, 0, none⟩) s.size C.size)) w') : wpList P ops Q (o :: rest) a w := by
  refine wpList_plain hgd fun _ hK => ?_
  have hrun := Lib.run_convert_string_bytes (P := P) w src dst e s hs hd he
  have hc := grownCap_ge w s.size 0 e
  have hsz : (Lib.bytesCells w e s).size = grownCap w s.size 0 e := by
    have : s.data.size = s.size := rfl
    simp [Lib.bytesCells, this]; omega
  unfold Oper.wp execOp
  simp only [ho, hx, Sem.run_bind, Sem.run_pure, Result.andThen_ok, hrun]
  refine hK _ _ ?_
  rw [← hsz]
  refine h _ _ (by omega) ⟨_, _, Lib.bytesWorld_at_new w e s, .inr (Nat.le_refl _)⟩ ?_ ?_ (Lib.bytesWorld_size w e s)
  · intro j hj
    have hj' : j < s.data.size := hj
    rw [← cell_of_row _ _ j _ e _ (Lib.bytesWorld_at_new w e s)]
    exact Lib.bytesWorld_cell w e s j hj
  · exact ⟨rfl, rfl, rfl, by rw [Lib.bytesWorld_size]; omega, fun k hk => Lib.bytesWorld_at_old w e s k hk⟩
theorem wpList_bytes_str {o : Oper} (hgd : o.guard = none) (src dst e : TypeId) (x : Operand) (ho : o.op = .convert src dst x)
    (hs : P.underlying src = some (.slice e)) (he : P.underlying e = some (.int .u8)) (hd : P.underlying dst = some .string)
    (g off len cap : Nat) (hx : a.eval x = .slice (some ⟨g, off, none⟩) len cap) (t : ByteArray) (hl : t.size = len)
    (hc : ∀ j, j < len → w.cell? ⟨g, off + j, none⟩ = some (.int .u8 (bt t j)))
    (h : wpList P ops Q rest (a.put o.dst (.string t)) w) : wpList P ops Q (o :: rest) a w := by
  refine wpList_plain hgd fun _ hK => ?_
  have hl' : t.data.toList.length = len := hl
  subst hl'
  have hrun := run_convert_bytes_back (P := P) w src dst e ⟨g, off, none⟩ cap t.data.toList hs he hd (fun j hj => by
    rw [Addr.add_mid, hc j hj, bt, List.getD_eq_getElem?_getD, List.getElem?_eq_getElem hj]; rfl)
  unfold Oper.wp execOp
  simp only [ho, hx, Sem.run_bind, Sem.run_pure, Result.andThen_ok, hrun]
  exact hK _ _ h
end
def strOf (n : Nat) (f : Nat → Int) : ByteArray := ⟨((List.range n).map fun i => UInt8.ofNat (f i).toNat).toArray⟩
theorem strOf_size (n : Nat) (f : Nat → Int) : (strOf n f).size = n := by simp [strOf, ByteArray.size]
theorem bt_strOf (n : Nat) (f : Nat → Int) (i : Nat) (hi : i < n) (h0 : 0 ≤ f i) (h1 : f i < 256) : bt (strOf n f) i = f i := by
  simp [bt, strOf, List.getD, hi]
  omega
theorem strOf_bt (s : ByteArray) (n : Nat) (f : Nat → Int) (hn : s.size = n) (hf : ∀ i, i < n → f i = bt s i) : strOf n f = s := by
  have : s.data.toList.length = n := hn
  obtain ⟨⟨l⟩⟩ := s
  simp only at this
  subst this
  unfold strOf
  congr 2
  apply List.ext_getElem
  · simp
  · intro i h1 h2
    simp [hf i (by simpa using h1), bt, List.getD, List.getElem?_eq_getElem h2]
theorem str_ext (s t : ByteArray) (hn : s.size = t.size) (h : ∀ i, i < s.size → bt s i = bt t i) : s = t := by
  rw [← strOf_bt s s.size (bt s) rfl (fun _ _ => rfl), strOf_bt t s.size (bt s) hn.symm h]
def Rd (w : World) (A : Option Addr) (n : Nat) (xs : List Value) : Prop :=
  xs.length = n ∧ (0 < n → ∃ g o, A = some ⟨g, o, none⟩ ∧ ∀ i v, xs[i]? = some v → w.cell? ⟨g, o + i, none⟩ = some v)
section
variable {w w' : World} {A : Option Addr} {n : Nat} {xs : List Value}
theorem Rd.nil (w : World) (A : Option Addr) : Rd w A 0 [] := ⟨rfl, fun h => absurd h (by omega)⟩
theorem Rd.at_ {k : Nat} (h : Rd w A n xs) (hk : k < n) : ∃ g o, A = some ⟨g, o, none⟩ ∧ g < w.heap.size ∧ w.cell? ⟨g, o + k, none⟩ = some (xs[k]'(by have := h.1; omega)) := by
  obtain ⟨g, o, e, hc⟩ := h.2 (by omega)
  have hl : k < xs.length := by have := h.1; omega
  have := hc k _ (List.getElem?_eq_getElem hl)
  exact ⟨g, o, e, block_lt_of_cell this, this⟩
theorem Rd.keep (h : Rd w A n xs) (hk : ∀ p : Addr, p.block < w.heap.size → w'.cell? p = w.cell? p) : Rd w' A n xs :=
  ⟨h.1, fun hn => by
    obtain ⟨g, o, e, hc⟩ := h.2 hn
    refine ⟨g, o, e, fun i v hv => ?_⟩
    have := hc i v hv
    rw [hk _ (block_lt_of_cell this)]; exact this⟩
theorem Rd.below {B : Nat} (h : Rd w A n xs) (hb : Below B w w') (hB : w.heap.size ≤ B) : Rd w' A n xs := h.keep fun _ hp => hb.cell (by omega)
theorem Rd.of_blk {g o c : Nat} {t : TypeId} {cs : Array Value} (h : BlkM w g t cs) (hl : xs.length = n) (hx : ∀ i v, xs[i]? = some v → cs[o + i]? = some v) (_ : c = c) : Rd w (some ⟨g, o, none⟩) n xs :=
  ⟨hl, fun _ => ⟨g, o, rfl, fun i v hv => by rw [h.cell]; exact hx i v hv⟩⟩
end
def Ext (w w' : World) : Prop := Below w.heap.size w w'
section
variable {w w' w1 w2 : World}
theorem Ext.refl (w : World) : Ext w w := Below.refl _ _
theorem Ext.trans (h : Ext w w1) (k : Ext w1 w2) : Ext w w2 := Below.trans h (Below.mono k h.size)
theorem Ext.of_below {B : Nat} (h : Below B w w') (hB : w.heap.size ≤ B) : Ext w w' := h.mono hB
theorem Ext.below (h : Ext w w') : Below w.heap.size w w' := h
theorem Ext.alloc (h : Ext w w') (o : Obj) : Ext w (w'.alloc o) := Below.alloc h h.size o
theorem Ext.drew (h : Ext w w') : Ext w w'.drew := Below.drew h
theorem Ext.drewN (h : Ext w w') (n : Nat) : Ext w (w'.drewN n) := ⟨h.os, h.tape, h.output, h.size, h.block⟩
theorem Ext.setCell (h : Ext w w') {p : Addr} (hp : w.heap.size ≤ p.block) (u : Value) : Ext w (w'.setCell p u) := Below.setCell h hp u
theorem Ext.setRow (h : Ext w w') {g : Nat} (hp : w.heap.size ≤ g) (cs : Array Value) : Ext w (w'.setRow g cs) := below_setRow h hp cs
theorem Ext.sz (h : Ext w w') : w.heap.size ≤ w'.heap.size := h.size
theorem Ext.cell (h : Ext w w') {p : Addr} (hp : p.block < w.heap.size) : w'.cell? p = w.cell? p := Below.cell h hp
theorem Ext.frozen (h : Ext w w') {p : Addr} (hp : p.block < w.heap.size) : w'.frozen? p = w.frozen? p := Below.frozen h hp
theorem Ext.cellv (h : Ext w w') {p : Addr} {v : Value} (hp : w.cell? p = some v) : w'.cell? p = some v := (h.cell (block_lt_of_cell hp)).trans hp
theorem Rd.ext {A : Option Addr} {n : Nat} {xs : List Value} (h : Rd w A n xs) (hb : Ext w w') : Rd w' A n xs := h.below hb (Nat.le_refl _)
theorem Blk.ext {g : Nat} {t : TypeId} {cs : Array Value} (h : Blk w g t cs) (hb : Ext w w') : Blk w' g t cs := h.below hb h.lt
theorem BlkM.ext {g : Nat} {t : TypeId} {cs : Array Value} (h : BlkM w g t cs) (hb : Ext w w') : BlkM w' g t cs := h.below hb h.lt
theorem Ext.grown {row : Option Nat} (h : Ext w w1) (hg : w1.grownBy w2 row) (hr : ∀ k, row = some k → w.heap.size ≤ k) : Ext w w2 := Below.grown h hg h.size hr
end
theorem news_one (w : World) (v : Value) (t : TypeId) : ∀ j u, [v][j]? = some u → (w.alloc (.cells #[v] t)).cell? ((⟨w.heap.size, 0, none⟩ : Addr).add j) = some u := by
  intro j u h
  match j, h with
  | 0, h =>
    simp at h; subst h
    rw [Addr.add_lit, (Blk.new w t _).cell]; rfl
theorem one_bool (b : Bool) : ∀ u ∈ [Value.bool b], u.oneCell' = true := by intro u h; simp at h; subst h; rfl
theorem one_int (k : IntKind) (n : Int) : ∀ u ∈ [Value.int k n], u.oneCell' = true := by intro u h; simp at h; subst h; rfl
theorem one_str (s : ByteArray) : ∀ u ∈ [Value.string s], u.oneCell' = true := by intro u h; simp at h; subst h; rfl
theorem bt_get (s : ByteArray) (k : Nat) (h : k < s.size) : ((s[k]'h).toNat : Int) = bt s k := by
  unfold bt
  have h' : k < s.data.toList.length := h
  rw [List.getD_eq_getElem?_getD, List.getElem?_eq_getElem h']; rfl
def OnlyB (g : Nat) (w w' : World) : Prop := w.grownBy w' (some g)
theorem OnlyB.refl (g : Nat) (w : World) : OnlyB g w w := ⟨rfl, rfl, rfl, Nat.le_refl _, fun _ _ _ => rfl⟩
theorem OnlyB.trans {g : Nat} {a b c : World} (h : OnlyB g a b) (k : OnlyB g b c) : OnlyB g a c :=
  ⟨k.os.trans h.os, k.tape.trans h.tape, k.output.trans h.output, Nat.le_trans h.size k.size, fun i hi hne => (k.block i (Nat.lt_of_lt_of_le hi h.size) hne).trans (h.block i hi hne)⟩
theorem OnlyB.ext {g : Nat} {a b c : World} (h : OnlyB g a b) (k : Ext b c) : OnlyB g a c :=
  ⟨k.os.trans h.os, k.tape.trans h.tape, k.output.trans h.output, Nat.le_trans h.size k.size, fun i hi hne => (k.block i (Nat.lt_of_lt_of_le hi h.size)).trans (h.block i hi hne)⟩
theorem OnlyB.setCell {g : Nat} {a w : World} (h : OnlyB g a w) (i : Nat) (u : Value) : OnlyB g a (w.setCell ⟨g, i, none⟩ u) :=
  ⟨h.os, h.tape, h.output, by simpa [World.setCell] using h.size, fun k hk hne => (Below.heap_setCell w ⟨g, i, none⟩ u k (fun e => hne (by rw [e]))).trans (h.block k hk hne)⟩
theorem OnlyB.alloc {g : Nat} {a w : World} (h : OnlyB g a w) (o : Obj) : OnlyB g a (w.alloc o) :=
  ⟨h.os, h.tape, h.output, Nat.le_trans h.size (by simp), fun i hi hne => (Below.heap_alloc w o i (Nat.lt_of_lt_of_le hi h.size)).trans (h.block i hi hne)⟩
theorem OnlyB.drew {g : Nat} {a w : World} (h : OnlyB g a w) : OnlyB g a w.drew := ⟨h.os, h.tape, h.output, h.size, h.block⟩
theorem OnlyB.drewN {g : Nat} {a w : World} (h : OnlyB g a w) (n : Nat) : OnlyB g a (w.drewN n) := ⟨h.os, h.tape, h.output, h.size, h.block⟩
theorem Ext.only {g : Nat} {a b c : World} (h : Ext a b) (hg : a.heap.size ≤ g) (k : OnlyB g b c) : Ext a c := h.grown k (fun k hk => by cases hk; exact hg)
theorem OnlyB.blk {g k : Nat} {w w' : World} {t : TypeId} {cs : Array Value} (h : OnlyB g w w') (hb : Blk w k t cs) (hne : k ≠ g) : Blk w' k t cs := hb.grown h (by simpa using hne)
theorem OnlyB.blkM {g k : Nat} {w w' : World} {t : TypeId} {cs : Array Value} (h : OnlyB g w w') (hb : BlkM w k t cs) (hne : k ≠ g) : BlkM w' k t cs := hb.grown h (by simpa using hne)
theorem OnlyB.cellv {g : Nat} {w w' : World} (h : OnlyB g w w') {p : Addr} {v : Value} (hp : w.cell? p = some v) (hne : p.block ≠ g) : w'.cell? p = some v := h.cell hp (by simpa using hne)
theorem ownsRow_blk {w : World} {base : Nat} {e : TypeId} {g n : Nat} {xs : List Value} (h : w.ownsRow base e 1 (.slice (some ⟨g, 0, none⟩) n n) n xs) : Blk w g e xs.toArray := by
  rcases h.2 with ⟨h0, _⟩ | ⟨g', cap, cur, hv, _, hg, _, _, hs, ht⟩
  · cases h0
  · injection hv with h1 h2 h3
    injection h1 with h1; injection h1 with h1
    subst h1; subst h3
    have : xs.toArray = cur := by
      rw [← ht, List.take_of_length_le (by simp; omega)]
    rw [this]; exact hg
theorem Rd.of_cells {w : World} {a : Addr} {n : Nat} {xs : List Value} (hl : xs.length = n) (h : ∀ i v, xs[i]? = some v → w.cell? (a.add i) = some v) : Rd w (some a) n xs := by
  refine ⟨hl, fun hn => ?_⟩
  have h0 := h 0 _ (List.getElem?_eq_getElem (show 0 < xs.length by omega))
  have hs : a.spot = none := by simpa [Addr.add] using World.cell?_spot h0
  obtain ⟨b, o, sp⟩ := a
  simp only at hs
  subst hs
  exact ⟨b, o, rfl, fun i v hv => by rw [← Addr.add_mid]; exact h i v hv⟩
theorem Rd.of_strs {w : World} {a : Addr} {n : Nat} {ss : List ByteArray} (hl : n ≤ ss.length) (h : ∀ i, i < ss.length → w.cell? (a.add i) = some (.string (ss.getD i ByteArray.empty))) : Rd w (some a) n ((ss.take n).map Value.string) := by
  refine Rd.of_cells (by simp; omega) fun i v hv => ?_
  rw [List.getElem?_map, List.getElem?_take] at hv
  by_cases hi : i < n
  · rw [if_pos hi, List.getElem?_eq_getElem (by omega)] at hv
    simp at hv; subst hv
    rw [h i (by omega), List.getD_eq_getElem?_getD, List.getElem?_eq_getElem (by omega)]; rfl
  · rw [if_neg hi] at hv; simp at hv
theorem Rd.of_ints {w : World} {a : Addr} {n : Nat} {k : IntKind} {zs : List Int} (hl : n ≤ zs.length) (h : ∀ i, i < zs.length → w.cell? (a.add i) = some (.int k (zs.getD i 0))) : Rd w (some a) n ((zs.take n).map (Value.int k)) := by
  refine Rd.of_cells (by simp; omega) fun i v hv => ?_
  rw [List.getElem?_map, List.getElem?_take] at hv
  by_cases hi : i < n
  · rw [if_pos hi, List.getElem?_eq_getElem (by omega)] at hv
    simp at hv; subst hv
    rw [h i (by omega), List.getD_eq_getElem?_getD, List.getElem?_eq_getElem (by omega)]; rfl
  · rw [if_neg hi] at hv; simp at hv
theorem Rd.new (w : World) (t : TypeId) (cs : List Value) (n : Nat) (hn : cs.length = n) : Rd (w.alloc (.cells cs.toArray t)) (some ⟨w.heap.size, 0, none⟩) n cs :=
  ⟨hn, fun _ => ⟨w.heap.size, 0, rfl, fun i v h => by rw [Nat.zero_add, (Blk.new w t _).cell]; simpa using h⟩⟩
theorem Rd.newd (w : World) (t : TypeId) (cs : List Value) (n : Nat) (hn : cs.length = n) : Rd (w.alloc (.cells cs.toArray t)).drew (some ⟨w.heap.size, 0, none⟩) n cs := Rd.new w t cs n hn
theorem cell_n (w : World) (c : Array Value) (t : TypeId) (i : Nat) (v : Value) (h : c[i]? = some v) : (w.alloc (.cells c t)).cell? ⟨w.heap.size, i, none⟩ = some v := by
  rw [(Blk.new w t c).cell]; exact h
theorem cell_nd (w : World) (c : Array Value) (t : TypeId) (i : Nat) (v : Value) (h : c[i]? = some v) : (w.alloc (.cells c t)).drew.cell? ⟨w.heap.size, i, none⟩ = some v := cell_n w c t i v h
theorem cell_n2 (w : World) (c : Array Value) (t : TypeId) (o : Obj) (i : Nat) (v : Value) (h : c[i]? = some v) : ((w.alloc (.cells c t)).alloc o).cell? ⟨w.heap.size, i, none⟩ = some v :=
  ((Ext.refl _).alloc o).cellv (cell_n w c t i v h)
theorem cell_n2d (w : World) (c : Array Value) (t : TypeId) (o : Obj) (i : Nat) (v : Value) (h : c[i]? = some v) : ((w.alloc (.cells c t)).alloc o).drew.cell? ⟨w.heap.size, i, none⟩ = some v := cell_n2 w c t o i v h
theorem cell_n3 (w : World) (c : Array Value) (t : TypeId) (o : Obj) (i : Nat) (v : Value) (h : c[i]? = some v) : ((w.alloc o).alloc (.cells c t)).cell? ⟨w.heap.size + 1, i, none⟩ = some v := by
  have := cell_n (w.alloc o) c t i v h
  simpa using this
theorem cell_n3d (w : World) (c : Array Value) (t : TypeId) (o : Obj) (i : Nat) (v : Value) (h : c[i]? = some v) : ((w.alloc o).alloc (.cells c t)).drew.cell? ⟨w.heap.size + 1, i, none⟩ = some v := cell_n3 w c t o i v h
section
variable {P : Program} {ops : Array Oper} {a : Act} {C : World → Prop} {K : Act → Prop}
theorem quiet_load_row {o : Oper} (hgd : o.guard = none) (ty : TypeId) (x : Operand) (ho : o.op = .load ty x) (g : Nat) (hx : a.eval x = .pointer (some ⟨g, 0, none⟩)) (t : TypeId) (cs : Array Value) (d : TypeDesc)
    (hC : ∀ w, C w → Blk w g t cs) (hu : P.underlying ty = some d) (hd : (match d with | .struct _ | .array _ _ => true | _ => false) = true) (hi : (P.info? ty).map (·.size) = some cs.size)
    (hK : K (a.put o.dst (.agg cs))) : if Region.wanted o (yielded ops a.tmps) = true then o.quiet P a C K else K (a.put o.dst undef) := by
  rw [if_pos (by simp [Region.wanted, hgd])]
  refine ⟨.agg cs, fun w hw => ?_, hK⟩
  have hrun := run_loadVar_row (P := P) w g t ty cs (0, 0) d (hC w hw) hu hd hi
  unfold Oper.quietAt execOp
  simp only [ho, hx, Instr.loadAt, Instr.sureAddr, Sem.run_bind, Sem.run_pure, Result.andThen_ok, hrun]
  exact ⟨rfl, rfl⟩
theorem quiet_store_same {o : Oper} (hgd : o.guard = none) (t : TypeId) (x y : Operand) (ho : o.op = .store t x y) (g : Nat) (e : TypeId) (cs : Array Value)
    (hx : a.eval x = .pointer (some ⟨g, 0, none⟩)) (hy : a.eval y = .agg cs) (hC : ∀ w, C w → Blk w g e cs) (hi : (P.info? t).map (·.size) = some cs.size) (h1 : ∀ v ∈ cs.toList, v.oneCell' = true)
    (hK : K (a.put o.dst undef)) : if Region.wanted o (yielded ops a.tmps) = true then o.quiet P a C K else K (a.put o.dst undef) := by
  rw [if_pos (by simp [Region.wanted, hgd])]
  refine ⟨undef, fun w hw => ?_, hK⟩
  have hb := hC w hw
  have hst := run_storeCells_at P g 0 e cs.toList 0 cs w hb (by simp) h1
  have hself : w.setRow g cs = w := setRow_self w g cs e (0, 0) hb
  have hrun : (storeVar t ⟨g, 0, none⟩ (.agg cs)).run P w = .ok () w := by
    cases hq : P.info? t with
    | none => simp [hq] at hi
    | some i =>
      have hs' : cs.size = i.size := by simp [hq] at hi; omega
      simp [Nat.add_zero] at hst
      have hd : List.drop cs.size cs.toList = [] := by simp
      simp [storeVar, sizeOf, typeInfo, hq, Value.cells, ← hs', hst]
      rw [hd]; simpa using hself
  unfold Oper.quietAt execOp
  simp only [ho, hx, hy, Instr.storeAt, Instr.sureAddr, Sem.run_bind, Sem.run_pure, Result.andThen_ok, hrun]
  exact ⟨rfl, rfl⟩
end
theorem ret_row2 {P : Program} {a : Act} {w : World} {fn : Func} {R : Ending → World → Prop} {p q : Tmp} {ty ty' : TypeId} (hres : fn.results = #[.cell p ty, .cell q ty']) (g g' : Nat) (t t' : TypeId) (cs cs' : Array Value) (d d' : TypeDesc)
    (hp : a.tmps.getD p undef = .pointer (some ⟨g, 0, none⟩)) (hg : Blk w g t cs) (hp' : a.tmps.getD q undef = .pointer (some ⟨g', 0, none⟩)) (hg' : Blk w g' t' cs')
    (hu : P.underlying ty = some d) (hd : (match d with | .struct _ | .array _ _ => true | _ => false) = true) (hi : (P.info? ty).map (·.size) = some cs.size)
    (hu' : P.underlying ty' = some d') (hd' : (match d' with | .struct _ | .array _ _ => true | _ => false) = true) (hi' : (P.info? ty').map (·.size) = some cs'.size)
    (hde : a.defers = []) (hR : R (.returned (.tuple #[.agg cs, .agg cs'])) w) : bodyPost P fn R .ret a w := by
  refine bodyPost_ret (v := .tuple #[.agg cs, .agg cs']) ?_ hde hR
  have h1 : a.tmps[p]?.getD undef = .pointer (some ⟨g, 0, none⟩) := by simpa using hp
  have h2 : a.tmps[q]?.getD undef = .pointer (some ⟨g', 0, none⟩) := by simpa using hp'
  simp [results, hres, h1, h2, asAddr, run_loadVar_row w g t ty cs (0, 0) d hg hu hd hi, run_loadVar_row w g' t' ty' cs' (0, 0) d' hg' hu' hd' hi']
theorem wpList_alloc_at {P : Program} {ops : Array Oper} {rest : List Oper} {a : Act} {w : World} {Q : Exit → Act → World → Prop} {o : Oper} (hgd : o.guard = none) (t : TypeId) (ho : o.op = .alloc t) (Z : Array Value)
    (hz : ∀ w, (zeroValue t).run P w = .ok (.agg Z) w) (n : Nat) (hn : w.heap.size = n)
    (h : wpList P ops Q rest (a.put o.dst (.pointer (some ⟨n, 0, none⟩))) (w.alloc (.cells Z t))) : wpList P ops Q (o :: rest) a w := by
  subst hn; exact wpList_alloc_big hgd t ho Z hz h
def tabA (n : Nat) (f : Nat → Value) : Array Value := ((List.range n).map f).toArray
theorem tabA_size (n : Nat) (f : Nat → Value) : (tabA n f).size = n := by simp [tabA]
theorem tabA_at (n : Nat) (f : Nat → Value) (i : Nat) (hi : i < n) : (tabA n f)[i]? = some (f i) := by simp [tabA, hi]
theorem tabA_out (n : Nat) (f : Nat → Value) (i : Nat) (hi : n ≤ i) : (tabA n f)[i]? = none := by rw [Array.getElem?_eq_none]; rw [tabA_size]; exact hi
theorem tabA_set (n : Nat) (f g : Nat → Value) (i : Nat) (v : Value) (hi : i < n) (h : ∀ k, k < n → g k = if k = i then v else f k) : (tabA n f).setIfInBounds i v = tabA n g := by
  apply Array.ext_getElem?
  intro k
  rw [Array.getElem?_setIfInBounds, tabA_size]
  by_cases hk : k < n
  · rw [tabA_at n g k hk, h k hk]
    by_cases e : i = k
    · subst e; rw [if_pos rfl, if_pos rfl, if_pos hi]
    · rw [if_neg e, tabA_at n f k hk, if_neg (fun h => e h.symm)]
  · rw [if_neg (by omega), tabA_out n f k (by omega), tabA_out n g k (by omega)]
theorem tabA_congr (n : Nat) (f g : Nat → Value) (h : ∀ i, i < n → f i = g i) : tabA n f = tabA n g := by
  unfold tabA; congr 1; apply List.map_congr_left; intro i hi; exact h i (by simpa using hi)
theorem tabA_of (cs : Array Value) (n : Nat) (f : Nat → Value) (hn : cs.size = n) (h : ∀ i, i < n → cs[i]? = some (f i)) : cs = tabA n f := by
  apply Array.ext_getElem?
  intro k
  by_cases hk : k < n
  · rw [tabA_at n f k hk, h k hk]
  · rw [tabA_out n f k (by omega), Array.getElem?_eq_none]; omega
def bn (s : ByteArray) (i : Nat) : Nat := (s.data.toList.getD i 0).toNat
theorem bn_lt (s : ByteArray) (i : Nat) : bn s i < 256 := (s.data.toList.getD i 0).toNat_lt
theorem bt_bn (s : ByteArray) (i : Nat) : bt s i = (bn s i : Int) := rfl
theorem str_ext' (s t : ByteArray) (hn : s.size = t.size) (h : ∀ i, i < s.size → bn s i = bn t i) : s = t := str_ext s t hn (fun i hi => by rw [bt_bn, bt_bn, h i hi])
theorem bn_strOf (n : Nat) (f : Nat → Nat) (i : Nat) (hi : i < n) (h : f i < 256) : bn (strOf n (fun i => (f i : Int))) i = f i := by
  have := bt_strOf n (fun i => (f i : Int)) i hi (by omega) (by omega)
  rw [bt_bn] at this; omega
def strN (n : Nat) (f : Nat → Nat) : ByteArray := strOf n (fun i => (f i : Int))
theorem strN_size (n : Nat) (f : Nat → Nat) : (strN n f).size = n := strOf_size _ _
theorem bn_strN (n : Nat) (f : Nat → Nat) (i : Nat) (hi : i < n) (h : f i < 256) : bn (strN n f) i = f i := bn_strOf n f i hi h
theorem strN_congr (n : Nat) (f g : Nat → Nat) (h : ∀ i, i < n → f i = g i) : strN n f = strN n g := by
  unfold strN strOf; congr 2; apply List.map_congr_left; intro i hi; simp only [h i (by simpa using hi)]
theorem strN_bn (s : ByteArray) : strN s.size (bn s) = s := strOf_bt s s.size _ rfl (fun _ _ => rfl)
def u8c (f : Nat → Nat) (i : Nat) : Value := .int .u8 (f i : Int)
theorem Blk.ne_ {w : World} {g g' : Nat} {t t' : TypeId} {cs cs' : Array Value} (h : Blk w g t cs) (h' : Blk w g' t' cs') (hne : t ≠ t') : g ≠ g' := by
  rintro rfl
  unfold Blk at h h'
  rw [h] at h'
  injection h' with h'
  injection h' with _ ht
  exact hne ht
theorem madeCells_one (z : Value) (n : Nat) (hz : z.cells = #[z]) : madeCells z.cells n = tabA n (fun _ => z) := by
  rw [hz]
  refine tabA_of _ n _ (by simp [madeCells]) (fun i hi => ?_)
  simp [madeCells, hi, Nat.mod_one]
theorem run_make_tab {P : Program} (t e : TypeId) (i : TypeInfo) (z : Value) (ht : P.underlying t = some (.slice e)) (hi : P.info? e = some i) (hz : i.zero = some z) (hs : i.size = 1) (hzc : z.cells = #[z])
    (kl kc : IntKind) (n : Nat) (hbytes : i.bytes * n ≤ 281474976710656) (h63 : n ≤ 9223372036854775807) (w : World) :
    (Instr.makeSlice t (.int kl (n : Int)) (.int kc (n : Int))).run P w = .ok (.slice (some ⟨w.heap.size, 0, none⟩) n n) (w.alloc (.cells (tabA n (fun _ => z)) e)) := by
  have hb : (i.bytes : Int) * (n : Int) ≤ 281474976710656 := by
    have h : ((i.bytes * n : Nat) : Int) ≤ 281474976710656 := by omega
    rwa [Int.natCast_mul] at h
  have hr := run_make (P := P) w t e i z ht hi hz kl kc n n (by omega) (by omega) hb (by omega)
  simp only [Int.toNat_natCast, hs, Nat.mul_one] at hr
  rw [madeCells_one z n hzc] at hr
  exact hr
theorem wpList_make_tab {P : Program} {ops : Array Oper} {rest : List Oper} {a : Act} {w : World} {Q : Exit → Act → World → Prop} {o : Oper} (hgd : o.guard = none) (l c : Operand) (t : TypeId) (ho : o.op = .makeSlice t l c)
    (e : TypeId) (i : TypeInfo) (z : Value) (ht : P.underlying t = some (.slice e)) (hi : P.info? e = some i) (hz : i.zero = some z) (hs : i.size = 1) (hzc : z.cells = #[z])
    (kl kc : IntKind) (n : Nat) (hl : a.eval l = .int kl (n : Int)) (hc : a.eval c = .int kc (n : Int)) (hbytes : i.bytes * n ≤ 281474976710656) (h63 : n ≤ 9223372036854775807)
    (h : wpList P ops Q rest (a.put o.dst (.slice (some ⟨w.heap.size, 0, none⟩) n n)) (w.alloc (.cells (tabA n (fun _ => z)) e))) : wpList P ops Q (o :: rest) a w := by
  refine wpList_plain hgd fun _ hK => ?_
  have hrun := run_make_tab (P := P) t e i z ht hi hz hs hzc kl kc n hbytes h63 w
  unfold Oper.wp execOp
  simp only [ho, hl, hc, Sem.run_bind, Sem.run_pure, Result.andThen_ok, hrun]
  exact hK _ _ h
end Go
end
section
namespace Go.Gf
def xpT : List Nat := [1, 2, 4, 8, 16, 32, 64, 128, 29, 58, 116, 232, 205, 135, 19, 38, 76, 152, 45, 90, 180, 117, 234, 201, 143, 3, 6, 12, 24, 48, 96, 192, 157, 39, 78, 156, 37, 74, 148, 53, 106, 212, 181, 119, 238, 193, 159, 35, 70, 140, 5, 10, 20, 40, 80, 160, 93, 186, 105, 210, 185, 111, 222, 161, 95, 190, 97, 194, 153, 47, 94, 188, 101, 202, 137, 15, 30, 60, 120, 240, 253, 231, 211, 187, 107, 214, 177, 127, 254, 225, 223, 163, 91, 182, 113, 226, 217, 175, 67, 134, 17, 34, 68, 136, 13, 26, 52, 104, 208, 189, 103, 206, 129, 31, 62, 124, 248, 237, 199, 147, 59, 118, 236, 197, 151, 51, 102, 204, 133, 23, 46, 92, 184, 109, 218, 169, 79, 158, 33, 66, 132, 21, 42, 84, 168, 77, 154, 41, 82, 164, 85, 170, 73, 146, 57, 114, 228, 213, 183, 115, 230, 209, 191, 99, 198, 145, 63, 126, 252, 229, 215, 179, 123, 246, 241, 255, 227, 219, 171, 75, 150, 49, 98, 196, 149, 55, 110, 220, 165, 87, 174, 65, 130, 25, 50, 100, 200, 141, 7, 14, 28, 56, 112, 224, 221, 167, 83, 166, 81, 162, 89, 178, 121, 242, 249, 239, 195, 155, 43, 86, 172, 69, 138, 9, 18, 36, 72, 144, 61, 122, 244, 245, 247, 243, 251, 235, 203, 139, 11, 22, 44, 88, 176, 125, 250, 233, 207, 131, 27, 54, 108, 216, 173, 71, 142]
def lgT : List Nat := [0, 0, 1, 25, 2, 50, 26, 198, 3, 223, 51, 238, 27, 104, 199, 75, 4, 100, 224, 14, 52, 141, 239, 129, 28, 193, 105, 248, 200, 8, 76, 113, 5, 138, 101, 47, 225, 36, 15, 33, 53, 147, 142, 218, 240, 18, 130, 69, 29, 181, 194, 125, 106, 39, 249, 185, 201, 154, 9, 120, 77, 228, 114, 166, 6, 191, 139, 98, 102, 221, 48, 253, 226, 152, 37, 179, 16, 145, 34, 136, 54, 208, 148, 206, 143, 150, 219, 189, 241, 210, 19, 92, 131, 56, 70, 64, 30, 66, 182, 163, 195, 72, 126, 110, 107, 58, 40, 84, 250, 133, 186, 61, 202, 94, 155, 159, 10, 21, 121, 43, 78, 212, 229, 172, 115, 243, 167, 87, 7, 112, 192, 247, 140, 128, 99, 13, 103, 74, 222, 237, 49, 197, 254, 24, 227, 165, 153, 119, 38, 184, 180, 124, 17, 68, 146, 217, 35, 32, 137, 46, 55, 63, 209, 91, 149, 188, 207, 205, 144, 135, 151, 178, 220, 252, 190, 97, 242, 86, 211, 171, 20, 42, 93, 158, 132, 60, 57, 83, 71, 109, 65, 162, 31, 45, 67, 216, 183, 123, 164, 118, 196, 23, 73, 236, 127, 12, 111, 246, 108, 161, 59, 82, 41, 157, 85, 170, 251, 96, 134, 177, 187, 204, 62, 90, 203, 89, 95, 176, 156, 169, 160, 81, 11, 245, 22, 235, 122, 117, 44, 215, 79, 174, 213, 233, 230, 231, 173, 232, 116, 214, 244, 234, 168, 80, 88, 175]
def pw (i : Nat) : Nat := xpT.getD i 0
def lg (x : Nat) : Nat := lgT.getD x 0
def dbl (x : Nat) : Nat := if 255 < 2 * x then (2 * x) ^^^ 285 else 2 * x
theorem pw_next : ∀ i, i < 254 → pw (i + 1) = dbl (pw i) := by decide +kernel
theorem pw_last : dbl (pw 254) = pw 0 := by decide +kernel
theorem pw_zero : pw 0 = 1 := by decide +kernel
theorem pw_bd : ∀ i, i < 255 → 0 < pw i ∧ pw i < 256 := by decide +kernel
theorem lg_pw : ∀ i, i < 255 → lg (pw i) = i := by decide +kernel
theorem pw_lg : ∀ x, x < 256 → x ≠ 0 → lg x < 255 ∧ pw (lg x) = x := by decide +kernel
theorem lg_zero : lg 0 = 0 := by decide +kernel
theorem lg_lt (x : Nat) (h : x < 256) : lg x < 255 := by
  by_cases h0 : x = 0
  · subst h0; rw [lg_zero]; omega
  · exact (pw_lg x h h0).1
def px (k : Nat) : Nat := pw (k % 255)
theorem px_bd (k : Nat) : 0 < px k ∧ px k < 256 := pw_bd _ (Nat.mod_lt _ (by omega))
theorem px_succ (k : Nat) : px (k + 1) = dbl (px k) := by
  unfold px
  rcases Nat.lt_or_ge (k % 255) 254 with h | h
  · rw [show (k + 1) % 255 = k % 255 + 1 by omega, pw_next _ h]
  · have h2 : k % 255 = 254 := by have := Nat.mod_lt k (show 0 < 255 by omega); omega
    rw [show (k + 1) % 255 = 0 by omega, h2, pw_last]
theorem px_lt (k : Nat) (h : k < 255) : px k = pw k := by unfold px; rw [Nat.mod_eq_of_lt h]
def dblN : Nat → Nat → Nat
  | 0, x => x
  | n + 1, x => dbl (dblN n x)
def term (a b i : Nat) : Nat := if b.testBit i then dblN i a else 0
def fm (a b : Nat) : Nat := term a b 0 ^^^ term a b 1 ^^^ term a b 2 ^^^ term a b 3 ^^^ term a b 4 ^^^ term a b 5 ^^^ term a b 6 ^^^ term a b 7
instance : Std.Associative (α := Nat) (· ^^^ ·) := ⟨Nat.xor_assoc⟩
instance : Std.Commutative (α := Nat) (· ^^^ ·) := ⟨Nat.xor_comm⟩
theorem dbl_xor (a b : Nat) (ha : a < 256) (hb : b < 256) : dbl (a ^^^ b) = dbl a ^^^ dbl b := by
  have h7 : ∀ x, x < 256 → (255 < 2 * x ↔ x.testBit 7 = true) := by decide +kernel
  have hx : a ^^^ b < 256 := Nat.xor_lt_two_pow (n := 8) ha hb
  have h2 : 2 * (a ^^^ b) = (2 * a) ^^^ (2 * b) := by
    apply Nat.eq_of_testBit_eq; intro i
    rw [Nat.testBit_xor]
    cases i with
    | zero => simp
    | succ i =>
      rw [Nat.testBit_succ, Nat.testBit_succ, Nat.testBit_succ, Nat.mul_div_cancel_left _ (by omega), Nat.mul_div_cancel_left _ (by omega), Nat.mul_div_cancel_left _ (by omega), Nat.testBit_xor]
  have e : dbl (a ^^^ b) = if (a ^^^ b).testBit 7 = true then 2 * (a ^^^ b) ^^^ 285 else 2 * (a ^^^ b) := by
    unfold dbl; by_cases h : (a ^^^ b).testBit 7 = true
    · rw [if_pos h, if_pos ((h7 _ hx).2 h)]
    · rw [if_neg h, if_neg (fun h' => h ((h7 _ hx).1 h'))]
  have ea : dbl a = if a.testBit 7 = true then 2 * a ^^^ 285 else 2 * a := by
    unfold dbl; by_cases h : a.testBit 7 = true
    · rw [if_pos h, if_pos ((h7 _ ha).2 h)]
    · rw [if_neg h, if_neg (fun h' => h ((h7 _ ha).1 h'))]
  have eb : dbl b = if b.testBit 7 = true then 2 * b ^^^ 285 else 2 * b := by
    unfold dbl; by_cases h : b.testBit 7 = true
    · rw [if_pos h, if_pos ((h7 _ hb).2 h)]
    · rw [if_neg h, if_neg (fun h' => h ((h7 _ hb).1 h'))]
  rw [e, ea, eb, h2, Nat.testBit_xor]
  cases a.testBit 7 <;> cases b.testBit 7 <;> simp
  · ac_rfl
  · ac_rfl
  · have : (2 * a ^^^ 285) ^^^ (2 * b ^^^ 285) = (2 * a ^^^ 2 * b) ^^^ (285 ^^^ 285) := by ac_rfl
    rw [this, Nat.xor_self, Nat.xor_zero]
theorem dbl_lt : ∀ x, x < 256 → dbl x < 256 := by decide +kernel
theorem dblN_lt (n x : Nat) (h : x < 256) : dblN n x < 256 := by
  induction n with
  | zero => exact h
  | succ n ih => exact dbl_lt _ ih
theorem dblN_xor (n a b : Nat) (ha : a < 256) (hb : b < 256) : dblN n (a ^^^ b) = dblN n a ^^^ dblN n b := by
  induction n with
  | zero => rfl
  | succ n ih => simp only [dblN]; rw [ih, dbl_xor _ _ (dblN_lt _ _ ha) (dblN_lt _ _ hb)]
theorem dblN_zero (n : Nat) : dblN n 0 = 0 := by
  induction n with
  | zero => rfl
  | succ n ih => simp only [dblN, ih]; rfl
theorem term_lt (a b i : Nat) (ha : a < 256) : term a b i < 256 := by
  unfold term; split
  · exact dblN_lt _ _ ha
  · omega
theorem x8 {a b : Nat} (ha : a < 256) (hb : b < 256) : a ^^^ b < 256 := Nat.xor_lt_two_pow (n := 8) ha hb
theorem fm_lt (a b : Nat) (ha : a < 256) : fm a b < 256 := by
  unfold fm
  have h := fun i => term_lt a b i ha
  exact x8 (x8 (x8 (x8 (x8 (x8 (x8 (h 0) (h 1)) (h 2)) (h 3)) (h 4)) (h 5)) (h 6)) (h 7)
theorem term_xor_r (a b c i : Nat) : term a (b ^^^ c) i = term a b i ^^^ term a c i := by
  unfold term; rw [Nat.testBit_xor]
  cases b.testBit i <;> cases c.testBit i <;> simp
theorem term_xor_l (a b c i : Nat) (ha : a < 256) (hb : b < 256) : term (a ^^^ b) c i = term a c i ^^^ term b c i := by
  unfold term
  split
  · exact dblN_xor _ _ _ ha hb
  · rfl
theorem fm_xor_r (a b c : Nat) : fm a (b ^^^ c) = fm a b ^^^ fm a c := by
  unfold fm; simp only [term_xor_r]; ac_rfl
theorem fm_xor_l (a b c : Nat) (ha : a < 256) (hb : b < 256) : fm (a ^^^ b) c = fm a c ^^^ fm b c := by
  unfold fm; simp only [term_xor_l _ _ _ _ ha hb]; ac_rfl
theorem fm_zero_l (b : Nat) : fm 0 b = 0 := by
  have h : ∀ i, term 0 b i = 0 := fun i => by unfold term; rw [dblN_zero]; split <;> rfl
  unfold fm; simp only [h]; rfl
theorem fm_zero_r (a : Nat) : fm a 0 = 0 := by
  have h : ∀ i, term a 0 i = 0 := fun i => by unfold term; simp
  unfold fm; simp only [h]; rfl
theorem fm_one_r (a : Nat) : fm a 1 = a := by
  have h0 : term a 1 0 = a := by unfold term; simp [dblN]
  have h : ∀ i, 0 < i → term a 1 i = 0 := fun i hi => by
    unfold term; rw [Nat.testBit_lt_two_pow]
    · simp
    · have : (2 : Nat) ^ 1 ≤ 2 ^ i := Nat.pow_le_pow_right (by omega) hi
      omega
  unfold fm; rw [h0, h 1 (by omega), h 2 (by omega), h 3 (by omega), h 4 (by omega), h 5 (by omega), h 6 (by omega), h 7 (by omega)]; simp
theorem dbl8 : ∀ a, a < 256 → dblN 8 a = a ^^^ dblN 2 a ^^^ dblN 3 a ^^^ dblN 4 a := by decide +kernel
theorem fm_29 (a : Nat) (ha : a < 256) : fm a 29 = dblN 8 a := by
  have t : ∀ i, term a 29 i = if Nat.testBit 29 i then dblN i a else 0 := fun _ => rfl
  rw [dbl8 a ha]
  unfold fm
  simp only [t, show Nat.testBit 29 0 = true by decide, show Nat.testBit 29 1 = false by decide, show Nat.testBit 29 2 = true by decide, show Nat.testBit 29 3 = true by decide, show Nat.testBit 29 4 = true by decide, show Nat.testBit 29 5 = false by decide, show Nat.testBit 29 6 = false by decide, show Nat.testBit 29 7 = false by decide]
  simp [dblN]
theorem term_succ (a b i : Nat) (ha : a < 256) : term a (2 * b) (i + 1) = dbl (term a b i) := by
  have _ := ha
  unfold term
  rw [Nat.testBit_succ, Nat.mul_div_cancel_left _ (by omega)]
  cases b.testBit i
  · rfl
  · rfl
theorem dbl_xor8 (a b : Nat) (ha : a < 256) (b7 : b.testBit 7 = false) : dbl (fm a b) = fm a (2 * b) := by
  have h := fun i => term_lt a b i ha
  have t0 : term a (2 * b) 0 = 0 := by unfold term; simp
  have t7 : term a b 7 = 0 := by unfold term; rw [b7]; rfl
  unfold fm
  rw [t0, t7, Nat.xor_zero, Nat.zero_xor, term_succ _ _ 0 ha, term_succ _ _ 1 ha, term_succ _ _ 2 ha, term_succ _ _ 3 ha, term_succ _ _ 4 ha, term_succ _ _ 5 ha, term_succ _ _ 6 ha]
  rw [dbl_xor _ _ (x8 (x8 (x8 (x8 (x8 (h 0) (h 1)) (h 2)) (h 3)) (h 4)) (h 5)) (h 6), dbl_xor _ _ (x8 (x8 (x8 (x8 (h 0) (h 1)) (h 2)) (h 3)) (h 4)) (h 5), dbl_xor _ _ (x8 (x8 (x8 (h 0) (h 1)) (h 2)) (h 3)) (h 4),
    dbl_xor _ _ (x8 (x8 (h 0) (h 1)) (h 2)) (h 3), dbl_xor _ _ (x8 (h 0) (h 1)) (h 2), dbl_xor _ _ (h 0) (h 1)]
theorem fm_128 (a : Nat) : fm a 128 = dblN 7 a := by
  have t : ∀ i, term a 128 i = if Nat.testBit 128 i then dblN i a else 0 := fun _ => rfl
  unfold fm
  simp only [t, show Nat.testBit 128 0 = false by decide, show Nat.testBit 128 1 = false by decide, show Nat.testBit 128 2 = false by decide, show Nat.testBit 128 3 = false by decide, show Nat.testBit 128 4 = false by decide, show Nat.testBit 128 5 = false by decide, show Nat.testBit 128 6 = false by decide, show Nat.testBit 128 7 = true by decide]
  simp
theorem high_split : ∀ b, b < 256 → b.testBit 7 = true → b = (b - 128) ^^^ 128 ∧ (b - 128).testBit 7 = false ∧ dbl b = (2 * (b - 128)) ^^^ 29 := by decide +kernel
theorem low_dbl : ∀ b, b < 256 → b.testBit 7 = false → dbl b = 2 * b := by decide +kernel
theorem fm_dbl_r (a b : Nat) (ha : a < 256) (hb : b < 256) : fm a (dbl b) = dbl (fm a b) := by
  cases h7 : b.testBit 7
  · rw [low_dbl b hb h7, dbl_xor8 a b ha h7]
  · obtain ⟨e1, e2, e3⟩ := high_split b hb h7
    rw [e3, fm_xor_r, ← dbl_xor8 a _ ha e2, fm_29 a ha]
    conv => rhs; rw [e1]
    rw [fm_xor_r, dbl_xor _ _ (fm_lt _ _ ha) (fm_lt _ _ ha), fm_128]
    rfl
theorem fm_px (i j : Nat) : fm (px i) (px j) = px (i + j) := by
  induction j with
  | zero => rw [show px 0 = 1 from pw_zero, fm_one_r]; rfl
  | succ j ih => rw [px_succ, fm_dbl_r _ _ (px_bd i).2 (px_bd j).2, ih, ← px_succ]; rfl
theorem px_of (a : Nat) (ha : a < 256) (h0 : a ≠ 0) : px (lg a) = a := by
  obtain ⟨h1, h2⟩ := pw_lg a ha h0
  rw [px_lt _ h1, h2]
theorem fm_log (a b : Nat) (ha : a < 256) (hb : b < 256) (a0 : a ≠ 0) (b0 : b ≠ 0) : fm a b = px (lg a + lg b) := by
  conv => lhs; rw [← px_of a ha a0, ← px_of b hb b0]
  exact fm_px _ _
theorem fm_comm (a b : Nat) (ha : a < 256) (hb : b < 256) : fm a b = fm b a := by
  by_cases a0 : a = 0
  · subst a0; rw [fm_zero_l, fm_zero_r]
  by_cases b0 : b = 0
  · subst b0; rw [fm_zero_l, fm_zero_r]
  rw [fm_log a b ha hb a0 b0, fm_log b a hb ha b0 a0, Nat.add_comm]
theorem fm_ne (a b : Nat) (ha : a < 256) (hb : b < 256) (a0 : a ≠ 0) (b0 : b ≠ 0) : fm a b ≠ 0 := by
  rw [fm_log a b ha hb a0 b0]; have := px_bd (lg a + lg b); omega
theorem px_mod (k : Nat) : px (k % 255) = px k := by unfold px; rw [Nat.mod_mod]
theorem lg_px (k : Nat) : lg (px k) = k % 255 := lg_pw _ (Nat.mod_lt _ (by omega))
theorem fm_assoc (a b c : Nat) (ha : a < 256) (hb : b < 256) (hc : c < 256) : fm (fm a b) c = fm a (fm b c) := by
  by_cases a0 : a = 0
  · subst a0; rw [fm_zero_l, fm_zero_l, fm_zero_l]
  by_cases b0 : b = 0
  · subst b0; simp only [fm_zero_l, fm_zero_r]
  by_cases c0 : c = 0
  · subst c0; rw [fm_zero_r, fm_zero_r, fm_zero_r]
  rw [fm_log a b ha hb a0 b0, fm_log b c hb hc b0 c0]
  conv => lhs; rw [← px_of c hc c0]
  conv => rhs; rw [← px_of a ha a0]
  rw [fm_px, fm_px, Nat.add_assoc]
def fi (a : Nat) : Nat := px (255 - lg a)
theorem fi_bd (a : Nat) : 0 < fi a ∧ fi a < 256 := px_bd _
theorem fm_fi (a : Nat) (ha : a < 256) (a0 : a ≠ 0) : fm a (fi a) = 1 := by
  have hl := (pw_lg a ha a0).1
  unfold fi
  have e : fm a (px (255 - lg a)) = fm (px (lg a)) (px (255 - lg a)) := by rw [px_of a ha a0]
  rw [e, fm_px, show lg a + (255 - lg a) = 255 by omega]
  decide +kernel
def rd1 (i x : Nat) : Nat := if x.testBit i then x ^^^ (285 * 2 ^ (i - 8)) else x
def red (x : Nat) : Nat := rd1 8 (rd1 9 (rd1 10 (rd1 11 (rd1 12 (rd1 13 (rd1 14 (rd1 15 x)))))))
theorem rd1_xor (i x y : Nat) : rd1 i (x ^^^ y) = rd1 i x ^^^ rd1 i y := by
  unfold rd1; rw [Nat.testBit_xor]
  cases x.testBit i <;> cases y.testBit i <;> simp
  · ac_rfl
  · ac_rfl
  · have : (x ^^^ 285 * 2 ^ (i - 8)) ^^^ (y ^^^ 285 * 2 ^ (i - 8)) = (x ^^^ y) ^^^ (285 * 2 ^ (i - 8) ^^^ 285 * 2 ^ (i - 8)) := by ac_rfl
    rw [this, Nat.xor_self, Nat.xor_zero]
theorem red_xor (x y : Nat) : red (x ^^^ y) = red x ^^^ red y := by unfold red; simp only [rd1_xor]
theorem red_shift : ∀ a, a < 256 → ∀ i, i < 8 → red (a * 2 ^ i) = dblN i a := by decide +kernel
def rterm (a b i : Nat) : Nat := if b.testBit i then a * 2 ^ i else 0
def rsum (a b : Nat) : Nat → Nat
  | 0 => 0
  | n + 1 => rsum a b n ^^^ rterm a b n
theorem red_zero : red 0 = 0 := by decide +kernel
theorem red_rterm (a b i : Nat) (ha : a < 256) (hi : i < 8) : red (rterm a b i) = term a b i := by
  unfold rterm term; split
  · exact red_shift a ha i hi
  · exact red_zero
theorem red_rsum (a b : Nat) (ha : a < 256) : red (rsum a b 8) = fm a b := by
  simp only [rsum, red_xor, Nat.zero_xor]
  rw [red_rterm a b 0 ha (by omega), red_rterm a b 1 ha (by omega), red_rterm a b 2 ha (by omega), red_rterm a b 3 ha (by omega), red_rterm a b 4 ha (by omega), red_rterm a b 5 ha (by omega), red_rterm a b 6 ha (by omega), red_rterm a b 7 ha (by omega)]
  rfl
theorem rterm_lt (a b i : Nat) (ha : a < 256) (hi : i < 8) : rterm a b i < 32768 := by
  unfold rterm; split
  · have : (2 : Nat) ^ i ≤ 2 ^ 7 := Nat.pow_le_pow_right (by omega) (by omega)
    have h2 := Nat.mul_le_mul (show a ≤ 255 by omega) this
    omega
  · omega
theorem rsum_lt (a b : Nat) (ha : a < 256) (n : Nat) (hn : n ≤ 8) : rsum a b n < 32768 := by
  induction n with
  | zero => simp [rsum]
  | succ n ih => exact Nat.xor_lt_two_pow (n := 15) (ih (by omega)) (rterm_lt a b n ha (by omega))
def redTo : Nat → Nat → Nat
  | 0, x => x
  | k + 1, x => rd1 (15 - k) (redTo k x)
theorem redTo_eight (x : Nat) : redTo 8 x = red x := rfl
theorem rd1_lt (i x : Nat) (hi : i < 16) (h8 : 8 ≤ i) (hx : x < 65536) : rd1 i x < 65536 := by
  unfold rd1; split
  · have : (2 : Nat) ^ (i - 8) ≤ 2 ^ 7 := Nat.pow_le_pow_right (by omega) (by omega)
    have h2 := Nat.mul_le_mul (show 285 ≤ 285 by omega) this
    exact Nat.xor_lt_two_pow (n := 16) hx (by omega)
  · exact hx
theorem redTo_lt (k x : Nat) (hk : k ≤ 8) (hx : x < 65536) : redTo k x < 65536 := by
  induction k with
  | zero => exact hx
  | succ k ih => exact rd1_lt _ _ (by omega) (by omega) (ih (by omega))
end Go.Gf
end
