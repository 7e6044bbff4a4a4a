import Derived.Test.YtjmbimmikfnaoaaS1
namespace Go.Proofs.Ytjmbimmikfnaoaa
open Go.RowKit
def powN : List Nat := [26, 23, 22, 16, 12, 11, 10, 8, 7, 5, 4, 2, 1, 0]
theorem powers_any (w : World) :
    Calls Try.prog 19 #[] w fun e w' => e = .returned (.slice (some ⟨w.heap.size, 0, none⟩) 14 14) ∧ Ext w w' ∧ w'.heap.size = w.heap.size + 1 ∧ Blk w' w.heap.size 3 (powN.map fun n : Nat => Value.int .i64 (n : Int)).toArray := by
  go_enter Try.func19, Try.ntmps19
  go_wp2
  go_ret
  exact ⟨rfl, (Ext.refl _).alloc _, by simp, Blk.new _ _ _⟩
def be4F (x : Int) (i : Nat) : Int := if i = 0 then x / 16777216 else if i = 1 then x / 65536 % 256 else if i = 2 then x / 256 % 256 else x % 256
def be4 (x : Int) : ByteArray := strOf 4 (be4F x)
theorem bt_be4 (x : Int) (h0 : 0 ≤ x) (h1 : x < 4294967296) : bt (be4 x) 0 = x / 16777216 ∧ bt (be4 x) 1 = x / 65536 % 256 ∧ bt (be4 x) 2 = x / 256 % 256 ∧ bt (be4 x) 3 = x % 256 := by
  refine ⟨?_, ?_, ?_, ?_⟩ <;> (unfold be4; rw [bt_strOf] <;> simp [be4F] <;> omega)
theorem be4_size (x : Int) : (be4 x).size = 4 := strOf_size _ _
theorem bytes_cells (x : Int) (w : World) (h0 : 0 ≤ x) (h1 : x < 4294967296) (t : TypeId) : ∀ j, j < 4 → (w.alloc (.cells #[Value.int IntKind.u8 (x / 16777216), Value.int IntKind.u8 (x / 65536 % 256),
          Value.int IntKind.u8 (x / 256 % 256), Value.int IntKind.u8 (x % 256)] t)).cell? ⟨w.heap.size, 0 + j, none⟩ = some (.int .u8 (bt (be4 x) j)) := by
  obtain ⟨e0, e1, e2, e3⟩ := bt_be4 x h0 h1
  intro j hj
  rw [Nat.zero_add, (Blk.new w t _).cell]
  match j, hj with
  | 0, _ => rw [e0]; rfl
  | 1, _ => rw [e1]; rfl
  | 2, _ => rw [e2]; rfl
  | 3, _ => rw [e3]; rfl
theorem bytes_any (x : Int) (w : World) (h0 : 0 ≤ x) (h1 : x < 4294967296) :
    Calls Try.prog 9 #[.int .u32 x] w fun e w' => e = .returned (.string (be4 x)) ∧ Ext w w' := by
  go_enter Try.func9, Try.ntmps9
  go_wp2_with (with_reducible refine wpList_bytes_str rfl 37 9 5 _ rfl Try.underlying37 Try.underlying5 Try.underlying9 w.heap.size 0 4 4 rfl (be4 x) (be4_size x) (bytes_cells x w h0 h1 5) ?_)
  go_ret
  exact ⟨rfl, (Ext.refl _).alloc _⟩
theorem rbytes_any (x : Int) (w : World) (h0 : 0 ≤ x) (h1 : x < 4294967296) :
    Calls Try.prog 10 #[.int .u32 x] w fun e w' => e = .returned (.string (be4 x)) ∧ Ext w w' := by
  go_enter Try.func10, Try.ntmps10
  go_wp2_with (with_reducible refine wpList_bytes_str rfl 37 9 5 _ rfl Try.underlying37 Try.underlying5 Try.underlying9 w.heap.size 0 4 4 rfl (be4 x) (be4_size x) (bytes_cells x w h0 h1 5) ?_)
  go_ret
  exact ⟨rfl, (Ext.refl _).alloc _⟩
theorem notU_bd (x : Int) : 0 ≤ bits BinOp.xor IntKind.u32 IntKind.u32.max x ∧ bits BinOp.xor IntKind.u32 IntKind.u32.max x < 4294967296 := u32_bits _ _ _
/-- The sum of texts, as the program reckons it. -/
def sumOf (ss : List ByteArray) : Int := bits BinOp.xor IntKind.u32 IntKind.u32.max (prog_of ss)
theorem sumOf_bd (ss : List ByteArray) : 0 ≤ sumOf ss ∧ sumOf ss < 4294967296 := notU_bd _
theorem of_sum (A : Option Addr) (n c : Nat) (ss : List ByteArray) (w : World) (hr : Rd w A n (ss.map Value.string)) (hn : n ≤ 9223372036854775807) (hz : ∀ s ∈ ss, s.size ≤ 9223372036854775807) :
    Calls Try.prog 7 #[.slice A n c] w fun e w' => e = .returned (.int .u32 (sumOf ss)) ∧ Ext w w' := of_any A n c ss w hr hn hz
theorem of_one (s : ByteArray) (W : World) (g : Nat) (hc : W.cell? ⟨g, 0, none⟩ = some (.string s)) (hz : s.size ≤ 9223372036854775807) :
    Calls Try.prog 7 #[.slice (some ⟨g, 0, none⟩) 1 1] W fun e w' => e = .returned (.int .u32 (sumOf [s])) ∧ Ext W w' :=
  of_sum (some ⟨g, 0, none⟩) 1 1 [s] W ⟨rfl, fun _ => ⟨g, 0, rfl, fun i v h => by match i, h with | 0, h => simp at h; subst h; exact hc⟩⟩ (by omega) (by simpa using hz)
theorem cell_new (w : World) (c : Array Value) (t : TypeId) (v : Value) (h : c[0]? = some v) : (w.alloc (.cells c t)).cell? ⟨w.heap.size, 0, none⟩ = some v := by
  rw [(Blk.new w t c).cell]; exact h
theorem cell_newd (w : World) (c : Array Value) (t : TypeId) (v : Value) (h : c[0]? = some v) : (w.alloc (.cells c t)).drew.cell? ⟨w.heap.size, 0, none⟩ = some v := cell_new w c t v h
set_option maxRecDepth 100000 in
theorem seal_any (s : ByteArray) (w : World) (hz : s.size ≤ 1048576) :
    Calls Try.prog 13 #[.string s] w fun e w' => e = .returned (.string (s ++ be4 (sumOf [s]))) ∧ Ext w w' := by
  obtain ⟨hb0, hb1⟩ := sumOf_bd [s]
  have hs4 := be4_size (sumOf [s])
  go_enter Try.func13, Try.ntmps13
  go_wp2_with (first
    | (go_at_call 7; refine (of_one s _ _ (cell_new _ _ _ _ rfl) (by omega)).mono ?_; rintro e w1 ⟨rfl, hB1⟩)
    | (go_at_call 9; refine (bytes_any _ _ hb0 hb1).mono ?_; rintro e w2 ⟨rfl, hB2⟩))
  go_ret
  exact ⟨rfl, (((Ext.refl _).alloc _).trans hB1).trans hB2⟩
