import Derived.Test.YtjmbimmikfnaoaaPre
namespace Go.Proofs.Ytjmbimmikfnaoaa
open Go.RowKit
def Z35 : Array Value := Array.replicate 256 (.int .u32 0)
theorem zero35 (w : World) : (zeroValue 35).run Try.prog w = .ok (.agg Z35) w := by kernel_rfl
theorem info35 : (Try.prog.info? 35).map (·.size) = some 256 := by kernel_rfl
def stepI (x : Int) : Int := bits BinOp.xor IntKind.u32 (x / 2) (bits BinOp.and IntKind.u32 x 1 * 3988292384 % 4294967296)
def stepN : Nat → Int → Int
  | 0, x => x
  | n + 1, x => stepI (stepN n x)
def tabTo : Nat → Array Value
  | 0 => Z35
  | k + 1 => (tabTo k).setIfInBounds k (.int .u32 (stepN 8 k))
theorem tabTo_size (k : Nat) : (tabTo k).size = 256 := by
  induction k with
  | zero => simp [tabTo, Z35]
  | succ k ih => simp [tabTo, ih]
theorem u32_bits (op : BinOp) (x y : Int) : 0 ≤ bits op IntKind.u32 x y ∧ bits op IntKind.u32 x y < 4294967296 := by
  unfold bits; constructor <;> (simp [IntKind.wrap, IntKind.bits, IntKind.signed]; omega)
theorem stepN_bd (n : Nat) (x : Int) (h0 : 0 ≤ x) (h1 : x < 4294967296) : 0 ≤ stepN n x ∧ stepN n x < 4294967296 := by
  cases n with
  | zero => exact ⟨h0, h1⟩
  | succ n => simp only [stepN, stepI]; exact u32_bits _ _ _
theorem tabTo_cell (k i : Nat) (hi : i < 256) : (tabTo k)[i]? = some (.int .u32 (if i < k then stepN 8 i else 0)) := by
  induction k with
  | zero => simp [tabTo, Z35, hi]
  | succ k ih =>
    simp only [tabTo, Array.getElem?_setIfInBounds, tabTo_size]
    by_cases h : k = i
    · subst h; simp [hi]
    · have e : (i < k + 1) ↔ i < k := by omega
      simp [h, ih, e]

set_option maxRecDepth 100000 in
theorem table_any (w : World) :
    Calls Try.prog 15 #[] w fun e w' => e = .returned (.agg (tabTo 256)) ∧ Below w.heap.size w w' := by
  go_enter Try.func15, Try.ntmps15
  go_wp2_with (with_reducible refine wpList_alloc_big rfl 35 rfl Z35 zero35 ?_)
  generalize hw1 : w.alloc (.cells Z35 35) = w1
  have hB : Below w.heap.size w w1 := by rw [← hw1]; exact (Below.refl _ _).alloc (Nat.le_refl _) _
  have hblk : Blk w1 w.heap.size 35 (tabTo 0) := by rw [← hw1]; exact Blk.new _ _ _
  clear hw1
  go_loopw [3] (fun i wr => ∃ k : Nat, k ≤ 256 ∧ i = .int .i64 k ∧ Below w.heap.size w wr ∧ Blk wr w.heap.size 35 (tabTo k)) (fun i _ => 256 - (intOf i).toNat)
  case atStart => exact ⟨0, by omega, rfl, hB, hblk⟩
  case round =>
    obtain ⟨k, hk, rfl, hB, hblk⟩ := hrel
    by_cases hk2 : k < 256
    · go_wp2
      obtain ⟨wo, rfl⟩ : ∃ wo : World, wo = wr := ⟨_, rfl⟩
      go_loop [2, 8] (fun x j => ∃ n : Nat, n ≤ 8 ∧ j = .int .i64 n ∧ x = .int .u32 (stepN n k)) (fun _ j => 8 - (intOf j).toNat)
      case atStart => exact ⟨0, by omega, rfl, rfl⟩
      case round =>
        obtain ⟨n, hn, rfl, rfl⟩ := hrel
        obtain ⟨hb0, hb1⟩ := stepN_bd n k (by omega) (by omega)
        by_cases hlt : n < 8
        · go_wp2
          go_round
          case rel => exact ⟨n + 1, by omega, by go_num, rfl⟩
          case measure => simp [intOf]; omega
        · obtain rfl : n = 8 := by omega
          have hc : wo.cell? ⟨w.heap.size, k, none⟩ = some (.int .u32 0) := by rw [hblk.cell, tabTo_cell k k hk2]; simp
          have hf := hblk.frozen k
          go_wp2
          go_roundw
          case rel => exact ⟨k + 1, by omega, by go_num, hB.setCell (Nat.le_refl _) _, hblk.set_ _ _⟩
          case measure => simp [intOf]; omega
    · obtain rfl : k = 256 := by omega
      have h1 : ∀ v ∈ (tabTo 256).toList, v.oneCell' = true := by
        intro v hv
        obtain ⟨i, hi, rfl⟩ := List.getElem_of_mem hv
        have hi' : i < 256 := by simpa [tabTo_size] using hi
        have := tabTo_cell 256 i hi'
        rw [if_pos hi'] at this
        obtain ⟨_, h⟩ := Array.getElem?_eq_some_iff.1 this
        simp [h]; rfl
      go_wp2_with (first
        | (refine wpList_load_row rfl 35 _ rfl w.heap.size rfl 35 (tabTo 256) (0, 0) _ hblk Try.underlying35 rfl (by rw [tabTo_size]; exact info35) ?_)
        | (refine wpList_store_big rfl 35 _ _ rfl w.heap.size 35 (tabTo 256) (tabTo 256) rfl rfl hblk rfl (by rw [tabTo_size]; exact info35) h1 ?_))
      refine ret_row rfl w.heap.size 35 (tabTo 256) _ rfl (hblk.setRow _) Try.underlying35 rfl (by rw [tabTo_size]; exact info35) rfl ⟨rfl, ?_⟩
      exact below_setRow hB (Nat.le_refl _) _

def crcStep (x : Int) (c : Int) : Int := bits BinOp.xor IntKind.u32 (stepN 8 (bits BinOp.xor IntKind.u8 (x % 256) c)) (x / 256)
def crcL : List UInt8 → Int → Int
  | [], x => x
  | c :: l, x => crcL l (crcStep x (c.toNat : Int))
theorem crcL_append (l m : List UInt8) (x : Int) : crcL (l ++ m) x = crcL m (crcL l x) := by
  induction l generalizing x with
  | nil => rfl
  | cons c l ih => exact ih _
theorem crcL_bd (l : List UInt8) (x : Int) (h0 : 0 ≤ x) (h1 : x < 4294967296) : 0 ≤ crcL l x ∧ crcL l x < 4294967296 := by
  induction l generalizing x with
  | nil => exact ⟨h0, h1⟩
  | cons c l ih =>
    have := u32_bits BinOp.xor (stepN 8 (bits BinOp.xor IntKind.u8 (x % 256) c.toNat)) (x / 256)
    exact ih _ this.1 this.2
theorem u8_bits (op : BinOp) (x y : Int) : 0 ≤ bits op IntKind.u8 x y ∧ bits op IntKind.u8 x y < 256 := by
  unfold bits; constructor <;> (simp [IntKind.wrap, IntKind.bits, IntKind.signed]; omega)
def allBytes (ss : List ByteArray) : List UInt8 := ss.flatMap (fun s => s.data.toList)
def prog_of (ss : List ByteArray) : Int := crcL (allBytes ss) 4294967295
theorem tab_one (k : Nat) : ∀ v ∈ (tabTo k).toList, v.oneCell' = true := by
  intro v hv
  obtain ⟨i, hi, rfl⟩ := List.getElem_of_mem hv
  have hi' : i < 256 := by simpa [tabTo_size] using hi
  have := tabTo_cell k i hi'
  obtain ⟨_, h⟩ := Array.getElem?_eq_some_iff.1 this
  simp [h]; rfl
theorem allBytes_take (ss : List ByteArray) (i : Nat) (hi : i < ss.length) : allBytes (ss.take (i + 1)) = allBytes (ss.take i) ++ ss[i].data.toList := by
  unfold allBytes
  rw [List.take_succ_eq_append_getElem hi, List.flatMap_append]; simp [List.flatMap]
theorem crcL_snoc (l : List UInt8) (j : Nat) (hj : j < l.length) (x : Int) : crcL (l.take (j + 1)) x = crcStep (crcL (l.take j) x) (l[j].toNat : Int) := by
  rw [List.take_succ_eq_append_getElem hj, crcL_append]; rfl
set_option maxRecDepth 100000 in
theorem of_any (A : Option Addr) (n c : Nat) (ss : List ByteArray) (w : World) (hr : Rd w A n (ss.map Value.string)) (hn : n ≤ 9223372036854775807) (hz : ∀ s ∈ ss, s.size ≤ 9223372036854775807) :
    Calls Try.prog 7 #[.slice A n c] w fun e w' => e = .returned (.int .u32 (bits BinOp.xor IntKind.u32 IntKind.u32.max (prog_of ss))) ∧ Below w.heap.size w w' := by
  have hlen : ss.length = n := by have := hr.1; simpa using this
  go_enter Try.func7, Try.ntmps7
  go_wp2_with (first
    | (go_at_call 15; refine (table_any _).mono ?_; rintro e w1 ⟨rfl, hB1⟩)
    | (with_reducible refine wpList_alloc_big rfl 35 rfl Z35 zero35 ?_)
    | (refine wpList_store_big rfl 35 _ _ rfl w1.heap.size 35 Z35 (tabTo 256) rfl rfl (Blk.new _ _ _) (by rw [tabTo_size]; rfl) (by rw [tabTo_size]; exact info35) (tab_one 256) ?_))
  generalize hwt : (w1.alloc (.cells Z35 35)).setRow w1.heap.size (tabTo 256) = wt
  have hBt : Below w.heap.size w wt := by rw [← hwt]; exact below_setRow (hB1.alloc hB1.size _) hB1.size _
  have htab : Blk wt w1.heap.size 35 (tabTo 256) := by rw [← hwt]; exact (Blk.new _ _ _).setRow _
  have hg : w.heap.size ≤ w1.heap.size := hB1.size
  generalize w1.heap.size = g at *
  clear hwt hB1
  go_loopw [4, 12] (fun x i wr => ∃ k : Nat, k ≤ n ∧ i = .int .i64 k ∧ x = .int .u32 (crcL (allBytes (ss.take k)) 4294967295) ∧ Below w.heap.size w wr ∧ Blk wr g 35 (tabTo 256)) (fun _ i _ => n - (intOf i).toNat)
  case atStart => exact ⟨0, by omega, rfl, rfl, hBt, htab⟩
  case round =>
    obtain ⟨k, hk, rfl, rfl, hB, htab⟩ := hrel
    by_cases hk2 : k < n
    · have hr' := hr.below hB (Nat.le_refl _)
      obtain ⟨gs, os, rfl, hgs, hcell⟩ := hr'.at_ hk2
      simp only [List.getElem_map] at hcell
      have hsz := hz ss[k] (List.getElem_mem _)
      generalize hs : ss[k] = s at hcell hsz
      have HS := Lib.hid hs
      clear hs hr'
      have hx := crcL_bd (allBytes (ss.take k)) 4294967295 (by omega) (by omega)
      generalize hX : crcL (allBytes (ss.take k)) 4294967295 = X at hx
      have HX := Lib.hid hX
      clear hX
      obtain ⟨hx0, hx1⟩ := hx
      go_wp2_with (with_reducible refine wpList_str_bytes rfl 9 37 5 _ rfl Try.underlying9 Try.underlying37 Try.underlying5 s rfl ?_; intro C w2 hC hCb hCc hB2 hsz2)
      clear hcell
      have hgc : w.heap.size ≤ wr.heap.size := hB.size
      have htab2 : Blk w2 g 35 (tabTo 256) := htab.below hB2 htab.lt
      have hB' : Below w.heap.size w w2 := hB.trans (hB2.mono hgc)
      clear hB2 htab hB
      generalize wr.heap.size = gc at *
      go_loop [4, 19] (fun x i => ∃ j : Nat, j ≤ s.size ∧ i = .int .i64 j ∧ x = .int .u32 (crcL (s.data.toList.take j) X)) (fun _ i => s.size - (intOf i).toNat)
      case atStart => exact ⟨0, by omega, rfl, rfl⟩
      case round =>
        obtain ⟨j, hj, rfl, rfl⟩ := hrel
        have hy := crcL_bd (s.data.toList.take j) X hx0 hx1
        generalize hY : crcL (s.data.toList.take j) X = Y at hy
        have HY := Lib.hid hY
        clear hY
        obtain ⟨hy0, hy1⟩ := hy
        by_cases hj2 : j < s.size
        · obtain ⟨hb0, hb1⟩ := bt_bd s j
          have hc := hCc j hj2
          rw [← hCb.cell] at hc
          generalize hbt : bt s j = b at *
          have HBT := Lib.hid hbt
          clear hbt
          have hq := u8_bits BinOp.xor (Y % 256) b
          have ht : w2.cell? ⟨g, (bits BinOp.xor IntKind.u8 (Y % 256) b).toNat, none⟩ = some (.int .u32 (stepN 8 (bits BinOp.xor IntKind.u8 (Y % 256) b))) := by
            rw [htab2.cell, tabTo_cell 256 _ (by omega), if_pos (by omega), Int.toNat_of_nonneg hq.1]
          obtain ⟨hq0, hq1⟩ := hq
          go_wp2
          go_round
          case rel =>
            refine ⟨j + 1, by omega, by go_num, ?_⟩
            rw [crcL_snoc _ j (by simpa using hj2), HY.out]
            have e : ((s.data.toList[j]'(by simpa using hj2)).toNat : Int) = b := by
              rw [← HBT.out, bt, List.getD_eq_getElem?_getD, List.getElem?_eq_getElem (by simpa using hj2)]; rfl
            rw [e]; rfl
          case measure => simp [intOf]; omega
        · obtain rfl : j = s.size := by omega
          have hYs : Y = crcL (allBytes (ss.take (k + 1))) 4294967295 := by
            rw [← HY.out, allBytes_take ss k (by omega), crcL_append, HX.out, HS.out, List.take_of_length_le (by simp)]
          have HYS := Lib.hid hYs
          clear hYs
          go_wp2
          go_roundw
          case rel => exact ⟨k + 1, by omega, by go_num, by rw [HYS.out], hB', htab2⟩
          case measure => simp [intOf]; omega
    · obtain rfl : k = n := by omega
      have hx := crcL_bd (allBytes (ss.take k)) 4294967295 (by omega) (by omega)
      have e : prog_of ss = crcL (allBytes (ss.take k)) 4294967295 := by
        unfold prog_of; rw [List.take_of_length_le (by omega)]
      have E := Lib.hid e
      clear e
      generalize crcL (allBytes (ss.take k)) 4294967295 = X at *
      obtain ⟨hx0, hx1⟩ := hx
      go_wp2
      go_ret
      rw [E.out]
      exact ⟨rfl, hB⟩
