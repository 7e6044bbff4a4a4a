import Derived.Test.YtimhekdfajakbaaR13
namespace Go.Proofs.Ytimhekdfajakbaa
open Go.RowKit
/-- The cells of a sector. -/
def secV (s : St) (d x : Nat) : Array Value := tabA 65 (fun j => if j = 64 then .bool (s.bad d x) else .int .u8 (s.sec d x j))
/-- What a sector tells in All. -/
def secL (s : St) (d x : Nat) : List UInt8 := (List.range 64).map fun j => UInt8.ofNat (if s.bad d x then 0 else s.sec d x j)
def allL (s : St) (d : Nat) : Nat → List UInt8
  | 0 => []
  | k + 1 => allL s d k ++ secL s d k
theorem secL_len (s : St) (d x : Nat) : (secL s d x).length = 64 := by simp [secL]
theorem allL_len (s : St) (d : Nat) : ∀ k, (allL s d k).length = 64 * k
  | 0 => rfl
  | k + 1 => by simp only [allL, List.length_append, allL_len s d k, secL_len]; omega
theorem secV_size (s : St) (d x : Nat) : (secV s d x).size = 65 := tabA_size _ _
theorem secV_one (s : St) (d x : Nat) : ∀ v ∈ (secV s d x).toList, v.oneCell' = true := by
  intro v hv
  simp [secV, tabA] at hv
  obtain ⟨j, _, rfl⟩ := hv
  split <;> rfl
theorem RackAt.range {w : World} {p : Pl} {s : St} (h : RackAt w p s) (d x : Nat) (hd : d < p.nd) (hx : x < p.ns) : w.rangeAt (p.gS d) (x * 65) (secV s d x).toList := fun j v hj => by
  rw [Array.getElem?_toList] at hj
  have hj65 : j < 65 := by
    rcases Nat.lt_or_ge j 65 with h1 | h1
    · exact h1
    · rw [secV, tabA_out _ _ _ h1] at hj; cases hj
  rw [secV, tabA_at _ _ _ hj65] at hj
  rw [(h.se d hd).cell (x * 65 + j) (by omega), ← hj]
  unfold seC
  have a1 : (x * 65 + j) / 65 = x := by omega
  have a2 : (x * 65 + j) % 65 = j := by omega
  rw [a1, a2]
theorem secV_cells {w : World} {g : Nat} {s : St} {d k : Nat} (h : Blk w g 78 (secV s d k)) : CellsAt w g 65 (fun j => (secV s d k).getD j undef) :=
  ⟨78, secV s d k, by rw [secV_size]; exact Nat.le_refl _, h.m, fun j hj => by
    show (secV s d k)[j]? = some ((secV s d k).getD j undef)
    rw [Array.getD_eq_getD_getElem?, secV, tabA_at _ _ _ hj]; rfl⟩
def u8z (_ : Nat) : Value := .int .u8 0
theorem zero5 (w : World) : (zeroValue 5).run Try.prog w = .ok (.int .u8 0) w := by kernel_rfl
theorem zero5c : Builtin.zeroCells (Value.int .u8 0).cells 64 = tabA 64 u8z := by
  refine tabA_of _ _ _ (by rw [size_zeroCells]; rfl) (fun i hi => ?_)
  simp [Builtin.zeroCells, Value.cells, hi, u8z, Nat.mod_one]
theorem u8z_one : ∀ v ∈ (tabA 64 u8z).toList, v.oneCell' = true := by
  intro v hv
  simp [tabA] at hv
  obtain ⟨j, _, rfl⟩ := hv
  rfl
theorem news_bad (s : St) (d x : Nat) (hb : s.bad d x = true) (j : Nat) (u : Value) (hj : (Lib.byteCells (secL s d x))[j]? = some u) : j < 64 ∧ u = .int .u8 0 := by
  have hl : j < 64 := by
    rcases Nat.lt_or_ge j 64 with h1 | h1
    · exact h1
    · rw [List.getElem?_eq_none (by rw [Lib.byteCells_length, secL_len]; exact h1)] at hj; cases hj
  refine ⟨hl, ?_⟩
  simp [Lib.byteCells, secL, hl, hb] at hj
  exact hj.symm
theorem news_good (s : St) (d x : Nat) (hb : s.bad d x = false) (hs : ∀ j, s.sec d x j < 256) (j : Nat) (u : Value) (hj : (Lib.byteCells (secL s d x))[j]? = some u) : j < 64 ∧ u = .int .u8 (s.sec d x j) := by
  have hl : j < 64 := by
    rcases Nat.lt_or_ge j 64 with h1 | h1
    · exact h1
    · rw [List.getElem?_eq_none (by rw [Lib.byteCells_length, secL_len]; exact h1)] at hj; cases hj
  refine ⟨hl, ?_⟩
  simp [Lib.byteCells, secL, hl, hb] at hj
  rw [← hj]
  have := hs j
  congr 1; omega
theorem _root_.Go.Lib.BuilderAt.ext {T e : TypeId} {B b : Nat} {p : Value} {bs : List Value} {w w' : World} (h : Lib.BuilderAt T e B b p bs w) (hE : Ext w w') : Lib.BuilderAt T e B b p bs w' := by
  have hl := h.lt
  obtain ⟨hB, v, hb, hown, hne⟩ := h
  exact ⟨hB, v, (hE.block b hl).trans hb, hown.ext hE, hne⟩
theorem _root_.Go.Lib.IsBuilder.ext {T e : TypeId} {B b : Nat} {bs : List Value} {w w' : World} (h : Lib.IsBuilder T e B b bs w) (hE : Ext w w') : Lib.IsBuilder T e B b bs w' := by
  rcases h with h | h
  · exact .inl (h.ext hE)
  · exact .inr (h.ext hE)
theorem zero75 (w : World) : (zeroValue 75).run Try.prog w = .ok (.agg #[.pointer none, .slice none 0 0]) w := by kernel_rfl
section
variable {p : Pl} {s : St} {w : World}
theorem all_no (h : RackAt w p s) (d : Int) (hd : there p d 0 = false) : Calls Try.prog 12 #[.pointer (some ⟨p.gR, 0, none⟩), .int .i64 d] w fun e w' => e = .returned (.string { data := #[] }) ∧ Ext w w' := by
  have hmf := mkf
  have HD := Lib.hid (thereE_no hd)
  go_enter Try.func12, Try.ntmps12
  go_wp2_with (first
    | (go_at_call 31; (with_reducible refine (away_any _ d 0 _).mono ?_); rintro e w0 ⟨gd, gr, gs, rfl, hd, hr, hs, hO⟩)
    | (go_at_call 29; (with_reducible refine (first_2 (h.ext hO) d 0 gd gr gs hd hr hs _ rfl 71).mono ?_); rintro e w1 ⟨rfl, hE⟩; rw [HD.out]))
  go_ret
  exact ⟨rfl, hO.trans hE⟩
set_option maxRecDepth 100000 in
theorem all_yes (h : RackAt w p s) (d : Nat) (hd : d < p.nd) : Calls Try.prog 12 #[.pointer (some ⟨p.gR, 0, none⟩), .int .i64 d] w fun e w' => e = .returned (.string ⟨(allL s d p.ns).toArray⟩) ∧ Ext w w' := by
  have hmf := mkf
  have ht : there p d 0 = true := by have := h.ok.ns1; simp [there]; omega
  have HD := Lib.hid (thereE_yes ht)
  have kd : (d : Int) < (p.nd : Int) := by omega
  have kd0 : (0 : Int) ≤ (d : Int) := by omega
  have n1 : 0 < p.ns := by have := h.ok.ns1; omega
  have n2 : p.ns ≤ 4096 := h.ok.ns2
  clear ht
  go_enter Try.func12, Try.ntmps12
  go_wp2_with (first
    | (go_at_call 31; (with_reducible refine (away_any _ d 0 _).mono ?_); rintro e w0 ⟨gd, gr, gs, rfl, hd1, hr, hs, hO⟩)
    | (go_at_call 29; (with_reducible refine (first_2 (h.ext hO) d 0 gd gr gs hd1 hr hs _ rfl 71).mono ?_); rintro e w1 ⟨rfl, hE⟩; rw [HD.out]; have hR := ((h.ext hO).ext hE).ext ((Ext.refl w1).alloc (.cells #[.pointer none, .slice none 0 0] 75)); have c0 := hR.r0; have c1 := hR.d0 d hd))
  have hI : Lib.IsBuilder 75 5 w.heap.size w1.heap.size (Lib.byteCells (allL s d 0)) (w1.alloc (.cells #[.pointer none, .slice none 0 0] 75)) := by
    exact .inl ⟨Nat.le_trans hO.sz hE.sz, .slice none 0 0, heap_alloc_new w1 _, World.ownsRow_nil _ _ _ _, by simp [Value.ownBlock]⟩
  have hEw : Ext w (w1.alloc (.cells #[.pointer none, .slice none 0 0] 75)) := (hO.trans hE).alloc _
  generalize w1.alloc (.cells #[.pointer none, .slice none 0 0] 75) = w2 at *
  generalize w1.heap.size = b at *
  clear hR c0 c1 hd1 hr hs hE hO
  go_loopw [25] (fun i wr => ∃ k : Nat, k ≤ p.ns ∧ i = .int .i64 k ∧ Ext w wr ∧ Lib.IsBuilder 75 5 w.heap.size b (Lib.byteCells (allL s d k)) wr) (fun i _ => p.ns - (intOf i).toNat)
  case atStart => exact ⟨0, by omega, rfl, hEw, hI⟩
  case round =>
    obtain ⟨k, hk, rfl, hEr, hIr⟩ := hrel
    clear hI hEw
    by_cases hk2 : k < p.ns
    · have kk : (k : Int) < (p.ns : Int) := by omega
      have kk0 : (0 : Int) ≤ (k : Int) := by omega
      have hRr := h.ext hEr
      have hrg := hRr.range d k hd hk2
      have hbl := hIr
      have hbk : b < wr.heap.size := by
        rcases hIr with h1 | h1
        · exact h1.lt
        · exact h1.lt
      have hby := hRr.ok.by_ d k
      have hlen : (Lib.byteCells (allL s d k)).length + 64 ≤ 1048576 := by rw [Lib.byteCells_length, allL_len]; omega
      have HLEN := Lib.hid hlen
      clear hlen
      have HBY := Lib.hid hby
      clear hby
      have hnx : Lib.byteCells (allL s d (k + 1)) = Lib.byteCells (allL s d k) ++ Lib.byteCells (secL s d k) := Lib.byteCells_append _ _
      have HNX := Lib.hid hnx
      clear hnx hbl
      cases hb : s.bad d k
      · have HB := Lib.hid hb
        clear hb
        go_wp2_with (first
          | (with_reducible refine wpList_load_mid rfl 78 (.tmp 27) rfl (p.gS d) (k * 65) rfl (secV s d k).toList _ hrg Try.underlying78 rfl (by rw [Array.length_toList, secV_size]; kernel_rfl) ?_)
          | (with_reducible refine wpList_alloc_big rfl 78 rfl Z78 zero78 ?_)
          | (refine wpList_store_big rfl 78 (.tmp 7) (.tmp 28) rfl wr.heap.size 78 Z78 (secV s d k) rfl (by show Value.agg (secV s d k).toList.toArray = _; rw [Array.toArray_toList]) (Blk.new wr 78 Z78) (by rw [secV_size]; decide +kernel) (by rw [secV_size]; kernel_rfl) (secV_one s d k) ?_
             have hB3 := (Blk.new wr 78 Z78).setRow (secV s d k)
             have hE3 := ((Ext.refl wr).alloc (.cells Z78 78)).setRow (Nat.le_refl _) (secV s d k)
             generalize (wr.alloc (.cells Z78 78)).setRow wr.heap.size (secV s d k) = w3 at *
             have hI3 := hIr.ext hE3
             have hsz := hE3.sz
             have hgb : wr.heap.size ≠ b := by omega
             generalize hgv : wr.heap.size = gv at *
             have c64 : w3.cell? ⟨gv, 64, none⟩ = some (.bool false) := by
               have h1 := hB3.cell 64
               rw [secV, tabA_at _ _ _ (by omega), if_pos rfl, HB.out] at h1
               exact h1
             have hnews : ∀ (j : Nat) (u : Value), (Lib.byteCells (secL s d k))[j]? = some u → w3.cell? ((⟨gv, 0, none⟩ : Addr).add j) = some u := fun j u hj => by
               obtain ⟨hj1, rfl⟩ := news_good s d k HB.out HBY.out j u hj
               have h1 := hB3.cell j
               rw [secV, tabA_at _ _ _ (by omega), if_neg (by omega)] at h1
               rw [Addr.add_mid, Nat.zero_add]
               exact h1
             have hw3 : w.heap.size ≤ w3.heap.size := by have := hEr.sz; omega
             have HGV := Lib.hid hgv
             have CW := Lib.hid (bwrite_any w.heap.size b _ ⟨gv, 0, none⟩ 64 64 _ w3 hI3 (by rw [Lib.byteCells_length, secL_len]) hnews hgb (Lib.byteCells_one _) HLEN.out hw3)
             clear hnews hgv)
          | (go_at_call 32; (with_reducible refine CW.out.mono ?_); rintro e w4 ⟨rfl, hI4, hE4⟩))
        go_roundw
        case rel => exact ⟨k + 1, by omega, by go_num, Below.trans (hEr.trans hE3) hE4, by rw [HNX.out]; exact .inr hI4⟩
        case measure => simp [intOf]; omega
      · have HB := Lib.hid hb
        clear hb
        go_wp2_with (first
          | (with_reducible refine wpList_load_mid rfl 78 (.tmp 27) rfl (p.gS d) (k * 65) rfl (secV s d k).toList _ hrg Try.underlying78 rfl (by rw [Array.length_toList, secV_size]; kernel_rfl) ?_)
          | (with_reducible refine wpList_alloc_big rfl 78 rfl Z78 zero78 ?_)
          | (refine wpList_store_big rfl 78 (.tmp 7) (.tmp 28) rfl wr.heap.size 78 Z78 (secV s d k) rfl (by show Value.agg (secV s d k).toList.toArray = _; rw [Array.toArray_toList]) (Blk.new wr 78 Z78) (by rw [secV_size]; decide +kernel) (by rw [secV_size]; kernel_rfl) (secV_one s d k) ?_
             have hB3 := (Blk.new wr 78 Z78).setRow (secV s d k)
             have hE3 := ((Ext.refl wr).alloc (.cells Z78 78)).setRow (Nat.le_refl _) (secV s d k)
             generalize (wr.alloc (.cells Z78 78)).setRow wr.heap.size (secV s d k) = w3 at *
             have hgb : wr.heap.size ≠ b := by omega
             generalize hgv : wr.heap.size = gv at *
             have c64 : w3.cell? ⟨gv, 64, none⟩ = some (.bool true) := by
               have h1 := hB3.cell 64
               rw [secV, tabA_at _ _ _ (by omega), if_pos rfl, HB.out] at h1
               exact h1
             have hC3 := secV_cells hB3
             have HGV := Lib.hid hgv
             clear hgv)
          | (with_reducible refine wpList_clear_cells rfl 48 5 (.tmp 32) rfl (.int .u8 0) _ Try.underlying48 zero5 gv 0 64 64 65 _ zero5c (by omega) rfl hC3 (by rw [tabA_size]; omega) u8z_one ?_
             intro w3a hC3a hO3a
             have hE3a : Ext wr w3a := hE3.only (by have := HGV.out; omega) hO3a
             have hI3 := hIr.ext hE3a
             have hnews : ∀ (j : Nat) (u : Value), (Lib.byteCells (secL s d k))[j]? = some u → w3a.cell? ((⟨gv, 0, none⟩ : Addr).add j) = some u := fun j u hj => by
               obtain ⟨hj1, rfl⟩ := news_bad s d k HB.out j u hj
               have h1 := hC3a.cell j (by omega)
               unfold overC at h1
               rw [tabA_size, if_pos ⟨Nat.zero_le _, by omega⟩, Array.getD_eq_getD_getElem?, Nat.sub_zero, tabA_at _ _ _ hj1] at h1
               rw [Addr.add_mid, Nat.zero_add]
               exact h1
             have hw3 : w.heap.size ≤ w3a.heap.size := (hEr.trans hE3a).sz
             have CW := Lib.hid (bwrite_any w.heap.size b _ ⟨gv, 0, none⟩ 64 64 _ w3a hI3 (by rw [Lib.byteCells_length, secL_len]) hnews hgb (Lib.byteCells_one _) HLEN.out hw3)
             clear hnews hC3a)
          | (go_at_call 32; (with_reducible refine CW.out.mono ?_); rintro e w4 ⟨rfl, hI4, hE4⟩))
        go_roundw
        case rel => exact ⟨k + 1, by omega, by go_num, Below.trans (hEr.trans hE3a) hE4, by rw [HNX.out]; exact .inr hI4⟩
        case measure => simp [intOf]; omega
    · obtain rfl : p.ns = k := by omega
      have hne : allL s d p.ns ≠ [] := fun e => by
        have := allL_len s d p.ns
        rw [e] at this
        simp at this; omega
      have CS := Lib.hid (bstring_any w.heap.size b _ wr hIr hne)
      clear hne
      go_wp2_with (go_at_call 33; (with_reducible refine CS.out.mono ?_); rintro e w4 ⟨rfl, hE4⟩)
      go_ret
      exact ⟨rfl, Below.trans hEr hE4⟩
end
