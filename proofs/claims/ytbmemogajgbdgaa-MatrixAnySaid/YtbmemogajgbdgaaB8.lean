import Derived.Test.YtbmemogajgbdgaaB7
namespace Go.Proofs.Ytbmemogajgbdgaa
open Go.RowKit Go.Gf
/-- Byte i of the sum of the first k products. -/
def acc (c : ByteArray) (l : List ByteArray) : Nat → Nat → Nat
  | 0, _ => 0
  | k + 1, i => acc c l k i ^^^ fm (bn c k) (bn (l.getD k { data := #[] }) i)
theorem acc_lt (c : ByteArray) (l : List ByteArray) (k i : Nat) : acc c l k i < 256 := by
  induction k with
  | zero => simp [acc]
  | succ k ih => exact x8 ih (fm_lt _ _ (bn_lt _ _))
/-- How long the texts are. -/
def len0 (l : List ByteArray) : Nat := (l.getD 0 { data := #[] }).size
def SumOk (c : ByteArray) (l : List ByteArray) : Prop := c.size = l.length ∧ ∀ s ∈ l, s.size = len0 l
open Classical in
noncomputable def sumV (c : ByteArray) (l : List ByteArray) : ByteArray := if SumOk c l then strN (len0 l) (acc c l l.length) else { data := #[] }
open Classical in
noncomputable def sumE (c : ByteArray) (l : List ByteArray) : Int := if SumOk c l then 0 else 2
theorem sum_yes (c : ByteArray) (l : List ByteArray) (h : SumOk c l) : sumV c l = strN (len0 l) (acc c l l.length) ∧ sumE c l = 0 := by
  unfold sumV sumE; rw [if_pos h, if_pos h]; exact ⟨rfl, rfl⟩
theorem sum_no (c : ByteArray) (l : List ByteArray) (h : ¬ SumOk c l) : sumV c l = { data := #[] } ∧ sumE c l = 2 := by
  unfold sumV sumE; rw [if_neg h, if_neg h]; exact ⟨rfl, rfl⟩
theorem strN_zero (f : Nat → Nat) : strN 0 f = { data := #[] } := rfl
theorem ret_tup {s t : ByteArray} {a b : Int} {k : IntKind} (h1 : s = t) (h2 : a = b) : Ending.returned (.tuple #[.string s, .int k a]) = Ending.returned (.tuple #[.string t, .int k b]) := by rw [h1, h2]
set_option maxRecDepth 100000 in
theorem sum_any (c : ByteArray) (A : Option Addr) (n cap : Nat) (l : List ByteArray) (w : World) (hr : Rd w A n (l.map Value.string)) (hn : n ≤ 1048576) (_hc : c.size ≤ 1048576) (hz : ∀ s ∈ l, s.size ≤ 1048576) :
    Calls Try.prog 25 #[.string c, .slice A n cap] w fun e w' => e = .returned (.tuple #[.string (sumV c l), .int .i64 (sumE c l)]) ∧ Ext w w' := by
  have hlen : l.length = n := by have := hr.1; simpa using this
  have HY := Lib.hid (sum_yes c l)
  have HN := Lib.hid (sum_no c l)
  by_cases h1 : c.size = n
  · by_cases h2 : n = 0
    · have h3 : SumOk c l := ⟨by omega, fun s hs => by have := List.length_pos_of_mem hs; omega⟩
      have hl : l = [] := List.eq_nil_of_length_eq_zero (by omega)
      have hv : sumV c l = { data := #[] } ∧ sumE c l = 0 := by
        rw [(HY.out h3).1, (HY.out h3).2]; subst hl; exact ⟨rfl, rfl⟩
      have HV := Lib.hid hv
      have e1 : ((c.size : Int) != (n : Int)) = false := by rw [h1]; simp
      have e2 : ((n : Int) == 0) = true := by rw [h2]; rfl
      clear h1 h2 h3 hl hv HY HN hlen hr hz
      go_enter Try.func25, Try.ntmps25
      go_wp2
      go_ret2
      exact ⟨(ret_tup HV.out.1 HV.out.2).symm, Ext.refl _⟩
    · have e1 : ((c.size : Int) != (n : Int)) = false := by rw [h1]; simp
      have e2 : ((n : Int) == 0) = false := by simp; omega
      obtain ⟨i0, hi0, hz0, hz1, hz2⟩ := info_parts info5
      obtain ⟨gs, os, rfl, hgs, hcell⟩ := hr.at_ (show 0 < n by omega)
      have hl0 : len0 l = (l[0]'(by omega)).size := by unfold len0; rw [List.getD_eq_getElem?_getD, List.getElem?_eq_getElem (by omega)]; rfl
      have hz00 := hz (l[0]'(by omega)) (List.getElem_mem _)
      simp only [List.getElem_map, Nat.add_zero] at hcell
      generalize l[0]'(by omega) = s0 at *
      have HL0 := Lib.hid hl0
      have HLEN := Lib.hid hlen
      have HC := Lib.hid h1
      clear hl0 hlen h1
      go_enter Try.func25, Try.ntmps25
      go_wp2_with (first
        | (go_at_call 40; refine (tables_any _).mono ?_; rintro e w1 ⟨rfl, hE1⟩)
        | (with_reducible refine wpList_alloc_big rfl 63 rfl Z63 zero63 ?_)
        | (with_reducible refine wpList_alloc_at rfl 64 rfl Z64 zero64 (w1.heap.size + 1) (by simp) ?_)
        | (refine wpList_store_big rfl 63 _ _ rfl w1.heap.size 63 Z63 ptL.toArray rfl rfl (blkA _) sizeA i1 oneA ?_)
        | (refine wpList_store_big rfl 64 _ _ rfl (w1.heap.size + 1) 64 Z64 ltL.toArray rfl rfl (blkB _) sizeB i2 oneB ?_; obtain ⟨wt, hwt, hE2, hT, hs⟩ := tabs_new w1; rw [hwt]; clear hwt hs; have hE := hE1.trans hE2; clear hE1 hE2; generalize w1.heap.size = g at *; have hcw := hE.cellv hcell)
        | (at_make; refine wpList_make_tab rfl _ _ 43 rfl 5 i0 (.int .u8 0) Try.underlying43 hi0 hz0 hz1 rfl _ _ s0.size rfl rfl (by rw [hz2]; omega) (by omega) ?_))
      have hb : Blk (wt.alloc (.cells (tabA s0.size (fun _ => Value.int .u8 0)) 5)) wt.heap.size 5 (tabA s0.size (u8c (acc c l 0))) := Blk.new _ _ _
      have hT' := hT.ext ((Ext.refl wt).alloc (.cells (tabA s0.size (fun _ => Value.int .u8 0)) 5))
      have hE' := hE.alloc (.cells (tabA s0.size (fun _ => Value.int .u8 0)) 5)
      have hgw : w.heap.size ≤ wt.heap.size := hE.sz
      have ng1 : g ≠ wt.heap.size := by have := hT.1.lt; omega
      have ng2 : g + 1 ≠ wt.heap.size := by have := hT.2.lt; omega
      generalize wt.alloc (.cells (tabA s0.size (fun _ => Value.int .u8 0)) 5) = wb at *
      generalize wt.heap.size = gb at *
      clear hT hE hcw hcell
      go_loopw [30] (fun i wr => ∃ k : Nat, k ≤ n ∧ i = .int .i64 k ∧ Ext w wr ∧ Tabs wr g (g + 1) ∧ Blk wr gb 5 (tabA s0.size (u8c (acc c l k))) ∧ ∀ s ∈ l.take k, s.size = s0.size) (fun i _ => n - (intOf i).toNat)
      case atStart => exact ⟨0, by omega, rfl, hE', hT', hb, by simp⟩
      case round =>
        obtain ⟨k, hk, rfl, hE, hT, hb, hall⟩ := hrel
        have HALL := Lib.hid hall
        clear hall hE' hT'
        by_cases hk2 : k < n
        · have hL := HLEN.out
          obtain ⟨gs', os', hA, hgs', hcell⟩ := (hr.ext hE).at_ hk2
          simp only [Option.some.injEq, Addr.mk.injEq, and_true] at hA
          obtain ⟨rfl, rfl⟩ := hA
          simp only [List.getElem_map] at hcell
          have hmem := List.getElem_mem (l := l) (n := k) (by omega)
          have hget : l.getD k { data := #[] } = l[k]'(by omega) := by rw [List.getD_eq_getElem?_getD, List.getElem?_eq_getElem (by omega)]; rfl
          have htk : l.take (k + 1) = l.take k ++ [l[k]'(by omega)] := List.take_succ_eq_append_getElem (by omega)
          have hzk := hz _ hmem
          generalize l[k]'(by omega) = sk at *
          have HM := Lib.hid hmem
          have HG := Lib.hid hget
          have HTK := Lib.hid htk
          have hck := bt_get c k (by rw [HC.out]; exact hk2)
          rw [bt_bn] at hck
          have hcn : (k : Int) < (c.size : Int) := by rw [HC.out]; omega
          clear hmem hget htk hL
          by_cases hs : sk.size = s0.size
          · have e3 : ((sk.size : Int) != (s0.size : Int)) = false := by rw [hs]; simp
            have HS := Lib.hid hs
            clear hs
            go_wp2_with (go_at_call 41; refine (plus_any gb s0.size s0.size (bn c k) sk g (g + 1) (acc c l k) _ hb hT HS.out (by omega) (bn_lt _ _) (acc_lt c l k)).mono ?_; rintro e w3 ⟨rfl, hO3, hb3⟩)
            go_roundw
            case rel => exact ⟨k + 1, by omega, by go_num, hE.only hgw hO3, ⟨hO3.blk hT.1 ng1, hO3.blk hT.2 ng2⟩, by
              rw [← tabA_congr s0.size (u8c (addP (bn c k) sk s0.size (acc c l k))) (u8c (acc c l (k + 1))) (fun i hi => by unfold u8c addP; rw [if_pos hi, acc, HG.out])]; exact hb3, fun s h => by
              rw [HTK.out, List.mem_append, List.mem_singleton] at h
              rcases h with h | h
              · exact HALL.out s h
              · rw [h]; exact HS.out⟩
            case measure => simp [intOf]; omega
          · have h3 : ¬ SumOk c l := fun h => hs (by rw [h.2 sk HM.out, HL0.out])
            have HV := Lib.hid (HN.out h3)
            have e3 : ((sk.size : Int) != (s0.size : Int)) = true := by simp; omega
            clear hs h3
            go_wp2
            go_ret2
            exact ⟨(ret_tup HV.out.1 HV.out.2).symm, hE⟩
        · obtain rfl : k = n := by omega
          have h3 : SumOk c l := ⟨by rw [HC.out, HLEN.out], fun s h => by rw [HL0.out]; exact HALL.out s (by rw [List.take_of_length_le (by rw [HLEN.out]; omega)]; exact h)⟩
          have hv := HY.out h3
          rw [HL0.out, HLEN.out] at hv
          have HV := Lib.hid hv
          have hcs : ∀ j, j < s0.size → wr.cell? ⟨gb, 0 + j, none⟩ = some (.int .u8 (bt (strN s0.size (acc c l k)) j)) := cells_str hb (fun i _ => acc_lt c l k i)
          have HCS := Lib.hid hcs
          clear hcs hv h3
          go_wp2_with (with_reducible refine wpList_bytes_str rfl 43 9 5 _ rfl Try.underlying43 Try.underlying5 Try.underlying9 gb 0 s0.size s0.size rfl (strN s0.size (acc c l k)) (strN_size _ _) HCS.out ?_)
          go_ret2
          exact ⟨(ret_tup HV.out.1 HV.out.2).symm, hE⟩
  · have h3 : ¬ SumOk c l := fun h => h1 (by rw [h.1]; exact hlen)
    have HV := Lib.hid (HN.out h3)
    have e1 : ((c.size : Int) != (n : Int)) = true := by simp; omega
    clear h1 h3 HY HN hlen hr hz
    go_enter Try.func25, Try.ntmps25
    go_wp2
    go_ret2
    exact ⟨(ret_tup HV.out.1 HV.out.2).symm, Ext.refl _⟩
