import Derived.Test.YtjmkbdbjefcfmaaB9
import Derived.StillTailTactics
namespace Go.Proofs.Ytjmkbdbjefcfmaa
open Go.RowKit Go.Gf
/-- The first n cells of a block are bytes. -/
def BytesAt (w : World) (g n : Nat) (f : Nat → Nat) : Prop := ∃ D : Array Value, n ≤ D.size ∧ BlkM w g 5 D ∧ ∀ j, j < n → D[j]? = some (u8c f j)
theorem BytesAt.cell {w : World} {g n : Nat} {f : Nat → Nat} (h : BytesAt w g n f) (j : Nat) (hj : j < n) : w.cell? ⟨g, j, none⟩ = some (.int .u8 (f j : Int)) := by
  obtain ⟨D, _, hD, hf⟩ := h
  rw [hD.cell, hf j hj]; rfl
theorem BytesAt.frozen {w : World} {g n : Nat} {f : Nat → Nat} (h : BytesAt w g n f) (j : Nat) (hj : j < n) : w.frozen? ⟨g, j, none⟩ = false := by
  obtain ⟨D, hn, hD, _⟩ := h
  exact hD.frozen j (by omega)
theorem BytesAt.set_ {w : World} {g n : Nat} {f h : Nat → Nat} (hb : BytesAt w g n f) (i : Nat) (v : Nat) (_ : i < n) (hh : ∀ j, j < n → h j = if j = i then v else f j) : BytesAt (w.setCell ⟨g, i, none⟩ (.int .u8 (v : Int))) g n h := by
  obtain ⟨D, hn, hD, hf⟩ := hb
  refine ⟨D.setIfInBounds i (.int .u8 (v : Int)), by rw [Array.size_setIfInBounds]; exact hn, hD.set_ _ _, fun j hj => ?_⟩
  rw [Array.getElem?_setIfInBounds]
  by_cases e : i = j
  · subst e; rw [if_pos rfl, if_pos (by omega), u8c, hh i hj, if_pos rfl]
  · rw [if_neg e, hf j hj, u8c, u8c, hh j hj, if_neg (fun h => e h.symm)]
theorem BytesAt.congr {w : World} {g n : Nat} {f h : Nat → Nat} (hb : BytesAt w g n f) (hh : ∀ j, j < n → h j = f j) : BytesAt w g n h := by
  obtain ⟨D, hn, hD, hf⟩ := hb
  exact ⟨D, hn, hD, fun j hj => by rw [hf j hj, u8c, u8c, hh j hj]⟩
theorem BytesAt.ext {w w' : World} {g n : Nat} {f : Nat → Nat} (hb : BytesAt w g n f) (e : Ext w w') : BytesAt w' g n f := by
  obtain ⟨D, hn, hD, hf⟩ := hb
  exact ⟨D, hn, hD.ext e, hf⟩
theorem BytesAt.drew {w : World} {g n : Nat} {f : Nat → Nat} (hb : BytesAt w g n f) : BytesAt w.drew g n f := hb
/-- Byte i of the first k texts together. -/
def xacc (l : List ByteArray) : Nat → Nat → Nat
  | 0, _ => 0
  | k + 1, i => xacc l k i ^^^ bn (l.getD k { data := #[] }) i
theorem xacc_lt (l : List ByteArray) (k i : Nat) : xacc l k i < 256 := by
  induction k with
  | zero => simp [xacc]
  | succ k ih => exact x8 ih (bn_lt _ _)
theorem acc_ones (n : Nat) (l : List ByteArray) (k i : Nat) (hk : k ≤ n) : acc (onesT n) l k i = xacc l k i := by
  induction k with
  | zero => rfl
  | succ k ih =>
    rw [acc, xacc, ih (by omega)]
    congr 1
    unfold onesT
    rw [bn_strN n _ k (by omega) (by omega), fm_comm 1 _ (by omega) (bn_lt _ _), fm_one_r]
/-- While text k is added: bytes below j are done. -/
def xmid (l : List ByteArray) (k j i : Nat) : Nat := if i < j then xacc l (k + 1) i else xacc l k i
set_option maxRecDepth 100000 in
theorem rplus_any (A : Option Addr) (n cap : Nat) (l : List ByteArray) (w : World) (hr : Rd w A n (l.map Value.string)) (hn : n ≤ 1048576) (hz : ∀ s ∈ l, s.size ≤ 1048576) :
    Calls Try.prog 11 #[.slice A n cap] w fun e w' => e = .returned (.tuple #[.string (sumV (onesT n) l), .int .i64 (sumE (onesT n) l)]) ∧ Ext w w' := by
  have hlen : l.length = n := by have := hr.1; simpa using this
  have HY := Lib.hid (sum_yes (onesT n) l)
  have HN := Lib.hid (sum_no (onesT n) l)
  by_cases h2 : n = 0
  · have h3 : SumOk (onesT n) l := ⟨by rw [onesT_size]; exact hlen.symm, fun s hs => by have := List.length_pos_of_mem hs; omega⟩
    have hl : l = [] := List.eq_nil_of_length_eq_zero (by omega)
    have hv : sumV (onesT n) l = { data := #[] } ∧ sumE (onesT n) l = 0 := by
      rw [(HY.out h3).1, (HY.out h3).2]; subst hl; exact ⟨rfl, rfl⟩
    have HV := Lib.hid hv
    have e2 : ((n : Int) == 0) = true := by rw [h2]; rfl
    clear h2 h3 hl hv HY HN hlen hr hz
    go_enter Try.func11, Try.ntmps11
    go_wp2
    go_ret2
    exact ⟨(ret_tup HV.out.1 HV.out.2).symm, Ext.refl _⟩
  · have e2 : ((n : Int) == 0) = false := by simp; omega
    obtain ⟨gs, os, rfl, hgs, hcell⟩ := hr.at_ (show 0 < n by omega)
    have hl0 : len0 l = (l[0]'(by omega)).size := by unfold len0; rw [List.getD_eq_getElem?_getD, List.getElem?_eq_getElem (by omega)]; rfl
    have hg0 : l.getD 0 { data := #[] } = l[0]'(by omega) := by rw [List.getD_eq_getElem?_getD, List.getElem?_eq_getElem (by omega)]; rfl
    have hz00 := hz (l[0]'(by omega)) (List.getElem_mem _)
    have ht1 : l.take 1 = [l[0]'(by omega)] := by
      have := List.take_succ_eq_append_getElem (l := l) (i := 0) (by omega); simpa using this
    simp only [List.getElem_map, Nat.add_zero] at hcell
    generalize l[0]'(by omega) = s0 at *
    have HL0 := Lib.hid hl0
    have HG0 := Lib.hid hg0
    have HT1 := Lib.hid ht1
    have HLEN := Lib.hid hlen
    clear hl0 hlen hg0 ht1
    go_enter Try.func11, Try.ntmps11
    go_wp2_with (with_reducible refine wpList_str_bytes rfl 9 34 5 _ rfl Try.underlying9 Try.underlying34 Try.underlying5 s0 rfl ?_; intro C w2 hC hCb hCc hB2 hsz2)
    have hE2 : Ext w w2 := hB2
    have hby : BytesAt w2 w.heap.size s0.size (xacc l 1) := ⟨C, hC, hCb, fun j hj => by rw [hCc j hj]; unfold u8c; rw [xacc, xacc, Nat.zero_xor, HG0.out]; rfl⟩
    obtain ⟨g, hg⟩ : ∃ g, g = w.heap.size := ⟨_, rfl⟩
    rw [← hg] at hby ⊢
    have hge : w.heap.size ≤ g := by omega
    have ngs : gs ≠ g := by omega
    clear hg hB2 hsz2 hCb hCc hcell
    go_loopw [5] (fun i wr => ∃ k : Nat, 1 ≤ k ∧ k ≤ n ∧ i = .int .i64 k ∧ Ext w wr ∧ BytesAt wr g s0.size (xacc l k) ∧ ∀ s ∈ l.take k, s.size = s0.size) (fun i _ => n - (intOf i).toNat)
    case atStart => exact ⟨1, by omega, by omega, rfl, hE2, hby, by rw [HT1.out]; simp⟩
    case round =>
      obtain ⟨k, hk1, hk, rfl, hE, hby, hall⟩ := hrel
      have HALL := Lib.hid hall
      clear hall hE2
      by_cases hk2 : k < n
      · have hL := HLEN.out
        obtain ⟨gs', os', hA, hgs', hcell⟩ := (hr.ext hE).at_ hk2
        simp only [Option.some.injEq, Addr.mk.injEq, and_true] at hA
        obtain ⟨rfl, rfl⟩ := hA
        simp only [List.getElem_map] at hcell
        have hmem := List.getElem_mem (l := l) (n := k) (by omega)
        have hget : l.getD k { data := #[] } = l[k]'(by omega) := by rw [List.getD_eq_getElem?_getD, List.getElem?_eq_getElem (by omega)]; rfl
        have htk : l.take (k + 1) = l.take k ++ [l[k]'(by omega)] := List.take_succ_eq_append_getElem (by omega)
        have hzk := hz _ hmem
        generalize l[k]'(by omega) = sk at *
        have HM := Lib.hid hmem
        have HG := Lib.hid hget
        have HTK := Lib.hid htk
        clear hmem hget htk hL
        by_cases hs : sk.size = s0.size
        · have e3 : ((sk.size : Int) != (s0.size : Int)) = false := by rw [hs]; simp
          have HS := Lib.hid hs
          clear hs
          go_wp2
          obtain ⟨wo, rfl⟩ : ∃ wo : World, wo = wr := ⟨_, rfl⟩
          have hby0 : BytesAt wo g s0.size (xmid l k 0) := hby.congr (fun j _ => by simp [xmid])
          clear hby
          go_loopw [6] (fun i wr => ∃ j : Nat, j ≤ s0.size ∧ i = .int .i64 j ∧ Ext w wr ∧ wr.cell? ⟨gs, os + k, none⟩ = some (.string sk) ∧ BytesAt wr g s0.size (xmid l k j)) (fun i _ => s0.size - (intOf i).toNat)
          case atStart => exact ⟨0, by omega, rfl, hE, hcell, hby0⟩
          case round =>
            obtain ⟨j, hj, rfl, hE, hcell, hby⟩ := hrel
            by_cases hj2 : j < s0.size
            · have hc1 := hby.cell j hj2
              have hf1 := hby.frozen j hj2
              have hxm : xmid l k j j = xacc l k j := by simp [xmid]
              rw [hxm] at hc1
              have hbl := bn_lt sk j
              have hx := u8_xor (xacc l k j) (bn sk j) (xacc_lt l k j) hbl
              have hck := bt_get sk j (by rw [HS.out]; exact hj2)
              rw [bt_bn] at hck
              have kk : (k : Int) < (n : Int) := by omega
              have kj : (j : Int) < (s0.size : Int) := by omega
              have kj2 : (j : Int) < (sk.size : Int) := by rw [HS.out]; exact kj
              have kk0 : (0 : Int) ≤ (k : Int) := by omega
              have kj0 : (0 : Int) ≤ (j : Int) := by omega
              have hnext := hby.set_ (h := xmid l k (j + 1)) j (xacc l k j ^^^ bn sk j) hj2 (fun i _ => by
                unfold xmid
                by_cases e : i = j
                · subst e; rw [if_pos (by omega), if_pos rfl, xacc, HG.out]
                · rw [if_neg e]
                  by_cases h1 : i < j
                  · rw [if_pos (by omega), if_pos h1]
                  · rw [if_neg (by omega), if_neg h1])
              have HNEXT := Lib.hid hnext
              clear hnext hxm hby0
              go_wp2_with fail
              go_still_tail 14, (by kernel_rfl)
              go_wp2
              go_roundw
              case rel => exact ⟨j + 1, by omega, by go_num, (hE.setCell hge _).drew, (World.cell?_setCell_other _ _ _ _ (by intro h; injection h with h; omega)).trans hcell, HNEXT.out⟩
              case measure => simp [intOf]; omega
            · obtain rfl : j = s0.size := by omega
              go_wp2
              go_roundw
              case rel => exact ⟨k + 1, by omega, by omega, by go_num, hE, hby.congr (fun i hi => by simp [xmid, hi]), fun s h => by
                rw [HTK.out, List.mem_append, List.mem_singleton] at h
                rcases h with h | h
                · exact HALL.out s h
                · rw [h]; exact HS.out⟩
              case measure => simp [intOf]; omega
        · have h3 : ¬ SumOk (onesT n) l := fun h => hs (by rw [h.2 sk HM.out, HL0.out])
          have HV := Lib.hid (HN.out h3)
          have e3 : ((sk.size : Int) != (s0.size : Int)) = true := by simp; omega
          clear hs h3
          go_wp2
          go_ret2
          exact ⟨(ret_tup HV.out.1 HV.out.2).symm, hE⟩
      · obtain rfl : k = n := by omega
        have h3 : SumOk (onesT k) l := ⟨by rw [onesT_size, HLEN.out], fun s h => by rw [HL0.out]; exact HALL.out s (by rw [List.take_of_length_le (by rw [HLEN.out]; omega)]; exact h)⟩
        have hv := HY.out h3
        rw [HL0.out, HLEN.out, strN_congr s0.size (acc (onesT k) l k) (xacc l k) (fun i _ => acc_ones k l k i (Nat.le_refl _))] at hv
        have HV := Lib.hid hv
        have hcs : ∀ j, j < s0.size → wr.cell? ⟨g, 0 + j, none⟩ = some (.int .u8 (bt (strN s0.size (xacc l k)) j)) := fun j hj => by
          rw [Nat.zero_add, hby.cell j hj, bt_bn, bn_strN _ _ j hj (xacc_lt l k j)]
        have HCS := Lib.hid hcs
        clear hcs hv h3
        go_wp2_with (with_reducible refine wpList_bytes_str rfl 34 9 5 _ rfl Try.underlying34 Try.underlying5 Try.underlying9 g 0 s0.size C.size rfl (strN s0.size (xacc l k)) (strN_size _ _) HCS.out ?_)
        go_ret2
        exact ⟨(ret_tup HV.out.1 HV.out.2).symm, hE⟩
