import Derived.Test.YtjdppgogdilgkaaSA
import Derived.Test.YtjdppgogdilgkaaMB
import Derived.Test.YtjdppgogdilgkaaMA
import Derived.Deep.RegionHeld3
import Derived.Deep.AppendLies
import Derived.StillTailTactics
section
namespace Go.Proofs.Ytjdppgogdilgkaa
open Go.RowKit Go.Gf
def everyM (k r : Nat) : List ByteArray := unitM k ++ mkM r k (cauchyF k)
def EveryIs (k r : Nat) (w : World) (e : Ending) (w' : World) : Prop := ∃ (A : Option Addr) (cap : Nat), e = .returned (.slice A (k + r) cap) ∧ w'.ownsRow w.heap.size 9 1 (.slice A (k + r) cap) (k + r) ((everyM k r).map Value.string) ∧ Ext w w'
theorem everyM_zero (k : Nat) : everyM k 0 = unitM k := by unfold everyM mkM; simp
set_option maxHeartbeats 4000000 in
set_option maxRecDepth 100000 in
theorem every_any (k r : Nat) (hk : 1 ≤ k) (h : k + r ≤ 32) (w : World) : Calls Try.prog 23 #[.int .i64 k, .int .i64 r] w (EveryIs k r w) := by
  have HU := Lib.hid (unitV_ok k (by omega))
  have HUL := Lib.hid (unitM_len k)
  by_cases h0 : r = 0
  · subst h0
    have HZ := Lib.hid (everyM_zero k)
    go_enter Try.func23, Try.ntmps23
    go_wp2_with (go_at_call 42; refine (unit_any _ _).mono ?_; rintro e w1 ⟨A1, n1, c1, rfl, hn1, hown, hE⟩; rw [HU.out] at hown hn1; rw [HUL.out] at hn1; subst hn1)
    go_ret
    exact ⟨A1, c1, rfl, by rw [HZ.out]; exact hown, hE⟩
  · have e1 : ((r : Int) == 0) = false := by simp; omega
    have hok : cauchyOk r k := by unfold cauchyOk; omega
    have hV := cauchy_ok r k hok
    have HV := Lib.hid hV
    have HE := Lib.hid (show everyM k r = unitM k ++ mkM r k (cauchyF k) from rfl)
    go_enter Try.func23, Try.ntmps23
    go_wp2_with (first
      | (go_at_call 42; refine (unit_any _ _).mono ?_; rintro e w1 ⟨A1, n1, c1, rfl, hn1, hown, hE⟩; rw [HU.out] at hown hn1; rw [HUL.out] at hn1; subst hn1)
      | (go_at_call 43; refine (cauchy_any _ _ _).mono ?_; rintro e w2 ⟨A2, n2, c2, rfl, hn2, hr2, hE2⟩; rw [HV.out.1] at hr2 hn2; rw [mkM_len] at hn2; subst hn2; have hown2 := hown.ext hE2; have hsz := hE.sz; have hsz2 := hE2.sz)
      | (at_builtin; refine wpList_apps _ rfl _ _ 50 9 rfl Try.underlying50 (.string { data := #[] }) 16 info9 rfl (by decide) w.heap.size (.slice A1 n1 c1) n1 ((unitM n1).map Value.string) rfl hown2 A2 n2 c2 ((mkM n2 n1 (cauchyF n1)).map Value.string) rfl hr2 (fun u hu => by obtain ⟨t, _, rfl⟩ := List.mem_map.1 hu; rfl) (by omega) (by omega) (by omega) ?_; intro g4 cap4 w4 hown4 hG4 hg4))
    go_ret
    exact ⟨some ⟨g4, 0, none⟩, cap4, rfl, by rw [HE.out, List.map_append]; exact hown4, hG4.ext (hE.trans hE2) (Nat.le_refl _)⟩
end Go.Proofs.Ytjdppgogdilgkaa
end
section
namespace Go.Proofs.Ytjdppgogdilgkaa
open Go.RowKit Go.Gf
set_option maxHeartbeats 4000000 in
set_option maxRecDepth 100000 in
theorem rall_any (k r : Nat) (hk : 1 ≤ k) (h : k + r ≤ 32) (w : World) : Calls Try.prog 25 #[.int .i64 k, .int .i64 r] w (EveryIs k r w) := by
  have HU := Lib.hid (unitV_ok k (by omega))
  have HUL := Lib.hid (unitM_len k)
  by_cases h0 : r = 0
  · subst h0
    have HZ := Lib.hid (everyM_zero k)
    go_enter Try.func25, Try.ntmps25
    go_wp2_with (go_at_call 44; refine (runit_any _ _).mono ?_; rintro e w1 ⟨A1, n1, c1, rfl, hn1, hown, hE⟩; rw [HU.out] at hown hn1; rw [HUL.out] at hn1; subst hn1)
    go_ret
    exact ⟨A1, c1, rfl, by rw [HZ.out]; exact hown, hE⟩
  · have e1 : decide ((0 : Int) < (r : Int)) = true := by simp; omega
    have hok : cauchyOk r k := by unfold cauchyOk; omega
    have hV := cauchy_ok r k hok
    have HV := Lib.hid hV
    have HE := Lib.hid (show everyM k r = unitM k ++ mkM r k (cauchyF k) from rfl)
    go_enter Try.func25, Try.ntmps25
    go_wp2_with (first
      | (go_at_call 44; refine (runit_any _ _).mono ?_; rintro e w1 ⟨A1, n1, c1, rfl, hn1, hown, hE⟩; rw [HU.out] at hown hn1; rw [HUL.out] at hn1; subst hn1)
      | (go_at_call 45; refine (rcauchy_any _ _ _).mono ?_; rintro e w2 ⟨A2, n2, c2, rfl, hn2, hr2, hE2⟩; rw [HV.out.1] at hr2 hn2; rw [mkM_len] at hn2; subst hn2; have hown2 := hown.ext hE2; have hsz := hE.sz; have hsz2 := hE2.sz; have HO := Lib.hid (owns_empty w2 w.heap.size 9 1 (by omega)); have HR1 := Lib.hid ((hown2.ext ((Ext.refl w2).alloc (.cells #[] 9))).rd); have hr3 := hr2.ext ((Ext.refl w2).alloc (.cells #[] 9)))
      | (at_builtin; refine wpList_apps _ rfl _ _ 50 9 rfl Try.underlying50 (.string { data := #[] }) 16 info9 rfl (by decide) w.heap.size _ 0 [] rfl HO.out A1 n1 c1 _ rfl HR1.out (strs_one _) (by omega) (by omega) (by simp; omega) ?_; intro g4 cap4 w4 hown4 hG4 hg4; simp only [Nat.zero_add, List.nil_append] at hown4 ⊢; have hr4 : Rd w4 A2 n2 ((mkM n2 n1 (cauchyF n1)).map Value.string) := (⟨hr2.1, fun hn => by obtain ⟨g, o, e, hc⟩ := hr2.2 hn; exact ⟨g, o, e, fun i v hv => hg4.cell (((Ext.refl w2).alloc (.cells #[] 9)).cellv (hc i v hv)) (fun he => by have hlt : g < w2.heap.size := block_lt_of_cell (hc i v hv); have he' : g = w2.heap.size := Option.some.inj he; omega)⟩⟩); have hE4 := hG4.ext ((hE.trans hE2).alloc (.cells #[] 9)) (Nat.le_refl _); have hsz4 := hE4.sz)
      | (at_builtin; refine wpList_apps _ rfl _ _ 50 9 rfl Try.underlying50 (.string { data := #[] }) 16 info9 rfl (by decide) w.heap.size (.slice (some ⟨g4, 0, none⟩) n1 cap4) n1 ((unitM n1).map Value.string) rfl hown4 A2 n2 c2 ((mkM n2 n1 (cauchyF n1)).map Value.string) rfl hr4 (strs_one _) (by omega) (by omega) (by omega) ?_; intro g5 cap5 w5 hown5 hG5 hg5))
    go_ret
    exact ⟨some ⟨g5, 0, none⟩, cap5, rfl, by rw [HE.out, List.map_append]; exact hown5, hG5.ext hE4 (Nat.le_refl _)⟩
end Go.Proofs.Ytjdppgogdilgkaa
end
section
namespace Go.Proofs.Ytjdppgogdilgkaa
open Go.RowKit Go.Gf
set_option maxRecDepth 100000 in
theorem texts_any (A B : Option Addr) (n cap m cap2 : Nat) (l r : List ByteArray) (w : World) (hr : Rd w A n (l.map Value.string)) (hq : Rd w B m (r.map Value.string)) (hn : n ≤ 1048576) (_hm : m ≤ 1048576) :
    Calls Try.prog 14 #[.slice A n cap, .slice B m cap2] w fun e w' => e = .returned (.bool (sameB l r)) ∧ Ext w w' := by
  have hlen : l.length = n := by have := hr.1; simpa using this
  have hlen2 : r.length = m := by have := hq.1; simpa using this
  by_cases h1 : n = m
  · subst h1
    have HL := Lib.hid hlen
    have HL2 := Lib.hid hlen2
    clear hlen hlen2
    have b1 : ((n : Int) != (n : Int)) = false := by simp
    go_enter Try.func14, Try.ntmps14
    go_wp2
    go_loopw [5] (fun i wr => ∃ k : Nat, k ≤ n ∧ i = .int .i64 k ∧ Ext w wr ∧ l.take k = r.take k) (fun i _ => n - (intOf i).toNat)
    case atStart => exact ⟨0, by omega, rfl, Ext.refl _, by simp⟩
    case round =>
      obtain ⟨k, hk, rfl, hE, hall⟩ := hrel
      have HALL := Lib.hid hall
      clear hall
      by_cases hk2 : k < n
      · obtain ⟨gs, os, rfl, hgs, hc1⟩ := (hr.ext hE).at_ hk2
        obtain ⟨gt, ot, rfl, hgt, hc2⟩ := (hq.ext hE).at_ hk2
        simp only [List.getElem_map] at hc1 hc2
        have hlk : k < l.length := by rw [HL.out]; exact hk2
        have hrk : k < r.length := by rw [HL2.out]; exact hk2
        have htk : l.take (k + 1) = l.take k ++ [l[k]'hlk] := List.take_succ_eq_append_getElem hlk
        have htr : r.take (k + 1) = r.take k ++ [r[k]'hrk] := List.take_succ_eq_append_getElem hrk
        have hne : l[k]'hlk ≠ r[k]'hrk → l ≠ r := fun h e => h (by subst e; rfl)
        generalize l[k]'hlk = s at *
        generalize r[k]'hrk = t at *
        have HTK := Lib.hid htk
        have HTR := Lib.hid htr
        have HNE := Lib.hid hne
        clear htk htr hne
        have kk : (k : Int) < (n : Int) := by omega
        have kk0 : (0 : Int) ≤ (k : Int) := by omega
        by_cases hs : s = t
        · subst hs
          go_wp2_with fail
          go_quiet (fail)
          go_wp2
          go_roundw
          case rel => exact ⟨k + 1, by omega, by go_num, hE.drewN _, by rw [HTK.out, HTR.out, HALL.out]⟩
          case measure => simp [intOf]; omega
        · have hsb := str_ne hs
          have HB : sameB l r = false := by simpa [sameB] using HNE.out hs
          have HBB := Lib.hid HB
          clear HB
          go_wp2_with fail
          go_quiet (fail)
          go_wp2
          go_ret
          exact ⟨ret_bool HBB.out.symm, hE.drewN _⟩
      · obtain rfl : k = n := by omega
        have hy : sameB l r = true := by
          have := HALL.out
          rw [List.take_of_length_le (by rw [HL.out]; omega), List.take_of_length_le (by rw [HL2.out]; omega)] at this
          simpa [sameB] using this
        have HY := Lib.hid hy
        clear hy
        go_wp2
        go_ret
        exact ⟨ret_bool HY.out.symm, hE⟩
  · have hb : sameB l r = false := by
      simp [sameB]; rintro rfl; omega
    have HN := Lib.hid hb
    have b1 : ((n : Int) != (m : Int)) = true := by simp; omega
    clear hlen hlen2 h1 hb
    go_enter Try.func14, Try.ntmps14
    go_wp2
    go_ret
    exact ⟨ret_bool HN.out.symm, Ext.refl _⟩
end Go.Proofs.Ytjdppgogdilgkaa
end
section
namespace Go.Proofs.Ytjdppgogdilgkaa
open Go.RowKit Go.Gf
def onesT (n : Nat) : ByteArray := strN n (fun _ => 1)
theorem onesT_size (n : Nat) : (onesT n).size = n := strN_size _ _
set_option maxRecDepth 100000 in
theorem rtimes_any (c : Nat) (s : ByteArray) (w : World) (hc : c < 256) (hz : s.size ≤ 1048576) :
    Calls Try.prog 46 #[.int .u8 c, .string s] w fun e w' => e = .returned (.string (timesT c s)) ∧ Ext w w' := by
  go_enter Try.func46, Try.ntmps46
  go_wp2_with (with_reducible refine wpList_str_bytes rfl 9 41 5 _ rfl Try.underlying9 Try.underlying41 Try.underlying5 s rfl ?_; intro C w2 hC hCb hCc hB2 hsz2)
  have hE2 : Ext w w2 := hB2
  have hgw : w.heap.size ≤ w.heap.size := Nat.le_refl _
  obtain ⟨g, hg⟩ : ∃ g, g = w.heap.size := ⟨_, rfl⟩
  rw [← hg] at hCb hgw ⊢
  have hge : w.heap.size ≤ g := by omega
  clear hg hB2 hsz2 hgw
  go_loopw [6] (fun i wr => ∃ k : Nat, k ≤ s.size ∧ i = .int .i64 k ∧ Ext w wr ∧ ∃ D : Array Value, D.size = C.size ∧ BlkM wr g 5 D ∧ (∀ j, j < k → D[j]? = some (u8c (fun i => fm c (bn s i)) j)) ∧ ∀ j, k ≤ j → D[j]? = C[j]?) (fun i _ => s.size - (intOf i).toNat)
  case atStart => exact ⟨0, by omega, rfl, hE2, C, rfl, hCb, fun j h => by omega, fun _ _ => rfl⟩
  case round =>
    obtain ⟨k, hk, rfl, hE, D, hDs, hD, hlo, hhi⟩ := hrel
    have HLO := Lib.hid hlo
    have HHI := Lib.hid hhi
    have HDS := Lib.hid hDs
    clear hlo hhi hDs
    by_cases hk2 : k < s.size
    · have hbn := bn_lt s k
      have cb : wr.cell? ⟨g, k, none⟩ = some (.int .u8 (bn s k)) := by rw [hD.cell, HHI.out k (Nat.le_refl _), hCc k hk2]; rfl
      go_wp2_with (go_at_call 64; refine (rmul_any c (bn s k) _ hc hbn).mono ?_; rintro e w3 ⟨rfl, hE3⟩; have hD3 := hD.ext hE3; have hf3 := hD3.frozen k (by rw [HDS.out]; omega); have cb3 := hE3.cellv cb)
      go_roundw
      case rel => exact ⟨k + 1, by omega, by go_num, (hE.trans hE3).setCell hge _, D.setIfInBounds k (.int .u8 (fm c (bn s k))), by rw [Array.size_setIfInBounds]; exact HDS.out, hD3.set_ _ _, fun j hj => by
          rw [Array.getElem?_setIfInBounds]
          by_cases e : k = j
          · subst e; rw [if_pos rfl, if_pos (by rw [HDS.out]; omega)]; rfl
          · rw [if_neg e]; exact HLO.out j (by omega), fun j hj => by
          rw [Array.getElem?_setIfInBounds, if_neg (by omega)]; exact HHI.out j (by omega)⟩
      case measure => simp [intOf]; omega
    · obtain rfl : k = s.size := by omega
      have hcs : ∀ j, j < s.size → wr.cell? ⟨g, 0 + j, none⟩ = some (.int .u8 (bt (timesT c s) j)) := fun j hj => by
        rw [Nat.zero_add, hD.cell, HLO.out j hj, bt_bn, bn_timesT c s j hc hj]; rfl
      have HCS := Lib.hid hcs
      clear hcs
      go_wp2_with (with_reducible refine wpList_bytes_str rfl 41 9 5 _ rfl Try.underlying41 Try.underlying5 Try.underlying9 g 0 s.size C.size rfl (timesT c s) (timesT_size c s) HCS.out ?_)
      go_ret
      exact ⟨rfl, hE⟩
def BytesA (w : World) (g n : Nat) (f : Nat → Nat) : Prop := ∃ D : Array Value, n ≤ D.size ∧ BlkM w g 5 D ∧ ∀ j, j < n → D[j]? = some (u8c f j)
theorem BytesA.cell {w : World} {g n : Nat} {f : Nat → Nat} (h : BytesA w g n f) (j : Nat) (hj : j < n) : w.cell? ⟨g, j, none⟩ = some (.int .u8 (f j : Int)) := by
  obtain ⟨D, _, hD, hf⟩ := h
  rw [hD.cell, hf j hj]; rfl
theorem BytesA.frozen {w : World} {g n : Nat} {f : Nat → Nat} (h : BytesA w g n f) (j : Nat) (hj : j < n) : w.frozen? ⟨g, j, none⟩ = false := by
  obtain ⟨D, hn, hD, _⟩ := h
  exact hD.frozen j (by omega)
theorem BytesA.set_ {w : World} {g n : Nat} {f h : Nat → Nat} (hb : BytesA w g n f) (i : Nat) (v : Nat) (_ : i < n) (hh : ∀ j, j < n → h j = if j = i then v else f j) : BytesA (w.setCell ⟨g, i, none⟩ (.int .u8 (v : Int))) g n h := by
  obtain ⟨D, hn, hD, hf⟩ := hb
  refine ⟨D.setIfInBounds i (.int .u8 (v : Int)), by rw [Array.size_setIfInBounds]; exact hn, hD.set_ _ _, fun j hj => ?_⟩
  rw [Array.getElem?_setIfInBounds]
  by_cases e : i = j
  · subst e; rw [if_pos rfl, if_pos (by omega), u8c, hh i hj, if_pos rfl]
  · rw [if_neg e, hf j hj, u8c, u8c, hh j hj, if_neg (fun h => e h.symm)]
theorem BytesA.congr {w : World} {g n : Nat} {f h : Nat → Nat} (hb : BytesA w g n f) (hh : ∀ j, j < n → h j = f j) : BytesA w g n h := by
  obtain ⟨D, hn, hD, hf⟩ := hb
  exact ⟨D, hn, hD, fun j hj => by rw [hf j hj, u8c, u8c, hh j hj]⟩
theorem BytesA.ext {w w' : World} {g n : Nat} {f : Nat → Nat} (hb : BytesA w g n f) (e : Ext w w') : BytesA w' g n f := by
  obtain ⟨D, hn, hD, hf⟩ := hb
  exact ⟨D, hn, hD.ext e, hf⟩
theorem BytesA.drew {w : World} {g n : Nat} {f : Nat → Nat} (hb : BytesA w g n f) : BytesA w.drew g n f := hb
def xacc (l : List ByteArray) : Nat → Nat → Nat
  | 0, _ => 0
  | k + 1, i => xacc l k i ^^^ bn (l.getD k { data := #[] }) i
theorem xacc_lt (l : List ByteArray) (k i : Nat) : xacc l k i < 256 := by
  induction k with
  | zero => simp [xacc]
  | succ k ih => exact x8 ih (bn_lt _ _)
theorem acc_ones (n : Nat) (l : List ByteArray) (k i : Nat) (hk : k ≤ n) : acc (onesT n) l k i = xacc l k i := by
  induction k with
  | zero => rfl
  | succ k ih =>
    rw [acc, xacc, ih (by omega)]
    congr 1
    unfold onesT
    rw [bn_strN n _ k (by omega) (by omega), fm_comm 1 _ (by omega) (bn_lt _ _), fm_one_r]
def xmid (l : List ByteArray) (k j i : Nat) : Nat := if i < j then xacc l (k + 1) i else xacc l k i
set_option maxRecDepth 100000 in
theorem rplus_any (A : Option Addr) (n cap : Nat) (l : List ByteArray) (w : World) (hr : Rd w A n (l.map Value.string)) (hn : n ≤ 1048576) (hz : ∀ s ∈ l, s.size ≤ 1048576) :
    Calls Try.prog 47 #[.slice A n cap] w fun e w' => e = .returned (.tuple #[.string (sumV (onesT n) l), .int .i64 (sumE (onesT n) l)]) ∧ Ext w w' := by
  have hlen : l.length = n := by have := hr.1; simpa using this
  have HY := Lib.hid (sum_yes (onesT n) l)
  have HN := Lib.hid (sum_no (onesT n) l)
  by_cases h2 : n = 0
  · have h3 : SumOk (onesT n) l := ⟨by rw [onesT_size]; exact hlen.symm, fun s hs => by have := List.length_pos_of_mem hs; omega⟩
    have hl : l = [] := List.eq_nil_of_length_eq_zero (by omega)
    have hv : sumV (onesT n) l = { data := #[] } ∧ sumE (onesT n) l = 0 := by
      rw [(HY.out h3).1, (HY.out h3).2]; subst hl; exact ⟨rfl, rfl⟩
    have HV := Lib.hid hv
    have e2 : ((n : Int) == 0) = true := by rw [h2]; rfl
    clear h2 h3 hl hv HY HN hlen hr hz
    go_enter Try.func47, Try.ntmps47
    go_wp2
    go_ret2
    exact ⟨(ret_tup HV.out.1 HV.out.2).symm, Ext.refl _⟩
  · have e2 : ((n : Int) == 0) = false := by simp; omega
    obtain ⟨gs, os, rfl, hgs, hcell⟩ := hr.at_ (show 0 < n by omega)
    have hl0 : len0 l = (l[0]'(by omega)).size := by unfold len0; rw [List.getD_eq_getElem?_getD, List.getElem?_eq_getElem (by omega)]; rfl
    have hg0 : l.getD 0 { data := #[] } = l[0]'(by omega) := by rw [List.getD_eq_getElem?_getD, List.getElem?_eq_getElem (by omega)]; rfl
    have hz00 := hz (l[0]'(by omega)) (List.getElem_mem _)
    have ht1 : l.take 1 = [l[0]'(by omega)] := by
      have := List.take_succ_eq_append_getElem (l := l) (i := 0) (by omega); simpa using this
    simp only [List.getElem_map, Nat.add_zero] at hcell
    generalize l[0]'(by omega) = s0 at *
    have HL0 := Lib.hid hl0
    have HG0 := Lib.hid hg0
    have HT1 := Lib.hid ht1
    have HLEN := Lib.hid hlen
    clear hl0 hlen hg0 ht1
    go_enter Try.func47, Try.ntmps47
    go_wp2_with (with_reducible refine wpList_str_bytes rfl 9 41 5 _ rfl Try.underlying9 Try.underlying41 Try.underlying5 s0 rfl ?_; intro C w2 hC hCb hCc hB2 hsz2)
    have hE2 : Ext w w2 := hB2
    have hby : BytesA w2 w.heap.size s0.size (xacc l 1) := ⟨C, hC, hCb, fun j hj => by rw [hCc j hj]; unfold u8c; rw [xacc, xacc, Nat.zero_xor, HG0.out]; rfl⟩
    obtain ⟨g, hg⟩ : ∃ g, g = w.heap.size := ⟨_, rfl⟩
    rw [← hg] at hby ⊢
    have hge : w.heap.size ≤ g := by omega
    have ngs : gs ≠ g := by omega
    clear hg hB2 hsz2 hCb hCc hcell
    go_loopw [5] (fun i wr => ∃ k : Nat, 1 ≤ k ∧ k ≤ n ∧ i = .int .i64 k ∧ Ext w wr ∧ BytesA wr g s0.size (xacc l k) ∧ ∀ s ∈ l.take k, s.size = s0.size) (fun i _ => n - (intOf i).toNat)
    case atStart => exact ⟨1, by omega, by omega, rfl, hE2, hby, by rw [HT1.out]; simp⟩
    case round =>
      obtain ⟨k, hk1, hk, rfl, hE, hby, hall⟩ := hrel
      have HALL := Lib.hid hall
      clear hall hE2
      by_cases hk2 : k < n
      · have hL := HLEN.out
        obtain ⟨gs', os', hA, hgs', hcell⟩ := (hr.ext hE).at_ hk2
        simp only [Option.some.injEq, Addr.mk.injEq, and_true] at hA
        obtain ⟨rfl, rfl⟩ := hA
        simp only [List.getElem_map] at hcell
        have hmem := List.getElem_mem (l := l) (n := k) (by omega)
        have hget : l.getD k { data := #[] } = l[k]'(by omega) := by rw [List.getD_eq_getElem?_getD, List.getElem?_eq_getElem (by omega)]; rfl
        have htk : l.take (k + 1) = l.take k ++ [l[k]'(by omega)] := List.take_succ_eq_append_getElem (by omega)
        have hzk := hz _ hmem
        generalize l[k]'(by omega) = sk at *
        have HM := Lib.hid hmem
        have HG := Lib.hid hget
        have HTK := Lib.hid htk
        clear hmem hget htk hL
        by_cases hs : sk.size = s0.size
        · have e3 : ((sk.size : Int) != (s0.size : Int)) = false := by rw [hs]; simp
          have HS := Lib.hid hs
          clear hs
          go_wp2
          obtain ⟨wo, rfl⟩ : ∃ wo : World, wo = wr := ⟨_, rfl⟩
          have hby0 : BytesA wo g s0.size (xmid l k 0) := hby.congr (fun j _ => by simp [xmid])
          clear hby
          go_loopw [6] (fun i wr => ∃ j : Nat, j ≤ s0.size ∧ i = .int .i64 j ∧ Ext w wr ∧ wr.cell? ⟨gs, os + k, none⟩ = some (.string sk) ∧ BytesA wr g s0.size (xmid l k j)) (fun i _ => s0.size - (intOf i).toNat)
          case atStart => exact ⟨0, by omega, rfl, hE, hcell, hby0⟩
          case round =>
            obtain ⟨j, hj, rfl, hE, hcell, hby⟩ := hrel
            by_cases hj2 : j < s0.size
            · have hc1 := hby.cell j hj2
              have hf1 := hby.frozen j hj2
              have hxm : xmid l k j j = xacc l k j := by simp [xmid]
              rw [hxm] at hc1
              have hbl := bn_lt sk j
              have hx := u8_xor (xacc l k j) (bn sk j) (xacc_lt l k j) hbl
              have hck := bt_get sk j (by rw [HS.out]; exact hj2)
              rw [bt_bn] at hck
              have kk : (k : Int) < (n : Int) := by omega
              have kj : (j : Int) < (s0.size : Int) := by omega
              have kj2 : (j : Int) < (sk.size : Int) := by rw [HS.out]; exact kj
              have kk0 : (0 : Int) ≤ (k : Int) := by omega
              have kj0 : (0 : Int) ≤ (j : Int) := by omega
              have hnext := hby.set_ (h := xmid l k (j + 1)) j (xacc l k j ^^^ bn sk j) hj2 (fun i _ => by
                unfold xmid
                by_cases e : i = j
                · subst e; rw [if_pos (by omega), if_pos rfl, xacc, HG.out]
                · rw [if_neg e]
                  by_cases h1 : i < j
                  · rw [if_pos (by omega), if_pos h1]
                  · rw [if_neg (by omega), if_neg h1])
              have HNEXT := Lib.hid hnext
              clear hnext hxm hby0
              go_wp2_with fail
              go_still_tail 14, (by kernel_rfl)
              go_wp2
              go_roundw
              case rel => exact ⟨j + 1, by omega, by go_num, (hE.setCell hge _).drew, (World.cell?_setCell_other _ _ _ _ (by intro h; injection h with h; omega)).trans hcell, HNEXT.out⟩
              case measure => simp [intOf]; omega
            · obtain rfl : j = s0.size := by omega
              go_wp2
              go_roundw
              case rel => exact ⟨k + 1, by omega, by omega, by go_num, hE, hby.congr (fun i hi => by simp [xmid, hi]), fun s h => by
                rw [HTK.out, List.mem_append, List.mem_singleton] at h
                rcases h with h | h
                · exact HALL.out s h
                · rw [h]; exact HS.out⟩
              case measure => simp [intOf]; omega
        · have h3 : ¬ SumOk (onesT n) l := fun h => hs (by rw [h.2 sk HM.out, HL0.out])
          have HV := Lib.hid (HN.out h3)
          have e3 : ((sk.size : Int) != (s0.size : Int)) = true := by simp; omega
          clear hs h3
          go_wp2
          go_ret2
          exact ⟨(ret_tup HV.out.1 HV.out.2).symm, hE⟩
      · obtain rfl : k = n := by omega
        have h3 : SumOk (onesT k) l := ⟨by rw [onesT_size, HLEN.out], fun s h => by rw [HL0.out]; exact HALL.out s (by rw [List.take_of_length_le (by rw [HLEN.out]; omega)]; exact h)⟩
        have hv := HY.out h3
        rw [HL0.out, HLEN.out, strN_congr s0.size (acc (onesT k) l k) (xacc l k) (fun i _ => acc_ones k l k i (Nat.le_refl _))] at hv
        have HV := Lib.hid hv
        have hcs : ∀ j, j < s0.size → wr.cell? ⟨g, 0 + j, none⟩ = some (.int .u8 (bt (strN s0.size (xacc l k)) j)) := fun j hj => by
          rw [Nat.zero_add, hby.cell j hj, bt_bn, bn_strN _ _ j hj (xacc_lt l k j)]
        have HCS := Lib.hid hcs
        clear hcs hv h3
        go_wp2_with (with_reducible refine wpList_bytes_str rfl 41 9 5 _ rfl Try.underlying41 Try.underlying5 Try.underlying9 g 0 s0.size C.size rfl (strN s0.size (xacc l k)) (strN_size _ _) HCS.out ?_)
        go_ret2
        exact ⟨(ret_tup HV.out.1 HV.out.2).symm, hE⟩
theorem owns_ext {w w' : World} {base n : Nat} {e : TypeId} {v : Value} {xs : List Value} (h : w.ownsRow base e 1 v n xs) (hE : Ext w w') : w'.ownsRow base e 1 v n xs := by
  refine h.kept (row := none) ⟨hE.os, hE.tape, hE.output, hE.size, fun k hk _ => hE.block k hk⟩ ?_
  exact Classical.em _
theorem rd_owns {w : World} {base n cap : Nat} {e : TypeId} {A : Option Addr} {xs : List Value} (h : w.ownsRow base e 1 (.slice A n cap) n xs) : Rd w A n xs := by
  refine ⟨by have := h.1; omega, fun hn => ?_⟩
  rcases h.2 with ⟨_, h0⟩ | ⟨g, c, cur, hv, _⟩
  · omega
  · injection hv with h1 h2 h3
    subst h1
    exact ⟨g, 0, rfl, fun i v hi => by
      have := h.cells (g := g) rfl i v hi
      rw [Addr.add_lit] at this
      exact this⟩
def prodL (c : ByteArray) (l : List ByteArray) (k : Nat) : List ByteArray := (List.range k).map (fun j => timesT (bn c j) (l.getD j { data := #[] }))
theorem prodL_succ (c : ByteArray) (l : List ByteArray) (k : Nat) : prodL c l (k + 1) = prodL c l k ++ [timesT (bn c k) (l.getD k { data := #[] })] := by
  unfold prodL; rw [List.range_succ, List.map_append]; rfl
theorem prodL_len (c : ByteArray) (l : List ByteArray) (k : Nat) : (prodL c l k).length = k := by simp [prodL]
theorem prodL_get (c : ByteArray) (l : List ByteArray) (n k : Nat) (hk : k < n) : (prodL c l n).getD k { data := #[] } = timesT (bn c k) (l.getD k { data := #[] }) := by
  unfold prodL
  rw [List.getD_eq_getElem?_getD, List.getElem?_map, List.getElem?_range hk]; rfl
theorem getD_memJ (l : List ByteArray) (j : Nat) (h : j < l.length) : l.getD j { data := #[] } ∈ l := by
  rw [List.getD_eq_getElem?_getD, List.getElem?_eq_getElem h]; exact List.getElem_mem h
theorem prod_len0 (c : ByteArray) (l : List ByteArray) (n : Nat) (hl : l.length = n) : len0 (prodL c l n) = len0 l := by
  rcases n with _ | n
  · have : l = [] := List.eq_nil_of_length_eq_zero hl
    subst this; rfl
  · unfold len0; rw [prodL_get _ _ _ 0 (by omega), timesT_size]
theorem prod_acc (c : ByteArray) (l : List ByteArray) (n i : Nat) (hl : l.length = n) (hok : ∀ s ∈ l, s.size = len0 l) (hi : i < len0 l) (k : Nat) (hk : k ≤ n) : xacc (prodL c l n) k i = acc c l k i := by
  induction k with
  | zero => rfl
  | succ k ih =>
    rw [xacc, acc, ih (by omega), prodL_get _ _ _ k (by omega), bn_timesT _ _ i (bn_lt _ _) (by rw [hok _ (getD_memJ l k (by omega))]; exact hi)]
theorem prod_sum (c : ByteArray) (l : List ByteArray) (n : Nat) (hl : l.length = n) (hc : c.size = n) : sumV (onesT n) (prodL c l n) = sumV c l ∧ sumE (onesT n) (prodL c l n) = sumE c l := by
  have h0 := prod_len0 c l n hl
  have key : (∀ s ∈ prodL c l n, s.size = len0 (prodL c l n)) ↔ ∀ s ∈ l, s.size = len0 l := by
    rw [h0]
    constructor
    · intro h s hs
      obtain ⟨j, hj, rfl⟩ := List.mem_iff_getElem.mp hs
      have := h (timesT (bn c j) (l.getD j { data := #[] })) (by rw [← prodL_get c l n j (by omega)]; exact getD_memJ _ j (by rw [prodL_len]; omega))
      rw [timesT_size, List.getD_eq_getElem?_getD, List.getElem?_eq_getElem hj] at this
      exact this
    · intro h s hs
      obtain ⟨j, hj, rfl⟩ := List.mem_map.mp hs
      rw [timesT_size]
      exact h _ (getD_memJ l j (by have := List.mem_range.mp hj; omega))
  by_cases h : ∀ s ∈ l, s.size = len0 l
  · have a := sum_yes (onesT n) (prodL c l n) ⟨by rw [onesT_size, prodL_len], key.mpr h⟩
    have b := sum_yes c l ⟨by rw [hc, hl], h⟩
    rw [a.1, a.2, b.1, b.2, h0, prodL_len, hl]
    refine ⟨strN_congr _ _ _ fun i hi => ?_, rfl⟩
    rw [acc_ones n _ n i (Nat.le_refl _), prod_acc c l n i hl h hi n (Nat.le_refl _)]
  · have a := sum_no (onesT n) (prodL c l n) (fun x => h (key.mp x.2))
    have b := sum_no c l (fun x => h x.2)
    rw [a.1, a.2, b.1, b.2]; exact ⟨rfl, rfl⟩
theorem jinfo9 : Try.prog.info? 9 = some (Try.prog.info? 9).get! := by kernel_rfl
theorem jinfo9z : (Try.prog.info? 9).get!.zero = some (.string { data := #[] }) := by kernel_rfl
theorem jinfo9s : (Try.prog.info? 9).get!.size = 1 := by kernel_rfl
theorem jinfo9b : (Try.prog.info? 9).get!.bytes = 16 := by kernel_rfl
set_option maxRecDepth 100000 in
theorem rsum_any (c : ByteArray) (A : Option Addr) (n cap : Nat) (l : List ByteArray) (w : World) (hr : Rd w A n (l.map Value.string)) (hn : n ≤ 1048576) (hz : ∀ s ∈ l, s.size ≤ 1048576) :
    Calls Try.prog 26 #[.string c, .slice A n cap] w fun e w' => e = .returned (.tuple #[.string (sumV c l), .int .i64 (sumE c l)]) ∧ Ext w w' := by
  have hlen : l.length = n := by have := hr.1; simpa using this
  by_cases h : c.size = n
  · have HV := Lib.hid (prod_sum c l n hlen h)
    have e1 : ((c.size : Int) != (n : Int)) = false := by simp [h]
    have HC := Lib.hid h
    have HZ := Lib.hid hz
    have HL := Lib.hid hlen
    clear h hz hlen
    go_enter Try.func26, Try.ntmps26
    go_wp2
    go_loopw [6, 7] (fun v i wr => ∃ k : Nat, k ≤ n ∧ i = .int .i64 k ∧ ∃ (A1 : Option Addr) (c1 : Nat), v = .slice A1 k c1 ∧ wr.ownsRow w.heap.size 9 1 (.slice A1 k c1) k ((prodL c l k).map Value.string) ∧ Ext w wr) (fun _ i _ => n - (intOf i).toNat)
    case atStart => exact ⟨0, by omega, rfl, none, 0, rfl, World.ownsRow_nil _ _ _ _, Ext.refl _⟩
    case round =>
      obtain ⟨k, hk, rfl, A1, c1, rfl, hown, hE⟩ := hrel
      by_cases hk2 : k < n
      · obtain ⟨gs, os, rfl, hgs, hcell⟩ := hr.at_ hk2
        replace hcell := hE.cellv hcell
        simp only [List.getElem_map] at hcell
        have hlk : k < l.length := by rw [HL.out]; exact hk2
        have hsz := HZ.out (l[k]'hlk) (List.getElem_mem _)
        have hgd : l.getD k { data := #[] } = l[k]'hlk := by rw [List.getD_eq_getElem?_getD, List.getElem?_eq_getElem hlk]; rfl
        have hps := prodL_succ c l k
        rw [hgd] at hps
        generalize l[k]'hlk = sk at *
        have hck := bt_get c k (by rw [HC.out]; exact hk2)
        rw [bt_bn] at hck
        have hbl := bn_lt c k
        have HP := Lib.hid hps
        have HO := Lib.hid hown
        have hwz := hE.sz
        clear hps hown hgd
        have kk : (k : Int) < (n : Int) := by omega
        have kc : (k : Int) < (c.size : Int) := by rw [HC.out]; exact kk
        have kk0 : (0 : Int) ≤ (k : Int) := by omega
        go_wp2_with fail
        go_region_held3 (fun w' => w'.cell? ⟨gs, os + k, none⟩ = some (.string sk))
          (first | exact hcell | exact hcell2 | exact hcell3 | go_keep)
          (first
            | (go_at_call 46; refine (rtimes_any (bn c k) sk _ hbl hsz).mono ?_; rintro e w2 ⟨rfl, hE2⟩; have HO2 := Lib.hid (owns_ext HO.out (Ext.trans (Ext.drew (Ext.refl _)) hE2)); have hO2 := (hE.drew).trans hE2; have hcell2 := hE2.cellv hcell)
            | ((refine step_append_lies _ (by rfl) _ _ _ (by rfl) w.heap.size 9 _ (.string { data := #[] }) 1 16 Try.underlying23 jinfo9 jinfo9z jinfo9s jinfo9b (by rfl) (by omega) _ k ((prodL c l k).map Value.string) (by rfl) (HO2.out.alloc _) ⟨w2.heap.size, 0, none⟩ 1 1 [.string (timesT (bn c k) sk)] (by rfl) (by rfl) (news_one _ _ _) (one_str _) (by omega) (by unfold maxLen; omega) (by omega) (by have := hO2.sz; simp; omega) (w2.heap.size + 1) (by simp) ?_; intro g cap2 w3 hown3 hg3 ho3 hlt3; have hcell3 := HO2.out.cellFar hg3 (((Ext.refl _).alloc _).cellv hcell2) hgs)))
        go_wp2
        go_roundw
        case rel => exact ⟨k + 1, by omega, by go_num, _, cap2, rfl, by rw [HP.out, List.map_append]; exact hown3, (hO2.alloc _).grown hg3 HO2.out.blockGe⟩
        case measure => simp [intOf]; omega
      · obtain rfl : k = n := by omega
        have hrd := rd_owns hown
        have HRD := Lib.hid hrd
        have hpz : ∀ s ∈ prodL c l k, s.size ≤ 1048576 := fun s hs => by
          obtain ⟨j, hj, rfl⟩ := List.mem_map.mp hs
          rw [timesT_size]
          exact HZ.out _ (getD_memJ l j (by have := List.mem_range.mp hj; rw [HL.out]; exact this))
        have HPZ := Lib.hid hpz
        clear hrd hpz hown
        go_wp2_with (go_at_call 47; refine (rplus_any A1 k c1 (prodL c l k) _ HRD.out hn HPZ.out).mono ?_; rintro e w2 ⟨rfl, hE2⟩)
        go_ret2
        exact ⟨ret_tup HV.out.1 HV.out.2, hE.trans hE2⟩
  · have hv := sum_no c l (fun x => h (x.1.trans hlen))
    have e1 : ((c.size : Int) != (n : Int)) = true := by simp; omega
    have HV := Lib.hid hv
    clear h hlen hz hv
    go_enter Try.func26, Try.ntmps26
    go_wp2
    go_ret2
    exact ⟨(ret_tup HV.out.1 HV.out.2).symm, Ext.refl _⟩
end Go.Proofs.Ytjdppgogdilgkaa
end
