import Derived.Test.YtbmemogajgbdgaaM7
namespace Go.Proofs.Ytbmemogajgbdgaa
open Go.RowKit Go.Gf
set_option maxRecDepth 100000 in
theorem idx43 (n cap : Nat) (A : Option Addr) (l : List Int) (C : Value) (p : Int → Bool) (w : World) (hr : Rd w A n (l.map (Value.int .i64))) (hn : n ≤ 1048576)
    (hf : ∀ s ∈ l, ∀ w', Ext w w' → Calls Try.prog 38 #[.int .i64 s, C] w' fun e w'' => e = .returned (.bool (p s)) ∧ w' = w'') :
    Calls Try.prog 43 #[.slice A n cap, .func (.func 38) #[] #[C]] w fun e w' => IdxIs (l.any p) e ∧ Ext w w' := by
  have hlen : l.length = n := by have := hr.1; simpa using this
  have HF := Lib.hid hf
  have HL := Lib.hid hlen
  clear hf hlen
  go_enter Try.func43, Try.ntmps43
  go_wp2
  go_loopw [8] (fun i wr => ∃ k : Nat, k ≤ n ∧ i = .int .i64 k ∧ Ext w wr ∧ ∀ s ∈ l.take k, p s = false) (fun i _ => n - (intOf i).toNat)
  case atStart => exact ⟨0, by omega, rfl, Ext.refl _, by simp⟩
  case round =>
    obtain ⟨k, hk, rfl, hE, hall⟩ := hrel
    have HALL := Lib.hid hall
    clear hall
    by_cases hk2 : k < n
    · obtain ⟨gs, os, rfl, hgs, hcell⟩ := (hr.ext hE).at_ hk2
      simp only [List.getElem_map] at hcell
      have hlk : k < l.length := by rw [HL.out]; exact hk2
      have htk : l.take (k + 1) = l.take k ++ [l[k]'hlk] := List.take_succ_eq_append_getElem hlk
      have hmem := List.getElem_mem hlk
      generalize l[k]'hlk = s at *
      have HTK := Lib.hid htk
      have HM := Lib.hid hmem
      clear htk hmem
      have kk : (k : Int) < (n : Int) := by omega
      have kk0 : (0 : Int) ≤ (k : Int) := by omega
      by_cases hp : p s = true
      · have HP := Lib.hid hp
        clear hp
        go_wp2_with (go_at_call 38; refine (HF.out s HM.out _ hE).mono ?_; rintro e w1 ⟨rfl, rfl⟩; rw [HP.out])
        go_ret
        refine ⟨⟨k, rfl, ?_⟩, hE⟩
        have : l.any p = true := List.any_eq_true.mpr ⟨s, HM.out, HP.out⟩
        rw [this]; simp
      · have hp' : p s = false := by simpa using hp
        have HP := Lib.hid hp'
        clear hp hp'
        go_wp2_with (go_at_call 38; refine (HF.out s HM.out _ hE).mono ?_; rintro e w1 ⟨rfl, rfl⟩; rw [HP.out])
        go_roundw
        case rel => exact ⟨k + 1, by omega, by go_num, hE, fun s' h => by
          rw [HTK.out, List.mem_append, List.mem_singleton] at h
          rcases h with h | h
          · exact HALL.out s' h
          · rw [h]; exact HP.out⟩
        case measure => simp [intOf]; omega
    · obtain rfl : k = n := by omega
      go_wp2
      go_ret
      refine ⟨⟨-1, rfl, ?_⟩, hE⟩
      have : l.any p = false := by
        rw [List.any_eq_false]
        intro s hs
        have := HALL.out s (by rw [List.take_of_length_le (by rw [HL.out]; omega)]; exact hs)
        simp [this]
      rw [this]; rfl
theorem cont37 (n cap : Nat) (A : Option Addr) (l : List Int) (C : Value) (p : Int → Bool) (w : World) (hr : Rd w A n (l.map (Value.int .i64))) (hn : n ≤ 1048576)
    (hf : ∀ s ∈ l, ∀ w', Ext w w' → Calls Try.prog 38 #[.int .i64 s, C] w' fun e w'' => e = .returned (.bool (p s)) ∧ w' = w'') :
    Calls Try.prog 37 #[.slice A n cap, .func (.func 38) #[] #[C]] w fun e w' => e = .returned (.bool (l.any p)) ∧ Ext w w' := by
  have HC := idx43 n cap A l C p w hr hn hf
  clear hf
  go_enter Try.func37, Try.ntmps37
  go_wp2_with (go_at_call 43; refine HC.mono ?_; rintro e w1 ⟨⟨i, rfl, hi⟩, hE⟩; have HI := Lib.hid hi; clear hi)
  go_ret
  exact ⟨ret_bool HI.out, hE⟩

def outB (n : Nat) (i : Int) : Bool := decide (i < 0) || decide ((n : Int) ≤ i)
theorem outB_no (n : Nat) (i : Int) (h : outB n i = false) : 0 ≤ i ∧ i < n := by unfold outB at h; simp at h; omega
theorem outB_yes (n : Nat) (i : Int) (h : outB n i = true) : ¬ (0 ≤ i ∧ i < n) := by unfold outB at h; simp at h; omega
set_option maxRecDepth 100000 in
theorem pick1_any (i : Int) (gb : Nat) (A : Option Addr) (n cap : Nat) (w : World) (hb : w.cell? ⟨gb, 0, none⟩ = some (.slice A n cap)) :
    Calls Try.prog 38 #[.int .i64 i, .pointer (some ⟨gb, 0, none⟩)] w fun e w' => e = .returned (.bool (outB n i)) ∧ w = w' := by
  have HB : outB n i = (decide (i < 0) || decide ((n : Int) ≤ i)) := rfl
  have HV := Lib.hid HB
  clear HB
  by_cases h : i < 0
  · have e1 : decide (i < 0) = true := by simpa using h
    go_enter Try.func38, Try.ntmps38
    go_wp2
    go_ret
    exact ⟨ret_bool (by rw [HV.out, e1]; rfl), rfl⟩
  · have e1 : decide (i < 0) = false := by simpa using h
    go_enter Try.func38, Try.ntmps38
    go_wp2
    go_ret
    exact ⟨ret_bool (by rw [HV.out, e1, Bool.false_or]), rfl⟩
def pickOk (l : List ByteArray) (r : List Int) : Prop := (1 ≤ r.length ∧ r.length ≤ 64) ∧ ∀ i ∈ r, 0 ≤ i ∧ i < (l.length : Int)
instance (l : List ByteArray) (r : List Int) : Decidable (pickOk l r) := by unfold pickOk; infer_instance
def pickL (l : List ByteArray) (r : List Int) : List ByteArray := r.map (fun i => l.getD i.toNat { data := #[] })
def pickV (l : List ByteArray) (r : List Int) : List ByteArray := if mayP l ∧ pickOk l r then pickL l r else []
def pickE (l : List ByteArray) (r : List Int) : Int := if mayP l then (if pickOk l r then 0 else 2) else 8
theorem pick_ok {l : List ByteArray} {r : List Int} (h1 : mayP l) (h2 : pickOk l r) : pickV l r = pickL l r ∧ pickE l r = 0 := by
  unfold pickV pickE; rw [if_pos ⟨h1, h2⟩, if_pos h1, if_pos h2]; exact ⟨rfl, rfl⟩
theorem pick_no {l : List ByteArray} {r : List Int} (h1 : mayP l) (h2 : ¬ pickOk l r) : pickV l r = [] ∧ pickE l r = 2 := by
  unfold pickV pickE; rw [if_neg (fun x => h2 x.2), if_pos h1, if_neg h2]; exact ⟨rfl, rfl⟩
theorem pick_form {l : List ByteArray} {r : List Int} (h1 : ¬ mayP l) : pickV l r = [] ∧ pickE l r = 8 := by
  unfold pickV pickE; rw [if_neg (fun x => h1 x.1), if_neg h1]; exact ⟨rfl, rfl⟩
theorem pickL_succ (l : List ByteArray) (r : List Int) (k : Nat) (hk : k < r.length) : pickL l (r.take (k + 1)) = pickL l (r.take k) ++ [l.getD (r[k]).toNat { data := #[] }] := by
  unfold pickL; rw [List.take_succ_eq_append_getElem hk, List.map_append]; rfl
theorem pickL_len (l : List ByteArray) (r : List Int) : (pickL l r).length = r.length := by simp [pickL]
set_option maxRecDepth 100000 in
set_option maxHeartbeats 1000000 in
theorem pick_any (A B : Option Addr) (n cap m cap2 : Nat) (l : List ByteArray) (r : List Int) (w : World) (hr : Rd w A n (l.map Value.string)) (hq : Rd w B m (r.map (Value.int .i64))) (hn : n ≤ 1048576) (hm : m ≤ 1048576)
    (hz : ∀ s ∈ l, s.size ≤ 1048576) :
    Calls Try.prog 21 #[.slice A n cap, .slice B m cap2] w (MatIs (pickV l r) (pickE l r) w) := by
  have hla : l.length = n := by have := hr.1; simpa using this
  have hlb : r.length = m := by have := hq.1; simpa using this
  have HZ := Lib.hid hz
  clear hz
  have hO : Ext w (w.alloc (.cells #[.slice A n cap] 23)) := (Ext.refl w).alloc _
  have hbx : (w.alloc (.cells #[.slice A n cap] 23)).cell? ⟨w.heap.size, 0, none⟩ = some (.slice A n cap) := by rw [(Blk.new w 23 _).cell]; rfl
  by_cases h1 : mayP l
  · have M1 := Lib.hid (mayB_yes h1)
    by_cases h2 : 1 ≤ m ∧ m ≤ 64
    · have S1 := Lib.hid (side_yes m h2)
      have HF := Lib.hid (fun (w' : World) (hE : w'.cell? ⟨w.heap.size, 0, none⟩ = some (.slice A n cap)) (i : Int) => pick1_any i w.heap.size A n cap w' hE)
      by_cases h3 : r.any (outB n) = true
      · have HC := Lib.hid h3
        have HV := Lib.hid (pick_no (l := l) (r := r) h1 (fun x => by
          obtain ⟨i, hi, ho⟩ := List.any_eq_true.mp h3
          exact outB_yes n i ho (by have := x.2 i hi; rw [hla] at this; exact this)))
        clear h1 h2 h3 hla hlb
        go_enter Try.func21, Try.ntmps21
        go_wp2_with (first
          | (go_at_call 14; with_reducible refine (may_is true _ n cap l _ (hr.ext hO) hn HZ.out M1.out).mono ?_; rintro e w1 ⟨rfl, hE1⟩; replace hO := hO.trans hE1; replace hbx := hE1.cellv hbx; clear hE1)
          | (go_at_call 33; refine (side_any _ _).mono ?_; rintro e w1 ⟨rfl, rfl⟩; rw [S1.out])
          | (go_at_call 37; refine (cont37 m cap2 B r _ (outB n) _ (hq.ext hO) hm (fun i _ w' hE => HF.out w' (hE.cellv hbx) i)).mono ?_; rintro e w2 ⟨rfl, hE2⟩; rw [HC.out]; replace hO := hO.trans hE2))
        go_ret2
        exact mat_nil HV.out hO
      · have h3' : r.any (outB n) = false := by simpa using h3
        have HC := Lib.hid h3'
        have hin : ∀ i ∈ r, 0 ≤ i ∧ i < (n : Int) := fun i hi => by
          have := (List.any_eq_false.mp h3') i hi
          exact outB_no n i (by simpa using this)
        have HIN := Lib.hid hin
        have HV := Lib.hid (pick_ok (l := l) (r := r) h1 ⟨by omega, fun i hi => by rw [hla]; exact hin i hi⟩)
        have HLA := Lib.hid hla
        have HLB := Lib.hid hlb
        obtain ⟨h2a, h2b⟩ := h2
        clear h1 h3 h3' hla hlb hin
        go_enter Try.func21, Try.ntmps21
        go_wp2_with (first
          | (go_at_call 14; with_reducible refine (may_is true _ n cap l _ (hr.ext hO) hn HZ.out M1.out).mono ?_; rintro e w1 ⟨rfl, hE1⟩; replace hO := hO.trans hE1; replace hbx := hE1.cellv hbx; clear hE1)
          | (go_at_call 33; refine (side_any _ _).mono ?_; rintro e w1 ⟨rfl, rfl⟩; rw [S1.out])
          | (go_at_call 37; refine (cont37 m cap2 B r _ (outB n) _ (hq.ext hO) hm (fun i _ w' hE => HF.out w' (hE.cellv hbx) i)).mono ?_; rintro e w2 ⟨rfl, hE2⟩; rw [HC.out]; replace hO := hO.trans hE2; have hbx2 := hE2.cellv hbx; clear hE2))
        have hgb : w.heap.size < w.heap.size + 1 := by omega
        go_loopw [4, 24] (fun v i wr => ∃ k : Nat, k ≤ m ∧ i = .int .i64 k ∧ ∃ (A1 : Option Addr) (c1 : Nat), v = .slice A1 k c1 ∧ wr.ownsRow (w.heap.size + 1) 9 1 (.slice A1 k c1) k ((pickL l (r.take k)).map Value.string) ∧ Ext w wr ∧ w.heap.size + 1 ≤ wr.heap.size ∧ wr.cell? ⟨w.heap.size, 0, none⟩ = some (.slice A n cap)) (fun _ i _ => m - (intOf i).toNat)
        case atStart => exact ⟨0, by omega, rfl, none, 0, rfl, World.ownsRow_nil _ _ _ _, hO, block_lt_of_cell hbx2, hbx2⟩
        case round =>
          obtain ⟨k, hk, rfl, A1, c1, rfl, hown, hE, hsz, hbx⟩ := hrel
          clear hbx2 hO
          by_cases hk2 : k < m
          · obtain ⟨gt, ot, rfl, hgt, hc2⟩ := (hq.ext hE).at_ hk2
            simp only [List.getElem_map] at hc2
            have hlk : k < r.length := by rw [HLB.out]; exact hk2
            have hps := pickL_succ l r k hlk
            have hi2 := HIN.out (r[k]'hlk) (List.getElem_mem _)
            generalize r[k]'hlk = i at *
            obtain ⟨i, rfl⟩ := Int.eq_ofNat_of_zero_le hi2.1
            have hi3 : i < n := by omega
            obtain ⟨gs, os, rfl, hgs, hc1⟩ := hr.at_ hi3
            replace hc1 := hE.cellv hc1
            simp only [List.getElem_map] at hc1
            have hli : i < l.length := by rw [HLA.out]; exact hi3
            have hgd := getD_at l i hli
            rw [Int.toNat_natCast, hgd] at hps
            generalize l[i]'hli = s at *
            have HP := Lib.hid hps
            have HO := Lib.hid hown
            have hbx3 := (((Ext.refl wr).alloc (.cells #[.string s] 9))).cellv hbx
            have kk : (k : Int) < (m : Int) := by omega
            have kk0 : (0 : Int) ≤ (k : Int) := by omega
            have ii : (i : Int) < (n : Int) := by omega
            have ii0 : (0 : Int) ≤ (i : Int) := by omega
            clear hps hgd hown hi2
            go_wp2_with (at_builtin; refine wpList_app wr rfl _ _ 23 9 rfl Try.underlying23 (.string { data := #[] }) [.string s] 1 16 info9 rfl rfl (by decide) (by decide) (w.heap.size + 1) (.slice A1 k c1) k ((pickL l (r.take k)).map Value.string) rfl HO.out (one_str _) _ rfl rfl (by omega) hsz ?_; intro g4 cap4 w4 hown4 hG4 hg4)
            have hbx4 := hG4.cell hbx hgb
            have hE4 := hG4.ext hE (by omega)
            go_roundw
            case rel => exact ⟨k + 1, by omega, by go_num, _, cap4, rfl, by rw [HP.out, List.map_append]; exact hown4, hE4, block_lt_of_cell hbx4, hbx4⟩
            case measure => simp [intOf]; omega
          · obtain rfl : k = m := by omega
            have HO := Lib.hid hown
            clear hown
            go_wp2
            go_ret2
            exact ⟨A1, k, c1, by rw [HV.out.2]; rfl, by rw [HV.out.1, pickL_len, HLB.out], by rw [HV.out.1]; have := HO.out.rd; rwa [List.take_of_length_le (by rw [HLB.out]; omega)] at this, hE⟩
    · have S1 := Lib.hid (side_no m h2)
      have HV := Lib.hid (pick_no (l := l) (r := r) h1 (fun x => h2 (by rw [← hlb]; exact x.1)))
      clear h1 h2 hla hlb hbx
      go_enter Try.func21, Try.ntmps21
      go_wp2_with (first
        | (go_at_call 14; with_reducible refine (may_is true _ n cap l _ (hr.ext hO) hn HZ.out M1.out).mono ?_; rintro e w1 ⟨rfl, hE1⟩; replace hO := hO.trans hE1; clear hE1)
        | (go_at_call 33; refine (side_any _ _).mono ?_; rintro e w1 ⟨rfl, rfl⟩; rw [S1.out]))
      go_ret2
      exact mat_nil HV.out hO
  · have M1 := Lib.hid (mayB_no h1)
    have HV := Lib.hid (pick_form (l := l) (r := r) h1)
    clear h1 hla hlb hbx
    go_enter Try.func21, Try.ntmps21
    go_wp2_with (go_at_call 14; with_reducible refine (may_is false _ n cap l _ (hr.ext hO) hn HZ.out M1.out).mono ?_; rintro e w1 ⟨rfl, hE1⟩; replace hO := hO.trans hE1; clear hE1)
    go_ret2
    exact mat_nil HV.out hO
set_option maxRecDepth 100000 in
set_option maxHeartbeats 1000000 in
theorem rpick_any (A B : Option Addr) (n cap m cap2 : Nat) (l : List ByteArray) (r : List Int) (w : World) (hr : Rd w A n (l.map Value.string)) (hq : Rd w B m (r.map (Value.int .i64))) (hn : n ≤ 1048576) (hm : m ≤ 1048576)
    (hz : ∀ s ∈ l, s.size ≤ 1048576) :
    Calls Try.prog 22 #[.slice A n cap, .slice B m cap2] w (MatIs (pickV l r) (pickE l r) w) := by
  have hla : l.length = n := by have := hr.1; simpa using this
  have hlb : r.length = m := by have := hq.1; simpa using this
  have HZ := Lib.hid hz
  clear hz
  have hO : Ext w w := Ext.refl w
  by_cases h1 : mayP l
  · have M1 := Lib.hid (mayB_yes h1)
    by_cases h2 : 1 ≤ m ∧ m ≤ 64
    · have HVY := Lib.hid (fun x => pick_ok (l := l) (r := r) h1 x)
      have HVN := Lib.hid (fun x => pick_no (l := l) (r := r) h1 x)
      have HLA := Lib.hid hla
      have HLB := Lib.hid hlb
      obtain ⟨h2a, h2b⟩ := h2
      have e1 : decide ((m : Int) < 1) = false := by simp; omega
      have e2 : decide ((64 : Int) < (m : Int)) = false := by simp; omega
      clear h1 hla hlb
      go_enter Try.func22, Try.ntmps22
      go_wp2_with (first
        | (go_at_call 15; with_reducible refine (rmay_is true _ n cap l _ (hr.ext hO) hn HZ.out M1.out).mono ?_; rintro e w1 ⟨rfl, hE1⟩; replace hO := hO.trans hE1; clear hE1))
      go_loopw [6, 7] (fun v i wr => ∃ k : Nat, k ≤ m ∧ i = .int .i64 k ∧ ∃ (A1 : Option Addr) (c1 : Nat), v = .slice A1 k c1 ∧ wr.ownsRow w.heap.size 9 1 (.slice A1 k c1) k ((pickL l (r.take k)).map Value.string) ∧ Ext w wr ∧ ∀ i ∈ r.take k, 0 ≤ i ∧ i < (n : Int)) (fun _ i _ => m - (intOf i).toNat)
      case atStart => exact ⟨0, by omega, rfl, none, 0, rfl, World.ownsRow_nil _ _ _ _, hO, by simp⟩
      case round =>
        obtain ⟨k, hk, rfl, A1, c1, rfl, hown, hE, hall⟩ := hrel
        have HALL := Lib.hid hall
        clear hO hall
        by_cases hk2 : k < m
        · obtain ⟨gt, ot, rfl, hgt, hc2⟩ := (hq.ext hE).at_ hk2
          simp only [List.getElem_map] at hc2
          have hlk : k < r.length := by rw [HLB.out]; exact hk2
          have hps := pickL_succ l r k hlk
          have htk : r.take (k + 1) = r.take k ++ [r[k]'hlk] := List.take_succ_eq_append_getElem hlk
          have hmem := List.getElem_mem hlk
          generalize r[k]'hlk = i at *
          have HM := Lib.hid hmem
          have HTK := Lib.hid htk
          clear hmem htk
          have kk : (k : Int) < (m : Int) := by omega
          have kk0 : (0 : Int) ≤ (k : Int) := by omega
          by_cases hi2 : 0 ≤ i ∧ i < (n : Int)
          · obtain ⟨i, rfl⟩ := Int.eq_ofNat_of_zero_le hi2.1
            have hi3 : i < n := by omega
            obtain ⟨gs, os, rfl, hgs, hc1⟩ := hr.at_ hi3
            replace hc1 := hE.cellv hc1
            simp only [List.getElem_map] at hc1
            have hli : i < l.length := by rw [HLA.out]; exact hi3
            have hgd := getD_at l i hli
            rw [Int.toNat_natCast, hgd] at hps
            generalize l[i]'hli = s at *
            have HP := Lib.hid hps
            have HO := Lib.hid hown
            have ii : (i : Int) < (n : Int) := by omega
            have ii0 : (0 : Int) ≤ (i : Int) := by omega
            have e3 : decide ((i : Int) < 0) = false := by simp
            have e4 : decide ((n : Int) ≤ (i : Int)) = false := by simp; omega
            have hwz := hE.sz
            clear hps hgd hown hi2
            go_wp2_with (at_builtin; refine wpList_app wr rfl _ _ 23 9 rfl Try.underlying23 (.string { data := #[] }) [.string s] 1 16 info9 rfl rfl (by decide) (by decide) w.heap.size (.slice A1 k c1) k ((pickL l (r.take k)).map Value.string) rfl HO.out (one_str _) _ rfl rfl (by omega) (by omega) ?_; intro g4 cap4 w4 hown4 hG4 hg4)
            have hE4 := hG4.ext hE (by omega)
            go_roundw
            case rel => exact ⟨k + 1, by omega, by go_num, _, cap4, rfl, by rw [HP.out, List.map_append]; exact hown4, hE4, fun x hx => by
              rw [HTK.out, List.mem_append, List.mem_singleton] at hx
              rcases hx with hx | hx
              · exact HALL.out x hx
              · subst hx; omega⟩
            case measure => simp [intOf]; omega
          · have hv := HVN.out (fun x => hi2 (by have := x.2 i HM.out; rwa [HLA.out] at this))
            have HV := Lib.hid hv
            by_cases h0 : i < 0
            · have e3 : decide (i < 0) = true := by simpa using h0
              clear hps hi2 hv
              go_wp2
              go_ret2
              exact mat_nil HV.out hE
            · have e3 : decide (i < 0) = false := by simpa using h0
              have e4 : decide ((n : Int) ≤ i) = true := by simp; omega
              clear hps hi2 hv
              go_wp2
              go_ret2
              exact mat_nil HV.out hE
        · obtain rfl : k = m := by omega
          have hv := HVY.out ⟨by rw [HLB.out]; omega, fun i hi => by rw [HLA.out]; exact HALL.out i (by rw [List.take_of_length_le (by rw [HLB.out]; omega)]; exact hi)⟩
          have HV := Lib.hid hv
          have HO := Lib.hid hown
          clear hown hv
          go_wp2
          go_ret2
          exact ⟨A1, k, c1, by rw [HV.out.2]; rfl, by rw [HV.out.1, pickL_len, HLB.out], by rw [HV.out.1]; have := HO.out.rd; rwa [List.take_of_length_le (by rw [HLB.out]; omega)] at this, hE⟩
    · have HV := Lib.hid (pick_no (l := l) (r := r) h1 (fun x => h2 (by rw [← hlb]; exact x.1)))
      by_cases h3 : m < 1
      · have e1 : decide ((m : Int) < 1) = true := by simp; omega
        clear h1 h2 hla hlb
        go_enter Try.func22, Try.ntmps22
        go_wp2_with (first
          | (go_at_call 15; with_reducible refine (rmay_is true _ n cap l _ (hr.ext hO) hn HZ.out M1.out).mono ?_; rintro e w1 ⟨rfl, hE1⟩; replace hO := hO.trans hE1; clear hE1))
        go_ret2
        exact mat_nil HV.out hO
      · have e1 : decide ((m : Int) < 1) = false := by simp; omega
        have e2 : decide ((64 : Int) < (m : Int)) = true := by simp; omega
        clear h1 h2 hla hlb
        go_enter Try.func22, Try.ntmps22
        go_wp2_with (first
          | (go_at_call 15; with_reducible refine (rmay_is true _ n cap l _ (hr.ext hO) hn HZ.out M1.out).mono ?_; rintro e w1 ⟨rfl, hE1⟩; replace hO := hO.trans hE1; clear hE1))
        go_ret2
        exact mat_nil HV.out hO
  · have M1 := Lib.hid (mayB_no h1)
    have HV := Lib.hid (pick_form (l := l) (r := r) h1)
    clear h1 hla hlb
    go_enter Try.func22, Try.ntmps22
    go_wp2_with (go_at_call 15; with_reducible refine (rmay_is false _ n cap l _ (hr.ext hO) hn HZ.out M1.out).mono ?_; rintro e w1 ⟨rfl, hE1⟩; replace hO := hO.trans hE1; clear hE1)
    go_ret2
    exact mat_nil HV.out hO
