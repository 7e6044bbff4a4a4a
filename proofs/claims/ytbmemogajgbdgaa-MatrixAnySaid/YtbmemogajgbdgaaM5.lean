import Derived.Test.YtbmemogajgbdgaaM4
namespace Go.Proofs.Ytbmemogajgbdgaa
open Go.RowKit Go.Gf
/-- A row of the product, while byte j is summed: k products are in it. -/
def rowF (s : ByteArray) (b : List ByteArray) (j k x : Nat) : Nat := if x < j then acc s b b.length x else if x = j then acc s b k x else 0
theorem rowF_zero (s : ByteArray) (b : List ByteArray) (x : Nat) : rowF s b 0 0 x = 0 := by
  unfold rowF; rw [if_neg (by omega)]; split <;> rfl
theorem rowF_next (s : ByteArray) (b : List ByteArray) (j x : Nat) : rowF s b (j + 1) 0 x = rowF s b j b.length x := by
  unfold rowF
  by_cases h : x < j
  · rw [if_pos (by omega), if_pos h]
  · by_cases e : x = j
    · rw [if_pos (by omega), if_neg h, if_pos e]
    · rw [if_neg (by omega), if_neg h, if_neg e]; split <;> rfl
theorem rowF_end (s : ByteArray) (b : List ByteArray) (j k x : Nat) (h : x < j) : rowF s b j k x = acc s b b.length x := by
  unfold rowF; rw [if_pos h]
theorem rowF_step (s : ByteArray) (b : List ByteArray) (j k x : Nat) : rowF s b j (k + 1) x = if x = j then acc s b k j ^^^ fm (bn s k) (bn (b.getD k { data := #[] }) j) else rowF s b j k x := by
  unfold rowF
  by_cases e : x = j
  · subst e; rw [if_neg (by omega), if_pos rfl, if_pos rfl, acc]
  · by_cases h : x < j
    · rw [if_pos h, if_neg e, if_pos h]
    · rw [if_neg h, if_neg e, if_neg e, if_neg h, if_neg e]
set_option maxRecDepth 100000 in
set_option maxHeartbeats 2000000 in
theorem rmtimes_any (A B : Option Addr) (n cap m cap2 : Nat) (a b : List ByteArray) (w : World) (hr : Rd w A n (a.map Value.string)) (hq : Rd w B m (b.map Value.string)) (hn : n ≤ 1048576) (hm : m ≤ 1048576)
    (hz : ∀ s ∈ a, s.size ≤ 1048576) (hy : ∀ s ∈ b, s.size ≤ 1048576) :
    Calls Try.prog 11 #[.slice A n cap, .slice B m cap2] w (MatIs (timesV a b) (timesE a b) w) := by
  have hla : a.length = n := by have := hr.1; simpa using this
  have hlb : b.length = m := by have := hq.1; simpa using this
  have HZ := Lib.hid hz
  have HY := Lib.hid hy
  clear hz hy
  have hO := Ext.refl w
  by_cases h1 : mayP a
  · have M1 := Lib.hid (mayB_yes h1)
    by_cases h2 : mayP b
    · have M2 := Lib.hid (mayB_yes h2)
      have hn1 : 1 ≤ n := by have := h1.1.1; omega
      obtain ⟨gs, os, rfl, hgs, hcell⟩ := hr.at_ (show 0 < n by omega)
      have hl0 := len0_eq (l := a) (by omega)
      simp only [List.getElem_map, Nat.add_zero] at hcell
      generalize a[0]'(by omega) = s0 at *
      by_cases h3 : s0.size = m
      · have b1 : ((s0.size : Int) != (m : Int)) = false := by rw [h3]; simp
        have hv := times_ok h1 h2 (by omega)
        have hrow : ∀ s ∈ a, s.size = m := fun s hs => by rw [h1.2.2 s hs]; omega
        have hcol : ∀ s ∈ b, s.size = len0 b := h2.2.2
        have hm1 : 1 ≤ m := by have := h2.1.1; omega
        have hL := h2.2.1.2
        have hL1 := h2.2.1.1
        obtain ⟨gt, ot, rfl, hgt, hcellb⟩ := hq.at_ (show 0 < m by omega)
        have hl0b := len0_eq (l := b) (by omega)
        simp only [List.getElem_map, Nat.add_zero] at hcellb
        generalize b[0]'(by omega) = t0 at *
        have hLt : t0.size ≤ 64 := by omega
        obtain ⟨i0, hi0, hz0, hz1, hz2⟩ := info_parts info5
        have H1 := Lib.hid hrow
        have H2 := Lib.hid hcol
        have HV := Lib.hid hv
        have HLA := Lib.hid hla
        have HLB := Lib.hid hlb
        have HL0 := Lib.hid hl0b
        clear h1 h2 hv hrow hcol hl0 hla hlb h3 hl0b hL hL1
        go_enter Try.func11, Try.ntmps11
        go_wp2_with (first
          | (go_at_call 15; with_reducible refine (rmay_is true _ n cap a _ (hr.ext hO) hn HZ.out M1.out).mono ?_; rintro e w1 ⟨rfl, hE1⟩; replace hO := hO.trans hE1; clear hE1; replace hcell := hO.cellv hcell)
          | (go_at_call 15; with_reducible refine (rmay_is true _ m cap2 b _ (hq.ext hO) hm HY.out M2.out).mono ?_; rintro e w2 ⟨rfl, hE2⟩; replace hO := hO.trans hE2; have hcell2 := hE2.cellv hcell; clear hE2))
        go_loopw [6, 7] (fun v i wr => ∃ k : Nat, k ≤ n ∧ i = .int .i64 k ∧ ∃ (A1 : Option Addr) (c1 : Nat), v = .slice A1 k c1 ∧ wr.ownsRow w.heap.size 9 1 (.slice A1 k c1) k ((mkM k (len0 b) (timesF a b)).map Value.string) ∧ Ext w wr) (fun _ i _ => n - (intOf i).toNat)
        case atStart => exact ⟨0, by omega, rfl, none, 0, rfl, World.ownsRow_nil _ _ _ _, hO⟩
        case round =>
          obtain ⟨i, hi, rfl, A1, c1, rfl, hown, hE⟩ := hrel
          clear hcell2 hcell hO
          have hcb := hE.cellv hcellb
          by_cases hi2 : i < n
          · have kk : (i : Int) < (n : Int) := by omega
            have kk0 : (0 : Int) ≤ (i : Int) := by omega
            obtain ⟨gs', os', hA, _, hck⟩ := hr.at_ hi2
            simp only [Option.some.injEq, Addr.mk.injEq, and_true] at hA
            obtain ⟨rfl, rfl⟩ := hA
            simp only [List.getElem_map] at hck
            have hla : i < a.length := by rw [HLA.out]; exact hi2
            have hsz := H1.out (a[i]'hla) (List.getElem_mem _)
            have hgd := getD_at a i hla
            generalize a[i]'hla = si at *
            have HGD := Lib.hid hgd
            have HSZ := Lib.hid hsz
            have HO := Lib.hid hown
            clear hgd hsz hown
            go_wp2_with (at_make; refine wpList_make_tab rfl _ _ 43 rfl 5 i0 (.int .u8 0) Try.underlying43 hi0 hz0 hz1 rfl _ _ t0.size rfl rfl (by rw [hz2]; omega) (by omega) ?_)
            have hbn : BytesAt (wr.alloc (.cells (tabA t0.size (fun _ => Value.int .u8 0)) 5)) wr.heap.size t0.size (rowF si b 0 0) := by
              have : Blk (wr.alloc (.cells (tabA t0.size (fun _ => Value.int .u8 0)) 5)) wr.heap.size 5 (tabA t0.size (u8c (fun _ => 0))) := Blk.new _ _ _
              exact this.bytes.congr (fun x _ => rowF_zero si b x)
            have hEn : Ext wr (wr.alloc (.cells (tabA t0.size (fun _ => Value.int .u8 0)) 5)) := (Ext.refl wr).alloc _
            generalize wr.alloc (.cells (tabA t0.size (fun _ => Value.int .u8 0)) 5) = wb at *
            obtain ⟨g, hg⟩ : ∃ g, g = wr.heap.size := ⟨_, rfl⟩
            rw [← hg] at hbn ⊢
            have hge : wr.heap.size ≤ g := by omega
            obtain ⟨wo, hwo⟩ : ∃ wo : World, wo = wr := ⟨_, rfl⟩
            rw [← hwo] at hE hcb HO hEn hge hg
            clear hwo hg
            go_loopw [9] (fun x wr => ∃ j : Nat, j ≤ t0.size ∧ x = .int .i64 j ∧ Ext wo wr ∧ BytesAt wr g t0.size (rowF si b j 0)) (fun x _ => t0.size - (intOf x).toNat)
            case atStart => exact ⟨0, by omega, rfl, hEn, hbn⟩
            case round =>
              obtain ⟨j, hj, rfl, hEo, hb⟩ := hrel
              clear hbn hEn
              by_cases hj2 : j < t0.size
              · have kj : (j : Int) < (t0.size : Int) := by omega
                have kj0 : (0 : Int) ≤ (j : Int) := by omega
                go_wp2
                go_loopw [10] (fun y wr => ∃ k : Nat, k ≤ m ∧ y = .int .i64 k ∧ Ext wo wr ∧ BytesAt wr g t0.size (rowF si b j k)) (fun y _ => m - (intOf y).toNat)
                case atStart => exact ⟨0, by omega, rfl, hEo, hb⟩
                case round =>
                  obtain ⟨k, hk, rfl, hEk, hbk⟩ := hrel
                  clear hb hEo
                  by_cases hk2 : k < m
                  · have km : (k : Int) < (m : Int) := by omega
                    have km0 : (0 : Int) ≤ (k : Int) := by omega
                    obtain ⟨gt', ot', hA, _, hck2⟩ := hq.at_ hk2
                    simp only [Option.some.injEq, Addr.mk.injEq, and_true] at hA
                    obtain ⟨rfl, rfl⟩ := hA
                    have hck3 := hEk.cellv (hE.cellv hck)
                    have hck4 := hEk.cellv (hE.cellv hck2)
                    simp only [List.getElem_map] at hck4
                    have hlb : k < b.length := by rw [HLB.out]; exact hk2
                    have htz := H2.out (b[k]'hlb) (List.getElem_mem _)
                    have hgb := getD_at b k hlb
                    rw [HL0.out] at htz
                    clear hck2
                    generalize b[k]'hlb = tk at *
                    have jt : (j : Int) < (tk.size : Int) := by omega
                    have ks : (k : Int) < (si.size : Int) := by have := HSZ.out; omega
                    have HGB := Lib.hid hgb
                    have hk3 : k < si.size := by rw [HSZ.out]; exact hk2
                    have hcs := bt_get si k hk3
                    have hj3 : j < tk.size := by omega
                    have hct := bt_get tk j hj3
                    rw [bt_bn] at hcs hct
                    clear hgb htz
                    have c1 := hbk.cell j hj2
                    have f1 := hbk.frozen j hj2
                    have e1 : rowF si b j k j = acc si b k j := by simp [rowF]
                    rw [e1] at c1
                    have x1 := acc_lt si b k j
                    have x2 := bn_lt si k
                    have x3 := bn_lt tk j
                    have x4 := fm_lt (bn si k) (bn tk j) x2
                    have hx := u8_xor _ _ x1 x4
                    have hnx := hbk.set_ (h := rowF si b j (k + 1)) j (acc si b k j ^^^ fm (bn si k) (bn tk j)) hj2 (fun x _ => by rw [rowF_step, HGB.out])
                    have HNX := Lib.hid hnx
                    clear e1 hnx
                    go_wp2_with fail
                    go_region_law (first | (go_simp; go_at_call 26; refine (rmul_same (bn si k) (bn tk j) _ x2 x3).mono ?_; rintro e w3 ⟨rfl, rfl⟩))
                    all_goals
                      go_wp2
                      go_roundw
                      case rel => exact ⟨k + 1, by omega, by go_num, (hEk.setCell hge _).drew, HNX.out⟩
                      case measure => simp [intOf]; omega
                  · obtain rfl : k = m := by omega
                    go_wp2
                    go_roundw
                    case rel => exact ⟨j + 1, by omega, by go_num, hEk, hbk.congr (fun x _ => by rw [rowF_next, HLB.out])⟩
                    case measure => simp [intOf]; omega
              · obtain rfl : j = t0.size := by omega
                have hb2 : BytesAt wr g t0.size (timesF a b i) := hb.congr (fun x hx => by rw [rowF_end _ _ _ _ _ hx]; unfold timesF; rw [HGD.out])
                have hcs := cells_bytes hb2 (fun x _ => timesF_lt a b i x)
                have HCS := Lib.hid hcs
                have hmk := mkM_succ i (len0 b) (timesF a b)
                rw [HL0.out] at hmk
                have HP := Lib.hid hmk
                have hwz := hE.sz
                have hwz2 := hEo.sz
                clear hcs hb2 hmk
                go_wp2_with (first
                  | (with_reducible refine wpList_bytes_str rfl 43 9 5 _ rfl Try.underlying43 Try.underlying5 Try.underlying9 g 0 t0.size t0.size rfl (strN t0.size (timesF a b i)) (strN_size _ _) HCS.out ?_)
                  | (at_builtin; refine wpList_app wr rfl _ _ 23 9 rfl Try.underlying23 (.string { data := #[] }) [.string (strN t0.size (timesF a b i))] 1 16 info9 rfl rfl (by decide) (by decide) w.heap.size (.slice A1 i c1) i ((mkM i (len0 b) (timesF a b)).map Value.string) rfl (HO.out.ext hEo) (one_str _) _ rfl rfl (by omega) (by omega) ?_; intro g4 cap4 w4 hown4 hG4 hg4))
                go_roundw
                case rel => exact ⟨i + 1, by omega, by go_num, _, cap4, rfl, by rw [HL0.out, HP.out, List.map_append]; rw [HL0.out] at hown4; exact hown4, hG4.ext (hE.trans hEo) (Nat.le_refl _)⟩
                case measure => simp [intOf]; omega
          · obtain rfl : i = n := by omega
            have HO := Lib.hid hown
            clear hown
            go_wp2
            go_ret2
            exact ⟨A1, i, c1, by rw [HV.out.2]; rfl, by rw [HV.out.1, mkM_len, HLA.out], by rw [HV.out.1, HLA.out]; exact HO.out.rd, hE⟩
      · have b1 : ((s0.size : Int) != (m : Int)) = true := by simp; omega
        have HV := Lib.hid (times_side h1 h2 (by omega))
        clear h1 h2 hl0 hla hlb h3
        go_enter Try.func11, Try.ntmps11
        go_wp2_with (first
          | (go_at_call 15; with_reducible refine (rmay_is true _ n cap a _ (hr.ext hO) hn HZ.out M1.out).mono ?_; rintro e w1 ⟨rfl, hE1⟩; replace hO := hO.trans hE1; clear hE1; replace hcell := hO.cellv hcell)
          | (go_at_call 15; with_reducible refine (rmay_is true _ m cap2 b _ (hq.ext hO) hm HY.out M2.out).mono ?_; rintro e w2 ⟨rfl, hE2⟩; replace hO := hO.trans hE2; have hcell2 := hE2.cellv hcell; clear hE2))
        go_ret2
        exact mat_nil HV.out hO
    · have M2 := Lib.hid (mayB_no h2)
      have HV := Lib.hid (times_form (a := a) (b := b) (fun x => h2 x.2))
      clear h1 h2 hla hlb
      go_enter Try.func11, Try.ntmps11
      go_wp2_with (first
        | (go_at_call 15; with_reducible refine (rmay_is true _ n cap a _ (hr.ext hO) hn HZ.out M1.out).mono ?_; rintro e w1 ⟨rfl, hE1⟩; replace hO := hO.trans hE1; clear hE1)
        | (go_at_call 15; with_reducible refine (rmay_is false _ m cap2 b _ (hq.ext hO) hm HY.out M2.out).mono ?_; rintro e w2 ⟨rfl, hE2⟩; replace hO := hO.trans hE2; clear hE2))
      go_ret2
      exact mat_nil HV.out hO
  · have M1 := Lib.hid (mayB_no h1)
    have HV := Lib.hid (times_form (a := a) (b := b) (fun x => h1 x.1))
    clear h1 hla hlb
    go_enter Try.func11, Try.ntmps11
    go_wp2_with (go_at_call 15; with_reducible refine (rmay_is false _ n cap a _ (hr.ext hO) hn HZ.out M1.out).mono ?_; rintro e w1 ⟨rfl, hE1⟩; replace hO := hO.trans hE1; clear hE1)
    go_ret2
    exact mat_nil HV.out hO
