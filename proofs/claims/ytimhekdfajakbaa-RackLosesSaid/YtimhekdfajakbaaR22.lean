import Derived.Test.YtimhekdfajakbaaR21
import Derived.StillTailTactics
import Derived.Deep.RegionHeld3
namespace Go.Proofs.Ytimhekdfajakbaa
open Go.RowKit
def spoiled (s : St) (d x : Nat) : St := { s with bad := setNN s.bad d x true }
theorem spoil_open {p : Pl} {s : St} {w : World} (h : RackAt w p s) {nd ns : Nat} (hp : Dims p nd ns) (i j : Nat) (hi : i < nd) (hj : j < ns) : Calls Try.prog 22 #[.pointer (some ⟨p.gR, 0, none⟩), .int .i64 i, .int .i64 j] w fun e w' => e = .returned (.int .i64 0) ∧ RackAt w' p (spoiled s i j) ∧ Chg p w w' :=
  spoil_yes h i j (by rw [hp.nd]; exact hi) (by rw [hp.ns]; exact hj)
theorem spoiled_bad (s : St) (d x a b : Nat) (h : s.bad a b = false) : (spoiled s d x).bad a b = decide (a = d ∧ b = x) := by
  show setNN s.bad d x true a b = _
  unfold setNN
  by_cases e : a = d ∧ b = x
  · rw [if_pos e]; simp [e]
  · rw [if_neg e, h]; simp [e]
theorem read_bad {p : Pl} {s : St} {w : World} (h : RackAt w p s) {nd ns : Nat} (hp : Dims p nd ns) (hcut : s.cut = false) (i j : Nat) (hi : i < nd) (hj : j < ns) (hb : s.bad i j = true) :
    Calls Try.prog 21 #[.pointer (some ⟨p.gR, 0, none⟩), .int .i64 i, .int .i64 j] w fun e w' => e = .returned (.tuple #[.string { data := #[] }, .int .i64 72]) ∧ Ext w w' := by
  have := read_open h hp hcut i j i j rfl rfl hi hj
  rw [hb] at this
  exact this
theorem read_good {p : Pl} {s : St} {w : World} (h : RackAt w p s) {nd ns : Nat} (hp : Dims p nd ns) (hcut : s.cut = false) (i j : Nat) (hi : i < nd) (hj : j < ns) (hb : s.bad i j = false) :
    Calls Try.prog 21 #[.pointer (some ⟨p.gR, 0, none⟩), .int .i64 i, .int .i64 j] w fun e w' => e = .returned (.tuple #[.string (secS s i j), .int .i64 0]) ∧ Ext w w' := by
  have := read_open h hp hcut i j i j rfl rfl hi hj
  rw [hb] at this
  exact this
def strZ : ByteArray := ⟨#[122, 0, 0, 0, 0, 0, 0, 0, 0, 0, 0, 0, 0, 0, 0, 0, 0, 0, 0, 0, 0, 0, 0, 0, 0, 0, 0, 0, 0, 0, 0, 0, 0, 0, 0, 0, 0, 0, 0, 0, 0, 0, 0, 0, 0, 0, 0, 0, 0, 0, 0, 0, 0, 0, 0, 0, 0, 0, 0, 0, 0, 0, 0, 0]⟩
theorem strZ_is : strN 64 (padB ⟨#[122]⟩) = strZ := by decide +kernel
theorem read_z {p : Pl} {s : St} {w : World} {d x : Nat} (h : RackAt w p (wrote s d x ⟨#[122]⟩)) {nd ns : Nat} (hp : Dims p nd ns) (hcut : s.cut = false) (hd : d < nd) (hx : x < ns) :
    Calls Try.prog 21 #[.pointer (some ⟨p.gR, 0, none⟩), .int .i64 d, .int .i64 x] w fun e w' => e = .returned (.tuple #[.string strZ, .int .i64 0]) ∧ Ext w w' := by
  have := read_good h hp hcut d x hd hx (by show setNN s.bad d x false d x = false; unfold setNN; rw [if_pos ⟨rfl, rfl⟩])
  rw [secS_wrote, strZ_is] at this
  exact this
theorem wipe_open {p : Pl} {s : St} {w : World} (h : RackAt w p s) {nd ns : Nat} (hp : Dims p nd ns) (i : Nat) (hi : i < nd) (_ : 0 < ns) : Calls Try.prog 23 #[.pointer (some ⟨p.gR, 0, none⟩), .int .i64 i] w fun e w' => e = .returned (.int .i64 0) ∧ RackAt w' p (wiped s i) ∧ Chg p w w' :=
  wipe_yes h i (by rw [hp.nd]; exact hi)
theorem Chg.cellv {p : Pl} {w w' : World} (h : Chg p w w') {a : Addr} {v : Value} (hc : w.cell? a = some v) (hn : ¬ p.has a.block) : w'.cell? a = some v := by
  rw [← hc]; exact World.cell?_of_block (h.block a.block (block_lt_of_cell hc) hn)
theorem make512 (w : World) : (Instr.makeSlice 48 (.int .i64 512) (.int .i64 512)).run Try.prog w = .ok (.slice (some ⟨w.heap.size, 0, none⟩) 512 512) (w.alloc (.cells (tabA 512 u8z) 5)) := by
  obtain ⟨i0, hi0, hz0, hz1, hz2⟩ := info_parts infoByte
  exact run_make_tab 48 5 i0 (.int .u8 0) Try.underlying48 hi0 hz0 hz1 rfl .i64 .i64 512 (by omega) (by omega) w
theorem str512 (w : World) : (convert 48 9 (.slice (some ⟨w.heap.size, 0, none⟩) 512 512)).run Try.prog (w.alloc (.cells (tabA 512 u8z) 5)) = .ok (.string zero512) (w.alloc (.cells (tabA 512 u8z) 5)) := by
  have hl : (List.replicate 512 (0 : UInt8)).length = 512 := List.length_replicate
  have h0 := run_convert_bytes_back (P := Try.prog) (w.alloc (.cells (tabA 512 u8z) 5)) 48 9 5 ⟨w.heap.size, 0, none⟩ 512 (List.replicate 512 (0 : UInt8)) Try.underlying48 Try.underlying5 Try.underlying9 (fun j hj => by
    rw [Addr.add_mid, Nat.zero_add, (Blk.new w 5 _).cell, tabA_at _ _ _ (by omega)]
    rw [List.getElem_replicate]; rfl)
  rw [hl] at h0
  exact h0
theorem last_str {w : World} {base : Nat} {g cap k : Nat} {f : Nat → Value} {S : ByteArray} (h : w.ownsRow base 9 1 (.slice (some ⟨g, 0, none⟩) (k + 1) cap) (k + 1) ((List.range k).map f ++ [.string S])) : w.cell? ⟨g, k, none⟩ = some (.string S) := by
  rw [h.cells1.1.cell k (by omega), List.getD_eq_getElem?_getD, List.getElem?_append_right (by simp)]
  simp
set_option maxRecDepth 200000 in
set_option maxHeartbeats 2000000 in
theorem rackLoses_walk (A : Option Addr) (n cp : Nat) (l : List Stp) (a1 a2 : Int) (W : World) (rd0 : SRd W A n l) (mm0 : n ≤ maxLen) (_zz0 : ∀ x ∈ l, StpOk x) (w1 : (Lit.int .u8 a1).wf = true) (w2 : (Lit.int .u8 a2).wf = true) :
    Calls Try.prog 5 #[.slice A n cp, .int .u8 a1, .int .u8 a2] W fun e w' => e = .returned (.bool true) ∧ Ext W w' := by
  obtain ⟨m1, rfl, hm1⟩ := byte_of a1 w1
  obtain ⟨m2, rfl, hm2⟩ := byte_of a2 w2
  clear w1 w2
  have HV := heavy_ok A n cp l W rd0 mm0
  cases hb : heavyB l
  · rw [hb] at HV
    obtain ⟨hn, hsmall⟩ := heavy_no hb
    have HL := Lib.hid rd0.1
    have hn : n ≤ 300 := by rw [← HL.out]; exact hn
    have HV := Lib.hid HV
    clear hb hsmall mm0
    go_enter Try.func5, Try.ntmps5
    go_wp2_with (first
      | (go_at_call 7; (with_reducible refine HV.out.mono ?_); rintro e wa ⟨rfl, hO⟩)
      | (go_at_call 9; (with_reducible refine (new38 wa).mono ?_); rintro e wb ⟨p, rfl, hp, hRp, hfp, hE1⟩))
    have hpW : ∀ k, p.has k → W.heap.size ≤ k := fun k h1 => Nat.le_trans hO.sz (hfp k h1)
    have HPW := Lib.hid hpW
    have hEb := hO.trans hE1
    have hI0 := Plain.start
    generalize St0 = s0 at *
    clear hpW hfp hO hE1
    go_loopw [9] (fun i wr => ∃ (k : Nat) (s : St), k ≤ n ∧ i = .int .i64 k ∧ Ext W wr ∧ RackAt wr p s ∧ Plain k s) (fun i _ => n - (intOf i).toNat)
    case atStart => exact ⟨0, s0, by omega, rfl, hEb, hRp, hI0⟩
    case round =>
      obtain ⟨k, s, hk, rfl, hE, hR, hI⟩ := hrel
      clear hRp hI0 hEb
      by_cases hk2 : k < n
      · obtain ⟨g, o, x, rfl, hx, _, p1, p2, p3⟩ := rd0.at_ k hk2
        clear hx
        have kk : (k : Int) < (n : Int) := by omega
        have kk0 : (0 : Int) ≤ (k : Int) := by omega
        obtain ⟨b1, b3⟩ := hI.lfts (by omega)
        obtain ⟨xd, hxd⟩ : ∃ xd, xd = x.d := ⟨_, rfl⟩
        obtain ⟨xs, hxs⟩ : ∃ xs, xs = x.s := ⟨_, rfl⟩
        obtain ⟨xt, hxt⟩ : ∃ xt, xt = x.text := ⟨_, rfl⟩
        rw [← hxd] at p1
        rw [← hxs] at p2
        rw [← hxt] at p3
        clear hxd hxs hxt
        have q1 := hE.cellv p1
        have q2 := hE.cellv p2
        have q3 := hE.cellv p3
        have hED := hE.drew
        have HW := Lib.hid (write_any hR.drew xd xs xt b1 b3)
        go_wp2_with fail
        go_still_tail 16, (by kernel_rfl)
        generalize hw6 : wr.drew = w6 at *
        unfold World.drew at hw6
        rw [hw6]
        clear hw6
        go_wp2_with (go_at_call 19; (with_reducible refine HW.out.mono ?_); rintro e w4 ⟨rfl, hR4, hC4⟩)
        go_roundw
        case rel => exact ⟨k + 1, doWrite p s xd xs xt, by omega, by go_num, Chg.ext hC4 hED HPW.out, hR4, hI.write p xd xs xt⟩
        case measure => simp [intOf]; omega
      · obtain rfl : n = k := by omega
        go_wp2_with fail
        obtain ⟨wo, rfl⟩ : ∃ wo : World, wo = wr := ⟨_, rfl⟩
        go_loopw [10, 11] (fun v i wr => ∃ (k : Nat) (A1 : Option Addr) (c1 : Nat), k ≤ 3 ∧ i = .int .i64 k ∧ v = .slice A1 k c1 ∧ wr.ownsRow wo.heap.size 9 1 (.slice A1 k c1) k ((List.range k).map fun i => .string (drv s i)) ∧ Ext wo wr) (fun _ i _ => 3 - (intOf i).toNat)
        case atStart => exact ⟨0, none, 0, by omega, rfl, rfl, World.ownsRow_nil _ _ _ _, Ext.refl _⟩
        case round =>
          obtain ⟨k, A1, c1, hk, rfl, rfl, hown, hE2⟩ := hrel
          by_cases hk3 : k < 3
          · have kk : (k : Int) < 3 := by omega
            have kk0 : (0 : Int) ≤ (k : Int) := by omega
            have HO := Lib.hid hown
            have hR2 := hR.ext hE2
            have HA := Lib.hid (all_drv hR2 hp k hk3)
            have HDR := Lib.hid (drvs3 s k)
            have HZ := Lib.hid (drv_size s k)
            obtain ⟨S, hS⟩ : ∃ S, S = drv s k := ⟨_, rfl⟩
            rw [← hS] at HA HDR HZ
            have HS := Lib.hid hS
            clear hS hown
            go_wp2_with (first
              | (go_at_call 12; (with_reducible refine HA.out.mono ?_); rintro e w4 ⟨rfl, hE4⟩; have hE24 := hE2.trans hE4; have hsz4 := hE24.sz; have HO4 := Lib.hid (HO.out.ext hE4))
              | (at_builtin; refine wpList_app w4 rfl _ _ 46 9 rfl Try.underlying46 (.string { data := #[] }) [.string S] 1 16 info9 rfl rfl (by decide) (by decide) wo.heap.size (.slice A1 k c1) k _ rfl HO4.out (one_str _) _ rfl rfl (by omega) (by omega) ?_; intro g4 cap4 w5 hown4 hG4 hg4; have hz5 : w5.cell? ⟨g4, k, none⟩ = some (.string S) := last_str hown4; have hz := HZ.out))
            go_roundw
            case rel => exact ⟨k + 1, some ⟨g4, 0, none⟩, cap4, by omega, by go_num, rfl, by rw [HDR.out]; exact hown4, hG4.ext hE24 (Nat.le_refl _)⟩
            case measure => simp [intOf]; omega
          · obtain rfl : 3 = k := by omega
            have hR3 := hR.ext hE2
            have hE3 := hE.trans hE2
            have hge := hown.blockGe
            obtain ⟨gw, ow, rfl, hcw⟩ := hown.rd.2 (by omega)
            have hwas : ∀ i, i < 3 → wr.cell? ⟨gw, ow + i, none⟩ = some (.string (drv s i)) := fun i hi => hcw i _ (by
              rw [List.getElem?_map, List.getElem?_range hi]; rfl)
            have HWAS := Lib.hid hwas
            have hgw : ¬ p.has gw := fun h1 => by have h2 := hR.lt gw h1; have h3 := hge gw rfl; omega
            clear hge
            clear hcw hown hwas hE2 hR hE
            have hq1 : ((m1 : Int) % 3) = ((m1 % 3 : Nat) : Int) := by omega
            have hq2 : ((m2 : Int) % 8) = ((m2 % 8 : Nat) : Int) := by omega
            obtain ⟨c1, hc1⟩ : ∃ c, c = m1 % 3 := ⟨_, rfl⟩
            obtain ⟨c2, hc2⟩ : ∃ c, c = m2 % 8 := ⟨_, rfl⟩
            rw [← hc1] at hq1
            rw [← hc2] at hq2
            have hl1 : c1 < 3 := by omega
            have hl2 : c2 < 8 := by omega
            have HC1 := Lib.hid hc1
            have HC2 := Lib.hid hc2
            clear hc1 hc2
            have HSP := Lib.hid (spoil_open hR3 hp c1 c2 hl1 hl2)
            go_wp2_with (go_at_call 22; (with_reducible refine HSP.out.mono ?_); rintro e w4 ⟨rfl, hR4, hC4⟩)
            have hE4 := Chg.ext hC4 hE3 HPW.out
            have hwas4 : ∀ i, i < 3 → w4.cell? ⟨gw, ow + i, none⟩ = some (.string (drv s i)) := fun i hi => by
              have h1 := HWAS.out i hi
              rw [← h1]
              exact World.cell?_of_block (hC4.block gw (block_lt_of_cell h1) hgw)
            have HWAS4 := Lib.hid hwas4
            clear hwas4 hC4 hR3 hE3
            obtain ⟨wq, rfl⟩ : ∃ wo : World, wo = wr := ⟨_, rfl⟩
            go_loopw [14] (fun i wr => ∃ k : Nat, k ≤ 24 ∧ i = .int .i64 k ∧ Ext w4 wr) (fun i _ => 24 - (intOf i).toNat)
            case atStart => exact ⟨0, by omega, rfl, Ext.refl _⟩
            case round =>
              obtain ⟨k, hk, rfl, hE5⟩ := hrel
              by_cases hk24 : k < 24
              · have kk : (k : Int) < 24 := by omega
                have kk0 : (0 : Int) ≤ (k : Int) := by omega
                have hd1 : (k : Int) / 8 = ((k / 8 : Nat) : Int) := by omega
                have hd2 : (k : Int) % 8 = ((k % 8 : Nat) : Int) := by omega
                obtain ⟨D, hD⟩ : ∃ c, c = k / 8 := ⟨_, rfl⟩
                obtain ⟨X, hX⟩ : ∃ c, c = k % 8 := ⟨_, rfl⟩
                rw [← hD] at hd1
                rw [← hX] at hd2
                have hDl : D < 3 := by omega
                have hXl : X < 8 := by omega
                have HD := Lib.hid hD
                have HX := Lib.hid hX
                clear hD hX
                have hR5 := hR4.ext hE5
                have HBD := Lib.hid (spoiled_bad s c1 c2 D X (hI.bad D X))
                by_cases hsp : D = c1 ∧ X = c2
                · have HRD2 := Lib.hid (read_bad hR5 hp hI.cut D X hDl hXl (by rw [HBD.out]; exact decide_eq_true hsp))
                  obtain ⟨e1, e2⟩ := hsp
                  subst e1
                  subst e2
                  go_wp2_with (go_at_call 21; (with_reducible refine HRD2.out.mono ?_); rintro e w5 ⟨rfl, hE6⟩)
                  go_roundw
                  case rel => exact ⟨k + 1, by omega, by go_num, hE5.trans hE6⟩
                  case measure => simp [intOf]; omega
                · have HRD2 := Lib.hid (read_good hR5 hp hI.cut D X hDl hXl (by rw [HBD.out]; exact decide_eq_false hsp))
                  obtain ⟨T, hT⟩ : ∃ T, T = secS (spoiled s c1 c2) D X := ⟨_, rfl⟩
                  rw [← hT] at HRD2
                  have HT := Lib.hid hT
                  clear hT
                  obtain ⟨S, hS⟩ : ∃ S, S = drv s D := ⟨_, rfl⟩
                  have hw0 := HWAS4.out D hDl
                  have hSz : ((S.size : Nat) : Int) = 512 := by rw [hS, drv_size]; rfl
                  rw [← hS] at hw0
                  have HS := Lib.hid hS
                  clear hS
                  have hw5 := hE5.cellv hw0
                  have hts : (T.toList == (S.extract (X * 64) ((X + 1) * 64)).toList) = true := by
                    have h1 := drv_sec s D X hXl (hR4.ok.by_ D X) (hI.bad D X)
                    have h2 : secS (spoiled s c1 c2) D X = secS s D X := rfl
                    rw [HS.out, HT.out, h2, h1]; simp
                  by_cases hDc : D = c1
                  · have hXc : X ≠ c2 := fun e => hsp ⟨hDc, e⟩
                    clear hsp
                    subst hDc
                    go_wp2_with (go_at_call 21; (with_reducible refine HRD2.out.mono ?_); rintro e w5 ⟨rfl, hE6⟩; have hw6 := hE6.cellv hw5)
                    go_roundw
                    case rel => exact ⟨k + 1, by omega, by go_num, hE5.trans hE6⟩
                    case measure => simp [intOf]; omega
                  · clear hsp
                    go_wp2_with (go_at_call 21; (with_reducible refine HRD2.out.mono ?_); rintro e w5 ⟨rfl, hE6⟩; have hw6 := hE6.cellv hw5)
                    go_roundw
                    case rel => exact ⟨k + 1, by omega, by go_num, hE5.trans hE6⟩
                    case measure => simp [intOf]; omega
              · obtain rfl : 24 = k := by omega
                have hR5 := hR4.ext hE5
                obtain ⟨b1, b3⟩ := hI.lfts (by omega)
                have HW := Lib.hid (write_open hR5 hp hI.cut c1 c2 c1 c2 rfl rfl hl1 hl2 ⟨#[122]⟩ (by decide) b1 b3)
                have hE5b := hE4.trans hE5
                have z1 : ((strZ.size : Nat) : Int) = 64 := by decide +kernel
                have i1 : ∀ w, (Instr.index 9 (.string strZ) (.int .i64 0)).run Try.prog w = .ok (.int .u8 122) w := fun _ => by kernel_rfl
                clear b1 b3
                go_wp2_with (first
                  | (go_at_call 19; (with_reducible refine HW.out.mono ?_); rintro e w6 ⟨rfl, hR6, hC6⟩; have HZ6 := Lib.hid (read_z hR6 hp hI.cut hl1 hl2))
                  | (go_at_call 21; (with_reducible refine HZ6.out.mono ?_); rintro e w7 ⟨rfl, hE7⟩; have HW7 := Lib.hid (wipe_open (hR6.ext hE7) hp c1 hl1 (by omega)))
                  | (go_at_call 23; (with_reducible refine HW7.out.mono ?_); rintro e w8 ⟨rfl, hR8, hC8⟩))
                have hE8 := Chg.ext hC8 ((Chg.ext hC6 hE5b HPW.out).trans hE7) HPW.out
                have HWAS8 := Lib.hid (fun i (hi : i < 3) => hC8.cellv (hE7.cellv (hC6.cellv (hE5.cellv (HWAS4.out i hi)) hgw)) hgw)
                have hv0 : drv (wiped (wrote (spoiled s c1 c2) c1 c2 ⟨#[122]⟩) c1) c1 = zero512 := drv_zero c1 (fun x j => by
                  show (if c1 = c1 then 0 else _) = 0
                  rw [if_pos rfl])
                have hv1 : ∀ i, i ≠ c1 → drv (wiped (wrote (spoiled s c1 c2) c1 c2 ⟨#[122]⟩) c1) i = drv s i := fun i hi => drv_congr i (fun x j => by
                  show (if i = c1 then 0 else if i = c1 ∧ x = c2 then _ else s.sec i x j) = _
                  rw [if_neg hi, if_neg (fun h => hi h.1)]) (fun x => by
                  show (if i = c1 then false else setNN (setNN s.bad c1 c2 true) c1 c2 false i x) = _
                  rw [if_neg hi]; unfold setNN
                  rw [if_neg (fun h => hi h.1), if_neg (fun h => hi h.1)])
                have HV0 := Lib.hid hv0
                have HV1 := Lib.hid hv1
                clear hv0 hv1 z1 i1 hC6 hC8
                generalize wiped (wrote (spoiled s c1 c2) c1 c2 ⟨#[122]⟩) c1 = s4 at *
                obtain ⟨wz, rfl⟩ : ∃ wo : World, wo = wr := ⟨_, rfl⟩
                go_loopw [20] (fun i wr => ∃ k : Nat, k ≤ 3 ∧ i = .int .i64 k ∧ Ext w8 wr) (fun i _ => 3 - (intOf i).toNat)
                case atStart => exact ⟨0, by omega, rfl, Ext.refl _⟩
                case round =>
                  obtain ⟨k, hk, rfl, hE9⟩ := hrel
                  by_cases hk3 : k < 3
                  · have kk : (k : Int) < 3 := by omega
                    have kk0 : (0 : Int) ≤ (k : Int) := by omega
                    have hw9 := hE9.cellv (HWAS8.out k hk3)
                    by_cases hkc : k = c1
                    · subst hkc
                      have hmk := fun (w : World) => make512 w
                      have hcv := fun (w : World) => str512 w
                      have HAL := Lib.hid (fun (w : World) (h : RackAt w p s4) => all_drv h hp k hk3)
                      go_wp2_with (go_at_call 12; (with_reducible refine (HAL.out _ ((hR8.ext hE9).ext (Ext.alloc (Ext.refl _) _))).mono ?_); rintro e w10 ⟨rfl, hE10⟩; rw [HV0.out])
                      go_roundw
                      case rel => exact ⟨k + 1, by omega, by go_num, (hE9.alloc _).trans hE10⟩
                      case measure => simp [intOf]; omega
                    · have HAL := Lib.hid (all_drv (hR8.ext hE9) hp k hk3)
                      have HE := HAL.out
                      rw [HV1.out k hkc] at HE
                      have HE := Lib.hid HE
                      generalize drv s k = S at *
                      go_wp2_with (go_at_call 12; (with_reducible refine HE.out.mono ?_); rintro e w10 ⟨rfl, hE10⟩)
                      go_roundw
                      case rel => exact ⟨k + 1, by omega, by go_num, hE9.trans hE10⟩
                      case measure => simp [intOf]; omega
                  · obtain rfl : 3 = k := by omega
                    go_wp2_with (go_at_call 8; (with_reducible refine (alive_ok _).mono ?_); rintro e w11 ⟨rfl, hE⟩)
                    go_ret
                    exact ⟨rfl, (hE8.trans hE9).trans hE⟩
  · rw [hb] at HV
    have HV := Lib.hid HV
    clear hb mm0
    go_enter Try.func5, Try.ntmps5
    go_wp2_with (first
      | (go_at_call 7; (with_reducible refine HV.out.mono ?_); rintro e wa ⟨rfl, hO⟩)
      | (go_at_call 8; (with_reducible refine (alive_ok _).mono ?_); rintro e w11 ⟨rfl, hE⟩))
    go_ret
    exact ⟨rfl, hO.trans hE⟩
