import Derived.Test.YtimhekdfajakbaaR31
import Derived.Test.YtimhekdfajakbaaR20
namespace Go.Proofs.Ytimhekdfajakbaa
open Go.RowKit
theorem SRd.range {w : World} {A : Option Addr} {n : Nat} {l : List Stp} (h : SRd w A n l) (k : Nat) (hk : k < n) : ∃ g o x, A = some ⟨g, o, none⟩ ∧ l[k]? = some x ∧ w.rangeAt g (o + k * 4) [.int .u8 x.act, .int .i64 x.d, .int .i64 x.s, .string x.text] := by
  obtain ⟨g, o, x, e, hx, h0, h1, h2, h3⟩ := h.at_ k hk
  refine ⟨g, o, x, e, hx, fun j v hj => ?_⟩
  match j, hj with
  | 0, hj => simp at hj; rw [← hj]; exact h0
  | 1, hj => simp at hj; rw [← hj]; exact h1
  | 2, hj => simp at hj; rw [← hj]; exact h2
  | 3, hj => simp at hj; rw [← hj]; exact h3
theorem i64_bd {a : Int} (h : (Lit.int .i64 a).wf = true) : -9223372036854775808 ≤ a ∧ a ≤ 9223372036854775807 := by
  have h2 : IntKind.i64.min ≤ a ∧ a ≤ IntKind.i64.max := by simpa [Lit.wf] using h
  exact h2
theorem drives_d {p : Pl} {s : St} {w : World} (h : RackAt w p s) {nd ns : Nat} (hp : Dims p nd ns) : Calls Try.prog 16 #[.pointer (some ⟨p.gR, 0, none⟩)] w fun e w' => e = .returned (.int .i64 nd) ∧ Ext w w' := by
  rw [← hp.nd]; exact drives_ok h
theorem sectors_d {p : Pl} {s : St} {w : World} (h : RackAt w p s) {nd ns : Nat} (hp : Dims p nd ns) : Calls Try.prog 17 #[.pointer (some ⟨p.gR, 0, none⟩)] w fun e w' => e = .returned (.int .i64 ns) ∧ Ext w w' := by
  rw [← hp.ns]; exact sectors_ok h
def NewRefPost (nd ns : Nat) (w : World) (e : Ending) (w' : World) : Prop := ∃ q : Ql, e = .returned (.tuple #[.pointer (some ⟨q.gx, 0, none⟩), .int .i64 0]) ∧ (q.nd = nd ∧ q.ns = ns) ∧ RefAt w' q Rf0 ∧ (∀ k, q.has k → w.heap.size ≤ k) ∧ Ext w w'
theorem turn_extB {p : Pl} {q : Ql} {W w w' : World} (h : Turn (Both p q) w w') (hE : Ext W w) (hp : ∀ k, p.has k → W.heap.size ≤ k) (hq : ∀ k, q.has k → W.heap.size ≤ k) : Ext W w' :=
  h.ext hE (fun k hk => by rcases hk with h1 | h1; exact hp k h1; exact hq k h1)
set_option maxRecDepth 100000 in
set_option maxHeartbeats 2000000 in
theorem rackPlays_walk (a0 a1 : Int) (A : Option Addr) (n cp : Nat) (l : List Stp) (W : World) (w0 : (Lit.int .i64 a0).wf = true) (w1 : (Lit.int .i64 a1).wf = true) (rd0 : SRd W A n l) (mm0 : n ≤ maxLen) (zz0 : ∀ x ∈ l, StpOk x) :
    Calls Try.prog 3 #[.int .i64 a0, .int .i64 a1, .slice A n cp] W fun e w' => e = .returned (.bool true) ∧ Ext W w' := by
  have HV := heavy_ok A n cp l W rd0 mm0
  cases hb : heavyB l
  · rw [hb] at HV
    obtain ⟨hn, hsmall⟩ := heavy_no hb
    have HL := Lib.hid rd0.1
    have hn : n ≤ 300 := by rw [← HL.out]; exact hn
    have HV := Lib.hid HV
    clear hb hsmall mm0
    by_cases h64 : 64 < a1 ∧ a1 ≤ 4096
    · obtain ⟨g1, g2⟩ := h64
      have t1 : decide ((64 : Int) < a1) = true := by simpa using g1
      have t2 : decide (a1 ≤ 4096) = true := by simpa using g2
      clear g1 g2 w0 w1 zz0
      go_enter Try.func3, Try.ntmps3
      go_wp2_with (first
        | (go_at_call 7; (with_reducible refine HV.out.mono ?_); rintro e wa ⟨rfl, hO⟩)
        | (go_at_call 8; (with_reducible refine (alive_ok _).mono ?_); rintro e w11 ⟨rfl, hE⟩))
      go_ret
      exact ⟨rfl, hO.trans hE⟩
    · by_cases hnew : newOk a0 a1
      · have hs64 : a1 ≤ 64 := by unfold newOk at hnew; omega
        obtain ⟨nd, rfl⟩ : ∃ i : Nat, a0 = i := ⟨a0.toNat, by unfold newOk at hnew; omega⟩
        obtain ⟨ns, rfl⟩ : ∃ i : Nat, a1 = i := ⟨a1.toNat, by unfold newOk at hnew; omega⟩
        have t1 : decide ((64 : Int) < (ns : Int)) = false := by simp; omega
        have hnd1 : 1 ≤ nd ∧ nd ≤ 12 := by unfold newOk at hnew; omega
        have hns1 : 1 ≤ ns ∧ ns ≤ 4096 := by unfold newOk at hnew; omega
        have hN1 := fun w => new_dims nd ns nd ns hnew rfl rfl w
        have hN2 : ∀ w, Calls Try.prog 10 #[.int .i64 nd, .int .i64 ns] w (NewRefPost nd ns w) := fun w => (new_ref_yes nd ns hnd1 hns1 w).mono (fun e w' ⟨q, h1, h2, h3, h4⟩ => ⟨q, h1, ⟨h2, h3⟩, h4⟩)
        have HN1 := Lib.hid hN1
        have HN2 := Lib.hid hN2
        obtain ⟨hnd0, hnd2⟩ := hnd1
        clear hN1 hN2 h64 hnew hs64 w0 w1 hns1
        go_enter Try.func3, Try.ntmps3
        go_wp2_with (first
          | (go_at_call 7; (with_reducible refine HV.out.mono ?_); rintro e wa ⟨rfl, hO⟩)
          | (go_at_call 9; (with_reducible refine (HN1.out _).mono ?_); rintro e wb ⟨p, rfl, hp, hRp, hfp, hE1⟩)
          | (go_at_call 10; (with_reducible refine (HN2.out _).mono ?_); rintro e wc ⟨q, rfl, hqd, hRq, hfq, hE2⟩; have HQD := Lib.hid hqd; clear hqd))
        have hRp2 := hRp.ext hE2
        have hpq : ∀ k, p.has k → ¬ q.has k := fun k h1 h2 => by have := hfq k h2; have := hRp.lt k h1; omega
        have hpW : ∀ k, p.has k → W.heap.size ≤ k := fun k h1 => Nat.le_trans hO.sz (hfp k h1)
        have hqW : ∀ k, q.has k → W.heap.size ≤ k := fun k h1 => Nat.le_trans hO.sz (Nat.le_trans hE1.sz (hfq k h1))
        have HPQ := Lib.hid hpq
        have HPW := Lib.hid hpW
        have HQW := Lib.hid hqW
        have hEc := (hO.trans hE1).trans hE2
        have hS0 := Same.start p q (by rw [HQD.out.1, hp.nd]) (by rw [HQD.out.2, hp.ns])
        generalize St0 = s0 at *
        generalize Rf0 = r0 at *
        clear hpq hpW hqW hfp hfq hO hE1 hE2 hRp
        go_loopw [11] (fun i wr => ∃ (k : Nat) (s : St) (r : Rf), k ≤ n ∧ i = .int .i64 k ∧ RackAt wr p s ∧ RefAt wr q r ∧ Same p q s r k ∧ Ext W wr) (fun i _ => n - (intOf i).toNat)
        case atStart => exact ⟨0, s0, r0, by omega, rfl, hRp2, hRq, hS0, hEc⟩
        case round =>
          obtain ⟨k, s, r, hk, rfl, hR, hX, hS, hE⟩ := hrel
          clear hRp2 hRq hS0 hEc
          by_cases hk2 : k < n
          · have kk : (k : Int) < (n : Int) := by omega
            have kk0 : (0 : Int) ≤ (k : Int) := by omega
            obtain ⟨g, o, x, rfl, hx, hrg⟩ := (rd0.ext hE).range k hk2
            obtain ⟨y0, y1, y2, y3⟩ := zz0 x (List.mem_of_getElem? hx)
            obtain ⟨m, hm, hm2⟩ := byte_of x.act y0
            have hxs := i64_bd y2
            rw [hm] at hrg
            have HD := Lib.hid (do_ok hR hX hS HPQ.out (by omega) m hm2 x.d x.s x.text hxs)
            clear hx y0 y1 y2 y3 hm hxs
            generalize x.d = xd at *
            generalize x.s = xs at *
            generalize x.text = xt at *
            go_wp2_with (first
              | (with_reducible refine wpList_load_mid rfl 34 (.tmp 59) rfl g (o + k * 4) rfl [.int .u8 m, .int .i64 xd, .int .i64 xs, .string xt] _ hrg Try.underlying34 rfl (by kernel_rfl) ?_)
              | (go_at_call 11; (with_reducible refine HD.out.mono ?_); rintro e w4 ⟨rfl, s4, r4, hR4, hX4, hS4, hT4⟩))
            go_roundw
            case rel => exact ⟨k + 1, s4, r4, by omega, by go_num, hR4, hX4, hS4, turn_extB hT4 hE HPW.out HQW.out⟩
            case measure => simp [intOf]; omega
          · obtain rfl : n = k := by omega
            go_wp2_with fail
            obtain ⟨wo, rfl⟩ : ∃ wo : World, wo = wr := ⟨_, rfl⟩
            go_loopw [12] (fun i wr => ∃ z : Int, -1 ≤ z ∧ z ≤ (nd : Int) + 1 ∧ i = .int .i64 z ∧ Ext wo wr) (fun i _ => ((nd : Int) + 1 - intOf i).toNat)
            case atStart => exact ⟨-1, by omega, by omega, rfl, Ext.refl _⟩
            case round =>
              obtain ⟨z, hz1, hz2, rfl, hE2⟩ := hrel
              by_cases hz3 : z ≤ (nd : Int)
              · have t3 : decide (z ≤ (nd : Int)) = true := by simpa using hz3
                have hz4 : z ≤ 12 := by omega
                have hR2 := hR.ext hE2
                have hX2 := hX.ext hE2
                have A1 := all_any hR2 z
                have N1 := fun (w : World) (h : RackAt w p s) => writes_any h z
                have A2 := fun (w : World) (h : RefAt w q r) => all_ref h z
                have N2 := fun (w : World) (h : RefAt w q r) => writes_ref h z
                rw [hS.all] at A2
                rw [hS.cnts] at N2
                obtain ⟨T, hT⟩ : ∃ T, T = allS p s z := ⟨_, rfl⟩
                obtain ⟨N, hN⟩ : ∃ N, N = cntE p s z := ⟨_, rfl⟩
                rw [← hT] at A1 A2
                rw [← hN] at N1 N2
                have A1 := Lib.hid A1
                have A2 := Lib.hid A2
                have N1 := Lib.hid N1
                have N2 := Lib.hid N2
                clear hT hN
                go_wp2_with (first
                  | (go_at_call 12; (with_reducible refine A1.out.mono ?_); rintro e w4 ⟨rfl, hE4⟩; have A3 := Lib.hid (A2.out _ (hX2.ext hE4)))
                  | (go_at_call 13; (with_reducible refine A3.out.mono ?_); rintro e w5 ⟨rfl, hE5⟩; have hE45 := hE4.trans hE5; have N3 := Lib.hid (N1.out _ (hR2.ext hE45)))
                  | (go_at_call 14; (with_reducible refine N3.out.mono ?_); rintro e w6 ⟨rfl, hE6⟩; have hE456 := hE45.trans hE6; have N4 := Lib.hid (N2.out _ (hX2.ext hE456)))
                  | (go_at_call 15; (with_reducible refine N4.out.mono ?_); rintro e w7 ⟨rfl, hE7⟩))
                go_roundw
                case rel => exact ⟨z + 1, by omega, by omega, rfl, hE2.trans (hE456.trans hE7)⟩
                case measure => simp [intOf]; omega
              · have t3 : decide (z ≤ (nd : Int)) = false := by simpa using hz3
                have hR2 := hR.ext hE2
                have D1 := Lib.hid (drives_d hR2 hp)
                have D2 := Lib.hid (fun (w : World) (h : RackAt w p s) => sectors_d h hp)
                go_wp2_with (first
                  | (go_at_call 16; (with_reducible refine D1.out.mono ?_); rintro e w4 ⟨rfl, hE4⟩; have D3 := Lib.hid (D2.out _ (hR2.ext hE4)))
                  | (go_at_call 17; (with_reducible refine D3.out.mono ?_); rintro e w5 ⟨rfl, hE5⟩)
                  | (go_at_call 8; (with_reducible refine (alive_ok _).mono ?_); rintro e w6 ⟨rfl, hE6⟩))
                go_ret
                exact ⟨rfl, (((hE.trans hE2).trans hE4).trans hE5).trans hE6⟩
      · have HN1 := Lib.hid (fun w => new_no a0 a1 hnew w)
        have HN2 := Lib.hid (fun w => new_ref_no a0 a1 hnew w)
        by_cases g1 : 64 < a1
        · have t1 : decide ((64 : Int) < a1) = true := by simpa using g1
          have t2 : decide (a1 ≤ 4096) = false := by simp; omega
          clear g1 w0 w1 zz0 h64 hnew
          go_enter Try.func3, Try.ntmps3
          go_wp2_with (first
            | (go_at_call 7; (with_reducible refine HV.out.mono ?_); rintro e wa ⟨rfl, hO⟩)
            | (go_at_call 9; (with_reducible refine (HN1.out _).mono ?_); rintro e wb ⟨rfl, hE1⟩)
            | (go_at_call 10; (with_reducible refine (HN2.out _).mono ?_); rintro e wc ⟨rfl, hE2⟩)
            | (go_at_call 8; (with_reducible refine (alive_ok _).mono ?_); rintro e w11 ⟨rfl, hE⟩))
          go_ret
          exact ⟨rfl, ((hO.trans hE1).trans hE2).trans hE⟩
        · have t1 : decide ((64 : Int) < a1) = false := by simpa using g1
          clear g1 w0 w1 zz0 h64 hnew
          go_enter Try.func3, Try.ntmps3
          go_wp2_with (first
            | (go_at_call 7; (with_reducible refine HV.out.mono ?_); rintro e wa ⟨rfl, hO⟩)
            | (go_at_call 9; (with_reducible refine (HN1.out _).mono ?_); rintro e wb ⟨rfl, hE1⟩)
            | (go_at_call 10; (with_reducible refine (HN2.out _).mono ?_); rintro e wc ⟨rfl, hE2⟩)
            | (go_at_call 8; (with_reducible refine (alive_ok _).mono ?_); rintro e w11 ⟨rfl, hE⟩))
          go_ret
          exact ⟨rfl, ((hO.trans hE1).trans hE2).trans hE⟩
  · rw [hb] at HV
    have HV := Lib.hid HV
    clear hb mm0
    go_enter Try.func3, Try.ntmps3
    go_wp2_with (first
      | (go_at_call 7; (with_reducible refine HV.out.mono ?_); rintro e wa ⟨rfl, hO⟩)
      | (go_at_call 8; (with_reducible refine (alive_ok _).mono ?_); rintro e w11 ⟨rfl, hE⟩))
    go_ret
    exact ⟨rfl, hO.trans hE⟩
