import Derived.Test.YtimhekdfajakbaaR19
import Derived.Deep.DeepCutAuto
import Derived.StillTailTactics
import Derived.Deep.RegionHeld3
namespace Go.Proofs.Ytimhekdfajakbaa
open Go.RowKit
theorem byte_of (a : Int) (h : (Lit.int .u8 a).wf = true) : ∃ n : Nat, a = n ∧ n < 256 := by
  have : 0 ≤ a ∧ a ≤ 255 := by
    have h2 : IntKind.u8.min ≤ a ∧ a ≤ IntKind.u8.max := by simpa [Lit.wf] using h
    exact h2
  exact ⟨a.toNat, by omega, by omega⟩
theorem new38 (w : World) : Calls Try.prog 9 #[.int .i64 3, .int .i64 8] w fun e w' => ∃ p : Pl, e = .returned (.tuple #[.pointer (some ⟨p.gR, 0, none⟩), .int .i64 0]) ∧ Dims p 3 8 ∧ RackAt w' p St0 ∧ Fresh p w ∧ Ext w w' :=
  new_dims 3 8 3 8 (by decide) rfl rfl w
theorem cut38 {p : Pl} {s : St} {w : World} (h : RackAt w p s) (m : Nat) : Calls Try.prog 18 #[.pointer (some ⟨p.gR, 0, none⟩), .int .i64 ((m : Int) % 40)] w fun e w' => e = .returned (.int .i64 0) ∧ RackAt w' p { s with cut := true, left := ((m % 40 : Nat) : Int) } ∧ Chg p w w' := by
  have hm : ((m : Int) % 40) = ((m % 40 : Nat) : Int) := by omega
  have := cut_any h ((m % 40 : Nat) : Int)
  rw [hm]
  unfold doCut at this
  rw [if_neg (by omega), if_neg (by omega)] at this
  exact this
theorem CutInv.start (c : Nat) : CutInv c 0 0 { St0 with cut := true, left := (c : Int) } St0 :=
  ⟨rfl, by show (c : Int) = c - ((0 : Nat) : Int); omega, Nat.zero_le _, rfl, rfl, rfl, rfl, rfl, rfl, fun _ => Nat.le_refl _, Nat.le_refl _⟩
theorem RackAt.drew {p : Pl} {s : St} {w : World} (h : RackAt w p s) : RackAt w.drew p s := h.ext (Ext.drew (Ext.refl _))
theorem CutInv.lft {c k dn : Nat} {r x : St} (h : CutInv c k dn r x) (hc : c < 256) (hk : k ≤ 300) : (-9223372036854775807 ≤ r.left ∧ r.left ≤ 9223372036854775807) ∧ (-9223372036854775807 ≤ x.left ∧ x.left ≤ 9223372036854775807) ∧ (∀ d, r.cnt d ≤ 1000000) ∧ ∀ d, x.cnt d ≤ 1000000 := by
  have h1 := h.left
  have h2 := h.left'
  have h3 := h.few
  have h4 := h.le
  refine ⟨by omega, by omega, fun d => by have := h.each d; omega, fun d => by rw [h.cnt]; have := h.each d; omega⟩
theorem wr_ok {p : Pl} {s : St} {w : World} (h : RackAt w p s) {ns : Nat} (hp : Dims p 3 ns) (i : Nat) (d : Int) (hd : d = i) (hi : i < 3) : Calls Try.prog 14 #[.pointer (some ⟨p.gR, 0, none⟩), .int .i64 d] w fun e w' => e = .returned (.int .u64 (s.cnt i)) ∧ Ext w w' := by
  subst hd
  exact writes_yes h i (by rw [hp.nd]; exact hi)
theorem allL_congr {s s' : St} (h1 : s'.sec = s.sec) (h2 : s'.bad = s.bad) (d : Nat) : ∀ k, allL s' d k = allL s d k
  | 0 => rfl
  | k + 1 => by
    simp only [allL, allL_congr h1 h2 d k]
    simp only [secL, h1, h2]
theorem allS_congr {p q : Pl} {s s' : St} {nd ns : Nat} (hp : Dims p nd ns) (hq : Dims q nd ns) (h1 : s'.sec = s.sec) (h2 : s'.bad = s.bad) (d : Int) : allS q s' d = allS p s d := by
  unfold allS
  rw [there_dims hq hp, allL_congr h1 h2, hp.ns, hq.ns]
def strEnd : ByteArray := ⟨#[101, 110, 100, 0, 0, 0, 0, 0, 0, 0, 0, 0, 0, 0, 0, 0, 0, 0, 0, 0, 0, 0, 0, 0, 0, 0, 0, 0, 0, 0, 0, 0, 0, 0, 0, 0, 0, 0, 0, 0, 0, 0, 0, 0, 0, 0, 0, 0, 0, 0, 0, 0, 0, 0, 0, 0, 0, 0, 0, 0, 0, 0, 0, 0]⟩
theorem strEnd_is : strN 64 (padB ⟨#[101, 110, 100]⟩) = strEnd := by decide +kernel
theorem secS_wrote (s : St) (d x : Nat) (t : ByteArray) : secS (wrote s d x t) d x = strN 64 (padB t) := by
  unfold secS
  refine strN_congr _ _ _ fun i _ => ?_
  show (if d = d ∧ x = x then padB t i else s.sec d x i) = padB t i
  rw [if_pos ⟨rfl, rfl⟩]
theorem writeE_open {p : Pl} {s : St} {nd ns : Nat} (hp : Dims p nd ns) (hcut : s.cut = false) (i j : Nat) (d x : Int) (hd : d = i) (hx : x = j) (hi : i < nd) (hj : j < ns) (t : ByteArray) (ht : t.size ≤ 64) : writeE p s d x t = 0 ∧ doWrite p s d x t = wrote s i j t := by
  subst hd
  subst hx
  have h0 : writeE p s i j t = 0 := by
    unfold writeE
    rw [if_pos (by simp [there, hp.nd, hp.ns]; omega), if_neg (by omega), hcut]; rfl
  exact ⟨h0, by unfold doWrite; rw [if_pos h0]; rfl⟩
theorem write_open {p : Pl} {s : St} {w : World} (h : RackAt w p s) {nd ns : Nat} (hp : Dims p nd ns) (hcut : s.cut = false) (i j : Nat) (d x : Int) (hd : d = i) (hx : x = j) (hi : i < nd) (hj : j < ns) (t : ByteArray) (ht : t.size ≤ 64)
    (hl : -9223372036854775807 ≤ s.left ∧ s.left ≤ 9223372036854775807) (hc : ∀ d, s.cnt d ≤ 1000000) :
    Calls Try.prog 19 #[.pointer (some ⟨p.gR, 0, none⟩), .int .i64 d, .int .i64 x, .string t] w fun e w' => e = .returned (.int .i64 0) ∧ RackAt w' p (wrote s i j t) ∧ Chg p w w' := by
  obtain ⟨h1, h2⟩ := writeE_open hp hcut i j d x hd hx hi hj t ht
  have := write_any h d x t hl hc
  rw [h1, h2] at this
  exact this
theorem read_open {p : Pl} {s : St} {w : World} (h : RackAt w p s) {nd ns : Nat} (hp : Dims p nd ns) (hcut : s.cut = false) (i j : Nat) (d x : Int) (hd : d = i) (hx : x = j) (hi : i < nd) (hj : j < ns) :
    Calls Try.prog 21 #[.pointer (some ⟨p.gR, 0, none⟩), .int .i64 d, .int .i64 x] w fun e w' => e = .returned (.tuple #[.string (if s.bad i j then { data := #[] } else secS s i j), .int .i64 (if s.bad i j then 72 else 0)]) ∧ Ext w w' := by
  subst hd
  subst hx
  have h0 : readE p s i j = if s.bad i j then 72 else 0 := by
    unfold readE
    rw [hcut, Bool.false_and, if_neg (by simp), if_pos (by simp [there, hp.nd, hp.ns]; omega)]; rfl
  have := read_any h (i : Int) j
  unfold readS at this
  rw [h0] at this
  cases hb : s.bad i j
  · rw [hb] at this; exact this
  · rw [hb] at this; exact this
theorem end_ok {p : Pl} {s : St} {w : World} (h : RackAt w p (wrote s 1 7 ⟨#[101, 110, 100]⟩)) (hp : Dims p 3 8) (hcut : s.cut = false) : Calls Try.prog 21 #[.pointer (some ⟨p.gR, 0, none⟩), .int .i64 1, .int .i64 7] w fun e w' => e = .returned (.tuple #[.string strEnd, .int .i64 0]) ∧ Ext w w' := by
  have := read_open h hp hcut 1 7 1 7 rfl rfl (by omega) (by omega)
  rw [secS_wrote, strEnd_is] at this
  exact this
set_option maxRecDepth 100000 in
set_option maxHeartbeats 2000000 in
theorem rackCuts_walk (A : Option Addr) (n cp : Nat) (l : List Stp) (a1 : Int) (W : World) (rd0 : SRd W A n l) (mm0 : n ≤ maxLen) (_zz0 : ∀ x ∈ l, StpOk x) (w1 : (Lit.int .u8 a1).wf = true) :
    Calls Try.prog 4 #[.slice A n cp, .int .u8 a1] W fun e w' => e = .returned (.bool true) ∧ Ext W w' := by
  obtain ⟨m, rfl, hm⟩ := byte_of a1 w1
  clear w1
  have HV := heavy_ok A n cp l W rd0 mm0
  cases hb : heavyB l
  · rw [hb] at HV
    obtain ⟨hn, hsmall⟩ := heavy_no hb
    have HL := Lib.hid rd0.1
    have hn : n ≤ 300 := by rw [← HL.out]; exact hn
    have HS := Lib.hid hsmall
    have HV := Lib.hid HV
    clear hb hsmall mm0
    go_enter Try.func4, Try.ntmps4
    go_wp2_with (first
      | (go_at_call 7; (with_reducible refine HV.out.mono ?_); rintro e wa ⟨rfl, hO⟩)
      | (go_at_call 9; (with_reducible refine (new38 wa).mono ?_); rintro e wb ⟨p, rfl, hp, hRp, hfp, hE1⟩)
      | (go_at_call 9; (with_reducible refine (new38 wb).mono ?_); rintro e wc ⟨q, rfl, hq, hRq, hfq, hE2⟩))
    have hRp2 := hRp.ext hE2
    have hpq : ∀ k, p.has k → ¬ q.has k := fun k h1 h2 => by have := hfq k h2; have := hRp.lt k h1; omega
    have hqp : ∀ k, q.has k → ¬ p.has k := fun k h1 h2 => hpq k h2 h1
    have hpW : ∀ k, p.has k → W.heap.size ≤ k := fun k h1 => Nat.le_trans hO.sz (hfp k h1)
    have hqW : ∀ k, q.has k → W.heap.size ≤ k := fun k h1 => Nat.le_trans hO.sz (Nat.le_trans hE1.sz (hfq k h1))
    have HPQ := Lib.hid hpq
    have HQP := Lib.hid hqp
    have HPW := Lib.hid hpW
    have HQW := Lib.hid hqW
    have hEc := (hO.trans hE1).trans hE2
    clear hpq hqp hpW hqW hfp hfq hO hE1 hE2 hRp
    go_wp2_with (go_at_call 18; (with_reducible refine (cut38 hRp2 m).mono ?_); rintro e wd ⟨rfl, hRp3, hC3⟩)
    have hRq3 := hRq.other hC3 HQP.out
    have hEd := hC3.ext hEc HPW.out
    clear hRq hRp2 hC3 hEc
    have hc0 : m % 40 < 256 := by omega
    have hcv : ((m : Int) % 40) = ((m % 40 : Nat) : Int) := by omega
    rw [hcv]
    have HCV := Lib.hid hcv
    clear hcv
    have hI0 := CutInv.start (m % 40)
    generalize hcc : m % 40 = c at *
    have HCC := Lib.hid hcc
    clear hcc
    generalize ({ St0 with cut := true, left := (c : Int) } : St) = sr0 at *
    generalize St0 = sx0 at *
    go_loopw [9, 10] (fun dv i wr => ∃ (k dn : Nat) (sr sx : St), k ≤ n ∧ i = .int .i64 k ∧ dv = .int .i64 dn ∧ Ext W wr ∧ RackAt wr p sr ∧ RackAt wr q sx ∧ CutInv c k dn sr sx) (fun _ i _ => n - (intOf i).toNat)
    case atStart => exact ⟨0, 0, sr0, sx0, by omega, rfl, rfl, hEd, hRp3, hRq3, hI0⟩
    case round =>
      obtain ⟨k, dn, sr, sx, hk, rfl, rfl, hE, hRr, hRx, hI⟩ := hrel
      clear hRp3 hRq3 hI0 hEd
      by_cases hk2 : k < n
      · obtain ⟨g, o, x, rfl, hx, _, p1, p2, p3⟩ := rd0.at_ k hk2
        clear hx
        have ndn : (0 : Int) ≤ (dn : Int) := by omega
        have ndn2 : (dn : Int) ≤ 300 := by have := hI.few; omega
        have kk : (k : Int) < (n : Int) := by omega
        have kk0 : (0 : Int) ≤ (k : Int) := by omega
        obtain ⟨b1, b2, b3, b4⟩ := hI.lft hc0 (by omega)
        obtain ⟨xd, hxd⟩ : ∃ xd, xd = x.d := ⟨_, rfl⟩
        obtain ⟨xs, hxs⟩ : ∃ xs, xs = x.s := ⟨_, rfl⟩
        obtain ⟨xt, hxt⟩ : ∃ xt, xt = x.text := ⟨_, rfl⟩
        rw [← hxd] at p1
        rw [← hxs] at p2
        rw [← hxt] at p3
        clear hxd hxs hxt
        have q1 := hE.cellv p1
        have q2 := hE.cellv p2
        have q3 := hE.cellv p3
        have hE4 := fun (w4 : World) (h : Chg p wr.drew w4) => Chg.ext h hE.drew HPW.out
        have HE4 := Lib.hid hE4
        clear hE4
        have HW := Lib.hid (write_any hRr.drew xd xs xt b1 b3)
        have hwr := hRr.drew
        have hRxd := hRx.drew
        obtain ⟨E, hEE⟩ : ∃ E, E = writeE p sr xd xs xt := ⟨_, rfl⟩
        rw [← hEE] at HW
        by_cases e71 : E = 71
        · have hD := Lib.hid (hI.down (p := p) (hEE.symm.trans e71))
          subst e71
          have hcv := HCV.out
          have hdn : (dn : Int) = (c : Int) := by have := hD.out.1; omega
          have HDN := Lib.hid hdn
          clear b1 b3 hEE hdn
          go_wp2_with fail
          go_still_tail 16, (by kernel_rfl)
          generalize hw6 : wr.drew = w6 at *
          unfold World.drew at hw6
          rw [hw6]
          clear hw6
          go_wp2_with (go_at_call 19; (with_reducible refine HW.out.mono ?_); rintro e w4 ⟨rfl, hR4, hC4⟩; have hdn := HDN.out)
          go_roundw
          case rel => exact ⟨k + 1, dn, doWrite p sr xd xs xt, sx, by omega, by go_num, by first | rfl | (rw [hdn]), HE4.out _ hC4, hR4, hRxd.other hC4 HQP.out, hD.out.2⟩
          case measure => simp [intOf]; omega
        · by_cases e0 : E = 0
          · have hD := Lib.hid (hI.done hp hq (hEE.symm.trans e0))
            subst e0
            clear b1 b3 hEE e71
            have HX := Lib.hid (fun (w4 : World) (hC : Chg p wr.drew w4) => write_any (hRxd.other hC HQP.out).drew xd xs xt b2 b4)
            clear b2 b4
            go_wp2_with fail
            go_still_tail 16, (by kernel_rfl)
            generalize hw6 : wr.drew = w6 at *
            unfold World.drew at hw6
            rw [hw6]
            clear hw6
            go_wp2_with (go_at_call 19; (with_reducible refine HW.out.mono ?_); rintro e w4 ⟨rfl, hR4, hC4⟩)
            have HX5 := HX.out w4 hC4
            rw [hD.out.1] at HX5
            have HX5 := Lib.hid HX5
            have hE4w := HE4.out _ hC4
            have s1 := hE4w.cellv p1
            have s2 := hE4w.cellv p2
            have s3 := hE4w.cellv p3
            have hR5 := hR4.drew
            have hE5 := hE4w.drew
            go_region_held3 (fun w' => w'.cell? ⟨g, o + k * 4 + 1, none⟩ = some (.int .i64 xd) ∧ w'.cell? ⟨g, o + k * 4 + 2, none⟩ = some (.int .i64 xs) ∧ w'.cell? ⟨g, o + k * 4 + 3, none⟩ = some (.string xt))
              (first | exact ⟨s1, s2, s3⟩ | exact ⟨k1, k2, k3⟩ | go_keep)
              (first | (go_at_call 19; refine HX5.out.mono ?_; rintro e w8 ⟨rfl, hR8, hC8⟩; have hE8 := Chg.ext hC8 hE5 HQW.out; have k1 := hE8.cellv p1; have k2 := hE8.cellv p2; have k3 := hE8.cellv p3))
            go_wp2
            go_roundw
            case rel => exact ⟨k + 1, dn + 1, doWrite p sr xd xs xt, doWrite q sx xd xs xt, by omega, by go_num, by go_num, Chg.ext hC8 hE5 HQW.out, hR5.other hC8 HPQ.out, hR8, hD.out.2⟩
            case measure => simp [intOf]; omega
          · have hD := Lib.hid (hI.other hp hq (by rw [← hEE]; exact e71) (by rw [← hEE]; exact e0))
            rw [← hEE] at hD
            have t71 : (E == 71) = false := by simpa using e71
            have t0 : (E == 0) = false := by simpa using e0
            clear b1 b3 hEE e71 e0
            have HX := Lib.hid (fun (w4 : World) (hC : Chg p wr.drew w4) => write_any (hRxd.other hC HQP.out).drew xd xs xt b2 b4)
            clear b2 b4
            go_wp2_with fail
            go_still_tail 16, (by kernel_rfl)
            generalize hw6 : wr.drew = w6 at *
            unfold World.drew at hw6
            rw [hw6]
            clear hw6
            go_wp2_with (go_at_call 19; (with_reducible refine HW.out.mono ?_); rintro e w4 ⟨rfl, hR4, hC4⟩)
            have HX5 := HX.out w4 hC4
            rw [hD.out.1] at HX5
            have HX5 := Lib.hid HX5
            have hE4w := HE4.out _ hC4
            have s1 := hE4w.cellv p1
            have s2 := hE4w.cellv p2
            have s3 := hE4w.cellv p3
            have hR5 := hR4.drew
            have hE5 := hE4w.drew
            go_region_held3 (fun w' => w'.cell? ⟨g, o + k * 4 + 1, none⟩ = some (.int .i64 xd) ∧ w'.cell? ⟨g, o + k * 4 + 2, none⟩ = some (.int .i64 xs) ∧ w'.cell? ⟨g, o + k * 4 + 3, none⟩ = some (.string xt))
              (first | exact ⟨s1, s2, s3⟩ | exact ⟨k1, k2, k3⟩ | go_keep)
              (first | (go_at_call 19; refine HX5.out.mono ?_; rintro e w8 ⟨rfl, hR8, hC8⟩; have hE8 := Chg.ext hC8 hE5 HQW.out; have k1 := hE8.cellv p1; have k2 := hE8.cellv p2; have k3 := hE8.cellv p3))
            go_wp2
            go_roundw
            case rel => exact ⟨k + 1, dn, doWrite p sr xd xs xt, doWrite q sx xd xs xt, by omega, by go_num, by go_num, Chg.ext hC8 hE5 HQW.out, hR5.other hC8 HPQ.out, hR8, hD.out.2⟩
            case measure => simp [intOf]; omega
      · obtain rfl : n = k := by omega
        have hsum := hI.sum
        obtain ⟨b1, b2, b3, b4⟩ := hI.lft hc0 (by omega)
        have hle := hI.le
        have hfew := hI.few
        have e0 := hI.each 0
        have e1 := hI.each 1
        have e2 := hI.each 2
        have m0 : (0 : Int) ≤ (sr.cnt 0 : Int) := by omega
        have m1 : (0 : Int) ≤ (sr.cnt 1 : Int) := by omega
        have m2 : (0 : Int) ≤ (sr.cnt 2 : Int) := by omega
        have k0 : (sr.cnt 0 : Int) ≤ 300 := by omega
        have k1 : (sr.cnt 1 : Int) ≤ 300 := by omega
        have k2 : (sr.cnt 2 : Int) ≤ 300 := by omega
        have d0 : (0 : Int) ≤ (dn : Int) := by omega
        have d1 : (dn : Int) ≤ 300 := by omega
        have t1 : decide (c < dn) = false := by simp; omega
        have t2 : (((sr.cnt 0 : Int) + (sr.cnt 1 : Int) + (sr.cnt 2 : Int)) != (dn : Int)) = false := by simp; omega
        have hcv := HCV.out
        have B1 := Lib.hid b1
        have B3 := Lib.hid b3
        have L1 := Lib.hid ((fun (w : World) (h : RackAt w p { sr with cut := false }) => write_open h hp rfl 1 7 1 7 rfl rfl (by omega) (by omega) ⟨#[101, 110, 100]⟩ (by decide) b1 b3))
        clear b1 b2 b3 b4 hsum e0 e1 e2 hle hfew
        go_wp2_with (first
          | (go_at_call 14; (with_reducible refine (wr_ok hRr hp 0 0 rfl (by omega)).mono ?_); rintro e w4 ⟨rfl, hE4⟩; have hR4 := hRr.ext hE4)
          | (go_at_call 14; (with_reducible refine (wr_ok hR4 hp 1 1 rfl (by omega)).mono ?_); rintro e w5 ⟨rfl, hE5⟩; have hR5 := hR4.ext hE5)
          | (go_at_call 14; (with_reducible refine (wr_ok hR5 hp 2 2 rfl (by omega)).mono ?_); rintro e w6 ⟨rfl, hE6⟩; have hR6 := hR5.ext hE6)
          | (go_at_call 20; (with_reducible refine (lift_ok hR6).mono ?_); rintro e w7 ⟨rfl, hR7, hC7⟩))
        have hEr := (((hE.trans hE4).trans hE5).trans hE6)
        have hE7 := Chg.ext hC7 hEr HPW.out
        have hRq7 := (((hRx.ext hE4).ext hE5).ext hE6).other hC7 HQP.out
        have hval := fun (d : Int) => allS_congr (s := { sr with cut := false }) (s' := sx) hp hq hI.sec hI.bad d
        have HVAL := Lib.hid hval
        have HB := Lib.hid (L1.out)
        clear hval hRr hRx hI hE hE4 hR4 hE5 hR5 hE6 hR6 hEr hC7 t1 t2 m0 m1 m2 k0 k1 k2 d0 d1 hcv
        obtain ⟨wo, rfl⟩ : ∃ wo : World, wo = wr := ⟨_, rfl⟩
        go_loopw [12] (fun i wr => ∃ k : Nat, k ≤ 3 ∧ i = .int .i64 k ∧ Ext W wr ∧ RackAt wr p { sr with cut := false } ∧ RackAt wr q sx) (fun i _ => 3 - (intOf i).toNat)
        case atStart => exact ⟨0, by omega, rfl, hE7, hR7, hRq7⟩
        case round =>
          obtain ⟨k, hk, rfl, hE, hRr, hRx⟩ := hrel
          clear hE7 hR7 hRq7
          by_cases hk3 : k < 3
          · have kk : (k : Int) < 3 := by omega
            have kk0 : (0 : Int) ≤ (k : Int) := by omega
            have A1 := Lib.hid (all_any hRr k)
            have hQ := fun (w : World) (h : RackAt w q sx) => all_any h k
            rw [HVAL.out k] at hQ
            have A2 := Lib.hid hQ
            clear hQ
            obtain ⟨SA, hSA⟩ : ∃ SA, SA = allS p { sr with cut := false } k := ⟨_, rfl⟩
            rw [← hSA] at A1 A2
            clear hSA
            go_wp2_with (first
              | (go_at_call 12; (with_reducible refine A1.out.mono ?_); rintro e w4 ⟨rfl, hE4⟩; have A3 := Lib.hid (A2.out _ (hRx.ext hE4)))
              | (go_at_call 12; (with_reducible refine A3.out.mono ?_); rintro e w5 ⟨rfl, hE5⟩))
            go_roundw
            case rel => exact ⟨k + 1, by omega, by go_num, (hE.trans hE4).trans hE5, (hRr.ext hE4).ext hE5, (hRx.ext hE4).ext hE5⟩
            case measure => simp [intOf]; omega
          · obtain rfl : 3 = k := by omega
            have z1 : ((strEnd.size : Nat) : Int) = 64 := by decide +kernel
            have z2 : (strEnd.extract 0 3).toList = [101, 110, 100] := by decide +kernel
            have W1 := Lib.hid (HB.out _ hRr)
            go_wp2_with (first
              | (go_at_call 19; (with_reducible refine W1.out.mono ?_); rintro e w4 ⟨rfl, hR4, hC4⟩)
              | (go_at_call 21; (with_reducible refine (end_ok hR4 hp rfl).mono ?_); rintro e w5 ⟨rfl, hE5⟩)
              | (go_at_call 8; (with_reducible refine (alive_ok _).mono ?_); rintro e w6 ⟨rfl, hE6⟩))
            go_ret
            exact ⟨rfl, ((Chg.ext hC4 hE HPW.out).trans hE5).trans hE6⟩
  · rw [hb] at HV
    have HV := Lib.hid HV
    clear hb mm0
    go_enter Try.func4, Try.ntmps4
    go_wp2_with (first
      | (go_at_call 7; (with_reducible refine HV.out.mono ?_); rintro e wa ⟨rfl, hO⟩)
      | (go_at_call 8; (with_reducible refine (alive_ok _).mono ?_); rintro e w11 ⟨rfl, hE⟩))
    go_ret
    exact ⟨rfl, hO.trans hE⟩
