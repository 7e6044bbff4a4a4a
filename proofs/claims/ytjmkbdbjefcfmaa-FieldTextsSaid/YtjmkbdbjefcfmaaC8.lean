import Derived.Test.YtjmkbdbjefcfmaaC7
import Derived.Deep.RegionHeld3
namespace Go.Proofs.Ytjmkbdbjefcfmaa
open Go.RowKit Go.Gf
theorem _root_.Go.World.ownsRow.blockGe {w : World} {base : Nat} {e : TypeId} {size : Nat} {v : Value} {n : Nat} {xs : List Value} (h : w.ownsRow base e size v n xs) : ∀ k, v.ownBlock = some k → base ≤ k := by
  intro k hk
  rcases h.2 with ⟨rfl, _⟩ | ⟨g, cap, cur, rfl, hb, _⟩
  · cases hk
  · cases hk; exact hb
theorem _root_.Go.World.ownsRow.cellFar {w wx w' : World} {base : Nat} {e : TypeId} {size : Nat} {v : Value} {n : Nat} {xs : List Value} (h : w.ownsRow base e size v n xs) (hg : wx.grownBy w' v.ownBlock) {p : Addr} {u : Value} (hp : wx.cell? p = some u) (hb : p.block < base) : w'.cell? p = some u :=
  hg.cell hp (fun he => by have := h.blockGe _ he.symm; omega)
set_option maxRecDepth 100000 in
theorem rsum_any (c : ByteArray) (A : Option Addr) (n cap : Nat) (l : List ByteArray) (w : World) (hr : Rd w A n (l.map Value.string)) (hn : n ≤ 1048576) (hz : ∀ s ∈ l, s.size ≤ 1048576) :
    Calls Try.prog 13 #[.string c, .slice A n cap] w fun e w' => e = .returned (.tuple #[.string (sumV c l), .int .i64 (sumE c l)]) ∧ Ext w w' := by
  have hlen : l.length = n := by have := hr.1; simpa using this
  by_cases h : c.size = n
  · have HV := Lib.hid (prod_sum c l n hlen h)
    have e1 : ((c.size : Int) != (n : Int)) = false := by simp [h]
    have HC := Lib.hid h
    have HZ := Lib.hid hz
    have HL := Lib.hid hlen
    clear h hz hlen
    go_enter Try.func13, Try.ntmps13
    go_wp2
    go_loopw [6, 7] (fun v i wr => ∃ k : Nat, k ≤ n ∧ i = .int .i64 k ∧ ∃ (A1 : Option Addr) (c1 : Nat), v = .slice A1 k c1 ∧ wr.ownsRow w.heap.size 9 1 (.slice A1 k c1) k ((prodL c l k).map Value.string) ∧ Ext w wr) (fun _ i _ => n - (intOf i).toNat)
    case atStart => exact ⟨0, by omega, rfl, none, 0, rfl, World.ownsRow_nil _ _ _ _, Ext.refl _⟩
    case round =>
      obtain ⟨k, hk, rfl, A1, c1, rfl, hown, hE⟩ := hrel
      by_cases hk2 : k < n
      · obtain ⟨gs, os, rfl, hgs, hcell⟩ := hr.at_ hk2
        replace hcell := hE.cellv hcell
        simp only [List.getElem_map] at hcell
        have hlk : k < l.length := by rw [HL.out]; exact hk2
        have hsz := HZ.out (l[k]'hlk) (List.getElem_mem _)
        have hgd : l.getD k { data := #[] } = l[k]'hlk := by rw [List.getD_eq_getElem?_getD, List.getElem?_eq_getElem hlk]; rfl
        have hps := prodL_succ c l k
        rw [hgd] at hps
        generalize l[k]'hlk = sk at *
        have hck := bt_get c k (by rw [HC.out]; exact hk2)
        rw [bt_bn] at hck
        have hbl := bn_lt c k
        have HP := Lib.hid hps
        have HO := Lib.hid hown
        have hwz := hE.sz
        clear hps hown hgd
        have kk : (k : Int) < (n : Int) := by omega
        have kc : (k : Int) < (c.size : Int) := by rw [HC.out]; exact kk
        have kk0 : (0 : Int) ≤ (k : Int) := by omega
        go_wp2_with fail
        go_region_held3 (fun w' => w'.cell? ⟨gs, os + k, none⟩ = some (.string sk))
          (first | exact hcell | exact hcell2 | exact hcell3 | go_keep)
          (first
            | (go_at_call 15; refine (rtimes_any (bn c k) sk _ hbl hsz).mono ?_; rintro e w2 ⟨rfl, hE2⟩; have HO2 := Lib.hid (owns_ext HO.out (Ext.trans (Ext.drew (Ext.refl _)) hE2)); have hO2 := (hE.drew).trans hE2; have hcell2 := hE2.cellv hcell)
            | ((refine step_append_lies _ (by rfl) _ _ _ (by rfl) w.heap.size 9 _ (.string { data := #[] }) 1 16 Try.underlying22 info9 info9z info9s info9b (by rfl) (by omega) _ k ((prodL c l k).map Value.string) (by rfl) (HO2.out.alloc _) ⟨w2.heap.size, 0, none⟩ 1 1 [.string (timesT (bn c k) sk)] (by rfl) (by rfl) (news_one _ _ _) (one_str _) (by omega) (by unfold maxLen; omega) (by omega) (by have := hO2.sz; simp; omega) (w2.heap.size + 1) (by simp) ?_; intro g cap2 w3 hown3 hg3 ho3 hlt3; have hcell3 := HO2.out.cellFar hg3 (((Ext.refl _).alloc _).cellv hcell2) hgs)))
        go_wp2
        go_roundw
        case rel => exact ⟨k + 1, by omega, by go_num, _, cap2, rfl, by rw [HP.out, List.map_append]; exact hown3, (hO2.alloc _).grown hg3 HO2.out.blockGe⟩
        case measure => simp [intOf]; omega
      · obtain rfl : k = n := by omega
        have hrd := rd_owns hown
        have HRD := Lib.hid hrd
        have hpz : ∀ s ∈ prodL c l k, s.size ≤ 1048576 := fun s hs => by
          obtain ⟨j, hj, rfl⟩ := List.mem_map.mp hs
          rw [timesT_size]
          exact HZ.out _ (getD_mem l j (by have := List.mem_range.mp hj; rw [HL.out]; exact this))
        have HPZ := Lib.hid hpz
        clear hrd hpz hown
        go_wp2_with (go_at_call 11; refine (rplus_any A1 k c1 (prodL c l k) _ HRD.out hn HPZ.out).mono ?_; rintro e w2 ⟨rfl, hE2⟩)
        go_ret2
        exact ⟨ret_tup HV.out.1 HV.out.2, hE.trans hE2⟩
  · have hv := sum_no c l (fun x => h (x.1.trans hlen))
    have e1 : ((c.size : Int) != (n : Int)) = true := by simp; omega
    have HV := Lib.hid hv
    clear h hlen hz hv
    go_enter Try.func13, Try.ntmps13
    go_wp2
    go_ret2
    exact ⟨(ret_tup HV.out.1 HV.out.2).symm, Ext.refl _⟩
