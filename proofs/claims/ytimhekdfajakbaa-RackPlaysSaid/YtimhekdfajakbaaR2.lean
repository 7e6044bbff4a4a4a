import Derived.Test.YtimhekdfajakbaaR1
import Derived.Shelf.Abstract
namespace Go.Proofs.Ytimhekdfajakbaa
open Go.RowKit
theorem away_any (r : Option Addr) (d x : Int) (w : World) : Calls Try.prog 31 #[.pointer r, .int .i64 d, .int .i64 x] w fun e w' => ∃ gd gr gs : Nat, e = .returned (.func (.func 39) #[] #[.pointer (some ⟨gd, 0, none⟩), .pointer (some ⟨gr, 0, none⟩), .pointer (some ⟨gs, 0, none⟩)]) ∧ w'.cell? ⟨gd, 0, none⟩ = some (.int .i64 d) ∧ w'.cell? ⟨gr, 0, none⟩ = some (.pointer r) ∧ w'.cell? ⟨gs, 0, none⟩ = some (.int .i64 x) ∧ Ext w w' := by
  have hmf : ∀ (fn : Fn) (first cap : Array Value) (w : World), (Instr.makeFunc fn first cap).run Try.prog w = .ok (.func fn first cap) w := fun _ _ _ _ => rfl
  go_enter Try.func31, Try.ntmps31
  go_wp2
  go_ret
  refine ⟨_, _, _, rfl, ?_, ?_, ?_, ?_⟩
  · have h : Blk (w.alloc (.cells #[.pointer r] 25)) w.heap.size 25 #[.pointer r] := Blk.new _ _ _
    have h1 : Blk ((w.alloc (.cells #[.pointer r] 25)).alloc (.cells #[.int .i64 d] 3)) (w.heap.size + 1) 3 #[.int .i64 d] := by
      have := Blk.new (w.alloc (.cells #[.pointer r] 25)) 3 #[.int .i64 d]
      rwa [show (w.alloc (.cells #[.pointer r] 25)).heap.size = w.heap.size + 1 by simp] at this
    exact (h1.alloc _).cell 0
  · have h : Blk (w.alloc (.cells #[.pointer r] 25)) w.heap.size 25 #[.pointer r] := Blk.new _ _ _
    exact ((h.alloc _).alloc _).cell 0
  · have h1 := Blk.new ((w.alloc (.cells #[.pointer r] 25)).alloc (.cells #[.int .i64 d] 3)) 3 #[.int .i64 x]
    rw [show ((w.alloc (.cells #[.pointer r] 25)).alloc (.cells #[.int .i64 d] 3)).heap.size = w.heap.size + 1 + 1 by simp] at h1
    exact h1.cell 0
  · exact (((Ext.refl w).alloc _).alloc _).alloc _
structure Clo where
  f : Nat
  fa : Array Value
  ca : Array Value
  b : Bool
  e : Int
def Clo.v (c : Clo) : Value := .func (.func c.f) c.fa c.ca
def firstE : List Clo → Int
  | [] => 0
  | c :: l => if c.b then c.e else firstE l
theorem firstE_yes : ∀ (l : List Clo) (i : Nat) (hi : i < l.length), (∀ j (h : j < i), (l[j]'(by omega)).b = false) → l[i].b = true → firstE l = l[i].e
  | c :: l, 0, _, _, h => by simp only [List.getElem_cons_zero] at h ⊢; unfold firstE; rw [if_pos h]
  | c :: l, i + 1, hi, hn, h => by
    have h0 := hn 0 (by omega)
    simp only [List.getElem_cons_zero] at h0
    simp only [List.getElem_cons_succ] at h ⊢
    unfold firstE
    rw [if_neg (by simp [h0])]
    exact firstE_yes l i (by simpa using hi) (fun j hj => by have := hn (j + 1) (by omega); simpa using this) h
theorem firstE_no : ∀ (l : List Clo), (∀ c ∈ l, c.b = false) → firstE l = 0
  | [], _ => rfl
  | c :: l, h => by
    unfold firstE
    rw [if_neg (by simp [h c (List.mem_cons_self ..)])]
    exact firstE_no l fun x hx => h x (List.mem_cons_of_mem _ hx)
set_option maxRecDepth 100000 in
theorem first_any (A : Option Addr) (n cap : Nat) (l : List Clo) (w : World) (hr : Rd w A n (l.map Clo.v)) (hn : n ≤ 8) (hen : ∀ c ∈ l, Enters Try.prog c.f)
    (hc : ∀ i (hi : i < l.length), (∀ j (h : j < i), (l[j]'(by omega)).b = false) → ∀ w', Ext w w' → Calls Try.prog l[i].f (l[i].fa ++ l[i].ca) w' (Tells l[i].b l[i].e w')) :
    Calls Try.prog 29 #[.slice A n cap] w fun e w' => e = .returned (.int .i64 (firstE l)) ∧ Ext w w' := by
  have hlen : l.length = n := by have := hr.1; simpa using this
  have HL := Lib.hid hlen
  have HC := Lib.hid hc
  have HEN := Lib.hid hen
  clear hlen hc hen
  go_enter Try.func29, Try.ntmps29
  go_wp2
  go_loopw [9] (fun i wr => ∃ k : Nat, k ≤ n ∧ i = .int .i64 k ∧ Ext w wr ∧ ∀ j (h : j < k) (h2 : j < l.length), (l[j]'h2).b = false) (fun i _ => n - (intOf i).toNat)
  case atStart => exact ⟨0, by omega, rfl, Ext.refl _, fun j h => by omega⟩
  case round =>
    obtain ⟨k, hk, rfl, hE, hall⟩ := hrel
    have HALL := Lib.hid hall
    clear hall
    by_cases hk2 : k < n
    · obtain ⟨gs, os, rfl, hgs, hcell⟩ := (hr.ext hE).at_ hk2
      have hlk : k < l.length := by rw [HL.out]; exact hk2
      simp only [List.getElem_map] at hcell
      have hcon := HC.out k hlk (fun j hj => HALL.out j hj (by omega))
      have hent := HEN.out _ (List.getElem_mem hlk)
      have hyes := firstE_yes l k hlk (fun j hj => HALL.out j hj (by omega))
      have hnext : (l[k]'hlk).b = false → ∀ j (h : j < k + 1) (h2 : j < l.length), (l[j]'h2).b = false := fun hb j h h2 => by
        by_cases e : j = k
        · subst e; exact hb
        · exact HALL.out j (by omega) h2
      have HNX := Lib.hid hnext
      clear hnext
      generalize l[k]'hlk = c at *
      obtain ⟨f, fa, ca, b, ex⟩ := c
      unfold Clo.v at hcell
      have hent2 : ∀ (args : Array Value) (w : World), (callFunc f args).run Try.prog w = .ok (.enter f args) w := hent
      clear hent
      have HCN := Lib.hid hcon
      have HY := Lib.hid hyes
      clear hcon hyes
      have kk : (k : Int) < (n : Int) := by omega
      have kk0 : (0 : Int) ≤ (k : Int) := by omega
      cases b
      · go_wp2_with (go_at_fn f; refine (HCN.out _ hE).mono ?_; rintro e w1 ⟨rfl, hE1⟩; replace hE1 := hE.trans hE1)
        go_roundw
        case rel => exact ⟨k + 1, by omega, by go_num, hE1, HNX.out (by simp)⟩
        case measure => simp [intOf]; omega
      · go_wp2_with (go_at_fn f; refine (HCN.out _ hE).mono ?_; rintro e w1 ⟨rfl, hE1⟩; replace hE1 := hE.trans hE1)
        go_ret
        have h2 := HY.out (by simp)
        exact ⟨congrArg (fun z => Ending.returned (Value.int .i64 z)) h2.symm, hE1⟩
    · obtain rfl : n = k := by omega
      go_wp2
      go_ret
      have h2 := firstE_no l fun c hc => by
        obtain ⟨j, hj, rfl⟩ := List.mem_iff_getElem.mp hc
        exact HALL.out j (by rw [← HL.out]; exact hj) hj
      exact ⟨congrArg (fun z => Ending.returned (Value.int .i64 z)) h2.symm, hE⟩
