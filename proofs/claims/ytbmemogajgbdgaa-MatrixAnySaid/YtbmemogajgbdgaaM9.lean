import Derived.Test.YtbmemogajgbdgaaM8
namespace Go.Proofs.Ytbmemogajgbdgaa
open Go.RowKit Go.Gf
theorem strs_one (l : List ByteArray) : ∀ u ∈ l.map Value.string, u.oneCell' = true := by
  intro u hu
  obtain ⟨s, _, rfl⟩ := List.mem_map.mp hu
  rfl
/-- A slice of the call's own. -/
def OwnIs (l : List ByteArray) (w : World) (e : Ending) (w' : World) : Prop :=
  ∃ (g n cap : Nat), e = .returned (.slice (some ⟨g, 0, none⟩) n cap) ∧ n = l.length ∧ w'.ownsRow w.heap.size 9 1 (.slice (some ⟨g, 0, none⟩) n cap) n (l.map Value.string) ∧ Ext w w'
theorem clone_any (A : Option Addr) (n cap : Nat) (l : List ByteArray) (w : World) (hr : Rd w A n (l.map Value.string)) (hn : n ≤ 1048576) (h1 : 1 ≤ n) :
    Calls Try.prog 27 #[.slice A n cap] w (OwnIs l w) := by
  have hlen : l.length = n := by have := hr.1; simpa using this
  obtain ⟨gs, os, rfl, _⟩ := hr.2 (show 0 < n by omega)
  have hne := fun w => Lib.run_eql_slice_nil (P := Try.prog) w
  have hr2 := hr.ext ((Ext.refl w).alloc (.cells #[] 9))
  have HR := Lib.hid hr2
  have HL := Lib.hid hlen
  have HO := Lib.hid (owns_empty w w.heap.size 9 1 (Nat.le_refl _))
  clear hr2 hr hlen
  go_enter Try.func27, Try.ntmps27
  go_wp2_with (at_builtin; refine wpList_apps _ rfl _ _ 23 9 rfl Try.underlying23 (.string { data := #[] }) 16 info9 rfl (by decide) w.heap.size _ 0 [] rfl HO.out _ n cap _ rfl HR.out (strs_one l) (by omega) (by omega) (by simp) ?_; intro g4 cap4 w4 hown4 hG4 hg4)
  go_ret
  simp only [Nat.zero_add, List.nil_append] at hown4 ⊢
  exact ⟨g4, n, cap4, rfl, HL.out.symm, hown4, hG4.ext ((Ext.refl w).alloc _) (Nat.le_refl _)⟩
theorem grow_any (n : Nat) (w : World) (hn : n ≤ 1048576) (h1 : 1 ≤ n) :
    Calls Try.prog 44 #[.slice none 0 0, .int .i64 n] w fun e w' => ∃ (g cap : Nat), e = .returned (.slice (some ⟨g, 0, none⟩) 0 cap) ∧ w'.ownsRow w.heap.size 9 1 (.slice (some ⟨g, 0, none⟩) 0 cap) 0 [] ∧ Ext w w' := by
  go_enter Try.func44, Try.ntmps44
  go_wp2_with (at_builtin; refine wpList_grow_nil _ rfl _ _ 23 3 9 rfl Try.underlying23 .i64 .i64 Try.underlying3 (.string { data := #[] }) 1 16 info9 rfl (by decide) (by decide) n rfl rfl h1 hn ?_; intro C w2 hC hown hE; have hC0 : (0 : Int) ≤ (C : Int) := by omega)
  go_ret
  exact ⟨_, C, rfl, hown, hE⟩
def catL (a b : List ByteArray) : Nat → List ByteArray
  | 0 => []
  | 1 => a
  | _ => a ++ b
def catN (n m : Nat) : Nat → Nat
  | 0 => 0
  | 1 => n
  | _ => n + m
theorem cat_at {w : World} {g : Nat} {A B : Option Addr} {n cap m cap2 : Nat} {a b : List ByteArray} (hb : Blk w g 23 #[.slice A n cap, .slice B m cap2]) (hr : Rd w A n (a.map Value.string)) (hq : Rd w B m (b.map Value.string)) (h1 : 1 ≤ n) (h2 : 1 ≤ m) (k : Nat) (hk : k < 2) :
    ∃ (X : Option Addr) (nk ck : Nat) (xs : List ByteArray), w.cell? ⟨g, k, none⟩ = some (.slice X nk ck) ∧ Rd w X nk (xs.map Value.string) ∧ catN n m (k + 1) = catN n m k + nk ∧ catL a b (k + 1) = catL a b k ++ xs ∧ 1 ≤ nk ∧ catN n m k + nk ≤ n + m := by
  obtain rfl | rfl : k = 0 ∨ k = 1 := by omega
  · exact ⟨A, n, cap, a, hb.cell 0, hr, by simp [catN], by simp [catL], h1, by simp [catN]⟩
  · exact ⟨B, m, cap2, b, hb.cell 1, hq, by simp [catN], by simp [catL], h2, by simp [catN]⟩
set_option maxRecDepth 100000 in
theorem concat_any (g : Nat) (A B : Option Addr) (n cap m cap2 : Nat) (a b : List ByteArray) (w : World) (hb : Blk w g 23 #[.slice A n cap, .slice B m cap2]) (hr : Rd w A n (a.map Value.string)) (hq : Rd w B m (b.map Value.string)) (h1 : 1 ≤ n) (h2 : 1 ≤ m) (hn : n + m ≤ 1048576) :
    Calls Try.prog 39 #[.slice (some ⟨g, 0, none⟩) 2 2] w (LisIs (a ++ b) w) := by
  have hla : a.length = n := by have := hr.1; simpa using this
  have hlb : b.length = m := by have := hq.1; simpa using this
  have HLA := Lib.hid hla
  have HLB := Lib.hid hlb
  clear hla hlb
  go_enter Try.func39, Try.ntmps39
  go_wp2
  go_loopw [3, 11] (fun s i wr => ∃ k : Nat, k ≤ 2 ∧ i = .int .i64 k ∧ s = .int .i64 (catN n m k) ∧ Ext w wr) (fun _ i _ => 2 - (intOf i).toNat)
  case atStart => exact ⟨0, by omega, rfl, rfl, Ext.refl _⟩
  case round =>
    obtain ⟨k, hk, rfl, rfl, hE⟩ := hrel
    by_cases hk2 : k < 2
    · obtain ⟨X, nk, ck, xs, hc, _, hN, _, h1k, hle⟩ := cat_at (hb.ext hE) (hr.ext hE) (hq.ext hE) h1 h2 k hk2
      have HN := Lib.hid hN
      clear hN
      have kk : (k : Int) < 2 := by omega
      have kk0 : (0 : Int) ≤ (k : Int) := by omega
      go_wp2
      go_roundw
      case rel => exact ⟨k + 1, by omega, by go_num, by rw [HN.out]; go_num, hE⟩
      case measure => simp [intOf]; omega
    · obtain rfl : k = 2 := by omega
      have e1 : catN n m 2 = n + m := rfl
      rw [e1]
      clear e1
      go_wp2_with (go_at_call 44; refine (grow_any (n + m) _ hn (by omega)).mono ?_; rintro e w2 ⟨g2, cap3, rfl, hown, hE2⟩)
      have hE3 := hE.trans hE2
      have hown0 : w2.ownsRow w.heap.size 9 1 (.slice (some ⟨g2, 0, none⟩) 0 cap3) 0 [] := by
        refine ⟨hown.1, ?_⟩
        rcases hown.2 with h | ⟨g', c', cur, e1, hge, rest⟩
        · exact .inl h
        · exact .inr ⟨g', c', cur, e1, by have := hE.sz; omega, rest⟩
      clear hown
      go_loopw [6, 27] (fun v i wr => ∃ k : Nat, k ≤ 2 ∧ i = .int .i64 k ∧ ∃ (A1 : Option Addr) (N c1 : Nat), v = .slice A1 N c1 ∧ N = catN n m k ∧ wr.ownsRow w.heap.size 9 1 (.slice A1 N c1) N ((catL a b k).map Value.string) ∧ Ext w wr) (fun _ i _ => 2 - (intOf i).toNat)
      case atStart => exact ⟨0, by omega, rfl, _, 0, cap3, rfl, rfl, hown0, hE3⟩
      case round =>
        obtain ⟨k, hk, rfl, A1, N, c1, rfl, hN0, hown, hE⟩ := hrel
        clear hown0 hE3
        have HN0 := Lib.hid hN0
        clear hN0
        by_cases hk2 : k < 2
        · obtain ⟨X, nk, ck, xs, hc, hrx, hN, hL, h1k, hle⟩ := cat_at (hb.ext hE) (hr.ext hE) (hq.ext hE) h1 h2 k hk2
          rw [← HN0.out] at hN hle
          have HN := Lib.hid hN
          have HL := Lib.hid hL
          have HO := Lib.hid hown
          have hwz := hE.sz
          clear hN hL hown
          have kk : (k : Int) < 2 := by omega
          have kk0 : (0 : Int) ≤ (k : Int) := by omega
          go_wp2_with (at_builtin; refine wpList_apps _ rfl _ _ 23 9 rfl Try.underlying23 (.string { data := #[] }) 16 info9 rfl (by decide) w.heap.size _ N ((catL a b k).map Value.string) rfl HO.out _ nk ck _ rfl hrx (strs_one xs) (by omega) (by omega) hwz ?_; intro g4 cap4 w4 hown4 hG4 hg4)
          go_roundw
          case rel => exact ⟨k + 1, by omega, by go_num, _, N + nk, cap4, by go_num, HN.out.symm, by rw [HL.out, List.map_append]; exact hown4, hG4.ext hE (Nat.le_refl _)⟩
          case measure => simp [intOf]; omega
        · obtain rfl : k = 2 := by omega
          have HO := Lib.hid hown
          clear hown
          go_wp2
          go_ret
          exact ⟨A1, N, c1, rfl, by rw [List.length_append, HLA.out, HLB.out]; exact HN0.out, HO.out.rd, hE⟩
def belowP (a b : List ByteArray) : Prop := len0 a = len0 b ∧ a.length + b.length ≤ 64
def belowV (a b : List ByteArray) : List ByteArray := if mayP a ∧ mayP b ∧ len0 a = len0 b ∧ a.length + b.length ≤ 64 then a ++ b else []
def belowE (a b : List ByteArray) : Int := if mayP a ∧ mayP b then (if len0 a = len0 b then (if a.length + b.length ≤ 64 then 0 else 2) else 50) else 8
theorem below_form {a b : List ByteArray} (h : ¬ (mayP a ∧ mayP b)) : belowV a b = [] ∧ belowE a b = 8 := by
  unfold belowV belowE; rw [if_neg (fun x => h ⟨x.1, x.2.1⟩), if_neg h]; exact ⟨rfl, rfl⟩
theorem below_side {a b : List ByteArray} (h1 : mayP a) (h2 : mayP b) (h : len0 a ≠ len0 b) : belowV a b = [] ∧ belowE a b = 50 := by
  unfold belowV belowE; rw [if_neg (fun x => h x.2.2.1), if_pos ⟨h1, h2⟩, if_neg h]; exact ⟨rfl, rfl⟩
theorem below_arg {a b : List ByteArray} (h1 : mayP a) (h2 : mayP b) (h : len0 a = len0 b) (h4 : ¬ a.length + b.length ≤ 64) : belowV a b = [] ∧ belowE a b = 2 := by
  unfold belowV belowE; rw [if_neg (fun x => h4 x.2.2.2), if_pos ⟨h1, h2⟩, if_pos h, if_neg h4]; exact ⟨rfl, rfl⟩
theorem below_ok {a b : List ByteArray} (h1 : mayP a) (h2 : mayP b) (h : len0 a = len0 b) (h4 : a.length + b.length ≤ 64) : belowV a b = a ++ b ∧ belowE a b = 0 := by
  unfold belowV belowE; rw [if_pos ⟨h1, h2, h, h4⟩, if_pos ⟨h1, h2⟩, if_pos h, if_pos h4]; exact ⟨rfl, rfl⟩
