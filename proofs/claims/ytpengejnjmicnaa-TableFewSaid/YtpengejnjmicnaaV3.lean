import Derived.Test.YtpengejnjmicnaaV2
import Derived.Deep.RegionHeld3
import Derived.IntWalk
section
namespace Go.Proofs.Ytpengejnjmicnaa
open Go.RowKit Go.Nb
/-- A pair. -/
structure Pr where
  k : Bs
  v : Bs
deriving DecidableEq, Inhabited
def Pr.val (p : Pr) : Value := .agg #[.string (Bt p.k), .string (Bt p.v)]
/-- A pair's bytes, behind a key. -/
def oneL (last : Bs) (p : Pr) : Bs := upL (shL last p.k) ++ (textL (p.k.drop (shL last p.k)) ++ textL p.v)
theorem textL_len (t : Bs) : (textL t).length ≤ t.length + 9 := by have := (upL_len2 t.length).2; rw [textL, List.length_append]; omega
theorem num03_any (x : Nat) (hx : x < 256 ^ 8) (w : World) : Calls Try.prog 31 #[.int .u64 x] w fun e w' => e = .returned (.string (Bt (upL x))) ∧ Ext w w' := by
  have HU := Lib.hid (up_ref x hx)
  clear hx
  go_enter Try.func31, Try.ntmps31
  go_wp2_with (go_at_call 53; (with_reducible refine (HU.out _).mono ?_); rintro e w1 ⟨rfl, hE⟩)
  go_ret
  exact ⟨rfl, hE⟩
set_option maxRecDepth 100000 in
theorem text03_any (t : Bs) (ht : t.length ≤ 65536) (w : World) : Calls Try.prog 33 #[.string (Bt t)] w fun e w' => e = .returned (.string (Bt (textL t))) ∧ Ext w w' := by
  have HU := Lib.hid (num03_any t.length (by rw [pow8]; omega))
  have hz : ((Bt t).size : Int) = (t.length : Int) := rfl
  have hw : IntKind.u64.wrap (t.length : Int) = (t.length : Int) := u64_lt (by omega)
  have hadd := fun w => add_Bt (upL t.length) t (by have := (upL_len2 t.length).2; omega) w
  have htx : upL t.length ++ t = textL t := rfl
  rw [htx] at hadd
  clear htx ht
  go_enter Try.func33, Try.ntmps33
  go_wp2_with (go_at_call 31; (with_reducible refine (HU.out _).mono ?_); rintro e w1 ⟨rfl, hE⟩)
  go_ret
  exact ⟨rfl, hE⟩
theorem slice_str (t : Bs) (n : Nat) (hn : n ≤ t.length) (w : World) : (Instr.sliceAt 9 (.string (Bt t)) (some (.int .i64 (n : Int))) none none).run Try.prog w = .ok (.string (Bt (t.drop n))) w := by
  rw [run_sliceAt_string (P := Try.prog) w 9 _ _ _ _ Try.underlying9]
  have hz : (Bt t).size = t.length := rfl
  have e1 : (Bt t).extract n t.length = Bt (t.drop n) := by rw [Bt_extract, List.take_length]
  simp [go_sem, hz, e1]
  intro h
  omega
theorem slice_str2 (t : Bs) (n : Nat) (hn : n ≤ t.length) (w : World) : (Instr.slice 9 (.string (Bt t)) (some (.int .i64 (n : Int))) none none).run Try.prog w = .ok (.string (Bt (t.drop n))) w := by
  rw [← run_sliceAt_string (P := Try.prog) w 9 _ _ _ _ Try.underlying9]
  exact slice_str t n hn w
theorem nums1 {w : World} {ga c n : Nat} (h : CellsAt w ga 1 (fun _ => .int .u64 n)) (hn : n < 256 ^ 8) : Calls Try.prog 25 #[.slice (some ⟨ga, 0, none⟩) 1 c] w fun e w' => e = .returned (.string (Bt (upL n))) ∧ Ext w w' := by
  have := nums_any (x := fun _ => n) (c := c) h (by omega) (by omega) (fun _ => hn)
  exact this
theorem texts2 {w : World} {ga c : Nat} {a b : Bs} (h : CellsAt w ga 2 (fun i => .string (Bt (if i = 0 then a else b)))) (ha : a.length ≤ 65536) (hb : b.length ≤ 65536) : Calls Try.prog 27 #[.slice (some ⟨ga, 0, none⟩) 2 c] w fun e w' => e = .returned (.string (Bt (textL a ++ textL b))) ∧ Ext w w' := by
  have := texts_any (x := fun i => if i = 0 then a else b) (c := c) h (by omega) (by omega) (fun i => by split <;> assumption)
  exact this
theorem one_new {w w' : World} {n g : Nat} (hE : Ext (w.alloc (.cells #[.int .u64 n] 57)) w') (hg : g = w.heap.size) : CellsAt w' g 1 (fun _ => .int .u64 n) := by
  rw [hg]
  exact (BoxAt.ext (BoxAt.new w 57 _) hE).c
theorem two_new {w w' : World} {a b : Bs} {g : Nat} (hE : Ext (w.alloc (.cells #[.string (Bt a), .string (Bt b)] 9)) w') (hg : g = w.heap.size) : CellsAt w' g 2 (fun i => .string (Bt (if i = 0 then a else b))) := by
  rw [hg]
  have h : CellsT (w.alloc (.cells #[.string (Bt a), .string (Bt b)] 9)) 9 w.heap.size 2 (fun i => .string (Bt (if i = 0 then a else b))) := CellsT.of_blk (Blk.new w 9 _) (by simp) (fun j hj => by
    obtain rfl | rfl : j = 0 ∨ j = 1 := by omega
    · rfl
    · rfl)
  exact (h.ext hE).c
theorem held_ext {w W w' : World} {b : Nat} {x y : Value} (h : W.cell? ⟨b, 0, none⟩ = some x ∧ W.cell? ⟨b, 1, none⟩ = some y ∧ Ext w W) (hE : Ext W w') : w'.cell? ⟨b, 0, none⟩ = some x ∧ w'.cell? ⟨b, 1, none⟩ = some y ∧ Ext w w' :=
  ⟨hE.cellv h.1, hE.cellv h.2.1, h.2.2.trans hE⟩
theorem alloc_ext (W : World) (o : Obj) : Ext W.drew (W.alloc o).drew := by
  have h := (Ext.refl W.drew).alloc o
  rw [World.alloc_drew] at h
  exact h
set_option maxRecDepth 100000 in
theorem one_any (last : Bs) (p : Pr) (hl : last.length ≤ 65536) (hk : p.k.length ≤ 65536) (hv : p.v.length ≤ 65536) (w : World) : Calls Try.prog 50 #[.string (Bt last), p.val] w fun e w' => e = .returned (.string (Bt (oneL last p))) ∧ Ext w w' := by
  obtain ⟨k, v⟩ := p
  replace hk : k.length ≤ 65536 := hk
  replace hv : v.length ≤ 65536 := hv
  have hP : Pr.val ⟨k, v⟩ = .agg #[.string (Bt k), .string (Bt v)] := rfl
  rw [hP]
  have hle := (shL_le last k).2
  obtain ⟨n, hn⟩ : ∃ n, n = shL last k := ⟨_, rfl⟩
  have h1 : oneL last ⟨k, v⟩ = upL n ++ (textL (k.drop n) ++ textL v) := by rw [hn]; rfl
  rw [h1]
  rw [← hn] at hle
  have HS := Lib.hid (fun w => shared_any last k (by omega) (by omega) w)
  rw [← hn] at HS
  have hsl := slice_str k n hle
  have hsl2 := slice_str2 k n hle
  have hnw : IntKind.u64.wrap (n : Int) = n := u64_lt (by omega)
  have hdl : (k.drop n).length ≤ 65536 := by rw [List.length_drop]; omega
  have hadd := fun w => add_Bt (upL n) (textL (k.drop n) ++ textL v) (by
    have := (upL_len2 n).2
    have := textL_len (k.drop n)
    have := textL_len v
    rw [List.length_append]; omega) w
  have hn8 : n < 256 ^ 8 := by rw [pow8]; omega
  obtain ⟨r, hr⟩ : ∃ r, r = textL (k.drop n) ++ textL v := ⟨_, rfl⟩
  have HT := Lib.hid (fun (w : World) (ga c : Nat) (h : CellsAt w ga 2 (fun i => .string (Bt (if i = 0 then k.drop n else v)))) => texts2 (c := c) h hdl hv)
  have HN := Lib.hid (fun (w : World) (ga c : Nat) (h : CellsAt w ga 1 (fun _ => .int .u64 n)) => nums1 (c := c) h hn8)
  rw [← hr] at hadd HT ⊢
  have n0 : (0 : Int) ≤ (n : Int) := by omega
  clear h1 hP hn hr hle hdl hn8 hl hk hv
  have q0 : (w.alloc (.cells #[.string (Bt k), .string (Bt v)] 53)).cell? ⟨w.heap.size, 0, none⟩ = some (.string (Bt k)) := (Blk.new w 53 _).cell 0
  have q1 : (w.alloc (.cells #[.string (Bt k), .string (Bt v)] 53)).cell? ⟨w.heap.size, 1, none⟩ = some (.string (Bt v)) := (Blk.new w 53 _).cell 1
  have HE := Lib.hid ((Ext.refl w).alloc (.cells #[.string (Bt k), .string (Bt v)] 53))
  have HQ0 := Lib.hid q0
  have HQ1 := Lib.hid q1
  clear q0 q1
  go_enter Try.func50, Try.ntmps50
  go_wp2_with (go_at_call 68; (with_reducible refine (HS.out _).mono ?_); rintro e w1 ⟨rfl, hE⟩; have c0 := hE.cellv HQ0.out; have c1 := hE.cellv HQ1.out; have hE0 := HE.out.trans hE)
  go_region_held3 (fun w' => w'.cell? ⟨w.heap.size, 0, none⟩ = some (.string (Bt k)) ∧ w'.cell? ⟨w.heap.size, 1, none⟩ = some (.string (Bt v)) ∧ Ext w w')
    (first | exact ⟨c0, c1, hE0.drew⟩ | exact held_ext (by assumption) hE5 | exact held_ext (by assumption) hE4 | exact held_ext (by assumption) ((Ext.refl _).alloc _) | exact held_ext (by assumption) (alloc_ext _ _))
    (first
     | (go_at_call 25; refine (HN.out _ _ _ (one_new (by with_reducible (first | assumption | exact (Ext.refl _).drew | exact ((Ext.refl _).alloc _).drew | exact (Ext.refl _).drew.trans hE4 | exact ((Ext.refl _).alloc _).drew.trans hE4 | exact Ext.refl _ | exact (Ext.refl _).alloc _)) (by simp))).mono ?_; rintro e w4 ⟨rfl, hE4⟩)
     | (go_at_call 27; refine (HT.out _ _ _ (two_new (by with_reducible (first | assumption | exact (Ext.refl _).drew | exact ((Ext.refl _).alloc _).drew | exact (Ext.refl _).drew.trans hE4 | exact ((Ext.refl _).alloc _).drew.trans hE4 | exact Ext.refl _ | exact (Ext.refl _).alloc _)) (by simp))).mono ?_; rintro e w5 ⟨rfl, hE5⟩))
  all_goals
    go_wp2
    go_ret
    exact ⟨rfl, (by assumption : _ ∧ _ ∧ Ext w _).2.2⟩
set_option maxRecDepth 100000 in
theorem one_ref (last : Bs) (p : Pr) (hl : last.length ≤ 65536) (hk : p.k.length ≤ 65536) (hv : p.v.length ≤ 65536) (w : World) : Calls Try.prog 52 #[.string (Bt last), p.val] w fun e w' => e = .returned (.string (Bt (oneL last p))) ∧ Ext w w' := by
  obtain ⟨k, v⟩ := p
  replace hk : k.length ≤ 65536 := hk
  replace hv : v.length ≤ 65536 := hv
  have hP : Pr.val ⟨k, v⟩ = .agg #[.string (Bt k), .string (Bt v)] := rfl
  rw [hP]
  have hle := (shL_le last k).2
  obtain ⟨n, hn⟩ : ∃ n, n = shL last k := ⟨_, rfl⟩
  have h1 : oneL last ⟨k, v⟩ = (upL n ++ textL (k.drop n)) ++ textL v := by rw [hn, List.append_assoc]; rfl
  rw [h1]
  rw [← hn] at hle
  have HS := Lib.hid (fun w => shared_ref last k (by omega) (by omega) w)
  rw [← hn] at HS
  have hsl := slice_str k n hle
  have hsl2 := slice_str2 k n hle
  have hnw : IntKind.u64.wrap (n : Int) = n := u64_lt (by omega)
  have hdl : (k.drop n).length ≤ 65536 := by rw [List.length_drop]; omega
  have hadd1 := fun w => add_Bt (upL n) (textL (k.drop n)) (by
    have := (upL_len2 n).2
    have := textL_len (k.drop n)
    omega) w
  have hadd := fun w => add_Bt (upL n ++ textL (k.drop n)) (textL v) (by
    have := (upL_len2 n).2
    have := textL_len (k.drop n)
    have := textL_len v
    rw [List.length_append]; omega) w
  have hn8 : n < 256 ^ 8 := by rw [pow8]; omega
  have HT1 := Lib.hid (text03_any (k.drop n) hdl)
  have HT2 := Lib.hid (text03_any v hv)
  have HN := Lib.hid (num03_any n hn8)
  have n0 : (0 : Int) ≤ (n : Int) := by omega
  clear h1 hP hn hle hdl hn8 hl hk hv
  have q0 : (w.alloc (.cells #[.string (Bt k), .string (Bt v)] 53)).cell? ⟨w.heap.size, 0, none⟩ = some (.string (Bt k)) := (Blk.new w 53 _).cell 0
  have q1 : (w.alloc (.cells #[.string (Bt k), .string (Bt v)] 53)).cell? ⟨w.heap.size, 1, none⟩ = some (.string (Bt v)) := (Blk.new w 53 _).cell 1
  have HE := Lib.hid ((Ext.refl w).alloc (.cells #[.string (Bt k), .string (Bt v)] 53))
  have HQ0 := Lib.hid q0
  have HQ1 := Lib.hid q1
  clear q0 q1
  go_enter Try.func52, Try.ntmps52
  go_wp2_with (go_at_call 69; (with_reducible refine (HS.out _).mono ?_); rintro e w1 ⟨rfl, hE⟩; have c0 := hE.cellv HQ0.out; have c1 := hE.cellv HQ1.out; have hE0 := HE.out.trans hE)
  go_region_held3 (fun w' => w'.cell? ⟨w.heap.size, 0, none⟩ = some (.string (Bt k)) ∧ w'.cell? ⟨w.heap.size, 1, none⟩ = some (.string (Bt v)) ∧ Ext w w')
    (first | exact ⟨c0, c1, hE0.drew⟩ | exact held_ext (by assumption) hE6 | exact held_ext (by assumption) hE5 | exact held_ext (by assumption) hE4 | exact held_ext (by assumption) ((Ext.refl _).alloc _) | exact held_ext (by assumption) (alloc_ext _ _))
    (first
     | (go_at_call 31; (with_reducible refine (HN.out _).mono ?_); rintro e w4 ⟨rfl, hE4⟩)
     | (go_at_call 33; (with_reducible refine (HT1.out _).mono ?_); rintro e w5 ⟨rfl, hE5⟩)
     | (go_at_call 33; (with_reducible refine (HT2.out _).mono ?_); rintro e w6 ⟨rfl, hE6⟩))
  all_goals
    go_wp2
    go_ret
    exact ⟨by rw [List.append_assoc]; rfl, (by assumption : _ ∧ _ ∧ Ext w _).2.2⟩
set_option maxRecDepth 100000 in
theorem size_any (last : Bs) (p : Pr) (hl : last.length ≤ 65536) (hk : p.k.length ≤ 65536) (hv : p.v.length ≤ 65536) (w : World) : Calls Try.prog 45 #[.string (Bt last), p.val] w fun e w' => e = .returned (.int .i64 (oneL last p).length) ∧ Ext w w' := by
  have HO := Lib.hid (fun w => one_any last p hl hk hv w)
  have hz : ((Bt (oneL last p)).size : Int) = ((oneL last p).length : Int) := rfl
  clear hl hk hv
  obtain ⟨k, v⟩ := p
  have hP : Pr.val ⟨k, v⟩ = .agg #[.string (Bt k), .string (Bt v)] := rfl
  rw [hP] at HO ⊢
  clear hP
  go_enter Try.func45, Try.ntmps45
  go_wp2_with (go_at_call 50; (with_reducible refine (HO.out _).mono ?_); rintro e w1 ⟨rfl, hE⟩)
  go_ret
  exact ⟨rfl, ((Ext.refl w).alloc _).trans hE⟩
end Go.Proofs.Ytpengejnjmicnaa
end
section
namespace Go.Proofs.Ytpengejnjmicnaa
open Go.RowKit Go.Nb
def prF (l : List Pr) (i j : Nat) : Value := .string (Bt (if j = 0 then (l.getD i default).k else (l.getD i default).v))
/-- Pairs that lie in a slice. -/
def PRd (w : World) (A : Option Addr) (n : Nat) (l : List Pr) : Prop := l.length = n ∧ FRd w A n 2 (prF l)
theorem PRd.ext {w w' : World} {A : Option Addr} {n : Nat} {l : List Pr} (h : PRd w A n l) (e : Ext w w') : PRd w' A n l := ⟨h.1, h.2.ext e⟩
theorem PRd.at_ {w : World} {A : Option Addr} {n : Nat} {l : List Pr} (h : PRd w A n l) (k : Nat) (hk : k < n) : ∃ g o, A = some ⟨g, o, none⟩ ∧ w.cell? ⟨g, o + k * 2, none⟩ = some (.string (Bt (l.getD k default).k)) ∧ w.cell? ⟨g, o + k * 2 + 1, none⟩ = some (.string (Bt (l.getD k default).v)) := by
  obtain ⟨g, o, hA, hc⟩ := h.2.at_ (by omega) (by omega)
  refine ⟨g, o, hA, ?_, ?_⟩
  · have := hc k 0 hk (by omega)
    simpa [prF] using this
  · have := hc k 1 hk (by omega)
    simpa [prF] using this
theorem toList_Bt (a : Bs) : (Bt a).toList = a := by rw [toList_Ls]; rfl
/-- A pair that may not be. -/
def badP (p : Pr) : Bool := decide (p.k.length < 1) || decide (1024 < p.k.length) || decide (8192 < p.v.length)
theorem e30 : Enters Try.prog 66 := enters_of Try.func66 (by kernel_rfl) rfl
set_option maxRecDepth 100000 in
theorem bad_any (p : Pr) (w : World) : Calls Try.prog 66 #[p.val] w fun e w' => e = .returned (.bool (badP p)) ∧ Ext w w' := by
  obtain ⟨k, v⟩ := p
  have hP : Pr.val ⟨k, v⟩ = .agg #[.string (Bt k), .string (Bt v)] := rfl
  have hB : badP ⟨k, v⟩ = (decide (k.length < 1) || decide (1024 < k.length) || decide (8192 < v.length)) := rfl
  rw [hP, hB]
  have hk : ((Bt k).size : Int) = (k.length : Int) := rfl
  have hv : ((Bt v).size : Int) = (v.length : Int) := rfl
  have d1 : decide ((k.length : Int) < 1) = decide (k.length < 1) := by rw [decide_eq_decide]; omega
  have d2 : decide ((1024 : Int) < (k.length : Int)) = decide (1024 < k.length) := by rw [decide_eq_decide]; omega
  have d3 : decide ((8192 : Int) < (v.length : Int)) = decide (8192 < v.length) := by rw [decide_eq_decide]; omega
  clear hP hB
  generalize decide (k.length < 1) = b1 at *
  generalize decide (1024 < k.length) = b2 at *
  generalize decide (8192 < v.length) = b3 at *
  cases b1
  · cases b2
    · cases b3
      all_goals
        go_enter Try.func66, Try.ntmps66
        go_wp2
        go_ret
        exact ⟨rfl, (Ext.refl w).alloc _⟩
    · go_enter Try.func66, Try.ntmps66
      go_wp2
      go_ret
      exact ⟨rfl, (Ext.refl w).alloc _⟩
  · go_enter Try.func66, Try.ntmps66
    go_wp2
    go_ret
    exact ⟨rfl, (Ext.refl w).alloc _⟩
/-- Where the first pair stands that may not be; -1: there is none. -/
def idxB : List Pr → Nat → Int
  | [], _ => -1
  | p :: l, i => if badP p then (i : Int) else idxB l (i + 1)
theorem idxB_any (l : List Pr) (i : Nat) : decide ((0 : Int) ≤ idxB l i) = l.any badP := by
  induction l generalizing i with
  | nil => simp [idxB]
  | cons p l ih =>
    simp only [idxB, List.any_cons]
    by_cases h : badP p = true
    · simp [h]
    · simp [h, ih]
theorem drop_cons {l : List Pr} {k : Nat} (h : k < l.length) : l.drop k = l.getD k default :: l.drop (k + 1) := by
  rw [List.drop_eq_getElem_cons h]
  congr 1
  rw [List.getD_eq_getElem?_getD, List.getElem?_eq_getElem h]; rfl
set_option maxRecDepth 100000 in
theorem indexFunc_any {w : World} {A : Option Addr} {n c : Nat} {l : List Pr} (h : PRd w A n l) (hn : n ≤ 1048576) : Calls Try.prog 80 #[.slice A n c, .func (.func 66) #[] #[]] w fun e w' => e = .returned (.int .i64 (idxB l 0)) ∧ Ext w w' := by
  have hent2 : ∀ (args : Array Value) (w : World), (callFunc 66 args).run Try.prog w = .ok (.enter 66 args) w := e30
  have HL := Lib.hid h.1
  go_enter Try.func80, Try.ntmps80
  go_wp2
  go_loopw [8] (fun iv wr => ∃ k : Nat, k ≤ n ∧ iv = .int .i64 k ∧ Hid (idxB l 0 = idxB (l.drop k) k) ∧ Ext w wr) (fun iv _ => n - (intOf iv).toNat)
  case atStart => exact ⟨0, by omega, rfl, Lib.hid rfl, Ext.refl w⟩
  case round =>
    obtain ⟨k, hk, rfl, hs, hE⟩ := hrel
    by_cases hk2 : k < n
    · have kk : (k : Int) < (n : Int) := by omega
      have kk0 : (0 : Int) ≤ (k : Int) := by omega
      obtain ⟨g, o, rfl, c0, c1⟩ := (h.ext hE).at_ k hk2
      have hst : idxB (l.drop k) k = if badP (l.getD k default) then (k : Int) else idxB (l.drop (k + 1)) (k + 1) := by
        rw [drop_cons (by rw [HL.out]; exact hk2)]; rfl
      obtain ⟨p, hp⟩ : ∃ p, p = l.getD k default := ⟨_, rfl⟩
      rw [← hp] at c0 c1 hst
      have HB := Lib.hid (bad_any p)
      have hP : p.val = .agg #[.string (Bt p.k), .string (Bt p.v)] := rfl
      rw [hP] at HB
      cases hb : badP p
      · rw [hb] at HB hst
        have hs2 : idxB l 0 = idxB (l.drop (k + 1)) (k + 1) := by rw [hs.out, hst]; rfl
        have HS2 := Lib.hid hs2
        clear hs2 hst hb hp hP
        go_wp2_with (go_at_fn 66; refine (HB.out _).mono ?_; rintro e w2 ⟨rfl, hE2⟩)
        exact ⟨⟨k + 1, by omega, rfl, HS2, hE.trans hE2⟩, by simp [intOf]; omega⟩
      · rw [hb] at HB hst
        have hs2 : idxB l 0 = k := by rw [hs.out, hst]; rfl
        have HS2 := Lib.hid hs2
        clear hs2 hst hb hp hP
        go_wp2_with (go_at_fn 66; refine (HB.out _).mono ?_; rintro e w2 ⟨rfl, hE2⟩)
        go_ret
        exact ⟨by rw [HS2.out]; rfl, hE.trans hE2⟩
    · have kk : ¬ (k : Int) < (n : Int) := by omega
      have hs2 : idxB l 0 = -1 := by rw [hs.out, List.drop_of_length_le (by rw [HL.out]; omega)]; rfl
      have HS2 := Lib.hid hs2
      clear hs2
      go_wp2
      go_ret
      exact ⟨by rw [HS2.out]; rfl, hE⟩
theorem containsFunc_any {w : World} {A : Option Addr} {n c : Nat} {l : List Pr} (h : PRd w A n l) (hn : n ≤ 1048576) : Calls Try.prog 67 #[.slice A n c, .func (.func 66) #[] #[]] w fun e w' => e = .returned (.bool (l.any badP)) ∧ Ext w w' := by
  have HI := Lib.hid (indexFunc_any (c := c) h hn)
  have ht := idxB_any l 0
  generalize idxB l 0 = z at *
  generalize l.any badP = b at *
  go_enter Try.func67, Try.ntmps67
  go_wp2_with (go_at_call 80; (with_reducible refine HI.out.mono ?_); rintro e w2 ⟨rfl, hE2⟩)
  go_ret
  exact ⟨rfl, hE2⟩
end Go.Proofs.Ytpengejnjmicnaa
end
section
namespace Go.Proofs.Ytpengejnjmicnaa
open Go.RowKit Go.Nb
/-- Do keys rise? -/
def upB : List Pr → Bool
  | [] => true
  | [_] => true
  | p :: q :: l => Op.bytesLess p.k q.k && upB (q :: l)
theorem upB_step {l : List Pr} {k : Nat} (h : k + 1 < l.length) : upB (l.drop k) = (Op.bytesLess (l.getD k default).k (l.getD (k + 1) default).k && upB (l.drop (k + 1))) := by
  rw [drop_cons (by omega), drop_cons h]
  rfl
theorem upB_last {l : List Pr} {k : Nat} (h : l.length ≤ k + 1) : upB (l.drop k) = true := by
  cases hd : l.drop k with
  | nil => rfl
  | cons p r =>
    have : (l.drop k).length ≤ 1 := by rw [List.length_drop]; omega
    rw [hd] at this
    cases r with
    | nil => rfl
    | cons q r => simp at this
/-- May pairs be a block? -/
def mayB (l : List Pr) : Bool := decide (1 ≤ l.length) && (decide (l.length ≤ 4096) && (!(l.any badP) && upB l))
set_option maxRecDepth 100000 in
theorem may_any {w : World} {A : Option Addr} {n c : Nat} {l : List Pr} (h : PRd w A n l) (hn : n ≤ 1048576) (hc : n ≤ c) : Calls Try.prog 49 #[.slice A n c] w fun e w' => e = .returned (.bool (mayB l)) ∧ Ext w w' := by
  have HL := Lib.hid h.1
  have hnc : (n : Int) ≤ (c : Int) := by omega
  have HC := Lib.hid (fun w' (hE : Ext w w') => containsFunc_any (c := c) (h.ext hE) hn)
  by_cases h1 : n < 1
  · have t1 : decide ((n : Int) < 1) = true := by simp; omega
    have e1 : mayB l = false := by unfold mayB; rw [HL.out]; simp; omega
    rw [e1]
    clear h1 e1
    go_enter Try.func49, Try.ntmps49
    go_wp2
    go_ret
    exact ⟨rfl, Ext.refl w⟩
  · have t1 : decide ((n : Int) < 1) = false := by simp; omega
    by_cases h2 : 4096 < n
    · have t2 : decide ((4096 : Int) < (n : Int)) = true := by simp; omega
      have e1 : mayB l = false := by unfold mayB; rw [HL.out]; simp; omega
      rw [e1]
      clear h1 h2 e1
      go_enter Try.func49, Try.ntmps49
      go_wp2
      go_ret
      exact ⟨rfl, Ext.refl w⟩
    · have t2 : decide ((4096 : Int) < (n : Int)) = false := by simp; omega
      have e1 : mayB l = (!(l.any badP) && upB l) := by
        unfold mayB; rw [HL.out]
        have a1 : decide (1 ≤ n) = true := by simp; omega
        have a2 : decide (n ≤ 4096) = true := by simp; omega
        rw [a1, a2]; rfl
      rw [e1]
      cases hb : l.any badP
      · rw [hb] at HC
        clear hb e1
        obtain ⟨m, rfl⟩ : ∃ m, n = m + 1 := ⟨n - 1, by omega⟩
        by_cases hm : m = 0
        · subst hm
          have hu := upB_last (l := l) (k := 0) (by rw [HL.out]; omega)
          rw [List.drop_zero] at hu
          rw [hu]
          clear hu
          go_enter Try.func49, Try.ntmps49
          go_wp2_with (go_at_call 67; (with_reducible refine (HC.out _ (Ext.refl _)).mono ?_); rintro e w2 ⟨rfl, hE2⟩)
          all_goals
            go_loopw [22] (fun iv wr => iv = .int .i64 0 ∧ Ext w wr) (fun iv _ => 0)
            case atStart => exact ⟨rfl, hE2⟩
            case round =>
              obtain ⟨rfl, hE⟩ := hrel
              go_wp2
              go_ret
              exact ⟨rfl, hE⟩
        · have hcne : ¬ c = 1 := by omega
          have hcnI : ¬ (c : Int) = 1 := by omega
          obtain ⟨g, o, rfl, hcell⟩ := h.2.at_ (by omega) (by omega)
          have HCL := Lib.hid hcell
          clear hcell
          go_enter Try.func49, Try.ntmps49
          go_wp2_with (go_at_call 67; (with_reducible refine (HC.out _ (Ext.refl _)).mono ?_); rintro e w2 ⟨rfl, hE2⟩)
          go_loopw [22] (fun iv wr => ∃ k : Nat, k ≤ m ∧ iv = .int .i64 k ∧ Hid (upB l = upB (l.drop k)) ∧ Ext w wr) (fun iv _ => m - (intOf iv).toNat)
          case atStart => exact ⟨0, by omega, rfl, Lib.hid rfl, hE2⟩
          case round =>
            obtain ⟨k, hk, rfl, hs, hE⟩ := hrel
            by_cases hk2 : k < m
            · have kk : (k : Int) < (m : Int) := by omega
              have kk0 : (0 : Int) ≤ (k : Int) := by omega
              have hst := upB_step (l := l) (k := k) (by rw [HL.out]; omega)
              have hT := toList_Bt
              have c0 : wr.cell? ⟨g, o + k * 2, none⟩ = some (.string (Bt (l.getD k default).k)) := by
                have := hE.cellv (HCL.out k 0 (by omega) (by omega))
                simpa [prF] using this
              have c2 : wr.cell? ⟨g, o + 2 + k * 2, none⟩ = some (.string (Bt (l.getD (k + 1) default).k)) := by
                have := hE.cellv (HCL.out (k + 1) 0 (by omega) (by omega))
                rw [show o + (k + 1) * 2 + 0 = o + 2 + k * 2 by omega] at this
                simpa [prF] using this
              have c3 : wr.cell? ⟨g, o + 2 + k * 2 + 1, none⟩ = some (.string (Bt (l.getD (k + 1) default).v)) := by
                have := hE.cellv (HCL.out (k + 1) 1 (by omega) (by omega))
                rw [show o + (k + 1) * 2 + 1 = o + 2 + k * 2 + 1 by omega] at this
                simpa [prF] using this
              generalize (l.getD k default).k = x at *
              generalize (l.getD (k + 1) default).k = y at *
              generalize (l.getD (k + 1) default).v = z at *
              have q0 : (wr.alloc (.cells #[.string (Bt y), .string (Bt z)] 53)).cell? ⟨wr.heap.size, 0, none⟩ = some (.string (Bt y)) := (Blk.new wr 53 _).cell 0
              have q1 : (wr.alloc (.cells #[.string (Bt y), .string (Bt z)] 53)).cell? ⟨g, o + k * 2, none⟩ = some (.string (Bt x)) := ((Ext.refl wr).alloc _).cellv c0
              have hE3 := hE.alloc (.cells #[.string (Bt y), .string (Bt z)] 53)
              cases hlt : Op.bytesLess x y
              · have hs2 : upB l = false := by rw [hs.out, hst, hlt]; rfl
                have HS2 := Lib.hid hs2
                clear hs2 hst
                go_wp2
                go_quiet (fail)
                go_wp2
                go_ret
                exact ⟨by rw [HS2.out]; rfl, hE3.drewN _⟩
              · have hs2 : upB l = upB (l.drop (k + 1)) := by rw [hs.out, hst, hlt]; rfl
                have HS2 := Lib.hid hs2
                clear hs2 hst
                go_wp2
                go_quiet (fail)
                go_wp2
                exact ⟨⟨k + 1, by omega, rfl, HS2, hE3.drewN _⟩, by simp [intOf]; omega⟩
            · have kk : ¬ (k : Int) < (m : Int) := by omega
              have hs2 : upB l = true := by rw [hs.out, upB_last (by rw [HL.out]; omega)]
              have HS2 := Lib.hid hs2
              clear hs2
              go_wp2
              go_ret
              exact ⟨by rw [HS2.out]; rfl, hE⟩
      · rw [hb] at HC
        clear hb e1
        go_enter Try.func49, Try.ntmps49
        go_wp2_with (go_at_call 67; (with_reducible refine (HC.out _ (Ext.refl _)).mono ?_); rintro e w2 ⟨rfl, hE2⟩)
        go_ret
        exact ⟨rfl, hE2⟩
end Go.Proofs.Ytpengejnjmicnaa
end
section
namespace Go.Proofs.Ytpengejnjmicnaa
open Go.RowKit Go.Nb
set_option maxRecDepth 100000 in
theorem right_any (p : Pr) (w : World) : Calls Try.prog 51 #[p.val] w fun e w' => e = .returned (.bool (!badP p)) ∧ Ext w w' := by
  obtain ⟨k, v⟩ := p
  have hP : Pr.val ⟨k, v⟩ = .agg #[.string (Bt k), .string (Bt v)] := rfl
  have hB : badP ⟨k, v⟩ = (decide (k.length < 1) || decide (1024 < k.length) || decide (8192 < v.length)) := rfl
  rw [hP, hB]
  have hk : ((Bt k).size : Int) = (k.length : Int) := rfl
  have hv : ((Bt v).size : Int) = (v.length : Int) := rfl
  have d1 : decide ((1 : Int) ≤ (k.length : Int)) = !decide (k.length < 1) := by
    rw [← decide_not, decide_eq_decide]; omega
  have d2 : decide ((k.length : Int) ≤ 1024) = !decide (1024 < k.length) := by
    rw [← decide_not, decide_eq_decide]; omega
  have d3 : decide ((v.length : Int) ≤ 8192) = !decide (8192 < v.length) := by
    rw [← decide_not, decide_eq_decide]; omega
  clear hP hB
  generalize decide (k.length < 1) = b1 at *
  generalize decide (1024 < k.length) = b2 at *
  generalize decide (8192 < v.length) = b3 at *
  cases b1
  · cases b2
    · cases b3
      all_goals
        go_enter Try.func51, Try.ntmps51
        go_wp2
        go_ret
        exact ⟨rfl, (Ext.refl w).alloc _⟩
    · go_enter Try.func51, Try.ntmps51
      go_wp2
      go_ret
      exact ⟨rfl, (Ext.refl w).alloc _⟩
  · go_enter Try.func51, Try.ntmps51
    go_wp2
    go_ret
    exact ⟨rfl, (Ext.refl w).alloc _⟩
/-- The document's round: the last key, whether there is one, the rest. -/
def riseP : Bs → Bool → List Pr → Bool
  | _, _, [] => true
  | last, has, p :: l => !badP p && (!(has && !Op.bytesLess last p.k) && riseP p.k true l)
theorem riseP_true : ∀ (l : List Pr) (p : Pr), riseP p.k true l = (!(l.any badP) && upB (p :: l))
  | [], p => rfl
  | q :: l, p => by
    rw [riseP, riseP_true l q, List.any_cons, upB]
    cases badP q <;> cases Op.bytesLess p.k q.k <;> cases l.any badP <;> simp
theorem riseP_is (l : List Pr) : riseP [] false l = (!(l.any badP) && upB l) := by
  cases l with
  | nil => rfl
  | cons q l =>
    rw [riseP, riseP_true l q, List.any_cons]
    cases badP q <;> cases l.any badP <;> simp
theorem held3_ext {w W w' : World} {a b c : Addr} {x y z : Value} (h : W.cell? a = some x ∧ W.cell? b = some y ∧ W.cell? c = some z ∧ Ext w W) (hE : Ext W w') : w'.cell? a = some x ∧ w'.cell? b = some y ∧ w'.cell? c = some z ∧ Ext w w' :=
  ⟨hE.cellv h.1, hE.cellv h.2.1, hE.cellv h.2.2.1, h.2.2.2.trans hE⟩
set_option linter.unusedSimpArgs false in
set_option maxHeartbeats 4000000 in
set_option maxRecDepth 100000 in
theorem rise_any {w : World} {A : Option Addr} {n c : Nat} {l : List Pr} (h : PRd w A n l) (hn : n ≤ 1048576) : Calls Try.prog 29 #[.slice A n c] w fun e w' => e = .returned (.bool (!(l.any badP) && upB l)) ∧ Ext w w' := by
  have HL := Lib.hid h.1
  rw [← riseP_is]
  go_enter Try.func29, Try.ntmps29
  go_wp2
  go_loopw [3] (fun iv wr => ∃ k : Nat, k ≤ n ∧ iv = .int .i64 k ∧ Hid (riseP [] false l = riseP (if k = 0 then [] else (l.getD (k - 1) default).k) (decide (0 < k)) (l.drop k)) ∧ Ext w wr) (fun iv _ => n - (intOf iv).toNat)
  case atStart => exact ⟨0, by omega, rfl, Lib.hid rfl, Ext.refl w⟩
  case round =>
    obtain ⟨k, hk, rfl, hs, hE⟩ := hrel
    by_cases hk2 : k < n
    · have kk : (k : Int) < (n : Int) := by omega
      have kk0 : (0 : Int) ≤ (k : Int) := by omega
      have hT := toList_Bt
      have hst : ∀ last has, riseP last has (l.drop k) = (!badP (l.getD k default) && (!(has && !Op.bytesLess last (l.getD k default).k) && riseP (l.getD k default).k true (l.drop (k + 1)))) := fun last has => by
        rw [drop_cons (by rw [HL.out]; exact hk2)]; rfl
      have hs1 := hs.out
      rw [hst] at hs1
      have hnx : riseP (if k + 1 = 0 then [] else (l.getD (k + 1 - 1) default).k) (decide (0 < k + 1)) (l.drop (k + 1)) = riseP (l.getD k default).k true (l.drop (k + 1)) := by simp
      have HR := Lib.hid (right_any (l.getD k default))
      obtain ⟨p, hp⟩ : ∃ p, p = l.getD k default := ⟨_, rfl⟩
      obtain ⟨g, o, rfl, c0, c1⟩ := (h.ext hE).at_ k hk2
      have hP : p.val = .agg #[.string (Bt p.k), .string (Bt p.v)] := rfl
      rw [← hp] at hs1 hnx HR c0 c1
      rw [hP] at HR
      have HNX := Lib.hid hnx
      cases hb : badP p
      · rw [hb] at HR
        by_cases hk0 : k = 0
        · subst hk0
          have o0 : o + 0 * 2 = o := by omega
          rw [o0] at c0 c1
          have hs2 : riseP [] false l = riseP p.k true (l.drop 1) := by rw [hs1, hb]; rfl
          have HS2 := Lib.hid hs2
          clear hs1 hnx hst hp hP o0 hs2
          go_wp2
          refine wp_region_noPanic ?_
          refine wp_region_held_drew (S := fun w' => w'.cell? ⟨g, o, none⟩ = some (.string (Bt p.k)) ∧ w'.cell? ⟨g, o + 1, none⟩ = some (.string (Bt p.v)) ∧ Ext w w') (by kernel_rfl) ⟨c0, c1, hE.drew⟩ (fun hHeld => ?_)
          refine wpAnyH_take (i := 0) (v := ?_) rfl (by kernel_rfl) (by kernel_rfl) (by kernel_rfl) (fun _ _ _ h => h) (Or.inl ⟨by simp [Region.wanted, yielded], ?_⟩) (by assumption) ?_
          rotate_left 1
          · (intro w hSw; (try dsimp only at hSw); go_simp; all_goals with_reducible rfl)
          try simp only [Act.put, List.getElem_toArray, List.getElem_cons_zero, List.getElem_cons_succ, List.setIfInBounds_toArray, List.set_cons_zero, List.set_cons_succ]
          refine wpAnyH_take (i := 1) (v := ?_) rfl (by kernel_rfl) (by kernel_rfl) (by kernel_rfl) (fun _ _ _ h => h) (Or.inl ⟨by simp [Region.wanted, yielded], ?_⟩) (by assumption) ?_
          rotate_left 1
          · (intro w hSw; (try dsimp only at hSw); go_simp; all_goals with_reducible rfl)
          try simp only [Act.put, List.getElem_toArray, List.getElem_cons_zero, List.getElem_cons_succ, List.setIfInBounds_toArray, List.set_cons_zero, List.set_cons_succ]
          refine wpAnyH_take (i := 2) (v := ?_) rfl (by kernel_rfl) (by kernel_rfl) (by kernel_rfl) (fun _ _ _ h => h) (Or.inl ⟨by simp [Region.wanted, yielded], ?_⟩) (by assumption) ?_
          rotate_left 1
          · (intro w hSw; (try dsimp only at hSw); go_simp; all_goals with_reducible rfl)
          try simp only [Act.put, List.getElem_toArray, List.getElem_cons_zero, List.getElem_cons_succ, List.setIfInBounds_toArray, List.set_cons_zero, List.set_cons_succ]
          refine wpAnyH_take (i := 3) (v := ?_) rfl (by kernel_rfl) (by kernel_rfl) (by kernel_rfl) (fun _ _ _ h => h) (Or.inl ⟨by simp [Region.wanted, yielded], ?_⟩) (by assumption) ?_
          rotate_left 1
          · (intro w hSw; (try dsimp only at hSw); go_simp; all_goals with_reducible rfl)
          try simp only [Act.put, List.getElem_toArray, List.getElem_cons_zero, List.getElem_cons_succ, List.setIfInBounds_toArray, List.set_cons_zero, List.set_cons_succ]
          refine wpAnyH_ready (rs := [4]) (by kernel_rfl) (by simp) ?_
          refine AllReadyH.cons rfl (fun K hK => ?_) AllReadyH.nil
          go_simp
          go_at_call 51; (with_reducible refine (HR.out _).mono ?_); rintro e w4 ⟨rfl, hE4⟩
          refine hK.out _ _ ⟨hE4.cellv c0, hE4.cellv c1, hE.drew.trans hE4⟩ (fun hHeld => ?_)
          clear hK K
          try simp only [Act.put, List.getElem_toArray, List.getElem_cons_zero, List.getElem_cons_succ, List.setIfInBounds_toArray, List.set_cons_zero, List.set_cons_succ]
          refine wpAnyH_take (i := 5) (v := ?_) rfl (by kernel_rfl) (by kernel_rfl) (by kernel_rfl) (fun _ _ _ h => h) (Or.inl ⟨by simp [Region.wanted, yielded], ?_⟩) (by assumption) ?_
          rotate_left 1
          · (intro w hSw; (try dsimp only at hSw); go_simp; all_goals with_reducible rfl)
          try simp only [Act.put, List.getElem_toArray, List.getElem_cons_zero, List.getElem_cons_succ, List.setIfInBounds_toArray, List.set_cons_zero, List.set_cons_succ]
          refine wpAnyH_take (i := 6) (v := ?_) rfl (by kernel_rfl) (by kernel_rfl) (by kernel_rfl) (fun _ _ _ h => h) (Or.inl ⟨by simp [Region.wanted, yielded], ?_⟩) (by assumption) ?_
          rotate_left 1
          · (intro w hSw; (try dsimp only at hSw); go_simp; all_goals with_reducible rfl)
          try simp only [Act.put, List.getElem_toArray, List.getElem_cons_zero, List.getElem_cons_succ, List.setIfInBounds_toArray, List.set_cons_zero, List.set_cons_succ]
          refine wpAnyH_take (i := 7) (v := ?_) rfl (by kernel_rfl) (by kernel_rfl) (by kernel_rfl) (fun _ _ _ h => h) (Or.inl ⟨by simp [Region.wanted, yielded], ?_⟩) (by assumption) ?_
          rotate_left 1
          · (intro w hSw; (try dsimp only at hSw); go_simp; all_goals with_reducible rfl)
          try simp only [Act.put, List.getElem_toArray, List.getElem_cons_zero, List.getElem_cons_succ, List.setIfInBounds_toArray, List.set_cons_zero, List.set_cons_succ]
          refine wpAnyH_take (i := 8) (v := ?_) rfl (by kernel_rfl) (by kernel_rfl) (by kernel_rfl) (fun _ _ _ h => h) (Or.inl ⟨by simp [Region.wanted, yielded], ?_⟩) (by assumption) ?_
          rotate_left 1
          · (intro w hSw; (try dsimp only at hSw); go_simp; all_goals with_reducible rfl)
          try simp only [Act.put, List.getElem_toArray, List.getElem_cons_zero, List.getElem_cons_succ, List.setIfInBounds_toArray, List.set_cons_zero, List.set_cons_succ]
          refine wpAnyH_take (i := 9) (v := ?_) rfl (by kernel_rfl) (by kernel_rfl) (by kernel_rfl) (fun _ _ _ h => h) (Or.inl ⟨by simp [Region.wanted, yielded], ?_⟩) (by assumption) ?_
          rotate_left 1
          · (intro w hSw; (try dsimp only at hSw); go_simp; all_goals with_reducible rfl)
          try simp only [Act.put, List.getElem_toArray, List.getElem_cons_zero, List.getElem_cons_succ, List.setIfInBounds_toArray, List.set_cons_zero, List.set_cons_succ]
          refine wpAnyH_take (i := 10) (v := undef) rfl (by kernel_rfl) (by kernel_rfl) (by kernel_rfl) (fun _ _ _ h => h) (Or.inr ⟨by simp [Region.wanted, yielded, undef], rfl⟩) (by assumption) ?_
          try simp only [Act.put, List.getElem_toArray, List.getElem_cons_zero, List.getElem_cons_succ, List.setIfInBounds_toArray, List.set_cons_zero, List.set_cons_succ]
          refine wpAnyH_take (i := 11) (v := undef) rfl (by kernel_rfl) (by kernel_rfl) (by kernel_rfl) (fun _ _ _ h => h) (Or.inr ⟨by simp [Region.wanted, yielded, undef], rfl⟩) (by assumption) ?_
          try simp only [Act.put, List.getElem_toArray, List.getElem_cons_zero, List.getElem_cons_succ, List.setIfInBounds_toArray, List.set_cons_zero, List.set_cons_succ]
          refine wpAnyH_take (i := 12) (v := undef) rfl (by kernel_rfl) (by kernel_rfl) (by kernel_rfl) (fun _ _ _ h => h) (Or.inr ⟨by simp [Region.wanted, yielded, undef], rfl⟩) (by assumption) ?_
          try simp only [Act.put, List.getElem_toArray, List.getElem_cons_zero, List.getElem_cons_succ, List.setIfInBounds_toArray, List.set_cons_zero, List.set_cons_succ]
          refine wpAnyH_take (i := 13) (v := undef) rfl (by kernel_rfl) (by kernel_rfl) (by kernel_rfl) (fun _ _ _ h => h) (Or.inr ⟨by simp [Region.wanted, yielded, undef], rfl⟩) (by assumption) ?_
          try simp only [Act.put, List.getElem_toArray, List.getElem_cons_zero, List.getElem_cons_succ, List.setIfInBounds_toArray, List.set_cons_zero, List.set_cons_succ]
          refine wpAnyH_take (i := 14) (v := undef) rfl (by kernel_rfl) (by kernel_rfl) (by kernel_rfl) (fun _ _ _ h => h) (Or.inr ⟨by simp [Region.wanted, yielded, undef], rfl⟩) (by assumption) ?_
          try simp only [Act.put, List.getElem_toArray, List.getElem_cons_zero, List.getElem_cons_succ, List.setIfInBounds_toArray, List.set_cons_zero, List.set_cons_succ]
          refine wpAnyH_take (i := 15) (v := undef) rfl (by kernel_rfl) (by kernel_rfl) (by kernel_rfl) (fun _ _ _ h => h) (Or.inr ⟨by simp [Region.wanted, yielded, undef], rfl⟩) (by assumption) ?_
          try simp only [Act.put, List.getElem_toArray, List.getElem_cons_zero, List.getElem_cons_succ, List.setIfInBounds_toArray, List.set_cons_zero, List.set_cons_succ]
          refine wpAnyH_take (i := 16) (v := undef) rfl (by kernel_rfl) (by kernel_rfl) (by kernel_rfl) (fun _ _ _ h => h) (Or.inr ⟨by simp [Region.wanted, yielded, undef], rfl⟩) (by assumption) ?_
          try simp only [Act.put, List.getElem_toArray, List.getElem_cons_zero, List.getElem_cons_succ, List.setIfInBounds_toArray, List.set_cons_zero, List.set_cons_succ]
          refine wpAnyH_take (i := 17) (v := undef) rfl (by kernel_rfl) (by kernel_rfl) (by kernel_rfl) (fun _ _ _ h => h) (Or.inr ⟨by simp [Region.wanted, yielded, undef], rfl⟩) (by assumption) ?_
          try simp only [Act.put, List.getElem_toArray, List.getElem_cons_zero, List.getElem_cons_succ, List.setIfInBounds_toArray, List.set_cons_zero, List.set_cons_succ]
          refine wpAnyH_take (i := 18) (v := undef) rfl (by kernel_rfl) (by kernel_rfl) (by kernel_rfl) (fun _ _ _ h => h) (Or.inr ⟨by simp [Region.wanted, yielded, undef], rfl⟩) (by assumption) ?_
          try simp only [Act.put, List.getElem_toArray, List.getElem_cons_zero, List.getElem_cons_succ, List.setIfInBounds_toArray, List.set_cons_zero, List.set_cons_succ]
          refine wpAnyH_take (i := 19) (v := undef) rfl (by kernel_rfl) (by kernel_rfl) (by kernel_rfl) (fun _ _ _ h => h) (Or.inr ⟨by simp [Region.wanted, yielded, undef], rfl⟩) (by assumption) ?_
          try simp only [Act.put, List.getElem_toArray, List.getElem_cons_zero, List.getElem_cons_succ, List.setIfInBounds_toArray, List.set_cons_zero, List.set_cons_succ]
          refine wpAnyH_take (i := 20) (v := undef) rfl (by kernel_rfl) (by kernel_rfl) (by kernel_rfl) (fun _ _ _ h => h) (Or.inr ⟨by simp [Region.wanted, yielded, undef], rfl⟩) (by assumption) ?_
          try simp only [Act.put, List.getElem_toArray, List.getElem_cons_zero, List.getElem_cons_succ, List.setIfInBounds_toArray, List.set_cons_zero, List.set_cons_succ]
          refine wpAnyH_take (i := 21) (v := undef) rfl (by kernel_rfl) (by kernel_rfl) (by kernel_rfl) (fun _ _ _ h => h) (Or.inr ⟨by simp [Region.wanted, yielded, undef], rfl⟩) (by assumption) ?_
          try simp only [Act.put, List.getElem_toArray, List.getElem_cons_zero, List.getElem_cons_succ, List.setIfInBounds_toArray, List.set_cons_zero, List.set_cons_succ]
          refine wpAnyH_take (i := 22) (v := ?_) rfl (by kernel_rfl) (by kernel_rfl) (by kernel_rfl) (fun _ _ _ h => h) (Or.inl ⟨by simp [Region.wanted, yielded], ?_⟩) (by assumption) ?_
          rotate_left 1
          · (intro w hSw; (try dsimp only at hSw); go_simp; all_goals with_reducible rfl)
          try simp only [Act.put, List.getElem_toArray, List.getElem_cons_zero, List.getElem_cons_succ, List.setIfInBounds_toArray, List.set_cons_zero, List.set_cons_succ]
          refine wpAnyH_take (i := 23) (v := ?_) rfl (by kernel_rfl) (by kernel_rfl) (by kernel_rfl) (fun _ _ _ h => h) (Or.inl ⟨by simp [Region.wanted, yielded], ?_⟩) (by assumption) ?_
          rotate_left 1
          · (intro w hSw; (try dsimp only at hSw); go_simp; all_goals with_reducible rfl)
          try simp only [Act.put, List.getElem_toArray, List.getElem_cons_zero, List.getElem_cons_succ, List.setIfInBounds_toArray, List.set_cons_zero, List.set_cons_succ]
          refine wpAnyH_done (by kernel_rfl) ?_ _
          refine NoPanic.normal ?_
          go_wp2
          exact ⟨⟨1, by omega, rfl, Lib.hid (by rw [HS2.out, ← HNX.out]), hHeld.2.2⟩, by simp [intOf]; omega⟩
        · obtain ⟨j, hj⟩ : ∃ j, j = k - 1 := ⟨_, rfl⟩
          have hwr : IntKind.i64.wrap ((k : Int) - 1) = (j : Int) := by
            rw [show ((k : Int) - 1) = (j : Int) by omega]
            exact IntWalk.i64_in _ (by omega)
          have jj : (j : Int) < (n : Int) := by omega
          have jj0 : (0 : Int) ≤ (j : Int) := by omega
          have kp : (0 : Int) < (k : Int) := by omega
          have kpn : 0 < k := by omega
          have tkp : decide ((0 : Int) < (k : Int)) = true := by simp; omega
          have tkn : decide (0 < k) = true := by simp; omega
          have cq : wr.cell? ⟨g, o + j * 2, none⟩ = some (.string (Bt (l.getD j default).k)) := by
            obtain ⟨g2, o2, e2, d0, _⟩ := (h.ext hE).at_ j (by omega)
            cases e2
            exact d0
          obtain ⟨q, hq⟩ : ∃ q, q = (l.getD j default).k := ⟨_, rfl⟩
          rw [if_neg hk0, ← hj, ← hq, hb, tkn] at hs1
          rw [← hq] at cq
          have HJ := Lib.hid hj
          cases hlt : Op.bytesLess q p.k
          · have hs2 : riseP [] false l = false := by rw [hs1, hlt]; rfl
            have HS2 := Lib.hid hs2
            clear hs1 hnx hst hp hP hs2 hj hq hk0 tkn
            go_wp2
            refine wp_region_noPanic ?_
            refine wp_region_held_drew (S := fun w' => w'.cell? ⟨g, o + k * 2, none⟩ = some (.string (Bt p.k)) ∧ w'.cell? ⟨g, o + k * 2 + 1, none⟩ = some (.string (Bt p.v)) ∧ w'.cell? ⟨g, o + j * 2, none⟩ = some (.string (Bt q)) ∧ Ext w w') (by kernel_rfl) ⟨c0, c1, cq, hE.drew⟩ (fun hHeld => ?_)
            refine wpAnyH_take (i := 0) (v := ?_) rfl (by kernel_rfl) (by kernel_rfl) (by kernel_rfl) (fun _ _ _ h => h) (Or.inl ⟨by simp [Region.wanted, yielded], ?_⟩) (by assumption) ?_
            rotate_left 1
            · (intro w hSw; (try dsimp only at hSw); go_simp; all_goals with_reducible rfl)
            try simp only [Act.put, List.getElem_toArray, List.getElem_cons_zero, List.getElem_cons_succ, List.setIfInBounds_toArray, List.set_cons_zero, List.set_cons_succ]
            refine wpAnyH_take (i := 1) (v := ?_) rfl (by kernel_rfl) (by kernel_rfl) (by kernel_rfl) (fun _ _ _ h => h) (Or.inl ⟨by simp [Region.wanted, yielded], ?_⟩) (by assumption) ?_
            rotate_left 1
            · (intro w hSw; (try dsimp only at hSw); go_simp; all_goals with_reducible rfl)
            try simp only [Act.put, List.getElem_toArray, List.getElem_cons_zero, List.getElem_cons_succ, List.setIfInBounds_toArray, List.set_cons_zero, List.set_cons_succ]
            refine wpAnyH_take (i := 2) (v := ?_) rfl (by kernel_rfl) (by kernel_rfl) (by kernel_rfl) (fun _ _ _ h => h) (Or.inl ⟨by simp [Region.wanted, yielded], ?_⟩) (by assumption) ?_
            rotate_left 1
            · (intro w hSw; (try dsimp only at hSw); go_simp; all_goals with_reducible rfl)
            try simp only [Act.put, List.getElem_toArray, List.getElem_cons_zero, List.getElem_cons_succ, List.setIfInBounds_toArray, List.set_cons_zero, List.set_cons_succ]
            refine wpAnyH_take (i := 3) (v := ?_) rfl (by kernel_rfl) (by kernel_rfl) (by kernel_rfl) (fun _ _ _ h => h) (Or.inl ⟨by simp [Region.wanted, yielded], ?_⟩) (by assumption) ?_
            rotate_left 1
            · (intro w hSw; (try dsimp only at hSw); go_simp; all_goals with_reducible rfl)
            try simp only [Act.put, List.getElem_toArray, List.getElem_cons_zero, List.getElem_cons_succ, List.setIfInBounds_toArray, List.set_cons_zero, List.set_cons_succ]
            refine wpAnyH_ready (rs := [4]) (by kernel_rfl) (by simp) ?_
            refine AllReadyH.cons rfl (fun K hK => ?_) AllReadyH.nil
            go_simp
            go_at_call 51; (with_reducible refine (HR.out _).mono ?_); rintro e w4 ⟨rfl, hE4⟩
            refine hK.out _ _ ⟨hE4.cellv c0, hE4.cellv c1, hE4.cellv cq, hE.drew.trans hE4⟩ (fun hHeld => ?_)
            clear hK K
            try simp only [Act.put, List.getElem_toArray, List.getElem_cons_zero, List.getElem_cons_succ, List.setIfInBounds_toArray, List.set_cons_zero, List.set_cons_succ]
            refine wpAnyH_take (i := 5) (v := ?_) rfl (by kernel_rfl) (by kernel_rfl) (by kernel_rfl) (fun _ _ _ h => h) (Or.inl ⟨by simp [Region.wanted, yielded], ?_⟩) (by assumption) ?_
            rotate_left 1
            · (intro w hSw; (try dsimp only at hSw); go_simp; all_goals with_reducible rfl)
            try simp only [Act.put, List.getElem_toArray, List.getElem_cons_zero, List.getElem_cons_succ, List.setIfInBounds_toArray, List.set_cons_zero, List.set_cons_succ]
            refine wpAnyH_take (i := 6) (v := ?_) rfl (by kernel_rfl) (by kernel_rfl) (by kernel_rfl) (fun _ _ _ h => h) (Or.inl ⟨by simp [Region.wanted, yielded], ?_⟩) (by assumption) ?_
            rotate_left 1
            · (intro w hSw; (try dsimp only at hSw); go_simp; all_goals with_reducible rfl)
            try simp only [Act.put, List.getElem_toArray, List.getElem_cons_zero, List.getElem_cons_succ, List.setIfInBounds_toArray, List.set_cons_zero, List.set_cons_succ]
            refine wpAnyH_take (i := 7) (v := ?_) rfl (by kernel_rfl) (by kernel_rfl) (by kernel_rfl) (fun _ _ _ h => h) (Or.inl ⟨by simp [Region.wanted, yielded], ?_⟩) (by assumption) ?_
            rotate_left 1
            · (intro w hSw; (try dsimp only at hSw); go_simp; all_goals with_reducible rfl)
            try simp only [Act.put, List.getElem_toArray, List.getElem_cons_zero, List.getElem_cons_succ, List.setIfInBounds_toArray, List.set_cons_zero, List.set_cons_succ]
            refine wpAnyH_take (i := 8) (v := ?_) rfl (by kernel_rfl) (by kernel_rfl) (by kernel_rfl) (fun _ _ _ h => h) (Or.inl ⟨by simp [Region.wanted, yielded], ?_⟩) (by assumption) ?_
            rotate_left 1
            · (intro w hSw; (try dsimp only at hSw); go_simp; all_goals with_reducible rfl)
            try simp only [Act.put, List.getElem_toArray, List.getElem_cons_zero, List.getElem_cons_succ, List.setIfInBounds_toArray, List.set_cons_zero, List.set_cons_succ]
            refine wpAnyH_take (i := 9) (v := ?_) rfl (by kernel_rfl) (by kernel_rfl) (by kernel_rfl) (fun _ _ _ h => h) (Or.inl ⟨by simp [Region.wanted, yielded], ?_⟩) (by assumption) ?_
            rotate_left 1
            · (intro w hSw; (try dsimp only at hSw); go_simp; all_goals with_reducible rfl)
            try simp only [Act.put, List.getElem_toArray, List.getElem_cons_zero, List.getElem_cons_succ, List.setIfInBounds_toArray, List.set_cons_zero, List.set_cons_succ]
            refine wpAnyH_take (i := 10) (v := ?_) rfl (by kernel_rfl) (by kernel_rfl) (by kernel_rfl) (fun _ _ _ h => h) (Or.inl ⟨by simp [Region.wanted, yielded], ?_⟩) (by assumption) ?_
            rotate_left 1
            · (intro w hSw; (try dsimp only at hSw); go_simp; all_goals with_reducible rfl)
            try simp only [Act.put, List.getElem_toArray, List.getElem_cons_zero, List.getElem_cons_succ, List.setIfInBounds_toArray, List.set_cons_zero, List.set_cons_succ]
            refine wpAnyH_take (i := 11) (v := ?_) rfl (by kernel_rfl) (by kernel_rfl) (by kernel_rfl) (fun _ _ _ h => h) (Or.inl ⟨by simp [Region.wanted, yielded], ?_⟩) (by assumption) ?_
            rotate_left 1
            · (intro w hSw; (try dsimp only at hSw); go_simp; all_goals with_reducible rfl)
            try simp only [Act.put, List.getElem_toArray, List.getElem_cons_zero, List.getElem_cons_succ, List.setIfInBounds_toArray, List.set_cons_zero, List.set_cons_succ]
            refine wpAnyH_take (i := 12) (v := ?_) rfl (by kernel_rfl) (by kernel_rfl) (by kernel_rfl) (fun _ _ _ h => h) (Or.inl ⟨by simp [Region.wanted, yielded], ?_⟩) (by assumption) ?_
            rotate_left 1
            · (intro w hSw; (try dsimp only at hSw); go_simp; all_goals with_reducible rfl)
            try simp only [Act.put, List.getElem_toArray, List.getElem_cons_zero, List.getElem_cons_succ, List.setIfInBounds_toArray, List.set_cons_zero, List.set_cons_succ]
            refine wpAnyH_take (i := 13) (v := ?_) rfl (by kernel_rfl) (by kernel_rfl) (by kernel_rfl) (fun _ _ _ h => h) (Or.inl ⟨by simp [Region.wanted, yielded], ?_⟩) (by assumption) ?_
            rotate_left 1
            · (intro w hSw; (try dsimp only at hSw); go_simp; all_goals with_reducible rfl)
            try simp only [Act.put, List.getElem_toArray, List.getElem_cons_zero, List.getElem_cons_succ, List.setIfInBounds_toArray, List.set_cons_zero, List.set_cons_succ]
            refine wpAnyH_take (i := 14) (v := ?_) rfl (by kernel_rfl) (by kernel_rfl) (by kernel_rfl) (fun _ _ _ h => h) (Or.inl ⟨by simp [Region.wanted, yielded], ?_⟩) (by assumption) ?_
            rotate_left 1
            · (intro w hSw; (try dsimp only at hSw); go_simp; all_goals with_reducible rfl)
            try simp only [Act.put, List.getElem_toArray, List.getElem_cons_zero, List.getElem_cons_succ, List.setIfInBounds_toArray, List.set_cons_zero, List.set_cons_succ]
            refine wpAnyH_take (i := 15) (v := ?_) rfl (by kernel_rfl) (by kernel_rfl) (by kernel_rfl) (fun _ _ _ h => h) (Or.inl ⟨by simp [Region.wanted, yielded], ?_⟩) (by assumption) ?_
            rotate_left 1
            · (intro w hSw; (try dsimp only at hSw); go_simp; all_goals with_reducible rfl)
            try simp only [Act.put, List.getElem_toArray, List.getElem_cons_zero, List.getElem_cons_succ, List.setIfInBounds_toArray, List.set_cons_zero, List.set_cons_succ]
            refine wpAnyH_take (i := 16) (v := ?_) rfl (by kernel_rfl) (by kernel_rfl) (by kernel_rfl) (fun _ _ _ h => h) (Or.inl ⟨by simp [Region.wanted, yielded], ?_⟩) (by assumption) ?_
            rotate_left 1
            · (intro w hSw; (try dsimp only at hSw); go_simp; all_goals with_reducible rfl)
            try simp only [Act.put, List.getElem_toArray, List.getElem_cons_zero, List.getElem_cons_succ, List.setIfInBounds_toArray, List.set_cons_zero, List.set_cons_succ]
            refine wpAnyH_take (i := 17) (v := ?_) rfl (by kernel_rfl) (by kernel_rfl) (by kernel_rfl) (fun _ _ _ h => h) (Or.inl ⟨by simp [Region.wanted, yielded], ?_⟩) (by assumption) ?_
            rotate_left 1
            · (intro w hSw; (try dsimp only at hSw); go_simp; all_goals with_reducible rfl)
            try simp only [Act.put, List.getElem_toArray, List.getElem_cons_zero, List.getElem_cons_succ, List.setIfInBounds_toArray, List.set_cons_zero, List.set_cons_succ]
            refine wpAnyH_take (i := 18) (v := ?_) rfl (by kernel_rfl) (by kernel_rfl) (by kernel_rfl) (fun _ _ _ h => h) (Or.inl ⟨by simp [Region.wanted, yielded], ?_⟩) (by assumption) ?_
            rotate_left 1
            · (intro w hSw; (try dsimp only at hSw); go_simp; all_goals with_reducible rfl)
            try simp only [Act.put, List.getElem_toArray, List.getElem_cons_zero, List.getElem_cons_succ, List.setIfInBounds_toArray, List.set_cons_zero, List.set_cons_succ]
            refine wpAnyH_take (i := 19) (v := ?_) rfl (by kernel_rfl) (by kernel_rfl) (by kernel_rfl) (fun _ _ _ h => h) (Or.inl ⟨by simp [Region.wanted, yielded], ?_⟩) (by assumption) ?_
            rotate_left 1
            · (intro w hSw; (try dsimp only at hSw); go_simp; all_goals with_reducible rfl)
            try simp only [Act.put, List.getElem_toArray, List.getElem_cons_zero, List.getElem_cons_succ, List.setIfInBounds_toArray, List.set_cons_zero, List.set_cons_succ]
            refine wpAnyH_take (i := 20) (v := ?_) rfl (by kernel_rfl) (by kernel_rfl) (by kernel_rfl) (fun _ _ _ h => h) (Or.inl ⟨by simp [Region.wanted, yielded], ?_⟩) (by assumption) ?_
            rotate_left 1
            · (intro w hSw; (try dsimp only at hSw); go_simp; all_goals with_reducible rfl)
            try simp only [Act.put, List.getElem_toArray, List.getElem_cons_zero, List.getElem_cons_succ, List.setIfInBounds_toArray, List.set_cons_zero, List.set_cons_succ]
            refine wpAnyH_take (i := 21) (v := ?_) rfl (by kernel_rfl) (by kernel_rfl) (by kernel_rfl) (fun _ _ _ h => h) (Or.inl ⟨by simp [Region.wanted, yielded], ?_⟩) (by assumption) ?_
            rotate_left 1
            · (intro w hSw; (try dsimp only at hSw); go_simp; all_goals with_reducible rfl)
            try simp only [Act.put, List.getElem_toArray, List.getElem_cons_zero, List.getElem_cons_succ, List.setIfInBounds_toArray, List.set_cons_zero, List.set_cons_succ]
            refine wpAnyH_take (i := 22) (v := ?_) rfl (by kernel_rfl) (by kernel_rfl) (by kernel_rfl) (fun _ _ _ h => h) (Or.inl ⟨by simp [Region.wanted, yielded], ?_⟩) (by assumption) ?_
            rotate_left 1
            · (intro w hSw; (try dsimp only at hSw); go_simp; all_goals with_reducible rfl)
            try simp only [Act.put, List.getElem_toArray, List.getElem_cons_zero, List.getElem_cons_succ, List.setIfInBounds_toArray, List.set_cons_zero, List.set_cons_succ]
            refine wpAnyH_take (i := 23) (v := ?_) rfl (by kernel_rfl) (by kernel_rfl) (by kernel_rfl) (fun _ _ _ h => h) (Or.inl ⟨by simp [Region.wanted, yielded], ?_⟩) (by assumption) ?_
            rotate_left 1
            · (intro w hSw; (try dsimp only at hSw); go_simp; all_goals with_reducible rfl)
            try simp only [Act.put, List.getElem_toArray, List.getElem_cons_zero, List.getElem_cons_succ, List.setIfInBounds_toArray, List.set_cons_zero, List.set_cons_succ]
            refine wpAnyH_done (by kernel_rfl) ?_ _
            refine NoPanic.normal ?_
            go_wp2
            go_ret
            exact ⟨by rw [HS2.out]; rfl, hHeld.2.2.2⟩
          · have hs2 : riseP [] false l = riseP p.k true (l.drop (k + 1)) := by rw [hs1, hlt]; rfl
            have HS2 := Lib.hid hs2
            clear hs1 hnx hst hp hP hs2 hj hq hk0 tkn
            go_wp2
            refine wp_region_noPanic ?_
            refine wp_region_held_drew (S := fun w' => w'.cell? ⟨g, o + k * 2, none⟩ = some (.string (Bt p.k)) ∧ w'.cell? ⟨g, o + k * 2 + 1, none⟩ = some (.string (Bt p.v)) ∧ w'.cell? ⟨g, o + j * 2, none⟩ = some (.string (Bt q)) ∧ Ext w w') (by kernel_rfl) ⟨c0, c1, cq, hE.drew⟩ (fun hHeld => ?_)
            refine wpAnyH_take (i := 0) (v := ?_) rfl (by kernel_rfl) (by kernel_rfl) (by kernel_rfl) (fun _ _ _ h => h) (Or.inl ⟨by simp [Region.wanted, yielded], ?_⟩) (by assumption) ?_
            rotate_left 1
            · (intro w hSw; (try dsimp only at hSw); go_simp; all_goals with_reducible rfl)
            try simp only [Act.put, List.getElem_toArray, List.getElem_cons_zero, List.getElem_cons_succ, List.setIfInBounds_toArray, List.set_cons_zero, List.set_cons_succ]
            refine wpAnyH_take (i := 1) (v := ?_) rfl (by kernel_rfl) (by kernel_rfl) (by kernel_rfl) (fun _ _ _ h => h) (Or.inl ⟨by simp [Region.wanted, yielded], ?_⟩) (by assumption) ?_
            rotate_left 1
            · (intro w hSw; (try dsimp only at hSw); go_simp; all_goals with_reducible rfl)
            try simp only [Act.put, List.getElem_toArray, List.getElem_cons_zero, List.getElem_cons_succ, List.setIfInBounds_toArray, List.set_cons_zero, List.set_cons_succ]
            refine wpAnyH_take (i := 2) (v := ?_) rfl (by kernel_rfl) (by kernel_rfl) (by kernel_rfl) (fun _ _ _ h => h) (Or.inl ⟨by simp [Region.wanted, yielded], ?_⟩) (by assumption) ?_
            rotate_left 1
            · (intro w hSw; (try dsimp only at hSw); go_simp; all_goals with_reducible rfl)
            try simp only [Act.put, List.getElem_toArray, List.getElem_cons_zero, List.getElem_cons_succ, List.setIfInBounds_toArray, List.set_cons_zero, List.set_cons_succ]
            refine wpAnyH_take (i := 3) (v := ?_) rfl (by kernel_rfl) (by kernel_rfl) (by kernel_rfl) (fun _ _ _ h => h) (Or.inl ⟨by simp [Region.wanted, yielded], ?_⟩) (by assumption) ?_
            rotate_left 1
            · (intro w hSw; (try dsimp only at hSw); go_simp; all_goals with_reducible rfl)
            try simp only [Act.put, List.getElem_toArray, List.getElem_cons_zero, List.getElem_cons_succ, List.setIfInBounds_toArray, List.set_cons_zero, List.set_cons_succ]
            refine wpAnyH_ready (rs := [4]) (by kernel_rfl) (by simp) ?_
            refine AllReadyH.cons rfl (fun K hK => ?_) AllReadyH.nil
            go_simp
            go_at_call 51; (with_reducible refine (HR.out _).mono ?_); rintro e w4 ⟨rfl, hE4⟩
            refine hK.out _ _ ⟨hE4.cellv c0, hE4.cellv c1, hE4.cellv cq, hE.drew.trans hE4⟩ (fun hHeld => ?_)
            clear hK K
            try simp only [Act.put, List.getElem_toArray, List.getElem_cons_zero, List.getElem_cons_succ, List.setIfInBounds_toArray, List.set_cons_zero, List.set_cons_succ]
            refine wpAnyH_take (i := 5) (v := ?_) rfl (by kernel_rfl) (by kernel_rfl) (by kernel_rfl) (fun _ _ _ h => h) (Or.inl ⟨by simp [Region.wanted, yielded], ?_⟩) (by assumption) ?_
            rotate_left 1
            · (intro w hSw; (try dsimp only at hSw); go_simp; all_goals with_reducible rfl)
            try simp only [Act.put, List.getElem_toArray, List.getElem_cons_zero, List.getElem_cons_succ, List.setIfInBounds_toArray, List.set_cons_zero, List.set_cons_succ]
            refine wpAnyH_take (i := 6) (v := ?_) rfl (by kernel_rfl) (by kernel_rfl) (by kernel_rfl) (fun _ _ _ h => h) (Or.inl ⟨by simp [Region.wanted, yielded], ?_⟩) (by assumption) ?_
            rotate_left 1
            · (intro w hSw; (try dsimp only at hSw); go_simp; all_goals with_reducible rfl)
            try simp only [Act.put, List.getElem_toArray, List.getElem_cons_zero, List.getElem_cons_succ, List.setIfInBounds_toArray, List.set_cons_zero, List.set_cons_succ]
            refine wpAnyH_take (i := 7) (v := ?_) rfl (by kernel_rfl) (by kernel_rfl) (by kernel_rfl) (fun _ _ _ h => h) (Or.inl ⟨by simp [Region.wanted, yielded], ?_⟩) (by assumption) ?_
            rotate_left 1
            · (intro w hSw; (try dsimp only at hSw); go_simp; all_goals with_reducible rfl)
            try simp only [Act.put, List.getElem_toArray, List.getElem_cons_zero, List.getElem_cons_succ, List.setIfInBounds_toArray, List.set_cons_zero, List.set_cons_succ]
            refine wpAnyH_take (i := 8) (v := ?_) rfl (by kernel_rfl) (by kernel_rfl) (by kernel_rfl) (fun _ _ _ h => h) (Or.inl ⟨by simp [Region.wanted, yielded], ?_⟩) (by assumption) ?_
            rotate_left 1
            · (intro w hSw; (try dsimp only at hSw); go_simp; all_goals with_reducible rfl)
            try simp only [Act.put, List.getElem_toArray, List.getElem_cons_zero, List.getElem_cons_succ, List.setIfInBounds_toArray, List.set_cons_zero, List.set_cons_succ]
            refine wpAnyH_take (i := 9) (v := ?_) rfl (by kernel_rfl) (by kernel_rfl) (by kernel_rfl) (fun _ _ _ h => h) (Or.inl ⟨by simp [Region.wanted, yielded], ?_⟩) (by assumption) ?_
            rotate_left 1
            · (intro w hSw; (try dsimp only at hSw); go_simp; all_goals with_reducible rfl)
            try simp only [Act.put, List.getElem_toArray, List.getElem_cons_zero, List.getElem_cons_succ, List.setIfInBounds_toArray, List.set_cons_zero, List.set_cons_succ]
            refine wpAnyH_take (i := 10) (v := ?_) rfl (by kernel_rfl) (by kernel_rfl) (by kernel_rfl) (fun _ _ _ h => h) (Or.inl ⟨by simp [Region.wanted, yielded], ?_⟩) (by assumption) ?_
            rotate_left 1
            · (intro w hSw; (try dsimp only at hSw); go_simp; all_goals with_reducible rfl)
            try simp only [Act.put, List.getElem_toArray, List.getElem_cons_zero, List.getElem_cons_succ, List.setIfInBounds_toArray, List.set_cons_zero, List.set_cons_succ]
            refine wpAnyH_take (i := 11) (v := ?_) rfl (by kernel_rfl) (by kernel_rfl) (by kernel_rfl) (fun _ _ _ h => h) (Or.inl ⟨by simp [Region.wanted, yielded], ?_⟩) (by assumption) ?_
            rotate_left 1
            · (intro w hSw; (try dsimp only at hSw); go_simp; all_goals with_reducible rfl)
            try simp only [Act.put, List.getElem_toArray, List.getElem_cons_zero, List.getElem_cons_succ, List.setIfInBounds_toArray, List.set_cons_zero, List.set_cons_succ]
            refine wpAnyH_take (i := 12) (v := ?_) rfl (by kernel_rfl) (by kernel_rfl) (by kernel_rfl) (fun _ _ _ h => h) (Or.inl ⟨by simp [Region.wanted, yielded], ?_⟩) (by assumption) ?_
            rotate_left 1
            · (intro w hSw; (try dsimp only at hSw); go_simp; all_goals with_reducible rfl)
            try simp only [Act.put, List.getElem_toArray, List.getElem_cons_zero, List.getElem_cons_succ, List.setIfInBounds_toArray, List.set_cons_zero, List.set_cons_succ]
            refine wpAnyH_take (i := 13) (v := ?_) rfl (by kernel_rfl) (by kernel_rfl) (by kernel_rfl) (fun _ _ _ h => h) (Or.inl ⟨by simp [Region.wanted, yielded], ?_⟩) (by assumption) ?_
            rotate_left 1
            · (intro w hSw; (try dsimp only at hSw); go_simp; all_goals with_reducible rfl)
            try simp only [Act.put, List.getElem_toArray, List.getElem_cons_zero, List.getElem_cons_succ, List.setIfInBounds_toArray, List.set_cons_zero, List.set_cons_succ]
            refine wpAnyH_take (i := 14) (v := ?_) rfl (by kernel_rfl) (by kernel_rfl) (by kernel_rfl) (fun _ _ _ h => h) (Or.inl ⟨by simp [Region.wanted, yielded], ?_⟩) (by assumption) ?_
            rotate_left 1
            · (intro w hSw; (try dsimp only at hSw); go_simp; all_goals with_reducible rfl)
            try simp only [Act.put, List.getElem_toArray, List.getElem_cons_zero, List.getElem_cons_succ, List.setIfInBounds_toArray, List.set_cons_zero, List.set_cons_succ]
            refine wpAnyH_take (i := 15) (v := ?_) rfl (by kernel_rfl) (by kernel_rfl) (by kernel_rfl) (fun _ _ _ h => h) (Or.inl ⟨by simp [Region.wanted, yielded], ?_⟩) (by assumption) ?_
            rotate_left 1
            · (intro w hSw; (try dsimp only at hSw); go_simp; all_goals with_reducible rfl)
            try simp only [Act.put, List.getElem_toArray, List.getElem_cons_zero, List.getElem_cons_succ, List.setIfInBounds_toArray, List.set_cons_zero, List.set_cons_succ]
            refine wpAnyH_take (i := 16) (v := ?_) rfl (by kernel_rfl) (by kernel_rfl) (by kernel_rfl) (fun _ _ _ h => h) (Or.inl ⟨by simp [Region.wanted, yielded], ?_⟩) (by assumption) ?_
            rotate_left 1
            · (intro w hSw; (try dsimp only at hSw); go_simp; all_goals with_reducible rfl)
            try simp only [Act.put, List.getElem_toArray, List.getElem_cons_zero, List.getElem_cons_succ, List.setIfInBounds_toArray, List.set_cons_zero, List.set_cons_succ]
            refine wpAnyH_take (i := 17) (v := ?_) rfl (by kernel_rfl) (by kernel_rfl) (by kernel_rfl) (fun _ _ _ h => h) (Or.inl ⟨by simp [Region.wanted, yielded], ?_⟩) (by assumption) ?_
            rotate_left 1
            · (intro w hSw; (try dsimp only at hSw); go_simp; all_goals with_reducible rfl)
            try simp only [Act.put, List.getElem_toArray, List.getElem_cons_zero, List.getElem_cons_succ, List.setIfInBounds_toArray, List.set_cons_zero, List.set_cons_succ]
            refine wpAnyH_take (i := 18) (v := ?_) rfl (by kernel_rfl) (by kernel_rfl) (by kernel_rfl) (fun _ _ _ h => h) (Or.inl ⟨by simp [Region.wanted, yielded], ?_⟩) (by assumption) ?_
            rotate_left 1
            · (intro w hSw; (try dsimp only at hSw); go_simp; all_goals with_reducible rfl)
            try simp only [Act.put, List.getElem_toArray, List.getElem_cons_zero, List.getElem_cons_succ, List.setIfInBounds_toArray, List.set_cons_zero, List.set_cons_succ]
            refine wpAnyH_take (i := 19) (v := ?_) rfl (by kernel_rfl) (by kernel_rfl) (by kernel_rfl) (fun _ _ _ h => h) (Or.inl ⟨by simp [Region.wanted, yielded], ?_⟩) (by assumption) ?_
            rotate_left 1
            · (intro w hSw; (try dsimp only at hSw); go_simp; all_goals with_reducible rfl)
            try simp only [Act.put, List.getElem_toArray, List.getElem_cons_zero, List.getElem_cons_succ, List.setIfInBounds_toArray, List.set_cons_zero, List.set_cons_succ]
            refine wpAnyH_take (i := 20) (v := ?_) rfl (by kernel_rfl) (by kernel_rfl) (by kernel_rfl) (fun _ _ _ h => h) (Or.inl ⟨by simp [Region.wanted, yielded], ?_⟩) (by assumption) ?_
            rotate_left 1
            · (intro w hSw; (try dsimp only at hSw); go_simp; all_goals with_reducible rfl)
            try simp only [Act.put, List.getElem_toArray, List.getElem_cons_zero, List.getElem_cons_succ, List.setIfInBounds_toArray, List.set_cons_zero, List.set_cons_succ]
            refine wpAnyH_take (i := 21) (v := ?_) rfl (by kernel_rfl) (by kernel_rfl) (by kernel_rfl) (fun _ _ _ h => h) (Or.inl ⟨by simp [Region.wanted, yielded], ?_⟩) (by assumption) ?_
            rotate_left 1
            · (intro w hSw; (try dsimp only at hSw); go_simp; all_goals with_reducible rfl)
            try simp only [Act.put, List.getElem_toArray, List.getElem_cons_zero, List.getElem_cons_succ, List.setIfInBounds_toArray, List.set_cons_zero, List.set_cons_succ]
            refine wpAnyH_take (i := 22) (v := ?_) rfl (by kernel_rfl) (by kernel_rfl) (by kernel_rfl) (fun _ _ _ h => h) (Or.inl ⟨by simp [Region.wanted, yielded], ?_⟩) (by assumption) ?_
            rotate_left 1
            · (intro w hSw; (try dsimp only at hSw); go_simp; all_goals with_reducible rfl)
            try simp only [Act.put, List.getElem_toArray, List.getElem_cons_zero, List.getElem_cons_succ, List.setIfInBounds_toArray, List.set_cons_zero, List.set_cons_succ]
            refine wpAnyH_take (i := 23) (v := ?_) rfl (by kernel_rfl) (by kernel_rfl) (by kernel_rfl) (fun _ _ _ h => h) (Or.inl ⟨by simp [Region.wanted, yielded], ?_⟩) (by assumption) ?_
            rotate_left 1
            · (intro w hSw; (try dsimp only at hSw); go_simp; all_goals with_reducible rfl)
            try simp only [Act.put, List.getElem_toArray, List.getElem_cons_zero, List.getElem_cons_succ, List.setIfInBounds_toArray, List.set_cons_zero, List.set_cons_succ]
            refine wpAnyH_done (by kernel_rfl) ?_ _
            refine NoPanic.normal ?_
            go_wp2
            exact ⟨⟨k + 1, by omega, rfl, Lib.hid (by rw [HS2.out, ← HNX.out]), hHeld.2.2.2⟩, by simp [intOf]; omega⟩
      · rw [hb] at HR
        have hs2 : riseP [] false l = false := by rw [hs1, hb]; rfl
        have HS2 := Lib.hid hs2
        clear hs1 hnx hst hp hP hs2
        go_wp2
        refine wp_region_noPanic ?_
        refine wp_region_held_drew (S := fun w' => w'.cell? ⟨g, o + k * 2, none⟩ = some (.string (Bt p.k)) ∧ w'.cell? ⟨g, o + k * 2 + 1, none⟩ = some (.string (Bt p.v)) ∧ Ext w w') (by kernel_rfl) ⟨c0, c1, hE.drew⟩ (fun hHeld => ?_)
        refine wpAnyH_take (i := 0) (v := ?_) rfl (by kernel_rfl) (by kernel_rfl) (by kernel_rfl) (fun _ _ _ h => h) (Or.inl ⟨by simp [Region.wanted, yielded], ?_⟩) (by assumption) ?_
        rotate_left 1
        · (intro w hSw; (try dsimp only at hSw); go_simp; all_goals with_reducible rfl)
        try simp only [Act.put, List.getElem_toArray, List.getElem_cons_zero, List.getElem_cons_succ, List.setIfInBounds_toArray, List.set_cons_zero, List.set_cons_succ]
        refine wpAnyH_take (i := 1) (v := ?_) rfl (by kernel_rfl) (by kernel_rfl) (by kernel_rfl) (fun _ _ _ h => h) (Or.inl ⟨by simp [Region.wanted, yielded], ?_⟩) (by assumption) ?_
        rotate_left 1
        · (intro w hSw; (try dsimp only at hSw); go_simp; all_goals with_reducible rfl)
        try simp only [Act.put, List.getElem_toArray, List.getElem_cons_zero, List.getElem_cons_succ, List.setIfInBounds_toArray, List.set_cons_zero, List.set_cons_succ]
        refine wpAnyH_take (i := 2) (v := ?_) rfl (by kernel_rfl) (by kernel_rfl) (by kernel_rfl) (fun _ _ _ h => h) (Or.inl ⟨by simp [Region.wanted, yielded], ?_⟩) (by assumption) ?_
        rotate_left 1
        · (intro w hSw; (try dsimp only at hSw); go_simp; all_goals with_reducible rfl)
        try simp only [Act.put, List.getElem_toArray, List.getElem_cons_zero, List.getElem_cons_succ, List.setIfInBounds_toArray, List.set_cons_zero, List.set_cons_succ]
        refine wpAnyH_take (i := 3) (v := ?_) rfl (by kernel_rfl) (by kernel_rfl) (by kernel_rfl) (fun _ _ _ h => h) (Or.inl ⟨by simp [Region.wanted, yielded], ?_⟩) (by assumption) ?_
        rotate_left 1
        · (intro w hSw; (try dsimp only at hSw); go_simp; all_goals with_reducible rfl)
        try simp only [Act.put, List.getElem_toArray, List.getElem_cons_zero, List.getElem_cons_succ, List.setIfInBounds_toArray, List.set_cons_zero, List.set_cons_succ]
        refine wpAnyH_ready (rs := [4]) (by kernel_rfl) (by simp) ?_
        refine AllReadyH.cons rfl (fun K hK => ?_) AllReadyH.nil
        go_simp
        go_at_call 51; (with_reducible refine (HR.out _).mono ?_); rintro e w4 ⟨rfl, hE4⟩
        refine hK.out _ _ ⟨hE4.cellv c0, hE4.cellv c1, hE.drew.trans hE4⟩ (fun hHeld => ?_)
        clear hK K
        try simp only [Act.put, List.getElem_toArray, List.getElem_cons_zero, List.getElem_cons_succ, List.setIfInBounds_toArray, List.set_cons_zero, List.set_cons_succ]
        refine wpAnyH_take (i := 5) (v := ?_) rfl (by kernel_rfl) (by kernel_rfl) (by kernel_rfl) (fun _ _ _ h => h) (Or.inl ⟨by simp [Region.wanted, yielded], ?_⟩) (by assumption) ?_
        rotate_left 1
        · (intro w hSw; (try dsimp only at hSw); go_simp; all_goals with_reducible rfl)
        try simp only [Act.put, List.getElem_toArray, List.getElem_cons_zero, List.getElem_cons_succ, List.setIfInBounds_toArray, List.set_cons_zero, List.set_cons_succ]
        refine wpAnyH_take (i := 6) (v := ?_) rfl (by kernel_rfl) (by kernel_rfl) (by kernel_rfl) (fun _ _ _ h => h) (Or.inl ⟨by simp [Region.wanted, yielded], ?_⟩) (by assumption) ?_
        rotate_left 1
        · (intro w hSw; (try dsimp only at hSw); go_simp; all_goals with_reducible rfl)
        try simp only [Act.put, List.getElem_toArray, List.getElem_cons_zero, List.getElem_cons_succ, List.setIfInBounds_toArray, List.set_cons_zero, List.set_cons_succ]
        refine wpAnyH_take (i := 7) (v := undef) rfl (by kernel_rfl) (by kernel_rfl) (by kernel_rfl) (fun _ _ _ h => h) (Or.inr ⟨by simp [Region.wanted, yielded, undef], rfl⟩) (by assumption) ?_
        try simp only [Act.put, List.getElem_toArray, List.getElem_cons_zero, List.getElem_cons_succ, List.setIfInBounds_toArray, List.set_cons_zero, List.set_cons_succ]
        refine wpAnyH_take (i := 8) (v := undef) rfl (by kernel_rfl) (by kernel_rfl) (by kernel_rfl) (fun _ _ _ h => h) (Or.inr ⟨by simp [Region.wanted, yielded, undef], rfl⟩) (by assumption) ?_
        try simp only [Act.put, List.getElem_toArray, List.getElem_cons_zero, List.getElem_cons_succ, List.setIfInBounds_toArray, List.set_cons_zero, List.set_cons_succ]
        refine wpAnyH_take (i := 9) (v := undef) rfl (by kernel_rfl) (by kernel_rfl) (by kernel_rfl) (fun _ _ _ h => h) (Or.inr ⟨by simp [Region.wanted, yielded, undef], rfl⟩) (by assumption) ?_
        try simp only [Act.put, List.getElem_toArray, List.getElem_cons_zero, List.getElem_cons_succ, List.setIfInBounds_toArray, List.set_cons_zero, List.set_cons_succ]
        refine wpAnyH_take (i := 10) (v := undef) rfl (by kernel_rfl) (by kernel_rfl) (by kernel_rfl) (fun _ _ _ h => h) (Or.inr ⟨by simp [Region.wanted, yielded, undef], rfl⟩) (by assumption) ?_
        try simp only [Act.put, List.getElem_toArray, List.getElem_cons_zero, List.getElem_cons_succ, List.setIfInBounds_toArray, List.set_cons_zero, List.set_cons_succ]
        refine wpAnyH_take (i := 11) (v := undef) rfl (by kernel_rfl) (by kernel_rfl) (by kernel_rfl) (fun _ _ _ h => h) (Or.inr ⟨by simp [Region.wanted, yielded, undef], rfl⟩) (by assumption) ?_
        try simp only [Act.put, List.getElem_toArray, List.getElem_cons_zero, List.getElem_cons_succ, List.setIfInBounds_toArray, List.set_cons_zero, List.set_cons_succ]
        refine wpAnyH_take (i := 12) (v := undef) rfl (by kernel_rfl) (by kernel_rfl) (by kernel_rfl) (fun _ _ _ h => h) (Or.inr ⟨by simp [Region.wanted, yielded, undef], rfl⟩) (by assumption) ?_
        try simp only [Act.put, List.getElem_toArray, List.getElem_cons_zero, List.getElem_cons_succ, List.setIfInBounds_toArray, List.set_cons_zero, List.set_cons_succ]
        refine wpAnyH_take (i := 13) (v := undef) rfl (by kernel_rfl) (by kernel_rfl) (by kernel_rfl) (fun _ _ _ h => h) (Or.inr ⟨by simp [Region.wanted, yielded, undef], rfl⟩) (by assumption) ?_
        try simp only [Act.put, List.getElem_toArray, List.getElem_cons_zero, List.getElem_cons_succ, List.setIfInBounds_toArray, List.set_cons_zero, List.set_cons_succ]
        refine wpAnyH_take (i := 14) (v := undef) rfl (by kernel_rfl) (by kernel_rfl) (by kernel_rfl) (fun _ _ _ h => h) (Or.inr ⟨by simp [Region.wanted, yielded, undef], rfl⟩) (by assumption) ?_
        try simp only [Act.put, List.getElem_toArray, List.getElem_cons_zero, List.getElem_cons_succ, List.setIfInBounds_toArray, List.set_cons_zero, List.set_cons_succ]
        refine wpAnyH_take (i := 15) (v := undef) rfl (by kernel_rfl) (by kernel_rfl) (by kernel_rfl) (fun _ _ _ h => h) (Or.inr ⟨by simp [Region.wanted, yielded, undef], rfl⟩) (by assumption) ?_
        try simp only [Act.put, List.getElem_toArray, List.getElem_cons_zero, List.getElem_cons_succ, List.setIfInBounds_toArray, List.set_cons_zero, List.set_cons_succ]
        refine wpAnyH_take (i := 16) (v := undef) rfl (by kernel_rfl) (by kernel_rfl) (by kernel_rfl) (fun _ _ _ h => h) (Or.inr ⟨by simp [Region.wanted, yielded, undef], rfl⟩) (by assumption) ?_
        try simp only [Act.put, List.getElem_toArray, List.getElem_cons_zero, List.getElem_cons_succ, List.setIfInBounds_toArray, List.set_cons_zero, List.set_cons_succ]
        refine wpAnyH_take (i := 17) (v := undef) rfl (by kernel_rfl) (by kernel_rfl) (by kernel_rfl) (fun _ _ _ h => h) (Or.inr ⟨by simp [Region.wanted, yielded, undef], rfl⟩) (by assumption) ?_
        try simp only [Act.put, List.getElem_toArray, List.getElem_cons_zero, List.getElem_cons_succ, List.setIfInBounds_toArray, List.set_cons_zero, List.set_cons_succ]
        refine wpAnyH_take (i := 18) (v := undef) rfl (by kernel_rfl) (by kernel_rfl) (by kernel_rfl) (fun _ _ _ h => h) (Or.inr ⟨by simp [Region.wanted, yielded, undef], rfl⟩) (by assumption) ?_
        try simp only [Act.put, List.getElem_toArray, List.getElem_cons_zero, List.getElem_cons_succ, List.setIfInBounds_toArray, List.set_cons_zero, List.set_cons_succ]
        refine wpAnyH_take (i := 19) (v := undef) rfl (by kernel_rfl) (by kernel_rfl) (by kernel_rfl) (fun _ _ _ h => h) (Or.inr ⟨by simp [Region.wanted, yielded, undef], rfl⟩) (by assumption) ?_
        try simp only [Act.put, List.getElem_toArray, List.getElem_cons_zero, List.getElem_cons_succ, List.setIfInBounds_toArray, List.set_cons_zero, List.set_cons_succ]
        refine wpAnyH_take (i := 20) (v := undef) rfl (by kernel_rfl) (by kernel_rfl) (by kernel_rfl) (fun _ _ _ h => h) (Or.inr ⟨by simp [Region.wanted, yielded, undef], rfl⟩) (by assumption) ?_
        try simp only [Act.put, List.getElem_toArray, List.getElem_cons_zero, List.getElem_cons_succ, List.setIfInBounds_toArray, List.set_cons_zero, List.set_cons_succ]
        refine wpAnyH_take (i := 21) (v := undef) rfl (by kernel_rfl) (by kernel_rfl) (by kernel_rfl) (fun _ _ _ h => h) (Or.inr ⟨by simp [Region.wanted, yielded, undef], rfl⟩) (by assumption) ?_
        try simp only [Act.put, List.getElem_toArray, List.getElem_cons_zero, List.getElem_cons_succ, List.setIfInBounds_toArray, List.set_cons_zero, List.set_cons_succ]
        refine wpAnyH_take (i := 22) (v := undef) rfl (by kernel_rfl) (by kernel_rfl) (by kernel_rfl) (fun _ _ _ h => h) (Or.inr ⟨by simp [Region.wanted, yielded, undef], rfl⟩) (by assumption) ?_
        try simp only [Act.put, List.getElem_toArray, List.getElem_cons_zero, List.getElem_cons_succ, List.setIfInBounds_toArray, List.set_cons_zero, List.set_cons_succ]
        refine wpAnyH_take (i := 23) (v := ?_) rfl (by kernel_rfl) (by kernel_rfl) (by kernel_rfl) (fun _ _ _ h => h) (Or.inl ⟨by simp [Region.wanted, yielded], ?_⟩) (by assumption) ?_
        rotate_left 1
        · (intro w hSw; (try dsimp only at hSw); go_simp; all_goals with_reducible rfl)
        try simp only [Act.put, List.getElem_toArray, List.getElem_cons_zero, List.getElem_cons_succ, List.setIfInBounds_toArray, List.set_cons_zero, List.set_cons_succ]
        refine wpAnyH_done (by kernel_rfl) ?_ _
        refine NoPanic.normal ?_
        go_wp2
        go_ret
        exact ⟨by rw [HS2.out]; rfl, hHeld.2.2⟩
    · have kk : ¬ (k : Int) < (n : Int) := by omega
      have hs2 : riseP [] false l = true := by rw [hs.out, List.drop_of_length_le (by rw [HL.out]; omega)]; rfl
      have HS2 := Lib.hid hs2
      clear hs2
      go_wp2
      go_ret
      exact ⟨by rw [HS2.out]; rfl, hE⟩
set_option maxRecDepth 100000 in
theorem may_ref {w : World} {A : Option Addr} {n c : Nat} {l : List Pr} (h : PRd w A n l) (hn : n ≤ 1048576) : Calls Try.prog 61 #[.slice A n c] w fun e w' => e = .returned (.bool (mayB l)) ∧ Ext w w' := by
  have HL := Lib.hid h.1
  have HC := Lib.hid (rise_any (c := c) h hn)
  by_cases h1 : n < 1
  · have t1 : decide ((1 : Int) ≤ (n : Int)) = false := by simp; omega
    have e1 : mayB l = false := by unfold mayB; rw [HL.out]; simp; omega
    rw [e1]
    clear h1 e1
    go_enter Try.func61, Try.ntmps61
    go_wp2
    go_ret
    exact ⟨rfl, Ext.refl w⟩
  · have t1 : decide ((1 : Int) ≤ (n : Int)) = true := by simp; omega
    by_cases h2 : 4096 < n
    · have t2 : decide ((n : Int) ≤ 4096) = false := by simp; omega
      have e1 : mayB l = false := by unfold mayB; rw [HL.out]; simp; omega
      rw [e1]
      clear h1 h2 e1
      go_enter Try.func61, Try.ntmps61
      go_wp2
      go_ret
      exact ⟨rfl, Ext.refl w⟩
    · have t2 : decide ((n : Int) ≤ 4096) = true := by simp; omega
      have e1 : mayB l = (!(l.any badP) && upB l) := by
        unfold mayB; rw [HL.out]
        have a1 : decide (1 ≤ n) = true := by simp; omega
        have a2 : decide (n ≤ 4096) = true := by simp; omega
        rw [a1, a2]; rfl
      rw [e1]
      generalize (!(l.any badP) && upB l) = b at *
      clear h1 h2 e1
      go_enter Try.func61, Try.ntmps61
      go_wp2_with (go_at_call 29; (with_reducible refine HC.out.mono ?_); rintro e w2 ⟨rfl, hE2⟩)
      go_ret
      exact ⟨rfl, hE2⟩
end Go.Proofs.Ytpengejnjmicnaa
end
section
namespace Go.Proofs.Ytpengejnjmicnaa
open Go.RowKit Go.Nb
def rfC (l : Bs) (e : Int) (i : Nat) : Value := if i = 0 then .string (Bt l) else .int .i64 e
/-- The document's reader. -/
def RfAt (w : World) (g : Nat) (l : Bs) (e : Int) : Prop := CellsT w 73 g 2 (rfC l e)
section
variable {w w' : World} {g : Nat} {l : Bs} {e : Int}
theorem RfAt.ext (h : RfAt w g l e) (hE : Ext w w') : RfAt w' g l e := CellsT.ext h hE
theorem RfAt.c0 (h : RfAt w g l e) : w.cell? ⟨g, 0, none⟩ = some (.string (Bt l)) := CellsT.cell h 0 (by omega)
theorem RfAt.c1 (h : RfAt w g l e) : w.cell? ⟨g, 1, none⟩ = some (.int .i64 e) := CellsT.cell h 1 (by omega)
theorem RfAt.f0 (h : RfAt w g l e) : w.frozen? ⟨g, 0, none⟩ = false := CellsT.frozen h 0 (by omega)
theorem RfAt.f1 (h : RfAt w g l e) : w.frozen? ⟨g, 1, none⟩ = false := CellsT.frozen h 1 (by omega)
theorem RfAt.setE (h : RfAt w g l e) (k : Int) : RfAt (w.setCell ⟨g, 1, none⟩ (.int .i64 k)) g l k := CellsT.set_ h 1 _ (fun j hj => by
  obtain rfl | rfl : j = 0 ∨ j = 1 := by omega
  · rfl
  · rfl)
theorem RfAt.setL (h : RfAt w g l e) (l' : Bs) : RfAt (w.setCell ⟨g, 0, none⟩ (.string (Bt l'))) g l' e := CellsT.set_ h 0 _ (fun j hj => by
  obtain rfl | rfl : j = 0 ∨ j = 1 := by omega
  · rfl
  · rfl)
def num3P (g most : Nat) (l : Bs) (e : Int) (w : World) (x : Ending) (w' : World) : Prop := x = .returned (.int .u64 (numS most l e).1) ∧ RfAt w' g (numS most l e).2.1 (numS most l e).2.2 ∧ Turn (· = g) w w'
set_option maxRecDepth 100000 in
theorem num3_any {most : Nat} (h : RfAt w g l e) (hl : l.length ≤ 1048576) : Calls Try.prog 38 #[.pointer (some ⟨g, 0, none⟩), .int .u64 most] w (num3P g most l e w) := by
  have c1 := h.c1
  by_cases he : e = 0
  · have t0 : (e != 0) = false := by simpa using he
    have hp : num3P g most l e w = fun x w' => x = .returned (.int .u64 (rdNum most l).1) ∧ RfAt w' g (rdNum most l).2.1 (rdNum most l).2.2 ∧ Turn (· = g) w w' := by
      unfold num3P numS; rw [if_pos he]
    rw [hp]
    have c0 := h.c0
    have hn := readL_n l
    have HR := read_ref (Bt l) hl w
    have hrd : rdNum most l = if (readL l).2.2 ≠ 0 then (0, l, (readL l).2.2) else if most < (readL l).1 then (0, l, 9) else ((readL l).1, l.drop (readL l).2.1, 0) := rfl
    have HRD : ReadIs (Bt l) w = fun e' w' => e' = .returned (.tuple #[.int .u64 (readL l).1, .int .i64 (readL l).2.1, .int .i64 (readL l).2.2]) ∧ Ext w w' := rfl
    rw [HRD] at HR
    obtain ⟨x, hxx⟩ : ∃ x, x = (readL l).1 := ⟨_, rfl⟩
    obtain ⟨n, hnn⟩ : ∃ x, x = (readL l).2.1 := ⟨_, rfl⟩
    obtain ⟨k, hkk⟩ : ∃ x, x = (readL l).2.2 := ⟨_, rfl⟩
    rw [← hxx, ← hnn, ← hkk] at HR hrd
    rw [← hnn] at hn
    have HR := Lib.hid HR
    clear hxx hnn hkk HRD hp
    have hsl := slice_str l n hn
    have hsl2 := slice_str2 l n hn
    by_cases hk : k = 0
    · have t1 : (k != 0) = false := by simpa using hk
      have t1b : (k == 0) = true := by simpa using hk
      by_cases hm : most < x
      · have t2 : decide (most < x) = true := by simpa using hm
        rw [if_neg (by simpa using hk), if_pos hm] at hrd
        rw [hrd]
        clear hrd hm hk he
        go_enter Try.func38, Try.ntmps38
        go_wp2_with (go_at_call 59; (with_reducible refine HR.out.mono ?_); rintro e1 w1 ⟨rfl, hE⟩; have h1 := h.ext hE; have d0 := h1.c0; have d1 := h1.c1; have f0 := h1.f0; have f1 := h1.f1)
        go_ret
        exact ⟨rfl, h1.setE 9, (Turn.of hE).trans (Turn.set_ (H := (· = g)) (a := ⟨g, 1, none⟩) rfl _)⟩
      · have t2 : decide (most < x) = false := by simpa using hm
        rw [if_neg (by simpa using hk), if_neg hm] at hrd
        rw [hrd]
        clear hrd hm
        go_enter Try.func38, Try.ntmps38
        go_wp2_with (go_at_call 59; (with_reducible refine HR.out.mono ?_); rintro e1 w1 ⟨rfl, hE⟩; have h1 := h.ext hE; have d0 := h1.c0; have d1 := h1.c1; have f0 := h1.f0; have f1 := h1.f1)
        go_ret
        refine ⟨rfl, ?_, (Turn.of hE).trans (Turn.set_ (H := (· = g)) (a := ⟨g, 0, none⟩) rfl _)⟩
        have := h1.setL (l.drop n)
        rw [he] at this
        exact this
    · have t1 : (k != 0) = true := by simpa using hk
      have t1b : (k == 0) = false := by simpa using hk
      rw [if_pos hk] at hrd
      rw [hrd]
      clear hrd hk he
      go_enter Try.func38, Try.ntmps38
      go_wp2_with (go_at_call 59; (with_reducible refine HR.out.mono ?_); rintro e1 w1 ⟨rfl, hE⟩; have h1 := h.ext hE; have d0 := h1.c0; have d1 := h1.c1; have f0 := h1.f0; have f1 := h1.f1)
      go_ret
      exact ⟨rfl, h1.setE k, (Turn.of hE).trans (Turn.set_ (H := (· = g)) (a := ⟨g, 1, none⟩) rfl _)⟩
  · have t0 : (e != 0) = true := by simpa using he
    have hp : num3P g most l e w = fun x w' => x = .returned (.int .u64 0) ∧ RfAt w' g l e ∧ Turn (· = g) w w' := by
      unfold num3P numS; rw [if_neg he]; rfl
    rw [hp]
    clear hp he
    go_enter Try.func38, Try.ntmps38
    go_wp2
    go_ret
    exact ⟨rfl, h, Turn.refl w⟩
end
end Go.Proofs.Ytpengejnjmicnaa
end
