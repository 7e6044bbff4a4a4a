import Derived.Test.YtbpicdjpgbboiaaW12
import Derived.Deep.RegionHeld3
namespace Go.Proofs.Ytbpicdjpgbboiaa
open Go.RowKit Go.Nb
/-- A pair. -/
structure Pr where
  k : Bs
  v : Bs
deriving DecidableEq, Inhabited
def Pr.val (p : Pr) : Value := .agg #[.string (Bt p.k), .string (Bt p.v)]
/-- A pair's bytes, behind a key. -/
def oneL (last : Bs) (p : Pr) : Bs := upL (shL last p.k) ++ (textL (p.k.drop (shL last p.k)) ++ textL p.v)
theorem textL_len (t : Bs) : (textL t).length ≤ t.length + 9 := by have := (upL_len2 t.length).2; rw [textL, List.length_append]; omega
theorem num03_any (x : Nat) (hx : x < 256 ^ 8) (w : World) : Calls Try.prog 33 #[.int .u64 x] w fun e w' => e = .returned (.string (Bt (upL x))) ∧ Ext w w' := by
  have HU := Lib.hid (up_ref x hx)
  clear hx
  go_enter Try.func33, Try.ntmps33
  go_wp2_with (go_at_call 50; (with_reducible refine (HU.out _).mono ?_); rintro e w1 ⟨rfl, hE⟩)
  go_ret
  exact ⟨rfl, hE⟩
set_option maxRecDepth 100000 in
theorem text03_any (t : Bs) (ht : t.length ≤ 65536) (w : World) : Calls Try.prog 34 #[.string (Bt t)] w fun e w' => e = .returned (.string (Bt (textL t))) ∧ Ext w w' := by
  have HU := Lib.hid (num03_any t.length (by rw [pow8]; omega))
  have hz : ((Bt t).size : Int) = (t.length : Int) := rfl
  have hw : IntKind.u64.wrap (t.length : Int) = (t.length : Int) := u64_lt (by omega)
  have hadd := fun w => add_Bt (upL t.length) t (by have := (upL_len2 t.length).2; omega) w
  have htx : upL t.length ++ t = textL t := rfl
  rw [htx] at hadd
  clear htx ht
  go_enter Try.func34, Try.ntmps34
  go_wp2_with (go_at_call 33; (with_reducible refine (HU.out _).mono ?_); rintro e w1 ⟨rfl, hE⟩)
  go_ret
  exact ⟨rfl, hE⟩
theorem slice_str (t : Bs) (n : Nat) (hn : n ≤ t.length) (w : World) : (Instr.sliceAt 9 (.string (Bt t)) (some (.int .i64 (n : Int))) none none).run Try.prog w = .ok (.string (Bt (t.drop n))) w := by
  rw [run_sliceAt_string (P := Try.prog) w 9 _ _ _ _ Try.underlying9]
  have hz : (Bt t).size = t.length := rfl
  have e1 : (Bt t).extract n t.length = Bt (t.drop n) := by rw [Bt_extract, List.take_length]
  simp [go_sem, hz, e1]
  intro h
  omega
theorem slice_str2 (t : Bs) (n : Nat) (hn : n ≤ t.length) (w : World) : (Instr.slice 9 (.string (Bt t)) (some (.int .i64 (n : Int))) none none).run Try.prog w = .ok (.string (Bt (t.drop n))) w := by
  rw [← run_sliceAt_string (P := Try.prog) w 9 _ _ _ _ Try.underlying9]
  exact slice_str t n hn w
theorem nums1 {w : World} {ga c n : Nat} (h : CellsAt w ga 1 (fun _ => .int .u64 n)) (hn : n < 256 ^ 8) : Calls Try.prog 38 #[.slice (some ⟨ga, 0, none⟩) 1 c] w fun e w' => e = .returned (.string (Bt (upL n))) ∧ Ext w w' := by
  have := nums_any (x := fun _ => n) (c := c) h (by omega) (by omega) (fun _ => hn)
  exact this
theorem texts2 {w : World} {ga c : Nat} {a b : Bs} (h : CellsAt w ga 2 (fun i => .string (Bt (if i = 0 then a else b)))) (ha : a.length ≤ 65536) (hb : b.length ≤ 65536) : Calls Try.prog 39 #[.slice (some ⟨ga, 0, none⟩) 2 c] w fun e w' => e = .returned (.string (Bt (textL a ++ textL b))) ∧ Ext w w' := by
  have := texts_any (x := fun i => if i = 0 then a else b) (c := c) h (by omega) (by omega) (fun i => by split <;> assumption)
  exact this
theorem one_new {w w' : World} {n g : Nat} (hE : Ext (w.alloc (.cells #[.int .u64 n] 48)) w') (hg : g = w.heap.size) : CellsAt w' g 1 (fun _ => .int .u64 n) := by
  rw [hg]
  exact (BoxAt.ext (BoxAt.new w 48 _) hE).c
theorem two_new {w w' : World} {a b : Bs} {g : Nat} (hE : Ext (w.alloc (.cells #[.string (Bt a), .string (Bt b)] 9)) w') (hg : g = w.heap.size) : CellsAt w' g 2 (fun i => .string (Bt (if i = 0 then a else b))) := by
  rw [hg]
  have h : CellsT (w.alloc (.cells #[.string (Bt a), .string (Bt b)] 9)) 9 w.heap.size 2 (fun i => .string (Bt (if i = 0 then a else b))) := CellsT.of_blk (Blk.new w 9 _) (by simp) (fun j hj => by
    obtain rfl | rfl : j = 0 ∨ j = 1 := by omega
    · rfl
    · rfl)
  exact (h.ext hE).c
theorem held_ext {w W w' : World} {b : Nat} {x y : Value} (h : W.cell? ⟨b, 0, none⟩ = some x ∧ W.cell? ⟨b, 1, none⟩ = some y ∧ Ext w W) (hE : Ext W w') : w'.cell? ⟨b, 0, none⟩ = some x ∧ w'.cell? ⟨b, 1, none⟩ = some y ∧ Ext w w' :=
  ⟨hE.cellv h.1, hE.cellv h.2.1, h.2.2.trans hE⟩
theorem alloc_ext (W : World) (o : Obj) : Ext W.drew (W.alloc o).drew := by
  have h := (Ext.refl W.drew).alloc o
  rw [World.alloc_drew] at h
  exact h
set_option maxRecDepth 100000 in
theorem one_any (last : Bs) (p : Pr) (hl : last.length ≤ 65536) (hk : p.k.length ≤ 65536) (hv : p.v.length ≤ 65536) (w : World) : Calls Try.prog 21 #[.string (Bt last), p.val] w fun e w' => e = .returned (.string (Bt (oneL last p))) ∧ Ext w w' := by
  obtain ⟨k, v⟩ := p
  replace hk : k.length ≤ 65536 := hk
  replace hv : v.length ≤ 65536 := hv
  have hP : Pr.val ⟨k, v⟩ = .agg #[.string (Bt k), .string (Bt v)] := rfl
  rw [hP]
  have hle := (shL_le last k).2
  obtain ⟨n, hn⟩ : ∃ n, n = shL last k := ⟨_, rfl⟩
  have h1 : oneL last ⟨k, v⟩ = upL n ++ (textL (k.drop n) ++ textL v) := by rw [hn]; rfl
  rw [h1]
  rw [← hn] at hle
  have HS := Lib.hid (fun w => shared_any last k (by omega) (by omega) w)
  rw [← hn] at HS
  have hsl := slice_str k n hle
  have hsl2 := slice_str2 k n hle
  have hnw : IntKind.u64.wrap (n : Int) = n := u64_lt (by omega)
  have hdl : (k.drop n).length ≤ 65536 := by rw [List.length_drop]; omega
  have hadd := fun w => add_Bt (upL n) (textL (k.drop n) ++ textL v) (by
    have := (upL_len2 n).2
    have := textL_len (k.drop n)
    have := textL_len v
    rw [List.length_append]; omega) w
  have hn8 : n < 256 ^ 8 := by rw [pow8]; omega
  obtain ⟨r, hr⟩ : ∃ r, r = textL (k.drop n) ++ textL v := ⟨_, rfl⟩
  have HT := Lib.hid (fun (w : World) (ga c : Nat) (h : CellsAt w ga 2 (fun i => .string (Bt (if i = 0 then k.drop n else v)))) => texts2 (c := c) h hdl hv)
  have HN := Lib.hid (fun (w : World) (ga c : Nat) (h : CellsAt w ga 1 (fun _ => .int .u64 n)) => nums1 (c := c) h hn8)
  rw [← hr] at hadd HT ⊢
  have n0 : (0 : Int) ≤ (n : Int) := by omega
  clear h1 hP hn hr hle hdl hn8 hl hk hv
  have q0 : (w.alloc (.cells #[.string (Bt k), .string (Bt v)] 36)).cell? ⟨w.heap.size, 0, none⟩ = some (.string (Bt k)) := (Blk.new w 36 _).cell 0
  have q1 : (w.alloc (.cells #[.string (Bt k), .string (Bt v)] 36)).cell? ⟨w.heap.size, 1, none⟩ = some (.string (Bt v)) := (Blk.new w 36 _).cell 1
  have HE := Lib.hid ((Ext.refl w).alloc (.cells #[.string (Bt k), .string (Bt v)] 36))
  have HQ0 := Lib.hid q0
  have HQ1 := Lib.hid q1
  clear q0 q1
  go_enter Try.func21, Try.ntmps21
  go_wp2_with (go_at_call 26; (with_reducible refine (HS.out _).mono ?_); rintro e w1 ⟨rfl, hE⟩; have c0 := hE.cellv HQ0.out; have c1 := hE.cellv HQ1.out; have hE0 := HE.out.trans hE)
  go_region_held3 (fun w' => w'.cell? ⟨w.heap.size, 0, none⟩ = some (.string (Bt k)) ∧ w'.cell? ⟨w.heap.size, 1, none⟩ = some (.string (Bt v)) ∧ Ext w w')
    (first | exact ⟨c0, c1, hE0.drew⟩ | exact held_ext (by assumption) hE5 | exact held_ext (by assumption) hE4 | exact held_ext (by assumption) ((Ext.refl _).alloc _) | exact held_ext (by assumption) (alloc_ext _ _))
    (first
     | (go_at_call 38; refine (HN.out _ _ _ (one_new (by with_reducible (first | assumption | exact (Ext.refl _).drew | exact ((Ext.refl _).alloc _).drew | exact (Ext.refl _).drew.trans hE4 | exact ((Ext.refl _).alloc _).drew.trans hE4 | exact Ext.refl _ | exact (Ext.refl _).alloc _)) (by simp))).mono ?_; rintro e w4 ⟨rfl, hE4⟩)
     | (go_at_call 39; refine (HT.out _ _ _ (two_new (by with_reducible (first | assumption | exact (Ext.refl _).drew | exact ((Ext.refl _).alloc _).drew | exact (Ext.refl _).drew.trans hE4 | exact ((Ext.refl _).alloc _).drew.trans hE4 | exact Ext.refl _ | exact (Ext.refl _).alloc _)) (by simp))).mono ?_; rintro e w5 ⟨rfl, hE5⟩))
  all_goals
    go_wp2
    go_ret
    exact ⟨rfl, (by assumption : _ ∧ _ ∧ Ext w _).2.2⟩
set_option maxRecDepth 100000 in
theorem one_ref (last : Bs) (p : Pr) (hl : last.length ≤ 65536) (hk : p.k.length ≤ 65536) (hv : p.v.length ≤ 65536) (w : World) : Calls Try.prog 17 #[.string (Bt last), p.val] w fun e w' => e = .returned (.string (Bt (oneL last p))) ∧ Ext w w' := by
  obtain ⟨k, v⟩ := p
  replace hk : k.length ≤ 65536 := hk
  replace hv : v.length ≤ 65536 := hv
  have hP : Pr.val ⟨k, v⟩ = .agg #[.string (Bt k), .string (Bt v)] := rfl
  rw [hP]
  have hle := (shL_le last k).2
  obtain ⟨n, hn⟩ : ∃ n, n = shL last k := ⟨_, rfl⟩
  have h1 : oneL last ⟨k, v⟩ = (upL n ++ textL (k.drop n)) ++ textL v := by rw [hn, List.append_assoc]; rfl
  rw [h1]
  rw [← hn] at hle
  have HS := Lib.hid (fun w => shared_ref last k (by omega) (by omega) w)
  rw [← hn] at HS
  have hsl := slice_str k n hle
  have hsl2 := slice_str2 k n hle
  have hnw : IntKind.u64.wrap (n : Int) = n := u64_lt (by omega)
  have hdl : (k.drop n).length ≤ 65536 := by rw [List.length_drop]; omega
  have hadd1 := fun w => add_Bt (upL n) (textL (k.drop n)) (by
    have := (upL_len2 n).2
    have := textL_len (k.drop n)
    omega) w
  have hadd := fun w => add_Bt (upL n ++ textL (k.drop n)) (textL v) (by
    have := (upL_len2 n).2
    have := textL_len (k.drop n)
    have := textL_len v
    rw [List.length_append]; omega) w
  have hn8 : n < 256 ^ 8 := by rw [pow8]; omega
  have HT1 := Lib.hid (text03_any (k.drop n) hdl)
  have HT2 := Lib.hid (text03_any v hv)
  have HN := Lib.hid (num03_any n hn8)
  have n0 : (0 : Int) ≤ (n : Int) := by omega
  clear h1 hP hn hle hdl hn8 hl hk hv
  have q0 : (w.alloc (.cells #[.string (Bt k), .string (Bt v)] 36)).cell? ⟨w.heap.size, 0, none⟩ = some (.string (Bt k)) := (Blk.new w 36 _).cell 0
  have q1 : (w.alloc (.cells #[.string (Bt k), .string (Bt v)] 36)).cell? ⟨w.heap.size, 1, none⟩ = some (.string (Bt v)) := (Blk.new w 36 _).cell 1
  have HE := Lib.hid ((Ext.refl w).alloc (.cells #[.string (Bt k), .string (Bt v)] 36))
  have HQ0 := Lib.hid q0
  have HQ1 := Lib.hid q1
  clear q0 q1
  go_enter Try.func17, Try.ntmps17
  go_wp2_with (go_at_call 32; (with_reducible refine (HS.out _).mono ?_); rintro e w1 ⟨rfl, hE⟩; have c0 := hE.cellv HQ0.out; have c1 := hE.cellv HQ1.out; have hE0 := HE.out.trans hE)
  go_region_held3 (fun w' => w'.cell? ⟨w.heap.size, 0, none⟩ = some (.string (Bt k)) ∧ w'.cell? ⟨w.heap.size, 1, none⟩ = some (.string (Bt v)) ∧ Ext w w')
    (first | exact ⟨c0, c1, hE0.drew⟩ | exact held_ext (by assumption) hE6 | exact held_ext (by assumption) hE5 | exact held_ext (by assumption) hE4 | exact held_ext (by assumption) ((Ext.refl _).alloc _) | exact held_ext (by assumption) (alloc_ext _ _))
    (first
     | (go_at_call 33; (with_reducible refine (HN.out _).mono ?_); rintro e w4 ⟨rfl, hE4⟩)
     | (go_at_call 34; (with_reducible refine (HT1.out _).mono ?_); rintro e w5 ⟨rfl, hE5⟩)
     | (go_at_call 34; (with_reducible refine (HT2.out _).mono ?_); rintro e w6 ⟨rfl, hE6⟩))
  all_goals
    go_wp2
    go_ret
    exact ⟨by rw [List.append_assoc]; rfl, (by assumption : _ ∧ _ ∧ Ext w _).2.2⟩
set_option maxRecDepth 100000 in
theorem size_any (last : Bs) (p : Pr) (hl : last.length ≤ 65536) (hk : p.k.length ≤ 65536) (hv : p.v.length ≤ 65536) (w : World) : Calls Try.prog 16 #[.string (Bt last), p.val] w fun e w' => e = .returned (.int .i64 (oneL last p).length) ∧ Ext w w' := by
  have HO := Lib.hid (fun w => one_any last p hl hk hv w)
  have hz : ((Bt (oneL last p)).size : Int) = ((oneL last p).length : Int) := rfl
  clear hl hk hv
  obtain ⟨k, v⟩ := p
  have hP : Pr.val ⟨k, v⟩ = .agg #[.string (Bt k), .string (Bt v)] := rfl
  rw [hP] at HO ⊢
  clear hP
  go_enter Try.func16, Try.ntmps16
  go_wp2_with (go_at_call 21; (with_reducible refine (HO.out _).mono ?_); rintro e w1 ⟨rfl, hE⟩)
  go_ret
  exact ⟨rfl, ((Ext.refl w).alloc _).trans hE⟩
