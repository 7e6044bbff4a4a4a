import Derived.Test.YtfelfhgfkfijgaaM24
namespace Go.Proofs.Ytfelfhgfkfijgaa
open Go.RowKit Go.Nb
theorem RefIs.new {w : World} {mo : Int} {A : Option Addr} {c : Nat} {l : List Pr} (hP : PRd w A l.length l) (hC : l.length ≤ c) (hR : RowT w A) : RefIs (w.alloc (.cells #[.int .i64 mo, .slice A l.length c] 42)) w.heap.size mo l := by
  refine ⟨A, c, CellsT.of_blk (Blk.new w 42 _) (by simp) (fun j hj => ?_), hP.ext ((Ext.refl w).alloc _), hC, hR.ext ((Ext.refl w).alloc _)⟩
  rcases (by omega : j = 0 ∨ j = 1) with rfl | rfl <;> rfl
set_option maxRecDepth 100000 in
theorem fits_ref {w : World} {r : Nat} {mo : Int} {B : Option Addr} {k cb : Nat} {l q : List Pr} (hm : RefIs w r mo l) (hn : l.length ≤ 40000) (hsz : sizeP l ≤ 68719476736) (hq : PRd w B k q) (hk : k ≤ 40000) :
    Calls Try.prog 16 #[.pointer (some ⟨r, 0, none⟩), .slice B k cb] w fun e w' => e = .returned (.bool (putE mo l q == 0)) ∧ Ext w w' := by
  have HQ := Lib.hid hq
  obtain ⟨A, c, hma, hP, hC, hRT⟩ := hm
  have m0 := rf_c0 hma
  have m1 := rf_c1 hma
  have hX := ((Ext.refl w).alloc (.cells #[.int .i64 mo, .slice A l.length c] 42)).drew
  have HP0 := put_ref (cb := cb) ((RefIs.new (mo := mo) hP hC hRT).ext (Ext.refl _).drew) hn hsz (hq.ext hX) hk
  have hne0 := World.new_ne w ⟨r, 0, none⟩ m0
  have hne1 := World.new_ne w ⟨r, 1, none⟩ m1
  obtain ⟨ln, hln⟩ : ∃ ln, ln = l.length := ⟨_, rfl⟩
  rw [← hln] at m1 hX HP0
  obtain ⟨z, hz⟩ : ∃ z, z = putE mo l q := ⟨_, rfl⟩
  rw [← hz] at HP0 ⊢
  have HPU := Lib.hid HP0
  have HX := Lib.hid hX
  clear HP0 hP hC hRT hma hln hX hz hq
  go_enter Try.func16, Try.ntmps16
  go_wp2
  go_region_held3 (fun w' => w'.cell? ⟨r, 0, none⟩ = some (.int .i64 mo) ∧ w'.cell? ⟨r, 1, none⟩ = some (.slice A ln c))
    (go_keep)
    (fail)
  by_cases h0 : z = 0
  · subst h0
    go_wp2_with (go_at_call 14; (with_reducible refine HPU.out.mono ?_); rintro e w2 ⟨rfl, hM2, hT2⟩)
    go_ret
    exact ⟨rfl, hT2.ext HX.out (fun k hk => by rw [hk]; exact Nat.le_refl _)⟩
  · have tz : (z == 0) = false := by simpa using h0
    go_wp2_with (go_at_call 14; (with_reducible refine HPU.out.mono ?_); rintro e w2 ⟨rfl, hM2, hT2⟩)
    go_ret
    exact ⟨by rw [tz]; rfl, hT2.ext HX.out (fun k hk => by rw [hk]; exact Nat.le_refl _)⟩
end Go.Proofs.Ytfelfhgfkfijgaa
