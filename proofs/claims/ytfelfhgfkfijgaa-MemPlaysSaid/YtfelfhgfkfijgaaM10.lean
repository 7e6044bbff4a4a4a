import Derived.Test.YtfelfhgfkfijgaaM9
namespace Go.Proofs.Ytfelfhgfkfijgaa
open Go.RowKit Go.Nb
/-- A mem that has these pairs. -/
def MemIs (w : World) (g : Nat) (mo : Int) (l : List Pr) : Prop := ∃ A c, MemAt w g mo A l.length c ∧ PRd w A l.length l ∧ (A = none → c = 0) ∧ l.length ≤ c ∧ RowT w A
theorem MemIs.ext {w w' : World} {g : Nat} {mo : Int} {l : List Pr} (h : MemIs w g mo l) (hE : Ext w w') : MemIs w' g mo l := by
  obtain ⟨A, c, h1, h2, h3, h4, h5⟩ := h
  exact ⟨A, c, h1.ext hE, h2.ext hE, h3, h4, h5.ext hE⟩
theorem MemIs.lt {w : World} {g : Nat} {mo : Int} {l : List Pr} (h : MemIs w g mo l) : g < w.heap.size := by
  obtain ⟨A, c, h1, _⟩ := h
  exact CellsT.lt h1
/-- What Put answers, and what is there then. -/
def putE (mo : Int) (l q : List Pr) : Int := if q.any badP = true then 4 else if mo < (sizeP (putsL l q) : Int) then 6 else 0
def putR (mo : Int) (l q : List Pr) : List Pr := if putE mo l q = 0 then putsL l q else l
theorem with_all {w : World} {g : Nat} {mo : Int} {B : Option Addr} {k cb : Nat} {l q : List Pr} (hm : MemIs w g mo l) (hu : upB l = true) (hn : l.length ≤ 40000) (hsz : sizeP l ≤ 68719476736) (hq : PRd w B k q) (hk : k ≤ 40000) :
    Calls Try.prog 23 #[.pointer (some ⟨g, 0, none⟩), .slice B k cb] w fun e w' => (putE mo l q ≠ 0 ∧ e = .returned (.tuple #[.slice none 0 0, .int .i64 (putE mo l q)]) ∧ Ext w w') ∨ (putE mo l q = 0 ∧ ∃ A c, e = .returned (.tuple #[.slice A (putsL l q).length c, .int .i64 0]) ∧ PRd w' A (putsL l q).length (putsL l q) ∧ (A = none → c = 0) ∧ (putsL l q).length ≤ c ∧ (∀ a, A = some a → w.heap.size ≤ a.block) ∧ RowT w' A ∧ Ext w w') := by
  obtain ⟨A, c, h1, h2, h3, h4, _⟩ := hm
  refine (with_any h1 h2 h3 hu hn hsz hq hk).mono ?_
  rintro e w' (⟨a, b, d⟩ | ⟨a, b, d, f⟩ | ⟨a, b, A', c', d, f, i, j, nw, rt, m⟩)
  · have hp : putE mo l q = 4 := by unfold putE; rw [if_pos a]
    rw [hp]; exact .inl ⟨by omega, b, d⟩
  · have hp : putE mo l q = 6 := by unfold putE; rw [if_neg (by rw [a]; simp), if_pos b]
    rw [hp]; exact .inl ⟨by omega, d, f⟩
  · have hp : putE mo l q = 0 := by unfold putE; rw [if_neg (by rw [a]; simp), if_neg b]
    exact .inr ⟨hp, A', c', d, f, i, j, nw, rt, m⟩
theorem new_no {mo : Int} (h : mo < 0 ∨ 65536 < mo) (w : World) : Calls Try.prog 9 #[.int .i64 mo] w fun e w' => e = .returned (.tuple #[.pointer none, .int .i64 2]) ∧ Ext w w' := by
  by_cases h1 : mo < 0
  · have t1 : decide (mo < 0) = true := by simpa using h1
    go_enter Try.func9, Try.ntmps9
    go_wp2
    go_ret2
    exact ⟨rfl, Ext.refl w⟩
  · have t1 : decide (mo < 0) = false := by simpa using h1
    have t2 : decide ((65536 : Int) < mo) = true := by simp; omega
    go_enter Try.func9, Try.ntmps9
    go_wp2
    go_ret2
    exact ⟨rfl, Ext.refl w⟩
theorem new_yes {mo : Int} (h0 : 0 ≤ mo) (h1 : mo ≤ 65536) (w : World) : Calls Try.prog 9 #[.int .i64 mo] w fun e w' => e = .returned (.tuple #[.pointer (some ⟨w.heap.size, 0, none⟩), .int .i64 0]) ∧ MemIs w' w.heap.size mo [] ∧ Ext w w' := by
  have t1 : decide (mo < 0) = false := by simp; omega
  have t2 : decide ((65536 : Int) < mo) = false := by simp; omega
  have hb : MemIs (w.alloc (.cells #[.int .i64 mo, .bool true, .slice none 0 0] 60)) w.heap.size mo [] := by
    refine ⟨none, 0, CellsT.of_blk (Blk.new w 60 _) (by simp) (fun j hj => ?_), prd_nil _, fun _ => rfl, Nat.le_refl _, fun a ha => by cases ha⟩
    rcases (by omega : j = 0 ∨ j = 1 ∨ j = 2) with rfl | rfl | rfl <;> rfl
  have HB := Lib.hid hb
  clear hb
  go_enter Try.func9, Try.ntmps9
  go_wp2
  go_ret2
  exact ⟨rfl, HB.out, (Ext.refl w).alloc _⟩
set_option maxRecDepth 100000 in
theorem put_any {w : World} {g : Nat} {mo : Int} {B : Option Addr} {k cb : Nat} {l q : List Pr} (hm : MemIs w g mo l) (hu : upB l = true) (hn : l.length ≤ 40000) (hsz : sizeP l ≤ 68719476736) (hq : PRd w B k q) (hk : k ≤ 40000) :
    Calls Try.prog 10 #[.pointer (some ⟨g, 0, none⟩), .slice B k cb] w fun e w' => e = .returned (.int .i64 (putE mo l q)) ∧ MemIs w' g mo (putR mo l q) ∧ Turn (· = g) w w' := by
  have HW := with_all (cb := cb) hm hu hn hsz hq hk
  by_cases hp : putE mo l q = 0
  · have HW2 : Hid (Calls Try.prog 23 #[.pointer (some ⟨g, 0, none⟩), .slice B k cb] w fun e w' => ∃ A c, e = .returned (.tuple #[.slice A (putsL l q).length c, .int .i64 0]) ∧ PRd w' A (putsL l q).length (putsL l q) ∧ (A = none → c = 0) ∧ (putsL l q).length ≤ c ∧ (∀ a, A = some a → w.heap.size ≤ a.block) ∧ RowT w' A ∧ Ext w w') := Lib.hid (HW.mono (by
      rintro e w' (⟨a, _⟩ | ⟨_, b⟩)
      · exact absurd hp a
      · exact b))
    have hR : putR mo l q = putsL l q := by unfold putR; rw [if_pos hp]
    rw [hp, hR]
    obtain ⟨A0, c0, hma, _⟩ := hm
    have HLT := Lib.hid (CellsT.lt hma)
    have HMA := Lib.hid hma
    obtain ⟨z, hz⟩ : ∃ z, z = putsL l q := ⟨_, rfl⟩
    rw [← hz] at HW2 ⊢
    clear HW hp hR hz hma
    go_enter Try.func10, Try.ntmps10
    go_wp2_with (go_at_call 23; (with_reducible refine HW2.out.mono ?_); rintro e w1 ⟨A1, c1, rfl, hP1, hN1, hC1, hW1, hT1, hE1⟩; have hm1 := HMA.out.ext hE1; have d2 := hm1.c2; have f2 := hm1.f2)
    go_ret
    refine ⟨rfl, ⟨A1, c1, hm1.set_ A1 z.length c1, ⟨hP1.1, fun h0 => ?_⟩, hN1, hC1, hT1.turn (Turn.set_ (H := (· = g)) (a := ⟨g, 2, none⟩) rfl _) (fun a ha => hT1.ne hm1 (by decide) a ha)⟩, (Turn.of hE1).trans (Turn.set_ (H := (· = g)) (a := ⟨g, 2, none⟩) rfl _)⟩
    obtain ⟨g1, o1, ha, hc⟩ := hP1.2 h0
    have hne : g ≠ g1 := by have h1 := hW1 _ ha; have h2 := HLT.out; simp only at h1; omega
    exact ⟨g1, o1, ha, fun i j hi hj => by rw [World.cell?_of_block (Below.heap_setCell w1 ⟨g, 2, none⟩ _ g1 (fun e => hne e.symm))]; exact hc i j hi hj⟩
  · have HW2 : Hid (Calls Try.prog 23 #[.pointer (some ⟨g, 0, none⟩), .slice B k cb] w fun e w' => e = .returned (.tuple #[.slice none 0 0, .int .i64 (putE mo l q)]) ∧ Ext w w') := Lib.hid (HW.mono (by
      rintro e w' (⟨_, b⟩ | ⟨a, _⟩)
      · exact b
      · exact absurd a hp))
    have hR : putR mo l q = l := by unfold putR; rw [if_neg hp]
    rw [hR]
    have HM := Lib.hid hm
    obtain ⟨z, hz⟩ : ∃ z, z = putE mo l q := ⟨_, rfl⟩
    rw [← hz] at HW2 hp ⊢
    have te : (z == 0) = false := by simpa using hp
    clear HW hp hR hz hm
    go_enter Try.func10, Try.ntmps10
    go_wp2_with (go_at_call 23; (with_reducible refine HW2.out.mono ?_); rintro e w1 ⟨rfl, hE1⟩)
    go_ret
    exact ⟨rfl, HM.out.ext hE1, Turn.of hE1⟩
