import Derived.Test.YtimhekdfajakbaaR3
namespace Go.Proofs.Ytimhekdfajakbaa
open Go.RowKit
/-- A rack's own blocks. -/
def Pl.has (p : Pl) (k : Nat) : Prop := k = p.gR ∨ k = p.gD ∨ ∃ d, d < p.nd ∧ k = p.gS d
/-- Only a rack's own blocks have turned, and what is new. -/
structure Chg (p : Pl) (w w' : World) : Prop where
  os : w'.os = w.os
  tape : w'.tape = w.tape
  output : w'.output = w.output
  size : w.heap.size ≤ w'.heap.size
  block : ∀ k, k < w.heap.size → ¬ p.has k → w'.heap[k]? = w.heap[k]?
theorem Chg.of {p : Pl} {w w' : World} (h : Ext w w') : Chg p w w' := ⟨h.os, h.tape, h.output, h.size, fun k hk _ => h.block k hk⟩
theorem Chg.trans {p : Pl} {w w1 w2 : World} (h : Chg p w w1) (k : Chg p w1 w2) : Chg p w w2 :=
  ⟨k.os.trans h.os, k.tape.trans h.tape, k.output.trans h.output, Nat.le_trans h.size k.size, fun g hg hn => (k.block g (Nat.lt_of_lt_of_le hg h.size) hn).trans (h.block g hg hn)⟩
theorem Chg.set_ {p : Pl} {w : World} {a : Addr} (h : p.has a.block) (u : Value) : Chg p w (w.setCell a u) := by
  have e : Ext w w := Ext.refl w
  refine ⟨?_, ?_, ?_, ?_, fun k _ hn => Below.heap_setCell w a u k (fun e => hn (by rw [e]; exact h))⟩
  all_goals first | (simp [World.setCell]; done) | (unfold World.setCell; split <;> simp)
theorem Chg.ext {p : Pl} {W w w' : World} (h : Chg p w w') (hE : Ext W w) (hp : ∀ k, p.has k → W.heap.size ≤ k) : Ext W w' :=
  ⟨h.os.trans hE.os, h.tape.trans hE.tape, h.output.trans hE.output, Nat.le_trans hE.size h.size, fun k hk => (h.block k (Nat.lt_of_lt_of_le hk hE.size) (fun hh => by have := hp k hh; omega)).trans (hE.block k hk)⟩
theorem RackAt.other {p q : Pl} {s : St} {w w' : World} (h : RackAt w q s) (c : Chg p w w') (hd : ∀ k, q.has k → ¬ p.has k) : RackAt w' q s :=
  ⟨h.r.heap (c.block _ h.r.lt (hd _ (.inl rfl))), h.d.heap (c.block _ h.d.lt (hd _ (.inr (.inl rfl)))), fun d hl => (h.se d hl).heap (c.block _ (h.se d hl).lt (hd _ (.inr (.inr ⟨d, hl, rfl⟩)))), h.ok⟩
section
variable {p : Pl} {s : St} {w : World}
theorem RackAt.setCut (h : RackAt w p s) (c : Bool) : RackAt (w.setCell ⟨p.gR, 1, none⟩ (.bool c)) p { s with cut := c } :=
  ⟨h.r.set_ 1 _ (fun j hj => by
    match j, hj with
    | 0, _ => rfl
    | 1, _ => rfl
    | 2, _ => rfl), h.d.far (fun e => h.ok.rd e.symm) _, fun d hd => (h.se d hd).far (fun e => h.ok.rs d hd e.symm) _, { h.ok with }⟩
theorem RackAt.setLeft (h : RackAt w p s) (n : Int) : RackAt (w.setCell ⟨p.gR, 2, none⟩ (.int .i64 n)) p { s with left := n } :=
  ⟨h.r.set_ 2 _ (fun j hj => by
    match j, hj with
    | 0, _ => rfl
    | 1, _ => rfl
    | 2, _ => rfl), h.d.far (fun e => h.ok.rd e.symm) _, fun d hd => (h.se d hd).far (fun e => h.ok.rs d hd e.symm) _, { h.ok with }⟩
def setN (f : Nat → Nat) (d v : Nat) : Nat → Nat := fun i => if i = d then v else f i
def setNN {α : Type} (f : Nat → Nat → α) (d i : Nat) (v : α) : Nat → Nat → α := fun a b => if a = d ∧ b = i then v else f a b
theorem RackAt.setCnt (h : RackAt w p s) (d v : Nat) (_ : d < p.nd) : RackAt (w.setCell ⟨p.gD, d * 2 + 1, none⟩ (.int .u64 v)) p { s with cnt := setN s.cnt d v } :=
  ⟨h.r.far h.ok.rd _, h.d.set_ (d * 2 + 1) _ (fun j hj => by
    unfold drC
    by_cases e : j = d * 2 + 1
    · subst e
      rw [if_neg (by omega), if_pos rfl]
      simp only [setN]
      rw [if_pos (by omega)]
    · rw [if_neg e]
      by_cases e2 : j % 2 = 0
      · rw [if_pos e2, if_pos e2]
      · rw [if_neg e2, if_neg e2]
        simp only [setN]
        rw [if_neg (by omega)]), fun x hx => (h.se x hx).far (fun e => h.ok.ds x hx e.symm) _, { h.ok with }⟩
theorem RackAt.setBad (h : RackAt w p s) (d x : Nat) (b : Bool) (hd : d < p.nd) (_ : x < p.ns) : RackAt (w.setCell ⟨p.gS d, x * 65 + 64, none⟩ (.bool b)) p { s with bad := setNN s.bad d x b } :=
  ⟨h.r.far (h.ok.rs d hd) _, h.d.far (h.ok.ds d hd) _, fun y hy => by
    by_cases e : y = d
    · subst e
      exact (h.se y hy).set_ (x * 65 + 64) _ (fun j hj => by
        unfold seC
        by_cases e : j = x * 65 + 64
        · subst e
          rw [if_pos (by omega), if_pos rfl]
          simp only [setNN]
          rw [if_pos ⟨trivial, by omega⟩]
        · rw [if_neg e]
          by_cases e2 : j % 65 = 64
          · rw [if_pos e2, if_pos e2]
            simp only [setNN]
            rw [if_neg (by omega)]
          · rw [if_neg e2, if_neg e2])
    · have h2 := (h.se y hy).far (p := ⟨p.gS d, x * 65 + 64, none⟩) (fun e3 => e (h.ok.ss y d hy hd e3)) (.bool b)
      exact h2.congr (fun j hj => by
        unfold seC
        simp only [setNN]
        by_cases e2 : j % 65 = 64
        · rw [if_pos e2, if_pos e2, if_neg (by omega)]
        · rw [if_neg e2, if_neg e2]), { h.ok with }⟩
theorem drives_ok (h : RackAt w p s) : Calls Try.prog 16 #[.pointer (some ⟨p.gR, 0, none⟩)] w fun e w' => e = .returned (.int .i64 p.nd) ∧ Ext w w' := by
  go_enter Try.func16, Try.ntmps16
  go_wp2_with (go_at_call 30; (with_reducible refine (none_ok p s _ h).mono ?_); rintro e w0 ⟨rfl, hO⟩; have h0 := (h.ext hO).r0)
  go_ret
  exact ⟨rfl, hO⟩
theorem sectors_ok (h : RackAt w p s) : Calls Try.prog 17 #[.pointer (some ⟨p.gR, 0, none⟩)] w fun e w' => e = .returned (.int .i64 p.ns) ∧ Ext w w' := by
  have n0 : (0 : Int) < (p.nd : Int) := by have := h.ok.nd1; omega
  have hn0 : 0 < p.nd := by omega
  go_enter Try.func17, Try.ntmps17
  go_wp2_with (go_at_call 30; (with_reducible refine (none_ok p s _ h).mono ?_); rintro e w0 ⟨rfl, hO⟩; have h0 := (h.ext hO).r0; have h1 := (h.ext hO).d0 0 hn0; rw [Nat.zero_mul] at h1)
  go_ret
  exact ⟨rfl, hO⟩
theorem lift_ok (h : RackAt w p s) : Calls Try.prog 20 #[.pointer (some ⟨p.gR, 0, none⟩)] w fun e w' => e = .returned (.int .i64 0) ∧ RackAt w' p { s with cut := false } ∧ Chg p w w' := by
  have hmf := mkf
  go_enter Try.func20, Try.ntmps20
  go_wp2_with (go_at_call 29; (with_reducible refine (first_1 h _ rfl 71).mono ?_); rintro e w1 ⟨rfl, hE⟩; have h1 := (h.ext hE).r1; have f1 := (h.ext hE).r.frozen 1 (by omega))
  go_ret
  exact ⟨rfl, (h.ext hE).setCut false, (Chg.of hE).trans (Chg.set_ (.inl rfl) _)⟩
end
