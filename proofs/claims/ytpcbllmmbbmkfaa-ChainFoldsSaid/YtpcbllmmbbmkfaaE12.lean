import Derived.Test.YtpcbllmmbbmkfaaE11
namespace Go.Proofs.Ytpcbllmmbbmkfaa
open Go.RowKit
theorem take_snocK {l : List Lk} {k : Nat} (h : k < l.length) : l.take (k + 1) = l.take k ++ [l.getD k default] := by
  rw [List.take_add_one, List.getElem?_eq_getElem h, List.getD_eq_getElem?_getD, List.getElem?_eq_getElem h]; rfl
/-- Links of which none has more pieces than so many. -/
def FewK (l : List Lk) : Prop := ∀ x ∈ l, x.add.ps.length ≤ 1048576
theorem FewK.at_ {l : List Lk} (h : FewK l) (i : Nat) : (l.getD i default).add.ps.length ≤ 1048576 := by
  rcases Nat.lt_or_ge i l.length with hi | hi
  · exact h _ (by rw [List.getD_eq_getElem?_getD, List.getElem?_eq_getElem hi]; exact List.getElem_mem _)
  · rw [List.getD_eq_getElem?_getD, List.getElem?_eq_none hi]; exact Nat.zero_le _
/-- A link's seven cells. -/
def lkc (k : Lk) (v : Value) : List Value := [.int .i64 k.at_, .int .i64 k.take, .int .i64 k.add.len, v, .int .i64 k.before.row, .int .u64 k.before.st, .int .i64 k.before.len]
theorem lkc_one (k : Lk) (v : Value) (h : v.oneCell' = true) : ∀ u ∈ lkc k v, u.oneCell' = true := by
  intro u hu
  simp only [lkc, List.mem_cons, List.not_mem_nil, or_false] at hu
  rcases hu with rfl | rfl | rfl | rfl | rfl | rfl | rfl <;> first | rfl | exact h
theorem LkOw.snoc {w0 w' : World} {base n c g cap : Nat} {A : Option Addr} {l : List Lk} {r : Lk} {v : Value} {xs : List Value} (hl : l.length = n) (hx : LkVP (PsB w0 base) xs l) (ho : w0.ownsRow base 41 7 (.slice A n c) n xs) (hv : PsB w0 base v r.add.ps)
    (h1 : w'.ownsRow base 41 7 (.slice (some ⟨g, 0, none⟩) (n + 1) cap) (n + 1) (xs ++ lkc r v)) (hg : (w0.alloc (.cells (lkc r v).toArray 41)).grownBy w' (Value.slice A n c).ownBlock) : LkOw w' base (some ⟨g, 0, none⟩) (n + 1) cap (l ++ [r]) := by
  have hE : Ext w0 (w0.alloc (.cells (lkc r v).toArray 41)) := (Ext.refl w0).alloc _
  have ho2 := World.ownsRow.ext ho hE
  exact ⟨by rw [List.length_append, hl]; rfl, _, h1, LkVP.append (hx.mono fun _ _ k => (k.ext hE).row ho2 (by decide) hg) ⟨⟨rfl, rfl, rfl, (hv.ext hE).row ho2 (by decide) hg, rfl, rfl, rfl⟩, trivial⟩⟩
/-- A row is not touched where a later block turns. -/
theorem LkOw.set {w0 w w' : World} {base n c b : Nat} {A : Option Addr} {l : List Lk} (h : LkOw w0 base A n c l) (hE : Ext w0 w) (hb : w0.heap.size ≤ b) (hbb : base ≤ b) {cs : Array Value} {fz : Nat × Nat} (hg : w.heap[b]? = some (.cells cs 41 fz)) (i j : Nat) (u v : Value) (hw : w' = (w.setCell ⟨b, i, none⟩ u).setCell ⟨b, j, none⟩ v) : LkOw w' base A n c l := by
  obtain ⟨h1, xs, h2, h3⟩ := h
  have k2 := World.ownsRow.ext h2 hE
  have hne : (Value.slice A n c).ownBlock ≠ some b := fun e => by have := own_lt h2 e; omega
  have hO : OnlyB b w w' := by rw [hw]; exact ((OnlyB.refl b w).setCell i u).setCell j v
  have hg2 : (w.setCell ⟨b, i, none⟩ u).heap[b]? = some (.cells (cs.setIfInBounds i u) 41 fz) := by
    simp [World.setCell, Array.getElem?_modify, hg]
  refine ⟨h1, xs, k2.only hO hne, h3.mono fun x ps k => ?_⟩
  rw [hw]
  exact ((k.ext hE).set hg (by decide) hbb).set hg2 (by decide) hbb
set_option maxRecDepth 100000 in
set_option maxHeartbeats 2000000 in
/-- Links of one's own: the law's. -/
theorem ownL_any {w : World} {A : Option Addr} {n c : Nat} {l : List Lk} (h : LnRd w A n l) (hn : n ≤ 100000) (hf : FewK l) : Calls Try.prog 9 #[.slice A n c] w fun e w' => ∃ A' c', e = .returned (.slice A' n c') ∧ LkOw w' w.heap.size A' n c' l ∧ Ext w w' := by
  have HL := Lib.hid h.1
  have HR := Lib.hid h
  have HF := Lib.hid hf
  clear h hf
  go_enter Try.func9, Try.ntmps9
  go_wp2
  go_loopw [3, 4] (fun ov iv wr => ∃ (k : Nat) (A' : Option Addr) (c' : Nat), k ≤ n ∧ ov = .slice A' k c' ∧ iv = .int .i64 k ∧ Hid (LkOw wr w.heap.size A' k c' (l.take k)) ∧ Ext w wr) (fun _ iv _ => n - (intOf iv).toNat)
  case atStart => exact ⟨0, none, 0, by omega, rfl, rfl, Lib.hid (LkOw.nil _ _), Ext.refl w⟩
  case round =>
    obtain ⟨k, A', c', hk, rfl, rfl, how, hE⟩ := hrel
    by_cases hk2 : k < n
    · have kk : (k : Int) < (n : Int) := by omega
      have kk0 : (0 : Int) ≤ (k : Int) := by omega
      obtain ⟨g, o, u, rfl, c0, c1, c2, c3, hv, c4, c5, c6⟩ := (HR.out.ext hE).at_ k hk2
      have f1 := HF.out.at_ k
      have HT := Lib.hid (take_snocK (l := l) (k := k) (by rw [HL.out]; exact hk2))
      obtain ⟨p, hp⟩ : ∃ p, p = l.getD k default := ⟨_, rfl⟩
      rw [← hp] at c0 c1 c2 c4 c5 c6 hv f1 HT
      obtain ⟨C1, k1, rfl, r1, r2, r3⟩ := hv
      have hEb : Ext wr (wr.alloc (.cells #[.int .i64 p.at_, .int .i64 p.take, .int .i64 p.add.len, .slice C1 p.add.ps.length k1, .int .i64 p.before.row, .int .u64 p.before.st, .int .i64 p.before.len] 41)) := (Ext.refl wr).alloc _
      have HO := Lib.hid (lownRef_any p.add ⟨C1, k1, rfl, r1.ext hEb, r2, r3⟩ f1)
      have hb := Blk.new wr 41 #[.int .i64 p.at_, .int .i64 p.take, .int .i64 p.add.len, .slice C1 p.add.ps.length k1, .int .i64 p.before.row, .int .u64 p.before.st, .int .i64 p.before.len]
      have b2 := hb.cell 2
      have b3 := hb.cell 3
      simp at b2 b3
      have HKN := Lib.hid hk2
      clear r1 r2 r3 f1 hp
      go_wp2_with (first
        | (go_at_call 22; (with_reducible refine HO.out.mono ?_); rintro e w1 ⟨D1, d1, rfl, hP1, hE1⟩; have HP1 := Lib.hid hP1; clear hP1; have q := hb.ext hE1; have s2 := q.cell 2; have s3 := q.cell 3; have s3' := (q.set_ 2 (.int .i64 p.add.len)).cell 3; have f2 := q.frozen 2; have f3 := q.frozen 3; have Q := (q.set_ 2 (.int .i64 p.add.len)).set_ 3 (.slice D1 p.add.ps.length d1); have q0 := Q.cell 0; have q1 := Q.cell 1; have q2 := Q.cell 2; have q3 := Q.cell 3; have q4 := Q.cell 4; have q5 := Q.cell 5; have q6 := Q.cell 6; have f3' := (q.set_ 2 (.int .i64 p.add.len)).frozen 3; simp at q0 q1 q2 q3 q4 q5 q6 s2 s3 s3'; have HQ := Lib.hid q; clear q)
        | (at_builtin; have hW2 := how.out.set (hEb.trans hE1) (Nat.le_refl _) hE.size HQ.out 2 3 (.int .i64 p.add.len) (.slice D1 p.add.ps.length d1) rfl; obtain ⟨HLL, xs, hxo, hxv⟩ := hW2; have hv2 := ((HP1.out w.heap.size).set (i := 2) (u := .int .i64 p.add.len) HQ.out (by decide) hE.size).set (i := 3) (u := .slice D1 p.add.ps.length d1) (HQ.out.set_ 2 (.int .i64 p.add.len)) (by decide) hE.size; refine wpList_app ((w1.setCell ⟨wr.heap.size, 2, none⟩ (.int .i64 p.add.len)).setCell ⟨wr.heap.size, 3, none⟩ (.slice D1 p.add.ps.length d1)) rfl _ _ 23 41 rfl Try.underlying23 (.agg #[.int .i64 0, .int .i64 0, .int .i64 0, .slice none 0 0, .int .i64 0, .int .u64 0, .int .i64 0]) [.int .i64 p.at_, .int .i64 p.take, .int .i64 p.add.len, .slice D1 p.add.ps.length d1, .int .i64 p.before.row, .int .u64 p.before.st, .int .i64 p.before.len] 7 72 infoLk rfl rfl (by decide) (by decide) w.heap.size (.slice A' k c') k xs rfl hxo (lkc_one p _ rfl) _ rfl (by simp [World.setCell]) (by omega) (by have h1 := hE.size; have h2 := (hEb.trans hE1).size; simp [World.setCell]; omega) ?_; intro g4 cap4 w4 hown4 hG4 hg4; have HOW := Lib.hid (LkOw.snoc HLL hxv hxo hv2 hown4 hg4); have HG := Lib.hid hG4; clear hown4 hg4 hG4 hxo hxv hv2 HLL))
      have hE2 : Ext w ((w1.setCell ⟨wr.heap.size, 2, none⟩ (.int .i64 p.add.len)).setCell ⟨wr.heap.size, 3, none⟩ (.slice D1 p.add.ps.length d1)) := (((hE.trans hEb).trans hE1).setCell (p := ⟨wr.heap.size, 2, none⟩) hE.size _).setCell (p := ⟨wr.heap.size, 3, none⟩) hE.size _
      exact ⟨⟨k + 1, _, _, by omega, rfl, rfl, Lib.hid (by rw [HT.out]; exact HOW.out), HG.out.ext hE2 (Nat.le_refl _)⟩, by simp [intOf]; omega⟩
    · obtain rfl : k = n := by omega
      have kk : ¬ (k : Int) < (k : Int) := by omega
      have HT : Hid (l.take k = l) := Lib.hid (List.take_of_length_le (by rw [HL.out]; omega))
      go_wp2
      go_ret
      exact ⟨A', c', rfl, by rw [HT.out] at how; exact how.out, hE⟩
