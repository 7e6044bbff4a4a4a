import Derived.Test.YtfelfhgfkfijgaaM4
import Derived.Laws.CopyRow
import Derived.Lib.Overlaps
import Derived.Lib.AppendZerosOnto
import Derived.Lib.AppendZeros
import Derived.Shelf.Spec.SlicesInsert
namespace Go
/-- 'copy' of elements of any size, into a row that is known whole. -/
theorem run_copy_rowN {P : Program} (w : World) (dT sT ty elem : TypeId) (sz : Nat) (g o dLen dCap : Nat) (a : Addr) (sLen sCap : Nat) (cur : Array Value) (t : TypeId) (cs : List Value)
    (hu : P.underlying dT = some (.slice elem)) (hs : (P.info? elem).map (·.size) = some sz)
    (hg : w.heap[g]? = some (.cells cur t (0, 0))) (hn : cs.length = Nat.min sLen dLen * sz)
    (hsrc : ∀ j v, cs[j]? = some v → w.cell? (a.add j) = some v) (hfit : o + cs.length ≤ cur.size) (h1 : ∀ v ∈ cs, v.oneCell' = true) :
    (Builtin.copy_ #[dT, sT] ty #[.slice (some ⟨g, o, none⟩) dLen dCap, .slice (some a) sLen sCap]).run P w =
      .ok (goInt (Nat.min sLen dLen)) (w.setRow g (cur.toList.take o ++ cs ++ cur.toList.drop (o + cs.length)).toArray) := by
  have hl := run_loadCells_list (P := P) w a cs hsrc
  have hst := run_storeCells_at P g o t cs 0 cur w hg (by simpa using hfit) h1
  cases hq : P.info? elem with
  | none => simp [hq] at hs
  | some i =>
    have hi : i.size = sz := by simpa [hq] using hs
    rw [hn] at hl
    simp [Builtin.copy_, run_underlying hu, Builtin.lenOf, Builtin.firstCells, sizeOf, typeInfo, hq, hi, hl, hst]
end Go
namespace Go.Proofs.Ytfelfhgfkfijgaa
open Go.RowKit Go.Nb
/-- What Insert leaves: a row with one element more; nothing old has turned. -/
def InsIs (base n : Nat) (xs : List Value) (w0 : World) (e : Ending) (w' : World) : Prop := ∃ A' c', e = .returned (.slice A' (n + 1) c') ∧ w'.ownsRow base 30 2 (.slice A' (n + 1) c') (n + 1) xs ∧ ∀ W0, Ext W0 w0 → W0.heap.size ≤ base → Ext W0 w'
theorem size30 : (Try.prog.info? 30).map (·.size) = some 2 := by kernel_rfl
theorem sizeOf30 (w : World) : (sizeOf 30).run Try.prog w = .ok 2 w := by kernel_rfl
theorem over_no {w : World} {vb g : Nat} {cv cg : Array Value} (hv : w.heap[vb]? = some (.cells cv 30 (0, 0))) (hg : w.heap[g]? = some (.cells cg 30 (0, 0))) (hne : vb ≠ g) (hz : cg.size ≠ 0) (off lb cb : Nat) :
    (callFunc 33 #[.slice (some ⟨vb, 0, none⟩) 1 1, .slice (some ⟨g, off, none⟩) lb cb]).run Try.prog w = .ok (.value (.bool false)) w := by
  rw [run_callFunc_extern Try.func33 (by kernel_rfl) (by kernel_rfl) (by kernel_rfl) (e := Extern.SlicesOverlaps.overlaps #[22, 22] #[4]) (by kernel_rfl),
    Lib.run_overlaps_apart w 22 4 30 Try.underlying22 2 sizeOf30 ⟨vb, 0, none⟩ ⟨g, off, none⟩ 1 1 lb cb hne 30 30 cv.size cg.size (by simp [World.shape?, hv]) (by simp [World.shape?, hg]) hz (by simp [World.frozen?, hv]) (by simp [World.frozen?, hv])]
  rfl
set_option maxRecDepth 100000 in
theorem insert_end {w0 : World} {base n c : Nat} {A : Option Addr} {xs : List Value} (k v : ByteArray) (ho : w0.ownsRow base 30 2 (.slice A n c) n xs) (hn : n ≤ 100000) (hb : base ≤ w0.heap.size) :
    Calls Try.prog 31 #[.slice A n c, .int .i64 n, .slice (some ⟨w0.heap.size, 0, none⟩) 1 1] (w0.alloc (.cells #[.string k, .string v] 30)) (InsIs base n (xs ++ [.string k, .string v]) w0) := by
  have HO := Lib.hid ho
  have hnc := World.ownsRow.cap_ ho
  have hA : A = none → n = 0 ∧ c = 0 := by
    rintro rfl
    rcases ho.2 with ⟨h1, h2⟩ | ⟨g, cap, cur, hv, _⟩
    · injection h1 with _ _ h3; exact ⟨h2, h3⟩
    · cases hv
  have hcs : base + c ≤ base + c := Nat.le_refl _
  clear ho hcs
  rcases A with _ | ⟨g, o, sp⟩
  · obtain ⟨rfl, rfl⟩ := hA rfl
    clear hA
    go_enter Try.func31, Try.ntmps31
    go_wp2_with (at_builtin; refine wpList_app w0 rfl _ _ 22 30 rfl Try.underlying22 (.agg #[.string ⟨#[]⟩, .string ⟨#[]⟩]) [.string k, .string v] 2 32 infoPr rfl rfl (by decide) (by decide) base (.slice none 0 0) 0 _ rfl HO.out (two_str _ _) _ rfl rfl (by omega) hb ?_; intro g4 cap4 w4 hown4 hG4 hg4; have HOW := Lib.hid hown4; have HG := Lib.hid hG4; clear hown4 hg4)
    go_ret
    exact ⟨_, cap4, rfl, HOW.out, fun W0 h1 h2 => HG.out.1 h1 h2⟩
  · obtain ⟨rfl, rfl⟩ : o = 0 ∧ sp = none := by
      rcases HO.out.2 with ⟨h1, _⟩ | ⟨g', cap, cur, hv, _⟩
      · cases h1
      · injection hv with h1; injection h1 with h1; injection h1 with h1 h2 h3; exact ⟨h2, h3⟩
    clear hA
    have q0 : (0 : Int) ≤ (n : Int) := by omega
    have q1 : (n : Int) ≤ (c : Int) := by omega
    go_enter Try.func31, Try.ntmps31
    go_wp2_with (at_builtin; refine wpList_app w0 rfl _ _ 22 30 rfl Try.underlying22 (.agg #[.string ⟨#[]⟩, .string ⟨#[]⟩]) [.string k, .string v] 2 32 infoPr rfl rfl (by decide) (by decide) base (.slice (some ⟨g, 0, none⟩) n c) n _ rfl HO.out (two_str _ _) _ rfl rfl (by omega) hb ?_; intro g4 cap4 w4 hown4 hG4 hg4; have HOW := Lib.hid hown4; have HG := Lib.hid hG4; clear hown4 hg4)
    all_goals
      go_ret
      exact ⟨_, cap4, rfl, HOW.out, fun W0 h1 h2 => HG.out.1 h1 h2⟩
