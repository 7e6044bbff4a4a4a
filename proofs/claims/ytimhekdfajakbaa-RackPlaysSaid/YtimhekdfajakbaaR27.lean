import Derived.Test.YtimhekdfajakbaaR26
namespace Go.Proofs.Ytimhekdfajakbaa
open Go.RowKit
def secRL (r : Rf) (d x : Nat) : ByteArray := if r.bad d x then zero64 else r.sec d x
def allRL (r : Rf) (d : Nat) : Nat → List UInt8
  | 0 => []
  | k + 1 => allRL r d k ++ (secRL r d k).data.toList
theorem secRL_size (r : Rf) (h : ∀ i j, (r.sec i j).size = 64) (d x : Nat) : (secRL r d x).size = 64 := by
  unfold secRL
  split
  · exact zero64_size
  · exact h d x
theorem allRL_len (r : Rf) (h : ∀ i j, (r.sec i j).size = 64) (d : Nat) : ∀ k, (allRL r d k).length = 64 * k
  | 0 => rfl
  | k + 1 => by
    have : (secRL r d k).data.toList.length = 64 := secRL_size r h d k
    simp only [allRL, List.length_append, allRL_len r h d k, this]; omega
theorem strCells_bytes (s : ByteArray) : Lib.strCells s = Lib.byteCells s.data.toList := rfl
/-- 'string(b)' of bytes that the call owns. -/
theorem run_str_own {w : World} {base g n cap : Nat} {l : List UInt8} (hl : l.length = n) (h : w.ownsRow base 5 1 (.slice (some ⟨g, 0, none⟩) n cap) n (Lib.byteCells l)) :
    (convert 48 9 (.slice (some ⟨g, 0, none⟩) n cap)).run Try.prog w = .ok (.string ⟨l.toArray⟩) w := by
  subst hl
  refine run_convert_bytes_back (P := Try.prog) w 48 9 5 ⟨g, 0, none⟩ cap l Try.underlying48 Try.underlying5 Try.underlying9 (fun j hj => ?_)
  rw [Addr.add_mid, Nat.zero_add, h.cells1.1.cell j hj, List.getD_eq_getElem?_getD]
  simp [Lib.byteCells, hj]
theorem _root_.Go.World.ownsRow.val {w : World} {base : Nat} {e : TypeId} {size n : Nat} {v : Value} {xs : List Value} (h : w.ownsRow base e size v n xs) : ∃ A c, v = .slice A n c := by
  rcases h.2 with ⟨h1, h2⟩ | ⟨g, cap, cur, hv, _⟩
  · subst h2; exact ⟨none, 0, h1⟩
  · exact ⟨_, _, hv⟩
section
variable {w : World} {q : Ql} {r : Rf}
def allR (q : Ql) (r : Rf) (d : Int) : ByteArray := if thereN q.nd q.ns d 0 then ⟨(allRL r d.toNat q.ns).toArray⟩ else { data := #[] }
set_option maxRecDepth 100000 in
theorem all_ref (h : RefAt w q r) (d : Int) : Calls Try.prog 13 #[.pointer (some ⟨q.gx, 0, none⟩), .int .i64 d] w fun e w' => e = .returned (.string (allR q r d)) ∧ Ext w w' := by
  have HT := there_ref h d 0
  unfold allR
  cases ht : thereN q.nd q.ns d 0
  · rw [ht] at HT
    have HT := Lib.hid HT
    clear ht
    simp only [Bool.false_eq_true, if_false]
    go_enter Try.func13, Try.ntmps13
    go_wp2_with (go_at_call 34; (with_reducible refine HT.out.mono ?_); rintro e w1 ⟨rfl, hE⟩)
    go_ret
    exact ⟨rfl, hE⟩
  · rw [ht] at HT
    obtain ⟨i, rfl, hi⟩ := thereN_nat0 ht
    have kd : (i : Int) < (q.nd : Int) := by omega
    have kd0 : (0 : Int) ≤ (i : Int) := by omega
    have HT := Lib.hid HT
    clear ht
    simp only [if_true, Int.toNat_natCast]
    have n4 := h.n4
    have n3 := h.n3
    obtain ⟨i0, hi0, hz0, hz1, hz2⟩ := info_parts infoByte
    have HSZ := Lib.hid h.sz
    have HLEN := Lib.hid (allRL_len r h.sz i)
    go_enter Try.func13, Try.ntmps13
    go_wp2_with (go_at_call 34; (with_reducible refine HT.out.mono ?_); rintro e w1 ⟨rfl, hE⟩)
    have hsz := hE.sz
    go_loopw [5, 6] (fun v x wr => ∃ (k : Nat) (A1 : Option Addr) (c1 : Nat), k ≤ q.ns ∧ x = .int .i64 k ∧ v = .slice A1 (64 * k) c1 ∧ wr.ownsRow w.heap.size 5 1 (.slice A1 (64 * k) c1) (64 * k) (Lib.byteCells (allRL r i k)) ∧ Ext w wr) (fun _ x _ => q.ns - (intOf x).toNat)
    case atStart => exact ⟨0, none, 0, by omega, rfl, rfl, World.ownsRow_nil _ _ _ _, hE⟩
    case round =>
      obtain ⟨k, A1, c1, hk, rfl, rfl, hown, hE2⟩ := hrel
      have hR2 := h.ext hE2
      have q1 := hR2.x0
      have q2 := hR2.s.cell i hi
      by_cases hk2 : k < q.ns
      · have kk : (k : Int) < (q.ns : Int) := by omega
        have kk0 : (0 : Int) ≤ (k : Int) := by omega
        have q3 := hR2.x1
        have q4 := hR2.b.cell i hi
        have q5 := (hR2.bs i hi).cell k hk2
        have HO := Lib.hid hown
        have hg := hown.blockGe
        have HG := Lib.hid hg
        have hnx : allRL r i (k + 1) = allRL r i k ++ (secRL r i k).data.toList := rfl
        have HNX := Lib.hid hnx
        have hw0 : w.heap.size ≤ wr.heap.size := hE2.sz
        clear hown hg hnx
        cases hb : r.bad i k
        · rw [hb] at q5
          have hs : secRL r i k = r.sec i k := by unfold secRL; rw [hb]; rfl
          have HS := Lib.hid hs
          clear hs hb
          have q6 := (hR2.ss i hi).cell k hk2
          have hz : (r.sec i k).size = 64 := HSZ.out i k
          obtain ⟨S, hS⟩ : ∃ S, S = r.sec i k := ⟨_, rfl⟩
          rw [← hS] at q6 hz HS
          have HSI := Lib.hid hz
          clear hS hz
          go_wp2_with (at_builtin; refine Lib.wpList_append_own_string _ rfl (.tmp 36) (.tmp 46) 48 9 rfl w.heap.size 5 i0 Try.underlying48 Try.underlying9 hi0 hz0 hz1 hz2 (.slice A1 (64 * k) c1) (64 * k) _ rfl HO.out S rfl (by rw [HSI.out]; unfold maxLen; omega) (by rw [HSI.out]; omega) hw0 ?_; intro v' w3 hown3 hg3 _; rw [HSI.out, strCells_bytes, ← Lib.byteCells_append, ← HS.out, ← HNX.out] at hown3; obtain ⟨A2, c2, rfl⟩ := hown3.val; have HO3 := Lib.hid hown3; clear hown3)
          go_roundw
          case rel => exact ⟨k + 1, A2, c2, by omega, by go_num, rfl, HO3.out, hE2.grown hg3 HG.out⟩
          case measure => simp [intOf]; omega
        · rw [hb] at q5
          have hs : secRL r i k = zero64 := by unfold secRL; rw [hb]; rfl
          have HS := Lib.hid hs
          clear hs hb
          go_wp2_with (first
            | (go_at_call 24; (with_reducible refine (none_ref _).mono ?_); rintro e w2 ⟨rfl, hE3⟩; have hE4 := hE2.trans hE3; have hw4 : w.heap.size ≤ w2.heap.size := hE4.sz; have HO2 := Lib.hid (HO.out.ext hE3))
            | (at_builtin; refine Lib.wpList_append_own_string _ rfl (.tmp 33) (.tmp 34) 48 9 rfl w.heap.size 5 i0 Try.underlying48 Try.underlying9 hi0 hz0 hz1 hz2 (.slice A1 (64 * k) c1) (64 * k) _ rfl HO2.out zero64 rfl (by rw [zero64_size]; unfold maxLen; omega) (by rw [zero64_size]; omega) hw4 ?_; intro v' w3 hown3 hg3 _; rw [zero64_size, strCells_bytes, ← Lib.byteCells_append, ← HS.out, ← HNX.out] at hown3; obtain ⟨A2, c2, rfl⟩ := hown3.val; have HO3 := Lib.hid hown3; clear hown3))
          go_roundw
          case rel => exact ⟨k + 1, A2, c2, by omega, by go_num, rfl, HO3.out, hE4.grown hg3 HG.out⟩
          case measure => simp [intOf]; omega
      · obtain rfl : q.ns = k := by omega
        obtain ⟨g, rfl⟩ : ∃ g, A1 = some ⟨g, 0, none⟩ := by
          rcases hown.2 with ⟨_, h0⟩ | ⟨g, cap, cur, hv, _⟩
          · omega
          · injection hv with h1; exact ⟨g, h1⟩
        have hcv := run_str_own (HLEN.out q.ns) hown
        go_wp2
        go_ret
        exact ⟨rfl, hE2⟩
end
