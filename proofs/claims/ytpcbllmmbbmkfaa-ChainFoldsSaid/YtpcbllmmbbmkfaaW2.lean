import Derived.Test.YtpcbllmmbbmkfaaW1
import Derived.WalkMore
import Derived.Deep.LoopGhost
namespace Go.Proofs.Ytpcbllmmbbmkfaa
open Go.RowKit Go.Nb
theorem infoByte : (Try.prog.info? 5).map (fun i => (i.zero, i.size, i.bytes)) = some (some (.int .u8 0), 1, 1) := by kernel_rfl
def Z90 : Array Value := Array.replicate 9 (.int .u8 0)
theorem zero94 (w : World) : (zeroValue 94).run Try.prog w = .ok (.agg Z90) w := by kernel_rfl
/-- The nine cells while a number is written: 0s, and behind them the bytes so far. -/
def pad9 (t : Bs) : Bs := List.replicate (9 - t.length) 0 ++ t
def padC (t : Bs) (j : Nat) : Value := .int .u8 (((pad9 t).getD j 0).toNat : Int)
theorem pad9_len (t : Bs) (h : t.length ≤ 9) : (pad9 t).length = 9 := by simp [pad9]; omega
theorem pad9_cons (t : Bs) (c : UInt8) (h : t.length ≤ 8) : pad9 (c :: t) = (pad9 t).set (8 - t.length) c := by
  unfold pad9
  have e : 9 - t.length = (8 - t.length) + 1 := by omega
  rw [List.length_cons, show 9 - (t.length + 1) = 8 - t.length by omega, e, List.replicate_succ', List.append_assoc, List.set_append_right _ _ (by simp)]
  simp
theorem padC_cons (t : Bs) (c : UInt8) (h : t.length ≤ 8) (j : Nat) (_ : j < 9) : padC (c :: t) j = if j = 8 - t.length then .int .u8 (c.toNat : Int) else padC t j := by
  unfold padC
  rw [pad9_cons t c h, List.getD_eq_getElem?_getD, List.getElem?_set]
  by_cases e : 8 - t.length = j
  · subst e
    rw [if_pos rfl, if_pos (by rw [pad9_len t (by omega)]; omega), if_pos rfl]
    rfl
  · rw [if_neg e, if_neg (fun h => e h.symm), List.getD_eq_getElem?_getD]
theorem padC_at (t : Bs) (_ : t.length ≤ 9) (j : Nat) (hj : j < t.length) : padC t (9 - t.length + j) = .int .u8 ((t[j]'hj).toNat : Int) := by
  unfold padC pad9
  rw [List.getD_eq_getElem?_getD, List.getElem?_append_right (by simp)]
  simp [hj]
/-- 'string(b[at:])'. -/
theorem str_pad {w : World} {g : Nat} {t : Bs} (hb : CellsAt w g 9 (padC t)) (h : t.length ≤ 9) (at_ n : Nat) (ha : at_ = 9 - t.length) (hn : n = t.length) (n' : Nat) :
    (convert 79 9 (.slice (some ⟨g, at_, none⟩) n n')).run Try.prog w = .ok (.string (Bt t)) w := by
  subst ha
  subst hn
  refine run_convert_bytes_back (P := Try.prog) w 79 9 5 ⟨g, 9 - t.length, none⟩ n' t Try.underlying79 Try.underlying5 Try.underlying9 (fun j hj => ?_)
  rw [Addr.add_mid, hb.cell _ (by omega), padC_at t h j hj]
theorem slice90 (gb b : Nat) (hb : b ≤ 8) (w : World) : (Instr.sliceAt 94 (.pointer (some ⟨gb, 0, none⟩)) (some (.int .i64 (b : Int))) none none).run Try.prog w = .ok (.slice (some ⟨gb, b, none⟩) (9 - b) (9 - b)) w := by
  have ht : Try.prog.underlying 94 = some (.array (Try.prog.arrayLen 94) (Try.prog.elem 94)) := by kernel_rfl
  have hl : Try.prog.arrayLen 94 = 9 := by kernel_rfl
  have he : Try.prog.elem 94 = 5 := by kernel_rfl
  obtain ⟨i0, hi0, hz0, hz1, hz2⟩ := info_parts infoByte
  rw [run_sliceAt_array_l (P := Try.prog) w 94 ⟨gb, 0, none⟩ ht .i64 b (by omega) (by rw [hl]; omega), hl, he]
  simp [sizeOf, typeInfo, hi0, hz1, slicedAt, Addr.add_mid]
  omega
set_option maxRecDepth 100000 in
theorem up_any (x : Nat) (hx : x < 256 ^ 8) (w : World) : Calls Try.prog 52 #[.int .u64 x] w fun e w' => e = .returned (.string (Bt (upL x))) ∧ Ext w w' := by
  have HX := Lib.hid hx
  clear hx
  go_enter Try.func52, Try.ntmps52
  go_wp2
  go_step3
  go_wp2_with (with_reducible refine wpList_alloc_big rfl 94 rfl Z90 zero94 ?_)
  have hB : CellsAt (w.alloc (.cells Z90 94)) w.heap.size 9 (padC []) := ⟨94, Z90, by decide, (Blk.new w 94 Z90).m, fun j hj => by
    unfold Z90
    rw [Array.getElem?_replicate, if_pos hj]
    unfold padC pad9
    rw [List.getD_eq_getElem?_getD, List.append_nil, List.getElem?_replicate]
    split <;> rfl⟩
  have hE := (Ext.refl w).alloc (.cells Z90 94)
  obtain ⟨gb, hgb⟩ : ∃ g, g = w.heap.size := ⟨_, rfl⟩
  have hge : w.heap.size ≤ gb := by omega
  generalize w.alloc (.cells Z90 94) = w1 at *
  rw [← hgb] at hB
  rw [← hgb]
  clear hgb
  go_step3
  go_wp2
  go_loopw [0, 4] (fun xv av wr => ∃ (f k b : Nat) (t : Bs), f ≤ 8 ∧ Hid (k < 256 ^ f) ∧ xv = .int .u64 k ∧ b + t.length = 8 ∧ av = .int .i64 ((b : Int) + 1) ∧ Hid (digsF f k ++ t = digs x) ∧ CellsAt wr gb 9 (padC t) ∧ Ext w wr) (fun xv _ _ => (intOf xv).toNat)
  case atStart => exact ⟨8, x, 8, [], by omega, HX, rfl, rfl, rfl, Lib.hid (List.append_nil _), hB, hE⟩
  case round =>
    obtain ⟨f, k, b, t, hf, hk, rfl, hbt, rfl, ht, hB2, hE2⟩ := hrel
    clear hB hE
    have HBT := Lib.hid hbt
    have b0 : (0 : Int) ≤ (b : Int) := by omega
    have b8 : (b : Int) ≤ 8 := by omega
    by_cases h0 : 0 < k
    · have t1 : ((k : Int) == 0) = false := by simp; omega
      have kk0 : (0 : Int) ≤ (k : Int) := by omega
      obtain ⟨g, rfl⟩ : ∃ g, f = g + 1 := by
        cases f with
        | zero => have := hk.out; simp at this; omega
        | succ g => exact ⟨g, rfl⟩
      have hd : ((k : Int) / 256) = ((k / 256 : Nat) : Int) := by omega
      obtain ⟨c, hc⟩ : ∃ c, c = k % 256 := ⟨_, rfl⟩
      obtain ⟨d, hdd⟩ : ∃ d, d = k / 256 := ⟨_, rfl⟩
      rw [← hdd] at hd
      have hu8 : IntKind.u8.wrap (k : Int) = (c : Int) := by rw [IntKind.wrap_u8]; omega
      have c0 : (0 : Int) ≤ (c : Int) := by omega
      have c1 : (c : Int) < 256 := by omega
      have cb := hB2.cell b (by omega)
      have fb := hB2.frozen b (by omega)
      have HC := Lib.hid hc
      have HD := Lib.hid hdd
      clear hbt hc hdd
      go_wp2
      have hrest : c + 256 * d = k := by have := HC.out; have := HD.out; omega
      have hdl : (digsF g d ++ (UInt8.ofNat c :: t)) = digs x := by
        have h1 := ht.out
        rw [digsF, if_neg (by omega)] at h1
        rw [← h1, HD.out, HC.out]; simp
      have hdk : d < 256 ^ g := by
        have h1 := hk.out
        rw [Nat.pow_succ] at h1
        have := HD.out; omega
      have htl : t.length + 1 ≤ 8 := by
        have h1 := congrArg List.length hdl
        have h2 := digs_len x
        simp only [List.length_append, List.length_cons] at h1
        omega
      have hcell := hB2.set_ (h := padC (UInt8.ofNat c :: t)) b (.int .u8 (c : Int)) (fun j hj => by
        rw [padC_cons t _ (by omega) j hj, show 8 - t.length = b by have := HBT.out; omega]
        have : (UInt8.ofNat c).toNat = c := by simp; omega
        rw [this])
      go_roundw
      case rel => exact ⟨g, d, b - 1, UInt8.ofNat c :: t, by omega, Lib.hid hdk, rfl, by simp; have := HBT.out; omega, by congr 1; have := HBT.out; omega, Lib.hid hdl, hcell, hE2.setCell (by show w.heap.size ≤ gb; exact hge) _⟩
      case measure => simp [intOf]; omega
    · have t1 : ((k : Int) == 0) = true := by simp; omega
      obtain ⟨n, hn⟩ : ∃ n, n = t.length := ⟨_, rfl⟩
      have htx : t = digs x := by
        obtain rfl : k = 0 := by omega
        have h1 := ht.out
        rw [digsF_zero, List.nil_append] at h1
        exact h1
      have hlt := digs_len x
      rw [← htx] at hlt
      have cb := hB2.cell b (by omega)
      have fb := hB2.frozen b (by omega)
      have hsub : (9 : Int) - ((b : Int) + 1) = (n : Int) := by omega
      have hu8 : IntKind.u8.wrap (n : Int) = (n : Int) := by rw [IntKind.wrap_u8]; omega
      have hcell := hB2.set_ (h := padC (UInt8.ofNat n :: t)) b (.int .u8 (n : Int)) (fun j hj => by
        rw [padC_cons t _ (by omega) j hj, show 8 - t.length = b by omega]
        have : (UInt8.ofNat n).toNat = n := by simp; omega
        rw [this])
      have hup : (UInt8.ofNat n :: t) = upL x := by rw [hn, htx]; rfl
      rw [hup] at hcell
      have hcv := str_pad hcell (upL_len2 x).2 b (n + 1) (by rw [← hup, List.length_cons]; omega) (by rw [← hup, List.length_cons]; omega) (9 - b)
      have hsl := slice90 gb b (by omega)
      rw [show n + 1 = 9 - b by omega] at hcv
      have n0 : (0 : Int) ≤ (n : Int) := by omega
      have n8 : (n : Int) ≤ 8 := by omega
      clear hbt hn htx hlt hup
      go_wp2
      rw [Exit.noGoto_ret]
      go_ret
      exact ⟨rfl, hE2.setCell (by show w.heap.size ≤ gb; exact hge) _⟩
