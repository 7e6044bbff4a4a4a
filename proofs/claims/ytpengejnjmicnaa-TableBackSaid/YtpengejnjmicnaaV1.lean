import Derived.Test.YtpengejnjmicnaaPre5
import Derived.Test.YtpengejnjmicnaaNb
import Derived.WalkMore
import Derived.Deep.LoopGhost
import Derived.Shelf.Abstract
section
namespace Go.Proofs.Ytpengejnjmicnaa
open Go.RowKit Go.Nb
/-- The text of some bytes; a text's bytes. -/
def Bt (l : Bs) : ByteArray := ⟨l.toArray⟩
def Ls (s : ByteArray) : Bs := s.data.toList
theorem Ls_Bt (l : Bs) : Ls (Bt l) = l := rfl
theorem Bt_Ls (s : ByteArray) : Bt (Ls s) = s := rfl
theorem Bt_size (l : Bs) : (Bt l).size = l.length := rfl
theorem Ls_length (s : ByteArray) : (Ls s).length = s.size := rfl
theorem Bt_append (a b : Bs) : Bt a ++ Bt b = Bt (a ++ b) := by
  unfold Bt
  apply ByteArray.ext
  simp
theorem Ls_append (s t : ByteArray) : Ls (s ++ t) = Ls s ++ Ls t := by unfold Ls; simp
theorem Ls_inj {s t : ByteArray} (h : Ls s = Ls t) : s = t := by rw [← Bt_Ls s, ← Bt_Ls t, h]
theorem Ls_extract (s : ByteArray) (a b : Nat) : Ls (s.extract a b) = ((Ls s).take b).drop a := by
  unfold Ls
  simp [List.extract_eq_take_drop, List.drop_take]
theorem Bt_extract (l : Bs) (a b : Nat) : (Bt l).extract a b = Bt ((l.take b).drop a) := Ls_inj (by rw [Ls_extract]; rfl)
theorem toList_Ls (s : ByteArray) : s.toList = Ls s := by rw [ByteArray.toList_eq]; rfl
/-- 'string([]byte{c})'. -/
theorem str_one {c : Nat} (hc : c < 256) (w : World) : (convert 40 9 (.slice (some ⟨w.heap.size, 0, none⟩) 1 1)).run Try.prog (w.alloc (.cells #[.int .u8 (c : Int)] 5)) = .ok (.string (Bt [UInt8.ofNat c])) (w.alloc (.cells #[.int .u8 (c : Int)] 5)) := by
  refine run_convert_bytes_back (P := Try.prog) (w.alloc (.cells #[.int .u8 (c : Int)] 5)) 40 9 5 ⟨w.heap.size, 0, none⟩ 1 [UInt8.ofNat c] Try.underlying40 Try.underlying5 Try.underlying9 (fun j hj => ?_)
  rw [Addr.add_mid, Nat.zero_add, (Blk.new w 5 _).cell]
  match j, hj with
  | 0, _ => simp; omega
theorem add_str (s t : ByteArray) (h : s.size + t.size ≤ 1048576) (w : World) : (Op.stringOp .add s t).run Try.prog w = .ok (.string (s ++ t)) w := by
  have h : ¬ (((s.size + t.size : Nat) : Int) > IntKind.i64.max) := by
    have : IntKind.i64.max = 9223372036854775807 := rfl
    rw [this]; omega
  unfold Op.stringOp
  simp only [if_neg h]
  rfl
theorem add_Bt (a b : Bs) (h : a.length + b.length ≤ 1048576) (w : World) : (Op.stringOp .add (Bt a) (Bt b)).run Try.prog w = .ok (.string (Bt (a ++ b))) w := by
  rw [add_str (Bt a) (Bt b) h, Bt_append]
theorem u64_lt {d : Nat} (h : d < 18446744073709551616) : IntKind.u64.wrap (d : Int) = d := IntWalk.u64_in d (by omega)
theorem u64_in {d g : Nat} (h : Hid (d < 256 ^ g)) (hg : g ≤ 8 := by omega) : IntKind.u64.wrap (d : Int) = d := by
  have h1 := h.out
  have h2 : 256 ^ g ≤ (256 : Nat) ^ 8 := Nat.pow_le_pow_right (by omega) hg
  rw [pow8] at h2
  exact u64_lt (by omega)
set_option maxRecDepth 100000 in
theorem digits_any (x : Nat) (hx : x < 256 ^ 8) (w : World) : Calls Try.prog 70 #[.int .u64 x] w fun e w' => e = .returned (.string (Bt (digs x))) ∧ Ext w w' := by
  have HX := Lib.hid hx
  clear hx
  go_enter Try.func70, Try.ntmps70
  go_wp2
  go_loopw [0, 3] (fun xv sv wr => ∃ (f k : Nat) (t : Bs), f ≤ 8 ∧ Hid (k < 256 ^ f) ∧ xv = .int .u64 k ∧ sv = .string (Bt t) ∧ Hid (digsF f k ++ t = digs x) ∧ Ext w wr) (fun xv _ _ => (intOf xv).toNat)
  case atStart => exact ⟨8, x, [], by omega, HX, rfl, rfl, Lib.hid (List.append_nil _), Ext.refl _⟩
  case round =>
    obtain ⟨f, k, t, hf, hk, rfl, rfl, ht, hE⟩ := hrel
    by_cases h0 : 0 < k
    · have t1 : decide (0 < k) = true := by simpa using h0
      have kk0 : (0 : Int) ≤ (k : Int) := by omega
      obtain ⟨g, rfl⟩ : ∃ g, f = g + 1 := by
        cases f with
        | zero => have := hk.out; simp at this; omega
        | succ g => exact ⟨g, rfl⟩
      have hm : ((k : Int) % 256) = ((k % 256 : Nat) : Int) := by omega
      have hd : ((k : Int) / 256) = ((k / 256 : Nat) : Int) := by omega
      obtain ⟨c, hc⟩ : ∃ c, c = k % 256 := ⟨_, rfl⟩
      obtain ⟨d, hdd⟩ : ∃ d, d = k / 256 := ⟨_, rfl⟩
      rw [← hc] at hm
      rw [← hdd] at hd
      have hc256 : c < 256 := by omega
      have c0 : (0 : Int) ≤ (c : Int) := by omega
      have c1 : (c : Int) < 256 := by omega
      have hcv := fun (w : World) => str_one hc256 w
      have htl : t.length ≤ 8 := by
        have h1 := congrArg List.length ht.out
        have h2 := digs_len x
        simp only [List.length_append] at h1
        omega
      have hadd := add_Bt [UInt8.ofNat c] t (by simp; omega)
      have hnx : Hid (digsF g d ++ (UInt8.ofNat c :: t) = digs x) := by
        have h1 := ht.out
        rw [digsF, if_neg (by omega)] at h1
        refine Lib.hid ?_
        rw [← h1, hdd, hc]; simp
      have hkx : Hid (d < 256 ^ g) := by
        have h1 := hk.out
        rw [Nat.pow_succ] at h1
        exact Lib.hid (by omega)
      have hlt : d < k := by omega
      have hwr := u64_in hkx
      have HLT := Lib.hid hlt
      clear hc hdd htl hlt
      go_wp2
      go_roundw
      case rel => exact ⟨g, d, UInt8.ofNat c :: t, by omega, hkx, rfl, rfl, hnx, hE.alloc _⟩
      case measure => have := HLT.out; simp [intOf]; omega
    · have t1 : decide (0 < k) = false := by simpa using h0
      go_wp2
      go_ret
      obtain rfl : k = 0 := by omega
      have h1 := ht.out
      rw [digsF_zero, List.nil_append] at h1
      exact ⟨by rw [h1]; rfl, hE⟩
theorem up_ref (x : Nat) (hx : x < 256 ^ 8) (w : World) : Calls Try.prog 53 #[.int .u64 x] w fun e w' => e = .returned (.string (Bt (upL x))) ∧ Ext w w' := by
  have HD := Lib.hid (digits_any x hx w)
  have hl := digs_len x
  have hcv := fun (w : World) => str_one (c := (digs x).length) (by omega) w
  have hadd := add_Bt [UInt8.ofNat (digs x).length] (digs x) (by simp; omega)
  have hup : [UInt8.ofNat (digs x).length] ++ digs x = upL x := rfl
  rw [hup] at hadd
  have hz : ((Bt (digs x)).size : Int) = ((digs x).length : Int) := rfl
  have c0 : (0 : Int) ≤ ((digs x).length : Int) := by omega
  have c1 : ((digs x).length : Int) < 256 := by omega
  clear hup hl hx
  generalize (digs x).length = n at *
  generalize upL x = u at *
  generalize digs x = d at *
  go_enter Try.func53, Try.ntmps53
  go_wp2_with (go_at_call 70; (with_reducible refine HD.out.mono ?_); rintro e w1 ⟨rfl, hE⟩)
  go_ret
  exact ⟨rfl, hE.alloc _⟩
end Go.Proofs.Ytpengejnjmicnaa
end
section
namespace Go.Proofs.Ytpengejnjmicnaa
open Go.RowKit Go.Nb
theorem infoByte : (Try.prog.info? 5).map (fun i => (i.zero, i.size, i.bytes)) = some (some (.int .u8 0), 1, 1) := by kernel_rfl
def Z90 : Array Value := Array.replicate 9 (.int .u8 0)
theorem zero104 (w : World) : (zeroValue 104).run Try.prog w = .ok (.agg Z90) w := by kernel_rfl
/-- The nine cells while a number is written: 0s, and behind them the bytes so far. -/
def pad9 (t : Bs) : Bs := List.replicate (9 - t.length) 0 ++ t
def padC (t : Bs) (j : Nat) : Value := .int .u8 (((pad9 t).getD j 0).toNat : Int)
theorem pad9_len (t : Bs) (h : t.length ≤ 9) : (pad9 t).length = 9 := by simp [pad9]; omega
theorem pad9_cons (t : Bs) (c : UInt8) (h : t.length ≤ 8) : pad9 (c :: t) = (pad9 t).set (8 - t.length) c := by
  unfold pad9
  have e : 9 - t.length = (8 - t.length) + 1 := by omega
  rw [List.length_cons, show 9 - (t.length + 1) = 8 - t.length by omega, e, List.replicate_succ', List.append_assoc, List.set_append_right _ _ (by simp)]
  simp
theorem padC_cons (t : Bs) (c : UInt8) (h : t.length ≤ 8) (j : Nat) (_ : j < 9) : padC (c :: t) j = if j = 8 - t.length then .int .u8 (c.toNat : Int) else padC t j := by
  unfold padC
  rw [pad9_cons t c h, List.getD_eq_getElem?_getD, List.getElem?_set]
  by_cases e : 8 - t.length = j
  · subst e
    rw [if_pos rfl, if_pos (by rw [pad9_len t (by omega)]; omega), if_pos rfl]
    rfl
  · rw [if_neg e, if_neg (fun h => e h.symm), List.getD_eq_getElem?_getD]
theorem padC_at (t : Bs) (_ : t.length ≤ 9) (j : Nat) (hj : j < t.length) : padC t (9 - t.length + j) = .int .u8 ((t[j]'hj).toNat : Int) := by
  unfold padC pad9
  rw [List.getD_eq_getElem?_getD, List.getElem?_append_right (by simp)]
  simp [hj]
/-- 'string(b[at:])'. -/
theorem str_pad {w : World} {g : Nat} {t : Bs} (hb : CellsAt w g 9 (padC t)) (h : t.length ≤ 9) (at_ n : Nat) (ha : at_ = 9 - t.length) (hn : n = t.length) (n' : Nat) :
    (convert 40 9 (.slice (some ⟨g, at_, none⟩) n n')).run Try.prog w = .ok (.string (Bt t)) w := by
  subst ha
  subst hn
  refine run_convert_bytes_back (P := Try.prog) w 40 9 5 ⟨g, 9 - t.length, none⟩ n' t Try.underlying40 Try.underlying5 Try.underlying9 (fun j hj => ?_)
  rw [Addr.add_mid, hb.cell _ (by omega), padC_at t h j hj]
theorem slice90 (gb b : Nat) (hb : b ≤ 8) (w : World) : (Instr.sliceAt 104 (.pointer (some ⟨gb, 0, none⟩)) (some (.int .i64 (b : Int))) none none).run Try.prog w = .ok (.slice (some ⟨gb, b, none⟩) (9 - b) (9 - b)) w := by
  have ht : Try.prog.underlying 104 = some (.array (Try.prog.arrayLen 104) (Try.prog.elem 104)) := by kernel_rfl
  have hl : Try.prog.arrayLen 104 = 9 := by kernel_rfl
  have he : Try.prog.elem 104 = 5 := by kernel_rfl
  obtain ⟨i0, hi0, hz0, hz1, hz2⟩ := info_parts infoByte
  rw [run_sliceAt_array_l (P := Try.prog) w 104 ⟨gb, 0, none⟩ ht .i64 b (by omega) (by rw [hl]; omega), hl, he]
  simp [sizeOf, typeInfo, hi0, hz1, slicedAt, Addr.add_mid]
  omega
set_option maxRecDepth 100000 in
theorem up_any (x : Nat) (hx : x < 256 ^ 8) (w : World) : Calls Try.prog 47 #[.int .u64 x] w fun e w' => e = .returned (.string (Bt (upL x))) ∧ Ext w w' := by
  have HX := Lib.hid hx
  clear hx
  go_enter Try.func47, Try.ntmps47
  go_wp2
  go_step3
  go_wp2_with (with_reducible refine wpList_alloc_big rfl 104 rfl Z90 zero104 ?_)
  have hB : CellsAt (w.alloc (.cells Z90 104)) w.heap.size 9 (padC []) := ⟨104, Z90, by decide, (Blk.new w 104 Z90).m, fun j hj => by
    unfold Z90
    rw [Array.getElem?_replicate, if_pos hj]
    unfold padC pad9
    rw [List.getD_eq_getElem?_getD, List.append_nil, List.getElem?_replicate]
    split <;> rfl⟩
  have hE := (Ext.refl w).alloc (.cells Z90 104)
  obtain ⟨gb, hgb⟩ : ∃ g, g = w.heap.size := ⟨_, rfl⟩
  have hge : w.heap.size ≤ gb := by omega
  generalize w.alloc (.cells Z90 104) = w1 at *
  rw [← hgb] at hB
  rw [← hgb]
  clear hgb
  go_step3
  go_wp2
  go_loopw [0, 4] (fun xv av wr => ∃ (f k b : Nat) (t : Bs), f ≤ 8 ∧ Hid (k < 256 ^ f) ∧ xv = .int .u64 k ∧ b + t.length = 8 ∧ av = .int .i64 ((b : Int) + 1) ∧ Hid (digsF f k ++ t = digs x) ∧ CellsAt wr gb 9 (padC t) ∧ Ext w wr) (fun xv _ _ => (intOf xv).toNat)
  case atStart => exact ⟨8, x, 8, [], by omega, HX, rfl, rfl, rfl, Lib.hid (List.append_nil _), hB, hE⟩
  case round =>
    obtain ⟨f, k, b, t, hf, hk, rfl, hbt, rfl, ht, hB2, hE2⟩ := hrel
    clear hB hE
    have HBT := Lib.hid hbt
    have b0 : (0 : Int) ≤ (b : Int) := by omega
    have b8 : (b : Int) ≤ 8 := by omega
    by_cases h0 : 0 < k
    · have t1 : ((k : Int) == 0) = false := by simp; omega
      have kk0 : (0 : Int) ≤ (k : Int) := by omega
      obtain ⟨g, rfl⟩ : ∃ g, f = g + 1 := by
        cases f with
        | zero => have := hk.out; simp at this; omega
        | succ g => exact ⟨g, rfl⟩
      have hd : ((k : Int) / 256) = ((k / 256 : Nat) : Int) := by omega
      obtain ⟨c, hc⟩ : ∃ c, c = k % 256 := ⟨_, rfl⟩
      obtain ⟨d, hdd⟩ : ∃ d, d = k / 256 := ⟨_, rfl⟩
      rw [← hdd] at hd
      have hu8 : IntKind.u8.wrap (k : Int) = (c : Int) := by rw [IntKind.wrap_u8]; omega
      have c0 : (0 : Int) ≤ (c : Int) := by omega
      have c1 : (c : Int) < 256 := by omega
      have cb := hB2.cell b (by omega)
      have fb := hB2.frozen b (by omega)
      have HC := Lib.hid hc
      have HD := Lib.hid hdd
      clear hbt hc hdd
      go_wp2
      have hrest : c + 256 * d = k := by have := HC.out; have := HD.out; omega
      have hdl : (digsF g d ++ (UInt8.ofNat c :: t)) = digs x := by
        have h1 := ht.out
        rw [digsF, if_neg (by omega)] at h1
        rw [← h1, HD.out, HC.out]; simp
      have hdk : d < 256 ^ g := by
        have h1 := hk.out
        rw [Nat.pow_succ] at h1
        have := HD.out; omega
      have htl : t.length + 1 ≤ 8 := by
        have h1 := congrArg List.length hdl
        have h2 := digs_len x
        simp only [List.length_append, List.length_cons] at h1
        omega
      have hcell := hB2.set_ (h := padC (UInt8.ofNat c :: t)) b (.int .u8 (c : Int)) (fun j hj => by
        rw [padC_cons t _ (by omega) j hj, show 8 - t.length = b by have := HBT.out; omega]
        have : (UInt8.ofNat c).toNat = c := by simp; omega
        rw [this])
      go_roundw
      case rel => exact ⟨g, d, b - 1, UInt8.ofNat c :: t, by omega, Lib.hid hdk, rfl, by simp; have := HBT.out; omega, by congr 1; have := HBT.out; omega, Lib.hid hdl, hcell, hE2.setCell (by show w.heap.size ≤ gb; exact hge) _⟩
      case measure => simp [intOf]; omega
    · have t1 : ((k : Int) == 0) = true := by simp; omega
      obtain ⟨n, hn⟩ : ∃ n, n = t.length := ⟨_, rfl⟩
      have htx : t = digs x := by
        obtain rfl : k = 0 := by omega
        have h1 := ht.out
        rw [digsF_zero, List.nil_append] at h1
        exact h1
      have hlt := digs_len x
      rw [← htx] at hlt
      have cb := hB2.cell b (by omega)
      have fb := hB2.frozen b (by omega)
      have hsub : (9 : Int) - ((b : Int) + 1) = (n : Int) := by omega
      have hu8 : IntKind.u8.wrap (n : Int) = (n : Int) := by rw [IntKind.wrap_u8]; omega
      have hcell := hB2.set_ (h := padC (UInt8.ofNat n :: t)) b (.int .u8 (n : Int)) (fun j hj => by
        rw [padC_cons t _ (by omega) j hj, show 8 - t.length = b by omega]
        have : (UInt8.ofNat n).toNat = n := by simp; omega
        rw [this])
      have hup : (UInt8.ofNat n :: t) = upL x := by rw [hn, htx]; rfl
      rw [hup] at hcell
      have hcv := str_pad hcell (upL_len2 x).2 b (n + 1) (by rw [← hup, List.length_cons]; omega) (by rw [← hup, List.length_cons]; omega) (9 - b)
      have hsl := slice90 gb b (by omega)
      rw [show n + 1 = 9 - b by omega] at hcv
      have n0 : (0 : Int) ≤ (n : Int) := by omega
      have n8 : (n : Int) ≤ 8 := by omega
      clear hbt hn htx hlt hup
      go_wp2
      rw [Exit.noGoto_ret]
      go_ret
      exact ⟨rfl, hE2.setCell (by show w.heap.size ≤ gb; exact hge) _⟩
end Go.Proofs.Ytpengejnjmicnaa
end
section
namespace Go.Proofs.Ytpengejnjmicnaa
open Go.RowKit Go.Nb
theorem str_index (s : ByteArray) (i : Nat) (hi : i < s.size) (w : World) : (Instr.index 9 (.string s) (.int .i64 (i : Int))).run Try.prog w = .ok (.int .u8 (bn s i : Int)) w := by
  have hu := Try.underlying9
  have e : bn s i = (s[i]'hi).toNat := by
    have := bt_get s i hi
    rw [bt_bn] at this
    omega
  simp [Instr.index, run_underlying hu, asIntOf, hi, e]
theorem str_get (s : ByteArray) (i : Nat) (h : i < s.size) : (s[i]'h).toNat = bn s i := by
  have := bt_get s i h
  rw [bt_bn] at this
  omega
theorem Ls_cons {s : ByteArray} {c : UInt8} {r : Bs} (h : Ls s = c :: r) : s.size = r.length + 1 ∧ bn s 0 = c.toNat ∧ ∀ i, bn s (i + 1) = (r.getD i 0).toNat := by
  have h1 : s.data.toList = c :: r := h
  refine ⟨by rw [← Ls_length, h]; rfl, by unfold bn; rw [h1]; rfl, fun i => by unfold bn; rw [h1]; rfl⟩
theorem ofInt_u64 (a : Nat) (ha : a < 18446744073709551616) : (BitVec.ofInt 64 (a : Int)).toNat = a := by
  rw [BitVec.ofInt_natCast, BitVec.toNat_ofNat]; exact Nat.mod_eq_of_lt (by omega)
theorem u64_or (a b : Nat) (ha : a < 18446744073709551616) (hb : b < 18446744073709551616) : bits .or .u64 (a : Int) (b : Int) = ((a ||| b : Nat) : Int) := by
  have hx : a ||| b < 2 ^ 64 := Nat.or_lt_two_pow (n := 64) ha hb
  show IntKind.u64.wrap ((BitVec.ofInt 64 (a : Int) ||| BitVec.ofInt 64 (b : Int)).toNat : Int) = _
  rw [BitVec.toNat_or, ofInt_u64 a ha, ofInt_u64 b hb]
  exact u64_lt hx
theorem shl_or {k y : Nat} (hk : k < 72057594037927936) (hy : y < 256) : bits .or .u64 (IntKind.u64.wrap ((k : Int) * 256)) (y : Int) = ((256 * k + y : Nat) : Int) := by
  have h1 : IntKind.u64.wrap ((k : Int) * 256) = ((k * 256 : Nat) : Int) := by
    rw [← u64_lt (d := k * 256) (by omega)]; congr 1
  rw [h1, u64_or _ _ (by omega) (by omega)]
  congr 1
  have := Nat.shiftLeft_add_eq_or_of_lt (i := 8) (b := y) (by omega) k
  rw [Nat.shiftLeft_eq, show (2 : Nat) ^ 8 = 256 from rfl] at this
  omega
theorem valL_take (l : Bs) (j : Nat) (h : j < l.length) : valL (l.take (j + 1)) = 256 * valL (l.take j) + (l[j]'h).toNat := by
  rw [List.take_succ_eq_append_getElem h, valL_snoc]
theorem valL_take_lt (l : Bs) (j m : Nat) (h : j < m) (hm : m ≤ 8) : valL (l.take j) < 72057594037927936 := by
  have h1 := valL_lt (l.take j)
  have h2 : (256 : Nat) ^ (l.take j).length ≤ 256 ^ 7 := Nat.pow_le_pow_right (by omega) (by rw [List.length_take]; omega)
  have h3 : (256 : Nat) ^ 7 = 72057594037927936 := by decide
  omega
theorem bn_Ls (s : ByteArray) (l : Bs) (h : Ls s = l) (j : Nat) (hj : j < l.length) : bn s j = (l[j]'hj).toNat := by
  subst h
  unfold bn
  rw [List.getD_eq_getElem?_getD]
  show ((Ls s)[j]?.getD 0).toNat = _
  rw [List.getElem?_eq_getElem hj]; rfl
def ReadIs (s : ByteArray) (w : World) (e : Ending) (w' : World) : Prop := e = .returned (.tuple #[.int .u64 (readL (Ls s)).1, .int .i64 (readL (Ls s)).2.1, .int .i64 (readL (Ls s)).2.2]) ∧ Ext w w'
theorem readIs_of {s : ByteArray} {w w' : World} {x n : Nat} {e : Int} (h : readL (Ls s) = (x, n, e)) (hE : Ext w w') : ReadIs s w (.returned (.tuple #[.int .u64 x, .int .i64 n, .int .i64 e])) w' := by
  unfold ReadIs; rw [h]; exact ⟨rfl, hE⟩
set_option maxRecDepth 100000 in
theorem read_any (s : ByteArray) (hs : s.size ≤ 1048576) (w : World) : Calls Try.prog 73 #[.string s] w (ReadIs s w) := by
  have hO := Ext.refl w
  cases hl : Ls s with
  | nil =>
    have hR : readL (Ls s) = (0, 0, 10) := by rw [hl]; rfl
    have e1 : s.toList = [] := by rw [toList_Ls]; exact hl
    have HR := Lib.hid hR
    clear hl hR
    go_enter Try.func73, Try.ntmps73
    go_wp2
    go_ret3
    exact readIs_of HR.out hO
  | cons c r =>
    obtain ⟨hz, hb0, hb1⟩ := Ls_cons hl
    have e1 : s.toList.isEmpty = false := by rw [toList_Ls, hl]; rfl
    have e2 : (s.toList == []) = false := by rw [toList_Ls, hl]; rfl
    have p0 : 0 < s.size := by omega
    obtain ⟨m, hm⟩ : ∃ m, m = c.toNat := ⟨_, rfl⟩
    have g0 : (s[0]'p0).toNat = m := by rw [str_get, hb0, hm]
    have m0 : (0 : Int) ≤ (m : Int) := by omega
    have m1 : (m : Int) < 256 := by have := c.toNat_lt; omega
    have HM := Lib.hid hm
    have HZ := Lib.hid hz
    have HL := Lib.hid hl
    have HB := Lib.hid hb1
    clear hb0
    by_cases h8 : 8 < m
    · have t1 : decide ((8 : Int) < (m : Int)) = true := by simp; omega
      have hR : readL (Ls s) = (0, 0, 8) := by rw [hl, readL_cons, if_pos (by omega)]
      have HR := Lib.hid hR
      clear hl hm hz hR
      go_enter Try.func73, Try.ntmps73
      go_wp2
      go_ret3
      exact readIs_of HR.out hO
    · have t1 : decide ((8 : Int) < (m : Int)) = false := by simp; omega
      by_cases hlen : s.size ≤ m
      · have t2 : decide (s.size ≤ m) = true := by simpa using hlen
        have hR : readL (Ls s) = (0, 0, 10) := by rw [hl, readL_cons, if_neg (by omega), if_pos (by omega)]
        have HR := Lib.hid hR
        clear hl hm hz hR
        go_enter Try.func73, Try.ntmps73
        go_wp2
        go_ret3
        exact readIs_of HR.out hO
      · have t2 : decide (s.size ≤ m) = false := by simpa using hlen
        have hbs : Ls (s.extract 1 (m + 1)) = r.take m := by rw [Ls_extract, hl]; simp
        have hTz : (s.extract 1 (m + 1)).size = m := by rw [← Ls_length, hbs, List.length_take]; omega
        have HBS := Lib.hid hbs
        have HTZ := Lib.hid hTz
        have p2 : (m : Int) + 1 ≤ (s.size : Int) := by omega
        have hhead : 0 < m → r.headD 0 = 0 → bn s 1 = 0 := fun hm0 h0 => by
          rw [hb1 0]
          cases r with
          | nil => simp at hz; omega
          | cons a q => simp at h0; simp [h0]
        have hhead2 : 0 < m → bn s 1 = 0 → r.headD 0 = 0 := fun hm0 h0 => by
          rw [hb1 0] at h0
          cases r with
          | nil => rfl
          | cons a q =>
            have h1 : a.toNat = 0 := by simpa using h0
            show a = 0
            exact UInt8.toNat_inj.mp (by simpa using h1)
        by_cases hmp : 0 < m
        · have t3 : decide (0 < m) = true := by simpa using hmp
          have p1 : 1 < s.size := by omega
          have g1 := str_get s 1 p1
          by_cases hb : bn s 1 = 0
          · have hR : readL (Ls s) = (0, 0, 8) := by rw [hl, readL_cons, if_neg (by omega), if_neg (by omega), if_pos ⟨by omega, hhead2 hmp hb⟩]
            have HR := Lib.hid hR
            have t4 : ((bn s 1 : Int) == 0) = true := by simp; omega
            generalize bn s 1 = b1 at *
            clear hl hm hz hR hbs hTz hhead hhead2 hb
            go_enter Try.func73, Try.ntmps73
            go_wp2
            go_ret3
            exact readIs_of HR.out hO
          · have hR : readL (Ls s) = (valL (r.take m), m + 1, 0) := by rw [hl, readL_cons, if_neg (by omega), if_neg (by omega), if_neg (fun h => hb (hhead hmp h.2)), hm]
            have HR := Lib.hid hR
            have t4 : ((bn s 1 : Int) == 0) = false := by simp; omega
            generalize bn s 1 = b1 at *
            clear hl hm hz hR hbs hTz hhead hhead2 hb
            go_enter Try.func73, Try.ntmps73
            go_wp2_with (with_reducible refine wpList_str_bytes rfl 9 40 5 (.tmp 31) rfl Try.underlying9 Try.underlying40 Try.underlying5 (s.extract 1 (m + 1)) rfl ?_; intro C w1 hC hBM hcell hbel _; rw [HTZ.out] at hC ⊢)
            have HBS2 : Hid (Ls (s.extract 1 (m + 1)) = r.take m) := HBS
            have hE1 : Ext w w1 := hbel
            have hcells : ∀ j (hj : j < m), w1.cell? ⟨w.heap.size, j, none⟩ = some (.int .u8 (bn (s.extract 1 (m + 1)) j : Int)) := fun j hj => by
              rw [hBM.cell, hcell j (by rw [HTZ.out]; exact hj)]; rfl
            have HCE := Lib.hid hcells
            generalize C.size = cs at *
            clear hC hBM hcell hbel hcells
            obtain ⟨g, hg⟩ : ∃ g, g = w.heap.size := ⟨_, rfl⟩
            rw [← hg]
            have HG := Lib.hid hg
            clear hg
            go_loopw [2, 34] (fun xv iv wr => ∃ j k : Nat, j ≤ m ∧ iv = .int .i64 j ∧ xv = .int .u64 k ∧ Hid (k = valL ((r.take m).take j)) ∧ Ext w1 wr) (fun _ iv _ => m - (intOf iv).toNat)
            case atStart => exact ⟨0, 0, by omega, rfl, rfl, Lib.hid rfl, Ext.refl _⟩
            case round =>
              obtain ⟨j, k, hj, rfl, rfl, hk, hE2⟩ := hrel
              by_cases hj2 : j < m
              · have t5 : decide (j < m) = true := by simpa using hj2
                have jj0 : (0 : Int) ≤ (j : Int) := by omega
                have jj1 : (j : Int) < (m : Int) := by omega
                have ce := hE2.cellv (HCE.out j hj2)
                rw [← HG.out] at ce
                obtain ⟨y, hy⟩ : ∃ y, y = bn (s.extract 1 (m + 1)) j := ⟨_, rfl⟩
                rw [← hy] at ce
                have hy8 : y < 256 := by rw [hy]; exact bn_lt _ _
                have y0 : (0 : Int) ≤ (y : Int) := by omega
                have y1 : (y : Int) < 256 := by omega
                have HY := Lib.hid hy
                clear hy
                have hlen : (r.take m).length = m := by rw [← HBS.out, Ls_length]; exact HTZ.out
                have hyv := bn_Ls _ _ HBS.out j (by omega)
                have hkv := valL_take (r.take m) j (by omega)
                have hkb := valL_take_lt (r.take m) j m hj2 (by omega)
                have hbits := shl_or (k := k) (y := y) (by rw [hk.out]; exact hkb) hy8
                obtain ⟨k2, hk2⟩ : ∃ k2, k2 = 256 * k + y := ⟨_, rfl⟩
                rw [← hk2] at hbits
                have HK2 : Hid (k2 = valL ((r.take m).take (j + 1))) := Lib.hid (by rw [hkv, hk2, hk.out, HY.out, hyv])
                clear hk2 hlen hyv hkv hkb
                go_wp2
                go_roundw
                case rel => exact ⟨j + 1, k2, by omega, by go_num, rfl, HK2, hE2⟩
                case measure => simp [intOf]; omega
              · have t5 : decide (j < m) = false := by simpa using hj2
                have hjm : j = m := by omega
                have hfin : k = valL (r.take m) := by
                  rw [hk.out, hjm, List.take_of_length_le (by rw [List.length_take]; omega)]
                have HFIN := Lib.hid hfin
                clear hfin hjm
                go_wp2
                go_ret3
                have h9 := HR.out
                rw [← HFIN.out] at h9
                exact readIs_of h9 (hE1.trans hE2)
        · have t3 : decide (0 < m) = false := by simpa using hmp
          have hR : readL (Ls s) = (valL (r.take m), m + 1, 0) := by rw [hl, readL_cons, if_neg (by omega), if_neg (by omega), if_neg (fun h => by omega), hm]
          have HR := Lib.hid hR
          clear hl hm hz hR hbs hTz hhead hhead2
          go_enter Try.func73, Try.ntmps73
          go_wp2_with (with_reducible refine wpList_str_bytes rfl 9 40 5 (.tmp 31) rfl Try.underlying9 Try.underlying40 Try.underlying5 (s.extract 1 (m + 1)) rfl ?_; intro C w1 hC hBM hcell hbel _; rw [HTZ.out] at hC ⊢)
          have HBS2 : Hid (Ls (s.extract 1 (m + 1)) = r.take m) := HBS
          have hE1 : Ext w w1 := hbel
          have hcells : ∀ j (hj : j < m), w1.cell? ⟨w.heap.size, j, none⟩ = some (.int .u8 (bn (s.extract 1 (m + 1)) j : Int)) := fun j hj => by
            rw [hBM.cell, hcell j (by rw [HTZ.out]; exact hj)]; rfl
          have HCE := Lib.hid hcells
          generalize C.size = cs at *
          clear hC hBM hcell hbel hcells
          obtain ⟨g, hg⟩ : ∃ g, g = w.heap.size := ⟨_, rfl⟩
          rw [← hg]
          have HG := Lib.hid hg
          clear hg
          go_loopw [2, 34] (fun xv iv wr => ∃ j k : Nat, j ≤ m ∧ iv = .int .i64 j ∧ xv = .int .u64 k ∧ Hid (k = valL ((r.take m).take j)) ∧ Ext w1 wr) (fun _ iv _ => m - (intOf iv).toNat)
          case atStart => exact ⟨0, 0, by omega, rfl, rfl, Lib.hid rfl, Ext.refl _⟩
          case round =>
            obtain ⟨j, k, hj, rfl, rfl, hk, hE2⟩ := hrel
            by_cases hj2 : j < m
            · exact absurd hj2 (by omega)
            · have t5 : decide (j < m) = false := by simpa using hj2
              have hjm : j = m := by omega
              have hfin : k = valL (r.take m) := by
                rw [hk.out, hjm, List.take_of_length_le (by rw [List.length_take]; omega)]
              have HFIN := Lib.hid hfin
              clear hfin hjm
              go_wp2
              go_ret3
              have h9 := HR.out
              rw [← HFIN.out] at h9
              exact readIs_of h9 (hE1.trans hE2)
end Go.Proofs.Ytpengejnjmicnaa
end
section
namespace Go.Proofs.Ytpengejnjmicnaa
open Go.RowKit Go.Nb
theorem mul_add {k y : Nat} (hk : k < 72057594037927936) (hy : y < 256) : IntKind.u64.wrap (IntKind.u64.wrap (256 * (k : Int)) + (y : Int)) = ((256 * k + y : Nat) : Int) := by
  have h1 : IntKind.u64.wrap (256 * (k : Int)) = ((256 * k : Nat) : Int) := by
    rw [← u64_lt (d := 256 * k) (by omega)]; congr 1
  rw [h1, ← Int.natCast_add]
  exact u64_lt (by omega)
theorem valL_takeD (l : Bs) (j : Nat) (h : j < l.length) : valL (l.take (j + 1)) = 256 * valL (l.take j) + (l.getD j 0).toNat := by
  rw [valL_take l j h, List.getD_eq_getElem?_getD, List.getElem?_eq_getElem h]; rfl
set_option maxRecDepth 100000 in
theorem read_ref (s : ByteArray) (hs : s.size ≤ 1048576) (w : World) : Calls Try.prog 59 #[.string s] w (ReadIs s w) := by
  have hO := Ext.refl w
  cases hl : Ls s with
  | nil =>
    have hR : readL (Ls s) = (0, 0, 10) := by rw [hl]; rfl
    have e1 : s.toList = [] := by rw [toList_Ls]; exact hl
    have HR := Lib.hid hR
    clear hl hR
    go_enter Try.func59, Try.ntmps59
    go_wp2
    go_ret3
    exact readIs_of HR.out hO
  | cons c r =>
    obtain ⟨hz, hb0, hb1⟩ := Ls_cons hl
    have e1 : s.toList.isEmpty = false := by rw [toList_Ls, hl]; rfl
    have e2 : (s.toList == []) = false := by rw [toList_Ls, hl]; rfl
    have p0 : 0 < s.size := by omega
    obtain ⟨m, hm⟩ : ∃ m, m = c.toNat := ⟨_, rfl⟩
    have g0 : (s[0]'p0).toNat = m := by rw [str_get, hb0, hm]
    have m0 : (0 : Int) ≤ (m : Int) := by omega
    have m1 : (m : Int) < 256 := by have := c.toNat_lt; omega
    have HM := Lib.hid hm
    have HZ := Lib.hid hz
    have HL := Lib.hid hl
    clear hb0
    by_cases h8 : 8 < m
    · have t1 : decide ((8 : Int) < (m : Int)) = true := by simp; omega
      have hR : readL (Ls s) = (0, 0, 8) := by rw [hl, readL_cons, if_pos (by omega)]
      have HR := Lib.hid hR
      clear hl hm hz hR
      go_enter Try.func59, Try.ntmps59
      go_wp2
      go_ret3
      exact readIs_of HR.out hO
    · have t1 : decide ((8 : Int) < (m : Int)) = false := by simp; omega
      by_cases hlen : s.size ≤ m
      · have t2 : decide ((s.size : Int) < 1 + (m : Int)) = true := by simp; omega
        have hR : readL (Ls s) = (0, 0, 10) := by rw [hl, readL_cons, if_neg (by omega), if_pos (by omega)]
        have HR := Lib.hid hR
        clear hl hm hz hR
        go_enter Try.func59, Try.ntmps59
        go_wp2
        go_ret3
        exact readIs_of HR.out hO
      · have t2 : decide ((s.size : Int) < 1 + (m : Int)) = false := by simp; omega
        have hlenr : (r.take m).length = m := by rw [List.length_take]; omega
        have hbr : ∀ j (hj : j < m), bn s (j + 1) = ((r.take m).getD j 0).toNat := fun j hj => by
          rw [hb1 j, List.getD_eq_getElem?_getD, List.getD_eq_getElem?_getD, List.getElem?_take, if_pos hj]
        have HBR := Lib.hid hbr
        have HLR := Lib.hid hlenr
        have hhead : 0 < m → r.headD 0 = 0 → bn s 1 = 0 := fun hm0 h0 => by
          rw [hb1 0]
          cases r with
          | nil => simp at hz; omega
          | cons a q => simp at h0; simp [h0]
        have hhead2 : 0 < m → bn s 1 = 0 → r.headD 0 = 0 := fun hm0 h0 => by
          rw [hb1 0] at h0
          cases r with
          | nil => rfl
          | cons a q =>
            have h1 : a.toNat = 0 := by simpa using h0
            show a = 0
            exact UInt8.toNat_inj.mp (by simpa using h1)
        have HH := Lib.hid hhead
        have HH2 := Lib.hid hhead2
        clear hhead hhead2 hb1 hbr hlenr hl hm hz
        have mm : (m : Int) ≤ 8 := by omega
        go_enter Try.func59, Try.ntmps59
        go_wp2
        go_loopw [6, 7] (fun xv iv wr => ∃ j k : Nat, j ≤ m ∧ iv = .int .i64 ((j : Int) + 1) ∧ xv = .int .u64 k ∧ Hid (k = valL ((r.take m).take j)) ∧ Ext w wr) (fun _ iv _ => m + 1 - (intOf iv).toNat)
        case atStart => exact ⟨0, 0, by omega, rfl, rfl, Lib.hid rfl, hO⟩
        case round =>
          obtain ⟨j, k, hj, rfl, rfl, hk, hE2⟩ := hrel
          have jj0 : (0 : Int) ≤ (j : Int) := by omega
          have jj8 : (j : Int) ≤ 8 := by omega
          by_cases hj2 : j < m
          · have t5 : decide ((j : Int) + 1 ≤ (m : Int)) = true := by simp; omega
            have pj : j + 1 < s.size := by omega
            have gj : (s[j + 1]'pj).toNat = bn s (j + 1) := str_get s (j + 1) pj
            have pj2 : (j : Int) + 1 < (s.size : Int) := by omega
            have hyv := HBR.out j hj2
            obtain ⟨y, hy⟩ : ∃ y, y = bn s (j + 1) := ⟨_, rfl⟩
            rw [← hy] at gj
            have hy8 : y < 256 := by rw [hy]; exact bn_lt _ _
            have y0 : (0 : Int) ≤ (y : Int) := by omega
            have y1 : (y : Int) < 256 := by omega
            have hkv := valL_takeD (r.take m) j (by have := HLR.out; omega)
            have hkb := valL_take_lt (r.take m) j m hj2 (by omega)
            have hbits := mul_add (k := k) (y := y) (by rw [hk.out]; exact hkb) hy8
            obtain ⟨k2, hk2⟩ : ∃ k2, k2 = 256 * k + y := ⟨_, rfl⟩
            rw [← hk2] at hbits
            have HK2 : Hid (k2 = valL ((r.take m).take (j + 1))) := Lib.hid (by rw [hkv, hk2, hk.out, hy, hyv])
            clear hk2 hyv hkv hkb hy
            go_wp2
            go_roundw
            case rel => exact ⟨j + 1, k2, by omega, by go_num, rfl, HK2, hE2⟩
            case measure => simp [intOf]; omega
          · have t5 : decide ((j : Int) + 1 ≤ (m : Int)) = false := by simp; omega
            have hjm : j = m := by omega
            have hfin : k = valL (r.take m) := by
              rw [hk.out, hjm, List.take_of_length_le (by rw [List.length_take]; omega)]
            have HFIN := Lib.hid hfin
            clear hfin hjm
            have hl := HL.out
            have hm := HM.out
            have hz := HZ.out
            by_cases hmp : 0 < m
            · have t3 : decide (0 < m) = true := by simpa using hmp
              have p1 : 1 < s.size := by omega
              have g1 := str_get s 1 p1
              by_cases hb : bn s 1 = 0
              · have hR : readL (Ls s) = (0, 0, 8) := by rw [hl, readL_cons, if_neg (by omega), if_neg (by omega), if_pos ⟨by omega, HH2.out hmp hb⟩]
                have HR := Lib.hid hR
                have t4 : ((bn s 1 : Int) == 0) = true := by simp; omega
                clear hl hm hz hR HBR HH HH2 hb
                generalize bn s 1 = b1 at *
                go_wp2
                go_ret3
                exact readIs_of HR.out hE2
              · have hR : readL (Ls s) = (k, m + 1, 0) := by rw [hl, readL_cons, if_neg (by omega), if_neg (by omega), if_neg (fun h => hb (HH.out hmp h.2)), ← hm, HFIN.out]
                have HR := Lib.hid hR
                have t4 : ((bn s 1 : Int) == 0) = false := by simp; omega
                clear hl hm hz hR HBR HH HH2 hb
                generalize bn s 1 = b1 at *
                go_wp2
                go_ret3
                have h9 := HR.out
                rw [Nat.add_comm m 1] at h9
                have := readIs_of h9 hE2
                rw [Int.natCast_add] at this
                exact this
            · have t3 : decide (0 < m) = false := by simpa using hmp
              have hR : readL (Ls s) = (k, m + 1, 0) := by rw [hl, readL_cons, if_neg (by omega), if_neg (by omega), if_neg (fun h => by omega), ← hm, HFIN.out]
              have HR := Lib.hid hR
              clear hl hm hz hR HBR HH HH2
              go_wp2
              go_ret3
              have h9 := HR.out
              rw [Nat.add_comm m 1] at h9
              have := readIs_of h9 hE2
              rw [Int.natCast_add] at this
              exact this
end Go.Proofs.Ytpengejnjmicnaa
end
section
namespace Go.Proofs.Ytpengejnjmicnaa
open Go.RowKit Go.Nb
/-- Bytes that are read: what is left, what is wrong. -/
def rdC (l : Bs) (e : Int) (i : Nat) : Value := if i = 0 then .string (Bt l) else if i = 1 then .int .i64 e else .bool true
def RdrAt (w : World) (g : Nat) (l : Bs) (e : Int) : Prop := CellsT w 96 g 3 (rdC l e)
section
variable {w w' : World} {g : Nat} {l : Bs} {e : Int}
theorem RdrAt.ext (h : RdrAt w g l e) (hE : Ext w w') : RdrAt w' g l e := CellsT.ext h hE
theorem RdrAt.c0 (h : RdrAt w g l e) : w.cell? ⟨g, 0, none⟩ = some (.string (Bt l)) := CellsT.cell h 0 (by omega)
theorem RdrAt.c1 (h : RdrAt w g l e) : w.cell? ⟨g, 1, none⟩ = some (.int .i64 e) := CellsT.cell h 1 (by omega)
theorem RdrAt.c2 (h : RdrAt w g l e) : w.cell? ⟨g, 2, none⟩ = some (.bool true) := CellsT.cell h 2 (by omega)
theorem RdrAt.setE (h : RdrAt w g l e) (k : Int) : RdrAt (w.setCell ⟨g, 1, none⟩ (.int .i64 k)) g l k := CellsT.set_ h 1 _ (fun j hj => by
    match j, hj with
    | 0, _ => rfl
    | 1, _ => rfl
    | 2, _ => rfl)
theorem RdrAt.setL (h : RdrAt w g l e) (l' : Bs) : RdrAt (w.setCell ⟨g, 0, none⟩ (.string (Bt l'))) g l' e := CellsT.set_ h 0 _ (fun j hj => by
    match j, hj with
    | 0, _ => rfl
    | 1, _ => rfl
    | 2, _ => rfl)
theorem wire_new (s : ByteArray) (w : World) : Calls Try.prog 36 #[.string s] w fun e w' => e = .returned (.pointer (some ⟨w.heap.size, 0, none⟩)) ∧ RdrAt w' w.heap.size (Ls s) 0 ∧ Ext w w' := by
  go_enter Try.func36, Try.ntmps36
  go_wp2
  go_ret
  refine ⟨rfl, CellsT.of_blk (Blk.new w 96 _) (by simp) (fun j hj => ?_), (Ext.refl w).alloc _⟩
  match j, hj with
  | 0, _ => rfl
  | 1, _ => rfl
  | 2, _ => rfl
theorem none_any (h : RdrAt w g l e) : Calls Try.prog 76 #[.pointer (some ⟨g, 0, none⟩)] w fun e w' => e = .returned (.bool false) ∧ Ext w w' := by
  have c2 := h.c2
  go_enter Try.func76, Try.ntmps76
  go_wp2
  go_ret
  exact ⟨rfl, Ext.refl w⟩
theorem err_any (h : RdrAt w g l e) : Calls Try.prog 56 #[.pointer (some ⟨g, 0, none⟩)] w fun x w' => x = .returned (.int .i64 e) ∧ Ext w w' := by
  go_enter Try.func56, Try.ntmps56
  go_wp2_with (go_at_call 76; (with_reducible refine (none_any h).mono ?_); rintro e w1 ⟨rfl, hE⟩; have c1 := (h.ext hE).c1)
  go_ret
  exact ⟨rfl, hE⟩
theorem take_err (h : RdrAt w g l e) (he : e ≠ 0) (v : Value) : Calls Try.prog 71 #[.pointer (some ⟨g, 0, none⟩), v] w fun x w' => x = .returned (.bool false) ∧ Ext w w' := by
  have t1 : (e != 0) = true := by simpa using he
  clear he
  go_enter Try.func71, Try.ntmps71
  go_wp2_with (go_at_call 76; (with_reducible refine (none_any h).mono ?_); rintro e w1 ⟨rfl, hE⟩; have c1 := (h.ext hE).c1)
  go_ret
  exact ⟨rfl, hE⟩
end
/-- What a call of take finds: n bytes, or an error. -/
def Finds (R : Nat → Int → World → Prop) (g : Nat) (l : Bs) (e : Ending) (w' : World) : Prop :=
  ∃ (n : Nat) (k : Int), e = .returned (.tuple #[.int .i64 n, .int .i64 k]) ∧ RdrAt w' g l 0 ∧ n ≤ l.length ∧ R n k w'
def TakePost (R : Nat → Int → World → Prop) (g : Nat) (l : Bs) (e : Ending) (w' : World) : Prop :=
  ∃ (n : Nat) (k : Int) (w1 : World), R n k w1 ∧ e = .returned (.bool (k == 0)) ∧ RdrAt w' g (if k = 0 then l.drop n else l) k ∧ OnlyB g w1 w'
set_option maxRecDepth 100000 in
theorem take_any (R : Nat → Int → World → Prop) {w : World} {g : Nat} {l : Bs} (h : RdrAt w g l 0) (f : Nat) (ca : Array Value) (hen : Enters Try.prog f)
    (hf : ∀ w', Ext w w' → Calls Try.prog f (#[.string (Bt l)] ++ ca) w' (Finds R g l)) : Calls Try.prog 71 #[.pointer (some ⟨g, 0, none⟩), .func (.func f) #[] ca] w (TakePost R g l) := by
  have HF := Lib.hid hf
  have hent2 : ∀ (args : Array Value) (w : World), (callFunc f args).run Try.prog w = .ok (.enter f args) w := hen
  clear hf hen
  go_enter Try.func71, Try.ntmps71
  go_wp2_with (first
    | (go_at_call 76; (with_reducible refine (none_any h).mono ?_); rintro e w1 ⟨rfl, hE⟩; have hR := h.ext hE; have c0 := hR.c0; have c1 := hR.c1)
    | (go_at_fn f; refine (HF.out _ hE).mono ?_; rintro e w2 ⟨n, k, rfl, hR2, hn, hRR⟩; have d0 := hR2.c0; have d1 := hR2.c1; have f0 := CellsT.frozen hR2 0 (by omega); have f1 := CellsT.frozen hR2 1 (by omega); have hn2 : n ≤ (Bt l).size := hn))
  · go_ret
    have hk : (k != 0) = true := by assumption
    have hk2 : k ≠ 0 := by simpa using hk
    refine ⟨n, k, w2, hRR, ?_, ?_, (OnlyB.refl g w2).setCell 1 _⟩
    · have : (k == 0) = false := by simpa using hk2
      rw [this]; rfl
    · rw [if_neg hk2]; exact hR2.setE k
  · go_ret
    have hk : (k != 0) = false := by assumption
    have hk2 : k = 0 := by simpa using hk
    refine ⟨n, k, w2, hRR, ?_, ?_, ((OnlyB.refl g w2).setCell 1 _).setCell 0 _⟩
    · have : (k == 0) = true := by simpa using hk2
      rw [this]; rfl
    · rw [if_pos hk2]
      have := (hR2.setE k).setL (l.drop n)
      have e : (Bt l).extract n (Bt l).size = Bt (l.drop n) := by
        rw [Bt_extract, Bt_size, List.take_of_length_le (Nat.le_refl _)]
      rw [e]
      exact this
end Go.Proofs.Ytpengejnjmicnaa
end
section
namespace Go.Proofs.Ytpengejnjmicnaa
open Go.RowKit Go.Nb
/-- A variable that is shared. -/
def BoxAt (w : World) (t : TypeId) (b : Nat) (v : Value) : Prop := CellsT w t b 1 (fun _ => v)
theorem BoxAt.ext {w w' : World} {t : TypeId} {b : Nat} {v : Value} (h : BoxAt w t b v) (hE : Ext w w') : BoxAt w' t b v := CellsT.ext h hE
theorem BoxAt.cell {w : World} {t : TypeId} {b : Nat} {v : Value} (h : BoxAt w t b v) : w.cell? ⟨b, 0, none⟩ = some v := CellsT.cell h 0 (by omega)
theorem BoxAt.frozen {w : World} {t : TypeId} {b : Nat} {v : Value} (h : BoxAt w t b v) : w.frozen? ⟨b, 0, none⟩ = false := CellsT.frozen h 0 (by omega)
theorem BoxAt.set_ {w : World} {t : TypeId} {b : Nat} {v : Value} (h : BoxAt w t b v) (u : Value) : BoxAt (w.setCell ⟨b, 0, none⟩ u) t b u := CellsT.set_ h 0 u (fun j hj => by rw [if_pos (by omega)])
theorem BoxAt.new (w : World) (t : TypeId) (v : Value) : BoxAt (w.alloc (.cells #[v] t)) t w.heap.size v := CellsT.of_blk (Blk.new w t _) (by simp) (fun j hj => by
  obtain rfl : j = 0 := by omega
  rfl)
theorem BoxAt.lt {w : World} {t : TypeId} {b : Nat} {v : Value} (h : BoxAt w t b v) : b < w.heap.size := CellsT.lt h
theorem BoxAt.only {w w' : World} {t : TypeId} {b g : Nat} {v : Value} (h : BoxAt w t b v) (hO : OnlyB g w w') (hne : b ≠ g) : BoxAt w' t b v := CellsT.only h hO hne
theorem rdr_box {w : World} {g b : Nat} {l : Bs} {e : Int} {v : Value} (h : RdrAt w g l e) (hb : BoxAt w 57 b v) : g ≠ b :=
  CellsT.ne (t := 96) (t' := 57) h hb (by decide)
def numE (most : Nat) (l : Bs) : Int := if (readL l).2.2 ≠ 0 then (readL l).2.2 else if most < (readL l).1 then 9 else 0
theorem numE_is (most : Nat) (l : Bs) : (rdNum most l).2.2 = numE most l := by
  unfold rdNum numE
  split
  · rfl
  · split <;> rfl
theorem numL_is (most : Nat) (l : Bs) : (rdNum most l).2.1 = if numE most l = 0 then l.drop (readL l).2.1 else l := by
  unfold rdNum numE
  split
  · rfl
  · split
    · rfl
    · rfl
theorem numV_is (most : Nat) (l : Bs) : (rdNum most l).1 = if numE most l = 0 then (readL l).1 else 0 := by
  unfold rdNum numE
  split
  · rfl
  · split
    · rfl
    · rfl
theorem readL_n (l : Bs) : (readL l).2.1 ≤ l.length := by
  cases l with
  | nil => exact Nat.le_refl _
  | cons c r =>
    rw [readL_cons]
    split
    · exact Nat.zero_le _
    · split
      · exact Nat.zero_le _
      · split
        · exact Nat.zero_le _
        · simp; omega
/-- What Num's find leaves. -/
def RNum (w : World) (bx most : Nat) (l : Bs) (n : Nat) (k : Int) (w' : World) : Prop := k = numE most l ∧ n = (readL l).2.1 ∧ BoxAt w' 57 bx (.int .u64 (readL l).1) ∧ Turn (· = bx) w w'
theorem e41 : Enters Try.prog 72 := enters_of Try.func72 (by kernel_rfl) rfl
theorem e43 : Enters Try.prog 74 := enters_of Try.func74 (by kernel_rfl) rfl
set_option maxRecDepth 100000 in
theorem num1_any {w : World} {g bx bm most : Nat} {l : Bs} {xv : Value} (h : RdrAt w g l 0) (hl : l.length ≤ 1048576) (hx : BoxAt w 57 bx xv) (hm : w.cell? ⟨bm, 0, none⟩ = some (.int .u64 most)) (hne : bm ≠ bx) :
    Calls Try.prog 72 #[.string (Bt l), .pointer (some ⟨bx, 0, none⟩), .pointer (some ⟨bm, 0, none⟩)] w (Finds (RNum w bx most l) g l) := by
  have HR := Lib.hid (read_any (Bt l) hl w)
  have hn := readL_n l
  have hnE : numE most l = if (readL l).2.2 ≠ 0 then (readL l).2.2 else if most < (readL l).1 then 9 else 0 := rfl
  obtain ⟨x, hxx⟩ : ∃ x, x = (readL l).1 := ⟨_, rfl⟩
  obtain ⟨n, hnn⟩ : ∃ x, x = (readL l).2.1 := ⟨_, rfl⟩
  obtain ⟨e, hee⟩ : ∃ x, x = (readL l).2.2 := ⟨_, rfl⟩
  rw [← hee, ← hxx] at hnE
  have HP : ∀ k w1 w', k = numE most l → Ext w w1 → w' = w1.setCell ⟨bx, 0, none⟩ (.int .u64 x) → Finds (RNum w bx most l) g l (.returned (.tuple #[.int .i64 n, .int .i64 k])) w' := fun k w1 w' hk hE hw => by
    subst hw
    refine ⟨n, k, rfl, ?_, by rw [hnn]; exact hn, hk, hnn, by rw [← hxx]; exact (hx.ext hE).set_ _, (Turn.of hE).trans (Turn.set_ (H := (· = bx)) (a := ⟨bx, 0, none⟩) rfl _)⟩
    exact CellsT.far (p := ⟨bx, 0, none⟩) (h.ext hE) (rdr_box h hx) _
  have HP := Lib.hid HP
  have HE := Lib.hid hnE
  have HRD : ReadIs (Bt l) w = fun e' w' => e' = .returned (.tuple #[.int .u64 x, .int .i64 n, .int .i64 e]) ∧ Ext w w' := by
    rw [hxx, hnn, hee]; rfl
  have HR2 := HR.out
  rw [HRD] at HR2
  have HR2 := Lib.hid HR2
  clear hnE hxx hnn hee HRD hn
  by_cases he : e = 0
  · have t1 : (e == 0) = true := by simpa using he
    by_cases hb : most < x
    · have t2 : decide (most < x) = true := by simpa using hb
      have hk : (9 : Int) = numE most l := by rw [HE.out, if_neg (by simpa using he), if_pos hb]
      have HK := Lib.hid hk
      clear hk he hb
      go_enter Try.func72, Try.ntmps72
      go_wp2_with (go_at_call 73; (with_reducible refine HR2.out.mono ?_); rintro e1 w1 ⟨rfl, hE⟩; have cx := (hx.ext hE).cell; have fx := (hx.ext hE).frozen; have cm := hE.cellv hm)
      go_ret2
      exact HP.out _ w1 _ HK.out hE rfl
    · have t2 : decide (most < x) = false := by simpa using hb
      have hk : e = numE most l := by rw [HE.out, if_neg (by simpa using he), if_neg hb]; exact he
      have HK := Lib.hid hk
      clear hk he hb
      go_enter Try.func72, Try.ntmps72
      go_wp2_with (go_at_call 73; (with_reducible refine HR2.out.mono ?_); rintro e1 w1 ⟨rfl, hE⟩; have cx := (hx.ext hE).cell; have fx := (hx.ext hE).frozen; have cm := hE.cellv hm)
      go_ret2
      exact HP.out _ w1 _ HK.out hE rfl
  · have t1 : (e == 0) = false := by simpa using he
    have hk : e = numE most l := by rw [HE.out, if_pos he]
    have HK := Lib.hid hk
    clear hk he
    go_enter Try.func72, Try.ntmps72
    go_wp2_with (go_at_call 73; (with_reducible refine HR2.out.mono ?_); rintro e1 w1 ⟨rfl, hE⟩; have cx := (hx.ext hE).cell; have fx := (hx.ext hE).frozen; have cm := hE.cellv hm)
    go_ret2
    exact HP.out _ w1 _ HK.out hE rfl
end Go.Proofs.Ytpengejnjmicnaa
end
