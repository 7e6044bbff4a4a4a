import Derived.Test.YtbpicdjpgbboiaaPre5
import Derived.Test.YtbpicdjpgbboiaaNb
namespace Go.Proofs.Ytbpicdjpgbboiaa
open Go.RowKit Go.Nb
/-- The text of some bytes; a text's bytes. -/
def Bt (l : Bs) : ByteArray := ⟨l.toArray⟩
def Ls (s : ByteArray) : Bs := s.data.toList
theorem Ls_Bt (l : Bs) : Ls (Bt l) = l := rfl
theorem Bt_Ls (s : ByteArray) : Bt (Ls s) = s := rfl
theorem Bt_size (l : Bs) : (Bt l).size = l.length := rfl
theorem Ls_length (s : ByteArray) : (Ls s).length = s.size := rfl
theorem Bt_append (a b : Bs) : Bt a ++ Bt b = Bt (a ++ b) := by
  unfold Bt
  apply ByteArray.ext
  simp
theorem Ls_append (s t : ByteArray) : Ls (s ++ t) = Ls s ++ Ls t := by unfold Ls; simp
theorem Ls_inj {s t : ByteArray} (h : Ls s = Ls t) : s = t := by rw [← Bt_Ls s, ← Bt_Ls t, h]
theorem Ls_extract (s : ByteArray) (a b : Nat) : Ls (s.extract a b) = ((Ls s).take b).drop a := by
  unfold Ls
  simp [List.extract_eq_take_drop, List.drop_take]
theorem Bt_extract (l : Bs) (a b : Nat) : (Bt l).extract a b = Bt ((l.take b).drop a) := Ls_inj (by rw [Ls_extract]; rfl)
theorem toList_Ls (s : ByteArray) : s.toList = Ls s := by rw [ByteArray.toList_eq]; rfl
/-- 'string([]byte{c})'. -/
theorem str_one {c : Nat} (hc : c < 256) (w : World) : (convert 45 9 (.slice (some ⟨w.heap.size, 0, none⟩) 1 1)).run Try.prog (w.alloc (.cells #[.int .u8 (c : Int)] 5)) = .ok (.string (Bt [UInt8.ofNat c])) (w.alloc (.cells #[.int .u8 (c : Int)] 5)) := by
  refine run_convert_bytes_back (P := Try.prog) (w.alloc (.cells #[.int .u8 (c : Int)] 5)) 45 9 5 ⟨w.heap.size, 0, none⟩ 1 [UInt8.ofNat c] Try.underlying45 Try.underlying5 Try.underlying9 (fun j hj => ?_)
  rw [Addr.add_mid, Nat.zero_add, (Blk.new w 5 _).cell]
  match j, hj with
  | 0, _ => simp; omega
theorem add_str (s t : ByteArray) (h : s.size + t.size ≤ 1048576) (w : World) : (Op.stringOp .add s t).run Try.prog w = .ok (.string (s ++ t)) w := by
  have h : ¬ (((s.size + t.size : Nat) : Int) > IntKind.i64.max) := by
    have : IntKind.i64.max = 9223372036854775807 := rfl
    rw [this]; omega
  unfold Op.stringOp
  simp only [if_neg h]
  rfl
theorem add_Bt (a b : Bs) (h : a.length + b.length ≤ 1048576) (w : World) : (Op.stringOp .add (Bt a) (Bt b)).run Try.prog w = .ok (.string (Bt (a ++ b))) w := by
  rw [add_str (Bt a) (Bt b) h, Bt_append]
theorem u64_lt {d : Nat} (h : d < 18446744073709551616) : IntKind.u64.wrap (d : Int) = d := IntWalk.u64_in d (by omega)
theorem u64_in {d g : Nat} (h : Hid (d < 256 ^ g)) (hg : g ≤ 8 := by omega) : IntKind.u64.wrap (d : Int) = d := by
  have h1 := h.out
  have h2 : 256 ^ g ≤ (256 : Nat) ^ 8 := Nat.pow_le_pow_right (by omega) hg
  rw [pow8] at h2
  exact u64_lt (by omega)
set_option maxRecDepth 100000 in
theorem digits_any (x : Nat) (hx : x < 256 ^ 8) (w : World) : Calls Try.prog 55 #[.int .u64 x] w fun e w' => e = .returned (.string (Bt (digs x))) ∧ Ext w w' := by
  have HX := Lib.hid hx
  clear hx
  go_enter Try.func55, Try.ntmps55
  go_wp2
  go_loopw [0, 3] (fun xv sv wr => ∃ (f k : Nat) (t : Bs), f ≤ 8 ∧ Hid (k < 256 ^ f) ∧ xv = .int .u64 k ∧ sv = .string (Bt t) ∧ Hid (digsF f k ++ t = digs x) ∧ Ext w wr) (fun xv _ _ => (intOf xv).toNat)
  case atStart => exact ⟨8, x, [], by omega, HX, rfl, rfl, Lib.hid (List.append_nil _), Ext.refl _⟩
  case round =>
    obtain ⟨f, k, t, hf, hk, rfl, rfl, ht, hE⟩ := hrel
    by_cases h0 : 0 < k
    · have t1 : decide (0 < k) = true := by simpa using h0
      have kk0 : (0 : Int) ≤ (k : Int) := by omega
      obtain ⟨g, rfl⟩ : ∃ g, f = g + 1 := by
        cases f with
        | zero => have := hk.out; simp at this; omega
        | succ g => exact ⟨g, rfl⟩
      have hm : ((k : Int) % 256) = ((k % 256 : Nat) : Int) := by omega
      have hd : ((k : Int) / 256) = ((k / 256 : Nat) : Int) := by omega
      obtain ⟨c, hc⟩ : ∃ c, c = k % 256 := ⟨_, rfl⟩
      obtain ⟨d, hdd⟩ : ∃ d, d = k / 256 := ⟨_, rfl⟩
      rw [← hc] at hm
      rw [← hdd] at hd
      have hc256 : c < 256 := by omega
      have c0 : (0 : Int) ≤ (c : Int) := by omega
      have c1 : (c : Int) < 256 := by omega
      have hcv := fun (w : World) => str_one hc256 w
      have htl : t.length ≤ 8 := by
        have h1 := congrArg List.length ht.out
        have h2 := digs_len x
        simp only [List.length_append] at h1
        omega
      have hadd := add_Bt [UInt8.ofNat c] t (by simp; omega)
      have hnx : Hid (digsF g d ++ (UInt8.ofNat c :: t) = digs x) := by
        have h1 := ht.out
        rw [digsF, if_neg (by omega)] at h1
        refine Lib.hid ?_
        rw [← h1, hdd, hc]; simp
      have hkx : Hid (d < 256 ^ g) := by
        have h1 := hk.out
        rw [Nat.pow_succ] at h1
        exact Lib.hid (by omega)
      have hlt : d < k := by omega
      have hwr := u64_in hkx
      have HLT := Lib.hid hlt
      clear hc hdd htl hlt
      go_wp2
      go_roundw
      case rel => exact ⟨g, d, UInt8.ofNat c :: t, by omega, hkx, rfl, rfl, hnx, hE.alloc _⟩
      case measure => have := HLT.out; simp [intOf]; omega
    · have t1 : decide (0 < k) = false := by simpa using h0
      go_wp2
      go_ret
      obtain rfl : k = 0 := by omega
      have h1 := ht.out
      rw [digsF_zero, List.nil_append] at h1
      exact ⟨by rw [h1]; rfl, hE⟩
theorem up_ref (x : Nat) (hx : x < 256 ^ 8) (w : World) : Calls Try.prog 50 #[.int .u64 x] w fun e w' => e = .returned (.string (Bt (upL x))) ∧ Ext w w' := by
  have HD := Lib.hid (digits_any x hx w)
  have hl := digs_len x
  have hcv := fun (w : World) => str_one (c := (digs x).length) (by omega) w
  have hadd := add_Bt [UInt8.ofNat (digs x).length] (digs x) (by simp; omega)
  have hup : [UInt8.ofNat (digs x).length] ++ digs x = upL x := rfl
  rw [hup] at hadd
  have hz : ((Bt (digs x)).size : Int) = ((digs x).length : Int) := rfl
  have c0 : (0 : Int) ≤ ((digs x).length : Int) := by omega
  have c1 : ((digs x).length : Int) < 256 := by omega
  clear hup hl hx
  generalize (digs x).length = n at *
  generalize upL x = u at *
  generalize digs x = d at *
  go_enter Try.func50, Try.ntmps50
  go_wp2_with (go_at_call 55; (with_reducible refine HD.out.mono ?_); rintro e w1 ⟨rfl, hE⟩)
  go_ret
  exact ⟨rfl, hE.alloc _⟩
