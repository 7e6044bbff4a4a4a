import Derived.Test.YtpcbllmmbbmkfaaPre5
import Derived.Test.YtpcbllmmbbmkfaaNb
namespace Go.Proofs.Ytpcbllmmbbmkfaa
open Go.RowKit Go.Nb
/-- The text of some bytes; a text's bytes. -/
def Bt (l : Bs) : ByteArray := ⟨l.toArray⟩
def Ls (s : ByteArray) : Bs := s.data.toList
theorem Ls_Bt (l : Bs) : Ls (Bt l) = l := rfl
theorem Bt_Ls (s : ByteArray) : Bt (Ls s) = s := rfl
theorem Bt_size (l : Bs) : (Bt l).size = l.length := rfl
theorem Ls_length (s : ByteArray) : (Ls s).length = s.size := rfl
theorem Bt_append (a b : Bs) : Bt a ++ Bt b = Bt (a ++ b) := by
  unfold Bt
  apply ByteArray.ext
  simp
theorem Ls_append (s t : ByteArray) : Ls (s ++ t) = Ls s ++ Ls t := by unfold Ls; simp
theorem Ls_inj {s t : ByteArray} (h : Ls s = Ls t) : s = t := by rw [← Bt_Ls s, ← Bt_Ls t, h]
theorem Ls_extract (s : ByteArray) (a b : Nat) : Ls (s.extract a b) = ((Ls s).take b).drop a := by
  unfold Ls
  simp [List.extract_eq_take_drop, List.drop_take]
theorem Bt_extract (l : Bs) (a b : Nat) : (Bt l).extract a b = Bt ((l.take b).drop a) := Ls_inj (by rw [Ls_extract]; rfl)
theorem toList_Ls (s : ByteArray) : s.toList = Ls s := by rw [ByteArray.toList_eq]; rfl
/-- 'string([]byte{c})'. -/
theorem str_one {c : Nat} (hc : c < 256) (w : World) : (convert 79 9 (.slice (some ⟨w.heap.size, 0, none⟩) 1 1)).run Try.prog (w.alloc (.cells #[.int .u8 (c : Int)] 5)) = .ok (.string (Bt [UInt8.ofNat c])) (w.alloc (.cells #[.int .u8 (c : Int)] 5)) := by
  refine run_convert_bytes_back (P := Try.prog) (w.alloc (.cells #[.int .u8 (c : Int)] 5)) 79 9 5 ⟨w.heap.size, 0, none⟩ 1 [UInt8.ofNat c] Try.underlying79 Try.underlying5 Try.underlying9 (fun j hj => ?_)
  rw [Addr.add_mid, Nat.zero_add, (Blk.new w 5 _).cell]
  match j, hj with
  | 0, _ => simp; omega
theorem add_str (s t : ByteArray) (h : s.size + t.size ≤ 1048576) (w : World) : (Op.stringOp .add s t).run Try.prog w = .ok (.string (s ++ t)) w := by
  have h : ¬ (((s.size + t.size : Nat) : Int) > IntKind.i64.max) := by
    have : IntKind.i64.max = 9223372036854775807 := rfl
    rw [this]; omega
  unfold Op.stringOp
  simp only [if_neg h]
  rfl
theorem add_Bt (a b : Bs) (h : a.length + b.length ≤ 1048576) (w : World) : (Op.stringOp .add (Bt a) (Bt b)).run Try.prog w = .ok (.string (Bt (a ++ b))) w := by
  rw [add_str (Bt a) (Bt b) h, Bt_append]
theorem u64_lt {d : Nat} (h : d < 18446744073709551616) : IntKind.u64.wrap (d : Int) = d := IntWalk.u64_in d (by omega)
theorem u64_in {d g : Nat} (h : Hid (d < 256 ^ g)) (hg : g ≤ 8 := by omega) : IntKind.u64.wrap (d : Int) = d := by
  have h1 := h.out
  have h2 : 256 ^ g ≤ (256 : Nat) ^ 8 := Nat.pow_le_pow_right (by omega) hg
  rw [pow8] at h2
  exact u64_lt (by omega)