import Derived.Test.YtjmbimmikfnaoaaS11
import Derived.Deep.RegionHeld3
import Derived.Deep.CutRange
namespace Go.Proofs.Ytjmbimmikfnaoaa
open Go.RowKit
theorem cut3 (s : ByteArray) (a b : Nat) (h1 : a ≤ b) (_h2 : b ≤ s.size) : sumOf [s.extract 0 a, s.extract a b, s.extract b s.size] = sumOf [s] := by
  unfold sumOf prog_of
  have hl : s.data.toList.length = s.size := rfl
  have e : allBytes [s.extract 0 a, s.extract a b, s.extract b s.size] = allBytes [s] := by
    simp only [allBytes, List.flatMap_cons, List.flatMap_nil, List.append_nil]
    simp only [← ByteArray.toList_eq, toList_extract]
    rw [ByteArray.toList_eq, List.drop_zero, List.take_of_length_le (i := s.size) (by omega), ← List.append_assoc]
    have : List.take a s.data.toList ++ List.drop a (List.take b s.data.toList) = List.take b s.data.toList := by
      conv => rhs; rw [← List.take_append_drop a (List.take b s.data.toList)]
      rw [List.take_take, Nat.min_eq_left h1]
    rw [this, List.take_append_drop]
  rw [e]
theorem e_left (s : ByteArray) : sumOf [{ data := #[] }, s] = sumOf [s] := by unfold sumOf prog_of; simp [allBytes]
theorem e_right (s : ByteArray) : sumOf [s, { data := #[] }] = sumOf [s] := by unfold sumOf prog_of; simp [allBytes]
/-- Sealed n times. -/
def sealN : Nat → ByteArray → ByteArray
  | 0, s => s
  | n + 1, s => sealT (sealN n s)
theorem sealT_size (s : ByteArray) : (sealT s).size = s.size + 4 := by unfold sealT; rw [ByteArray.size_append, be4_size]
theorem sealN_size (n : Nat) (s : ByteArray) : (sealN n s).size = s.size + 4 * n := by
  induction n with
  | zero => rfl
  | succ n ih => rw [sealN, sealT_size, ih]; omega
theorem open_seal (s : ByteArray) : opB (sealT s) = true ∧ opT (sealT s) = s := by
  have hz := sealT_size s
  have e1 : (sealT s).extract 0 s.size = s := by
    have hl : s.data.toList.length = s.size := rfl
    have h : ((sealT s).extract 0 s.size).toList = s.toList := by
      rw [toList_extract, List.drop_zero]
      unfold sealT
      rw [ByteArray.data_append, Array.toList_append, List.take_left' hl, ByteArray.toList_eq]
    apply ByteArray.ext
    apply Array.ext'
    rw [← ByteArray.toList_eq, h, ByteArray.toList_eq]
  have e2 : ((sealT s).extract s.size (s.size + 4)).toList = (be4 (sumOf [s])).toList := by
    rw [toList_extract]
    unfold sealT
    rw [ByteArray.data_append, Array.toList_append, ByteArray.toList_eq]
    have hl : s.data.toList.length = s.size := rfl
    have hb : (be4 (sumOf [s])).data.toList.length = 4 := be4_size _
    rw [List.take_of_length_le (by rw [List.length_append]; omega), List.drop_left' hl]
  have hf : fits (sealT s) = true := by
    unfold fits
    rw [hz, show s.size + 4 - 4 = s.size by omega, e1, e2]; simp
  have hB : opB (sealT s) = true := by unfold opB; rw [hf, hz]; simp
  refine ⟨hB, ?_⟩
  unfold opT
  rw [if_pos hB, hz, show s.size + 4 - 4 = s.size by omega, e1]

theorem ofp3 (s : ByteArray) (a b : Nat) (h1 : a ≤ b) (h2 : b ≤ s.size) (W : World) (g : Nat) (hs : s.size ≤ 2048) (c0 : W.cell? ⟨g, 0, none⟩ = some (.string (s.extract 0 a))) (c1 : W.cell? ⟨g, 1, none⟩ = some (.string (s.extract a b))) (c2 : W.cell? ⟨g, 2, none⟩ = some (.string (s.extract b s.size))) :
    Calls Try.prog 7 #[.slice (some ⟨g, 0, none⟩) 3 3] W fun e w' => e = .returned (.int .u32 (sumOf [s])) ∧ Ext W w' := by
  have hr : Rd W (some ⟨g, 0, none⟩) 3 [.string (s.extract 0 a), .string (s.extract a b), .string (s.extract b s.size)] := ⟨rfl, fun _ => ⟨g, 0, rfl, fun i v h => by
    match i, h with
    | 0, h => simp at h; subst h; exact c0
    | 1, h => simp at h; subst h; exact c1
    | 2, h => simp at h; subst h; exact c2⟩⟩
  have h := of_sum (some ⟨g, 0, none⟩) 3 3 [s.extract 0 a, s.extract a b, s.extract b s.size] W hr (by omega) (by
    have s1 : (s.extract 0 a).size ≤ 9223372036854775807 := by simp; omega
    have s2 : (s.extract a b).size ≤ 9223372036854775807 := by simp; omega
    have s3 : (s.extract b s.size).size ≤ 9223372036854775807 := by simp; omega
    intro t ht
    rcases List.mem_cons.1 ht with rfl | ht
    · exact s1
    rcases List.mem_cons.1 ht with rfl | ht
    · exact s2
    rcases List.mem_cons.1 ht with rfl | ht
    · exact s3
    · cases ht)
  rw [cut3 s a b h1 h2] at h
  exact h
theorem ofp2l (s : ByteArray) (W : World) (g : Nat) (hs : s.size ≤ 2048) (c0 : W.cell? ⟨g, 0, none⟩ = some (.string { data := #[] })) (c1 : W.cell? ⟨g, 1, none⟩ = some (.string s)) :
    Calls Try.prog 7 #[.slice (some ⟨g, 0, none⟩) 2 2] W fun e w' => e = .returned (.int .u32 (sumOf [s])) ∧ Ext W w' := by
  have hr : Rd W (some ⟨g, 0, none⟩) 2 [.string { data := #[] }, .string s] := ⟨rfl, fun _ => ⟨g, 0, rfl, fun i v h => by
    match i, h with
    | 0, h => simp at h; subst h; exact c0
    | 1, h => simp at h; subst h; exact c1⟩⟩
  have h := of_sum (some ⟨g, 0, none⟩) 2 2 [{ data := #[] }, s] W hr (by omega) (by
    intro t ht
    rcases List.mem_cons.1 ht with rfl | ht
    · exact Nat.zero_le _
    rcases List.mem_cons.1 ht with rfl | ht
    · omega
    · cases ht)
  rw [e_left] at h
  exact h
theorem ofp2r (s : ByteArray) (W : World) (g : Nat) (hs : s.size ≤ 2048) (c0 : W.cell? ⟨g, 0, none⟩ = some (.string s)) (c1 : W.cell? ⟨g, 1, none⟩ = some (.string { data := #[] })) :
    Calls Try.prog 7 #[.slice (some ⟨g, 0, none⟩) 2 2] W fun e w' => e = .returned (.int .u32 (sumOf [s])) ∧ Ext W w' := by
  have hr : Rd W (some ⟨g, 0, none⟩) 2 [.string s, .string { data := #[] }] := ⟨rfl, fun _ => ⟨g, 0, rfl, fun i v h => by
    match i, h with
    | 0, h => simp at h; subst h; exact c0
    | 1, h => simp at h; subst h; exact c1⟩⟩
  have h := of_sum (some ⟨g, 0, none⟩) 2 2 [s, { data := #[] }] W hr (by omega) (by
    intro t ht
    rcases List.mem_cons.1 ht with rfl | ht
    · omega
    rcases List.mem_cons.1 ht with rfl | ht
    · exact Nat.zero_le _
    · cases ht)
  rw [e_right] at h
  exact h
set_option maxRecDepth 100000 in
set_option maxHeartbeats 1000000 in
theorem sumParts_walk (s : ByteArray) (at_ by_ deep : Int) (w : World) (_ : s.size ≤ maxLen) (h1 : (Lit.int .u16 at_).wf = true) (h2 : (Lit.int .u16 by_).wf = true) (h3 : (Lit.int .u8 deep).wf = true) :
    Calls Try.prog 5 #[.string s, .int .u16 at_, .int .u16 by_, .int .u8 deep] w fun e w' => e = .returned (.bool true) ∧ Ext w w' := by
  have h1' : 0 ≤ at_ ∧ at_ < 65536 := by
    simp [Lit.wf, IntKind.min, IntKind.max, IntKind.signed, IntKind.bits] at h1; omega
  have h2' : 0 ≤ by_ ∧ by_ < 65536 := by
    simp [Lit.wf, IntKind.min, IntKind.max, IntKind.signed, IntKind.bits] at h2; omega
  have h3' : 0 ≤ deep ∧ deep < 256 := by
    simp [Lit.wf, IntKind.min, IntKind.max, IntKind.signed, IntKind.bits] at h3; omega
  clear h1 h2 h3
  obtain ⟨p, rfl⟩ := Int.eq_ofNat_of_zero_le h1'.1
  obtain ⟨q, rfl⟩ := Int.eq_ofNat_of_zero_le h2'.1
  obtain ⟨d, rfl⟩ := Int.eq_ofNat_of_zero_le h3'.1
  have h1 : p < 65536 := by omega
  have h2 : q < 65536 := by omega
  have h3 : d < 256 := by omega
  clear h1' h2' h3'
  by_cases hs : s.size > 2048
  · go_enter Try.func5, Try.ntmps5
    go_wp2_with (go_at_call 6; refine (alive_any _).mono ?_; rintro e w1 ⟨rfl, hB1⟩)
    go_ret
    exact ⟨rfl, hB1⟩
  have ha0 : (p : Int) % ((s.size : Int) + 1) = ((p % (s.size + 1) : Nat) : Int) := by rw [Int.natCast_emod]; rfl
  have hal : p % (s.size + 1) ≤ s.size := by have := Nat.mod_lt p (show 0 < s.size + 1 by omega); omega
  generalize p % (s.size + 1) = a at *
  have hc0 : (q : Int) % ((s.size : Int) - (a : Int) + 1) = ((q % (s.size - a + 1) : Nat) : Int) := by
    rw [Int.natCast_emod]; congr 1; omega
  have hcl : q % (s.size - a + 1) ≤ s.size - a := by have := Nat.mod_lt q (show 0 < s.size - a + 1 by omega); omega
  generalize q % (s.size - a + 1) = c at *
  obtain ⟨b, hb⟩ : ∃ b : Nat, b = a + c := ⟨_, rfl⟩
  have hab : (a : Int) + (c : Int) = (b : Int) := by omega
  have hb1 : a ≤ b := by omega
  have hb2 : b ≤ s.size := by omega
  have hd0 : (d : Int) % 9 = ((d % 9 : Nat) : Int) := by rw [Int.natCast_emod]; rfl
  have hd1 : d % 9 < 9 := Nat.mod_lt _ (by omega)
  generalize d % 9 = n at *
  clear hb hcl
  have k0 : (0 : Int) ≤ (a : Int) := by omega
  have k1 : (a : Int) ≤ (b : Int) := by omega
  have k2 : (b : Int) ≤ (s.size : Int) := by omega
  have k3 : (a : Int) ≤ (s.size : Int) := by omega
  have k4 : (0 : Int) ≤ (b : Int) := by omega
  go_enter Try.func5, Try.ntmps5
  go_wp2_with fail
  simp only [ha0, hc0]
  have HD := Lib.hid hd0
  clear ha0 hc0 hab hd0
  go_cut [61] from 37 to 61 (fun t wr => t = .bool false ∧ Ext w wr)
  case first =>
    go_region_held3 (fun w' => Ext w w') (first | assumption | ((repeat (first | exact Ext.refl _ | assumption | apply Ext.drew | apply Ext.alloc)); done) | (exact Ext.trans ‹_› hB1) | (exact Ext.trans ‹_› hB2) | (exact Ext.trans ‹_› hB3) | (exact Ext.trans ‹_› hB4))
       (first
      | (go_at_call 7; (with_reducible refine (ofp3 s a b hb1 hb2 _ _ (by omega) ?_ ?_ ?_).mono ?_); (with_reducible first | exact cell_n _ _ _ _ _ rfl | exact cell_nd _ _ _ _ _ rfl | exact cell_n2 _ _ _ _ _ _ rfl | exact cell_n2d _ _ _ _ _ _ rfl | exact cell_n3 _ _ _ _ _ _ rfl | exact cell_n3d _ _ _ _ _ _ rfl | exact hB1.cellv (cell_n2d _ _ _ _ _ _ rfl) | exact hB1.cellv (cell_n3d _ _ _ _ _ _ rfl) | exact hB2.cellv (cell_n2 _ _ _ _ _ _ rfl) | exact hB2.cellv (cell_n3 _ _ _ _ _ _ rfl) | exact hB3.cellv (cell_n2 _ _ _ _ _ _ rfl) | exact hB3.cellv (cell_n3 _ _ _ _ _ _ rfl)); (with_reducible first | exact cell_n _ _ _ _ _ rfl | exact cell_nd _ _ _ _ _ rfl | exact cell_n2 _ _ _ _ _ _ rfl | exact cell_n2d _ _ _ _ _ _ rfl | exact cell_n3 _ _ _ _ _ _ rfl | exact cell_n3d _ _ _ _ _ _ rfl | exact hB1.cellv (cell_n2d _ _ _ _ _ _ rfl) | exact hB1.cellv (cell_n3d _ _ _ _ _ _ rfl) | exact hB2.cellv (cell_n2 _ _ _ _ _ _ rfl) | exact hB2.cellv (cell_n3 _ _ _ _ _ _ rfl) | exact hB3.cellv (cell_n2 _ _ _ _ _ _ rfl) | exact hB3.cellv (cell_n3 _ _ _ _ _ _ rfl)); (with_reducible first | exact cell_n _ _ _ _ _ rfl | exact cell_nd _ _ _ _ _ rfl | exact cell_n2 _ _ _ _ _ _ rfl | exact cell_n2d _ _ _ _ _ _ rfl | exact cell_n3 _ _ _ _ _ _ rfl | exact cell_n3d _ _ _ _ _ _ rfl | exact hB1.cellv (cell_n2d _ _ _ _ _ _ rfl) | exact hB1.cellv (cell_n3d _ _ _ _ _ _ rfl) | exact hB2.cellv (cell_n2 _ _ _ _ _ _ rfl) | exact hB2.cellv (cell_n3 _ _ _ _ _ _ rfl) | exact hB3.cellv (cell_n2 _ _ _ _ _ _ rfl) | exact hB3.cellv (cell_n3 _ _ _ _ _ _ rfl)); rintro e w1 ⟨rfl, hB1⟩)
      | (go_at_call 7; (with_reducible refine (of_one s _ _ ?_ (by omega)).mono ?_); (with_reducible first | exact cell_n _ _ _ _ _ rfl | exact cell_nd _ _ _ _ _ rfl | exact cell_n2 _ _ _ _ _ _ rfl | exact cell_n2d _ _ _ _ _ _ rfl | exact cell_n3 _ _ _ _ _ _ rfl | exact cell_n3d _ _ _ _ _ _ rfl | exact hB1.cellv (cell_n2d _ _ _ _ _ _ rfl) | exact hB1.cellv (cell_n3d _ _ _ _ _ _ rfl) | exact hB2.cellv (cell_n2 _ _ _ _ _ _ rfl) | exact hB2.cellv (cell_n3 _ _ _ _ _ _ rfl) | exact hB3.cellv (cell_n2 _ _ _ _ _ _ rfl) | exact hB3.cellv (cell_n3 _ _ _ _ _ _ rfl)); rintro e w2 ⟨rfl, hB2⟩)
      | (go_at_call 7; (with_reducible refine (ofp2l s _ _ (by omega) ?_ ?_).mono ?_); (with_reducible first | exact cell_n _ _ _ _ _ rfl | exact cell_nd _ _ _ _ _ rfl | exact cell_n2 _ _ _ _ _ _ rfl | exact cell_n2d _ _ _ _ _ _ rfl | exact cell_n3 _ _ _ _ _ _ rfl | exact cell_n3d _ _ _ _ _ _ rfl | exact hB1.cellv (cell_n2d _ _ _ _ _ _ rfl) | exact hB1.cellv (cell_n3d _ _ _ _ _ _ rfl) | exact hB2.cellv (cell_n2 _ _ _ _ _ _ rfl) | exact hB2.cellv (cell_n3 _ _ _ _ _ _ rfl) | exact hB3.cellv (cell_n2 _ _ _ _ _ _ rfl) | exact hB3.cellv (cell_n3 _ _ _ _ _ _ rfl)); (with_reducible first | exact cell_n _ _ _ _ _ rfl | exact cell_nd _ _ _ _ _ rfl | exact cell_n2 _ _ _ _ _ _ rfl | exact cell_n2d _ _ _ _ _ _ rfl | exact cell_n3 _ _ _ _ _ _ rfl | exact cell_n3d _ _ _ _ _ _ rfl | exact hB1.cellv (cell_n2d _ _ _ _ _ _ rfl) | exact hB1.cellv (cell_n3d _ _ _ _ _ _ rfl) | exact hB2.cellv (cell_n2 _ _ _ _ _ _ rfl) | exact hB2.cellv (cell_n3 _ _ _ _ _ _ rfl) | exact hB3.cellv (cell_n2 _ _ _ _ _ _ rfl) | exact hB3.cellv (cell_n3 _ _ _ _ _ _ rfl)); rintro e w3 ⟨rfl, hB3⟩)
      | (go_at_call 7; (with_reducible refine (ofp2r s _ _ (by omega) ?_ ?_).mono ?_); (with_reducible first | exact cell_n _ _ _ _ _ rfl | exact cell_nd _ _ _ _ _ rfl | exact cell_n2 _ _ _ _ _ _ rfl | exact cell_n2d _ _ _ _ _ _ rfl | exact cell_n3 _ _ _ _ _ _ rfl | exact cell_n3d _ _ _ _ _ _ rfl | exact hB1.cellv (cell_n2d _ _ _ _ _ _ rfl) | exact hB1.cellv (cell_n3d _ _ _ _ _ _ rfl) | exact hB2.cellv (cell_n2 _ _ _ _ _ _ rfl) | exact hB2.cellv (cell_n3 _ _ _ _ _ _ rfl) | exact hB3.cellv (cell_n2 _ _ _ _ _ _ rfl) | exact hB3.cellv (cell_n3 _ _ _ _ _ _ rfl)); (with_reducible first | exact cell_n _ _ _ _ _ rfl | exact cell_nd _ _ _ _ _ rfl | exact cell_n2 _ _ _ _ _ _ rfl | exact cell_n2d _ _ _ _ _ _ rfl | exact cell_n3 _ _ _ _ _ _ rfl | exact cell_n3d _ _ _ _ _ _ rfl | exact hB1.cellv (cell_n2d _ _ _ _ _ _ rfl) | exact hB1.cellv (cell_n3d _ _ _ _ _ _ rfl) | exact hB2.cellv (cell_n2 _ _ _ _ _ _ rfl) | exact hB2.cellv (cell_n3 _ _ _ _ _ _ rfl) | exact hB3.cellv (cell_n2 _ _ _ _ _ _ rfl) | exact hB3.cellv (cell_n3 _ _ _ _ _ _ rfl)); rintro e w4 ⟨rfl, hB4⟩))
    all_goals (go_wp2_with fail; go_meet; exact ⟨rfl, by assumption⟩)
  case rest =>
    obtain ⟨rfl, hE⟩ := hcut
    have hd0 := HD.out
    clear k0 k1 k2 k3 k4 HD
    go_wp2_with fail
    have h2048 : s.size ≤ 2048 := by omega
    simp only [hd0]
    clear hd0 h1 h2 h3 hs
    go_loopw [12, 13] (fun t i wr => ∃ k : Nat, k ≤ n ∧ i = .int .i64 k ∧ t = .string (sealN k s) ∧ Ext w wr) (fun _ i _ => n - (intOf i).toNat)
    case atStart => exact ⟨0, by omega, rfl, rfl, hE⟩
    case round =>
      obtain ⟨k, hk, rfl, rfl, hE⟩ := hrel
      have hsz := sealN_size k s
      have HZ := Lib.hid hsz
      have hz : (sealN k s).size ≤ 1048576 := by omega
      clear hsz
      by_cases hk2 : k < n
      · go_wp2_with (go_at_call 13; refine (seal_all (sealN k s) _ hz).mono ?_; rintro e w5 ⟨rfl, hB5⟩)
        go_roundw
        case rel => exact ⟨k + 1, by omega, by go_num, rfl, hE.trans hB5⟩
        case measure => simp [intOf]; omega
      · obtain rfl : k = n := by omega
        go_wp2_with fail
        go_loopw [12, 14] (fun t i wr => ∃ r : Nat, r ≤ k ∧ i = .int .i64 r ∧ t = .string (sealN (k - r) s) ∧ Ext w wr) (fun _ i _ => k - (intOf i).toNat)
        case atStart => exact ⟨0, by omega, rfl, rfl, hE⟩
        case round =>
          obtain ⟨r, hr, rfl, rfl, hE⟩ := hrel
          by_cases hr2 : r < k
          · obtain ⟨m, hm⟩ : ∃ m, k - r = m + 1 := ⟨k - r - 1, by omega⟩
            have hm2 : k - (r + 1) = m := by omega
            have hz : (sealT (sealN m s)).size ≤ 1048576 := by have := sealN_size (m + 1) s; simp only [sealN] at this; omega
            have ho := open_all (sealT (sealN m s))
            rw [(open_seal (sealN m s)).1, (open_seal (sealN m s)).2] at ho
            have HO := Lib.hid ho
            have HM := Lib.hid hm2
            rw [hm, sealN]
            clear hm hm2 ho
            go_wp2_with (go_at_call 11; refine (HO.out _ hz).mono ?_; rintro e w6 ⟨rfl, hB6⟩)
            go_roundw
            case rel => exact ⟨r + 1, by omega, by go_num, by rw [HM.out], hE.trans hB6⟩
            case measure => simp [intOf]; omega
          · obtain rfl : r = k := by omega
            rw [Nat.sub_self, sealN]
            go_wp2_with (go_at_call 6; refine (alive_any _).mono ?_; rintro e w7 ⟨rfl, hB7⟩)
            go_ret
            exact ⟨rfl, hE.trans hB7⟩
