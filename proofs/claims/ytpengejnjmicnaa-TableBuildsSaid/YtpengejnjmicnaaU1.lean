import Derived.Test.YtpengejnjmicnaaV6
section
namespace Go.Proofs.Ytpengejnjmicnaa
open Go.RowKit Go.Nb
/-- A number in eight bytes, the highest first. -/
def byD (n j : Nat) : Nat := n / 256 ^ (7 - j) % 256
def e8L (n : Nat) : Bs := (List.range 8).map fun j => UInt8.ofNat (byD n j)
theorem e8L_len (n : Nat) : (e8L n).length = 8 := by simp [e8L]
theorem byD_lt (n j : Nat) : byD n j < 256 := Nat.mod_lt _ (by decide)
theorem e8L_at (n j : Nat) (hj : j < 8) : (e8L n)[j]'(by rw [e8L_len]; exact hj) = UInt8.ofNat (byD n j) := by simp [e8L]
def Z8 : Array Value := Array.replicate 8 (.int .u8 0)
theorem zero91 (w : World) : (zeroValue 91).run Try.prog w = .ok (.agg Z8) w := by kernel_rfl
def e8C (n k : Nat) (j : Nat) : Value := if 8 - k ≤ j then .int .u8 (byD n j : Int) else .int .u8 0
theorem e8C_succ (n k : Nat) (hk : k < 8) (j : Nat) (_ : j < 8) : e8C n (k + 1) j = if j = 7 - k then .int .u8 (byD n (7 - k) : Int) else e8C n k j := by
  unfold e8C
  by_cases h : j = 7 - k
  · rw [if_pos h, if_pos (by omega), h]
  · rw [if_neg h]
    by_cases h2 : 8 - k ≤ j
    · rw [if_pos h2, if_pos (by omega)]
    · rw [if_neg h2, if_neg (by omega)]
theorem str_e8 {w : World} {g : Nat} {n : Nat} (hb : CellsAt w g 8 (e8C n 8)) : (convert 40 9 (.slice (some ⟨g, 0, none⟩) 8 8)).run Try.prog w = .ok (.string (Bt (e8L n))) w := by
  have hl := e8L_len n
  have := run_convert_bytes_back (P := Try.prog) w 40 9 5 ⟨g, 0, none⟩ 8 (e8L n) Try.underlying40 Try.underlying5 Try.underlying9 (fun j hj => by
    rw [hl] at hj
    rw [Addr.add_mid, Nat.zero_add, hb.cell _ (by omega), e8L_at n j hj]
    unfold e8C
    rw [if_pos (by omega)]
    have := byD_lt n j
    simp; omega)
  rwa [hl] at this
theorem slice8 (gb : Nat) (w : World) : (Instr.sliceAt 91 (.pointer (some ⟨gb, 0, none⟩)) none none none).run Try.prog w = .ok (.slice (some ⟨gb, 0, none⟩) 8 8) w := by
  have hl : Try.prog.underlying 91 = some (.array 8 5) := by kernel_rfl
  obtain ⟨i0, hi0, hz0, hz1, hz2⟩ := info_parts infoByte
  simp [Instr.sliceAt, run_underlying hl, Instr.sureAddr, Instr.sliceBounds, sizeOf, typeInfo, hi0, Addr.add_mid]
set_option maxRecDepth 100000 in
theorem eight_any (n : Nat) (hn : n ≤ 1048576) (w : World) : Calls Try.prog 28 #[.int .i64 n] w fun e w' => e = .returned (.string (Bt (e8L n))) ∧ Ext w w' := by
  have HN := Lib.hid hn
  clear hn
  go_enter Try.func28, Try.ntmps28
  go_wp2_with (with_reducible refine wpList_alloc_big rfl 91 rfl Z8 zero91 ?_)
  have hB : CellsAt (w.alloc (.cells Z8 91)) w.heap.size 8 (e8C n 0) := ⟨91, Z8, by decide, (Blk.new w 91 Z8).m, fun j hj => by
    unfold Z8
    rw [Array.getElem?_replicate, if_pos hj]
    unfold e8C
    rw [if_neg (by omega)]⟩
  have hE := (Ext.refl w).alloc (.cells Z8 91)
  obtain ⟨gb, hgb⟩ : ∃ g, g = w.heap.size := ⟨_, rfl⟩
  have hge : w.heap.size ≤ gb := by omega
  generalize w.alloc (.cells Z8 91) = w1 at *
  rw [← hgb] at hB ⊢
  clear hgb
  have HB := Lib.hid hB
  have HE := Lib.hid hE
  clear hB hE
  go_loopw [5] (fun iv wr => ∃ k : Nat, k ≤ 8 ∧ iv = .int .i64 k ∧ CellsAt wr gb 8 (e8C n k) ∧ Ext w wr) (fun iv _ => 8 - (intOf iv).toNat)
  case atStart => exact ⟨0, by omega, rfl, HB.out, HE.out⟩
  case round =>
    obtain ⟨k, hk, rfl, hb, hE⟩ := hrel
    by_cases hk8 : k < 8
    · have hs := fun (h : k < 8) => hb.set_ (h := e8C n (k + 1)) (7 - k) (.int .u8 (byD n (7 - k) : Int)) (e8C_succ n k h)
      have hcell := hb.cell (7 - k) (by omega)
      have hfr := hb.frozen (7 - k) (by omega)
      rcases (by omega : k = 0 ∨ k = 1 ∨ k = 2 ∨ k = 3 ∨ k = 4 ∨ k = 5 ∨ k = 6 ∨ k = 7) with rfl | rfl | rfl | rfl | rfl | rfl | rfl | rfl
      all_goals
        have hs := Lib.hid (hs (by decide))
        clear hk8
        go_wp2
        have h := hs.out
        simp [byD] at h
        exact ⟨⟨_, by decide, rfl, h, hE.setCell (by show w.heap.size ≤ gb; exact hge) _⟩, by simp [intOf]⟩
    · obtain rfl : k = 8 := by omega
      have hcv := str_e8 hb
      have hsl := slice8 gb
      clear hk8
      go_wp2
      go_ret
      exact ⟨rfl, hE⟩
theorem e8L_take (n k : Nat) (hk : k < 8) : Lib.byteCells ((e8L n).take (k + 1)) = Lib.byteCells ((e8L n).take k) ++ [.int .u8 (byD n k : Int)] := by
  rw [List.take_succ_eq_append_getElem (by rw [e8L_len]; exact hk), e8L_at n k hk]
  have := byD_lt n k
  simp [Lib.byteCells]
  omega
theorem str_own8 {w : World} {base g n c : Nat} {l : Bs} (hl : l.length = n) (h : w.ownsRow base 5 1 (.slice (some ⟨g, 0, none⟩) n c) n (Lib.byteCells l)) : (convert 40 9 (.slice (some ⟨g, 0, none⟩) n c)).run Try.prog w = .ok (.string (Bt l)) w := run_str_own hl h
set_option maxHeartbeats 1000000 in
set_option maxRecDepth 100000 in
theorem eight_ref (n : Nat) (hn : n ≤ 1048576) (w : World) : Calls Try.prog 34 #[.int .u64 n] w fun e w' => e = .returned (.string (Bt (e8L n))) ∧ Ext w w' := by
  have HN := Lib.hid hn
  clear hn
  go_enter Try.func34, Try.ntmps34
  go_wp2
  go_loopw [3, 4] (fun bv iv wr => ∃ k : Nat, k ≤ 8 ∧ iv = .int .i64 (7 - (k : Int)) ∧ wr.ownsRow w.heap.size 5 1 bv k (Lib.byteCells ((e8L n).take k)) ∧ Ext w wr) (fun _ iv _ => (intOf iv + 1).toNat)
  case atStart => exact ⟨0, by omega, rfl, World.ownsRow_nil _ _ _ _, Ext.refl w⟩
  case round =>
    obtain ⟨k, hk, rfl, ho, hE⟩ := hrel
    by_cases hk8 : k < 8
    · have ht := e8L_take n k hk8
      obtain ⟨c, hc⟩ : ∃ c, c = byD n k := ⟨_, rfl⟩
      have hv : ((byD n k : Nat) : Int) = (c : Int) := by rw [hc]
      rw [← hc] at ht
      have hE2 := Lib.hid hE
      have HT := Lib.hid ht
      obtain ⟨xs, hxs⟩ : ∃ xs, xs = Lib.byteCells ((e8L n).take k) := ⟨_, rfl⟩
      rw [← hxs] at ho HT
      obtain ⟨A3, c3, rfl⟩ := ho.val
      have hO := Lib.hid ho
      clear hc ht hxs ho
      rcases (by omega : k = 0 ∨ k = 1 ∨ k = 2 ∨ k = 3 ∨ k = 4 ∨ k = 5 ∨ k = 6 ∨ k = 7) with rfl | rfl | rfl | rfl | rfl | rfl | rfl | rfl
      all_goals
        clear hk8
        simp [byD] at hv
        go_wp2_with (at_builtin; refine wpList_app wr rfl _ _ 40 5 rfl Try.underlying40 _ [.int .u8 (c : Int)] 1 1 infoByte rfl rfl (by decide) (by decide) w.heap.size (.slice A3 _ c3) _ xs rfl hO.out (one_int _ _) _ rfl rfl (by omega) hE2.out.sz ?_; intro g3 c4 w3 hO3 hG3 hg3)
        rw [← HT.out] at hO3
        exact ⟨⟨_, by decide, rfl, hO3, hG3.ext hE2.out (Nat.le_refl _)⟩, by simp [intOf]⟩
    · obtain rfl : k = 8 := by omega
      clear hk8
      have hft : (e8L n).take 8 = e8L n := List.take_of_length_le (by rw [e8L_len]; omega)
      rw [hft] at ho
      obtain ⟨A3, c3, rfl⟩ := ho.val
      obtain ⟨g3, rfl⟩ : ∃ g, A3 = some ⟨g, 0, none⟩ := by
        rcases ho.2 with ⟨_, h0⟩ | ⟨g, cap, cur, hv, _⟩
        · omega
        · injection hv with e1; exact ⟨g, e1⟩
      have hst := str_own8 (e8L_len n) ho
      clear ho hft
      go_wp2
      go_ret
      exact ⟨rfl, hE⟩
theorem valL_take8 (s : ByteArray) (j : Nat) (h : j < s.size) : valL ((Ls s).take (j + 1)) = 256 * valL ((Ls s).take j) + bn s j := by
  rw [valL_takeD (Ls s) j h]; rfl
set_option maxRecDepth 100000 in
theorem number_ref (s : ByteArray) (hs : s.size = 8) (w : World) : Calls Try.prog 37 #[.string s] w fun e w' => e = .returned (.int .u64 (valL (Ls s))) ∧ Ext w w' := by
  have HS := Lib.hid hs
  go_enter Try.func37, Try.ntmps37
  go_wp2
  go_loopw [3, 4] (fun nv iv wr => ∃ k : Nat, k ≤ 8 ∧ iv = .int .i64 k ∧ nv = .int .u64 (valL ((Ls s).take k) : Nat) ∧ Ext w wr) (fun _ iv _ => 8 - (intOf iv).toNat)
  case atStart => exact ⟨0, by omega, rfl, rfl, Ext.refl w⟩
  case round =>
    obtain ⟨k, hk, rfl, rfl, hE⟩ := hrel
    by_cases hk8 : k < 8
    · have kk : (k : Int) < 8 := by omega
      have hks : k < s.size := by rw [HS.out]; exact hk8
      have kk0 : (0 : Int) ≤ (k : Int) := by omega
      have kk1 : (k : Int) < (s.size : Int) := by omega
      have hix := str_index s k hks
      have hv := valL_take8 s k hks
      have hlt := valL_take_lt (Ls s) k 8 hk8 (Nat.le_refl _)
      obtain ⟨x, hx⟩ : ∃ x, x = valL ((Ls s).take k) := ⟨_, rfl⟩
      rw [← hx] at hv hlt ⊢
      obtain ⟨y, hy⟩ : ∃ y, y = bn s k := ⟨_, rfl⟩
      have hy8 : y < 256 := by rw [hy]; exact bn_lt s k
      rw [← hy] at hix hv
      have hso := shl_or hlt hy8
      have hw8 := u64_lt (d := y) (by omega)
      have hg := str_get s k hks
      rw [← hy] at hg
      have HV := Lib.hid hv
      clear hx hy hv hs
      have he : IntKind.u64.wrap ((x : Int) * 256) = (x : Int) * 256 := by
        have := u64_lt (d := x * 256) (by omega)
        rw [Int.natCast_mul] at this
        exact this
      have HSO := Lib.hid hso
      have HEW := Lib.hid he
      clear hso he
      go_wp2
      exact ⟨⟨k + 1, by omega, rfl, by rw [← HEW.out, HSO.out, HV.out], hE⟩, by simp [intOf]; omega⟩
    · obtain rfl : k = 8 := by omega
      have hft : (Ls s).take 8 = Ls s := List.take_of_length_le (by rw [Ls_length, HS.out]; omega)
      rw [hft]
      clear hk8 hs
      go_wp2
      go_ret
      exact ⟨rfl, hE⟩
end Go.Proofs.Ytpengejnjmicnaa
end
section
namespace Go.Proofs.Ytpengejnjmicnaa
open Go.RowKit Go.Nb
/-- Is a new block begun ahead of p? -/
def bCut (most : Int) (cur : List Pr) (p : Pr) : Bool := decide (0 < cur.length) && (decide (most < ((encL [] (cur ++ [p])).length : Int)) || decide (4096 ≤ cur.length))
/-- Blocks: those that are done, and the one at hand. -/
def bStep (most : Int) (st : List (List Pr) × List Pr) (p : Pr) : List (List Pr) × List Pr := if bCut most st.2 p = true then (st.1 ++ [st.2], [p]) else (st.1, st.2 ++ [p])
def bAll (most : Int) (l : List Pr) : List (List Pr) × List Pr := l.foldl (bStep most) ([], [])
def blkL (most : Int) (l : List Pr) : List (List Pr) := (bAll most l).1 ++ [(bAll most l).2]
theorem bAll_snoc (most : Int) (l : List Pr) (p : Pr) : bAll most (l ++ [p]) = bStep most (bAll most l) p := by simp [bAll]
theorem list_snoc_ind {α : Type} {P : List α → Prop} (h0 : P []) (h1 : ∀ l c, P l → P (l ++ [c])) (l : List α) : P l := by
  have key : ∀ m : List α, P m.reverse := by
    intro m
    induction m with
    | nil => exact h0
    | cons c m ih => rw [List.reverse_cons]; exact h1 _ _ ih
  have := key l.reverse
  rwa [List.reverse_reverse] at this
/-- What the blocks are of. -/
structure BInv (l : List Pr) (st : List (List Pr) × List Pr) : Prop where
  flat : st.1.flatten ++ st.2 = l
  ne : ∀ b ∈ st.1, 1 ≤ b.length ∧ b.length ≤ 4096
  cur : st.2.length ≤ 4096 ∧ (l ≠ [] → 1 ≤ st.2.length)
theorem bInv_step {most : Int} {l : List Pr} {st : List (List Pr) × List Pr} (h : BInv l st) (p : Pr) : BInv (l ++ [p]) (bStep most st p) := by
  unfold bStep
  split
  · next hc =>
    unfold bCut at hc
    simp only [Bool.and_eq_true, decide_eq_true_eq] at hc
    refine ⟨by simp [← h.flat], fun b hb => ?_, by simp⟩
    rcases List.mem_append.mp hb with h1 | h1
    · exact h.ne b h1
    · obtain rfl := List.mem_singleton.mp h1
      exact ⟨by omega, h.cur.1⟩
  · next hc =>
    refine ⟨by rw [← h.flat]; simp, h.ne, ?_, fun _ => by simp⟩
    rw [List.length_append, List.length_singleton]
    unfold bCut at hc
    have := h.cur.1
    rcases Nat.lt_or_ge st.2.length 4096 with h1 | h1
    · omega
    · exact absurd (by simp; omega) hc
theorem bInv_all (most : Int) (l : List Pr) : BInv l (bAll most l) := by
  refine list_snoc_ind (P := fun l => BInv l (bAll most l)) ?_ (fun l c ih => ?_) l
  · exact ⟨rfl, (fun b hb => absurd hb (by simp [bAll])), ⟨by simp [bAll], fun h => absurd rfl h⟩⟩
  · rw [bAll_snoc]; exact bInv_step ih c
theorem blkL_flat (most : Int) (l : List Pr) : (blkL most l).flatten = l := by
  have := (bInv_all most l).flat
  simp [blkL, this]
theorem blkL_ne {most : Int} {l : List Pr} (h : l ≠ []) : ∀ b ∈ blkL most l, 1 ≤ b.length ∧ b.length ≤ 4096 := by
  intro b hb
  have hi := bInv_all most l
  rcases List.mem_append.mp hb with h1 | h1
  · exact hi.ne b h1
  · obtain rfl := List.mem_singleton.mp h1
    exact ⟨hi.cur.2 h, hi.cur.1⟩
theorem oneL_two (last : Bs) (p : Pr) : 2 ≤ (oneL last p).length := by
  unfold oneL textL
  have h1 := (upL_len2 (shL last p.k)).1
  have h2 := (upL_len2 (p.k.drop (shL last p.k)).length).1
  simp only [List.length_append]
  omega
/-- A most of 1: each pair alone. -/
theorem blkL_one (l : List Pr) (h : l ≠ []) : blkL 1 l = l.map fun p => [p] := by
  have key : ∀ l : List Pr, ∀ p, bAll 1 (l ++ [p]) = (l.map (fun p => [p]), [p]) := by
    refine list_snoc_ind (P := fun l => ∀ p, bAll 1 (l ++ [p]) = (l.map (fun p => [p]), [p])) (fun p => ?_) (fun l c ih p => ?_)
    · simp [bAll, bStep, bCut]
    · rw [bAll_snoc, ih c]
      unfold bStep
      rw [if_pos]
      · simp
      · unfold bCut
        have h1 := oneL_two [] c
        have : (encL [] [c, p]).length = (oneL [] c).length + (oneL c.k p).length := by simp [encL]
        simp [this]
        omega
  obtain ⟨m, p, rfl⟩ : ∃ m p, l = m ++ [p] := ⟨l.dropLast, l.getLast h, (List.dropLast_concat_getLast h).symm⟩
  simp [blkL, key]
/-- A most that is large enough: all pairs in one. -/
theorem blkL_big {most : Int} {l : List Pr} (h : ((encL [] l).length : Int) ≤ most) (hl : l.length ≤ 4096) : blkL most l = [l] := by
  have key : ∀ a b : List Pr, a ++ b = l → bAll most a = ([], a) := by
    refine list_snoc_ind (P := fun a => ∀ b, a ++ b = l → bAll most a = ([], a)) (fun b _ => rfl) (fun a c ih b hb => ?_)
    rw [bAll_snoc, ih ([c] ++ b) (by rw [← hb]; simp)]
    unfold bStep
    rw [if_neg]
    · unfold bCut
      have h1 : (encL [] (a ++ [c])).length ≤ (encL [] l).length := by
        have e := congrArg List.length (encL_append (a ++ [c]) b [])
        rw [hb, List.length_append] at e
        omega
      have h2 : a.length < 4096 := by
        have := congrArg List.length hb
        simp at this; omega
      simp
      omega
  simp [blkL, key l [] (by simp)]
end Go.Proofs.Ytpengejnjmicnaa
end
section
namespace Go.Proofs.Ytpengejnjmicnaa
open Go.RowKit Go.Nb
theorem infoSl : (Try.prog.info? 22).map (fun i => (i.zero, i.size, i.bytes)) = some (some (.slice none 0 0), 1, 24) := by kernel_rfl
theorem one_slice (A : Option Addr) (n c : Nat) : ∀ u ∈ [Value.slice A n c], u.oneCell' = true := by intro u h; simp at h; subst h; rfl
theorem size53 : (Try.prog.info? 53).map (·.size) = some 2 := by kernel_rfl
theorem sizeOf53 (w : World) : (sizeOf 53).run Try.prog w = .ok 2 w := by kernel_rfl
theorem slice_mid (A : Option Addr) (n c f i : Nat) (hf : f ≤ i) (hi : i ≤ n) (hnc : n ≤ c) : ∃ A', (∀ w, (Instr.slice 22 (.slice A n c) (some (.int .i64 (f : Int))) (some (.int .i64 (i : Int))) none).run Try.prog w = .ok (.slice A' (i - f) (c - f)) w) ∧ ∀ w l, PRd w A n l → PRd w A' (i - f) ((l.take i).drop f) := by
  have hic : i ≤ c := by omega
  refine ⟨if c = f then A else A.map (·.add (f * 2)), fun w => ?_, fun w l h => ⟨by rw [List.length_drop, List.length_take, h.1]; omega, fun h0 => ?_⟩⟩
  · simp [Instr.slice, run_underlying Try.underlying22, Instr.sliceBounds, Instr.sliceBound, asIntOf, hf, hic]
  · obtain ⟨g, o, rfl, hc⟩ := h.2 (by omega)
    refine ⟨g, o + f * 2, ?_, fun k j hk hj => ?_⟩
    · rw [if_neg (by omega)]; simp [Addr.add_mid]
    · have := hc (f + k) j (by omega) hj
      rw [show o + (f + k) * 2 + j = o + f * 2 + k * 2 + j by omega] at this
      rw [this]
      simp only [prF, List.getD_eq_getElem?_getD, List.getElem?_drop, List.getElem?_take, if_pos (show f + k < i by omega)]
theorem slice_suf (A : Option Addr) (n c f : Nat) (hf : f ≤ n) (hnc : n ≤ c) : ∃ A', (∀ w, (Instr.slice 22 (.slice A n c) (some (.int .i64 (f : Int))) none none).run Try.prog w = .ok (.slice A' (n - f) (c - f)) w) ∧ ∀ w l, PRd w A n l → PRd w A' (n - f) (l.drop f) := by
  refine ⟨if c = f then A else A.map (·.add (f * 2)), fun w => ?_, fun w l h => ⟨by rw [List.length_drop, h.1], fun h0 => ?_⟩⟩
  · simp [Instr.slice, run_underlying Try.underlying22, Instr.sliceBounds, Instr.sliceBound, asIntOf, hf]
  · obtain ⟨g, o, rfl, hc⟩ := h.2 (by omega)
    refine ⟨g, o + f * 2, ?_, fun k j hk hj => ?_⟩
    · rw [if_neg (by omega)]; simp [Addr.add_mid]
    · have := hc (f + k) j (by omega) hj
      rw [show o + (f + k) * 2 + j = o + f * 2 + k * 2 + j by omega] at this
      rw [this]
      simp only [prF, List.getD_eq_getElem?_getD, List.getElem?_drop]
theorem slice_at {t e : TypeId} (hu : Try.prog.underlying t = some (.slice e)) (x : Value) (a b c : Option Value) (w : World) : (Instr.sliceAt t x a b c).run Try.prog w = (Instr.slice t x a b c).run Try.prog w := by
  simp [Instr.sliceAt, run_underlying hu]
/-- Not in the block of a row of slices that is from base on. -/
def Far (w : World) (base : Nat) (B : Option Addr) : Prop := ∀ a, B = some a → a.block < base ∨ ∃ cs fz, w.heap[a.block]? = some (.cells cs 53 fz)
theorem heap_lt {w : World} {k : Nat} {o : Obj} (h : w.heap[k]? = some o) : k < w.heap.size := by
  rcases Nat.lt_or_ge k w.heap.size with h1 | h1
  · exact h1
  · rw [Array.getElem?_eq_none h1] at h; cases h
theorem Far.ext {w w' : World} {base : Nat} {B : Option Addr} (h : Far w base B) (hE : Ext w w') : Far w' base B := fun a ha => by
  rcases h a ha with h1 | ⟨cs, fz, h1⟩
  · exact .inl h1
  · exact .inr ⟨cs, fz, by rw [hE.block _ (heap_lt h1)]; exact h1⟩
theorem Far.of_own {w : World} {base b2 n c : Nat} {A : Option Addr} {xs : List Value} (h : w.ownsRow b2 53 2 (.slice A n c) n xs) : Far w base A := fun a ha => by
  rcases h.2 with ⟨h1, _⟩ | ⟨g, cap, cur, hv, _, hg, _⟩
  · injection h1 with h1; rw [h1] at ha; cases ha
  · injection hv with h1
    rw [h1] at ha; cases ha
    exact .inr ⟨cur, _, hg⟩
theorem Far.of_lt {w : World} {base n : Nat} {A : Option Addr} {l : List Pr} (h : PRd w A n l) (hb : w.heap.size ≤ base) (h0 : 0 < n) : Far w base A := fun a ha => by
  obtain ⟨g, o, hA, hc⟩ := h.2 h0
  rw [hA] at ha; cases ha
  have := block_lt_of_cell (hc 0 0 h0 (by omega))
  exact .inl (by simp only at this ⊢; omega)
/-- Where a row of slices grows. -/
theorem own22_ne {w : World} {base sz n : Nat} {v : Value} {xs : List Value} (ho : w.ownsRow base 22 sz v n xs) {B : Option Addr} (hf : Far w base B) : ∀ a, B = some a → some a.block ≠ v.ownBlock := fun a ha e => by
  rcases ho.2 with ⟨h1, _⟩ | ⟨g, cap, cur, hv, hb, hg, _⟩
  · rw [h1] at e; cases e
  · rw [hv] at e
    have e2 : a.block = g := by simpa [Value.ownBlock] using e
    rcases hf a ha with h1 | ⟨cs, fz, h1⟩
    · omega
    · rw [e2, hg] at h1; cases h1
theorem Far.row {w w' : World} {base sz n : Nat} {v : Value} {xs : List Value} (ho : w.ownsRow base 22 sz v n xs) (hg : w.grownBy w' v.ownBlock) {B : Option Addr} (hf : Far w base B) : Far w' base B := fun a ha => by
  rcases hf a ha with h1 | ⟨cs, fz, h1⟩
  · exact .inl h1
  · exact .inr ⟨cs, fz, by rw [hg.block _ (heap_lt h1) (own22_ne ho hf a ha)]; exact h1⟩
theorem PRd.row {w w' : World} {base sz n m : Nat} {v : Value} {xs : List Value} (ho : w.ownsRow base 22 sz v n xs) (hg : w.grownBy w' v.ownBlock) {B : Option Addr} {l : List Pr} (h : PRd w B m l) (hf : Far w base B) : PRd w' B m l :=
  ⟨h.1, fun h0 => by
    obtain ⟨g, o, ha, hc⟩ := h.2 h0
    exact ⟨g, o, ha, fun i j hi hj => hg.cell (hc i j hi hj) (own22_ne ho hf ⟨g, o, none⟩ ha)⟩⟩
/-- A block as a slice. -/
def BlkV (w : World) (base : Nat) (v : Value) (b : List Pr) : Prop := ∃ B cb, v = .slice B b.length cb ∧ PRd w B b.length b ∧ b.length ≤ cb ∧ Far w base B
theorem BlkV.ext {w w' : World} {base : Nat} {v : Value} {b : List Pr} (h : BlkV w base v b) (hE : Ext w w') : BlkV w' base v b := by
  obtain ⟨B, cb, h1, h2, h3, h4⟩ := h
  exact ⟨B, cb, h1, h2.ext hE, h3, h4.ext hE⟩
theorem BlkV.row {w w' : World} {base sz n : Nat} {v u : Value} {xs : List Value} (ho : w.ownsRow base 22 sz v n xs) (hg : w.grownBy w' v.ownBlock) {b : List Pr} (h : BlkV w base u b) : BlkV w' base u b := by
  obtain ⟨B, cb, h1, h2, h3, h4⟩ := h
  exact ⟨B, cb, h1, h2.row ho hg h4, h3, h4.row ho hg⟩
/-- Blocks in a row of one's own. -/
def VsRd (w : World) (base : Nat) (vs : List Value) (bs : List (List Pr)) : Prop := vs.length = bs.length ∧ ∀ j, j < bs.length → BlkV w base (vs.getD j undef) (bs.getD j [])
def BsRd (w : World) (base : Nat) (v : Value) (bs : List (List Pr)) : Prop := ∃ vs, w.ownsRow base 22 1 v bs.length vs ∧ VsRd w base vs bs
theorem VsRd.ext {w w' : World} {base : Nat} {vs : List Value} {bs : List (List Pr)} (h : VsRd w base vs bs) (hE : Ext w w') : VsRd w' base vs bs := ⟨h.1, fun j hj => (h.2 j hj).ext hE⟩
theorem BsRd.ext {w w' : World} {base : Nat} {v : Value} {bs : List (List Pr)} (h : BsRd w base v bs) (hE : Ext w w') : BsRd w' base v bs := by
  obtain ⟨vs, h1, h2⟩ := h
  exact ⟨vs, World.ownsRow.ext h1 hE, h2.ext hE⟩
theorem BsRd.nil (w : World) (base : Nat) : BsRd w base (.slice none 0 0) [] := ⟨[], World.ownsRow_nil _ _ _ _, rfl, fun j hj => by cases hj⟩
theorem VsRd.snoc {w : World} {base : Nat} {vs : List Value} {bs : List (List Pr)} {v : Value} {b : List Pr} (h : VsRd w base vs bs) (hb : BlkV w base v b) : VsRd w base (vs ++ [v]) (bs ++ [b]) := by
  refine ⟨by simp [h.1], fun j hj => ?_⟩
  rw [List.length_append, List.length_singleton] at hj
  have hl := h.1
  by_cases e : j < bs.length
  · rw [List.getD_eq_getElem?_getD, List.getD_eq_getElem?_getD, List.getElem?_append_left (by omega), List.getElem?_append_left e, ← List.getD_eq_getElem?_getD, ← List.getD_eq_getElem?_getD]
    exact h.2 j e
  · obtain rfl : j = bs.length := by omega
    rw [List.getD_eq_getElem?_getD, List.getD_eq_getElem?_getD, List.getElem?_append_right (by omega), List.getElem?_append_right (Nat.le_refl _), hl]
    simpa using hb
section
variable {ops : Array Oper} {rest : List Oper} {a : Act} {Q : Exit → Act → World → Prop}
/-- 'append(all, block)'. -/
theorem wpList_appB {o : Oper} (w0 : World) (hgd : o.guard = none) (s x : Operand) (ho : o.op = .call { callee := .builtin .append, args := #[s, x], argTypes := #[54, 54] })
    (base : Nat) (v : Value) (bs : List (List Pr)) (hs : a.eval s = v) (hB : BsRd w0 base v bs) (u : Value) (b : List Pr) (hu : BlkV w0 base u b)
    (H : Nat) (hx : a.eval x = .slice (some ⟨H, 0, none⟩) 1 1) (hH : w0.heap.size = H) (hn : bs.length ≤ 1048576) (hbase : base ≤ w0.heap.size)
    (h : ∀ g cap w', BsRd w' base (.slice (some ⟨g, 0, none⟩) (bs.length + 1) cap) (bs ++ [b]) → Gro base w0 w' → (w0.alloc (.cells #[u] 22)).grownBy w' v.ownBlock → wpList Try.prog ops Q rest (a.put o.dst (.slice (some ⟨g, 0, none⟩) (bs.length + 1) cap)) w') :
    wpList Try.prog ops Q (o :: rest) a (w0.alloc (.cells #[u] 22)) := by
  obtain ⟨vs, hown, hvs⟩ := hB
  have hu2 := hu
  obtain ⟨B, cb, rfl, _, _, _⟩ := hu2
  refine wpList_app w0 hgd s x 54 22 ho Try.underlying54 _ [.slice B b.length cb] 1 24 infoSl rfl rfl (by decide) (by decide) base v bs.length vs hs hown (one_slice _ _ _) H hx hH hn hbase ?_
  intro g cap w' hO hG hg
  have hX := (Ext.refl w0).alloc (.cells #[.slice B b.length cb] 22)
  refine h g cap w' ⟨vs ++ [.slice B b.length cb], ?_, ?_⟩ hG hg
  · rw [List.length_append, List.length_singleton]; exact hO
  · have ho2 := World.ownsRow.ext hown hX
    exact VsRd.snoc ⟨hvs.1, fun j hj => ((hvs.2 j hj).ext hX).row ho2 hg⟩ ((hu.ext hX).row ho2 hg)
end
end Go.Proofs.Ytpengejnjmicnaa
end
