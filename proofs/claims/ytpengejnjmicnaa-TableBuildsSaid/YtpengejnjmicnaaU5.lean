import Derived.Test.YtpengejnjmicnaaU4
section
namespace Go.Proofs.Ytpengejnjmicnaa
open Go.RowKit Go.Nb
theorem TsRd.mono0 {w : World} {base : Nat} {v : Value} {bs : List (List Pr)} (h : TsRd w base v bs) : TsRd w 0 v bs := by
  obtain ⟨vs, h1, h2⟩ := h
  exact ⟨vs, ownsRow_mono h1 (Nat.zero_le _), h2⟩
/-- A table that was opened. -/
def Tbl (w : World) (gt : Nat) (bs : List (List Pr)) : Prop := ∃ v, TbAt w gt v bs.flatten.length ∧ TsRd w 0 v bs
def OpenIs (S : Bs) (W : World) (e : Ending) (w' : World) : Prop :=
  (∃ bs gt, TabIs S bs ∧ e = .returned (.tuple #[.pointer (some ⟨gt, 0, none⟩), .int .i64 0]) ∧ Tbl w' gt bs ∧ Ext W w') ∨
  ((∀ bs, ¬ TabIs S bs) ∧ e = .returned (.tuple #[.pointer none, .int .i64 8]) ∧ Ext W w')
theorem Tbl.ext {w w' : World} {gt : Nat} {bs : List (List Pr)} (h : Tbl w gt bs) (hE : Ext w w') : Tbl w' gt bs := by
  obtain ⟨v, h1, h2⟩ := h
  exact ⟨v, CellsT.ext h1 hE, h2.ext hE⟩
theorem i64_or (a b : Nat) (ha : a < 4294967296) (hb : b < 4294967296) : bits .or .i64 (a : Int) (b : Int) = ((a ||| b : Nat) : Int) := by
  have hx : a ||| b < 2 ^ 32 := Nat.or_lt_two_pow (n := 32) ha hb
  show IntKind.i64.wrap ((BitVec.ofInt 64 (a : Int) ||| BitVec.ofInt 64 (b : Int)).toNat : Int) = _
  rw [BitVec.toNat_or, ofInt_u64 a (by omega), ofInt_u64 b (by omega)]
  exact IntWalk.i64_in _ (by omega)
theorem shl_or_i {k y : Nat} (hk : k ≤ 131072) (hy : y < 256) : bits .or .i64 ((k : Int) * 256) (y : Int) = ((256 * k + y : Nat) : Int) := by
  have h1 : (k : Int) * 256 = ((k * 256 : Nat) : Int) := by rw [Int.natCast_mul]; rfl
  rw [h1, i64_or _ _ (by omega) (by omega)]
  congr 1
  have := Nat.shiftLeft_add_eq_or_of_lt (i := 8) (b := y) (by omega) k
  rw [Nat.shiftLeft_eq, show (2 : Nat) ^ 8 = 256 from rfl] at this
  omega
theorem open_long {S : Bs} (h : 131072 < S.length) (W : World) : Calls Try.prog 14 #[.string (Bt S)] W fun e w' => e = .returned (.tuple #[.pointer none, .int .i64 4]) ∧ Ext W w' := by
  have zs : ((Bt S).size : Int) = (S.length : Int) := rfl
  have t1 : decide ((131072 : Int) < (S.length : Int)) = true := by simp; omega
  go_enter Try.func14, Try.ntmps14
  go_wp2
  go_ret2
  exact ⟨rfl, Ext.refl W⟩
set_option maxHeartbeats 2000000 in
set_option maxRecDepth 100000 in
theorem open_any {S : Bs} (hS : S.length ≤ 131072) (W : World) : Calls Try.prog 14 #[.string (Bt S)] W (OpenIs S W) := by
  have zs : ((Bt S).size : Int) = (S.length : Int) := rfl
  have t1 : decide ((131072 : Int) < (S.length : Int)) = false := by simp; omega
  have HSL := Lib.hid hS
  by_cases h8 : S.length < 8
  · have t2 : decide ((S.length : Int) < 8) = true := by simp; omega
    have HNO : Hid (∀ bs, ¬ TabIs S bs) := Lib.hid (fun bs h => by have := tab_len h; omega)
    clear hS h8
    go_enter Try.func14, Try.ntmps14
    go_wp2
    go_ret2
    exact .inr ⟨HNO.out, rfl, Ext.refl W⟩
  · have t2 : decide ((S.length : Int) < 8) = false := by simp; omega
    obtain ⟨b, hb⟩ : ∃ b, b = S.length - 8 := ⟨_, rfl⟩
    have hwr : IntKind.i64.wrap ((S.length : Int) - 8) = (b : Int) := by
      rw [show (S.length : Int) - 8 = (b : Int) by omega]
      exact IntWalk.i64_in _ (by omega)
    have hs1 := slice_hi S b (by omega)
    have hs2 := slice_hi2 S b (by omega)
    have hs3 := slice_str S b (by omega)
    have hs4 := slice_str2 S b (by omega)
    have hno : ∀ k, b < valL ((S.drop b).take k) → ∀ bs, ¬ TabIs S bs := fun k h bs => by rw [hb] at h; exact tab_no (by omega) (by omega) h bs
    have hyes : ∀ n, n = valL (S.drop b) → n ≤ b → ∀ bs, TabIs S bs ↔ bs ≠ [] ∧ Sol ((S.take b).take n) ((S.take b).drop n) bs := fun n h1 h2 bs => by rw [hb] at h1 h2 ⊢; exact tab_sol (by omega) (by omega) h1 h2 bs
    have HNO := Lib.hid hno
    have HYES := Lib.hid hyes
    obtain ⟨tl, htl⟩ : ∃ tl, tl = S.drop b := ⟨_, rfl⟩
    obtain ⟨bd, hbd⟩ : ∃ bd, bd = S.take b := ⟨_, rfl⟩
    have htll : tl.length = 8 := by rw [htl, List.length_drop]; omega
    have hbdl : bd.length = b := by rw [hbd, List.length_take]; omega
    rw [← htl] at HNO HYES hs3 hs4
    rw [← hbd] at HYES hs1 hs2
    have zt : ((Bt tl).size : Int) = 8 := by show (tl.length : Int) = 8; omega
    have zb : ((Bt bd).size : Int) = (b : Int) := by show (bd.length : Int) = b; omega
    have b0 : (0 : Int) ≤ (b : Int) := by omega
    have b1 : (b : Int) ≤ 131072 := by omega
    have HTL := Lib.hid htll
    have HBD := Lib.hid hbdl
    have HB := Lib.hid (show b ≤ 131072 by omega)
    clear hS h8 hb hno hyes htl hbd htll hbdl
    go_enter Try.func14, Try.ntmps14
    go_wp2
    go_quiet (fail)
    go_wp2
    go_loopw [5, 28] (fun av iv wr => ∃ k : Nat, k ≤ 8 ∧ iv = .int .i64 k ∧ av = .int .i64 (valL (tl.take k) : Nat) ∧ valL (tl.take k) ≤ b ∧ Ext W wr) (fun _ iv _ => 8 - (intOf iv).toNat)
    case atStart => exact ⟨0, by omega, rfl, rfl, Nat.zero_le _, (Ext.refl W).drewN _⟩
    case round =>
      obtain ⟨k, hk, rfl, rfl, hle, hE⟩ := hrel
      have hBB := HB.out
      by_cases hk8 : k < 8
      · have kk : (k : Int) < 8 := by omega
        have kk0 : (0 : Int) ≤ (k : Int) := by omega
        have hks : k < (Bt tl).size := by show k < tl.length; rw [HTL.out]; exact hk8
        have hix := str_index (Bt tl) k hks
        have hg := str_get (Bt tl) k hks
        have hv := valL_take8 (Bt tl) k hks
        rw [Ls_Bt] at hv
        obtain ⟨x, hx⟩ : ∃ x, x = valL (tl.take k) := ⟨_, rfl⟩
        rw [← hx] at hv hle ⊢
        obtain ⟨y, hy⟩ : ∃ y, y = bn (Bt tl) k := ⟨_, rfl⟩
        have hy8 : y < 256 := by rw [hy]; exact bn_lt _ k
        rw [← hy] at hix hv hg
        have hso := shl_or_i (k := x) (y := y) (by omega) hy8
        obtain ⟨x', hx'⟩ : ∃ x', x' = 256 * x + y := ⟨_, rfl⟩
        rw [← hx'] at hso hv
        have x0 : (0 : Int) ≤ (x : Int) := by omega
        have x1 : (x : Int) ≤ 131072 := by omega
        have yw : IntKind.i64.wrap (y : Int) = (y : Int) := IntWalk.i64_in _ (by omega)
        have HV := Lib.hid hv
        by_cases hbig : b < x'
        · have tb : decide ((b : Int) < (x' : Int)) = true := by simp; omega
          have HN := Lib.hid (HNO.out (k + 1) (by rw [hv]; exact hbig))
          clear hx hy hv hx' hy8 hle
          go_wp2
          go_ret2
          exact .inr ⟨HN.out, rfl, hE⟩
        · have tb : decide ((b : Int) < (x' : Int)) = false := by simp; omega
          have HBIG := Lib.hid hbig
          clear hx hy hv hx' hy8 hle hbig
          go_wp2
          exact ⟨⟨k + 1, by omega, rfl, by rw [HV.out], by rw [HV.out]; have := HBIG.out; omega, hE⟩, by simp [intOf]; omega⟩
      · obtain rfl : k = 8 := by omega
        have hft : tl.take 8 = tl := List.take_of_length_le (by rw [HTL.out]; omega)
        rw [hft] at hle ⊢
        have hyes := HYES.out _ rfl hle
        obtain ⟨n, hn⟩ : ∃ n, n = valL tl := ⟨_, rfl⟩
        rw [← hn] at hyes hle ⊢
        have n0 : (0 : Int) ≤ (n : Int) := by omega
        have n1 : (n : Int) ≤ (b : Int) := by omega
        have hs1' := slice_hi bd n (by rw [HBD.out]; exact hle)
        have hs2' := slice_hi2 bd n (by rw [HBD.out]; exact hle)
        have hs3' := slice_str bd n (by rw [HBD.out]; exact hle)
        have hs4' := slice_str2 bd n (by rw [HBD.out]; exact hle)
        have hl1 : (bd.take n).length ≤ 131072 := by rw [List.length_take, HBD.out]; omega
        have hl2 : (bd.drop n).length ≤ 1048576 := by rw [List.length_drop, HBD.out]; omega
        obtain ⟨s1, hs1e⟩ : ∃ s1, s1 = bd.take n := ⟨_, rfl⟩
        obtain ⟨R1, hR1e⟩ : ∃ R1, R1 = bd.drop n := ⟨_, rfl⟩
        rw [← hs1e] at hs1' hs2' hl1 hyes
        rw [← hR1e] at hs3' hs4' hl2 hyes
        have htb0 : TbAt (wr.alloc (.cells #[.slice none 0 0, .int .i64 0] 66)) wr.heap.size (.slice none 0 0) 0 := CellsT.of_blk (Blk.new wr 66 _) (by simp) (fun j hj => by
          rcases (by omega : j = 0 ∨ j = 1) with rfl | rfl <;> rfl)
        have HTB0 := Lib.hid htb0
        have HL1 := Lib.hid hl1
        have HL2 := Lib.hid hl2
        have HEW := Lib.hid hE
        have HNEW := Lib.hid (fun w => wire_new (Bt R1) w)
        obtain ⟨gt, hgt⟩ : ∃ gt, gt = wr.heap.size := ⟨_, rfl⟩
        obtain ⟨wq, hwq⟩ : ∃ wq, wq = wr.alloc (.cells #[.slice none 0 0, .int .i64 0] 66) := ⟨_, rfl⟩
        have HXQ := Lib.hid (show Ext wr wq by rw [hwq]; exact (Ext.refl wr).alloc _)
        have HGTW := Lib.hid (show W.heap.size ≤ gt by rw [hgt]; exact hE.sz)
        rw [← hgt, ← hwq] at HTB0
        have HYE := Lib.hid hyes
        by_cases hex : ∃ bs, bs ≠ [] ∧ Sol s1 R1 bs
        · have HRD : Hid (∀ w g, TbAt w gt (.slice none 0 0) 0 → RdrAt w g R1 0 → Calls Try.prog 35 #[.pointer (some ⟨gt, 0, none⟩), .string (Bt s1), .pointer (some ⟨g, 0, none⟩)] w fun e w' => e = .returned (.bool true) ∧ ∃ bs v, bs ≠ [] ∧ Sol s1 R1 bs ∧ TbAt w' gt v bs.flatten.length ∧ TsRd w' w.heap.size v bs ∧ Turn (fun k => k = gt ∨ k = g) w w') := Lib.hid (fun w g h1 h2 => (reads_any h1 h2 HL1.out HL2.out).mono (by
            rintro e w' (⟨bs, v, a1, a2, a3, a4, a5, a6⟩ | ⟨a1, _⟩)
            · exact ⟨a3, bs, v, a1, a2, a4, a5, a6⟩
            · obtain ⟨bs, b1, b2⟩ := hex
              exact absurd b2 (a1 bs b1)))
          clear hyes hle hn hs1e hR1e hl1 hl2 htb0 hex hE hft
          go_wp2
          rw [← hgt, ← hwq]
          clear hgt hwq
          go_region_held3 (fun _ => True) (trivial)
            (first
              | (go_at_call 36; (with_reducible refine (HNEW.out _).mono ?_); rintro e w2 ⟨rfl, hR2, hE2⟩; have tb2 := Lib.hid ((HTB0.out.ext (Ext.refl wq).drew).ext hE2); have rd2 := Lib.hid hR2; have HX2 := Lib.hid ((HXQ.out.drew).trans hE2); have hgl := Lib.hid (show W.heap.size ≤ wq.heap.size from Nat.le_trans HEW.out.sz HXQ.out.sz))
              | (go_at_call 35; (refine (HRD.out _ _ tb2.out rd2.out).mono ?_); rintro e w3 ⟨rfl, hx⟩))
          go_wp2
          go_ret2
          obtain ⟨bs, v, a1, a2, a3, a4, a5⟩ := hx
          have hEE := a5.ext (HEW.out.trans HX2.out) (fun k hk => by
            rcases hk with rfl | rfl
            · exact HGTW.out
            · exact hgl.out)
          exact .inl ⟨bs, gt, (HYE.out bs).2 ⟨a1, a2⟩, rfl, ⟨v, a3, a4.mono0⟩, hEE⟩
        · skip
          have HRD : Hid (∀ w g, TbAt w gt (.slice none 0 0) 0 → RdrAt w g R1 0 → Calls Try.prog 35 #[.pointer (some ⟨gt, 0, none⟩), .string (Bt s1), .pointer (some ⟨g, 0, none⟩)] w fun e w' => e = .returned (.bool false) ∧ Turn (fun k => k = gt ∨ k = g) w w') := Lib.hid (fun w g h1 h2 => (reads_any h1 h2 HL1.out HL2.out).mono (by
            rintro e w' (⟨bs, v, a1, a2, _⟩ | ⟨a1, a2, a3⟩)
            · exact absurd ⟨bs, a1, a2⟩ hex
            · exact ⟨a2, a3⟩))
          have HEX := Lib.hid hex
          clear hyes hle hn hs1e hR1e hl1 hl2 htb0 hex hE hft
          go_wp2
          rw [← hgt, ← hwq]
          clear hgt hwq
          go_region_held3 (fun _ => True) (trivial)
            (first
              | (go_at_call 36; (with_reducible refine (HNEW.out _).mono ?_); rintro e w2 ⟨rfl, hR2, hE2⟩; have tb2 := Lib.hid ((HTB0.out.ext (Ext.refl wq).drew).ext hE2); have rd2 := Lib.hid hR2; have HX2 := Lib.hid ((HXQ.out.drew).trans hE2); have hgl := Lib.hid (show W.heap.size ≤ wq.heap.size from Nat.le_trans HEW.out.sz HXQ.out.sz))
              | (go_at_call 35; (refine (HRD.out _ _ tb2.out rd2.out).mono ?_); rintro e w3 ⟨rfl, hx⟩))
          go_wp2
          go_ret2
          have hEE := hx.ext (HEW.out.trans HX2.out) (fun k hk => by
            rcases hk with rfl | rfl
            · exact HGTW.out
            · exact hgl.out)
          exact .inr ⟨fun bs h => HEX.out ⟨bs, (HYE.out bs).1 h⟩, rfl, hEE⟩
end Go.Proofs.Ytpengejnjmicnaa
end
section
namespace Go.Proofs.Ytpengejnjmicnaa
open Go.RowKit Go.Nb
theorem prCs_app (a b : List Pr) (n m : Nat) (ha : a.length = n) (hb : b.length = m) : prCs (a ++ b) (n + m) = prCs a n ++ prCs b m := by
  apply List.ext_getElem?
  intro j
  rcases Nat.lt_or_ge j (n * 2) with h | h
  · rw [List.getElem?_append_left (by rw [prCs_len]; exact h), prCs_at _ _ _ (by omega), prCs_at _ _ _ h]
    unfold prF
    rw [List.getD_eq_getElem?_getD, List.getD_eq_getElem?_getD, List.getElem?_append_left (by omega)]
  · rcases Nat.lt_or_ge j ((n + m) * 2) with h2 | h2
    · rw [List.getElem?_append_right (by rw [prCs_len]; exact h), prCs_len, prCs_at _ _ _ h2, prCs_at _ _ _ (by omega)]
      unfold prF
      rw [show (j - n * 2) / 2 = j / 2 - n by omega, show (j - n * 2) % 2 = j % 2 by omega, List.getD_eq_getElem?_getD, List.getD_eq_getElem?_getD, List.getElem?_append_right (by omega), ha]
    · rw [List.getElem?_eq_none (by rw [prCs_len]; exact h2), List.getElem?_eq_none (by rw [List.length_append, prCs_len, prCs_len]; omega)]
theorem run_app0 (w : World) (A B : Option Addr) (n c k : Nat) (hnc : n ≤ c) (ty : TypeId) : (Builtin.append_ #[22, 22] ty #[.slice A n c, .slice B 0 k]).run Try.prog w = .ok (.slice A n c) w := by
  obtain ⟨i0, hi0, _, _, _⟩ := info_parts infoPr
  rcases A with _ | a <;> rcases B with _ | b
  all_goals simp [Builtin.append_, run_underlying Try.underlying22, sizeOf, typeInfo, hi0, Builtin.lenOf, Builtin.firstCells, loadCells, loadCellsFrom, storeCells, hnc]
section
variable {rest : List Oper} {ops : Array Oper} {o : Oper} {a : Act} {Q : Exit → Act → World → Prop}
/-- 'append(s, x...)' of none or more pairs. -/
theorem wpList_appP {w : World} (hgd : o.guard = none) (s x : Operand) (ho : o.op = .call { callee := .builtin .append, args := #[s, x], argTypes := #[22, 22] })
    (base : Nat) (A : Option Addr) (n c : Nat) (l : List Pr) (hs : a.eval s = .slice A n c) (hl : l.length = n) (hown : w.ownsRow base 53 2 (.slice A n c) n (prCs l n))
    (B : Option Addr) (m d : Nat) (q : List Pr) (hx : a.eval x = .slice B m d) (hq : PRd w B m q) (hn : n + m ≤ 1048576) (hb : base ≤ w.heap.size)
    (h : ∀ A' c' w', w'.ownsRow base 53 2 (.slice A' (n + m) c') (n + m) (prCs (l ++ q) (n + m)) → w.grownBy w' (Value.slice A n c).ownBlock → wpList Try.prog ops Q rest (a.put o.dst (.slice A' (n + m) c')) w') : wpList Try.prog ops Q (o :: rest) a w := by
  have hpc := prCs_app l q n m hl hq.1
  by_cases h0 : m = 0
  · subst h0
    have hq0 : q = [] := List.eq_nil_of_length_eq_zero hq.1
    subst hq0
    refine wpList_plain hgd fun _ hK => ?_
    have hrun := run_app0 w A B n c d (World.ownsRow.cap_ hown) o.type
    unfold Oper.wp execOp
    simp only [ho, resolve, invoke, builtin, Sem.run_bind, Sem.run_pure, Result.andThen_ok, List.map_toArray, List.map_cons, List.map_nil, hs, hx, hrun]
    refine hK _ _ (h A c w ?_ ⟨rfl, rfl, rfl, Nat.le_refl _, fun _ _ _ => rfl⟩)
    rw [List.append_nil]; exact hown
  · obtain ⟨ga, oa, rfl, hcell⟩ := hq.2.at_ (by omega) (by omega)
    obtain ⟨i0, hi0, hz0, hz1, hz2⟩ := info_parts infoPr
    refine Go.wpList_append_lies w hgd s x 22 ho base 53 i0 _ 2 32 Try.underlying22 hi0 hz0 hz1 hz2 rfl (by decide) _ n _ hs hown ⟨ga, oa, none⟩ m d (prCs q m) hx (prCs_len q m) (fun j u hj => ?_) (prCs_one q m) (by omega) (by unfold maxLen; omega) (by omega) hb _ rfl ?_
    · have hj2 : j < m * 2 := by
        rcases Nat.lt_or_ge j (m * 2) with h1 | h1
        · exact h1
        · rw [List.getElem?_eq_none (by rw [prCs_len]; exact h1)] at hj; cases hj
      rw [prCs_at q m j hj2] at hj
      cases hj
      have := hcell (j / 2) (j % 2) (by omega) (by omega)
      rw [Addr.add_mid]
      rw [show oa + j / 2 * 2 + j % 2 = oa + j by omega] at this
      exact this
    · intro gr cap w5 hown5 hg5 _ _
      rw [← hpc] at hown5
      exact h _ _ _ hown5 hg5
end
theorem slice_str_u (t : Bs) (n : Nat) (hn : n ≤ t.length) (w : World) : (Instr.slice 9 (.string (Bt t)) (some (.int .u64 (n : Int))) none none).run Try.prog w = .ok (.string (Bt (t.drop n))) w := by
  have hz : (Bt t).size = t.length := rfl
  have e1 : (Bt t).extract n t.length = Bt (t.drop n) := by rw [Bt_extract, List.take_length]
  simp [Instr.slice, run_underlying Try.underlying9, Instr.sliceBounds, Instr.sliceBound, asIntOf, hz, hn, e1]
theorem slice_hi_u (t : Bs) (n : Nat) (hn : n ≤ t.length) (w : World) : (Instr.slice 9 (.string (Bt t)) none (some (.int .u64 (n : Int))) none).run Try.prog w = .ok (.string (Bt (t.take n))) w := by
  have hz : (Bt t).size = t.length := rfl
  have e1 : (Bt t).extract 0 n = Bt (t.take n) := by rw [Bt_extract]; simp
  simp [Instr.slice, run_underlying Try.underlying9, Instr.sliceBounds, Instr.sliceBound, asIntOf, hz, hn, e1]
theorem slice_at9 (x : Value) (a b c : Option Value) (w : World) : (Instr.sliceAt 9 x a b c).run Try.prog w = (Instr.slice 9 x a b c).run Try.prog w := by
  simp [Instr.sliceAt, run_underlying Try.underlying9]
/-- So far, whatever the order. -/
structure PosW (s R : Bs) (bs0 : List (List Pr)) (s1 R1 : Bs) (n : Nat) : Prop where
  may : ∀ b ∈ bs0, mayB b = true
  enc : encs bs0 ++ s1 = s
  idx : upL (bs0.length + n) ++ (idxs bs0 ++ R1) = R
theorem posW_start {s R R1 : Bs} {n : Nat} (h : rdNum 131072 R = (n, R1, 0)) : PosW s R [] s R1 n := by
  have := rdNum_ok h
  exact ⟨(fun b hb => absurd hb (by simp)), rfl, by rw [this.2.2]; simp [idxs]⟩
theorem posW_step {s R s1 R1 : Bs} {bs0 : List (List Pr)} {n : Nat} (h : PosW s R bs0 s1 R1 (n + 1)) (he0 : (rkN R1).2.2 = 0) (hz : (rkN R1).1 ≤ s1.length) {l : List Pr} (hm : mayB l = true) (he : encL [] l = s1.take (rkN R1).1) (hk : lastK [] l = (rkK R1).1) : PosW s R (bs0 ++ [l]) (s1.drop (rkN R1).1) (rkN R1).2.1 n := by
  obtain ⟨_, _, hr⟩ := rk_ok he0
  have hzl : (encL [] l).length = (rkN R1).1 := by rw [he, List.length_take]; omega
  refine ⟨fun b hb => ?_, ?_, ?_⟩
  · rcases List.mem_append.mp hb with h1 | h1
    · exact h.may b h1
    · obtain rfl := List.mem_singleton.mp h1; exact hm
  · rw [encs_append, encs, encs, List.append_nil, List.append_assoc, he, List.take_append_drop]; exact h.enc
  · rw [← h.idx, idxs_append, idxs, idxs, List.append_nil, idx1, hk, hzl, List.length_append, List.length_singleton]
    conv => rhs; rw [hr]
    simp only [List.append_assoc]
    rw [show bs0.length + 1 + n = bs0.length + (n + 1) by omega]
theorem okB_rise {bs : List (List Pr)} (h : ∀ b ∈ bs, mayB b = true) : okB [] bs = (!(bs.flatten.any badP) && upB bs.flatten) := by
  rw [okB_is _ _ (fun b hb => may_len (h b hb))]
  cases hf : bs.flatten with
  | nil => rfl
  | cons p r =>
    rw [upF_up, upF]
    cases hb : (p :: r).any badP
    · have : badP p = false := by
        simp only [List.any_cons, Bool.or_eq_false_iff] at hb
        exact hb.1
      rw [less_nil (badP_not this).1, Bool.true_and]
    · rfl
theorem own53_blk {w : World} {base n : Nat} {v : Value} {xs : List Value} (h : w.ownsRow base 53 2 v n xs) {t : TypeId} {g m : Nat} {f : Nat → Value} (hc : CellsT w t g m f) (hne : t ≠ 53) : ∀ k, v.ownBlock = some k → k ≠ g := fun k hk e => by
  rcases h.2 with ⟨h1, _⟩ | ⟨g2, cap, cur, hv, _, hg, _⟩
  · rw [h1] at hk; cases hk
  · rw [hv] at hk
    have e2 : g2 = k := by simpa [Value.ownBlock] using hk
    obtain ⟨D, _, ⟨lo, hi, hb, _⟩, _⟩ := hc
    rw [← e, ← e2, hg] at hb
    injection hb with hb
    injection hb with _ h2
    exact hne h2.symm
theorem _root_.Go.CellsT.growP {w w' : World} {t : TypeId} {g m : Nat} {f : Nat → Value} {base n : Nat} {v : Value} {xs : List Value} (h : CellsT w t g m f) (hne : t ≠ 53) (hs : w.ownsRow base 53 2 v n xs) (hg : w.grownBy w' v.ownBlock) : CellsT w' t g m f :=
  h.heap (hg.block g h.lt (fun e => own53_blk hs h hne _ e.symm rfl))
/-- What the document's Open answers. -/
def ROpenIs (S : Bs) (W : World) (e : Ending) (w' : World) : Prop :=
  (∃ bs A c, TabIs S bs ∧ e = .returned (.tuple #[.slice A bs.flatten.length c, .int .i64 bs.length, .int .i64 0]) ∧ bs.flatten.length ≤ c ∧ PRd w' A bs.flatten.length bs.flatten ∧ Ext W w') ∨
  ((∀ bs, ¬ TabIs S bs) ∧ e = .returned (.tuple #[.slice none 0 0, .int .i64 0, .int .i64 8]) ∧ Ext W w')
theorem ropen_long {S : Bs} (h : 131072 < S.length) (W : World) : Calls Try.prog 15 #[.string (Bt S)] W fun e w' => e = .returned (.tuple #[.slice none 0 0, .int .i64 0, .int .i64 4]) ∧ Ext W w' := by
  have zs : ((Bt S).size : Int) = (S.length : Int) := rfl
  have t1 : decide ((131072 : Int) < (S.length : Int)) = true := by simp; omega
  go_enter Try.func15, Try.ntmps15
  go_wp2
  go_ret3
  exact ⟨rfl, Ext.refl W⟩
end Go.Proofs.Ytpengejnjmicnaa
end
section
namespace Go.Proofs.Ytpengejnjmicnaa
open Go.RowKit Go.Nb
/-- Reader and row, as the document's Open has them. -/
structure QSt (W : World) (g : Nat) (R1 : Bs) (e : Int) (v : Value) (l : List Pr) (w : World) : Prop where
  rd : RfAt w g R1 e
  ow : w.ownsRow W.heap.size 53 2 v l.length (prCs l l.length)
  ex : Ext W w
section
variable {W w w' : World} {g : Nat} {R1 R2 : Bs} {e e2 : Int} {v : Value} {l : List Pr}
theorem QSt.ext (h : QSt W g R1 e v l w) (hE : Ext w w') : QSt W g R1 e v l w' := ⟨h.rd.ext hE, World.ownsRow.ext h.ow hE, h.ex.trans hE⟩
theorem QSt.read (h : QSt W g R1 e v l w) (hg : W.heap.size ≤ g) (hR : RfAt w' g R2 e2) (hT : Turn (· = g) w w') : QSt W g R2 e2 v l w' :=
  ⟨hR, World.ownsRow.turn h.ow hT (own53_blk h.ow h.rd (by decide)), hT.ext h.ex (fun k hk => by rw [hk]; exact hg)⟩
end
/-- How far it has come. -/
def QInv (s R : Bs) (bs0 : List (List Pr)) (s1 R1 : Bs) (n ct : Nat) (e : Int) : Prop := (e = 0 ∧ Rest s R bs0 s1 R1 n ∧ PosW s R bs0 s1 R1 n) ∨ (e ≠ 0 ∧ ct = 0 ∧ ∀ bs, ¬ Sol s R bs)
set_option maxHeartbeats 2000000 in
set_option maxRecDepth 100000 in
theorem ropen_any {S : Bs} (hS : S.length ≤ 65536) (W : World) : Calls Try.prog 15 #[.string (Bt S)] W (ROpenIs S W) := by
  have zs : ((Bt S).size : Int) = (S.length : Int) := rfl
  have t1 : decide ((131072 : Int) < (S.length : Int)) = false := by simp; omega
  have HSL := Lib.hid hS
  by_cases h8 : S.length < 8
  · have t2 : decide ((S.length : Int) < 8) = true := by simp; omega
    have HNO : Hid (∀ bs, ¬ TabIs S bs) := Lib.hid (fun bs h => by have := tab_len h; omega)
    clear hS h8
    go_enter Try.func15, Try.ntmps15
    go_wp2
    go_ret3
    exact .inr ⟨HNO.out, rfl, Ext.refl W⟩
  · have t2 : decide ((S.length : Int) < 8) = false := by simp; omega
    obtain ⟨b, hb⟩ : ∃ b, b = S.length - 8 := ⟨_, rfl⟩
    have hwr : IntKind.i64.wrap ((S.length : Int) - 8) = (b : Int) := by
      rw [show (S.length : Int) - 8 = (b : Int) by omega]
      exact IntWalk.i64_in _ (by omega)
    have hs1 := slice_hi S b (by omega)
    have hs2 := slice_hi2 S b (by omega)
    have hs3 := slice_str S b (by omega)
    have hs4 := slice_str2 S b (by omega)
    have hno : b < valL (S.drop b) → ∀ bs, ¬ TabIs S bs := fun h bs => by
      rw [hb] at h
      exact tab_no (by omega) (by omega) (k := 8) (by rw [List.take_of_length_le (by rw [List.length_drop]; omega)]; exact h) bs
    have hyes : ∀ n, n = valL (S.drop b) → n ≤ b → ∀ bs, TabIs S bs ↔ bs ≠ [] ∧ Sol ((S.take b).take n) ((S.take b).drop n) bs := fun n h1 h2 bs => by rw [hb] at h1 h2 ⊢; exact tab_sol (by omega) (by omega) h1 h2 bs
    obtain ⟨tl, htl⟩ : ∃ tl, tl = S.drop b := ⟨_, rfl⟩
    obtain ⟨bd, hbd⟩ : ∃ bd, bd = S.take b := ⟨_, rfl⟩
    have htll : tl.length = 8 := by rw [htl, List.length_drop]; omega
    have hbdl : bd.length = b := by rw [hbd, List.length_take]; omega
    rw [← htl] at hno hyes hs3 hs4
    rw [← hbd] at hyes hs1 hs2
    have zb : ((Bt bd).size : Int) = (b : Int) := by show (bd.length : Int) = b; omega
    have b0 : (0 : Int) ≤ (b : Int) := by omega
    have b1 : (b : Int) ≤ 65536 := by omega
    have bw : IntKind.u64.wrap (b : Int) = (b : Int) := u64_lt (by omega)
    have hb6 : b ≤ 65536 := by omega
    have HNB := Lib.hid (number_ref (Bt tl) (show tl.length = 8 from htll))
    rw [Ls_Bt] at HNB
    obtain ⟨n, hn⟩ : ∃ n, n = valL tl := ⟨_, rfl⟩
    rw [← hn] at HNB hno
    have n0 : (0 : Int) ≤ (n : Int) := by omega
    by_cases hbig : b < n
    · have tb : decide ((b : Int) < (n : Int)) = true := by simp; omega
      have tb2 : decide (b < n) = true := by simp; omega
      have HN := Lib.hid (hno hbig)
      clear hS h8 hb hno hyes htl hbd htll hbdl hb6 hbig hn
      go_enter Try.func15, Try.ntmps15
      go_wp2_with (go_at_call 37; (with_reducible refine (HNB.out _).mono ?_); rintro e w1 ⟨rfl, hE1⟩)
      go_ret3
      exact .inr ⟨HN.out, rfl, hE1⟩
    · have tb : decide ((b : Int) < (n : Int)) = false := by simp; omega
      have hle : n ≤ b := by omega
      have tb2 : decide (b < n) = false := by simp; omega
      have tb3 : ¬ (b : Int) < (n : Int) := by omega
      have HYE := Lib.hid (hyes n hn hle)
      have n1 : (n : Int) ≤ (b : Int) := by omega
      have g1 : (Bt bd).extract n (Bt bd).size = Bt (bd.drop n) := by
        rw [Bt_extract, Bt_size, List.take_length]
      have g2 : (Bt bd).extract 0 n = Bt (bd.take n) := by rw [Bt_extract]; simp
      have hl1 : (bd.take n).length ≤ 65536 := by rw [List.length_take]; omega
      have hl2 : (bd.drop n).length ≤ 65536 := by rw [List.length_drop]; omega
      obtain ⟨s, hse⟩ : ∃ s, s = bd.take n := ⟨_, rfl⟩
      obtain ⟨R, hRe⟩ : ∃ R, R = bd.drop n := ⟨_, rfl⟩
      rw [← hse] at g2 hl1 HYE
      rw [← hRe] at g1 hl2 HYE
      have hn0 : (numS 131072 R 0).1 ≤ 131072 ∧ (numS 131072 R 0).2.1.length ≤ R.length := numS_val 131072 R
      have hNS : numS 131072 R 0 = rdNum 131072 R := by unfold numS; rw [if_pos rfl]
      have HI : Hid (QInv s R [] s (numS 131072 R 0).2.1 (numS 131072 R 0).1 (numS 131072 R 0).1 (numS 131072 R 0).2.2) := Lib.hid (by
        rw [hNS]
        by_cases h0 : (rdNum 131072 R).2.2 = 0
        · have e : rdNum 131072 R = ((rdNum 131072 R).1, (rdNum 131072 R).2.1, 0) := by rw [← h0]
          exact .inl ⟨h0, rest_start (by omega) e, posW_start e⟩
        · refine .inr ⟨h0, ?_, rest_none (by omega) h0⟩
          have h1 := numV_is 131072 R
          have h2 := numE_is 131072 R
          rw [← h2, if_neg h0] at h1
          exact h1)
      have HN3 : Hid (∀ w g, RfAt w g R 0 → Calls Try.prog 38 #[.pointer (some ⟨g, 0, none⟩), .int .u64 131072] w fun x w' => x = .returned (.int .u64 (numS 131072 R 0).1) ∧ RfAt w' g (numS 131072 R 0).2.1 (numS 131072 R 0).2.2 ∧ Turn (· = g) w w') := Lib.hid (fun w g h => num3_any (most := 131072) h (by omega))
      obtain ⟨ct, hct⟩ : ∃ ct, ct = (numS 131072 R 0).1 := ⟨_, rfl⟩
      obtain ⟨R0, hR0⟩ : ∃ R0, R0 = (numS 131072 R 0).2.1 := ⟨_, rfl⟩
      obtain ⟨e0, he0⟩ : ∃ e0, e0 = (numS 131072 R 0).2.2 := ⟨_, rfl⟩
      rw [← hct, ← hR0, ← he0] at HI HN3
      rw [← hct, ← hR0] at hn0
      have HN0 := Lib.hid hn0
      have HL := Lib.hid (And.intro hl1 hl2)
      have c0 : (0 : Int) ≤ (ct : Int) := by omega
      have c1 : (ct : Int) ≤ 131072 := by omega
      have cw : IntKind.i64.wrap (ct : Int) = (ct : Int) := IntWalk.i64_in _ (by omega)
      clear hS h8 hb hno hyes htl hbd htll hbdl hb6 hbig hn hle hse hRe hn0 hNS hct hR0 he0 hl1 hl2
      go_enter Try.func15, Try.ntmps15
      go_wp2_with (first
        | (go_at_call 37; (with_reducible refine (HNB.out _).mono ?_); rintro e w1 ⟨rfl, hE1⟩; have HX1 := Lib.hid hE1)
        | (go_at_call 38; (with_reducible refine (HN3.out _ _ (RfAt.new _ _ _)).mono ?_); rintro e w2 ⟨rfl, hR2, hT2⟩))
      have HG : Hid (W.heap.size ≤ w1.heap.size) := Lib.hid HX1.out.sz
      obtain ⟨g, hg⟩ : ∃ g, g = w1.heap.size := ⟨_, rfl⟩
      rw [← hg] at hR2 hT2 HG ⊢
      have HST := Lib.hid (show QSt W g R0 e0 (.slice none 0 0) [] w2 from ⟨hR2, World.ownsRow_nil _ _ _ _, hT2.ext (HX1.out.alloc _) (fun k hk => by rw [hk]; exact HG.out)⟩)
      clear hR2 hT2 hE1 hg
      go_loopw [9, 10, 11] (fun sv av iv wr => ∃ (i n N : Nat) (s1 R1 : Bs) (e : Int) (bs0 : List (List Pr)) (A1 : Option Addr) (c1 : Nat), sv = .string (Bt s1) ∧ av = .slice A1 N c1 ∧ Hid (N = bs0.flatten.length) ∧ iv = .int .i64 i ∧ i + n = ct ∧ s1.length ≤ s.length ∧ R1.length ≤ R.length ∧ Hid (bs0.length = i) ∧ Hid (QInv s R bs0 s1 R1 n ct e) ∧ QSt W g R1 e (.slice A1 N c1) bs0.flatten wr) (fun _ _ iv _ => ct - (intOf iv).toNat)
      case atStart => exact ⟨0, ct, 0, s, R0, e0, [], none, 0, rfl, rfl, Lib.hid rfl, rfl, by omega, Nat.le_refl _, HN0.out.2, Lib.hid rfl, HI, HST.out⟩
      case round =>
        obtain ⟨i, n', N, s1, R1, e, bs0, A1, cc, rfl, rfl, hN, rfl, hin, hs1l, hr1, hbl, hI, hst⟩ := hrel
        have HLL := HL.out
        have ec := hst.rd.c1
        have i0 : (0 : Int) ≤ (i : Int) := by omega
        by_cases hn0 : n' = 0
        · skip
          subst hn0
          have hic : i = ct := by omega
          subst hic
          have jj : ¬ (i : Int) < (i : Int) := by omega
          have hTB := toList_Bt
          have HEN := end_ref hst.rd
          have HST := Lib.hid hst
          have HBL := Lib.hid hbl.out
          by_cases hE : endE R1 e = 0
          · have hee : e = 0 ∧ R1 = [] := by
              unfold endE at hE
              by_cases h1 : e = 0
              · subst h1
                refine ⟨rfl, ?_⟩
                rw [if_neg (by simp)] at hE
                by_cases h2 : R1 = []
                · exact h2
                · rw [if_neg h2] at hE; cases hE
              · rw [if_pos h1] at hE; exact absurd hE h1
            obtain ⟨rfl, rfl⟩ := hee
            rw [hE] at HEN
            have HEN := Lib.hid HEN
            obtain ⟨hrest, hpos⟩ : Rest s R bs0 s1 [] 0 ∧ PosW s R bs0 s1 [] 0 := by
              rcases hI.out with ⟨_, h, h'⟩ | ⟨h, _⟩
              · exact ⟨h, h'⟩
              · exact absurd rfl h
            have HREST := Lib.hid hrest
            have HPOS := Lib.hid hpos
            by_cases hi0 : i = 0
            · have HNO : Hid (∀ bs, bs ≠ [] → ¬ Sol s R bs) := Lib.hid (fun bs hne hb => hne (by
                have := (rest_end HREST.out hb).1
                rw [this]
                exact List.eq_nil_of_length_eq_zero (HBL.out.trans hi0)))
              have t3 : decide ((i : Int) < 1) = true := by simp; omega
              have t3' : (i : Int) < 1 := by omega
              clear hI hrest hpos hE hst hi0
              go_wp2_with (go_at_call 41; (with_reducible refine HEN.out.mono ?_); rintro e1 w3 ⟨rfl, hT3⟩)
              go_ret3
              exact .inr ⟨fun bs h => HNO.out bs h.ne ((HYE.out bs).1 h).2, rfl, hT3.ext HST.out.ex (fun k hk => by rw [hk]; exact HG.out)⟩
            · have t3 : decide ((i : Int) < 1) = false := by simp; omega
              have t3' : ¬ (i : Int) < 1 := by omega
              have HI0 := Lib.hid hi0
              by_cases hs0 : s1 = []
              · subst hs0
                have hri := okB_rise HPOS.out.may
                have hPP : PRd wr A1 bs0.flatten.length bs0.flatten := World.ownsRow.prd rfl (by have := HST.out.ow; rw [hN.out] at this; exact this)
                have hfl : bs0.flatten.length ≤ 1048576 := by
                  have h1 := encs_flat bs0
                  have h2 := congrArg List.length HPOS.out.enc
                  rw [List.length_append] at h2
                  omega
                have HRI : Hid (∀ w', Turn (· = g) wr w' → RfAt wr g [] 0 → Calls Try.prog 29 #[.slice A1 N cc] w' fun e w2 => e = .returned (.bool (okB [] bs0)) ∧ Ext w' w2) := Lib.hid (fun w' hT hR => by
                  rw [hri, hN.out]
                  exact rise_any (hPP.turn hT (fun a ha => own53_blk HST.out.ow hR (by decide) _ (by rw [ha]; rfl))) hfl)
                have HCAP : Hid (bs0.flatten.length ≤ cc) := Lib.hid (World.ownsRow.cap_ (by have := HST.out.ow; rw [hN.out] at this; exact this))
                have HPP := Lib.hid hPP
                have HTP : Hid (∀ w', Turn (· = g) wr w' → PRd w' A1 bs0.flatten.length bs0.flatten) := Lib.hid (fun w' hT => HPP.out.turn hT (fun a ha => own53_blk HST.out.ow HST.out.rd (by decide) _ (by rw [ha]; rfl)))
                have HSOL : Hid (okB [] bs0 = true → TabIs S bs0) := Lib.hid (fun h => (HYE.out bs0).2 ⟨fun e => HI0.out (by rw [← HBL.out, e]; rfl), h, by have := HPOS.out.enc; rwa [List.append_nil] at this, by have := HPOS.out.idx; rwa [List.append_nil, Nat.add_zero] at this⟩)
                have HNOT : Hid (okB [] bs0 = false → ∀ bs, ¬ TabIs S bs) := Lib.hid (fun h bs hb => by
                  have h1 := ((HYE.out bs).1 hb).2
                  have h2 := (rest_end HREST.out h1).1
                  have h3 := h1.ok
                  rw [h2, h] at h3; cases h3)
                obtain ⟨ob, hob⟩ : ∃ ob, ob = okB [] bs0 := ⟨_, rfl⟩
                rw [← hob] at HRI HSOL HNOT
                clear hI hrest hpos hE hst hi0 hri hPP hfl hob HPP
                cases ob
                · go_wp2_with (first
                    | (go_at_call 41; (with_reducible refine HEN.out.mono ?_); rintro e1 w3 ⟨rfl, hT3⟩; have HT3 := Lib.hid hT3)
                    | (go_at_call 29; (with_reducible refine (HRI.out _ HT3.out HST.out.rd).mono ?_); rintro e1 w4 ⟨rfl, hE4⟩))
                  go_ret3
                  exact .inr ⟨HNOT.out (by simp), rfl, (HT3.out.ext HST.out.ex (fun k hk => by rw [hk]; exact HG.out)).trans hE4⟩
                · go_wp2_with (first
                    | (go_at_call 41; (with_reducible refine HEN.out.mono ?_); rintro e1 w3 ⟨rfl, hT3⟩; have HT3 := Lib.hid hT3)
                    | (go_at_call 29; (with_reducible refine (HRI.out _ HT3.out HST.out.rd).mono ?_); rintro e1 w4 ⟨rfl, hE4⟩))
                  go_ret3
                  exact .inl ⟨bs0, A1, cc, HSOL.out (by simp), by rw [← hN.out, HBL.out]; rfl, HCAP.out, (HTP.out _ HT3.out).ext hE4, (HT3.out.ext HST.out.ex (fun k hk => by rw [hk]; exact HG.out)).trans hE4⟩
              · have HNO : Hid (∀ bs, ¬ Sol s R bs) := Lib.hid (fun bs hb => hs0 (rest_end HREST.out hb).2.1)
                have t4 : (s1 == []) = false := by simpa using hs0
                clear hI hrest hpos hE hst hs0 hi0
                go_wp2_with (go_at_call 41; (with_reducible refine HEN.out.mono ?_); rintro e1 w3 ⟨rfl, hT3⟩)
                go_ret3
                exact .inr ⟨fun bs h => HNO.out bs ((HYE.out bs).1 h).2, rfl, hT3.ext HST.out.ex (fun k hk => by rw [hk]; exact HG.out)⟩
          · have HNO : Hid (∀ bs, ¬ Sol s R bs) := Lib.hid (fun bs hb => by
              rcases hI.out with ⟨h1, h2, _⟩ | ⟨_, _, h⟩
              · have := (rest_end h2 hb).2.2
                apply hE
                unfold endE
                rw [h1, this]; rfl
              · exact h bs hb)
            obtain ⟨E, hEE⟩ : ∃ E, E = endE R1 e := ⟨_, rfl⟩
            rw [← hEE] at HEN hE
            have tE : (E != 0) = true := by simpa using hE
            have tE' : (E == 0) = false := by simpa using hE
            have HEN := Lib.hid HEN
            clear hI hE hst hEE
            go_wp2_with (go_at_call 41; (with_reducible refine HEN.out.mono ?_); rintro e1 w3 ⟨rfl, hT3⟩)
            go_ret3
            exact .inr ⟨fun bs h => HNO.out bs ((HYE.out bs).1 h).2, rfl, hT3.ext HST.out.ex (fun k hk => by rw [hk]; exact HG.out)⟩
        · skip
          have kk : (i : Int) < (ct : Int) := by omega
          have kk' : decide ((i : Int) < (ct : Int)) = true := by simp; omega
          obtain ⟨n', rfl⟩ : ∃ m, n' = m + 1 := ⟨n' - 1, by omega⟩
          obtain ⟨rfl, hrest, hpos⟩ : e = 0 ∧ Rest s R bs0 s1 R1 (n' + 1) ∧ PosW s R bs0 s1 R1 (n' + 1) := by
            rcases hI.out with h | ⟨_, h, _⟩
            · exact h
            · omega
          have hlen := rk_lens R1
          have HT1 : Hid (∀ w', RfAt w' g R1 0 → Calls Try.prog 39 #[.pointer (some ⟨g, 0, none⟩), .int .i64 1024] w' fun x w2 => x = .returned (.string (Bt (rkK R1).1)) ∧ RfAt w2 g (rkK R1).2.1 (rkK R1).2.2 ∧ Turn (· = g) w' w2) := Lib.hid (fun w' h => text3_any (most := 1024) h (by omega) (by omega))
          have HN1 : Hid (∀ w', RfAt w' g (rkK R1).2.1 (rkK R1).2.2 → Calls Try.prog 38 #[.pointer (some ⟨g, 0, none⟩), .int .u64 131072] w' fun x w2 => x = .returned (.int .u64 (rkN R1).1) ∧ RfAt w2 g (rkN R1).2.1 (rkN R1).2.2 ∧ Turn (· = g) w' w2) := Lib.hid (fun w' h => num3_any (most := 131072) h (by omega))
          have hzle := rkN_le R1
          have HREST := Lib.hid hrest
          have HPOS := Lib.hid hpos
          obtain ⟨key, hkey⟩ : ∃ key, key = (rkK R1).1 := ⟨_, rfl⟩
          obtain ⟨z, hz⟩ : ∃ z, z = (rkN R1).1 := ⟨_, rfl⟩
          obtain ⟨e2, he2⟩ : ∃ e2, e2 = (rkN R1).2.2 := ⟨_, rfl⟩
          have HKEY := Lib.hid hkey
          have HZ := Lib.hid hz
          have HE2 := Lib.hid he2
          rw [← hkey] at HT1
          rw [← hz, ← he2] at HN1
          rw [← hz] at hzle
          have z0 : (0 : Int) ≤ (z : Int) := by omega
          have z1 : (z : Int) ≤ 131072 := by omega
          have zw : IntKind.i64.wrap (z : Int) = (z : Int) := IntWalk.i64_in _ (by omega)
          have zs1 : ((Bt s1).size : Int) = (s1.length : Int) := rfl
          have HST2 := Lib.hid hst
          have HLEN := Lib.hid hlen
          have hTB := toList_Bt
          have HS5 : Hid (s.length ≤ 131072) := Lib.hid (by omega)
          clear hrest hpos hkey hz he2 hI hst hlen
          by_cases h2 : e2 = 0
          · subst h2
            by_cases h3 : s1.length < z
            · have t3 : decide ((s1.length : Int) < (z : Int)) = true := by simp; omega
              have HNO := Lib.hid (rest_fail HS5.out HREST.out (.inr (.inl (by rw [← HZ.out]; exact h3))))
              go_wp2_with (first
                | (go_at_call 39; (with_reducible refine (HT1.out _ HST2.out.rd).mono ?_); rintro e w3 ⟨rfl, hR3, hT3⟩; have st3 := Lib.hid (HST2.out.read HG.out hR3 hT3); clear hR3 hT3)
                | (go_at_call 38; (with_reducible refine (HN1.out _ st3.out.rd).mono ?_); rintro e w4 ⟨rfl, hR4, hT4⟩; have st4 := Lib.hid (st3.out.read HG.out hR4 hT4); have ec4 := st4.out.rd.c1; clear hR4 hT4))
              go_ret3
              exact .inr ⟨fun bs h => HNO.out bs ((HYE.out bs).1 h).2, rfl, st4.out.ex⟩
            · have t3 : decide ((s1.length : Int) < (z : Int)) = false := by simp; omega
              have hzs : z ≤ s1.length := by omega
              have zi : (z : Int) ≤ (s1.length : Int) := by omega
              have hsl := slice_hi s1 z hzs
              have hsl2 := slice_hi2 s1 z hzs
              have HD : Hid (∀ w, Calls Try.prog 40 #[.string (Bt (s1.take z))] w (OfIs (s1.take z) w)) := Lib.hid (fun w => of_any (s1.take z) (by rw [List.length_take]; omega) w)
              have HZS := Lib.hid hzs
              go_wp2_with (first
                | (go_at_call 39; (with_reducible refine (HT1.out _ HST2.out.rd).mono ?_); rintro e w3 ⟨rfl, hR3, hT3⟩; have st3 := Lib.hid (HST2.out.read HG.out hR3 hT3); clear hR3 hT3)
                | (go_at_call 38; (with_reducible refine (HN1.out _ st3.out.rd).mono ?_); rintro e w4 ⟨rfl, hR4, hT4⟩; have st4 := Lib.hid (st3.out.read HG.out hR4 hT4); have ec4 := st4.out.rd.c1; clear hR4 hT4))
              refine (HD.out _).mono ?_
              rintro e w5 (⟨l, A, c, hm, he, rfl, hP, hE5⟩ | ⟨hno, rfl, hE5⟩)
              · have st5 := Lib.hid (st4.out.ext hE5)
                have HM := Lib.hid hm
                have HE := Lib.hid he
                have hml := may_len hm
                obtain ⟨bl, hbl2⟩ : ∃ bl, bl = l.length := ⟨_, rfl⟩
                have HPL : Hid (PRd w5 A bl l) := Lib.hid (by rw [hbl2]; exact hP)
                rw [← hbl2] at hP hml
                obtain ⟨g2, o2, rfl, k1c, _⟩ := hP.at_ (bl - 1) (by omega)
                have hlk := last_getD (b := l) (by intro e; rw [e] at hbl2; simp at hbl2; omega)
                rw [← hbl2] at hlk
                rw [← hlk] at k1c
                have hxy : ∀ bs : List (List Pr), lastK [] l ≠ key → ¬ Sol s R bs := fun bs h8 => rest_fail HS5.out HREST.out (.inr (.inr (.inr ⟨l, HM.out, by rw [← HZ.out]; exact HE.out, .inr (by rw [← HKEY.out]; exact h8)⟩))) bs
                have hgo : lastK [] l = key → Rest s R (bs0 ++ [l]) (s1.drop z) (rkN R1).2.1 n' ∧ PosW s R (bs0 ++ [l]) (s1.drop z) (rkN R1).2.1 n' := fun h9 => by
                  have a1 := rest_step HS5.out HREST.out HM.out (by rw [← HZ.out]; exact HE.out)
                  have a2 := posW_step HPOS.out HE2.out.symm (by rw [← HZ.out]; exact HZS.out) HM.out (by rw [← HZ.out]; exact HE.out) (by rw [h9, HKEY.out])
                  rw [← HZ.out] at a1 a2
                  exact ⟨a1, a2⟩
                obtain ⟨k1, hk1⟩ : ∃ k1, k1 = lastK [] l := ⟨_, rfl⟩
                rw [← hk1] at k1c hxy hgo
                have HXY := Lib.hid hxy
                have HGO := Lib.hid hgo
                obtain ⟨q, hq⟩ : ∃ q, q = bl - 1 := ⟨_, rfl⟩
                rw [← hq] at k1c
                have hqI : (bl : Int) - 1 = (q : Int) := by omega
                have q0 : (0 : Int) ≤ (q : Int) := by omega
                have q1 : (q : Int) < (bl : Int) := by omega
                have bl0 : (0 : Int) < (bl : Int) := by omega
                have q4 : (q : Int) ≤ 4096 := by omega
                rw [← hbl2]
                have HBL2 := Lib.hid hbl2
                have HB4 := Lib.hid hml
                clear hm he hP hml hlk hxy hgo hk1 hq hbl2
                by_cases hk : k1 = key
                · have tk : (k1 == key) = true := by simp [hk]
                  have HG2 := Lib.hid (HGO.out hk)
                  have hsl3 := slice_str s1 z HZS.out
                  have hsl4 := slice_str2 s1 z HZS.out
                  have HFL : Hid (bs0.flatten.length ≤ 65536) := Lib.hid (by
                    have h1 := encs_flat bs0
                    have h2 := congrArg List.length HPOS.out.enc
                    rw [List.length_append] at h2
                    omega)
                  have HFLX := Lib.hid (show (bs0 ++ [l]).flatten = bs0.flatten ++ l by simp)
                  clear hk
                  go_wp2_with (at_builtin; refine wpList_appP rfl _ _ rfl W.heap.size A1 N cc bs0.flatten rfl hN.out.symm (by have := st5.out.ow; rw [← hN.out] at this; exact this) (some ⟨g2, o2, none⟩) bl c l rfl HPL.out (by have := HFL.out; have := HB4.out; have := hN.out; omega) st5.out.ex.sz ?_; intro A6 c6 w6 hO6 hG6; have HO6 := Lib.hid hO6; have rd6 := Lib.hid (CellsT.growP st5.out.rd (by decide) st5.out.ow hG6); have HE6 := Lib.hid (st5.out.ex.grown hG6 (fun k hk => st5.out.ow.blockGe k hk)); clear hO6 hG6)
                  have hlf : (bs0 ++ [l]).flatten.length = bs0.flatten.length + bl := by rw [HFLX.out, List.length_append, HBL2.out]
                  exact ⟨⟨i + 1, n', N + bl, s1.drop z, (rkN R1).2.1, 0, bs0 ++ [l], A6, c6, rfl, rfl, Lib.hid (by rw [hlf, hN.out]), rfl, by omega, by rw [List.length_drop]; omega, Nat.le_trans HLEN.out.2 hr1, Lib.hid (by rw [List.length_append, hbl.out]; rfl), Lib.hid (.inl ⟨rfl, HG2.out⟩), ⟨rd6.out, by rw [hlf, ← hN.out, HFLX.out]; exact HO6.out, HE6.out⟩⟩, by simp [intOf]; omega⟩
                · have tk : (k1 == key) = false := by simpa using hk
                  have HNO : Hid (∀ bs, ¬ Sol s R bs) := Lib.hid (fun bs => HXY.out bs hk)
                  clear hk
                  go_wp2
                  go_ret3
                  exact .inr ⟨fun bs h => HNO.out bs ((HYE.out bs).1 h).2, rfl, st5.out.ex⟩
              · have st5 := Lib.hid (st4.out.ext hE5)
                have HNO := Lib.hid (rest_fail HS5.out HREST.out (.inr (.inr (.inl (by rw [← HZ.out]; exact hno)))))
                clear hno
                go_wp2
                go_ret3
                exact .inr ⟨fun bs h => HNO.out bs ((HYE.out bs).1 h).2, rfl, st5.out.ex⟩
          · have t2' : (e2 != 0) = true := by simpa using h2
            have t2'' : (e2 == 0) = false := by simpa using h2
            have HNO := Lib.hid (rest_fail HS5.out HREST.out (.inl (by rw [← HE2.out]; exact h2)))
            go_wp2_with (first
              | (go_at_call 39; (with_reducible refine (HT1.out _ HST2.out.rd).mono ?_); rintro e w3 ⟨rfl, hR3, hT3⟩; have st3 := Lib.hid (HST2.out.read HG.out hR3 hT3); clear hR3 hT3)
              | (go_at_call 38; (with_reducible refine (HN1.out _ st3.out.rd).mono ?_); rintro e w4 ⟨rfl, hR4, hT4⟩; have st4 := Lib.hid (st3.out.read HG.out hR4 hT4); have ec4 := st4.out.rd.c1; clear hR4 hT4))
            go_ret3
            exact .inr ⟨fun bs h => HNO.out bs ((HYE.out bs).1 h).2, rfl, st4.out.ex⟩
end Go.Proofs.Ytpengejnjmicnaa
end
