import Derived.Test.YtpengejnjmicnaaU2
section
namespace Go.Proofs.Ytpengejnjmicnaa
open Go.RowKit Go.Nb
/-- A table's bytes. -/
def encs : List (List Pr) → Bs
  | [] => []
  | b :: bs => encL [] b ++ encs bs
def idx1 (b : List Pr) : Bs := textL (lastK [] b) ++ upL (encL [] b).length
def idxs : List (List Pr) → Bs
  | [] => []
  | b :: bs => idx1 b ++ idxs bs
def txt (bs : List (List Pr)) : Bs := encs bs ++ ((upL bs.length ++ idxs bs) ++ e8L (encs bs).length)
theorem encs_append : ∀ a b, encs (a ++ b) = encs a ++ encs b
  | [], _ => rfl
  | x :: a, b => by rw [List.cons_append, encs, encs, encs_append a b, List.append_assoc]
theorem idxs_append : ∀ a b, idxs (a ++ b) = idxs a ++ idxs b
  | [], _ => rfl
  | x :: a, b => by rw [List.cons_append, idxs, idxs, idxs_append a b, List.append_assoc]
/-- Do the keys rise, from one on? -/
def upF : Bs → List Pr → Bool
  | _, [] => true
  | last, p :: r => Op.bytesLess last p.k && upF p.k r
theorem upF_up : ∀ (r : List Pr) (p : Pr), upB (p :: r) = upF p.k r
  | [], _ => rfl
  | q :: r, p => by rw [upB, upF, upF_up r q]
theorem upF_append : ∀ (a b : List Pr) (last : Bs), upF last (a ++ b) = (upF last a && upF (lastK last a) b)
  | [], _, _ => by simp [upF, lastK]
  | p :: a, b, last => by rw [List.cons_append, upF, upF, lastK, upF_append a b p.k, Bool.and_assoc]
theorem lastK_any {l : List Pr} (h : l ≠ []) (a b : Bs) : lastK a l = lastK b l := by
  cases l with
  | nil => exact absurd rfl h
  | cons p r => rfl
/-- Are blocks right, one behind the other? -/
def okB : Bs → List (List Pr) → Bool
  | _, [] => true
  | last, b :: bs => (mayB b && Op.bytesLess last (b.getD 0 default).k) && okB (lastK [] b) bs
def lastB : Bs → List (List Pr) → Bs
  | last, [] => last
  | _, b :: bs => lastB (lastK [] b) bs
theorem lastB_snoc (b : List Pr) : ∀ (a : List (List Pr)) (last : Bs), lastB last (a ++ [b]) = lastK [] b
  | [], _ => rfl
  | x :: a, _ => by rw [List.cons_append, lastB]; exact lastB_snoc b a _
theorem okB_append : ∀ (a b : List (List Pr)) (last : Bs), okB last (a ++ b) = (okB last a && okB (lastB last a) b)
  | [], _, _ => by simp [okB, lastB]
  | x :: a, b, last => by rw [List.cons_append, okB, okB, okB_append a b, lastB, Bool.and_assoc, Bool.and_assoc, Bool.and_assoc]
theorem okB_is : ∀ (bs : List (List Pr)) (last : Bs), (∀ b ∈ bs, 1 ≤ b.length ∧ b.length ≤ 4096) → okB last bs = (!(bs.flatten.any badP) && upF last bs.flatten)
  | [], _, _ => rfl
  | b :: bs, last, h => by
    have hb := h b (List.mem_cons_self ..)
    have ih := okB_is bs (lastK [] b) (fun x hx => h x (List.mem_cons_of_mem _ hx))
    obtain ⟨p, r, rfl⟩ : ∃ p r, b = p :: r := by
      cases b with
      | nil => simp at hb
      | cons p r => exact ⟨p, r, rfl⟩
    rw [okB, ih, List.flatten_cons, List.any_append, upF_append]
    have hm : mayB (p :: r) = (!((p :: r).any badP) && upF p.k r) := by
      unfold mayB
      rw [decide_eq_true hb.1, decide_eq_true hb.2, upF_up]; rfl
    have hl : lastK last (p :: r) = lastK [] (p :: r) := lastK_any (by simp) _ _
    rw [hm, hl]
    simp only [upF, List.getD_cons_zero]
    cases (p :: r).any badP <;> cases bs.flatten.any badP <;> cases Op.bytesLess last p.k <;> cases upF p.k r <;> simp
theorem less_nil {k : Bs} (h : 1 ≤ k.length) : Op.bytesLess [] k = true := by
  cases k with
  | nil => simp at h
  | cons a k => simp [Op.bytesLess]
theorem okB_blk {most : Int} {l : List Pr} (h : l ≠ []) : okB [] (blkL most l) = (!(l.any badP) && upB l) := by
  rw [okB_is _ _ (blkL_ne h), blkL_flat]
  obtain ⟨p, r, rfl⟩ : ∃ p r, l = p :: r := by
    cases l with
    | nil => exact absurd rfl h
    | cons p r => exact ⟨p, r, rfl⟩
  rw [upF_up, upF]
  cases hb : (p :: r).any badP
  · have : badP p = false := by
      simp only [List.any_cons, Bool.or_eq_false_iff] at hb
      exact hb.1
    rw [less_nil (badP_not this).1, Bool.true_and]
  · rfl
/-- How many bytes keys and values have. -/
def sumKV : List Pr → Nat
  | [] => 0
  | p :: l => p.k.length + p.v.length + sumKV l
theorem sumKV_append : ∀ a b, sumKV (a ++ b) = sumKV a + sumKV b
  | [], _ => by simp [sumKV]
  | p :: a, b => by rw [List.cons_append, sumKV, sumKV, sumKV_append a b]; omega
theorem oneL_sum (last : Bs) (p : Pr) : (oneL last p).length ≤ p.k.length + p.v.length + 27 := by
  unfold oneL
  have h1 := (upL_len2 (shL last p.k)).2
  have h2 := textL_len (p.k.drop (shL last p.k))
  have h3 := textL_len p.v
  rw [List.length_drop] at h2
  simp only [List.length_append]
  omega
theorem encL_sum : ∀ (l : List Pr) (last : Bs), (encL last l).length ≤ sumKV l + 27 * l.length
  | [], _ => Nat.zero_le _
  | p :: l, last => by
    have h1 := oneL_sum last p
    have h2 := encL_sum l p.k
    rw [encL, List.length_append, List.length_cons, sumKV]
    omega
theorem encs_sum : ∀ bs : List (List Pr), (encs bs).length ≤ sumKV bs.flatten + 27 * bs.flatten.length
  | [] => Nat.zero_le _
  | b :: bs => by
    have h1 := encL_sum b []
    have h2 := encs_sum bs
    rw [encs, List.length_append, List.flatten_cons, sumKV_append, List.length_append]
    omega
theorem lastK_sum {l : List Pr} : (lastK [] l).length ≤ sumKV l := by
  have key : ∀ (l : List Pr) (a : Bs), (lastK a l).length ≤ a.length + sumKV l := by
    intro l
    induction l with
    | nil => intro a; exact Nat.le_refl _
    | cons p r ih => intro a; have := ih p.k; rw [lastK, sumKV]; omega
  have := key l []
  simpa using this
theorem idxs_sum : ∀ bs : List (List Pr), (idxs bs).length ≤ sumKV bs.flatten + 18 * bs.length
  | [] => Nat.zero_le _
  | b :: bs => by
    have h1 := lastK_sum (l := b)
    have h2 := idxs_sum bs
    have h3 := textL_len (lastK [] b)
    have h4 := (upL_len2 (encL [] b).length).2
    rw [idxs, idx1, List.length_append, List.length_append, List.flatten_cons, sumKV_append, List.length_cons]
    omega
theorem txt_len (bs : List (List Pr)) : (txt bs).length = (encs bs).length + ((upL bs.length).length + (idxs bs).length + 8) := by
  unfold txt
  rw [List.length_append, List.length_append, List.length_append, e8L_len]
end Go.Proofs.Ytpengejnjmicnaa
end
section
namespace Go.Proofs.Ytpengejnjmicnaa
open Go.RowKit Go.Nb
/-- Blocks that lie in a slice. -/
def BlRd (w : World) (A : Option Addr) (bs : List (List Pr)) : Prop := ∀ j, j < bs.length → ∃ g B cb, A = some ⟨g, 0, none⟩ ∧ w.cell? ⟨g, j, none⟩ = some (.slice B (bs.getD j []).length cb) ∧ PRd w B (bs.getD j []).length (bs.getD j []) ∧ (bs.getD j []).length ≤ cb
theorem BlRd.ext {w w' : World} {A : Option Addr} {bs : List (List Pr)} (h : BlRd w A bs) (hE : Ext w w') : BlRd w' A bs := fun j hj => by
  obtain ⟨g, B, cb, h1, h2, h3, h4⟩ := h j hj
  exact ⟨g, B, cb, h1, hE.cellv h2, h3.ext hE, h4⟩
theorem BsRd.blRd {w : World} {base : Nat} {v : Value} {bs : List (List Pr)} (h : BsRd w base v bs) : ∃ A c, v = .slice A bs.length c ∧ BlRd w A bs ∧ bs.length ≤ c := by
  obtain ⟨vs, ho, hv⟩ := h
  obtain ⟨A, c, rfl⟩ := ho.val
  refine ⟨A, c, rfl, fun j hj => ?_, World.ownsRow.cap_ ho⟩
  obtain ⟨B, cb, e1, h2, h3, _⟩ := hv.2 j hj
  obtain ⟨g, rfl⟩ : ∃ g, A = some ⟨g, 0, none⟩ := by
    rcases ho.2 with ⟨_, h0⟩ | ⟨g, cap, cur, hv', _⟩
    · omega
    · injection hv' with e1; exact ⟨g, e1⟩
  refine ⟨g, B, cb, rfl, ?_, h2, h3⟩
  have hc := ho.cellsT.1.cell j hj
  rw [← e1]; exact hc
theorem CellsAt.one (w : World) (v : Value) (t : TypeId) : CellsAt (w.alloc (.cells #[v] t)) w.heap.size 1 (fun _ => v) := ⟨t, #[v], by simp, (Blk.new w t _).m, fun j hj => by
  obtain rfl : j = 0 := by omega
  rfl⟩
theorem texts1 {w : World} {ga c : Nat} {a : Bs} (h : CellsAt w ga 1 (fun _ => .string (Bt a))) (ha : a.length ≤ 65536) : Calls Try.prog 27 #[.slice (some ⟨ga, 0, none⟩) 1 c] w fun e w' => e = .returned (.string (Bt (textL a))) ∧ Ext w w' := by
  have := texts_any (n := 1) (c := c) (x := fun _ => a) h (by omega) (by omega) (fun _ => ha)
  refine this.mono ?_
  rintro e w' ⟨he, hE⟩
  refine ⟨?_, hE⟩
  rw [he]
  simp [catN]
theorem getD_take {bs : List (List Pr)} {j : Nat} (h : j < bs.length) : bs.take (j + 1) = bs.take j ++ [bs.getD j []] := by
  rw [List.take_succ_eq_append_getElem h, List.getD_eq_getElem?_getD, List.getElem?_eq_getElem h]; rfl
theorem okB_take_false {bs : List (List Pr)} {j : Nat} (h : okB [] (bs.take j) = false) : okB [] bs = false := by
  have := okB_append (bs.take j) (bs.drop j) []
  rw [List.take_append_drop, h, Bool.false_and] at this
  exact this
theorem mem_getD {bs : List (List Pr)} {j : Nat} (h : j < bs.length) : bs.getD j [] ∈ bs := by
  rw [List.getD_eq_getElem?_getD, List.getElem?_eq_getElem h]; exact List.getElem_mem h
theorem len_take {bs : List (List Pr)} (j : Nat) : (encs (bs.take j)).length ≤ (encs bs).length ∧ (idxs (bs.take j)).length ≤ (idxs bs).length := by
  have h1 := congrArg List.length (encs_append (bs.take j) (bs.drop j))
  have h2 := congrArg List.length (idxs_append (bs.take j) (bs.drop j))
  rw [List.take_append_drop, List.length_append] at h1 h2
  omega
theorem last_getD {b : List Pr} (h : b ≠ []) : lastK [] b = (b.getD (b.length - 1) default).k := lastK_at b [] h
theorem may_small {b : List Pr} (h : mayB b = true) : Small b := fun p hp => by
  have := badP_not (bad_of_may h p hp)
  omega
theorem not_less {a b : Bs} (h : Op.bytesLess a b = false) (hne : a ≠ b) : Op.bytesLess b a = true := by
  rw [bytesLess_eq] at h ⊢
  rw [decide_eq_false_iff_not] at h
  rw [decide_eq_true_eq]
  rcases Decidable.em (b < a) with h1 | h1
  · exact h1
  · exact absurd (List.le_antisymm (List.not_lt.mp h1) (List.not_lt.mp h)) hne
theorem less_asymm {a b : Bs} (h : Op.bytesLess a b = true) : Op.bytesLess b a = false ∧ (b == a) = false := by
  constructor
  · cases hc : Op.bytesLess b a
    · rfl
    · have := less_trans h hc
      rw [less_irrefl] at this; cases this
  · rw [beq_eq_false_iff_ne]
    rintro rfl
    rw [less_irrefl] at h; cases h
/-- What Build answers. -/
def bldV (bs : List (List Pr)) : Value := if okB [] bs = true then .tuple #[.string (Bt (txt bs)), .int .i64 0] else .tuple #[.string ⟨#[]⟩, .int .i64 2]
theorem bldV_no {bs : List (List Pr)} (h : okB [] bs = false) : bldV bs = .tuple #[.string ⟨#[]⟩, .int .i64 2] := by unfold bldV; rw [h]; rfl
theorem bldV_yes {bs : List (List Pr)} (h : okB [] bs = true) : bldV bs = .tuple #[.string (Bt (txt bs)), .int .i64 0] := by unfold bldV; rw [if_pos h]
set_option maxHeartbeats 2000000 in
set_option maxRecDepth 100000 in
theorem build_any {W : World} {A : Option Addr} {n c : Nat} {l : List Pr} (h : PRd W A n l) (hn : n ≤ 100000) (hnc : n ≤ c) (h0 : 0 < n) (most : Int) (hm1 : 1 ≤ most) (hm2 : most ≤ 131072) (hs : Small l) (ht : (txt (blkL most l)).length ≤ 65536) : Calls Try.prog 11 #[.slice A n c, .int .i64 most] W fun e w' => e = .returned (bldV (blkL most l)) ∧ Ext W w' := by
  have HBK := Lib.hid (blocks_any h hn hnc h0 most hs)
  have HBL : Hid ((blkL most l).length ≤ 100001) := Lib.hid (by
    have := dn_len (most := most) (l := l) (dn := (bAll most l).1) (cu := (bAll most l).2) rfl
    have := h.1
    unfold blkL; rw [List.length_append, List.length_singleton]; omega)
  have HFL := Lib.hid (blkL_flat most l)
  have HB4 : Hid (∀ b ∈ blkL most l, 1 ≤ b.length ∧ b.length ≤ 4096) := Lib.hid (blkL_ne (by intro e; have := h.1; rw [e] at this; simp at this; omega))
  obtain ⟨bs, hbs⟩ : ∃ bs, bs = blkL most l := ⟨_, rfl⟩
  rw [← hbs] at HBK HBL HFL HB4 ht ⊢
  have hSB : ∀ b ∈ bs, Small b := fun b hb p hp => hs p (by rw [← HFL.out]; exact List.mem_flatten.mpr ⟨b, hb, hp⟩)
  have HSB := Lib.hid hSB
  have HT := Lib.hid ht
  have n0 : ((n : Int) == 0) = false := by simp; omega
  have n1 : ¬ (n : Int) = 0 := by omega
  have t1 : decide (most < 1) = false := by simp; omega
  have t2 : decide ((131072 : Int) < most) = false := by simp; omega
  have hTB := toList_Bt
  obtain ⟨m, hm⟩ : ∃ m, m = bs.length := ⟨_, rfl⟩
  have HMM := Lib.hid hm
  have HBK2 : Hid (Calls Try.prog 24 #[.slice A n c, .int .i64 most] W fun e w' => ∃ A1 c1, e = .returned (.slice A1 m c1) ∧ BlRd w' A1 bs ∧ Ext W w') := Lib.hid (HBK.out.mono (by
    rintro e w' ⟨v, rfl, hB, hE⟩
    obtain ⟨A1, c1, rfl, hBl, _⟩ := hB.blRd
    exact ⟨A1, c1, by rw [hm], hBl, hE⟩))
  have mw : IntKind.u64.wrap (m : Int) = (m : Int) := u64_lt (by have := HBL.out; omega)
  have m8 : m < 256 ^ 8 := by rw [pow8]; have := HBL.out; omega
  have M8 := Lib.hid m8
  have m0 : (0 : Int) ≤ (m : Int) := by omega
  have mb : (m : Int) ≤ 100001 := by have := HBL.out; omega
  clear hbs hs ht h0 hSB hm m8 HBK
  go_enter Try.func11, Try.ntmps11
  go_wp2_with (first
    | (go_at_call 24; (with_reducible refine HBK2.out.mono ?_); rintro e w1 ⟨A1, c1, rfl, hBl, hE1⟩; have HBR := Lib.hid hBl; have HE1 := Lib.hid hE1)
    | (go_at_call 25; (with_reducible refine (nums1 (CellsAt.one _ _ _) M8.out).mono ?_); rintro e w2 ⟨rfl, hE2⟩))
  have HX2 := Lib.hid ((Ext.refl w1).alloc (.cells #[.int .u64 m] 57) |>.trans hE2)
  have HEW := Lib.hid (HE1.out.trans HX2.out)
  clear hBl hE1 hE2
  go_loopw [7, 8, 9, 35] (fun sv xv kv iv wr => ∃ j : Nat, j ≤ m ∧ iv = .int .i64 j ∧ sv = .string (Bt (encs (bs.take j))) ∧ xv = .string (Bt (upL m ++ idxs (bs.take j))) ∧ kv = .string (Bt (lastB [] (bs.take j))) ∧ Hid (okB [] (bs.take j) = true) ∧ Ext w1 wr) (fun _ _ _ iv _ => m - (intOf iv).toNat)
  case atStart => exact ⟨0, by omega, rfl, rfl, by rw [List.take_zero, idxs, List.append_nil], rfl, Lib.hid rfl, HX2.out⟩
  case round =>
    obtain ⟨j, hj, rfl, rfl, rfl, rfl, hok, hE⟩ := hrel
    have hlt := len_take (bs := bs) j
    have htl := txt_len bs
    by_cases hj2 : j < m
    · have jj : (j : Int) < (m : Int) := by omega
      have jj0 : (0 : Int) ≤ (j : Int) := by omega
      obtain ⟨g, B, cb, rfl, hc, hP, hcb⟩ := (HBR.out.ext hE) j (by rw [← HMM.out]; exact hj2)
      have htk := getD_take (bs := bs) (j := j) (by rw [← HMM.out]; exact hj2)
      have hsb := HSB.out _ (mem_getD (bs := bs) (j := j) (by rw [← HMM.out]; exact hj2))
      have hlt2 := len_take (bs := bs) (j + 1)
      obtain ⟨b, hb⟩ : ∃ b, b = bs.getD j [] := ⟨_, rfl⟩
      rw [← hb] at hc hP hcb htk hsb
      rw [htk] at hlt2
      have hoka := okB_append (bs.take j) [b] []
      rw [hok.out, Bool.true_and] at hoka
      have hea := encs_append (bs.take j) [b]
      have hia := idxs_append (bs.take j) [b]
      have hla := lastB_snoc b (bs.take j) []
      rw [← htk] at hoka hea hia hla
      simp only [encs, idxs, List.append_nil, okB, Bool.and_true] at hoka hea hia
      rw [htk] at hea hia
      have hlen1 := congrArg List.length hea
      have hlen2 := congrArg List.length hia
      rw [List.length_append] at hlen1 hlen2
      rw [← htk] at hea hia
      unfold idx1 at hlen2
      rw [List.length_append] at hlen2
      have hFit : Fits b := ⟨fun i => by
        by_cases hi : i < b.length
        · exact hsb _ (getD_mem hi)
        · rw [List.getD_eq_getElem?_getD, List.getElem?_eq_none (by omega)]; exact ⟨Nat.zero_le _, Nat.zero_le _⟩, by have := HT.out; omega⟩
      have hb4 := HB4.out b (by rw [hb]; exact mem_getD (by rw [← HMM.out]; exact hj2))
      have hec := encode_any hP (show b.length ≤ 1048576 by omega) hcb (fun _ => hFit)
      obtain ⟨bl, hbl⟩ : ∃ bl, bl = b.length := ⟨_, rfl⟩
      have hPl := hP.1
      rw [← hbl] at hc hcb hec hP hb4
      cases hmb : mayB b
      · rw [hmb, if_neg (by simp)] at hec
        have HEC := Lib.hid hec
        have HNO : Hid (okB [] bs = false) := Lib.hid (okB_take_false (j := j + 1) (by rw [hoka, hmb]; rfl))
        clear hec hlt htl hP htk hsb hlt2 hb hoka hea hia hla hlen1 hlen2 hFit hb4 hbl hPl hmb hcb
        go_wp2_with (go_at_call 26; (with_reducible refine HEC.out.mono ?_); rintro e w3 ⟨rfl, hE3⟩)
        go_ret2
        exact ⟨by rw [bldV_no HNO.out]; rfl, (HE1.out.trans hE).trans hE3⟩
      · rw [hmb, if_pos rfl] at hec
        have HEC := Lib.hid hec
        obtain ⟨g2, o2, rfl, k0c, _⟩ := hP.at_ 0 (by omega)
        obtain ⟨_, _, hAA, k1c, _⟩ := hP.at_ (bl - 1) (by omega)
        injection hAA with hAA
        injection hAA with e1 e2
        subst e1
        subst e2
        rw [Nat.zero_mul, Nat.add_zero] at k0c
        have hlk := last_getD (b := b) (by intro e; rw [e] at hbl; simp at hbl; omega)
        rw [← hbl] at hlk
        rw [← hlk] at k1c
        obtain ⟨k0, hk0⟩ : ∃ k0, k0 = (b.getD 0 default).k := ⟨_, rfl⟩
        rw [← hk0] at k0c hoka
        obtain ⟨k1, hk1⟩ : ∃ k1, k1 = lastK [] b := ⟨_, rfl⟩
        rw [← hk1] at k1c hla hlen2
        obtain ⟨lb, hlb⟩ : ∃ lb, lb = lastB [] (bs.take j) := ⟨_, rfl⟩
        rw [← hlb] at hoka ⊢
        rw [hmb, Bool.true_and] at hoka
        have hk1l : k1.length ≤ 65536 := by rw [hk1]; exact lastK_small hsb
        obtain ⟨bx, hbx⟩ : ∃ bx, bx = encL [] b := ⟨_, rfl⟩
        rw [← hbx] at hea hlen1 hlen2 HEC
        obtain ⟨es, hes⟩ : ∃ es, es = encs (bs.take j) := ⟨_, rfl⟩
        rw [← hes] at hea hlen1 hlt ⊢
        obtain ⟨xs, hxs⟩ : ∃ xs, xs = upL m ++ idxs (bs.take j) := ⟨_, rfl⟩
        rw [← hxs]
        have hxl : xs.length = (upL m).length + (idxs (bs.take j)).length := by rw [hxs, List.length_append]
        have hia2 : upL m ++ idxs (bs.take (j + 1)) = xs ++ (textL k1 ++ upL bx.length) := by rw [hia, hxs]; unfold idx1; rw [← hk1, ← hbx, List.append_assoc]
        obtain ⟨q, hq⟩ : ∃ q, q = bl - 1 := ⟨_, rfl⟩
        rw [← hq] at k1c
        have hqI : (bl : Int) - 1 = (q : Int) := by omega
        have q0 : (0 : Int) ≤ (q : Int) := by omega
        have q1 : (q : Int) < (bl : Int) := by omega
        have bl0 : (0 : Int) < (bl : Int) := by omega
        have q4 : (q : Int) ≤ 4096 := by omega
        have HTV := HT.out
        have hup := upL_len2 m
        rw [← HMM.out] at htl
        have zx : ((Bt bx).size : Int) = (bx.length : Int) := rfl
        obtain ⟨z, hz⟩ : ∃ z, z = bx.length := ⟨_, rfl⟩
        rw [← hz] at zx hlen1 hlen2 hia2
        have zw : IntKind.u64.wrap (z : Int) = (z : Int) := u64_lt (by omega)
        have Z8 : Hid (z < 256 ^ 8) := Lib.hid (by rw [pow8]; omega)
        have hadd1 := fun w => add_Bt es bx (by omega) w
        have hadd2 := fun w => add_Bt (textL k1) (upL z) (by omega) w
        have hadd3 := fun w => add_Bt xs (textL k1 ++ upL z) (by rw [List.length_append]; omega) w
        have HEA := Lib.hid hea
        have HIA := Lib.hid hia2
        have HLA := Lib.hid hla
        have HOK := Lib.hid hoka
        have HK1 := Lib.hid hk1l
        clear hlt htl hP htk hsb hlt2 hb hoka hea hia hla hlen1 hlen2 hFit hb4 hbl hPl hmb hcb hec hlk hk0 hk1 hlb hk1l hbx hes hxs hxl hia2 hq HTV hup hz
        cases hx : Op.bytesLess lb k0
        · have HNO : Hid (okB [] bs = false) := Lib.hid (okB_take_false (j := j + 1) (by rw [HOK.out, hx]))
          cases hy : Op.bytesLess k0 lb
          · have hz : (k0 == lb) = true := by
              rw [beq_iff_eq]
              apply Classical.byContradiction
              intro hne
              have := not_less hx (fun e => hne e.symm)
              rw [hy] at this; cases this
            go_wp2_with (go_at_call 26; (with_reducible refine HEC.out.mono ?_); rintro e w3 ⟨rfl, hE3⟩; have k0d := hE3.cellv k0c)
            go_ret2
            exact ⟨by rw [bldV_no HNO.out]; rfl, (HE1.out.trans hE).trans hE3⟩
          · skip
            go_wp2_with (go_at_call 26; (with_reducible refine HEC.out.mono ?_); rintro e w3 ⟨rfl, hE3⟩; have k0d := hE3.cellv k0c)
            go_ret2
            exact ⟨by rw [bldV_no HNO.out]; rfl, (HE1.out.trans hE).trans hE3⟩
        · have HY : Hid (okB [] (bs.take (j + 1)) = true) := Lib.hid (by rw [HOK.out, hx])
          obtain ⟨hy, hz⟩ := less_asymm hx
          go_wp2_with (first
            | (go_at_call 26; (with_reducible refine HEC.out.mono ?_); rintro e w3 ⟨rfl, hE3⟩; have k0d := hE3.cellv k0c; have k1d := hE3.cellv k1c; have HX3 := Lib.hid (hE.trans hE3))
            | (go_at_call 27; (with_reducible refine (texts1 (CellsAt.one _ _ _) HK1.out).mono ?_); rintro e w4 ⟨rfl, hE4⟩; have HX4 := Lib.hid (HX3.out.trans (((Ext.refl _).alloc _).trans hE4)))
            | (go_at_call 25; (with_reducible refine (nums1 (CellsAt.one _ _ _) Z8.out).mono ?_); rintro e w5 ⟨rfl, hE5⟩; have HX5 := Lib.hid (HX4.out.trans (((Ext.refl _).alloc _).trans hE5))))
          exact ⟨⟨j + 1, by omega, rfl, by rw [HEA.out], by rw [HIA.out], by rw [HLA.out], HY, HX5.out⟩, by simp [intOf]; omega⟩
    · obtain rfl : j = m := by omega
      have jj : ¬ (j : Int) < (j : Int) := by omega
      have hfull : bs.take j = bs := List.take_of_length_le (by rw [← HMM.out]; omega)
      rw [hfull] at hok hlt
      rw [hfull]
      have HTV := HT.out
      rw [← HMM.out] at htl
      obtain ⟨es, hes⟩ : ∃ es, es = encs bs := ⟨_, rfl⟩
      obtain ⟨xs, hxs⟩ : ∃ xs, xs = upL j ++ idxs bs := ⟨_, rfl⟩
      have hxl : xs.length = (upL j).length + (idxs bs).length := by rw [hxs, List.length_append]
      have htx : txt bs = es ++ (xs ++ e8L es.length) := by unfold txt; rw [hes, hxs, HMM.out]
      rw [← hes] at htl ⊢
      rw [← hxs]
      have htxl := congrArg List.length htx
      have zx : ((Bt es).size : Int) = (es.length : Int) := rfl
      have hei := e8L_len es.length
      obtain ⟨z, hz⟩ : ∃ z, z = es.length := ⟨_, rfl⟩
      rw [← hz] at zx htx hei
      have H8 := Lib.hid (eight_any z (by omega))
      have hadd1 := fun w => add_Bt xs (e8L z) (by omega) w
      have hadd2 := fun w => add_Bt es (xs ++ e8L z) (by rw [List.length_append]; omega) w
      have HY := Lib.hid (bldV_yes hok.out)
      rw [htx] at HY
      obtain ⟨T, hT⟩ : ∃ T, T = es ++ (xs ++ e8L z) := ⟨_, rfl⟩
      rw [← hT] at hadd2 htx HY
      have zT : ((Bt T).size : Int) = (T.length : Int) := rfl
      have hTl : (T.length : Int) ≤ 65536 := by rw [← htx]; omega
      have tT : decide ((131072 : Int) < (T.length : Int)) = false := by simp; omega
      have tT2 : ¬ (131072 : Int) < (T.length : Int) := by omega
      clear hfull HTV htl hes hxs hxl htx htxl hei hz hlt hT
      go_wp2_with (go_at_call 28; (with_reducible refine (H8.out _).mono ?_); rintro e w3 ⟨rfl, hE3⟩)
      go_ret2
      exact ⟨by rw [HY.out]; rfl, (HE1.out.trans hE).trans hE3⟩
end Go.Proofs.Ytpengejnjmicnaa
end
section
namespace Go.Proofs.Ytpengejnjmicnaa
open Go.RowKit Go.Nb
/-- What Build answers, whatever the most. -/
def bldR (most : Int) (l : List Pr) : Value := if l = [] ∨ most < 1 ∨ 131072 < most then .tuple #[.string ⟨#[]⟩, .int .i64 2] else bldV (blkL most l)
theorem okB_may : ∀ (bs : List (List Pr)) (last : Bs), okB last bs = true → ∀ b ∈ bs, mayB b = true
  | [], _, _, b, hb => by cases hb
  | x :: bs, last, h, b, hb => by
    rw [okB, Bool.and_eq_true, Bool.and_eq_true] at h
    rcases List.mem_cons.mp hb with rfl | hb
    · exact h.1.1
    · exact okB_may bs _ h.2 b hb
theorem held_ext2 {w W w' : World} {a b : Addr} {x y : Value} (h : W.cell? a = some x ∧ W.cell? b = some y ∧ Ext w W) (hE : Ext W w') : w'.cell? a = some x ∧ w'.cell? b = some y ∧ Ext w w' := ⟨hE.cellv h.1, hE.cellv h.2.1, h.2.2.trans hE⟩
theorem build_all {W : World} {A : Option Addr} {n c : Nat} {l : List Pr} (h : PRd W A n l) (hn : n ≤ 100000) (hnc : n ≤ c) (most : Int) (hs : Small l) (ht : (txt (blkL most l)).length ≤ 65536) : Calls Try.prog 11 #[.slice A n c, .int .i64 most] W fun e w' => e = .returned (bldR most l) ∧ Ext W w' := by
  by_cases hbad : l = [] ∨ most < 1 ∨ 131072 < most
  · have hv : bldR most l = .tuple #[.string ⟨#[]⟩, .int .i64 2] := by unfold bldR; rw [if_pos hbad]
    rw [hv]
    have hl := h.1
    by_cases h0 : n = 0
    · subst h0
      go_enter Try.func11, Try.ntmps11
      go_wp2
      go_ret2
      exact ⟨rfl, Ext.refl W⟩
    · have n0 : ((n : Int) == 0) = false := by simp; omega
      have n1 : ¬ (n : Int) = 0 := by omega
      have hl0 : l ≠ [] := by rintro rfl; simp at hl; omega
      by_cases h1 : most < 1
      · have t1 : decide (most < 1) = true := by simpa using h1
        clear hbad hv hl hl0
        go_enter Try.func11, Try.ntmps11
        go_wp2
        go_ret2
        exact ⟨rfl, Ext.refl W⟩
      · have t1 : decide (most < 1) = false := by simpa using h1
        have t2 : decide ((131072 : Int) < most) = true := by
          rcases hbad with h2 | h2 | h2
          · exact absurd h2 hl0
          · exact absurd h2 h1
          · simpa using h2
        clear hbad hv hl hl0
        go_enter Try.func11, Try.ntmps11
        go_wp2
        go_ret2
        exact ⟨rfl, Ext.refl W⟩
  · have hv : bldR most l = bldV (blkL most l) := by unfold bldR; rw [if_neg hbad]
    rw [hv]
    simp only [not_or] at hbad
    exact build_any h hn hnc (by
      have hl := h.1
      have : l.length ≠ 0 := fun e => hbad.1 (List.eq_nil_of_length_eq_zero e)
      omega) most (by omega) (by omega) hs ht
set_option maxHeartbeats 2000000 in
set_option maxRecDepth 100000 in
theorem build_ref {W : World} {A : Option Addr} {n c : Nat} {l : List Pr} (h : PRd W A n l) (hn : n ≤ 100000) (most : Int) (hs : Small l) (ht : (txt (blkL most l)).length ≤ 65536) : Calls Try.prog 13 #[.slice A n c, .int .i64 most] W fun e w' => e = .returned (bldR most l) ∧ Ext W w' := by
  have hl := h.1
  by_cases h0 : n = 0
  · subst h0
    have hl0 : l = [] := List.eq_nil_of_length_eq_zero hl
    have hv : bldR most l = .tuple #[.string ⟨#[]⟩, .int .i64 2] := by unfold bldR; rw [if_pos (.inl hl0)]
    rw [hv]
    clear hl hl0 hv
    go_enter Try.func13, Try.ntmps13
    go_wp2
    go_ret2
    exact ⟨rfl, Ext.refl W⟩
  · have n0 : ((n : Int) == 0) = false := by simp; omega
    have n1 : ¬ (n : Int) = 0 := by omega
    have hl0 : l ≠ [] := by rintro rfl; simp at hl; omega
    have hrise := rise_any (c := c) h (by omega)
    rw [← okB_blk (most := most) hl0] at hrise
    by_cases h1 : most < 1
    · have hv : bldR most l = .tuple #[.string ⟨#[]⟩, .int .i64 2] := by unfold bldR; rw [if_pos (.inr (.inl h1))]
      rw [hv]
      have t1 : decide (most < 1) = true := by simpa using h1
      obtain ⟨b, hb⟩ : ∃ b, b = okB [] (blkL most l) := ⟨_, rfl⟩
      rw [← hb] at hrise
      have HR := Lib.hid hrise
      clear hv hl hl0 hrise hb
      cases b
      all_goals
        go_enter Try.func13, Try.ntmps13
        go_wp2_with (go_at_call 29; (with_reducible refine HR.out.mono ?_); rintro e w1 ⟨rfl, hE1⟩)
        go_ret2
        exact ⟨rfl, hE1⟩
    · have t1 : decide (most < 1) = false := by simpa using h1
      by_cases h2 : 131072 < most
      · have hv : bldR most l = .tuple #[.string ⟨#[]⟩, .int .i64 2] := by unfold bldR; rw [if_pos (.inr (.inr h2))]
        rw [hv]
        have t2 : decide ((131072 : Int) < most) = true := by simpa using h2
        obtain ⟨b, hb⟩ : ∃ b, b = okB [] (blkL most l) := ⟨_, rfl⟩
        rw [← hb] at hrise
        have HR := Lib.hid hrise
        clear hv hl hl0 hrise hb
        cases b
        all_goals
          go_enter Try.func13, Try.ntmps13
          go_wp2_with (go_at_call 29; (with_reducible refine HR.out.mono ?_); rintro e w1 ⟨rfl, hE1⟩)
          go_ret2
          exact ⟨rfl, hE1⟩
      · have t2 : decide ((131072 : Int) < most) = false := by simpa using h2
        have hv : bldR most l = bldV (blkL most l) := by unfold bldR; rw [if_neg (by simp only [not_or]; exact ⟨hl0, h1, h2⟩)]
        rw [hv]
        cases hok : okB [] (blkL most l)
        · rw [hok] at hrise
          rw [bldV_no hok]
          have HR := Lib.hid hrise
          clear hv hl hl0 hrise hok
          go_enter Try.func13, Try.ntmps13
          go_wp2_with (go_at_call 29; (with_reducible refine HR.out.mono ?_); rintro e w1 ⟨rfl, hE1⟩)
          go_ret2
          exact ⟨rfl, hE1⟩
        · rw [hok] at hrise
          have HR := Lib.hid hrise
          rw [bldV_yes hok]
          have HBK : Hid (∀ w, Ext W w → Calls Try.prog 30 #[.slice A n c, .int .i64 most] w fun e w' => ∃ v, e = .returned v ∧ BsRd w' w.heap.size v (blkL most l) ∧ Ext w w') := Lib.hid (fun w hX => blocks_ref (h.ext hX) hn most hs)
          have HBL : Hid ((blkL most l).length ≤ 100001) := Lib.hid (by
            have := dn_len (most := most) (l := l) (dn := (bAll most l).1) (cu := (bAll most l).2) rfl
            unfold blkL; rw [List.length_append, List.length_singleton]; omega)
          have HMAY := Lib.hid (okB_may _ _ hok)
          have HB4 : Hid (∀ b ∈ blkL most l, 1 ≤ b.length ∧ b.length ≤ 4096) := Lib.hid (blkL_ne hl0)
          obtain ⟨bs, hbs⟩ : ∃ bs, bs = blkL most l := ⟨_, rfl⟩
          rw [← hbs] at HBK HBL HB4 HMAY ht ⊢
          obtain ⟨m, hm⟩ : ∃ m, m = bs.length := ⟨_, rfl⟩
          have HMM := Lib.hid hm
          have HT := Lib.hid ht
          have HBK2 : Hid (∀ w, Ext W w → Calls Try.prog 30 #[.slice A n c, .int .i64 most] w fun e w' => ∃ A1 c1, e = .returned (.slice A1 m c1) ∧ BlRd w' A1 bs ∧ Ext w w') := Lib.hid (fun w hX => (HBK.out w hX).mono (by
            rintro e w' ⟨v, rfl, hB, hE⟩
            obtain ⟨A1, c1, rfl, hBl, _⟩ := hB.blRd
            exact ⟨A1, c1, by rw [hm], hBl, hE⟩))
          have mw : IntKind.u64.wrap (m : Int) = (m : Int) := u64_lt (by have := HBL.out; omega)
          have M8 : Hid (m < 256 ^ 8) := Lib.hid (by rw [pow8]; have := HBL.out; omega)
          have m0 : (0 : Int) ≤ (m : Int) := by omega
          have mb : (m : Int) ≤ 100001 := by have := HBL.out; omega
          clear hv hl hl0 hrise hok hbs hm ht HBK
          go_enter Try.func13, Try.ntmps13
          go_wp2_with (first
            | (go_at_call 29; (with_reducible refine HR.out.mono ?_); rintro e w0 ⟨rfl, hE0⟩)
            | (go_at_call 30; (with_reducible refine (HBK2.out _ hE0).mono ?_); rintro e w1 ⟨A1, c1, rfl, hBl, hE1⟩; have HBR := Lib.hid hBl; have HE1 := Lib.hid (hE0.trans hE1))
            | (go_at_call 31; (with_reducible refine (num03_any m M8.out _).mono ?_); rintro e w2 ⟨rfl, hE2⟩))
          have HX2 := Lib.hid hE2
          clear hBl hE0 hE1 hE2
          go_loopw [7, 8, 9] (fun sv xv iv wr => ∃ j : Nat, j ≤ m ∧ iv = .int .i64 j ∧ sv = .string (Bt (encs (bs.take j))) ∧ xv = .string (Bt (upL m ++ idxs (bs.take j))) ∧ Ext w1 wr) (fun _ _ iv _ => m - (intOf iv).toNat)
          case atStart => exact ⟨0, by omega, rfl, rfl, by rw [List.take_zero, idxs, List.append_nil], HX2.out⟩
          case round =>
            obtain ⟨j, hj, rfl, rfl, rfl, hE⟩ := hrel
            have hlt := len_take (bs := bs) j
            have htl := txt_len bs
            by_cases hj2 : j < m
            · have jj : (j : Int) < (m : Int) := by omega
              have jj0 : (0 : Int) ≤ (j : Int) := by omega
              obtain ⟨g, B, cb, rfl, hc, hP, hcb⟩ := (HBR.out.ext hE) j (by rw [← HMM.out]; exact hj2)
              have htk := getD_take (bs := bs) (j := j) (by rw [← HMM.out]; exact hj2)
              have hmay := HMAY.out _ (mem_getD (bs := bs) (j := j) (by rw [← HMM.out]; exact hj2))
              have hlt2 := len_take (bs := bs) (j + 1)
              obtain ⟨b, hb⟩ : ∃ b, b = bs.getD j [] := ⟨_, rfl⟩
              rw [← hb] at hc hP hcb htk hmay
              have hsb := may_small hmay
              have hea := encs_append (bs.take j) [b]
              have hia := idxs_append (bs.take j) [b]
              rw [← htk] at hea hia
              simp only [encs, idxs, List.append_nil] at hea hia
              have hlen1 := congrArg List.length hea
              have hlen2 := congrArg List.length hia
              rw [List.length_append] at hlen1 hlen2
              unfold idx1 at hlen2
              rw [List.length_append] at hlen2
              have hFit : Fits b := ⟨fun i => by
                by_cases hi : i < b.length
                · exact hsb _ (getD_mem hi)
                · rw [List.getD_eq_getElem?_getD, List.getElem?_eq_none (by omega)]; exact ⟨Nat.zero_le _, Nat.zero_le _⟩, by have := HT.out; omega⟩
              have hb4 := HB4.out b (by rw [hb]; exact mem_getD (by rw [← HMM.out]; exact hj2))
              obtain ⟨bl, hbl⟩ : ∃ bl, bl = b.length := ⟨_, rfl⟩
              rw [← hbl] at hc hcb hP hb4
              have hec := bytes_ref (c := cb) hP (by omega) hFit
              have HEC := Lib.hid hec
              obtain ⟨g2, o2, rfl, k1c, _⟩ := hP.at_ (bl - 1) (by omega)
              have hlk := last_getD (b := b) (by intro e; rw [e] at hbl; simp at hbl; omega)
              rw [← hbl] at hlk
              rw [← hlk] at k1c
              obtain ⟨k1, hk1⟩ : ∃ k1, k1 = lastK [] b := ⟨_, rfl⟩
              rw [← hk1] at k1c hlen2
              have hk1l : k1.length ≤ 65536 := by rw [hk1]; exact lastK_small hsb
              obtain ⟨bx, hbx⟩ : ∃ bx, bx = encL [] b := ⟨_, rfl⟩
              rw [← hbx] at hea hlen1 hlen2 HEC
              obtain ⟨es, hes⟩ : ∃ es, es = encs (bs.take j) := ⟨_, rfl⟩
              rw [← hes] at hea hlen1 hlt ⊢
              obtain ⟨xs, hxs⟩ : ∃ xs, xs = upL m ++ idxs (bs.take j) := ⟨_, rfl⟩
              rw [← hxs]
              have hxl : xs.length = (upL m).length + (idxs (bs.take j)).length := by rw [hxs, List.length_append]
              have hia2 : upL m ++ idxs (bs.take (j + 1)) = (xs ++ textL k1) ++ upL bx.length := by rw [hia, hxs]; unfold idx1; rw [← hk1, ← hbx]; simp
              obtain ⟨q, hq⟩ : ∃ q, q = bl - 1 := ⟨_, rfl⟩
              rw [← hq] at k1c
              have hwr : IntKind.i64.wrap ((bl : Int) - 1) = (q : Int) := by
                rw [show (bl : Int) - 1 = (q : Int) by omega]
                exact IntWalk.i64_in _ (by omega)
              have q0 : (0 : Int) ≤ (q : Int) := by omega
              have q1 : (q : Int) < (bl : Int) := by omega
              have bl0 : (0 : Int) < (bl : Int) := by omega
              have q4 : (q : Int) ≤ 4096 := by omega
              have HTV := HT.out
              have hup := upL_len2 m
              rw [← HMM.out] at htl
              have zx : ((Bt bx).size : Int) = (bx.length : Int) := rfl
              obtain ⟨z, hz⟩ : ∃ z, z = bx.length := ⟨_, rfl⟩
              rw [← hz] at zx hlen1 hlen2 hia2
              have zw : IntKind.u64.wrap (z : Int) = (z : Int) := u64_lt (by omega)
              have Z8 : Hid (z < 256 ^ 8) := Lib.hid (by rw [pow8]; omega)
              have hadd1 := fun w => add_Bt es bx (by omega) w
              have hadd2 := fun w => add_Bt xs (textL k1) (by omega) w
              have hadd3 := fun w => add_Bt (xs ++ textL k1) (upL z) (by rw [List.length_append]; omega) w
              have HEA := Lib.hid hea
              have HIA := Lib.hid hia2
              have HK1 := Lib.hid hk1l
              clear hlt htl hP htk hsb hmay hlt2 hb hea hia hlen1 hlen2 hFit hb4 hbl hcb hec hlk hk1 hk1l hbx hes hxs hxl hia2 hq HTV hup hz
              go_wp2_with (go_at_call 32; (with_reducible refine HEC.out.mono ?_); rintro e w3 ⟨rfl, hE3⟩; have hcd := hE3.cellv hc; have k1d := hE3.cellv k1c; have HX3 := Lib.hid (hE.trans hE3))
              go_region_held3 (fun w' => w'.cell? ⟨g, j, none⟩ = some (.slice (some ⟨g2, o2, none⟩) bl cb) ∧ w'.cell? ⟨g2, o2 + q * 2, none⟩ = some (.string (Bt k1)) ∧ Ext w3 w')
                (first | exact ⟨hcd, k1d, (Ext.refl _).drew⟩ | exact held_ext2 (by assumption) hEn | go_keep)
                (first
                  | (go_at_call 33; (with_reducible refine (text03_any k1 HK1.out _).mono ?_); rintro e w4 ⟨rfl, hEn⟩)
                  | (go_at_call 31; (with_reducible refine (num03_any z Z8.out _).mono ?_); rintro e w4 ⟨rfl, hEn⟩))
              all_goals have hXE : Ext w3 w4 := by go_split_ands; assumption
              all_goals go_wp2
              all_goals exact ⟨⟨j + 1, by omega, rfl, by rw [HEA.out], by rw [HIA.out, List.append_assoc], HX3.out.trans hXE⟩, by simp [intOf]; omega⟩
            · obtain rfl : j = m := by omega
              have jj : ¬ (j : Int) < (j : Int) := by omega
              have hfull : bs.take j = bs := List.take_of_length_le (by rw [← HMM.out]; omega)
              rw [hfull] at hlt
              rw [hfull]
              have HTV := HT.out
              rw [← HMM.out] at htl
              obtain ⟨es, hes⟩ : ∃ es, es = encs bs := ⟨_, rfl⟩
              obtain ⟨xs, hxs⟩ : ∃ xs, xs = upL j ++ idxs bs := ⟨_, rfl⟩
              have hxl : xs.length = (upL j).length + (idxs bs).length := by rw [hxs, List.length_append]
              have htx : txt bs = (es ++ xs) ++ e8L es.length := by unfold txt; rw [hes, hxs, HMM.out]; simp only [List.append_assoc]
              rw [← hes] at htl ⊢
              rw [← hxs]
              have htxl := congrArg List.length htx
              have zx : ((Bt es).size : Int) = (es.length : Int) := rfl
              have hei := e8L_len es.length
              obtain ⟨z, hz⟩ : ∃ z, z = es.length := ⟨_, rfl⟩
              rw [← hz] at zx htx hei
              have H8 := Lib.hid (eight_ref z (by omega))
              have zw : IntKind.u64.wrap (z : Int) = (z : Int) := u64_lt (by omega)
              have hadd1 := fun w => add_Bt es xs (by omega) w
              obtain ⟨ex, hex⟩ : ∃ ex, ex = es ++ xs := ⟨_, rfl⟩
              have hexl : ex.length = es.length + xs.length := by rw [hex, List.length_append]
              rw [← hex] at hadd1 htx
              have hadd2 := fun w => add_Bt ex (e8L z) (by omega) w
              obtain ⟨T, hT⟩ : ∃ T, T = ex ++ e8L z := ⟨_, rfl⟩
              rw [← hT] at hadd2 htx
              have zT : ((Bt T).size : Int) = (T.length : Int) := rfl
              have hTl : (T.length : Int) ≤ 65536 := by rw [← htx]; omega
              have tT : decide ((131072 : Int) < (T.length : Int)) = false := by simp; omega
              have tT2 : ¬ (131072 : Int) < (T.length : Int) := by omega
              have HTX := Lib.hid htx
              clear hfull HTV htl hes hxs hxl htx htxl hei hz hlt hT hex hexl
              go_wp2_with (go_at_call 34; (with_reducible refine (H8.out _).mono ?_); rintro e w3 ⟨rfl, hE3⟩)
              go_ret2
              exact ⟨by rw [HTX.out]; rfl, (HE1.out.trans hE).trans hE3⟩
end Go.Proofs.Ytpengejnjmicnaa
end
