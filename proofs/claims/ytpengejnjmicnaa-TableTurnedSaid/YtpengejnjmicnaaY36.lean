import Derived.Test.YtpengejnjmicnaaU10
import Derived.Test.YtpengejnjmicnaaY0
import Derived.Test.YtpengejnjmicnaaU11
namespace Go.Proofs.Ytpengejnjmicnaa
open Go.RowKit Go.Nb
theorem One.set : ∀ {S : Bs} {j : Nat} {c : UInt8}, j < S.length → S.getD j 0 ≠ c → One S (S.set j c)
  | x :: S, 0, c, _, h => .inl ⟨h, rfl⟩
  | x :: S, j + 1, c, hj, h => .inr ⟨rfl, One.set (by simpa using hj) (by simpa using h)⟩
theorem u8_xor_nat (a b : Nat) (ha : a < 256) (hb : b < 256) : bits .xor .u8 (a : Int) (b : Int) = ((a ^^^ b : Nat) : Int) := by
  have hx : a ^^^ b < 2 ^ 8 := Nat.xor_lt_two_pow (by omega) (by omega)
  have h1 : ∀ a : Nat, a < 256 → (BitVec.ofInt 8 (a : Int)).toNat = a := fun a ha => by
    rw [BitVec.ofInt_natCast, BitVec.toNat_ofNat]; exact Nat.mod_eq_of_lt (by omega)
  show IntKind.u8.wrap ((BitVec.ofInt 8 (a : Int) ^^^ BitVec.ofInt 8 (b : Int)).toNat : Int) = _
  rw [BitVec.toNat_xor, h1 a ha, h1 b hb]
  simp [IntKind.wrap, IntKind.bits, IntKind.signed]; omega
/-- The byte that was turned. -/
def turnB (S : Bs) (j y : Nat) : UInt8 := UInt8.ofNat ((S.getD j 0).toNat ^^^ y)
theorem turnB_nat (S : Bs) (j y : Nat) (hy : y < 256) : (turnB S j y).toNat = (S.getD j 0).toNat ^^^ y := by
  have h1 := (S.getD j 0).toNat_lt
  have hx : (S.getD j 0).toNat ^^^ y < 2 ^ 8 := Nat.xor_lt_two_pow (by omega) (by omega)
  show ((S.getD j 0).toNat ^^^ y) % 256 = _
  exact Nat.mod_eq_of_lt (by omega)
theorem turnB_ne (S : Bs) (j y : Nat) (hy : y < 256) (h0 : y ≠ 0) : S.getD j 0 ≠ turnB S j y := fun e => by
  have h1 := turnB_nat S j y hy
  rw [← e] at h1
  have h2 := congrArg (fun z => (S.getD j 0).toNat ^^^ z) h1
  simp only [Nat.xor_self, ← Nat.xor_assoc, Nat.zero_xor] at h2
  exact h0 h2.symm
theorem bt_Bt (S : Bs) (j : Nat) : bt (Bt S) j = ((S.getD j 0).toNat : Int) := rfl
theorem turned_cells {w : World} {g : Nat} {S S' : Bs} {j y v z : Nat} (hCA : CellsAt w g S.length (fun j => .int .u8 (bt (Bt S) j))) (hj : j < S.length) (hS : S' = S.set j (turnB S j y)) (hv : v = (S.getD j 0).toNat) (hz : z = v ^^^ y) (hy : y < 256) :
    ∀ k, k < S.length → (w.setCell ⟨g, j, none⟩ (.int .u8 (z : Int))).cell? ⟨g, 0 + k, none⟩ = some (.int .u8 (bt (Bt S') k)) := fun k hk => by
  have h := hCA.set_ (h := fun k => .int .u8 (bt (Bt S') k)) j (.int .u8 (z : Int)) (fun i hi => by
    show Value.int .u8 (bt (Bt S') i) = _
    rw [bt_Bt, hS, List.getD_eq_getElem?_getD, List.getElem?_set]
    by_cases hij : j = i
    · subst hij
      rw [if_pos rfl, if_pos hj, if_pos rfl, Option.getD_some, turnB_nat S j y hy, hz, hv]
    · rw [if_neg hij, if_neg (fun e => hij e.symm), bt_Bt, List.getD_eq_getElem?_getD])
  rw [Nat.zero_add]
  exact h.cell k hk
theorem turned_not {l : List Pr} {bs bs' : List (List Pr)} {S S' : Bs} (t : TabIs S bs) (t' : TabIs S' bs') (hl : bs.flatten = l) (h1 : One S S') (hz : S.length ≤ 60000) : bs'.flatten.take (l.length + 1) ≠ l := fun e => by
  have hlen := congrArg List.length e
  rw [List.length_take] at hlen
  rw [List.take_of_length_le (by omega)] at e
  exact turned_core t.ok t'.ok (by rw [hl, e]) (by rw [t.txt]; omega) (by rw [t.txt, t'.txt]; exact h1)
set_option maxRecDepth 100000 in
set_option maxHeartbeats 1000000 in
theorem tableTurned_full (A : Option Addr) (n c : Nat) (l : List Pr) (a b : Int) (W : World) (rd : PRd W A n l) (mm : n ≤ maxLen) (zz : PrOk n c l ∧ ∀ x ∈ l, x.k.length ≤ 2 ^ 47 ∧ x.v.length ≤ 2 ^ 47) (wa : (Lit.int .u16 a).wf = true) (wb : (Lit.int .u8 b).wf = true) :
    Calls Try.prog 6 #[.slice A n c, .int .u16 a, .int .u8 b] W fun e w' => e = .returned (.bool true) ∧ Ext W w' := by
  obtain ⟨ok, bu⟩ := zz
  have HWK := Lib.hid (fun w => works_any w)
  have HV := Lib.hid (heavy_any (c := c) rd mm)
  obtain ⟨x, rfl, hx⟩ : ∃ x : Nat, a = x ∧ x < 65536 := by
    have h0 : IntKind.u16.min ≤ a ∧ a ≤ IntKind.u16.max := by simpa [Lit.wf] using wa
    have h1 : 0 ≤ a ∧ a ≤ 65535 := h0
    exact ⟨a.toNat, by omega, by omega⟩
  obtain ⟨y, rfl, hy⟩ : ∃ y : Nat, b = y ∧ y < 256 := by
    have h0 : IntKind.u8.min ≤ b ∧ b ≤ IntKind.u8.max := by simpa [Lit.wf] using wb
    have h1 : 0 ≤ b ∧ b ≤ 255 := h0
    exact ⟨b.toNat, by omega, by omega⟩
  clear wa wb
  cases hh : heavyT l
  · rw [hh] at HV
    by_cases y0 : y = 0
    · subst y0
      clear hh ok bu rd mm
      go_enter Try.func6, Try.ntmps6
      go_wp2_with (first
        | (go_at_call 9; (with_reducible refine HV.out.mono ?_); rintro e w1 ⟨rfl, hE1⟩)
        | (go_at_call 10; (with_reducible refine (HWK.out _).mono ?_); rintro e w5 ⟨rfl, hE5⟩))
      go_ret
      exact ⟨rfl, hE1.trans hE5⟩
    · have ty : ((y : Int) == 0) = false := by simp; omega
      have tyn : (y == 0) = false := by simp; omega
      have hli := light_of2 hh bu
      have hln : l.length = n := rd.1
      have hn : n ≤ 400 := by have := hli.len; omega
      have HO := Lib.hid (fun w (hE : Ext W w) => own_any (c := c) (rd.ext hE) (by omega))
      have HB := Lib.hid (fun w A' c' (h : PRd w A' n l) (hc : n ≤ c') => build_all h (by omega) hc 64 hli.small (by have := hli.txt 64; omega))
      rcases good_cases l with hg | ⟨hl, hg⟩
      · rw [bldR_no hg] at HB
        clear hh ok bu hli hln hn rd mm hg
        go_enter Try.func6, Try.ntmps6
        go_wp2_with (first
          | (go_at_call 9; (with_reducible refine HV.out.mono ?_); rintro e w1 ⟨rfl, hE1⟩)
          | (go_at_call 12; (with_reducible refine (HO.out _ hE1).mono ?_); rintro e w2 ⟨A2, c2, rfl, hc2, hP2, hE2⟩)
          | (go_at_call 11; (with_reducible refine (HB.out _ _ _ hP2 hc2).mono ?_); rintro e w3 ⟨rfl, hE3⟩; replace hE1 := (hE1.trans hE2).trans hE3)
          | (go_at_call 10; (with_reducible refine (HWK.out _).mono ?_); rintro e w5 ⟨rfl, hE5⟩))
        go_ret
        exact ⟨rfl, hE1.trans hE5⟩
      · obtain ⟨b1, t1⟩ := bldR_yes (most := 64) (by omega) (by omega) hl hg
        rw [b1] at HB
        have z1 := hli.txt 64
        have z0 := tab_len t1
        generalize hbs : blkL 64 l = bs at *
        generalize hS : txt bs = S at *
        have zs : (Bt S).size = S.length := rfl
        have zi : ((Bt S).size : Int) = (S.length : Int) := rfl
        have tz : ((S.length : Int) == 0) = false := by rw [beq_eq_false_iff_ne]; omega
        have tzn : (S.length == 0) = false := by rw [beq_eq_false_iff_ne]; omega
        clear b1
        obtain ⟨j, hjx⟩ : ∃ j, j = x % S.length := ⟨_, rfl⟩
        have hj : j < S.length := by rw [hjx]; exact Nat.mod_lt _ (by omega)
        have ej : (x : Int) % (S.length : Int) = (j : Int) := by rw [hjx]; rfl
        have ejn : x % S.length = j := hjx.symm
        have ji : (j : Int) < (S.length : Int) := by omega
        have wx : IntKind.i64.wrap (x : Int) = (x : Int) := IntWalk.i64_in _ (by omega)
        have zn0 : ¬ (S.length : Int) = 0 := by omega
        obtain ⟨S', hS'⟩ : ∃ S', S' = S.set j (turnB S j y) := ⟨_, rfl⟩
        have hOne : One S S' := by rw [hS']; exact One.set hj (turnB_ne S j y hy y0)
        have HS' := Lib.hid hS'
        have hlen : S'.length = S.length := by rw [hS', List.length_set]
        have hbx := u8_xor_nat (S.getD j 0).toNat y (S.getD j 0).toNat_lt hy
        obtain ⟨v, hv⟩ : ∃ v, v = (S.getD j 0).toNat := ⟨_, rfl⟩
        rw [← hv] at hbx
        have HV' := Lib.hid hv
        obtain ⟨z, hz⟩ : ∃ z, z = v ^^^ y := ⟨_, rfl⟩
        rw [← hz] at hbx
        have HZ := Lib.hid hz
        have hOk := t1.ok
        have hFl := blkL_flat 64 l
        rw [hbs] at hFl
        have HTX := Lib.hid t1.txt
        have HOK := Lib.hid hOk
        have HFL := Lib.hid hFl
        have HLN := Lib.hid hln
        have HSZ : Hid ((Bt S').size = S.length) := Lib.hid hlen
        have HONE := Lib.hid hOne
        have HZ1 := Lib.hid z1
        have HZ0 := Lib.hid z0
        have HJ := Lib.hid hj
        have HRD := Lib.hid rd
        have HN := Lib.hid hn
        have HYY := Lib.hid hy
        by_cases hex : ∃ bs', TabIs S' bs'
        · obtain ⟨bs', t2⟩ := hex
          have hk2 := t2.tok (by omega)
          have hnot := turned_not t1 t2 hFl hOne z1
          have HOT := Lib.hid (fun w => tbl_of t2 (by omega) w)
          have HF0 : Hid (∀ w gt, Tbl w gt bs' → Calls Try.prog 20 #[.pointer (some ⟨gt, 0, none⟩), .string ⟨#[]⟩] w fun e w' => ∃ lb, e = .returned (.func (.func 43) #[] lb) ∧ SeqOf w' lb bs'.flatten ∧ Ext w w') := Lib.hid (fun w gt h => by
            have := from_t h hk2 []
            rw [seek_nil] at this
            exact this)
          obtain ⟨T, hT⟩ : ∃ T, T = bs'.flatten.take (l.length + 1) := ⟨_, rfl⟩
          have hTl : T.length ≤ 401 := by rw [hT, List.length_take]; omega
          have HC : Hid (∀ w lb, SeqOf w lb bs'.flatten → Calls Try.prog 19 #[.func (.func 43) #[] lb, .int .i64 ((n : Int) + 1)] w fun e w' => ∃ A1 c1, e = .returned (.slice A1 T.length c1) ∧ PRd w' A1 T.length T ∧ Ext w w') := Lib.hid (fun w lb h => by
            have := collect_t h (most := l.length + 1) (by omega) (by omega)
            rw [← hT, hln] at this
            exact this)
          have HSM : Hid (∀ w X c1, PRd w X T.length T → Ext W w → Calls Try.prog 18 #[.slice X T.length c1, .slice A n c] w fun e w' => e = .returned (.bool false) ∧ Ext w w') := Lib.hid (fun w X c1 h hE => by
            have := same_ref (c := c1) (c' := c) h (rd.ext hE) (by omega) (by omega)
            rw [decide_eq_false (by rw [hT]; exact hnot)] at this
            exact this)
          have wn : IntKind.i64.wrap ((n : Int) + 1) = (n : Int) + 1 := IntWalk.i64_in _ (by omega)
          generalize T.length = tn at *
          clear hnot hTl hT t2
          clear hz hv hS' hOne hlen hbs hS t1 z1 z0 hOk hFl hjx hln hli hg hl bu ok hh mm rd hx y0 hn hj
          go_enter Try.func6, Try.ntmps6
          go_wp2_with (first
          | (go_at_call 9; (with_reducible refine HV.out.mono ?_); rintro e w1 ⟨rfl, hE1⟩)
          | (go_at_call 12; (with_reducible refine (HO.out _ hE1).mono ?_); rintro e w2 ⟨A2, c2, rfl, hc2, hP2, hE2⟩)
          | (go_at_call 11; (with_reducible refine (HB.out _ _ _ hP2 hc2).mono ?_); rintro e w3 ⟨rfl, hE3⟩; replace hE1 := (hE1.trans hE2).trans hE3)
          | ((with_reducible refine wpList_str_bytes rfl 9 40 5 _ rfl Try.underlying9 Try.underlying40 Try.underlying5 (Bt S) rfl ?_); intro C w4 hCn hC hCv hB4 hz4; have hCA : CellsAt w4 w3.heap.size S.length (fun j => .int .u8 (bt (Bt S) j)) := ⟨5, C, hCn, hC, hCv⟩; have cj : w4.cell? ⟨w3.heap.size, j, none⟩ = some (.int .u8 (v : Int)) := (hCA.cell j HJ.out).trans (by (rw [HV'.out]; rfl)); have fj := hCA.frozen j HJ.out)
          | ((with_reducible refine wpList_bytes_str rfl 40 9 5 _ rfl Try.underlying40 Try.underlying5 Try.underlying9 w3.heap.size 0 S.length C.size rfl (Bt S') HSZ.out (turned_cells hCA HJ.out HS'.out HV'.out HZ.out HYY.out) ?_); have hE5 : Ext W (w4.setCell ⟨w3.heap.size, j, none⟩ (.int .u8 (z : Int))) := hE1.trans (Below.setCell hB4 (p := ⟨w3.heap.size, j, none⟩) (Nat.le_refl _) _))
          | (go_at_call 14; (with_reducible refine (HOT.out _).mono ?_); rintro e w6 ⟨g6, rfl, hT6, hE6⟩; replace hE5 := hE5.trans hE6)
          | (go_at_call 20; (with_reducible refine (HF0.out _ _ hT6).mono ?_); rintro e w7 ⟨lb, rfl, hS7, hE7⟩; replace hE5 := hE5.trans hE7)
          | (go_at_call 19; (with_reducible refine (HC.out _ _ hS7).mono ?_); rintro e w8 ⟨A8, c8, rfl, hP8, hE8⟩; replace hE5 := hE5.trans hE8)
          | (go_at_call 18; (with_reducible refine (HSM.out _ _ _ hP8 hE5).mono ?_); rintro e w9 ⟨rfl, hE9⟩; replace hE5 := hE5.trans hE9)
          | (go_at_call 10; (with_reducible refine (HWK.out _).mono ?_); rintro e w10 ⟨rfl, hE10⟩))
          go_ret
          exact ⟨rfl, hE5.trans hE10⟩
        · have hno : ∀ bs', ¬ TabIs S' bs' := fun bs' h => hex ⟨bs', h⟩
          have HON := Lib.hid (fun w => tbl_no hno (by omega) w)
          clear hex hno
          clear hz hv hS' hOne hlen hbs hS t1 z1 z0 hOk hFl hjx hln hli hg hl bu ok hh mm rd hx y0 hn hj
          go_enter Try.func6, Try.ntmps6
          go_wp2_with (first
          | (go_at_call 9; (with_reducible refine HV.out.mono ?_); rintro e w1 ⟨rfl, hE1⟩)
          | (go_at_call 12; (with_reducible refine (HO.out _ hE1).mono ?_); rintro e w2 ⟨A2, c2, rfl, hc2, hP2, hE2⟩)
          | (go_at_call 11; (with_reducible refine (HB.out _ _ _ hP2 hc2).mono ?_); rintro e w3 ⟨rfl, hE3⟩; replace hE1 := (hE1.trans hE2).trans hE3)
          | ((with_reducible refine wpList_str_bytes rfl 9 40 5 _ rfl Try.underlying9 Try.underlying40 Try.underlying5 (Bt S) rfl ?_); intro C w4 hCn hC hCv hB4 hz4; have hCA : CellsAt w4 w3.heap.size S.length (fun j => .int .u8 (bt (Bt S) j)) := ⟨5, C, hCn, hC, hCv⟩; have cj : w4.cell? ⟨w3.heap.size, j, none⟩ = some (.int .u8 (v : Int)) := (hCA.cell j HJ.out).trans (by (rw [HV'.out]; rfl)); have fj := hCA.frozen j HJ.out)
          | ((with_reducible refine wpList_bytes_str rfl 40 9 5 _ rfl Try.underlying40 Try.underlying5 Try.underlying9 w3.heap.size 0 S.length C.size rfl (Bt S') HSZ.out (turned_cells hCA HJ.out HS'.out HV'.out HZ.out HYY.out) ?_); have hE5 : Ext W (w4.setCell ⟨w3.heap.size, j, none⟩ (.int .u8 (z : Int))) := hE1.trans (Below.setCell hB4 (p := ⟨w3.heap.size, j, none⟩) (Nat.le_refl _) _))
          | (go_at_call 14; (with_reducible refine (HON.out _).mono ?_); rintro e w6 ⟨rfl, hE6⟩; replace hE5 := hE5.trans hE6)
          | (go_at_call 10; (with_reducible refine (HWK.out _).mono ?_); rintro e w10 ⟨rfl, hE10⟩))
          go_ret
          exact ⟨rfl, hE5.trans hE10⟩
  · rw [hh] at HV
    clear hh ok bu rd mm
    go_enter Try.func6, Try.ntmps6
    go_wp2_with (first
      | (go_at_call 9; (with_reducible refine HV.out.mono ?_); rintro e w1 ⟨rfl, hE1⟩)
      | (go_at_call 10; (with_reducible refine (HWK.out _).mono ?_); rintro e w5 ⟨rfl, hE5⟩))
    go_ret
    exact ⟨rfl, hE1.trans hE5⟩
