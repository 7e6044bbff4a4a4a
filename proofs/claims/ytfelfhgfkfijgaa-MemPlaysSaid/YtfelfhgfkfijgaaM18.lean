import Derived.Test.YtfelfhgfkfijgaaM16
import Derived.Test.YtfelfhgfkfijgaaM17
import Derived.Maps.Own
import Derived.Maps.OwnOps
import Derived.Maps.Views
import Derived.Maps.OwnSet
import Derived.StringKeys
namespace Go.Proofs.Ytfelfhgfkfijgaa
open Go.RowKit Go.Nb Go.Maps
/-- A map from texts to numbers, by what it tells at each text. -/
def NumM (w : World) (b k : Nat) (f : Bs → Int) : Prop := ∃ D : DataW Unit, w.ownsMap Try.prog 9 (plainElem Try.prog 3) b k D ∧ IsMap D ∧ ∀ s : Bs, D.atKey (.string s) (.lit (.int .i64 0)) = .lit (.int .i64 (f s))
theorem keyed9 : Keyed Try.prog 9 := string_keyed Try.underlying9
theorem zero3 (w : World) : (zeroValue 3).run Try.prog w = .ok (.int .i64 0) w := by kernel_rfl
theorem key9 {s : Bs} (h : s.length ≤ maxLen) : keyOf Try.prog 9 (.string (Bt s)) = some (.string s) := Go.WideMaps.keyOf_string_mk Try.underlying9 h
theorem numM_put {w : World} {b k : Nat} {f : Bs → Int} {D : DataW Unit} (hD : IsMap D) (hf : ∀ s : Bs, D.atKey (.string s) (.lit (.int .i64 0)) = .lit (.int .i64 (f s))) {s : Bs} {z : Int} (hown : w.ownsMap Try.prog 9 (plainElem Try.prog 3) b k (D.put (.string s) (.lit (.int .i64 z)))) : NumM w b k (fun x => if x = s then z else f x) := by
  refine ⟨_, hown, hD.put _ _, fun x => ?_⟩
  show _ = DataW.lit (Lit.int .i64 (if x = s then z else f x))
  by_cases h : x = s
  · subst h
    rw [if_pos rfl]
    exact atKey_put_same hD (show WideAt.IsKeyLit (.string x) from trivial) _ _
  · rw [if_neg h, atKey_put_other (by intro e; injection e with e; exact h e)]
    exact hf x
theorem numM_made (w : World) : NumM (w.alloc (.map #[] 0)) w.heap.size 0 (fun _ => 0) := ⟨.map [], World.ownsMap_made _ _ _ _, ⟨[], rfl⟩, fun _ => rfl⟩
theorem NumM.ext {w w' : World} {b k : Nat} {f : Bs → Int} (h : NumM w b k f) (hE : Ext w w') : NumM w' b k f := by
  obtain ⟨D, h1, h2, h3⟩ := h
  exact ⟨D, h1.kept (grown_ext hE) (by simp), h2, h3⟩
/-- A script of one step. -/
theorem srd_one (W : World) (A : Option Addr) (n c : Nat) (l : List Pr) (h : PRd W A n l) : SRd (W.alloc (.cells #[.int .i64 0, .slice A n c, .string ⟨#[]⟩] 25)) (some ⟨W.heap.size, 0, none⟩) 1 [⟨0, l, []⟩] := by
  refine ⟨rfl, fun _ => ⟨W.heap.size, 0, rfl, fun i hi => ?_⟩⟩
  obtain rfl : i = 0 := by omega
  have hb := Blk.new W 25 #[.int .i64 0, .slice A n c, .string ⟨#[]⟩]
  refine ⟨A, c, ?_, ?_, ?_, ?_⟩
  · exact hb.cell 0
  · rw [show ([(⟨0, l, []⟩ : Stp)].getD 0 default).q.length = n from h.1]; exact hb.cell 1
  · exact hb.cell 2
  · rw [show ([(⟨0, l, []⟩ : Stp)].getD 0 default).q.length = n from h.1]; exact h.ext ((Ext.refl W).alloc _)
/-- 'append' at an operation whose guard is on. -/
theorem wpList_append_on {P : Program} {w : World} {ops : Array Oper} {rest : List Oper} {o : Oper} {a : Act} {Q : Exit → Act → World → Prop} (hw : Region.wanted o (yielded ops a.tmps) = true) (s x : Operand) (t : TypeId)
    (ho : o.op = .call { callee := .builtin .append, args := #[s, x], argTypes := #[t, t] })
    (base : Nat) (e : TypeId) (i : TypeInfo) (z : Value) (size bytes : Nat) (ht : P.underlying t = some (.slice e)) (hi : P.info? e = some i) (hz : i.zero = some z)
    (hsize : i.size = size) (hby : i.bytes = bytes) (hzs : z.cells.size = size) (hsz : 0 < size)
    (v : Value) (n : Nat) (xs : List Value) (hs : a.eval s = v) (hown : w.ownsRow base e size v n xs)
    (ad : Addr) (m c : Nat) (news : List Value) (hx : a.eval x = .slice (some ad) m c) (hl : news.length = m * size) (hnews : ∀ j u, news[j]? = some u → w.cell? (ad.add j) = some u) (h1 : ∀ u ∈ news, u.oneCell' = true)
    (hm : 0 < m) (h63 : n + m ≤ maxLen) (hbytes : (n + m) * bytes ≤ 140737488355328) (hbase : base ≤ w.heap.size) (H : Nat) (hH : w.heap.size = H)
    (h : ∀ g cap w', w'.ownsRow base e size (.slice (some ⟨g, 0, none⟩) (n + m) cap) (n + m) (xs ++ news) → w.grownBy w' v.ownBlock → (v.ownBlock = some g ∨ g = H) → g < w'.heap.size → wpList P ops Q rest (a.put o.dst (.slice (some ⟨g, 0, none⟩) (n + m) cap)) w') : wpList P ops Q (o :: rest) a w := by
  rw [wpList, if_pos hw]
  exact .inl (wp_append_lies w s x t ho base e i z size bytes ht hi hz hsize hby hzs hsz v n xs hs hown ad m c news hx hl hnews h1 hm h63 hbytes hbase H hH h)
/-- Where another mem turns a mem stays. -/
theorem MemIs.turn {w w' : World} {g g2 : Nat} {mo mo2 : Int} {l l2 : List Pr} (h : MemIs w g mo l) (h2 : MemIs w g2 mo2 l2) (hT : Turn (· = g2) w w') (hne : g ≠ g2) : MemIs w' g mo l := by
  obtain ⟨A, c, a1, a2, a3, a4, a5⟩ := h
  obtain ⟨A2, c2, b1, _⟩ := h2
  have hr := a5.ne b1 (by decide)
  refine ⟨A, c, hT.cellsT a1 hne, ⟨a2.1, fun h0 => ?_⟩, a3, a4, a5.turn hT hr⟩
  obtain ⟨gg, o, ha, hc⟩ := a2.2 h0
  exact ⟨gg, o, ha, fun i j hi hj => hT.cellv (hc i j hi hj) (hr ⟨gg, o, none⟩ ha)⟩
theorem put_ok {mo : Int} {l q : List Pr} (hg : q.any badP = false) (hs : (sizeP (putsL l q) : Int) ≤ mo) : putE mo l q = 0 ∧ putR mo l q = putsL l q := by
  have h : putE mo l q = 0 := by
    unfold putE
    rw [if_neg (by rw [hg]; simp), if_neg (by omega)]
  exact ⟨h, by unfold putR; rw [if_pos h]⟩
/-- What pairs weigh. -/
def wN : List Pr → Nat
  | [] => 0
  | p :: l => 1 + p.k.length + p.v.length + wN l
theorem wN_size : ∀ l, sizeP l = wN l + 3 * l.length
  | [] => rfl
  | p :: l => by rw [sizeP, wN, wN_size l, List.length_cons]; omega
theorem wrap_small {x : Int} (h0 : 0 ≤ x) (h1 : x < 9223372036854775808) : wrap64 x = x := IntWalk.wrap64_in x (by omega)
theorem wPz_good : ∀ (l : List Pr) (z : Int), l.any badP = false → 0 ≤ z → z + 9217 * l.length < 4611686018427387904 → wPz z l = z + wN l
  | [], z, _, _, _ => by simp [wPz, wN]
  | p :: l, z, hb, h0, h1 => by
    simp only [List.any_cons, Bool.or_eq_false_iff] at hb
    have hb1 := hb.1
    unfold badP at hb1
    simp only [Bool.or_eq_false_iff, decide_eq_false_iff_not] at hb1
    rw [List.length_cons] at h1
    have a1 : wrap64 (z + 1) = z + 1 := wrap_small (by omega) (by omega)
    have a2 : wrap64 (z + 1 + (p.k.length : Int)) = z + 1 + (p.k.length : Int) := wrap_small (by omega) (by omega)
    have a3 : wrap64 (z + 1 + (p.k.length : Int) + (p.v.length : Int)) = z + 1 + (p.k.length : Int) + (p.v.length : Int) := wrap_small (by omega) (by omega)
    rw [wPz, a1, a2, a3, wPz_good l _ hb.2 (by omega) (by omega), wN]
    push_cast
    omega
theorem one_size {l : List Pr} (hh : heavyS [⟨0, l, []⟩] = false) (hg : l.any badP = false) : sizeP l ≤ 65536 := by
  have hl := (heavy_light hh).2 ⟨0, l, []⟩ (by simp)
  simp only at hl
  unfold heavyS at hh
  simp only [Bool.or_eq_false_iff, decide_eq_false_iff_not] at hh
  have h2 := hh.2.2
  have e : wSz 0 (List.take 200 [(⟨0, l, []⟩ : Stp)]) = wPz (wrap64 0) l := rfl
  rw [e, wrap_small (by omega) (by omega), wPz_good l 0 hg (by omega) (by omega)] at h2
  rw [wN_size]
  omega
theorem getD_good {l : List Pr} (h : l.any badP = false) (i : Nat) (hi : i < l.length) : [l.getD i default].any badP = false := by
  rw [List.any_eq_false] at h
  have := h (l.getD i default) (by rw [List.getD_eq_getElem?_getD, List.getElem?_eq_getElem hi]; exact List.getElem_mem hi)
  simpa using this
theorem prd_one (W : World) (p : Pr) : PRd (W.alloc (.cells #[.string (Bt p.k), .string (Bt p.v)] 30)) (some ⟨W.heap.size, 0, none⟩) 1 [p] := prd_new W [p] (by simp)
set_option maxHeartbeats 1000000 in
set_option maxRecDepth 100000 in
theorem memOrder_walk (A : Option Addr) (n c : Nat) (l : List Pr) (t : Int) (W : World) (rd : PRd W A n l) (mm : n ≤ maxLen) (ok : PrOk n c l) (wt : (Lit.int .u8 t).wf = true) : Calls Try.prog 3 #[.slice A n c, .int .u8 t] W fun e w' => e = .returned (.bool true) ∧ Ext W w' := by
  have HWK := Lib.hid (fun w => works_any w)
  have hTB := toList_Bt
  obtain ⟨x, rfl, hx⟩ : ∃ x : Nat, t = x ∧ x < 256 := by
    have h0 : IntKind.u8.min ≤ t ∧ t ≤ IntKind.u8.max := by simpa [Lit.wf] using wt
    have h1 : 0 ≤ t ∧ t ≤ 255 := h0
    exact ⟨t.toNat, by omega, by omega⟩
  clear wt
  have HV : Calls Try.prog 7 #[.slice (some ⟨W.heap.size, 0, none⟩) 1 1] (W.alloc (.cells #[.int .i64 0, .slice A n c, .string ⟨#[]⟩] 25)) fun e w' => e = .returned (.bool (heavyS [⟨0, l, []⟩])) ∧ Ext (W.alloc (.cells #[.int .i64 0, .slice A n c, .string ⟨#[]⟩] 25)) w' := heavy_any (c := 1) (srd_one W A n c l rd) (by unfold maxLen; omega)
  have hX1 := (Ext.refl W).alloc (.cells #[.int .i64 0, .slice A n c, .string ⟨#[]⟩] 25)
  cases hb : heavyS [⟨0, l, []⟩]
  case true =>
    rw [hb] at HV
    have HV := Lib.hid HV
    clear hb
    go_enter Try.func3, Try.ntmps3
    go_wp2_with (first
      | (go_at_call 7; (with_reducible refine HV.out.mono ?_); rintro e w1 ⟨rfl, hE1⟩)
      | (go_at_call 8; (with_reducible refine (HWK.out _).mono ?_); rintro e w2 ⟨rfl, hE2⟩))
    go_ret
    exact ⟨rfl, (hX1.trans hE1).trans hE2⟩
  case false =>
    have hn : n ≤ 100 := by
      have := (heavy_light hb).2 ⟨0, l, []⟩ (by simp)
      rw [← rd.1]; exact this
    rw [hb] at HV
    have HV := Lib.hid HV
    have HL := Lib.hid rd.1
    have HOK := Lib.hid ok.2
    have HHV := Lib.hid hb
    have hmm := @run_makeMap Try.prog
    clear hb ok
    go_enter Try.func3, Try.ntmps3
    go_wp2_with (go_at_call 7; (with_reducible refine HV.out.mono ?_); rintro e w1 ⟨rfl, hE1⟩; have HW1 := Lib.hid (hX1.trans hE1))
    obtain ⟨b, hbb⟩ : ∃ b, b = w1.heap.size := ⟨_, rfl⟩
    have HNM := Lib.hid (show NumM (w1.alloc (.map #[] 0)) b 0 (fun _ => 0) by rw [hbb]; exact numM_made w1)
    have HB := Lib.hid (show W.heap.size ≤ b by rw [hbb]; exact HW1.out.sz)
    rw [← hbb]
    clear hbb
    go_loopw [6] (fun iv wr => ∃ (k : Nat) (f : Bs → Int), k ≤ n ∧ iv = .int .i64 k ∧ NumM wr b k f ∧ Hid (∀ s, f s = if s ∈ keysL (l.take k) then 1 else 0) ∧ Hid ((keysL (l.take k)).Nodup) ∧ Hid ((l.take k).any badP = false) ∧ Ext W wr) (fun iv _ => n - (intOf iv).toNat)
    case atStart => exact ⟨0, fun _ => 0, by omega, rfl, HNM.out, Lib.hid (fun s => by simp [keysL]), Lib.hid List.nodup_nil, Lib.hid rfl, HW1.out.alloc _⟩
    case round =>
      obtain ⟨k, f, hk, rfl, ⟨D, hown, hD, hf⟩, hfk, hnd, hgd, hE⟩ := hrel
      by_cases hk2 : k < n
      · have kk : (k : Int) < (n : Int) := by omega
        have kk0 : (0 : Int) ≤ (k : Int) := by omega
        obtain ⟨g, o, rfl, c0w, c1w⟩ := rd.at_ k hk2
        have hgW := block_lt_of_cell c0w
        have c0 := hE.cellv c0w
        have c1 := hE.cellv c1w
        have hgb : some g ≠ some b := by intro e; injection e with e; have h1 := HB.out; simp only at hgW; omega
        clear c0w c1w hgW
        have hkn : k < l.length := by rw [HL.out]; exact hk2
        have htk : l.take (k + 1) = l.take k ++ [l.getD k default] := by
          rw [List.take_succ_eq_append_getElem hkn, List.getD_eq_getElem?_getD, List.getElem?_eq_getElem hkn]; rfl
        have hpm : l.getD k default ∈ l := by rw [List.getD_eq_getElem?_getD, List.getElem?_eq_getElem hkn]; exact List.getElem_mem hkn
        obtain ⟨p, hp⟩ : ∃ p, p = l.getD k default := ⟨_, rfl⟩
        rw [← hp] at c0 c1 htk hpm
        have hpk := (HOK.out p hpm).1
        have HKEY := Lib.hid (key9 hpk)
        have HTK := Lib.hid htk
        have HOWN := Lib.hid hown
        have HF := Lib.hid hf
        have HD := Lib.hid hD
        clear htk hpm hp hown hf hD hpk
        by_cases hin : p.k ∈ keysL (l.take k)
        · have hfp : f p.k = 1 := by rw [hfk.out, if_pos hin]
          have HFP := Lib.hid hfp
          clear hfp hin
          go_wp2_with (first
            | (at_lookup; refine wpList_lookup_own_int _ rfl _ _ 28 rfl 9 3 .i64 keyed9 Try.underlying28 Try.underlying3 (zero3 _) b k _ rfl HOWN.out _ _ rfl HKEY.out ?_; intro cc hat hwc; have hcc : cc = 1 := (by rw [HF.out, HFP.out] at hat; injection hat with h1; injection h1 with _ h2; exact h2.symm); subst hcc; clear hat hwc)
            | (at_mapUpdate; refine wpList_mapUpdate_own _ rfl _ _ _ 28 rfl 9 3 keyed9 Try.underlying28 _ b k _ rfl HOWN.out (by unfold maxLen; omega) _ _ _ rfl rfl HKEY.out _ [] (plainElem_int Try.underlying3 (by decide)) ?_; intro w3 hown3 hg3; have HOWN3 := Lib.hid hown3; have HG3 := Lib.hid hg3; have d0 := hg3.cell c0 hgb; have d1 := hg3.cell c1 hgb; clear hown3 hg3)
            | (at_lookup; refine wpList_lookup_own_int _ rfl _ _ 28 rfl 9 3 .i64 keyed9 Try.underlying28 Try.underlying3 (zero3 _) b (k + 1) _ rfl HOWN3.out _ _ rfl HKEY.out ?_; intro cc hat hwc; have hcc : cc = 2 := (by rw [atKey_put_same HD.out (show WideAt.IsKeyLit (.string p.k) from trivial)] at hat; injection hat with h1; injection h1 with _ h2; exact h2.symm); subst hcc; clear hat hwc)
            | (go_at_call 8; (with_reducible refine (HWK.out _).mono ?_); rintro e w4 ⟨rfl, hE4⟩))
          go_ret
          exact ⟨rfl, (hE.grown HG3.out (fun k hk => by cases hk; exact HB.out)).trans hE4⟩
        have hfp : f p.k = 0 := by rw [hfk.out, if_neg hin]
        have HFP := Lib.hid hfp
        have HIN := Lib.hid hin
        clear hfp hin
        by_cases h1 : p.k = []
        · have hk0 : (p.k == []) = true := by simp [h1]
          have HK1 := Lib.hid h1
          clear h1
          go_wp2_with (first
            | (at_lookup; refine wpList_lookup_own_int _ rfl _ _ 28 rfl 9 3 .i64 keyed9 Try.underlying28 Try.underlying3 (zero3 _) b k _ rfl HOWN.out _ _ rfl HKEY.out ?_; intro cc hat hwc; have hcc : cc = 0 := (by rw [HF.out, HFP.out] at hat; injection hat with h1; injection h1 with _ h2; exact h2.symm); subst hcc; clear hat hwc)
            | (at_mapUpdate; refine wpList_mapUpdate_own _ rfl _ _ _ 28 rfl 9 3 keyed9 Try.underlying28 _ b k _ rfl HOWN.out (by unfold maxLen; omega) _ _ _ rfl rfl HKEY.out _ [] (plainElem_int Try.underlying3 (by decide)) ?_; intro w3 hown3 hg3; have HOWN3 := Lib.hid hown3; have HG3 := Lib.hid hg3; have d0 := hg3.cell c0 hgb; have d1 := hg3.cell c1 hgb; clear hown3 hg3)
            | (at_lookup; refine wpList_lookup_own_int _ rfl _ _ 28 rfl 9 3 .i64 keyed9 Try.underlying28 Try.underlying3 (zero3 _) b (k + 1) _ rfl HOWN3.out _ _ rfl HKEY.out ?_; intro cc hat hwc; have hcc : cc = 1 := (by rw [atKey_put_same HD.out (show WideAt.IsKeyLit (.string p.k) from trivial)] at hat; injection hat with h1; injection h1 with _ h2; exact h2.symm); subst hcc; clear hat hwc)
            | (go_at_call 8; (with_reducible refine (HWK.out _).mono ?_); rintro e w4 ⟨rfl, hE4⟩))
          go_ret
          exact ⟨rfl, (hE.grown HG3.out (fun k hk => by cases hk; exact HB.out)).trans hE4⟩
        have hk0 : (p.k == []) = false := by simpa using h1
        by_cases h2 : 1024 < p.k.length
        · have hk1 : decide ((1024 : Int) < ((Bt p.k).size : Int)) = true := by rw [Bt_size]; simp; omega
          have hk2' : decide ((1024 : Int) < (p.k.length : Int)) = true := by simp; omega
          go_wp2_with (first
            | (at_lookup; refine wpList_lookup_own_int _ rfl _ _ 28 rfl 9 3 .i64 keyed9 Try.underlying28 Try.underlying3 (zero3 _) b k _ rfl HOWN.out _ _ rfl HKEY.out ?_; intro cc hat hwc; have hcc : cc = 0 := (by rw [HF.out, HFP.out] at hat; injection hat with h1; injection h1 with _ h2; exact h2.symm); subst hcc; clear hat hwc)
            | (at_mapUpdate; refine wpList_mapUpdate_own _ rfl _ _ _ 28 rfl 9 3 keyed9 Try.underlying28 _ b k _ rfl HOWN.out (by unfold maxLen; omega) _ _ _ rfl rfl HKEY.out _ [] (plainElem_int Try.underlying3 (by decide)) ?_; intro w3 hown3 hg3; have HOWN3 := Lib.hid hown3; have HG3 := Lib.hid hg3; have d0 := hg3.cell c0 hgb; have d1 := hg3.cell c1 hgb; clear hown3 hg3)
            | (at_lookup; refine wpList_lookup_own_int _ rfl _ _ 28 rfl 9 3 .i64 keyed9 Try.underlying28 Try.underlying3 (zero3 _) b (k + 1) _ rfl HOWN3.out _ _ rfl HKEY.out ?_; intro cc hat hwc; have hcc : cc = 1 := (by rw [atKey_put_same HD.out (show WideAt.IsKeyLit (.string p.k) from trivial)] at hat; injection hat with h1; injection h1 with _ h2; exact h2.symm); subst hcc; clear hat hwc)
            | (go_at_call 8; (with_reducible refine (HWK.out _).mono ?_); rintro e w4 ⟨rfl, hE4⟩))
          go_ret
          exact ⟨rfl, (hE.grown HG3.out (fun k hk => by cases hk; exact HB.out)).trans hE4⟩
        have hk1 : decide ((1024 : Int) < ((Bt p.k).size : Int)) = false := by rw [Bt_size]; simp; omega
        have hk2' : decide ((1024 : Int) < (p.k.length : Int)) = false := by simp; omega
        by_cases h3 : 8192 < p.v.length
        · have hk3 : decide ((8192 : Int) < ((Bt p.v).size : Int)) = true := by rw [Bt_size]; simp; omega
          have hk4 : decide ((8192 : Int) < (p.v.length : Int)) = true := by simp; omega
          go_wp2_with (first
            | (at_lookup; refine wpList_lookup_own_int _ rfl _ _ 28 rfl 9 3 .i64 keyed9 Try.underlying28 Try.underlying3 (zero3 _) b k _ rfl HOWN.out _ _ rfl HKEY.out ?_; intro cc hat hwc; have hcc : cc = 0 := (by rw [HF.out, HFP.out] at hat; injection hat with h1; injection h1 with _ h2; exact h2.symm); subst hcc; clear hat hwc)
            | (at_mapUpdate; refine wpList_mapUpdate_own _ rfl _ _ _ 28 rfl 9 3 keyed9 Try.underlying28 _ b k _ rfl HOWN.out (by unfold maxLen; omega) _ _ _ rfl rfl HKEY.out _ [] (plainElem_int Try.underlying3 (by decide)) ?_; intro w3 hown3 hg3; have HOWN3 := Lib.hid hown3; have HG3 := Lib.hid hg3; have d0 := hg3.cell c0 hgb; have d1 := hg3.cell c1 hgb; clear hown3 hg3)
            | (at_lookup; refine wpList_lookup_own_int _ rfl _ _ 28 rfl 9 3 .i64 keyed9 Try.underlying28 Try.underlying3 (zero3 _) b (k + 1) _ rfl HOWN3.out _ _ rfl HKEY.out ?_; intro cc hat hwc; have hcc : cc = 1 := (by rw [atKey_put_same HD.out (show WideAt.IsKeyLit (.string p.k) from trivial)] at hat; injection hat with h1; injection h1 with _ h2; exact h2.symm); subst hcc; clear hat hwc)
            | (go_at_call 8; (with_reducible refine (HWK.out _).mono ?_); rintro e w4 ⟨rfl, hE4⟩))
          go_ret
          exact ⟨rfl, (hE.grown HG3.out (fun k hk => by cases hk; exact HB.out)).trans hE4⟩
        have hk3 : decide ((8192 : Int) < ((Bt p.v).size : Int)) = false := by rw [Bt_size]; simp; omega
        have hk4 : decide ((8192 : Int) < (p.v.length : Int)) = false := by simp; omega
        have hbp : badP p = false := by
          unfold badP
          rw [hk0]
          simp
          omega
        have HBP := Lib.hid hbp
        clear hbp
        go_wp2_with (first
          | (at_lookup; refine wpList_lookup_own_int _ rfl _ _ 28 rfl 9 3 .i64 keyed9 Try.underlying28 Try.underlying3 (zero3 _) b k _ rfl HOWN.out _ _ rfl HKEY.out ?_; intro cc hat hwc; have hcc : cc = 0 := (by rw [HF.out, HFP.out] at hat; injection hat with h1; injection h1 with _ h2; exact h2.symm); subst hcc; clear hat hwc)
          | (at_mapUpdate; refine wpList_mapUpdate_own _ rfl _ _ _ 28 rfl 9 3 keyed9 Try.underlying28 _ b k _ rfl HOWN.out (by unfold maxLen; omega) _ _ _ rfl rfl HKEY.out _ [] (plainElem_int Try.underlying3 (by decide)) ?_; intro w3 hown3 hg3; have HOWN3 := Lib.hid hown3; have HG3 := Lib.hid hg3; have d0 := hg3.cell c0 hgb; have d1 := hg3.cell c1 hgb; clear hown3 hg3)
          | (at_lookup; refine wpList_lookup_own_int _ rfl _ _ 28 rfl 9 3 .i64 keyed9 Try.underlying28 Try.underlying3 (zero3 _) b (k + 1) _ rfl HOWN3.out _ _ rfl HKEY.out ?_; intro cc hat hwc; have hcc : cc = 1 := (by rw [atKey_put_same HD.out (show WideAt.IsKeyLit (.string p.k) from trivial)] at hat; injection hat with h1; injection h1 with _ h2; exact h2.symm); subst hcc; clear hat hwc))
        obtain ⟨D3, hm3, hD3, hf3⟩ := numM_put HD.out HF.out HOWN3.out
        refine ⟨⟨k + 1, _, by omega, rfl, ⟨D3, hm3, hD3, hf3⟩, Lib.hid (fun s => ?_), Lib.hid ?_, Lib.hid ?_, hE.grown HG3.out (fun k hk => by cases hk; exact HB.out)⟩, by simp [intOf]; omega⟩
        · show (if s = p.k then (1 : Int) else f s) = _
          rw [HTK.out, hfk.out]
          have hm : s ∈ keysL (l.take k ++ [p]) ↔ s ∈ keysL (l.take k) ∨ s = p.k := by
            unfold keysL
            rw [List.map_append, List.mem_append]
            simp
          by_cases hs : s = p.k
          · rw [if_pos hs, if_pos (hm.2 (.inr hs))]
          · rw [if_neg hs]
            by_cases h4 : s ∈ keysL (l.take k)
            · rw [if_pos h4, if_pos (hm.2 (.inl h4))]
            · rw [if_neg h4, if_neg (fun h5 => (hm.1 h5).elim h4 hs)]
        · rw [HTK.out]
          show (List.map (·.k) (l.take k ++ [p])).Nodup
          rw [List.map_append, List.nodup_append]
          refine ⟨hnd.out, by simp, fun s hs s' hs' e => ?_⟩
          simp only [List.map_cons, List.map_nil, List.mem_singleton] at hs'
          rw [e, hs'] at hs
          exact HIN.out hs
        · rw [HTK.out, List.any_append, hgd.out, List.any_cons, HBP.out]; rfl
      · obtain rfl : k = n := by omega
        have kk : ¬ (k : Int) < (k : Int) := by omega
        have hfull : l.take k = l := List.take_of_length_le (by rw [HL.out]; omega)
        rw [hfull] at hnd hgd
        have hsz := one_size HHV.out hgd.out
        have hnew := putsL_new l [] hnd.out (fun s _ hc => by cases hc)
        have hsp : sizeP (putsL [] l) ≤ 65536 := by rw [hnew.2.1]; simpa [sizeP] using hsz
        have hlen : (putsL [] l).length ≤ 100 := by rw [hnew.2.2, HL.out]; simpa using hn
        have HN1 : Hid (∀ w', Calls Try.prog 9 #[.int .i64 65536] w' fun e w2 => e = .returned (.tuple #[.pointer (some ⟨w'.heap.size, 0, none⟩), .int .i64 0]) ∧ MemIs w2 w'.heap.size 65536 [] ∧ Ext w' w2) := Lib.hid (fun w' => new_yes (by omega) (by omega) w')
        have HP1 : Hid (∀ W' g1 B cb, MemIs W' g1 65536 [] → PRd W' B k l → Calls Try.prog 10 #[.pointer (some ⟨g1, 0, none⟩), .slice B k cb] W' fun e w2 => e = .returned (.int .i64 0) ∧ MemIs w2 g1 65536 (putsL [] l) ∧ Turn (· = g1) W' w2) := Lib.hid (fun W' g1 B cb h1 h2 => by
          have := put_any (cb := cb) h1 rfl (by simp) (by simp [sizeP]) h2 (by omega)
          rw [(put_ok (mo := 65536) (l := []) hgd.out (by omega)).1, (put_ok (mo := 65536) (l := []) hgd.out (by omega)).2] at this
          exact this)
        have HP2 : Hid (∀ W' g2 i B cb, i < k → MemIs W' g2 65536 (putsL [] (rotL l x i)) → PRd W' B 1 [l.getD ((i + x) % l.length) default] → Calls Try.prog 10 #[.pointer (some ⟨g2, 0, none⟩), .slice B 1 cb] W' fun e w2 => e = .returned (.int .i64 0) ∧ MemIs w2 g2 65536 (putsL [] (rotL l x (i + 1))) ∧ Turn (· = g2) W' w2) := Lib.hid (fun W' g2 i B cb hi h1 h2 => by
          have hl := HL.out
          have hm := Nat.mod_lt (i + x) (show 0 < l.length by omega)
          have e1 : putsL (putsL [] (rotL l x i)) [l.getD ((i + x) % l.length) default] = putsL [] (rotL l x (i + 1)) := by rw [rotL_succ, putsL_snoc]; rfl
          have hs1 := putsL_size (rotL l x (i + 1)) []
          have hs2 := rot_size hnd.out x (i + 1) (by omega)
          have hs3 := putsL_size (rotL l x i) []
          have hs4 := rot_size hnd.out x i (by omega)
          have hl3 := putsL_len (rotL l x i) []
          have hl4 : (rotL l x i).length = i := by simp [rotL]
          simp only [sizeP, List.length_nil] at hs1 hs3 hl3
          have hpo := put_ok (mo := 65536) (l := putsL [] (rotL l x i)) (getD_good hgd.out _ hm) (by rw [e1]; omega)
          have := put_any (cb := cb) h1 (putsL_up _ _ rfl) (by omega) (by omega) h2 (by omega)
          rw [hpo.1, hpo.2, e1] at this
          exact this)
        have HAL : Hid (∀ W' g1, MemIs W' g1 65536 (putsL [] l) → Calls Try.prog 12 #[.pointer (some ⟨g1, 0, none⟩)] W' fun e w2 => ∃ A c, e = .returned (.slice A (putsL [] l).length c) ∧ PRd w2 A (putsL [] l).length (putsL [] l) ∧ Ext W' w2) := Lib.hid (fun W' g1 h => all_any h (by omega))
        have HSZ : Hid (∀ W' g1, MemIs W' g1 65536 (putsL [] l) → Calls Try.prog 13 #[.pointer (some ⟨g1, 0, none⟩)] W' fun e w2 => e = .returned (.int .i64 (sizeP (putsL [] l))) ∧ Ext W' w2) := Lib.hid (fun W' g1 h => msize_any h (by omega) (by omega))
        have HSA : Hid (∀ w' P Q c1 c2, PRd w' P (putsL [] l).length (putsL [] l) → PRd w' Q (putsL [] l).length (putsL [] l) → Calls Try.prog 11 #[.slice P (putsL [] l).length c1, .slice Q (putsL [] l).length c2] w' fun e w2 => e = .returned (.bool true) ∧ Ext w' w2) := Lib.hid (fun w' P Q c1 c2 h1 h2 => by have := same_ref (c := c1) (c' := c2) h1 h2 (by omega) (by omega); rwa [decide_eq_true rfl] at this)
        have HROT : Hid (putsL [] (rotL l x k) = putsL [] l) := Lib.hid (by rw [← HL.out]; exact puts_rot hnd.out x)
        obtain ⟨Z, hZ⟩ : ∃ Z, Z = putsL [] l := ⟨_, rfl⟩
        rw [← hZ] at HP1 HAL HSZ HSA HROT
        clear hsz hnew hsp hlen hZ hfull
        have HEW := Lib.hid hE
        by_cases hk0 : k = 0
        · subst hk0
          have HNIL : Hid (∀ w', PRd w' none 0 l) := Lib.hid (fun w' => ⟨HL.out, FRd.nil _ _ _ _⟩)
          have HR0 : Hid (putsL [] (rotL l x 0) = []) := Lib.hid rfl
          rcases A with _ | a
          · go_wp2_with (first
              | (go_at_call 9; (with_reducible refine (HN1.out _).mono ?_); rintro e w3 ⟨rfl, hM1, hE3⟩; have HEW3 := Lib.hid (HEW.out.trans hE3))
              | (go_at_call 9; (with_reducible refine (HN1.out _).mono ?_); rintro e w4 ⟨rfl, hM2, hE4⟩; have HEW4 := Lib.hid (HEW3.out.trans hE4); have HM1 := Lib.hid (hM1.ext hE4); have HM2 := Lib.hid hM2)
              | (go_at_call 10; (with_reducible refine (HP1.out _ _ _ _ HM1.out (HNIL.out _)).mono ?_); rintro e w6 ⟨rfl, hM6, hT6⟩))
            have hlt1 := hM1.lt
            have hne : wr.heap.size ≠ w3.heap.size := by omega
            have hm2 := HM2.out.turn HM1.out hT6 (fun e => hne e.symm)
            have hEE : Ext W w6 := hT6.ext HEW4.out (fun k hk => by have := HEW.out.sz; omega)
            go_loopw [11] (fun iv wr2 => iv = .int .i64 0 ∧ MemIs wr2 wr.heap.size 65536 Z ∧ MemIs wr2 w3.heap.size 65536 Z ∧ Ext W wr2) (fun _ _ => 0)
            case atStart => exact ⟨rfl, hM6, by rw [← HROT.out]; exact hm2, hEE⟩
            case round =>
              obtain ⟨rfl, hA1, hB1, hEr⟩ := hrel
              go_wp2_with (first
                | (go_at_call 12; (with_reducible refine (HAL.out _ _ hA1).mono ?_); rintro e v1 ⟨A1, c1, rfl, hP1, hF1⟩; have hA2 := hB1.ext hF1; have hEv1 := hEr.trans hF1)
                | (go_at_call 12; (with_reducible refine (HAL.out _ _ hA2).mono ?_); rintro e v2 ⟨A2, c2, rfl, hP2, hF2⟩; have hP12 := hP1.ext hF2)
                | (go_at_call 11; (with_reducible refine (HSA.out _ _ _ _ _ hP12 hP2).mono ?_); rintro e v3 ⟨rfl, hF3⟩; have hA3 := hA1.ext ((hF1.trans hF2).trans hF3); have hA4 := hA2.ext (hF2.trans hF3); have hEv3 := (hEv1.trans hF2).trans hF3)
                | (go_at_call 13; (with_reducible refine (HSZ.out _ _ hA3).mono ?_); rintro e v4 ⟨rfl, hF4⟩; have hA5 := hA4.ext hF4)
                | (go_at_call 13; (with_reducible refine (HSZ.out _ _ hA5).mono ?_); rintro e v5 ⟨rfl, hF5⟩)
                | (go_at_call 8; (with_reducible refine (HWK.out _).mono ?_); rintro e v6 ⟨rfl, hF6⟩))
              go_ret
              exact ⟨rfl, ((hEv3.trans hF4).trans hF5).trans hF6⟩
          · go_wp2_with (first
              | (go_at_call 9; (with_reducible refine (HN1.out _).mono ?_); rintro e w3 ⟨rfl, hM1, hE3⟩; have HEW3 := Lib.hid (HEW.out.trans hE3))
              | (go_at_call 9; (with_reducible refine (HN1.out _).mono ?_); rintro e w4 ⟨rfl, hM2, hE4⟩; have HEW4 := Lib.hid (HEW3.out.trans hE4); have HM1 := Lib.hid (hM1.ext hE4); have HM2 := Lib.hid hM2)
              | (go_at_call 10; (with_reducible refine (HP1.out _ _ _ _ HM1.out (HNIL.out _)).mono ?_); rintro e w6 ⟨rfl, hM6, hT6⟩))
            have hlt1 := hM1.lt
            have hne : wr.heap.size ≠ w3.heap.size := by omega
            have hm2 := HM2.out.turn HM1.out hT6 (fun e => hne e.symm)
            have hEE : Ext W w6 := hT6.ext HEW4.out (fun k hk => by have := HEW.out.sz; omega)
            go_loopw [11] (fun iv wr2 => iv = .int .i64 0 ∧ MemIs wr2 wr.heap.size 65536 Z ∧ MemIs wr2 w3.heap.size 65536 Z ∧ Ext W wr2) (fun _ _ => 0)
            case atStart => exact ⟨rfl, hM6, by rw [← HROT.out]; exact hm2, hEE⟩
            case round =>
              obtain ⟨rfl, hA1, hB1, hEr⟩ := hrel
              go_wp2_with (first
                | (go_at_call 12; (with_reducible refine (HAL.out _ _ hA1).mono ?_); rintro e v1 ⟨A1, c1, rfl, hP1, hF1⟩; have hA2 := hB1.ext hF1; have hEv1 := hEr.trans hF1)
                | (go_at_call 12; (with_reducible refine (HAL.out _ _ hA2).mono ?_); rintro e v2 ⟨A2, c2, rfl, hP2, hF2⟩; have hP12 := hP1.ext hF2)
                | (go_at_call 11; (with_reducible refine (HSA.out _ _ _ _ _ hP12 hP2).mono ?_); rintro e v3 ⟨rfl, hF3⟩; have hA3 := hA1.ext ((hF1.trans hF2).trans hF3); have hA4 := hA2.ext (hF2.trans hF3); have hEv3 := (hEv1.trans hF2).trans hF3)
                | (go_at_call 13; (with_reducible refine (HSZ.out _ _ hA3).mono ?_); rintro e v4 ⟨rfl, hF4⟩; have hA5 := hA4.ext hF4)
                | (go_at_call 13; (with_reducible refine (HSZ.out _ _ hA5).mono ?_); rintro e v5 ⟨rfl, hF5⟩)
                | (go_at_call 8; (with_reducible refine (HWK.out _).mono ?_); rintro e v6 ⟨rfl, hF6⟩))
              go_ret
              exact ⟨rfl, ((hEv3.trans hF4).trans hF5).trans hF6⟩
        · obtain ⟨ga, oa, hAA, hcell⟩ := rd.2.at_ (by omega) (by omega)
          subst hAA
          have HC := Lib.hid hcell
          obtain ⟨i0, hi0, hz0, hz1, hz2⟩ := info_parts infoPr
          clear hcell
          go_wp2_with (first
            | (go_at_call 9; (with_reducible refine (HN1.out _).mono ?_); rintro e w3 ⟨rfl, hM1, hE3⟩; have HEW3 := Lib.hid (HEW.out.trans hE3))
            | (go_at_call 9; (with_reducible refine (HN1.out _).mono ?_); rintro e w4 ⟨rfl, hM2, hE4⟩; have HEW4 := Lib.hid (HEW3.out.trans hE4); have HM1 := Lib.hid (hM1.ext hE4); have HM2 := Lib.hid hM2)
            | (at_builtin; refine wpList_append_on (by simp [Region.wanted, yielded]) _ _ 22 rfl w4.heap.size 30 i0 _ 2 32 Try.underlying22 hi0 hz0 hz1 hz2 rfl (by decide) (.slice none 0 0) 0 [] rfl (World.ownsRow_nil _ _ _ _) ⟨ga, oa, none⟩ k c (prCs l k) rfl (prCs_len l k) (fun j u hj => by
                have hj2 : j < k * 2 := by
                  rcases Nat.lt_or_ge j (k * 2) with h1 | h1
                  · exact h1
                  · rw [List.getElem?_eq_none (by rw [prCs_len]; exact h1)] at hj; cases hj
                rw [prCs_at l k j hj2] at hj
                cases hj
                have := HEW4.out.cellv (HC.out (j / 2) (j % 2) (by omega) (by omega))
                rw [Addr.add_mid]
                rw [show oa + j / 2 * 2 + j % 2 = oa + j by omega] at this
                exact this) (prCs_one l k) (by omega) (by unfold maxLen; omega) (by omega) (Nat.le_refl _) _ rfl ?_; intro gr cap w5 hown5 hg5 _ _; have HX5 := Lib.hid ((Ext.refl w4).grown hg5 (fun k hk => by cases hk)); have HP5 := Lib.hid (World.ownsRow.prd (l := l) HL.out (show w5.ownsRow w4.heap.size 30 2 (.slice (some ⟨gr, 0, none⟩) k cap) k (prCs l k) by have := hown5; rwa [Nat.zero_add, List.nil_append] at this)))
            | (go_at_call 10; (with_reducible refine (HP1.out _ _ _ _ (HM1.out.ext HX5.out) HP5.out).mono ?_); rintro e w6 ⟨rfl, hM6, hT6⟩))
          have hlt1 := hM1.lt
          have hne : wr.heap.size ≠ w3.heap.size := by omega
          have hm1 := HM1.out.ext HX5.out
          have hm2 := (HM2.out.ext HX5.out).turn hm1 hT6 (fun e => hne e.symm)
          have hEE : Ext W w6 := hT6.ext (HEW4.out.trans HX5.out) (fun k hk => by have := HEW.out.sz; omega)
          obtain ⟨g1, hg1⟩ : ∃ g1, g1 = wr.heap.size := ⟨_, rfl⟩
          obtain ⟨g2, hg2⟩ : ∃ g2, g2 = w3.heap.size := ⟨_, rfl⟩
          rw [← hg1] at hM6 hne ⊢
          rw [← hg2] at hm2 hne ⊢
          have HNE := Lib.hid hne
          have HG1 := Lib.hid (show W.heap.size ≤ g1 by rw [hg1]; exact HEW.out.sz)
          have HG2 := Lib.hid (show W.heap.size ≤ g2 by rw [hg2]; exact HEW3.out.sz)
          have HMA := Lib.hid hM6
          have HMB := Lib.hid hm2
          have HEE := Lib.hid hEE
          clear hlt1 hne hm1 hm2 hEE hM6 hT6 hM1 hM2 hE3 hE4 hg5 hown5 hg1 hg2 hE hown hD hf
          go_loopw [11] (fun iv wr2 => ∃ i : Nat, i ≤ k ∧ iv = .int .i64 i ∧ MemIs wr2 g1 65536 Z ∧ MemIs wr2 g2 65536 (putsL [] (rotL l x i)) ∧ Ext W wr2) (fun iv _ => k - (intOf iv).toNat)
          case atStart => exact ⟨0, by omega, rfl, HMA.out, HMB.out, HEE.out⟩
          case round =>
            obtain ⟨i, hi, rfl, hA1, hB1, hEr⟩ := hrel
            by_cases hi2 : i < k
            · have ii : (i : Int) < (k : Int) := by omega
              have ii0 : (0 : Int) ≤ (i : Int) := by omega
              obtain ⟨j, hj⟩ : ∃ j, j = (i + x) % k := ⟨_, rfl⟩
              have hjk : j < k := by rw [hj]; exact Nat.mod_lt _ (by omega)
              have jI : ((i : Int) + (x : Int)) % (k : Int) = (j : Int) := by rw [hj]; push_cast; rfl
              have j0 : (0 : Int) ≤ (j : Int) := by omega
              have j1 : (j : Int) < (k : Int) := by omega
              have kz : ¬ (k : Int) = 0 := by omega
              have kz2 : (k : Int) ≠ 0 := by omega
              have x0 : (0 : Int) ≤ (x : Int) := by omega
              have x1 : (x : Int) < 256 := by omega
              have c0 := hEr.cellv (HC.out j 0 hjk (by omega))
              have c1 := hEr.cellv (HC.out j 1 hjk (by omega))
              obtain ⟨p, hp⟩ : ∃ p, p = l.getD j default := ⟨_, rfl⟩
              replace c0 : wr.cell? ⟨ga, oa + j * 2, none⟩ = some (.string (Bt p.k)) := by rw [hp]; exact c0
              replace c1 : wr.cell? ⟨ga, oa + j * 2 + 1, none⟩ = some (.string (Bt p.v)) := by rw [hp]; exact c1
              have HPP : Hid (l.getD ((i + x) % l.length) default = p) := Lib.hid (by rw [hp, HL.out, hj])
              have hX := (Ext.refl wr).alloc (.cells #[.string (Bt p.k), .string (Bt p.v)] 30)
              have HQ : Hid (PRd (wr.alloc (.cells #[.string (Bt p.k), .string (Bt p.v)] 30)) (some ⟨wr.heap.size, 0, none⟩) 1 [l.getD ((i + x) % l.length) default]) := Lib.hid (by rw [HPP.out]; exact prd_one wr p)
              have HB1 := Lib.hid (hB1.ext hX)
              have HA1 := Lib.hid (hA1.ext hX)
              have HXX := Lib.hid (hEr.trans hX)
              clear hp hj hX hA1 hB1
              go_wp2_with (go_at_call 10; (with_reducible refine (HP2.out _ _ i _ _ hi2 HB1.out HQ.out).mono ?_); rintro e v1 ⟨rfl, hM1, hT1⟩)
              exact ⟨⟨i + 1, by omega, rfl, HA1.out.turn HB1.out hT1 HNE.out, hM1, hT1.ext HXX.out (fun k hk => by have := HG2.out; omega)⟩, by simp [intOf]; omega⟩
            · obtain rfl : i = k := by omega
              have ii : ¬ (i : Int) < (i : Int) := by omega
              rw [HROT.out] at hB1
              go_wp2_with (first
                | (go_at_call 12; (with_reducible refine (HAL.out _ _ hA1).mono ?_); rintro e v1 ⟨A1, c1, rfl, hP1, hF1⟩; have hA2 := hB1.ext hF1; have hEv1 := hEr.trans hF1)
                | (go_at_call 12; (with_reducible refine (HAL.out _ _ hA2).mono ?_); rintro e v2 ⟨A2, c2, rfl, hP2, hF2⟩; have hP12 := hP1.ext hF2)
                | (go_at_call 11; (with_reducible refine (HSA.out _ _ _ _ _ hP12 hP2).mono ?_); rintro e v3 ⟨rfl, hF3⟩; have hA3 := hA1.ext ((hF1.trans hF2).trans hF3); have hA4 := hA2.ext (hF2.trans hF3); have hEv3 := (hEv1.trans hF2).trans hF3)
                | (go_at_call 13; (with_reducible refine (HSZ.out _ _ hA3).mono ?_); rintro e v4 ⟨rfl, hF4⟩; have hA5 := hA4.ext hF4)
                | (go_at_call 13; (with_reducible refine (HSZ.out _ _ hA5).mono ?_); rintro e v5 ⟨rfl, hF5⟩)
                | (go_at_call 8; (with_reducible refine (HWK.out _).mono ?_); rintro e v6 ⟨rfl, hF6⟩))
              go_ret
              exact ⟨rfl, ((hEv3.trans hF4).trans hF5).trans hF6⟩
