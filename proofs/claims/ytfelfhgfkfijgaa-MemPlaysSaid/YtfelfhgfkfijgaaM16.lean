import Derived.Test.YtfelfhgfkfijgaaM15
namespace Go.Proofs.Ytfelfhgfkfijgaa
open Go.RowKit Go.Nb
/-- A script's step. -/
structure Stp where
  d : Int
  q : List Pr
  key : Bs
deriving DecidableEq, Inhabited
/-- Steps in a slice. -/
def SRd (w : World) (A : Option Addr) (n : Nat) (ss : List Stp) : Prop := ss.length = n ∧ (0 < n → ∃ g o, A = some ⟨g, o, none⟩ ∧ ∀ i, i < n → ∃ B cb, w.cell? ⟨g, o + i * 3, none⟩ = some (.int .i64 (ss.getD i default).d) ∧ w.cell? ⟨g, o + i * 3 + 1, none⟩ = some (.slice B (ss.getD i default).q.length cb) ∧ w.cell? ⟨g, o + i * 3 + 2, none⟩ = some (.string (Bt (ss.getD i default).key)) ∧ PRd w B (ss.getD i default).q.length (ss.getD i default).q)
theorem SRd.ext {w w' : World} {A : Option Addr} {n : Nat} {ss : List Stp} (h : SRd w A n ss) (hE : Ext w w') : SRd w' A n ss := by
  refine ⟨h.1, fun hn => ?_⟩
  obtain ⟨g, o, ha, hc⟩ := h.2 hn
  refine ⟨g, o, ha, fun i hi => ?_⟩
  obtain ⟨B, cb, h1, h2, h3, h4⟩ := hc i hi
  exact ⟨B, cb, hE.cellv h1, hE.cellv h2, hE.cellv h3, h4.ext hE⟩
theorem SRd.at_ {w : World} {A : Option Addr} {n : Nat} {ss : List Stp} (h : SRd w A n ss) (i : Nat) (hi : i < n) : ∃ g o B cb, A = some ⟨g, o, none⟩ ∧ w.cell? ⟨g, o + i * 3, none⟩ = some (.int .i64 (ss.getD i default).d) ∧ w.cell? ⟨g, o + i * 3 + 1, none⟩ = some (.slice B (ss.getD i default).q.length cb) ∧ w.cell? ⟨g, o + i * 3 + 2, none⟩ = some (.string (Bt (ss.getD i default).key)) ∧ PRd w B (ss.getD i default).q.length (ss.getD i default).q := by
  obtain ⟨g, o, ha, hc⟩ := h.2 (by omega)
  obtain ⟨B, cb, h1, h2, h3, h4⟩ := hc i hi
  exact ⟨g, o, B, cb, ha, h1, h2, h3, h4⟩
/-- What steps weigh, as the machine reckons it. -/
def wPz (z : Int) : List Pr → Int
  | [] => z
  | p :: l => wPz (wrap64 (wrap64 (wrap64 (z + 1) + (p.k.length : Int)) + (p.v.length : Int))) l
def wSz (z : Int) : List Stp → Int
  | [] => z
  | s :: r => wSz (wPz (wrap64 (z + (s.key.length : Int))) s.q) r
/-- More than a statement plays. -/
def heavyS (ss : List Stp) : Bool := (ss.take 200).any (fun s => decide (100 < s.q.length)) || (decide (100 < ss.length) || decide (32768 < wSz 0 (ss.take 200)))
theorem heavy_light {ss : List Stp} (h : heavyS ss = false) : ss.length ≤ 100 ∧ ∀ s ∈ ss, s.q.length ≤ 100 := by
  unfold heavyS at h
  simp only [Bool.or_eq_false_iff, decide_eq_false_iff_not] at h
  refine ⟨by omega, fun s hs => ?_⟩
  have h1 := h.1
  rw [List.take_of_length_le (by omega), List.any_eq_false] at h1
  have := h1 s hs
  simpa using this
theorem drop_consS {l : List Stp} {k : Nat} (h : k < l.length) : l.drop k = l.getD k default :: l.drop (k + 1) := by
  rw [List.drop_eq_getElem_cons h]
  congr 1
  rw [List.getD_eq_getElem?_getD, List.getElem?_eq_getElem h]; rfl
set_option maxHeartbeats 1000000 in
set_option maxRecDepth 100000 in
theorem heavy_any {w : World} {A : Option Addr} {n c : Nat} {ss : List Stp} (h : SRd w A n ss) (hn : n ≤ maxLen) : Calls Try.prog 7 #[.slice A n c] w fun e w' => e = .returned (.bool (heavyS ss)) ∧ Ext w w' := by
  have HL := Lib.hid h.1
  unfold maxLen at hn
  obtain ⟨T, hT⟩ : ∃ T, T = ss.take 200 := ⟨_, rfl⟩
  have hTl : T.length = min 200 n := by rw [hT, List.length_take, h.1]
  obtain ⟨m, hm⟩ : ∃ m, m = min 200 n := ⟨_, rfl⟩
  rw [← hm] at hTl
  have HTL := Lib.hid hTl
  have HM := Lib.hid hm
  have hdef : heavyS ss = (T.any (fun s => decide (100 < s.q.length)) || (decide (100 < n) || decide (32768 < wSz 0 T))) := by unfold heavyS; rw [← hT, h.1]
  have HDEF := Lib.hid hdef
  have hat : ∀ k, k < m → ss.getD k default = T.getD k default := fun k hk => by
    rw [hT, List.getD_eq_getElem?_getD, List.getD_eq_getElem?_getD, List.getElem?_take, if_pos (by omega)]
  have HAT := Lib.hid hat
  clear hT hTl hm hdef hat
  go_enter Try.func7, Try.ntmps7
  go_wp2
  go_loopw [3, 4] (fun sv iv wr => ∃ (k : Nat) (z : Int), k ≤ m ∧ iv = .int .i64 k ∧ sv = .int .i64 z ∧ Hid (wSz z (T.drop k) = wSz 0 T) ∧ Hid ((T.take k).any (fun s => decide (100 < s.q.length)) = false) ∧ Ext w wr) (fun _ iv _ => m - (intOf iv).toNat)
  case atStart => exact ⟨0, 0, by omega, rfl, rfl, Lib.hid rfl, Lib.hid rfl, Ext.refl w⟩
  case round =>
    obtain ⟨k, z, hk, rfl, rfl, hs, hbig, hE⟩ := hrel
    by_cases hk2 : k < m
    · have hmm := HM.out
      have kk : (k : Int) < (n : Int) := by omega
      have kk0 : (0 : Int) ≤ (k : Int) := by omega
      have kk3 : decide ((k : Int) < 200) = true := by simp; omega
      have kk4 : decide ((k : Int) < (n : Int)) = true := by simp; omega
      obtain ⟨g, o, B, cb, rfl, c0, c1, c2, hB⟩ := (h.ext hE).at_ k (by omega)
      have hdr := drop_consS (l := T) (k := k) (by rw [HTL.out]; exact hk2)
      rw [HAT.out k hk2] at c0 c1 c2 hB
      obtain ⟨x, hx⟩ : ∃ x, x = T.getD k default := ⟨_, rfl⟩
      rw [← hx] at c0 c1 c2 hB hdr
      have htk : T.take (k + 1) = T.take k ++ [x] := by
        rw [List.take_succ_eq_append_getElem (by rw [HTL.out]; exact hk2), hx, List.getD_eq_getElem?_getD, List.getElem?_eq_getElem (by rw [HTL.out]; exact hk2)]; rfl
      have hmem : x ∈ T := by
        rw [hx, List.getD_eq_getElem?_getD, List.getElem?_eq_getElem (by rw [HTL.out]; exact hk2)]
        exact List.getElem_mem _
      have HDR := Lib.hid hdr
      have HTK := Lib.hid htk
      have HME := Lib.hid hmem
      clear hdr htk hx hmem hmm
      by_cases hq : 100 < x.q.length
      · have t1 : decide ((100 : Int) < (x.q.length : Int)) = true := by simp; omega
        have hb : heavyS ss = true := by
          rw [HDEF.out]
          have : T.any (fun s => decide (100 < s.q.length)) = true := by rw [List.any_eq_true]; exact ⟨x, HME.out, by simpa using hq⟩
          rw [this]; rfl
        have HB := Lib.hid hb
        clear hb hq
        go_wp2
        go_ret
        exact ⟨by rw [HB.out]; rfl, hE⟩
      · have t1 : decide ((100 : Int) < (x.q.length : Int)) = false := by simp; omega
        obtain ⟨ql, hql⟩ : ∃ ql, ql = x.q.length := ⟨_, rfl⟩
        have HQL := Lib.hid hql
        rw [← hql] at c1 t1 hB hq
        clear hql
        go_wp2
        go_loopw [3, 5] (fun sv jv wr2 => ∃ (j : Nat) (y : Int), j ≤ ql ∧ jv = .int .i64 j ∧ sv = .int .i64 y ∧ Hid (wPz y (x.q.drop j) = wPz (wrap64 (z + (x.key.length : Int))) x.q) ∧ Ext wr wr2) (fun _ jv _ => ql - (intOf jv).toNat)
        case atStart => exact ⟨0, _, by omega, rfl, rfl, Lib.hid rfl, Ext.refl wr⟩
        case round =>
          obtain ⟨j, y, hj, rfl, rfl, hy, hE2⟩ := hrel
          by_cases hj2 : j < ql
          · have jj : (j : Int) < (ql : Int) := by omega
            have jj0 : (0 : Int) ≤ (j : Int) := by omega
            obtain ⟨gq, oq, rfl, b0, b1⟩ := (hB.ext hE2).at_ j hj2
            have d1 := hE2.cellv c1
            have hdq : wPz y (x.q.drop j) = wPz (wrap64 (wrap64 (wrap64 (y + 1) + ((x.q.getD j default).k.length : Int)) + ((x.q.getD j default).v.length : Int))) (x.q.drop (j + 1)) := by
              rw [drop_cons (by rw [← HQL.out]; exact hj2), wPz]
            obtain ⟨p, hp⟩ : ∃ p, p = x.q.getD j default := ⟨_, rfl⟩
            rw [← hp] at b0 b1 hdq
            have HNX := Lib.hid (hdq.symm.trans hy.out)
            have z1 : ((Bt p.k).size : Int) = (p.k.length : Int) := rfl
            have z2 : ((Bt p.v).size : Int) = (p.v.length : Int) := rfl
            clear hp hdq hy
            go_wp2
            go_quiet (fail)
            go_wp2
            exact ⟨⟨j + 1, _, by omega, rfl, rfl, HNX, hE2.drewN _⟩, by simp [intOf]; omega⟩
          · obtain rfl : j = ql := by omega
            have jj : ¬ (j : Int) < (j : Int) := by omega
            have d1 := hE2.cellv c1
            have hye : y = wPz (wrap64 (z + (x.key.length : Int))) x.q := by
              have := hy.out
              rw [List.drop_of_length_le (by rw [← HQL.out]; omega)] at this
              exact this
            have HNX : Hid (wSz y (T.drop (k + 1)) = wSz 0 T) := Lib.hid (by rw [← hs.out, HDR.out, wSz, hye])
            have HNB : Hid ((T.take (k + 1)).any (fun s => decide (100 < s.q.length)) = false) := Lib.hid (by
              rw [HTK.out, List.any_append, hbig.out]
              have : ¬ 100 < x.q.length := by rw [← HQL.out]; omega
              simp [this])
            clear hye hy
            go_wp2
            exact ⟨⟨k + 1, y, by omega, rfl, rfl, HNX, HNB, hE.trans hE2⟩, by simp [intOf]; omega⟩
    · obtain rfl : k = m := by omega
      have hmm := HM.out
      have hz : wSz 0 T = z := by
        rw [← hs.out, List.drop_of_length_le (by rw [HTL.out]; omega)]; rfl
      have hb1 : T.any (fun s => decide (100 < s.q.length)) = false := by
        have := hbig.out
        rwa [List.take_of_length_le (by rw [HTL.out]; omega)] at this
      have hres : heavyS ss = (decide (100 < n) || decide (32768 < z)) := by rw [HDEF.out, hb1, hz, Bool.false_or]
      have HRES := Lib.hid hres
      clear hz hb1 hres
      by_cases hn1 : k < n
      · have kk4 : decide ((k : Int) < (n : Int)) = true := by simp; omega
        have kk3 : decide ((k : Int) < 200) = false := by simp; omega
        have kk : (k : Int) < (n : Int) := by omega
        have k2 : ¬ (k : Int) < 200 := by omega
        have kk5 : decide ((100 : Int) < (n : Int)) = true := by simp; omega
        have hres2 : heavyS ss = true := by rw [HRES.out]; simp; omega
        have HR2 := Lib.hid hres2
        clear hmm hn1 hres2
        go_wp2
        go_ret
        exact ⟨by rw [HR2.out]; rfl, hE⟩
      · have kk4 : decide ((k : Int) < (n : Int)) = false := by simp; omega
        have kk : ¬ (k : Int) < (n : Int) := by omega
        by_cases h100 : 100 < n
        · have kk5 : decide ((100 : Int) < (n : Int)) = true := by simp; omega
          have hres2 : heavyS ss = true := by rw [HRES.out]; simp; omega
          have HR2 := Lib.hid hres2
          clear hmm hn1 hres2 h100
          go_wp2
          go_ret
          exact ⟨by rw [HR2.out]; rfl, hE⟩
        · have kk5 : decide ((100 : Int) < (n : Int)) = false := by simp; omega
          have hres2 : heavyS ss = decide (32768 < z) := by
            rw [HRES.out]
            have : decide (100 < n) = false := by simp; omega
            rw [this, Bool.false_or]
          have HR2 := Lib.hid hres2
          clear hmm hn1 hres2 h100
          go_wp2
          go_ret
          exact ⟨ret_bool (HR2.out.symm ▸ rfl), hE⟩
