import Derived.Test.YtfelfhgfkfijgaaPre5
import Derived.Test.YtfelfhgfkfijgaaNb
import Derived.Deep.RegionHeld3
import Derived.Laws.StructEq
import Derived.Deep.AppendLies
import Derived.Sort.Walk0
namespace Go.Proofs.Ytfelfhgfkfijgaa
open Go.RowKit Go.Nb
/-- The text of some bytes; a text's bytes. -/
def Bt (l : Bs) : ByteArray := ⟨l.toArray⟩
def Ls (s : ByteArray) : Bs := s.data.toList
theorem Ls_Bt (l : Bs) : Ls (Bt l) = l := rfl
theorem Bt_Ls (s : ByteArray) : Bt (Ls s) = s := rfl
theorem Bt_size (l : Bs) : (Bt l).size = l.length := rfl
theorem Ls_length (s : ByteArray) : (Ls s).length = s.size := rfl
theorem Bt_append (a b : Bs) : Bt a ++ Bt b = Bt (a ++ b) := by
  unfold Bt
  apply ByteArray.ext
  simp
theorem Ls_append (s t : ByteArray) : Ls (s ++ t) = Ls s ++ Ls t := by unfold Ls; simp
theorem Ls_inj {s t : ByteArray} (h : Ls s = Ls t) : s = t := by rw [← Bt_Ls s, ← Bt_Ls t, h]
theorem Ls_extract (s : ByteArray) (a b : Nat) : Ls (s.extract a b) = ((Ls s).take b).drop a := by
  unfold Ls
  simp [List.extract_eq_take_drop, List.drop_take]
theorem Bt_extract (l : Bs) (a b : Nat) : (Bt l).extract a b = Bt ((l.take b).drop a) := Ls_inj (by rw [Ls_extract]; rfl)
theorem toList_Ls (s : ByteArray) : s.toList = Ls s := by rw [ByteArray.toList_eq]; rfl
theorem add_str (s t : ByteArray) (h : s.size + t.size ≤ 1048576) (w : World) : (Op.stringOp .add s t).run Try.prog w = .ok (.string (s ++ t)) w := by
  have h : ¬ (((s.size + t.size : Nat) : Int) > IntKind.i64.max) := by
    have : IntKind.i64.max = 9223372036854775807 := rfl
    rw [this]; omega
  unfold Op.stringOp
  simp only [if_neg h]
  rfl
theorem add_Bt (a b : Bs) (h : a.length + b.length ≤ 1048576) (w : World) : (Op.stringOp .add (Bt a) (Bt b)).run Try.prog w = .ok (.string (Bt (a ++ b))) w := by
  rw [add_str (Bt a) (Bt b) h, Bt_append]
theorem u64_lt {d : Nat} (h : d < 18446744073709551616) : IntKind.u64.wrap (d : Int) = d := IntWalk.u64_in d (by omega)
theorem u64_in {d g : Nat} (h : Hid (d < 256 ^ g)) (hg : g ≤ 8 := by omega) : IntKind.u64.wrap (d : Int) = d := by
  have h1 := h.out
  have h2 : 256 ^ g ≤ (256 : Nat) ^ 8 := Nat.pow_le_pow_right (by omega) hg
  rw [pow8] at h2
  exact u64_lt (by omega)
/-- A pair. -/
structure Pr where
  k : Bs
  v : Bs
deriving DecidableEq, Inhabited
def Pr.val (p : Pr) : Value := .agg #[.string (Bt p.k), .string (Bt p.v)]
theorem slice_str (t : Bs) (n : Nat) (hn : n ≤ t.length) (w : World) : (Instr.sliceAt 9 (.string (Bt t)) (some (.int .i64 (n : Int))) none none).run Try.prog w = .ok (.string (Bt (t.drop n))) w := by
  rw [run_sliceAt_string (P := Try.prog) w 9 _ _ _ _ Try.underlying9]
  have hz : (Bt t).size = t.length := rfl
  have e1 : (Bt t).extract n t.length = Bt (t.drop n) := by rw [Bt_extract, List.take_length]
  simp [go_sem, hz, e1]
  intro h
  omega
theorem slice_str2 (t : Bs) (n : Nat) (hn : n ≤ t.length) (w : World) : (Instr.slice 9 (.string (Bt t)) (some (.int .i64 (n : Int))) none none).run Try.prog w = .ok (.string (Bt (t.drop n))) w := by
  rw [← run_sliceAt_string (P := Try.prog) w 9 _ _ _ _ Try.underlying9]
  exact slice_str t n hn w
def prF (l : List Pr) (i j : Nat) : Value := .string (Bt (if j = 0 then (l.getD i default).k else (l.getD i default).v))
/-- Pairs that lie in a slice. -/
def PRd (w : World) (A : Option Addr) (n : Nat) (l : List Pr) : Prop := l.length = n ∧ FRd w A n 2 (prF l)
theorem PRd.ext {w w' : World} {A : Option Addr} {n : Nat} {l : List Pr} (h : PRd w A n l) (e : Ext w w') : PRd w' A n l := ⟨h.1, h.2.ext e⟩
theorem PRd.at_ {w : World} {A : Option Addr} {n : Nat} {l : List Pr} (h : PRd w A n l) (k : Nat) (hk : k < n) : ∃ g o, A = some ⟨g, o, none⟩ ∧ w.cell? ⟨g, o + k * 2, none⟩ = some (.string (Bt (l.getD k default).k)) ∧ w.cell? ⟨g, o + k * 2 + 1, none⟩ = some (.string (Bt (l.getD k default).v)) := by
  obtain ⟨g, o, hA, hc⟩ := h.2.at_ (by omega) (by omega)
  refine ⟨g, o, hA, ?_, ?_⟩
  · have := hc k 0 hk (by omega)
    simpa [prF] using this
  · have := hc k 1 hk (by omega)
    simpa [prF] using this
theorem toList_Bt (a : Bs) : (Bt a).toList = a := by rw [toList_Ls]; rfl
theorem drop_cons {l : List Pr} {k : Nat} (h : k < l.length) : l.drop k = l.getD k default :: l.drop (k + 1) := by
  rw [List.drop_eq_getElem_cons h]
  congr 1
  rw [List.getD_eq_getElem?_getD, List.getElem?_eq_getElem h]; rfl
/-- How many pairs at the front are below a key. -/
def seekL (key : Bs) : List Pr → Nat
  | [] => 0
  | p :: l => if Op.bytesLess p.k key = true then seekL key l + 1 else 0
set_option maxRecDepth 100000 in
theorem seek_ref {w : World} {A : Option Addr} {n c : Nat} {l : List Pr} (h : PRd w A n l) (hn : n ≤ 1048576) (key : Bs) : Calls Try.prog 18 #[.slice A n c, .string (Bt key)] w fun e w' => e = .returned (.int .i64 (seekL key l)) ∧ Ext w w' := by
  have HL := Lib.hid h.1
  go_enter Try.func18, Try.ntmps18
  go_wp2
  go_loopw [5] (fun iv wr => ∃ k : Nat, k ≤ n ∧ iv = .int .i64 k ∧ Hid (seekL key l = k + seekL key (l.drop k)) ∧ Ext w wr) (fun iv _ => n - (intOf iv).toNat)
  case atStart => exact ⟨0, by omega, rfl, Lib.hid (by simp), Ext.refl w⟩
  case round =>
    obtain ⟨k, hk, rfl, hs, hE⟩ := hrel
    have hT := toList_Bt
    by_cases hk2 : k < n
    · have kk : (k : Int) < (n : Int) := by omega
      have tk : decide ((k : Int) < (n : Int)) = true := by simp; omega
      have kk0 : (0 : Int) ≤ (k : Int) := by omega
      obtain ⟨g, o, rfl, c0, c1⟩ := (h.ext hE).at_ k hk2
      have hd : l.drop k = l.getD k default :: l.drop (k + 1) := drop_cons (by rw [HL.out]; exact hk2)
      obtain ⟨p, hp⟩ : ∃ p, p = l.getD k default := ⟨_, rfl⟩
      rw [← hp] at c0 c1 hd
      obtain ⟨x, hx⟩ : ∃ x, x = p.k := ⟨_, rfl⟩
      rw [← hx] at c0
      cases hlt : Op.bytesLess x key
      · have hs2 : seekL key l = k := by rw [hs.out, hd, seekL, ← hx, hlt, if_neg (by simp)]; rfl
        have HS2 := Lib.hid hs2
        clear hs2 hd hp hx
        go_wp2
        go_ret
        exact ⟨by rw [HS2.out]; rfl, hE⟩
      · have hs2 : seekL key l = k + 1 + seekL key (l.drop (k + 1)) := by rw [hs.out, hd, seekL, ← hx, hlt, if_pos rfl]; omega
        have HS2 := Lib.hid hs2
        clear hs2 hd hp hx
        go_wp2
        exact ⟨⟨k + 1, by omega, rfl, HS2, hE⟩, by simp [intOf]; omega⟩
    · have kk : ¬ (k : Int) < (n : Int) := by omega
      have tk : decide ((k : Int) < (n : Int)) = false := by simp; omega
      have hs2 : seekL key l = k := by rw [hs.out, List.drop_of_length_le (by rw [HL.out]; omega)]; rfl
      have HS2 := Lib.hid hs2
      clear hs2
      go_wp2
      go_ret
      exact ⟨by rw [HS2.out]; rfl, hE⟩

theorem eq36 (x y u v : Bs) (w : World) : (Op.equalIn 10000 30 (.agg #[.string (Bt x), .string (Bt y)]) (.agg #[.string (Bt u), .string (Bt v)])).run Try.prog w = .ok (x == u && y == v) w := by
  have hf : Try.prog.underlying 30 = some (.struct (Try.prog.fieldsOf 30)) := by kernel_rfl
  have hp : Try.prog.stoodInHeld 30 = false := by kernel_rfl
  have u9 := Try.underlying9
  have a9 := Try.isAgg9
  have z9 := Try.sizeOf9
  have hT := toList_Bt
  rw [show (10000 : Nat) = 9999 + 1 from rfl, run_equalIn_agg w 9999 30 _ _ hf hp]
  simp only [Program.fieldsOf, Try.underlying30]
  go_simp
  by_cases h1 : x = u <;> by_cases h2 : y = v <;> simp [h1, h2]
theorem list_ext_D {a b : List Pr} (hl : a.length = b.length) (h : ∀ i, i < a.length → a.getD i default = b.getD i default) : a = b := by
  refine List.ext_getElem hl (fun i h1 h2 => ?_)
  have := h i h1
  rw [List.getD_eq_getElem?_getD, List.getD_eq_getElem?_getD, List.getElem?_eq_getElem h1, List.getElem?_eq_getElem h2] at this
  exact this
set_option maxRecDepth 100000 in
theorem same_ref {w : World} {A B : Option Addr} {n c m c' : Nat} {a b : List Pr} (ha : PRd w A n a) (hb : PRd w B m b) (hn : n ≤ 1048576) (hm : m ≤ 1048576) : Calls Try.prog 11 #[.slice A n c, .slice B m c'] w fun e w' => e = .returned (.bool (decide (a = b))) ∧ Ext w w' := by
  have HA := Lib.hid ha.1
  have HB := Lib.hid hb.1
  by_cases hnm : n = m
  · subst hnm
    have t1 : ((n : Int) != (n : Int)) = false := by simp
    go_enter Try.func11, Try.ntmps11
    go_wp2
    go_loopw [5] (fun iv wr => ∃ k : Nat, k ≤ n ∧ iv = .int .i64 k ∧ Hid (∀ i, i < k → a.getD i default = b.getD i default) ∧ Ext w wr) (fun iv _ => n - (intOf iv).toNat)
    case atStart => exact ⟨0, by omega, rfl, Lib.hid (fun i hi => by omega), Ext.refl w⟩
    case round =>
      obtain ⟨k, hk, rfl, hs, hE⟩ := hrel
      have hT := toList_Bt
      by_cases hk2 : k < n
      · have kk : (k : Int) < (n : Int) := by omega
        have kk0 : (0 : Int) ≤ (k : Int) := by omega
        obtain ⟨g, o, rfl, c0, c1⟩ := (ha.ext hE).at_ k hk2
        obtain ⟨g2, o2, rfl, d0, d1⟩ := (hb.ext hE).at_ k hk2
        obtain ⟨p, hp⟩ : ∃ p, p = a.getD k default := ⟨_, rfl⟩
        obtain ⟨q, hq⟩ : ∃ p, p = b.getD k default := ⟨_, rfl⟩
        rw [← hp] at c0 c1
        rw [← hq] at d0 d1
        have hE36 := eq36 p.k p.v q.k q.v
        have hpq : (p.k == q.k && p.v == q.v) = decide (p = q) := by
          obtain ⟨pk, pv⟩ := p
          obtain ⟨qk, qv⟩ := q
          by_cases h1 : pk = qk <;> by_cases h2 : pv = qv <;> simp [h1, h2]
        rw [hpq] at hE36
        have HP := Lib.hid hp
        have HQ := Lib.hid hq
        by_cases he : p = q
        · have td : decide (p = q) = true := by simpa using he
          rw [td] at hE36
          have hs2 : ∀ i, i < k + 1 → a.getD i default = b.getD i default := fun i hi => by
            by_cases hik : i = k
            · rw [hik, ← hp, ← hq, he]
            · exact hs.out i (by omega)
          have HS2 := Lib.hid hs2
          clear hs2 td he hpq hp hq
          go_wp2
          go_quiet (fail)
          go_wp2
          exact ⟨⟨k + 1, by omega, rfl, HS2, hE.drewN _⟩, by simp [intOf]; omega⟩
        · have td : decide (p = q) = false := by simpa using he
          rw [td] at hE36
          have hs2 : decide (a = b) = false := by
            simp only [decide_eq_false_iff_not]
            intro h
            apply he
            rw [hp, hq, h]
          have HS2 := Lib.hid hs2
          clear hs2 td he hpq hp hq
          go_wp2
          go_quiet (fail)
          go_wp2
          go_ret
          exact ⟨ret_bool HS2.out.symm, hE.drewN _⟩
      · have kk : ¬ (k : Int) < (n : Int) := by omega
        have hs2 : decide (a = b) = true := by
          simp only [decide_eq_true_eq]
          exact list_ext_D (HA.out.trans HB.out.symm) (fun i hi => hs.out i (by rw [HA.out] at hi; omega))
        have HS2 := Lib.hid hs2
        clear hs2
        go_wp2
        go_ret
        exact ⟨ret_bool HS2.out.symm, hE⟩
  · have t1 : ((n : Int) != (m : Int)) = true := by simp; omega
    go_enter Try.func11, Try.ntmps11
    go_wp2
    go_ret
    refine ⟨ret_bool ?_, Ext.refl w⟩
    symm
    simp
    intro h
    rw [h] at HA
    exact hnm (HA.out.symm.trans HB.out)

/-- Pairs' cells, one behind the other. -/
def prCs (l : List Pr) (n : Nat) : List Value := (List.range (n * 2)).map fun j => prF l (j / 2) (j % 2)
theorem prCs_len (l : List Pr) (n : Nat) : (prCs l n).length = n * 2 := by simp [prCs]
theorem prCs_at (l : List Pr) (n j : Nat) (hj : j < n * 2) : (prCs l n)[j]? = some (prF l (j / 2) (j % 2)) := by simp [prCs, hj]
theorem prCs_one (l : List Pr) (n : Nat) : ∀ u ∈ prCs l n, u.oneCell' = true := by
  intro u hu
  simp only [prCs, List.mem_map] at hu
  obtain ⟨j, _, rfl⟩ := hu
  rfl
theorem infoPr : (Try.prog.info? 30).map (fun i => (i.zero, i.size, i.bytes)) = some (some (.agg #[.string ⟨#[]⟩, .string ⟨#[]⟩]), 2, 32) := by kernel_rfl
theorem World.ownsRow.prd {w : World} {base n cap : Nat} {A : Option Addr} {l : List Pr} (hl : l.length = n) (h : w.ownsRow base 30 2 (.slice A n cap) n (prCs l n)) : PRd w A n l := by
  refine ⟨hl, fun hn => ?_⟩
  rcases h.2 with ⟨_, h0⟩ | ⟨g, cp, cur, hv, _⟩
  · omega
  · injection hv with h1
    subst h1
    refine ⟨g, 0, rfl, fun i j hi hj => ?_⟩
    have := h.cells (g := g) rfl (i * 2 + j) (prF l i j) (by
      rw [prCs_at l n _ (by omega), show (i * 2 + j) / 2 = i by omega, show (i * 2 + j) % 2 = j by omega])
    rw [Addr.add_mid] at this
    rw [show 0 + i * 2 + j = 0 + (i * 2 + j) by omega]
    exact this
theorem less_trans {a b c : Bs} (h : Op.bytesLess a b = true) (k : Op.bytesLess b c = true) : Op.bytesLess a c = true := by
  rw [bytesLess_eq, decide_eq_true_eq] at *
  exact List.lt_trans h k
theorem less_irrefl (a : Bs) : Op.bytesLess a a = false := by
  rw [bytesLess_eq, decide_eq_false_iff_not]
  exact List.lt_irrefl a
/-- Do keys rise? -/
def upB : List Pr → Bool
  | [] => true
  | [_] => true
  | p :: q :: l => Op.bytesLess p.k q.k && upB (q :: l)
theorem upB_step {l : List Pr} {k : Nat} (h : k + 1 < l.length) : upB (l.drop k) = (Op.bytesLess (l.getD k default).k (l.getD (k + 1) default).k && upB (l.drop (k + 1))) := by
  rw [drop_cons (by omega), drop_cons h]
  rfl
theorem upB_last {l : List Pr} {k : Nat} (h : l.length ≤ k + 1) : upB (l.drop k) = true := by
  cases hd : l.drop k with
  | nil => rfl
  | cons p r =>
    have : (l.drop k).length ≤ 1 := by rw [List.length_drop]; omega
    rw [hd] at this
    cases r with
    | nil => rfl
    | cons q r => simp at this
theorem up_next {l : List Pr} (h : upB l = true) : ∀ i, i + 1 < l.length → Op.bytesLess (l.getD i default).k (l.getD (i + 1) default).k = true := by
  induction l with
  | nil => intro i hi; simp at hi
  | cons p r ih =>
    cases r with
    | nil => intro i hi; simp at hi
    | cons q m =>
      simp only [upB, Bool.and_eq_true] at h
      intro i hi
      cases i with
      | zero => exact h.1
      | succ i => exact ih h.2 i (by simpa using hi)
theorem up_lt {l : List Pr} (h : upB l = true) (i : Nat) : ∀ d, i + d + 1 < l.length → Op.bytesLess (l.getD i default).k (l.getD (i + d + 1) default).k = true
  | 0, hi => up_next h i hi
  | d + 1, hi => less_trans (up_lt h i d (by omega)) (up_next h (i + d + 1) hi)
theorem up_less {l : List Pr} (h : upB l = true) {i j : Nat} (hij : i < j) (hj : j < l.length) : Op.bytesLess (l.getD i default).k (l.getD j default).k = true := by
  obtain ⟨d, rfl⟩ : ∃ d, j = i + d + 1 := ⟨j - i - 1, by omega⟩
  exact up_lt h i d hj
theorem less_mono {l : List Pr} (h : upB l = true) {key : Bs} {i j : Nat} (hij : i ≤ j) (hj : j < l.length) (hk : Op.bytesLess (l.getD j default).k key = true) : Op.bytesLess (l.getD i default).k key = true := by
  rcases Nat.lt_or_ge i j with h1 | h1
  · exact less_trans (up_less h h1 hj) hk
  · have : i = j := by omega
    rw [this]; exact hk
theorem seekL_le (key : Bs) : ∀ l, seekL key l ≤ l.length
  | [] => Nat.le_refl _
  | p :: l => by
    have := seekL_le key l
    simp only [seekL, List.length_cons]
    split <;> omega
theorem seekL_lt (key : Bs) : ∀ l i, i < seekL key l → Op.bytesLess (l.getD i default).k key = true
  | [], i, h => by simp [seekL] at h
  | p :: l, i, h => by
    simp only [seekL] at h
    split at h
    · next hp =>
      cases i with
      | zero => exact hp
      | succ i => exact seekL_lt key l i (by omega)
    · omega
theorem seekL_at (key : Bs) : ∀ l, seekL key l < l.length → Op.bytesLess (l.getD (seekL key l) default).k key = false
  | [], h => by simp [seekL] at h
  | p :: l, h => by
    simp only [seekL] at h ⊢
    split at h
    · next hp =>
      rw [if_pos hp]
      exact seekL_at key l (by simpa using h)
    · next hp =>
      rw [if_neg hp]
      simpa using hp
/-- Where all ahead are below a key, and what stands there is not. -/
theorem seekL_of {key : Bs} {l : List Pr} {j : Nat} (hj : j ≤ l.length) (h1 : ∀ i, i < j → Op.bytesLess (l.getD i default).k key = true) (h2 : j < l.length → Op.bytesLess (l.getD j default).k key = false) : seekL key l = j := by
  have hle := seekL_le key l
  rcases Nat.lt_trichotomy (seekL key l) j with h | h | h
  · have a := seekL_at key l (by omega)
    rw [h1 _ h] at a; cases a
  · exact h
  · have a := seekL_lt key l j h
    rw [h2 (by omega)] at a; cases a
theorem prCs_snoc (l : List Pr) (p : Pr) : prCs (l ++ [p]) (l.length + 1) = prCs l l.length ++ [.string (Bt p.k), .string (Bt p.v)] := by
  unfold prCs
  rw [show (l.length + 1) * 2 = l.length * 2 + 1 + 1 by omega, List.range_succ, List.range_succ]
  simp only [List.map_append, List.map_cons, List.map_nil, List.append_assoc]
  congr 1
  · apply List.map_congr_left
    intro j hj
    have hj := List.mem_range.mp hj
    unfold prF
    rw [List.getD_eq_getElem?_getD, List.getD_eq_getElem?_getD, List.getElem?_append_left (by omega)]
  · have e1 : l.length * 2 / 2 = l.length := by omega
    have e2 : (l.length * 2 + 1) / 2 = l.length := by omega
    have e3 : l.length * 2 % 2 = 0 := by omega
    have e4 : (l.length * 2 + 1) % 2 = 1 := by omega
    rw [e1, e2, e3, e4]
    unfold prF
    simp
/-- Where other blocks turn a row of one's own stays. -/
theorem _root_.Go.World.ownsRow.turn {w w' : World} {base : Nat} {e : TypeId} {size : Nat} {v : Value} {n : Nat} {xs : List Value} {H : Nat → Prop} (h : w.ownsRow base e size v n xs) (hT : Turn H w w') (hH : ∀ k, v.ownBlock = some k → ¬ H k) : w'.ownsRow base e size v n xs := by
  refine ⟨h.1, ?_⟩
  rcases h.2 with hn | ⟨g, cap, cur, hv, hb, hg, rest⟩
  · exact .inl hn
  · refine .inr ⟨g, cap, cur, hv, hb, ?_, rest⟩
    have hlt : g < w.heap.size := by
      rcases Nat.lt_or_ge g w.heap.size with h1 | h1
      · exact h1
      · rw [Array.getElem?_eq_none h1] at hg; cases hg
    rw [hT.block g hlt (hH g (by rw [hv]; rfl))]
    exact hg
/-- What has grown, but for one row, has turned in that row alone. -/
theorem turn_grown {w w' : World} {row : Option Nat} (h : w.grownBy w' row) : Turn (fun k => row = some k) w w' := ⟨h.os, h.tape, h.output, h.size, fun k hk hn => h.block k hk (fun e => hn e.symm)⟩
theorem World.ownsRow.cap_ {w : World} {base : Nat} {e : TypeId} {size n c : Nat} {A : Option Addr} {xs : List Value} (h : w.ownsRow base e size (.slice A n c) n xs) : n ≤ c := by
  rcases h.2 with ⟨_, h1⟩ | ⟨_, cp, _, hv, _, _, h1, _⟩
  · omega
  · injection hv with _ _ h2
    omega
theorem two_str (a b : ByteArray) : ∀ u ∈ [Value.string a, Value.string b], u.oneCell' = true := by
  intro u hu
  rcases List.mem_cons.mp hu with rfl | hu
  · rfl
  · rcases List.mem_cons.mp hu with rfl | hu
    · rfl
    · cases hu
/-- A pair's own block. -/
def pbC (k v : ByteArray) (i : Nat) : Value := if i = 0 then .string k else .string v
def PBox (w : World) (b : Nat) (k v : ByteArray) : Prop := CellsT w 30 b 2 (pbC k v)
section
variable {w w' : World} {b : Nat} {k v : ByteArray}
theorem PBox.ext (h : PBox w b k v) (hE : Ext w w') : PBox w' b k v := CellsT.ext h hE
theorem PBox.c0 (h : PBox w b k v) : w.cell? ⟨b, 0, none⟩ = some (.string k) := CellsT.cell h 0 (by omega)
theorem PBox.c1 (h : PBox w b k v) : w.cell? ⟨b, 1, none⟩ = some (.string v) := CellsT.cell h 1 (by omega)
theorem PBox.f0 (h : PBox w b k v) : w.frozen? ⟨b, 0, none⟩ = false := CellsT.frozen h 0 (by omega)
theorem PBox.new (w : World) (k v : ByteArray) : PBox (w.alloc (.cells #[.string k, .string v] 30)) w.heap.size k v := CellsT.of_blk (Blk.new w 30 _) (by simp) (fun j hj => by
  rcases (by omega : j = 0 ∨ j = 1) with rfl | rfl <;> rfl)
theorem PBox.setK (h : PBox w b k v) (u : ByteArray) : PBox (w.setCell ⟨b, 0, none⟩ (.string u)) b u v := CellsT.set_ h 0 (.string u) (fun j hj => by
  rcases (by omega : j = 0 ∨ j = 1) with rfl | rfl <;> rfl)
end

theorem prd_nil (w : World) : PRd w none 0 [] := ⟨rfl, FRd.nil _ _ _ _⟩
theorem prd_take {w : World} {A : Option Addr} {n m : Nat} {l : List Pr} (h : PRd w A n l) (hm : m ≤ n) : PRd w A m (l.take m) := by
  refine ⟨by rw [List.length_take, h.1]; omega, fun h0 => ?_⟩
  obtain ⟨g, o, ha, hc⟩ := h.2 (by omega)
  refine ⟨g, o, ha, fun i j hi hj => ?_⟩
  rw [hc i j (by omega) hj]
  unfold prF
  rw [List.getD_eq_getElem?_getD, List.getD_eq_getElem?_getD, List.getElem?_take, if_pos hi]