import Derived.Test.YtbmemogajgbdgaaM22
import Derived.Test.YtbmemogajgbdgaaA3
namespace Go.Proofs.Ytbmemogajgbdgaa
open Go.RowKit Go.Gf
section
variable {P : Program} {ops : Array Oper} {a : Act} {Q : Exit → Act → World → Prop}
/-- append of cells (none or more) at a step of a region that draws its order. -/
theorem step_apps {o : Oper} {K : Act → World → Prop} {E : Prop} (w : World) (hgd : o.guard = none) (s x : Operand) (t e : TypeId) (ho : o.op = .call { callee := .builtin .append, args := #[s, x], argTypes := #[t, t] })
    (ht : P.underlying t = some (.slice e)) (z : Value) (bytes : Nat) (hi : (P.info? e).map (fun i => (i.zero, i.size, i.bytes)) = some (some z, 1, bytes)) (hzc : z.cells.size = 1) (hby : bytes ≤ 1024)
    (base : Nat) (v : Value) (n : Nat) (xs : List Value) (hs : a.eval s = v) (hown : w.ownsRow base e 1 v n xs)
    (A : Addr) (m c : Nat) (us : List Value) (hx : a.eval x = .slice (some A) m c) (hr : Rd w (some A) m us) (hu : ∀ u ∈ us, u.oneCell' = true) (hn : n + m ≤ 1048576) (hbase : base ≤ w.heap.size)
    (h : ∀ v' w', w'.ownsRow base e 1 v' (n + m) (xs ++ us) → w.grownBy w' v.ownBlock → K (a.put o.dst v') w') :
    if Region.wanted o (yielded ops a.tmps) = true then Oper.wp P o a w K Q else E := by
  obtain ⟨i0, hi0, hz0, hz1, hz2⟩ := info_parts hi
  have hw : Region.wanted o (yielded ops a.tmps) = true := by simp [Region.wanted, hgd]
  rw [if_pos hw]
  obtain ⟨v', w', hr', h2, h3, _, _⟩ := run_append_own_at (P := P) w base t o.type e i0 z 1 bytes ht hi0 hz0 hz1 hz2 hzc (by omega) v n xs hown A m c us (by have := hr.1; omega) (fun j u hj => by
    have hl := hr.1
    have hjl : j < us.length := by
      rcases Nat.lt_or_ge j us.length with h | h
      · exact h
      · rw [List.getElem?_eq_none h] at hj; cases hj
    obtain ⟨g, o', he, hc⟩ := hr.2 (by omega)
    injection he with he
    subst he
    have hadd : (⟨g, o', none⟩ : Addr).add j = ⟨g, o' + j, none⟩ := Addr.add_mid ..
    rw [hadd]
    exact hc j u hj) hu (by unfold maxLen; omega) (by have h1 := Nat.mul_le_mul hn hby; omega) hbase
  unfold Oper.wp execOp
  simp only [ho, resolve, invoke, builtin, Sem.run_bind, Sem.run_pure, Result.andThen_ok, List.map_toArray, List.map_cons, List.map_nil, hs, hx, hr']
  exact h v' w' h2 h3
end
theorem owns_base {w : World} {b b' : Nat} {e : TypeId} {s : Nat} {v : Value} {n : Nat} {xs : List Value} (h : w.ownsRow b e s v n xs) (hb : b' ≤ b) : w.ownsRow b' e s v n xs := by
  refine ⟨h.1, ?_⟩
  rcases h.2 with h2 | ⟨g, cap, cur, hv, hg, rest⟩
  · exact .inl h2
  · exact .inr ⟨g, cap, cur, hv, by omega, rest⟩
/-- What lies in another block than the one that grew. -/
theorem Rd.far {w w' : World} {g o n : Nat} {xs : List Value} {row : Option Nat} (h : Rd w (some ⟨g, o, none⟩) n xs) (hg : w.grownBy w' row) (hne : some g ≠ row) : Rd w' (some ⟨g, o, none⟩) n xs :=
  ⟨h.1, fun hn => by
    obtain ⟨g2, o2, he, hc⟩ := h.2 hn
    injection he with he
    injection he with h1 h2 _
    subst h1; subst h2
    exact ⟨g, o, rfl, fun i v hi => hg.cell (hc i v hi) hne⟩⟩
theorem Rd.take_ {w : World} {g o n : Nat} {xs : List Value} (h : Rd w (some ⟨g, o, none⟩) n xs) (m : Nat) (hm : m ≤ n) : Rd w (some ⟨g, o, none⟩) m (xs.take m) :=
  ⟨by rw [List.length_take]; have := h.1; omega, fun hn => by
    obtain ⟨g2, o2, he, hc⟩ := h.2 (by omega)
    refine ⟨g2, o2, he, fun i v hi => hc i v ?_⟩
    have hl : i < (xs.take m).length := by
      rcases Nat.lt_or_ge i (xs.take m).length with h | h
      · exact h
      · rw [List.getElem?_eq_none h] at hi; cases hi
    rw [List.length_take] at hl
    rwa [List.getElem?_take_of_lt (by omega)] at hi⟩
theorem Rd.drop_ {w : World} {g o n : Nat} {xs : List Value} (h : Rd w (some ⟨g, o, none⟩) n xs) (m : Nat) (hm : m ≤ n) {A : Addr} (hA : m < n → A = ⟨g, o + m, none⟩) : Rd w (some A) (n - m) (xs.drop m) :=
  ⟨by rw [List.length_drop]; have := h.1; omega, fun hn => by
    obtain ⟨g2, o2, he, hc⟩ := h.2 (by omega)
    injection he with he
    injection he with h1 h2 _
    subst h1; subst h2
    refine ⟨g, o + m, by rw [hA (by omega)], fun i v hi => ?_⟩
    rw [List.getElem?_drop] at hi
    rw [Nat.add_assoc]
    exact hc _ _ hi⟩
def ints (l : List Nat) : List Value := (asI l).map (Value.int .i64)
theorem ints_len (l : List Nat) : (ints l).length = l.length := by simp [ints, asI]
theorem ints_app (a b : List Nat) : ints (a ++ b) = ints a ++ ints b := by simp [ints, asI]
theorem ints_get (l : List Nat) (i : Nat) (h : i < l.length) : (ints l)[i]'(by rw [ints_len]; exact h) = .int .i64 (l[i] : Nat) := by simp [ints, asI]
theorem ints_take (l : List Nat) (m : Nat) : ints (l.take m) = (ints l).take m := by simp [ints, asI, List.map_take]
theorem ints_drop (l : List Nat) (m : Nat) : ints (l.drop m) = (ints l).drop m := by simp [ints, asI, List.map_drop]
theorem ints_one (l : List Nat) : ∀ u ∈ ints l, u.oneCell' = true := by
  intro u hu
  unfold ints at hu
  obtain ⟨x, _, rfl⟩ := List.mem_map.mp hu
  rfl
/-- What MatrixAny's picks are. -/
theorem anyC {k t : Nat} (hk : 1 ≤ k) (ht : 1 ≤ t) (hkt : k + t ≤ 64) (w : World) : Calls Try.prog 19 #[.int .i64 t, .int .i64 k] w fun e w' => ∃ (A : Option Addr) (n cap : Nat), e = .returned (.tuple #[.slice A n cap, .int .i64 0]) ∧ n = t ∧ Rd w' A n ((mkM t k (cauchyF k)).map Value.string) ∧ Ext w w' := by
  refine (cauchy_any t k w).mono ?_
  have ho := cauchy_ok t k ⟨by omega, by omega⟩
  rintro e w' ⟨A, n, cap, rfl, hn, hr, hE⟩
  rw [ho.1] at hn hr
  rw [ho.2]
  rw [mkM_len] at hn
  exact ⟨A, n, cap, rfl, hn, hr, hE⟩
theorem anyB {k t n : Nat} (hk : 1 ≤ k) (ht : 1 ≤ t) (hkt : k + t = n) (hn : n ≤ 64) (A B : Option Addr) (cap cap2 : Nat) (w : World) (hr : Rd w A k ((unitM k).map Value.string)) (hq : Rd w B t ((mkM t k (cauchyF k)).map Value.string)) :
    Calls Try.prog 23 #[.slice A k cap, .slice B t cap2] w fun e w' => ∃ (Z : Option Addr) (cz : Nat), e = .returned (.tuple #[.slice Z n cz, .int .i64 0]) ∧ Rd w' Z n ((towM k t).map Value.string) ∧ Ext w w' := by
  have h1 := mayP_unit k ⟨hk, by omega⟩
  have h2 := mayP_mkM t k (cauchyF k) ⟨ht, by omega⟩ ⟨hk, by omega⟩
  exact uBO h1 h2 (by rw [len0_unit _ hk, len0_mkM _ _ _ (by omega)]) (by rw [unitM_len, mkM_len]; omega) (unitM_len k) (mkM_len ..) (by omega) w hr hq
theorem anyP {k t n : Nat} {R : List Nat} (hk : 1 ≤ k) (ht : 1 ≤ t) (hkt : k + t = n) (hn : n ≤ 64) (hl : R.length = k) (hR : ∀ x ∈ R, x < n) (A L : Option Addr) (cap cl : Nat) (w : World) (hr : Rd w A n ((towM k t).map Value.string)) (hq : Rd w L k (ints R)) :
    Calls Try.prog 21 #[.slice A n cap, .slice L k cl] w (BigIs (pickL (towM k t) (asI R)) 0 w) := by
  subst hkt
  exact uPK (tow_may k t hk ht hn).1 (towM_len k t) (asI_ok hk hn hl hR) (by omega) L cl w hr hq
theorem anyU {k t n : Nat} {R : List Nat} (hk : 1 ≤ k) (ht : 1 ≤ t) (hkt : k + t = n) (hn : n ≤ 64) (hl : R.length = k) (hR : ∀ x ∈ R, x < n) (E : Int) (hE : undoE (pickL (towM k t) (asI R)) = E) (A : Option Addr) (n' cap : Nat) (hn' : n' ≤ 1048576) (w : World) (hr : Rd w A n' ((pickL (towM k t) (asI R)).map Value.string)) :
    Calls Try.prog 12 #[.slice A n' cap] w (BigIs (undoV (pickL (towM k t) (asI R))) E w) := by
  subst hkt
  have hm := (tow_pick hk ht hn hl hR).1
  exact (undo_any A n' cap _ w hr hn' hm.z).mono fun _ _ h => big_of2 h ⟨rfl, hE⟩ (by have := undoV_len (pickL (towM k t) (asI R)); omega)
