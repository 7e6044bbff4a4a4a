import Derived.Test.YtjdppgogdilgkaaUA
import Derived.Test.YtjdppgogdilgkaaKJ
import Derived.Deep.RegionLaw
import Derived.Deep.RegionHeld3
import Derived.Deep.LoopGhost
section
namespace Go.Proofs.Ytjdppgogdilgkaa
open Go.RowKit Go.Gf Go.Co Go.Conc Go.ChangeShapes Go.WideShapes Go.ChangeAt Go.Deep
set_option linter.unusedSimpArgs false
set_option linter.unusedVariables false
theorem info3i : (Try.prog.info? 3).map (fun i => (i.zero, i.size, i.bytes)) = some (some (.int .i64 0), 1, 8) := by kernel_rfl
section
variable {P : Program} {ops : Array Oper} {a : Act} {Q : Exit → Act → World → Prop}
theorem step_apps {o : Oper} {K : Act → World → Prop} {E : Prop} (w : World) (hgd : o.guard = none) (s x : Operand) (t e : TypeId) (ho : o.op = .call { callee := .builtin .append, args := #[s, x], argTypes := #[t, t] })
    (ht : P.underlying t = some (.slice e)) (z : Value) (bytes : Nat) (hi : (P.info? e).map (fun i => (i.zero, i.size, i.bytes)) = some (some z, 1, bytes)) (hzc : z.cells.size = 1) (hby : bytes ≤ 1024)
    (base : Nat) (v : Value) (n : Nat) (xs : List Value) (hs : a.eval s = v) (hown : w.ownsRow base e 1 v n xs)
    (A : Addr) (m c : Nat) (us : List Value) (hx : a.eval x = .slice (some A) m c) (hr : Rd w (some A) m us) (hu : ∀ u ∈ us, u.oneCell' = true) (hn : n + m ≤ 1048576) (hbase : base ≤ w.heap.size)
    (h : ∀ v' w', w'.ownsRow base e 1 v' (n + m) (xs ++ us) → w.grownBy w' v.ownBlock → K (a.put o.dst v') w') :
    if Region.wanted o (yielded ops a.tmps) = true then Oper.wp P o a w K Q else E := by
  obtain ⟨i0, hi0, hz0, hz1, hz2⟩ := info_parts hi
  have hw : Region.wanted o (yielded ops a.tmps) = true := by simp [Region.wanted, hgd]
  rw [if_pos hw]
  obtain ⟨v', w', hr', h2, h3, _, _⟩ := run_append_own_at (P := P) w base t o.type e i0 z 1 bytes ht hi0 hz0 hz1 hz2 hzc (by omega) v n xs hown A m c us (by have := hr.1; omega) (fun j u hj => by
    have hl := hr.1
    have hjl : j < us.length := by
      rcases Nat.lt_or_ge j us.length with h | h
      · exact h
      · rw [List.getElem?_eq_none h] at hj; cases hj
    obtain ⟨g, o', he, hc⟩ := hr.2 (by omega)
    injection he with he
    subst he
    have hadd : (⟨g, o', none⟩ : Addr).add j = ⟨g, o' + j, none⟩ := Addr.add_mid ..
    rw [hadd]
    exact hc j u hj) hu (by unfold maxLen; omega) (by have h1 := Nat.mul_le_mul hn hby; omega) hbase
  unfold Oper.wp execOp
  simp only [ho, resolve, invoke, builtin, Sem.run_bind, Sem.run_pure, Result.andThen_ok, List.map_toArray, List.map_cons, List.map_nil, hs, hx, hr']
  exact h v' w' h2 h3
end
theorem owns_base {w : World} {b b' : Nat} {e : TypeId} {s : Nat} {v : Value} {n : Nat} {xs : List Value} (h : w.ownsRow b e s v n xs) (hb : b' ≤ b) : w.ownsRow b' e s v n xs := by
  refine ⟨h.1, ?_⟩
  rcases h.2 with h2 | ⟨g, cap, cur, hv, hg, rest⟩
  · exact .inl h2
  · exact .inr ⟨g, cap, cur, hv, by omega, rest⟩
theorem Rd.far {w w' : World} {g o n : Nat} {xs : List Value} {row : Option Nat} (h : Rd w (some ⟨g, o, none⟩) n xs) (hg : w.grownBy w' row) (hne : some g ≠ row) : Rd w' (some ⟨g, o, none⟩) n xs :=
  ⟨h.1, fun hn => by
    obtain ⟨g2, o2, he, hc⟩ := h.2 hn
    injection he with he
    injection he with h1 h2 _
    subst h1; subst h2
    exact ⟨g, o, rfl, fun i v hi => hg.cell (hc i v hi) hne⟩⟩
def ints (l : List Nat) : List Value := (asI l).map (Value.int .i64)
theorem ints_len (l : List Nat) : (ints l).length = l.length := by simp [ints, asI]
theorem ints_app (a b : List Nat) : ints (a ++ b) = ints a ++ ints b := by simp [ints, asI]
theorem ints_get (l : List Nat) (i : Nat) (h : i < l.length) : (ints l)[i]'(by rw [ints_len]; exact h) = .int .i64 (l[i] : Nat) := by simp [ints, asI]
theorem ints_take (l : List Nat) (m : Nat) : ints (l.take m) = (ints l).take m := by simp [ints, asI, List.map_take]
theorem ints_drop (l : List Nat) (m : Nat) : ints (l.drop m) = (ints l).drop m := by simp [ints, asI, List.map_drop]
theorem ints_one (l : List Nat) : ∀ u ∈ ints l, u.oneCell' = true := by
  intro u hu
  unfold ints at hu
  obtain ⟨x, _, rfl⟩ := List.mem_map.mp hu
  rfl
def TwoR (n i fl : Nat) (R F : List Nat) : Prop := R.length = i ∧ F.length = fl ∧ fl + i = n ∧ (R ++ F).Nodup ∧ ∀ x ∈ R ++ F, x < n
theorem TwoR.start (n : Nat) : TwoR n 0 n [] (List.range n) := ⟨rfl, List.length_range, by omega, by simpa using List.nodup_range, fun x hx => by simpa using hx⟩
theorem TwoR.step {n i fl : Nat} {R F : List Nat} (h : TwoR n i fl R F) (p : Nat) (hp : p < fl) : TwoR n (i + 1) (fl - 1) (R ++ [F[p]'(by rw [h.2.1]; exact hp)]) (F.take p ++ F.drop (p + 1)) := by
  obtain ⟨h1, h2, h3, h4, h5⟩ := h
  have hpf : p < F.length := by omega
  have hpm := take_one (R := R) hpf
  refine ⟨by simp [h1], by simp; omega, by omega, hpm.nodup_iff.mpr h4, fun x hx => h5 x (hpm.mem_iff.mp hx)⟩
theorem owns_cap {w : World} {base : Nat} {e : TypeId} {s : Nat} {A : Option Addr} {n c : Nat} {xs : List Value} (h : w.ownsRow base e s (.slice A n c) n xs) : n ≤ c := by
  rcases h.2 with ⟨_, h0⟩ | ⟨g, cap, cur, hv, hb, hg, hc, _⟩
  · omega
  · injection hv with h1 h2 h3
    omega
theorem owns_lt {w : World} {base : Nat} {e : TypeId} {s : Nat} {g o n c : Nat} {xs : List Value} (h : w.ownsRow base e s (.slice (some ⟨g, o, none⟩) n c) n xs) : g < w.heap.size := by
  rcases h.2 with ⟨h0, _⟩ | ⟨g', cap, cur, hv, hb, hg, _⟩
  · cases h0
  · injection hv with h1 h2 h3
    injection h1 with h1
    injection h1 with h1
    subst h1
    rcases Nat.lt_or_ge g w.heap.size with hlt | hge
    · exact hlt
    · rw [Array.getElem?_eq_none hge] at hg; cases hg
theorem wr_owns_ne {w w0 : World} {base : Nat} {e : TypeId} {v : Value} {n : Nat} {xs : List Value} (h : w.ownsRow base e 1 v n xs) (hb : w0.heap.size ≤ base) : ∀ g, v.ownBlock = some g → w0.heap.size ≤ g := fun g hg => by have := h.blockGe g hg; omega
noncomputable def haveL (k r : Nat) (s : ByteArray) (R : List Nat) : List Pt := R.map fun (y : Nat) => ((y : Int), (spreadV k r s).getD y { data := #[] })
section
variable {k r : Nat} {s : ByteArray} {R : List Nat}
theorem haveL_len : (haveL k r s R).length = R.length := by simp [haveL]
theorem haveL_app (y : Nat) : haveL k r s (R ++ [y]) = haveL k r s R ++ [((y : Int), (spreadV k r s).getD y { data := #[] })] := by simp [haveL]
theorem haveL_of (h : ∀ x ∈ R, x < k + r) : Of k r s (haveL k r s R) := fun p hp => by
  obtain ⟨y, hy, rfl⟩ := List.mem_map.1 hp
  exact ⟨y, h y hy, rfl, rfl⟩
theorem haveL_nodup (h : R.Nodup) : ((haveL k r s R).map (·.1)).Nodup := by
  unfold haveL
  rw [List.map_map]
  refine List.Pairwise.map _ (fun a b hab => ?_) h
  simp only [Function.comp]
  omega
theorem haveL_drop (m : Nat) : (haveL k r s R).drop m = haveL k r s (R.drop m) := by simp [haveL, List.map_drop]
theorem haveL_small (hk : 1 ≤ k) (hs : s.size ≤ 512) (h : ∀ x ∈ R, x < k + r) : ∀ p ∈ haveL k r s R, p.2.size ≤ 1048576 := fun p hp => by
  obtain ⟨y, hy, rfl⟩ := List.mem_map.1 hp
  rw [spread_size hk s (h y hy)]
  have := sizeN_le k s.size hk
  omega
theorem haveL_idx (hkr : k + r ≤ 32) (h : ∀ x ∈ R, x < k + r) : ∀ p ∈ haveL k r s R, -9223372036854775808 ≤ p.1 ∧ p.1 ≤ 9223372036854775807 := fun p hp => by
  obtain ⟨y, hy, rfl⟩ := List.mem_map.1 hp
  have := h y hy
  simp only
  omega
variable {n0 : Nat} (hE : NoEarly Try.prog n0) (hk : 1 ≤ k) (hkr : k + r ≤ 32) (hs : s.size ≤ 512) (hR : ∀ x ∈ R, x < k + r) (hn : R.Nodup) {A : Option Addr} {c n : Nat} {w : World} (hr : PtRd w A n (haveL k r s R)) (hn2 : n ≤ 1048576)
include hE hk hkr hs hR hn hr hn2
theorem have_gath (hl : R.length = k) : CallsB n0 Try.prog 16 #[.int .i64 k, .int .i64 r, .int .i64 s.size, .slice A n c] w (AnsB s 0 w) := by
  have hg := gath_of hk hkr (haveL_of (s := s) hR) (by rw [idxs_len hk (haveL_of hR) (haveL_nodup hn), haveL_len, hl]; exact Nat.le_refl _)
  have := gather_B hE hk hkr (t := s.size) (by omega) (cap := c) hr hn2 (haveL_small hk hs hR) (haveL_idx hkr hR)
  rwa [hg.1, hg.2] at this
theorem have_again (hl : R.length = k) {i : Nat} (hi : i < k + r) : CallsB n0 Try.prog 18 #[.int .i64 k, .int .i64 r, .int .i64 i, .slice A n c] w (AnsB ((spreadV k r s).getD i { data := #[] }) 0 w) := by
  have hg := agn_of hk hkr hi (haveL_of (s := s) hR) (by rw [idxs_len hk (haveL_of hR) (haveL_nodup hn), haveL_len, hl]; exact Nat.le_refl _)
  have := again_B hE hk hkr hi (cap := c) hr hn2 (haveL_small hk hs hR) (haveL_idx hkr hR)
  rwa [hg.1, hg.2] at this
theorem have_few (hl : R.length < k) : CallsB n0 Try.prog 16 #[.int .i64 k, .int .i64 r, .int .i64 s.size, .slice A n c] w (AnsB { data := #[] } 60 w) := by
  have hg := gath_few (t := s.size) (of_ok hk (haveL_of (s := s) hR)) (by rw [idxs_len hk (haveL_of hR) (haveL_nodup hn), haveL_len]; exact hl)
  have := gather_B hE hk hkr (t := s.size) (by omega) (cap := c) hr hn2 (haveL_small hk hs hR) (haveL_idx hkr hR)
  rwa [hg.1, hg.2] at this
end
theorem PtRd.tail {w : World} {g o n : Nat} {l : List Pt} (h : PtRd w (some ⟨g, o, none⟩) n l) (hn : 0 < n) {A : Option Addr} (hA : 1 < n → A = some ⟨g, o + 2, none⟩) : PtRd w A (n - 1) (l.drop 1) :=
  ⟨by rw [List.length_drop, h.1], fun h1 => by
    obtain ⟨g2, o2, he, hc⟩ := h.2 hn
    injection he with he
    injection he with e1 e2 _
    subst e1; subst e2
    refine ⟨g, o + 2, hA (by omega), fun i p hp => ?_⟩
    rw [List.getElem?_drop] at hp
    have := hc (1 + i) p hp
    rw [show o + 2 + i * 2 = o + (1 + i) * 2 by omega]
    exact this⟩
theorem spread_n {n0 : Nat} (hE : NoEarly Try.prog n0) {k r N : Nat} (hN : k + r = N) (hk : 1 ≤ k) (h : k + r ≤ 32) {s : ByteArray} (hz : s.size ≤ 1048000) {w : World} :
    CallsB n0 Try.prog 10 #[.int .i64 k, .int .i64 r, .string s] w (fun v w' => ∃ (A : Option Addr) (c : Nat), v = .tuple #[.slice A N c, .int .i64 0] ∧ Rd w' A N ((spreadV k r s).map Value.string) ∧ Ext w w') := by
  subst hN
  exact spread_B hE hk h hz
end Go.Proofs.Ytjdppgogdilgkaa
end
section
namespace Go.Proofs.Ytjdppgogdilgkaa
open Go.RowKit Go.Gf Go.Co Go.Conc Go.ChangeShapes Go.WideShapes Go.ChangeAt Go.Deep
set_option linter.unusedSimpArgs false
set_option linter.unusedVariables false
set_option maxRecDepth 100000 in
theorem tmps170 (T : Array Value) (h : T.size = 170) : ∃ x : Nat → Value, T = #[x 0, x 1, x 2, x 3, x 4, x 5, x 6, x 7, x 8, x 9, x 10, x 11, x 12, x 13, x 14, x 15, x 16, x 17, x 18, x 19, x 20, x 21, x 22, x 23, x 24, x 25, x 26, x 27, x 28, x 29, x 30, x 31, x 32, x 33, x 34, x 35, x 36, x 37, x 38, x 39, x 40, x 41, x 42, x 43, x 44, x 45, x 46, x 47, x 48, x 49, x 50, x 51, x 52, x 53, x 54, x 55, x 56, x 57, x 58, x 59, x 60, x 61, x 62, x 63, x 64, x 65, x 66, x 67, x 68, x 69, x 70, x 71, x 72, x 73, x 74, x 75, x 76, x 77, x 78, x 79, x 80, x 81, x 82, x 83, x 84, x 85, x 86, x 87, x 88, x 89, x 90, x 91, x 92, x 93, x 94, x 95, x 96, x 97, x 98, x 99, x 100, x 101, x 102, x 103, x 104, x 105, x 106, x 107, x 108, x 109, x 110, x 111, x 112, x 113, x 114, x 115, x 116, x 117, x 118, x 119, x 120, x 121, x 122, x 123, x 124, x 125, x 126, x 127, x 128, x 129, x 130, x 131, x 132, x 133, x 134, x 135, x 136, x 137, x 138, x 139, x 140, x 141, x 142, x 143, x 144, x 145, x 146, x 147, x 148, x 149, x 150, x 151, x 152, x 153, x 154, x 155, x 156, x 157, x 158, x 159, x 160, x 161, x 162, x 163, x 164, x 165, x 166, x 167, x 168, x 169] := by
  refine ⟨fun i => T.getD i undef, ?_⟩
  show T = ((List.range 170).map fun i => T.getD i undef).toArray
  apply Array.ext (by simp [h])
  intro i h1 h2
  simp [h1]
def Tm5 (s : ByteArray) (k r : Nat) (A1 : Option Addr) (N c1 gH cH : Nat) (a : Act) : Prop :=
  a.defers = [] ∧ a.tmps.size = 170 ∧ a.tmps[0]? = some (.string s) ∧ a.tmps[9]? = some (.int .i64 k) ∧ a.tmps[10]? = some (.int .i64 r) ∧ a.tmps[11]? = some (.slice A1 N c1) ∧ a.tmps[15]? = some (.slice (some ⟨gH, 0, none⟩) k cH)
set_option maxRecDepth 100000 in
theorem Tm5.lit {s : ByteArray} {k r : Nat} {A1 : Option Addr} {N c1 gH cH : Nat} {a : Act} (h : Tm5 s k r A1 N c1 gH cH a) : ∃ x : Nat → Value, a = ⟨#[.string s, x 1, x 2, x 3, x 4, x 5, x 6, x 7, x 8, .int .i64 k, .int .i64 r, .slice A1 N c1, x 12, x 13, x 14, .slice (some ⟨gH, 0, none⟩) k cH, x 16, x 17, x 18, x 19, x 20, x 21, x 22, x 23, x 24, x 25, x 26, x 27, x 28, x 29, x 30, x 31, x 32, x 33, x 34, x 35, x 36, x 37, x 38, x 39, x 40, x 41, x 42, x 43, x 44, x 45, x 46, x 47, x 48, x 49, x 50, x 51, x 52, x 53, x 54, x 55, x 56, x 57, x 58, x 59, x 60, x 61, x 62, x 63, x 64, x 65, x 66, x 67, x 68, x 69, x 70, x 71, x 72, x 73, x 74, x 75, x 76, x 77, x 78, x 79, x 80, x 81, x 82, x 83, x 84, x 85, x 86, x 87, x 88, x 89, x 90, x 91, x 92, x 93, x 94, x 95, x 96, x 97, x 98, x 99, x 100, x 101, x 102, x 103, x 104, x 105, x 106, x 107, x 108, x 109, x 110, x 111, x 112, x 113, x 114, x 115, x 116, x 117, x 118, x 119, x 120, x 121, x 122, x 123, x 124, x 125, x 126, x 127, x 128, x 129, x 130, x 131, x 132, x 133, x 134, x 135, x 136, x 137, x 138, x 139, x 140, x 141, x 142, x 143, x 144, x 145, x 146, x 147, x 148, x 149, x 150, x 151, x 152, x 153, x 154, x 155, x 156, x 157, x 158, x 159, x 160, x 161, x 162, x 163, x 164, x 165, x 166, x 167, x 168, x 169], []⟩ := by
  obtain ⟨T, ds⟩ := a
  obtain ⟨h1, h2, t0, t9, t10, t11, t15⟩ := h
  simp only at h1 h2 t0 t9 t10 t11 t15
  subst h1
  obtain ⟨x, rfl⟩ := tmps170 T h2
  refine ⟨x, ?_⟩
  have e0 : x 0 = .string s := Option.some.inj t0
  have e9 : x 9 = .int .i64 k := Option.some.inj t9
  have e10 : x 10 = .int .i64 r := Option.some.inj t10
  have e11 : x 11 = .slice A1 N c1 := Option.some.inj t11
  have e15 : x 15 = .slice (some ⟨gH, 0, none⟩) k cH := Option.some.inj t15
  rw [e0, e9, e10, e11, e15]
noncomputable def frees5 : Code := match Try.f5.body with
  | some (.seq _ (.seq _ (.seq _ (.seq _ (.seq _ (.seq _ (.seq _ (.seq c _)))))))) => c
  | _ => .skip
noncomputable def picks5 : Code := match Try.f5.body with
  | some (.seq _ (.seq _ (.seq _ (.seq _ (.seq _ (.seq _ (.seq _ (.seq _ (.seq _ (.seq c _)))))))))) => c
  | _ => .skip
set_option maxHeartbeats 8000000 in
set_option maxRecDepth 100000 in
theorem frees_wp {k r N m cC c1 g : Nat} {s : ByteArray} {C A1 : Option Addr} (N2 : N ≤ 13) {a : Act} (ha : a.defers = [] ∧ a.tmps.size = 170 ∧ a.tmps[0]? = some (.string s) ∧ a.tmps[3]? = some (.slice C m cC) ∧ a.tmps[9]? = some (.int .i64 k) ∧ a.tmps[10]? = some (.int .i64 r) ∧ a.tmps[11]? = some (.slice A1 N c1) ∧ a.tmps[13]? = some (.slice (some ⟨g, 0, none⟩) N N)) {W0 W : World} (hW : Ext W0 W) (hb0 : CellsAt W g N (fun _ => .int .i64 0)) (hg : W0.heap.size ≤ g) {K : Act → World → Prop}
    (hK : ∀ (a' : Act) (w' : World), a'.defers = [] ∧ a'.tmps.size = 170 ∧ a'.tmps[0]? = some (.string s) ∧ a'.tmps[3]? = some (.slice C m cC) ∧ a'.tmps[9]? = some (.int .i64 k) ∧ a'.tmps[10]? = some (.int .i64 r) ∧ a'.tmps[11]? = some (.slice A1 N c1) ∧ a'.tmps[13]? = some (.slice (some ⟨g, 0, none⟩) N N) → Rd w' (some ⟨g, 0, none⟩) N (ints (List.range N)) → g < w'.heap.size → Ext W0 w' → K a' w') :
    frees5.wp Try.prog (Nm K) a W := by
  obtain ⟨T, ds⟩ := a
  obtain ⟨h1, h2, t0, t3, t9, t10, t11, t13⟩ := ha
  simp only at h1 h2 t0 t3 t9 t10 t11 t13
  subst h1
  obtain ⟨x, rfl⟩ := tmps170 T h2
  have e0 : x 0 = .string s := Option.some.inj t0
  have e3 : x 3 = .slice C m cC := Option.some.inj t3
  have e9 : x 9 = .int .i64 k := Option.some.inj t9
  have e10 : x 10 = .int .i64 r := Option.some.inj t10
  have e11 : x 11 = .slice A1 N c1 := Option.some.inj t11
  have e13 : x 13 = .slice (some ⟨g, 0, none⟩) N N := Option.some.inj t13
  rw [e0, e3, e9, e10, e11, e13]
  clear h2 t0 e0 t3 e3 t9 e9 t10 e10 t11 e11 t13 e13
  have HK := Lib.hid hK
  clear hK
  have hbn : CellsAt W g N (fun y => if y < 0 then .int .i64 y else .int .i64 0) := hb0.congr fun j hj => by simp
  clear hb0
  unfold frees5 Try.f5
  dsimp only
  go_wp2
  go_loopw [14] (fun x wr => ∃ j : Nat, j ≤ N ∧ x = .int .i64 j ∧ Ext W0 wr ∧ CellsAt wr g N (fun y => if y < j then .int .i64 y else .int .i64 0)) (fun x _ => N - (intOf x).toNat)
  case atStart => exact ⟨0, by omega, rfl, hW, hbn⟩
  case round =>
    obtain ⟨j, hj, rfl, hE, hb⟩ := hrel
    clear hbn hW
    by_cases hj2 : j < N
    · have kj : (j : Int) < (N : Int) := by omega
      have kj0 : (0 : Int) ≤ (j : Int) := by omega
      have hcj := hb.cell j hj2
      have hfj := hb.frozen j hj2
      go_wp2
      go_roundw
      case rel => exact ⟨j + 1, by omega, by go_num, hE.setCell hg _, hb.set_ j _ (fun x hx => by
        by_cases e : x = j
        · subst e; simp
        · rw [if_neg e]; by_cases e2 : x < j
          · rw [if_pos e2, if_pos (by omega)]
          · rw [if_neg e2, if_neg (by omega)])⟩
      case measure => simp [intOf]; omega
    · obtain rfl : N = j := by omega
      have hF : Rd wr (some ⟨g, 0, none⟩) N (ints (List.range N)) := hb.rd _ (by rw [ints_len, List.length_range]) (fun i v hi => by
        have hl : i < N := by
          rcases Nat.lt_or_ge i N with h | h
          · exact h
          · rw [List.getElem?_eq_none (by rw [ints_len, List.length_range]; exact h)] at hi; cases hi
        rw [if_pos hl]
        rw [List.getElem?_eq_getElem (by rw [ints_len, List.length_range]; exact hl)] at hi
        rw [ints_get _ i (by rw [List.length_range]; exact hl), List.getElem_range] at hi
        exact Option.some.inj hi)
      have hgz := hb.lt
      clear hb hj hj2
      go_wp2
      exact HK.out _ wr ⟨rfl, rfl, rfl, rfl, rfl, rfl, rfl, rfl⟩ hF hgz hE
end Go.Proofs.Ytjdppgogdilgkaa
end
section
namespace Go.Proofs.Ytjdppgogdilgkaa
open Go.RowKit Go.Gf Go.Co Go.Conc Go.ChangeShapes Go.WideShapes Go.ChangeAt Go.Deep
set_option linter.unusedSimpArgs false
set_option linter.unusedVariables false
theorem owns_addr {w : World} {base : Nat} {e : TypeId} {s n c : Nat} {A : Option Addr} {xs : List Value} (h : w.ownsRow base e s (.slice A n c) n xs) : ∀ a, A = some a → ∃ g, a = ⟨g, 0, none⟩ ∧ base ≤ g := fun a ha => by
  rcases h.2 with ⟨h0, _⟩ | ⟨g, cap, cur, hv, hb, _⟩
  · rw [ha] at h0; cases h0
  · rw [ha] at hv
    injection hv with h1 h2 h3
    injection h1 with h1
    exact ⟨g, h1, hb⟩
set_option maxHeartbeats 8000000 in
set_option maxRecDepth 100000 in
theorem picks_wp {k r N m cC c1 g : Nat} {s : ByteArray} {C A1 : Option Addr} {ch : List Int} (k1 : 1 ≤ k) (k2 : k ≤ 9) (hN : k + r = N) (N2 : N ≤ 13) (hm : m ≤ 100) {a : Act} (ha : a.defers = [] ∧ a.tmps.size = 170 ∧ a.tmps[0]? = some (.string s) ∧ a.tmps[3]? = some (.slice C m cC) ∧ a.tmps[9]? = some (.int .i64 k) ∧ a.tmps[10]? = some (.int .i64 r) ∧ a.tmps[11]? = some (.slice A1 N c1) ∧ a.tmps[13]? = some (.slice (some ⟨g, 0, none⟩) N N) ∧ a.tmps[15]? = some (.slice none 0 0)) {W0 W : World} (hE0 : Ext W0 W) (hch : Rd W0 C m (ch.map (Value.int .u8))) (hw : ∀ z ∈ ch, 0 ≤ z ∧ z ≤ 255) (hL : Rd W0 A1 N ((spreadV k r s).map Value.string))
    (hF : Rd W (some ⟨g, 0, none⟩) N (ints (List.range N))) (hg : W0.heap.size ≤ g) {K : Act → World → Prop}
    (hK : ∀ (a' : Act) (w' : World) (R : List Nat) (gH cH : Nat), Tm5 s k r A1 N c1 gH cH a' → R.length = k → R.Nodup → (∀ y ∈ R, y < N) → k ≤ cH → PtRd w' (some ⟨gH, 0, none⟩) k (haveL k r s R) → Ext W0 w' → K a' w') :
    picks5.wp Try.prog (Nm K) a W := by
  obtain ⟨T, ds⟩ := a
  obtain ⟨h1, h2, t0, t3, t9, t10, t11, t13, t15⟩ := ha
  simp only at h1 h2 t0 t3 t9 t10 t11 t13 t15
  subst h1
  obtain ⟨x, rfl⟩ := tmps170 T h2
  have e0 : x 0 = .string s := Option.some.inj t0
  have e3 : x 3 = .slice C m cC := Option.some.inj t3
  have e9 : x 9 = .int .i64 k := Option.some.inj t9
  have e10 : x 10 = .int .i64 r := Option.some.inj t10
  have e11 : x 11 = .slice A1 N c1 := Option.some.inj t11
  have e13 : x 13 = .slice (some ⟨g, 0, none⟩) N N := Option.some.inj t13
  have e15 : x 15 = .slice none 0 0 := Option.some.inj t15
  rw [e0, e3, e9, e10, e11, e13, e15]
  clear h2 t0 e0 t3 e3 t9 e9 t10 e10 t11 e11 t13 e13 t15 e15
  have hkN : k ≤ N := by omega
  have HK := Lib.hid hK
  have HL := Lib.hid hL
  have HC := Lib.hid hch
  have HW := Lib.hid hw
  have HN := Lib.hid hN
  have T0 := Lib.hid (TwoR.start N)
  clear hK hL hch hw hN
  unfold picks5 Try.f5
  dsimp only
  go_wp2
  obtain ⟨B, hB⟩ : ∃ B, B = W0.heap.size := ⟨_, rfl⟩
  go_loopw [13, 15, 16] (fun f v z wr => ∃ (i fl cF cl : Nat) (AF L : Option Addr) (R F : List Nat), i ≤ k ∧ z = .int .i64 i ∧ f = .slice AF fl cF ∧ v = .slice L i cl ∧ fl ≤ cF ∧ wr.ownsRow B 44 2 (.slice L i cl) i (ptCs (haveL k r s R)) ∧ Rd wr AF fl (ints F) ∧ (∀ a, AF = some a → ∃ gF, a = ⟨gF, 0, none⟩ ∧ B ≤ gF ∧ ∀ g, (Value.slice L i cl).ownBlock = some g → g ≠ gF) ∧ TwoR N i fl R F ∧ Ext W0 wr) (fun _ _ z _ => k - (intOf z).toNat)
  case atStart => exact ⟨0, N, N, 0, some ⟨g, 0, none⟩, none, [], List.range N, by omega, rfl, rfl, rfl, Nat.le_refl _, World.ownsRow_nil _ _ _ _, hF, (fun _ h => ⟨g, (Option.some.inj h).symm, by omega, fun _ h => by cases h⟩), T0.out, hE0⟩
  case round =>
    obtain ⟨i, fl, cF, cl, AF, L, R, F, hik, rfl, rfl, rfl, hcF, hown, hRF, hAF, hT, hE2⟩ := hrel
    clear hF T0 hE0
    have HT := Lib.hid hT
    by_cases hi2 : i < k
    · have hfl := HT.out.2.2.1
      have hfi : 0 < fl := by omega
      have ki : (i : Int) < (k : Int) := by omega
      have ki0 : (0 : Int) ≤ (i : Int) := by omega
      have HO := Lib.hid hown
      have hwz := hE2.sz
      have hBw : B ≤ wr.heap.size := by omega
      clear hown hT
      by_cases him : i < m
      · have kim : (i : Int) < (m : Int) := by omega
        obtain ⟨gt, ot, rfl, hgt, hc2⟩ := (HC.out.ext hE2).at_ him
        have hlr : ch.length = m := by have := HC.out.1; simpa using this
        simp only [List.getElem_map] at hc2
        have hwx := HW.out (ch[i]'(by omega)) (List.getElem_mem _)
        generalize ch[i]'(by omega) = x0 at *
        obtain ⟨x1, x2⟩ := hwx
        obtain ⟨pp, hpp, hpf⟩ : ∃ pp : Nat, x0 % (fl : Int) = (pp : Int) ∧ pp < fl := by
          have h1 := Int.emod_nonneg x0 (show (fl : Int) ≠ 0 by omega)
          have h2 := Int.emod_lt_of_pos x0 (show (0 : Int) < (fl : Int) by omega)
          exact ⟨(x0 % (fl : Int)).toNat, by omega, by omega⟩
        have fl0 : ((fl : Int) == 0) = false := by simp; omega
        have ppf : (pp : Int) < (fl : Int) := by omega
        have pp0 : (0 : Int) ≤ (pp : Int) := by omega
        have hlF := HT.out.2.1
        obtain ⟨gF, ox, hgx, hgz2, hcp⟩ := hRF.at_ hpf
        obtain ⟨gx, hgF, hBg, hne⟩ := hAF _ hgx
        injection hgF with h1 h2 _
        subst h1; subst h2; subst hgx
        clear hAF
        rw [ints_get F pp (by omega), Nat.zero_add] at hcp
        have hST := HT.out.step pp hpf
        have hyF : F[pp]'(by omega) < N := HT.out.2.2.2.2 _ (List.mem_append.mpr (.inr (List.getElem_mem _)))
        generalize F[pp]'(by omega) = y at *
        have HST := Lib.hid hST
        have yN : (y : Int) < (N : Int) := by omega
        have y0 : (0 : Int) ≤ (y : Int) := by omega
        obtain ⟨gL, oL, hA1, hcL⟩ := (HL.out.ext hE2).2 (by omega)
        subst hA1
        have hcy := hcL y (.string ((spreadV k r s).getD y { data := #[] })) (by rw [List.getElem?_map, List.getElem?_eq_getElem (by rw [spreadV_len, HN.out]; exact hyF), getD_at _ _ (by rw [spreadV_len, HN.out]; exact hyF)]; rfl)
        have hgL : gL < W0.heap.size := by
          obtain ⟨gq, oq, hq, hgq, _⟩ := HL.out.at_ (show y < N from hyF)
          injection hq with hq
          injection hq with hq
          omega
        have HY := Lib.hid (haveL_app (k := k) (r := r) (s := s) (R := R) y)
        generalize (spreadV k r s).getD y { data := #[] } = ty at *
        clear hfl hlF hST hcL
        go_wp2
        go_region_held3 (fun w' => w'.cell? ⟨gF, pp, none⟩ = some (.int .i64 y) ∧ w'.cell? ⟨gL, oL + y, none⟩ = some (.string ty))
          (first | exact ⟨hcp, hcy⟩ | exact ⟨d1, d2⟩ | go_keep)
          (first
            | ((refine step_app wr.drew (by rfl) _ _ 34 44 (by rfl) Try.underlying34 (ptV (0, { data := #[] })) [.int .i64 y, .string ty] 2 24 info44 (by rfl) (by rfl) (by decide) (by decide) B (.slice L i cl) i (ptCs (haveL k r s R)) (by rfl) (HO.out.ext (Ext.drew (Ext.refl _))) (fun u hu => by simp only [List.mem_cons, List.not_mem_nil, or_false] at hu; rcases hu with rfl | rfl <;> rfl) _ (by rfl) (by rfl) (by omega) (by have := hE2.sz; exact hBw) ?_; intro g4 cap4 w4 hown4 hG4 hg4; have hx4 := (Ext.drew (Ext.refl wr)).alloc (.cells #[.int .i64 y, .string ty] 44); have d1 := hg4.cell (hx4.cellv hcp) (fun e => hne gF e.symm rfl); have d2 := hg4.cell (hx4.cellv hcy) (fun e => by have := HO.out.blockGe _ e.symm; simp only at this; omega))))
        have hRF4 := Rd.far (hRF.ext hx4) hg4 (fun e => hne gF e.symm rfl)
        obtain ⟨P1, hP1⟩ : ∃ P1 : Nat, pp + 1 = P1 := ⟨_, rfl⟩
        have hP1I : (pp : Int) + 1 = (P1 : Int) := by omega
        obtain ⟨A, hA, hAr⟩ : ∃ A : Addr, (if cF = P1 then some (⟨gF, 0, none⟩ : Addr) else some ⟨gF, P1, none⟩) = some A ∧ (P1 < fl → A = ⟨gF, 0 + P1, none⟩) := by
          by_cases e : cF = P1
          · exact ⟨_, by rw [if_pos e], fun h => by omega⟩
          · exact ⟨_, by rw [if_neg e], fun h => by rw [Nat.zero_add]⟩
        have HK4 := Lib.hid (Rd.take_ hRF4 pp (by omega))
        have HO4 := Lib.hid hown4
        have HA := Lib.hid hAr
        have HP1 := Lib.hid hP1
        have HST2 := Lib.hid hpf
        have hc1 : pp ≤ cF := by omega
        have hc2 : (P1 : Int) ≤ (fl : Int) := by omega
        have hc3 : pp ≤ 24 := by have := HT.out.2.2.1; omega
        have hc4 : fl - P1 ≤ 24 := by have := HT.out.2.2.1; omega
        have hwr : IntKind.i64.wrap (P1 : Int) = (P1 : Int) := by rw [IntKind.wrap_i64]; omega
        have hw4 : wr.heap.size ≤ w4.heap.size := Nat.le_trans (Ext.sz hx4) hg4.size
        have HDK : (∀ w5 : World, (w4.alloc (.cells #[] 3)).drew.grownBy w5 (some w4.heap.size) → Rd w5 (some A) (fl - P1) (ints (F.drop P1))) := fun w5 h5 => by
          rw [ints_drop]
          exact Rd.drop_ (Rd.far (hRF4.ext ((Ext.refl w4).alloc _).drew) h5 (by intro e; injection e with e; omega)) P1 (by omega) HA.out
        have HDK2 := Lib.hid HDK
        have hE4 := hG4.ext (Ext.drew hE2) (by omega)
        clear hown4 hAr hP1 hRF hRF4 HDK d1 d2 hcp hcy hx4 hg4 hG4
        go_wp2
        go_region_law (first
          | (refine step_apps _ (by rfl) (.tmp 104) (.tmp 107) 42 3 (by rfl) Try.underlying42 (.int .i64 0) 8 info3i (by rfl) (by decide) w4.heap.size _ 0 [] (by simp [Act.eval]) (owns_empty w4 w4.heap.size 3 1 (Nat.le_refl _)) ⟨gF, 0, none⟩ pp cF (ints (F.take pp)) (by simp [Act.eval]) (by rw [ints_take]; exact HK4.out.ext (((Ext.refl w4).alloc _).drew)) (ints_one _) (by omega) (Ext.sz (((Ext.refl w4).alloc _).drew)) ?_; intro v5 w5 hown5 hg5; have hsz5 := hg5.size)
          | (refine step_apps _ (by rfl) (.tmp 108) (.tmp 112) 42 3 (by rfl) Try.underlying42 (.int .i64 0) 8 info3i (by rfl) (by decide) w4.heap.size _ (0 + pp) ([] ++ ints (F.take pp)) (by simp [Act.eval]) hown5 A (fl - P1) (cF - P1) (ints (F.drop P1)) (by simp [Act.eval]) (HDK2.out _ hg5) (ints_one _) (by omega) (Nat.le_trans (Ext.sz (((Ext.refl w4).alloc _).drew)) hsz5) ?_; intro v6 w6 hown6 hg6))
        have hE6 : Ext w4 w6 := ((((Ext.refl w4).alloc (.cells #[] 3)).drew).grown hg5 (fun k hk => by cases hk; exact Nat.le_refl _)).grown hg6 hown5.blockGe
        rw [Nat.zero_add, List.nil_append] at hown6
        obtain ⟨AF6, cap6, rfl⟩ := own_val hown6
        go_wp2
        go_roundw
        case rel =>
          have hel : pp + (fl - P1) = fl - 1 := by have := HP1.out; omega
          refine ⟨i + 1, pp + (fl - P1), cap6, cap4, AF6, some ⟨g4, 0, none⟩, R ++ [y], F.take pp ++ F.drop (pp + 1), by omega, by go_num, rfl, rfl, ?_, ?_, ?_, ?_, ?_, ?_⟩
          · exact owns_cap hown6
          · rw [HY.out, ptCs_app]; exact HO4.out.ext hE6
          · rw [ints_app, HP1.out]; exact hown6.rd
          · intro a ha
            obtain ⟨g6, h1, h2⟩ := owns_addr hown6 a ha
            refine ⟨g6, h1, by have := hE2.sz; omega, fun g h => ?_⟩
            have h' : g4 = g := Option.some.inj h
            have := owns_lt HO4.out
            omega
          · rw [hel]; exact HST.out
          · exact hE4.trans hE6
        case measure => simp [intOf]; omega
      · have kim : ¬ (i : Int) < (m : Int) := by omega
        have kimB : decide ((i : Int) < (m : Int)) = false := by simp; omega
        have hpf : 0 < fl := hfi
        have ppf : (0 : Int) < (fl : Int) := by omega
        have hlF := HT.out.2.1
        obtain ⟨gF, ox, hgx, hgz2, hcp⟩ := hRF.at_ hpf
        obtain ⟨gx, hgF, hBg, hne⟩ := hAF _ hgx
        injection hgF with h1 h2 _
        subst h1; subst h2; subst hgx
        clear hAF
        rw [ints_get F 0 (by omega), Nat.zero_add] at hcp
        have hST := HT.out.step 0 hpf
        have hyF : F[0]'(by omega) < N := HT.out.2.2.2.2 _ (List.mem_append.mpr (.inr (List.getElem_mem _)))
        generalize F[0]'(by omega) = y at *
        have HST := Lib.hid hST
        have yN : (y : Int) < (N : Int) := by omega
        have y0 : (0 : Int) ≤ (y : Int) := by omega
        obtain ⟨gL, oL, hA1, hcL⟩ := (HL.out.ext hE2).2 (by omega)
        subst hA1
        have hcy := hcL y (.string ((spreadV k r s).getD y { data := #[] })) (by rw [List.getElem?_map, List.getElem?_eq_getElem (by rw [spreadV_len, HN.out]; exact hyF), getD_at _ _ (by rw [spreadV_len, HN.out]; exact hyF)]; rfl)
        have hgL : gL < W0.heap.size := by
          obtain ⟨gq, oq, hq, hgq, _⟩ := HL.out.at_ (show y < N from hyF)
          injection hq with hq
          injection hq with hq
          omega
        have HY := Lib.hid (haveL_app (k := k) (r := r) (s := s) (R := R) y)
        generalize (spreadV k r s).getD y { data := #[] } = ty at *
        clear hfl hlF hST hcL
        go_wp2
        go_region_held3 (fun w' => w'.cell? ⟨gF, 0, none⟩ = some (.int .i64 y) ∧ w'.cell? ⟨gL, oL + y, none⟩ = some (.string ty))
          (first | exact ⟨hcp, hcy⟩ | exact ⟨d1, d2⟩ | go_keep)
          (first
            | ((refine step_app wr.drew (by rfl) _ _ 34 44 (by rfl) Try.underlying34 (ptV (0, { data := #[] })) [.int .i64 y, .string ty] 2 24 info44 (by rfl) (by rfl) (by decide) (by decide) B (.slice L i cl) i (ptCs (haveL k r s R)) (by rfl) (HO.out.ext (Ext.drew (Ext.refl _))) (fun u hu => by simp only [List.mem_cons, List.not_mem_nil, or_false] at hu; rcases hu with rfl | rfl <;> rfl) _ (by rfl) (by rfl) (by omega) (by have := hE2.sz; exact hBw) ?_; intro g4 cap4 w4 hown4 hG4 hg4; have hx4 := (Ext.drew (Ext.refl wr)).alloc (.cells #[.int .i64 y, .string ty] 44); have d1 := hg4.cell (hx4.cellv hcp) (fun e => hne gF e.symm rfl); have d2 := hg4.cell (hx4.cellv hcy) (fun e => by have := HO.out.blockGe _ e.symm; simp only at this; omega))))
        have hRF4 := Rd.far (hRF.ext hx4) hg4 (fun e => hne gF e.symm rfl)
        obtain ⟨A, hA, hAr⟩ : ∃ A : Addr, (if cF = 1 then some (⟨gF, 0, none⟩ : Addr) else some ⟨gF, 1, none⟩) = some A ∧ (1 < fl → A = ⟨gF, 0 + 1, none⟩) := by
          by_cases e : cF = 1
          · exact ⟨_, by rw [if_pos e], fun h => by omega⟩
          · exact ⟨_, by rw [if_neg e], fun h => by rw [Nat.zero_add]⟩
        have HK4 := Lib.hid (Rd.take_ hRF4 0 (by omega))
        have HO4 := Lib.hid hown4
        have HA := Lib.hid hAr
        have HST2 := Lib.hid hpf
        have hc2 : (1 : Int) ≤ (fl : Int) := by omega
        have hwr : IntKind.i64.wrap 1 = 1 := by decide
        have hc4 : fl - 1 ≤ 24 := by have := HT.out.2.2.1; omega
        have hw4 : wr.heap.size ≤ w4.heap.size := Nat.le_trans (Ext.sz hx4) hg4.size
        have HDK : (∀ w5 : World, (w4.alloc (.cells #[] 3)).drew.grownBy w5 (some w4.heap.size) → Rd w5 (some A) (fl - 1) (ints (F.drop 1))) := fun w5 h5 => by
          rw [ints_drop]
          exact Rd.drop_ (Rd.far (hRF4.ext ((Ext.refl w4).alloc _).drew) h5 (by intro e; injection e with e; omega)) 1 (by omega) HA.out
        have HDK2 := Lib.hid HDK
        have hE4 := hG4.ext (Ext.drew hE2) (by omega)
        clear hown4 hAr hRF hRF4 HDK d1 d2 hcp hcy hx4 hg4 hG4
        go_wp2
        go_region_law (first
          | (refine step_apps _ (by rfl) (.tmp 104) (.tmp 107) 42 3 (by rfl) Try.underlying42 (.int .i64 0) 8 info3i (by rfl) (by decide) w4.heap.size _ 0 [] (by simp [Act.eval]) (owns_empty w4 w4.heap.size 3 1 (Nat.le_refl _)) ⟨gF, 0, none⟩ 0 cF (ints (F.take 0)) (by simp [Act.eval]) (by rw [ints_take]; exact HK4.out.ext (((Ext.refl w4).alloc _).drew)) (ints_one _) (by omega) (Ext.sz (((Ext.refl w4).alloc _).drew)) ?_; intro v5 w5 hown5 hg5; have hsz5 := hg5.size)
          | (refine step_apps _ (by rfl) (.tmp 108) (.tmp 112) 42 3 (by rfl) Try.underlying42 (.int .i64 0) 8 info3i (by rfl) (by decide) w4.heap.size _ (0 + 0) ([] ++ ints (F.take 0)) (by simp [Act.eval]) hown5 A (fl - 1) (cF - 1) (ints (F.drop 1)) (by simp [Act.eval]) (HDK2.out _ hg5) (ints_one _) (by omega) (Nat.le_trans (Ext.sz (((Ext.refl w4).alloc _).drew)) hsz5) ?_; intro v6 w6 hown6 hg6))
        have hE6 : Ext w4 w6 := ((((Ext.refl w4).alloc (.cells #[] 3)).drew).grown hg5 (fun k hk => by cases hk; exact Nat.le_refl _)).grown hg6 hown5.blockGe
        simp only [Nat.zero_add, List.nil_append] at hown6
        obtain ⟨AF6, cap6, rfl⟩ := own_val hown6
        go_wp2
        go_roundw
        case rel =>
          refine ⟨i + 1, fl - 1, cap6, cap4, AF6, some ⟨g4, 0, none⟩, R ++ [y], F.take 0 ++ F.drop (0 + 1), by omega, by go_num, rfl, rfl, ?_, ?_, ?_, ?_, ?_, ?_⟩
          · exact owns_cap hown6
          · rw [HY.out, ptCs_app]; exact HO4.out.ext hE6
          · rw [ints_app]; exact hown6.rd
          · intro a ha
            obtain ⟨g6, h1, h2⟩ := owns_addr hown6 a ha
            refine ⟨g6, h1, by have := hE2.sz; omega, fun g h => ?_⟩
            have h' : g4 = g := Option.some.inj h
            have := owns_lt HO4.out
            omega
          · exact HST.out
          · exact hE4.trans hE6
        case measure => simp [intOf]; omega
    · obtain rfl : i = k := by omega
      obtain ⟨gH, cap, hv, hgH, hgl⟩ := hown.form (by omega)
      injection hv with hv1 _ hv3
      subst hv1
      subst hv3
      have hTx : ∀ y ∈ R, y < N := fun x hx => hT.2.2.2.2 x (List.mem_append.mpr (.inl hx))
      have hTn : R.Nodup := (List.nodup_append.mp hT.2.2.2.1).1
      have hPt := pt_owns hown (by rw [haveL_len]; exact hT.1)
      have hcp := owns_cap hown
      go_wp2
      exact HK.out _ wr R gH cl ⟨rfl, rfl, rfl, rfl, rfl, rfl, rfl⟩ HT.out.1 hTn hTx hcp hPt hE2
end Go.Proofs.Ytjdppgogdilgkaa
end
section
namespace Go.Proofs.Ytjdppgogdilgkaa
open Go.RowKit Go.Gf Go.Co Go.Conc Go.ChangeShapes Go.WideShapes Go.ChangeAt Go.Deep
set_option linter.unusedSimpArgs false
set_option linter.unusedVariables false
def TmI (s : ByteArray) (k r : Nat) (A1 : Option Addr) (N c1 gH cH i : Nat) (a : Act) : Prop :=
  a.defers = [] ∧ a.tmps.size = 170 ∧ a.tmps[0]? = some (.string s) ∧ a.tmps[9]? = some (.int .i64 k) ∧ a.tmps[10]? = some (.int .i64 r) ∧ a.tmps[11]? = some (.slice A1 N c1) ∧ a.tmps[15]? = some (.slice (some ⟨gH, 0, none⟩) k cH) ∧ a.tmps[20]? = some (.int .i64 i)
set_option maxRecDepth 100000 in
theorem TmI.lit {s : ByteArray} {k r : Nat} {A1 : Option Addr} {N c1 gH cH i : Nat} {a : Act} (h : TmI s k r A1 N c1 gH cH i a) : ∃ x : Nat → Value, a = ⟨#[.string s, x 1, x 2, x 3, x 4, x 5, x 6, x 7, x 8, .int .i64 k, .int .i64 r, .slice A1 N c1, x 12, x 13, x 14, .slice (some ⟨gH, 0, none⟩) k cH, x 16, x 17, x 18, x 19, .int .i64 i, x 21, x 22, x 23, x 24, x 25, x 26, x 27, x 28, x 29, x 30, x 31, x 32, x 33, x 34, x 35, x 36, x 37, x 38, x 39, x 40, x 41, x 42, x 43, x 44, x 45, x 46, x 47, x 48, x 49, x 50, x 51, x 52, x 53, x 54, x 55, x 56, x 57, x 58, x 59, x 60, x 61, x 62, x 63, x 64, x 65, x 66, x 67, x 68, x 69, x 70, x 71, x 72, x 73, x 74, x 75, x 76, x 77, x 78, x 79, x 80, x 81, x 82, x 83, x 84, x 85, x 86, x 87, x 88, x 89, x 90, x 91, x 92, x 93, x 94, x 95, x 96, x 97, x 98, x 99, x 100, x 101, x 102, x 103, x 104, x 105, x 106, x 107, x 108, x 109, x 110, x 111, x 112, x 113, x 114, x 115, x 116, x 117, x 118, x 119, x 120, x 121, x 122, x 123, x 124, x 125, x 126, x 127, x 128, x 129, x 130, x 131, x 132, x 133, x 134, x 135, x 136, x 137, x 138, x 139, x 140, x 141, x 142, x 143, x 144, x 145, x 146, x 147, x 148, x 149, x 150, x 151, x 152, x 153, x 154, x 155, x 156, x 157, x 158, x 159, x 160, x 161, x 162, x 163, x 164, x 165, x 166, x 167, x 168, x 169], []⟩ := by
  obtain ⟨T, ds⟩ := a
  obtain ⟨h1, h2, t0, t9, t10, t11, t15, t20⟩ := h
  simp only at h1 h2 t0 t9 t10 t11 t15 t20
  subst h1
  obtain ⟨x, rfl⟩ := tmps170 T h2
  refine ⟨x, ?_⟩
  have e0 : x 0 = .string s := Option.some.inj t0
  have e9 : x 9 = .int .i64 k := Option.some.inj t9
  have e10 : x 10 = .int .i64 r := Option.some.inj t10
  have e11 : x 11 = .slice A1 N c1 := Option.some.inj t11
  have e15 : x 15 = .slice (some ⟨gH, 0, none⟩) k cH := Option.some.inj t15
  have e20 : x 20 = .int .i64 i := Option.some.inj t20
  rw [e0, e9, e10, e11, e15, e20]
theorem info_i0 : ∃ i0, Try.prog.info? 3 = some i0 ∧ i0.zero = some (.int .i64 0) ∧ i0.size = 1 ∧ i0.bytes = 8 := by
  obtain ⟨i0, h1, h2, h3, h4⟩ := info_parts info3i
  exact ⟨i0, h1, h2, h3, h4⟩
theorem _root_.Go.Ext.ntx {w1 w2 w3 : World} {T : Tape} {D : Nat} (h : Ext w1 w2) (k : Ext (tp w1 T D) w3) : Ext w1 (nt w2 w3) := ⟨k.os, h.tape, k.output, k.size, k.block⟩
theorem _root_.Go.Ext.tpp {w w' : World} (h : Ext w w') (T : Tape) (D : Nat) : Ext (tp w T D) (tp w' T D) := ⟨h.os, rfl, h.output, h.size, h.block⟩
set_option maxHeartbeats 8000000 in
set_option maxRecDepth 100000 in
theorem codeAny_C {n0 : Nat} (hE : NoEarly Try.prog n0) (s : ByteArray) (p q : Int) {C : Option Addr} {m cC : Nat} {ch : List Int} {w : World} (hp : 0 ≤ p ∧ p ≤ 255) (hq : 0 ≤ q ∧ q ≤ 255) (hr : Rd w C m (ch.map (Value.int .u8))) (hw : ∀ z ∈ ch, 0 ≤ z ∧ z ≤ 255) : CallsB n0 Try.prog 5 #[.string s, .int .u8 p, .int .u8 q, .slice C m cC] w (YesB w) := by
  obtain ⟨p0, p1⟩ := hp
  obtain ⟨q0, q1⟩ := hq
  by_cases hs : s.size ≤ 512
  · have d1 : decide ((512 : Int) < (s.size : Int)) = false := by simp; omega
    have d1' : ¬ (512 : Int) < (s.size : Int) := by omega
    by_cases hm100 : m ≤ 100
    · have d2 : decide ((100 : Int) < (m : Int)) = false := by simp; omega
      have d2' : ¬ (100 : Int) < (m : Int) := by omega
      obtain ⟨k, hk, k1, k2⟩ : ∃ k : Nat, 1 + p % 9 = (k : Int) ∧ 1 ≤ k ∧ k ≤ 9 := ⟨(1 + p % 9).toNat, by omega, by omega, by omega⟩
      obtain ⟨r, hq5, r2⟩ : ∃ r : Nat, q % 5 = (r : Int) ∧ r ≤ 4 := ⟨(q % 5).toNat, by omega, by omega⟩
      obtain ⟨N, hN⟩ : ∃ N, k + r = N := ⟨_, rfl⟩
      have kN : IntKind.i64.wrap (N : Int) = (N : Int) := IntWalk.i64_in _ (by omega)
      have kN' : (k : Int) + (r : Int) = (N : Int) := by omega
      have N2 : N ≤ 13 := by omega
      have hkr : k + r ≤ 32 := by omega
      have hz : s.size ≤ 1048000 := by omega
      have HN := Lib.hid hN
      clear hN
      refine callsB_of_wp Try.func5 rfl ?_
      simp only [Try.ntmps5, List.size_toArray, List.length_cons, List.length_nil, Nat.reduceAdd, Nat.reduceSub, Array.replicate_succ, Array.replicate_zero, List.push_toArray, List.append_toArray, List.nil_append, List.cons_append]
      refine wpB_seq ?_
      refine wpB_region ?_
      simp only [List.size_toArray, List.length_cons, List.length_nil, Nat.reduceAdd, Nat.zero_add, List.range, List.range.loop]
      (refine opsB_k bodT rfl (by rfl) (by rfl) ?_; intro T D K hK; go_simp; refine hK _ _ ?_; clear hK K; refine opsB.tape T D ?_)
      refine opsB_nil ?_
      simp only [Nx]
      refine wpB_seq ?_
      refine wpB_seq ?_
      refine wpB_region ?_
      simp only [List.size_toArray, List.length_cons, List.length_nil, Nat.reduceAdd, Nat.zero_add, List.range, List.range.loop]
      iterate 8 (refine opsB_k bodT rfl (by rfl) (by rfl) ?_; intro T D K hK; go_simp; refine hK _ _ ?_; clear hK K; refine opsB.tape T D ?_)
      refine opsB_nil ?_
      simp only [Nx]
      refine wpB_cond (t := false) (by first | rfl | simp [Act.eval, *]) ?_
      simp only [Bool.false_eq_true, if_true, if_false, reduceIte]
      refine wpB_skip ?_
      simp only [Nx]
      refine wpB_loneK tameT hE (by decide +kernel) rfl (fun T D K hK => ?_)
      have HK := Lib.hid hK
      clear hK
      go_wp2
      refine HK.out _ _ ?_
      clear HK K
      refine wpB.tape (w := w) w.tape D ?_
      refine wpB_loneK tameT hE (by decide +kernel) rfl (fun T D K hK => ?_)
      have HK := Lib.hid hK
      clear hK
      go_wp2
      refine HK.out _ _ ?_
      clear HK K
      refine wpB.tape (w := w) w.tape D ?_
      refine wpB_seq ?_
      refine wpB_region ?_
      simp only [List.size_toArray, List.length_cons, List.length_nil, Nat.reduceAdd, Nat.zero_add, List.range, List.range.loop]
      iterate 3 (refine opsB_k bodT rfl (by rfl) (by rfl) ?_; intro T D K hK; go_simp; refine hK _ _ ?_; clear hK K; refine opsB.tape T D ?_)
      refine opsB_callOf (f := 10) (av := #[.int .i64 k, .int .i64 r, .string s]) rfl (by rfl) rfl Try.func10 (by rfl) (by decide +kernel) (by simp [Act.eval]) (spread_n hE HN.out k1 hkr hz) ?_
      rintro v w1 ⟨A1, c1, rfl, hr1, hE1⟩
      simp only [Act.put, List.getElem_toArray, List.getElem_cons_zero, List.getElem_cons_succ, List.setIfInBounds_toArray, List.set_cons_zero, List.set_cons_succ]
      iterate 5 (refine opsB_k bodT rfl (by rfl) (by rfl) ?_; intro T D K hK; go_simp; refine hK _ _ ?_; clear hK K; refine opsB.tape T D ?_)
      refine opsB_nil ?_
      simp only [Nx]
      refine wpB_seq ?_
      refine wpB_seq ?_
      refine wpB_region ?_
      simp only [List.size_toArray, List.length_cons, List.length_nil, Nat.reduceAdd, Nat.zero_add, List.range, List.range.loop]
      iterate 10 (refine opsB_k bodT rfl (by rfl) (by rfl) ?_; intro T D K hK; go_simp; refine hK _ _ ?_; clear hK K; refine opsB.tape T D ?_)
      refine opsB_nil ?_
      simp only [Nx]
      refine wpB_cond (t := false) (by first | rfl | simp [Act.eval, *]) ?_
      simp only [Bool.false_eq_true, if_true, if_false, reduceIte]
      refine wpB_skip ?_
      simp only [Nx]
      refine wpB_loneK tameT hE (by decide +kernel) rfl (fun T D K hK => ?_)
      have HK := Lib.hid hK
      have HR1 := Lib.hid hr1
      clear hK hr1
      obtain ⟨i0, hi0, hz0, hz1, hz2⟩ := info_i0
      go_wp2_with (first
        | (at_make; refine wpList_make_tab rfl _ _ 42 rfl 3 i0 (.int .i64 0) Try.underlying42 hi0 hz0 hz1 rfl _ _ N rfl rfl (by rw [hz2]; omega) (by omega) ?_))
      have hbn : CellsAt (nt w1 ((tp w1 T D).alloc (.cells (tabA N (fun _ => Value.int .i64 0)) 3))) (tp w1 T D).heap.size N (fun _ => .int .i64 0) :=
        ⟨3, _, by rw [tabA_size]; exact Nat.le_refl _, (Blk.new _ _ _).m, fun j hj => by rw [tabA_at N _ j hj]⟩
      have hE2 : Ext w1 (nt w1 ((tp w1 T D).alloc (.cells (tabA N (fun _ => Value.int .i64 0)) 3))) := Ext.nt ((Ext.refl _).alloc _)
      refine HK.out _ _ ?_
      clear HK K
      have hr1 := HR1.out
      generalize nt w1 ((tp w1 T D).alloc (.cells (tabA N (fun _ => Value.int .i64 0)) 3)) = w2 at *
      obtain ⟨g, hg⟩ : ∃ g, g = (tp w1 T D).heap.size := ⟨_, rfl⟩
      rw [← hg] at hbn ⊢
      have hge : w1.heap.size ≤ g := by rw [hg]; exact Nat.le_refl _
      clear hg hi0 hz0 hz1 hz2 HR1
      refine wpB_loneK tameT hE (by decide +kernel) rfl (fun T D K hK => ?_)
      refine frees_wp (W0 := tp w1 T D) (W := tp w2 T D) N2 ⟨rfl, rfl, rfl, rfl, rfl, rfl, rfl, rfl⟩ (hE2.tpp T D) hbn hge (fun a' w3 hTm hF hgz hE3 => ?_)
      refine hK a' w3 ?_
      clear hK K
      obtain ⟨T', ds⟩ := a'
      obtain ⟨h1, h2, t0, t3, t9, t10, t11, t13⟩ := hTm
      simp only at h1 h2 t0 t3 t9 t10 t11 t13
      subst h1
      obtain ⟨x, rfl⟩ := tmps170 T' h2
      have e0 : x 0 = .string s := Option.some.inj t0
      have e3 : x 3 = .slice C m cC := Option.some.inj t3
      have e9 : x 9 = .int .i64 k := Option.some.inj t9
      have e10 : x 10 = .int .i64 r := Option.some.inj t10
      have e11 : x 11 = .slice A1 N c1 := Option.some.inj t11
      have e13 : x 13 = .slice (some ⟨g, 0, none⟩) N N := Option.some.inj t13
      rw [e0, e3, e9, e10, e11, e13]
      clear h2 t0 e0 t3 e3 t9 e9 t10 e10 t11 e11 t13 e13
      have hE3 := hE2.ntx hE3
      replace hF : Rd (nt w2 w3) (some ⟨g, 0, none⟩) N (ints (List.range N)) := hF
      clear hE2 hbn hgz
      generalize nt w2 w3 = w3 at *
      refine wpB_seq ?_
      refine wpB_region ?_
      simp only [List.size_toArray, List.length_cons, List.length_nil, Nat.reduceAdd, Nat.zero_add, List.range, List.range.loop]
      (refine opsB_k bodT rfl (by rfl) (by rfl) ?_; intro T D K hK; go_simp; refine hK _ _ ?_; clear hK K; refine opsB.tape T D ?_)
      refine opsB_nil ?_
      simp only [Nx]
      have hrC := hr.ext hE1
      refine wpB_loneK tameT hE (by decide +kernel) rfl (fun T D K hK => ?_)
      refine picks_wp (c1 := c1) (cC := cC) (W0 := tp w1 T D) (W := tp w3 T D) k1 k2 HN.out N2 hm100 ?tm (hE3.tpp T D) hrC hw hr1 hF hge (fun a' w4 R gH cH hTm hl hnd hlt hcH hP hE4 => ?_)
      case tm => exact ⟨rfl, rfl, rfl, rfl, rfl, rfl, rfl, rfl, rfl⟩
      refine hK a' w4 ?_
      clear hK K
      obtain ⟨x, rfl⟩ := hTm.lit
      clear hTm
      have hE4 := hE3.ntx hE4
      replace hP : PtRd (nt w3 w4) (some ⟨gH, 0, none⟩) k (haveL k r s R) := hP
      clear hF hE3
      generalize nt w3 w4 = w4 at *
      replace hr1 := hr1.ext hE4
      replace hE1 := hE1.trans hE4
      clear hE4
      have hlt' : ∀ y ∈ R, y < k + r := fun y hy => by rw [HN.out]; exact hlt y hy
      refine wpB_seq ?_
      refine wpB_region ?_
      simp only [List.size_toArray, List.length_cons, List.length_nil, Nat.reduceAdd, Nat.zero_add, List.range, List.range.loop]
      iterate 5 (refine opsB_k bodT rfl (by rfl) (by rfl) ?_; intro T D K hK; go_simp; refine hK _ _ ?_; clear hK K; refine opsB.tape T D ?_)
      refine opsB_callOf (f := 16) (av := #[.int .i64 k, .int .i64 r, .int .i64 s.size, .slice (some ⟨gH, 0, none⟩) k cH]) rfl (by rfl) rfl Try.func16 (by rfl) (by decide +kernel) (by simp [Act.eval]) (have_gath hE k1 hkr hs hlt' hnd hP (by omega) hl) ?_
      rintro v w5 ⟨rfl, hE5⟩
      simp only [Act.put, List.getElem_toArray, List.getElem_cons_zero, List.getElem_cons_succ, List.setIfInBounds_toArray, List.set_cons_zero, List.set_cons_succ]
      iterate 5 (refine opsB_k bodT rfl (by rfl) (by rfl) ?_; intro T D K hK; go_simp; refine hK _ _ ?_; clear hK K; refine opsB.tape T D ?_)
      refine opsB_nil ?_
      simp only [Nx]
      replace hP := hP.ext hE5
      replace hr1 := hr1.ext hE5
      replace hE1 := hE1.trans hE5
      clear hE5
      refine wpB_seq ?_
      refine wpB_seq ?_
      refine wpB_region ?_
      simp only [List.size_toArray, List.length_cons, List.length_nil, Nat.reduceAdd, Nat.zero_add, List.range, List.range.loop]
      iterate 7 (refine opsB_k bodT rfl (by rfl) (by rfl) ?_; intro T D K hK; go_simp; refine hK _ _ ?_; clear hK K; refine opsB.tape T D ?_)
      refine opsB_nil ?_
      simp only [Nx]
      refine wpB_cond (t := false) (by first | rfl | simp [Act.eval, *]) ?_
      simp only [Bool.false_eq_true, if_true, if_false, reduceIte]
      refine wpB_skip ?_
      simp only [Nx]
      refine wpB_seq ?_
      refine wpB_seq ?_
      refine wpB_region ?_
      simp only [List.size_toArray, List.length_cons, List.length_nil, Nat.reduceAdd, Nat.zero_add, List.range, List.range.loop]
      (refine opsB_k bodT rfl (by rfl) (by rfl) ?_; intro T D K hK; go_simp; refine hK _ _ ?_; clear hK K; refine opsB.tape T D ?_)
      refine opsB_nil ?_
      simp only [Nx]
      refine wpB_block ?_
      refine wpB_loop (fun μ a w6 => ∃ i : Nat, i ≤ N ∧ μ = N - i ∧ TmI s k r A1 N c1 gH cH i a ∧ PtRd w6 (some ⟨gH, 0, none⟩) k (haveL k r s R) ∧ Rd w6 A1 N ((spreadV k r s).map Value.string) ∧ Ext w w6) N ⟨0, by omega, rfl, ⟨rfl, rfl, rfl, rfl, rfl, rfl, rfl, rfl⟩, hP, hr1, hE1⟩ ?_
      clear hP hr1 hE1
      rintro μ a w6 ⟨i, hi, rfl, hTm, hP, hr1, hE1⟩
      obtain ⟨x, rfl⟩ := hTm.lit
      clear hTm
      by_cases hi2 : i < N
      · have d1 : decide ((i : Int) < (N : Int)) = true := by simp; omega
        have i9 : IntKind.i64.wrap ((i : Int) + 1) = (i : Int) + 1 := IntWalk.i64_in _ (by omega)
        obtain ⟨ty, hty⟩ : ∃ ty, (spreadV k r s).getD i { data := #[] } = ty := ⟨_, rfl⟩
        have HTY := Lib.hid hty
        clear hty
        refine wpB_seq ?_
        refine wpB_seq ?_
        refine wpB_region ?_
        simp only [List.size_toArray, List.length_cons, List.length_nil, Nat.reduceAdd, Nat.zero_add, List.range, List.range.loop]
        iterate 5 (refine opsB_k bodT rfl (by rfl) (by rfl) ?_; intro T D K hK; go_simp; refine hK _ _ ?_; clear hK K; refine opsB.tape T D ?_)
        refine opsB_nil ?_
        simp only [Nx]
        refine wpB_cond (t := true) (by first | rfl | simp [Act.eval, *]) ?_
        simp only [Bool.false_eq_true, if_true, if_false, reduceIte]
        refine wpB_skip ?_
        simp only [Nx]
        refine wpB_seq ?_
        refine wpB_block ?_
        refine wpB_seq ?_
        refine wpB_region ?_
        simp only [List.size_toArray, List.length_cons, List.length_nil, Nat.reduceAdd, Nat.zero_add, List.range, List.range.loop]
        iterate 4 (refine opsB_k bodT rfl (by rfl) (by rfl) ?_; intro T D K hK; go_simp; refine hK _ _ ?_; clear hK K; refine opsB.tape T D ?_)
        refine opsB_callOf (f := 18) (av := #[.int .i64 k, .int .i64 r, .int .i64 i, .slice (some ⟨gH, 0, none⟩) k cH]) rfl (by rfl) rfl Try.func18 (by rfl) (by decide +kernel) (by simp [Act.eval]) (by have := have_again hE k1 hkr hs hlt' hnd hP (by omega) hl (i := i) (c := cH) (by rw [HN.out]; exact hi2); rw [HTY.out] at this; exact this) ?_
        rintro v w7 ⟨rfl, hE7⟩
        simp only [Act.put, List.getElem_toArray, List.getElem_cons_zero, List.getElem_cons_succ, List.setIfInBounds_toArray, List.set_cons_zero, List.set_cons_succ]
        iterate 5 (refine opsB_k bodT rfl (by rfl) (by rfl) ?_; intro T D K hK; go_simp; refine hK _ _ ?_; clear hK K; refine opsB.tape T D ?_)
        refine opsB_nil ?_
        simp only [Nx]
        replace hP := hP.ext hE7
        replace hr1 := hr1.ext hE7
        replace hE1 := hE1.trans hE7
        clear hE7
        obtain ⟨gL, oL, hA1, hgL, hcy⟩ := hr1.at_ hi2
        subst hA1
        have hcy' : ∀ T D, (tp w7 T D).cell? ⟨gL, oL + i, none⟩ = some (.string ty) := fun T D => by
          show w7.cell? _ = _
          rw [hcy, List.getElem_map, ← HTY.out, getD_at _ _ (by rw [spreadV_len, HN.out]; exact hi2)]
        clear hcy
        have i0 : (0 : Int) ≤ (i : Int) := by omega
        have iN : (i : Int) < (N : Int) := by omega
        refine wpB_seq ?_
        refine wpB_region ?_
        simp only [List.size_toArray, List.length_cons, List.length_nil, Nat.reduceAdd, Nat.zero_add, List.range, List.range.loop]
        iterate 10 (refine opsB_k bodT rfl (by rfl) (by rfl) ?_; intro T D K hK; go_simp; refine hK _ _ ?_; clear hK K; refine opsB.tape T D ?_)
        refine opsB_nil ?_
        simp only [Nx]
        refine wpB_cond (t := false) (by first | rfl | simp [Act.eval, *]) ?_
        simp only [Bool.false_eq_true, if_true, if_false, reduceIte]
        refine wpB_skip ?_
        simp only [Nx, Bl]
        refine wpB_region ?_
        simp only [List.size_toArray, List.length_cons, List.length_nil, Nat.reduceAdd, Nat.zero_add, List.range, List.range.loop]
        iterate 3 (refine opsB_k bodT rfl (by rfl) (by rfl) ?_; intro T D K hK; go_simp; refine hK _ _ ?_; clear hK K; refine opsB.tape T D ?_)
        refine opsB_nil ?_
        simp only [Nx]
        exact ⟨N - (i + 1), by omega, i + 1, by omega, rfl, ⟨rfl, rfl, rfl, rfl, rfl, rfl, rfl, rfl⟩, hP, hr1, hE1⟩
      · obtain rfl : N = i := by omega
        have d1 : decide ((N : Int) < (N : Int)) = false := by simp
        refine wpB_seq ?_
        refine wpB_seq ?_
        refine wpB_region ?_
        simp only [List.size_toArray, List.length_cons, List.length_nil, Nat.reduceAdd, Nat.zero_add, List.range, List.range.loop]
        iterate 5 (refine opsB_k bodT rfl (by rfl) (by rfl) ?_; intro T D K hK; go_simp; refine hK _ _ ?_; clear hK K; refine opsB.tape T D ?_)
        refine opsB_nil ?_
        simp only [Nx]
        refine wpB_cond (t := false) (by first | rfl | simp [Act.eval, *]) ?_
        simp only [Bool.false_eq_true, if_true, if_false, reduceIte]
        refine wpB_exit ?_
        simp only [Nx, Bl, if_true]
        have p1 : (1 : Int) ≤ (k : Int) := by omega
        have p2 : (k : Int) ≤ (cH : Int) := by omega
        have p3 : (1 : Int) ≤ (cH : Int) := by omega
        refine wpB_seq ?_
        refine wpB_region ?_
        simp only [List.size_toArray, List.length_cons, List.length_nil, Nat.reduceAdd, Nat.zero_add, List.range, List.range.loop]
        iterate 6 (refine opsB_k bodT rfl (by rfl) (by rfl) ?_; intro T D K hK; go_simp; refine hK _ _ ?_; clear hK K; refine opsB.tape T D ?_)
        have hPt := hP.tail (A := if cH = 1 then some ⟨gH, 0, none⟩ else some ⟨gH, 2, none⟩) (by omega) (fun h => by rw [if_neg (by omega)])
        rw [haveL_drop] at hPt
        have hndt : (R.drop 1).Nodup := hnd.sublist (List.drop_sublist _ _)
        have hltt : ∀ y ∈ R.drop 1, y < k + r := fun y hy => hlt' y (List.mem_of_mem_drop hy)
        have hlt2 : (R.drop 1).length < k := by rw [List.length_drop]; omega
        refine opsB_callOf (f := 16) (av := #[.int .i64 k, .int .i64 r, .int .i64 s.size, .slice (if cH = 1 then some ⟨gH, 0, none⟩ else some ⟨gH, 2, none⟩) (k - 1) (cH - 1)]) rfl (by rfl) rfl Try.func16 (by rfl) (by decide +kernel) (by simp [Act.eval]) (have_few hE k1 hkr hs hltt hndt hPt (by omega) hlt2) ?_
        rintro v w8 ⟨rfl, hE8⟩
        simp only [Act.put, List.getElem_toArray, List.getElem_cons_zero, List.getElem_cons_succ, List.setIfInBounds_toArray, List.set_cons_zero, List.set_cons_succ]
        iterate 5 (refine opsB_k bodT rfl (by rfl) (by rfl) ?_; intro T D K hK; go_simp; refine hK _ _ ?_; clear hK K; refine opsB.tape T D ?_)
        refine opsB_nil ?_
        simp only [Nx]
        refine wpB_seq ?_
        refine wpB_region ?_
        simp only [List.size_toArray, List.length_cons, List.length_nil, Nat.reduceAdd, Nat.zero_add, List.range, List.range.loop]
        iterate 3 (refine opsB_k bodT rfl (by rfl) (by rfl) ?_; intro T D K hK; go_simp; refine hK _ _ ?_; clear hK K; refine opsB.tape T D ?_)
        refine opsB_callOf (f := 7) (av := #[]) rfl (by rfl) rfl Try.func7 (by rfl) (by decide +kernel) (by simp [Act.eval]) (alive_B hE) ?_
        rintro v w9 ⟨rfl, hE9⟩
        simp only [Act.put, List.getElem_toArray, List.getElem_cons_zero, List.getElem_cons_succ, List.setIfInBounds_toArray, List.set_cons_zero, List.set_cons_succ]
        iterate 2 (refine opsB_k bodT rfl (by rfl) (by rfl) ?_; intro T D K hK; go_simp; refine hK _ _ ?_; clear hK K; refine opsB.tape T D ?_)
        refine opsB_nil ?_
        simp only [Nx]
        refine wpB_ret ?_
        exact bodyB_ret rfl (results_tmp1 rfl rfl _) (⟨rfl, hE1.trans (hE8.trans hE9)⟩)
    · have d2 : decide ((100 : Int) < (m : Int)) = true := by simp; omega
      have d2' : (100 : Int) < (m : Int) := by omega
      clear hm100
      refine callsB_of_wp Try.func5 rfl ?_
      simp only [Try.ntmps5, List.size_toArray, List.length_cons, List.length_nil, Nat.reduceAdd, Nat.reduceSub, Array.replicate_succ, Array.replicate_zero, List.push_toArray, List.append_toArray, List.nil_append, List.cons_append]
      refine wpB_seq ?_
      refine wpB_region ?_
      simp only [List.size_toArray, List.length_cons, List.length_nil, Nat.reduceAdd, Nat.zero_add, List.range, List.range.loop]
      (refine opsB_k bodT rfl (by rfl) (by rfl) ?_; intro T D K hK; go_simp; refine hK _ _ ?_; clear hK K; refine opsB.tape T D ?_)
      refine opsB_nil ?_
      simp only [Nx]
      refine wpB_seq ?_
      refine wpB_seq ?_
      refine wpB_region ?_
      simp only [List.size_toArray, List.length_cons, List.length_nil, Nat.reduceAdd, Nat.zero_add, List.range, List.range.loop]
      iterate 8 (refine opsB_k bodT rfl (by rfl) (by rfl) ?_; intro T D K hK; go_simp; refine hK _ _ ?_; clear hK K; refine opsB.tape T D ?_)
      refine opsB_nil ?_
      simp only [Nx]
      refine wpB_cond (t := true) (by first | rfl | simp [Act.eval, *]) ?_
      simp only [Bool.false_eq_true, if_true, if_false, reduceIte]
      refine wpB_seq ?_
      refine wpB_region ?_
      simp only [List.size_toArray, List.length_cons, List.length_nil, Nat.reduceAdd, Nat.zero_add, List.range, List.range.loop]
      refine opsB_callOf (f := 7) (av := #[]) rfl (by rfl) rfl Try.func7 (by rfl) (by decide +kernel) (by simp [Act.eval]) (alive_B hE) ?_
      rintro v w1 ⟨rfl, hE1⟩
      simp only [Act.put, List.getElem_toArray, List.getElem_cons_zero, List.getElem_cons_succ, List.setIfInBounds_toArray, List.set_cons_zero, List.set_cons_succ]
      (refine opsB_k bodT rfl (by rfl) (by rfl) ?_; intro T D K hK; go_simp; refine hK _ _ ?_; clear hK K; refine opsB.tape T D ?_)
      refine opsB_nil ?_
      simp only [Nx]
      refine wpB_ret ?_
      exact bodyB_ret rfl (results_tmp1 rfl rfl _) (⟨rfl, hE1⟩)
  · have d1 : decide ((512 : Int) < (s.size : Int)) = true := by simp; omega
    have d1' : (512 : Int) < (s.size : Int) := by omega
    clear hs
    refine callsB_of_wp Try.func5 rfl ?_
    simp only [Try.ntmps5, List.size_toArray, List.length_cons, List.length_nil, Nat.reduceAdd, Nat.reduceSub, Array.replicate_succ, Array.replicate_zero, List.push_toArray, List.append_toArray, List.nil_append, List.cons_append]
    refine wpB_seq ?_
    refine wpB_region ?_
    simp only [List.size_toArray, List.length_cons, List.length_nil, Nat.reduceAdd, Nat.zero_add, List.range, List.range.loop]
    (refine opsB_k bodT rfl (by rfl) (by rfl) ?_; intro T D K hK; go_simp; refine hK _ _ ?_; clear hK K; refine opsB.tape T D ?_)
    refine opsB_nil ?_
    simp only [Nx]
    refine wpB_seq ?_
    refine wpB_seq ?_
    refine wpB_region ?_
    simp only [List.size_toArray, List.length_cons, List.length_nil, Nat.reduceAdd, Nat.zero_add, List.range, List.range.loop]
    iterate 4 (refine opsB_k bodT rfl (by rfl) (by rfl) ?_; intro T D K hK; go_simp; refine hK _ _ ?_; clear hK K; refine opsB.tape T D ?_)
    refine opsB_unwanted rfl (by rfl) ?_
    simp only [Act.put, List.getElem_toArray, List.getElem_cons_zero, List.getElem_cons_succ, List.setIfInBounds_toArray, List.set_cons_zero, List.set_cons_succ]
    refine opsB_unwanted rfl (by rfl) ?_
    simp only [Act.put, List.getElem_toArray, List.getElem_cons_zero, List.getElem_cons_succ, List.setIfInBounds_toArray, List.set_cons_zero, List.set_cons_succ]
    refine opsB_unwanted rfl (by rfl) ?_
    simp only [Act.put, List.getElem_toArray, List.getElem_cons_zero, List.getElem_cons_succ, List.setIfInBounds_toArray, List.set_cons_zero, List.set_cons_succ]
    (refine opsB_k bodT rfl (by rfl) (by rfl) ?_; intro T D K hK; go_simp; refine hK _ _ ?_; clear hK K; refine opsB.tape T D ?_)
    refine opsB_nil ?_
    simp only [Nx]
    refine wpB_cond (t := true) (by first | rfl | simp [Act.eval, *]) ?_
    simp only [Bool.false_eq_true, if_true, if_false, reduceIte]
    refine wpB_seq ?_
    refine wpB_region ?_
    simp only [List.size_toArray, List.length_cons, List.length_nil, Nat.reduceAdd, Nat.zero_add, List.range, List.range.loop]
    refine opsB_callOf (f := 7) (av := #[]) rfl (by rfl) rfl Try.func7 (by rfl) (by decide +kernel) (by simp [Act.eval]) (alive_B hE) ?_
    rintro v w1 ⟨rfl, hE1⟩
    simp only [Act.put, List.getElem_toArray, List.getElem_cons_zero, List.getElem_cons_succ, List.setIfInBounds_toArray, List.set_cons_zero, List.set_cons_succ]
    (refine opsB_k bodT rfl (by rfl) (by rfl) ?_; intro T D K hK; go_simp; refine hK _ _ ?_; clear hK K; refine opsB.tape T D ?_)
    refine opsB_nil ?_
    simp only [Nx]
    refine wpB_ret ?_
    exact bodyB_ret rfl (results_tmp1 rfl rfl _) (⟨rfl, hE1⟩)
theorem u8_bd {n : Int} (h : (Lit.int .u8 n).wf = true) : 0 ≤ n ∧ n ≤ 255 := by
  have h0 : IntKind.u8.min ≤ n ∧ n ≤ IntKind.u8.max := by simpa [Lit.wf] using h
  exact h0
theorem codeAny_B {n0 : Nat} (hE : NoEarly Try.prog n0) (s : ByteArray) (p q : Int) (C : Option Addr) (m cC : Nat) (ch : List Int) (w : World) (_ : s.size ≤ maxLen) (hp : (Lit.int .u8 p).wf = true) (hq : (Lit.int .u8 q).wf = true) (hr : Rd w C m (ch.map (Value.int .u8))) (_ : m ≤ maxLen) (hw : ∀ z ∈ ch, (Lit.int .u8 z).wf = true) : CallsB n0 Try.prog 5 #[.string s, .int .u8 p, .int .u8 q, .slice C m cC] w (YesB w) :=
  codeAny_C hE s p q (u8_bd hp) (u8_bd hq) hr fun z hz => u8_bd (hw z hz)
end Go.Proofs.Ytjdppgogdilgkaa
end
