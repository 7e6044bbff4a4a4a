import Derived.Test.YtpengejnjmicnaaU10
import Derived.SizedLaws
namespace Go.Proofs.Ytpengejnjmicnaa
open Go.RowKit Go.Nb Go.ChangeShapes Go.WideShapes Go.ChangeAt Go.Deep
section
variable {H : Type} {enc : TypeId × Value → H} {w : World} {base : Nat} {spare : Nat → Bool} {held : Bool}
/-- All that is read of this type is within the reading's bound. -/
def Sz (t : TypeId) (d : DataW H) : Prop := ∀ n ∈ d.weights Try.prog t, n ≤ reachBytes
theorem weightsAll_mem {e : TypeId} : ∀ {l : List (DataW H)} {d : DataW H}, d ∈ l → ∀ n ∈ d.weights Try.prog e, n ∈ DataW.weightsAll Try.prog e l
  | x :: l, d, h, n, hn => by
    rw [DataW.weightsAll, List.mem_append]
    rcases List.mem_cons.mp h with rfl | h
    · exact .inl hn
    · exact .inr (weightsAll_mem h n hn)
theorem Sz.elem {t e : TypeId} (ht : Try.prog.underlying t = some (.slice e)) {l s : List (DataW H)} (h : Sz t (.slice l s)) : ∀ d ∈ l, Sz e d := by
  unfold Sz at h
  rw [DataW.weights, ht] at h
  exact fun d hd n hn => h n (List.mem_cons_of_mem _ (List.mem_append_left _ (weightsAll_mem hd n hn)))
theorem weights_agg2 {t a b : TypeId} {f0 f1 : Field} (ht : Try.prog.underlying t = some (.struct #[f0, f1])) (ha : f0.type = a) (hb : f1.type = b) {x y : DataW H} (h : Sz t (.agg [x, y])) : Sz a x ∧ Sz b y := by
  subst ha hb
  unfold Sz at h
  rw [DataW.weights, ht] at h
  simp only [List.map, DataW.weightsEach, List.append_nil] at h
  exact ⟨fun n hn => h n (List.mem_append_left _ hn), fun n hn => h n (List.mem_append_right _ hn)⟩
theorem Sz.str {t : TypeId} {bs : List UInt8} (h : Sz (H := H) t (.lit (.string bs))) : bs.length ≤ reachBytes := h _ (by rw [DataW.weights]; exact List.mem_singleton.2 rfl)
theorem size_t22 {A : Option Addr} {n c : Nat} {d : DataW H} {ps : List MemPlace} (h : DataW.Trod enc Try.prog w base spare held 22 (.slice A n c) d ps)
    {l : List Pr} (hl : PRd w A n l) (hs : Sz 22 d) : ∀ x ∈ l, x.k.length ≤ 2 ^ 47 ∧ x.v.length ≤ 2 ^ 47 := by
  obtain ⟨fuel, hf⟩ := h
  rcases open_slice Try.underlying22 hf with ⟨hcs, _⟩ | ⟨a, len', cap', m, n', D, Pl, hcs, _, hl2, hm, hmm, hx, hi⟩
  · simp [Value.cells] at hcs
    obtain ⟨rfl, rfl, rfl⟩ := hcs
    intro x hx
    rw [List.eq_nil_of_length_eq_zero hl.1] at hx
    cases hx
  · simp [Value.cells] at hcs
    obtain ⟨rfl, rfl, rfl⟩ := hcs
    have hlm : n ≤ m := by rw [hmm]; split <;> omega
    rw [Prod.mk.injEq] at hx
    rw [hx.1] at hs
    intro x hxl
    obtain ⟨i, hil, rfl⟩ := List.getElem_of_mem hxl
    have hin : i < n := by rw [← hl.1]; exact hil
    obtain ⟨cs', hc, ht⟩ := hi i (by omega)
    have hD : Sz 53 (D i) := hs.elem Try.underlying22 _ (List.mem_map.2 ⟨i, List.mem_range.2 hin, rfl⟩)
    obtain ⟨y0, y1, n2, he, hlen, h0, h1⟩ := trod_struct2 Try.underlying53 ht
    obtain ⟨s0, e0, f0, _⟩ := DataW.trod_string Try.underlying9 h0
    obtain ⟨s1, e1, f1, _⟩ := DataW.trod_string Try.underlying9 h1
    have hcell : Try.prog.cellsOf 53 = 2 := by kernel_rfl
    have hc9 : Try.prog.cellsOf 9 = 1 := by kernel_rfl
    rw [hcell] at hc hlen
    have g0 : (cs'.drop 0).take 1 = [.string s0] := by have := e0; rwa [hc9] at this
    have g1 : (cs'.drop 1).take 1 = [.string s1] := by have := e1; rwa [hc9] at this
    obtain ⟨v0, v1, rfl⟩ := two_of hlen
    have g0' : v0 = .string s0 := by simpa using g0
    have g1' : v1 = .string s1 := by simpa using g1
    subst g0' g1'
    obtain ⟨_, hcl, hat⟩ := World.cells?_some hc
    have p0 := hat (i := 0) (by omega)
    have p1 := hat (i := 1) (by omega)
    obtain ⟨g, o, hga, q0, q1⟩ := hl.at_ i hin
    have hga' : a = ⟨g, o, none⟩ := Option.some.inj hga
    subst hga'
    rw [Addr.add_mid, Addr.add_mid, Nat.add_zero, q0] at p0
    rw [Addr.add_mid, Addr.add_mid, q1] at p1
    rw [List.getD_eq_getElem?_getD, List.getElem?_eq_getElem hil, Option.getD_some] at p0 p1
    simp at p0 p1
    rw [Prod.mk.injEq] at he
    rw [he.1, f0, f1] at hD
    obtain ⟨z0', z1'⟩ := weights_agg2 Try.underlying53 (a := 9) (b := 9) rfl rfl hD
    have z0 := z0'.str
    have z1 := z1'.str
    rw [← p0] at z0
    rw [← p1] at z1
    have l0 : (Bt l[i].k).data.toList = l[i].k := rfl
    have l1 : (Bt l[i].v).data.toList = l[i].v := rfl
    rw [l0] at z0
    rw [l1] at z1
    have hlt := reachBytes_lt
    omega
theorem open_z22 {A : Option Addr} {n c : Nat} {d : DataW H} {ps : List MemPlace} (h : DataW.Trod enc Try.prog w base spare held 22 (.slice A n c) d ps) (hs : Sz 22 d) :
    ∃ l : List Pr, PRd w A n l ∧ n ≤ maxLen ∧ (PrOk n c l ∧ ∀ x ∈ l, x.k.length ≤ 2 ^ 47 ∧ x.v.length ≤ 2 ^ 47) := by
  obtain ⟨l, h1, h2, h3⟩ := open_t22 h
  exact ⟨l, h1, h2, h3, size_t22 h h1 hs⟩
end
theorem sumW_ok2 {l : List Pr} (h : ∀ x ∈ l, x.k.length ≤ 2 ^ 47 ∧ x.v.length ≤ 2 ^ 47) : ∀ k, k ≤ 2000 → sumW l k = (sumP l k : Int) ∧ sumP l k ≤ 2 ^ 48 * k
  | 0, _ => ⟨rfl, Nat.le_refl _⟩
  | k + 1, hk => by
    have ih := sumW_ok2 h k (by omega)
    have hb : (l.getD k default).k.length ≤ 2 ^ 47 ∧ (l.getD k default).v.length ≤ 2 ^ 47 := by
      rcases Nat.lt_or_ge k l.length with hi | hi
      · exact h (l.getD k default) (by rw [List.getD_eq_getElem?_getD, List.getElem?_eq_getElem hi]; exact List.getElem_mem _)
      · rw [List.getD_eq_getElem?_getD, List.getElem?_eq_none hi]
        exact ⟨Nat.zero_le _, Nat.zero_le _⟩
    have e1 : sumP l (k + 1) = sumP l k + (l.getD k default).k.length + (l.getD k default).v.length := rfl
    have e2 : sumW l (k + 1) = wrap64 (wrap64 (sumW l k + ((l.getD k default).k.length : Int)) + ((l.getD k default).v.length : Int)) := rfl
    rw [e2, ih.1, wrap_small (x := (sumP l k : Int) + _) (by omega) (by omega), wrap_small (by omega) (by omega), e1]
    exact ⟨by omega, by omega⟩
theorem light_of2 {l : List Pr} (h : heavyT l = false) (ok : ∀ x ∈ l, x.k.length ≤ 2 ^ 47 ∧ x.v.length ≤ 2 ^ 47) : Light l := by
  unfold heavyT at h
  simp only [Bool.or_eq_false_iff, decide_eq_false_iff_not] at h
  have h1 : l.length ≤ 400 := by omega
  have h2 := (sumW_ok2 ok l.length (by omega)).1
  rw [Nat.min_eq_left (by omega), h2, sumP_all] at h
  exact ⟨h1, by omega⟩
