import Derived.Test.YtpengejnjmicnaaV6
import Derived.Test.YtpengejnjmicnaaU9
import Derived.Test.YtpengejnjmicnaaU6
section
namespace Go.Proofs.Ytpengejnjmicnaa
open Go.RowKit Go.Nb Go.ChangeShapes Go.WideShapes Go.ChangeAt Go.Deep
theorem bulk_mem {H : Type} : ∀ {l : List (DataW H)} {d : DataW H}, d ∈ l → Rows.uptoBulk d ≤ Rows.uptoBulkAll l
  | x :: l, d, h => by
    rw [Rows.uptoBulkAll]
    rcases List.mem_cons.mp h with rfl | h
    · omega
    · have := bulk_mem h; omega
theorem two_of {α : Type} {l : List α} (h : l.length = 2) : ∃ a b, l = [a, b] := by
  match l, h with
  | [a, b], _ => exact ⟨a, b, rfl⟩
theorem bulk_t22 {H : Type} {enc : TypeId × Value → H} {w : World} {base : Nat} {spare : Nat → Bool} {held : Bool} {A : Option Addr} {n c : Nat} {d : DataW H} {ps : List MemPlace} (h : DataW.Trod enc Try.prog w base spare held 22 (.slice A n c) d ps)
    {l : List Pr} (hl : PRd w A n l) (hb : Rows.uptoBulk d ≤ 1048576) : ∀ x ∈ l, x.k.length ≤ 1048576 ∧ x.v.length ≤ 1048576 := by
  obtain ⟨fuel, hf⟩ := h
  rcases open_slice Try.underlying22 hf with ⟨hcs, _⟩ | ⟨a, len', cap', m, n', D, Pl, hcs, _, hl2, hm, hmm, hx, hi⟩
  · simp [Value.cells] at hcs
    obtain ⟨rfl, rfl, rfl⟩ := hcs
    intro x hx
    rw [List.eq_nil_of_length_eq_zero hl.1] at hx
    cases hx
  · simp [Value.cells] at hcs
    obtain ⟨rfl, rfl, rfl⟩ := hcs
    have hlm : n ≤ m := by rw [hmm]; split <;> omega
    rw [Prod.mk.injEq] at hx
    rw [hx.1, Rows.uptoBulk] at hb
    intro x hxl
    obtain ⟨i, hil, rfl⟩ := List.getElem_of_mem hxl
    have hin : i < n := by rw [← hl.1]; exact hil
    obtain ⟨cs', hc, ht⟩ := hi i (by omega)
    have hD : Rows.uptoBulk (D i) ≤ 1048576 := by
      have := bulk_mem (l := (List.range n).map D) (d := D i) (List.mem_map.2 ⟨i, List.mem_range.2 hin, rfl⟩)
      omega
    obtain ⟨y0, y1, n2, he, hlen, h0, h1⟩ := trod_struct2 Try.underlying53 ht
    obtain ⟨s0, e0, f0, _⟩ := DataW.trod_string Try.underlying9 h0
    obtain ⟨s1, e1, f1, _⟩ := DataW.trod_string Try.underlying9 h1
    have hcell : Try.prog.cellsOf 53 = 2 := by kernel_rfl
    have hc9 : Try.prog.cellsOf 9 = 1 := by kernel_rfl
    rw [hcell] at hc hlen
    have g0 : (cs'.drop 0).take 1 = [.string s0] := by have := e0; rwa [hc9] at this
    have g1 : (cs'.drop 1).take 1 = [.string s1] := by have := e1; rwa [hc9] at this
    obtain ⟨v0, v1, rfl⟩ := two_of hlen
    have g0' : v0 = .string s0 := by simpa using g0
    have g1' : v1 = .string s1 := by simpa using g1
    subst g0' g1'
    obtain ⟨_, hcl, hat⟩ := World.cells?_some hc
    have p0 := hat (i := 0) (by omega)
    have p1 := hat (i := 1) (by omega)
    obtain ⟨g, o, hga, q0, q1⟩ := hl.at_ i hin
    have hga' : a = ⟨g, o, none⟩ := Option.some.inj hga
    subst hga'
    rw [Addr.add_mid, Addr.add_mid, Nat.add_zero, q0] at p0
    rw [Addr.add_mid, Addr.add_mid, q1] at p1
    rw [List.getD_eq_getElem?_getD, List.getElem?_eq_getElem hil, Option.getD_some] at p0 p1
    simp at p0 p1
    rw [Prod.mk.injEq] at he
    rw [he.1, f0, f1, Rows.uptoBulk, Rows.uptoBulkAll, Rows.uptoBulkAll, Rows.uptoBulkAll] at hD
    rw [Rows.uptoBulk, Rows.uptoBulk, ← p0, ← p1] at hD
    have l0 : (Bt l[i].k).data.toList = l[i].k := rfl
    have l1 : (Bt l[i].v).data.toList = l[i].v := rfl
    rw [l0, l1] at hD
    omega
end Go.Proofs.Ytpengejnjmicnaa
end
section
namespace Go.Proofs.Ytpengejnjmicnaa
open Go.RowKit Go.Nb
theorem sumW_ok {l : List Pr} (h : ∀ x ∈ l, x.k.length ≤ 1048576 ∧ x.v.length ≤ 1048576) : ∀ k, k ≤ 2000 → sumW l k = (sumP l k : Int) ∧ sumP l k ≤ 2097152 * k
  | 0, _ => ⟨rfl, Nat.le_refl _⟩
  | k + 1, hk => by
    have ih := sumW_ok h k (by omega)
    have hb : (l.getD k default).k.length ≤ 1048576 ∧ (l.getD k default).v.length ≤ 1048576 := by
      rcases Nat.lt_or_ge k l.length with hi | hi
      · exact h (l.getD k default) (by rw [List.getD_eq_getElem?_getD, List.getElem?_eq_getElem hi]; exact List.getElem_mem _)
      · rw [List.getD_eq_getElem?_getD, List.getElem?_eq_none hi]
        exact ⟨Nat.zero_le _, Nat.zero_le _⟩
    have e1 : sumP l (k + 1) = sumP l k + (l.getD k default).k.length + (l.getD k default).v.length := rfl
    have e2 : sumW l (k + 1) = wrap64 (wrap64 (sumW l k + ((l.getD k default).k.length : Int)) + ((l.getD k default).v.length : Int)) := rfl
    rw [e2, ih.1, wrap_small (x := (sumP l k : Int) + _) (by omega) (by omega), wrap_small (by omega) (by omega), e1]
    exact ⟨by omega, by omega⟩
theorem sumP_all : ∀ (l : List Pr), sumP l l.length = sumKV l := by
  have key : ∀ (l : List Pr) (k : Nat), k ≤ l.length → sumP l k = sumKV (l.take k) := by
    intro l k
    induction k with
    | zero => intro _; rfl
    | succ k ih =>
      intro hk
      have h1 : l.take (k + 1) = l.take k ++ [l.getD k default] := by
        rw [List.take_add_one, List.getElem?_eq_getElem (by omega), List.getD_eq_getElem?_getD, List.getElem?_eq_getElem (by omega)]; rfl
      rw [h1, sumKV_append, ← ih (by omega)]
      simp only [sumP, sumKV]
      omega
  intro l
  rw [key l l.length (Nat.le_refl _), List.take_length]
/-- What a statement looks at. -/
structure Light (l : List Pr) : Prop where
  len : l.length ≤ 400
  sum : sumKV l ≤ 16384
theorem light_of {l : List Pr} (h : heavyT l = false) (ok : ∀ x ∈ l, x.k.length ≤ 1048576 ∧ x.v.length ≤ 1048576) : Light l := by
  unfold heavyT at h
  simp only [Bool.or_eq_false_iff, decide_eq_false_iff_not] at h
  have h1 : l.length ≤ 400 := by omega
  have h2 := (sumW_ok ok l.length (by omega)).1
  rw [Nat.min_eq_left (by omega), h2, sumP_all] at h
  exact ⟨h1, by omega⟩
theorem sumKV_mem : ∀ {l : List Pr} {p : Pr}, p ∈ l → p.k.length + p.v.length ≤ sumKV l
  | q :: l, p, h => by
    rw [sumKV]
    rcases List.mem_cons.mp h with rfl | h
    · omega
    · have := sumKV_mem h; omega
theorem Light.small {l : List Pr} (h : Light l) : Small l := fun p hp => by
  have := sumKV_mem hp
  have := h.sum
  omega
theorem blk_len (most : Int) (l : List Pr) : (blkL most l).length ≤ l.length + 1 := by
  by_cases h : l = []
  · subst h; exact Nat.le_refl _
  · have h1 := len_flat_le (bs := blkL most l) (fun b hb e => by
      have := (blkL_ne h b hb).1
      rw [e] at this; simp at this)
    rw [blkL_flat] at h1
    omega
theorem Light.txt {l : List Pr} (h : Light l) (most : Int) : (txt (blkL most l)).length ≤ 60000 := by
  have h1 := txt_len (blkL most l)
  have h2 := encs_sum (blkL most l)
  have h3 := idxs_sum (blkL most l)
  have h4 := blk_len most l
  have h5 := (upL_len2 (blkL most l).length).2
  have h6 := h.len
  have h7 := h.sum
  rw [blkL_flat] at h2 h3
  omega
theorem bldR_tup (most : Int) (l : List Pr) : ∃ X e, bldR most l = .tuple #[.string (Bt X), .int .i64 e] := by
  unfold bldR bldV
  split
  · exact ⟨[], 2, rfl⟩
  · split
    · exact ⟨_, _, rfl⟩
    · exact ⟨[], 2, rfl⟩
end Go.Proofs.Ytpengejnjmicnaa
end
section
namespace Go.Proofs.Ytpengejnjmicnaa
open Go.RowKit Go.Nb
/-- Pairs that may be a table. -/
def goodL (l : List Pr) : Bool := !(l.any badP) && upB l
theorem bldR_yes {most : Int} {l : List Pr} (h1 : 1 ≤ most) (h2 : most ≤ 131072) (hl : l ≠ []) (hg : goodL l = true) : bldR most l = .tuple #[.string (Bt (txt (blkL most l))), .int .i64 0] ∧ TabIs (txt (blkL most l)) (blkL most l) := by
  have hok : okB [] (blkL most l) = true := by rw [okB_blk hl]; exact hg
  refine ⟨?_, ?_, hok, rfl⟩
  · unfold bldR
    rw [if_neg (by rintro (h | h | h) <;> first | exact hl h | omega), bldV_yes hok]
  · unfold blkL; simp
theorem bldR_no {most : Int} {l : List Pr} (h : l = [] ∨ goodL l = false) : bldR most l = .tuple #[.string ⟨#[]⟩, .int .i64 2] := by
  unfold bldR
  by_cases hc : l = [] ∨ most < 1 ∨ 131072 < most
  · rw [if_pos hc]
  · rw [if_neg hc]
    rcases h with h | h
    · exact absurd (Or.inl h) hc
    · refine bldV_no ?_
      rw [okB_blk (fun e => hc (.inl e))]; exact h
theorem good_cases (l : List Pr) : (l = [] ∨ goodL l = false) ∨ (l ≠ [] ∧ goodL l = true) := by
  by_cases h : l = []
  · exact .inl (.inl h)
  · cases hg : goodL l
    · exact .inl (.inr rfl)
    · exact .inr ⟨h, rfl⟩
end Go.Proofs.Ytpengejnjmicnaa
end
