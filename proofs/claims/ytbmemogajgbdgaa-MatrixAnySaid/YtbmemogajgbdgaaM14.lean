import Derived.Test.YtbmemogajgbdgaaM12
import Derived.Deep.RegionLaw
namespace Go.Proofs.Ytbmemogajgbdgaa
open Go.RowKit Go.Gf
/-- k rows of bytes, each in a block of its own, none of them the block of v. -/
def Rows2 (base : Nat) (wr : World) (v : Value) (n k : Nat) (s : St) (G : Nat → Nat) : Prop :=
  (∀ i, i < k → BytesAt wr (G i) (2 * n) (s i) ∧ base ≤ G i ∧ v.ownBlock ≠ some (G i)) ∧ ∀ i j, i < k → j < k → G i = G j → i = j
def rowsL (n k : Nat) (G C : Nat → Nat) : List Value := (List.range k).map (fun i => .slice (some ⟨G i, 0, none⟩) (2 * n) (C i))
theorem rowsL_len (n k : Nat) (G C : Nat → Nat) : (rowsL n k G C).length = k := by simp [rowsL]
theorem rowsL_succ (n k : Nat) (G C : Nat → Nat) (g c : Nat) : rowsL n (k + 1) (fun i => if i = k then g else G i) (fun i => if i = k then c else C i) = rowsL n k G C ++ [.slice (some ⟨g, 0, none⟩) (2 * n) c] := by
  unfold rowsL
  rw [List.range_succ, List.map_append]
  simp only [List.map_cons, List.map_nil, if_true]
  congr 1
  refine List.map_congr_left fun i hi => ?_
  have := List.mem_range.mp hi
  rw [if_neg (by omega), if_neg (by omega)]
theorem rowsL_at (n k : Nat) (G C : Nat → Nat) (i : Nat) (hi : i < k) : (rowsL n k G C).getD i undef = .slice (some ⟨G i, 0, none⟩) (2 * n) (C i) := by
  unfold rowsL
  rw [List.getD_eq_getElem?_getD, List.getElem?_map, List.getElem?_range hi]; rfl
theorem own_lt {w : World} {base : Nat} {e : TypeId} {size : Nat} {v : Value} {n : Nat} {xs : List Value} (h : w.ownsRow base e size v n xs) : ∀ b, v.ownBlock = some b → b < w.heap.size := by
  intro b hb
  rcases h.2 with ⟨rfl, _⟩ | ⟨g, c, cur, rfl, _, hg, _⟩
  · cases hb
  · cases hb
    rcases Nat.lt_or_ge g w.heap.size with h | h
    · exact h
    · rw [Array.getElem?_eq_none h] at hg; cases hg
theorem rows_snoc {base n k g' gC go : Nat} {wr w3 w4 w5 : World} {v v' : Value} {xs : List Value} {o : Obj} {s : St} {G : Nat → Nat} (hR : Rows2 base wr v n k s G) (hown : wr.ownsRow base 43 1 v k xs) (hE : Ext wr w3) (hO : OnlyB gC w3 w4) (hgC : wr.heap.size ≤ gC)
    (hb : BytesAt w4 g' (2 * n) (s k)) (hg' : wr.heap.size ≤ g') (hg5 : (w4.alloc o).grownBy w5 v.ownBlock) (hgo : v.ownBlock = some go ∨ go = w4.heap.size + 1) (hv' : v'.ownBlock = some go) (hbase : base ≤ wr.heap.size) :
    Rows2 base w5 v' n (k + 1) s (fun i => if i = k then g' else G i) := by
  have hvlt : ∀ b, v.ownBlock = some b → b < wr.heap.size := by
    intro b hb
    rcases hown.2 with ⟨rfl, _⟩ | ⟨g, c, cur, rfl, _, hg, _⟩
    · cases hb
    · cases hb
      rcases Nat.lt_or_ge g wr.heap.size with h | h
      · exact h
      · rw [Array.getElem?_eq_none h] at hg; cases hg
  have hold : ∀ i, i < k → G i < wr.heap.size := fun i hi => (hR.1 i hi).1.lt
  have hsz : wr.heap.size ≤ w4.heap.size := Nat.le_trans hE.sz hO.size
  have hne' : v.ownBlock ≠ some g' := fun h => by have := hvlt _ h; omega
  refine ⟨fun i hi => ?_, fun i j hi hj hij => ?_⟩
  · by_cases e : i = k
    · subst e
      simp only [if_true]
      refine ⟨(hb.ext ((Ext.refl w4).alloc o)).heap (hg5.block g' (by have := hb.lt; simp; omega) (fun h => hne' h.symm)), by omega, ?_⟩
      rw [hv']
      intro h
      injection h with h
      rcases hgo with h2 | h2
      · exact hne' (by rw [h2, h])
      · have := hb.lt; omega
    · simp only [if_neg e]
      have hi2 : i < k := by omega
      obtain ⟨h1, h2, h3⟩ := hR.1 i hi2
      have hlt := hold i hi2
      have h4 : BytesAt w4 (G i) (2 * n) (s i) := (h1.ext hE).only hO (by omega)
      refine ⟨(h4.ext ((Ext.refl w4).alloc o)).heap (hg5.block _ (by have := h4.lt; simp; omega) (fun h => h3 h.symm)), h2, ?_⟩
      rw [hv']
      intro h
      injection h with h
      rcases hgo with h5 | h5
      · exact h3 (by rw [h5, h])
      · omega
  · by_cases e1 : i = k
    · by_cases e2 : j = k
      · omega
      · simp only [if_pos e1, if_neg e2] at hij
        have := hold j (by omega); omega
    · by_cases e2 : j = k
      · simp only [if_neg e1, if_pos e2] at hij
        have := hold i (by omega); omega
      · simp only [if_neg e1, if_neg e2] at hij
        exact hR.2 i j (by omega) (by omega) hij
theorem catB_st0 (l : List ByteArray) (n i : Nat) (j : Nat) (hj : j < 2 * n) : catB n (bn (l.getD i { data := #[] })) (strN n (unitF i)) j = st0 l n i j := by
  unfold catB st0 ent
  by_cases h : j < n
  · rw [if_pos h, if_pos h]
  · rw [if_neg h, if_neg h, bn_strN _ _ _ (by omega) (unitF_lt _ _)]
theorem runit_n (n : Nat) (w : World) (h : 1 ≤ n ∧ n ≤ 64) :
    Calls Try.prog 18 #[.int .i64 n] w fun e w' => ∃ (g cap : Nat), e = .returned (.slice (some ⟨g, 0, none⟩) n cap) ∧ CellsAt w' g n (fun i => .string (strN n (unitF i))) ∧ w.heap.size ≤ g ∧ Ext w w' := by
  refine (runit_any n w).mono ?_
  rintro e w' ⟨A, n2, cp, rfl, h2, hr, hE⟩
  rw [unitV_ok n h] at h2 hr
  rw [unitM_len] at h2
  subst h2
  obtain ⟨g, c, hv, _⟩ := hr.form (by omega)
  injection hv with h1 _ h3
  subst h1; subst h3
  obtain ⟨hc, hg⟩ := hr.cells1
  refine ⟨g, _, rfl, hc.congr (fun j hj => ?_), hg, hE⟩
  have hl : j < (unitM n2).length := by rw [unitM_len]; exact hj
  rw [List.getD_eq_getElem?_getD, List.getElem?_map, List.getElem?_eq_getElem hl]
  show Value.string (strN n2 (unitF j)) = Value.string ((unitM n2)[j]'hl)
  rw [show (unitM n2)[j]'hl = strN n2 (unitF j) from mkM_at n2 n2 unitF j hl]
theorem info43 : (Try.prog.info? 43).map (fun i => (i.zero, i.size, i.bytes)) = some (some (.slice none 0 0), 1, 24) := by kernel_rfl
theorem one_slice (A : Option Addr) (n c : Nat) : ∀ u ∈ [Value.slice A n c], u.oneCell' = true := by intro u h; simp at h; subst h; rfl
