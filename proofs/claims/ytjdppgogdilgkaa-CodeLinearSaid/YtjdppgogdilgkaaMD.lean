import Derived.Test.YtjdppgogdilgkaaMB
import Derived.Deep.RegionLaw
section
namespace Go.Proofs.Ytjdppgogdilgkaa
open Go.RowKit Go.Gf
def Rows2 (base : Nat) (wr : World) (v : Value) (n k : Nat) (s : St) (G : Nat → Nat) : Prop :=
  (∀ i, i < k → BytesAt wr (G i) (2 * n) (s i) ∧ base ≤ G i ∧ v.ownBlock ≠ some (G i)) ∧ ∀ i j, i < k → j < k → G i = G j → i = j
def rowsL (n k : Nat) (G C : Nat → Nat) : List Value := (List.range k).map (fun i => .slice (some ⟨G i, 0, none⟩) (2 * n) (C i))
theorem rowsL_len (n k : Nat) (G C : Nat → Nat) : (rowsL n k G C).length = k := by simp [rowsL]
theorem rowsL_succ (n k : Nat) (G C : Nat → Nat) (g c : Nat) : rowsL n (k + 1) (fun i => if i = k then g else G i) (fun i => if i = k then c else C i) = rowsL n k G C ++ [.slice (some ⟨g, 0, none⟩) (2 * n) c] := by
  unfold rowsL
  rw [List.range_succ, List.map_append]
  simp only [List.map_cons, List.map_nil, if_true]
  congr 1
  refine List.map_congr_left fun i hi => ?_
  have := List.mem_range.mp hi
  rw [if_neg (by omega), if_neg (by omega)]
theorem rowsL_at (n k : Nat) (G C : Nat → Nat) (i : Nat) (hi : i < k) : (rowsL n k G C).getD i undef = .slice (some ⟨G i, 0, none⟩) (2 * n) (C i) := by
  unfold rowsL
  rw [List.getD_eq_getElem?_getD, List.getElem?_map, List.getElem?_range hi]; rfl
theorem own_lt {w : World} {base : Nat} {e : TypeId} {size : Nat} {v : Value} {n : Nat} {xs : List Value} (h : w.ownsRow base e size v n xs) : ∀ b, v.ownBlock = some b → b < w.heap.size := by
  intro b hb
  rcases h.2 with ⟨rfl, _⟩ | ⟨g, c, cur, rfl, _, hg, _⟩
  · cases hb
  · cases hb
    rcases Nat.lt_or_ge g w.heap.size with h | h
    · exact h
    · rw [Array.getElem?_eq_none h] at hg; cases hg
theorem rows_snoc {base n k g' gC go : Nat} {wr w3 w4 w5 : World} {v v' : Value} {xs : List Value} {o : Obj} {s : St} {G : Nat → Nat} (hR : Rows2 base wr v n k s G) (hown : wr.ownsRow base 41 1 v k xs) (hE : Ext wr w3) (hO : OnlyB gC w3 w4) (hgC : wr.heap.size ≤ gC)
    (hb : BytesAt w4 g' (2 * n) (s k)) (hg' : wr.heap.size ≤ g') (hg5 : (w4.alloc o).grownBy w5 v.ownBlock) (hgo : v.ownBlock = some go ∨ go = w4.heap.size + 1) (hv' : v'.ownBlock = some go) (hbase : base ≤ wr.heap.size) :
    Rows2 base w5 v' n (k + 1) s (fun i => if i = k then g' else G i) := by
  have hvlt : ∀ b, v.ownBlock = some b → b < wr.heap.size := by
    intro b hb
    rcases hown.2 with ⟨rfl, _⟩ | ⟨g, c, cur, rfl, _, hg, _⟩
    · cases hb
    · cases hb
      rcases Nat.lt_or_ge g wr.heap.size with h | h
      · exact h
      · rw [Array.getElem?_eq_none h] at hg; cases hg
  have hold : ∀ i, i < k → G i < wr.heap.size := fun i hi => (hR.1 i hi).1.lt
  have hsz : wr.heap.size ≤ w4.heap.size := Nat.le_trans hE.sz hO.size
  have hne' : v.ownBlock ≠ some g' := fun h => by have := hvlt _ h; omega
  refine ⟨fun i hi => ?_, fun i j hi hj hij => ?_⟩
  · by_cases e : i = k
    · subst e
      simp only [if_true]
      refine ⟨(hb.ext ((Ext.refl w4).alloc o)).heap (hg5.block g' (by have := hb.lt; simp; omega) (fun h => hne' h.symm)), by omega, ?_⟩
      rw [hv']
      intro h
      injection h with h
      rcases hgo with h2 | h2
      · exact hne' (by rw [h2, h])
      · have := hb.lt; omega
    · simp only [if_neg e]
      have hi2 : i < k := by omega
      obtain ⟨h1, h2, h3⟩ := hR.1 i hi2
      have hlt := hold i hi2
      have h4 : BytesAt w4 (G i) (2 * n) (s i) := (h1.ext hE).only hO (by omega)
      refine ⟨(h4.ext ((Ext.refl w4).alloc o)).heap (hg5.block _ (by have := h4.lt; simp; omega) (fun h => h3 h.symm)), h2, ?_⟩
      rw [hv']
      intro h
      injection h with h
      rcases hgo with h5 | h5
      · exact h3 (by rw [h5, h])
      · omega
  · by_cases e1 : i = k
    · by_cases e2 : j = k
      · omega
      · simp only [if_pos e1, if_neg e2] at hij
        have := hold j (by omega); omega
    · by_cases e2 : j = k
      · simp only [if_neg e1, if_pos e2] at hij
        have := hold i (by omega); omega
      · simp only [if_neg e1, if_neg e2] at hij
        exact hR.2 i j (by omega) (by omega) hij
theorem catB_st0 (l : List ByteArray) (n i : Nat) (j : Nat) (hj : j < 2 * n) : catB n (bn (l.getD i { data := #[] })) (strN n (unitF i)) j = st0 l n i j := by
  unfold catB st0 ent
  by_cases h : j < n
  · rw [if_pos h, if_pos h]
  · rw [if_neg h, if_neg h, bn_strN _ _ _ (by omega) (unitF_lt _ _)]
theorem runit_n (n : Nat) (w : World) (h : 1 ≤ n ∧ n ≤ 64) :
    Calls Try.prog 44 #[.int .i64 n] w fun e w' => ∃ (g cap : Nat), e = .returned (.slice (some ⟨g, 0, none⟩) n cap) ∧ CellsAt w' g n (fun i => .string (strN n (unitF i))) ∧ w.heap.size ≤ g ∧ Ext w w' := by
  refine (runit_any n w).mono ?_
  rintro e w' ⟨A, n2, cp, rfl, h2, hr, hE⟩
  rw [unitV_ok n h] at h2 hr
  rw [unitM_len] at h2
  subst h2
  obtain ⟨g, c, hv, _⟩ := hr.form (by omega)
  injection hv with h1 _ h3
  subst h1; subst h3
  obtain ⟨hc, hg⟩ := hr.cells1
  refine ⟨g, _, rfl, hc.congr (fun j hj => ?_), hg, hE⟩
  have hl : j < (unitM n2).length := by rw [unitM_len]; exact hj
  rw [List.getD_eq_getElem?_getD, List.getElem?_map, List.getElem?_eq_getElem hl]
  show Value.string (strN n2 (unitF j)) = Value.string ((unitM n2)[j]'hl)
  rw [show (unitM n2)[j]'hl = strN n2 (unitF j) from mkM_at n2 n2 unitF j hl]
theorem info41 : (Try.prog.info? 41).map (fun i => (i.zero, i.size, i.bytes)) = some (some (.slice none 0 0), 1, 24) := by kernel_rfl
theorem one_slice (A : Option Addr) (n c : Nat) : ∀ u ∈ [Value.slice A n c], u.oneCell' = true := by intro u h; simp at h; subst h; rfl
end Go.Proofs.Ytjdppgogdilgkaa
end
section
namespace Go.Proofs.Ytjdppgogdilgkaa
open Go.RowKit Go.Gf
def RI (base : Nat) (wr : World) (go n : Nat) (s : St) (G C : Nat → Nat) : Prop :=
  CellsAt wr go n (fun i => .slice (some ⟨G i, 0, none⟩) (2 * n) (C i)) ∧ (∀ i, i < n → BytesAt wr (G i) (2 * n) (s i) ∧ base ≤ G i ∧ go ≠ G i) ∧ (∀ i j, i < n → j < n → G i = G j → i = j) ∧ ∀ i, i < n → 2 * n ≤ C i
section
variable {base go n : Nat} {wr w' : World} {s : St} {G C : Nat → Nat}
theorem RI.cell (h : RI base wr go n s G C) (i : Nat) (hi : i < n) : wr.cell? ⟨go, i, none⟩ = some (.slice (some ⟨G i, 0, none⟩) (2 * n) (C i)) := h.1.cell i hi
theorem RI.frozen (h : RI base wr go n s G C) (i : Nat) (hi : i < n) : wr.frozen? ⟨go, i, none⟩ = false := h.1.frozen i hi
theorem RI.byte (h : RI base wr go n s G C) (i j : Nat) (hi : i < n) (hj : j < 2 * n) : wr.cell? ⟨G i, j, none⟩ = some (.int .u8 (s i j : Int)) := (h.2.1 i hi).1.cell j hj
theorem RI.ext (h : RI base wr go n s G C) (e : Ext wr w') : RI base w' go n s G C := ⟨h.1.ext e, fun i hi => ⟨(h.2.1 i hi).1.ext e, (h.2.1 i hi).2⟩, h.2.2⟩
theorem RI.congr (h : RI base wr go n s G C) {s' : St} (e : ∀ i, i < n → s' i = s i) : RI base wr go n s' G C := ⟨h.1, fun i hi => ⟨by rw [e i hi]; exact (h.2.1 i hi).1, (h.2.1 i hi).2⟩, h.2.2⟩
theorem RI.of {v : Value} {c : Nat} (hv : v.ownBlock = some go) (hown : wr.ownsRow base 41 1 (.slice (some ⟨go, 0, none⟩) n c) n (rowsL n n G C)) (hR : Rows2 base wr v n n s G) (hC : ∀ i, i < n → 2 * n ≤ C i) : RI base wr go n s G C := by
  obtain ⟨hc, _⟩ := hown.cells1
  refine ⟨hc.congr fun j hj => (rowsL_at n n G C j hj).symm, fun i hi => ⟨(hR.1 i hi).1, (hR.1 i hi).2.1, fun e => (hR.1 i hi).2.2 (by rw [hv, e])⟩, hR.2, hC⟩
def sw (c p : Nat) (G : Nat → Nat) (i : Nat) : Nat := if i = c then G p else if i = p then G c else G i
theorem RI.swap (h : RI base wr go n s G C) (c p : Nat) (hc : c < n) (hp : p < n) :
    RI base ((wr.setCell ⟨go, p, none⟩ (.slice (some ⟨G c, 0, none⟩) (2 * n) (C c))).setCell ⟨go, c, none⟩ (.slice (some ⟨G p, 0, none⟩) (2 * n) (C p))) go n (swapF s c p) (sw c p G) (sw c p C) := by
  have h1 := h.1.set_ (h := fun i => if i = p then .slice (some ⟨G c, 0, none⟩) (2 * n) (C c) else .slice (some ⟨G i, 0, none⟩) (2 * n) (C i)) p (.slice (some ⟨G c, 0, none⟩) (2 * n) (C c)) (fun j _ => rfl)
  have h2 := h1.set_ (h := fun i => .slice (some ⟨sw c p G i, 0, none⟩) (2 * n) (sw c p C i)) c (.slice (some ⟨G p, 0, none⟩) (2 * n) (C p)) (fun j _ => by
    unfold sw
    by_cases e : j = c
    · rw [if_pos e, if_pos e, if_pos e]
    · rw [if_neg e, if_neg e, if_neg e]
      by_cases e2 : j = p
      · rw [if_pos e2, if_pos e2, if_pos e2]
      · rw [if_neg e2, if_neg e2, if_neg e2])
  refine ⟨h2, fun i hi => ?_, fun i j hi hj hij => ?_, fun i hi => by unfold sw; split; exact h.2.2.2 p hp; split; exact h.2.2.2 c hc; exact h.2.2.2 i hi⟩
  · have key : ∀ k, k < n → BytesAt ((wr.setCell ⟨go, p, none⟩ (.slice (some ⟨G c, 0, none⟩) (2 * n) (C c))).setCell ⟨go, c, none⟩ (.slice (some ⟨G p, 0, none⟩) (2 * n) (C p))) (G k) (2 * n) (s k) ∧ base ≤ G k ∧ go ≠ G k := fun k hk =>
      ⟨((h.2.1 k hk).1.far (p := ⟨go, p, none⟩) (Ne.symm (h.2.1 k hk).2.2) _).far (p := ⟨go, c, none⟩) (Ne.symm (h.2.1 k hk).2.2) _, (h.2.1 k hk).2⟩
    unfold swapF sw
    by_cases e : i = c
    · rw [if_pos e, if_pos e]; exact key p hp
    · rw [if_neg e, if_neg e]
      by_cases e2 : i = p
      · rw [if_pos e2, if_pos e2]; exact key c hc
      · rw [if_neg e2, if_neg e2]; exact key i hi
  · unfold sw at hij
    have inj := h.2.2.1
    by_cases e1 : i = c
    · rw [if_pos e1] at hij
      by_cases f1 : j = c
      · omega
      · rw [if_neg f1] at hij
        by_cases f2 : j = p
        · rw [if_pos f2] at hij; have := inj _ _ hp hc hij; omega
        · rw [if_neg f2] at hij; have := inj _ _ hp hj hij; omega
    · rw [if_neg e1] at hij
      by_cases e2 : i = p
      · rw [if_pos e2] at hij
        by_cases f1 : j = c
        · rw [if_pos f1] at hij; have := inj _ _ hc hp hij; omega
        · rw [if_neg f1] at hij
          by_cases f2 : j = p
          · omega
          · rw [if_neg f2] at hij; have := inj _ _ hc hj hij; omega
      · rw [if_neg e2] at hij
        by_cases f1 : j = c
        · rw [if_pos f1] at hij; have := inj _ _ hi hp hij; omega
        · rw [if_neg f1] at hij
          by_cases f2 : j = p
          · rw [if_pos f2] at hij; have := inj _ _ hi hc hij; omega
          · rw [if_neg f2] at hij; exact inj _ _ hi hj hij
def upd (c g : Nat) (G : Nat → Nat) (i : Nat) : Nat := if i = c then g else G i
theorem RI.put (h : RI base wr go n s G C) (c gn cn : Nat) (r : Nat → Nat) (_hc : c < n) (hb : BytesAt wr gn (2 * n) r) (hg : base ≤ gn) (hgo : go ≠ gn) (hne : ∀ i, i < n → G i ≠ gn) (hcn : 2 * n ≤ cn) {s' : St} (hs' : ∀ i, i < n → s' i = if i = c then r else s i) :
    RI base (wr.setCell ⟨go, c, none⟩ (.slice (some ⟨gn, 0, none⟩) (2 * n) cn)) go n s' (upd c gn G) (upd c cn C) := by
  have h2 := h.1.set_ (h := fun i => .slice (some ⟨upd c gn G i, 0, none⟩) (2 * n) (upd c cn C i)) c (.slice (some ⟨gn, 0, none⟩) (2 * n) cn) (fun j _ => by
    unfold upd
    by_cases e : j = c
    · rw [if_pos e, if_pos e, if_pos e]
    · rw [if_neg e, if_neg e, if_neg e])
  refine ⟨h2, fun i hi => ?_, fun i j hi hj hij => ?_, fun i hi => by unfold upd; split; exact hcn; exact h.2.2.2 i hi⟩
  · rw [hs' i hi]
    unfold upd
    by_cases e : i = c
    · rw [if_pos e, if_pos e]
      exact ⟨hb.far (p := ⟨go, c, none⟩) (Ne.symm hgo) _, hg, hgo⟩
    · rw [if_neg e, if_neg e]
      exact ⟨(h.2.1 i hi).1.far (p := ⟨go, c, none⟩) (Ne.symm (h.2.1 i hi).2.2) _, (h.2.1 i hi).2⟩
  · unfold upd at hij
    by_cases e1 : i = c
    · by_cases e2 : j = c
      · omega
      · rw [if_pos e1, if_neg e2] at hij
        exact absurd hij.symm (hne j hj)
    · by_cases e2 : j = c
      · rw [if_neg e1, if_pos e2] at hij
        exact absurd hij (hne i hi)
      · rw [if_neg e1, if_neg e2] at hij
        exact h.2.2.1 i j hi hj hij
theorem RI.only {gn : Nat} (h : RI base wr go n s G C) (hO : OnlyB gn wr w') (hgo : go ≠ gn) (hne : ∀ i, i < n → G i ≠ gn) : RI base w' go n s G C :=
  ⟨h.1.only hO hgo, fun i hi => ⟨(h.2.1 i hi).1.only hO (hne i hi), (h.2.1 i hi).2⟩, h.2.2⟩
theorem RI.upd_ (h : RI base wr go n s G C) (i : Nat) (hi : i < n) (r : Nat → Nat) (hO : OnlyB (G i) wr w') (hb : BytesAt w' (G i) (2 * n) r) {s' : St} (hs' : ∀ k, k < n → s' k = if k = i then r else s k) : RI base w' go n s' G C := by
  refine ⟨h.1.only hO (h.2.1 i hi).2.2, fun k hk => ?_, h.2.2⟩
  rw [hs' k hk]
  by_cases e : k = i
  · subst e; rw [if_pos rfl]; exact ⟨hb, (h.2.1 k hk).2⟩
  · rw [if_neg e]
    exact ⟨(h.2.1 k hk).1.only hO (fun x => e (h.2.2.1 k i hk hi x)), (h.2.1 k hk).2⟩
end
theorem scF_full (c n : Nat) (f r : Nat → Nat) (j : Nat) (hj : j < n) : scF c f r n j = f j ^^^ fm c (r j) := by unfold scF; rw [if_pos hj]
end Go.Proofs.Ytjdppgogdilgkaa
end
section
namespace Go.Proofs.Ytjdppgogdilgkaa
open Go.RowKit Go.Gf
set_option maxRecDepth 100000 in
set_option maxHeartbeats 4000000 in
theorem rundo_any (A : Option Addr) (n cap : Nat) (l : List ByteArray) (w : World) (hr : Rd w A n (l.map Value.string)) (hn : n ≤ 1048576) (hz : ∀ s ∈ l, s.size ≤ 1048576) :
    Calls Try.prog 53 #[.slice A n cap] w (MatIs (undoV l) (undoE l) w) := by
  have hla : l.length = n := by have := hr.1; simpa using this
  have HZ := Lib.hid hz
  clear hz
  have hO := Ext.refl w
  by_cases h1 : mayP l
  · have M1 := Lib.hid (mayB_yes h1)
    have hn1 : 1 ≤ n := by have := h1.1.1; omega
    have hn2 : n ≤ 64 := by have := h1.1.2; omega
    obtain ⟨gs, os, rfl, hgs, hcell⟩ := hr.at_ (show 0 < n by omega)
    have hl0 := len0_eq (l := l) (by omega)
    simp only [List.getElem_map, Nat.add_zero] at hcell
    generalize l[0]'(by omega) = s0 at *
    have k0 : (0 : Int) < (n : Int) := by omega
    by_cases h2 : n = s0.size
    · have b1 : ((s0.size : Int) != (n : Int)) = false := by rw [h2]; simp
      have hrow : ∀ s ∈ l, s.size = n := fun s hs => by rw [h1.2.2 s hs]; omega
      have hln : l.length = len0 l := by omega
      have HROW := Lib.hid hrow
      have HV := Lib.hid (fun s h => undo_ok (l := l) h1 hln s h)
      have HS := Lib.hid (fun h => undo_sing (l := l) h1 hln h)
      have HLA := Lib.hid hla
      clear hrow h1 hl0 hla hln h2
      go_enter Try.func53, Try.ntmps53
      go_wp2_with (first
        | (go_at_call 67; with_reducible refine (rmay_is true _ n cap l _ (hr.ext hO) hn HZ.out M1.out).mono ?_; rintro e w1 ⟨rfl, hE1⟩; replace hO := hO.trans hE1; clear hE1; replace hcell := hO.cellv hcell))
      go_loopw [5, 6] (fun v x wr => ∃ k : Nat, k ≤ n ∧ x = .int .i64 k ∧ Ext w wr ∧ ∃ (A1 : Option Addr) (c1 : Nat) (G C : Nat → Nat), v = .slice A1 k c1 ∧ wr.ownsRow w.heap.size 41 1 (.slice A1 k c1) k (rowsL n k G C) ∧ Rows2 w.heap.size wr (.slice A1 k c1) n k (st0 l n) G ∧ ∀ i, i < k → 2 * n ≤ C i) (fun _ x _ => n - (intOf x).toNat)
      case atStart => exact ⟨0, by omega, rfl, hO, none, 0, id, id, rfl, World.ownsRow_nil _ _ _ _, ⟨fun i hi => absurd hi (by omega), fun i j hi => absurd hi (by omega)⟩, fun i hi => absurd hi (by omega)⟩
      case round =>
        obtain ⟨k, hk, rfl, hE, A1, c1, G, C, rfl, hown, hR, hCs⟩ := hrel
        clear hO
        by_cases hk2 : k < n
        · have kk : (k : Int) < (n : Int) := by omega
          have kk0 : (0 : Int) ≤ (k : Int) := by omega
          obtain ⟨gs', os', hA, _, hck⟩ := hr.at_ hk2
          simp only [Option.some.injEq, Addr.mk.injEq, and_true] at hA
          obtain ⟨rfl, rfl⟩ := hA
          replace hck := hE.cellv hck
          simp only [List.getElem_map] at hck
          have hlk : k < l.length := by rw [HLA.out]; exact hk2
          have hsz := HROW.out (l[k]'hlk) (List.getElem_mem _)
          have hgd := getD_at l k hlk
          have HCAT := Lib.hid (catB_st0 l n k)
          rw [hgd] at HCAT
          generalize l[k]'hlk = sk at *
          have HSZ := Lib.hid hsz
          have HO := Lib.hid hown
          have HR := Lib.hid hR
          have HCS := Lib.hid hCs
          have hwz := hE.sz
          have hus : (strN n (unitF k)).size = n := strN_size _ _
          have HLEN := Lib.hid (show sk.size + (strN n (unitF k)).size = 2 * n by omega)
          have HLE := Lib.hid (show sk.size + (strN n (unitF k)).size ≤ 1048576 by omega)
          clear hsz hgd hown hR hus hCs
          have hconv := fun wx => Lib.run_convert_string_bytes (P := Try.prog) wx 9 41 5 sk Try.underlying9 Try.underlying41 Try.underlying5
          have hX : Ext wr wr.drew := (Ext.refl wr).drew
          have HCC := Lib.hid (bytesW_ext wr.drew 5 sk)
          have hckc := HCC.out.cellv hck
          go_wp2_with fail
          go_region_law (first
            | (go_simp; go_at_call 44; (refine (runit_n n wr.drew ⟨hn1, hn2⟩).mono ?_); rintro e w3 ⟨gU, cU, rfl, hU, hgU, hE3⟩; have hck3 := hE3.cellv hck; have c42 := hU.cell k hk2; have c42b := (bytesW_ext w3 5 sk).cellv c42; have hX3 := (hX.trans hE3).trans (bytesW_ext w3 5 sk); have hgc : wr.heap.size ≤ w3.heap.size := hE3.sz)
            | (go_simp; go_at_call 44; (refine (runit_n n (Lib.bytesWorld wr.drew 5 sk) ⟨hn1, hn2⟩).mono ?_); rintro e w3 ⟨gU, cU, rfl, hU, hgU, hE3⟩; have c42 := hU.cell k hk2; have hX3 := (hX.trans HCC.out).trans hE3; have hgc : wr.heap.size ≤ wr.heap.size := Nat.le_refl _)
            | (have _t := hck3; refine step_app_str (by rfl) _ _ 41 9 5 (by rfl) Try.underlying41 Try.underlying9 info5 w3.heap.size sk.size (Lib.bytesCells w3 5 sk) _ (bytesW_len w3 5 sk) (bn sk) (by rfl) (bytesW_m w3 5 sk) (by rw [bytesW_len]; exact grownCap_ge _ _ _ _) (bytesW_at w3 5 sk) (strN n (unitF k)) (by rfl) HLE.out ?_; intro g4 c4 w4 hb4 hg4 hO4 hc4; rw [HLEN.out] at hb4 hc4 ⊢; have hown4 := (HO.out.ext hX3).only hO4 (fun h => by have := own_lt HO.out _ h; omega); have hge4 : wr.heap.size ≤ g4 := by (have hs3 := hX3.sz; rcases hg4 with h | h <;> omega))
            | (refine step_app_str (by rfl) _ _ 41 9 5 (by rfl) Try.underlying41 Try.underlying9 info5 wr.heap.size sk.size (Lib.bytesCells wr.drew 5 sk) _ (bytesW_len wr.drew 5 sk) (bn sk) (by rfl) ((bytesW_m wr.drew 5 sk).ext hE3) (by rw [bytesW_len]; exact grownCap_ge _ _ _ _) (bytesW_at wr.drew 5 sk) (strN n (unitF k)) (by rfl) HLE.out ?_; intro g4 c4 w4 hb4 hg4 hO4 hc4; rw [HLEN.out] at hb4 hc4 ⊢; have hown4 := (HO.out.ext hX3).only hO4 (fun h => by have := own_lt HO.out _ h; omega); have hge4 : wr.heap.size ≤ g4 := by (have hs3 := hX3.sz; rcases hg4 with h | h <;> omega))
            | (refine step_app2 w4 (by rfl) _ _ 116 41 (by rfl) Try.underlying116 (.slice none 0 0) [.slice (some ⟨g4, 0, none⟩) (2 * n) c4] 1 24 info41 rfl rfl (by decide) (by decide) w.heap.size (.slice A1 k c1) k _ (by rfl) hown4 (one_slice _ _ _) _ (by rfl) rfl (by omega) (by have := hX3.sz; have := hO4.size; omega) ?_; intro g5 c5 w5 hown5 hG5 hg5 hw5; have hR5 := rows_snoc (v' := .slice (some ⟨g5, 0, none⟩) (k + 1) c5) (s := st0 l n) HR.out HO.out hX3 hO4 hgc (hb4.congr (fun j hj => by rw [HSZ.out]; exact (HCAT.out j hj).symm)) hge4 hg5 hw5 rfl hwz))
          all_goals
            go_wp2
            go_roundw
            case rel => exact ⟨k + 1, by omega, by go_num, hG5.ext ((hE.trans hX3).only (by omega) hO4) (Nat.le_refl _), _, c5, (fun i => if i = k then g4 else G i), (fun i => if i = k then c4 else C i), rfl, by rw [rowsL_succ]; exact hown5, hR5, fun i hi => by
              show 2 * n ≤ (if i = k then c4 else C i)
              by_cases e : i = k
              · rw [if_pos e]; exact hc4
              · rw [if_neg e]; exact HCS.out i (by omega)⟩
            case measure => simp [intOf]; omega
        · obtain rfl : n = k := by omega
          obtain ⟨go, cx, hv, hgw, _⟩ := hown.form (by omega)
          injection hv with hv1 _ hv3
          subst hv1
          have hRI := RI.of (n := n) rfl hown hR hCs
          have hst0 := st0_byte l n
          have hc0 : undoSt l n 0 = some (st0 l n) := rfl
          generalize st0 l n = s0' at *
          clear hown hR hv3 hcell hCs
          go_wp2
          go_loopw [7] (fun x wx => ∃ c : Nat, c ≤ n ∧ x = .int .i64 c ∧ Ext w wx ∧ ∃ (s : St) (G C : Nat → Nat), Aside (undoSt l n c = some s ∧ Byte s) ∧ RI w.heap.size wx go n s G C) (fun x _ => n - (intOf x).toNat)
          case atStart => exact ⟨0, by omega, rfl, hE, s0', G, C, ⟨hc0, hst0⟩, hRI⟩
          case round =>
            obtain ⟨c, hc, rfl, hEx, s, G, C, AS, hri⟩ := hrel
            clear hE hRI hst0 hc0
            by_cases hc2 : c < n
            · have kc : (c : Int) < (n : Int) := by omega
              have kc0 : (0 : Int) ≤ (c : Int) := by omega
              have kc2 : (c : Int) < 2 * (n : Int) := by omega
              go_wp2
              obtain ⟨wo, hwo⟩ : ∃ wo : World, wo = wr := ⟨_, rfl⟩
              rw [← hwo] at hEx hri ⊢
              clear hwo
              go_loop [8] (fun x => ∃ p : Nat, c ≤ p ∧ p ≤ n ∧ x = .int .i64 p ∧ Aside (∀ q, c ≤ q → q < p → s q c = 0)) (fun x => n - (intOf x).toNat)
              case atStart => exact ⟨c, by omega, by omega, rfl, fun q h1 h2 => absurd h1 (by omega)⟩
              case round =>
                obtain ⟨p, hcp, hp, rfl, AZ⟩ := hrel
                have kp0 : (0 : Int) ≤ (p : Int) := by omega
                by_cases hp2 : p < n
                · have kp : (p : Int) < (n : Int) := by omega
                  have kpb : decide ((p : Int) < (n : Int)) = true := by simpa using kp
                  have cp1 := hri.cell p hp2
                  have bp1 := hri.byte p c hp2 (by omega)
                  by_cases hv : s p c = 0
                  · have hvb : ((s p c : Int) == 0) = true := by rw [hv]; rfl
                    have AZ2 : Aside (∀ q, c ≤ q → q < p + 1 → s q c = 0) := fun q h1 h2 => by
                      by_cases e : q = p
                      · rw [e]; exact hv
                      · exact AZ.out q h1 (by omega)
                    clear hv
                    go_wp2
                    go_round
                    case rel => exact ⟨p + 1, by omega, by omega, by go_num, AZ2⟩
                    case measure => simp [intOf]; omega
                  · have hvb : ((s p c : Int) == 0) = false := by simpa using hv
                    have hpn : ((p : Int) == (n : Int)) = false := by simp; omega
                    have hstep := undo_step AS.out.1 hp2 hcp hv AZ.out
                    have AST : Aside (undoSt l n (c + 1) = some (elimTo (swapF s c p) c n)) := hstep
                    have ASB : Aside (Byte (elimTo (swapF s c p) c n)) := elimTo_byte (swapF_byte AS.out.2 c p) c n
                    have ASW : Aside (Byte (swapF s c p)) := swapF_byte AS.out.2 c p
                    have cc1 := hri.cell c hc2
                    have fp1 := hri.frozen p hp2
                    have hA := hri.1.set_ (h := fun i => if i = p then .slice (some ⟨G c, 0, none⟩) (2 * n) (C c) else .slice (some ⟨G i, 0, none⟩) (2 * n) (C i)) p (.slice (some ⟨G c, 0, none⟩) (2 * n) (C c)) (fun j _ => rfl)
                    have cA : (wo.setCell ⟨go, p, none⟩ (.slice (some ⟨G c, 0, none⟩) (2 * n) (C c))).cell? ⟨go, c, none⟩ = some (.slice (some ⟨G c, 0, none⟩) (2 * n) (C c)) := by
                      have := hA.cell c hc2
                      rw [this]; split <;> rfl
                    have fA := hA.frozen c hc2
                    have hB := hri.swap c p hc2 hp2
                    have cB : ((wo.setCell ⟨go, p, none⟩ (.slice (some ⟨G c, 0, none⟩) (2 * n) (C c))).setCell ⟨go, c, none⟩ (.slice (some ⟨G p, 0, none⟩) (2 * n) (C p))).cell? ⟨go, c, none⟩ = some (.slice (some ⟨G p, 0, none⟩) (2 * n) (C p)) := by
                      have := hB.cell c hc2
                      simpa [sw] using this
                    have bB : ((wo.setCell ⟨go, p, none⟩ (.slice (some ⟨G c, 0, none⟩) (2 * n) (C c))).setCell ⟨go, c, none⟩ (.slice (some ⟨G p, 0, none⟩) (2 * n) (C p))).cell? ⟨G p, c, none⟩ = some (.int .u8 (s p c : Int)) := by
                      have := hB.byte c c hc2 (by omega)
                      simpa [sw, swapF] using this
                    have HB := Lib.hid hB
                    have hEB := (hEx.setCell (p := ⟨go, p, none⟩) hgw (.slice (some ⟨G c, 0, none⟩) (2 * n) (C c))).setCell (p := ⟨go, c, none⟩) hgw (.slice (some ⟨G p, 0, none⟩) (2 * n) (C p))
                    have I31 : ∀ w : World, Calls Try.prog 63 #[.int .u8 (s p c : Int)] w fun e w' => e = .returned (.tuple #[.int .u8 (invV (s p c) : Int), .int .i64 0]) ∧ Ext w w' := fun w => by
                      have := rinv_any (s p c) w (AS.out.2 p c)
                      rw [show invE (s p c) = 0 by unfold invE; rw [if_neg hv]] at this; exact this
                    have hs1 : swapF s c p c = s p := by unfold swapF; rw [if_pos rfl]
                    have hG1 : sw c p G c = G p := by unfold sw; rw [if_pos rfl]
                    have hiv := invV_lt (s p c)
                    have hbp : ∀ j, s p j < 256 := AS.out.2 p
                    clear hstep hA hB
                    go_wp2_with fail
                    generalize ((wo.setCell ⟨go, p, none⟩ (.slice (some ⟨G c, 0, none⟩) (2 * n) (C c))).setCell ⟨go, c, none⟩ (.slice (some ⟨G p, 0, none⟩) (2 * n) (C p))) = wb at *
                    generalize hS1 : swapF s c p = s1 at *
                    generalize sw c p G = G1 at *
                    generalize sw c p C = C1 at *
                    have HS1 := Lib.hid hs1
                    have HG1 := Lib.hid hG1
                    clear hs1 hG1 hS1 cc1 fp1 cA fA bp1 cp1 hvb hpn
                    refine (I31 _).mono ?_
                    rintro e w6 ⟨rfl, hE6⟩
                    have hri6 := HB.out.ext hE6
                    have cB6 := hE6.cellv cB
                    have hE6' := hEB.trans hE6
                    obtain ⟨i0, hi0, hz0, hz1, hz2⟩ := info_parts info5
                    have hbn : BytesAt (w6.alloc (.cells (tabA (2 * n) (fun _ => Value.int .u8 0)) 5)) w6.heap.size (2 * n) (fun _ => 0) := by
                      have : Blk (w6.alloc (.cells (tabA (2 * n) (fun _ => Value.int .u8 0)) 5)) w6.heap.size 5 (tabA (2 * n) (u8c (fun _ => 0))) := Blk.new _ _ _
                      exact this.bytes
                    have hEn : Ext w6 (w6.alloc (.cells (tabA (2 * n) (fun _ => Value.int .u8 0)) 5)) := (Ext.refl w6).alloc _
                    have hri7 := hri6.ext hEn
                    have cB7 := hEn.cellv cB6
                    have hbp7 : BytesAt (w6.alloc (.cells (tabA (2 * n) (fun _ => Value.int .u8 0)) 5)) (G p) (2 * n) (s p) := by
                      have := (hri7.2.1 c hc2).1
                      rwa [HS1.out, HG1.out] at this
                    have hgne : w6.heap.size ≠ G p := by
                      have := (hri6.2.1 c hc2).1.lt
                      rw [HG1.out] at this; omega
                    have hgo6 := hri6.1.lt
                    have hGlt : ∀ i, i < n → G1 i < w6.heap.size := fun i hi => (hri6.2.1 i hi).1.lt
                    have hE7 := hE6'.trans hEn
                    have hsz6 := hE6'.sz
                    clear hri6 hEn hE6'
                    generalize hgn : w6.heap.size = gn at *
                    go_wp2_with (at_make; refine wpList_make_tab rfl _ _ 41 rfl 5 i0 (.int .u8 0) Try.underlying41 hi0 hz0 hz1 rfl _ _ (2 * n) rfl rfl (by rw [hz2]; omega) (by omega) ?_)
                    have HGL := Lib.hid hGlt
                    clear hGlt
                    have hgo7 : go ≠ gn := by omega
                    generalize (w6.alloc (.cells (tabA (2 * n) (fun _ => Value.int .u8 0)) 5)) = w7 at *
                    refine (scaled_any gn (2 * n) (2 * n) (invV (s p c)) (G p) (2 * n) (C p) (fun _ => 0) (s p) w7 hbn hbp7 hgne (by omega) (Nat.le_refl _) hiv (fun _ => by omega) hbp).mono ?_
                    rintro e w8 ⟨rfl, hO8, hb8⟩
                    have hb8' : BytesAt w8 gn (2 * n) (rowR s1 c) := hb8.congr (fun j hj => by
                      rw [scF_full _ _ _ _ _ hj, Nat.zero_xor]; unfold rowR; rw [HS1.out])
                    have hri8 := hri7.only hO8 hgo7 (fun i hi => by have := HGL.out i hi; omega)
                    have hE8 := hE7.only (by omega) hO8
                    have c8 := hri8.cell c hc2
                    have f8 := hri8.frozen c hc2
                    have hri9 := hri8.put c gn (2 * n) (rowR s1 c) hc2 hb8' (by omega) hgo7 (fun i hi => by have := HGL.out i hi; omega) (Nat.le_refl _) (s' := elimTo s1 c 0) (fun i hi => by
                      by_cases e : i = c
                      · subst e; rw [if_pos rfl, elimTo_at]
                      · rw [if_neg e, elimTo_zero _ _ _ e])
                    have hE9 := hE8.setCell (p := ⟨go, c, none⟩) hgw (.slice (some ⟨gn, 0, none⟩) (2 * n) (2 * n))
                    have hG2 : upd c gn G1 c = gn := by unfold upd; rw [if_pos rfl]
                    have hG2n : ∀ i, i < n → i ≠ c → upd c gn G1 i ≠ gn := fun i hi hic => by
                      unfold upd; rw [if_neg hic]; have := HGL.out i hi; omega
                    have HG2 := Lib.hid hG2
                    have HG2N := Lib.hid hG2n
                    clear hri7 hri8 hb8 hb8' hbn hbp7 cB cB6 cB7 bB hG2 hG2n hE7 hE6 hEx hEB hri
                    generalize upd c gn G1 = G2 at *
                    generalize upd c (2 * n) C1 = C2 at *
                    go_wp2
                    generalize (w8.setCell ⟨go, c, none⟩ (.slice (some ⟨gn, 0, none⟩) (2 * n) (2 * n))) = w9 at *
                    go_loopw [13] (fun x wx => ∃ i : Nat, i ≤ n ∧ x = .int .i64 i ∧ Ext w wx ∧ RI w.heap.size wx go n (elimTo s1 c i) G2 C2) (fun x _ => n - (intOf x).toNat)
                    case atStart => exact ⟨0, by omega, rfl, hE9, hri9⟩
                    case round =>
                      obtain ⟨i, hi, rfl, hEi, hri⟩ := hrel
                      clear hE9 hri9 c8 f8 hE8
                      by_cases hi2 : i < n
                      · have ki : (i : Int) < (n : Int) := by omega
                        have ki0 : (0 : Int) ≤ (i : Int) := by omega
                        by_cases hic : i = c
                        · have b2 : ((i : Int) != (c : Int)) = false := by rw [hic]; simp
                          have hri2 : RI w.heap.size wr go n (elimTo s1 c (i + 1)) G2 C2 := by rw [hic]; rw [hic] at hri; rw [elimTo_skip]; exact hri
                          clear hic
                          go_wp2
                          go_roundw
                          case rel => exact ⟨i + 1, by omega, by go_num, hEi, hri2⟩
                          case measure => simp [intOf]; omega
                        · have b2 : ((i : Int) != (c : Int)) = true := by simp; omega
                          have ci := hri.cell i hi2
                          have bi := hri.byte i c hi2 (by omega)
                          have e1 : elimTo s1 c i i c = s1 i c := by rw [elimTo_todo _ _ _ hic]
                          rw [e1] at bi
                          have hbi : BytesAt wr (G2 i) (2 * n) (s1 i) := by
                            have := (hri.2.1 i hi2).1
                            rwa [elimTo_todo _ _ _ hic] at this
                          have hbr : BytesAt wr gn (2 * n) (rowR s1 c) := by
                            have := (hri.2.1 c hc2).1
                            rwa [elimTo_at, HG2.out] at this
                          have hge2 := (hri.2.1 i hi2).2.1
                          have SC := Lib.hid (scaled_any (G2 i) (2 * n) (C2 i) (s1 i c) gn (2 * n) (2 * n) (s1 i) (rowR s1 c) wr.drew hbi hbr (HG2N.out i hi2 hic) (by omega) (Nat.le_refl _) (ASW.out i c) (ASW.out i) (fun j => rowR_lt c j))
                          have HN := Lib.hid (elimTo_next s1 c i)
                          have hric := hic
                          clear e1 hbi hbr
                          go_wp2_with fail
                          go_region_law (first | (go_simp; go_at_call 68; refine SC.out.mono ?_; rintro e w10 ⟨rfl, hO10, hb10⟩))
                          all_goals
                            have hri10 := RI.upd_ (wr := wr.drew) (s := elimTo s1 c i) hri i hi2 (fun j => s1 i j ^^^ fm (s1 i c) (rowR s1 c j)) hO10 (hb10.congr (fun j hj => (scF_full _ _ _ _ _ hj).symm)) (s' := elimTo s1 c (i + 1)) (fun k hk => HN.out k hric)
                            go_wp2
                            go_roundw
                            case rel => exact ⟨i + 1, by omega, by go_num, hEi.drew.only hge2 hO10, hri10⟩
                            case measure => simp [intOf]; omega
                      · obtain rfl : n = i := by omega
                        go_wp2
                        go_roundw
                        case rel => exact ⟨c + 1, by omega, by go_num, hEi, _, G2, C2, ⟨AST, ASB⟩, hri⟩
                        case measure => simp [intOf]; omega
                · obtain rfl : n = p := by omega
                  have HSG := Lib.hid (HS.out (by rw [HLA.out]; exact undo_stop AS.out.1 hc2 AZ.out))
                  have kpb : decide ((n : Int) < (n : Int)) = false := by simp
                  go_wp2
                  go_ret2
                  exact mat_nil HSG.out hEx
            · obtain rfl : n = c := by omega
              have HVO := Lib.hid (HV.out s (by rw [HLA.out]; exact AS.out.1))
              have hwz := hEx.sz
              clear HV HS
              go_wp2
              obtain ⟨wo, hwo⟩ : ∃ wo : World, wo = wr := ⟨_, rfl⟩
              rw [← hwo] at hEx hri hwz ⊢
              clear hwo
              go_loopw [14, 15] (fun v x wx => ∃ k : Nat, k ≤ n ∧ x = .int .i64 k ∧ ∃ (A1 : Option Addr) (c2 : Nat), v = .slice A1 k c2 ∧ wx.ownsRow wo.heap.size 9 1 (.slice A1 k c2) k ((mkM k n (fun i j => s i (n + j))).map Value.string) ∧ Ext wo wx) (fun _ x _ => n - (intOf x).toNat)
              case atStart => exact ⟨0, by omega, rfl, none, 0, rfl, World.ownsRow_nil _ _ _ _, Ext.refl _⟩
              case round =>
                obtain ⟨k, hk, rfl, A1, c2, rfl, hown, hEk⟩ := hrel
                by_cases hk2 : k < n
                · have kk : (k : Int) < (n : Int) := by omega
                  have kk0 : (0 : Int) ≤ (k : Int) := by omega
                  have hrk := hri.ext hEk
                  have ck := hrk.cell k hk2
                  have hCk := hrk.2.2.2 k hk2
                  have hcs : ∀ j, j < n → wr.cell? ⟨G k, n + j, none⟩ = some (.int .u8 (bt (strN n (fun j => s k (n + j))) j)) := fun j hj => by
                    rw [hrk.byte k (n + j) hk2 (by omega), bt_bn, bn_strN n _ j hj (AS.out.2 k (n + j))]
                  have HP := Lib.hid (mkM_succ k n (fun i j => s i (n + j)))
                  have HO := Lib.hid hown
                  have HC := Lib.hid hcs
                  have hwk := hEk.sz
                  have s1 : (n : Int) ≤ 2 * (n : Int) := by omega
                  have s2 : 2 * (n : Int) ≤ (C k : Int) := by omega
                  have s3 : ¬ ((C k : Int) = (n : Int)) := by omega
                  have s4 : ¬ (C k = n) := by omega
                  have s5 : 2 * n - n = n := by omega
                  clear hcs hown
                  go_wp2_with (first
                    | (with_reducible refine wpList_bytes_str rfl 41 9 5 _ rfl Try.underlying41 Try.underlying5 Try.underlying9 (G k) n n (C k - n) rfl (strN n (fun j => s k (n + j))) (strN_size _ _) HC.out ?_)
                    | (at_builtin; refine wpList_app wr rfl _ _ 50 9 rfl Try.underlying50 (.string { data := #[] }) [.string (strN n (fun j => s k (n + j)))] 1 16 info9 rfl rfl (by decide) (by decide) wo.heap.size (.slice A1 k c2) k _ rfl HO.out (one_str _) _ rfl rfl (by omega) hwk ?_; intro g4 cap4 w4 hown4 hG4 hg4))
                  go_roundw
                  case rel => exact ⟨k + 1, by omega, by go_num, _, cap4, rfl, by rw [HP.out, List.map_append]; exact hown4, hG4.ext hEk (Nat.le_refl _)⟩
                  case measure => simp [intOf]; omega
                · obtain rfl : n = k := by omega
                  have HO := Lib.hid hown
                  clear hown
                  go_wp2
                  go_ret2
                  exact ⟨A1, n, c2, by rw [HVO.out.2]; rfl, by rw [HVO.out.1, mkM_len, HLA.out], by rw [HVO.out.1, HLA.out]; exact HO.out.rd, hEx.trans hEk⟩
    · have b1 : ((s0.size : Int) != (n : Int)) = true := by simp; omega
      have HVS := Lib.hid (undo_side h1 (by omega))
      clear h1 hl0 hla h2
      go_enter Try.func53, Try.ntmps53
      go_wp2_with (go_at_call 67; with_reducible refine (rmay_is true _ n cap l _ (hr.ext hO) hn HZ.out M1.out).mono ?_; rintro e w1 ⟨rfl, hE1⟩; replace hO := hO.trans hE1; clear hE1; replace hcell := hO.cellv hcell)
      go_ret2
      exact mat_nil HVS.out hO
  · have M1 := Lib.hid (mayB_no h1)
    have HVF := Lib.hid (undo_form (l := l) h1)
    clear h1 hla
    go_enter Try.func53, Try.ntmps53
    go_wp2_with (go_at_call 67; with_reducible refine (rmay_is false _ n cap l _ (hr.ext hO) hn HZ.out M1.out).mono ?_; rintro e w1 ⟨rfl, hE1⟩; replace hO := hO.trans hE1; clear hE1)
    go_ret2
    exact mat_nil HVF.out hO
end Go.Proofs.Ytjdppgogdilgkaa
end
