import Derived.Test.YtjdppgogdilgkaaKG
import Derived.Test.YtjdppgogdilgkaaQB
import Derived.Test.YtjdppgogdilgkaaKH
section
namespace Go.Proofs.Ytjdppgogdilgkaa
open Go.RowKit Go.Gf Go.Co Go.Conc
set_option linter.unusedSimpArgs false
set_option linter.unusedVariables false
set_option maxHeartbeats 4000000 in
set_option maxRecDepth 100000 in
theorem worker39 {n0 : Nat} (V : View) {g9 g3 g6 g8 cd : Nat} {i : Int} {m9 m3 m6 m8 : Bool} {f9 f3 f6 f8 : Nat × Nat} (c : ByteArray) (A : Option Addr) (n cap : Nat) (l : List ByteArray) (hlen : l.length = n)
    (hr : 0 < n → ∃ gr o m R tr fr, A = some ⟨gr, o, none⟩ ∧ V gr = some (m, .cells R tr fr) ∧ ∀ j, j < n → R[o + j]? = some (.string (l.getD j { data := #[] }))) (hn : n ≤ 1048576) (hz : ∀ s ∈ l, s.size ≤ 1048576)
    (h9 : V g9 = some (m9, .cells #[.string c] 9 f9)) (h3 : V g3 = some (m3, .cells #[.slice A n cap] 23 f3)) (h6 : V g6 = some (m6, .cells #[.chan (some cd)] 76 f6)) (h8 : V g8 = some (m8, .cells #[.int .i64 i] 3 f8)) :
    ZW n0 Try.prog cd (.agg #[.int .i64 i, .string (sumV c l)]) V (born Try.prog { target := .fn (.func 39) #[.pointer (some ⟨g9, 0, none⟩), .pointer (some ⟨g3, 0, none⟩), .pointer (some ⟨g6, 0, none⟩), .pointer (some ⟨g8, 0, none⟩)], args := #[] }).frame [] := by
  refine zw_born Try.func39 rfl (by kernel_rfl) (zw_own _ _ _ _) ?_
  have hZ : OwnV n0 Try.prog false (ZW n0 Try.prog cd (.agg #[.int .i64 i, .string (sumV c l)])) := zw_own _ _ _ _
  generalize hZe : ZW n0 Try.prog cd (.agg #[.int .i64 i, .string (sumV c l)]) = Z at *
  simp only [Try.ntmps39, List.size_toArray, List.length_cons, List.length_nil, Nat.reduceAdd, Nat.reduceSub, Array.replicate_succ, Array.replicate_zero, List.push_toArray, List.append_toArray, List.nil_append, List.cons_append]
  refine hZ.ctl (fun w => stepG_seq) ?_
  refine (show wpV Z _ (fun e a' V' => e = .normal ∧ VExt V V' ∧ ∃ x4 x5 x6 x7 x8 x9 x10 x11, x4 = .string (sumV c l) ∧ a' = ⟨#[.pointer (some ⟨g9, 0, none⟩), .pointer (some ⟨g3, 0, none⟩), .pointer (some ⟨g6, 0, none⟩), .pointer (some ⟨g8, 0, none⟩), x4, x5, x6, x7, x8, x9, x10, x11, undef, undef, undef, undef], []⟩) _ V from ?_) (baseD 39) _ [bot Try.prog] (by simp [baseD]) ?_
  · refine wpV_region hZ ?_
    simp only [List.size_toArray, List.length_cons, List.length_nil, Nat.reduceAdd, Nat.zero_add, List.range, List.range.loop]
    refine opsV_load1 hZ rfl (by rfl) rfl rfl (isAgg_no Try.underlying9 rfl) h9 (v := .string c) rfl ?_
    simp only [Act.put, List.setIfInBounds_toArray, List.set_cons_zero, List.set_cons_succ]
    refine opsV_load1 hZ rfl (by rfl) rfl rfl (isAgg_no Try.underlying23 rfl) h3 (v := .slice A n cap) rfl ?_
    simp only [Act.put, List.setIfInBounds_toArray, List.set_cons_zero, List.set_cons_succ]
    refine opsV_callOf hZ rfl (by rfl) rfl Try.func40 (by rfl) (by kernel_rfl) (by simp [Act.eval]) (sum_v hZ V c A n cap l hlen hr hn hz) ?_
    rintro _ V1 ⟨rfl, hE⟩
    simp only [Act.put, List.setIfInBounds_toArray, List.set_cons_zero, List.set_cons_succ]
    refine opsV_k hZ rfl (by rfl) ?_
    intro w hS hL K hK
    go_simp
    refine hK _ _ ?_
    clear hK K
    refine .quiet hS hL (by first | rfl | simp [go_sem, ev_len9, ev_idx9, *]) ?_
    clear hS hL w
    refine opsV_k hZ rfl (by rfl) ?_
    intro w hS hL K hK
    go_simp
    refine hK _ _ ?_
    clear hK K
    refine .quiet hS hL (by first | rfl | simp [go_sem, ev_len9, ev_idx9, *]) ?_
    clear hS hL w
    refine opsV_k hZ rfl (by rfl) ?_
    intro w hS hL K hK
    go_simp
    refine hK _ _ ?_
    clear hK K
    refine .quiet hS hL (by first | rfl | simp [go_sem, ev_len9, ev_idx9, *]) ?_
    clear hS hL w
    refine opsV_k hZ rfl (by rfl) ?_
    intro w hS hL K hK
    go_simp
    refine hK _ _ ?_
    clear hK K
    refine .quiet hS hL (by first | rfl | simp [go_sem, ev_len9, ev_idx9, *]) ?_
    clear hS hL w
    refine opsV_k hZ rfl (by rfl) ?_
    intro w hS hL K hK
    go_simp
    refine hK _ _ ?_
    clear hK K
    refine .quiet hS hL (by first | rfl | simp [go_sem, ev_len9, ev_idx9, *]) ?_
    clear hS hL w
    refine opsV_nil hZ ?_
    exact ⟨rfl, hE, _, _, _, _, _, _, _, _, rfl, rfl⟩
  · rintro e a' V' ⟨rfl, hE, x4, x5, x6, x7, x8, x9, x10, x11, rfl, rfl⟩
    show Z V' _ _
    refine hZ.ctl (fun w => stepG_region) ?_
    simp only [List.size_toArray, List.length_cons, List.length_nil, Nat.reduceAdd, Nat.zero_add, List.range, List.range.loop]
    refine at_yields hZ (by simp [baseD]) rfl (v := .chan (some cd)) (.load1 (by rfl) rfl rfl (isAgg_no Try.underlying76 rfl) (fun W h => by rw [h]; exact hE _ _ h6) rfl) ?_
    simp only [Act.put, List.setIfInBounds_toArray, List.set_cons_zero, List.set_cons_succ]
    refine at_yields hZ (by simp [baseD]) rfl (v := .int .i64 i) (.load1 (by rfl) rfl rfl (isAgg_no Try.underlying3 rfl) (fun W h => by rw [h]; exact hE _ _ h8) rfl) ?_
    simp only [Act.put, List.setIfInBounds_toArray, List.set_cons_zero, List.set_cons_succ]
    refine at_yields hZ (by simp [baseD]) rfl (v := .string (sumV c l)) (.still (by rfl) (fun w => rfl)) ?_
    simp only [Act.put, List.setIfInBounds_toArray, List.set_cons_zero, List.set_cons_succ]
    refine at_yields hZ (by simp [baseD]) rfl (v := .agg #[.int .i64 i, .string (sumV c l)]) (.still (by rfl) (fun w => runT_of (by go_simp) (by simp [go_sem, *]))) ?_
    simp only [Act.put, List.setIfInBounds_toArray, List.set_cons_zero, List.set_cons_succ]
    rw [← hZe]
    exact zw_stop _ _ (at_send Try.func39 rfl rfl (by rfl) rfl rfl rfl rfl rfl)
set_option maxHeartbeats 4000000 in
set_option maxRecDepth 100000 in
theorem worker41 {n0 : Nat} (V : View) {g7 g2 ca : Nat} {m7 m2 : Bool} {f7 f2 : Nat × Nat} (A : Option Addr) (n cap : Nat) (h7 : V g7 = some (m7, .cells #[.chan (some ca)] 77 f7)) (h2 : V g2 = some (m2, .cells #[.slice A n cap] 50 f2)) :
    ZW n0 Try.prog ca (.bool ((n : Int) == 0)) V (born Try.prog { target := .fn (.func 41) #[.pointer (some ⟨g7, 0, none⟩), .pointer (some ⟨g2, 0, none⟩)], args := #[] }).frame [] := by
  refine zw_born Try.func41 rfl (by kernel_rfl) (zw_own _ _ _ _) ?_
  have hZ : OwnV n0 Try.prog false (ZW n0 Try.prog ca (.bool ((n : Int) == 0))) := zw_own _ _ _ _
  generalize hZe : ZW n0 Try.prog ca (.bool ((n : Int) == 0)) = Z at *
  simp only [Try.ntmps41, List.size_toArray, List.length_cons, List.length_nil, Nat.reduceAdd, Nat.reduceSub, Array.replicate_succ, Array.replicate_zero, List.push_toArray, List.append_toArray, List.nil_append, List.cons_append]
  refine hZ.ctl (fun w => stepG_region) ?_
  simp only [List.size_toArray, List.length_cons, List.length_nil, Nat.reduceAdd, Nat.zero_add, List.range, List.range.loop]
  refine at_yields hZ (by simp [baseD]) rfl (v := .chan (some ca)) (.load1 (by rfl) rfl rfl (isAgg_no Try.underlying77 rfl) (fun W h => by rw [h]; exact h7) rfl) ?_
  simp only [Act.put, List.setIfInBounds_toArray, List.set_cons_zero, List.set_cons_succ]
  refine at_yields hZ (by simp [baseD]) rfl (v := .slice A n cap) (.load1 (by rfl) rfl rfl (isAgg_no Try.underlying50 rfl) (fun W h => by rw [h]; exact h2) rfl) ?_
  simp only [Act.put, List.setIfInBounds_toArray, List.set_cons_zero, List.set_cons_succ]
  refine at_yields hZ (by simp [baseD]) rfl (v := .int .i64 n) (.still (by rfl) (fun w => runT_of (by go_simp) (by simp [go_sem, *]))) ?_
  simp only [Act.put, List.setIfInBounds_toArray, List.set_cons_zero, List.set_cons_succ]
  refine at_yields hZ (by simp [baseD]) rfl (v := .bool ((n : Int) == 0)) (.still (by rfl) (fun w => runT_of (by go_simp) (by simp [go_sem, *]))) ?_
  simp only [Act.put, List.setIfInBounds_toArray, List.set_cons_zero, List.set_cons_succ]
  rw [← hZe]
  exact zw_stop _ _ (at_send Try.func41 rfl rfl (by rfl) rfl rfl rfl rfl rfl)
end Go.Proofs.Ytjdppgogdilgkaa
end
section
namespace Go.Proofs.Ytjdppgogdilgkaa
open Go.RowKit Go.Gf Go.Co Go.Conc
set_option linter.unusedSimpArgs false
set_option linter.unusedVariables false
theorem zero80 (w : World) : (zeroValue 80).run Try.prog w = .ok (.agg #[.int .i64 0, .string { data := #[] }]) w := by kernel_rfl
theorem zero3 (w : World) : (zeroValue 3).run Try.prog w = .ok (.int .i64 0) w := by kernel_rfl
theorem zero4 (w : World) : (zeroValue 4).run Try.prog w = .ok (.bool false) w := by kernel_rfl
theorem zero9 (w : World) : (zeroValue 9).run Try.prog w = .ok (.string { data := #[] }) w := by kernel_rfl
theorem zero76 (w : World) : (zeroValue 76).run Try.prog w = .ok (.chan none) w := by kernel_rfl
theorem zero77 (w : World) : (zeroValue 77).run Try.prog w = .ok (.chan none) w := by kernel_rfl
theorem sz80 : (Try.prog.info? 80).map (·.size) = some 2 := by kernel_rfl
theorem sz76 : (Try.prog.info? 76).map (·.size) = some 1 := by kernel_rfl
theorem sz77 : (Try.prog.info? 77).map (·.size) = some 1 := by kernel_rfl
noncomputable def recv22 : Code := match Try.f22.body with
  | some (.seq _ (.scope (.seq _ (.seq _ (.seq _ (.seq _ (.seq _ (.seq _ (.seq c _)))))))))  => c
  | _ => .skip
def specR (cd ca : Nat) (made : Nat → ByteArray) (D : Nat → List Nat) (n g7 g2 : Nat) (todo : List Nat) (al : Bool) : List SE :=
  todo.map (fun (i : Nat) => SE.mk cd (.agg #[.int .i64 i, .string (made i)]) (D i)) ++ (if al then [SE.mk ca (.bool ((n : Int) == 0)) [g7, g2]] else [])
def outR (made : Nat → ByteArray) (todo : List Nat) (i : Nat) : Value := .string (if i ∈ todo then { data := #[] } else made i)
noncomputable def tail22 : Code := match recv22 with
  | .block _ (.loop (.block _ (.seq _ c))) => c
  | _ => .skip
theorem selC_two {cd ca : Nat} {z0 z1 : Value} : SelC [cd, ca] #[rcase cd z0, rcase ca z1] := fun i cc h => by
  match i, h with
  | 0, h => exact .inl ⟨cd, z0, by simp, by simpa using h.symm⟩
  | 1, h => exact .inl ⟨ca, z1, by simp, by simpa using h.symm⟩
  | i + 2, h => simp at h
theorem selC_one {cd ca : Nat} {z0 z1 : Value} : SelC [cd, ca] #[rcase cd z0, { chan := .chan none, send := none, zero := z1 }] := fun i cc h => by
  match i, h with
  | 0, h => exact .inl ⟨cd, z0, by simp, by simpa using h.symm⟩
  | 1, h => exact .inr ⟨z1, by simpa using h.symm⟩
  | i + 2, h => simp at h
theorem uniq_two {cd ca : Nat} {z0 z1 : Value} (h : cd ≠ ca) (i j c : Nat) (z z' : Value) (h1 : (#[rcase cd z0, rcase ca z1] : Array CommCase)[i]? = some (rcase c z)) (h2 : (#[rcase cd z0, rcase ca z1] : Array CommCase)[j]? = some (rcase c z')) : i = j := by
  match i, j, h1, h2 with
  | 0, 0, _, _ => rfl
  | 1, 1, _, _ => rfl
  | 0, 1, h1, h2 => simp [rcase] at h1 h2; omega
  | 1, 0, h1, h2 => simp [rcase] at h1 h2; omega
  | i + 2, _, h1, _ => simp at h1
  | _, j + 2, _, h2 => simp at h2
theorem uniq_one {cd : Nat} {z0 z1 : Value} (i j c : Nat) (z z' : Value) (h1 : (#[rcase cd z0, { chan := .chan none, send := none, zero := z1 }] : Array CommCase)[i]? = some (rcase c z)) (h2 : (#[rcase cd z0, { chan := .chan none, send := none, zero := z1 }] : Array CommCase)[j]? = some (rcase c z')) : i = j := by
  match i, j, h1, h2 with
  | 0, 0, _, _ => rfl
  | 1, _, h1, _ => simp [rcase] at h1
  | _, 1, _, h2 => simp [rcase] at h2
  | i + 2, _, h1, _ => simp at h1
  | _, j + 2, _, h2 => simp at h2
theorem erase_map' {α β : Type} (f : α → β) (l : List α) (p : Nat) : (l.map f).eraseIdx p = (l.eraseIdx p).map f := by
  apply List.ext_getElem?
  intro i
  rw [List.getElem?_map, List.getElem?_eraseIdx, List.getElem?_eraseIdx]
  split <;> rw [List.getElem?_map]
section
variable {cd ca : Nat} {made : Nat → ByteArray} {D : Nat → List Nat} {n g7 g2 : Nat} {todo : List Nat} {al : Bool}
theorem specR_at {p : Nat} {e : SE} (h : (specR cd ca made D n g7 g2 todo al)[p]? = some e) : (∃ i, todo[p]? = some i ∧ e = SE.mk cd (.agg #[.int .i64 i, .string (made i)]) (D i)) ∨ (al = true ∧ p = todo.length ∧ e = SE.mk ca (.bool ((n : Int) == 0)) [g7, g2]) := by
  unfold specR at h
  by_cases hp : p < todo.length
  · rw [List.getElem?_append_left (by simpa using hp), List.getElem?_map, List.getElem?_eq_getElem hp] at h
    exact .inl ⟨todo[p], List.getElem?_eq_getElem hp, (Option.some.inj h).symm⟩
  · rw [List.getElem?_append_right (by simpa using hp), List.length_map] at h
    cases al with
    | false => simp at h
    | true =>
      have : p - todo.length = 0 := by
        simp only [if_true] at h
        have := (List.getElem?_eq_some_iff.1 h).1
        simpa using this
      rw [this] at h
      exact .inr ⟨rfl, by omega, by simpa using h.symm⟩
theorem specR_erase {p : Nat} (hp : p < todo.length) : (specR cd ca made D n g7 g2 todo al).eraseIdx p = specR cd ca made D n g7 g2 (todo.eraseIdx p) al := by
  unfold specR
  rw [List.eraseIdx_append_of_lt_length (by simpa using hp), erase_map']
theorem specR_erase_all : (specR cd ca made D n g7 g2 todo true).eraseIdx todo.length = specR cd ca made D n g7 g2 todo false := by
  unfold specR
  rw [List.eraseIdx_append_of_length_le (by simp)]
  simp
theorem specR_mem {e : SE} (h : e ∈ specR cd ca made D n g7 g2 todo al) : (∃ i ∈ todo, e = SE.mk cd (.agg #[.int .i64 i, .string (made i)]) (D i)) ∨ (al = true ∧ e = SE.mk ca (.bool ((n : Int) == 0)) [g7, g2]) := by
  unfold specR at h
  rcases List.mem_append.1 h with h | h
  · obtain ⟨i, hi, rfl⟩ := List.mem_map.1 h
    exact .inl ⟨i, hi, rfl⟩
  · cases al with
    | false => simp at h
    | true => exact .inr ⟨rfl, by simpa using h⟩
theorem specR_nil : specR cd ca made D n g7 g2 todo al = [] ↔ todo = [] ∧ al = false := by
  unfold specR
  cases al <;> simp
theorem mem_erase {p i : Nat} (hnd : todo.Nodup) (hp : todo[p]? = some i) (j : Nat) : j ∈ todo.eraseIdx p ↔ j ∈ todo ∧ j ≠ i := by
  obtain ⟨hlt, rfl⟩ := List.getElem?_eq_some_iff.1 hp
  rw [List.mem_eraseIdx_iff_getElem]
  constructor
  · rintro ⟨k, hk, hne, rfl⟩
    exact ⟨List.getElem_mem _, fun e => hne ((List.getElem_inj hnd).1 e)⟩
  · rintro ⟨h1, h2⟩
    obtain ⟨k, hk, rfl⟩ := List.getElem_of_mem h1
    exact ⟨k, hk, fun e => h2 (by subst e; rfl), rfl⟩
end
set_option maxRecDepth 100000 in
theorem tmps54 (T : Array Value) (h : T.size = 54) : ∃ x : Nat → Value, T = #[x 0, x 1, x 2, x 3, x 4, x 5, x 6, x 7, x 8, x 9, x 10, x 11, x 12, x 13, x 14, x 15, x 16, x 17, x 18, x 19, x 20, x 21, x 22, x 23, x 24, x 25, x 26, x 27, x 28, x 29, x 30, x 31, x 32, x 33, x 34, x 35, x 36, x 37, x 38, x 39, x 40, x 41, x 42, x 43, x 44, x 45, x 46, x 47, x 48, x 49, x 50, x 51, x 52, x 53] := by
  refine ⟨fun i => T.getD i undef, ?_⟩
  show T = ((List.range 54).map fun i => T.getD i undef).toArray
  apply Array.ext (by simp [h])
  intro i h1 h2
  simp [h1]
def TmR (go g6 g7 n k : Nat) (a : Act) : Prop := a.defers = [] ∧ a.tmps.size = 54 ∧ a.tmps[5]? = some (.slice (some ⟨go, 0, none⟩) n n) ∧ a.tmps[6]? = some (.pointer (some ⟨g6, 0, none⟩)) ∧ a.tmps[7]? = some (.pointer (some ⟨g7, 0, none⟩)) ∧ a.tmps[10]? = some (.int .i64 (k : Nat))
set_option maxRecDepth 100000 in
theorem TmR.lit {go g6 g7 n k : Nat} {a : Act} (h : TmR go g6 g7 n k a) : ∃ x : Nat → Value, a = ⟨#[x 0, x 1, x 2, x 3, x 4, .slice (some ⟨go, 0, none⟩) n n, .pointer (some ⟨g6, 0, none⟩), .pointer (some ⟨g7, 0, none⟩), x 8, x 9, .int .i64 (k : Nat), x 11, x 12, x 13, x 14, x 15, x 16, x 17, x 18, x 19, x 20, x 21, x 22, x 23, x 24, x 25, x 26, x 27, x 28, x 29, x 30, x 31, x 32, x 33, x 34, x 35, x 36, x 37, x 38, x 39, x 40, x 41, x 42, x 43, x 44, x 45, x 46, x 47, x 48, x 49, x 50, x 51, x 52, x 53], []⟩ := by
  obtain ⟨T, ds⟩ := a
  obtain ⟨h1, h2, t5, t6, t7, t10⟩ := h
  simp only at h1 h2 t5 t6 t7 t10
  subst h1
  obtain ⟨x, rfl⟩ := tmps54 T h2
  refine ⟨x, ?_⟩
  have e5 : x 5 = .slice (some ⟨go, 0, none⟩) n n := Option.some.inj t5
  have e6 : x 6 = .pointer (some ⟨g6, 0, none⟩) := Option.some.inj t6
  have e7 : x 7 = .pointer (some ⟨g7, 0, none⟩) := Option.some.inj t7
  have e10 : x 10 = .int .i64 (k : Nat) := Option.some.inj t10
  rw [e5, e6, e7, e10]
set_option maxHeartbeats 4000000 in
set_option maxRecDepth 100000 in
theorem tail_S {n0 : Nat} {Post : Value → World → Prop} {W : World} {cd ca go g6 g7 g2 n : Nat} {made : Nat → ByteArray} {D : Nat → List Nat} {V : View} {todo : List Nat} {al : Bool} {a : Act} {Q : List SE → Exit → Act → View → Prop} (ha : TmR go g6 g7 n todo.length a)
    (h7 : V g7 = if al then some (false, .cells #[.chan (some ca)] 77 (0, 0)) else some (true, .cells #[.chan none] 77 (0, 0)))
    (hq1 : specR cd ca made D n g7 g2 todo al ≠ [] → ∀ a', TmR go g6 g7 n todo.length a' → Q (specR cd ca made D n g7 g2 todo al) .normal a' V)
    (hq2 : specR cd ca made D n g7 g2 todo al = [] → ∀ a', TmR go g6 g7 n todo.length a' → Q [] (.exit 2) a' V) :
    wpK (ZC n0 Try.prog Post [cd, ca] W) (specR cd ca made D n g7 g2 todo al) tail22 Q a V := by
  obtain ⟨x, rfl⟩ := ha.lit
  clear ha
  unfold tail22 recv22 Try.f22
  dsimp only
  refine wpK_seq zc_own ?_
  refine wpK_of_V (wpV_region (zc_own _) ?_)
  simp only [List.size_toArray, List.length_cons, List.length_nil, Nat.reduceAdd, Nat.zero_add, List.range, List.range.loop]
  refine opsV_k (zc_own _) rfl (by rfl) ?_
  intro w hS hL K hK
  go_simp
  refine hK _ _ ?_
  clear hK K
  refine .quiet hS hL (by first | rfl | simp [go_sem, *]) ?_
  clear hS hL w
  by_cases hz : todo.length = 0
  · have HT := Lib.hid (show todo = [] from List.eq_nil_of_length_eq_zero hz)
    have hq : (((todo.length : Nat) : Int) == 0) = true := by rw [hz]; rfl
    clear hz
    refine opsV_k (zc_own _) rfl (by rfl) ?_
    intro w hS hL K hK
    go_simp
    refine hK _ _ ?_
    clear hK K
    refine .quiet hS hL (by first | rfl | simp [go_sem, *]) ?_
    clear hS hL w
    refine opsV_k (zc_own _) rfl (by rfl) ?_
    intro w hS hL K hK
    go_simp
    refine hK _ _ ?_
    clear hK K
    refine .quiet hS hL (by first | rfl | simp [go_sem, *]) ?_
    clear hS hL w
    cases al with
    | false =>
      refine opsV_load1 (zc_own _) rfl (by rfl) rfl rfl (isAgg_no Try.underlying77 rfl) (h7) (v := .chan none) rfl ?_
      simp only [Act.put, List.setIfInBounds_toArray, List.set_cons_zero, List.set_cons_succ]
      refine opsV_k (zc_own _) rfl (by rfl) ?_
      intro w hS hL K hK
      go_simp
      refine hK _ _ ?_
      clear hK K
      refine .quiet hS hL (by first | rfl | simp [go_sem, *]) ?_
      clear hS hL w
      refine opsV_k (zc_own _) rfl (by rfl) ?_
      intro w hS hL K hK
      go_simp
      refine hK _ _ ?_
      clear hK K
      refine .quiet hS hL (by first | rfl | simp [go_sem, *]) ?_
      clear hS hL w
      refine opsV_nil (zc_own _) ?_
      simp only [NxK, BlK]
      refine wpK_cond zc_own (t := true) (by first | rfl | simp [Act.eval, *]) ?_
      simp only [Bool.false_eq_true, if_true, if_false, reduceIte]
      refine wpK_of_V (wpV_exit (zc_own _) ?_)
      try simp only [NxK, BlK, if_true, if_false, reduceIte, Nat.reduceEqDiff]
      have h0 := hq2 (specR_nil.2 ⟨HT.out, rfl⟩)
      rw [specR_nil.2 ⟨HT.out, rfl⟩]
      exact h0 _ ⟨rfl, rfl, rfl, rfl, rfl, rfl⟩
    | true =>
      refine opsV_load1 (zc_own _) rfl (by rfl) rfl rfl (isAgg_no Try.underlying77 rfl) (h7) (v := .chan (some ca)) rfl ?_
      simp only [Act.put, List.setIfInBounds_toArray, List.set_cons_zero, List.set_cons_succ]
      refine opsV_k (zc_own _) rfl (by rfl) ?_
      intro w hS hL K hK
      go_simp
      refine hK _ _ ?_
      clear hK K
      refine .quiet hS hL (by first | rfl | simp [go_sem, *]) ?_
      clear hS hL w
      refine opsV_k (zc_own _) rfl (by rfl) ?_
      intro w hS hL K hK
      go_simp
      refine hK _ _ ?_
      clear hK K
      refine .quiet hS hL (by first | rfl | simp [go_sem, *]) ?_
      clear hS hL w
      refine opsV_nil (zc_own _) ?_
      simp only [NxK, BlK]
      refine wpK_cond zc_own (t := false) (by first | rfl | simp [Act.eval, *]) ?_
      simp only [Bool.false_eq_true, if_true, if_false, reduceIte]
      refine wpK_of_V (wpV_skip (zc_own _) ?_)
      try simp only [NxK, BlK]
      exact hq1 (fun e => by have := (specR_nil.1 e).2; cases this) _ ⟨rfl, rfl, rfl, rfl, rfl, rfl⟩
  · have hq : (((todo.length : Nat) : Int) == 0) = false := beq_false_of_ne (by omega)
    refine opsV_k (zc_own _) rfl (by rfl) ?_
    intro w hS hL K hK
    go_simp
    refine hK _ _ ?_
    clear hK K
    refine .quiet hS hL (by first | rfl | simp [go_sem, *]) ?_
    clear hS hL w
    refine opsV_k (zc_own _) rfl (by rfl) ?_
    intro w hS hL K hK
    go_simp
    refine hK _ _ ?_
    clear hK K
    refine .quiet hS hL (by first | rfl | simp [go_sem, *]) ?_
    clear hS hL w
    refine opsV_unwanted (zc_own _) rfl (by rfl) ?_
    simp only [Act.put, List.setIfInBounds_toArray, List.set_cons_zero, List.set_cons_succ]
    refine opsV_unwanted (zc_own _) rfl (by rfl) ?_
    simp only [Act.put, List.setIfInBounds_toArray, List.set_cons_zero, List.set_cons_succ]
    refine opsV_k (zc_own _) rfl (by rfl) ?_
    intro w hS hL K hK
    go_simp
    refine hK _ _ ?_
    clear hK K
    refine .quiet hS hL (by first | rfl | simp [go_sem, *]) ?_
    clear hS hL w
    refine opsV_nil (zc_own _) ?_
    simp only [NxK, BlK]
    refine wpK_cond zc_own (t := false) (by first | rfl | simp [Act.eval, *]) ?_
    simp only [Bool.false_eq_true, if_true, if_false, reduceIte]
    refine wpK_of_V (wpV_skip (zc_own _) ?_)
    try simp only [NxK, BlK]
    exact hq1 (fun e => hz (by rw [(specR_nil.1 e).1]; rfl)) _ ⟨rfl, rfl, rfl, rfl, rfl, rfl⟩
set_option maxHeartbeats 4000000 in
set_option maxRecDepth 100000 in
theorem recv_S {n0 : Nat} {Post : Value → World → Prop} {W : World} {cd ca go g6 g7 g2 n : Nat} {made : Nat → ByteArray} {D : Nat → List Nat} {V0 V : View} {todo : List Nat} {al : Bool} {a : Act} (ha : TmR go g6 g7 n todo.length a) (hcc : cd ≠ ca) (hD : ∀ i, i < n → g7 ∉ D i) (hnd : todo.Nodup) (hlt : ∀ i ∈ todo, i < n) (hll : todo.length ≤ n) (hn : n ≤ 1048576)
    (hne : specR cd ca made D n g7 g2 todo al ≠ []) (hE : VExt V0 V) (hgo : V0 go = none) (h07 : V0 g7 = none) (n67 : g6 ≠ g7) (no6 : go ≠ g6) (no7 : go ≠ g7) (h6 : ∃ m, V g6 = some (m, .cells #[.chan (some cd)] 76 (0, 0))) (h7 : V g7 = if al then some (false, .cells #[.chan (some ca)] 77 (0, 0)) else some (true, .cells #[.chan none] 77 (0, 0)))
    (ho : V go = some (true, .cells (tabA n (outR made todo)) 9 (0, 0))) :
    wpK (ZC n0 Try.prog Post [cd, ca] W) (specR cd ca made D n g7 g2 todo al) recv22 (fun (s : List SE) (e : Exit) (a' : Act) (V' : View) => s = [] ∧ e = .normal ∧ VExt V0 V' ∧ V' go = some (true, .cells (tabA n (fun i => .string (made i))) 9 (0, 0)) ∧ ∃ k, TmR go g6 g7 n k a') a V := by
  unfold recv22 Try.f22
  dsimp only
  refine wpK_block zc_own ?_
  refine wpK_loop zc_own (fun (m : Nat) (s : List SE) (a : Act) (V1 : View) => ∃ (todo : List Nat) (al : Bool), todo.Nodup ∧ (∀ i ∈ todo, i < n) ∧ todo.length ≤ n ∧ s = specR cd ca made D n g7 g2 todo al ∧ s ≠ [] ∧ m = s.length ∧ VExt V0 V1 ∧ (∃ m, V1 g6 = some (m, .cells #[.chan (some cd)] 76 (0, 0))) ∧ (V1 g7 = if al then some (false, .cells #[.chan (some ca)] 77 (0, 0)) else some (true, .cells #[.chan none] 77 (0, 0))) ∧ V1 go = some (true, .cells (tabA n (outR made todo)) 9 (0, 0)) ∧ TmR go g6 g7 n todo.length a) (specR cd ca made D n g7 g2 todo al).length ⟨todo, al, hnd, hlt, hll, rfl, hne, rfl, hE, h6, h7, ho, ha⟩ ?_
  clear hnd hlt hll hne hE h6 h7 ho ha todo al V
  rintro m s a V ⟨todo, al, hnd, hlt, hll, rfl, hne, rfl, hE, ⟨m6, h6⟩, h7, ho, ha⟩
  obtain ⟨x, rfl⟩ := ha.lit
  have HE := Lib.hid hE
  have HO := Lib.hid ho
  have H6 := Lib.hid h6
  have H7 := Lib.hid h7
  have HND := Lib.hid hnd
  have HLT := Lib.hid hlt
  have HNE := Lib.hid hne
  clear hE ho h6 h7 hnd hlt hne ha
  refine wpK_block zc_own ?_
  refine wpK_seq zc_own ?_
  refine wpK_seq zc_own ?_
  refine wpK_seq zc_own ?_
  refine wpK_of_V (wpV_region (zc_own _) ?_)
  simp only [List.size_toArray, List.length_cons, List.length_nil, Nat.reduceAdd, Nat.zero_add, List.range, List.range.loop]
  refine opsV_load1 (zc_own _) rfl (by rfl) rfl rfl (isAgg_no Try.underlying76 rfl) (H6.out) (v := .chan (some cd)) rfl ?_
  simp only [Act.put, List.setIfInBounds_toArray, List.set_cons_zero, List.set_cons_succ]
  refine opsV_nil (zc_own _) ?_
  simp only [NxK, BlK]
  cases al with
  | false =>
    refine wpK_of_V (wpV_region (zc_own _) ?_)
    simp only [List.size_toArray, List.length_cons, List.length_nil, Nat.reduceAdd, Nat.zero_add, List.range, List.range.loop]
    refine opsV_load1 (zc_own _) rfl (by rfl) rfl rfl (isAgg_no Try.underlying77 rfl) (H7.out) (v := .chan none) rfl ?_
    simp only [Act.put, List.setIfInBounds_toArray, List.set_cons_zero, List.set_cons_succ]
    refine opsV_nil (zc_own _) ?_
    simp only [NxK, BlK]
    refine wpK_seq zc_own ?_
    refine wpK_region zc_own ?_
    simp only [List.size_toArray, List.length_cons, List.length_nil, Nat.reduceAdd, Nat.zero_add, List.range, List.range.loop]
    refine opsK_select rfl (by rfl) (cases := #[rcase cd (.agg #[.int .i64 0, .string { data := #[] }]), { chan := .chan none, send := none, zero := .bool false }]) (fun w => runT_of (by simp [execOp, Act.eval, zero80, zero4, rcase]) (by simp [execOp, Act.eval, zero80, zero4])) selC_one uniq_one (fun e he => ?_) HNE.out (fun p e i z hp hi => ?_)
    · rcases specR_mem he with ⟨i, _, rfl⟩ | ⟨h, rfl⟩
      · exact ⟨0, _, rfl⟩
      · cases h
    rcases specR_at hp with ⟨i', hti, rfl⟩ | ⟨hal, hpl, rfl⟩
    · obtain rfl : i = 0 := uniq_one i 0 cd z _ hi rfl
      have hplt : p < todo.length := (List.getElem?_eq_some_iff.1 hti).1
      rw [specR_erase hplt]
      have hcr : commResult #[rcase cd (.agg #[.int .i64 0, .string { data := #[] }]), { chan := .chan none, send := none, zero := .bool false }] .select ((0 : Nat) : Int) (.agg #[.int .i64 i', .string (made i')]) true = .tuple #[.int .i64 0, .bool true, .agg #[.int .i64 i', .string (made i')], .bool false] := by simp [commResult, rcase, goInt]
      simp only at hcr ⊢
      rw [hcr]
      have hmi : i' ∈ todo := List.mem_of_getElem? hti
      have hin := HLT.out i' hmi
      have hle : (todo.eraseIdx p).length + 1 = todo.length := by rw [List.length_eraseIdx_of_lt hplt]; omega
      have hks : IntKind.i64.wrap ((todo.length : Int) - 1) = ((todo.eraseIdx p).length : Int) := by rw [IntWalk.i64_in _ (by omega)]; omega
      have HME := Lib.hid (mem_erase HND.out hti)
      have HND2 := Lib.hid (List.Nodup.sublist (List.eraseIdx_sublist todo p) HND.out)
      have HSET := Lib.hid (tabA_set n (outR made todo) (outR made (todo.eraseIdx p)) i' (.string (made i')) hin (fun j _ => by
        unfold outR
        by_cases e : j = i'
        · subst e; rw [if_pos rfl, if_neg (fun h => ((HME.out j).1 h).2 rfl)]
        · rw [if_neg e]
          by_cases h1 : j ∈ todo
          · rw [if_pos h1, if_pos ((HME.out j).2 ⟨h1, e⟩)]
          · rw [if_neg h1, if_neg (fun h => h1 ((HME.out j).1 h).1)]))
      have HLE := Lib.hid hle
      have HLEN := Lib.hid (show (specR cd ca made D n g7 g2 (todo.eraseIdx p) false).length < (specR cd ca made D n g7 g2 todo false).length by rw [← specR_erase hplt, List.length_eraseIdx_of_lt (by unfold specR; simp <;> omega)]; unfold specR; simp <;> omega)
      clear hp hi hcr hti hle hmi
      refine opsK_of_V ?_
      simp only [Act.put, List.setIfInBounds_toArray, List.set_cons_zero, List.set_cons_succ]
      refine opsV_k (zc_own _) rfl (by rfl) ?_
      intro w hS hL K hK
      go_simp
      refine hK _ _ ?_
      clear hK K
      refine .quiet hS hL (by first | rfl | simp [go_sem, *]) ?_
      clear hS hL w
      refine opsV_k (zc_own _) rfl (by rfl) ?_
      intro w hS hL K hK
      go_simp
      refine hK _ _ ?_
      clear hK K
      refine .quiet hS hL (by first | rfl | simp [go_sem, *]) ?_
      clear hS hL w
      refine opsV_k (zc_own _) rfl (by rfl) ?_
      intro w hS hL K hK
      go_simp
      refine hK _ _ ?_
      clear hK K
      refine .quiet hS hL (by first | rfl | simp [go_sem, *]) ?_
      clear hS hL w
      refine opsV_nil (zc_own _) ?_
      simp only [NxK, BlK]
      refine wpK_block zc_own ?_
      refine wpK_cond zc_own (t := true) (by first | rfl | simp [Act.eval, *]) ?_
      simp only [Bool.false_eq_true, if_true, if_false, reduceIte]
      refine wpK_seq zc_own ?_
      refine wpK_of_V (wpV_region (zc_own _) ?_)
      simp only [List.size_toArray, List.length_cons, List.length_nil, Nat.reduceAdd, Nat.zero_add, List.range, List.range.loop]
      refine opsV_k (zc_own _) rfl (by rfl) ?_
      intro w hS hL K hK
      go_simp
      refine hK _ _ ?_
      clear hK K
      refine .quiet hS hL (by first | rfl | simp [go_sem, *]) ?_
      clear hS hL w
      refine opsV_alloc (zc_own _) rfl (by rfl) (t := 80) rfl zero80 ?_
      intro g11 hg11
      simp only [Act.put, List.setIfInBounds_toArray, List.set_cons_zero, List.set_cons_succ]
      have no11 : g11 ≠ go := fun e => by subst e; rw [HO.out] at hg11; cases hg11
      have n611 : g11 ≠ g6 := fun e => by subst e; rw [H6.out] at hg11; cases hg11
      have n711 : g11 ≠ g7 := fun e => by subst e; rw [H7.out] at hg11; cases hg11
      refine opsV_store (zc_own _) rfl (by rfl) rfl rfl (u := .agg #[.int .i64 i', .string (made i')]) rfl (A := ⟨g11, 0, none⟩) (c := #[.int .i64 0, .string { data := #[] }]) (c' := #[.int .i64 i', .string (made i')]) (e := 80) (f := (0, 0)) (View.set_same _ _ _ _) (fun w hb => Go.Co.run_storeVar_row (size_of_map sz80) (by rfl) (by simp [Value.oneCell']) hb) ?_
      simp only [Act.put, List.setIfInBounds_toArray, List.set_cons_zero, List.set_cons_succ]
      generalize hV2 : (V.set g11 true (.cells (Value.agg #[.int .i64 0, .string { data := #[] }]).cells 80 (0, 0))).set g11 true (.cells #[.int .i64 i', .string (made i')] 80 (0, 0)) = V2
      have HE2 := Lib.hid (show VExt V0 V2 by rw [← hV2]; exact HE.out.trans (((VExt.refl V).set hg11).set hg11))
      have H11 := Lib.hid (show V2 g11 = some (true, .cells #[.int .i64 i', .string (made i')] 80 (0, 0)) by rw [← hV2, View.set_same])
      have HO2 := Lib.hid (show V2 go = some (true, .cells (tabA n (outR made todo)) 9 (0, 0)) by rw [← hV2, View.set_ne _ _ _ (Ne.symm no11), View.set_ne _ _ _ (Ne.symm no11)]; exact HO.out)
      have H62 := Lib.hid (show V2 g6 = some (m6, .cells #[.chan (some cd)] 76 (0, 0)) by rw [← hV2, View.set_ne _ _ _ (Ne.symm n611), View.set_ne _ _ _ (Ne.symm n611)]; exact H6.out)
      have H72 := Lib.hid (show V2 g7 = some (true, .cells #[.chan none] 77 (0, 0)) by rw [← hV2, View.set_ne _ _ _ (Ne.symm n711), View.set_ne _ _ _ (Ne.symm n711)]; exact H7.out)
      clear hV2 hg11
      refine opsV_nil (zc_own _) ?_
      simp only [NxK, BlK]
      refine wpK_seq zc_own ?_
      refine wpK_of_V (wpV_region (zc_own _) ?_)
      simp only [List.size_toArray, List.length_cons, List.length_nil, Nat.reduceAdd, Nat.zero_add, List.range, List.range.loop]
      refine opsV_k (zc_own _) rfl (by rfl) ?_
      intro w hS hL K hK
      go_simp
      refine hK _ _ ?_
      clear hK K
      refine .quiet hS hL (by first | rfl | simp [go_sem, *]) ?_
      clear hS hL w
      refine opsV_k (zc_own _) rfl (by rfl) ?_
      intro w hS hL K hK
      go_simp
      refine hK _ _ ?_
      clear hK K
      refine .quiet hS hL (by first | rfl | simp [go_sem, *]) ?_
      clear hS hL w
      refine opsV_load1 (zc_own _) rfl (by rfl) rfl rfl (isAgg_no Try.underlying3 rfl) (H11.out) (v := .int .i64 i') rfl ?_
      simp only [Act.put, List.setIfInBounds_toArray, List.set_cons_zero, List.set_cons_succ]
      refine opsV_k (zc_own _) rfl (by rfl) ?_
      intro w hS hL K hK
      go_simp
      refine hK _ _ ?_
      clear hK K
      refine .quiet hS hL (by first | rfl | simp [go_sem, *]) ?_
      clear hS hL w
      refine opsV_load1 (zc_own _) rfl (by rfl) rfl rfl (isAgg_no Try.underlying9 rfl) (H11.out) (v := .string (made i')) rfl ?_
      simp only [Act.put, List.setIfInBounds_toArray, List.set_cons_zero, List.set_cons_succ]
      refine opsV_pure (zc_own _) rfl (by rfl) (runT_index_slice0 rfl Try.underlying23 (by rfl) (size_of_map sz9) rfl rfl (j := i') rfl hin) ?_
      simp only [Act.put, List.setIfInBounds_toArray, List.set_cons_zero, List.set_cons_succ]
      refine opsV_store1 (u := .string (made i')) (zc_own _) rfl (by rfl) rfl rfl rfl (size_of_map sz9) rfl HO2.out (by rw [tabA_size]; exact hin) ?_
      simp only [Act.put, List.setIfInBounds_toArray, List.set_cons_zero, List.set_cons_succ]
      rw [HSET.out]
      refine opsV_nil (zc_own _) ?_
      simp only [NxK, BlK]
      refine wpK_of_V (wpV_region (zc_own _) ?_)
      simp only [List.size_toArray, List.length_cons, List.length_nil, Nat.reduceAdd, Nat.zero_add, List.range, List.range.loop]
      refine opsV_k (zc_own _) rfl (by rfl) ?_
      intro w hS hL K hK
      go_simp
      refine hK _ _ ?_
      clear hK K
      refine .quiet hS hL (by first | rfl | simp [go_sem, *]) ?_
      clear hS hL w
      refine opsV_k (zc_own _) rfl (by rfl) ?_
      intro w hS hL K hK
      go_simp
      refine hK _ _ ?_
      clear hK K
      refine .quiet hS hL (by first | rfl | simp [go_sem, *]) ?_
      clear hS hL w
      refine opsV_k (zc_own _) rfl (by rfl) ?_
      intro w hS hL K hK
      go_simp
      refine hK _ _ ?_
      clear hK K
      refine .quiet hS hL (by first | rfl | simp [go_sem, *]) ?_
      clear hS hL w
      refine opsV_nil (zc_own _) ?_
      simp only [NxK, BlK]
      refine (show wpK (ZC n0 Try.prog Post [cd, ca] W) (specR cd ca made D n g7 g2 (todo.eraseIdx p) false) tail22 _ _ _ from ?_)
      refine tail_S (go := go) (g6 := g6) (g7 := g7) ⟨rfl, rfl, rfl, rfl, rfl, rfl⟩ (by rw [View.set_ne _ _ _ (Ne.symm no7)]; exact H72.out) (fun hne a' ha' => ?_) (fun hnil a' ha' => ?_)
      · simp only [NxK, BlK]
        exact ⟨_, HLEN.out, todo.eraseIdx p, false, HND2.out, fun i hi => HLT.out i ((HME.out i).1 hi).1, by have := HLE.out; omega, rfl, hne, rfl, HE2.out.set hgo, ⟨m6, by rw [View.set_ne _ _ _ (Ne.symm no6)]; exact H62.out⟩, by rw [View.set_ne _ _ _ (Ne.symm no7)]; exact H72.out, View.set_same _ _ _ _, ha'⟩
      · simp only [NxK, BlK, if_true, if_false, reduceIte, Nat.reduceEqDiff]
        exact ⟨by trivial, by trivial, HE2.out.set hgo, by rw [View.set_same, tabA_congr n (outR made (todo.eraseIdx p)) (fun i => .string (made i)) (fun i _ => by unfold outR; rw [(specR_nil.1 hnil).1]; rfl)], _, ha'⟩
    · cases hal
  | true =>
    refine wpK_of_V (wpV_region (zc_own _) ?_)
    simp only [List.size_toArray, List.length_cons, List.length_nil, Nat.reduceAdd, Nat.zero_add, List.range, List.range.loop]
    refine opsV_load1 (zc_own _) rfl (by rfl) rfl rfl (isAgg_no Try.underlying77 rfl) (H7.out) (v := .chan (some ca)) rfl ?_
    simp only [Act.put, List.setIfInBounds_toArray, List.set_cons_zero, List.set_cons_succ]
    refine opsV_nil (zc_own _) ?_
    simp only [NxK, BlK]
    refine wpK_seq zc_own ?_
    refine wpK_region zc_own ?_
    simp only [List.size_toArray, List.length_cons, List.length_nil, Nat.reduceAdd, Nat.zero_add, List.range, List.range.loop]
    refine opsK_select rfl (by rfl) (cases := #[rcase cd (.agg #[.int .i64 0, .string { data := #[] }]), rcase ca (.bool false)]) (fun w => runT_of (by simp [execOp, Act.eval, zero80, zero4, rcase]) (by simp [execOp, Act.eval, zero80, zero4])) selC_two (uniq_two hcc) (fun e he => ?_) HNE.out (fun p e i z hp hi => ?_)
    · rcases specR_mem he with ⟨i, _, rfl⟩ | ⟨h, rfl⟩
      · exact ⟨0, _, rfl⟩
      · exact ⟨1, _, rfl⟩
    rcases specR_at hp with ⟨i', hti, rfl⟩ | ⟨hal, hpl, rfl⟩
    · obtain rfl : i = 0 := (uniq_two hcc) i 0 cd z _ hi rfl
      have hplt : p < todo.length := (List.getElem?_eq_some_iff.1 hti).1
      rw [specR_erase hplt]
      have hcr : commResult #[rcase cd (.agg #[.int .i64 0, .string { data := #[] }]), rcase ca (.bool false)] .select ((0 : Nat) : Int) (.agg #[.int .i64 i', .string (made i')]) true = .tuple #[.int .i64 0, .bool true, .agg #[.int .i64 i', .string (made i')], .bool false] := by simp [commResult, rcase, goInt]
      simp only at hcr ⊢
      rw [hcr]
      have hmi : i' ∈ todo := List.mem_of_getElem? hti
      have hin := HLT.out i' hmi
      have hle : (todo.eraseIdx p).length + 1 = todo.length := by rw [List.length_eraseIdx_of_lt hplt]; omega
      have hks : IntKind.i64.wrap ((todo.length : Int) - 1) = ((todo.eraseIdx p).length : Int) := by rw [IntWalk.i64_in _ (by omega)]; omega
      have HME := Lib.hid (mem_erase HND.out hti)
      have HND2 := Lib.hid (List.Nodup.sublist (List.eraseIdx_sublist todo p) HND.out)
      have HSET := Lib.hid (tabA_set n (outR made todo) (outR made (todo.eraseIdx p)) i' (.string (made i')) hin (fun j _ => by
        unfold outR
        by_cases e : j = i'
        · subst e; rw [if_pos rfl, if_neg (fun h => ((HME.out j).1 h).2 rfl)]
        · rw [if_neg e]
          by_cases h1 : j ∈ todo
          · rw [if_pos h1, if_pos ((HME.out j).2 ⟨h1, e⟩)]
          · rw [if_neg h1, if_neg (fun h => h1 ((HME.out j).1 h).1)]))
      have HLE := Lib.hid hle
      have HLEN := Lib.hid (show (specR cd ca made D n g7 g2 (todo.eraseIdx p) true).length < (specR cd ca made D n g7 g2 todo true).length by rw [← specR_erase hplt, List.length_eraseIdx_of_lt (by unfold specR; simp <;> omega)]; unfold specR; simp <;> omega)
      clear hp hi hcr hti hle hmi
      refine opsK_of_V ?_
      simp only [Act.put, List.setIfInBounds_toArray, List.set_cons_zero, List.set_cons_succ]
      refine opsV_k (zc_own _) rfl (by rfl) ?_
      intro w hS hL K hK
      go_simp
      refine hK _ _ ?_
      clear hK K
      refine .quiet hS hL (by first | rfl | simp [go_sem, *]) ?_
      clear hS hL w
      refine opsV_k (zc_own _) rfl (by rfl) ?_
      intro w hS hL K hK
      go_simp
      refine hK _ _ ?_
      clear hK K
      refine .quiet hS hL (by first | rfl | simp [go_sem, *]) ?_
      clear hS hL w
      refine opsV_k (zc_own _) rfl (by rfl) ?_
      intro w hS hL K hK
      go_simp
      refine hK _ _ ?_
      clear hK K
      refine .quiet hS hL (by first | rfl | simp [go_sem, *]) ?_
      clear hS hL w
      refine opsV_nil (zc_own _) ?_
      simp only [NxK, BlK]
      refine wpK_block zc_own ?_
      refine wpK_cond zc_own (t := true) (by first | rfl | simp [Act.eval, *]) ?_
      simp only [Bool.false_eq_true, if_true, if_false, reduceIte]
      refine wpK_seq zc_own ?_
      refine wpK_of_V (wpV_region (zc_own _) ?_)
      simp only [List.size_toArray, List.length_cons, List.length_nil, Nat.reduceAdd, Nat.zero_add, List.range, List.range.loop]
      refine opsV_k (zc_own _) rfl (by rfl) ?_
      intro w hS hL K hK
      go_simp
      refine hK _ _ ?_
      clear hK K
      refine .quiet hS hL (by first | rfl | simp [go_sem, *]) ?_
      clear hS hL w
      refine opsV_alloc (zc_own _) rfl (by rfl) (t := 80) rfl zero80 ?_
      intro g11 hg11
      simp only [Act.put, List.setIfInBounds_toArray, List.set_cons_zero, List.set_cons_succ]
      have no11 : g11 ≠ go := fun e => by subst e; rw [HO.out] at hg11; cases hg11
      have n611 : g11 ≠ g6 := fun e => by subst e; rw [H6.out] at hg11; cases hg11
      have n711 : g11 ≠ g7 := fun e => by subst e; rw [H7.out] at hg11; cases hg11
      refine opsV_store (zc_own _) rfl (by rfl) rfl rfl (u := .agg #[.int .i64 i', .string (made i')]) rfl (A := ⟨g11, 0, none⟩) (c := #[.int .i64 0, .string { data := #[] }]) (c' := #[.int .i64 i', .string (made i')]) (e := 80) (f := (0, 0)) (View.set_same _ _ _ _) (fun w hb => Go.Co.run_storeVar_row (size_of_map sz80) (by rfl) (by simp [Value.oneCell']) hb) ?_
      simp only [Act.put, List.setIfInBounds_toArray, List.set_cons_zero, List.set_cons_succ]
      generalize hV2 : (V.set g11 true (.cells (Value.agg #[.int .i64 0, .string { data := #[] }]).cells 80 (0, 0))).set g11 true (.cells #[.int .i64 i', .string (made i')] 80 (0, 0)) = V2
      have HE2 := Lib.hid (show VExt V0 V2 by rw [← hV2]; exact HE.out.trans (((VExt.refl V).set hg11).set hg11))
      have H11 := Lib.hid (show V2 g11 = some (true, .cells #[.int .i64 i', .string (made i')] 80 (0, 0)) by rw [← hV2, View.set_same])
      have HO2 := Lib.hid (show V2 go = some (true, .cells (tabA n (outR made todo)) 9 (0, 0)) by rw [← hV2, View.set_ne _ _ _ (Ne.symm no11), View.set_ne _ _ _ (Ne.symm no11)]; exact HO.out)
      have H62 := Lib.hid (show V2 g6 = some (m6, .cells #[.chan (some cd)] 76 (0, 0)) by rw [← hV2, View.set_ne _ _ _ (Ne.symm n611), View.set_ne _ _ _ (Ne.symm n611)]; exact H6.out)
      have H72 := Lib.hid (show V2 g7 = some (false, .cells #[.chan (some ca)] 77 (0, 0)) by rw [← hV2, View.set_ne _ _ _ (Ne.symm n711), View.set_ne _ _ _ (Ne.symm n711)]; exact H7.out)
      clear hV2 hg11
      refine opsV_nil (zc_own _) ?_
      simp only [NxK, BlK]
      refine wpK_seq zc_own ?_
      refine wpK_of_V (wpV_region (zc_own _) ?_)
      simp only [List.size_toArray, List.length_cons, List.length_nil, Nat.reduceAdd, Nat.zero_add, List.range, List.range.loop]
      refine opsV_k (zc_own _) rfl (by rfl) ?_
      intro w hS hL K hK
      go_simp
      refine hK _ _ ?_
      clear hK K
      refine .quiet hS hL (by first | rfl | simp [go_sem, *]) ?_
      clear hS hL w
      refine opsV_k (zc_own _) rfl (by rfl) ?_
      intro w hS hL K hK
      go_simp
      refine hK _ _ ?_
      clear hK K
      refine .quiet hS hL (by first | rfl | simp [go_sem, *]) ?_
      clear hS hL w
      refine opsV_load1 (zc_own _) rfl (by rfl) rfl rfl (isAgg_no Try.underlying3 rfl) (H11.out) (v := .int .i64 i') rfl ?_
      simp only [Act.put, List.setIfInBounds_toArray, List.set_cons_zero, List.set_cons_succ]
      refine opsV_k (zc_own _) rfl (by rfl) ?_
      intro w hS hL K hK
      go_simp
      refine hK _ _ ?_
      clear hK K
      refine .quiet hS hL (by first | rfl | simp [go_sem, *]) ?_
      clear hS hL w
      refine opsV_load1 (zc_own _) rfl (by rfl) rfl rfl (isAgg_no Try.underlying9 rfl) (H11.out) (v := .string (made i')) rfl ?_
      simp only [Act.put, List.setIfInBounds_toArray, List.set_cons_zero, List.set_cons_succ]
      refine opsV_pure (zc_own _) rfl (by rfl) (runT_index_slice0 rfl Try.underlying23 (by rfl) (size_of_map sz9) rfl rfl (j := i') rfl hin) ?_
      simp only [Act.put, List.setIfInBounds_toArray, List.set_cons_zero, List.set_cons_succ]
      refine opsV_store1 (u := .string (made i')) (zc_own _) rfl (by rfl) rfl rfl rfl (size_of_map sz9) rfl HO2.out (by rw [tabA_size]; exact hin) ?_
      simp only [Act.put, List.setIfInBounds_toArray, List.set_cons_zero, List.set_cons_succ]
      rw [HSET.out]
      refine opsV_nil (zc_own _) ?_
      simp only [NxK, BlK]
      refine wpK_of_V (wpV_region (zc_own _) ?_)
      simp only [List.size_toArray, List.length_cons, List.length_nil, Nat.reduceAdd, Nat.zero_add, List.range, List.range.loop]
      refine opsV_k (zc_own _) rfl (by rfl) ?_
      intro w hS hL K hK
      go_simp
      refine hK _ _ ?_
      clear hK K
      refine .quiet hS hL (by first | rfl | simp [go_sem, *]) ?_
      clear hS hL w
      refine opsV_k (zc_own _) rfl (by rfl) ?_
      intro w hS hL K hK
      go_simp
      refine hK _ _ ?_
      clear hK K
      refine .quiet hS hL (by first | rfl | simp [go_sem, *]) ?_
      clear hS hL w
      refine opsV_k (zc_own _) rfl (by rfl) ?_
      intro w hS hL K hK
      go_simp
      refine hK _ _ ?_
      clear hK K
      refine .quiet hS hL (by first | rfl | simp [go_sem, *]) ?_
      clear hS hL w
      refine opsV_nil (zc_own _) ?_
      simp only [NxK, BlK]
      refine (show wpK (ZC n0 Try.prog Post [cd, ca] W) (specR cd ca made D n g7 g2 (todo.eraseIdx p) true) tail22 _ _ _ from ?_)
      refine tail_S (go := go) (g6 := g6) (g7 := g7) ⟨rfl, rfl, rfl, rfl, rfl, rfl⟩ (by rw [View.set_ne _ _ _ (Ne.symm no7)]; exact H72.out) (fun hne a' ha' => ?_) (fun hnil a' ha' => ?_)
      · simp only [NxK, BlK]
        exact ⟨_, HLEN.out, todo.eraseIdx p, true, HND2.out, fun i hi => HLT.out i ((HME.out i).1 hi).1, by have := HLE.out; omega, rfl, hne, rfl, HE2.out.set hgo, ⟨m6, by rw [View.set_ne _ _ _ (Ne.symm no6)]; exact H62.out⟩, by rw [View.set_ne _ _ _ (Ne.symm no7)]; exact H72.out, View.set_same _ _ _ _, ha'⟩
      · simp only [NxK, BlK, if_true, if_false, reduceIte, Nat.reduceEqDiff]
        exact ⟨by trivial, by trivial, HE2.out.set hgo, by rw [View.set_same, tabA_congr n (outR made (todo.eraseIdx p)) (fun i => .string (made i)) (fun i _ => by unfold outR; rw [(specR_nil.1 hnil).1]; rfl)], _, ha'⟩
    · subst hpl
      obtain rfl : i = 1 := (uniq_two hcc) i 1 ca z _ hi rfl
      rw [specR_erase_all]
      have hcr : commResult #[rcase cd (.agg #[.int .i64 0, .string { data := #[] }]), rcase ca (.bool false)] .select ((1 : Nat) : Int) (.bool ((n : Int) == 0)) true = .tuple #[.int .i64 1, .bool true, .agg #[.int .i64 0, .string { data := #[] }], .bool ((n : Int) == 0)] := by simp [commResult, rcase, goInt]
      simp only at hcr ⊢
      rw [hcr]
      have HLEN := Lib.hid (show (specR cd ca made D n g7 g2 todo false).length < (specR cd ca made D n g7 g2 todo true).length by unfold specR; simp)
      clear hp hi hcr
      refine opsK_of_V ?_
      simp only [Act.put, List.setIfInBounds_toArray, List.set_cons_zero, List.set_cons_succ]
      refine opsV_k (zc_own _) rfl (by rfl) ?_
      intro w hS hL K hK
      go_simp
      refine hK _ _ ?_
      clear hK K
      refine .quiet hS hL (by first | rfl | simp [go_sem, *]) ?_
      clear hS hL w
      refine opsV_k (zc_own _) rfl (by rfl) ?_
      intro w hS hL K hK
      go_simp
      refine hK _ _ ?_
      clear hK K
      refine .quiet hS hL (by first | rfl | simp [go_sem, *]) ?_
      clear hS hL w
      refine opsV_k (zc_own _) rfl (by rfl) ?_
      intro w hS hL K hK
      go_simp
      refine hK _ _ ?_
      clear hK K
      refine .quiet hS hL (by first | rfl | simp [go_sem, *]) ?_
      clear hS hL w
      refine opsV_nil (zc_own _) ?_
      simp only [NxK, BlK]
      refine wpK_block zc_own ?_
      refine wpK_cond zc_own (t := false) (by first | rfl | simp [Act.eval, *]) ?_
      simp only [Bool.false_eq_true, if_true, if_false, reduceIte]
      refine wpK_cond zc_own (t := true) (by first | rfl | simp [Act.eval, *]) ?_
      simp only [Bool.false_eq_true, if_true, if_false, reduceIte]
      refine wpK_seq zc_own ?_
      refine wpK_of_V (wpV_region (zc_own _) ?_)
      simp only [List.size_toArray, List.length_cons, List.length_nil, Nat.reduceAdd, Nat.zero_add, List.range, List.range.loop]
      refine opsV_k (zc_own _) rfl (by rfl) ?_
      intro w hS hL K hK
      go_simp
      refine hK _ _ ?_
      clear hK K
      refine .quiet hS hL (by first | rfl | simp [go_sem, *]) ?_
      clear hS hL w
      refine opsV_k (zc_own _) rfl (by rfl) ?_
      intro w hS hL K hK
      go_simp
      refine hK _ _ ?_
      clear hK K
      refine .quiet hS hL (by first | rfl | simp [go_sem, *]) ?_
      clear hS hL w
      refine opsV_nil (zc_own _) ?_
      simp only [NxK, BlK]
      refine wpK_regain (b := g7) H7.out (fun e he => ?_) ?_
      · rcases specR_mem he with ⟨i, hi, rfl⟩ | ⟨h, _⟩
        · exact hD i (HLT.out i hi)
        · cases h
      refine wpK_seq zc_own ?_
      refine wpK_of_V (wpV_region (zc_own _) ?_)
      simp only [List.size_toArray, List.length_cons, List.length_nil, Nat.reduceAdd, Nat.zero_add, List.range, List.range.loop]
      refine opsV_store1 (u := .chan none) (zc_own _) rfl (by rfl) rfl rfl rfl (size_of_map sz77) rfl (View.set_same _ _ _ _) (by simp) ?_
      simp only [Act.put, List.setIfInBounds_toArray, List.set_cons_zero, List.set_cons_succ]
      generalize hV2 : (V.set g7 true (.cells #[.chan (some ca)] 77 (0, 0))).set g7 true (.cells #[.chan none] 77 (0, 0)) = V2
      have HE2 := Lib.hid (show VExt V0 V2 by rw [← hV2]; exact (HE.out.set h07).set h07)
      have HO2 := Lib.hid (show V2 go = some (true, .cells (tabA n (outR made todo)) 9 (0, 0)) by rw [← hV2, View.set_ne _ _ _ no7, View.set_ne _ _ _ no7]; exact HO.out)
      have H62 := Lib.hid (show V2 g6 = some (m6, .cells #[.chan (some cd)] 76 (0, 0)) by rw [← hV2, View.set_ne _ _ _ n67, View.set_ne _ _ _ n67]; exact H6.out)
      have H72 := Lib.hid (show V2 g7 = some (true, .cells #[.chan none] 77 (0, 0)) by rw [← hV2, View.set_same])
      clear hV2
      refine opsV_nil (zc_own _) ?_
      simp only [NxK, BlK]
      refine wpK_seq zc_own ?_
      refine wpK_of_V (wpV_region (zc_own _) ?_)
      simp only [List.size_toArray, List.length_cons, List.length_nil, Nat.reduceAdd, Nat.zero_add, List.range, List.range.loop]
      refine opsV_k (zc_own _) rfl (by rfl) ?_
      intro w hS hL K hK
      go_simp
      refine hK _ _ ?_
      clear hK K
      refine .quiet hS hL (by first | rfl | simp [go_sem, *]) ?_
      clear hS hL w
      refine opsV_nil (zc_own _) ?_
      simp only [NxK, BlK]
      by_cases hn0 : n = 0
      · have hq : ((n : Int) == 0) = true := by rw [hn0]; rfl
        have HT := Lib.hid (show todo = [] by
          exact List.eq_nil_iff_forall_not_mem.2 fun i hi => by have := HLT.out i hi; omega)
        have HN0 := Lib.hid hn0
        clear hn0
        refine wpK_cond zc_own (t := true) (by first | rfl | simp [Act.eval, *]) ?_
        simp only [Bool.false_eq_true, if_true, if_false, reduceIte]
        refine wpK_of_V (wpV_exit (zc_own _) ?_)
        try simp only [NxK, BlK, if_true, if_false, reduceIte, Nat.reduceEqDiff]
        refine ⟨specR_nil.2 ⟨HT.out, rfl⟩, by trivial, HE2.out, ?_, todo.length, ⟨rfl, rfl, rfl, rfl, rfl, rfl⟩⟩
        rw [HO2.out, tabA_congr n (outR made todo) (fun i => .string (made i)) (fun i hi => by have := HN0.out; omega)]
      · have hq : ((n : Int) == 0) = false := beq_false_of_ne (by omega)
        refine wpK_cond zc_own (t := false) (by first | rfl | simp [Act.eval, *]) ?_
        simp only [Bool.false_eq_true, if_true, if_false, reduceIte]
        refine wpK_of_V (wpV_skip (zc_own _) ?_)
        try simp only [NxK, BlK]
        refine (show wpK (ZC n0 Try.prog Post [cd, ca] W) (specR cd ca made D n g7 g2 todo false) tail22 _ _ _ from ?_)
        refine tail_S (go := go) (g6 := g6) (g7 := g7) ⟨rfl, rfl, rfl, rfl, rfl, rfl⟩ H72.out (fun hne a' ha' => ?_) (fun hnil a' ha' => ?_)
        · simp only [NxK, BlK]
          exact ⟨_, HLEN.out, todo, false, HND.out, HLT.out, hll, rfl, hne, rfl, HE2.out, ⟨m6, H62.out⟩, H72.out, HO2.out, ha'⟩
        · simp only [NxK, BlK, if_true, if_false, reduceIte, Nat.reduceEqDiff]
          exact ⟨by trivial, by trivial, HE2.out, by rw [HO2.out, tabA_congr n (outR made todo) (fun i => .string (made i)) (fun i _ => by unfold outR; rw [(specR_nil.1 hnil).1]; rfl)], _, ha'⟩
end Go.Proofs.Ytjdppgogdilgkaa
end
