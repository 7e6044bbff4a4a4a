import Derived.Test.YtjdppgogdilgkaaTC
section
namespace Go.Proofs.Ytjdppgogdilgkaa
open Go.RowKit Go.Gf
set_option linter.unusedVariables false
set_option linter.unusedSimpArgs false
theorem sumV_eq {c : ByteArray} {l : List ByteArray} {k z : Nat} (hc : c.size = k) (hl : l.length = k) (h1 : 1 ≤ k) (hz : ∀ s ∈ l, s.size = z) : sumV c l = strN z (fun j => xs k (fun x => fm (bn c x) (ent l x j))) := by
  have hl0 : len0 l = z := by rw [len0_eq (by omega)]; exact hz _ (List.getElem_mem _)
  rw [(sum_yes c l ⟨by rw [hc, hl], fun s hs => by rw [hl0]; exact hz s hs⟩).1, hl0, hl]
  exact strN_congr _ _ _ fun j _ => acc_xs c l k j
theorem sumV_size {c : ByteArray} {l : List ByteArray} {k z : Nat} (hc : c.size = k) (hl : l.length = k) (h1 : 1 ≤ k) (hz : ∀ s ∈ l, s.size = z) : (sumV c l).size = z := by rw [sumV_eq hc hl h1 hz, strN_size]
theorem sumV_bn {c : ByteArray} {l : List ByteArray} {k z j : Nat} (hc : c.size = k) (hl : l.length = k) (h1 : 1 ≤ k) (hz : ∀ s ∈ l, s.size = z) (hj : j < z) : bn (sumV c l) j = xs k (fun x => fm (bn c x) (ent l x j)) := by
  rw [sumV_eq hc hl h1 hz, bn_strN _ _ j hj (xs_lt k _ fun x _ => fm_lt _ _ (bn_lt c x))]
theorem ent_map {U : List ByteArray} {f : ByteArray → ByteArray} {y j : Nat} (h : y < U.length) : ent (U.map f) y j = bn (f (U.getD y { data := #[] })) j := by
  unfold ent
  rw [List.getD_eq_getElem?_getD, List.getElem?_map, List.getD_eq_getElem?_getD, List.getElem?_eq_getElem h]
  rfl
theorem sum_assoc {row : ByteArray} {U X : List ByteArray} {k z : Nat} (h1 : 1 ≤ k) (hr : row.size = k) (hU : U.length = k) (hUs : ∀ u ∈ U, u.size = k) (hX : X.length = k) (hXs : ∀ x ∈ X, x.size = z) :
    sumV (strN k (timesF [row] U 0)) X = sumV row (U.map (fun u => sumV u X)) := by
  have hs : ∀ s ∈ U.map (fun u => sumV u X), s.size = z := fun s hs => by
    obtain ⟨u, hu, rfl⟩ := List.mem_map.1 hs
    exact sumV_size (hUs u hu) hX h1 hXs
  rw [sumV_eq (strN_size _ _) hX h1 hXs, sumV_eq hr (by simp [hU]) h1 hs]
  refine strN_congr _ _ _ fun j hj => ?_
  have hm := mul_assoc k k (fun _ y => bn row y) (ent U) (ent X) (fun _ _ => bn_lt _ _) (ent_byte U) (ent_byte X) 0 j
  unfold mul at hm
  rw [xs_congr k _ (fun x => fm (xs k (fun y => fm (bn row y) (ent U y x))) (ent X x j)) (fun x hx => by
    rw [bn_strN _ _ x hx (timesF_lt _ _ _ _)]
    show fm (acc row U U.length x) _ = _
    rw [acc_xs, hU])]
  rw [hm]
  refine xs_congr k _ _ fun y hy => ?_
  rw [ent_map (by omega), sumV_bn (hUs _ (by rw [getD_at _ _ (by omega)]; exact List.getElem_mem _)) hX h1 hXs hj]
  rfl
theorem agn_sum {k r i : Nat} (hk : 1 ≤ k) (h : k + r ≤ 32) (hi : i < k + r) {l : List Pt} (ho : okTo (k + r) l l.length) (hf : k ≤ (idxs (k + r) l).length) :
    sumV ((timesV [(everyM k r).getD i { data := #[] }] (undoV (rowsM k r (partsP k r l)))).getD 0 { data := #[] }) ((partsP k r l).map (·.2)) = sumV ((everyM k r).getD i { data := #[] }) (solvedV k r (partsP k r l)) := by
  obtain ⟨p1, p2, p3, p4, p5⟩ := partsP_undo k r hk h l hf
  have hu := undo_sound _ p1 (by omega) p4
  have hel : i < (everyM k r).length := by rw [everyM_len]; exact hi
  have hrz : ((everyM k r).getD i { data := #[] }).size = k := everyM_size k r _ (by rw [getD_at _ _ hel]; exact List.getElem_mem _)
  generalize (everyM k r).getD i { data := #[] } = row at *
  have hl0 : len0 (undoV (rowsM k r (partsP k r l))) = k := hu.2.2.1.trans p3
  have hpl := partsP_len k r l hf
  have hm1 : mayP [row] := ⟨by simp, by show 1 ≤ row.size ∧ row.size ≤ 64; omega, fun s hs => by obtain rfl := List.mem_singleton.1 hs; rfl⟩
  have ht := (times_ok hm1 hu.1 (show row.size = _ by rw [hrz, p5])).1
  rw [ht, mkM_get _ _ _ _ (by simp), hl0]
  rw [sum_assoc (z := zL l) hk hrz p5 (fun u hm => by rw [hu.1.2.2 u hm, hl0]) (by simp [hpl]) (fun x hx => by
    obtain ⟨p, hp, rfl⟩ := List.mem_map.1 hx
    exact partsP_size ho p hp)]
  rw [mapM_range _ _ p5]
  rfl
end Go.Proofs.Ytjdppgogdilgkaa
end
section
namespace Go.Proofs.Ytjdppgogdilgkaa
open Go.RowKit Go.Gf Go.Co Go.Conc
set_option linter.unusedSimpArgs false
set_option linter.unusedVariables false
set_option maxHeartbeats 8000000 in
set_option maxRecDepth 100000 in
theorem again_Bno {n0 : Nat} (hE : NoEarly Try.prog n0) {k r i : Nat} (hk : 1 ≤ k) (h : k + r ≤ 32) (hi2 : i < k + r) {A : Option Addr} {n cap : Nat} {l : List Pt} {w : World} (hr : PtRd w A n l) (hn : n ≤ 1048576) (hz : ∀ p ∈ l, p.2.size ≤ 1048576) (hi : ∀ p ∈ l, -9223372036854775808 ≤ p.1 ∧ p.1 ≤ 9223372036854775807) {E : Int} (hEr : fstE k r l E) :
    CallsB n0 Try.prog 18 #[.int .i64 k, .int .i64 r, .int .i64 i, .slice A n cap] w (AnsB (agnV k r i l) (agnE k r l) w) := by
  have HC := Lib.hid (show canB k r = true by unfold canB; simp; omega)
  have d1 : decide ((i : Int) < 0) = false := by simp
  have d2 : decide ((k : Int) + (r : Int) ≤ (i : Int)) = false := by simp; omega
  have d3 : IntKind.i64.wrap ((k : Int) + (r : Int)) = (k : Int) + (r : Int) := IntWalk.i64_in _ (by omega)
  have d4 : (i : Int) < (k : Int) + (r : Int) := by omega
  have HZ := Lib.hid hz
  have HI := Lib.hid hi
  clear hz hi
  have HV := Lib.hid (agn_no (i := i) hEr)
  rcases fst_E hEr with rfl | rfl
  · have HER := Lib.hid hEr
    clear hEr
    refine callsB_of_wp Try.func18 rfl ?_
    simp only [Try.ntmps18, List.size_toArray, List.length_cons, List.length_nil, Nat.reduceAdd, Nat.reduceSub, Array.replicate_succ, Array.replicate_zero, List.push_toArray, List.append_toArray, List.nil_append, List.cons_append]
    refine wpB_seq ?_
    refine wpB_region ?_
    simp only [List.size_toArray, List.length_cons, List.length_nil, Nat.reduceAdd, Nat.zero_add, List.range, List.range.loop]
    iterate 2 (refine opsB_k bodT rfl (by rfl) (by rfl) ?_; intro T D K hK; go_simp; refine hK _ _ ?_; clear hK K; refine opsB.tape T D ?_)
    refine opsB_nil ?_
    simp only [Nx]
    refine wpB_seq ?_
    refine wpB_seq ?_
    refine wpB_region ?_
    simp only [List.size_toArray, List.length_cons, List.length_nil, Nat.reduceAdd, Nat.zero_add, List.range, List.range.loop]
    iterate 2 (refine opsB_k bodT rfl (by rfl) (by rfl) ?_; intro T D K hK; go_simp; refine hK _ _ ?_; clear hK K; refine opsB.tape T D ?_)
    refine opsB_callOf (f := 20) (av := #[.int .i64 k, .int .i64 r]) rfl (by rfl) rfl Try.func20 (by rfl) (by decide +kernel) (by simp [Act.eval]) (callsB_same tameT hE (by decide) ⟨_, Try.func20, rfl⟩ (fun T D => (can_any k r _).mono fun e w' ⟨h1, h2⟩ => ⟨by rw [h1, HC.out], h2⟩)) ?_
    rintro v w' ⟨rfl, rfl⟩
    simp only [Act.put, List.getElem_toArray, List.getElem_cons_zero, List.getElem_cons_succ, List.setIfInBounds_toArray, List.set_cons_zero, List.set_cons_succ]
    iterate 12 (refine opsB_k bodT rfl (by rfl) (by rfl) ?_; intro T D K hK; go_simp; refine hK _ _ ?_; clear hK K; refine opsB.tape T D ?_)
    refine opsB_nil ?_
    simp only [Nx]
    refine wpB_cond (t := false) (by first | rfl | simp [Act.eval, *]) ?_
    simp only [Bool.false_eq_true, if_true, if_false, reduceIte]
    refine wpB_skip ?_
    simp only [Nx]
    refine wpB_seq ?_
    refine wpB_region ?_
    simp only [List.size_toArray, List.length_cons, List.length_nil, Nat.reduceAdd, Nat.zero_add, List.range, List.range.loop]
    iterate 3 (refine opsB_k bodT rfl (by rfl) (by rfl) ?_; intro T D K hK; go_simp; refine hK _ _ ?_; clear hK K; refine opsB.tape T D ?_)
    refine opsB_callOf (f := 27) (av := #[.int .i64 k, .int .i64 r, .slice A n cap]) rfl (by rfl) rfl Try.func27 (by rfl) (by decide +kernel) (by simp [Act.eval]) (callsB_of tameT hE (by decide) ⟨_, Try.func27, rfl⟩ (R := fun v w'' => v = .tuple #[.slice none 0 0, .slice none 0 0, .int .i64 60] ∧ Ext w' w'') (fun T D => (firsts_no hk h (w := tp w' T D) hr hn HZ.out HI.out HER.out).mono fun e w'' ⟨h1, h2⟩ => ⟨_, h1, rfl, h2.nt⟩)) ?_
    rintro v w2 ⟨rfl, hE2⟩
    simp only [Act.put, List.getElem_toArray, List.getElem_cons_zero, List.getElem_cons_succ, List.setIfInBounds_toArray, List.set_cons_zero, List.set_cons_succ]
    iterate 7 (refine opsB_k bodT rfl (by rfl) (by rfl) ?_; intro T D K hK; go_simp; refine hK _ _ ?_; clear hK K; refine opsB.tape T D ?_)
    refine opsB_nil ?_
    simp only [Nx]
    refine wpB_seq ?_
    refine wpB_seq ?_
    refine wpB_region ?_
    simp only [List.size_toArray, List.length_cons, List.length_nil, Nat.reduceAdd, Nat.zero_add, List.range, List.range.loop]
    iterate 2 (refine opsB_k bodT rfl (by rfl) (by rfl) ?_; intro T D K hK; go_simp; refine hK _ _ ?_; clear hK K; refine opsB.tape T D ?_)
    refine opsB_nil ?_
    simp only [Nx]
    refine wpB_cond (t := true) (by first | rfl | simp [Act.eval, *]) ?_
    simp only [Bool.false_eq_true, if_true, if_false, reduceIte]
    refine wpB_seq ?_
    refine wpB_region ?_
    simp only [List.size_toArray, List.length_cons, List.length_nil, Nat.reduceAdd, Nat.zero_add, List.range, List.range.loop]
    iterate 3 (refine opsB_k bodT rfl (by rfl) (by rfl) ?_; intro T D K hK; go_simp; refine hK _ _ ?_; clear hK K; refine opsB.tape T D ?_)
    refine opsB_nil ?_
    simp only [Nx]
    refine wpB_ret ?_
    exact bodyB_ret rfl (results_tmp2 rfl rfl rfl _) (by rw [HV.out.1, HV.out.2]; exact ⟨rfl, hE2⟩)
  · have HER := Lib.hid hEr
    clear hEr
    refine callsB_of_wp Try.func18 rfl ?_
    simp only [Try.ntmps18, List.size_toArray, List.length_cons, List.length_nil, Nat.reduceAdd, Nat.reduceSub, Array.replicate_succ, Array.replicate_zero, List.push_toArray, List.append_toArray, List.nil_append, List.cons_append]
    refine wpB_seq ?_
    refine wpB_region ?_
    simp only [List.size_toArray, List.length_cons, List.length_nil, Nat.reduceAdd, Nat.zero_add, List.range, List.range.loop]
    iterate 2 (refine opsB_k bodT rfl (by rfl) (by rfl) ?_; intro T D K hK; go_simp; refine hK _ _ ?_; clear hK K; refine opsB.tape T D ?_)
    refine opsB_nil ?_
    simp only [Nx]
    refine wpB_seq ?_
    refine wpB_seq ?_
    refine wpB_region ?_
    simp only [List.size_toArray, List.length_cons, List.length_nil, Nat.reduceAdd, Nat.zero_add, List.range, List.range.loop]
    iterate 2 (refine opsB_k bodT rfl (by rfl) (by rfl) ?_; intro T D K hK; go_simp; refine hK _ _ ?_; clear hK K; refine opsB.tape T D ?_)
    refine opsB_callOf (f := 20) (av := #[.int .i64 k, .int .i64 r]) rfl (by rfl) rfl Try.func20 (by rfl) (by decide +kernel) (by simp [Act.eval]) (callsB_same tameT hE (by decide) ⟨_, Try.func20, rfl⟩ (fun T D => (can_any k r _).mono fun e w' ⟨h1, h2⟩ => ⟨by rw [h1, HC.out], h2⟩)) ?_
    rintro v w' ⟨rfl, rfl⟩
    simp only [Act.put, List.getElem_toArray, List.getElem_cons_zero, List.getElem_cons_succ, List.setIfInBounds_toArray, List.set_cons_zero, List.set_cons_succ]
    iterate 12 (refine opsB_k bodT rfl (by rfl) (by rfl) ?_; intro T D K hK; go_simp; refine hK _ _ ?_; clear hK K; refine opsB.tape T D ?_)
    refine opsB_nil ?_
    simp only [Nx]
    refine wpB_cond (t := false) (by first | rfl | simp [Act.eval, *]) ?_
    simp only [Bool.false_eq_true, if_true, if_false, reduceIte]
    refine wpB_skip ?_
    simp only [Nx]
    refine wpB_seq ?_
    refine wpB_region ?_
    simp only [List.size_toArray, List.length_cons, List.length_nil, Nat.reduceAdd, Nat.zero_add, List.range, List.range.loop]
    iterate 3 (refine opsB_k bodT rfl (by rfl) (by rfl) ?_; intro T D K hK; go_simp; refine hK _ _ ?_; clear hK K; refine opsB.tape T D ?_)
    refine opsB_callOf (f := 27) (av := #[.int .i64 k, .int .i64 r, .slice A n cap]) rfl (by rfl) rfl Try.func27 (by rfl) (by decide +kernel) (by simp [Act.eval]) (callsB_of tameT hE (by decide) ⟨_, Try.func27, rfl⟩ (R := fun v w'' => v = .tuple #[.slice none 0 0, .slice none 0 0, .int .i64 61] ∧ Ext w' w'') (fun T D => (firsts_no hk h (w := tp w' T D) hr hn HZ.out HI.out HER.out).mono fun e w'' ⟨h1, h2⟩ => ⟨_, h1, rfl, h2.nt⟩)) ?_
    rintro v w2 ⟨rfl, hE2⟩
    simp only [Act.put, List.getElem_toArray, List.getElem_cons_zero, List.getElem_cons_succ, List.setIfInBounds_toArray, List.set_cons_zero, List.set_cons_succ]
    iterate 7 (refine opsB_k bodT rfl (by rfl) (by rfl) ?_; intro T D K hK; go_simp; refine hK _ _ ?_; clear hK K; refine opsB.tape T D ?_)
    refine opsB_nil ?_
    simp only [Nx]
    refine wpB_seq ?_
    refine wpB_seq ?_
    refine wpB_region ?_
    simp only [List.size_toArray, List.length_cons, List.length_nil, Nat.reduceAdd, Nat.zero_add, List.range, List.range.loop]
    iterate 2 (refine opsB_k bodT rfl (by rfl) (by rfl) ?_; intro T D K hK; go_simp; refine hK _ _ ?_; clear hK K; refine opsB.tape T D ?_)
    refine opsB_nil ?_
    simp only [Nx]
    refine wpB_cond (t := true) (by first | rfl | simp [Act.eval, *]) ?_
    simp only [Bool.false_eq_true, if_true, if_false, reduceIte]
    refine wpB_seq ?_
    refine wpB_region ?_
    simp only [List.size_toArray, List.length_cons, List.length_nil, Nat.reduceAdd, Nat.zero_add, List.range, List.range.loop]
    iterate 3 (refine opsB_k bodT rfl (by rfl) (by rfl) ?_; intro T D K hK; go_simp; refine hK _ _ ?_; clear hK K; refine opsB.tape T D ?_)
    refine opsB_nil ?_
    simp only [Nx]
    refine wpB_ret ?_
    exact bodyB_ret rfl (results_tmp2 rfl rfl rfl _) (by rw [HV.out.1, HV.out.2]; exact ⟨rfl, hE2⟩)
set_option maxHeartbeats 8000000 in
set_option maxRecDepth 100000 in
theorem again_Bok {n0 : Nat} (hE : NoEarly Try.prog n0) {k r i : Nat} (hk : 1 ≤ k) (h : k + r ≤ 32) (hi2 : i < k + r) {A : Option Addr} {n cap : Nat} {l : List Pt} {w : World} (hr : PtRd w A n l) (hn : n ≤ 1048576) (hz : ∀ p ∈ l, p.2.size ≤ 1048576) (hi : ∀ p ∈ l, -9223372036854775808 ≤ p.1 ∧ p.1 ≤ 9223372036854775807) (ho : okTo (k + r) l l.length) (hf : k ≤ (idxs (k + r) l).length) :
    CallsB n0 Try.prog 18 #[.int .i64 k, .int .i64 r, .int .i64 i, .slice A n cap] w (AnsB (agnV k r i l) (agnE k r l) w) := by
  have HC := Lib.hid (show canB k r = true by unfold canB; simp; omega)
  have d1 : decide ((i : Int) < 0) = false := by simp
  have d2 : decide ((k : Int) + (r : Int) ≤ (i : Int)) = false := by simp; omega
  have d3 : IntKind.i64.wrap ((k : Int) + (r : Int)) = (k : Int) + (r : Int) := IntWalk.i64_in _ (by omega)
  have d4 : (i : Int) < (k : Int) + (r : Int) := by omega
  have HZ := Lib.hid hz
  have HI := Lib.hid hi
  clear hz hi
  have HV := Lib.hid (agn_ok (i := i) ho hf)
  have HO := Lib.hid ho
  have HF := Lib.hid hf
  have e0 : 0 < k := by omega
  have HPZ := Lib.hid (show ∀ s ∈ (partsP k r l).map (·.2), s.size ≤ 1048576 from fun s hs => by
    obtain ⟨p, hp, rfl⟩ := List.mem_map.1 hs
    obtain ⟨x, hx, rfl⟩ := List.mem_map.1 hp
    obtain ⟨q, hq⟩ := Option.isSome_iff_exists.1 (takenR_some k r l x hx)
    simp only [txtL, hq, Option.getD_some]
    exact HZ.out q (getM_mem hq).1)
  have HPU := Lib.hid (partsP_undo k r hk h l hf)
  have HRZ := Lib.hid (show ∀ s ∈ rowsM k r (partsP k r l), s.size ≤ 1048576 from fun s hs => by
    have := HPU.out.1.2.2 s hs
    have h2 := HPU.out.2.1
    omega)
  have hu := undo_sound _ HPU.out.1 (by rw [HPU.out.2.2.1, HPU.out.2.1]) HPU.out.2.2.2.1
  have hel : i < (everyM k r).length := by rw [everyM_len]; exact hi2
  have hrz : ((everyM k r).getD i { data := #[] }).size = k := everyM_size k r _ (by rw [getD_at _ _ hel]; exact List.getElem_mem _)
  have hl0 : len0 (undoV (rowsM k r (partsP k r l))) = k := hu.2.2.1.trans HPU.out.2.2.1
  have HUM := Lib.hid hu.1
  have HM1 := Lib.hid (show mayP [(everyM k r).getD i { data := #[] }] from ⟨by simp, by show 1 ≤ ((everyM k r).getD i { data := #[] }).size ∧ ((everyM k r).getD i { data := #[] }).size ≤ 64; omega, fun s hs => by obtain rfl := List.mem_singleton.1 hs; rfl⟩)
  have HL0 := Lib.hid (show len0 [(everyM k r).getD i { data := #[] }] = (undoV (rowsM k r (partsP k r l))).length from hrz.trans HPU.out.2.2.2.2.symm)
  have HRW := Lib.hid (show ∀ s ∈ [(everyM k r).getD i { data := #[] }], s.size ≤ 1048576 from fun s hs => by obtain rfl := List.mem_singleton.1 hs; omega)
  have HUZ := Lib.hid (show ∀ s ∈ undoV (rowsM k r (partsP k r l)), s.size ≤ 1048576 from fun s hs => by rw [hu.1.2.2 s hs, hl0]; omega)
  have HT1 := Lib.hid (show (timesV [(everyM k r).getD i { data := #[] }] (undoV (rowsM k r (partsP k r l)))).length = 1 by rw [(times_ok HM1.out HUM.out HL0.out).1, mkM_len]; rfl)
  have HAS := Lib.hid (agn_sum hk h hi2 ho hf)
  clear ho hf hu hel hrz hl0
  refine callsB_of_wp Try.func18 rfl ?_
  simp only [Try.ntmps18, List.size_toArray, List.length_cons, List.length_nil, Nat.reduceAdd, Nat.reduceSub, Array.replicate_succ, Array.replicate_zero, List.push_toArray, List.append_toArray, List.nil_append, List.cons_append]
  refine wpB_seq ?_
  refine wpB_region ?_
  simp only [List.size_toArray, List.length_cons, List.length_nil, Nat.reduceAdd, Nat.zero_add, List.range, List.range.loop]
  iterate 2 (refine opsB_k bodT rfl (by rfl) (by rfl) ?_; intro T D K hK; go_simp; refine hK _ _ ?_; clear hK K; refine opsB.tape T D ?_)
  refine opsB_nil ?_
  simp only [Nx]
  refine wpB_seq ?_
  refine wpB_seq ?_
  refine wpB_region ?_
  simp only [List.size_toArray, List.length_cons, List.length_nil, Nat.reduceAdd, Nat.zero_add, List.range, List.range.loop]
  iterate 2 (refine opsB_k bodT rfl (by rfl) (by rfl) ?_; intro T D K hK; go_simp; refine hK _ _ ?_; clear hK K; refine opsB.tape T D ?_)
  refine opsB_callOf (f := 20) (av := #[.int .i64 k, .int .i64 r]) rfl (by rfl) rfl Try.func20 (by rfl) (by decide +kernel) (by simp [Act.eval]) (callsB_same tameT hE (by decide) ⟨_, Try.func20, rfl⟩ (fun T D => (can_any k r _).mono fun e w' ⟨h1, h2⟩ => ⟨by rw [h1, HC.out], h2⟩)) ?_
  rintro v w' ⟨rfl, rfl⟩
  simp only [Act.put, List.getElem_toArray, List.getElem_cons_zero, List.getElem_cons_succ, List.setIfInBounds_toArray, List.set_cons_zero, List.set_cons_succ]
  iterate 12 (refine opsB_k bodT rfl (by rfl) (by rfl) ?_; intro T D K hK; go_simp; refine hK _ _ ?_; clear hK K; refine opsB.tape T D ?_)
  refine opsB_nil ?_
  simp only [Nx]
  refine wpB_cond (t := false) (by first | rfl | simp [Act.eval, *]) ?_
  simp only [Bool.false_eq_true, if_true, if_false, reduceIte]
  refine wpB_skip ?_
  simp only [Nx]
  refine wpB_seq ?_
  refine wpB_region ?_
  simp only [List.size_toArray, List.length_cons, List.length_nil, Nat.reduceAdd, Nat.zero_add, List.range, List.range.loop]
  iterate 3 (refine opsB_k bodT rfl (by rfl) (by rfl) ?_; intro T D K hK; go_simp; refine hK _ _ ?_; clear hK K; refine opsB.tape T D ?_)
  refine opsB_callOf (f := 27) (av := #[.int .i64 k, .int .i64 r, .slice A n cap]) rfl (by rfl) rfl Try.func27 (by rfl) (by decide +kernel) (by simp [Act.eval]) (callsB_of tameT hE (by decide) ⟨_, Try.func27, rfl⟩ (R := fun v w'' => ∃ (A B : Option Addr) (c d : Nat), v = .tuple #[.slice A k c, .slice B k d, .int .i64 0] ∧ Rd w'' A k ((rowsM k r (partsP k r l)).map Value.string) ∧ Rd w'' B k (((partsP k r l).map (fun p : Pt => p.2)).map Value.string) ∧ Ext w' w'') (fun T D => (firsts_ok hk h (w := tp w' T D) hr hn HZ.out HI.out HO.out HF.out).mono fun e w'' ⟨A, B, c, d, h1, h2, h3, h4⟩ => ⟨_, h1, A, B, c, d, rfl, h2, h3, h4.nt⟩)) ?_
  rintro v w2 ⟨A1, B1, c1, d1', rfl, hR2, hT2, hE2⟩
  have HR2 := Lib.hid hR2
  have HT2 := Lib.hid hT2
  clear hR2 hT2
  simp only [Act.put, List.getElem_toArray, List.getElem_cons_zero, List.getElem_cons_succ, List.setIfInBounds_toArray, List.set_cons_zero, List.set_cons_succ]
  iterate 7 (refine opsB_k bodT rfl (by rfl) (by rfl) ?_; intro T D K hK; go_simp; refine hK _ _ ?_; clear hK K; refine opsB.tape T D ?_)
  refine opsB_nil ?_
  simp only [Nx]
  refine wpB_seq ?_
  refine wpB_seq ?_
  refine wpB_region ?_
  simp only [List.size_toArray, List.length_cons, List.length_nil, Nat.reduceAdd, Nat.zero_add, List.range, List.range.loop]
  iterate 2 (refine opsB_k bodT rfl (by rfl) (by rfl) ?_; intro T D K hK; go_simp; refine hK _ _ ?_; clear hK K; refine opsB.tape T D ?_)
  refine opsB_nil ?_
  simp only [Nx]
  refine wpB_cond (t := false) (by first | rfl | simp [Act.eval, *]) ?_
  simp only [Bool.false_eq_true, if_true, if_false, reduceIte]
  refine wpB_skip ?_
  simp only [Nx]
  refine wpB_seq ?_
  refine wpB_region ?_
  simp only [List.size_toArray, List.length_cons, List.length_nil, Nat.reduceAdd, Nat.zero_add, List.range, List.range.loop]
  (refine opsB_k bodT rfl (by rfl) (by rfl) ?_; intro T D K hK; go_simp; refine hK _ _ ?_; clear hK K; refine opsB.tape T D ?_)
  refine opsB_callOf (f := 28) (av := #[.slice A1 k c1]) rfl (by rfl) rfl Try.func28 (by rfl) (by decide +kernel) (by simp [Act.eval]) (undo_B hE HR2.out (by omega) HRZ.out HPU.out.1 (by rw [HPU.out.2.2.1, HPU.out.2.1]) HPU.out.2.2.2.1) ?_
  rintro v w5 ⟨A5, n5, c5, rfl, hn5, hR5, hE5⟩
  obtain rfl : n5 = k := by rw [hn5]; exact HPU.out.2.2.2.2
  clear hn5
  have HR5 := Lib.hid hR5
  clear hR5
  simp only [Act.put, List.getElem_toArray, List.getElem_cons_zero, List.getElem_cons_succ, List.setIfInBounds_toArray, List.set_cons_zero, List.set_cons_succ]
  iterate 5 (refine opsB_k bodT rfl (by rfl) (by rfl) ?_; intro T D K hK; go_simp; refine hK _ _ ?_; clear hK K; refine opsB.tape T D ?_)
  refine opsB_nil ?_
  simp only [Nx]
  refine wpB_seq ?_
  refine wpB_region ?_
  simp only [List.size_toArray, List.length_cons, List.length_nil, Nat.reduceAdd, Nat.zero_add, List.range, List.range.loop]
  iterate 2 (refine opsB_k bodT rfl (by rfl) (by rfl) ?_; intro T D K hK; go_simp; refine hK _ _ ?_; clear hK K; refine opsB.tape T D ?_)
  refine opsB_callOf (f := 23) (av := #[.int .i64 n5, .int .i64 r]) rfl (by rfl) rfl Try.func23 (by rfl) (by decide +kernel) (by simp [Act.eval]) (callsB_of tameT hE (by decide) ⟨_, Try.func23, rfl⟩ (R := fun v w'' => ∃ (g cap : Nat), v = .slice (some ⟨g, 0, none⟩) (n5 + r) cap ∧ Rd w'' (some ⟨g, 0, none⟩) (n5 + r) ((everyM n5 r).map Value.string) ∧ n5 + r ≤ cap ∧ Ext w5 w'') (fun T D => (every_any n5 r hk h _).mono fun e w'' ⟨A, cap, h1, h2, h3⟩ => by
    obtain ⟨g, rfl, hc⟩ := own_some h2 (by omega)
    exact ⟨_, h1, g, cap, rfl, rd_owns h2, hc, h3.nt⟩)) ?_
  rintro v w6 ⟨g6, c6, rfl, hr6, hc6, hE6⟩
  simp only [Act.put, List.getElem_toArray, List.getElem_cons_zero, List.getElem_cons_succ, List.setIfInBounds_toArray, List.set_cons_zero, List.set_cons_succ]
  have q0 : IntKind.i64.wrap ((i : Int) + 1) = (i : Int) + 1 := IntWalk.i64_in _ (by omega)
  have q1 : (0 : Int) ≤ (i : Int) := by omega
  have q1' : (0 : Int) ≤ (i : Int) + 1 := by omega
  have q2 : (i : Int) ≤ (i : Int) + 1 := by omega
  have q3 : (i : Int) + 1 ≤ (c6 : Int) := by omega
  have q4 : ((i : Int)).toNat = i := by omega
  have q5 : ((i : Int) + 1).toNat = i + 1 := by omega
  have q6 : i + 1 - i = 1 := by omega
  have q7 : (i : Int) ≤ (c6 : Int) := by omega
  have q8 : ¬ c6 = i := by omega
  have q9 : i ≤ i + 1 := by omega
  iterate 4 (refine opsB_k bodT rfl (by rfl) (by rfl) ?_; intro T D K hK; go_simp; refine hK _ _ ?_; clear hK K; refine opsB.tape T D ?_)
  have hrow6 : Rd w6 (some ⟨g6, i, none⟩) 1 ([(everyM n5 r).getD i { data := #[] }].map Value.string) := by
    refine ⟨rfl, fun _ => ⟨g6, i, rfl, fun j v hv => ?_⟩⟩
    obtain ⟨g', o', e', hc'⟩ := hr6.2 (by omega)
    injection e' with e'
    injection e' with e1 e2
    subst e1 e2
    match j, hv with
    | 0, hv =>
      have hel : i < (everyM n5 r).length := by rw [everyM_len]; exact hi2
      have := hc' i (.string ((everyM n5 r).getD i { data := #[] })) (by rw [List.getElem?_map, List.getElem?_eq_getElem hel, getD_at _ _ hel]; rfl)
      rw [Nat.zero_add] at this
      injection hv with hv
      rw [← hv]; exact this
    | j + 1, hv => cases hv
  (refine opsB_k bodT rfl (by rfl) (by rfl) ?_; intro T D K hK; go_simp; refine hK _ _ ?_; clear hK K; refine opsB.tape T D ?_)
  refine opsB_callOf (f := 32) (av := #[.slice (some ⟨g6, i, none⟩) 1 (c6 - i), .slice A5 n5 c5]) rfl (by rfl) rfl Try.func32 (by rfl) (by decide +kernel) (by simp [Act.eval]) (mtimes_B hE hrow6 (HR5.out.ext hE6) (by omega) (by omega) HM1.out HUM.out HL0.out HRW.out HUZ.out) ?_
  rintro v w7 ⟨A7, n7, c7, rfl, hn7, hR7, hE7⟩
  obtain rfl : n7 = 1 := by rw [hn7]; exact HT1.out
  clear hn7
  have HR7 := Lib.hid hR7
  clear hR7
  simp only [Act.put, List.getElem_toArray, List.getElem_cons_zero, List.getElem_cons_succ, List.setIfInBounds_toArray, List.set_cons_zero, List.set_cons_succ]
  iterate 5 (refine opsB_k bodT rfl (by rfl) (by rfl) ?_; intro T D K hK; go_simp; refine hK _ _ ?_; clear hK K; refine opsB.tape T D ?_)
  refine opsB_nil ?_
  simp only [Nx]
  refine wpB_seq ?_
  refine wpB_region ?_
  simp only [List.size_toArray, List.length_cons, List.length_nil, Nat.reduceAdd, Nat.zero_add, List.range, List.range.loop]
  iterate 2 (refine opsB_k bodT rfl (by rfl) (by rfl) ?_; intro T D K hK; go_simp; refine hK _ _ ?_; clear hK K; refine opsB.tape T D ?_)
  refine opsB_callOf (f := 22) (av := #[.slice A7 1 c7, .slice B1 n5 d1']) rfl (by rfl) rfl Try.func22 (by rfl) (by decide +kernel) (by simp [Act.eval]) (sums_B HR7.out (HT2.out.ext (hE5.trans (hE6.trans hE7))) (by omega) (by omega) HPZ.out) ?_
  rintro v w8 ⟨g8, rfl, hg8, hb8, hE8⟩
  have hcell : w8.cell? ⟨g8, 0, none⟩ = some (.string ((agnV n5 r i l))) := by
    rw [hb8.cell, tabA_at _ _ _ (by omega), HAS.out, HV.out.2]
  have hct : ∀ T D, (tp w8 T D).cell? ⟨g8, 0, none⟩ = some (.string ((agnV n5 r i l))) := fun _ _ => hcell
  clear hb8
  simp only [Act.put, List.getElem_toArray, List.getElem_cons_zero, List.getElem_cons_succ, List.setIfInBounds_toArray, List.set_cons_zero, List.set_cons_succ]
  iterate 4 (refine opsB_k bodT rfl (by rfl) (by rfl) ?_; intro T D K hK; go_simp; refine hK _ _ ?_; clear hK K; refine opsB.tape T D ?_)
  refine opsB_nil ?_
  simp only [Nx]
  refine wpB_ret ?_
  exact bodyB_ret rfl (results_tmp2 rfl rfl rfl _) (by rw [HV.out.1]; exact ⟨rfl, hE2.trans (hE5.trans (hE6.trans (hE7.trans hE8)))⟩)
theorem again_B {n0 : Nat} (hE : NoEarly Try.prog n0) {k r i : Nat} (hk : 1 ≤ k) (h : k + r ≤ 32) (hi2 : i < k + r) {A : Option Addr} {n cap : Nat} {l : List Pt} {w : World} (hr : PtRd w A n l) (hn : n ≤ 1048576) (hz : ∀ p ∈ l, p.2.size ≤ 1048576) (hi : ∀ p ∈ l, -9223372036854775808 ≤ p.1 ∧ p.1 ≤ 9223372036854775807) :
    CallsB n0 Try.prog 18 #[.int .i64 k, .int .i64 r, .int .i64 i, .slice A n cap] w (AnsB (agnV k r i l) (agnE k r l) w) := by
  by_cases ho : okTo (k + r) l l.length
  · by_cases hf : (idxs (k + r) l).length < k
    · exact again_Bno hE hk h hi2 hr hn hz hi (E := 60) (.inr ⟨ho, hf, rfl⟩)
    · exact again_Bok hE hk h hi2 hr hn hz hi ho (by omega)
  · exact again_Bno hE hk h hi2 hr hn hz hi (E := 61) (.inl ⟨ho, rfl⟩)
end Go.Proofs.Ytjdppgogdilgkaa
end
