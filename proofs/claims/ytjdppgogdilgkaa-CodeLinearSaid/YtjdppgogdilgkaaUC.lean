import Derived.Test.YtjdppgogdilgkaaUA
import Derived.Test.YtjdppgogdilgkaaKJ
import Derived.Deep.LoopGhost
import Derived.Deep.QuietTactic
import Derived.StillTailTactics
section
namespace Go.Proofs.Ytjdppgogdilgkaa
open Go.RowKit Go.Gf Go.Co Go.Conc Go.ChangeShapes Go.WideShapes Go.ChangeAt Go.Deep
set_option linter.unusedSimpArgs false
set_option linter.unusedVariables false
set_option maxRecDepth 100000 in
theorem tmps229 (T : Array Value) (h : T.size = 229) : ∃ x : Nat → Value, T = #[x 0, x 1, x 2, x 3, x 4, x 5, x 6, x 7, x 8, x 9, x 10, x 11, x 12, x 13, x 14, x 15, x 16, x 17, x 18, x 19, x 20, x 21, x 22, x 23, x 24, x 25, x 26, x 27, x 28, x 29, x 30, x 31, x 32, x 33, x 34, x 35, x 36, x 37, x 38, x 39, x 40, x 41, x 42, x 43, x 44, x 45, x 46, x 47, x 48, x 49, x 50, x 51, x 52, x 53, x 54, x 55, x 56, x 57, x 58, x 59, x 60, x 61, x 62, x 63, x 64, x 65, x 66, x 67, x 68, x 69, x 70, x 71, x 72, x 73, x 74, x 75, x 76, x 77, x 78, x 79, x 80, x 81, x 82, x 83, x 84, x 85, x 86, x 87, x 88, x 89, x 90, x 91, x 92, x 93, x 94, x 95, x 96, x 97, x 98, x 99, x 100, x 101, x 102, x 103, x 104, x 105, x 106, x 107, x 108, x 109, x 110, x 111, x 112, x 113, x 114, x 115, x 116, x 117, x 118, x 119, x 120, x 121, x 122, x 123, x 124, x 125, x 126, x 127, x 128, x 129, x 130, x 131, x 132, x 133, x 134, x 135, x 136, x 137, x 138, x 139, x 140, x 141, x 142, x 143, x 144, x 145, x 146, x 147, x 148, x 149, x 150, x 151, x 152, x 153, x 154, x 155, x 156, x 157, x 158, x 159, x 160, x 161, x 162, x 163, x 164, x 165, x 166, x 167, x 168, x 169, x 170, x 171, x 172, x 173, x 174, x 175, x 176, x 177, x 178, x 179, x 180, x 181, x 182, x 183, x 184, x 185, x 186, x 187, x 188, x 189, x 190, x 191, x 192, x 193, x 194, x 195, x 196, x 197, x 198, x 199, x 200, x 201, x 202, x 203, x 204, x 205, x 206, x 207, x 208, x 209, x 210, x 211, x 212, x 213, x 214, x 215, x 216, x 217, x 218, x 219, x 220, x 221, x 222, x 223, x 224, x 225, x 226, x 227, x 228] := by
  refine ⟨fun i => T.getD i undef, ?_⟩
  show T = ((List.range 229).map fun i => T.getD i undef).toArray
  apply Array.ext (by simp [h])
  intro i h1 h2
  simp [h1]
noncomputable def xors6 : Code := match Try.f6.body with
  | some (.seq _ (.seq _ (.seq _ (.seq _ (.seq c _))))) => c
  | _ => .skip
noncomputable def outer6 : Code := match Try.f6.body with
  | some (.seq _ (.seq _ (.seq _ (.seq _ (.seq _ (.seq _ (.seq _ (.seq _ (.seq _ (.seq _ (.seq _ (.seq c _)))))))))))) => c
  | _ => .skip
noncomputable def inner6 : Code := match outer6 with
  | .seq _ (.block _ (.loop (.seq _ (.seq (.block _ (.seq _ c)) _)))) => c
  | _ => .skip
def xorF (s t : ByteArray) (j : Nat) : Nat := bn s j ^^^ bn t j
theorem xorF_lt (s t : ByteArray) (j : Nat) : xorF s t j < 256 := x8 (bn_lt _ _) (bn_lt _ _)
set_option maxHeartbeats 8000000 in
set_option maxRecDepth 100000 in
theorem xors_wp {n g : Nat} {s t : ByteArray} {p q : Int} (hs : n ≤ s.size) (ht : n ≤ t.size) (hn : n ≤ 512) {a : Act} (ha : a.defers = [] ∧ a.tmps.size = 229 ∧ a.tmps[0]? = some (.string s) ∧ a.tmps[1]? = some (.string t) ∧ a.tmps[2]? = some (.int .u8 p) ∧ a.tmps[3]? = some (.int .u8 q) ∧ a.tmps[9]? = some (.int .i64 n) ∧ a.tmps[10]? = some (.slice (some ⟨g, 0, none⟩) n n)) {W0 W : World} (hW : Ext W0 W) (hb0 : BytesAt W g n (fun _ => 0)) (hg : W0.heap.size ≤ g) {K : Act → World → Prop}
    (hK : ∀ (a' : Act) (w' : World), a'.defers = [] ∧ a'.tmps.size = 229 ∧ a'.tmps[0]? = some (.string s) ∧ a'.tmps[1]? = some (.string t) ∧ a'.tmps[2]? = some (.int .u8 p) ∧ a'.tmps[3]? = some (.int .u8 q) ∧ a'.tmps[9]? = some (.int .i64 n) ∧ a'.tmps[10]? = some (.slice (some ⟨g, 0, none⟩) n n) → BytesAt w' g n (xorF s t) → Ext W0 w' → K a' w') :
    xors6.wp Try.prog (Nm K) a W := by
  obtain ⟨T, ds⟩ := a
  obtain ⟨h1, h2, t0, t1, t2, t3, t9, t10⟩ := ha
  simp only at h1 h2 t0 t1 t2 t3 t9 t10
  subst h1
  obtain ⟨x, rfl⟩ := tmps229 T h2
  have e0 : x 0 = .string s := Option.some.inj t0
  have e1 : x 1 = .string t := Option.some.inj t1
  have e2 : x 2 = .int .u8 p := Option.some.inj t2
  have e3 : x 3 = .int .u8 q := Option.some.inj t3
  have e9 : x 9 = .int .i64 n := Option.some.inj t9
  have e10 : x 10 = .slice (some ⟨g, 0, none⟩) n n := Option.some.inj t10
  rw [e0, e1, e2, e3, e9, e10]
  clear h2 t0 e0 t1 e1 t2 e2 t3 e3 t9 e9 t10 e10
  have HK := Lib.hid hK
  clear hK
  have hbn : BytesAt W g n (fun y => if y < 0 then xorF s t y else 0) := hb0.congr fun j hj => by simp
  clear hb0
  unfold xors6 Try.f6
  dsimp only
  go_wp2
  go_loopw [11] (fun x wr => ∃ j : Nat, j ≤ n ∧ x = .int .i64 j ∧ Ext W0 wr ∧ BytesAt wr g n (fun y => if y < j then xorF s t y else 0)) (fun x _ => n - (intOf x).toNat)
  case atStart => exact ⟨0, by omega, rfl, hW, hbn⟩
  case round =>
    obtain ⟨j, hj, rfl, hE, hb⟩ := hrel
    clear hbn hW
    by_cases hj2 : j < n
    · have kj : (j : Int) < (n : Int) := by omega
      have kj0 : (0 : Int) ≤ (j : Int) := by omega
      have kj1 : (j : Int) < (s.size : Int) := by omega
      have kj2 : (j : Int) < (t.size : Int) := by omega
      have hcj := hb.cell j hj2
      have hfj := hb.frozen j hj2
      have hbs := bn_lt s j
      have hbt := bn_lt t j
      have hx := u8_xor (bn s j) (bn t j) hbs hbt
      have hck := bt_get s j (by omega)
      rw [bt_bn] at hck
      have hck2 := bt_get t j (by omega)
      rw [bt_bn] at hck2
      have hnext := hb.set_ (h := fun y => if y < j + 1 then xorF s t y else 0) j (bn s j ^^^ bn t j) hj2 (fun y hy => by
        by_cases e : y = j
        · subst e; simp [xorF]
        · rw [if_neg e]; by_cases e2 : y < j
          · rw [if_pos e2, if_pos (by omega)]
          · rw [if_neg e2, if_neg (by omega)])
      have HNEXT := Lib.hid hnext
      clear hnext hb
      go_wp2_with fail
      go_still_tail 10, (by kernel_rfl)
      go_wp2
      go_roundw
      case rel => exact ⟨j + 1, by omega, by go_num, (hE.setCell hg _).drew, HNEXT.out⟩
      case measure => simp [intOf]; omega
    · obtain rfl : n = j := by omega
      have hF : BytesAt wr g n (xorF s t) := hb.congr fun y hy => by rw [if_pos hy]
      clear hb hj hj2
      go_wp2
      exact HK.out _ wr ⟨rfl, rfl, rfl, rfl, rfl, rfl, rfl, rfl⟩ hF hE
set_option maxHeartbeats 8000000 in
set_option maxRecDepth 100000 in
theorem inner_wp {n k r N c1 c2 c3 c4 i z g1 o1 g2 o2 g3 o3 : Nat} {A4 : Option Addr} {X Y Z : ByteArray} (hi : i < N) (hX : X.size = z) (hY : Y.size = z) (hZ : Z.size = z) (hz : z ≤ 1048576) (hxy : ∀ j, j < z → bn Z j = bn X j ^^^ bn Y j) {a : Act} (ha : a.defers = [] ∧ a.tmps.size = 229 ∧ a.tmps[9]? = some (.int .i64 n) ∧ a.tmps[12]? = some (.int .i64 k) ∧ a.tmps[13]? = some (.int .i64 r) ∧ a.tmps[14]? = some (.slice (some ⟨g1, o1, none⟩) N c1) ∧ a.tmps[16]? = some (.slice (some ⟨g2, o2, none⟩) N c2) ∧ a.tmps[18]? = some (.slice (some ⟨g3, o3, none⟩) N c3) ∧ a.tmps[20]? = some (.slice A4 N c4) ∧ a.tmps[22]? = some (.int .i64 i)) {W0 W : World} (hW : Ext W0 W)
    (hc1 : W0.cell? ⟨g1, o1 + i, none⟩ = some (.string X)) (hc2 : W0.cell? ⟨g2, o2 + i, none⟩ = some (.string Y)) (hc3 : W0.cell? ⟨g3, o3 + i, none⟩ = some (.string Z)) {K : Act → World → Prop}
    (hK : ∀ (a' : Act) (w' : World), a'.defers = [] ∧ a'.tmps.size = 229 ∧ a'.tmps[9]? = some (.int .i64 n) ∧ a'.tmps[12]? = some (.int .i64 k) ∧ a'.tmps[13]? = some (.int .i64 r) ∧ a'.tmps[14]? = some (.slice (some ⟨g1, o1, none⟩) N c1) ∧ a'.tmps[16]? = some (.slice (some ⟨g2, o2, none⟩) N c2) ∧ a'.tmps[18]? = some (.slice (some ⟨g3, o3, none⟩) N c3) ∧ a'.tmps[20]? = some (.slice A4 N c4) ∧ a'.tmps[22]? = some (.int .i64 i) → Ext W0 w' → K a' w') :
    inner6.wp Try.prog (Nm K) a W := by
  obtain ⟨T, ds⟩ := a
  obtain ⟨h1, h2, t9, t12, t13, t14, t16, t18, t20, t22⟩ := ha
  simp only at h1 h2 t9 t12 t13 t14 t16 t18 t20 t22
  subst h1
  obtain ⟨x, rfl⟩ := tmps229 T h2
  have e9 : x 9 = .int .i64 n := Option.some.inj t9
  have e12 : x 12 = .int .i64 k := Option.some.inj t12
  have e13 : x 13 = .int .i64 r := Option.some.inj t13
  have e14 : x 14 = .slice (some ⟨g1, o1, none⟩) N c1 := Option.some.inj t14
  have e16 : x 16 = .slice (some ⟨g2, o2, none⟩) N c2 := Option.some.inj t16
  have e18 : x 18 = .slice (some ⟨g3, o3, none⟩) N c3 := Option.some.inj t18
  have e20 : x 20 = .slice A4 N c4 := Option.some.inj t20
  have e22 : x 22 = .int .i64 i := Option.some.inj t22
  rw [e9, e12, e13, e14, e16, e18, e20, e22]
  clear h2 t9 e9 t12 e12 t13 e13 t14 e14 t16 e16 t18 e18 t20 e20 t22 e22
  have HK := Lib.hid hK
  have HXY := Lib.hid hxy
  have HX := Lib.hid hX
  have HY := Lib.hid hY
  have HZ := Lib.hid hZ
  clear hK hxy hX hY hZ
  have i0 : (0 : Int) ≤ (i : Int) := by omega
  have iN : (i : Int) < (N : Int) := by omega
  unfold inner6 outer6 Try.f6
  dsimp only
  go_wp2
  go_loopw [23] (fun x wr => ∃ j : Nat, j ≤ z ∧ x = .int .i64 j ∧ Ext W0 wr) (fun x _ => z - (intOf x).toNat)
  case atStart => exact ⟨0, by omega, rfl, hW⟩
  case round =>
    obtain ⟨j, hj, rfl, hE⟩ := hrel
    clear hW
    have hd1 := hE.cellv hc1
    have hd2 := hE.cellv hc2
    have hd3 := hE.cellv hc3
    by_cases hj2 : j < z
    · have kj0 : (0 : Int) ≤ (j : Int) := by omega
      have kj : (j : Int) < (z : Int) := by omega
      have kj1 : (j : Int) < (X.size : Int) := by rw [HX.out]; exact kj
      have kj2 : (j : Int) < (Y.size : Int) := by rw [HY.out]; exact kj
      have kj3 : (j : Int) < (Z.size : Int) := by rw [HZ.out]; exact kj
      have hx := u8_xor (bn X j) (bn Y j) (bn_lt _ _) (bn_lt _ _)
      have hck := bt_get X j (by rw [HX.out]; exact hj2)
      rw [bt_bn] at hck
      have hck2 := bt_get Y j (by rw [HY.out]; exact hj2)
      rw [bt_bn] at hck2
      have hck3 := bt_get Z j (by rw [HZ.out]; exact hj2)
      rw [bt_bn, HXY.out j hj2] at hck3
      go_wp2
      go_quiet (fail)
      go_wp2
      go_roundw
      case rel => exact ⟨j + 1, by omega, by go_num, hE.drewN _⟩
      case measure => simp [intOf]; omega
    · obtain rfl : z = j := by omega
      have kj : ¬ (z : Int) < (X.size : Int) := by rw [HX.out]; omega
      go_wp2
      exact HK.out _ wr ⟨rfl, rfl, rfl, rfl, rfl, rfl, rfl, rfl, rfl, rfl⟩ hE
end Go.Proofs.Ytjdppgogdilgkaa
end
section
namespace Go.Co
open Go.Conc
theorem wpB_loneE {n : Nat} {P : Program} {Q : Exit → Act → World → Prop} {a : Act} {w : World} {F : FuncId → Bool} (hT : TameP true P F) (hE : NoEarly P n) {x : Code} (hc : codeT true F x = true) (hd : a.defers = [])
    (hw : ∀ T D, ∀ K : Act → World → Prop, (∀ a' w', Q .normal a' (nt w w') → K a' w') → x.wp P (Nm K) a (tp w T D)) : wpB n P x Q a w :=
  wpB_of hT hE hc hd fun T D => Code.wp_mono (fun e a' w' h => by cases e with | normal => exact ⟨.inl rfl, h⟩ | _ => exact (h : False).elim) (hw T D (fun a' w' => Q .normal a' (nt w w')) fun _ _ h => h)
theorem upon_val {o : Oper} {a : Act} {K : Act → World → Prop} {r : Result Next} {v : Value} {w' : World} (h : r = .ok (.value v) w') (k : K (a.put o.dst v) w') : uponK o a K r := by rw [h]; exact k
theorem ex_conv {P : Program} {a : Act} {o : Oper} {src dst : TypeId} {x : Operand} {v u : Value} {w : World} (ho : o.op = .convert src dst x) (hx : a.eval x = v) (hr : (convert src dst v).run P w = .ok u w) : (execOp a.eval o).run P w = .ok (.value u) w := by
  unfold execOp
  simp only [ho, hx, Sem.run_bind, Sem.run_pure, Result.andThen_ok, hr]
theorem ex_make {P : Program} {a : Act} {o : Oper} {t : TypeId} {l c : Operand} {v u y : Value} {w w' : World} (ho : o.op = .makeSlice t l c) (hl : a.eval l = v) (hc : a.eval c = y) (hr : (Instr.makeSlice t v y).run P w = .ok u w') : (execOp a.eval o).run P w = .ok (.value u) w' := by
  unfold execOp
  simp only [ho, hl, hc, Sem.run_bind, Sem.run_pure, Result.andThen_ok, hr]
end Go.Co
namespace Go
theorem Ext.ntx6 {w1 w2 w3 : World} {T : Tape} {D : Nat} (h : Ext w1 w2) (k : Ext (Co.tp w1 T D) w3) : Ext w1 (Co.nt w2 w3) := ⟨k.os, h.tape, k.output, k.size, k.block⟩
theorem Ext.tp6 {w w' : World} (h : Ext w w') (T : Tape) (D : Nat) : Ext (Co.tp w T D) (Co.tp w' T D) := ⟨h.os, rfl, h.output, h.size, h.block⟩
end Go
namespace Go.Proofs.Ytjdppgogdilgkaa
open Go.RowKit Go.Gf Go.Co Go.Conc Go.ChangeShapes Go.WideShapes Go.ChangeAt Go.Deep
set_option linter.unusedSimpArgs false
set_option linter.unusedVariables false
theorem info_u0 : ∃ i0, Try.prog.info? 5 = some i0 ∧ i0.zero = some (.int .u8 0) ∧ i0.size = 1 ∧ i0.bytes = 1 := by
  obtain ⟨i0, h1, h2, h3, h4⟩ := info_parts info5
  exact ⟨i0, h1, h2, h3, h4⟩
theorem make_u8 (n : Nat) (hn : n ≤ 1048576) (w : World) : (Instr.makeSlice 41 (.int .i64 (n : Int)) (.int .i64 (n : Int))).run Try.prog w = .ok (.slice (some ⟨w.heap.size, 0, none⟩) n n) (w.alloc (.cells (tabA n (fun _ => .int .u8 0)) 5)) := by
  obtain ⟨i0, hi0, hz0, hz1, hz2⟩ := info_u0
  exact run_make_tab 41 5 i0 (.int .u8 0) Try.underlying41 hi0 hz0 hz1 rfl .i64 .i64 n (by rw [hz2]; omega) (by omega) w
theorem bytes_new (w : World) (n : Nat) : BytesAt (w.alloc (.cells (tabA n (fun _ => Value.int .u8 0)) 5)) w.heap.size n (fun _ => 0) := by
  have : Blk (w.alloc (.cells (tabA n (fun _ => Value.int .u8 0)) 5)) w.heap.size 5 (tabA n (u8c (fun _ => 0))) := Blk.new _ _ _
  exact this.bytes
theorem conv_back {w : World} {g n cap : Nat} {f : Nat → Nat} (hb : BytesAt w g n f) (hf : ∀ j, f j < 256) : (convert 41 9 (.slice (some ⟨g, 0, none⟩) n cap)).run Try.prog w = .ok (.string (strN n f)) w := by
  have hl : (strN n f).data.toList.length = n := strN_size n f
  have := run_convert_bytes_back (P := Try.prog) w 41 9 5 ⟨g, 0, none⟩ cap (strN n f).data.toList Try.underlying41 Try.underlying5 Try.underlying9 (fun j hj => by
    have hj' : j < n := by rw [← hl]; exact hj
    rw [Addr.add_mid, Nat.zero_add, hb.cell j hj', ← bn_strN n f j hj' (hf j), ← bt_bn, bt, List.getD_eq_getElem?_getD, List.getElem?_eq_getElem hj]; rfl)
  rwa [hl] at this
theorem bn_cut (s : ByteArray) (n j : Nat) (h : n ≤ s.size) (hj : j < n) : bn (s.extract 0 n) j = bn s j := by
  have := cut_part s 0 0 n (bn s) (by omega) (fun j _ => by rw [Nat.zero_add])
  have e : s ++ zeroT 0 = s := by
    apply str_ext'
    · rw [ByteArray.size_append]; rfl
    · intro i _; exact bn_pad s 0 i (by rw [ByteArray.size_append] at *; simpa using ‹_›)
  rw [e, Nat.zero_add] at this
  rw [this, bn_strN n _ j hj (bn_lt _ _)]
theorem cut_size (s : ByteArray) (n : Nat) (h : n ≤ s.size) : (s.extract 0 n).size = n := by
  rw [ByteArray.size_extract]; omega
theorem bn_two {s t : ByteArray} {n : Nat} (hs : n ≤ s.size) (ht : n ≤ t.size) (j : Nat) : bn (strN n (xorF s t)) j = bn (s.extract 0 n) j ^^^ bn (t.extract 0 n) j := by
  rcases Nat.lt_or_ge j n with h | h
  · rw [bn_strN _ _ j h (xorF_lt s t j), bn_cut s n j hs h, bn_cut t n j ht h]; rfl
  · rw [bn_out _ j (by rw [strN_size]; exact h), bn_out _ j (by rw [cut_size s n hs]; exact h), bn_out _ j (by rw [cut_size t n ht]; exact h)]; rfl
theorem bn_noll (n j : Nat) : bn (zeroT n) j = 0 := by
  rcases Nat.lt_or_ge j n with h | h
  · exact bn_strN _ _ j h (by omega)
  · exact bn_out _ j (by unfold zeroT; rw [strN_size]; exact h)
theorem zero_size (n : Nat) : (zeroT n).size = n := strN_size n _
theorem spread_n6 {n0 : Nat} (hE : NoEarly Try.prog n0) {k r N : Nat} (hN : k + r = N) (hk : 1 ≤ k) (h : k + r ≤ 32) {s : ByteArray} (hz : s.size ≤ 1048000) {w : World} :
    CallsB n0 Try.prog 10 #[.int .i64 k, .int .i64 r, .string s] w (fun v w' => ∃ (A : Option Addr) (c : Nat), v = .tuple #[.slice A N c, .int .i64 0] ∧ Rd w' A N ((spreadV k r s).map Value.string) ∧ Ext w w') := by
  subst hN
  exact spread_B hE hk h hz
theorem rd_part {w : World} {A : Option Addr} {k r N i : Nat} {s : ByteArray} (hN : k + r = N) (h : Rd w A N ((spreadV k r s).map Value.string)) (hi : i < N) : ∃ g o, A = some ⟨g, o, none⟩ ∧ w.cell? ⟨g, o + i, none⟩ = some (.string ((spreadV k r s).getD i { data := #[] })) := by
  obtain ⟨g, o, h1, _, h2⟩ := h.at_ hi
  exact ⟨g, o, h1, by rw [h2, List.getElem_map, getD_at _ _ (by rw [spreadV_len, hN]; exact hi)]⟩
def TmO (n k r N : Nat) (A1 A2 A3 A4 : Option Addr) (c1 c2 c3 c4 i : Nat) (a : Act) : Prop :=
  a.defers = [] ∧ a.tmps.size = 229 ∧ a.tmps[9]? = some (.int .i64 n) ∧ a.tmps[12]? = some (.int .i64 k) ∧ a.tmps[13]? = some (.int .i64 r) ∧ a.tmps[14]? = some (.slice A1 N c1) ∧ a.tmps[16]? = some (.slice A2 N c2) ∧ a.tmps[18]? = some (.slice A3 N c3) ∧ a.tmps[20]? = some (.slice A4 N c4) ∧ a.tmps[22]? = some (.int .i64 i)
set_option maxRecDepth 100000 in
theorem TmO.lit {n k r N : Nat} {A1 A2 A3 A4 : Option Addr} {c1 c2 c3 c4 i : Nat} {a : Act} (h : TmO n k r N A1 A2 A3 A4 c1 c2 c3 c4 i a) : ∃ x : Nat → Value, a = ⟨#[x 0, x 1, x 2, x 3, x 4, x 5, x 6, x 7, x 8, .int .i64 n, x 10, x 11, .int .i64 k, .int .i64 r, .slice A1 N c1, x 15, .slice A2 N c2, x 17, .slice A3 N c3, x 19, .slice A4 N c4, x 21, .int .i64 i, x 23, x 24, x 25, x 26, x 27, x 28, x 29, x 30, x 31, x 32, x 33, x 34, x 35, x 36, x 37, x 38, x 39, x 40, x 41, x 42, x 43, x 44, x 45, x 46, x 47, x 48, x 49, x 50, x 51, x 52, x 53, x 54, x 55, x 56, x 57, x 58, x 59, x 60, x 61, x 62, x 63, x 64, x 65, x 66, x 67, x 68, x 69, x 70, x 71, x 72, x 73, x 74, x 75, x 76, x 77, x 78, x 79, x 80, x 81, x 82, x 83, x 84, x 85, x 86, x 87, x 88, x 89, x 90, x 91, x 92, x 93, x 94, x 95, x 96, x 97, x 98, x 99, x 100, x 101, x 102, x 103, x 104, x 105, x 106, x 107, x 108, x 109, x 110, x 111, x 112, x 113, x 114, x 115, x 116, x 117, x 118, x 119, x 120, x 121, x 122, x 123, x 124, x 125, x 126, x 127, x 128, x 129, x 130, x 131, x 132, x 133, x 134, x 135, x 136, x 137, x 138, x 139, x 140, x 141, x 142, x 143, x 144, x 145, x 146, x 147, x 148, x 149, x 150, x 151, x 152, x 153, x 154, x 155, x 156, x 157, x 158, x 159, x 160, x 161, x 162, x 163, x 164, x 165, x 166, x 167, x 168, x 169, x 170, x 171, x 172, x 173, x 174, x 175, x 176, x 177, x 178, x 179, x 180, x 181, x 182, x 183, x 184, x 185, x 186, x 187, x 188, x 189, x 190, x 191, x 192, x 193, x 194, x 195, x 196, x 197, x 198, x 199, x 200, x 201, x 202, x 203, x 204, x 205, x 206, x 207, x 208, x 209, x 210, x 211, x 212, x 213, x 214, x 215, x 216, x 217, x 218, x 219, x 220, x 221, x 222, x 223, x 224, x 225, x 226, x 227, x 228], []⟩ := by
  obtain ⟨T, ds⟩ := a
  obtain ⟨h1, h2, t9, t12, t13, t14, t16, t18, t20, t22⟩ := h
  simp only at h1 h2 t9 t12 t13 t14 t16 t18 t20 t22
  subst h1
  obtain ⟨x, rfl⟩ := tmps229 T h2
  refine ⟨x, ?_⟩
  have e9 : x 9 = .int .i64 n := Option.some.inj t9
  have e12 : x 12 = .int .i64 k := Option.some.inj t12
  have e13 : x 13 = .int .i64 r := Option.some.inj t13
  have e14 : x 14 = .slice A1 N c1 := Option.some.inj t14
  have e16 : x 16 = .slice A2 N c2 := Option.some.inj t16
  have e18 : x 18 = .slice A3 N c3 := Option.some.inj t18
  have e20 : x 20 = .slice A4 N c4 := Option.some.inj t20
  have e22 : x 22 = .int .i64 i := Option.some.inj t22
  rw [e9, e12, e13, e14, e16, e18, e20, e22]
set_option maxHeartbeats 16000000 in
set_option maxRecDepth 100000 in
theorem codeLinear_C {n0 : Nat} (hE : NoEarly Try.prog n0) (s t : ByteArray) (p q : Int) {w : World} (hp : 0 ≤ p ∧ p ≤ 255) (hq : 0 ≤ q ∧ q ≤ 255) : CallsB n0 Try.prog 6 #[.string s, .string t, .int .u8 p, .int .u8 q] w (YesB w) := by
  obtain ⟨p0, p1⟩ := hp
  obtain ⟨q0, q1⟩ := hq
  by_cases hs : s.size ≤ 512
  · have d1 : decide ((512 : Int) < (s.size : Int)) = false := by simp; omega
    have d1' : ¬ (512 : Int) < (s.size : Int) := by omega
    by_cases ht : t.size ≤ 512
    · have d2 : decide ((512 : Int) < (t.size : Int)) = false := by simp; omega
      have d2' : ¬ (512 : Int) < (t.size : Int) := by omega
      obtain ⟨k, hk, k1, k2⟩ : ∃ k : Nat, 1 + p % 9 = (k : Int) ∧ 1 ≤ k ∧ k ≤ 9 := ⟨(1 + p % 9).toNat, by omega, by omega, by omega⟩
      obtain ⟨r, hq5, r2⟩ : ∃ r : Nat, q % 5 = (r : Int) ∧ r ≤ 4 := ⟨(q % 5).toNat, by omega, by omega⟩
      obtain ⟨N, hN⟩ : ∃ N, k + r = N := ⟨_, rfl⟩
      have kN : IntKind.i64.wrap (N : Int) = (N : Int) := IntWalk.i64_in _ (by omega)
      have kN' : (k : Int) + (r : Int) = (N : Int) := by omega
      have N2 : N ≤ 13 := by omega
      have hkr : k + r ≤ 32 := by omega
      obtain ⟨n, hmin, hns, hnt, hn5⟩ : ∃ n : Nat, min (s.size : Int) (t.size : Int) = (n : Int) ∧ n ≤ s.size ∧ n ≤ t.size ∧ n ≤ 512 := ⟨min s.size t.size, by omega, by omega, by omega, by omega⟩
      obtain ⟨z, hzz⟩ : ∃ z, sizeN k n = z := ⟨_, rfl⟩
      have hz : z ≤ 1048576 := by have := sizeN_le k n (by omega); omega
      have HZ := Lib.hid hzz
      have HSZ := Lib.hid (fun w' => (show CallsB n0 Try.prog 12 #[.int .i64 k, .int .i64 n] w' (fun v w'' => v = .int .i64 z ∧ Ext w' w'') by
        have := size_all hE (k : Int) (n : Int) (by omega) (w := w')
        rw [sizeI_nat k n ⟨k1, by omega⟩, hzz] at this
        exact this))
      have HN := Lib.hid hN
      clear hN hzz
      refine callsB_of_wp Try.func6 rfl ?_
      simp only [Try.ntmps6, List.size_toArray, List.length_cons, List.length_nil, Nat.reduceAdd, Nat.reduceSub, Array.replicate_succ, Array.replicate_zero, List.push_toArray, List.append_toArray, List.nil_append, List.cons_append]
      refine wpB_seq ?_
      refine wpB_region ?_
      simp only [List.size_toArray, List.length_cons, List.length_nil, Nat.reduceAdd, Nat.zero_add, List.range, List.range.loop]
      (refine opsB_k bodT rfl (by rfl) (by rfl) ?_; intro T D K hK; go_simp; refine hK _ _ ?_; clear hK K; refine opsB.tape T D ?_)
      refine opsB_nil ?_
      simp only [Nx]
      refine wpB_seq ?_
      refine wpB_seq ?_
      refine wpB_region ?_
      simp only [List.size_toArray, List.length_cons, List.length_nil, Nat.reduceAdd, Nat.zero_add, List.range, List.range.loop]
      iterate 8 (refine opsB_k bodT rfl (by rfl) (by rfl) ?_; intro T D K hK; go_simp; refine hK _ _ ?_; clear hK K; refine opsB.tape T D ?_)
      refine opsB_nil ?_
      simp only [Nx]
      refine wpB_cond (t := false) (by first | rfl | simp [Act.eval, *]) ?_
      simp only [Bool.false_eq_true, if_true, if_false, reduceIte]
      refine wpB_skip ?_
      simp only [Nx]
      refine wpB_loneK tameT hE (by decide +kernel) rfl (fun T D K hK => ?_)
      have HK := Lib.hid hK
      clear hK
      go_wp2
      refine HK.out _ _ ?_
      clear HK K
      refine wpB.tape (w := w) w.tape D ?_
      refine wpB_loneK tameT hE (by decide +kernel) rfl (fun T D K hK => ?_)
      have HK := Lib.hid hK
      clear hK
      obtain ⟨i0, hi0, hz0, hz1, hz2⟩ := info_u0
      go_wp2_with (first
        | (at_make; refine wpList_make_tab rfl _ _ 41 rfl 5 i0 (.int .u8 0) Try.underlying41 hi0 hz0 hz1 rfl _ _ n rfl rfl (by rw [hz2]; omega) (by omega) ?_))
      have hbn : BytesAt (nt w ((tp w T D).alloc (.cells (tabA n (fun _ => Value.int .u8 0)) 5))) (tp w T D).heap.size n (fun _ => 0) := bytes_new (tp w T D) n
      have hE2 : Ext w (nt w ((tp w T D).alloc (.cells (tabA n (fun _ => Value.int .u8 0)) 5))) := Ext.nt ((Ext.refl _).alloc _)
      refine HK.out _ _ ?_
      clear HK K
      generalize nt w ((tp w T D).alloc (.cells (tabA n (fun _ => Value.int .u8 0)) 5)) = w2 at *
      obtain ⟨g, hg⟩ : ∃ g, g = (tp w T D).heap.size := ⟨_, rfl⟩
      rw [← hg] at hbn ⊢
      have hge : w.heap.size ≤ g := by rw [hg]; exact Nat.le_refl _
      clear hg hi0 hz0 hz1 hz2
      refine wpB_loneK tameT hE (by decide +kernel) rfl (fun T D K hK => ?_)
      refine xors_wp (s := s) (t := t) (p := p) (q := q) (W0 := tp w T D) (W := tp w2 T D) hns hnt hn5 ⟨rfl, rfl, rfl, rfl, rfl, rfl, rfl, rfl⟩ (hE2.tp6 T D) hbn hge (fun a' w3 hTm hF hE3 => ?_)
      refine hK a' w3 ?_
      clear hK K
      obtain ⟨T', ds⟩ := a'
      obtain ⟨h1, h2, t0, t1, t2, t3, t9, t10⟩ := hTm
      simp only at h1 h2 t0 t1 t2 t3 t9 t10
      subst h1
      obtain ⟨x, rfl⟩ := tmps229 T' h2
      have e0 : x 0 = .string s := Option.some.inj t0
      have e1 : x 1 = .string t := Option.some.inj t1
      have e2 : x 2 = .int .u8 p := Option.some.inj t2
      have e3 : x 3 = .int .u8 q := Option.some.inj t3
      have e9 : x 9 = .int .i64 n := Option.some.inj t9
      have e10 : x 10 = .slice (some ⟨g, 0, none⟩) n n := Option.some.inj t10
      rw [e0, e1, e2, e3, e9, e10]
      clear h2 t0 e0 t1 e1 t2 e2 t3 e3 t9 e9 t10 e10
      have hE1 := hE2.ntx6 hE3
      replace hF : BytesAt (nt w2 w3) g n (xorF s t) := hF
      clear hE2 hbn hE3 hge
      generalize nt w2 w3 = w3 at *
      refine wpB_loneK tameT hE (by decide +kernel) rfl (fun T D K hK => ?_)
      have HK := Lib.hid hK
      clear hK
      go_wp2
      refine HK.out _ _ ?_
      clear HK K
      refine wpB.tape (w := w3) w3.tape D ?_
      have p1 : (n : Int) ≤ (s.size : Int) := by omega
      have p2 : (n : Int) ≤ (t.size : Int) := by omega
      have p3 : (0 : Int) ≤ (n : Int) := by omega
      have p4 : ((n : Int)).toNat = n := by omega
      refine wpB_seq ?_
      refine wpB_region ?_
      simp only [List.size_toArray, List.length_cons, List.length_nil, Nat.reduceAdd, Nat.zero_add, List.range, List.range.loop]
      iterate 5 (refine opsB_k bodT rfl (by rfl) (by rfl) ?_; intro T D K hK; go_simp; refine hK _ _ ?_; clear hK K; refine opsB.tape T D ?_)
      refine opsB_callOf (f := 10) (av := #[.int .i64 k, .int .i64 r, .string (s.extract 0 n)]) rfl (by rfl) rfl Try.func10 (by rfl) (by decide +kernel) (by simp [Act.eval]) (spread_n6 hE HN.out k1 hkr (by rw [cut_size s n hns]; omega)) ?_
      rintro v w11 ⟨A1, c1, rfl, hr1, hE11⟩
      simp only [Act.put, List.getElem_toArray, List.getElem_cons_zero, List.getElem_cons_succ, List.setIfInBounds_toArray, List.set_cons_zero, List.set_cons_succ]
      iterate 5 (refine opsB_k bodT rfl (by rfl) (by rfl) ?_; intro T D K hK; go_simp; refine hK _ _ ?_; clear hK K; refine opsB.tape T D ?_)
      refine opsB_nil ?_
      simp only [Nx]
      replace hF := hF.ext hE11
      replace hE1 := hE1.trans hE11
      clear hE11
      refine wpB_seq ?_
      refine wpB_region ?_
      simp only [List.size_toArray, List.length_cons, List.length_nil, Nat.reduceAdd, Nat.zero_add, List.range, List.range.loop]
      iterate 5 (refine opsB_k bodT rfl (by rfl) (by rfl) ?_; intro T D K hK; go_simp; refine hK _ _ ?_; clear hK K; refine opsB.tape T D ?_)
      refine opsB_callOf (f := 10) (av := #[.int .i64 k, .int .i64 r, .string (t.extract 0 n)]) rfl (by rfl) rfl Try.func10 (by rfl) (by decide +kernel) (by simp [Act.eval]) (spread_n6 hE HN.out k1 hkr (by rw [cut_size t n hnt]; omega)) ?_
      rintro v w12 ⟨A2, c2, rfl, hr2, hE12⟩
      simp only [Act.put, List.getElem_toArray, List.getElem_cons_zero, List.getElem_cons_succ, List.setIfInBounds_toArray, List.set_cons_zero, List.set_cons_succ]
      iterate 5 (refine opsB_k bodT rfl (by rfl) (by rfl) ?_; intro T D K hK; go_simp; refine hK _ _ ?_; clear hK K; refine opsB.tape T D ?_)
      refine opsB_nil ?_
      simp only [Nx]
      replace hF := hF.ext hE12
      replace hr1 := hr1.ext hE12
      replace hE1 := hE1.trans hE12
      clear hE12
      refine wpB_seq ?_
      refine wpB_region ?_
      simp only [List.size_toArray, List.length_cons, List.length_nil, Nat.reduceAdd, Nat.zero_add, List.range, List.range.loop]
      iterate 3 (refine opsB_k bodT rfl (by rfl) (by rfl) ?_; intro T D K hK; go_simp; refine hK _ _ ?_; clear hK K; refine opsB.tape T D ?_)
      refine opsB_value bodT rfl (by rfl) (by rfl) (fun T D => ⟨.string (strN n (xorF s t)), tp w12 T D, ex_conv rfl rfl (conv_back (w := tp w12 T D) (show BytesAt (tp w12 T D) g n (xorF s t) from hF) (xorF_lt s t)), opsB.tape T D ?_⟩)
      simp only [Act.put, List.getElem_toArray, List.getElem_cons_zero, List.getElem_cons_succ, List.setIfInBounds_toArray, List.set_cons_zero, List.set_cons_succ]
      refine opsB_callOf (f := 10) (av := #[.int .i64 k, .int .i64 r, .string (strN n (xorF s t))]) rfl (by rfl) rfl Try.func10 (by rfl) (by decide +kernel) (by simp [Act.eval]) (spread_n6 hE HN.out k1 hkr (by rw [strN_size]; omega)) ?_
      rintro v w13 ⟨A3, c3, rfl, hr3, hE13⟩
      simp only [Act.put, List.getElem_toArray, List.getElem_cons_zero, List.getElem_cons_succ, List.setIfInBounds_toArray, List.set_cons_zero, List.set_cons_succ]
      iterate 5 (refine opsB_k bodT rfl (by rfl) (by rfl) ?_; intro T D K hK; go_simp; refine hK _ _ ?_; clear hK K; refine opsB.tape T D ?_)
      refine opsB_nil ?_
      simp only [Nx]
      replace hF := hF.ext hE13
      replace hr1 := hr1.ext hE13
      replace hr2 := hr2.ext hE13
      replace hE1 := hE1.trans hE13
      clear hE13
      refine wpB_seq ?_
      refine wpB_region ?_
      simp only [List.size_toArray, List.length_cons, List.length_nil, Nat.reduceAdd, Nat.zero_add, List.range, List.range.loop]
      iterate 3 (refine opsB_k bodT rfl (by rfl) (by rfl) ?_; intro T D K hK; go_simp; refine hK _ _ ?_; clear hK K; refine opsB.tape T D ?_)
      refine opsB_value bodT rfl (by rfl) (by rfl) (fun T D => ⟨_, _, ex_make rfl rfl rfl (make_u8 n (by omega) (tp w13 T D)), ?_⟩)
      refine opsB.re (w := w13.alloc (.cells (tabA n (fun _ => Value.int .u8 0)) 5)) T D rfl ?_
      have hx := (Ext.refl w13).alloc (.cells (tabA n (fun _ => Value.int .u8 0)) 5)
      have hB := bytes_new w13 n
      rw [show (tp w13 T D).heap.size = w13.heap.size from rfl]
      replace hF := hF.ext hx
      replace hr1 := hr1.ext hx
      replace hr2 := hr2.ext hx
      replace hr3 := hr3.ext hx
      replace hE1 := hE1.trans hx
      clear hx
      generalize w13.alloc (.cells (tabA n (fun _ => Value.int .u8 0)) 5) = w13a at *
      generalize w13.heap.size = G at *
      simp only [Act.put, List.getElem_toArray, List.getElem_cons_zero, List.getElem_cons_succ, List.setIfInBounds_toArray, List.set_cons_zero, List.set_cons_succ]
      refine opsB_value bodT rfl (by rfl) (by rfl) (fun T D => ⟨.string (zeroT n), tp w13a T D, ex_conv rfl rfl (conv_back (w := tp w13a T D) (show BytesAt (tp w13a T D) G n (fun _ => 0) from hB) (fun _ => by omega)), opsB.tape T D ?_⟩)
      clear hB
      simp only [Act.put, List.getElem_toArray, List.getElem_cons_zero, List.getElem_cons_succ, List.setIfInBounds_toArray, List.set_cons_zero, List.set_cons_succ]
      refine opsB_callOf (f := 10) (av := #[.int .i64 k, .int .i64 r, .string (zeroT n)]) rfl (by rfl) rfl Try.func10 (by rfl) (by decide +kernel) (by simp [Act.eval]) (spread_n6 hE HN.out k1 hkr (by rw [zero_size]; omega)) ?_
      rintro v w14 ⟨A4, c4, rfl, hr4, hE14⟩
      simp only [Act.put, List.getElem_toArray, List.getElem_cons_zero, List.getElem_cons_succ, List.setIfInBounds_toArray, List.set_cons_zero, List.set_cons_succ]
      iterate 5 (refine opsB_k bodT rfl (by rfl) (by rfl) ?_; intro T D K hK; go_simp; refine hK _ _ ?_; clear hK K; refine opsB.tape T D ?_)
      refine opsB_nil ?_
      simp only [Nx]
      replace hF := hF.ext hE14
      replace hr1 := hr1.ext hE14
      replace hr2 := hr2.ext hE14
      replace hr3 := hr3.ext hE14
      replace hE1 := hE1.trans hE14
      clear hE14
      clear hF
      refine wpB_seq ?_
      refine wpB_seq ?_
      refine wpB_region ?_
      simp only [List.size_toArray, List.length_cons, List.length_nil, Nat.reduceAdd, Nat.zero_add, List.range, List.range.loop]
      iterate 46 (refine opsB_k bodT rfl (by rfl) (by rfl) ?_; intro T D K hK; go_simp; refine hK _ _ ?_; clear hK K; refine opsB.tape T D ?_)
      refine opsB_nil ?_
      simp only [Nx]
      refine wpB_cond (t := false) (by first | rfl | simp [Act.eval, *]) ?_
      simp only [Bool.false_eq_true, if_true, if_false, reduceIte]
      refine wpB_skip ?_
      simp only [Nx]
      refine wpB_seq ?_
      refine wpB_seq ?_
      refine wpB_region ?_
      simp only [List.size_toArray, List.length_cons, List.length_nil, Nat.reduceAdd, Nat.zero_add, List.range, List.range.loop]
      (refine opsB_k bodT rfl (by rfl) (by rfl) ?_; intro T D K hK; go_simp; refine hK _ _ ?_; clear hK K; refine opsB.tape T D ?_)
      refine opsB_nil ?_
      simp only [Nx]
      refine wpB_block ?_
      refine wpB_loop (fun μ a w6 => ∃ i : Nat, i ≤ N ∧ μ = N - i ∧ TmO n k r N A1 A2 A3 A4 c1 c2 c3 c4 i a ∧ Rd w6 A1 N ((spreadV k r (s.extract 0 n)).map Value.string) ∧ Rd w6 A2 N ((spreadV k r (t.extract 0 n)).map Value.string) ∧ Rd w6 A3 N ((spreadV k r (strN n (xorF s t))).map Value.string) ∧ Rd w6 A4 N ((spreadV k r (zeroT n)).map Value.string) ∧ Ext w w6) N ⟨0, by omega, rfl, ⟨rfl, rfl, rfl, rfl, rfl, rfl, rfl, rfl, rfl, rfl⟩, hr1, hr2, hr3, hr4, hE1⟩ ?_
      clear hr1 hr2 hr3 hr4 hE1
      rintro μ a w6 ⟨i, hi, rfl, hTm, hr1, hr2, hr3, hr4, hE1⟩
      obtain ⟨x, rfl⟩ := hTm.lit
      clear hTm
      by_cases hi2 : i < N
      · have d1 : decide ((i : Int) < (N : Int)) = true := by simp; omega
        have i9 : IntKind.i64.wrap ((i : Int) + 1) = (i : Int) + 1 := IntWalk.i64_in _ (by omega)
        have iN : (i : Int) < (N : Int) := by omega
        have i0 : (0 : Int) ≤ (i : Int) := by omega
        refine wpB_seq ?_
        refine wpB_seq ?_
        refine wpB_region ?_
        simp only [List.size_toArray, List.length_cons, List.length_nil, Nat.reduceAdd, Nat.zero_add, List.range, List.range.loop]
        iterate 5 (refine opsB_k bodT rfl (by rfl) (by rfl) ?_; intro T D K hK; go_simp; refine hK _ _ ?_; clear hK K; refine opsB.tape T D ?_)
        refine opsB_nil ?_
        simp only [Nx]
        refine wpB_cond (t := true) (by first | rfl | simp [Act.eval, *]) ?_
        simp only [Bool.false_eq_true, if_true, if_false, reduceIte]
        refine wpB_skip ?_
        simp only [Nx]
        obtain ⟨g1, o1, hA1, hc1⟩ := rd_part HN.out hr1 hi2
        obtain ⟨g2, o2, hA2, hc2⟩ := rd_part HN.out hr2 hi2
        obtain ⟨g3, o3, hA3, hc3⟩ := rd_part HN.out hr3 hi2
        obtain ⟨g4, o4, hA4, hc4⟩ := rd_part HN.out hr4 hi2
        subst hA1 hA2 hA3 hA4
        have hik : i < k + r := by rw [HN.out]; exact hi2
        have hX := spread_size k1 (s.extract 0 n) hik
        have hY := spread_size k1 (t.extract 0 n) hik
        have hZ := spread_size k1 (strN n (xorF s t)) hik
        have hxy := fun j hj => spread_lin (i := i) (j := j) k1 (cut_size s n hns) (cut_size t n hnt) (strN_size n (xorF s t)) (bn_two hns hnt) hik hj
        rw [cut_size s n hns, HZ.out] at hX
        rw [cut_size t n hnt, HZ.out] at hY
        rw [strN_size, HZ.out] at hZ
        rw [HZ.out] at hxy
        rw [spread_zero k1 (bn_noll n) hik, zero_size, HZ.out] at hc4
        have HXY := Lib.hid hxy
        clear hxy
        generalize (spreadV k r (s.extract 0 n)).getD i { data := #[] } = X at *
        generalize (spreadV k r (t.extract 0 n)).getD i { data := #[] } = Y at *
        generalize (spreadV k r (strN n (xorF s t))).getD i { data := #[] } = Z at *
        refine wpB_seq ?_
        refine wpB_block ?_
        refine wpB_seq ?_
        refine wpB_seq ?_
        have hE0 : Ext w6 (nt w6 w6) := Ext.refl _
        refine wpB_any bodT (by kernel_rfl) (fun w => w.cell? ⟨g1, o1 + i, none⟩ = some (.string X) ∧ w.cell? ⟨g2, o2 + i, none⟩ = some (.string Y) ∧ w.cell? ⟨g3, o3 + i, none⟩ = some (.string Z) ∧ w.cell? ⟨g4, o4 + i, none⟩ = some (.string (zeroT z)) ∧ Ext w6 (nt w6 w)) ?_
        simp only [List.size_toArray, List.length_cons, List.length_nil, Nat.reduceAdd]
        refine anyB_steps (fun a w T D h => wpB.tape T D h) (fun w T D h => ⟨h.1, h.2.1, h.2.2.1, h.2.2.2.1, h.2.2.2.2.ntp T D⟩) (by kernel_rfl) (b := ?b1) ⟨hc1, hc2, hc3, hc4, hE0⟩ (fuel := 42) [(0, .slice (some ⟨g1, o1, none⟩) N c1), (1, .int .i64 i), (2, .pointer (some ⟨g1, o1 + i, none⟩)), (3, .string X), (4, .int .i64 z), (5, .int .i64 k), (6, .int .i64 n)] _ _ _ (by rfl) ?steps1 (by kernel_rfl) ?rest1
        case steps1 =>
          iterate 7 (refine StepsB.cons rfl rfl (.inl ⟨by rfl, by rfl, fun w hS => by obtain ⟨h1, h2, h3, h4, _⟩ := hS; go_simp⟩) ?_; simp only [List.setIfInBounds_toArray, List.set_cons_zero, List.set_cons_succ])
          exact StepsB.nil
        case rest1 =>
          refine anyB_all (rs := [7]) (by kernel_rfl) (by simp) (fun i hi => ?_)
          obtain rfl := List.mem_singleton.1 hi
          clear hi
          refine opB_callOf (f := 12) (av := #[.int .i64 k, .int .i64 n]) rfl (by rfl) rfl Try.func12 (by rfl) (by decide +kernel) (by simp [Act.eval]) (HSZ.out w6) ?_
          rintro v w7 ⟨rfl, hEb⟩
          have d1 := hEb.cellv hc1
          have d2 := hEb.cellv hc2
          have d3 := hEb.cellv hc3
          have d4 := hEb.cellv hc4
          have hEb := hE0.on hEb
          refine ⟨⟨d1, d2, d3, d4, hEb⟩, ?_⟩
          simp only [Act.put, List.getElem_toArray, List.getElem_cons_zero, List.getElem_cons_succ, List.setIfInBounds_toArray, List.set_cons_zero, List.set_cons_succ]
          refine anyB_steps (fun a w T D h => wpB.tape T D h) (fun w T D h => ⟨h.1, h.2.1, h.2.2.1, h.2.2.2.1, h.2.2.2.2.ntp T D⟩) (by kernel_rfl) (b := ?b2) ⟨d1, d2, d3, d4, hEb⟩ (fuel := 4) [(8, .bool false), (9, .bool false), (10, .slice (some ⟨g2, o2, none⟩) N c2), (11, .int .i64 i), (12, .pointer (some ⟨g2, o2 + i, none⟩)), (13, .string Y), (14, .int .i64 z), (15, .slice (some ⟨g1, o1, none⟩) N c1), (16, .int .i64 i), (17, .pointer (some ⟨g1, o1 + i, none⟩)), (18, .string X), (19, .int .i64 z), (20, .bool false), (21, .bool false), (22, .bool false), (23, .slice (some ⟨g3, o3, none⟩) N c3), (24, .int .i64 i), (25, .pointer (some ⟨g3, o3 + i, none⟩)), (26, .string Z), (27, .int .i64 z), (28, .slice (some ⟨g1, o1, none⟩) N c1), (29, .int .i64 i), (30, .pointer (some ⟨g1, o1 + i, none⟩)), (31, .string X), (32, .int .i64 z), (33, .bool false), (34, .bool false), (35, .bool false), (36, .slice (some ⟨g4, o4, none⟩) N c4), (37, .int .i64 i), (38, .pointer (some ⟨g4, o4 + i, none⟩)), (39, .string (zeroT z)), (40, .slice (some ⟨g1, o1, none⟩) N c1), (41, .int .i64 i), (42, .pointer (some ⟨g1, o1 + i, none⟩)), (43, .string X), (44, .int .i64 z)] _ _ _ (by rfl) ?steps2 (by kernel_rfl) ?rest2
          case steps2 =>
            iterate 37 (refine StepsB.cons rfl rfl (.inl ⟨by rfl, by rfl, fun w hS => by obtain ⟨h1, h2, h3, h4, _⟩ := hS; go_simp⟩) ?_; simp only [List.setIfInBounds_toArray, List.set_cons_zero, List.set_cons_succ])
            exact StepsB.nil
          case rest2 =>
            refine anyB_all (rs := [45]) (by kernel_rfl) (by simp) (fun i hi => ?_)
            obtain rfl := List.mem_singleton.1 hi
            clear hi
            refine opB_k rfl (by rfl) (by rfl) ?_
            intro T D K hK
            refine upon_val (ex_make rfl rfl rfl (make_u8 z hz _)) (hK _ _ ?_)
            clear hK K
            have hx := (Ext.refl (tp w7 T D)).alloc (.cells (tabA z (fun _ => Value.int .u8 0)) 5)
            have hB := bytes_new (tp w7 T D) z
            have e1 := hx.cellv (show (tp w7 T D).cell? ⟨g1, o1 + i, none⟩ = _ from d1)
            have e2 := hx.cellv (show (tp w7 T D).cell? ⟨g2, o2 + i, none⟩ = _ from d2)
            have e3 := hx.cellv (show (tp w7 T D).cell? ⟨g3, o3 + i, none⟩ = _ from d3)
            have e4 := hx.cellv (show (tp w7 T D).cell? ⟨g4, o4 + i, none⟩ = _ from d4)
            have hEa := (hEb.ntp T D).on hx
            clear hx
            generalize (tp w7 T D).alloc (.cells (tabA z (fun _ => Value.int .u8 0)) 5) = wa at *
            generalize (tp w7 T D).heap.size = G at *
            refine ⟨⟨e1, e2, e3, e4, hEa⟩, ?_⟩
            simp only [Act.put, List.getElem_toArray, List.getElem_cons_zero, List.getElem_cons_succ, List.setIfInBounds_toArray, List.set_cons_zero, List.set_cons_succ]
            refine anyB_all (rs := [46]) (by kernel_rfl) (by simp) (fun i hi => ?_)
            obtain rfl := List.mem_singleton.1 hi
            clear hi
            refine opB_k rfl (by rfl) (by rfl) ?_
            intro T D K hK
            refine upon_val (ex_conv (u := .string (zeroT z)) rfl rfl (conv_back (w := tp wa T D) (show BytesAt (tp wa T D) G z (fun _ => 0) from hB) (fun _ => by omega))) (hK _ _ ?_)
            clear hK K
            refine ⟨⟨e1, e2, e3, e4, hEa.ntp T D⟩, ?_⟩
            simp only [Act.put, List.getElem_toArray, List.getElem_cons_zero, List.getElem_cons_succ, List.setIfInBounds_toArray, List.set_cons_zero, List.set_cons_succ]
            refine anyB_steps (fun a w T D h => wpB.tape T D h) (fun w T D h => ⟨h.1, h.2.1, h.2.2.1, h.2.2.2.1, h.2.2.2.2.ntp T D⟩) (by kernel_rfl) (b := ?b3) ⟨e1, e2, e3, e4, hEa.ntp T D⟩ (fuel := 0) [(47, .bool false), (48, .bool false)] _ _ _ (by rfl) ?steps3 (by kernel_rfl) ?rest3
            case steps3 =>
              iterate 2 (refine StepsB.cons rfl rfl (.inl ⟨by rfl, by rfl, fun w hS => by obtain ⟨h1, h2, h3, h4, _⟩ := hS; go_simp⟩) ?_; simp only [List.setIfInBounds_toArray, List.set_cons_zero, List.set_cons_succ])
              exact StepsB.nil
            case rest3 =>
              refine anyB_done (by kernel_rfl) ?_ _
              simp only [Nx]
              refine wpB.tape (w := nt w6 wa) T D ?_
              replace hr1 := hr1.ext hEa
              replace hr2 := hr2.ext hEa
              replace hr3 := hr3.ext hEa
              replace hr4 := hr4.ext hEa
              replace hE1 := hE1.trans hEa
              replace e1 : (nt w6 wa).cell? ⟨g1, o1 + i, none⟩ = _ := e1
              replace e2 : (nt w6 wa).cell? ⟨g2, o2 + i, none⟩ = _ := e2
              replace e3 : (nt w6 wa).cell? ⟨g3, o3 + i, none⟩ = _ := e3
              clear hEa hEb hB d2 d3 d4 hc1 hc2 hc3 hc4 e4 hE0
              generalize nt w6 wa = w9 at *
              refine wpB_cond (t := false) (by first | rfl | simp [Act.eval, *]) ?_
              simp only [Bool.false_eq_true, if_true, if_false, reduceIte]
              refine wpB_skip ?_
              simp only [Nx]
              refine wpB_loneE tameT hE (by decide +kernel) rfl (fun T D K hK => ?_)
              refine inner_wp (W0 := tp w9 T D) (W := tp w9 T D) (n := n) (k := k) (r := r) (c4 := c4) hi2 hX hY hZ hz HXY.out ⟨rfl, rfl, rfl, rfl, rfl, rfl, rfl, rfl, rfl, rfl⟩ (Ext.refl _) e1 e2 e3 (fun a' w8 hTm hE8 => hK a' w8 ?_)
              clear hK K
              obtain ⟨T', ds⟩ := a'
              obtain ⟨h1, h2, t9, t12, t13, t14, t16, t18, t20, t22⟩ := hTm
              simp only at h1 h2 t9 t12 t13 t14 t16 t18 t20 t22
              subst h1
              obtain ⟨x, rfl⟩ := tmps229 T' h2
              have e9 : x 9 = .int .i64 n := Option.some.inj t9
              have e12 : x 12 = .int .i64 k := Option.some.inj t12
              have e13 : x 13 = .int .i64 r := Option.some.inj t13
              have e14 : x 14 = .slice (some ⟨g1, o1, none⟩) N c1 := Option.some.inj t14
              have e16 : x 16 = .slice (some ⟨g2, o2, none⟩) N c2 := Option.some.inj t16
              have e18 : x 18 = .slice (some ⟨g3, o3, none⟩) N c3 := Option.some.inj t18
              have e20 : x 20 = .slice (some ⟨g4, o4, none⟩) N c4 := Option.some.inj t20
              have e22 : x 22 = .int .i64 i := Option.some.inj t22
              rw [e9, e12, e13, e14, e16, e18, e20, e22]
              clear h2 t9 e9 t12 e12 t13 e13 t14 e14 t16 e16 t18 e18 t20 e20 t22 e22
              have hE8 := (Ext.refl w9).ntx6 hE8
              replace hr1 := hr1.ext hE8
              replace hr2 := hr2.ext hE8
              replace hr3 := hr3.ext hE8
              replace hr4 := hr4.ext hE8
              replace hE1 := hE1.trans hE8
              clear hE8 e1 e2 e3
              generalize nt w9 w8 = w8 at *
              simp only [Nx, Bl]
              refine wpB_region ?_
              simp only [List.size_toArray, List.length_cons, List.length_nil, Nat.reduceAdd, Nat.zero_add, List.range, List.range.loop]
              iterate 3 (refine opsB_k bodT rfl (by rfl) (by rfl) ?_; intro T D K hK; go_simp; refine hK _ _ ?_; clear hK K; refine opsB.tape T D ?_)
              refine opsB_nil ?_
              simp only [Nx]
              exact ⟨N - (i + 1), by omega, i + 1, by omega, rfl, ⟨rfl, rfl, rfl, rfl, rfl, rfl, rfl, rfl, rfl, rfl⟩, hr1, hr2, hr3, hr4, hE1⟩
      · obtain rfl : N = i := by omega
        have d1 : decide ((N : Int) < (N : Int)) = false := by simp
        refine wpB_seq ?_
        refine wpB_seq ?_
        refine wpB_region ?_
        simp only [List.size_toArray, List.length_cons, List.length_nil, Nat.reduceAdd, Nat.zero_add, List.range, List.range.loop]
        iterate 5 (refine opsB_k bodT rfl (by rfl) (by rfl) ?_; intro T D K hK; go_simp; refine hK _ _ ?_; clear hK K; refine opsB.tape T D ?_)
        refine opsB_nil ?_
        simp only [Nx]
        refine wpB_cond (t := false) (by first | rfl | simp [Act.eval, *]) ?_
        simp only [Bool.false_eq_true, if_true, if_false, reduceIte]
        refine wpB_exit ?_
        simp only [Nx, Bl, if_true]
        refine wpB_seq ?_
        refine wpB_region ?_
        simp only [List.size_toArray, List.length_cons, List.length_nil, Nat.reduceAdd, Nat.zero_add, List.range, List.range.loop]
        refine opsB_callOf (f := 7) (av := #[]) rfl (by rfl) rfl Try.func7 (by rfl) (by decide +kernel) (by simp [Act.eval]) (alive_B hE) ?_
        rintro v w9 ⟨rfl, hE9⟩
        simp only [Act.put, List.getElem_toArray, List.getElem_cons_zero, List.getElem_cons_succ, List.setIfInBounds_toArray, List.set_cons_zero, List.set_cons_succ]
        (refine opsB_k bodT rfl (by rfl) (by rfl) ?_; intro T D K hK; go_simp; refine hK _ _ ?_; clear hK K; refine opsB.tape T D ?_)
        refine opsB_nil ?_
        simp only [Nx]
        refine wpB_ret ?_
        exact bodyB_ret rfl (results_tmp1 rfl rfl _) (⟨rfl, hE1.trans hE9⟩)
    · have d2 : decide ((512 : Int) < (t.size : Int)) = true := by simp; omega
      have d2' : (512 : Int) < (t.size : Int) := by omega
      clear ht
      refine callsB_of_wp Try.func6 rfl ?_
      simp only [Try.ntmps6, List.size_toArray, List.length_cons, List.length_nil, Nat.reduceAdd, Nat.reduceSub, Array.replicate_succ, Array.replicate_zero, List.push_toArray, List.append_toArray, List.nil_append, List.cons_append]
      refine wpB_seq ?_
      refine wpB_region ?_
      simp only [List.size_toArray, List.length_cons, List.length_nil, Nat.reduceAdd, Nat.zero_add, List.range, List.range.loop]
      (refine opsB_k bodT rfl (by rfl) (by rfl) ?_; intro T D K hK; go_simp; refine hK _ _ ?_; clear hK K; refine opsB.tape T D ?_)
      refine opsB_nil ?_
      simp only [Nx]
      refine wpB_seq ?_
      refine wpB_seq ?_
      refine wpB_region ?_
      simp only [List.size_toArray, List.length_cons, List.length_nil, Nat.reduceAdd, Nat.zero_add, List.range, List.range.loop]
      iterate 8 (refine opsB_k bodT rfl (by rfl) (by rfl) ?_; intro T D K hK; go_simp; refine hK _ _ ?_; clear hK K; refine opsB.tape T D ?_)
      refine opsB_nil ?_
      simp only [Nx]
      refine wpB_cond (t := true) (by first | rfl | simp [Act.eval, *]) ?_
      simp only [Bool.false_eq_true, if_true, if_false, reduceIte]
      refine wpB_seq ?_
      refine wpB_region ?_
      simp only [List.size_toArray, List.length_cons, List.length_nil, Nat.reduceAdd, Nat.zero_add, List.range, List.range.loop]
      refine opsB_callOf (f := 7) (av := #[]) rfl (by rfl) rfl Try.func7 (by rfl) (by decide +kernel) (by simp [Act.eval]) (alive_B hE) ?_
      rintro v w1 ⟨rfl, hE1⟩
      simp only [Act.put, List.getElem_toArray, List.getElem_cons_zero, List.getElem_cons_succ, List.setIfInBounds_toArray, List.set_cons_zero, List.set_cons_succ]
      (refine opsB_k bodT rfl (by rfl) (by rfl) ?_; intro T D K hK; go_simp; refine hK _ _ ?_; clear hK K; refine opsB.tape T D ?_)
      refine opsB_nil ?_
      simp only [Nx]
      refine wpB_ret ?_
      exact bodyB_ret rfl (results_tmp1 rfl rfl _) (⟨rfl, hE1⟩)
  · have d1 : decide ((512 : Int) < (s.size : Int)) = true := by simp; omega
    have d1' : (512 : Int) < (s.size : Int) := by omega
    clear hs
    refine callsB_of_wp Try.func6 rfl ?_
    simp only [Try.ntmps6, List.size_toArray, List.length_cons, List.length_nil, Nat.reduceAdd, Nat.reduceSub, Array.replicate_succ, Array.replicate_zero, List.push_toArray, List.append_toArray, List.nil_append, List.cons_append]
    refine wpB_seq ?_
    refine wpB_region ?_
    simp only [List.size_toArray, List.length_cons, List.length_nil, Nat.reduceAdd, Nat.zero_add, List.range, List.range.loop]
    (refine opsB_k bodT rfl (by rfl) (by rfl) ?_; intro T D K hK; go_simp; refine hK _ _ ?_; clear hK K; refine opsB.tape T D ?_)
    refine opsB_nil ?_
    simp only [Nx]
    refine wpB_seq ?_
    refine wpB_seq ?_
    refine wpB_region ?_
    simp only [List.size_toArray, List.length_cons, List.length_nil, Nat.reduceAdd, Nat.zero_add, List.range, List.range.loop]
    iterate 4 (refine opsB_k bodT rfl (by rfl) (by rfl) ?_; intro T D K hK; go_simp; refine hK _ _ ?_; clear hK K; refine opsB.tape T D ?_)
    refine opsB_unwanted rfl (by rfl) ?_
    simp only [Act.put, List.getElem_toArray, List.getElem_cons_zero, List.getElem_cons_succ, List.setIfInBounds_toArray, List.set_cons_zero, List.set_cons_succ]
    refine opsB_unwanted rfl (by rfl) ?_
    simp only [Act.put, List.getElem_toArray, List.getElem_cons_zero, List.getElem_cons_succ, List.setIfInBounds_toArray, List.set_cons_zero, List.set_cons_succ]
    refine opsB_unwanted rfl (by rfl) ?_
    simp only [Act.put, List.getElem_toArray, List.getElem_cons_zero, List.getElem_cons_succ, List.setIfInBounds_toArray, List.set_cons_zero, List.set_cons_succ]
    (refine opsB_k bodT rfl (by rfl) (by rfl) ?_; intro T D K hK; go_simp; refine hK _ _ ?_; clear hK K; refine opsB.tape T D ?_)
    refine opsB_nil ?_
    simp only [Nx]
    refine wpB_cond (t := true) (by first | rfl | simp [Act.eval, *]) ?_
    simp only [Bool.false_eq_true, if_true, if_false, reduceIte]
    refine wpB_seq ?_
    refine wpB_region ?_
    simp only [List.size_toArray, List.length_cons, List.length_nil, Nat.reduceAdd, Nat.zero_add, List.range, List.range.loop]
    refine opsB_callOf (f := 7) (av := #[]) rfl (by rfl) rfl Try.func7 (by rfl) (by decide +kernel) (by simp [Act.eval]) (alive_B hE) ?_
    rintro v w1 ⟨rfl, hE1⟩
    simp only [Act.put, List.getElem_toArray, List.getElem_cons_zero, List.getElem_cons_succ, List.setIfInBounds_toArray, List.set_cons_zero, List.set_cons_succ]
    (refine opsB_k bodT rfl (by rfl) (by rfl) ?_; intro T D K hK; go_simp; refine hK _ _ ?_; clear hK K; refine opsB.tape T D ?_)
    refine opsB_nil ?_
    simp only [Nx]
    refine wpB_ret ?_
    exact bodyB_ret rfl (results_tmp1 rfl rfl _) (⟨rfl, hE1⟩)
theorem u8_bd6 {n : Int} (h : (Lit.int .u8 n).wf = true) : 0 ≤ n ∧ n ≤ 255 := by
  have h0 : IntKind.u8.min ≤ n ∧ n ≤ IntKind.u8.max := by simpa [Lit.wf] using h
  exact h0
theorem codeLinear_B {n0 : Nat} (hE : NoEarly Try.prog n0) (s t : ByteArray) (p q : Int) (w : World) (_ : s.size ≤ maxLen) (_ : t.size ≤ maxLen) (hp : (Lit.int .u8 p).wf = true) (hq : (Lit.int .u8 q).wf = true) : CallsB n0 Try.prog 6 #[.string s, .string t, .int .u8 p, .int .u8 q] w (YesB w) :=
  codeLinear_C hE s t p q (u8_bd6 hp) (u8_bd6 hq)
end Go.Proofs.Ytjdppgogdilgkaa
end
