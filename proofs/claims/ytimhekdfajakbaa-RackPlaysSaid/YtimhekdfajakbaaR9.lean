import Derived.Test.YtimhekdfajakbaaR8
import Derived.Lib.BufferWrite
namespace Go.Proofs.Ytimhekdfajakbaa
open Go.RowKit
theorem zero78 (w : World) : (zeroValue 78).run Try.prog w = .ok (.agg Z78) w := by kernel_rfl
section
variable {p : Pl} {s : St} {w : World}
theorem write_no (h : RackAt w p s) (d x : Int) (t : ByteArray) (hne : writeE p s d x t ≠ 0) : Calls Try.prog 19 #[.pointer (some ⟨p.gR, 0, none⟩), .int .i64 d, .int .i64 x, .string t] w fun e w' => e = .returned (.int .i64 (writeE p s d x t)) ∧ RackAt w' p s ∧ Chg p w w' := by
  have hmf := mkf
  have hO := (Ext.refl w).alloc (.cells #[.string t] 9)
  have hb : (w.alloc (.cells #[.string t] 9)).cell? ⟨w.heap.size, 0, none⟩ = some (.string t) := (Blk.new w 9 #[.string t]).cell 0
  obtain ⟨E, hEE⟩ : ∃ E, E = writeE p s d x t := ⟨_, rfl⟩
  have HEE := Lib.hid hEE
  rw [← hEE] at hne ⊢
  have hneB : (E != 0) = true := by simpa using hne
  clear hne hEE
  go_enter Try.func19, Try.ntmps19
  go_wp2_with (first
    | (go_at_call 31; (with_reducible refine (away_any _ d x _).mono ?_); rintro e w0 ⟨gd, gr, gs, rfl, hd, hr, hs, hE0⟩; have hb0 := hE0.cellv hb)
    | (go_at_call 29; (with_reducible refine (first_write ((h.ext hO).ext hE0) d x t gd gr gs _ hd hr hs hb0 _ rfl 71).mono ?_); rintro e w1 ⟨rfl, hE⟩; rw [← HEE.out]))
  go_ret
  exact ⟨rfl, ((h.ext hO).ext hE0).ext hE, Chg.of ((hO.trans hE0).trans hE)⟩
end
section
variable {P : Program} {ops : Array Oper} {a : Act} {Q : Exit → Act → World → Prop}
/-- copy of a text into a block that is known whole, at a step of a region that draws its order. -/
theorem step_copy_str {o : Oper} {K : Act → World → Prop} {E : Prop} (w : World) (hgd : o.guard = none) (x y : Operand) (dT sT elem : TypeId) (ho : o.op = .call { callee := .builtin .copy, args := #[x, y], argTypes := #[dT, sT] })
    (hu : P.underlying dT = some (.slice elem)) (hs : (P.info? elem).map (·.size) = some 1) (g n c : Nat) (t : TypeId) (cur : Array Value) (s : ByteArray) (hx : a.eval x = .slice (some ⟨g, 0, none⟩) n c) (hy : a.eval y = .string s)
    (hb : Blk w g t cur) (hle : s.size ≤ n) (hfit : s.size ≤ cur.size)
    (h : ∀ w', Blk w' g t (Lib.byteCells s.data.toList ++ cur.toList.drop s.size).toArray → OnlyB g w w' → K (a.put o.dst (goInt s.size)) w') :
    if Region.wanted o (yielded ops a.tmps) = true then Oper.wp P o a w K Q else E := by
  have hw : Region.wanted o (yielded ops a.tmps) = true := by simp [Region.wanted, hgd]
  rw [if_pos hw]
  have hr := Lib.run_copy_row_string (P := P) w dT sT o.type elem g 0 n c s cur t hu hs hb hle (by omega)
  unfold Oper.wp execOp
  simp only [ho, resolve, invoke, builtin, Sem.run_bind, Sem.run_pure, Result.andThen_ok, List.map_toArray, List.map_cons, List.map_nil, hx, hy, hr]
  refine h _ ?_ ?_
  · simpa using hb.setRow _
  · exact ⟨rfl, rfl, rfl, by simp, fun k _ hk => setRow_other w g k _ (fun e => hk (by rw [e]))⟩
end
