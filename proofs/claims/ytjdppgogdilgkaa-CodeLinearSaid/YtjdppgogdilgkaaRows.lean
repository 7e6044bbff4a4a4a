/-
  No cell of these rows narrows 'for every input' (looked for: loops, veiled, ifaces, maps, wideKeys, modest, calm, conditions, laid).
  DERIVED. THE GIVEN ROWS OF THIS SEAT. 4 by the template 'for every input the law returns true; each argument reads behind the call as it read before'; 0 by the template 'total and deterministic' (their statements: YtjdppgogdilgkaaTotals.lean).
  GIVEN WITH THE SEED: the statements are not yours to turn. If you find one false, say at which input.
  Laid BY PROGRAM, IN A SANDBOX (cutbox-rows.mjs): the forced cells as the released guide's own fill.sh prints them over the translation dd2b806fc6d1e6a1… (all of the seat's roots in one cut). By AI agents, Wed Nov 11 2026. No macro, syntax, notation, axiom, sorry.
-/
import Derived.Test.YtjdppgogdilgkaaChecked
import GoSem.Claim
import GoSem.ClaimJoined
import GoSem.ClaimMapViews
import Derived.JoinedTies
import Derived.KernelRfl
namespace Go.Proofs.Ytjdppgogdilgkaa
/- THE CELL 'sum', in the pinned program and in every row, IS THE sha256 OF THE DUMP (.gsa) THAT YtjdppgogdilgkaaProg.lean LOADS. Nothing in Lean hashes anything: it is a label: what it is worth is what the hold of that sum in a sandbox is worth. -/
noncomputable def Try.pinned : Pinned := { name := "ytjdppgogdilgkaa", sum := "dd2b806fc6d1e6a1f27631fe6c73aa49e547e440433f5a342ae541677f80af45", checked := Try.checked }
namespace Rows
def none {H : Type} : Left H := { results := [], args := [] }

/-- 'hoardlaw06.CodeSpreads': WHATEVER THE INPUT: true; the input reads as it did. -/
def codeSpreadsSpec : ChangeSpec := { name := "codeSpreads", fn := fun _ => fun
  | [d1, d2, d3, d4] => { results := [.lit (.bool true)], args := [d1, d2, d3, d4] }
  | _ => none }
def codeSpreadsRow : OpenClaim := { program := "ytjdppgogdilgkaa", sum := "dd2b806fc6d1e6a1f27631fe6c73aa49e547e440433f5a342ae541677f80af45", func := "hoard/hoardlaw06.CodeSpreads", spec := "codeSpreads", inPlace := ["internal/abi.NoEscape", "internal/bytealg.MakeNoZero"], unfollowed := true, recurses := true, leaving := true, apart := false }
def CodeSpreadsSaid : Prop := codeSpreadsRow.holds Try.pinned (OpenSpec.ofChange codeSpreadsSpec)

/-- ITS FALSE NEIGHBOUR: 'it returns false'. Refute it at one input. -/
def codeSpreadsWrong : ChangeSpec := { name := "codeSpreads", fn := fun _ => fun
  | [d1, d2, d3, d4] => { results := [.lit (.bool false)], args := [d1, d2, d3, d4] }
  | _ => none }
def CodeSpreadsWrongFalsely : Prop := codeSpreadsRow.holds Try.pinned (OpenSpec.ofChange codeSpreadsWrong)

/-- 'hoardlaw06.CodeGathers': WHATEVER THE INPUT: true; the input reads as it did. -/
def codeGathersSpec : ChangeSpec := { name := "codeGathers", fn := fun _ => fun
  | [d1, d2, d3, d4, d5] => { results := [.lit (.bool true)], args := [d1, d2, d3, d4, d5] }
  | _ => none }
def codeGathersRow : OpenClaim := { program := "ytjdppgogdilgkaa", sum := "dd2b806fc6d1e6a1f27631fe6c73aa49e547e440433f5a342ae541677f80af45", func := "hoard/hoardlaw06.CodeGathers", spec := "codeGathers", inPlace := ["internal/abi.NoEscape", "internal/bytealg.MakeNoZero"], unfollowed := true, recurses := true, leaving := true, apart := false }
def CodeGathersSaid : Prop := codeGathersRow.holds Try.pinned (OpenSpec.ofChange codeGathersSpec)

/-- ITS FALSE NEIGHBOUR: 'it returns false'. Refute it at one input. -/
def codeGathersWrong : ChangeSpec := { name := "codeGathers", fn := fun _ => fun
  | [d1, d2, d3, d4, d5] => { results := [.lit (.bool false)], args := [d1, d2, d3, d4, d5] }
  | _ => none }
def CodeGathersWrongFalsely : Prop := codeGathersRow.holds Try.pinned (OpenSpec.ofChange codeGathersWrong)

/-- 'hoardlaw06.CodeAny': WHATEVER THE INPUT: true; the input reads as it did. -/
def codeAnySpec : ChangeSpec := { name := "codeAny", fn := fun _ => fun
  | [d1, d2, d3, d4] => { results := [.lit (.bool true)], args := [d1, d2, d3, d4] }
  | _ => none }
def codeAnyRow : OpenClaim := { program := "ytjdppgogdilgkaa", sum := "dd2b806fc6d1e6a1f27631fe6c73aa49e547e440433f5a342ae541677f80af45", func := "hoard/hoardlaw06.CodeAny", spec := "codeAny", inPlace := ["internal/abi.NoEscape", "internal/bytealg.MakeNoZero"], unfollowed := true, recurses := true, leaving := true, apart := false }
def CodeAnySaid : Prop := codeAnyRow.holds Try.pinned (OpenSpec.ofChange codeAnySpec)

/-- ITS FALSE NEIGHBOUR: 'it returns false'. Refute it at one input. -/
def codeAnyWrong : ChangeSpec := { name := "codeAny", fn := fun _ => fun
  | [d1, d2, d3, d4] => { results := [.lit (.bool false)], args := [d1, d2, d3, d4] }
  | _ => none }
def CodeAnyWrongFalsely : Prop := codeAnyRow.holds Try.pinned (OpenSpec.ofChange codeAnyWrong)

/-- 'hoardlaw06.CodeLinear': WHATEVER THE INPUT: true; the input reads as it did. -/
def codeLinearSpec : ChangeSpec := { name := "codeLinear", fn := fun _ => fun
  | [d1, d2, d3, d4] => { results := [.lit (.bool true)], args := [d1, d2, d3, d4] }
  | _ => none }
def codeLinearRow : OpenClaim := { program := "ytjdppgogdilgkaa", sum := "dd2b806fc6d1e6a1f27631fe6c73aa49e547e440433f5a342ae541677f80af45", func := "hoard/hoardlaw06.CodeLinear", spec := "codeLinear", inPlace := ["internal/abi.NoEscape", "internal/bytealg.MakeNoZero"], unfollowed := true, recurses := true, leaving := true, apart := false }
def CodeLinearSaid : Prop := codeLinearRow.holds Try.pinned (OpenSpec.ofChange codeLinearSpec)

/-- ITS FALSE NEIGHBOUR: 'it returns false'. Refute it at one input. -/
def codeLinearWrong : ChangeSpec := { name := "codeLinear", fn := fun _ => fun
  | [d1, d2, d3, d4] => { results := [.lit (.bool false)], args := [d1, d2, d3, d4] }
  | _ => none }
def CodeLinearWrongFalsely : Prop := codeLinearRow.holds Try.pinned (OpenSpec.ofChange codeLinearWrong)

/- THE SECOND FORM. 'bulk': how many values and letters a reading holds, each counted each time it is reached (what is shared counts as often as it is met; a slice's spare places count too). A statement '..UptoSaid' is the law's where the arguments, and the package variables that the reading takes, are together of bulk at most 1048576: NARROWER than '..Said'. Prove '..Said' where nothing that the law and all that it calls make is longer than what came in: it says more and counts as full. Else prove '..UptoSaid'. A law counts once. -/
mutual
def uptoBulk {H : Type} : DataW H → Nat
  | .lit (.string bytes) => bytes.length + 1
  | .lit _ => 1
  | .nil => 1
  | .ptr d => uptoBulk d + 1
  | .slice elems spare => uptoBulkAll elems + uptoBulkAll spare + 1
  | .agg parts => uptoBulkAll parts + 1
  | .iface _ d => uptoBulk d + 1
  | .map entries => uptoBulkEntries entries + 1
  | .held _ => 1
def uptoBulkAll {H : Type} : List (DataW H) → Nat
  | [] => 0
  | d :: r => uptoBulk d + uptoBulkAll r
def uptoBulkEntries {H : Type} : List (Lit × DataW H) → Nat
  | [] => 0
  | x :: r => uptoBulkEntry x + uptoBulkEntries r
def uptoBulkEntry {H : Type} : Lit × DataW H → Nat
  | (.string bytes, d) => bytes.length + uptoBulk d + 1
  | (_, d) => uptoBulk d + 1
 end
def uptoSmall : (H : Type) → List (DataW H) → Bool := fun _ ds => decide (uptoBulkAll ds ≤ 1048576)
def OpenSpec.upto (s : _root_.Go.ChangeSpec) : _root_.Go.OpenSpec := { _root_.Go.OpenSpec.ofChange s with cond := some uptoSmall }

/-- 'hoardlaw06.CodeSpreads', WHERE WHAT IT READS IS OF BULK AT MOST 1048576: true; the input reads as it did. -/
def codeSpreadsUptoRow : OpenClaim := { program := "ytjdppgogdilgkaa", sum := "dd2b806fc6d1e6a1f27631fe6c73aa49e547e440433f5a342ae541677f80af45", func := "hoard/hoardlaw06.CodeSpreads", spec := "codeSpreads", inPlace := ["internal/abi.NoEscape", "internal/bytealg.MakeNoZero"], unfollowed := true, recurses := true, leaving := true, apart := false, narrowed := true }
def CodeSpreadsUptoSaid : Prop := codeSpreadsUptoRow.holds Try.pinned (OpenSpec.upto codeSpreadsSpec)

/-- 'hoardlaw06.CodeGathers', WHERE WHAT IT READS IS OF BULK AT MOST 1048576: true; the input reads as it did. -/
def codeGathersUptoRow : OpenClaim := { program := "ytjdppgogdilgkaa", sum := "dd2b806fc6d1e6a1f27631fe6c73aa49e547e440433f5a342ae541677f80af45", func := "hoard/hoardlaw06.CodeGathers", spec := "codeGathers", inPlace := ["internal/abi.NoEscape", "internal/bytealg.MakeNoZero"], unfollowed := true, recurses := true, leaving := true, apart := false, narrowed := true }
def CodeGathersUptoSaid : Prop := codeGathersUptoRow.holds Try.pinned (OpenSpec.upto codeGathersSpec)

/-- 'hoardlaw06.CodeAny', WHERE WHAT IT READS IS OF BULK AT MOST 1048576: true; the input reads as it did. -/
def codeAnyUptoRow : OpenClaim := { program := "ytjdppgogdilgkaa", sum := "dd2b806fc6d1e6a1f27631fe6c73aa49e547e440433f5a342ae541677f80af45", func := "hoard/hoardlaw06.CodeAny", spec := "codeAny", inPlace := ["internal/abi.NoEscape", "internal/bytealg.MakeNoZero"], unfollowed := true, recurses := true, leaving := true, apart := false, narrowed := true }
def CodeAnyUptoSaid : Prop := codeAnyUptoRow.holds Try.pinned (OpenSpec.upto codeAnySpec)

/-- 'hoardlaw06.CodeLinear', WHERE WHAT IT READS IS OF BULK AT MOST 1048576: true; the input reads as it did. -/
def codeLinearUptoRow : OpenClaim := { program := "ytjdppgogdilgkaa", sum := "dd2b806fc6d1e6a1f27631fe6c73aa49e547e440433f5a342ae541677f80af45", func := "hoard/hoardlaw06.CodeLinear", spec := "codeLinear", inPlace := ["internal/abi.NoEscape", "internal/bytealg.MakeNoZero"], unfollowed := true, recurses := true, leaving := true, apart := false, narrowed := true }
def CodeLinearUptoSaid : Prop := codeLinearUptoRow.holds Try.pinned (OpenSpec.upto codeLinearSpec)

end Rows
end Go.Proofs.Ytjdppgogdilgkaa
