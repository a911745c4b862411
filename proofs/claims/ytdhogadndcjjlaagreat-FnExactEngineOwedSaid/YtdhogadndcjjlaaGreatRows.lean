/-
  No cell of these rows narrows 'for every input' (looked for: loops, veiled, ifaces, maps, wideKeys, modest, calm, conditions, laid).
  DERIVED. THE GIVEN ROWS OF THIS SEAT. 4 by the template 'for every input the law returns true; each argument reads behind the call as it read before'; 0 by the template 'total and deterministic' (their statements: YtdhogadndcjjlaaGreatTotals.lean).
  GIVEN WITH THE SEED: the statements are not yours to turn. If you find one false, say at which input.
  Laid BY PROGRAM, IN A SANDBOX (cutbox-rows.mjs): the forced cells as the released guide's own fill.sh prints them over the translation 4339c71080a46c92… (all of the seat's roots in one cut). By AI agents, Wed Nov 11 2026. No macro, syntax, notation, axiom, sorry.
-/
import Derived.Test.YtdhogadndcjjlaaGreatChecked
import GoSem.Claim
import GoSem.ClaimJoined
import GoSem.ClaimMapViews
import Derived.JoinedTies
import Derived.KernelRfl
namespace Go.Proofs.YtdhogadndcjjlaaGreat
/- THE CELL 'sum', in the pinned program and in every row, IS THE sha256 OF THE DUMP (.gsa) THAT YtdhogadndcjjlaaGreatProg.lean LOADS. Nothing in Lean hashes anything: it is a label: what it is worth is what the hold of that sum in a sandbox is worth. -/
noncomputable def Tryz.pinned : Pinned := { name := "ytdhogadndcjjlaagreat", sum := "4339c71080a46c92a62f2ff548d998522b360ca4bef4b63ea0e35ca2d2266213", checked := Tryz.checked }
namespace Rows
def none {H : Type} : Left H := { results := [], args := [] }

/-- 'laws.FnExactEngineRight': WHATEVER THE INPUT: true; the input reads as it did. -/
def fnExactEngineRightSpec : ChangeSpec := { name := "fnExactEngineRight", fn := fun _ => fun
  | [d] => { results := [.lit (.bool true)], args := [d] }
  | _ => none }
def fnExactEngineRightRow : OpenClaim := { program := "ytdhogadndcjjlaagreat", sum := "4339c71080a46c92a62f2ff548d998522b360ca4bef4b63ea0e35ca2d2266213", func := "loop.example/g00271/laws.FnExactEngineRight", spec := "fnExactEngineRight", inPlace := ["internal/bytealg.abigen_runtime_cmpstring", "internal/abi.NoEscape", "internal/bytealg.MakeNoZero"], unfollowed := true, recurses := true, apart := false }
def FnExactEngineRightSaid : Prop := fnExactEngineRightRow.holds Tryz.pinned (OpenSpec.ofChange fnExactEngineRightSpec)

/-- ITS FALSE NEIGHBOUR: 'it returns false'. Refute it at one input. -/
def fnExactEngineRightWrong : ChangeSpec := { name := "fnExactEngineRight", fn := fun _ => fun
  | [d] => { results := [.lit (.bool false)], args := [d] }
  | _ => none }
def FnExactEngineRightWrongFalsely : Prop := fnExactEngineRightRow.holds Tryz.pinned (OpenSpec.ofChange fnExactEngineRightWrong)

/-- 'laws.FnExactEngineIds': WHATEVER THE INPUT: true; the input reads as it did. -/
def fnExactEngineIdsSpec : ChangeSpec := { name := "fnExactEngineIds", fn := fun _ => fun
  | [d] => { results := [.lit (.bool true)], args := [d] }
  | _ => none }
def fnExactEngineIdsRow : OpenClaim := { program := "ytdhogadndcjjlaagreat", sum := "4339c71080a46c92a62f2ff548d998522b360ca4bef4b63ea0e35ca2d2266213", func := "loop.example/g00271/laws.FnExactEngineIds", spec := "fnExactEngineIds", inPlace := ["internal/bytealg.abigen_runtime_cmpstring", "internal/abi.NoEscape", "internal/bytealg.MakeNoZero"], unfollowed := true, recurses := true, apart := false }
def FnExactEngineIdsSaid : Prop := fnExactEngineIdsRow.holds Tryz.pinned (OpenSpec.ofChange fnExactEngineIdsSpec)

/-- ITS FALSE NEIGHBOUR: 'it returns false'. Refute it at one input. -/
def fnExactEngineIdsWrong : ChangeSpec := { name := "fnExactEngineIds", fn := fun _ => fun
  | [d] => { results := [.lit (.bool false)], args := [d] }
  | _ => none }
def FnExactEngineIdsWrongFalsely : Prop := fnExactEngineIdsRow.holds Tryz.pinned (OpenSpec.ofChange fnExactEngineIdsWrong)

/-- 'laws.FnExactEngineOwed': WHATEVER THE INPUT: true; the input reads as it did. -/
def fnExactEngineOwedSpec : ChangeSpec := { name := "fnExactEngineOwed", fn := fun _ => fun
  | [d] => { results := [.lit (.bool true)], args := [d] }
  | _ => none }
def fnExactEngineOwedRow : OpenClaim := { program := "ytdhogadndcjjlaagreat", sum := "4339c71080a46c92a62f2ff548d998522b360ca4bef4b63ea0e35ca2d2266213", func := "loop.example/g00271/laws.FnExactEngineOwed", spec := "fnExactEngineOwed", inPlace := ["internal/bytealg.abigen_runtime_cmpstring", "internal/abi.NoEscape", "internal/bytealg.MakeNoZero"], unfollowed := true, recurses := true, apart := false }
def FnExactEngineOwedSaid : Prop := fnExactEngineOwedRow.holds Tryz.pinned (OpenSpec.ofChange fnExactEngineOwedSpec)

/-- ITS FALSE NEIGHBOUR: 'it returns false'. Refute it at one input. -/
def fnExactEngineOwedWrong : ChangeSpec := { name := "fnExactEngineOwed", fn := fun _ => fun
  | [d] => { results := [.lit (.bool false)], args := [d] }
  | _ => none }
def FnExactEngineOwedWrongFalsely : Prop := fnExactEngineOwedRow.holds Tryz.pinned (OpenSpec.ofChange fnExactEngineOwedWrong)

/-- 'laws.FnExactEngineSaga': WHATEVER THE INPUT: true; the input reads as it did. -/
def fnExactEngineSagaSpec : ChangeSpec := { name := "fnExactEngineSaga", fn := fun _ => fun
  | [d1, d2] => { results := [.lit (.bool true)], args := [d1, d2] }
  | _ => none }
def fnExactEngineSagaRow : OpenClaim := { program := "ytdhogadndcjjlaagreat", sum := "4339c71080a46c92a62f2ff548d998522b360ca4bef4b63ea0e35ca2d2266213", func := "loop.example/g00271/laws.FnExactEngineSaga", spec := "fnExactEngineSaga", inPlace := ["internal/bytealg.abigen_runtime_cmpstring", "internal/abi.NoEscape", "internal/bytealg.MakeNoZero"], unfollowed := true, recurses := true, apart := false }
def FnExactEngineSagaSaid : Prop := fnExactEngineSagaRow.holds Tryz.pinned (OpenSpec.ofChange fnExactEngineSagaSpec)

/-- ITS FALSE NEIGHBOUR: 'it returns false'. Refute it at one input. -/
def fnExactEngineSagaWrong : ChangeSpec := { name := "fnExactEngineSaga", fn := fun _ => fun
  | [d1, d2] => { results := [.lit (.bool false)], args := [d1, d2] }
  | _ => none }
def FnExactEngineSagaWrongFalsely : Prop := fnExactEngineSagaRow.holds Tryz.pinned (OpenSpec.ofChange fnExactEngineSagaWrong)

/- THE SECOND FORM. 'bulk': how many values and letters a reading holds, each counted each time it is reached (what is shared counts as often as it is met; a slice's spare places count too). A statement '..UptoSaid' is the law's where the arguments, and the package variables that the reading takes, are together of bulk at most 1048576: NARROWER than '..Said'. Prove '..Said' where nothing that the law and all that it calls make is longer than what came in: it says more and counts as full. Else prove '..UptoSaid'. A law counts once. -/
mutual
def uptoBulk {H : Type} : DataW H → Nat
  | .lit (.string bytes) => bytes.length + 1
  | .lit _ => 1
  | .nil => 1
  | .ptr d => uptoBulk d + 1
  | .slice elems spare => uptoBulkAll elems + uptoBulkAll spare + 1
  | .agg parts => uptoBulkAll parts + 1
  | .iface _ d => uptoBulk d + 1
  | .map entries => uptoBulkEntries entries + 1
  | .held _ => 1
def uptoBulkAll {H : Type} : List (DataW H) → Nat
  | [] => 0
  | d :: r => uptoBulk d + uptoBulkAll r
def uptoBulkEntries {H : Type} : List (Lit × DataW H) → Nat
  | [] => 0
  | x :: r => uptoBulkEntry x + uptoBulkEntries r
def uptoBulkEntry {H : Type} : Lit × DataW H → Nat
  | (.string bytes, d) => bytes.length + uptoBulk d + 1
  | (_, d) => uptoBulk d + 1
 end
def uptoSmall : (H : Type) → List (DataW H) → Bool := fun _ ds => decide (uptoBulkAll ds ≤ 1048576)
def OpenSpec.upto (s : _root_.Go.ChangeSpec) : _root_.Go.OpenSpec := { _root_.Go.OpenSpec.ofChange s with cond := some uptoSmall }

/-- 'laws.FnExactEngineRight', WHERE WHAT IT READS IS OF BULK AT MOST 1048576: true; the input reads as it did. -/
def fnExactEngineRightUptoRow : OpenClaim := { program := "ytdhogadndcjjlaagreat", sum := "4339c71080a46c92a62f2ff548d998522b360ca4bef4b63ea0e35ca2d2266213", func := "loop.example/g00271/laws.FnExactEngineRight", spec := "fnExactEngineRight", inPlace := ["internal/bytealg.abigen_runtime_cmpstring", "internal/abi.NoEscape", "internal/bytealg.MakeNoZero"], unfollowed := true, recurses := true, apart := false, narrowed := true }
def FnExactEngineRightUptoSaid : Prop := fnExactEngineRightUptoRow.holds Tryz.pinned (OpenSpec.upto fnExactEngineRightSpec)

/-- 'laws.FnExactEngineIds', WHERE WHAT IT READS IS OF BULK AT MOST 1048576: true; the input reads as it did. -/
def fnExactEngineIdsUptoRow : OpenClaim := { program := "ytdhogadndcjjlaagreat", sum := "4339c71080a46c92a62f2ff548d998522b360ca4bef4b63ea0e35ca2d2266213", func := "loop.example/g00271/laws.FnExactEngineIds", spec := "fnExactEngineIds", inPlace := ["internal/bytealg.abigen_runtime_cmpstring", "internal/abi.NoEscape", "internal/bytealg.MakeNoZero"], unfollowed := true, recurses := true, apart := false, narrowed := true }
def FnExactEngineIdsUptoSaid : Prop := fnExactEngineIdsUptoRow.holds Tryz.pinned (OpenSpec.upto fnExactEngineIdsSpec)

/-- 'laws.FnExactEngineOwed', WHERE WHAT IT READS IS OF BULK AT MOST 1048576: true; the input reads as it did. -/
def fnExactEngineOwedUptoRow : OpenClaim := { program := "ytdhogadndcjjlaagreat", sum := "4339c71080a46c92a62f2ff548d998522b360ca4bef4b63ea0e35ca2d2266213", func := "loop.example/g00271/laws.FnExactEngineOwed", spec := "fnExactEngineOwed", inPlace := ["internal/bytealg.abigen_runtime_cmpstring", "internal/abi.NoEscape", "internal/bytealg.MakeNoZero"], unfollowed := true, recurses := true, apart := false, narrowed := true }
def FnExactEngineOwedUptoSaid : Prop := fnExactEngineOwedUptoRow.holds Tryz.pinned (OpenSpec.upto fnExactEngineOwedSpec)

/-- 'laws.FnExactEngineSaga', WHERE WHAT IT READS IS OF BULK AT MOST 1048576: true; the input reads as it did. -/
def fnExactEngineSagaUptoRow : OpenClaim := { program := "ytdhogadndcjjlaagreat", sum := "4339c71080a46c92a62f2ff548d998522b360ca4bef4b63ea0e35ca2d2266213", func := "loop.example/g00271/laws.FnExactEngineSaga", spec := "fnExactEngineSaga", inPlace := ["internal/bytealg.abigen_runtime_cmpstring", "internal/abi.NoEscape", "internal/bytealg.MakeNoZero"], unfollowed := true, recurses := true, apart := false, narrowed := true }
def FnExactEngineSagaUptoSaid : Prop := fnExactEngineSagaUptoRow.holds Tryz.pinned (OpenSpec.upto fnExactEngineSagaSpec)

end Rows
end Go.Proofs.YtdhogadndcjjlaaGreat
