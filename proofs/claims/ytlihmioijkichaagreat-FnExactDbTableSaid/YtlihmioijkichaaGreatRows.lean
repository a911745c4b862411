/-
  No cell of these rows narrows 'for every input' (looked for: loops, veiled, ifaces, maps, wideKeys, modest, calm, conditions, laid).
  DERIVED. THE GIVEN ROWS OF THIS SEAT. 6 by the template 'for every input the law returns true; each argument reads behind the call as it read before'; 0 by the template 'total and deterministic' (their statements: YtlihmioijkichaaGreatTotals.lean).
  GIVEN WITH THE SEED: the statements are not yours to turn. If you find one false, say at which input.
  Laid BY PROGRAM, IN A SANDBOX (cutbox-rows.mjs): the forced cells as the released guide's own fill.sh prints them over the translation d4f29f077f620812… (all of the seat's roots in one cut). By AI agents, Wed Nov 11 2026. No macro, syntax, notation, axiom, sorry.
-/
import Derived.Test.YtlihmioijkichaaGreatChecked
import GoSem.Claim
import GoSem.ClaimJoined
import GoSem.ClaimMapViews
import Derived.JoinedTies
import Derived.KernelRfl
namespace Go.Proofs.YtlihmioijkichaaGreat
/- THE CELL 'sum', in the pinned program and in every row, IS THE sha256 OF THE DUMP (.gsa) THAT YtlihmioijkichaaGreatProg.lean LOADS. Nothing in Lean hashes anything: it is a label: what it is worth is what the hold of that sum in a sandbox is worth. -/
noncomputable def Tryz.pinned : Pinned := { name := "ytlihmioijkichaagreat", sum := "d4f29f077f6208121c63591b8e6c9e3c47093f93226375be82abe2e465385bb9", checked := Tryz.checked }
namespace Rows
def none {H : Type} : Left H := { results := [], args := [] }

/-- 'laws.FnExactDbTable': WHATEVER THE INPUT: true; the input reads as it did. -/
def fnExactDbTableSpec : ChangeSpec := { name := "fnExactDbTable", fn := fun _ => fun
  | [d1, d2] => { results := [.lit (.bool true)], args := [d1, d2] }
  | _ => none }
def fnExactDbTableRow : OpenClaim := { program := "ytlihmioijkichaagreat", sum := "d4f29f077f6208121c63591b8e6c9e3c47093f93226375be82abe2e465385bb9", func := "loop.example/g00271/laws.FnExactDbTable", spec := "fnExactDbTable", inPlace := ["internal/bytealg.abigen_runtime_cmpstring"], unfollowed := true, recurses := true, apart := false }
def FnExactDbTableSaid : Prop := fnExactDbTableRow.holds Tryz.pinned (OpenSpec.ofChange fnExactDbTableSpec)

/-- ITS FALSE NEIGHBOUR: 'it returns false'. Refute it at one input. -/
def fnExactDbTableWrong : ChangeSpec := { name := "fnExactDbTable", fn := fun _ => fun
  | [d1, d2] => { results := [.lit (.bool false)], args := [d1, d2] }
  | _ => none }
def FnExactDbTableWrongFalsely : Prop := fnExactDbTableRow.holds Tryz.pinned (OpenSpec.ofChange fnExactDbTableWrong)

/-- 'laws.FnExactDbRead': WHATEVER THE INPUT: true; the input reads as it did. -/
def fnExactDbReadSpec : ChangeSpec := { name := "fnExactDbRead", fn := fun _ => fun
  | [d] => { results := [.lit (.bool true)], args := [d] }
  | _ => none }
def fnExactDbReadRow : OpenClaim := { program := "ytlihmioijkichaagreat", sum := "d4f29f077f6208121c63591b8e6c9e3c47093f93226375be82abe2e465385bb9", func := "loop.example/g00271/laws.FnExactDbRead", spec := "fnExactDbRead", inPlace := ["internal/bytealg.abigen_runtime_cmpstring"], unfollowed := true, recurses := true, apart := false }
def FnExactDbReadSaid : Prop := fnExactDbReadRow.holds Tryz.pinned (OpenSpec.ofChange fnExactDbReadSpec)

/-- ITS FALSE NEIGHBOUR: 'it returns false'. Refute it at one input. -/
def fnExactDbReadWrong : ChangeSpec := { name := "fnExactDbRead", fn := fun _ => fun
  | [d] => { results := [.lit (.bool false)], args := [d] }
  | _ => none }
def FnExactDbReadWrongFalsely : Prop := fnExactDbReadRow.holds Tryz.pinned (OpenSpec.ofChange fnExactDbReadWrong)

/-- 'laws.FnExactQueryCheck': WHATEVER THE INPUT: true; the input reads as it did. -/
def fnExactQueryCheckSpec : ChangeSpec := { name := "fnExactQueryCheck", fn := fun _ => fun
  | [d1, d2] => { results := [.lit (.bool true)], args := [d1, d2] }
  | _ => none }
def fnExactQueryCheckRow : OpenClaim := { program := "ytlihmioijkichaagreat", sum := "d4f29f077f6208121c63591b8e6c9e3c47093f93226375be82abe2e465385bb9", func := "loop.example/g00271/laws.FnExactQueryCheck", spec := "fnExactQueryCheck", inPlace := ["internal/bytealg.abigen_runtime_cmpstring", "internal/bytealg.IndexByteString", "internal/bytealg.IndexString"], unfollowed := true, recurses := true, named := ["internal/bytealg.MaxLen"], apart := false }
def FnExactQueryCheckSaid : Prop := fnExactQueryCheckRow.holds Tryz.pinned (OpenSpec.ofChange fnExactQueryCheckSpec)

/-- ITS FALSE NEIGHBOUR: 'it returns false'. Refute it at one input. -/
def fnExactQueryCheckWrong : ChangeSpec := { name := "fnExactQueryCheck", fn := fun _ => fun
  | [d1, d2] => { results := [.lit (.bool false)], args := [d1, d2] }
  | _ => none }
def FnExactQueryCheckWrongFalsely : Prop := fnExactQueryCheckRow.holds Tryz.pinned (OpenSpec.ofChange fnExactQueryCheckWrong)

/-- 'laws.FnExactDbTx': WHATEVER THE INPUT: true; the input reads as it did. -/
def fnExactDbTxSpec : ChangeSpec := { name := "fnExactDbTx", fn := fun _ => fun
  | [d1, d2] => { results := [.lit (.bool true)], args := [d1, d2] }
  | _ => none }
def fnExactDbTxRow : OpenClaim := { program := "ytlihmioijkichaagreat", sum := "d4f29f077f6208121c63591b8e6c9e3c47093f93226375be82abe2e465385bb9", func := "loop.example/g00271/laws.FnExactDbTx", spec := "fnExactDbTx", inPlace := ["internal/bytealg.abigen_runtime_cmpstring", "slices.overlaps[loop.example/g00271/impl.Table]", "slices.overlaps[[]loop.example/g00271/impl.Value]"], unfollowed := true, recurses := true, apart := false }
def FnExactDbTxSaid : Prop := fnExactDbTxRow.holds Tryz.pinned (OpenSpec.ofChange fnExactDbTxSpec)

/-- ITS FALSE NEIGHBOUR: 'it returns false'. Refute it at one input. -/
def fnExactDbTxWrong : ChangeSpec := { name := "fnExactDbTx", fn := fun _ => fun
  | [d1, d2] => { results := [.lit (.bool false)], args := [d1, d2] }
  | _ => none }
def FnExactDbTxWrongFalsely : Prop := fnExactDbTxRow.holds Tryz.pinned (OpenSpec.ofChange fnExactDbTxWrong)

/-- 'laws.FnExactQueryRun': WHATEVER THE INPUT: true; the input reads as it did. -/
def fnExactQueryRunSpec : ChangeSpec := { name := "fnExactQueryRun", fn := fun _ => fun
  | [d1, d2] => { results := [.lit (.bool true)], args := [d1, d2] }
  | _ => none }
def fnExactQueryRunRow : OpenClaim := { program := "ytlihmioijkichaagreat", sum := "d4f29f077f6208121c63591b8e6c9e3c47093f93226375be82abe2e465385bb9", func := "loop.example/g00271/laws.FnExactQueryRun", spec := "fnExactQueryRun", inPlace := ["internal/bytealg.abigen_runtime_cmpstring", "internal/bytealg.IndexByteString", "internal/bytealg.IndexString"], unfollowed := true, recurses := true, named := ["internal/bytealg.MaxLen"], apart := false }
def FnExactQueryRunSaid : Prop := fnExactQueryRunRow.holds Tryz.pinned (OpenSpec.ofChange fnExactQueryRunSpec)

/-- ITS FALSE NEIGHBOUR: 'it returns false'. Refute it at one input. -/
def fnExactQueryRunWrong : ChangeSpec := { name := "fnExactQueryRun", fn := fun _ => fun
  | [d1, d2] => { results := [.lit (.bool false)], args := [d1, d2] }
  | _ => none }
def FnExactQueryRunWrongFalsely : Prop := fnExactQueryRunRow.holds Tryz.pinned (OpenSpec.ofChange fnExactQueryRunWrong)

/-- 'laws.FnExactQueryByIndex': WHATEVER THE INPUT: true; the input reads as it did. -/
def fnExactQueryByIndexSpec : ChangeSpec := { name := "fnExactQueryByIndex", fn := fun _ => fun
  | [d1, d2] => { results := [.lit (.bool true)], args := [d1, d2] }
  | _ => none }
def fnExactQueryByIndexRow : OpenClaim := { program := "ytlihmioijkichaagreat", sum := "d4f29f077f6208121c63591b8e6c9e3c47093f93226375be82abe2e465385bb9", func := "loop.example/g00271/laws.FnExactQueryByIndex", spec := "fnExactQueryByIndex", inPlace := ["internal/bytealg.abigen_runtime_cmpstring", "internal/bytealg.IndexByteString", "internal/bytealg.IndexString"], unfollowed := true, recurses := true, named := ["internal/bytealg.MaxLen"], apart := false }
def FnExactQueryByIndexSaid : Prop := fnExactQueryByIndexRow.holds Tryz.pinned (OpenSpec.ofChange fnExactQueryByIndexSpec)

/-- ITS FALSE NEIGHBOUR: 'it returns false'. Refute it at one input. -/
def fnExactQueryByIndexWrong : ChangeSpec := { name := "fnExactQueryByIndex", fn := fun _ => fun
  | [d1, d2] => { results := [.lit (.bool false)], args := [d1, d2] }
  | _ => none }
def FnExactQueryByIndexWrongFalsely : Prop := fnExactQueryByIndexRow.holds Tryz.pinned (OpenSpec.ofChange fnExactQueryByIndexWrong)

/- THE SECOND FORM. 'bulk': how many values and letters a reading holds, each counted each time it is reached (what is shared counts as often as it is met; a slice's spare places count too). A statement '..UptoSaid' is the law's where the arguments, and the package variables that the reading takes, are together of bulk at most 1048576: NARROWER than '..Said'. Prove '..Said' where nothing that the law and all that it calls make is longer than what came in: it says more and counts as full. Else prove '..UptoSaid'. A law counts once. -/
mutual
def uptoBulk {H : Type} : DataW H → Nat
  | .lit (.string bytes) => bytes.length + 1
  | .lit _ => 1
  | .nil => 1
  | .ptr d => uptoBulk d + 1
  | .slice elems spare => uptoBulkAll elems + uptoBulkAll spare + 1
  | .agg parts => uptoBulkAll parts + 1
  | .iface _ d => uptoBulk d + 1
  | .map entries => uptoBulkEntries entries + 1
  | .held _ => 1
def uptoBulkAll {H : Type} : List (DataW H) → Nat
  | [] => 0
  | d :: r => uptoBulk d + uptoBulkAll r
def uptoBulkEntries {H : Type} : List (Lit × DataW H) → Nat
  | [] => 0
  | x :: r => uptoBulkEntry x + uptoBulkEntries r
def uptoBulkEntry {H : Type} : Lit × DataW H → Nat
  | (.string bytes, d) => bytes.length + uptoBulk d + 1
  | (_, d) => uptoBulk d + 1
 end
def uptoSmall : (H : Type) → List (DataW H) → Bool := fun _ ds => decide (uptoBulkAll ds ≤ 1048576)
def OpenSpec.upto (s : _root_.Go.ChangeSpec) : _root_.Go.OpenSpec := { _root_.Go.OpenSpec.ofChange s with cond := some uptoSmall }

/-- 'laws.FnExactDbTable', WHERE WHAT IT READS IS OF BULK AT MOST 1048576: true; the input reads as it did. -/
def fnExactDbTableUptoRow : OpenClaim := { program := "ytlihmioijkichaagreat", sum := "d4f29f077f6208121c63591b8e6c9e3c47093f93226375be82abe2e465385bb9", func := "loop.example/g00271/laws.FnExactDbTable", spec := "fnExactDbTable", inPlace := ["internal/bytealg.abigen_runtime_cmpstring"], unfollowed := true, recurses := true, apart := false, narrowed := true }
def FnExactDbTableUptoSaid : Prop := fnExactDbTableUptoRow.holds Tryz.pinned (OpenSpec.upto fnExactDbTableSpec)

/-- 'laws.FnExactDbRead', WHERE WHAT IT READS IS OF BULK AT MOST 1048576: true; the input reads as it did. -/
def fnExactDbReadUptoRow : OpenClaim := { program := "ytlihmioijkichaagreat", sum := "d4f29f077f6208121c63591b8e6c9e3c47093f93226375be82abe2e465385bb9", func := "loop.example/g00271/laws.FnExactDbRead", spec := "fnExactDbRead", inPlace := ["internal/bytealg.abigen_runtime_cmpstring"], unfollowed := true, recurses := true, apart := false, narrowed := true }
def FnExactDbReadUptoSaid : Prop := fnExactDbReadUptoRow.holds Tryz.pinned (OpenSpec.upto fnExactDbReadSpec)

/-- 'laws.FnExactQueryCheck', WHERE WHAT IT READS IS OF BULK AT MOST 1048576: true; the input reads as it did. -/
def fnExactQueryCheckUptoRow : OpenClaim := { program := "ytlihmioijkichaagreat", sum := "d4f29f077f6208121c63591b8e6c9e3c47093f93226375be82abe2e465385bb9", func := "loop.example/g00271/laws.FnExactQueryCheck", spec := "fnExactQueryCheck", inPlace := ["internal/bytealg.abigen_runtime_cmpstring", "internal/bytealg.IndexByteString", "internal/bytealg.IndexString"], unfollowed := true, recurses := true, named := ["internal/bytealg.MaxLen"], apart := false, narrowed := true }
def FnExactQueryCheckUptoSaid : Prop := fnExactQueryCheckUptoRow.holds Tryz.pinned (OpenSpec.upto fnExactQueryCheckSpec)

/-- 'laws.FnExactDbTx', WHERE WHAT IT READS IS OF BULK AT MOST 1048576: true; the input reads as it did. -/
def fnExactDbTxUptoRow : OpenClaim := { program := "ytlihmioijkichaagreat", sum := "d4f29f077f6208121c63591b8e6c9e3c47093f93226375be82abe2e465385bb9", func := "loop.example/g00271/laws.FnExactDbTx", spec := "fnExactDbTx", inPlace := ["internal/bytealg.abigen_runtime_cmpstring", "slices.overlaps[loop.example/g00271/impl.Table]", "slices.overlaps[[]loop.example/g00271/impl.Value]"], unfollowed := true, recurses := true, apart := false, narrowed := true }
def FnExactDbTxUptoSaid : Prop := fnExactDbTxUptoRow.holds Tryz.pinned (OpenSpec.upto fnExactDbTxSpec)

/-- 'laws.FnExactQueryRun', WHERE WHAT IT READS IS OF BULK AT MOST 1048576: true; the input reads as it did. -/
def fnExactQueryRunUptoRow : OpenClaim := { program := "ytlihmioijkichaagreat", sum := "d4f29f077f6208121c63591b8e6c9e3c47093f93226375be82abe2e465385bb9", func := "loop.example/g00271/laws.FnExactQueryRun", spec := "fnExactQueryRun", inPlace := ["internal/bytealg.abigen_runtime_cmpstring", "internal/bytealg.IndexByteString", "internal/bytealg.IndexString"], unfollowed := true, recurses := true, named := ["internal/bytealg.MaxLen"], apart := false, narrowed := true }
def FnExactQueryRunUptoSaid : Prop := fnExactQueryRunUptoRow.holds Tryz.pinned (OpenSpec.upto fnExactQueryRunSpec)

/-- 'laws.FnExactQueryByIndex', WHERE WHAT IT READS IS OF BULK AT MOST 1048576: true; the input reads as it did. -/
def fnExactQueryByIndexUptoRow : OpenClaim := { program := "ytlihmioijkichaagreat", sum := "d4f29f077f6208121c63591b8e6c9e3c47093f93226375be82abe2e465385bb9", func := "loop.example/g00271/laws.FnExactQueryByIndex", spec := "fnExactQueryByIndex", inPlace := ["internal/bytealg.abigen_runtime_cmpstring", "internal/bytealg.IndexByteString", "internal/bytealg.IndexString"], unfollowed := true, recurses := true, named := ["internal/bytealg.MaxLen"], apart := false, narrowed := true }
def FnExactQueryByIndexUptoSaid : Prop := fnExactQueryByIndexUptoRow.holds Tryz.pinned (OpenSpec.upto fnExactQueryByIndexSpec)

end Rows
end Go.Proofs.YtlihmioijkichaaGreat
