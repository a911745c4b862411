/-
  No cell of these rows narrows 'for every input' (looked for: loops, veiled, ifaces, maps, wideKeys, modest, calm, conditions, laid).
  DERIVED. THE GIVEN ROWS OF THIS SEAT. 6 by the template 'for every input the law returns true; each argument reads behind the call as it read before'; 0 by the template 'total and deterministic' (their statements: YthkpoggeldnadaaTotals.lean).
  GIVEN WITH THE SEED: the statements are not yours to turn. If you find one false, say at which input.
  Laid BY PROGRAM, IN A SANDBOX (cutbox-rows.mjs): the forced cells as the released guide's own fill.sh prints them over the translation 81fcec57d5e30201… (all of the seat's roots in one cut). By AI agents, Wed Nov 11 2026. No macro, syntax, notation, axiom, sorry.
-/
import Derived.Test.YthkpoggeldnadaaChecked
import GoSem.Claim
import GoSem.ClaimJoined
import GoSem.ClaimMapViews
import Derived.JoinedTies
import Derived.KernelRfl
namespace Go.Proofs.Ythkpoggeldnadaa
/- THE CELL 'sum', in the pinned program and in every row, IS THE sha256 OF THE DUMP (.gsa) THAT YthkpoggeldnadaaProg.lean LOADS. Nothing in Lean hashes anything: it is a label: what it is worth is what the hold of that sum in a sandbox is worth. -/
noncomputable def Try.pinned : Pinned := { name := "ythkpoggeldnadaa", sum := "81fcec57d5e30201f694099510c879ee569123b7e347456992bf7e274564b9e8", checked := Try.checked }
namespace Rows
def none {H : Type} : Left H := { results := [], args := [] }

/-- 'laws.FnExactSagaOver': WHATEVER THE INPUT: true; the input reads as it did. -/
def fnExactSagaOverSpec : ChangeSpec := { name := "fnExactSagaOver", fn := fun _ => fun
  | [d] => { results := [.lit (.bool true)], args := [d] }
  | _ => none }
def fnExactSagaOverRow : OpenClaim := { program := "ythkpoggeldnadaa", sum := "81fcec57d5e30201f694099510c879ee569123b7e347456992bf7e274564b9e8", func := "loop.example/g00271/laws.FnExactSagaOver", spec := "fnExactSagaOver", apart := false }
def FnExactSagaOverSaid : Prop := fnExactSagaOverRow.holds Try.pinned (OpenSpec.ofChange fnExactSagaOverSpec)

/-- ITS FALSE NEIGHBOUR: 'it returns false'. Refute it at one input. -/
def fnExactSagaOverWrong : ChangeSpec := { name := "fnExactSagaOver", fn := fun _ => fun
  | [d] => { results := [.lit (.bool false)], args := [d] }
  | _ => none }
def FnExactSagaOverWrongFalsely : Prop := fnExactSagaOverRow.holds Try.pinned (OpenSpec.ofChange fnExactSagaOverWrong)

/-- 'laws.FnExactDeskWords': WHATEVER THE INPUT: true; the input reads as it did. -/
def fnExactDeskWordsSpec : ChangeSpec := { name := "fnExactDeskWords", fn := fun _ => fun
  | [] => { results := [.lit (.bool true)], args := [] }
  | _ => none }
def fnExactDeskWordsRow : OpenClaim := { program := "ythkpoggeldnadaa", sum := "81fcec57d5e30201f694099510c879ee569123b7e347456992bf7e274564b9e8", func := "loop.example/g00271/laws.FnExactDeskWords", spec := "fnExactDeskWords", apart := false }
def FnExactDeskWordsSaid : Prop := fnExactDeskWordsRow.holds Try.pinned (OpenSpec.ofChange fnExactDeskWordsSpec)

/-- ITS FALSE NEIGHBOUR: 'it returns false'. Refute it at one input. -/
def fnExactDeskWordsWrong : ChangeSpec := { name := "fnExactDeskWords", fn := fun _ => fun
  | [] => { results := [.lit (.bool false)], args := [] }
  | _ => none }
def FnExactDeskWordsWrongFalsely : Prop := fnExactDeskWordsRow.holds Try.pinned (OpenSpec.ofChange fnExactDeskWordsWrong)

/-- 'laws.FnExactWait': WHATEVER THE INPUT: true; the input reads as it did. -/
def fnExactWaitSpec : ChangeSpec := { name := "fnExactWait", fn := fun _ => fun
  | [d1, d2] => { results := [.lit (.bool true)], args := [d1, d2] }
  | _ => none }
def fnExactWaitRow : OpenClaim := { program := "ythkpoggeldnadaa", sum := "81fcec57d5e30201f694099510c879ee569123b7e347456992bf7e274564b9e8", func := "loop.example/g00271/laws.FnExactWait", spec := "fnExactWait", apart := false }
def FnExactWaitSaid : Prop := fnExactWaitRow.holds Try.pinned (OpenSpec.ofChange fnExactWaitSpec)

/-- ITS FALSE NEIGHBOUR: 'it returns false'. Refute it at one input. -/
def fnExactWaitWrong : ChangeSpec := { name := "fnExactWait", fn := fun _ => fun
  | [d1, d2] => { results := [.lit (.bool false)], args := [d1, d2] }
  | _ => none }
def FnExactWaitWrongFalsely : Prop := fnExactWaitRow.holds Try.pinned (OpenSpec.ofChange fnExactWaitWrong)

/-- 'laws.FnExactTruth': WHATEVER THE INPUT: true; the input reads as it did. -/
def fnExactTruthSpec : ChangeSpec := { name := "fnExactTruth", fn := fun _ => fun
  | [d1, d2, d3] => { results := [.lit (.bool true)], args := [d1, d2, d3] }
  | _ => none }
def fnExactTruthRow : OpenClaim := { program := "ythkpoggeldnadaa", sum := "81fcec57d5e30201f694099510c879ee569123b7e347456992bf7e274564b9e8", func := "loop.example/g00271/laws.FnExactTruth", spec := "fnExactTruth", inPlace := ["internal/bytealg.abigen_runtime_cmpstring"], apart := false }
def FnExactTruthSaid : Prop := fnExactTruthRow.holds Try.pinned (OpenSpec.ofChange fnExactTruthSpec)

/-- ITS FALSE NEIGHBOUR: 'it returns false'. Refute it at one input. -/
def fnExactTruthWrong : ChangeSpec := { name := "fnExactTruth", fn := fun _ => fun
  | [d1, d2, d3] => { results := [.lit (.bool false)], args := [d1, d2, d3] }
  | _ => none }
def FnExactTruthWrongFalsely : Prop := fnExactTruthRow.holds Try.pinned (OpenSpec.ofChange fnExactTruthWrong)

/-- 'laws.FnExactDefRight': WHATEVER THE INPUT: true; the input reads as it did. -/
def fnExactDefRightSpec : ChangeSpec := { name := "fnExactDefRight", fn := fun _ => fun
  | [d] => { results := [.lit (.bool true)], args := [d] }
  | _ => none }
def fnExactDefRightRow : OpenClaim := { program := "ythkpoggeldnadaa", sum := "81fcec57d5e30201f694099510c879ee569123b7e347456992bf7e274564b9e8", func := "loop.example/g00271/laws.FnExactDefRight", spec := "fnExactDefRight", unfollowed := true, recurses := true, apart := false }
def FnExactDefRightSaid : Prop := fnExactDefRightRow.holds Try.pinned (OpenSpec.ofChange fnExactDefRightSpec)

/-- ITS FALSE NEIGHBOUR: 'it returns false'. Refute it at one input. -/
def fnExactDefRightWrong : ChangeSpec := { name := "fnExactDefRight", fn := fun _ => fun
  | [d] => { results := [.lit (.bool false)], args := [d] }
  | _ => none }
def FnExactDefRightWrongFalsely : Prop := fnExactDefRightRow.holds Try.pinned (OpenSpec.ofChange fnExactDefRightWrong)

/-- 'laws.FnExactSagaRight': WHATEVER THE INPUT: true; the input reads as it did. -/
def fnExactSagaRightSpec : ChangeSpec := { name := "fnExactSagaRight", fn := fun _ => fun
  | [d1, d2] => { results := [.lit (.bool true)], args := [d1, d2] }
  | _ => none }
def fnExactSagaRightRow : OpenClaim := { program := "ythkpoggeldnadaa", sum := "81fcec57d5e30201f694099510c879ee569123b7e347456992bf7e274564b9e8", func := "loop.example/g00271/laws.FnExactSagaRight", spec := "fnExactSagaRight", unfollowed := true, recurses := true, apart := false }
def FnExactSagaRightSaid : Prop := fnExactSagaRightRow.holds Try.pinned (OpenSpec.ofChange fnExactSagaRightSpec)

/-- ITS FALSE NEIGHBOUR: 'it returns false'. Refute it at one input. -/
def fnExactSagaRightWrong : ChangeSpec := { name := "fnExactSagaRight", fn := fun _ => fun
  | [d1, d2] => { results := [.lit (.bool false)], args := [d1, d2] }
  | _ => none }
def FnExactSagaRightWrongFalsely : Prop := fnExactSagaRightRow.holds Try.pinned (OpenSpec.ofChange fnExactSagaRightWrong)

/- THE SECOND FORM. 'bulk': how many values and letters a reading holds, each counted each time it is reached (what is shared counts as often as it is met; a slice's spare places count too). A statement '..UptoSaid' is the law's where the arguments, and the package variables that the reading takes, are together of bulk at most 1048576: NARROWER than '..Said'. Prove '..Said' where nothing that the law and all that it calls make is longer than what came in: it says more and counts as full. Else prove '..UptoSaid'. A law counts once. -/
mutual
def uptoBulk {H : Type} : DataW H → Nat
  | .lit (.string bytes) => bytes.length + 1
  | .lit _ => 1
  | .nil => 1
  | .ptr d => uptoBulk d + 1
  | .slice elems spare => uptoBulkAll elems + uptoBulkAll spare + 1
  | .agg parts => uptoBulkAll parts + 1
  | .iface _ d => uptoBulk d + 1
  | .map entries => uptoBulkEntries entries + 1
  | .held _ => 1
def uptoBulkAll {H : Type} : List (DataW H) → Nat
  | [] => 0
  | d :: r => uptoBulk d + uptoBulkAll r
def uptoBulkEntries {H : Type} : List (Lit × DataW H) → Nat
  | [] => 0
  | x :: r => uptoBulkEntry x + uptoBulkEntries r
def uptoBulkEntry {H : Type} : Lit × DataW H → Nat
  | (.string bytes, d) => bytes.length + uptoBulk d + 1
  | (_, d) => uptoBulk d + 1
 end
def uptoSmall : (H : Type) → List (DataW H) → Bool := fun _ ds => decide (uptoBulkAll ds ≤ 1048576)
def OpenSpec.upto (s : _root_.Go.ChangeSpec) : _root_.Go.OpenSpec := { _root_.Go.OpenSpec.ofChange s with cond := some uptoSmall }

/-- 'laws.FnExactSagaOver', WHERE WHAT IT READS IS OF BULK AT MOST 1048576: true; the input reads as it did. -/
def fnExactSagaOverUptoRow : OpenClaim := { program := "ythkpoggeldnadaa", sum := "81fcec57d5e30201f694099510c879ee569123b7e347456992bf7e274564b9e8", func := "loop.example/g00271/laws.FnExactSagaOver", spec := "fnExactSagaOver", apart := false, narrowed := true }
def FnExactSagaOverUptoSaid : Prop := fnExactSagaOverUptoRow.holds Try.pinned (OpenSpec.upto fnExactSagaOverSpec)

/-- 'laws.FnExactDeskWords', WHERE WHAT IT READS IS OF BULK AT MOST 1048576: true; the input reads as it did. -/
def fnExactDeskWordsUptoRow : OpenClaim := { program := "ythkpoggeldnadaa", sum := "81fcec57d5e30201f694099510c879ee569123b7e347456992bf7e274564b9e8", func := "loop.example/g00271/laws.FnExactDeskWords", spec := "fnExactDeskWords", apart := false, narrowed := true }
def FnExactDeskWordsUptoSaid : Prop := fnExactDeskWordsUptoRow.holds Try.pinned (OpenSpec.upto fnExactDeskWordsSpec)

/-- 'laws.FnExactWait', WHERE WHAT IT READS IS OF BULK AT MOST 1048576: true; the input reads as it did. -/
def fnExactWaitUptoRow : OpenClaim := { program := "ythkpoggeldnadaa", sum := "81fcec57d5e30201f694099510c879ee569123b7e347456992bf7e274564b9e8", func := "loop.example/g00271/laws.FnExactWait", spec := "fnExactWait", apart := false, narrowed := true }
def FnExactWaitUptoSaid : Prop := fnExactWaitUptoRow.holds Try.pinned (OpenSpec.upto fnExactWaitSpec)

/-- 'laws.FnExactTruth', WHERE WHAT IT READS IS OF BULK AT MOST 1048576: true; the input reads as it did. -/
def fnExactTruthUptoRow : OpenClaim := { program := "ythkpoggeldnadaa", sum := "81fcec57d5e30201f694099510c879ee569123b7e347456992bf7e274564b9e8", func := "loop.example/g00271/laws.FnExactTruth", spec := "fnExactTruth", inPlace := ["internal/bytealg.abigen_runtime_cmpstring"], apart := false, narrowed := true }
def FnExactTruthUptoSaid : Prop := fnExactTruthUptoRow.holds Try.pinned (OpenSpec.upto fnExactTruthSpec)

/-- 'laws.FnExactDefRight', WHERE WHAT IT READS IS OF BULK AT MOST 1048576: true; the input reads as it did. -/
def fnExactDefRightUptoRow : OpenClaim := { program := "ythkpoggeldnadaa", sum := "81fcec57d5e30201f694099510c879ee569123b7e347456992bf7e274564b9e8", func := "loop.example/g00271/laws.FnExactDefRight", spec := "fnExactDefRight", unfollowed := true, recurses := true, apart := false, narrowed := true }
def FnExactDefRightUptoSaid : Prop := fnExactDefRightUptoRow.holds Try.pinned (OpenSpec.upto fnExactDefRightSpec)

/-- 'laws.FnExactSagaRight', WHERE WHAT IT READS IS OF BULK AT MOST 1048576: true; the input reads as it did. -/
def fnExactSagaRightUptoRow : OpenClaim := { program := "ythkpoggeldnadaa", sum := "81fcec57d5e30201f694099510c879ee569123b7e347456992bf7e274564b9e8", func := "loop.example/g00271/laws.FnExactSagaRight", spec := "fnExactSagaRight", unfollowed := true, recurses := true, apart := false, narrowed := true }
def FnExactSagaRightUptoSaid : Prop := fnExactSagaRightUptoRow.holds Try.pinned (OpenSpec.upto fnExactSagaRightSpec)

end Rows
end Go.Proofs.Ythkpoggeldnadaa
