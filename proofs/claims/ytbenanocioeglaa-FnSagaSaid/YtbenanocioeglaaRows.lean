/-
  No cell of these rows narrows 'for every input' (looked for: loops, veiled, ifaces, maps, wideKeys, modest, calm, conditions, laid).
  DERIVED. THE GIVEN ROWS OF THIS SEAT. 10 by the template 'for every input the law returns true; each argument reads behind the call as it read before'; 0 by the template 'total and deterministic' (their statements: YtbenanocioeglaaTotals.lean).
  GIVEN WITH THE SEED: the statements are not yours to turn. If you find one false, say at which input.
  Laid BY PROGRAM, IN A SANDBOX (cutbox-rows.mjs): the forced cells as the released guide's own fill.sh prints them over the translation 0250922c224cc8d8… (all of the seat's roots in one cut). By AI agents, Wed Nov 11 2026. No macro, syntax, notation, axiom, sorry.
-/
import Derived.Test.YtbenanocioeglaaChecked
import GoSem.Claim
import GoSem.ClaimJoined
import GoSem.ClaimMapViews
import Derived.JoinedTies
import Derived.KernelRfl
namespace Go.Proofs.Ytbenanocioeglaa
/- THE CELL 'sum', in the pinned program and in every row, IS THE sha256 OF THE DUMP (.gsa) THAT YtbenanocioeglaaProg.lean LOADS. Nothing in Lean hashes anything: it is a label: what it is worth is what the hold of that sum in a sandbox is worth. -/
noncomputable def Try.pinned : Pinned := { name := "ytbenanocioeglaa", sum := "0250922c224cc8d8c729906b9dab6e78d8c566071b85ea778a56a5947df5118f", checked := Try.checked }
namespace Rows
def none {H : Type} : Left H := { results := [], args := [] }

/-- 'laws.FnExactSagaStart': WHATEVER THE INPUT: true; the input reads as it did. -/
def fnExactSagaStartSpec : ChangeSpec := { name := "fnExactSagaStart", fn := fun _ => fun
  | [d1, d2] => { results := [.lit (.bool true)], args := [d1, d2] }
  | _ => none }
def fnExactSagaStartRow : OpenClaim := { program := "ytbenanocioeglaa", sum := "0250922c224cc8d8c729906b9dab6e78d8c566071b85ea778a56a5947df5118f", func := "loop.example/g00271/laws.FnExactSagaStart", spec := "fnExactSagaStart", unfollowed := true, recurses := true, apart := false }
def FnExactSagaStartSaid : Prop := fnExactSagaStartRow.holds Try.pinned (OpenSpec.ofChange fnExactSagaStartSpec)

/-- ITS FALSE NEIGHBOUR: 'it returns false'. Refute it at one input. -/
def fnExactSagaStartWrong : ChangeSpec := { name := "fnExactSagaStart", fn := fun _ => fun
  | [d1, d2] => { results := [.lit (.bool false)], args := [d1, d2] }
  | _ => none }
def FnExactSagaStartWrongFalsely : Prop := fnExactSagaStartRow.holds Try.pinned (OpenSpec.ofChange fnExactSagaStartWrong)

/-- 'laws.FnExactDefBytes': WHATEVER THE INPUT: true; the input reads as it did. -/
def fnExactDefBytesSpec : ChangeSpec := { name := "fnExactDefBytes", fn := fun _ => fun
  | [d] => { results := [.lit (.bool true)], args := [d] }
  | _ => none }
def fnExactDefBytesRow : OpenClaim := { program := "ytbenanocioeglaa", sum := "0250922c224cc8d8c729906b9dab6e78d8c566071b85ea778a56a5947df5118f", func := "loop.example/g00271/laws.FnExactDefBytes", spec := "fnExactDefBytes", inPlace := ["internal/abi.NoEscape"], unfollowed := true, recurses := true, apart := false }
def FnExactDefBytesSaid : Prop := fnExactDefBytesRow.holds Try.pinned (OpenSpec.ofChange fnExactDefBytesSpec)

/-- ITS FALSE NEIGHBOUR: 'it returns false'. Refute it at one input. -/
def fnExactDefBytesWrong : ChangeSpec := { name := "fnExactDefBytes", fn := fun _ => fun
  | [d] => { results := [.lit (.bool false)], args := [d] }
  | _ => none }
def FnExactDefBytesWrongFalsely : Prop := fnExactDefBytesRow.holds Try.pinned (OpenSpec.ofChange fnExactDefBytesWrong)

/-- 'laws.FnEnds': WHATEVER THE INPUT: true; the input reads as it did. -/
def fnEndsSpec : ChangeSpec := { name := "fnEnds", fn := fun _ => fun
  | [d1, d2] => { results := [.lit (.bool true)], args := [d1, d2] }
  | _ => none }
def fnEndsRow : OpenClaim := { program := "ytbenanocioeglaa", sum := "0250922c224cc8d8c729906b9dab6e78d8c566071b85ea778a56a5947df5118f", func := "loop.example/g00271/laws.FnEnds", spec := "fnEnds", unfollowed := true, recurses := true, apart := false }
def FnEndsSaid : Prop := fnEndsRow.holds Try.pinned (OpenSpec.ofChange fnEndsSpec)

/-- ITS FALSE NEIGHBOUR: 'it returns false'. Refute it at one input. -/
def fnEndsWrong : ChangeSpec := { name := "fnEnds", fn := fun _ => fun
  | [d1, d2] => { results := [.lit (.bool false)], args := [d1, d2] }
  | _ => none }
def FnEndsWrongFalsely : Prop := fnEndsRow.holds Try.pinned (OpenSpec.ofChange fnEndsWrong)

/-- 'laws.FnExactSagaUndid': WHATEVER THE INPUT: true; the input reads as it did. -/
def fnExactSagaUndidSpec : ChangeSpec := { name := "fnExactSagaUndid", fn := fun _ => fun
  | [d1, d2] => { results := [.lit (.bool true)], args := [d1, d2] }
  | _ => none }
def fnExactSagaUndidRow : OpenClaim := { program := "ytbenanocioeglaa", sum := "0250922c224cc8d8c729906b9dab6e78d8c566071b85ea778a56a5947df5118f", func := "loop.example/g00271/laws.FnExactSagaUndid", spec := "fnExactSagaUndid", unfollowed := true, recurses := true, apart := false }
def FnExactSagaUndidSaid : Prop := fnExactSagaUndidRow.holds Try.pinned (OpenSpec.ofChange fnExactSagaUndidSpec)

/-- ITS FALSE NEIGHBOUR: 'it returns false'. Refute it at one input. -/
def fnExactSagaUndidWrong : ChangeSpec := { name := "fnExactSagaUndid", fn := fun _ => fun
  | [d1, d2] => { results := [.lit (.bool false)], args := [d1, d2] }
  | _ => none }
def FnExactSagaUndidWrongFalsely : Prop := fnExactSagaUndidRow.holds Try.pinned (OpenSpec.ofChange fnExactSagaUndidWrong)

/-- 'laws.FnExactSagaCancel': WHATEVER THE INPUT: true; the input reads as it did. -/
def fnExactSagaCancelSpec : ChangeSpec := { name := "fnExactSagaCancel", fn := fun _ => fun
  | [d1, d2, d3] => { results := [.lit (.bool true)], args := [d1, d2, d3] }
  | _ => none }
def fnExactSagaCancelRow : OpenClaim := { program := "ytbenanocioeglaa", sum := "0250922c224cc8d8c729906b9dab6e78d8c566071b85ea778a56a5947df5118f", func := "loop.example/g00271/laws.FnExactSagaCancel", spec := "fnExactSagaCancel", unfollowed := true, recurses := true, apart := false }
def FnExactSagaCancelSaid : Prop := fnExactSagaCancelRow.holds Try.pinned (OpenSpec.ofChange fnExactSagaCancelSpec)

/-- ITS FALSE NEIGHBOUR: 'it returns false'. Refute it at one input. -/
def fnExactSagaCancelWrong : ChangeSpec := { name := "fnExactSagaCancel", fn := fun _ => fun
  | [d1, d2, d3] => { results := [.lit (.bool false)], args := [d1, d2, d3] }
  | _ => none }
def FnExactSagaCancelWrongFalsely : Prop := fnExactSagaCancelRow.holds Try.pinned (OpenSpec.ofChange fnExactSagaCancelWrong)

/-- 'laws.FnExactDefRead': WHATEVER THE INPUT: true; the input reads as it did. -/
def fnExactDefReadSpec : ChangeSpec := { name := "fnExactDefRead", fn := fun _ => fun
  | [d] => { results := [.lit (.bool true)], args := [d] }
  | _ => none }
def fnExactDefReadRow : OpenClaim := { program := "ytbenanocioeglaa", sum := "0250922c224cc8d8c729906b9dab6e78d8c566071b85ea778a56a5947df5118f", func := "loop.example/g00271/laws.FnExactDefRead", spec := "fnExactDefRead", unfollowed := true, recurses := true, apart := false }
def FnExactDefReadSaid : Prop := fnExactDefReadRow.holds Try.pinned (OpenSpec.ofChange fnExactDefReadSpec)

/-- ITS FALSE NEIGHBOUR: 'it returns false'. Refute it at one input. -/
def fnExactDefReadWrong : ChangeSpec := { name := "fnExactDefRead", fn := fun _ => fun
  | [d] => { results := [.lit (.bool false)], args := [d] }
  | _ => none }
def FnExactDefReadWrongFalsely : Prop := fnExactDefReadRow.holds Try.pinned (OpenSpec.ofChange fnExactDefReadWrong)

/-- 'laws.FnExactSagaTick': WHATEVER THE INPUT: true; the input reads as it did. -/
def fnExactSagaTickSpec : ChangeSpec := { name := "fnExactSagaTick", fn := fun _ => fun
  | [d1, d2, d3] => { results := [.lit (.bool true)], args := [d1, d2, d3] }
  | _ => none }
def fnExactSagaTickRow : OpenClaim := { program := "ytbenanocioeglaa", sum := "0250922c224cc8d8c729906b9dab6e78d8c566071b85ea778a56a5947df5118f", func := "loop.example/g00271/laws.FnExactSagaTick", spec := "fnExactSagaTick", unfollowed := true, recurses := true, apart := false }
def FnExactSagaTickSaid : Prop := fnExactSagaTickRow.holds Try.pinned (OpenSpec.ofChange fnExactSagaTickSpec)

/-- ITS FALSE NEIGHBOUR: 'it returns false'. Refute it at one input. -/
def fnExactSagaTickWrong : ChangeSpec := { name := "fnExactSagaTick", fn := fun _ => fun
  | [d1, d2, d3] => { results := [.lit (.bool false)], args := [d1, d2, d3] }
  | _ => none }
def FnExactSagaTickWrongFalsely : Prop := fnExactSagaTickRow.holds Try.pinned (OpenSpec.ofChange fnExactSagaTickWrong)

/-- 'laws.FnExactSagaReply': WHATEVER THE INPUT: true; the input reads as it did. -/
def fnExactSagaReplySpec : ChangeSpec := { name := "fnExactSagaReply", fn := fun _ => fun
  | [d1, d2, d3, d4, d5] => { results := [.lit (.bool true)], args := [d1, d2, d3, d4, d5] }
  | _ => none }
def fnExactSagaReplyRow : OpenClaim := { program := "ytbenanocioeglaa", sum := "0250922c224cc8d8c729906b9dab6e78d8c566071b85ea778a56a5947df5118f", func := "loop.example/g00271/laws.FnExactSagaReply", spec := "fnExactSagaReply", unfollowed := true, recurses := true, apart := false }
def FnExactSagaReplySaid : Prop := fnExactSagaReplyRow.holds Try.pinned (OpenSpec.ofChange fnExactSagaReplySpec)

/-- ITS FALSE NEIGHBOUR: 'it returns false'. Refute it at one input. -/
def fnExactSagaReplyWrong : ChangeSpec := { name := "fnExactSagaReply", fn := fun _ => fun
  | [d1, d2, d3, d4, d5] => { results := [.lit (.bool false)], args := [d1, d2, d3, d4, d5] }
  | _ => none }
def FnExactSagaReplyWrongFalsely : Prop := fnExactSagaReplyRow.holds Try.pinned (OpenSpec.ofChange fnExactSagaReplyWrong)

/-- 'laws.FnDef': WHATEVER THE INPUT: true; the input reads as it did. -/
def fnDefSpec : ChangeSpec := { name := "fnDef", fn := fun _ => fun
  | [d1, d2] => { results := [.lit (.bool true)], args := [d1, d2] }
  | _ => none }
def fnDefRow : OpenClaim := { program := "ytbenanocioeglaa", sum := "0250922c224cc8d8c729906b9dab6e78d8c566071b85ea778a56a5947df5118f", func := "loop.example/g00271/laws.FnDef", spec := "fnDef", inPlace := ["internal/abi.NoEscape"], unfollowed := true, recurses := true, apart := false }
def FnDefSaid : Prop := fnDefRow.holds Try.pinned (OpenSpec.ofChange fnDefSpec)

/-- ITS FALSE NEIGHBOUR: 'it returns false'. Refute it at one input. -/
def fnDefWrong : ChangeSpec := { name := "fnDef", fn := fun _ => fun
  | [d1, d2] => { results := [.lit (.bool false)], args := [d1, d2] }
  | _ => none }
def FnDefWrongFalsely : Prop := fnDefRow.holds Try.pinned (OpenSpec.ofChange fnDefWrong)

/-- 'laws.FnSaga': WHATEVER THE INPUT: true; the input reads as it did. -/
def fnSagaSpec : ChangeSpec := { name := "fnSaga", fn := fun _ => fun
  | [d1, d2] => { results := [.lit (.bool true)], args := [d1, d2] }
  | _ => none }
def fnSagaRow : OpenClaim := { program := "ytbenanocioeglaa", sum := "0250922c224cc8d8c729906b9dab6e78d8c566071b85ea778a56a5947df5118f", func := "loop.example/g00271/laws.FnSaga", spec := "fnSaga", unfollowed := true, recurses := true, apart := false }
def FnSagaSaid : Prop := fnSagaRow.holds Try.pinned (OpenSpec.ofChange fnSagaSpec)

/-- ITS FALSE NEIGHBOUR: 'it returns false'. Refute it at one input. -/
def fnSagaWrong : ChangeSpec := { name := "fnSaga", fn := fun _ => fun
  | [d1, d2] => { results := [.lit (.bool false)], args := [d1, d2] }
  | _ => none }
def FnSagaWrongFalsely : Prop := fnSagaRow.holds Try.pinned (OpenSpec.ofChange fnSagaWrong)

/- THE SECOND FORM. 'bulk': how many values and letters a reading holds, each counted each time it is reached (what is shared counts as often as it is met; a slice's spare places count too). A statement '..UptoSaid' is the law's where the arguments, and the package variables that the reading takes, are together of bulk at most 1048576: NARROWER than '..Said'. Prove '..Said' where nothing that the law and all that it calls make is longer than what came in: it says more and counts as full. Else prove '..UptoSaid'. A law counts once. -/
mutual
def uptoBulk {H : Type} : DataW H → Nat
  | .lit (.string bytes) => bytes.length + 1
  | .lit _ => 1
  | .nil => 1
  | .ptr d => uptoBulk d + 1
  | .slice elems spare => uptoBulkAll elems + uptoBulkAll spare + 1
  | .agg parts => uptoBulkAll parts + 1
  | .iface _ d => uptoBulk d + 1
  | .map entries => uptoBulkEntries entries + 1
  | .held _ => 1
def uptoBulkAll {H : Type} : List (DataW H) → Nat
  | [] => 0
  | d :: r => uptoBulk d + uptoBulkAll r
def uptoBulkEntries {H : Type} : List (Lit × DataW H) → Nat
  | [] => 0
  | x :: r => uptoBulkEntry x + uptoBulkEntries r
def uptoBulkEntry {H : Type} : Lit × DataW H → Nat
  | (.string bytes, d) => bytes.length + uptoBulk d + 1
  | (_, d) => uptoBulk d + 1
 end
def uptoSmall : (H : Type) → List (DataW H) → Bool := fun _ ds => decide (uptoBulkAll ds ≤ 1048576)
def OpenSpec.upto (s : _root_.Go.ChangeSpec) : _root_.Go.OpenSpec := { _root_.Go.OpenSpec.ofChange s with cond := some uptoSmall }

/-- 'laws.FnExactSagaStart', WHERE WHAT IT READS IS OF BULK AT MOST 1048576: true; the input reads as it did. -/
def fnExactSagaStartUptoRow : OpenClaim := { program := "ytbenanocioeglaa", sum := "0250922c224cc8d8c729906b9dab6e78d8c566071b85ea778a56a5947df5118f", func := "loop.example/g00271/laws.FnExactSagaStart", spec := "fnExactSagaStart", unfollowed := true, recurses := true, apart := false, narrowed := true }
def FnExactSagaStartUptoSaid : Prop := fnExactSagaStartUptoRow.holds Try.pinned (OpenSpec.upto fnExactSagaStartSpec)

/-- 'laws.FnExactDefBytes', WHERE WHAT IT READS IS OF BULK AT MOST 1048576: true; the input reads as it did. -/
def fnExactDefBytesUptoRow : OpenClaim := { program := "ytbenanocioeglaa", sum := "0250922c224cc8d8c729906b9dab6e78d8c566071b85ea778a56a5947df5118f", func := "loop.example/g00271/laws.FnExactDefBytes", spec := "fnExactDefBytes", inPlace := ["internal/abi.NoEscape"], unfollowed := true, recurses := true, apart := false, narrowed := true }
def FnExactDefBytesUptoSaid : Prop := fnExactDefBytesUptoRow.holds Try.pinned (OpenSpec.upto fnExactDefBytesSpec)

/-- 'laws.FnEnds', WHERE WHAT IT READS IS OF BULK AT MOST 1048576: true; the input reads as it did. -/
def fnEndsUptoRow : OpenClaim := { program := "ytbenanocioeglaa", sum := "0250922c224cc8d8c729906b9dab6e78d8c566071b85ea778a56a5947df5118f", func := "loop.example/g00271/laws.FnEnds", spec := "fnEnds", unfollowed := true, recurses := true, apart := false, narrowed := true }
def FnEndsUptoSaid : Prop := fnEndsUptoRow.holds Try.pinned (OpenSpec.upto fnEndsSpec)

/-- 'laws.FnExactSagaUndid', WHERE WHAT IT READS IS OF BULK AT MOST 1048576: true; the input reads as it did. -/
def fnExactSagaUndidUptoRow : OpenClaim := { program := "ytbenanocioeglaa", sum := "0250922c224cc8d8c729906b9dab6e78d8c566071b85ea778a56a5947df5118f", func := "loop.example/g00271/laws.FnExactSagaUndid", spec := "fnExactSagaUndid", unfollowed := true, recurses := true, apart := false, narrowed := true }
def FnExactSagaUndidUptoSaid : Prop := fnExactSagaUndidUptoRow.holds Try.pinned (OpenSpec.upto fnExactSagaUndidSpec)

/-- 'laws.FnExactSagaCancel', WHERE WHAT IT READS IS OF BULK AT MOST 1048576: true; the input reads as it did. -/
def fnExactSagaCancelUptoRow : OpenClaim := { program := "ytbenanocioeglaa", sum := "0250922c224cc8d8c729906b9dab6e78d8c566071b85ea778a56a5947df5118f", func := "loop.example/g00271/laws.FnExactSagaCancel", spec := "fnExactSagaCancel", unfollowed := true, recurses := true, apart := false, narrowed := true }
def FnExactSagaCancelUptoSaid : Prop := fnExactSagaCancelUptoRow.holds Try.pinned (OpenSpec.upto fnExactSagaCancelSpec)

/-- 'laws.FnExactDefRead', WHERE WHAT IT READS IS OF BULK AT MOST 1048576: true; the input reads as it did. -/
def fnExactDefReadUptoRow : OpenClaim := { program := "ytbenanocioeglaa", sum := "0250922c224cc8d8c729906b9dab6e78d8c566071b85ea778a56a5947df5118f", func := "loop.example/g00271/laws.FnExactDefRead", spec := "fnExactDefRead", unfollowed := true, recurses := true, apart := false, narrowed := true }
def FnExactDefReadUptoSaid : Prop := fnExactDefReadUptoRow.holds Try.pinned (OpenSpec.upto fnExactDefReadSpec)

/-- 'laws.FnExactSagaTick', WHERE WHAT IT READS IS OF BULK AT MOST 1048576: true; the input reads as it did. -/
def fnExactSagaTickUptoRow : OpenClaim := { program := "ytbenanocioeglaa", sum := "0250922c224cc8d8c729906b9dab6e78d8c566071b85ea778a56a5947df5118f", func := "loop.example/g00271/laws.FnExactSagaTick", spec := "fnExactSagaTick", unfollowed := true, recurses := true, apart := false, narrowed := true }
def FnExactSagaTickUptoSaid : Prop := fnExactSagaTickUptoRow.holds Try.pinned (OpenSpec.upto fnExactSagaTickSpec)

/-- 'laws.FnExactSagaReply', WHERE WHAT IT READS IS OF BULK AT MOST 1048576: true; the input reads as it did. -/
def fnExactSagaReplyUptoRow : OpenClaim := { program := "ytbenanocioeglaa", sum := "0250922c224cc8d8c729906b9dab6e78d8c566071b85ea778a56a5947df5118f", func := "loop.example/g00271/laws.FnExactSagaReply", spec := "fnExactSagaReply", unfollowed := true, recurses := true, apart := false, narrowed := true }
def FnExactSagaReplyUptoSaid : Prop := fnExactSagaReplyUptoRow.holds Try.pinned (OpenSpec.upto fnExactSagaReplySpec)

/-- 'laws.FnDef', WHERE WHAT IT READS IS OF BULK AT MOST 1048576: true; the input reads as it did. -/
def fnDefUptoRow : OpenClaim := { program := "ytbenanocioeglaa", sum := "0250922c224cc8d8c729906b9dab6e78d8c566071b85ea778a56a5947df5118f", func := "loop.example/g00271/laws.FnDef", spec := "fnDef", inPlace := ["internal/abi.NoEscape"], unfollowed := true, recurses := true, apart := false, narrowed := true }
def FnDefUptoSaid : Prop := fnDefUptoRow.holds Try.pinned (OpenSpec.upto fnDefSpec)

/-- 'laws.FnSaga', WHERE WHAT IT READS IS OF BULK AT MOST 1048576: true; the input reads as it did. -/
def fnSagaUptoRow : OpenClaim := { program := "ytbenanocioeglaa", sum := "0250922c224cc8d8c729906b9dab6e78d8c566071b85ea778a56a5947df5118f", func := "loop.example/g00271/laws.FnSaga", spec := "fnSaga", unfollowed := true, recurses := true, apart := false, narrowed := true }
def FnSagaUptoSaid : Prop := fnSagaUptoRow.holds Try.pinned (OpenSpec.upto fnSagaSpec)

end Rows
end Go.Proofs.Ytbenanocioeglaa
