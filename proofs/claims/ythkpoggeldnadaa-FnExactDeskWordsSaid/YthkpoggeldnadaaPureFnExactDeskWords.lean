/-
The program's DeskWords returns what the reference's returns. No conditions.
-/
import Derived.Test.YthkpoggeldnadaaPFnExactDeskWordsx1
namespace Go.Proofs.Ythkpoggeldnadaa.Pure
open Go.RowKit Go.Proofs.Ythkpoggeldnadaa.PFnExactDeskWords Go.Proofs.YthkpoggeldnadaaW.PrintWords Go.Proofs.YthkpoggeldnadaaW.PrintLast

theorem FnExactDeskWords : laws_FnExactDeskWords.Pure := ⟨100, by decide +kernel⟩

end Go.Proofs.Ythkpoggeldnadaa.Pure
