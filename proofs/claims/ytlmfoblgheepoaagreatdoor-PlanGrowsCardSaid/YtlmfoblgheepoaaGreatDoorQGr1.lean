/- Gr: part 2 of the proof that the law's row holds: the printed walk of the program's functions, the plain law, the row. -/
import Derived.Test.YtlmfoblgheepoaaGreatDoorQGr0
section
namespace Go.Proofs.YtlmfoblgheepoaaGreatDoorW.PrintWords
open Go.RowKit
theorem drewN_self (w : World) (n : Nat) : w.drewN n = w.drewN n := rfl
end Go.Proofs.YtlmfoblgheepoaaGreatDoorW.PrintWords
end
