/- Ra: part 1 of the proof that the law's row holds: the printed walk of the program's functions, the plain law, the row. -/
import Derived.Test.YtlmfoblgheepoaaGreatDoorQUq11
section
namespace Go.Proofs.YtlmfoblgheepoaaGreatDoorW.PrintLast
def up (b : Nat → Bool) (i : Nat) : Nat → Bool := fun j => if j = i then true else b j
end Go.Proofs.YtlmfoblgheepoaaGreatDoorW.PrintLast
end
