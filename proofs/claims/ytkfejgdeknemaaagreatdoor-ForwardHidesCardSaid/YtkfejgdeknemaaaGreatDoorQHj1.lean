/- Hj: part 2 of the proof that the law's row holds: the printed walk of the program's functions, the plain law, the row. -/
import Derived.StillTailTactics
import Derived.Test.YtkfejgdeknemaaaGreatDoorQHj0
section
namespace Go.Proofs.YtkfejgdeknemaaaGreatDoor.Pure
open Go.RowKit Go.Proofs.YtkfejgdeknemaaaGreatDoorW.PrintWords Go.Proofs.YtkfejgdeknemaaaGreatDoorW.PrintLast Go.Proofs.YtkfejgdeknemaaaGreatDoorW.PrintMore Go.Proofs.YtkfejgdeknemaaaGreatDoor.Fw
set_option linter.unusedVariables false
set_option linter.unusedSimpArgs false
theorem rd37 (l : List S37) (i : Nat) (h : i < l.length) : rd_T37 l (i : Int) = l[i] := by
  unfold rd_T37
  rw [Int.toNat_natCast, List.getD_eq_getElem?_getD, List.getElem?_eq_getElem h]
  rfl
end Go.Proofs.YtkfejgdeknemaaaGreatDoor.Pure
end
section
namespace Go.Proofs.YtkfejgdeknemaaaGreatDoor.Pure
open Go.RowKit Go.Proofs.YtkfejgdeknemaaaGreatDoorW.PrintWords Go.Proofs.YtkfejgdeknemaaaGreatDoorW.PrintLast Go.Proofs.YtkfejgdeknemaaaGreatDoorW.PrintMore Go.Proofs.YtkfejgdeknemaaaGreatDoor.Fw
set_option linter.unusedVariables false
set_option linter.unusedSimpArgs false
theorem same_ev (k1 k2 : Int) (p1 u1 p2 u2 : List Int) (h1 : p1.length < 4000000000) (h2 : u1.length < 4000000000) : Ev (fun k => dialtoneref22_Same.f k k1 p1 u1 k2 p2 u2) (decide (k1 = k2) && (p1 == p2 && u1 == u2)) := by
  unfold dialtoneref22_Same.f
  by_cases hk : k1 = k2
  · simp only [hk, if_true, decide_true, Bool.true_and]
    refine Ev.bind (ints_ev p1 p2 h1) ?_
    cases (p1 == p2)
    · simp; exact Ev.now _
    · simp only [if_true, Bool.true_and]
      refine Ev.bind (ints_ev u1 u2 h2) ?_
      exact Ev.now _
  · simp only [hk, if_false, decide_false, Bool.false_and]
    exact Ev.now _
theorem same_true {k1 k2 : Int} {p1 u1 p2 u2 : List Int} (hk : k1 = k2) (hp : p1 = p2) (hu : u1 = u2) (h1 : p1.length < 4000000000) (h2 : u1.length < 4000000000) : Ev (fun k => dialtoneref22_Same.f k k1 p1 u1 k2 p2 u2) true := by
  have h := same_ev k1 k2 p1 u1 p2 u2 h1 h2
  rw [hk, hp, hu] at h
  rw [hk, hp, hu]
  simpa using h
end Go.Proofs.YtkfejgdeknemaaaGreatDoor.Pure
end
