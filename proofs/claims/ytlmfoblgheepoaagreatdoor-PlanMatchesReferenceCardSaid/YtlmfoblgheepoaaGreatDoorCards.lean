/-
  DERIVED. GIVEN WITH THE SEED: THE CARDS: each row of YtlmfoblgheepoaaGreatDoorRows.lean that lists a variable, with what it lists TIED to the program's text (the seventh form; the later family's looks); each row that meets fmt, with fmt's text TOLD by the authors' own Lean function (tested against real Go, not proved from fmt's source: count such statements apart). THE CARD IS WHAT COUNTS. Prove the row's statement (the work); the ties are given (YtlmfoblgheepoaaGreatDoorTie.lean); close each card by the builder's one call (the guide's Derived/Test/ToyasCard.lean, 'card_holds'). Laid BY PROGRAM, IN A SANDBOX (cutbox-door.mjs). By AI agents, Wed Nov 11 2026. No macro, syntax, notation, axiom, sorry.
-/
import Derived.Test.YtlmfoblgheepoaaGreatDoorRows
import GoSem.ClaimSeven
namespace Go.Proofs.YtlmfoblgheepoaaGreatDoor
namespace Rows

/-- THE TIED CARD OF 'dialtonelaw12.PlanMatchesReference'. -/
def planMatchesReferenceCard : Claim7 := { stood := { row := planMatchesReferenceRow, standIns := [], harness := (true, "983e7b885eaf3067fd66a631d6193d50055dfee8ac172980f9d280261325b7c3"), looks := true }, kinds := [], alts := [], laidByText := true, laidKinds := [.data, .data, .data, .data, .sentinel, .sentinel, .pinned], laidTests := true, laidLooks := .later }
def PlanMatchesReferenceCardSaid : Prop := Claim7.holds Tryz.pinned (.plain (OpenSpec.ofChange planMatchesReferenceSpec)) planMatchesReferenceCard

/-- THE TIED CARD OF 'dialtonelaw12.PlanUnique'. -/
def planUniqueCard : Claim7 := { stood := { row := planUniqueRow, standIns := [], harness := (true, "983e7b885eaf3067fd66a631d6193d50055dfee8ac172980f9d280261325b7c3"), looks := true }, kinds := [], alts := [], laidByText := true, laidKinds := [.data, .data, .data, .data, .sentinel, .sentinel, .pinned], laidTests := true, laidLooks := .later }
def PlanUniqueCardSaid : Prop := Claim7.holds Tryz.pinned (.plain (OpenSpec.ofChange planUniqueSpec)) planUniqueCard

/-- THE TIED CARD OF 'dialtonelaw12.PlanSameLine'. -/
def planSameLineCard : Claim7 := { stood := { row := planSameLineRow, standIns := [], harness := (true, "983e7b885eaf3067fd66a631d6193d50055dfee8ac172980f9d280261325b7c3"), looks := true }, kinds := [], alts := [], laidByText := true, laidKinds := [.data, .data, .data, .data, .sentinel, .sentinel, .pinned], laidTests := true, laidLooks := .later }
def PlanSameLineCardSaid : Prop := Claim7.holds Tryz.pinned (.plain (OpenSpec.ofChange planSameLineSpec)) planSameLineCard

/-- THE TIED CARD OF 'dialtonelaw12.PlanDigits'. -/
def planDigitsCard : Claim7 := { stood := { row := planDigitsRow, standIns := [], harness := (true, "983e7b885eaf3067fd66a631d6193d50055dfee8ac172980f9d280261325b7c3"), looks := true }, kinds := [], alts := [], laidByText := true, laidKinds := [.data, .data, .data, .data, .sentinel, .sentinel, .pinned], laidTests := true, laidLooks := .later }
def PlanDigitsCardSaid : Prop := Claim7.holds Tryz.pinned (.plain (OpenSpec.ofChange planDigitsSpec)) planDigitsCard

/-- THE TIED CARD OF 'dialtonelaw12.PlanForms'. -/
def planFormsCard : Claim7 := { stood := { row := planFormsRow, standIns := [], harness := (true, "983e7b885eaf3067fd66a631d6193d50055dfee8ac172980f9d280261325b7c3"), looks := true }, kinds := [], alts := [], laidByText := true, laidKinds := [.data, .data, .data, .data, .sentinel, .sentinel, .pinned], laidTests := true, laidLooks := .later }
def PlanFormsCardSaid : Prop := Claim7.holds Tryz.pinned (.plain (OpenSpec.ofChange planFormsSpec)) planFormsCard

/-- THE TIED CARD OF 'dialtonelaw12.PlanPhases'. -/
def planPhasesCard : Claim7 := { stood := { row := planPhasesRow, standIns := [], harness := (true, "983e7b885eaf3067fd66a631d6193d50055dfee8ac172980f9d280261325b7c3"), looks := true }, kinds := [], alts := [], laidByText := true, laidKinds := [.data, .data, .data, .data, .sentinel, .sentinel, .pinned], laidTests := true, laidLooks := .later }
def PlanPhasesCardSaid : Prop := Claim7.holds Tryz.pinned (.plain (OpenSpec.ofChange planPhasesSpec)) planPhasesCard

/-- THE TIED CARD OF 'dialtonelaw12.PlanRanges'. -/
def planRangesCard : Claim7 := { stood := { row := planRangesRow, standIns := [], harness := (true, "983e7b885eaf3067fd66a631d6193d50055dfee8ac172980f9d280261325b7c3"), looks := true }, kinds := [], alts := [], laidByText := true, laidKinds := [.data, .data, .data, .data, .sentinel, .sentinel, .pinned], laidTests := true, laidLooks := .later }
def PlanRangesCardSaid : Prop := Claim7.holds Tryz.pinned (.plain (OpenSpec.ofChange planRangesSpec)) planRangesCard

/-- THE TIED CARD OF 'dialtonelaw12.PlanGrows'. -/
def planGrowsCard : Claim7 := { stood := { row := planGrowsRow, standIns := [], harness := (true, "983e7b885eaf3067fd66a631d6193d50055dfee8ac172980f9d280261325b7c3"), looks := true }, kinds := [], alts := [], laidByText := true, laidKinds := [.data, .data, .data, .data, .sentinel, .sentinel, .pinned], laidTests := true, laidLooks := .later }
def PlanGrowsCardSaid : Prop := Claim7.holds Tryz.pinned (.plain (OpenSpec.ofChange planGrowsSpec)) planGrowsCard

/-- THE SECOND FORM's CARD OF 'dialtonelaw12.PlanMatchesReference'. -/
def planMatchesReferenceUptoCard : Claim7 := { stood := { row := planMatchesReferenceUptoRow, standIns := [], harness := (true, "983e7b885eaf3067fd66a631d6193d50055dfee8ac172980f9d280261325b7c3"), looks := true }, kinds := [], alts := [], laidByText := true, laidKinds := [.data, .data, .data, .data, .sentinel, .sentinel, .pinned], laidTests := true, laidLooks := .later }
def PlanMatchesReferenceUptoCardSaid : Prop := Claim7.holds Tryz.pinned (.plain (OpenSpec.upto planMatchesReferenceSpec)) planMatchesReferenceUptoCard

/-- THE SECOND FORM's CARD OF 'dialtonelaw12.PlanUnique'. -/
def planUniqueUptoCard : Claim7 := { stood := { row := planUniqueUptoRow, standIns := [], harness := (true, "983e7b885eaf3067fd66a631d6193d50055dfee8ac172980f9d280261325b7c3"), looks := true }, kinds := [], alts := [], laidByText := true, laidKinds := [.data, .data, .data, .data, .sentinel, .sentinel, .pinned], laidTests := true, laidLooks := .later }
def PlanUniqueUptoCardSaid : Prop := Claim7.holds Tryz.pinned (.plain (OpenSpec.upto planUniqueSpec)) planUniqueUptoCard

/-- THE SECOND FORM's CARD OF 'dialtonelaw12.PlanSameLine'. -/
def planSameLineUptoCard : Claim7 := { stood := { row := planSameLineUptoRow, standIns := [], harness := (true, "983e7b885eaf3067fd66a631d6193d50055dfee8ac172980f9d280261325b7c3"), looks := true }, kinds := [], alts := [], laidByText := true, laidKinds := [.data, .data, .data, .data, .sentinel, .sentinel, .pinned], laidTests := true, laidLooks := .later }
def PlanSameLineUptoCardSaid : Prop := Claim7.holds Tryz.pinned (.plain (OpenSpec.upto planSameLineSpec)) planSameLineUptoCard

/-- THE SECOND FORM's CARD OF 'dialtonelaw12.PlanDigits'. -/
def planDigitsUptoCard : Claim7 := { stood := { row := planDigitsUptoRow, standIns := [], harness := (true, "983e7b885eaf3067fd66a631d6193d50055dfee8ac172980f9d280261325b7c3"), looks := true }, kinds := [], alts := [], laidByText := true, laidKinds := [.data, .data, .data, .data, .sentinel, .sentinel, .pinned], laidTests := true, laidLooks := .later }
def PlanDigitsUptoCardSaid : Prop := Claim7.holds Tryz.pinned (.plain (OpenSpec.upto planDigitsSpec)) planDigitsUptoCard

/-- THE SECOND FORM's CARD OF 'dialtonelaw12.PlanForms'. -/
def planFormsUptoCard : Claim7 := { stood := { row := planFormsUptoRow, standIns := [], harness := (true, "983e7b885eaf3067fd66a631d6193d50055dfee8ac172980f9d280261325b7c3"), looks := true }, kinds := [], alts := [], laidByText := true, laidKinds := [.data, .data, .data, .data, .sentinel, .sentinel, .pinned], laidTests := true, laidLooks := .later }
def PlanFormsUptoCardSaid : Prop := Claim7.holds Tryz.pinned (.plain (OpenSpec.upto planFormsSpec)) planFormsUptoCard

/-- THE SECOND FORM's CARD OF 'dialtonelaw12.PlanPhases'. -/
def planPhasesUptoCard : Claim7 := { stood := { row := planPhasesUptoRow, standIns := [], harness := (true, "983e7b885eaf3067fd66a631d6193d50055dfee8ac172980f9d280261325b7c3"), looks := true }, kinds := [], alts := [], laidByText := true, laidKinds := [.data, .data, .data, .data, .sentinel, .sentinel, .pinned], laidTests := true, laidLooks := .later }
def PlanPhasesUptoCardSaid : Prop := Claim7.holds Tryz.pinned (.plain (OpenSpec.upto planPhasesSpec)) planPhasesUptoCard

/-- THE SECOND FORM's CARD OF 'dialtonelaw12.PlanRanges'. -/
def planRangesUptoCard : Claim7 := { stood := { row := planRangesUptoRow, standIns := [], harness := (true, "983e7b885eaf3067fd66a631d6193d50055dfee8ac172980f9d280261325b7c3"), looks := true }, kinds := [], alts := [], laidByText := true, laidKinds := [.data, .data, .data, .data, .sentinel, .sentinel, .pinned], laidTests := true, laidLooks := .later }
def PlanRangesUptoCardSaid : Prop := Claim7.holds Tryz.pinned (.plain (OpenSpec.upto planRangesSpec)) planRangesUptoCard

/-- THE SECOND FORM's CARD OF 'dialtonelaw12.PlanGrows'. -/
def planGrowsUptoCard : Claim7 := { stood := { row := planGrowsUptoRow, standIns := [], harness := (true, "983e7b885eaf3067fd66a631d6193d50055dfee8ac172980f9d280261325b7c3"), looks := true }, kinds := [], alts := [], laidByText := true, laidKinds := [.data, .data, .data, .data, .sentinel, .sentinel, .pinned], laidTests := true, laidLooks := .later }
def PlanGrowsUptoCardSaid : Prop := Claim7.holds Tryz.pinned (.plain (OpenSpec.upto planGrowsSpec)) planGrowsUptoCard
end Rows
end Go.Proofs.YtlmfoblgheepoaaGreatDoor
