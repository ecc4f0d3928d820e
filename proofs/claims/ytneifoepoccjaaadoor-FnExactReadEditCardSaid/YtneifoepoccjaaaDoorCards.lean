/-
  DERIVED. GIVEN WITH THE SEED: THE CARDS: each row of YtneifoepoccjaaaDoorRows.lean that lists a variable, with what it lists TIED to the program's text (the seventh form; the later family's looks); each row that meets fmt, with fmt's text TOLD by the authors' own Lean function (tested against real Go, not proved from fmt's source: count such statements apart). THE CARD IS WHAT COUNTS. Prove the row's statement (the work); the ties are given (YtneifoepoccjaaaDoorTie.lean); close each card by the builder's one call (the guide's Derived/Test/ToyasCard.lean, 'card_holds'). Laid BY PROGRAM, IN A SANDBOX (cutbox-door.mjs). By AI agents, Wed Nov 11 2026. No macro, syntax, notation, axiom, sorry.
-/
import Derived.Test.YtneifoepoccjaaaDoorRows
import GoSem.ClaimSeven
namespace Go.Proofs.YtneifoepoccjaaaDoor
namespace Rows

/-- THE TIED CARD OF 'laws.FnExactTraceText'. -/
def fnExactTraceTextCard : Claim7 := { stood := { row := fnExactTraceTextRow, standIns := [], harness := (true, "23a129330432ae11ed9bbcbd0aab5e6bd148a512978a65b58029273d4c1b40a5"), looks := true }, kinds := [], alts := [], laidByText := true, laidKinds := [.data, .data, .data], laidTests := true, laidLooks := .later }
def FnExactTraceTextCardSaid : Prop := Claim7.holds Tryd.pinned (.plain (OpenSpec.ofChange fnExactTraceTextSpec)) fnExactTraceTextCard

/-- THE TIED CARD OF 'laws.FnExactReadEdit'. -/
def fnExactReadEditCard : Claim7 := { stood := { row := fnExactReadEditRow, standIns := [], harness := (true, "23a129330432ae11ed9bbcbd0aab5e6bd148a512978a65b58029273d4c1b40a5"), looks := true }, kinds := [], alts := [], laidByText := true, laidKinds := [.data, .data, .data, .sentinel, .sentinel], laidTests := true, laidLooks := .later }
def FnExactReadEditCardSaid : Prop := Claim7.holds Tryd.pinned (.plain (OpenSpec.ofChange fnExactReadEditSpec)) fnExactReadEditCard

/-- THE TIED CARD OF 'laws.FnExactIsDeskCommand'. -/
def fnExactIsDeskCommandCard : Claim7 := { stood := { row := fnExactIsDeskCommandRow, standIns := [], harness := (true, "23a129330432ae11ed9bbcbd0aab5e6bd148a512978a65b58029273d4c1b40a5"), looks := true }, kinds := [], alts := [], laidByText := true, laidKinds := [.data, .data, .data, .data, .sentinel, .sentinel, .pinned], laidTests := true, laidLooks := .later }
def FnExactIsDeskCommandCardSaid : Prop := Claim7.holds Tryd.pinned (.plain (OpenSpec.ofChange fnExactIsDeskCommandSpec)) fnExactIsDeskCommandCard

/-- THE TIED CARD OF 'laws.FnExactFirstDifference'. -/
def fnExactFirstDifferenceCard : Claim7 := { stood := { row := fnExactFirstDifferenceRow, standIns := [], harness := (true, "23a129330432ae11ed9bbcbd0aab5e6bd148a512978a65b58029273d4c1b40a5"), looks := true }, kinds := [], alts := [], laidByText := true, laidKinds := [.data, .data, .data, .data, .sentinel, .sentinel, .pinned], laidTests := true, laidLooks := .later }
def FnExactFirstDifferenceCardSaid : Prop := Claim7.holds Tryd.pinned (.plain (OpenSpec.ofChange fnExactFirstDifferenceSpec)) fnExactFirstDifferenceCard

/-- THE TIED CARD OF 'laws.FnExactRecoverTrace'. -/
def fnExactRecoverTraceCard : Claim7 := { stood := { row := fnExactRecoverTraceRow, standIns := [], harness := (true, "23a129330432ae11ed9bbcbd0aab5e6bd148a512978a65b58029273d4c1b40a5"), looks := true }, kinds := [], alts := [], laidByText := true, laidKinds := [.data, .data, .data, .data, .sentinel, .sentinel, .pinned], laidTests := true, laidLooks := .later }
def FnExactRecoverTraceCardSaid : Prop := Claim7.holds Tryd.pinned (.plain (OpenSpec.ofChange fnExactRecoverTraceSpec)) fnExactRecoverTraceCard

/-- THE TIED CARD OF 'laws.FnExactAppendFiring'. -/
def fnExactAppendFiringCard : Claim7 := { stood := { row := fnExactAppendFiringRow, standIns := [], harness := (true, "23a129330432ae11ed9bbcbd0aab5e6bd148a512978a65b58029273d4c1b40a5"), looks := true }, kinds := [], alts := [], laidByText := true, laidKinds := [.data, .data, .data, .data, .sentinel, .sentinel, .pinned], laidTests := true, laidLooks := .later }
def FnExactAppendFiringCardSaid : Prop := Claim7.holds Tryd.pinned (.plain (OpenSpec.ofChange fnExactAppendFiringSpec)) fnExactAppendFiringCard

/-- THE TIED CARD OF 'laws.FnEdits'. -/
def fnEditsCard : Claim7 := { stood := { row := fnEditsRow, standIns := [], harness := (true, "23a129330432ae11ed9bbcbd0aab5e6bd148a512978a65b58029273d4c1b40a5"), looks := true }, kinds := [], alts := [], laidByText := true, laidKinds := [.data, .data, .data, .sentinel, .sentinel], laidTests := true, laidLooks := .later }
def FnEditsCardSaid : Prop := Claim7.holds Tryd.pinned (.plain (OpenSpec.ofChange fnEditsSpec)) fnEditsCard

/-- THE SECOND FORM's CARD OF 'laws.FnExactTraceText'. -/
def fnExactTraceTextUptoCard : Claim7 := { stood := { row := fnExactTraceTextUptoRow, standIns := [], harness := (true, "23a129330432ae11ed9bbcbd0aab5e6bd148a512978a65b58029273d4c1b40a5"), looks := true }, kinds := [], alts := [], laidByText := true, laidKinds := [.data, .data, .data], laidTests := true, laidLooks := .later }
def FnExactTraceTextUptoCardSaid : Prop := Claim7.holds Tryd.pinned (.plain (OpenSpec.upto fnExactTraceTextSpec)) fnExactTraceTextUptoCard

/-- THE SECOND FORM's CARD OF 'laws.FnExactReadEdit'. -/
def fnExactReadEditUptoCard : Claim7 := { stood := { row := fnExactReadEditUptoRow, standIns := [], harness := (true, "23a129330432ae11ed9bbcbd0aab5e6bd148a512978a65b58029273d4c1b40a5"), looks := true }, kinds := [], alts := [], laidByText := true, laidKinds := [.data, .data, .data, .sentinel, .sentinel], laidTests := true, laidLooks := .later }
def FnExactReadEditUptoCardSaid : Prop := Claim7.holds Tryd.pinned (.plain (OpenSpec.upto fnExactReadEditSpec)) fnExactReadEditUptoCard

/-- THE SECOND FORM's CARD OF 'laws.FnExactIsDeskCommand'. -/
def fnExactIsDeskCommandUptoCard : Claim7 := { stood := { row := fnExactIsDeskCommandUptoRow, standIns := [], harness := (true, "23a129330432ae11ed9bbcbd0aab5e6bd148a512978a65b58029273d4c1b40a5"), looks := true }, kinds := [], alts := [], laidByText := true, laidKinds := [.data, .data, .data, .data, .sentinel, .sentinel, .pinned], laidTests := true, laidLooks := .later }
def FnExactIsDeskCommandUptoCardSaid : Prop := Claim7.holds Tryd.pinned (.plain (OpenSpec.upto fnExactIsDeskCommandSpec)) fnExactIsDeskCommandUptoCard

/-- THE SECOND FORM's CARD OF 'laws.FnExactFirstDifference'. -/
def fnExactFirstDifferenceUptoCard : Claim7 := { stood := { row := fnExactFirstDifferenceUptoRow, standIns := [], harness := (true, "23a129330432ae11ed9bbcbd0aab5e6bd148a512978a65b58029273d4c1b40a5"), looks := true }, kinds := [], alts := [], laidByText := true, laidKinds := [.data, .data, .data, .data, .sentinel, .sentinel, .pinned], laidTests := true, laidLooks := .later }
def FnExactFirstDifferenceUptoCardSaid : Prop := Claim7.holds Tryd.pinned (.plain (OpenSpec.upto fnExactFirstDifferenceSpec)) fnExactFirstDifferenceUptoCard

/-- THE SECOND FORM's CARD OF 'laws.FnExactRecoverTrace'. -/
def fnExactRecoverTraceUptoCard : Claim7 := { stood := { row := fnExactRecoverTraceUptoRow, standIns := [], harness := (true, "23a129330432ae11ed9bbcbd0aab5e6bd148a512978a65b58029273d4c1b40a5"), looks := true }, kinds := [], alts := [], laidByText := true, laidKinds := [.data, .data, .data, .data, .sentinel, .sentinel, .pinned], laidTests := true, laidLooks := .later }
def FnExactRecoverTraceUptoCardSaid : Prop := Claim7.holds Tryd.pinned (.plain (OpenSpec.upto fnExactRecoverTraceSpec)) fnExactRecoverTraceUptoCard

/-- THE SECOND FORM's CARD OF 'laws.FnExactAppendFiring'. -/
def fnExactAppendFiringUptoCard : Claim7 := { stood := { row := fnExactAppendFiringUptoRow, standIns := [], harness := (true, "23a129330432ae11ed9bbcbd0aab5e6bd148a512978a65b58029273d4c1b40a5"), looks := true }, kinds := [], alts := [], laidByText := true, laidKinds := [.data, .data, .data, .data, .sentinel, .sentinel, .pinned], laidTests := true, laidLooks := .later }
def FnExactAppendFiringUptoCardSaid : Prop := Claim7.holds Tryd.pinned (.plain (OpenSpec.upto fnExactAppendFiringSpec)) fnExactAppendFiringUptoCard

/-- THE SECOND FORM's CARD OF 'laws.FnEdits'. -/
def fnEditsUptoCard : Claim7 := { stood := { row := fnEditsUptoRow, standIns := [], harness := (true, "23a129330432ae11ed9bbcbd0aab5e6bd148a512978a65b58029273d4c1b40a5"), looks := true }, kinds := [], alts := [], laidByText := true, laidKinds := [.data, .data, .data, .sentinel, .sentinel], laidTests := true, laidLooks := .later }
def FnEditsUptoCardSaid : Prop := Claim7.holds Tryd.pinned (.plain (OpenSpec.upto fnEditsSpec)) fnEditsUptoCard
end Rows
end Go.Proofs.YtneifoepoccjaaaDoor
