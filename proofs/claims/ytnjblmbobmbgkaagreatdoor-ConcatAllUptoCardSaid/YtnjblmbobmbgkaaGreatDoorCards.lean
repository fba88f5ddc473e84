/-
  DERIVED. GIVEN WITH THE SEED: THE CARDS: each row of YtnjblmbobmbgkaaGreatDoorRows.lean that lists a variable, with what it lists TIED to the program's text (the seventh form; the later family's looks); each row that meets fmt, with fmt's text TOLD by the authors' own Lean function (tested against real Go, not proved from fmt's source: count such statements apart). THE CARD IS WHAT COUNTS. Prove the row's statement (the work); the ties are given (YtnjblmbobmbgkaaGreatDoorTie.lean); close each card by the builder's one call (the guide's Derived/Test/ToyasCard.lean, 'card_holds'). Laid BY PROGRAM, IN A SANDBOX (cutbox-door.mjs). By AI agents, Wed Nov 11 2026. No macro, syntax, notation, axiom, sorry.
-/
import Derived.Test.YtnjblmbobmbgkaaGreatDoorRows
import GoSem.ClaimSeven
namespace Go.Proofs.YtnjblmbobmbgkaaGreatDoor
namespace Rows

/-- THE TIED CARD OF 'tendrillaw27.PlainRuns'. -/
def plainRunsCard : Claim7 := { stood := { row := plainRunsRow, standIns := [], harness := (true, "0f204bc07272e61d9e7cbc5df8ec43d05ff738e66522114fda538c4f4eb36269"), looks := false }, kinds := [], alts := [], laidByText := true, laidKinds := [.data, .data, .data], laidTests := true, laidLooks := .later }
def PlainRunsCardSaid : Prop := Claim7.holds Tryz.pinned (.plain (OpenSpec.ofChange plainRunsSpec)) plainRunsCard

/-- THE TIED CARD OF 'tendrillaw27.PlainSteps'. -/
def plainStepsCard : Claim7 := { stood := { row := plainStepsRow, standIns := [], harness := (true, "0f204bc07272e61d9e7cbc5df8ec43d05ff738e66522114fda538c4f4eb36269"), looks := false }, kinds := [], alts := [], laidByText := true, laidKinds := [.data, .data, .data], laidTests := true, laidLooks := .later }
def PlainStepsCardSaid : Prop := Claim7.holds Tryz.pinned (.plain (OpenSpec.ofChange plainStepsSpec)) plainStepsCard

/-- THE TIED CARD OF 'tendrillaw28.ValidRuns'. -/
def validRunsCard : Claim7 := { stood := { row := validRunsRow, standIns := [], harness := (true, "0f204bc07272e61d9e7cbc5df8ec43d05ff738e66522114fda538c4f4eb36269"), looks := false }, kinds := [], alts := [], laidByText := true, laidKinds := [.data, .data, .data], laidTests := true, laidLooks := .later }
def ValidRunsCardSaid : Prop := Claim7.holds Tryz.pinned (.plain (OpenSpec.ofChange validRunsSpec)) validRunsCard

/-- THE TIED CARD OF 'tendrillaw31.ConcatOf'. -/
def concatOfCard : Claim7 := { stood := { row := concatOfRow, standIns := [], harness := (true, "0f204bc07272e61d9e7cbc5df8ec43d05ff738e66522114fda538c4f4eb36269"), looks := false }, kinds := [], alts := [], laidByText := true, laidKinds := [.data, .data, .data], laidTests := true, laidLooks := .later }
def ConcatOfCardSaid : Prop := Claim7.holds Tryz.pinned (.plain (OpenSpec.ofChange concatOfSpec)) concatOfCard

/-- THE TIED CARD OF 'tendrillaw31.ConcatRuns'. -/
def concatRunsCard : Claim7 := { stood := { row := concatRunsRow, standIns := [], harness := (true, "0f204bc07272e61d9e7cbc5df8ec43d05ff738e66522114fda538c4f4eb36269"), looks := false }, kinds := [], alts := [], laidByText := true, laidKinds := [.data, .data, .data], laidTests := true, laidLooks := .later }
def ConcatRunsCardSaid : Prop := Claim7.holds Tryz.pinned (.plain (OpenSpec.ofChange concatRunsSpec)) concatRunsCard

/-- THE TIED CARD OF 'tendrillaw31.ConcatAll'. -/
def concatAllCard : Claim7 := { stood := { row := concatAllRow, standIns := [], harness := (true, "0f204bc07272e61d9e7cbc5df8ec43d05ff738e66522114fda538c4f4eb36269"), looks := false }, kinds := [], alts := [], laidByText := true, laidKinds := [.data, .data, .data], laidTests := true, laidLooks := .later }
def ConcatAllCardSaid : Prop := Claim7.holds Tryz.pinned (.plain (OpenSpec.ofChange concatAllSpec)) concatAllCard

/-- THE SECOND FORM's CARD OF 'tendrillaw27.PlainRuns'. -/
def plainRunsUptoCard : Claim7 := { stood := { row := plainRunsUptoRow, standIns := [], harness := (true, "0f204bc07272e61d9e7cbc5df8ec43d05ff738e66522114fda538c4f4eb36269"), looks := false }, kinds := [], alts := [], laidByText := true, laidKinds := [.data, .data, .data], laidTests := true, laidLooks := .later }
def PlainRunsUptoCardSaid : Prop := Claim7.holds Tryz.pinned (.plain (OpenSpec.upto plainRunsSpec)) plainRunsUptoCard

/-- THE SECOND FORM's CARD OF 'tendrillaw27.PlainSteps'. -/
def plainStepsUptoCard : Claim7 := { stood := { row := plainStepsUptoRow, standIns := [], harness := (true, "0f204bc07272e61d9e7cbc5df8ec43d05ff738e66522114fda538c4f4eb36269"), looks := false }, kinds := [], alts := [], laidByText := true, laidKinds := [.data, .data, .data], laidTests := true, laidLooks := .later }
def PlainStepsUptoCardSaid : Prop := Claim7.holds Tryz.pinned (.plain (OpenSpec.upto plainStepsSpec)) plainStepsUptoCard

/-- THE SECOND FORM's CARD OF 'tendrillaw28.ValidRuns'. -/
def validRunsUptoCard : Claim7 := { stood := { row := validRunsUptoRow, standIns := [], harness := (true, "0f204bc07272e61d9e7cbc5df8ec43d05ff738e66522114fda538c4f4eb36269"), looks := false }, kinds := [], alts := [], laidByText := true, laidKinds := [.data, .data, .data], laidTests := true, laidLooks := .later }
def ValidRunsUptoCardSaid : Prop := Claim7.holds Tryz.pinned (.plain (OpenSpec.upto validRunsSpec)) validRunsUptoCard

/-- THE SECOND FORM's CARD OF 'tendrillaw31.ConcatOf'. -/
def concatOfUptoCard : Claim7 := { stood := { row := concatOfUptoRow, standIns := [], harness := (true, "0f204bc07272e61d9e7cbc5df8ec43d05ff738e66522114fda538c4f4eb36269"), looks := false }, kinds := [], alts := [], laidByText := true, laidKinds := [.data, .data, .data], laidTests := true, laidLooks := .later }
def ConcatOfUptoCardSaid : Prop := Claim7.holds Tryz.pinned (.plain (OpenSpec.upto concatOfSpec)) concatOfUptoCard

/-- THE SECOND FORM's CARD OF 'tendrillaw31.ConcatRuns'. -/
def concatRunsUptoCard : Claim7 := { stood := { row := concatRunsUptoRow, standIns := [], harness := (true, "0f204bc07272e61d9e7cbc5df8ec43d05ff738e66522114fda538c4f4eb36269"), looks := false }, kinds := [], alts := [], laidByText := true, laidKinds := [.data, .data, .data], laidTests := true, laidLooks := .later }
def ConcatRunsUptoCardSaid : Prop := Claim7.holds Tryz.pinned (.plain (OpenSpec.upto concatRunsSpec)) concatRunsUptoCard

/-- THE SECOND FORM's CARD OF 'tendrillaw31.ConcatAll'. -/
def concatAllUptoCard : Claim7 := { stood := { row := concatAllUptoRow, standIns := [], harness := (true, "0f204bc07272e61d9e7cbc5df8ec43d05ff738e66522114fda538c4f4eb36269"), looks := false }, kinds := [], alts := [], laidByText := true, laidKinds := [.data, .data, .data], laidTests := true, laidLooks := .later }
def ConcatAllUptoCardSaid : Prop := Claim7.holds Tryz.pinned (.plain (OpenSpec.upto concatAllSpec)) concatAllUptoCard
end Rows
end Go.Proofs.YtnjblmbobmbgkaaGreatDoor
