/-
  DERIVED. GIVEN WITH THE SEED: THE CARDS: each row of YtbgbmdjfogohnaaGreatDoorRows.lean that lists a variable, with what it lists TIED to the program's text (the seventh form; the later family's looks); each row that meets fmt, with fmt's text TOLD by the authors' own Lean function (tested against real Go, not proved from fmt's source: count such statements apart). THE CARD IS WHAT COUNTS. Prove the row's statement (the work); the ties are given (YtbgbmdjfogohnaaGreatDoorTie.lean); close each card by the builder's one call (the guide's Derived/Test/ToyasCard.lean, 'card_holds'). Laid BY PROGRAM, IN A SANDBOX (cutbox-door.mjs). By AI agents, Wed Nov 11 2026. No macro, syntax, notation, axiom, sorry.
-/
import Derived.Test.YtbgbmdjfogohnaaGreatDoorRows
import GoSem.ClaimSeven
namespace Go.Proofs.YtbgbmdjfogohnaaGreatDoor
namespace Rows

/-- THE TIED CARD OF 'tendrillaw27.PlainDom'. -/
def plainDomCard : Claim7 := { stood := { row := plainDomRow, standIns := [], harness := (true, "1d2579ec5546b8780620499f1aaa36a763a3556bf67a3c3588e2fdbbe5c5180a"), looks := false }, kinds := [], alts := [], laidByText := true, laidKinds := [.data, .data, .data], laidTests := true, laidLooks := .later }
def PlainDomCardSaid : Prop := Claim7.holds Tryz.pinned (.plain (OpenSpec.ofChange plainDomSpec)) plainDomCard

/-- THE TIED CARD OF 'tendrillaw29.InterpRuns'. -/
def interpRunsCard : Claim7 := { stood := { row := interpRunsRow, standIns := [], harness := (true, "1d2579ec5546b8780620499f1aaa36a763a3556bf67a3c3588e2fdbbe5c5180a"), looks := false }, kinds := [], alts := [], laidByText := true, laidKinds := [.data, .data, .data], laidTests := true, laidLooks := .later }
def InterpRunsCardSaid : Prop := Claim7.holds Tryz.pinned (.plain (OpenSpec.ofChange interpRunsSpec)) interpRunsCard

/-- THE TIED CARD OF 'tendrillaw29.InterpBuilds'. -/
def interpBuildsCard : Claim7 := { stood := { row := interpBuildsRow, standIns := [], harness := (true, "1d2579ec5546b8780620499f1aaa36a763a3556bf67a3c3588e2fdbbe5c5180a"), looks := false }, kinds := [], alts := [], laidByText := true, laidKinds := [.data, .data, .data], laidTests := true, laidLooks := .later }
def InterpBuildsCardSaid : Prop := Claim7.holds Tryz.pinned (.plain (OpenSpec.ofChange interpBuildsSpec)) interpBuildsCard

/-- THE TIED CARD OF 'tendrillaw29.InterpValid'. -/
def interpValidCard : Claim7 := { stood := { row := interpValidRow, standIns := [], harness := (true, "1d2579ec5546b8780620499f1aaa36a763a3556bf67a3c3588e2fdbbe5c5180a"), looks := false }, kinds := [], alts := [], laidByText := true, laidKinds := [.data, .data, .data], laidTests := true, laidLooks := .later }
def InterpValidCardSaid : Prop := Claim7.holds Tryz.pinned (.plain (OpenSpec.ofChange interpValidSpec)) interpValidCard

/-- THE TIED CARD OF 'tendrillaw28.ValidKept'. -/
def validKeptCard : Claim7 := { stood := { row := validKeptRow, standIns := [], harness := (true, "1d2579ec5546b8780620499f1aaa36a763a3556bf67a3c3588e2fdbbe5c5180a"), looks := false }, kinds := [], alts := [], laidByText := true, laidKinds := [.data, .data, .data], laidTests := true, laidLooks := .later }
def ValidKeptCardSaid : Prop := Claim7.holds Tryz.pinned (.plain (OpenSpec.ofChange validKeptSpec)) validKeptCard

/-- THE TIED CARD OF 'tendrillaw30.UndoMakes'. -/
def undoMakesCard : Claim7 := { stood := { row := undoMakesRow, standIns := [], harness := (true, "1d2579ec5546b8780620499f1aaa36a763a3556bf67a3c3588e2fdbbe5c5180a"), looks := false }, kinds := [], alts := [], laidByText := true, laidKinds := [.data, .data, .data], laidTests := true, laidLooks := .later }
def UndoMakesCardSaid : Prop := Claim7.holds Tryz.pinned (.plain (OpenSpec.ofChange undoMakesSpec)) undoMakesCard

/-- THE TIED CARD OF 'tendrillaw30.UndoTwice'. -/
def undoTwiceCard : Claim7 := { stood := { row := undoTwiceRow, standIns := [], harness := (true, "1d2579ec5546b8780620499f1aaa36a763a3556bf67a3c3588e2fdbbe5c5180a"), looks := false }, kinds := [], alts := [], laidByText := true, laidKinds := [.data, .data, .data], laidTests := true, laidLooks := .later }
def UndoTwiceCardSaid : Prop := Claim7.holds Tryz.pinned (.plain (OpenSpec.ofChange undoTwiceSpec)) undoTwiceCard

/-- THE TIED CARD OF 'tendrillaw30.UndoCosts'. -/
def undoCostsCard : Claim7 := { stood := { row := undoCostsRow, standIns := [], harness := (true, "1d2579ec5546b8780620499f1aaa36a763a3556bf67a3c3588e2fdbbe5c5180a"), looks := false }, kinds := [], alts := [], laidByText := true, laidKinds := [.data, .data, .data], laidTests := true, laidLooks := .later }
def UndoCostsCardSaid : Prop := Claim7.holds Tryz.pinned (.plain (OpenSpec.ofChange undoCostsSpec)) undoCostsCard

/-- THE SECOND FORM's CARD OF 'tendrillaw27.PlainDom'. -/
def plainDomUptoCard : Claim7 := { stood := { row := plainDomUptoRow, standIns := [], harness := (true, "1d2579ec5546b8780620499f1aaa36a763a3556bf67a3c3588e2fdbbe5c5180a"), looks := false }, kinds := [], alts := [], laidByText := true, laidKinds := [.data, .data, .data], laidTests := true, laidLooks := .later }
def PlainDomUptoCardSaid : Prop := Claim7.holds Tryz.pinned (.plain (OpenSpec.upto plainDomSpec)) plainDomUptoCard

/-- THE SECOND FORM's CARD OF 'tendrillaw29.InterpRuns'. -/
def interpRunsUptoCard : Claim7 := { stood := { row := interpRunsUptoRow, standIns := [], harness := (true, "1d2579ec5546b8780620499f1aaa36a763a3556bf67a3c3588e2fdbbe5c5180a"), looks := false }, kinds := [], alts := [], laidByText := true, laidKinds := [.data, .data, .data], laidTests := true, laidLooks := .later }
def InterpRunsUptoCardSaid : Prop := Claim7.holds Tryz.pinned (.plain (OpenSpec.upto interpRunsSpec)) interpRunsUptoCard

/-- THE SECOND FORM's CARD OF 'tendrillaw29.InterpBuilds'. -/
def interpBuildsUptoCard : Claim7 := { stood := { row := interpBuildsUptoRow, standIns := [], harness := (true, "1d2579ec5546b8780620499f1aaa36a763a3556bf67a3c3588e2fdbbe5c5180a"), looks := false }, kinds := [], alts := [], laidByText := true, laidKinds := [.data, .data, .data], laidTests := true, laidLooks := .later }
def InterpBuildsUptoCardSaid : Prop := Claim7.holds Tryz.pinned (.plain (OpenSpec.upto interpBuildsSpec)) interpBuildsUptoCard

/-- THE SECOND FORM's CARD OF 'tendrillaw29.InterpValid'. -/
def interpValidUptoCard : Claim7 := { stood := { row := interpValidUptoRow, standIns := [], harness := (true, "1d2579ec5546b8780620499f1aaa36a763a3556bf67a3c3588e2fdbbe5c5180a"), looks := false }, kinds := [], alts := [], laidByText := true, laidKinds := [.data, .data, .data], laidTests := true, laidLooks := .later }
def InterpValidUptoCardSaid : Prop := Claim7.holds Tryz.pinned (.plain (OpenSpec.upto interpValidSpec)) interpValidUptoCard

/-- THE SECOND FORM's CARD OF 'tendrillaw28.ValidKept'. -/
def validKeptUptoCard : Claim7 := { stood := { row := validKeptUptoRow, standIns := [], harness := (true, "1d2579ec5546b8780620499f1aaa36a763a3556bf67a3c3588e2fdbbe5c5180a"), looks := false }, kinds := [], alts := [], laidByText := true, laidKinds := [.data, .data, .data], laidTests := true, laidLooks := .later }
def ValidKeptUptoCardSaid : Prop := Claim7.holds Tryz.pinned (.plain (OpenSpec.upto validKeptSpec)) validKeptUptoCard

/-- THE SECOND FORM's CARD OF 'tendrillaw30.UndoMakes'. -/
def undoMakesUptoCard : Claim7 := { stood := { row := undoMakesUptoRow, standIns := [], harness := (true, "1d2579ec5546b8780620499f1aaa36a763a3556bf67a3c3588e2fdbbe5c5180a"), looks := false }, kinds := [], alts := [], laidByText := true, laidKinds := [.data, .data, .data], laidTests := true, laidLooks := .later }
def UndoMakesUptoCardSaid : Prop := Claim7.holds Tryz.pinned (.plain (OpenSpec.upto undoMakesSpec)) undoMakesUptoCard

/-- THE SECOND FORM's CARD OF 'tendrillaw30.UndoTwice'. -/
def undoTwiceUptoCard : Claim7 := { stood := { row := undoTwiceUptoRow, standIns := [], harness := (true, "1d2579ec5546b8780620499f1aaa36a763a3556bf67a3c3588e2fdbbe5c5180a"), looks := false }, kinds := [], alts := [], laidByText := true, laidKinds := [.data, .data, .data], laidTests := true, laidLooks := .later }
def UndoTwiceUptoCardSaid : Prop := Claim7.holds Tryz.pinned (.plain (OpenSpec.upto undoTwiceSpec)) undoTwiceUptoCard

/-- THE SECOND FORM's CARD OF 'tendrillaw30.UndoCosts'. -/
def undoCostsUptoCard : Claim7 := { stood := { row := undoCostsUptoRow, standIns := [], harness := (true, "1d2579ec5546b8780620499f1aaa36a763a3556bf67a3c3588e2fdbbe5c5180a"), looks := false }, kinds := [], alts := [], laidByText := true, laidKinds := [.data, .data, .data], laidTests := true, laidLooks := .later }
def UndoCostsUptoCardSaid : Prop := Claim7.holds Tryz.pinned (.plain (OpenSpec.upto undoCostsSpec)) undoCostsUptoCard
end Rows
end Go.Proofs.YtbgbmdjfogohnaaGreatDoor
