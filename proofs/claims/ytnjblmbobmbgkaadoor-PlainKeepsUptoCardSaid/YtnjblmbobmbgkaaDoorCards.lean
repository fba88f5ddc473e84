/-
  DERIVED. GIVEN WITH THE SEED: THE CARDS: each row of YtnjblmbobmbgkaaDoorRows.lean that lists a variable, with what it lists TIED to the program's text (the seventh form; the later family's looks); each row that meets fmt, with fmt's text TOLD by the authors' own Lean function (tested against real Go, not proved from fmt's source: count such statements apart). THE CARD IS WHAT COUNTS. Prove the row's statement (the work); the ties are given (YtnjblmbobmbgkaaDoorTie.lean); close each card by the builder's one call (the guide's Derived/Test/ToyasCard.lean, 'card_holds'). Laid BY PROGRAM, IN A SANDBOX (cutbox-door.mjs). By AI agents, Wed Nov 11 2026. No macro, syntax, notation, axiom, sorry.
-/
import Derived.Test.YtnjblmbobmbgkaaDoorRows
import GoSem.ClaimSeven
namespace Go.Proofs.YtnjblmbobmbgkaaDoor
namespace Rows

/-- THE TIED CARD OF 'tendrillaw27.PlainKeeps'. -/
def plainKeepsCard : Claim7 := { stood := { row := plainKeepsRow, standIns := [], harness := (true, "517653ba66e5df3f2ecd29fb85d6bb25200f38138636d69e9a81711c6c14ffa5"), looks := false }, kinds := [], alts := [], laidByText := true, laidKinds := [.data, .data, .data], laidTests := true, laidLooks := .later }
def PlainKeepsCardSaid : Prop := Claim7.holds Tryd.pinned (.plain (OpenSpec.ofChange plainKeepsSpec)) plainKeepsCard

/-- THE TIED CARD OF 'tendrillaw28.ValidNone'. -/
def validNoneCard : Claim7 := { stood := { row := validNoneRow, standIns := [], harness := (true, "517653ba66e5df3f2ecd29fb85d6bb25200f38138636d69e9a81711c6c14ffa5"), looks := false }, kinds := [], alts := [], laidByText := true, laidKinds := [.data, .data, .data], laidTests := true, laidLooks := .later }
def ValidNoneCardSaid : Prop := Claim7.holds Tryd.pinned (.plain (OpenSpec.ofChange validNoneSpec)) validNoneCard

/-- THE SECOND FORM's CARD OF 'tendrillaw27.PlainKeeps'. -/
def plainKeepsUptoCard : Claim7 := { stood := { row := plainKeepsUptoRow, standIns := [], harness := (true, "517653ba66e5df3f2ecd29fb85d6bb25200f38138636d69e9a81711c6c14ffa5"), looks := false }, kinds := [], alts := [], laidByText := true, laidKinds := [.data, .data, .data], laidTests := true, laidLooks := .later }
def PlainKeepsUptoCardSaid : Prop := Claim7.holds Tryd.pinned (.plain (OpenSpec.upto plainKeepsSpec)) plainKeepsUptoCard

/-- THE SECOND FORM's CARD OF 'tendrillaw28.ValidNone'. -/
def validNoneUptoCard : Claim7 := { stood := { row := validNoneUptoRow, standIns := [], harness := (true, "517653ba66e5df3f2ecd29fb85d6bb25200f38138636d69e9a81711c6c14ffa5"), looks := false }, kinds := [], alts := [], laidByText := true, laidKinds := [.data, .data, .data], laidTests := true, laidLooks := .later }
def ValidNoneUptoCardSaid : Prop := Claim7.holds Tryd.pinned (.plain (OpenSpec.upto validNoneSpec)) validNoneUptoCard
end Rows
end Go.Proofs.YtnjblmbobmbgkaaDoor
