/-
  NARROWER THAN 'FOR EVERY INPUT', by the rows' own cells (each row's printed sentence says how): PlainDom: laid · InterpRuns: laid · InterpBuilds: laid · InterpValid: laid · ValidKept: laid · UndoMakes: laid · UndoTwice: laid · UndoCosts: laid.
  DERIVED. THE GIVEN ROWS OF THIS SEAT. 8 by the template 'for every input the law returns true; each argument reads behind the call as it read before'; 0 by the template 'total and deterministic' (their statements: YtbgbmdjfogohnaaGreatDoorTotals.lean).
  GIVEN WITH THE SEED: the statements are not yours to turn. If you find one false, say at which input.
  Laid BY PROGRAM, IN A SANDBOX (cutbox-rows.mjs): the forced cells as the released guide's own fill.sh prints them over the translation c53a3436d5e1931f… (all of the seat's roots in one cut). By AI agents, Wed Nov 11 2026. No macro, syntax, notation, axiom, sorry.
-/
import Derived.Test.YtbgbmdjfogohnaaGreatDoorChecked
import GoSem.Claim
import GoSem.ClaimJoined
import GoSem.ClaimMapViews
import Derived.JoinedTies
import Derived.KernelRfl
namespace Go.Proofs.YtbgbmdjfogohnaaGreatDoor
/- THE CELL 'sum', in the pinned program and in every row, IS THE sha256 OF THE DUMP (.gsa) THAT YtbgbmdjfogohnaaGreatDoorProg.lean LOADS. Nothing in Lean hashes anything: it is a label: what it is worth is what the hold of that sum in a sandbox is worth. -/
noncomputable def Tryz.pinned : Pinned := { name := "ytbgbmdjfogohnaagreatdoor", sum := "c53a3436d5e1931fb09e2c05c47a375ac78aed2aa6147e3648ef7da1d157ddc6", checked := Tryz.checked }
namespace Rows
def none {H : Type} : Left H := { results := [], args := [] }

/- WHAT THE LISTED PACKAGE-LEVEL VARIABLES READ AS WHEN THE CALL BEGINS. Each datum BY PROGRAM (the guide's laid-datum.mjs) off the statement by which the dump's own 'gosem.cut.vars' lays the variable. In a bare row this is a premise. The card (YtbgbmdjfogohnaaGreatDoorCards.lean) ties it to the program's text. -/
def laid_math_bits_deBruijn32tab {H : Type} : DataW H := .agg [.lit (.int .u8 0), .lit (.int .u8 1), .lit (.int .u8 28), .lit (.int .u8 2), .lit (.int .u8 29), .lit (.int .u8 14), .lit (.int .u8 24), .lit (.int .u8 3), .lit (.int .u8 30), .lit (.int .u8 22), .lit (.int .u8 20), .lit (.int .u8 15), .lit (.int .u8 25), .lit (.int .u8 17), .lit (.int .u8 4), .lit (.int .u8 8), .lit (.int .u8 31), .lit (.int .u8 27), .lit (.int .u8 13), .lit (.int .u8 23), .lit (.int .u8 21), .lit (.int .u8 19), .lit (.int .u8 16), .lit (.int .u8 7), .lit (.int .u8 26), .lit (.int .u8 12), .lit (.int .u8 18), .lit (.int .u8 6), .lit (.int .u8 11), .lit (.int .u8 5), .lit (.int .u8 10), .lit (.int .u8 9)]
def laid_math_bits_deBruijn64tab {H : Type} : DataW H := .agg [.lit (.int .u8 0), .lit (.int .u8 1), .lit (.int .u8 56), .lit (.int .u8 2), .lit (.int .u8 57), .lit (.int .u8 49), .lit (.int .u8 28), .lit (.int .u8 3), .lit (.int .u8 61), .lit (.int .u8 58), .lit (.int .u8 42), .lit (.int .u8 50), .lit (.int .u8 38), .lit (.int .u8 29), .lit (.int .u8 17), .lit (.int .u8 4), .lit (.int .u8 62), .lit (.int .u8 47), .lit (.int .u8 59), .lit (.int .u8 36), .lit (.int .u8 45), .lit (.int .u8 43), .lit (.int .u8 51), .lit (.int .u8 22), .lit (.int .u8 53), .lit (.int .u8 39), .lit (.int .u8 33), .lit (.int .u8 30), .lit (.int .u8 24), .lit (.int .u8 18), .lit (.int .u8 12), .lit (.int .u8 5), .lit (.int .u8 63), .lit (.int .u8 55), .lit (.int .u8 48), .lit (.int .u8 27), .lit (.int .u8 60), .lit (.int .u8 41), .lit (.int .u8 37), .lit (.int .u8 16), .lit (.int .u8 46), .lit (.int .u8 35), .lit (.int .u8 44), .lit (.int .u8 21), .lit (.int .u8 52), .lit (.int .u8 32), .lit (.int .u8 23), .lit (.int .u8 11), .lit (.int .u8 54), .lit (.int .u8 26), .lit (.int .u8 40), .lit (.int .u8 15), .lit (.int .u8 34), .lit (.int .u8 20), .lit (.int .u8 31), .lit (.int .u8 10), .lit (.int .u8 25), .lit (.int .u8 14), .lit (.int .u8 19), .lit (.int .u8 9), .lit (.int .u8 13), .lit (.int .u8 8), .lit (.int .u8 7), .lit (.int .u8 6)]
def laid_internal_strconv_uint64pow10 {H : Type} : DataW H := .agg [.lit (.int .u64 1), .lit (.int .u64 10), .lit (.int .u64 100), .lit (.int .u64 1000), .lit (.int .u64 10000), .lit (.int .u64 100000), .lit (.int .u64 1000000), .lit (.int .u64 10000000), .lit (.int .u64 100000000), .lit (.int .u64 1000000000), .lit (.int .u64 10000000000), .lit (.int .u64 100000000000), .lit (.int .u64 1000000000000), .lit (.int .u64 10000000000000), .lit (.int .u64 100000000000000), .lit (.int .u64 1000000000000000), .lit (.int .u64 10000000000000000), .lit (.int .u64 100000000000000000), .lit (.int .u64 1000000000000000000), .lit (.int .u64 10000000000000000000)]

/-- 'tendrillaw27.PlainDom': WHATEVER THE INPUT: true; the input reads as it did. -/
def plainDomSpec : ChangeSpec := { name := "plainDom", fn := fun _ => fun
  | [d1, d2] => { results := [.lit (.bool true)], args := [d1, d2] }
  | _ => none }
def plainDomRow : OpenClaim := { program := "ytbgbmdjfogohnaagreatdoor", sum := "c53a3436d5e1931fb09e2c05c47a375ac78aed2aa6147e3648ef7da1d157ddc6", func := "tendril/tendrillaw27.PlainDom", spec := "plainDom", inPlace := ["internal/bytealg.IndexByteString", "slices.overlaps[int]", "slices.overlaps[tendril/api.Attr]"], unfollowed := true, recurses := true, named := ["internal/strconv.uint64pow10", "math/bits.deBruijn32tab", "math/bits.deBruijn64tab"], apart := false, laid := [("math/bits.deBruijn32tab", laid_math_bits_deBruijn32tab), ("math/bits.deBruijn64tab", laid_math_bits_deBruijn64tab), ("internal/strconv.uint64pow10", laid_internal_strconv_uint64pow10)] }
def PlainDomSaid : Prop := plainDomRow.holds Tryz.pinned (OpenSpec.ofChange plainDomSpec)

/-- ITS FALSE NEIGHBOUR: 'it returns false'. Refute it at one input. -/
def plainDomWrong : ChangeSpec := { name := "plainDom", fn := fun _ => fun
  | [d1, d2] => { results := [.lit (.bool false)], args := [d1, d2] }
  | _ => none }
def PlainDomWrongFalsely : Prop := plainDomRow.holds Tryz.pinned (OpenSpec.ofChange plainDomWrong)

/-- 'tendrillaw29.InterpRuns': WHATEVER THE INPUT: true; the input reads as it did. -/
def interpRunsSpec : ChangeSpec := { name := "interpRuns", fn := fun _ => fun
  | [d1, d2, d3] => { results := [.lit (.bool true)], args := [d1, d2, d3] }
  | _ => none }
def interpRunsRow : OpenClaim := { program := "ytbgbmdjfogohnaagreatdoor", sum := "c53a3436d5e1931fb09e2c05c47a375ac78aed2aa6147e3648ef7da1d157ddc6", func := "tendril/tendrillaw29.InterpRuns", spec := "interpRuns", inPlace := ["internal/bytealg.IndexByteString", "slices.overlaps[tendril/api.Attr]"], unfollowed := true, recurses := true, named := ["internal/strconv.uint64pow10", "math/bits.deBruijn32tab", "math/bits.deBruijn64tab"], apart := false, laid := [("math/bits.deBruijn32tab", laid_math_bits_deBruijn32tab), ("math/bits.deBruijn64tab", laid_math_bits_deBruijn64tab), ("internal/strconv.uint64pow10", laid_internal_strconv_uint64pow10)] }
def InterpRunsSaid : Prop := interpRunsRow.holds Tryz.pinned (OpenSpec.ofChange interpRunsSpec)

/-- ITS FALSE NEIGHBOUR: 'it returns false'. Refute it at one input. -/
def interpRunsWrong : ChangeSpec := { name := "interpRuns", fn := fun _ => fun
  | [d1, d2, d3] => { results := [.lit (.bool false)], args := [d1, d2, d3] }
  | _ => none }
def InterpRunsWrongFalsely : Prop := interpRunsRow.holds Tryz.pinned (OpenSpec.ofChange interpRunsWrong)

/-- 'tendrillaw29.InterpBuilds': WHATEVER THE INPUT: true; the input reads as it did. -/
def interpBuildsSpec : ChangeSpec := { name := "interpBuilds", fn := fun _ => fun
  | [d1, d2] => { results := [.lit (.bool true)], args := [d1, d2] }
  | _ => none }
def interpBuildsRow : OpenClaim := { program := "ytbgbmdjfogohnaagreatdoor", sum := "c53a3436d5e1931fb09e2c05c47a375ac78aed2aa6147e3648ef7da1d157ddc6", func := "tendril/tendrillaw29.InterpBuilds", spec := "interpBuilds", inPlace := ["internal/bytealg.IndexByteString", "slices.overlaps[tendril/api.Attr]"], unfollowed := true, recurses := true, named := ["internal/strconv.uint64pow10", "math/bits.deBruijn32tab", "math/bits.deBruijn64tab"], apart := false, laid := [("math/bits.deBruijn32tab", laid_math_bits_deBruijn32tab), ("math/bits.deBruijn64tab", laid_math_bits_deBruijn64tab), ("internal/strconv.uint64pow10", laid_internal_strconv_uint64pow10)] }
def InterpBuildsSaid : Prop := interpBuildsRow.holds Tryz.pinned (OpenSpec.ofChange interpBuildsSpec)

/-- ITS FALSE NEIGHBOUR: 'it returns false'. Refute it at one input. -/
def interpBuildsWrong : ChangeSpec := { name := "interpBuilds", fn := fun _ => fun
  | [d1, d2] => { results := [.lit (.bool false)], args := [d1, d2] }
  | _ => none }
def InterpBuildsWrongFalsely : Prop := interpBuildsRow.holds Tryz.pinned (OpenSpec.ofChange interpBuildsWrong)

/-- 'tendrillaw29.InterpValid': WHATEVER THE INPUT: true; the input reads as it did. -/
def interpValidSpec : ChangeSpec := { name := "interpValid", fn := fun _ => fun
  | [d1, d2, d3] => { results := [.lit (.bool true)], args := [d1, d2, d3] }
  | _ => none }
def interpValidRow : OpenClaim := { program := "ytbgbmdjfogohnaagreatdoor", sum := "c53a3436d5e1931fb09e2c05c47a375ac78aed2aa6147e3648ef7da1d157ddc6", func := "tendril/tendrillaw29.InterpValid", spec := "interpValid", inPlace := ["internal/bytealg.IndexByteString", "slices.overlaps[tendril/api.Attr]"], unfollowed := true, recurses := true, named := ["internal/strconv.uint64pow10", "math/bits.deBruijn32tab", "math/bits.deBruijn64tab"], apart := false, laid := [("math/bits.deBruijn32tab", laid_math_bits_deBruijn32tab), ("math/bits.deBruijn64tab", laid_math_bits_deBruijn64tab), ("internal/strconv.uint64pow10", laid_internal_strconv_uint64pow10)] }
def InterpValidSaid : Prop := interpValidRow.holds Tryz.pinned (OpenSpec.ofChange interpValidSpec)

/-- ITS FALSE NEIGHBOUR: 'it returns false'. Refute it at one input. -/
def interpValidWrong : ChangeSpec := { name := "interpValid", fn := fun _ => fun
  | [d1, d2, d3] => { results := [.lit (.bool false)], args := [d1, d2, d3] }
  | _ => none }
def InterpValidWrongFalsely : Prop := interpValidRow.holds Tryz.pinned (OpenSpec.ofChange interpValidWrong)

/-- 'tendrillaw28.ValidKept': WHATEVER THE INPUT: true; the input reads as it did. -/
def validKeptSpec : ChangeSpec := { name := "validKept", fn := fun _ => fun
  | [d1, d2] => { results := [.lit (.bool true)], args := [d1, d2] }
  | _ => none }
def validKeptRow : OpenClaim := { program := "ytbgbmdjfogohnaagreatdoor", sum := "c53a3436d5e1931fb09e2c05c47a375ac78aed2aa6147e3648ef7da1d157ddc6", func := "tendril/tendrillaw28.ValidKept", spec := "validKept", inPlace := ["internal/bytealg.IndexByteString", "slices.overlaps[int]", "slices.overlaps[tendril/api.Attr]"], unfollowed := true, recurses := true, named := ["internal/strconv.uint64pow10", "math/bits.deBruijn32tab", "math/bits.deBruijn64tab"], apart := false, laid := [("math/bits.deBruijn32tab", laid_math_bits_deBruijn32tab), ("math/bits.deBruijn64tab", laid_math_bits_deBruijn64tab), ("internal/strconv.uint64pow10", laid_internal_strconv_uint64pow10)] }
def ValidKeptSaid : Prop := validKeptRow.holds Tryz.pinned (OpenSpec.ofChange validKeptSpec)

/-- ITS FALSE NEIGHBOUR: 'it returns false'. Refute it at one input. -/
def validKeptWrong : ChangeSpec := { name := "validKept", fn := fun _ => fun
  | [d1, d2] => { results := [.lit (.bool false)], args := [d1, d2] }
  | _ => none }
def ValidKeptWrongFalsely : Prop := validKeptRow.holds Tryz.pinned (OpenSpec.ofChange validKeptWrong)

/-- 'tendrillaw30.UndoMakes': WHATEVER THE INPUT: true; the input reads as it did. -/
def undoMakesSpec : ChangeSpec := { name := "undoMakes", fn := fun _ => fun
  | [d1, d2] => { results := [.lit (.bool true)], args := [d1, d2] }
  | _ => none }
def undoMakesRow : OpenClaim := { program := "ytbgbmdjfogohnaagreatdoor", sum := "c53a3436d5e1931fb09e2c05c47a375ac78aed2aa6147e3648ef7da1d157ddc6", func := "tendril/tendrillaw30.UndoMakes", spec := "undoMakes", inPlace := ["internal/bytealg.IndexByteString", "slices.overlaps[int]", "slices.overlaps[tendril/api.Attr]"], unfollowed := true, recurses := true, named := ["internal/strconv.uint64pow10", "math/bits.deBruijn32tab", "math/bits.deBruijn64tab"], apart := false, laid := [("math/bits.deBruijn32tab", laid_math_bits_deBruijn32tab), ("math/bits.deBruijn64tab", laid_math_bits_deBruijn64tab), ("internal/strconv.uint64pow10", laid_internal_strconv_uint64pow10)] }
def UndoMakesSaid : Prop := undoMakesRow.holds Tryz.pinned (OpenSpec.ofChange undoMakesSpec)

/-- ITS FALSE NEIGHBOUR: 'it returns false'. Refute it at one input. -/
def undoMakesWrong : ChangeSpec := { name := "undoMakes", fn := fun _ => fun
  | [d1, d2] => { results := [.lit (.bool false)], args := [d1, d2] }
  | _ => none }
def UndoMakesWrongFalsely : Prop := undoMakesRow.holds Tryz.pinned (OpenSpec.ofChange undoMakesWrong)

/-- 'tendrillaw30.UndoTwice': WHATEVER THE INPUT: true; the input reads as it did. -/
def undoTwiceSpec : ChangeSpec := { name := "undoTwice", fn := fun _ => fun
  | [d1, d2] => { results := [.lit (.bool true)], args := [d1, d2] }
  | _ => none }
def undoTwiceRow : OpenClaim := { program := "ytbgbmdjfogohnaagreatdoor", sum := "c53a3436d5e1931fb09e2c05c47a375ac78aed2aa6147e3648ef7da1d157ddc6", func := "tendril/tendrillaw30.UndoTwice", spec := "undoTwice", inPlace := ["internal/bytealg.IndexByteString", "slices.overlaps[int]", "slices.overlaps[tendril/api.Attr]"], unfollowed := true, recurses := true, named := ["internal/strconv.uint64pow10", "math/bits.deBruijn32tab", "math/bits.deBruijn64tab"], apart := false, laid := [("math/bits.deBruijn32tab", laid_math_bits_deBruijn32tab), ("math/bits.deBruijn64tab", laid_math_bits_deBruijn64tab), ("internal/strconv.uint64pow10", laid_internal_strconv_uint64pow10)] }
def UndoTwiceSaid : Prop := undoTwiceRow.holds Tryz.pinned (OpenSpec.ofChange undoTwiceSpec)

/-- ITS FALSE NEIGHBOUR: 'it returns false'. Refute it at one input. -/
def undoTwiceWrong : ChangeSpec := { name := "undoTwice", fn := fun _ => fun
  | [d1, d2] => { results := [.lit (.bool false)], args := [d1, d2] }
  | _ => none }
def UndoTwiceWrongFalsely : Prop := undoTwiceRow.holds Tryz.pinned (OpenSpec.ofChange undoTwiceWrong)

/-- 'tendrillaw30.UndoCosts': WHATEVER THE INPUT: true; the input reads as it did. -/
def undoCostsSpec : ChangeSpec := { name := "undoCosts", fn := fun _ => fun
  | [d1, d2] => { results := [.lit (.bool true)], args := [d1, d2] }
  | _ => none }
def undoCostsRow : OpenClaim := { program := "ytbgbmdjfogohnaagreatdoor", sum := "c53a3436d5e1931fb09e2c05c47a375ac78aed2aa6147e3648ef7da1d157ddc6", func := "tendril/tendrillaw30.UndoCosts", spec := "undoCosts", inPlace := ["internal/bytealg.IndexByteString", "slices.overlaps[int]", "slices.overlaps[tendril/api.Attr]"], unfollowed := true, recurses := true, named := ["internal/strconv.uint64pow10", "math/bits.deBruijn32tab", "math/bits.deBruijn64tab"], apart := false, laid := [("math/bits.deBruijn32tab", laid_math_bits_deBruijn32tab), ("math/bits.deBruijn64tab", laid_math_bits_deBruijn64tab), ("internal/strconv.uint64pow10", laid_internal_strconv_uint64pow10)] }
def UndoCostsSaid : Prop := undoCostsRow.holds Tryz.pinned (OpenSpec.ofChange undoCostsSpec)

/-- ITS FALSE NEIGHBOUR: 'it returns false'. Refute it at one input. -/
def undoCostsWrong : ChangeSpec := { name := "undoCosts", fn := fun _ => fun
  | [d1, d2] => { results := [.lit (.bool false)], args := [d1, d2] }
  | _ => none }
def UndoCostsWrongFalsely : Prop := undoCostsRow.holds Tryz.pinned (OpenSpec.ofChange undoCostsWrong)

/- THE SECOND FORM. 'bulk': how many values and letters a reading holds, each counted each time it is reached (what is shared counts as often as it is met; a slice's spare places count too). A statement '..UptoSaid' is the law's where the arguments, and the package variables that the reading takes, are together of bulk at most 1048576: NARROWER than '..Said'. Prove '..Said' where nothing that the law and all that it calls make is longer than what came in: it says more and counts as full. Else prove '..UptoSaid'. A law counts once. -/
mutual
def uptoBulk {H : Type} : DataW H → Nat
  | .lit (.string bytes) => bytes.length + 1
  | .lit _ => 1
  | .nil => 1
  | .ptr d => uptoBulk d + 1
  | .slice elems spare => uptoBulkAll elems + uptoBulkAll spare + 1
  | .agg parts => uptoBulkAll parts + 1
  | .iface _ d => uptoBulk d + 1
  | .map entries => uptoBulkEntries entries + 1
  | .held _ => 1
def uptoBulkAll {H : Type} : List (DataW H) → Nat
  | [] => 0
  | d :: r => uptoBulk d + uptoBulkAll r
def uptoBulkEntries {H : Type} : List (Lit × DataW H) → Nat
  | [] => 0
  | x :: r => uptoBulkEntry x + uptoBulkEntries r
def uptoBulkEntry {H : Type} : Lit × DataW H → Nat
  | (.string bytes, d) => bytes.length + uptoBulk d + 1
  | (_, d) => uptoBulk d + 1
 end
def uptoSmall : (H : Type) → List (DataW H) → Bool := fun _ ds => decide (uptoBulkAll ds ≤ 1048576)
def OpenSpec.upto (s : _root_.Go.ChangeSpec) : _root_.Go.OpenSpec := { _root_.Go.OpenSpec.ofChange s with cond := some uptoSmall }

/-- 'tendrillaw27.PlainDom', WHERE WHAT IT READS IS OF BULK AT MOST 1048576: true; the input reads as it did. -/
def plainDomUptoRow : OpenClaim := { program := "ytbgbmdjfogohnaagreatdoor", sum := "c53a3436d5e1931fb09e2c05c47a375ac78aed2aa6147e3648ef7da1d157ddc6", func := "tendril/tendrillaw27.PlainDom", spec := "plainDom", inPlace := ["internal/bytealg.IndexByteString", "slices.overlaps[int]", "slices.overlaps[tendril/api.Attr]"], unfollowed := true, recurses := true, named := ["internal/strconv.uint64pow10", "math/bits.deBruijn32tab", "math/bits.deBruijn64tab"], apart := false, laid := [("math/bits.deBruijn32tab", laid_math_bits_deBruijn32tab), ("math/bits.deBruijn64tab", laid_math_bits_deBruijn64tab), ("internal/strconv.uint64pow10", laid_internal_strconv_uint64pow10)], narrowed := true }
def PlainDomUptoSaid : Prop := plainDomUptoRow.holds Tryz.pinned (OpenSpec.upto plainDomSpec)

/-- 'tendrillaw29.InterpRuns', WHERE WHAT IT READS IS OF BULK AT MOST 1048576: true; the input reads as it did. -/
def interpRunsUptoRow : OpenClaim := { program := "ytbgbmdjfogohnaagreatdoor", sum := "c53a3436d5e1931fb09e2c05c47a375ac78aed2aa6147e3648ef7da1d157ddc6", func := "tendril/tendrillaw29.InterpRuns", spec := "interpRuns", inPlace := ["internal/bytealg.IndexByteString", "slices.overlaps[tendril/api.Attr]"], unfollowed := true, recurses := true, named := ["internal/strconv.uint64pow10", "math/bits.deBruijn32tab", "math/bits.deBruijn64tab"], apart := false, laid := [("math/bits.deBruijn32tab", laid_math_bits_deBruijn32tab), ("math/bits.deBruijn64tab", laid_math_bits_deBruijn64tab), ("internal/strconv.uint64pow10", laid_internal_strconv_uint64pow10)], narrowed := true }
def InterpRunsUptoSaid : Prop := interpRunsUptoRow.holds Tryz.pinned (OpenSpec.upto interpRunsSpec)

/-- 'tendrillaw29.InterpBuilds', WHERE WHAT IT READS IS OF BULK AT MOST 1048576: true; the input reads as it did. -/
def interpBuildsUptoRow : OpenClaim := { program := "ytbgbmdjfogohnaagreatdoor", sum := "c53a3436d5e1931fb09e2c05c47a375ac78aed2aa6147e3648ef7da1d157ddc6", func := "tendril/tendrillaw29.InterpBuilds", spec := "interpBuilds", inPlace := ["internal/bytealg.IndexByteString", "slices.overlaps[tendril/api.Attr]"], unfollowed := true, recurses := true, named := ["internal/strconv.uint64pow10", "math/bits.deBruijn32tab", "math/bits.deBruijn64tab"], apart := false, laid := [("math/bits.deBruijn32tab", laid_math_bits_deBruijn32tab), ("math/bits.deBruijn64tab", laid_math_bits_deBruijn64tab), ("internal/strconv.uint64pow10", laid_internal_strconv_uint64pow10)], narrowed := true }
def InterpBuildsUptoSaid : Prop := interpBuildsUptoRow.holds Tryz.pinned (OpenSpec.upto interpBuildsSpec)

/-- 'tendrillaw29.InterpValid', WHERE WHAT IT READS IS OF BULK AT MOST 1048576: true; the input reads as it did. -/
def interpValidUptoRow : OpenClaim := { program := "ytbgbmdjfogohnaagreatdoor", sum := "c53a3436d5e1931fb09e2c05c47a375ac78aed2aa6147e3648ef7da1d157ddc6", func := "tendril/tendrillaw29.InterpValid", spec := "interpValid", inPlace := ["internal/bytealg.IndexByteString", "slices.overlaps[tendril/api.Attr]"], unfollowed := true, recurses := true, named := ["internal/strconv.uint64pow10", "math/bits.deBruijn32tab", "math/bits.deBruijn64tab"], apart := false, laid := [("math/bits.deBruijn32tab", laid_math_bits_deBruijn32tab), ("math/bits.deBruijn64tab", laid_math_bits_deBruijn64tab), ("internal/strconv.uint64pow10", laid_internal_strconv_uint64pow10)], narrowed := true }
def InterpValidUptoSaid : Prop := interpValidUptoRow.holds Tryz.pinned (OpenSpec.upto interpValidSpec)

/-- 'tendrillaw28.ValidKept', WHERE WHAT IT READS IS OF BULK AT MOST 1048576: true; the input reads as it did. -/
def validKeptUptoRow : OpenClaim := { program := "ytbgbmdjfogohnaagreatdoor", sum := "c53a3436d5e1931fb09e2c05c47a375ac78aed2aa6147e3648ef7da1d157ddc6", func := "tendril/tendrillaw28.ValidKept", spec := "validKept", inPlace := ["internal/bytealg.IndexByteString", "slices.overlaps[int]", "slices.overlaps[tendril/api.Attr]"], unfollowed := true, recurses := true, named := ["internal/strconv.uint64pow10", "math/bits.deBruijn32tab", "math/bits.deBruijn64tab"], apart := false, laid := [("math/bits.deBruijn32tab", laid_math_bits_deBruijn32tab), ("math/bits.deBruijn64tab", laid_math_bits_deBruijn64tab), ("internal/strconv.uint64pow10", laid_internal_strconv_uint64pow10)], narrowed := true }
def ValidKeptUptoSaid : Prop := validKeptUptoRow.holds Tryz.pinned (OpenSpec.upto validKeptSpec)

/-- 'tendrillaw30.UndoMakes', WHERE WHAT IT READS IS OF BULK AT MOST 1048576: true; the input reads as it did. -/
def undoMakesUptoRow : OpenClaim := { program := "ytbgbmdjfogohnaagreatdoor", sum := "c53a3436d5e1931fb09e2c05c47a375ac78aed2aa6147e3648ef7da1d157ddc6", func := "tendril/tendrillaw30.UndoMakes", spec := "undoMakes", inPlace := ["internal/bytealg.IndexByteString", "slices.overlaps[int]", "slices.overlaps[tendril/api.Attr]"], unfollowed := true, recurses := true, named := ["internal/strconv.uint64pow10", "math/bits.deBruijn32tab", "math/bits.deBruijn64tab"], apart := false, laid := [("math/bits.deBruijn32tab", laid_math_bits_deBruijn32tab), ("math/bits.deBruijn64tab", laid_math_bits_deBruijn64tab), ("internal/strconv.uint64pow10", laid_internal_strconv_uint64pow10)], narrowed := true }
def UndoMakesUptoSaid : Prop := undoMakesUptoRow.holds Tryz.pinned (OpenSpec.upto undoMakesSpec)

/-- 'tendrillaw30.UndoTwice', WHERE WHAT IT READS IS OF BULK AT MOST 1048576: true; the input reads as it did. -/
def undoTwiceUptoRow : OpenClaim := { program := "ytbgbmdjfogohnaagreatdoor", sum := "c53a3436d5e1931fb09e2c05c47a375ac78aed2aa6147e3648ef7da1d157ddc6", func := "tendril/tendrillaw30.UndoTwice", spec := "undoTwice", inPlace := ["internal/bytealg.IndexByteString", "slices.overlaps[int]", "slices.overlaps[tendril/api.Attr]"], unfollowed := true, recurses := true, named := ["internal/strconv.uint64pow10", "math/bits.deBruijn32tab", "math/bits.deBruijn64tab"], apart := false, laid := [("math/bits.deBruijn32tab", laid_math_bits_deBruijn32tab), ("math/bits.deBruijn64tab", laid_math_bits_deBruijn64tab), ("internal/strconv.uint64pow10", laid_internal_strconv_uint64pow10)], narrowed := true }
def UndoTwiceUptoSaid : Prop := undoTwiceUptoRow.holds Tryz.pinned (OpenSpec.upto undoTwiceSpec)

/-- 'tendrillaw30.UndoCosts', WHERE WHAT IT READS IS OF BULK AT MOST 1048576: true; the input reads as it did. -/
def undoCostsUptoRow : OpenClaim := { program := "ytbgbmdjfogohnaagreatdoor", sum := "c53a3436d5e1931fb09e2c05c47a375ac78aed2aa6147e3648ef7da1d157ddc6", func := "tendril/tendrillaw30.UndoCosts", spec := "undoCosts", inPlace := ["internal/bytealg.IndexByteString", "slices.overlaps[int]", "slices.overlaps[tendril/api.Attr]"], unfollowed := true, recurses := true, named := ["internal/strconv.uint64pow10", "math/bits.deBruijn32tab", "math/bits.deBruijn64tab"], apart := false, laid := [("math/bits.deBruijn32tab", laid_math_bits_deBruijn32tab), ("math/bits.deBruijn64tab", laid_math_bits_deBruijn64tab), ("internal/strconv.uint64pow10", laid_internal_strconv_uint64pow10)], narrowed := true }
def UndoCostsUptoSaid : Prop := undoCostsUptoRow.holds Tryz.pinned (OpenSpec.upto undoCostsSpec)

end Rows
end Go.Proofs.YtbgbmdjfogohnaaGreatDoor
