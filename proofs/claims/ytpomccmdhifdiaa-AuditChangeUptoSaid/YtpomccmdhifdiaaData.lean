/- The program's data, as Lean has them. -/
import Derived.Test.YtpomccmdhifdiaaSym
set_option linter.unusedVariables false
namespace Go.TA

abbrev Bs := List UInt8
structure Attr where
  name : Bs
  value : Bs
  deriving DecidableEq
def Attr.pv (a : Attr) : List PV := [.str a.name, .str a.value]
structure GOp where
  kind : Int
  node : Int
  up : Int
  before : Int
  tag : Bs
  key : Bs
  name : Bs
  text : Bs
  attrs : List Attr
  deriving DecidableEq
def attrsPV (l : List Attr) : PV := .list (l.map Attr.pv)
def GOp.pv (x : GOp) : List PV := [.int .i64 x.kind, .int .i64 x.node, .int .i64 x.up, .int .i64 x.before, .str x.tag, .str x.key, .str x.name, .str x.text, attrsPV x.attrs]

/-- What is left behind attributes. -/
def attrsLeft : List Attr → Int → Int
  | [], left => left
  | a :: l, left => attrsLeft l (left - ((a.value.length : Int) + a.name.length).tdiv 4096)
def fewOpsL : List GOp → Int → Option Int
  | [], left => some left
  | x :: l, left => if left - 1 - x.attrs.length - ((x.text.length : Int) + x.key.length + x.tag.length + x.name.length).tdiv 4096 < 0 then none
    else fewOpsL l (attrsLeft x.attrs (left - 1 - x.attrs.length - ((x.text.length : Int) + x.key.length + x.tag.length + x.name.length).tdiv 4096))
def fewOps (l : List GOp) (most : Int) : Bool := match fewOpsL l most with
  | some n => decide (n ≥ 0)
  | none => false

theorem wrap_id {x : Int} (h1 : -9223372036854775808 ≤ x) (h2 : x ≤ 9223372036854775807) : IntKind.i64.wrap x = x := by
  have : ∀ y : Int, IntKind.i64.wrap y = if 9223372036854775808 ≤ y % 18446744073709551616 then y % 18446744073709551616 - 18446744073709551616 else y % 18446744073709551616 := by
    intro y
    simp [IntKind.wrap, IntKind.signed, IntKind.bits]
  rw [this]
  split <;> omega
end Go.TA
