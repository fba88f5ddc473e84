/- Rows, as Lean has them. -/
import Derived.Test.YtpomccmdhifdiaaDec
import Derived.Test.YtpomccmdhifdiaaLoop
set_option linter.unusedVariables false
set_option linter.unusedSimpArgs false
namespace Go.TA
structure GRow where
  id : Int
  up : Int
  tag : Bs
  key : Bs
  text : Bs
  attrs : List Attr
  deriving DecidableEq
def GRow.pv (x : GRow) : List PV := [.int .i64 x.id, .int .i64 x.up, .str x.tag, .str x.key, .str x.text, attrsPV x.attrs]
def rowSh (a : Nat) : List Sh := [.int .i64, .int .i64, .str, .str, .str, .sl a]
def GRow.ok (x : GRow) : Prop := i64ok x.id ∧ i64ok x.up
section
variable {tb : Nat → Option (List Sh)}
theorem dec_row {a : Nat} (ha : tb a = some [.str, .str]) {ps : List PV} (h : okVs tb (rowSh a) ps) : ∃ x : GRow, ps = x.pv ∧ x.ok := by
  unfold rowSh at h
  obtain ⟨k, r1, rfl, w1, h1⟩ := dec_int h
  obtain ⟨n, r2, rfl, w2, h2⟩ := dec_int h1
  obtain ⟨s1, r5, rfl, h5⟩ := dec_str h2
  obtain ⟨s2, r6, rfl, h6⟩ := dec_str h5
  obtain ⟨s3, r7, rfl, h7⟩ := dec_str h6
  obtain ⟨xs, r9, rfl, hx, h9⟩ := dec_list ha h7
  obtain rfl := dec_nil h9
  obtain ⟨l, rfl⟩ := dec_attrs hx
  exact ⟨⟨k, n, s1, s2, s3, l⟩, rfl, wf_i64 w1, wf_i64 w2⟩
theorem dec_rows {a : Nat} (ha : tb a = some [.str, .str]) : ∀ {xs : List (List PV)}, okVss tb (rowSh a) xs → ∃ l : List GRow, xs = l.map GRow.pv ∧ ∀ x ∈ l, x.ok
  | [], _ => ⟨[], rfl, by simp⟩
  | x :: xs, h => by
    simp only [okVss] at h
    obtain ⟨l, rfl, hl⟩ := dec_rows ha h.2
    obtain ⟨y, rfl, hy⟩ := dec_row ha h.1
    exact ⟨y :: l, rfl, by simpa using ⟨hy, hl⟩⟩
end
/-! ### sizes -/
def smallAttrs (l : List Attr) : Prop := ∀ a ∈ l, a.value.length + a.name.length ≤ 1048576
structure GRow.small (n : Nat) (x : GRow) : Prop where
  attrs : x.attrs.length < n
  small : smallAttrs x.attrs
  text : x.text.length + x.key.length + x.tag.length ≤ 1048576
structure Rows.small (n : Nat) (l : List GRow) : Prop where
  len : l.length < n
  row : ∀ x ∈ l, x.small n
theorem bulk_row (x : GRow) : bulkL x.pv = 5 + x.tag.length + x.key.length + x.text.length + bulkLL (x.attrs.map Attr.pv) + 1 := by
  simp only [GRow.pv, attrsPV, bulkL, PV.bulk]; omega
theorem small_row {n : Nat} {x : GRow} (h : bulkL x.pv ≤ n) (hn : n ≤ 1048576) : x.small n := by
  rw [bulk_row] at h
  obtain ⟨h1, h2⟩ := bulk_attrs x.attrs
  exact ⟨by omega, fun a ha => by have := h1 a ha; omega, by omega⟩
theorem bulk_rows : ∀ (l : List GRow), (∀ x ∈ l, bulkL x.pv ≤ bulkLL (l.map GRow.pv)) ∧ l.length ≤ bulkLL (l.map GRow.pv)
  | [] => by simp [bulkLL]
  | a :: l => by
    obtain ⟨h1, h2⟩ := bulk_rows l
    have := bulk_row a
    simp only [List.map_cons, bulkLL, List.length_cons]
    refine ⟨fun b hb => ?_, by omega⟩
    rcases List.mem_cons.1 hb with rfl | hb
    · omega
    · have := h1 b hb; omega
theorem small_rows {n : Nat} {l : List GRow} (h : bulkLL (l.map GRow.pv) < n) (hn : n ≤ 1048577) : Rows.small n l := by
  obtain ⟨h1, h2⟩ := bulk_rows l
  refine ⟨by omega, fun x hx => ?_⟩
  have h3 := h1 x hx
  have h4 := small_row (n := n - 1) (x := x) (by omega) (by omega)
  exact ⟨by have := h4.attrs; omega, h4.small, h4.text⟩
end Go.TA
