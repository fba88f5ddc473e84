/- Values of the machine, read as data. -/
import Derived.Test.YtpomccmdhifdiaaData
import Derived.Test.YtpomccmdhifdiaaRoad
set_option linter.unusedVariables false
set_option linter.unusedSimpArgs false
namespace Go.TA
section
variable {tb : Nat → Option (List Sh)}
theorem dec_str {l : List Sh} {ps : List PV} (h : okVs tb (.str :: l) ps) : ∃ s r, ps = .str s :: r ∧ okVs tb l r := by
  cases ps with
  | nil => simp [okVs] at h
  | cons p r =>
    simp only [okVs] at h
    cases p <;> simp [okV] at h
    exact ⟨_, r, rfl, h⟩
theorem dec_int {k : IntKind} {l : List Sh} {ps : List PV} (h : okVs tb (.int k :: l) ps) : ∃ n r, ps = .int k n :: r ∧ (Lit.int k n).wf = true ∧ okVs tb l r := by
  cases ps with
  | nil => simp [okVs] at h
  | cons p r =>
    simp only [okVs] at h
    cases p <;> simp [okV] at h
    obtain ⟨⟨rfl, hw⟩, hr⟩ := h
    exact ⟨_, r, rfl, hw, hr⟩
theorem dec_list {e : Nat} {l : List Sh} {ps : List PV} {es : List Sh} (ht : tb e = some es) (h : okVs tb (.sl e :: l) ps) : ∃ xs r, ps = .list xs :: r ∧ okVss tb es xs ∧ okVs tb l r := by
  cases ps with
  | nil => simp [okVs] at h
  | cons p r =>
    simp only [okVs] at h
    cases p <;> simp [okV, ht] at h
    exact ⟨_, r, rfl, h.1, h.2⟩
theorem dec_nil {ps : List PV} (h : okVs tb [] ps) : ps = [] := by
  cases ps with
  | nil => rfl
  | cons p r => simp [okVs] at h
def i64ok (n : Int) : Prop := -9223372036854775808 ≤ n ∧ n ≤ 9223372036854775807
theorem wf_i64 {n : Int} (h : (Lit.int .i64 n).wf = true) : i64ok n := by
  simpa [Lit.wf, IntKind.min, IntKind.max, IntKind.signed, IntKind.bits, i64ok] using h
theorem dec_attrs : ∀ {xs : List (List PV)}, okVss tb [.str, .str] xs → ∃ l : List Attr, xs = l.map Attr.pv
  | [], _ => ⟨[], rfl⟩
  | x :: xs, h => by
    simp only [okVss] at h
    obtain ⟨l, rfl⟩ := dec_attrs h.2
    obtain ⟨a, r1, rfl, h1⟩ := dec_str h.1
    obtain ⟨b, r2, rfl, h2⟩ := dec_str h1
    obtain rfl := dec_nil h2
    exact ⟨⟨a, b⟩ :: l, rfl⟩
def opSh (a : Nat) : List Sh := [.int .i64, .int .i64, .int .i64, .int .i64, .str, .str, .str, .str, .sl a]
def GOp.ok (x : GOp) : Prop := i64ok x.kind ∧ i64ok x.node ∧ i64ok x.up ∧ i64ok x.before
theorem dec_op {a : Nat} (ha : tb a = some [.str, .str]) {ps : List PV} (h : okVs tb (opSh a) ps) : ∃ x : GOp, ps = x.pv ∧ x.ok := by
  unfold opSh at h
  obtain ⟨k, r1, rfl, w1, h1⟩ := dec_int h
  obtain ⟨n, r2, rfl, w2, h2⟩ := dec_int h1
  obtain ⟨u, r3, rfl, w3, h3⟩ := dec_int h2
  obtain ⟨b, r4, rfl, w4, h4⟩ := dec_int h3
  obtain ⟨s1, r5, rfl, h5⟩ := dec_str h4
  obtain ⟨s2, r6, rfl, h6⟩ := dec_str h5
  obtain ⟨s3, r7, rfl, h7⟩ := dec_str h6
  obtain ⟨s4, r8, rfl, h8⟩ := dec_str h7
  obtain ⟨xs, r9, rfl, hx, h9⟩ := dec_list ha h8
  obtain rfl := dec_nil h9
  obtain ⟨l, rfl⟩ := dec_attrs hx
  exact ⟨⟨k, n, u, b, s1, s2, s3, s4, l⟩, rfl, wf_i64 w1, wf_i64 w2, wf_i64 w3, wf_i64 w4⟩
theorem dec_ops {a : Nat} (ha : tb a = some [.str, .str]) : ∀ {xs : List (List PV)}, okVss tb (opSh a) xs → ∃ l : List GOp, xs = l.map GOp.pv ∧ ∀ x ∈ l, x.ok
  | [], _ => ⟨[], rfl, by simp⟩
  | x :: xs, h => by
    simp only [okVss] at h
    obtain ⟨l, rfl, hl⟩ := dec_ops ha h.2
    obtain ⟨y, rfl, hy⟩ := dec_op ha h.1
    exact ⟨y :: l, rfl, by simpa using ⟨hy, hl⟩⟩
/-! ### sizes -/
theorem bulk_attrs : ∀ (l : List Attr), (∀ a ∈ l, a.value.length + a.name.length + 2 ≤ bulkLL (l.map Attr.pv)) ∧ l.length ≤ bulkLL (l.map Attr.pv)
  | [] => by simp [bulkLL]
  | a :: l => by
    obtain ⟨h1, h2⟩ := bulk_attrs l
    simp only [List.map_cons, bulkLL, Attr.pv, bulkL, PV.bulk, List.length_cons]
    refine ⟨fun b hb => ?_, by omega⟩
    rcases List.mem_cons.1 hb with rfl | hb
    · omega
    · have := h1 b hb; omega
theorem bulk_op (x : GOp) : bulkL x.pv = 8 + x.tag.length + x.key.length + x.name.length + x.text.length + bulkLL (x.attrs.map Attr.pv) + 1 := by
  simp only [GOp.pv, attrsPV, bulkL, PV.bulk]; omega
end
end Go.TA
