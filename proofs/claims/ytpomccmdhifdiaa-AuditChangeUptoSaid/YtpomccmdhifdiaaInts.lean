/- Rows of numbers; what is found among rows; whether attributes are the same. Plain. -/
import Derived.Test.YtpomccmdhifdiaaDataR
set_option linter.unusedVariables false
namespace Go.TA
def intsPV (l : List Int) : List (List PV) := l.map fun i => [PV.int .i64 i]
theorem intsPV_len (l : List Int) : (intsPV l).length = l.length := by simp [intsPV]
theorem intsPV_snoc (l : List Int) (i : Int) : intsPV l ++ [[PV.int .i64 i]] = intsPV (l ++ [i]) := by simp [intsPV]
theorem intsPV_nil : ([] : List (List PV)) = intsPV [] := rfl
theorem intsPV_get {l : List Int} {i : Nat} {v : Int} (h : l[i]? = some v) : (intsPV l).getD i [] = [PV.int .i64 v] := by
  unfold intsPV; rw [List.getD_eq_getElem?_getD, List.getElem?_map, h]; rfl
/-- The place of the first row with an ID. -/
def findAt (l : List GRow) (id : Int) : Option Nat := l.findIdx? (fun x => x.id == id)
def idAt (o : Option Nat) : Int := match o with
  | some k => k
  | none => -1
def sameRow (x y : GRow) : Bool := decide (x.tag = y.tag ∧ x.key = y.key ∧ x.text = y.text ∧ x.attrs = y.attrs)
def goneF (b : List GRow) (x : GRow) : List Int := match findAt b x.id with
  | some _ => []
  | none => [x.id]
def turnedF (a : List GRow) (y : GRow) : List Int := match findAt a y.id with
  | some k => (match a[k]? with | some x => if sameRow x y = true then [] else [y.id] | none => [])
  | none => []
theorem flat_step {f : GRow → List Int} {l : List GRow} {i : Nat} {x : GRow} (h : l[i]? = some x) : (l.take (i + 1)).flatMap f = (l.take i).flatMap f ++ f x := by
  rw [List.take_add_one, h]; simp
theorem findAt_lt {l : List GRow} {id : Int} {k : Nat} (h : findAt l id = some k) : k < l.length := by
  unfold findAt at h
  rw [List.findIdx?_eq_some_iff_getElem] at h
  exact h.1
theorem findAt_drop {l : List GRow} {id : Int} {i : Nat} {x : GRow} (h : l[i]? = some x) : (l.drop i).findIdx? (fun x => x.id == id) = if x.id = id then some 0 else ((l.drop (i + 1)).findIdx? (fun x => x.id == id)).map (· + 1) := by
  have hd : l.drop i = x :: l.drop (i + 1) := by rw [List.drop_eq_getElem?_toList_append, h]; rfl
  rw [hd, List.findIdx?_cons]
  by_cases hx : x.id = id
  · simp [hx]
  · simp [hx]
/-- A map from IDs to their first rows, as the program makes it. -/
def rowAV (x : GRow) : AV := .p (.agg x.pv)
def fmStep (es : List (PV × AV)) (x : GRow) : List (PV × AV) := if (mlk 1 es (.int .i64 x.id)).isSome = true then es else mput 1 es (.int .i64 x.id) (rowAV x)
def fm (l : List GRow) : List (PV × AV) := l.foldl fmStep []
theorem fm_step {l : List GRow} {i : Nat} {x : GRow} (h : l[i]? = some x) : fm (l.take (i + 1)) = fmStep (fm (l.take i)) x := by
  unfold fm; rw [List.take_add_one, h]; simp
def keysOk (es : List (PV × AV)) : Prop := ∀ e ∈ es, ∃ n, e.1 = .int .i64 n
theorem keysOk_all {es : List (PV × AV)} (h : keysOk es) (id : Int) : es.all (fun e => (scalarEqK 1 e.1 (.int .i64 id)).isSome) = true := by
  rw [List.all_eq_true]
  intro e he
  obtain ⟨n, hn⟩ := h e he
  rw [hn]; simp [scalarEqK]
theorem mput_new {es : List (PV × AV)} (hk : keysOk es) {id : Int} {v : AV} (h : mlk 1 es (.int .i64 id) = none) : mput 1 es (.int .i64 id) v = es ++ [(.int .i64 id, v)] := by
  induction es with
  | nil => rfl
  | cons e es ih =>
    obtain ⟨n, hn⟩ := hk e (by simp)
    obtain ⟨a, w⟩ := e
    simp only at hn
    subst hn
    simp only [mlk, mput] at h ⊢
    by_cases hc : scalarEqK 1 (.int .i64 n) (.int .i64 id) = some true
    · rw [if_pos hc] at h; cases h
    · rw [if_neg hc] at h
      rw [if_neg hc, ih (fun e he => hk e (by simp [he])) h]; rfl
theorem mlk_snoc (es : List (PV × AV)) (a : PV) (v : AV) (k : PV) : mlk 1 (es ++ [(a, v)]) k = match mlk 1 es k with | some w => some w | none => if scalarEqK 1 a k = some true then some v else none := by
  induction es with
  | nil => simp [mlk]
  | cons e es ih =>
    obtain ⟨b, w⟩ := e
    simp only [List.cons_append, mlk]
    by_cases hc : scalarEqK 1 b k = some true
    · rw [if_pos hc, if_pos hc]
    · rw [if_neg hc, if_neg hc, ih]
def MapIs (es : List (PV × AV)) (l : List GRow) : Prop := keysOk es ∧ ∀ id, mlk 1 es (.int .i64 id) = (l.find? fun x => x.id == id).map rowAV
theorem mapIs_step {es : List (PV × AV)} {l : List GRow} (x : GRow) (h : MapIs es l) : MapIs (fmStep es x) (l ++ [x]) := by
  obtain ⟨hk, hl⟩ := h
  unfold fmStep
  cases hm : mlk 1 es (.int .i64 x.id) with
  | some w =>
    simp only [Option.isSome_some, if_true]
    refine ⟨hk, fun id => ?_⟩
    rw [hl id, List.find?_append]
    by_cases hid : x.id = id
    · subst hid
      rw [hl] at hm
      cases hf : l.find? (fun y => y.id == x.id) with
      | none => rw [hf] at hm; cases hm
      | some y => simp
    · simp [hid]
  | none =>
    simp only [Option.isSome_none, Bool.false_eq_true, if_false]
    rw [mput_new hk hm]
    refine ⟨fun e he => ?_, fun id => ?_⟩
    · rcases List.mem_append.1 he with he | he
      · exact hk e he
      · simp at he; subst he; exact ⟨_, rfl⟩
    · rw [mlk_snoc, hl id, List.find?_append]
      cases hf : l.find? (fun y => y.id == id) with
      | some y => simp
      | none =>
        by_cases hid : x.id = id
        · simp [hid, scalarEqK]
        · simp [hid, scalarEqK]
theorem fm_is (l : List GRow) : MapIs (fm l) l := by
  have key : ∀ (r p : List GRow) (es : List (PV × AV)), MapIs es p → MapIs (r.foldl fmStep es) (p ++ r) := by
    intro r
    induction r with
    | nil => intro p es h; simpa using h
    | cons x r ih =>
      intro p es h
      have := ih (p ++ [x]) (fmStep es x) (mapIs_step x h)
      simpa using this
  exact key l [] [] ⟨fun e he => by simp at he, fun id => by simp [mlk]⟩
/-- What is found, and where it stands. -/
theorem find_at (l : List GRow) (id : Int) : l.find? (fun x => x.id == id) = match findAt l id with | some k => l[k]? | none => none := by
  unfold findAt
  induction l with
  | nil => rfl
  | cons x l ih =>
    rw [List.findIdx?_cons]
    by_cases hx : x.id = id
    · simp [hx]
    · simp only [hx, beq_iff_eq, List.find?_cons, beq_false_of_ne hx, ih, Bool.false_eq_true, if_false]
      cases hf : l.findIdx? (fun x => x.id == id) with
      | none => rfl
      | some k => simp
end Go.TA
