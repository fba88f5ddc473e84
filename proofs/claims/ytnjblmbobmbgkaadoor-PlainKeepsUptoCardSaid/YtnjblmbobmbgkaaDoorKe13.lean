/- Part 13 of 15 of a proof; joined from ValidOpsUsed, ValidOpsNone3, ValidOpsNone5, ValidOpsNone7, ValidOpsNone, ValidOpsSame, ValidOps25, ValidOpsPA, ValidOpsPB, ValidOpsP, ValidDoE, ValidMDo, ValidMDo2, ValidMDo3, ValidMRun, RMem, MRowsP, ValidMRows, MS0. The machine of rows. Plain. -/
import Derived.Test.YtnjblmbobmbgkaaDoorKe1
import Derived.Test.YtnjblmbobmbgkaaDoorKe12
import Derived.Test.YtnjblmbobmbgkaaDoorKe11
import Derived.Test.YtnjblmbobmbgkaaDoorKe7
import Derived.Test.YtnjblmbobmbgkaaDoorKe6
section
set_option linter.unusedSimpArgs false
set_option linter.unusedVariables false
/- An operation with the fields alone that its kind uses. -/
set_option linter.unusedVariables false
set_option linter.unusedSimpArgs false
set_option maxRecDepth 100000
set_option maxHeartbeats 8000000
namespace Go.TA.Tryd
theorem used1_run (x : GOp) (hk : x.kind = 1) (g : List AObj) (n : Nat) : acall T (n + 1) 51 [.p (.agg x.pv)] g = some (.p (.agg (used1 x).pv), g) := by
  rw [acall_code T51, run_pure rfl rfl rfl]
  simp (implicitDefEqProofs := false) (maxSteps := 1000000) (disch := omega) only [Ra, Rb, Rc, Rd, Re, Rf, Rg, evalOp, St.know, List.zipWith, mentions, AObj.mentions, avEq, noLocal, AV.same, PV.same, view, tupleOf, oneTup, Nat.reduceBEq, Nat.reduceAdd, Nat.reduceLeDiff, Nat.reduceLT, pures, AV.cells, rd_p, wr_p, reduceCtorEq, Nat.reduceEqDiff, F51, GOp.pv, attrsPV, used1, hk, attrs_same]
theorem used2_run (x : GOp) (hk : x.kind = 2) (g : List AObj) (n : Nat) : acall T (n + 1) 51 [.p (.agg x.pv)] g = some (.p (.agg (used2 x).pv), g) := by
  rw [acall_code T51, run_pure rfl rfl rfl]
  simp (implicitDefEqProofs := false) (maxSteps := 1000000) (disch := omega) only [Ra, Rb, Rc, Rd, Re, Rf, Rg, evalOp, St.know, List.zipWith, mentions, AObj.mentions, avEq, noLocal, view, tupleOf, oneTup, Nat.reduceBEq, Nat.reduceAdd, Nat.reduceLeDiff, Nat.reduceLT, pures, AV.cells, rd_p, wr_p, reduceCtorEq, Int.reduceBEq, Nat.reduceEqDiff, F51, GOp.pv, attrsPV, used2, hk]
theorem used3_run (x : GOp) (hk : x.kind = 3) (g : List AObj) (n : Nat) : acall T (n + 1) 51 [.p (.agg x.pv)] g = some (.p (.agg (used3 x).pv), g) := by
  rw [acall_code T51, run_pure rfl rfl rfl]
  simp (implicitDefEqProofs := false) (maxSteps := 1000000) (disch := omega) only [Ra, Rb, Rc, Rd, Re, Rf, Rg, evalOp, St.know, List.zipWith, mentions, AObj.mentions, avEq, noLocal, view, tupleOf, oneTup, Nat.reduceBEq, Nat.reduceAdd, Nat.reduceLeDiff, Nat.reduceLT, pures, AV.cells, rd_p, wr_p, reduceCtorEq, Int.reduceBEq, Nat.reduceEqDiff, F51, GOp.pv, attrsPV, used3, hk]
theorem used4_run (x : GOp) (hk : x.kind = 4) (g : List AObj) (n : Nat) : acall T (n + 1) 51 [.p (.agg x.pv)] g = some (.p (.agg (used4 x).pv), g) := by
  rw [acall_code T51, run_pure rfl rfl rfl]
  simp (implicitDefEqProofs := false) (maxSteps := 1000000) (disch := omega) only [Ra, Rb, Rc, Rd, Re, Rf, Rg, evalOp, St.know, List.zipWith, mentions, AObj.mentions, avEq, noLocal, view, tupleOf, oneTup, Nat.reduceBEq, Nat.reduceAdd, Nat.reduceLeDiff, Nat.reduceLT, pures, AV.cells, rd_p, wr_p, reduceCtorEq, Int.reduceBEq, Nat.reduceEqDiff, F51, GOp.pv, attrsPV, used4, hk]
theorem used5_run (x : GOp) (hk : x.kind = 5) (g : List AObj) (n : Nat) : acall T (n + 1) 51 [.p (.agg x.pv)] g = some (.p (.agg (used5 x).pv), g) := by
  rw [acall_code T51, run_pure rfl rfl rfl]
  simp (implicitDefEqProofs := false) (maxSteps := 1000000) (disch := omega) only [Ra, Rb, Rc, Rd, Re, Rf, Rg, evalOp, St.know, List.zipWith, mentions, AObj.mentions, avEq, noLocal, view, tupleOf, oneTup, Nat.reduceBEq, Nat.reduceAdd, Nat.reduceLeDiff, Nat.reduceLT, pures, AV.cells, rd_p, wr_p, reduceCtorEq, Int.reduceBEq, Nat.reduceEqDiff, F51, GOp.pv, attrsPV, used5, hk]
theorem used6_run (x : GOp) (hk : x.kind = 6) (g : List AObj) (n : Nat) : acall T (n + 1) 51 [.p (.agg x.pv)] g = some (.p (.agg (used6 x).pv), g) := by
  rw [acall_code T51, run_pure rfl rfl rfl]
  simp (implicitDefEqProofs := false) (maxSteps := 1000000) (disch := omega) only [Ra, Rb, Rc, Rd, Re, Rf, Rg, evalOp, St.know, List.zipWith, mentions, AObj.mentions, avEq, noLocal, view, tupleOf, oneTup, Nat.reduceBEq, Nat.reduceAdd, Nat.reduceLeDiff, Nat.reduceLT, pures, AV.cells, rd_p, wr_p, reduceCtorEq, Int.reduceBEq, Nat.reduceEqDiff, F51, GOp.pv, attrsPV, used6, hk]
theorem used7_run (x : GOp) (hk : x.kind = 7) (g : List AObj) (n : Nat) : acall T (n + 1) 51 [.p (.agg x.pv)] g = some (.p (.agg (used7 x).pv), g) := by
  rw [acall_code T51, run_pure rfl rfl rfl]
  simp (implicitDefEqProofs := false) (maxSteps := 1000000) (disch := omega) only [Ra, Rb, Rc, Rd, Re, Rf, Rg, evalOp, St.know, List.zipWith, mentions, AObj.mentions, avEq, noLocal, view, tupleOf, oneTup, Nat.reduceBEq, Nat.reduceAdd, Nat.reduceLeDiff, Nat.reduceLT, pures, AV.cells, rd_p, wr_p, reduceCtorEq, Int.reduceBEq, Nat.reduceEqDiff, F51, GOp.pv, attrsPV, used7, hk]
theorem used_run (x : GOp) (h1 : 1 ≤ x.kind) (h7 : x.kind ≤ 7) (g : List AObj) (n : Nat) : acall T (n + 1) 51 [.p (.agg x.pv)] g = some (.p (.agg (usedOp x).pv), g) := by
  by_cases k1 : x.kind = 1
  · rw [used1_run x k1]; simp [usedOp, k1]
  by_cases k2 : x.kind = 2
  · rw [used2_run x k2]; simp [usedOp, k2]
  by_cases k3 : x.kind = 3
  · rw [used3_run x k3]; simp [usedOp, k3]
  by_cases k4 : x.kind = 4
  · rw [used4_run x k4]; simp [usedOp, k4]
  by_cases k5 : x.kind = 5
  · rw [used5_run x k5]; simp [usedOp, k5]
  by_cases k6 : x.kind = 6
  · rw [used6_run x k6]; simp [usedOp, k6]
  by_cases k7 : x.kind = 7
  · rw [used7_run x k7]; simp [usedOp, k7]
  omega
end Go.TA.Tryd


end
section
set_option linter.unusedSimpArgs false
set_option linter.unusedVariables false
/- Does an operation have a field that its kind does not use? The document's answer. -/
set_option linter.unusedVariables false
set_option linter.unusedSimpArgs false
set_option maxRecDepth 100000
set_option maxHeartbeats 8000000
namespace Go.TA.Tryd
end Go.TA.Tryd


end
section
set_option linter.unusedSimpArgs false
set_option linter.unusedVariables false
/- Does an operation have a field that its kind does not use? The document's answer. -/
set_option linter.unusedVariables false
set_option linter.unusedSimpArgs false
set_option maxRecDepth 100000
set_option maxHeartbeats 8000000
namespace Go.TA.Tryd
end Go.TA.Tryd


end
section
set_option linter.unusedSimpArgs false
set_option linter.unusedVariables false
/- Does an operation have a field that its kind does not use? The document's answer. -/
set_option linter.unusedVariables false
set_option linter.unusedSimpArgs false
set_option maxRecDepth 100000
set_option maxHeartbeats 8000000
namespace Go.TA.Tryd
end Go.TA.Tryd


end
section
set_option linter.unusedSimpArgs false
set_option linter.unusedVariables false
/- Does an operation have a field that its kind does not use? The document's answer. -/
set_option linter.unusedVariables false
set_option linter.unusedSimpArgs false
set_option maxRecDepth 100000
set_option maxHeartbeats 8000000
namespace Go.TA.Tryd
end Go.TA.Tryd


end
section
set_option linter.unusedSimpArgs false
set_option linter.unusedVariables false
/- Whether an operation is what its kind uses of it: by texts, as the program does it. -/
set_option linter.unusedVariables false
set_option linter.unusedSimpArgs false
set_option maxRecDepth 100000
set_option maxHeartbeats 8000000
namespace Go.TA.Tryd
def eqEnd (b : Bool) : Ex × St := if b = true then (.exit 0, ⟨[], [], []⟩) else (.ret, ⟨[(4, .p (.bool false))], [], []⟩)
theorem eqEnd_ne (b : Bool) : (eqEnd b).1 ≠ .normal := by cases b <;> simp [eqEnd]
theorem slicesEq_run (a b : List Attr) (g : List AObj) {n m : Nat} (ha : a.length < n) (hn : n ≤ 1048577) (hm : n ≤ m) :
    acall T (m + 1) 65 [.p (attrsPV a), .p (attrsPV b)] g = some (.p (.bool (decide (a = b))), g) := by
  rw [acall_code T65, run_pure rfl rfl rfl]
  by_cases hlen : a.length = b.length
  · have hloop : aexec (acall T m) m (.loop B65x0) ⟨[(0, .p (.list (a.map Attr.pv))), (1, .p (.list (b.map Attr.pv))), (12, .p (.int .i64 a.length)), (13, .p (.int .i64 0))], [], []⟩ = some (eqEnd (decide (a.drop 0 = b.drop 0))) := by
      refine loop_rule' (σ := Nat) (S := fun i => ⟨[(0, .p (.list (a.map Attr.pv))), (1, .p (.list (b.map Attr.pv))), (12, .p (.int .i64 a.length)), (13, .p (.int .i64 i))], [], []⟩) (I := fun i => i ≤ a.length) (μ := fun i => a.length - i) (Φ := fun i => eqEnd (decide (a.drop i = b.drop i))) ?_ 0 (by omega) (by omega)
      intro i hi
      by_cases h : i < a.length
      · obtain ⟨x, hx⟩ := get_some h
        obtain ⟨y, hy⟩ := get_some (l := b) (i := i) (by omega)
        have hgx := getD_map (f := Attr.pv) hx
        have hgy := getD_map (f := Attr.pv) hy
        have hdx : a.drop i = x :: a.drop (i + 1) := by rw [List.drop_eq_getElem?_toList_append, hx]; rfl
        have hdy : b.drop i = y :: b.drop (i + 1) := by rw [List.drop_eq_getElem?_toList_append, hy]; rfl
        by_cases hxy : x = y
        · subst hxy
          refine .inl ⟨i + 1, ?_, by omega, by omega, by rw [hdx, hdy]; simp⟩
          simp (implicitDefEqProofs := false) (maxSteps := 1000000) (disch := omega) only [Ra, Rb, Rc, Rd, Re, Rf, Rg, evalOp, St.know, mentions, AObj.mentions, bin, binI, avEq, cellsEq, Nat.reduceBEq, Nat.reduceAdd, asInt, B65x0, hgx, hgy, Attr.pv]
        · refine .inr ⟨?_, eqEnd_ne _⟩
          have e : decide (a.drop i = b.drop i) = false := by rw [hdx, hdy]; simp [hxy]
          have e2 : (x.name == y.name && x.value == y.value) = false := by
            rw [← Bool.not_eq_true, Bool.and_eq_true, beq_iff_eq, beq_iff_eq]
            rintro ⟨h1, h2⟩
            apply hxy
            cases x; cases y; simp only at h1 h2; subst h1 h2; rfl
          rw [e]
          simp (implicitDefEqProofs := false) (maxSteps := 1000000) (disch := omega) only [Ra, Rb, Rc, Rd, Re, Rf, Rg, evalOp, St.know, mentions, AObj.mentions, bin, binI, avEq, cellsEq, Nat.reduceBEq, Nat.reduceAdd, asInt, B65x0, hgx, hgy, Attr.pv, e2, eqEnd]
      · have e : decide (a.drop i = b.drop i) = true := by rw [List.drop_eq_nil_of_le (by omega), List.drop_eq_nil_of_le (by omega)]; simp
        refine .inr ⟨?_, eqEnd_ne _⟩
        rw [e]
        simp (implicitDefEqProofs := false) (maxSteps := 1000000) (disch := omega) only [Ra, Rb, Rc, Rd, Re, Rf, Rg, evalOp, St.know, mentions, AObj.mentions, bin, binI, Nat.reduceBEq, B65x0, eqEnd]
    rw [List.drop_zero, List.drop_zero] at hloop
    have hl2 : ((a.length : Int) == (b.length : Int)) = true := by simp [hlen]
    cases hd : decide (a = b) with
    | false =>
      rw [hd] at hloop
      simp only [eqEnd, Bool.false_eq_true, if_false] at hloop
      simp (implicitDefEqProofs := false) (maxSteps := 1000000) (disch := omega) only [Ra, Rb, Rc, Rd, Re, Rf, Rg, evalOp, St.know, List.zipWith, mentions, AObj.mentions, avEq, noLocal, view, tupleOf, oneTup, Nat.reduceBEq, Nat.reduceAdd, F65, attrsPV, hl2, hloop]
    | true =>
      rw [hd] at hloop
      simp only [eqEnd, if_true] at hloop
      simp (implicitDefEqProofs := false) (maxSteps := 1000000) (disch := omega) only [Ra, Rb, Rc, Rd, Re, Rf, Rg, evalOp, St.know, List.zipWith, mentions, AObj.mentions, avEq, noLocal, view, tupleOf, oneTup, Nat.reduceBEq, Nat.reduceAdd, F65, attrsPV, hl2, hloop]
  · have hl2 : ((a.length : Int) == (b.length : Int)) = false := by rw [beq_eq_false_iff_ne]; omega
    have hd : decide (a = b) = false := by rw [decide_eq_false_iff_not]; intro hh; exact hlen (by rw [hh])
    rw [hd]
    simp (implicitDefEqProofs := false) (maxSteps := 1000000) (disch := omega) only [Ra, Rb, Rc, Rd, Re, Rf, Rg, evalOp, St.know, List.zipWith, mentions, AObj.mentions, avEq, noLocal, view, tupleOf, oneTup, Nat.reduceBEq, Nat.reduceAdd, F65, attrsPV, hl2]
def hOk (n : Int) : Bool := decide (0 ≤ n) && decide (n ≤ 4294967295)
theorem handle_run (k : Int) (g : List AObj) (n : Nat) : acall T (n + 1) 49 [.p (.int .i64 k)] g = some (.p (.bool (hOk k)), g) := by
  rw [acall_code T49, run_pure rfl rfl rfl]
  by_cases h1 : 0 ≤ k
  · by_cases h2 : k ≤ 4294967295
    · simp (implicitDefEqProofs := false) (maxSteps := 1000000) (disch := omega) only [Ra, Rb, Rc, Rd, Re, Rf, Rg, guardK, evalOp, List.zipWith, mentions, AObj.mentions, bin, binI, noLocal, view, tupleOf, oneTup, Nat.reduceBEq, Nat.reduceAdd, F49, hOk, h1, h2]
    · simp (implicitDefEqProofs := false) (maxSteps := 1000000) (disch := omega) only [Ra, Rb, Rc, Rd, Re, Rf, Rg, guardK, evalOp, List.zipWith, mentions, AObj.mentions, bin, binI, noLocal, view, tupleOf, oneTup, Nat.reduceBEq, Nat.reduceAdd, F49, hOk, h1, h2]
  · simp (implicitDefEqProofs := false) (maxSteps := 1000000) (disch := omega) only [Ra, Rb, Rc, Rd, Re, Rf, Rg, guardK, evalOp, List.zipWith, mentions, AObj.mentions, bin, binI, noLocal, view, tupleOf, oneTup, Nat.reduceBEq, Nat.reduceAdd, F49, hOk, h1]
theorem itoa_run (k : Int) (h1 : -9223372036854775808 ≤ k) (h2 : k ≤ 9223372036854775807) (g : List AObj) (n : Nat) : acall T (n + 1) 67 [.p (.int .i64 k)] g = some (.p (.str (Lib.itoa k)), g) := by
  rw [acall_prim T67]
  simp [pItoa, h1, h2]
theorem digits_zero : ∀ (u : Nat), 1 ≤ u → Lib.decDigits u ≠ [48] := by
  intro u hu h
  by_cases h10 : u < 10
  · rw [Lib.decDigits_one h10] at h
    injection h with h _
    have : (UInt8.ofNat (48 + u)).toNat = 48 := by rw [h]; rfl
    rw [UInt8.toNat_ofNat'] at this
    omega
  · have hl := Lib.decDigits_length u
    rw [h] at hl
    rw [Lib.nDigits, dif_neg h10] at hl
    have : 1 ≤ Lib.nDigits (u / 10) := by
      rw [Lib.nDigits]
      split <;> omega
    simp at hl
    omega
theorem itoa_zero {k : Int} (h : 0 ≤ k) : (Lib.itoa k == Lib.itoa 0) = (k == 0) := by
  have e0 : Lib.itoa 0 = [48] := by
    have : Lib.itoa 0 = Lib.decDigits 0 := by simp [Lib.itoa]
    rw [this, Lib.decDigits_one (by omega)]
    rfl
  rw [e0]
  by_cases hk : k = 0
  · subst hk; rw [e0]; rfl
  · have hne : Lib.itoa k ≠ [48] := by
      have : Lib.itoa k = Lib.decDigits k.toNat := by unfold Lib.itoa; rw [if_neg (by omega)]
      rw [this]
      exact digits_zero _ (by omega)
    rw [Bool.eq_iff_iff, beq_iff_eq, beq_iff_eq]
    exact ⟨fun h => absurd h hne, fun h => absurd h hk⟩
def smallI (k : Int) : Prop := 0 ≤ k ∧ k ≤ 4294967295
structure OpFine (x : GOp) : Prop where
  kind : smallI x.kind
  node : smallI x.node
  up : smallI x.up
  before : smallI x.before
theorem one_run (x : GOp) (hx : OpFine x) (g : List AObj) (n : Nat) : acall T (n + 2) 66 [.p (.agg x.pv)] g = some (.p (.agg [.str (Lib.itoa x.kind), .str (Lib.itoa x.node), .str (Lib.itoa x.up), .str (Lib.itoa x.before), .str x.tag, .str x.key, .str x.name, .str x.text, .str []]), g) := by
  rw [acall_code T66, run_pure rfl rfl rfl]
  have h1 := fun g => itoa_run x.kind (by have := hx.kind.1; omega) (by have := hx.kind.2; omega) g n
  have h2 := fun g => itoa_run x.node (by have := hx.node.1; omega) (by have := hx.node.2; omega) g n
  have h3 := fun g => itoa_run x.up (by have := hx.up.1; omega) (by have := hx.up.2; omega) g n
  have h4 := fun g => itoa_run x.before (by have := hx.before.1; omega) (by have := hx.before.2; omega) g n
  simp (implicitDefEqProofs := false) (maxSteps := 1000000) (disch := omega) only [Ra, Rb, Rc, Rd, Re, Rf, Rg, evalOp, List.zipWith, mentions, AObj.mentions, noLocal, view, viewT, tupleOf, oneTup, pureArg, allFlat, flat, Nat.reduceBEq, Nat.reduceAdd, Nat.reduceLeDiff, Nat.reduceLT, pures, AV.cells, rd_p, wr_p, reduceCtorEq, Nat.reduceEqDiff, F66, GOp.pv, attrsPV, h1, h2, h3, h4]
def sameV (x y : GOp) : Bool := decide (x.attrs = y.attrs) && ((Lib.itoa x.kind == Lib.itoa y.kind) && ((Lib.itoa x.node == Lib.itoa y.node) && ((Lib.itoa x.up == Lib.itoa y.up) && ((Lib.itoa x.before == Lib.itoa y.before) && ((x.tag == y.tag) && ((x.key == y.key) && ((x.name == y.name) && (x.text == y.text))))))))
theorem opsame_run (x y : GOp) (hx : OpFine x) (hy : OpFine y) (g : List AObj) {n : Nat} (hl : x.attrs.length < n + 1) (hb : x.attrs.length ≤ 1048576) : acall T (n + 3) 50 [.p (.agg x.pv), .p (.agg y.pv)] g = some (.p (.bool (sameV x y)), g) := by
  rw [acall_code T50, run_pure rfl rfl rfl]
  have he := fun g => slicesEq_run x.attrs y.attrs g (n := x.attrs.length + 1) (m := n + 1) (by omega) (by omega) (by omega)
  have o1 := fun g => one_run x hx g n
  have o2 := fun g => one_run y hy g n
  simp only [GOp.pv, attrsPV] at he o1 o2
  by_cases ha : x.attrs = y.attrs
  · have ha' : decide (x.attrs = y.attrs) = true := by simpa using ha
    rw [ha'] at he
    simp only [sameV, ha']
    simp (implicitDefEqProofs := false) (maxSteps := 1000000) (disch := omega) only [Ra, Rb, Rc, Rd, Re, Rf, Rg, evalOp, St.know, List.zipWith, mentions, AObj.mentions, avEq, cellsEq, una, noLocal, AV.same, PV.same, PV.sameL, view, viewT, tupleOf, oneTup, pureArg, allFlat, flat, Nat.reduceBEq, Nat.reduceAdd, Nat.reduceLT, pures, AV.cells, rd_p, reduceCtorEq, Nat.reduceEqDiff, F50, GOp.pv, attrsPV, he, o1, o2, attrs_same, Nat.zero_add]
  · have ha' : decide (x.attrs = y.attrs) = false := by simpa using ha
    rw [ha'] at he
    simp only [sameV, ha']
    simp (implicitDefEqProofs := false) (maxSteps := 1000000) (disch := omega) only [Ra, Rb, Rc, Rd, Re, Rf, Rg, evalOp, St.know, List.zipWith, mentions, AObj.mentions, una, noLocal, view, viewT, tupleOf, oneTup, pureArg, allFlat, flat, Nat.reduceBEq, Nat.reduceAdd, Nat.reduceLT, pures, AV.cells, rd_p, reduceCtorEq, Nat.reduceEqDiff, F50, GOp.pv, attrsPV, he]
end Go.TA.Tryd


end
section
set_option linter.unusedSimpArgs false
set_option linter.unusedVariables false
/- What is wrong with an operation: the document's answer. -/
set_option linter.unusedVariables false
set_option linter.unusedSimpArgs false
set_option maxRecDepth 100000
set_option maxHeartbeats 8000000
namespace Go.TA.Tryd
def tagBad (x : GOp) : Bool := (x.kind == 1) && !namedB false x.tag
def nameBad (x : GOp) : Bool := ((x.kind == 5) || (x.kind == 6)) && !namedB true x.name
def opErr (x : GOp) : Int := if x.kind < 1 then 6 else if 7 < x.kind then 6 else if hOk x.node = false then 5 else if hOk x.up = false then 5 else if hOk x.before = false then 5 else if noneB x = true then 2 else if tagBad x = true then 7 else if nameBad x = true then 8 else if 65536 < (x.key.length : Int) then 3 else if 65536 < (x.text.length : Int) then 3 else attrsErr x.attrs
end Go.TA.Tryd


end
section
set_option linter.unusedSimpArgs false
set_option linter.unusedVariables false
/- What is wrong with an operation: the program. -/
set_option linter.unusedVariables false
set_option linter.unusedSimpArgs false
set_option maxRecDepth 100000
set_option maxHeartbeats 8000000
namespace Go.TA.Tryd
theorem used_fine {x : GOp} (h1 : 1 ≤ x.kind) (h7 : x.kind ≤ 7) (hx : OpFine x) : OpFine (usedOp x) := by
  have z : smallI 0 := ⟨by omega, by omega⟩
  unfold usedOp
  split
  · exact ⟨hx.kind, z, z, z⟩
  split
  · exact ⟨hx.kind, hx.node, hx.up, hx.before⟩
  split
  · exact ⟨hx.kind, hx.node, z, hx.before⟩
  split
  · exact ⟨hx.kind, hx.node, z, z⟩
  split
  · exact ⟨hx.kind, hx.node, z, z⟩
  split
  · exact ⟨hx.kind, hx.node, z, z⟩
  split
  · exact ⟨hx.kind, hx.node, z, z⟩
  · exact hx
theorem nzA_nil (l : List Attr) : decide (l = []) = !nzA l := by
  cases l with
  | nil => simp [nzA]
  | cons a l =>
    have : (0 : Int) < ((a :: l).length : Int) := by simp
    simp [nzA, this]
theorem same_used {x : GOp} (h1 : 1 ≤ x.kind) (h7 : x.kind ≤ 7) (hx : OpFine x) : sameV x (usedOp x) = !noneB x := by
  have zn := itoa_zero hx.node.1
  have zu := itoa_zero hx.up.1
  have zb := itoa_zero hx.before.1
  have za := nzA_nil x.attrs
  by_cases k1 : x.kind = 1
  · simp only [usedOp, noneB, k1, if_true, if_false, Int.reduceEq, sameV, used1, none1, zn, zu, zb, za, nzI, nzS, beq_self_eq_true, decide_true, Bool.true_and, Bool.and_true, Bool.not_or, Bool.not_not]
    all_goals (cases x.tag == [] <;> cases x.key == [] <;> cases x.name == [] <;> cases x.text == [] <;> cases nzA x.attrs <;> cases x.node == 0 <;> cases x.up == 0 <;> cases x.before == 0 <;> rfl)
  by_cases k2 : x.kind = 2
  · have q1 : (x.kind = 1) = False := by simp; omega
    simp only [usedOp, noneB, k2, if_true, if_false, Int.reduceEq, sameV, used2, none2, zn, zu, zb, za, nzI, nzS, beq_self_eq_true, decide_true, Bool.true_and, Bool.and_true, Bool.not_or, Bool.not_not]
    all_goals (cases x.tag == [] <;> cases x.key == [] <;> cases x.name == [] <;> cases x.text == [] <;> cases nzA x.attrs <;> cases x.node == 0 <;> cases x.up == 0 <;> cases x.before == 0 <;> rfl)
  by_cases k3 : x.kind = 3
  · have q1 : (x.kind = 1) = False := by simp; omega
    have q2 : (x.kind = 2) = False := by simp; omega
    simp only [usedOp, noneB, k3, if_true, if_false, Int.reduceEq, sameV, used3, none3, zn, zu, zb, za, nzI, nzS, beq_self_eq_true, decide_true, Bool.true_and, Bool.and_true, Bool.not_or, Bool.not_not]
    all_goals (cases x.tag == [] <;> cases x.key == [] <;> cases x.name == [] <;> cases x.text == [] <;> cases nzA x.attrs <;> cases x.node == 0 <;> cases x.up == 0 <;> cases x.before == 0 <;> rfl)
  by_cases k4 : x.kind = 4
  · have q1 : (x.kind = 1) = False := by simp; omega
    have q2 : (x.kind = 2) = False := by simp; omega
    have q3 : (x.kind = 3) = False := by simp; omega
    simp only [usedOp, noneB, k4, if_true, if_false, Int.reduceEq, sameV, used4, none4, zn, zu, zb, za, nzI, nzS, beq_self_eq_true, decide_true, Bool.true_and, Bool.and_true, Bool.not_or, Bool.not_not]
    all_goals (cases x.tag == [] <;> cases x.key == [] <;> cases x.name == [] <;> cases x.text == [] <;> cases nzA x.attrs <;> cases x.node == 0 <;> cases x.up == 0 <;> cases x.before == 0 <;> rfl)
  by_cases k5 : x.kind = 5
  · have q1 : (x.kind = 1) = False := by simp; omega
    have q2 : (x.kind = 2) = False := by simp; omega
    have q3 : (x.kind = 3) = False := by simp; omega
    have q4 : (x.kind = 4) = False := by simp; omega
    simp only [usedOp, noneB, k5, if_true, if_false, Int.reduceEq, sameV, used5, none5, zn, zu, zb, za, nzI, nzS, beq_self_eq_true, decide_true, Bool.true_and, Bool.and_true, Bool.not_or, Bool.not_not]
    all_goals (cases x.tag == [] <;> cases x.key == [] <;> cases x.name == [] <;> cases x.text == [] <;> cases nzA x.attrs <;> cases x.node == 0 <;> cases x.up == 0 <;> cases x.before == 0 <;> rfl)
  by_cases k6 : x.kind = 6
  · have q1 : (x.kind = 1) = False := by simp; omega
    have q2 : (x.kind = 2) = False := by simp; omega
    have q3 : (x.kind = 3) = False := by simp; omega
    have q4 : (x.kind = 4) = False := by simp; omega
    have q5 : (x.kind = 5) = False := by simp; omega
    simp only [usedOp, noneB, k6, if_true, if_false, Int.reduceEq, sameV, used6, none6, zn, zu, zb, za, nzI, nzS, beq_self_eq_true, decide_true, Bool.true_and, Bool.and_true, Bool.not_or, Bool.not_not]
    all_goals (cases x.tag == [] <;> cases x.key == [] <;> cases x.name == [] <;> cases x.text == [] <;> cases nzA x.attrs <;> cases x.node == 0 <;> cases x.up == 0 <;> cases x.before == 0 <;> rfl)
  by_cases k7 : x.kind = 7
  · have q1 : (x.kind = 1) = False := by simp; omega
    have q2 : (x.kind = 2) = False := by simp; omega
    have q3 : (x.kind = 3) = False := by simp; omega
    have q4 : (x.kind = 4) = False := by simp; omega
    have q5 : (x.kind = 5) = False := by simp; omega
    have q6 : (x.kind = 6) = False := by simp; omega
    simp only [usedOp, noneB, k7, if_true, if_false, Int.reduceEq, sameV, used7, none7, zn, zu, zb, za, nzI, nzS, beq_self_eq_true, decide_true, Bool.true_and, Bool.and_true, Bool.not_or, Bool.not_not]
    all_goals (cases x.tag == [] <;> cases x.key == [] <;> cases x.name == [] <;> cases x.text == [] <;> cases nzA x.attrs <;> cases x.node == 0 <;> cases x.up == 0 <;> cases x.before == 0 <;> rfl)
  omega
theorem fine_of {x : GOp} (h1 : ¬ x.kind < 1) (h7 : ¬ 7 < x.kind) (hn : hOk x.node = true) (hu : hOk x.up = true) (hb : hOk x.before = true) : OpFine x := by
  simp only [hOk, Bool.and_eq_true, decide_eq_true_eq] at hn hu hb
  exact ⟨⟨by omega, by omega⟩, hn, hu, hb⟩
end Go.TA.Tryd


end
section
set_option linter.unusedSimpArgs false
set_option linter.unusedVariables false
/- What is wrong with an operation: the program. -/
set_option linter.unusedVariables false
set_option linter.unusedSimpArgs false
set_option maxRecDepth 100000
set_option maxHeartbeats 8000000
namespace Go.TA.Tryd
theorem opsP_run (x : GOp) (g : List AObj) {n : Nat} (hl : x.attrs.length < n) (hb : x.attrs.length ≤ 1048576) : acall T (n + 38) 34 [.p (.agg x.pv)] g = some (.p (.int .i64 (opErr x)), g) := by
  rw [acall_code T34, run_pure rfl rfl rfl]
  have ha := fun (k : Int) g => handle_run k g (n + 36)
  have tg := fun s g => tag_run s g (n + 1)
  have nm := fun s g => name_run s g (n + 1)
  have fi := fun s g => fits_run s g (n + 36)
  have at_ := fun g => ap_run x.attrs g (n := n) (by omega)
  by_cases k1 : x.kind < 1
  · have e : opErr x = 6 := by simp [opErr, tagBad, nameBad, k1]
    rw [e]
    simp (implicitDefEqProofs := false) (maxSteps := 1000000) (disch := omega) only [Ra, Rb, Rc, Rd, Re, Rf, Rg, guardK, evalOp, St.know, List.zipWith, mentions, AObj.mentions, bin, binI, noLocal, view, tupleOf, oneTup, Nat.reduceBEq, Nat.reduceAdd, Nat.reduceLeDiff, Nat.reduceLT, pures, AV.cells, rd_p, Nat.reduceEqDiff, F34, GOp.pv, attrsPV, k1]
  by_cases k7 : 7 < x.kind
  · have e : opErr x = 6 := by simp [opErr, tagBad, nameBad, k1, k7]
    rw [e]
    simp (implicitDefEqProofs := false) (maxSteps := 1000000) (disch := omega) only [Ra, Rb, Rc, Rd, Re, Rf, Rg, guardK, evalOp, St.know, List.zipWith, mentions, AObj.mentions, bin, binI, noLocal, view, tupleOf, oneTup, Nat.reduceBEq, Nat.reduceAdd, Nat.reduceLeDiff, Nat.reduceLT, pures, AV.cells, rd_p, Nat.reduceEqDiff, F34, GOp.pv, attrsPV, k1, k7]
  cases hnode : hOk x.node
  · have e : opErr x = 5 := by simp [opErr, tagBad, nameBad, k1, k7, hnode]
    rw [e]
    simp (implicitDefEqProofs := false) (maxSteps := 1000000) (disch := omega) only [Ra, Rb, Rc, Rd, Re, Rf, Rg, guardK, evalOp, St.know, List.zipWith, mentions, AObj.mentions, bin, binI, una, noLocal, view, viewT, tupleOf, oneTup, pureArg, allFlat, flat, Nat.reduceBEq, Nat.reduceAdd, Nat.reduceLeDiff, Nat.reduceLT, pures, AV.cells, rd_p, Nat.reduceEqDiff, F34, GOp.pv, attrsPV, ha, k1, k7, hnode]
  cases hup : hOk x.up
  · have e : opErr x = 5 := by simp [opErr, tagBad, nameBad, k1, k7, hnode, hup]
    rw [e]
    simp (implicitDefEqProofs := false) (maxSteps := 1000000) (disch := omega) only [Ra, Rb, Rc, Rd, Re, Rf, Rg, guardK, evalOp, St.know, List.zipWith, mentions, AObj.mentions, bin, binI, una, noLocal, view, viewT, tupleOf, oneTup, pureArg, allFlat, flat, Nat.reduceBEq, Nat.reduceAdd, Nat.reduceLeDiff, Nat.reduceLT, pures, AV.cells, rd_p, reduceCtorEq, Nat.reduceEqDiff, F34, GOp.pv, attrsPV, ha, k1, k7, hnode, hup]
  cases hbefore : hOk x.before
  · have e : opErr x = 5 := by simp [opErr, tagBad, nameBad, k1, k7, hnode, hup, hbefore]
    rw [e]
    simp (implicitDefEqProofs := false) (maxSteps := 1000000) (disch := omega) only [Ra, Rb, Rc, Rd, Re, Rf, Rg, guardK, evalOp, St.know, List.zipWith, mentions, AObj.mentions, bin, binI, una, noLocal, view, viewT, tupleOf, oneTup, pureArg, allFlat, flat, Nat.reduceBEq, Nat.reduceAdd, Nat.reduceLeDiff, Nat.reduceLT, pures, AV.cells, rd_p, reduceCtorEq, Nat.reduceEqDiff, F34, GOp.pv, attrsPV, ha, k1, k7, hnode, hup, hbefore]
  have us := fun g => used_run x (by omega) (by omega) g (n + 36)
  have hf := fine_of k1 k7 hnode hup hbefore
  have sa := fun g => opsame_run x (usedOp x) hf (used_fine (by omega) (by omega) hf) g (n := n + 34) (by omega) hb
  rw [same_used (by omega) (by omega) hf] at sa
  generalize usedOp x = u at us sa
  simp only [GOp.pv, attrsPV] at us sa
  cases hn : noneB x
  rotate_left
  · rw [hn] at sa
    have e : opErr x = 2 := by simp [opErr, tagBad, nameBad, k1, k7, hnode, hup, hbefore, hn]
    rw [e]
    simp (implicitDefEqProofs := false) (maxSteps := 1000000) (disch := omega) only [Ra, Rb, Rc, Rd, Re, Rf, Rg, guardK, evalOp, St.know, List.zipWith, mentions, AObj.mentions, bin, binI, una, noLocal, view, viewT, tupleOf, oneTup, pureArg, allFlat, flat, Nat.reduceBEq, Nat.reduceAdd, Nat.reduceLeDiff, Nat.reduceLT, pures, AV.cells, rd_p, reduceCtorEq, Nat.reduceEqDiff, F34, GOp.pv, attrsPV, ha, us, sa, k1, k7, hnode, hup, hbefore]
  rw [hn] at sa
  cases e1 : (x.kind == 1)
  rotate_left
  · have e1' : x.kind = 1 := by simpa using e1
    have e5 : (x.kind == 5) = false := by rw [e1']; rfl
    have e6 : (x.kind == 6) = false := by rw [e1']; rfl
    cases t1 : namedB false x.tag
    · have e : opErr x = 7 := by simp [opErr, tagBad, nameBad, k1, k7, hnode, hup, hbefore, hn, e1, e5, e6, t1]
      rw [e]
      simp (implicitDefEqProofs := false) (maxSteps := 1000000) (disch := omega) only [Ra, Rb, Rc, Rd, Re, Rf, Rg, guardK, evalOp, St.know, List.zipWith, mentions, AObj.mentions, bin, binI, avEq, una, noLocal, view, viewT, tupleOf, oneTup, pureArg, allFlat, flat, Nat.reduceBEq, Nat.reduceAdd, Nat.reduceLeDiff, Nat.reduceLT, pures, AV.cells, rd_p, reduceCtorEq, Nat.reduceEqDiff, F34, GOp.pv, attrsPV, ha, us, sa, tg, k1, k7, hnode, hup, hbefore, e1, t1]
    by_cases l1 : (x.key.length : Int) ≤ 65536
    rotate_left
    · have l1' : 65536 < (x.key.length : Int) := by omega
      have e : opErr x = 3 := by simp [opErr, tagBad, nameBad, k1, k7, hnode, hup, hbefore, hn, e1, e5, e6, t1, l1, l1']
      rw [e]
      simp (implicitDefEqProofs := false) (maxSteps := 1000000) (disch := omega) only [Ra, Rb, Rc, Rd, Re, Rf, Rg, guardK, evalOp, St.know, List.zipWith, mentions, AObj.mentions, bin, binI, avEq, una, noLocal, view, viewT, tupleOf, oneTup, pureArg, allFlat, flat, Nat.reduceBEq, Nat.reduceAdd, Nat.reduceLeDiff, Nat.reduceLT, pures, AV.cells, rd_p, reduceCtorEq, Nat.reduceEqDiff, F34, GOp.pv, attrsPV, ha, us, sa, tg, fi, k1, k7, hnode, hup, hbefore, e1, e5, e6, t1, l1]
    have l1' : ¬ 65536 < (x.key.length : Int) := by omega
    by_cases l2 : (x.text.length : Int) ≤ 65536
    rotate_left
    · have l2' : 65536 < (x.text.length : Int) := by omega
      have e : opErr x = 3 := by simp [opErr, tagBad, nameBad, k1, k7, hnode, hup, hbefore, hn, e1, e5, e6, t1, l1, l1', l2, l2']
      rw [e]
      simp (implicitDefEqProofs := false) (maxSteps := 1000000) (disch := omega) only [Ra, Rb, Rc, Rd, Re, Rf, Rg, guardK, evalOp, St.know, List.zipWith, mentions, AObj.mentions, bin, binI, avEq, una, noLocal, view, viewT, tupleOf, oneTup, pureArg, allFlat, flat, Nat.reduceBEq, Nat.reduceAdd, Nat.reduceLeDiff, Nat.reduceLT, pures, AV.cells, rd_p, reduceCtorEq, Nat.reduceEqDiff, F34, GOp.pv, attrsPV, ha, us, sa, tg, fi, k1, k7, hnode, hup, hbefore, e1, e5, e6, t1, l1, l2]
    have l2' : ¬ 65536 < (x.text.length : Int) := by omega
    have e : opErr x = attrsErr x.attrs := by simp [opErr, tagBad, nameBad, k1, k7, hnode, hup, hbefore, hn, e1, e5, e6, t1, l1, l1', l2, l2']
    rw [e]
    simp (implicitDefEqProofs := false) (maxSteps := 1000000) (disch := omega) only [Ra, Rb, Rc, Rd, Re, Rf, Rg, guardK, evalOp, St.know, List.zipWith, mentions, AObj.mentions, bin, binI, avEq, una, noLocal, view, viewT, tupleOf, oneTup, pureArg, allFlat, flat, Nat.reduceBEq, Nat.reduceAdd, Nat.reduceLeDiff, Nat.reduceLT, pures, AV.cells, rd_p, reduceCtorEq, Nat.reduceEqDiff, F34, GOp.pv, attrsPV, ha, us, sa, tg, fi, at_, k1, k7, hnode, hup, hbefore, e1, e5, e6, t1, l1, l2]
  cases e5 : (x.kind == 5)
  rotate_left
  · cases t2 : namedB true x.name
    · have e : opErr x = 8 := by simp [opErr, tagBad, nameBad, k1, k7, hnode, hup, hbefore, hn, e1, e5, t2]
      rw [e]
      simp (implicitDefEqProofs := false) (maxSteps := 1000000) (disch := omega) only [Ra, Rb, Rc, Rd, Re, Rf, Rg, guardK, evalOp, St.know, List.zipWith, mentions, AObj.mentions, bin, binI, avEq, una, noLocal, view, viewT, tupleOf, oneTup, pureArg, allFlat, flat, Nat.reduceBEq, Nat.reduceAdd, Nat.reduceLeDiff, Nat.reduceLT, pures, AV.cells, rd_p, reduceCtorEq, Nat.reduceEqDiff, F34, GOp.pv, attrsPV, ha, us, sa, nm, k1, k7, hnode, hup, hbefore, e1, e5, t2]
    by_cases l1 : (x.key.length : Int) ≤ 65536
    rotate_left
    · have l1' : 65536 < (x.key.length : Int) := by omega
      have e : opErr x = 3 := by simp [opErr, tagBad, nameBad, k1, k7, hnode, hup, hbefore, hn, e1, e5, t2, l1, l1']
      rw [e]
      simp (implicitDefEqProofs := false) (maxSteps := 1000000) (disch := omega) only [Ra, Rb, Rc, Rd, Re, Rf, Rg, guardK, evalOp, St.know, List.zipWith, mentions, AObj.mentions, bin, binI, avEq, una, noLocal, view, viewT, tupleOf, oneTup, pureArg, allFlat, flat, Nat.reduceBEq, Nat.reduceAdd, Nat.reduceLeDiff, Nat.reduceLT, pures, AV.cells, rd_p, reduceCtorEq, Nat.reduceEqDiff, F34, GOp.pv, attrsPV, ha, us, sa, nm, fi, k1, k7, hnode, hup, hbefore, e1, e5, t2, l1]
    have l1' : ¬ 65536 < (x.key.length : Int) := by omega
    by_cases l2 : (x.text.length : Int) ≤ 65536
    rotate_left
    · have l2' : 65536 < (x.text.length : Int) := by omega
      have e : opErr x = 3 := by simp [opErr, tagBad, nameBad, k1, k7, hnode, hup, hbefore, hn, e1, e5, t2, l1, l1', l2, l2']
      rw [e]
      simp (implicitDefEqProofs := false) (maxSteps := 1000000) (disch := omega) only [Ra, Rb, Rc, Rd, Re, Rf, Rg, guardK, evalOp, St.know, List.zipWith, mentions, AObj.mentions, bin, binI, avEq, una, noLocal, view, viewT, tupleOf, oneTup, pureArg, allFlat, flat, Nat.reduceBEq, Nat.reduceAdd, Nat.reduceLeDiff, Nat.reduceLT, pures, AV.cells, rd_p, reduceCtorEq, Nat.reduceEqDiff, F34, GOp.pv, attrsPV, ha, us, sa, nm, fi, k1, k7, hnode, hup, hbefore, e1, e5, t2, l1, l2]
    have l2' : ¬ 65536 < (x.text.length : Int) := by omega
    have e : opErr x = attrsErr x.attrs := by simp [opErr, tagBad, nameBad, k1, k7, hnode, hup, hbefore, hn, e1, e5, t2, l1, l1', l2, l2']
    rw [e]
    simp (implicitDefEqProofs := false) (maxSteps := 1000000) (disch := omega) only [Ra, Rb, Rc, Rd, Re, Rf, Rg, guardK, evalOp, St.know, List.zipWith, mentions, AObj.mentions, bin, binI, avEq, una, noLocal, view, viewT, tupleOf, oneTup, pureArg, allFlat, flat, Nat.reduceBEq, Nat.reduceAdd, Nat.reduceLeDiff, Nat.reduceLT, pures, AV.cells, rd_p, reduceCtorEq, Nat.reduceEqDiff, F34, GOp.pv, attrsPV, ha, us, sa, nm, fi, at_, k1, k7, hnode, hup, hbefore, e1, e5, t2, l1, l2]
  cases e6 : (x.kind == 6)
  rotate_left
  · cases t2 : namedB true x.name
    · have e : opErr x = 8 := by simp [opErr, tagBad, nameBad, k1, k7, hnode, hup, hbefore, hn, e1, e5, e6, t2]
      rw [e]
      simp (implicitDefEqProofs := false) (maxSteps := 1000000) (disch := omega) only [Ra, Rb, Rc, Rd, Re, Rf, Rg, guardK, evalOp, St.know, List.zipWith, mentions, AObj.mentions, bin, binI, avEq, una, noLocal, view, viewT, tupleOf, oneTup, pureArg, allFlat, flat, Nat.reduceBEq, Nat.reduceAdd, Nat.reduceLeDiff, Nat.reduceLT, pures, AV.cells, rd_p, reduceCtorEq, Nat.reduceEqDiff, F34, GOp.pv, attrsPV, ha, us, sa, nm, k1, k7, hnode, hup, hbefore, e1, e5, e6, t2]
    by_cases l1 : (x.key.length : Int) ≤ 65536
    rotate_left
    · have l1' : 65536 < (x.key.length : Int) := by omega
      have e : opErr x = 3 := by simp [opErr, tagBad, nameBad, k1, k7, hnode, hup, hbefore, hn, e1, e5, e6, t2, l1, l1']
      rw [e]
      simp (implicitDefEqProofs := false) (maxSteps := 1000000) (disch := omega) only [Ra, Rb, Rc, Rd, Re, Rf, Rg, guardK, evalOp, St.know, List.zipWith, mentions, AObj.mentions, bin, binI, avEq, una, noLocal, view, viewT, tupleOf, oneTup, pureArg, allFlat, flat, Nat.reduceBEq, Nat.reduceAdd, Nat.reduceLeDiff, Nat.reduceLT, pures, AV.cells, rd_p, reduceCtorEq, Nat.reduceEqDiff, F34, GOp.pv, attrsPV, ha, us, sa, nm, fi, k1, k7, hnode, hup, hbefore, e1, e5, e6, t2, l1]
    have l1' : ¬ 65536 < (x.key.length : Int) := by omega
    by_cases l2 : (x.text.length : Int) ≤ 65536
    rotate_left
    · have l2' : 65536 < (x.text.length : Int) := by omega
      have e : opErr x = 3 := by simp [opErr, tagBad, nameBad, k1, k7, hnode, hup, hbefore, hn, e1, e5, e6, t2, l1, l1', l2, l2']
      rw [e]
      simp (implicitDefEqProofs := false) (maxSteps := 1000000) (disch := omega) only [Ra, Rb, Rc, Rd, Re, Rf, Rg, guardK, evalOp, St.know, List.zipWith, mentions, AObj.mentions, bin, binI, avEq, una, noLocal, view, viewT, tupleOf, oneTup, pureArg, allFlat, flat, Nat.reduceBEq, Nat.reduceAdd, Nat.reduceLeDiff, Nat.reduceLT, pures, AV.cells, rd_p, reduceCtorEq, Nat.reduceEqDiff, F34, GOp.pv, attrsPV, ha, us, sa, nm, fi, k1, k7, hnode, hup, hbefore, e1, e5, e6, t2, l1, l2]
    have l2' : ¬ 65536 < (x.text.length : Int) := by omega
    have e : opErr x = attrsErr x.attrs := by simp [opErr, tagBad, nameBad, k1, k7, hnode, hup, hbefore, hn, e1, e5, e6, t2, l1, l1', l2, l2']
    rw [e]
    simp (implicitDefEqProofs := false) (maxSteps := 1000000) (disch := omega) only [Ra, Rb, Rc, Rd, Re, Rf, Rg, guardK, evalOp, St.know, List.zipWith, mentions, AObj.mentions, bin, binI, avEq, una, noLocal, view, viewT, tupleOf, oneTup, pureArg, allFlat, flat, Nat.reduceBEq, Nat.reduceAdd, Nat.reduceLeDiff, Nat.reduceLT, pures, AV.cells, rd_p, reduceCtorEq, Nat.reduceEqDiff, F34, GOp.pv, attrsPV, ha, us, sa, nm, fi, at_, k1, k7, hnode, hup, hbefore, e1, e5, e6, t2, l1, l2]
  by_cases l1 : (x.key.length : Int) ≤ 65536
  rotate_left
  · have l1' : 65536 < (x.key.length : Int) := by omega
    have e : opErr x = 3 := by simp [opErr, tagBad, nameBad, k1, k7, hnode, hup, hbefore, hn, e1, e5, e6, l1, l1']
    rw [e]
    simp (implicitDefEqProofs := false) (maxSteps := 1000000) (disch := omega) only [Ra, Rb, Rc, Rd, Re, Rf, Rg, guardK, evalOp, St.know, List.zipWith, mentions, AObj.mentions, bin, binI, avEq, una, noLocal, view, viewT, tupleOf, oneTup, pureArg, allFlat, flat, Nat.reduceBEq, Nat.reduceAdd, Nat.reduceLeDiff, Nat.reduceLT, pures, AV.cells, rd_p, reduceCtorEq, Nat.reduceEqDiff, F34, GOp.pv, attrsPV, ha, us, sa, fi, k1, k7, hnode, hup, hbefore, e1, e5, e6, l1]
  have l1' : ¬ 65536 < (x.key.length : Int) := by omega
  by_cases l2 : (x.text.length : Int) ≤ 65536
  rotate_left
  · have l2' : 65536 < (x.text.length : Int) := by omega
    have e : opErr x = 3 := by simp [opErr, tagBad, nameBad, k1, k7, hnode, hup, hbefore, hn, e1, e5, e6, l1, l1', l2, l2']
    rw [e]
    simp (implicitDefEqProofs := false) (maxSteps := 1000000) (disch := omega) only [Ra, Rb, Rc, Rd, Re, Rf, Rg, guardK, evalOp, St.know, List.zipWith, mentions, AObj.mentions, bin, binI, avEq, una, noLocal, view, viewT, tupleOf, oneTup, pureArg, allFlat, flat, Nat.reduceBEq, Nat.reduceAdd, Nat.reduceLeDiff, Nat.reduceLT, pures, AV.cells, rd_p, reduceCtorEq, Nat.reduceEqDiff, F34, GOp.pv, attrsPV, ha, us, sa, fi, k1, k7, hnode, hup, hbefore, e1, e5, e6, l1, l2]
  have l2' : ¬ 65536 < (x.text.length : Int) := by omega
  have e : opErr x = attrsErr x.attrs := by simp [opErr, tagBad, nameBad, k1, k7, hnode, hup, hbefore, hn, e1, e5, e6, l1, l1', l2, l2']
  rw [e]
  simp (implicitDefEqProofs := false) (maxSteps := 1000000) (disch := omega) only [Ra, Rb, Rc, Rd, Re, Rf, Rg, guardK, evalOp, St.know, List.zipWith, mentions, AObj.mentions, bin, binI, avEq, una, noLocal, view, viewT, tupleOf, oneTup, pureArg, allFlat, flat, Nat.reduceBEq, Nat.reduceAdd, Nat.reduceLeDiff, Nat.reduceLT, pures, AV.cells, rd_p, reduceCtorEq, Nat.reduceEqDiff, F34, GOp.pv, attrsPV, ha, us, sa, fi, at_, k1, k7, hnode, hup, hbefore, e1, e5, e6, l1, l2]
end Go.TA.Tryd


end
section
set_option linter.unusedSimpArgs false
set_option linter.unusedVariables false
/- What is wrong with an operation: the program. -/
set_option linter.unusedVariables false
set_option linter.unusedSimpArgs false
set_option maxRecDepth 100000
set_option maxHeartbeats 8000000
namespace Go.TA.Tryd
end Go.TA.Tryd


end
section
set_option linter.unusedSimpArgs false
set_option linter.unusedVariables false
/- What an operation does, if it may be. -/
set_option linter.unusedVariables false
set_option linter.unusedSimpArgs false
namespace Go.TA.Tryd
noncomputable def doE (S : MS) (x : GOp) : Int × MS := if opErr x = 0 then doM S x else (opErr x, S)
section
variable {R : Nat} {S : MS}
theorem doE_ok (hS : S.Ok R) (x : GOp) (hx : x.attrs.length ≤ 1048577) : (doE S x).2.Ok (R + R + 1) ∧ S.N ≤ (doE S x).2.N ∧ (doE S x).2.N ≤ S.N + 1 := by
  unfold doE
  split
  · exact doM_ok hS x hx
  · exact ⟨hS.more (by omega), by simp, by simp⟩
end
noncomputable def runM : MS → List GOp → Nat → Nat × Int × MS
  | S, [], i => (i, 0, S)
  | S, x :: l, i => if (doE S x).1 = 0 then runM (doE S x).2 l (i + 1) else (i, (doE S x).1, (doE S x).2)
def bnd (R : Nat) : Nat → Nat
  | 0 => R
  | k + 1 => bnd R k + bnd R k + 1
theorem bnd_mono (R : Nat) : ∀ {i j : Nat}, i ≤ j → bnd R i ≤ bnd R j := by
  intro i j h
  induction j with
  | zero => have : i = 0 := by omega
            subst this; exact Nat.le_refl _
  | succ j ih =>
    by_cases e : i = j + 1
    · subst e; exact Nat.le_refl _
    · have := ih (by omega)
      simp only [bnd]; omega
theorem runM_drop {L : List GOp} {i : Nat} {x : GOp} (hx : L[i]? = some x) (S : MS) : runM S (L.drop i) i = if (doE S x).1 = 0 then runM (doE S x).2 (L.drop (i + 1)) (i + 1) else (i, (doE S x).1, (doE S x).2) := by
  have : L.drop i = x :: L.drop (i + 1) := by rw [List.drop_eq_getElem?_toList_append, hx]; rfl
  rw [this, runM]
end Go.TA.Tryd


end
section
set_option linter.unusedSimpArgs false
set_option linter.unusedVariables false
/- What an operation does to a machine: the functions change, insert, move. -/
set_option linter.unusedVariables false
set_option linter.unusedSimpArgs false
set_option maxRecDepth 100000
set_option maxHeartbeats 8000000
namespace Go.TA.Tryd
theorem change_run {R : Nat} {S : MS} (hS : S.Ok R) (av : Nat → AV) (rest : List AObj) (h : Nat) (hh : h < S.N) (x : GOp) {n : Nat} (hn : 1048580 < n) :
    acall T (n + 5) 40 [MP, .ptr true 0 7 S.N h 0, .p (.agg x.pv)] (machG S.N S.st av rest) = some (.p (.int .i64 (changeM S h x).1), machG S.N (changeM S h x).2.st av rest) := by
  have len1 : ∀ st av, (rowsAV S.N st av).length = S.N := fun _ _ => rowsAV_len
  have hgh : (rowsAV S.N S.st av).getD h [] = nodeAV (S.st h) (av h) := rowsAV_get hh
  have ha := hS.attrs h hh
  have hw := fun g => with_run (S.st h).attrs x.name x.text ha g (n := n + 2) (by omega)
  have ho := fun g => without_run (S.st h).attrs x.name ha g (n := n) (by omega)
  have hset : ∀ (t : Bs) (a : List Attr), (rowsAV S.N S.st av).set h [.p (.bool (S.st h).live), .p (.int .i64 (S.st h).up), av h, .p (.str (S.st h).tag), .p (.str (S.st h).key), .p (.str t), .p (.list (a.map Attr.pv))] = rowsAV S.N (upd S.st h { S.st h with text := t, attrs := a }) av := fun t a => by
    have := rowsAV_set (N := S.N) (st := S.st) (av := av) hh { S.st h with text := t, attrs := a } (av h)
    simp only [nodeAV] at this
    rw [this]
    refine rowsAV_congr fun k hk => ⟨rfl, ?_⟩
    by_cases e : k = h
    · subst e; rw [upd_at]
    · rw [upd_ne e]
  have wl : ((withA (S.st h).attrs x.name x.text).map Attr.pv).length = (withA (S.st h).attrs x.name x.text).length := by simp
  have hset1 := fun a => hset (S.st h).text a
  have hset2 := fun t => hset t (S.st h).attrs
  rw [acall_code T40, run_code rfl rfl]
  unfold changeM
  simp only [nodeAV] at hgh
  by_cases k5 : x.kind = 5
  · rw [if_pos k5]
    have e5 : (x.kind == 5) = true := by simpa using k5
    by_cases h64 : 64 < ((withA (S.st h).attrs x.name x.text).length : Int)
    · rw [if_pos h64]
      simp only [machG]
      simp (implicitDefEqProofs := false) (maxSteps := 1000000) (disch := omega) only [Ra, Rb, Rc, Rd, Re, Rf, Rg, evalOp, St.know, List.zipWith, mentions, AObj.mentions, bin, binI, avEq, noLocal, view, viewT, tupleOf, oneTup, pureArg, allFlat, flat, Nat.reduceBEq, Nat.reduceAdd, Nat.reduceLeDiff, Nat.reduceLT, pures, AV.cells, rd_p, rd_c, reduceCtorEq, Int.reduceBEq, Nat.reduceEqDiff, F40, GOp.pv, attrsPV, k5, len1, hgh, hw, wl, h64, List.getElem?_cons_zero, List.getElem?_cons_succ]
    · rw [if_neg h64]
      simp only [machG, setM]
      simp (implicitDefEqProofs := false) (maxSteps := 1000000) (disch := omega) only [Ra, Rb, Rc, Rd, Re, Rf, Rg, evalOp, St.know, List.zipWith, mentions, AObj.mentions, bin, binI, avEq, noLocal, view, viewT, tupleOf, oneTup, pureArg, allFlat, flat, Nat.reduceBEq, Nat.reduceAdd, Nat.reduceLeDiff, Nat.reduceLT, pures, AV.cells, rd_p, rd_c, wr_c, reduceCtorEq, Int.reduceBEq, Nat.reduceEqDiff, F40, GOp.pv, attrsPV, k5, len1, hgh, hw, wl, h64, hset1, List.getElem?_cons_zero, List.getElem?_cons_succ]
  rw [if_neg k5]
  have e5 : (x.kind == 5) = false := by simpa using k5
  by_cases k6 : x.kind = 6
  · rw [if_pos k6]
    have e6 : (x.kind == 6) = true := by simpa using k6
    by_cases hlt : (withoutA (S.st h).attrs x.name).length < (S.st h).attrs.length
    · rw [if_pos hlt]
      have ed : decide ((withoutA (S.st h).attrs x.name).length < (S.st h).attrs.length) = true := by simpa using hlt
      simp only [ed] at ho
      simp only [machG, setM]
      simp (implicitDefEqProofs := false) (maxSteps := 1000000) (disch := omega) only [Ra, Rb, Rc, Rd, Re, Rf, Rg, evalOp, St.know, List.zipWith, mentions, AObj.mentions, avEq, una, noLocal, view, viewT, tupleOf, oneTup, pureArg, allFlat, flat, Nat.reduceBEq, Nat.reduceAdd, Nat.reduceLeDiff, Nat.reduceLT, pures, AV.cells, rd_p, rd_c, wr_c, reduceCtorEq, Int.reduceBEq, Nat.reduceEqDiff, F40, GOp.pv, attrsPV, k6, len1, hgh, ho, hset1, List.getElem?_cons_zero, List.getElem?_cons_succ]
    · rw [if_neg hlt]
      have ed : decide ((withoutA (S.st h).attrs x.name).length < (S.st h).attrs.length) = false := by simpa using hlt
      simp only [ed] at ho
      simp only [machG]
      simp (implicitDefEqProofs := false) (maxSteps := 1000000) (disch := omega) only [Ra, Rb, Rc, Rd, Re, Rf, Rg, evalOp, St.know, List.zipWith, mentions, AObj.mentions, avEq, una, noLocal, view, viewT, tupleOf, oneTup, pureArg, allFlat, flat, Nat.reduceBEq, Nat.reduceAdd, Nat.reduceLeDiff, Nat.reduceLT, pures, AV.cells, rd_p, rd_c, reduceCtorEq, Int.reduceBEq, Nat.reduceEqDiff, F40, GOp.pv, attrsPV, k6, len1, hgh, ho, List.getElem?_cons_zero, List.getElem?_cons_succ]
  rw [if_neg k6]
  have e6 : (x.kind == 6) = false := by simpa using k6
  by_cases k7 : x.kind = 7
  · rw [if_pos k7]
    have e7 : (x.kind == 7) = true := by simpa using k7
    simp only [machG, textM]
    simp (implicitDefEqProofs := false) (maxSteps := 1000000) (disch := omega) only [Ra, Rb, Rc, Rd, Re, Rf, Rg, evalOp, St.know, List.zipWith, mentions, AObj.mentions, avEq, noLocal, view, tupleOf, oneTup, Nat.reduceBEq, Nat.reduceAdd, Nat.reduceLeDiff, Nat.reduceLT, pures, AV.cells, rd_p, rd_c, wr_c, reduceCtorEq, Int.reduceBEq, Nat.reduceEqDiff, F40, GOp.pv, attrsPV, k7, len1, hgh, hset2, List.getElem?_cons_zero, List.getElem?_cons_succ]
  · rw [if_neg k7]
    have e7 : (x.kind == 7) = false := by simpa using k7
    simp only [machG]
    simp (implicitDefEqProofs := false) (maxSteps := 1000000) (disch := omega) only [Ra, Rb, Rc, Rd, Re, Rf, Rg, evalOp, St.know, List.zipWith, mentions, AObj.mentions, avEq, noLocal, view, tupleOf, oneTup, Nat.reduceBEq, Nat.reduceAdd, Nat.reduceLeDiff, Nat.reduceLT, pures, AV.cells, rd_p, rd_c, reduceCtorEq, Nat.reduceEqDiff, F40, GOp.pv, attrsPV, e5, e6, e7, len1, hgh, List.getElem?_cons_zero, List.getElem?_cons_succ]
end Go.TA.Tryd


end
section
set_option linter.unusedSimpArgs false
set_option linter.unusedVariables false
/- What an operation does to a machine: the functions insert, move, Do, Run. -/
set_option linter.unusedVariables false
set_option linter.unusedSimpArgs false
set_option maxRecDepth 100000
set_option maxHeartbeats 8000000
namespace Go.TA.Tryd
theorem insertF_run {R : Nat} {S : MS} (hS : S.Ok R) (hN : S.N ≤ 4194304) (av : Nat → AV) (rest : List AObj) (hM : MOk S.N av S.kd rest) (x : GOp) (hx0 : x.node ≠ 0) {n : Nat} (hn : S.N + R + 3 < n) :
    ∃ av' rest', acall T (n + 3) 35 [MP, .p (.agg x.pv)] (machG S.N S.st av rest) = some (.p (.int .i64 (insertM S x).1), machG (insertM S x).2.N (insertM S x).2.st av' rest') ∧ MOk (insertM S x).2.N av' (insertM S x).2.kd rest' ∧ Fr S.N av rest (insertM S x).2.N av' rest' := by
  have len1 : ∀ st av, (rowsAV S.N st av).length = S.N := fun _ _ => rowsAV_len
  have hlv := fun h => lives_run S av rest h (n + 1)
  unfold insertM
  by_cases hl : (liveB S x.node && (liveB S x.up && liveB S x.before)) = false
  · rw [if_pos hl]
    refine ⟨av, rest, ?_, hM, Fr.refl _ _ _⟩
    rw [acall_code T35, run_code rfl rfl]
    cases a1 : liveB S x.node
    · simp only [machG] at hlv ⊢
      simp (implicitDefEqProofs := false) (maxSteps := 1000000) (disch := omega) only [Ra, Rb, Rc, Rd, Re, Rf, Rg, guardK, evalOp, St.know, List.zipWith, mentions, AObj.mentions, una, noLocal, view, tupleOf, oneTup, Nat.reduceBEq, Nat.reduceAdd, Nat.reduceLeDiff, Nat.reduceLT, pures, AV.cells, rd_p, Nat.reduceEqDiff, F35, GOp.pv, attrsPV, hlv, a1, List.getElem?_cons_zero, List.getElem?_cons_succ]
    cases a2 : liveB S x.up
    · simp only [machG] at hlv ⊢
      simp (implicitDefEqProofs := false) (maxSteps := 1000000) (disch := omega) only [Ra, Rb, Rc, Rd, Re, Rf, Rg, guardK, evalOp, St.know, List.zipWith, mentions, AObj.mentions, una, noLocal, view, tupleOf, oneTup, Nat.reduceBEq, Nat.reduceAdd, Nat.reduceLeDiff, Nat.reduceLT, pures, AV.cells, rd_p, reduceCtorEq, Nat.reduceEqDiff, F35, GOp.pv, attrsPV, hlv, a1, a2, List.getElem?_cons_zero, List.getElem?_cons_succ]
    cases a3 : liveB S x.before
    · simp only [machG] at hlv ⊢
      simp (implicitDefEqProofs := false) (maxSteps := 1000000) (disch := omega) only [Ra, Rb, Rc, Rd, Re, Rf, Rg, guardK, evalOp, St.know, List.zipWith, mentions, AObj.mentions, una, noLocal, view, tupleOf, oneTup, Nat.reduceBEq, Nat.reduceAdd, Nat.reduceLeDiff, Nat.reduceLT, pures, AV.cells, rd_p, reduceCtorEq, Nat.reduceEqDiff, F35, GOp.pv, attrsPV, hlv, a1, a2, a3, List.getElem?_cons_zero, List.getElem?_cons_succ]
    rw [a1, a2, a3] at hl; cases hl
  rw [if_neg hl]
  simp only [Bool.not_eq_false, Bool.and_eq_true] at hl
  obtain ⟨a1, a2, a3⟩ := hl
  obtain ⟨c, hc, hcN, hcl⟩ := live_nat a1
  obtain ⟨u, hu, huN, hul⟩ := live_nat a2
  obtain ⟨b, hb, hbN, hbl⟩ := live_nat a3
  have hlv1 := hlv x.node
  have hlv2 := hlv x.up
  have hlv3 := hlv x.before
  rw [a1] at hlv1
  rw [a2] at hlv2
  rw [a3] at hlv3
  have hgc : (rowsAV S.N S.st av).getD c [] = nodeAV (S.st c) (av c) := rowsAV_get hcN
  have hgb : (rowsAV S.N S.st av).getD b [] = nodeAV (S.st b) (av b) := rowsAV_get hbN
  have k1 : (c : Int) < (S.N : Int) := by omega
  have k3 : (b : Int) < (S.N : Int) := by omega
  have un := under_run hS av rest c u huN (n := n + 1) (by omega)
  rw [hc] at hlv1 hx0 ⊢
  rw [hu] at hlv2 ⊢
  rw [hb] at hlv3 ⊢
  have uo : upOf S (c : Int) = (S.st c).up := rfl
  have ub : upOf S (b : Int) = (S.st b).up := rfl
  rw [uo, ub]
  simp only [Int.toNat_natCast]
  simp only [nodeAV] at hgc hgb
  by_cases h15 : 0 ≤ (S.st c).up
  · rw [if_pos h15]
    refine ⟨av, rest, ?_, hM, Fr.refl _ _ _⟩
    rw [acall_code T35, run_code rfl rfl]
    simp only [machG] at hlv1 hlv2 hlv3 ⊢
    simp (implicitDefEqProofs := false) (maxSteps := 1000000) (disch := omega) only [Ra, Rb, Rc, Rd, Re, Rf, Rg, guardK, evalOp, idx_c, St.know, List.zipWith, mentions, AObj.mentions, bin, binI, una, noLocal, view, tupleOf, oneTup, Nat.reduceBEq, Nat.reduceAdd, Nat.reduceLeDiff, Nat.reduceLT, asInt, pures, AV.cells, rd_p, rd_c, reduceCtorEq, Nat.reduceEqDiff, F35, GOp.pv, attrsPV, hc, hu, hb, hlv1, hlv2, hlv3, len1, hgc, k1, h15, List.getElem?_cons_zero, List.getElem?_cons_succ]
  rw [if_neg h15]
  by_cases h17 : underB S (u : Int) (c : Int) = true
  · rw [if_pos h17]
    rw [h17] at un
    refine ⟨av, rest, ?_, hM, Fr.refl _ _ _⟩
    rw [acall_code T35, run_code rfl rfl]
    simp only [machG] at hlv1 hlv2 hlv3 un ⊢
    simp (implicitDefEqProofs := false) (maxSteps := 1000000) (disch := omega) only [Ra, Rb, Rc, Rd, Re, Rf, Rg, guardK, evalOp, idx_c, St.know, List.zipWith, mentions, AObj.mentions, bin, binI, una, noLocal, view, tupleOf, oneTup, Nat.reduceBEq, Nat.reduceAdd, Nat.reduceLeDiff, Nat.reduceLT, asInt, pures, AV.cells, rd_p, rd_c, reduceCtorEq, Nat.reduceEqDiff, F35, GOp.pv, attrsPV, hc, hu, hb, hlv1, hlv2, hlv3, len1, hgc, k1, h15, un, List.getElem?_cons_zero, List.getElem?_cons_succ]
  rw [if_neg h17]
  simp only [Bool.not_eq_true] at h17
  rw [h17] at un
  by_cases h18 : (b : Int) ≠ 0 ∧ (S.st b).up ≠ (u : Int)
  · rw [if_pos h18]
    refine ⟨av, rest, ?_, hM, Fr.refl _ _ _⟩
    have e1 : ((b : Int) == 0) = false := by simpa using h18.1
    have e2 : ((S.st b).up == (u : Int)) = false := by simpa using h18.2
    rw [acall_code T35, run_code rfl rfl]
    simp only [machG] at hlv1 hlv2 hlv3 un ⊢
    simp (implicitDefEqProofs := false) (maxSteps := 1000000) (disch := omega) only [Ra, Rb, Rc, Rd, Re, Rf, Rg, guardK, evalOp, idx_c, St.know, List.zipWith, mentions, AObj.mentions, bin, binI, avEq, una, noLocal, view, tupleOf, oneTup, Nat.reduceBEq, Nat.reduceAdd, Nat.reduceLeDiff, Nat.reduceLT, asInt, pures, AV.cells, rd_p, rd_c, reduceCtorEq, Nat.reduceEqDiff, F35, GOp.pv, attrsPV, hc, hu, hb, hlv1, hlv2, hlv3, len1, hgc, hgb, k1, k3, h15, un, e1, e2, List.getElem?_cons_zero, List.getElem?_cons_succ]
  rw [if_neg h18]
  have hbk : (b : Int) = 0 ∨ (b : Int) ∈ S.kd u := by
    by_cases e : (b : Int) = 0
    · exact .inl e
    · right
      by_cases e2 : (S.st b).up = (u : Int)
      · exact kid_in hS hbN e2
      · exact absurd ⟨e, e2⟩ h18
  obtain ⟨av', rest', hp, hM', hfr⟩ := place_run hS hN av rest hM c u (b : Int) hcN huN hbk (n := n) (by omega)
  refine ⟨av', rest', ?_, hM', hfr⟩
  simp only
  rw [show (placeM S c u (b : Int)).N = S.N from rfl]
  generalize (placeM S c u (b : Int)).st = st' at hp ⊢
  rw [acall_code T35, run_code rfl rfl]
  by_cases e : (b : Int) = 0
  · have e1 : ((b : Int) == 0) = true := by simpa using e
    simp only [machG] at hlv1 hlv2 hlv3 un hp ⊢
    simp (implicitDefEqProofs := false) (maxSteps := 1000000) (disch := omega) only [Ra, Rb, Rc, Rd, Re, Rf, Rg, guardK, evalOp, idx_c, St.know, List.zipWith, mentions, AObj.mentions, bin, binI, avEq, una, noLocal, view, tupleOf, oneTup, Nat.reduceBEq, Nat.reduceAdd, Nat.reduceLeDiff, Nat.reduceLT, asInt, pures, AV.cells, rd_p, rd_c, reduceCtorEq, Nat.reduceEqDiff, F35, GOp.pv, attrsPV, hc, hu, hb, hlv1, hlv2, hlv3, len1, hgc, k1, h15, un, e1, hp, List.getElem?_cons_zero, List.getElem?_cons_succ]
  · have e1 : ((b : Int) == 0) = false := by simpa using e
    have e2 : ((S.st b).up == (u : Int)) = true := by
      by_cases e2 : (S.st b).up = (u : Int)
      · simpa using e2
      · exact absurd ⟨e, e2⟩ h18
    simp only [machG] at hlv1 hlv2 hlv3 un hp ⊢
    simp (implicitDefEqProofs := false) (maxSteps := 1000000) (disch := omega) only [Ra, Rb, Rc, Rd, Re, Rf, Rg, guardK, evalOp, idx_c, St.know, List.zipWith, mentions, AObj.mentions, bin, binI, avEq, una, noLocal, view, tupleOf, oneTup, Nat.reduceBEq, Nat.reduceAdd, Nat.reduceLeDiff, Nat.reduceLT, asInt, pures, AV.cells, rd_p, rd_c, reduceCtorEq, Nat.reduceEqDiff, F35, GOp.pv, attrsPV, hc, hu, hb, hlv1, hlv2, hlv3, len1, hgc, hgb, k1, k3, h15, un, e1, e2, hp, List.getElem?_cons_zero, List.getElem?_cons_succ]
theorem moveF_run {R : Nat} {S : MS} (hS : S.Ok R) (hN : S.N ≤ 4194304) (av : Nat → AV) (rest : List AObj) (hM : MOk S.N av S.kd rest) (x : GOp) (hx0 : x.node ≠ 0) {n : Nat} (hn : S.N + R + 3 < n) :
    ∃ av' rest', acall T (n + 5) 36 [MP, .p (.agg x.pv)] (machG S.N S.st av rest) = some (.p (.int .i64 (moveM S x).1), machG (moveM S x).2.N (moveM S x).2.st av' rest') ∧ MOk (moveM S x).2.N av' (moveM S x).2.kd rest' ∧ Fr S.N av rest (moveM S x).2.N av' rest' := by
  have len1 : ∀ st av, (rowsAV S.N st av).length = S.N := fun _ _ => rowsAV_len
  have hlv := fun h => lives_run S av rest h (n + 3)
  unfold moveM
  by_cases a1 : liveB S x.node = false
  · rw [if_pos (by rw [a1]; rfl)]
    refine ⟨av, rest, ?_, hM, Fr.refl _ _ _⟩
    rw [acall_code T36, run_code rfl rfl]
    simp only [machG] at hlv ⊢
    simp (implicitDefEqProofs := false) (maxSteps := 1000000) (disch := omega) only [Ra, Rb, Rc, Rd, Re, Rf, Rg, guardK, evalOp, St.know, List.zipWith, mentions, AObj.mentions, bin, binI, una, noLocal, view, tupleOf, oneTup, Nat.reduceBEq, Nat.reduceAdd, Nat.reduceLeDiff, Nat.reduceLT, pures, AV.cells, rd_p, rd_c, Int.reduceLT, Int.reduceNeg, Nat.reduceEqDiff, F36, GOp.pv, attrsPV, hlv, a1, List.getElem?_cons_zero, List.getElem?_cons_succ]
  simp only [Bool.not_eq_false] at a1
  obtain ⟨c, hc, hcN, hcl⟩ := live_nat a1
  have hgc : (rowsAV S.N S.st av).getD c [] = nodeAV (S.st c) (av c) := rowsAV_get hcN
  have k1 : (c : Int) < (S.N : Int) := by omega
  have hlv1 := hlv x.node
  have hlv3 := hlv x.before
  rw [a1] at hlv1
  simp only [nodeAV] at hgc
  by_cases a3 : liveB S x.before = false
  · rw [if_pos (by rw [a1, a3]; rfl)]
    rw [a3] at hlv3
    rw [hc] at hlv1
    refine ⟨av, rest, ?_, hM, Fr.refl _ _ _⟩
    rw [acall_code T36, run_code rfl rfl]
    simp only [machG] at hlv1 hlv3 ⊢
    simp (implicitDefEqProofs := false) (maxSteps := 1000000) (disch := omega) only [Ra, Rb, Rc, Rd, Re, Rf, Rg, guardK, evalOp, idx_c, St.know, List.zipWith, mentions, AObj.mentions, bin, binI, una, noLocal, view, tupleOf, oneTup, Nat.reduceBEq, Nat.reduceAdd, Nat.reduceLeDiff, Nat.reduceLT, asInt, pures, AV.cells, rd_p, rd_c, reduceCtorEq, Int.reduceNeg, Nat.reduceEqDiff, F36, GOp.pv, attrsPV, hc, hlv1, hlv3, len1, hgc, k1, List.getElem?_cons_zero, List.getElem?_cons_succ]
  simp only [Bool.not_eq_false] at a3
  rw [if_neg (by rw [a1, a3]; simp)]
  rw [a3] at hlv3
  obtain ⟨b, hb, hbN, hbl⟩ := live_nat a3
  have hgb : (rowsAV S.N S.st av).getD b [] = nodeAV (S.st b) (av b) := rowsAV_get hbN
  have k3 : (b : Int) < (S.N : Int) := by omega
  simp only [nodeAV] at hgb
  rw [hc] at hlv1 hx0 ⊢
  rw [hb] at hlv3 ⊢
  have uo : upOf S (c : Int) = (S.st c).up := rfl
  have ub : upOf S (b : Int) = (S.st b).up := rfl
  rw [uo, ub]
  simp only [Int.toNat_natCast]
  by_cases h16 : (S.st c).up < 0
  · rw [if_pos h16]
    refine ⟨av, rest, ?_, hM, Fr.refl _ _ _⟩
    rw [acall_code T36, run_code rfl rfl]
    simp only [machG] at hlv1 hlv3 ⊢
    simp (implicitDefEqProofs := false) (maxSteps := 1000000) (disch := omega) only [Ra, Rb, Rc, Rd, Re, Rf, Rg, guardK, evalOp, idx_c, St.know, List.zipWith, mentions, AObj.mentions, bin, binI, una, noLocal, view, tupleOf, oneTup, Nat.reduceBEq, Nat.reduceAdd, Nat.reduceLeDiff, Nat.reduceLT, asInt, pures, AV.cells, rd_p, rd_c, reduceCtorEq, Int.reduceNeg, Nat.reduceEqDiff, F36, GOp.pv, attrsPV, hc, hb, hlv1, hlv3, len1, hgc, k1, h16, List.getElem?_cons_zero, List.getElem?_cons_succ]
  rw [if_neg h16]
  obtain ⟨u, hu, huN, hul, hkid⟩ := hS.up_nat hcN (by omega)
  rw [hu] at h16 hgc ⊢
  by_cases e0 : (b : Int) = (c : Int)
  · rw [if_pos (.inl e0)]
    have q1 : ((b : Int) == (c : Int)) = true := by simpa using e0
    refine ⟨av, rest, ?_, hM, Fr.refl _ _ _⟩
    rw [acall_code T36, run_code rfl rfl]
    simp only [machG] at hlv1 hlv3 ⊢
    simp (implicitDefEqProofs := false) (maxSteps := 1000000) (disch := omega) only [Ra, Rb, Rc, Rd, Re, Rf, Rg, guardK, evalOp, idx_c, St.know, List.zipWith, mentions, AObj.mentions, bin, binI, avEq, una, noLocal, view, tupleOf, oneTup, Nat.reduceBEq, Nat.reduceAdd, Nat.reduceLeDiff, Nat.reduceLT, asInt, pures, AV.cells, rd_p, rd_c, reduceCtorEq, Int.reduceNeg, Nat.reduceEqDiff, F36, GOp.pv, attrsPV, hc, hb, hlv1, hlv3, len1, hgc, k1, h16, q1, List.getElem?_cons_zero, List.getElem?_cons_succ]
  have q1 : ((b : Int) == (c : Int)) = false := by simpa using e0
  by_cases h18 : (b : Int) ≠ 0 ∧ (S.st b).up ≠ (u : Int)
  · rw [if_pos (.inr h18)]
    have e1 : ((b : Int) == 0) = false := by simpa using h18.1
    have e2 : ((S.st b).up == (u : Int)) = false := by simpa using h18.2
    refine ⟨av, rest, ?_, hM, Fr.refl _ _ _⟩
    rw [acall_code T36, run_code rfl rfl]
    simp only [machG] at hlv1 hlv3 ⊢
    simp (implicitDefEqProofs := false) (maxSteps := 1000000) (disch := omega) only [Ra, Rb, Rc, Rd, Re, Rf, Rg, guardK, evalOp, idx_c, St.know, List.zipWith, mentions, AObj.mentions, bin, binI, avEq, una, noLocal, view, tupleOf, oneTup, Nat.reduceBEq, Nat.reduceAdd, Nat.reduceLeDiff, Nat.reduceLT, asInt, pures, AV.cells, rd_p, rd_c, reduceCtorEq, Int.reduceNeg, Nat.reduceEqDiff, F36, GOp.pv, attrsPV, hc, hb, hlv1, hlv3, len1, hgc, hgb, k1, k3, h16, q1, e1, e2, List.getElem?_cons_zero, List.getElem?_cons_succ]
  rw [if_neg (fun h => h.elim e0 h18)]
  obtain ⟨hT, hTup⟩ := hS.take hcN hcl
  have hTN := takeM_N S c
  obtain ⟨av1, rest1, ht, hM1, hfr1⟩ := take_run hS hN av rest hM c hcN (n := n) (by omega)
  rw [← hTN] at hM1
  have hbk : (b : Int) = 0 ∨ (b : Int) ∈ (takeM S c).kd u := by
    by_cases e : (b : Int) = 0
    · exact .inl e
    · right
      by_cases e2 : (S.st b).up = (u : Int)
      · have hk := kid_in hS hbN e2
        unfold takeM
        rw [if_neg (by omega), hu, Int.toNat_natCast]
        simp only
        rw [upd_at, List.mem_filter]
        exact ⟨hk, by simp; omega⟩
      · exact absurd ⟨e, e2⟩ h18
  obtain ⟨av', rest', hp, hM', hfr2⟩ := place_run hT (by omega) av1 rest1 hM1 c u (b : Int) (by omega) (by omega) hbk (n := n + 2) (by omega)
  refine ⟨av', rest', ?_, by simpa [placeM] using hM', by simpa [placeM] using (show Fr S.N av rest (takeM S c).N av1 rest1 by rw [hTN]; exact hfr1).trans hfr2⟩
  simp only [Int.toNat_natCast]
  rw [show (placeM (takeM S c) c u (b : Int)).N = (takeM S c).N from rfl, hTN]
  rw [hTN] at hp
  generalize (placeM (takeM S c) c u (b : Int)).st = st' at hp ⊢
  generalize (takeM S c).st = st1 at ht hp
  rw [acall_code T36, run_code rfl rfl]
  by_cases e : (b : Int) = 0
  · have e1 : ((b : Int) == 0) = true := by simpa using e
    simp only [machG] at hlv1 hlv3 ht hp ⊢
    simp (implicitDefEqProofs := false) (maxSteps := 1000000) (disch := omega) only [Ra, Rb, Rc, Rd, Re, Rf, Rg, guardK, evalOp, idx_c, St.know, List.zipWith, mentions, AObj.mentions, bin, binI, avEq, una, noLocal, view, tupleOf, oneTup, Nat.reduceBEq, Nat.reduceAdd, Nat.reduceLeDiff, Nat.reduceLT, asInt, pures, AV.cells, rd_p, rd_c, reduceCtorEq, Int.reduceNeg, Nat.reduceEqDiff, F36, GOp.pv, attrsPV, hc, hb, hlv1, hlv3, len1, hgc, k1, h16, q1, e1, ht, hp, List.getElem?_cons_zero, List.getElem?_cons_succ]
  · have e1 : ((b : Int) == 0) = false := by simpa using e
    have e2 : ((S.st b).up == (u : Int)) = true := by
      by_cases e2 : (S.st b).up = (u : Int)
      · simpa using e2
      · exact absurd ⟨e, e2⟩ h18
    simp only [machG] at hlv1 hlv3 ht hp ⊢
    simp (implicitDefEqProofs := false) (maxSteps := 1000000) (disch := omega) only [Ra, Rb, Rc, Rd, Re, Rf, Rg, guardK, evalOp, idx_c, St.know, List.zipWith, mentions, AObj.mentions, bin, binI, avEq, una, noLocal, view, tupleOf, oneTup, Nat.reduceBEq, Nat.reduceAdd, Nat.reduceLeDiff, Nat.reduceLT, asInt, pures, AV.cells, rd_p, rd_c, reduceCtorEq, Int.reduceNeg, Nat.reduceEqDiff, F36, GOp.pv, attrsPV, hc, hb, hlv1, hlv3, len1, hgc, hgb, k1, k3, h16, q1, e1, e2, ht, hp, List.getElem?_cons_zero, List.getElem?_cons_succ]
end Go.TA.Tryd


end
section
set_option linter.unusedSimpArgs false
set_option linter.unusedVariables false
/- What an operation does to a machine: the functions Do, Run. -/
set_option linter.unusedVariables false
set_option linter.unusedSimpArgs false
set_option maxRecDepth 100000
set_option maxHeartbeats 8000000
namespace Go.TA.Tryd
theorem do_run {R : Nat} {S : MS} (hS : S.Ok R) (hN : S.N ≤ 4194303) (av : Nat → AV) (rest : List AObj) (hM : MOk S.N av S.kd rest) (x : GOp) (hx : x.attrs.length ≤ 1048576) {n : Nat} (hn : S.N + R + 1048580 < n) :
    ∃ av' rest', acall T (n + R + 61) 23 [MP, .p (.agg x.pv)] (machG S.N S.st av rest) = some (.p (.int .i64 (doE S x).1), machG (doE S x).2.N (doE S x).2.st av' rest') ∧ MOk (doE S x).2.N av' (doE S x).2.kd rest' ∧ Fr S.N av rest (doE S x).2.N av' rest' := by
  have len1 : ∀ st av, (rowsAV S.N st av).length = S.N := fun _ _ => rowsAV_len
  have hck := opsP_run x [] (n := n + R + 22) (by omega) hx
  rw [show n + R + 22 + 38 = n + R + 60 by omega] at hck
  have k0 : ((S.N : Int) == 0) = false := by have := hS.pos; simp; omega
  unfold doE
  by_cases he : opErr x = 0
  rotate_left
  · rw [if_neg he]
    have e1 : (opErr x == 0) = false := by simpa using he
    refine ⟨av, rest, ?_, hM, Fr.refl _ _ _⟩
    rw [acall_code T23, run_code rfl rfl]
    simp only [GOp.pv, attrsPV] at hck
    generalize opErr x = e at hck e1 ⊢
    simp only [machG]
    simp (implicitDefEqProofs := false) (maxSteps := 1000000) (disch := omega) only [Ra, Rb, Rc, Rd, Re, Rf, Rg, guardK, evalOp, St.know, List.zipWith, mentions, AObj.mentions, avEq, ptrEq, noLocal, view, viewT, tupleOf, oneTup, pureArg, allFlat, flat, Nat.reduceBEq, Nat.reduceAdd, Nat.reduceLT, pures, AV.cells, rd_p, rd_c, Int.reduceNeg, F23, GOp.pv, attrsPV, hck, k0, e1, List.getElem?_cons_zero, List.getElem?_cons_succ]
  rw [if_pos he]
  rw [he] at hck
  unfold doM
  by_cases h1 : x.kind = 1
  · rw [if_pos h1]
    have e1 : (x.kind == 1) = true := by simpa using h1
    have hcl := cloneA_run x.attrs (by omega) [] (n + R + 59)
    have hpush := rowsAV_push (N := S.N) (st := S.st) (av := av) ⟨true, -1, x.tag, x.key, x.text, x.attrs⟩ .nils
    simp only [nodeAV] at hpush
    refine ⟨upd av S.N .nils, rest, ?_, hM.push, Fr.push _ _ _⟩
    have len2 : (rowsAV (S.N + 1) (upd S.st S.N ⟨true, -1, x.tag, x.key, x.text, x.attrs⟩) (upd av S.N .nils)).length = S.N + 1 := rowsAV_len
    rw [acall_code T23, run_code rfl rfl]
    simp only [GOp.pv, attrsPV] at hck
    simp only [machG, MS.create]
    generalize rowsAV (S.N + 1) (upd S.st S.N ⟨true, -1, x.tag, x.key, x.text, x.attrs⟩) (upd av S.N .nils) = rows' at hpush len2 ⊢
    simp (implicitDefEqProofs := false) (maxSteps := 1000000) (disch := omega) only [Ra, Rb, Rc, Rd, Re, Rf, Rg, guardK, evalOp, St.know, List.zipWith, mentions, AObj.mentions, avEq, ptrEq, noLocal, view, viewT, tupleOf, oneTup, pureArg, allFlat, flat, app_c, Nat.reduceBEq, Nat.reduceAdd, Nat.reduceLeDiff, Nat.reduceLT, pures, AV.cells, rd_p, rd_c, wr_c, reduceCtorEq, Int.reduceNeg, Nat.reduceEqDiff, F23, GOp.pv, attrsPV, hck, k0, len1, len2, e1, hcl, hpush, List.length_append, List.getElem?_cons_zero, List.getElem?_cons_succ]
  rw [if_neg h1]
  have e1 : (x.kind == 1) = false := by simpa using h1
  by_cases h0 : x.node = 0
  · rw [if_pos h0]
    have e0 : (x.node == 0) = true := by simpa using h0
    refine ⟨av, rest, ?_, hM, Fr.refl _ _ _⟩
    rw [acall_code T23, run_code rfl rfl]
    simp only [GOp.pv, attrsPV] at hck
    simp only [machG]
    simp (implicitDefEqProofs := false) (maxSteps := 1000000) (disch := omega) only [Ra, Rb, Rc, Rd, Re, Rf, Rg, guardK, evalOp, St.know, List.zipWith, mentions, AObj.mentions, avEq, ptrEq, noLocal, view, viewT, tupleOf, oneTup, pureArg, allFlat, flat, Nat.reduceBEq, Nat.reduceAdd, Nat.reduceLeDiff, Nat.reduceLT, pures, AV.cells, rd_p, rd_c, Int.reduceNeg, Nat.reduceEqDiff, F23, GOp.pv, attrsPV, hck, k0, e1, e0, List.getElem?_cons_zero, List.getElem?_cons_succ]
  rw [if_neg h0]
  have e0 : (x.node == 0) = false := by simpa using h0
  by_cases h2 : x.kind = 2
  · rw [if_pos h2]
    have e2 : (x.kind == 2) = true := by simpa using h2
    obtain ⟨av', rest', hp, hM', hfr⟩ := insertF_run hS (by omega) av rest hM x h0 (n := n + R + 57) (by omega)
    refine ⟨av', rest', ?_, hM', hfr⟩
    rw [show n + R + 57 + 3 = n + R + 60 by omega] at hp
    generalize insertM S x = q at hp ⊢
    rw [acall_code T23, run_code rfl rfl]
    simp only [GOp.pv, attrsPV] at hck hp
    simp only [machG] at hp ⊢
    simp (implicitDefEqProofs := false) (maxSteps := 1000000) (disch := omega) only [Ra, Rb, Rc, Rd, Re, Rf, Rg, guardK, evalOp, St.know, List.zipWith, mentions, AObj.mentions, avEq, ptrEq, noLocal, view, viewT, tupleOf, oneTup, pureArg, allFlat, flat, Nat.reduceBEq, Nat.reduceAdd, Nat.reduceLeDiff, Nat.reduceLT, pures, AV.cells, rd_p, rd_c, Int.reduceNeg, Nat.reduceEqDiff, F23, GOp.pv, attrsPV, hck, k0, e1, e0, e2, hp, List.getElem?_cons_zero, List.getElem?_cons_succ]
  rw [if_neg h2]
  have e2 : (x.kind == 2) = false := by simpa using h2
  by_cases h3 : x.kind = 3
  · rw [if_pos h3]
    have e3 : (x.kind == 3) = true := by simpa using h3
    obtain ⟨av', rest', hp, hM', hfr⟩ := moveF_run hS (by omega) av rest hM x h0 (n := n + R + 55) (by omega)
    refine ⟨av', rest', ?_, hM', hfr⟩
    rw [show n + R + 55 + 5 = n + R + 60 by omega] at hp
    generalize moveM S x = q at hp ⊢
    rw [acall_code T23, run_code rfl rfl]
    simp only [GOp.pv, attrsPV] at hck hp
    simp only [machG] at hp ⊢
    simp (implicitDefEqProofs := false) (maxSteps := 1000000) (disch := omega) only [Ra, Rb, Rc, Rd, Re, Rf, Rg, guardK, evalOp, St.know, List.zipWith, mentions, AObj.mentions, avEq, ptrEq, noLocal, view, viewT, tupleOf, oneTup, pureArg, allFlat, flat, Nat.reduceBEq, Nat.reduceAdd, Nat.reduceLeDiff, Nat.reduceLT, pures, AV.cells, rd_p, rd_c, Int.reduceNeg, Nat.reduceEqDiff, F23, GOp.pv, attrsPV, hck, k0, e1, e0, e2, e3, hp, List.getElem?_cons_zero, List.getElem?_cons_succ]
  rw [if_neg h3]
  have e3 : (x.kind == 3) = false := by simpa using h3
  have hft := fun av rest => fit_run S av rest x.node (n + R + 58)
  by_cases hl : liveB S x.node = false
  · rw [if_pos hl]
    have ef : fitE S x.node = 13 := by simp [fitE, h0, hl]
    rw [ef] at hft
    refine ⟨av, rest, ?_, hM, Fr.refl _ _ _⟩
    rw [acall_code T23, run_code rfl rfl]
    simp only [GOp.pv, attrsPV] at hck
    simp only [machG] at hft ⊢
    simp (implicitDefEqProofs := false) (maxSteps := 1000000) (disch := omega) only [Ra, Rb, Rc, Rd, Re, Rf, Rg, guardK, evalOp, St.know, List.zipWith, mentions, AObj.mentions, avEq, ptrEq, noLocal, view, viewT, tupleOf, oneTup, pureArg, allFlat, flat, Nat.reduceBEq, Nat.reduceAdd, Nat.reduceLeDiff, Nat.reduceLT, pures, AV.cells, rd_p, rd_c, Int.reduceBEq, Int.reduceNeg, Nat.reduceEqDiff, F23, GOp.pv, attrsPV, hck, k0, e1, e0, e2, e3, hft, List.getElem?_cons_zero, List.getElem?_cons_succ]
  rw [if_neg hl]
  simp only [Bool.not_eq_false] at hl
  have ef : fitE S x.node = 0 := by simp [fitE, h0, hl]
  rw [ef] at hft
  obtain ⟨c, hc, hcN, hcl⟩ := live_nat hl
  have k1 : (c : Int) < (S.N : Int) := by omega
  rw [hc] at hft e0
  by_cases h4 : x.kind = 4
  · rw [if_pos h4]
    have e4 : (x.kind == 4) = true := by simpa using h4
    obtain ⟨hT, hTup⟩ := hS.take hcN hcl
    have hTN := takeM_N S c
    obtain ⟨av1, rest1, ht, hM1, hfr1⟩ := take_run hS (by omega) av rest hM c hcN (n := n + R + 56) (by omega)
    rw [← hTN] at hM1
    obtain ⟨av2, hp, hM2, hfr2⟩ := end_run hT (by omega) av1 rest1 hM1 c (by omega) (n := n + 59) (by omega)
    rw [show n + 59 + R + 1 = n + R + 60 by omega] at hp
    rw [show n + R + 56 + 4 = n + R + 60 by omega] at ht
    rw [hc]
    simp only [Int.toNat_natCast]
    refine ⟨av2, rest1, ?_, hM2, (show Fr S.N av rest (takeM S c).N av1 rest1 by rw [hTN]; exact hfr1).trans hfr2⟩
    rw [show (endM (takeM S c) (c : Int)).N = (takeM S c).N from rfl, hTN]
    rw [hTN] at hp
    generalize (endM (takeM S c) (c : Int)).st = st2 at hp ⊢
    generalize (takeM S c).st = st1 at ht hp
    rw [acall_code T23, run_code rfl rfl]
    simp only [GOp.pv, attrsPV, hc] at hck
    simp only [machG] at hft ht hp ⊢
    simp (implicitDefEqProofs := false) (maxSteps := 1000000) (disch := omega) only [Ra, Rb, Rc, Rd, Re, Rf, Rg, guardK, evalOp, St.know, List.zipWith, mentions, AObj.mentions, avEq, ptrEq, noLocal, view, viewT, tupleOf, oneTup, pureArg, allFlat, flat, Nat.reduceBEq, Nat.reduceAdd, Nat.reduceLeDiff, Nat.reduceLT, pures, AV.cells, rd_p, rd_c, Int.reduceNeg, Nat.reduceEqDiff, F23, GOp.pv, attrsPV, hc, hck, k0, e1, e0, e2, e3, e4, hft, ht, hp, List.getElem?_cons_zero, List.getElem?_cons_succ]
  rw [if_neg h4]
  have e4 : (x.kind == 4) = false := by simpa using h4
  have hp := change_run hS av rest c hcN x (n := n + R + 55) (by omega)
  rw [show n + R + 55 + 5 = n + R + 60 by omega] at hp
  obtain ⟨_, hcn⟩ := changeM_ok hS hcN x
  have hck2 : (changeM S c x).2.kd = S.kd := by
    unfold changeM
    split
    · split <;> rfl
    split
    · split <;> rfl
    split <;> rfl
  rw [hc]
  simp only [Int.toNat_natCast]
  refine ⟨av, rest, ?_, by rw [hcn, hck2]; exact hM, by rw [hcn]; exact Fr.refl _ _ _⟩
  rw [hcn]
  generalize changeM S c x = q at hp ⊢
  rw [acall_code T23, run_code rfl rfl]
  simp only [GOp.pv, attrsPV, hc] at hck hp
  simp only [machG] at hft hp ⊢
  simp (implicitDefEqProofs := false) (maxSteps := 1000000) (disch := omega) only [Ra, Rb, Rc, Rd, Re, Rf, Rg, guardK, evalOp, idx_c, St.know, List.zipWith, mentions, AObj.mentions, avEq, ptrEq, noLocal, view, viewT, tupleOf, oneTup, pureArg, allFlat, flat, Nat.reduceBEq, Nat.reduceAdd, Nat.reduceLeDiff, Nat.reduceLT, asInt, pures, AV.cells, rd_p, rd_c, Int.reduceNeg, Nat.reduceEqDiff, F23, GOp.pv, attrsPV, hc, hck, k0, k1, len1, e1, e0, e2, e3, e4, hft, hp, List.getElem?_cons_zero, List.getElem?_cons_succ]
end Go.TA.Tryd


end
section
set_option linter.unusedSimpArgs false
set_option linter.unusedVariables false
/- A script is run. -/
set_option linter.unusedVariables false
set_option linter.unusedSimpArgs false
set_option maxRecDepth 100000
set_option maxHeartbeats 8000000
namespace Go.TA.Tryd
structure Mem (S : MS) (g : List AObj) (av : Nat → AV) (rest : List AObj) : Prop where
  is : g = machG S.N S.st av rest
  ok : MOk S.N av S.kd rest
theorem mrun_run {R : Nat} {S : MS} (hS : S.Ok R) (L : List GOp) (hL : ∀ x ∈ L, x.attrs.length ≤ 1048576) (hN : S.N + L.length ≤ 4194303) (av : Nat → AV) (rest : List AObj) (hM : MOk S.N av S.kd rest) {F : Nat} (hF : S.N + L.length + bnd R L.length + bnd R L.length + 1048700 < F) :
    ∃ av' rest' R', acall T (F + 1) 10 [MP, .p (.list (L.map GOp.pv))] (machG S.N S.st av rest) = some (.tuple [.p (.int .i64 (runM S L 0).1), .p (.int .i64 (runM S L 0).2.1)], machG (runM S L 0).2.2.N (runM S L 0).2.2.st av' rest')
      ∧ MOk (runM S L 0).2.2.N av' (runM S L 0).2.2.kd rest' ∧ (runM S L 0).2.2.Ok R' ∧ R' ≤ bnd R L.length ∧ (runM S L 0).2.2.N ≤ S.N + L.length ∧ Fr S.N av rest (runM S L 0).2.2.N av' rest' := by
  have len1 : (rowsAV S.N S.st av).length = S.N := rowsAV_len
  have k0 : ((S.N : Int) == 0) = false := by have := hS.pos; simp; omega
  have key := loop_inv (C := acall T F) (N := F) (B := B10x0) (σ := Nat × MS × (Nat → AV) × List AObj) (S := fun s => ⟨[(0, MP), (1, .p (.list (L.map GOp.pv))), (19, .p (.list (L.map GOp.pv))), (20, .p (.int .i64 L.length)), (21, .p (.int .i64 s.1))], [], machG s.2.1.N s.2.1.st s.2.2.1 s.2.2.2⟩)
    (I := fun s => s.1 ≤ L.length ∧ s.2.1.Ok (bnd R s.1) ∧ MOk s.2.1.N s.2.2.1 s.2.1.kd s.2.2.2 ∧ s.2.1.N ≤ S.N + s.1 ∧ runM S L 0 = runM s.2.1 (L.drop s.1) s.1 ∧ Fr S.N av rest s.2.1.N s.2.2.1 s.2.2.2) (μ := fun s => L.length - s.1)
    (Q := fun q => ∃ av' rest' R', (((runM S L 0).2.1 = 0 ∧ (runM S L 0).1 = L.length ∧ q = (.exit 0, ⟨[(1, .p (.list (L.map GOp.pv)))], [], machG (runM S L 0).2.2.N (runM S L 0).2.2.st av' rest'⟩)) ∨ q = (.ret, ⟨[(4, .p (.int .i64 (runM S L 0).1)), (5, .p (.int .i64 (runM S L 0).2.1))], [], machG (runM S L 0).2.2.N (runM S L 0).2.2.st av' rest'⟩))
      ∧ MOk (runM S L 0).2.2.N av' (runM S L 0).2.2.kd rest' ∧ (runM S L 0).2.2.Ok R' ∧ R' ≤ bnd R L.length ∧ (runM S L 0).2.2.N ≤ S.N + L.length ∧ Fr S.N av rest (runM S L 0).2.2.N av' rest') ?_ (0, S, av, rest) ⟨by simp, hS, hM, by simp, by simp, Fr.refl _ _ _⟩ (by simp only; omega)
  · obtain ⟨q, hq, av', rest', R', hq2, h2⟩ := key
    refine ⟨av', rest', R', ?_, h2⟩
    rw [acall_code T10, run_code rfl rfl]
    simp only [Int.natCast_zero] at hq
    rcases hq2 with ⟨z1, z2, rfl⟩ | rfl
    · simp only [machG] at hq ⊢
      rw [z1, z2]
      simp (implicitDefEqProofs := false) (maxSteps := 1000000) (disch := omega) only [Ra, Rb, Rc, Rd, Re, Rf, Rg, guardK, evalOp, St.know, List.zipWith, mentions, AObj.mentions, avEq, ptrEq, noLocal, view, tupleOf, oneTup, Nat.reduceBEq, Nat.reduceAdd, Nat.reduceLT, pures, rd_c, F10, k0, hq, List.getElem?_cons_zero, List.getElem?_cons_succ]
    · simp only [machG] at hq ⊢
      simp (implicitDefEqProofs := false) (maxSteps := 1000000) (disch := omega) only [Ra, Rb, Rc, Rd, Re, Rf, Rg, guardK, evalOp, St.know, List.zipWith, mentions, AObj.mentions, avEq, ptrEq, noLocal, view, tupleOf, oneTup, Nat.reduceBEq, Nat.reduceAdd, Nat.reduceLT, pures, rd_c, F10, k0, hq, List.getElem?_cons_zero, List.getElem?_cons_succ]
  rintro ⟨i, S1, av1, rest1⟩ ⟨h1, h2, h3, h4, h5, h6⟩
  simp only at h1 h2 h3 h4 h5 h6 ⊢
  have hb := bnd_mono R h1
  by_cases hi : i < L.length
  · obtain ⟨x, hx⟩ : ∃ x, L[i]? = some x := ⟨_, List.getElem?_eq_getElem hi⟩
    have hxm := hL x (List.mem_of_getElem? hx)
    have k1 : (i : Int) < (L.length : Int) := by omega
    have hg := getD_map (f := GOp.pv) hx
    obtain ⟨av2, rest2, hd, hM2, hfr⟩ := do_run h2 (by omega) av1 rest1 h3 x hxm (n := F - bnd R i - 61) (by omega)
    rw [show F - bnd R i - 61 + bnd R i + 61 = F by omega] at hd
    obtain ⟨hok, hn1, hn2⟩ := doE_ok h2 x (by omega)
    have hr := runM_drop hx S1
    by_cases e : (doE S1 x).1 = 0
    · left
      rw [if_pos e] at hr
      rw [hr] at h5
      refine ⟨(i + 1, (doE S1 x).2, av2, rest2), ?_, ⟨by simp only; omega, hok, hM2, by simp only; omega, h5, h6.trans hfr⟩, by simp only; omega⟩
      rw [e] at hd
      generalize doE S1 x = q at hd ⊢
      simp only [GOp.pv, attrsPV] at hd
      simp only [machG] at hd ⊢
      simp (implicitDefEqProofs := false) (maxSteps := 1000000) (disch := omega) only [Ra, Rb, Rc, Rd, Re, Rf, Rg, evalOp, St.know, mentions, AObj.mentions, bin, binI, avEq, noLocal, Nat.reduceBEq, Nat.reduceAdd, Nat.reduceLT, asInt, pures, AV.cells, rd_p, wr_p, B10x0, k1, hg, GOp.pv, attrsPV, hd, List.getElem?_cons_succ]
    · right
      rw [if_neg e] at hr
      rw [hr] at h5
      rw [h5]
      simp only
      refine ⟨_, ?_, ?_, av2, rest2, bnd R (i + 1), .inr rfl, hM2, hok, bnd_mono R (by omega), by omega, h6.trans hfr⟩
      · have e1 : ((doE S1 x).1 == 0) = false := by simpa using e
        generalize doE S1 x = q at hd e1 ⊢
        simp only [GOp.pv, attrsPV] at hd
        simp only [machG] at hd ⊢
        simp (implicitDefEqProofs := false) (maxSteps := 1000000) (disch := omega) only [Ra, Rb, Rc, Rd, Re, Rf, Rg, evalOp, St.know, mentions, AObj.mentions, bin, binI, avEq, noLocal, Nat.reduceBEq, Nat.reduceAdd, Nat.reduceLT, asInt, pures, AV.cells, rd_p, wr_p, B10x0, k1, hg, GOp.pv, attrsPV, hd, e1, List.getElem?_cons_succ]
      · simp
  · right
    obtain rfl : i = L.length := by omega
    have k1 : ¬ (L.length : Int) < (L.length : Int) := by omega
    have hr : runM S1 (L.drop L.length) L.length = (L.length, 0, S1) := by rw [List.drop_length]; rfl
    rw [hr] at h5
    rw [h5]
    simp only
    refine ⟨_, ?_, ?_, av1, rest1, bnd R L.length, .inl ⟨trivial, trivial, rfl⟩, h3, h2, Nat.le_refl _, h4, h6⟩
    · simp (implicitDefEqProofs := false) (maxSteps := 1000000) (disch := omega) only [Ra, Rb, Rc, Rd, Re, Rf, Rg, evalOp, St.know, mentions, AObj.mentions, bin, binI, Nat.reduceBEq, B10x0, k1]
    · simp
end Go.TA.Tryd


end
section
set_option linter.unusedSimpArgs false
set_option linter.unusedVariables false
/- The document's answer in memory: its living nodes in a row. Plain. -/
set_option linter.unusedVariables false
set_option linter.unusedSimpArgs false
namespace Go.TA
def RowRep (sz : Nat) (xs : List (List AV)) (o : AObj) : Prop := o = .cells sz xs ∨ ∃ ps : List (List PV), o = .pcells sz ps ∧ xs = ps.map (fun c => c.map AV.p)
section
variable {sz : Nat} {xs : List (List AV)} {o : AObj} (h : RowRep sz xs o)
include h
end
theorem RowRep.nil (sz : Nat) : RowRep sz [] (.pcells sz []) := .inr ⟨[], rfl, rfl⟩
def liveL (S : MS) : List Nat := (List.range S.N).filter fun h => (S.st h).live
def posL (L : List Nat) (id : Int) : Int := if L.findIdx (fun h : Nat => (h : Int) == id) < L.length then (L.findIdx (fun h : Nat => (h : Int) == id) : Int) else -1
def nAV (h : Nat) (s : MNode) (k : AV) : List AV := [.p (.int .i64 h), .p (.int .i64 s.up), k, .p (.str s.tag), .p (.str s.key), .p (.str s.text), .p (.list (s.attrs.map Attr.pv))]
def rowsD (L : List Nat) (st : Nat → MNode) (av : Nat → AV) : List (List AV) := L.map fun h => nAV h (st h) (av h)
section
variable {L : List Nat} {st : Nat → MNode} {av : Nat → AV}
end
inductive KG (g : List AObj) : AV → List Int → Prop
  | none : KG g .nils []
  | own {r : Nat} {ks : List Int} : g[r]? = some (.pcells 1 (intsPV ks)) → KG g (.own true r ks.length) ks
  | list {ks : List Int} : KG g (.p (.list (intsPV ks))) ks
theorem KG.inv {g : List AObj} {a : AV} {ks : List Int} (h : KG g a ks) : (a = .nils ∧ ks = []) ∨ (∃ r, a = .own true r ks.length ∧ g[r]? = some (.pcells 1 (intsPV ks))) ∨ a = .p (.list (intsPV ks)) := by
  cases h with
  | none => exact .inl ⟨rfl, rfl⟩
  | own h => exact .inr (.inl ⟨_, rfl, h⟩)
  | list => exact .inr (.inr rfl)
theorem KG.keep {g g' : List AObj} {a : AV} {ks : List Int} (h : KG g a ks) (hg : ∀ r, refOf a = some r → g'[r]? = g[r]?) : KG g' a ks := by
  cases h with
  | none => exact .none
  | own h => exact .own (by rw [hg _ rfl]; exact h)
  | list => exact .list
theorem KG.ref_lt {g : List AObj} {a : AV} {ks : List Int} (h : KG g a ks) {r : Nat} (hr : refOf a = some r) : r < g.length := by
  cases h with
  | none => cases hr
  | own h =>
    simp only [refOf, Option.some.injEq] at hr
    subst hr
    exact (List.getElem?_eq_some_iff.1 h).1
  | list => cases hr
theorem KG.noLocal {g : List AObj} {a : AV} {ks : List Int} (h : KG g a ks) : noLocal a = true := by
  cases h <;> simp [Go.TA.noLocal]
abbrev DP (p : Nat) : AV := .ptr true p 2 1 0 0
structure DC (L : List Nat) (st : Nat → MNode) (nx : Int) (av : Nat → AV) (p q : Nat) (g : List AObj) : Prop where
  obj : g[p]? = some (.cells 2 [[.own true q L.length, .p (.int .i64 nx)]])
  row : ∃ o, g[q]? = some o ∧ RowRep 7 (rowsD L st av) o
  pq : p ≠ q
  nodup : L.Nodup
structure DM (L : List Nat) (st : Nat → MNode) (kd : Nat → List Int) (nx : Int) (av : Nat → AV) (p q : Nat) (g : List AObj) : Prop where
  core : DC L st nx av p q g
  kids : ∀ h, h ∈ L → KG g (av h) (kd h)
  away : ∀ h, h ∈ L → refOf (av h) ≠ some p ∧ refOf (av h) ≠ some q
  disj : ∀ h h', h ∈ L → h' ∈ L → h ≠ h' → refOf (av h) = none ∨ refOf (av h) ≠ refOf (av h')
structure DFr (L : List Nat) (av : Nat → AV) (p q : Nat) (g : List AObj) (L' : List Nat) (av' : Nat → AV) (q' : Nat) (g' : List AObj) : Prop where
  len : g.length ≤ g'.length
  keep : ∀ j, j < g.length → j ≠ p → j ≠ q → (∀ h, h ∈ L → refOf (av h) ≠ some j) → g'[j]? = g[j]?
  row : q' = q ∨ g.length ≤ q'
  refs : ∀ h, h ∈ L' → ∀ j, refOf (av' h) = some j → j < g.length → ∃ h0, h0 ∈ L ∧ refOf (av h0) = some j
theorem DFr.refl (L : List Nat) (av : Nat → AV) (p q : Nat) (g : List AObj) : DFr L av p q g L av q g := ⟨Nat.le_refl _, fun _ _ _ _ _ => rfl, .inl rfl, fun h hh j hj _ => ⟨h, hh, hj⟩⟩
theorem DFr.trans {L L' L'' : List Nat} {av av' av'' : Nat → AV} {p q q' q'' : Nat} {g g' g'' : List AObj} (h1 : DFr L av p q g L' av' q' g') (h2 : DFr L' av' p q' g' L'' av'' q'' g'') : DFr L av p q g L'' av'' q'' g'' where
  len := Nat.le_trans h1.len h2.len
  keep j hj hp hq hn := by
    rw [h2.keep j (Nat.lt_of_lt_of_le hj h1.len) hp (by rcases h1.row with e | e <;> omega) (fun h hh e => by
      obtain ⟨h0, hh0, e0⟩ := h1.refs h hh j e hj
      exact hn h0 hh0 e0)]
    exact h1.keep j hj hp hq hn
  row := by
    rcases h1.row with e | e <;> rcases h2.row with e2 | e2
    · exact .inl (e2.trans e)
    · exact .inr (Nat.le_trans h1.len e2)
    · exact .inr (by omega)
    · exact .inr (Nat.le_trans h1.len e2)
  refs h hh j hj hl := by
    obtain ⟨h1', hh1, e1⟩ := h2.refs h hh j hj (Nat.lt_of_lt_of_le hl h1.len)
    exact h1.refs h1' hh1 j e1 hl
section
variable {L : List Nat} {st : Nat → MNode} {kd : Nat → List Int} {nx : Int} {av : Nat → AV} {p q : Nat} {g : List AObj}
def killG (g : List AObj) : AV → List AObj
  | .own true r _ => g.set r .dead
  | _ => g
theorem killG_len (g : List AObj) (a : AV) : (killG g a).length = g.length := by unfold killG; split <;> simp
theorem killG_get {g : List AObj} {a : AV} {j : Nat} (h : refOf a ≠ some j) : (killG g a)[j]? = g[j]? := by
  unfold killG
  split
  · rename_i r m
    rw [List.getElem?_set, if_neg]
    intro e; subst e; exact h rfl
  · rfl
theorem DC.set (h : DC L st nx av p q g) {st' : Nat → MNode} {av' : Nat → AV} {o' : AObj} (hr : RowRep 7 (rowsD L st' av') o') : DC L st' nx av' p q (g.set q o') where
  obj := by rw [List.getElem?_set, if_neg (fun e => h.pq e.symm)]; exact h.obj
  row := by
    obtain ⟨o, ho, _⟩ := h.row
    exact ⟨o', by rw [List.getElem?_set, if_pos rfl, if_pos (List.getElem?_eq_some_iff.1 ho).1], hr⟩
  pq := h.pq
  nodup := h.nodup
theorem DC.kill (h : DC L st nx av p q g) {a : AV} (h1 : refOf a ≠ some p) (h2 : refOf a ≠ some q) : DC L st nx av p q (killG g a) where
  obj := by rw [killG_get h1]; exact h.obj
  row := by rw [killG_get h2]; exact h.row
  pq := h.pq
  nodup := h.nodup
theorem DC.more (h : DC L st nx av p q g) (r : List AObj) : DC L st nx av p q (g ++ r) where
  obj := by rw [List.getElem?_append_left (List.getElem?_eq_some_iff.1 h.obj).1]; exact h.obj
  row := by
    obtain ⟨o, h1, h2⟩ := h.row
    exact ⟨o, by rw [List.getElem?_append_left (List.getElem?_eq_some_iff.1 h1).1]; exact h1, h2⟩
  pq := h.pq
  nodup := h.nodup
theorem DM.fix (h : DM L st kd nx av p q g) {c : Nat} (hc : c ∈ L) (ks : List Int) {o' : AObj} (hr : RowRep 7 (rowsD L st (upd av c (.p (.list (intsPV ks))))) o') : DM L st (upd kd c ks) nx (upd av c (.p (.list (intsPV ks)))) p q ((killG g (av c)).set q o') where
  core := (h.core.kill (h.away c hc).1 (h.away c hc).2).set hr
  kids k hk := by
    by_cases e : k = c
    · subst e; rw [upd_at, upd_at]; exact .list
    · rw [upd_ne e, upd_ne e]
      refine (h.kids k hk).keep fun r hr => ?_
      rw [List.getElem?_set, if_neg (fun e => (h.away k hk).2 (by rw [e]; exact hr)), killG_get]
      intro e2
      rcases h.disj k c hk hc e with h1 | h1
      · rw [h1] at hr; cases hr
      · exact h1 (by rw [hr, e2])
  away k hk := by
    by_cases e : k = c
    · subst e; rw [upd_at]; simp [refOf]
    · rw [upd_ne e]; exact h.away k hk
  disj k k' hk hk' hne := by
    by_cases e : k = c
    · subst e; left; rw [upd_at]; rfl
    · rw [upd_ne e]
      by_cases e' : k' = c
      · subst e'
        rw [upd_at]
        cases hr : refOf (av k) with
        | none => exact .inl rfl
        | some q => exact .inr (by simp [refOf])
      · rw [upd_ne e']; exact h.disj k k' hk hk' hne
theorem DFr.fix (h : DM L st kd nx av p q g) {c : Nat} (hc : c ∈ L) (ks : List (List PV)) (o' : AObj) : DFr L av p q g L (upd av c (.p (.list ks))) q ((killG g (av c)).set q o') where
  len := by rw [List.length_set, killG_len]; exact Nat.le_refl _
  keep j hj hp hq hn := by rw [List.getElem?_set, if_neg (fun e => hq e.symm), killG_get (hn c hc)]
  row := .inl rfl
  refs k hk j hj _ := by
    by_cases e : k = c
    · subst e; rw [upd_at] at hj; cases hj
    · rw [upd_ne e] at hj; exact ⟨k, hk, hj⟩
theorem DM.node (h : DM L st kd nx av p q g) (st' : Nat → MNode) {o' : AObj} (hr : RowRep 7 (rowsD L st' av) o') : DM L st' kd nx av p q (g.set q o') where
  core := h.core.set hr
  kids k hk := (h.kids k hk).keep fun r hr => by rw [List.getElem?_set, if_neg (fun e => (h.away k hk).2 (by rw [e]; exact hr))]
  away := h.away
  disj := h.disj
theorem DFr.node (o' : AObj) : DFr L av p q g L av q (g.set q o') where
  len := by rw [List.length_set]; exact Nat.le_refl _
  keep j hj hp hq hn := by rw [List.getElem?_set, if_neg (fun e => hq e.symm)]
  row := .inl rfl
  refs k hk j hj _ := ⟨k, hk, hj⟩
end
theorem KG.frz {g : List AObj} {a : AV} {ks : List Int} (h : KG g a ks) (fr : List (Nat × AV)) (l : List (Nat × AObj)) : Go.TA.frz ⟨fr, l, g⟩ a = some (.list (intsPV ks), ⟨fr, l, killG g a⟩) := by
  cases h with
  | none => rfl
  | own h => simp only [Go.TA.frz, St.obj, if_true, h, intsPV_len, St.putObj, killG]
  | list => rfl
def inL (l : List Int) (h b : Int) : List Int := (l.flatMap fun k => if k = b then [h, k] else [k]) ++ if b = 0 then [h] else []
end Go.TA


end
section
set_option linter.unusedSimpArgs false
set_option linter.unusedVariables false
/- A machine's rows, and its loose nodes. Plain. -/
set_option linter.unusedVariables false
set_option linter.unusedSimpArgs false
namespace Go.TA
def rowsM (S : MS) (R : Nat) : List GRow := belowM S (R + 1) [] 0 0
theorem pre_nil {S : MS} : PreO S [] 0 := ⟨by simp, by simp, by simp⟩
theorem rowsM_len {R : Nat} {S : MS} (hS : S.Ok R) (R' : Nat) : (rowsM S R').length ≤ S.N := (below_post hS (R' + 1) [] 0 0 hS.pos pre_nil).len
def looseM (S : MS) : List Int := ((liveL S).filter fun h : Nat => !(h == 0) && decide ((S.st h).up < 0)).map fun h : Nat => (h : Int)
end Go.TA


end
section
set_option linter.unusedSimpArgs false
set_option linter.unusedVariables false
/- The rows of a machine. -/
set_option linter.unusedVariables false
set_option linter.unusedSimpArgs false
set_option maxRecDepth 100000
set_option maxHeartbeats 8000000
namespace Go.TA.Tryd
def memR (S : MS) (av : Nat → AV) (rest : List AObj) (q : Nat) (out : List GRow) : List AObj := machG S.N S.st av (rest.set q (.pcells 6 (out.map GRow.pv)))
theorem mrows_body {R : Nat} {S : MS} (hS : S.Ok R) (hN : S.N ≤ 4194304) (av : Nat → AV) (rest : List AObj) (hM : MOk S.N av S.kd rest) (q : Nat) (hq : q < rest.length) (hqf : ∀ k, k < S.N → refOf (av k) ≠ some (q + 1 + 1)) (m : Nat) (hm : S.N + 1 < m) (d h : Nat) (up : Int) (out : List GRow) (hh : h < S.N) (hp : PreO S out h) (hol : out.length ≤ S.N)
    (ih : ∀ c : Nat, c < S.N → (S.st c).up = (h : Int) → ∀ (out : List GRow) (up : Int), out.length ≤ S.N → PreO S out c → acall T m 24 [MP, .own true (q + 1 + 1) out.length, .p (.int .i64 c), .p (.int .i64 up)] (memR S av rest q out) = some (.own true (q + 1 + 1) (belowM S d out (c : Int) up).length, memR S av rest q (belowM S d out (c : Int) up))) :
    acall T (m + 1) 24 [MP, .own true (q + 1 + 1) out.length, .p (.int .i64 h), .p (.int .i64 up)] (memR S av rest q out) = some (.own true (q + 1 + 1) (belowM S (d + 1) out (h : Int) up).length, memR S av rest q (belowM S (d + 1) out (h : Int) up)) := by
  have hK := hM.kids h hh
  have hkl := hS.kids_len hh
  have len1 : (rowsAV S.N S.st av).length = S.N := rowsAV_len
  have k1 : (h : Int) < (S.N : Int) := by omega
  have hgh : (rowsAV S.N S.st av).getD h [] = nodeAV (S.st h) (av h) := rowsAV_get hh
  have il := intsPV_len (S.kd h)
  have hinv := post_all hS (d := d) (up := up) hh hp
  have hloop : aexec (acall T m) m (.loop B24x0) ⟨[(0, MP), (1, .own true (q + 1 + 1) out.length), (3, .p (.int .i64 up)), (19, av h), (20, .p (.int .i64 (S.kd h).length)), (21, .p (.int .i64 0))], [], memR S av rest q out⟩ = some (.exit 0, ⟨[(1, .own true (q + 1 + 1) (belowM S (d + 1) out (h : Int) up).length)], [], memR S av rest q (belowM S (d + 1) out (h : Int) up)⟩) := by
    have key := loop_inv (C := acall T m) (N := m) (B := B24x0) (σ := Nat) (S := fun i => ⟨[(0, MP), (1, .own true (q + 1 + 1) (outI S d out h up i).length), (3, .p (.int .i64 up)), (19, av h), (20, .p (.int .i64 (S.kd h).length)), (21, .p (.int .i64 i))], [], memR S av rest q (outI S d out h up i)⟩)
      (I := fun i => i ≤ (S.kd h).length) (μ := fun i => (S.kd h).length - i) (Q := fun z => z = (.exit 0, ⟨[(1, .own true (q + 1 + 1) (belowM S (d + 1) out (h : Int) up).length)], [], memR S av rest q (belowM S (d + 1) out (h : Int) up)⟩)) ?_ 0 (by omega) (by omega)
    · obtain ⟨z, hz, rfl⟩ := key
      rw [outI_zero] at hz
      exact hz
    intro i hi
    by_cases hil : i < (S.kd h).length
    · left
      obtain ⟨k, hk⟩ : ∃ k, (S.kd h)[i]? = some k := ⟨_, List.getElem?_eq_getElem hil⟩
      have hkm := List.mem_of_getElem? hk
      obtain ⟨c, rfl, hc, _, hcu⟩ := hS.kids h hh k hkm
      obtain ⟨hpo, hpm⟩ := hinv i hi
      have hpre := kid_pre hS up hh hp hpo hpm hk hc hcu
      have hol1 := hpo.len
      have ho := outI_succ (S := S) (d := d) (out := out) (up := up) hk
      have hol2 : (outI S d out h up i ++ [rowM S (c : Int) up]).length ≤ S.N := by
        have := nodup_len S.N _ hpre.nodup (fun k hk => by
          obtain ⟨x, hx, rfl⟩ := List.mem_map.1 hk
          exact hpre.rng x hx)
        rwa [List.length_map] at this
      have ihc := ih c hc hcu _ (((outI S d out h up i).length : Int) + 1) hol2 hpre
      rw [← ho] at ihc
      refine ⟨i + 1, ?_, by omega, by omega⟩
      generalize outI S d out h up i = o1 at hol1 hol2 ihc ⊢
      generalize outI S d out h up (i + 1) = o2 at ihc ⊢
      have k2 : (i : Int) < ((S.kd h).length : Int) := by omega
      have k3 : (c : Int) < (S.N : Int) := by omega
      have hg := intsPV_get hk
      have hgc : (rowsAV S.N S.st av).getD c [] = nodeAV (S.st c) (av c) := rowsAV_get hc
      have hcl := cloneA_run (S.st c).attrs (hS.attrs c hc) [] (m - 1)
      rw [show m - 1 + 1 = m by omega] at hcl
      have os : o1.map GRow.pv ++ [[.int .i64 (c : Int), .int .i64 up, .str (S.st c).tag, .str (S.st c).key, .str (S.st c).text, .list ((S.st c).attrs.map Attr.pv)]] = (o1 ++ [rowM S (c : Int) up]).map GRow.pv := by
        rw [List.map_append]; rfl
      have ol1 : (o1.map GRow.pv).length = o1.length := by simp
      have ol2 : (o1 ++ [rowM S (c : Int) up]).length = o1.length + 1 := by simp
      rw [ol2] at ihc
      have ol3 : ((o1 ++ [rowM S (c : Int) up]).map GRow.pv).length = o1.length + 1 := by simp
      generalize o1 ++ [rowM S (c : Int) up] = o3 at os ihc ol3
      have hgq : (rest.set q (.pcells 6 (o1.map GRow.pv)))[q]? = some (.pcells 6 (o1.map GRow.pv)) := by rw [List.getElem?_set, if_pos rfl, if_pos hq]
      have hss : ∀ o o' : AObj, (rest.set q o).set q o' = rest.set q o' := fun o o' => by simp
      simp only [nodeAV] at hgc
      rcases hK.inv with ⟨_, hk0⟩ | ⟨r, hav, hr⟩ | hav
      · rw [hk0] at hil; simp at hil
      · have hrq : r ≠ q := fun e => hqf h hh (by rw [hav, e]; rfl)
        have hgr : (rest.set q (.pcells 6 (o1.map GRow.pv)))[r]? = some (.pcells 1 (intsPV (S.kd h))) := by rw [List.getElem?_set, if_neg (fun e => hrq e.symm)]; exact hr
        rcases (hM.kids c hc).inv with ⟨hav2, _⟩ | ⟨r2, hav2, _⟩ | hav2
        all_goals
          simp only [hav2] at hgc
          simp only [memR, machG, hav] at ihc ⊢
          simp (implicitDefEqProofs := false) (maxSteps := 1000000) (disch := omega) only [Ra, Rb, Rc, Rd, Re, Rf, Rg, evalOp, idx_p, idx_c, St.know, mentions, AObj.mentions, bin, binI, noLocal, view, viewT, pureArg, allFlat, flat, app_p, Nat.reduceBEq, Nat.reduceAdd, Nat.reduceLeDiff, Nat.reduceLT, asInt, pures, AV.cells, rd_p, rd_c, wr_p, reduceCtorEq, Nat.reduceEqDiff, B24x0, k2, k3, hg, hgc, len1, hgq, hgr, il, hss, hcl, os, ol1, ol3, ihc, List.length_append, List.getElem?_cons_zero, List.getElem?_cons_succ]
      · rcases (hM.kids c hc).inv with ⟨hav2, _⟩ | ⟨r2, hav2, _⟩ | hav2
        all_goals
          simp only [hav2] at hgc
          simp only [memR, machG, hav] at ihc ⊢
          simp (implicitDefEqProofs := false) (maxSteps := 1000000) (disch := omega) only [Ra, Rb, Rc, Rd, Re, Rf, Rg, evalOp, idx_c, St.know, mentions, AObj.mentions, bin, binI, noLocal, view, viewT, pureArg, allFlat, flat, app_p, Nat.reduceBEq, Nat.reduceAdd, Nat.reduceLeDiff, Nat.reduceLT, asInt, pures, AV.cells, rd_p, rd_c, wr_p, reduceCtorEq, Nat.reduceEqDiff, B24x0, k2, k3, hg, hgc, len1, hgq, il, hss, hcl, os, ol1, ol3, ihc, List.length_append, List.getElem?_cons_zero, List.getElem?_cons_succ]
    · right
      obtain rfl : i = (S.kd h).length := by omega
      have k2 : ¬ ((S.kd h).length : Int) < ((S.kd h).length : Int) := by omega
      refine ⟨_, ?_, ?_, rfl⟩
      · rw [outI_all]
        generalize belowM S (d + 1) out (h : Int) up = o1
        rcases hK.inv with ⟨hav, _⟩ | ⟨r, hav, _⟩ | hav
        all_goals
          simp only [hav]
          simp (implicitDefEqProofs := false) (maxSteps := 1000000) (disch := omega) only [Ra, Rb, Rc, Rd, Re, Rf, Rg, evalOp, St.know, mentions, AObj.mentions, bin, binI, Nat.reduceBEq, B24x0, k2]
      · simp
  rw [acall_code T24, run_code rfl rfl]
  simp only [nodeAV] at hgh
  generalize belowM S (d + 1) out (h : Int) up = o2 at hloop ⊢
  rcases hK.inv with ⟨hav, hk0⟩ | ⟨r, hav, hr⟩ | hav
  · simp only [hk0, List.length_nil, Int.natCast_zero] at hloop
    simp only [memR, machG, hav] at hloop hgh ⊢
    simp (implicitDefEqProofs := false) (maxSteps := 1000000) (disch := omega) only [Ra, Rb, Rc, Rd, Re, Rf, Rg, evalOp, idx_c, List.zipWith, mentions, AObj.mentions, noLocal, view, tupleOf, oneTup, Nat.reduceBEq, Nat.reduceAdd, Nat.reduceLeDiff, Nat.reduceLT, asInt, pures, rd_c, reduceCtorEq, Nat.reduceEqDiff, F24, k1, len1, hgh, hloop, List.getElem?_cons_zero, List.getElem?_cons_succ]
  · have hrq : r ≠ q := fun e => hqf h hh (by rw [hav, e]; rfl)
    have hgr : (rest.set q (.pcells 6 (out.map GRow.pv)))[r]? = some (.pcells 1 (intsPV (S.kd h))) := by rw [List.getElem?_set, if_neg (fun e => hrq e.symm)]; exact hr
    simp only [memR, machG, hav] at hloop hgh ⊢
    simp (implicitDefEqProofs := false) (maxSteps := 1000000) (disch := omega) only [Ra, Rb, Rc, Rd, Re, Rf, Rg, evalOp, idx_c, List.zipWith, mentions, AObj.mentions, noLocal, view, tupleOf, oneTup, Nat.reduceBEq, Nat.reduceAdd, Nat.reduceLeDiff, Nat.reduceLT, asInt, pures, rd_c, reduceCtorEq, Nat.reduceEqDiff, F24, k1, len1, hgh, hloop, List.getElem?_cons_zero, List.getElem?_cons_succ]
  · simp only [memR, machG, hav] at hloop hgh ⊢
    simp (implicitDefEqProofs := false) (maxSteps := 1000000) (disch := omega) only [Ra, Rb, Rc, Rd, Re, Rf, Rg, evalOp, idx_c, List.zipWith, mentions, AObj.mentions, noLocal, view, tupleOf, oneTup, Nat.reduceBEq, Nat.reduceAdd, Nat.reduceLeDiff, Nat.reduceLT, asInt, pures, rd_c, reduceCtorEq, Nat.reduceEqDiff, F24, k1, len1, hgh, il, hloop, List.getElem?_cons_zero, List.getElem?_cons_succ]
theorem mrows_gen {R : Nat} {S : MS} (hS : S.Ok R) (hN : S.N ≤ 4194304) (av : Nat → AV) (rest : List AObj) (hM : MOk S.N av S.kd rest) (q : Nat) (hq : q < rest.length) (hqf : ∀ k, k < S.N → refOf (av k) ≠ some (q + 1 + 1)) {r : Nat → Nat} (hr1 : ∀ c, c < S.N → r c ≤ R) (hr2 : ∀ c p : Nat, c < S.N → (S.st c).up = (p : Int) → r p < r c) (n : Nat) (hn : S.N + 1 < n) :
    ∀ (d h : Nat) (up : Int) (out : List GRow), h < S.N → R ≤ r h + d → out.length ≤ S.N → PreO S out h →
      acall T (n + d + 1) 24 [MP, .own true (q + 1 + 1) out.length, .p (.int .i64 h), .p (.int .i64 up)] (memR S av rest q out) = some (.own true (q + 1 + 1) (belowM S (d + 1) out (h : Int) up).length, memR S av rest q (belowM S (d + 1) out (h : Int) up)) := by
  intro d
  induction d with
  | zero =>
    intro h up out hh hR hol hp
    exact mrows_body hS hN av rest hM q hq hqf n hn 0 h up out hh hp hol (fun c hc hcu => by
      have := hr1 c hc
      have := hr2 c h hc hcu
      omega)
  | succ d ih =>
    intro h up out hh hR hol hp
    exact mrows_body hS hN av rest hM q hq hqf (n + d + 1) (by omega) (d + 1) h up out hh hp hol (fun c hc hcu out up hol hp => by
      have := hr2 c h hc hcu
      exact ih c up out hc (by omega) hol hp)
theorem Rows_run {R : Nat} {S : MS} (hS : S.Ok R) (hN : S.N ≤ 4194304) (av : Nat → AV) (rest : List AObj) (hM : MOk S.N av S.kd rest) {n : Nat} (hn : S.N + 1 < n) :
    acall T (n + R + 2) 11 [MP] (machG S.N S.st av rest) = some (.own true (rest.length + 1 + 1) (rowsM S R).length, machG S.N S.st av (rest ++ [.pcells 6 ((rowsM S R).map GRow.pv)])) := by
  have hM' : MOk S.N av S.kd (rest ++ [.pcells 6 []]) := ⟨fun h hh => (hM.kids h hh).more _, hM.disj⟩
  obtain ⟨r, hr1, hr2⟩ := hS.rank
  have hr := mrows_gen hS hN av (rest ++ [.pcells 6 []]) hM' rest.length (by simp) (fun k hk e => by
    have := (hM.kids k hk).ref_lt e
    omega) hr1 hr2 n hn R 0 0 [] hS.pos (by omega) (by simp) pre_nil
  have hset : ∀ o o' : AObj, (rest ++ [o]).set rest.length o' = rest ++ [o'] := fun o o' => by simp [List.set_append]
  have len1 : (rowsAV S.N S.st av).length = S.N := rowsAV_len
  have k0 : ((S.N : Int) == 0) = false := by have := hS.pos; simp; omega
  simp only [memR, hset, Int.natCast_zero, List.map_nil, List.length_nil] at hr
  rw [acall_code T11, run_code rfl rfl]
  unfold rowsM
  generalize belowM S (R + 1) [] 0 0 = o at hr ⊢
  simp only [machG] at hr ⊢
  simp (implicitDefEqProofs := false) (maxSteps := 1000000) (disch := omega) only [Ra, Rb, Rc, Rd, Re, Rf, Rg, guardK, evalOp, St.know, List.zipWith, mentions, AObj.mentions, avEq, ptrEq, noLocal, view, tupleOf, oneTup, Nat.reduceBEq, Nat.reduceAdd, Nat.reduceLT, pures, rd_c, F11, k0, hr, List.getElem?_cons_zero, List.getElem?_cons_succ]
theorem Next_run (S : MS) (av : Nat → AV) (rest : List AObj) (n : Nat) : acall T (n + 1) 12 [MP] (machG S.N S.st av rest) = some (.p (.int .i64 S.N), machG S.N S.st av rest) := by
  have len1 : (rowsAV S.N S.st av).length = S.N := rowsAV_len
  rw [acall_code T12, run_code rfl rfl]
  simp only [machG]
  simp (implicitDefEqProofs := false) (maxSteps := 1000000) (disch := omega) only [Ra, Rb, Rc, Rd, Re, Rf, Rg, evalOp, St.know, List.zipWith, mentions, AObj.mentions, avEq, ptrEq, noLocal, view, tupleOf, oneTup, Nat.reduceBEq, Nat.reduceAdd, Nat.reduceLT, pures, rd_c, F12, List.getElem?_cons_zero, List.getElem?_cons_succ]
end Go.TA.Tryd


end
section
set_option linter.unusedSimpArgs false
set_option linter.unusedVariables false
/- The machine of rows. Plain. -/
set_option linter.unusedVariables false
set_option linter.unusedSimpArgs false
namespace Go.TA
def S0 (l : List GRow) : MS := ⟨l.length + 1, st0 l, kd0 l l.length⟩
theorem mem_kd0 {l : List GRow} {i h : Nat} {k : Int} : k ∈ kd0 l i h ↔ ∃ j x, j < i ∧ l[j]? = some x ∧ x.up = (h : Int) ∧ k = (j : Int) + 1 := by
  simp only [kd0, List.mem_map, List.mem_filter, List.mem_range]
  constructor
  · rintro ⟨j, ⟨h1, h2⟩, rfl⟩
    cases hx : l[j]? with
    | none => rw [hx] at h2; simp at h2
    | some x =>
      rw [hx] at h2
      exact ⟨j, x, h1, hx, by simpa using h2, rfl⟩
  · rintro ⟨j, x, h1, h2, h3, rfl⟩
    exact ⟨j, ⟨h1, by simp [h2, h3]⟩, rfl⟩
theorem kd0_nodup (l : List GRow) (i h : Nat) : (kd0 l i h).Nodup := by
  unfold kd0
  rw [List.nodup_iff_pairwise_ne, List.pairwise_map]
  refine List.Pairwise.imp ?_ ((List.nodup_iff_pairwise_ne.1 List.nodup_range).filter _)
  intro a b hab
  omega
theorem S0_ok {l : List GRow} {m : Nat} (hs : sound l) (hsm : Rows.small m l) (hm : m ≤ 1048577) : (S0 l).Ok l.length := by
  have hlive : ∀ c, c < l.length + 1 → (st0 l c).live = true := fun c hc => by
    cases c with
    | zero => rfl
    | succ j =>
      obtain ⟨x, hx⟩ := get_some (show j < l.length by omega)
      simp [st0, hx, nodeOf]
  have hup : ∀ j x, l[j]? = some x → (st0 l (j + 1)).up = x.up := fun j x hx => by simp [st0, hx, nodeOf]
  refine ⟨by simp [S0], ⟨rfl, rfl⟩, fun p hp k hk => ?_, fun c hc => ?_, fun c hc hd => ?_, fun p hp => kd0_nodup l l.length p, ⟨fun c => c, fun c hc => by simp only [S0] at hc; show c ≤ l.length; omega, fun c p hc hu => ?_⟩, fun c hc => ?_⟩
  · obtain ⟨j, x, h1, h2, h3, rfl⟩ := mem_kd0.1 hk
    exact ⟨j + 1, by omega, by simp only [S0]; omega, hlive _ (by omega), by simp only [S0]; rw [hup j x h2]; exact h3⟩
  · simp only [S0] at hc ⊢
    cases c with
    | zero => exact .inl rfl
    | succ j =>
      obtain ⟨x, hx⟩ := get_some (show j < l.length by omega)
      have hst := hs.1 j x (by omega) hx
      refine .inr ⟨x.up.toNat, by omega, ?_, hlive _ (by omega), mem_kd0.2 ⟨j, x, by omega, hx, by omega, by omega⟩⟩
      rw [hup j x hx]; omega
  · simp only [S0] at hc hd
    rw [hlive c hc] at hd; cases hd
  · simp only [S0] at hc hu
    cases c with
    | zero => simp [st0, holder] at hu <;> omega
    | succ j =>
      obtain ⟨x, hx⟩ := get_some (show j < l.length by omega)
      have hst := hs.1 j x (by omega) hx
      rw [hup j x hx] at hu
      show p < j + 1
      omega
  · simp only [S0] at hc ⊢
    cases c with
    | zero => simp [st0, holder]
    | succ j =>
      obtain ⟨x, hx⟩ := get_some (show j < l.length by omega)
      have := (hsm.row x (List.mem_of_getElem? hx)).attrs
      simp only [st0, hx, Option.map_some, Option.getD_some, nodeOf]
      omega
end Go.TA


end
