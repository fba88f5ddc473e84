/- Part 6 of 6 of a proof; joined from ValidShapesRun, ValidFew, ValidFewR, ValidSame28, ValidNoneLaw, ValidValidNoneFin. The law ValidNone, for every input of bulk at most 1048576: the call returns true, and nothing that was there has changed. -/
import Derived.Test.YtnjblmbobmbgkaaDoorVn1
import Derived.Test.YtnjblmbobmbgkaaDoorVn5
import Derived.Test.YtnjblmbobmbgkaaDoorVn3
import Derived.Test.YtnjblmbobmbgkaaDoorVn4
import Derived.Test.YtnjblmbobmbgkaaDoorCards
import Derived.Test.YtnjblmbobmbgkaaDoorTie
import Derived.WalkKit
import Derived.ProofKit
import Derived.OpenShut
import Derived.JoinedCond
import Derived.Deep.DeepHandedRow
import Derived.Lib.LaidTab
section
/- Rows that are the same but for their IDs. -/
set_option linter.unusedVariables false
set_option linter.unusedSimpArgs false
set_option maxRecDepth 100000
set_option maxHeartbeats 8000000
namespace Go.TA.Tryd
theorem attrs_run (a b : List Attr) (g : List AObj) {n m : Nat} (ha : a.length < n) (hn : n ≤ 1048577) (hm : n ≤ m) :
    acall T (m + 1) 27 [.p (attrsPV a), .p (attrsPV b)] g = some (.p (.bool (decide (a = b))), g) := by
  rw [acall_code T27, run_pure rfl rfl rfl]
  by_cases hlen : a.length = b.length
  · have hloop : aexec (acall T m) m (.loop B27x0) ⟨[(0, .p (.list (a.map Attr.pv))), (1, .p (.list (b.map Attr.pv))), (12, .p (.int .i64 a.length)), (13, .p (.int .i64 0))], [], []⟩ = some (eqEnd (decide (a.drop 0 = b.drop 0))) := by
      refine loop_rule' (σ := Nat) (S := fun i => ⟨[(0, .p (.list (a.map Attr.pv))), (1, .p (.list (b.map Attr.pv))), (12, .p (.int .i64 a.length)), (13, .p (.int .i64 i))], [], []⟩) (I := fun i => i ≤ a.length) (μ := fun i => a.length - i) (Φ := fun i => eqEnd (decide (a.drop i = b.drop i))) ?_ 0 (by omega) (by omega)
      intro i hi
      by_cases h : i < a.length
      · obtain ⟨x, hx⟩ := get_some h
        obtain ⟨y, hy⟩ := get_some (l := b) (i := i) (by omega)
        have hgx := getD_map (f := Attr.pv) hx
        have hgy := getD_map (f := Attr.pv) hy
        have hdx : a.drop i = x :: a.drop (i + 1) := by rw [List.drop_eq_getElem?_toList_append, hx]; rfl
        have hdy : b.drop i = y :: b.drop (i + 1) := by rw [List.drop_eq_getElem?_toList_append, hy]; rfl
        by_cases hxy : x = y
        · subst hxy
          refine .inl ⟨i + 1, ?_, by omega, by omega, by rw [hdx, hdy]; simp⟩
          simp (implicitDefEqProofs := false) (maxSteps := 1000000) (disch := omega) only [Ra, Rb, Rc, Rd, Re, Rf, Rg, evalOp, St.know, mentions, AObj.mentions, bin, binI, avEq, cellsEq, Nat.reduceBEq, Nat.reduceAdd, asInt, B27x0, hgx, hgy, Attr.pv]
        · refine .inr ⟨?_, eqEnd_ne _⟩
          have e : decide (a.drop i = b.drop i) = false := by rw [hdx, hdy]; simp [hxy]
          have e2 : (x.name == y.name && x.value == y.value) = false := by
            rw [← Bool.not_eq_true, Bool.and_eq_true, beq_iff_eq, beq_iff_eq]
            rintro ⟨h1, h2⟩
            apply hxy
            cases x; cases y; simp only at h1 h2; subst h1 h2; rfl
          rw [e]
          simp (implicitDefEqProofs := false) (maxSteps := 1000000) (disch := omega) only [Ra, Rb, Rc, Rd, Re, Rf, Rg, evalOp, St.know, mentions, AObj.mentions, bin, binI, avEq, cellsEq, Nat.reduceBEq, Nat.reduceAdd, asInt, B27x0, hgx, hgy, Attr.pv, e2, eqEnd]
      · have e : decide (a.drop i = b.drop i) = true := by rw [List.drop_eq_nil_of_le (by omega), List.drop_eq_nil_of_le (by omega)]; simp
        refine .inr ⟨?_, eqEnd_ne _⟩
        rw [e]
        simp (implicitDefEqProofs := false) (maxSteps := 1000000) (disch := omega) only [Ra, Rb, Rc, Rd, Re, Rf, Rg, evalOp, St.know, mentions, AObj.mentions, bin, binI, Nat.reduceBEq, B27x0, eqEnd]
    rw [List.drop_zero, List.drop_zero] at hloop
    have hl2 : ((a.length : Int) == (b.length : Int)) = true := by simp [hlen]
    cases hd : decide (a = b) with
    | false =>
      rw [hd] at hloop
      simp only [eqEnd, Bool.false_eq_true, if_false] at hloop
      simp (implicitDefEqProofs := false) (maxSteps := 1000000) (disch := omega) only [Ra, Rb, Rc, Rd, Re, Rf, Rg, evalOp, St.know, List.zipWith, mentions, AObj.mentions, avEq, noLocal, view, tupleOf, oneTup, Nat.reduceBEq, Nat.reduceAdd, F27, attrsPV, hl2, hloop]
    | true =>
      rw [hd] at hloop
      simp only [eqEnd, if_true] at hloop
      simp (implicitDefEqProofs := false) (maxSteps := 1000000) (disch := omega) only [Ra, Rb, Rc, Rd, Re, Rf, Rg, evalOp, St.know, List.zipWith, mentions, AObj.mentions, avEq, noLocal, view, tupleOf, oneTup, Nat.reduceBEq, Nat.reduceAdd, F27, attrsPV, hl2, hloop]
  · have hl2 : ((a.length : Int) == (b.length : Int)) = false := by rw [beq_eq_false_iff_ne]; omega
    have hd : decide (a = b) = false := by rw [decide_eq_false_iff_not]; intro hh; exact hlen (by rw [hh])
    rw [hd]
    simp (implicitDefEqProofs := false) (maxSteps := 1000000) (disch := omega) only [Ra, Rb, Rc, Rd, Re, Rf, Rg, evalOp, St.know, List.zipWith, mentions, AObj.mentions, avEq, noLocal, view, tupleOf, oneTup, Nat.reduceBEq, Nat.reduceAdd, F27, attrsPV, hl2]


theorem shapes_run (l : List GRow) {m : Nat} (hsm : Rows.small m l) (hm : m ≤ 1048577) {n : Nat} (hn : 1048577 ≤ n) (g : List AObj) : acall T (n + 2) 15 [.p (.list ((named l 0).map GRow.pv)), .p (.list (l.map GRow.pv))] g = some (.p (.bool true), g) := by
  have hlen := hsm.len
  have nl := named_len l 0
  have hl := loop_rule' (C := acall T (n + 1)) (N := n + 1) (B := B15x0) (σ := Nat) (S := fun i => ⟨[(0, .p (.list ((named l 0).map GRow.pv))), (1, .p (.list (l.map GRow.pv))), (14, .p (.int .i64 l.length)), (15, .p (.int .i64 i))], [], []⟩) (I := fun i => i ≤ l.length) (μ := fun i => l.length - i) (Φ := fun i => (.exit 0, ⟨[], [], []⟩)) ?_ 0 (by omega) (by omega)
  · rw [acall_code T15, run_pure rfl rfl rfl]
    simp only [Int.natCast_zero] at hl
    simp (implicitDefEqProofs := false) (maxSteps := 1000000) (disch := omega) only [Ra, Rb, Rc, Rd, Re, Rf, Rg, evalOp, St.know, List.zipWith, mentions, AObj.mentions, avEq, noLocal, view, tupleOf, oneTup, Nat.reduceBEq, Nat.reduceAdd, F15, hl, nl]
  intro i hi
  by_cases h : i < l.length
  · left
    obtain ⟨x, hx⟩ := get_some h
    have hg := getD_map (f := GRow.pv) hx
    have hg2 : ((named l 0).map GRow.pv).getD i [] = GRow.pv { x with id := (i : Int) + 1 } := getD_map (f := GRow.pv) (by rw [named_get, hx]; simp)
    have k1 : (i : Int) < (l.length : Int) := by omega
    have ha := fun g => attrs_run x.attrs x.attrs g (n := x.attrs.length + 1) (m := n) (by omega) (by have := (hsm.row x (List.mem_of_getElem? hx)).attrs; omega) (by have := (hsm.row x (List.mem_of_getElem? hx)).attrs; omega)
    simp only [attrsPV, decide_true] at ha
    refine ⟨i + 1, ?_, by omega, by omega, rfl⟩
    simp (implicitDefEqProofs := false) (maxSteps := 1000000) (disch := omega) only [Ra, Rb, Rc, Rd, Re, Rf, Rg, guardK, evalOp, St.know, mentions, AObj.mentions, bin, binI, avEq, una, view, viewT, pureArg, allFlat, flat, Nat.reduceBEq, Nat.reduceAdd, Nat.reduceLeDiff, Nat.reduceLT, asInt, pures, AV.cells, AObj.rd, AObj.wr, reduceCtorEq, Nat.reduceEqDiff, B15x0, k1, nl, hg, hg2, GRow.pv, attrsPV, ha]
  · right
    obtain rfl : i = l.length := by omega
    have k1 : ¬ (l.length : Int) < (l.length : Int) := by omega
    refine ⟨?_, by simp⟩
    simp (implicitDefEqProofs := false) (maxSteps := 1000000) (disch := omega) only [Ra, Rb, Rc, Rd, Re, Rf, Rg, evalOp, St.know, mentions, AObj.mentions, bin, binI, Nat.reduceBEq, B15x0, k1]
end Go.TA.Tryd

end
section
/- The guard of most laws: whether operations are few. -/
set_option linter.unusedVariables false
set_option linter.unusedSimpArgs false
set_option maxRecDepth 100000
set_option maxHeartbeats 1000000
namespace Go.TA.Tryd

theorem attr_get {l : List Attr} {i : Nat} {a : Attr} (h : l[i]? = some a) : (l.map Attr.pv).getD i [] = [.str a.name, .str a.value] := by
  rw [List.getD_eq_getElem?_getD, List.getElem?_map, h]; rfl
theorem few_attr {C : Calls'} {N : Nat} (x : GOp) (p0 p11 p12 : PV) (g : List AObj) (i : Nat) (a : Attr) (left : Int) (h : x.attrs[i]? = some a) (hb : x.attrs.length ≤ 1048576) (ha : a.value.length + a.name.length ≤ 1048576) (hl : -4611686018427387904 ≤ left) (hl2 : left ≤ 4611686018427387904) :
    aexec C N B6x1 ⟨[(0, .p p0), (5, .p (.int .i64 left)), (7, .ptr false 7 9 1 0 0), (11, .p p11), (12, .p p12), (46, .p (.int .i64 x.attrs.length)), (47, .p (.int .i64 i))], [(7, .pcells 9 [x.pv])], g⟩ =
      some (.normal, ⟨[(0, .p p0), (5, .p (.int .i64 (left - ((a.value.length : Int) + a.name.length).tdiv 4096))), (7, .ptr false 7 9 1 0 0), (11, .p p11), (12, .p p12), (46, .p (.int .i64 x.attrs.length)), (47, .p (.int .i64 (i + 1)))], [(7, .pcells 9 [x.pv])], g⟩) := by
  have hlt : i < x.attrs.length := (List.getElem?_eq_some_iff.1 h).1
  have h1 : (i : Int) < (x.attrs.length : Int) := by omega
  have h2 := attr_get h
  have q : 0 ≤ ((a.value.length : Int) + (a.name.length : Int)).tdiv 4096 ∧ ((a.value.length : Int) + (a.name.length : Int)).tdiv 4096 ≤ 1048576 := by
    rw [Int.tdiv_eq_ediv_of_nonneg (by omega)]; omega
  generalize hq : ((a.value.length : Int) + (a.name.length : Int)).tdiv 4096 = d at q ⊢
  obtain ⟨w1, w2, w3, w4⟩ : IntKind.i64.wrap ((a.value.length : Int) + (a.name.length : Int)) = (a.value.length : Int) + (a.name.length : Int) ∧ IntKind.i64.wrap d = d ∧ IntKind.i64.wrap (left - d) = left - d ∧ IntKind.i64.wrap ((i : Int) + 1) = (i : Int) + 1 :=
    ⟨wrap_id (by omega) (by omega), wrap_id (by omega) (by omega), wrap_id (by omega) (by omega), wrap_id (by omega) (by omega)⟩
  simp (implicitDefEqProofs := false) only [B6x1, runOps_nil, runOps_cons, bo_some, bo_none, bo_ite, be_some, be_none, be_ite, bn_some, bn_none, bn_ite, bn'_some, aexec_skip, aexec_region, aexec_seq, aexec_block, aexec_exit, aexec_ret, aexec_keep, aexec_cond, condK_bool, bs_normal, bs_ret, bs_exit, bs_none, bs_ite, bkp_some, bb_normal, bb_ret, bb_exit, bb_none, bb_ite, bl_normal, bl_ret, bl_exit, bl_none, bl_ite, br_ret, br_normal, br_none, br_ite, rr_some, m_none, m_some, m_st, m_fr, m_lo, m_p, m_own, m_bool, m_int, m_str, m_list, m_pcells, m_length, m_and, m_or, ite_self,
 enterSt, stepOp, guardK, evalOp, bk_some, bk_ite, bk_none, orBot, St.know, St.arg, St.get, lk, up, St.set, opt', List.length_cons, List.length_nil, List.range, List.range.loop, List.zip, List.zipWith, St.keep, pickL, List.map_cons, List.map_nil, List.any_cons, List.any_nil, mentions, mentionsL, AObj.mentions, bin, binI, avEq, isNil, isNilC, ptrEq, St.one, cellsEq, seq_b, seq_i, seq_s, una, ropRd, bound, okFor, noLocals, noLocal, AV.same, PV.same, AV.sameL, PV.sameL, PV.sameLL, sameAt, againEv, againG, againX, againOne, findIx, hand, view, viewT, allM, tupleOf, oneTup, resultsOf, result1, pureArg, allFlat, flat, frz, cellsAll, sameLen, appendTo, fillK, rg_some, rg_ite, rg_none, implies_true, true_implies, false_implies, Option.map_some, Option.map_none, Nat.reduceBEq, Nat.reduceAdd, Nat.reduceLeDiff, Nat.reduceLT, Bool.or_self, Bool.or_false, Bool.false_or, Bool.false_eq_true, Bool.true_eq_false, if_false, if_true, Bool.not_true, Bool.not_false, asInt, St.newObj, newOwns, St.obj, St.putObj, puress, pures, objOf, ofCells, AV.cells, AObj.rd, AObj.wr, sub, over, PV.scalarEq, reduceCtorEq, and_self, and_true, true_and, List.getD_cons_zero, List.getD_cons_succ, List.set_cons_zero, List.set_cons_succ, List.drop_zero, List.drop_succ_cons, List.take_zero, List.take_succ_cons, List.take_nil, List.drop_nil, fill, List.contains_cons, List.contains_nil, Bool.or_true, Bool.true_or, Bool.and_true, Bool.true_and, Bool.and_false, Bool.false_and, decide_true, decide_false, beq_self_eq_true, Int.toNat_natCast, Nat.reduceMul, Nat.reduceSub, Int.reduceToNat, Nat.zero_le, Nat.lt_irrefl, Nat.le_refl, not_true_eq_false, not_false_eq_true, decide_eq_true_eq, runD_nil, runD_cons', bod_some, Option.bind_some, stepD, againK, List.all_cons, List.all_nil, aexec_draw, Int.reduceBEq, Int.reduceBNe, Bool.not_eq_true', Int.reduceLT, Int.reduceLE, Int.reduceEq, Int.reduceNeg, Int.reduceAdd, Int.reduceSub, Int.reduceMul, Int.natCast_nonneg, List.getElem?_concat_length, true_or, or_true, false_or, or_false, false_and, and_false, Nat.reduceEqDiff, Nat.one_ne_zero, List.cons_append, List.nil_append, List.append_nil, h1, h2, GOp.pv, attrsPV, List.length_map, w1, hq, w2, w3, w4]
theorem few_attr_end {C : Calls'} {N : Nat} (x : GOp) (p0 p11 p12 : PV) (g : List AObj) (left : Int) :
    aexec C N B6x1 ⟨[(0, .p p0), (5, .p (.int .i64 left)), (7, .ptr false 7 9 1 0 0), (11, .p p11), (12, .p p12), (46, .p (.int .i64 x.attrs.length)), (47, .p (.int .i64 x.attrs.length))], [(7, .pcells 9 [x.pv])], g⟩ =
      some (.exit 2, ⟨[(0, .p p0), (5, .p (.int .i64 left)), (11, .p p11), (12, .p p12)], [], g⟩) := by
  have h1 : ¬ ((x.attrs.length : Int) < (x.attrs.length : Int)) := by omega
  simp (implicitDefEqProofs := false) only [B6x1, runOps_nil, runOps_cons, bo_some, bo_none, bo_ite, be_some, be_none, be_ite, bn_some, bn_none, bn_ite, bn'_some, aexec_skip, aexec_region, aexec_seq, aexec_block, aexec_exit, aexec_ret, aexec_keep, aexec_cond, condK_bool, bs_normal, bs_ret, bs_exit, bs_none, bs_ite, bkp_some, bb_normal, bb_ret, bb_exit, bb_none, bb_ite, bl_normal, bl_ret, bl_exit, bl_none, bl_ite, br_ret, br_normal, br_none, br_ite, rr_some, m_none, m_some, m_st, m_fr, m_lo, m_p, m_own, m_bool, m_int, m_str, m_list, m_pcells, m_length, m_and, m_or, ite_self,
 enterSt, stepOp, guardK, evalOp, bk_some, bk_ite, bk_none, orBot, St.know, St.arg, St.get, lk, up, St.set, opt', List.length_cons, List.length_nil, List.range, List.range.loop, List.zip, List.zipWith, St.keep, pickL, List.map_cons, List.map_nil, List.any_cons, List.any_nil, mentions, mentionsL, AObj.mentions, bin, binI, avEq, isNil, isNilC, ptrEq, St.one, cellsEq, seq_b, seq_i, seq_s, una, ropRd, bound, okFor, noLocals, noLocal, AV.same, PV.same, AV.sameL, PV.sameL, PV.sameLL, sameAt, againEv, againG, againX, againOne, findIx, hand, view, viewT, allM, tupleOf, oneTup, resultsOf, result1, pureArg, allFlat, flat, frz, cellsAll, sameLen, appendTo, fillK, rg_some, rg_ite, rg_none, implies_true, true_implies, false_implies, Option.map_some, Option.map_none, Nat.reduceBEq, Nat.reduceAdd, Nat.reduceLeDiff, Nat.reduceLT, Bool.or_self, Bool.or_false, Bool.false_or, Bool.false_eq_true, Bool.true_eq_false, if_false, if_true, Bool.not_true, Bool.not_false, asInt, St.newObj, newOwns, St.obj, St.putObj, puress, pures, objOf, ofCells, AV.cells, AObj.rd, AObj.wr, sub, over, PV.scalarEq, reduceCtorEq, and_self, and_true, true_and, List.getD_cons_zero, List.getD_cons_succ, List.set_cons_zero, List.set_cons_succ, List.drop_zero, List.drop_succ_cons, List.take_zero, List.take_succ_cons, List.take_nil, List.drop_nil, fill, List.contains_cons, List.contains_nil, Bool.or_true, Bool.true_or, Bool.and_true, Bool.true_and, Bool.and_false, Bool.false_and, decide_true, decide_false, beq_self_eq_true, Int.toNat_natCast, Nat.reduceMul, Nat.reduceSub, Int.reduceToNat, Nat.zero_le, Nat.lt_irrefl, Nat.le_refl, not_true_eq_false, not_false_eq_true, decide_eq_true_eq, runD_nil, runD_cons', bod_some, Option.bind_some, stepD, againK, List.all_cons, List.all_nil, aexec_draw, Int.reduceBEq, Int.reduceBNe, Bool.not_eq_true', Int.reduceLT, Int.reduceLE, Int.reduceEq, Int.reduceNeg, Int.reduceAdd, Int.reduceSub, Int.reduceMul, Int.natCast_nonneg, List.getElem?_concat_length, true_or, or_true, false_or, or_false, false_and, and_false, Nat.reduceEqDiff, Nat.one_ne_zero, List.cons_append, List.nil_append, List.append_nil, h1]
/-- Attributes that are not too great. -/
def smallAttrs (l : List Attr) : Prop := ∀ a ∈ l, a.value.length + a.name.length ≤ 1048576
theorem few_attrs {C : Calls'} {N : Nat} (x : GOp) (p0 p11 p12 : PV) (g : List AObj) (hb : x.attrs.length ≤ 1048576) (hs : smallAttrs x.attrs) (rest : List Attr) : ∀ (pre : List Attr) (m : Nat) (left : Int), x.attrs = pre ++ rest → rest.length < m →
    -4611686018427387904 + 1048576 * (rest.length : Int) ≤ left → left ≤ 4611686018427387904 →
    aloop C N B6x1 m ⟨[(0, .p p0), (5, .p (.int .i64 left)), (7, .ptr false 7 9 1 0 0), (11, .p p11), (12, .p p12), (46, .p (.int .i64 x.attrs.length)), (47, .p (.int .i64 pre.length))], [(7, .pcells 9 [x.pv])], g⟩ =
      some (.exit 2, ⟨[(0, .p p0), (5, .p (.int .i64 (attrsLeft rest left))), (11, .p p11), (12, .p p12)], [], g⟩) := by
  induction rest with
  | nil =>
    intro pre m left hd hm h1 h2
    obtain ⟨m, rfl⟩ : ∃ k, m = k + 1 := ⟨m - 1, by simp at hm; omega⟩
    have e : pre.length = x.attrs.length := by rw [hd]; simp
    rw [e, aloop_succ, few_attr_end, bl_exit]; rfl
  | cons a rest ih =>
    intro pre m left hd hm h1 h2
    obtain ⟨m, rfl⟩ : ∃ k, m = k + 1 := ⟨m - 1, by simp at hm; omega⟩
    have hget : x.attrs[pre.length]? = some a := by rw [hd]; simp
    have hmem : a ∈ x.attrs := List.mem_of_getElem? hget
    simp only [List.length_cons, Int.natCast_add, Int.natCast_one] at hm h1
    have q : 0 ≤ ((a.value.length : Int) + (a.name.length : Int)).tdiv 4096 ∧ ((a.value.length : Int) + (a.name.length : Int)).tdiv 4096 ≤ 1048576 := by
      have := hs a hmem
      rw [Int.tdiv_eq_ediv_of_nonneg (by omega)]; omega
    rw [aloop_succ, few_attr x p0 p11 p12 g pre.length a left hget hb (hs a hmem) (by omega) h2, bl_normal]
    have := ih (pre ++ [a]) m (left - ((a.value.length : Int) + a.name.length).tdiv 4096) (by rw [hd]; simp) (by omega) (by omega) (by omega)
    rw [List.length_append, Int.natCast_add] at this
    exact this
theorem few_attrs0 {C : Calls'} {N : Nat} (x : GOp) (p0 p11 p12 : PV) (g : List AObj) (hb : x.attrs.length ≤ 1048576) (hs : smallAttrs x.attrs) (hN : x.attrs.length < N) {left : Int} (h1 : -4611686018427387904 + 1048576 * (x.attrs.length : Int) ≤ left) (h2 : left ≤ 4611686018427387904) :
    aexec C N (.loop B6x1) ⟨[(0, .p p0), (5, .p (.int .i64 left)), (7, .ptr false 7 9 1 0 0), (11, .p p11), (12, .p p12), (46, .p (.int .i64 x.attrs.length)), (47, .p (.int .i64 0))], [(7, .pcells 9 [x.pv])], g⟩ =
      some (.exit 2, ⟨[(0, .p p0), (5, .p (.int .i64 (attrsLeft x.attrs left))), (11, .p p11), (12, .p p12)], [], g⟩) := by
  rw [aexec_loop]
  exact few_attrs x p0 p11 p12 g hb hs x.attrs [] N left rfl hN h1 h2
def smallOp (x : GOp) : Prop := x.attrs.length ≤ 1048576 ∧ smallAttrs x.attrs ∧ x.text.length + x.key.length + x.tag.length + x.name.length ≤ 1048576
theorem smallOp_of {x : GOp} {n : Nat} (h : bulkL x.pv ≤ n) (hn : n ≤ 1048576) : smallOp x ∧ x.attrs.length < n := by
  rw [bulk_op] at h
  obtain ⟨h1, h2⟩ := bulk_attrs x.attrs
  refine ⟨⟨by omega, fun a ha => by have := h1 a ha; omega, by omega⟩, by omega⟩
theorem attrsLeft_boundF (l : List Attr) (hs : smallAttrs l) : ∀ left : Int, left - 1048576 * (l.length : Int) ≤ attrsLeft l left ∧ attrsLeft l left ≤ left := by
  induction l with
  | nil => intro left; simp [attrsLeft]
  | cons a l ih =>
    intro left
    have ha := hs a (by simp)
    have q : 0 ≤ ((a.value.length : Int) + (a.name.length : Int)).tdiv 4096 ∧ ((a.value.length : Int) + (a.name.length : Int)).tdiv 4096 ≤ 1048576 := by
      rw [Int.tdiv_eq_ediv_of_nonneg (by omega)]; omega
    obtain ⟨z1, z2⟩ := ih (fun b hb => hs b (by simp [hb])) (left - ((a.value.length : Int) + a.name.length).tdiv 4096)
    simp only [attrsLeft, List.length_cons, Int.natCast_add, Int.natCast_one]
    constructor <;> omega
theorem op_get {l : List GOp} {i : Nat} {x : GOp} (h : l[i]? = some x) : (l.map GOp.pv).getD i [] = x.pv := by
  rw [List.getD_eq_getElem?_getD, List.getElem?_map, h]; rfl
def fewCost (x : GOp) : Int := ((x.text.length : Int) + x.key.length + x.tag.length + x.name.length).tdiv 4096
theorem fewCost_bound {x : GOp} (h : smallOp x) : 0 ≤ fewCost x ∧ fewCost x ≤ 1048576 := by
  have := h.2.2
  unfold fewCost
  rw [Int.tdiv_eq_ediv_of_nonneg (by omega)]; omega
theorem few_op {C : Calls'} {N : Nat} (l : List GOp) (g : List AObj) (i : Nat) (x : GOp) (left : Int) (h : l[i]? = some x) (hx : smallOp x) (hN : x.attrs.length < N) (hlen : l.length ≤ 1048576) (hl : -1099511627776 ≤ left) (hl2 : left ≤ 1099511627776) :
    aexec C N B6x0 ⟨[(0, .p (.list (l.map GOp.pv))), (5, .p (.int .i64 left)), (11, .p (.int .i64 l.length)), (12, .p (.int .i64 i))], [], g⟩ =
      if left - 1 - x.attrs.length - fewCost x < 0 then some (.ret, ⟨[(4, .p (.bool false))], [], g⟩) else
      some (.normal, ⟨[(0, .p (.list (l.map GOp.pv))), (5, .p (.int .i64 (attrsLeft x.attrs (left - 1 - x.attrs.length - fewCost x)))), (11, .p (.int .i64 l.length)), (12, .p (.int .i64 (i + 1)))], [], g⟩) := by
  have hlt : i < l.length := (List.getElem?_eq_some_iff.1 h).1
  have h1 : (i : Int) < (l.length : Int) := by omega
  have h2 := op_get h
  obtain ⟨b1, b2, b3⟩ := hx
  have q := fewCost_bound (x := x) ⟨b1, b2, b3⟩
  have hq : ((x.text.length : Int) + x.key.length + x.tag.length + x.name.length).tdiv 4096 = fewCost x := rfl
  generalize fewCost x = d at q hq ⊢
  obtain ⟨w1, w2, w3, w4, w5, w6, w7, w8⟩ : IntKind.i64.wrap ((x.text.length : Int) + x.key.length) = (x.text.length : Int) + x.key.length ∧ IntKind.i64.wrap ((x.text.length : Int) + x.key.length + x.tag.length) = (x.text.length : Int) + x.key.length + x.tag.length ∧
      IntKind.i64.wrap ((x.text.length : Int) + x.key.length + x.tag.length + x.name.length) = (x.text.length : Int) + x.key.length + x.tag.length + x.name.length ∧ IntKind.i64.wrap d = d ∧ IntKind.i64.wrap (left - 1) = left - 1 ∧
      IntKind.i64.wrap (left - 1 - x.attrs.length) = left - 1 - x.attrs.length ∧ IntKind.i64.wrap (left - 1 - x.attrs.length - d) = left - 1 - x.attrs.length - d ∧ IntKind.i64.wrap ((i : Int) + 1) = (i : Int) + 1 :=
    ⟨wrap_id (by omega) (by omega), wrap_id (by omega) (by omega), wrap_id (by omega) (by omega), wrap_id (by omega) (by omega), wrap_id (by omega) (by omega), wrap_id (by omega) (by omega), wrap_id (by omega) (by omega), wrap_id (by omega) (by omega)⟩
  have hloop := few_attrs0 (C := C) (N := N) x (.list (l.map GOp.pv)) (.int .i64 l.length) (.int .i64 i) g b1 b2 hN (left := left - 1 - x.attrs.length - d) (by omega) (by omega)
  by_cases hneg : left - 1 - x.attrs.length - d < 0
  · simp (implicitDefEqProofs := false) only [B6x0, runOps_nil, runOps_cons, bo_some, bo_none, bo_ite, be_some, be_none, be_ite, bn_some, bn_none, bn_ite, bn'_some, aexec_skip, aexec_region, aexec_seq, aexec_block, aexec_exit, aexec_ret, aexec_keep, aexec_cond, condK_bool, bs_normal, bs_ret, bs_exit, bs_none, bs_ite, bkp_some, bb_normal, bb_ret, bb_exit, bb_none, bb_ite, bl_normal, bl_ret, bl_exit, bl_none, bl_ite, br_ret, br_normal, br_none, br_ite, rr_some, m_none, m_some, m_st, m_fr, m_lo, m_p, m_own, m_bool, m_int, m_str, m_list, m_pcells, m_length, m_and, m_or, ite_self,
 enterSt, stepOp, guardK, evalOp, bk_some, bk_ite, bk_none, orBot, St.know, St.arg, St.get, lk, up, St.set, opt', List.length_cons, List.length_nil, List.range, List.range.loop, List.zip, List.zipWith, St.keep, pickL, List.map_cons, List.map_nil, List.any_cons, List.any_nil, mentions, mentionsL, AObj.mentions, bin, binI, avEq, isNil, isNilC, ptrEq, St.one, cellsEq, seq_b, seq_i, seq_s, una, ropRd, bound, okFor, noLocals, noLocal, AV.same, PV.same, AV.sameL, PV.sameL, PV.sameLL, sameAt, againEv, againG, againX, againOne, findIx, hand, view, viewT, allM, tupleOf, oneTup, resultsOf, result1, pureArg, allFlat, flat, frz, cellsAll, sameLen, appendTo, fillK, rg_some, rg_ite, rg_none, implies_true, true_implies, false_implies, Option.map_some, Option.map_none, Nat.reduceBEq, Nat.reduceAdd, Nat.reduceLeDiff, Nat.reduceLT, Bool.or_self, Bool.or_false, Bool.false_or, Bool.false_eq_true, Bool.true_eq_false, if_false, if_true, Bool.not_true, Bool.not_false, asInt, St.newObj, newOwns, St.obj, St.putObj, puress, pures, objOf, ofCells, AV.cells, AObj.rd, AObj.wr, sub, over, PV.scalarEq, reduceCtorEq, and_self, and_true, true_and, List.getD_cons_zero, List.getD_cons_succ, List.set_cons_zero, List.set_cons_succ, List.drop_zero, List.drop_succ_cons, List.take_zero, List.take_succ_cons, List.take_nil, List.drop_nil, fill, List.contains_cons, List.contains_nil, Bool.or_true, Bool.true_or, Bool.and_true, Bool.true_and, Bool.and_false, Bool.false_and, decide_true, decide_false, beq_self_eq_true, Int.toNat_natCast, Nat.reduceMul, Nat.reduceSub, Int.reduceToNat, Nat.zero_le, Nat.lt_irrefl, Nat.le_refl, not_true_eq_false, not_false_eq_true, decide_eq_true_eq, runD_nil, runD_cons', bod_some, Option.bind_some, stepD, againK, List.all_cons, List.all_nil, aexec_draw, Int.reduceBEq, Int.reduceBNe, Bool.not_eq_true', Int.reduceLT, Int.reduceLE, Int.reduceEq, Int.reduceNeg, Int.reduceAdd, Int.reduceSub, Int.reduceMul, Int.natCast_nonneg, List.getElem?_concat_length, true_or, or_true, false_or, or_false, false_and, and_false, Nat.reduceEqDiff, Nat.one_ne_zero, List.cons_append, List.nil_append, List.append_nil, h1, h2, GOp.pv, attrsPV, List.length_map, w1, hq, w2, w3, w4, w5, w6, w7, hneg]
  · simp only [GOp.pv, attrsPV] at hloop
    simp (implicitDefEqProofs := false) only [B6x0, runOps_nil, runOps_cons, bo_some, bo_none, bo_ite, be_some, be_none, be_ite, bn_some, bn_none, bn_ite, bn'_some, aexec_skip, aexec_region, aexec_seq, aexec_block, aexec_exit, aexec_ret, aexec_keep, aexec_cond, condK_bool, bs_normal, bs_ret, bs_exit, bs_none, bs_ite, bkp_some, bb_normal, bb_ret, bb_exit, bb_none, bb_ite, bl_normal, bl_ret, bl_exit, bl_none, bl_ite, br_ret, br_normal, br_none, br_ite, rr_some, m_none, m_some, m_st, m_fr, m_lo, m_p, m_own, m_bool, m_int, m_str, m_list, m_pcells, m_length, m_and, m_or, ite_self,
 enterSt, stepOp, guardK, evalOp, bk_some, bk_ite, bk_none, orBot, St.know, St.arg, St.get, lk, up, St.set, opt', List.length_cons, List.length_nil, List.range, List.range.loop, List.zip, List.zipWith, St.keep, pickL, List.map_cons, List.map_nil, List.any_cons, List.any_nil, mentions, mentionsL, AObj.mentions, bin, binI, avEq, isNil, isNilC, ptrEq, St.one, cellsEq, seq_b, seq_i, seq_s, una, ropRd, bound, okFor, noLocals, noLocal, AV.same, PV.same, AV.sameL, PV.sameL, PV.sameLL, sameAt, againEv, againG, againX, againOne, findIx, hand, view, viewT, allM, tupleOf, oneTup, resultsOf, result1, pureArg, allFlat, flat, frz, cellsAll, sameLen, appendTo, fillK, rg_some, rg_ite, rg_none, implies_true, true_implies, false_implies, Option.map_some, Option.map_none, Nat.reduceBEq, Nat.reduceAdd, Nat.reduceLeDiff, Nat.reduceLT, Bool.or_self, Bool.or_false, Bool.false_or, Bool.false_eq_true, Bool.true_eq_false, if_false, if_true, Bool.not_true, Bool.not_false, asInt, St.newObj, newOwns, St.obj, St.putObj, puress, pures, objOf, ofCells, AV.cells, AObj.rd, AObj.wr, sub, over, PV.scalarEq, reduceCtorEq, and_self, and_true, true_and, List.getD_cons_zero, List.getD_cons_succ, List.set_cons_zero, List.set_cons_succ, List.drop_zero, List.drop_succ_cons, List.take_zero, List.take_succ_cons, List.take_nil, List.drop_nil, fill, List.contains_cons, List.contains_nil, Bool.or_true, Bool.true_or, Bool.and_true, Bool.true_and, Bool.and_false, Bool.false_and, decide_true, decide_false, beq_self_eq_true, Int.toNat_natCast, Nat.reduceMul, Nat.reduceSub, Int.reduceToNat, Nat.zero_le, Nat.lt_irrefl, Nat.le_refl, not_true_eq_false, not_false_eq_true, decide_eq_true_eq, runD_nil, runD_cons', bod_some, Option.bind_some, stepD, againK, List.all_cons, List.all_nil, aexec_draw, Int.reduceBEq, Int.reduceBNe, Bool.not_eq_true', Int.reduceLT, Int.reduceLE, Int.reduceEq, Int.reduceNeg, Int.reduceAdd, Int.reduceSub, Int.reduceMul, Int.natCast_nonneg, List.getElem?_concat_length, true_or, or_true, false_or, or_false, false_and, and_false, Nat.reduceEqDiff, Nat.one_ne_zero, List.cons_append, List.nil_append, List.append_nil, h1, h2, GOp.pv, attrsPV, List.length_map, w1, hq, w2, w3, w4, w5, w6, w7, w8, hneg, hloop]
/-- A result that ends the loop, or what is left. -/
def fewEnd (r : Option Int) (l : PV) (n : Int) (g : List AObj) : Ex × St := match r with
  | none => (.ret, ⟨[(4, .p (.bool false))], [], g⟩)
  | some left => (.exit 0, ⟨[(5, .p (.int .i64 left))], [], g⟩)
theorem few_op_end {C : Calls'} {N : Nat} (l : List GOp) (g : List AObj) (left : Int) :
    aexec C N B6x0 ⟨[(0, .p (.list (l.map GOp.pv))), (5, .p (.int .i64 left)), (11, .p (.int .i64 l.length)), (12, .p (.int .i64 l.length))], [], g⟩ = some (.exit 0, ⟨[(5, .p (.int .i64 left))], [], g⟩) := by
  have h1 : ¬ ((l.length : Int) < (l.length : Int)) := by omega
  simp (implicitDefEqProofs := false) only [B6x0, runOps_nil, runOps_cons, bo_some, bo_none, bo_ite, be_some, be_none, be_ite, bn_some, bn_none, bn_ite, bn'_some, aexec_skip, aexec_region, aexec_seq, aexec_block, aexec_exit, aexec_ret, aexec_keep, aexec_cond, condK_bool, bs_normal, bs_ret, bs_exit, bs_none, bs_ite, bkp_some, bb_normal, bb_ret, bb_exit, bb_none, bb_ite, bl_normal, bl_ret, bl_exit, bl_none, bl_ite, br_ret, br_normal, br_none, br_ite, rr_some, m_none, m_some, m_st, m_fr, m_lo, m_p, m_own, m_bool, m_int, m_str, m_list, m_pcells, m_length, m_and, m_or, ite_self,
 enterSt, stepOp, guardK, evalOp, bk_some, bk_ite, bk_none, orBot, St.know, St.arg, St.get, lk, up, St.set, opt', List.length_cons, List.length_nil, List.range, List.range.loop, List.zip, List.zipWith, St.keep, pickL, List.map_cons, List.map_nil, List.any_cons, List.any_nil, mentions, mentionsL, AObj.mentions, bin, binI, avEq, isNil, isNilC, ptrEq, St.one, cellsEq, seq_b, seq_i, seq_s, una, ropRd, bound, okFor, noLocals, noLocal, AV.same, PV.same, AV.sameL, PV.sameL, PV.sameLL, sameAt, againEv, againG, againX, againOne, findIx, hand, view, viewT, allM, tupleOf, oneTup, resultsOf, result1, pureArg, allFlat, flat, frz, cellsAll, sameLen, appendTo, fillK, rg_some, rg_ite, rg_none, implies_true, true_implies, false_implies, Option.map_some, Option.map_none, Nat.reduceBEq, Nat.reduceAdd, Nat.reduceLeDiff, Nat.reduceLT, Bool.or_self, Bool.or_false, Bool.false_or, Bool.false_eq_true, Bool.true_eq_false, if_false, if_true, Bool.not_true, Bool.not_false, asInt, St.newObj, newOwns, St.obj, St.putObj, puress, pures, objOf, ofCells, AV.cells, AObj.rd, AObj.wr, sub, over, PV.scalarEq, reduceCtorEq, and_self, and_true, true_and, List.getD_cons_zero, List.getD_cons_succ, List.set_cons_zero, List.set_cons_succ, List.drop_zero, List.drop_succ_cons, List.take_zero, List.take_succ_cons, List.take_nil, List.drop_nil, fill, List.contains_cons, List.contains_nil, Bool.or_true, Bool.true_or, Bool.and_true, Bool.true_and, Bool.and_false, Bool.false_and, decide_true, decide_false, beq_self_eq_true, Int.toNat_natCast, Nat.reduceMul, Nat.reduceSub, Int.reduceToNat, Nat.zero_le, Nat.lt_irrefl, Nat.le_refl, not_true_eq_false, not_false_eq_true, decide_eq_true_eq, runD_nil, runD_cons', bod_some, Option.bind_some, stepD, againK, List.all_cons, List.all_nil, aexec_draw, Int.reduceBEq, Int.reduceBNe, Bool.not_eq_true', Int.reduceLT, Int.reduceLE, Int.reduceEq, Int.reduceNeg, Int.reduceAdd, Int.reduceSub, Int.reduceMul, Int.natCast_nonneg, List.getElem?_concat_length, true_or, or_true, false_or, or_false, false_and, and_false, Nat.reduceEqDiff, Nat.one_ne_zero, List.cons_append, List.nil_append, List.append_nil, h1]
theorem few_ops {C : Calls'} {N : Nat} (l : List GOp) (g : List AObj) (hs : ∀ x ∈ l, smallOp x ∧ x.attrs.length < N) (hlen : l.length ≤ 1048576) (rest : List GOp) : ∀ (pre : List GOp) (m : Nat) (left : Int), l = pre ++ rest → rest.length < m → (pre ≠ [] → 0 ≤ left + 1099511627776) → -1099511627776 ≤ left → left ≤ 1000000 →
    aloop C N B6x0 m ⟨[(0, .p (.list (l.map GOp.pv))), (5, .p (.int .i64 left)), (11, .p (.int .i64 l.length)), (12, .p (.int .i64 pre.length))], [], g⟩ = some (fewEnd (fewOpsL rest left) (.list (l.map GOp.pv)) l.length g) := by
  induction rest with
  | nil =>
    intro pre m left hd hm _ h1 h2
    obtain ⟨m, rfl⟩ : ∃ k, m = k + 1 := ⟨m - 1, by simp at hm; omega⟩
    have e : pre.length = l.length := by rw [hd]; simp
    rw [e, aloop_succ, few_op_end, bl_exit]; rfl
  | cons x rest ih =>
    intro pre m left hd hm _ h1 h2
    obtain ⟨m, rfl⟩ : ∃ k, m = k + 1 := ⟨m - 1, by simp at hm; omega⟩
    have hget : l[pre.length]? = some x := by rw [hd]; simp
    have hmem : x ∈ l := List.mem_of_getElem? hget
    obtain ⟨hx, hN⟩ := hs x hmem
    rw [aloop_succ, few_op l g pre.length x left hget hx hN hlen (by omega) (by omega)]
    have hc : fewOpsL (x :: rest) left = if left - 1 - x.attrs.length - fewCost x < 0 then none else fewOpsL rest (attrsLeft x.attrs (left - 1 - x.attrs.length - fewCost x)) := rfl
    rw [hc]
    have q := fewCost_bound hx
    by_cases hneg : left - 1 - x.attrs.length - fewCost x < 0
    · rw [if_pos hneg, if_pos hneg, bl_ret]; rfl
    · rw [if_neg hneg, if_neg hneg, bl_normal]
      have hb := attrsLeft_boundF x.attrs hx.2.1 (left - 1 - x.attrs.length - fewCost x)
      have hb2 : (x.attrs.length : Int) ≤ 1000000 := by omega
      simp only [List.length_cons] at hm
      have := ih (pre ++ [x]) m (attrsLeft x.attrs (left - 1 - x.attrs.length - fewCost x)) (by rw [hd]; simp) (by omega) (by omega) (by omega) (by omega)
      rw [List.length_append, Int.natCast_add] at this
      exact this
theorem few_run (l : List GOp) (most : Int) (g : List AObj) {n : Nat} (hs : ∀ x ∈ l, smallOp x ∧ x.attrs.length < n) (hlen : l.length ≤ 1048576) (hn : l.length < n) (h1 : 0 ≤ most) (h2 : most ≤ 1000000) :
    acall T (n + 1) 6 [.p (.list (l.map GOp.pv)), .p (.int .i64 most)] g = some (.p (.bool (fewOps l most)), g) := by
  rw [acall_code T6, run_pure rfl rfl rfl]
  have hloop := few_ops (C := acall T n) (N := n) l [] hs hlen l [] n most rfl hn (by simp) (by omega) (by omega)
  rw [← aexec_loop] at hloop
  cases hr : fewOpsL l most with
  | none =>
    rw [hr] at hloop
    simp (implicitDefEqProofs := false) only [F6, fewEnd, List.length_nil, Int.natCast_zero] at hloop ⊢
    simp (implicitDefEqProofs := false) only [runOps_nil, runOps_cons, bo_some, bo_none, bo_ite, be_some, be_none, be_ite, bn_some, bn_none, bn_ite, bn'_some, aexec_skip, aexec_region, aexec_seq, aexec_block, aexec_exit, aexec_ret, aexec_keep, aexec_cond, condK_bool, bs_normal, bs_ret, bs_exit, bs_none, bs_ite, bkp_some, bb_normal, bb_ret, bb_exit, bb_none, bb_ite, bl_normal, bl_ret, bl_exit, bl_none, bl_ite, br_ret, br_normal, br_none, br_ite, rr_some, m_none, m_some, m_st, m_fr, m_lo, m_p, m_own, m_bool, m_int, m_str, m_list, m_pcells, m_length, m_and, m_or, ite_self,
 enterSt, stepOp, guardK, evalOp, bk_some, bk_ite, bk_none, orBot, St.know, St.arg, St.get, lk, up, St.set, opt', List.length_cons, List.length_nil, List.range, List.range.loop, List.zip, List.zipWith, St.keep, pickL, List.map_cons, List.map_nil, List.any_cons, List.any_nil, mentions, mentionsL, AObj.mentions, bin, binI, avEq, isNil, isNilC, ptrEq, St.one, cellsEq, seq_b, seq_i, seq_s, una, ropRd, bound, okFor, noLocals, noLocal, AV.same, PV.same, AV.sameL, PV.sameL, PV.sameLL, sameAt, againEv, againG, againX, againOne, findIx, hand, view, viewT, allM, tupleOf, oneTup, resultsOf, result1, pureArg, allFlat, flat, frz, cellsAll, sameLen, appendTo, fillK, rg_some, rg_ite, rg_none, implies_true, true_implies, false_implies, Option.map_some, Option.map_none, Nat.reduceBEq, Nat.reduceAdd, Nat.reduceLeDiff, Nat.reduceLT, Bool.or_self, Bool.or_false, Bool.false_or, Bool.false_eq_true, Bool.true_eq_false, if_false, if_true, Bool.not_true, Bool.not_false, asInt, St.newObj, newOwns, St.obj, St.putObj, puress, pures, objOf, ofCells, AV.cells, AObj.rd, AObj.wr, sub, over, PV.scalarEq, reduceCtorEq, and_self, and_true, true_and, List.getD_cons_zero, List.getD_cons_succ, List.set_cons_zero, List.set_cons_succ, List.drop_zero, List.drop_succ_cons, List.take_zero, List.take_succ_cons, List.take_nil, List.drop_nil, fill, List.contains_cons, List.contains_nil, Bool.or_true, Bool.true_or, Bool.and_true, Bool.true_and, Bool.and_false, Bool.false_and, decide_true, decide_false, beq_self_eq_true, Int.toNat_natCast, Nat.reduceMul, Nat.reduceSub, Int.reduceToNat, Nat.zero_le, Nat.lt_irrefl, Nat.le_refl, not_true_eq_false, not_false_eq_true, decide_eq_true_eq, runD_nil, runD_cons', bod_some, Option.bind_some, stepD, againK, List.all_cons, List.all_nil, aexec_draw, Int.reduceBEq, Int.reduceBNe, Bool.not_eq_true', Int.reduceLT, Int.reduceLE, Int.reduceEq, Int.reduceNeg, Int.reduceAdd, Int.reduceSub, Int.reduceMul, Int.natCast_nonneg, List.getElem?_concat_length, true_or, or_true, false_or, or_false, false_and, and_false, Nat.reduceEqDiff, Nat.one_ne_zero, List.cons_append, List.nil_append, List.append_nil, List.length_map, hloop, fewOps, hr]
  | some left =>
    rw [hr] at hloop
    simp (implicitDefEqProofs := false) only [F6, fewEnd, List.length_nil, Int.natCast_zero] at hloop ⊢
    simp (implicitDefEqProofs := false) only [runOps_nil, runOps_cons, bo_some, bo_none, bo_ite, be_some, be_none, be_ite, bn_some, bn_none, bn_ite, bn'_some, aexec_skip, aexec_region, aexec_seq, aexec_block, aexec_exit, aexec_ret, aexec_keep, aexec_cond, condK_bool, bs_normal, bs_ret, bs_exit, bs_none, bs_ite, bkp_some, bb_normal, bb_ret, bb_exit, bb_none, bb_ite, bl_normal, bl_ret, bl_exit, bl_none, bl_ite, br_ret, br_normal, br_none, br_ite, rr_some, m_none, m_some, m_st, m_fr, m_lo, m_p, m_own, m_bool, m_int, m_str, m_list, m_pcells, m_length, m_and, m_or, ite_self,
 enterSt, stepOp, guardK, evalOp, bk_some, bk_ite, bk_none, orBot, St.know, St.arg, St.get, lk, up, St.set, opt', List.length_cons, List.length_nil, List.range, List.range.loop, List.zip, List.zipWith, St.keep, pickL, List.map_cons, List.map_nil, List.any_cons, List.any_nil, mentions, mentionsL, AObj.mentions, bin, binI, avEq, isNil, isNilC, ptrEq, St.one, cellsEq, seq_b, seq_i, seq_s, una, ropRd, bound, okFor, noLocals, noLocal, AV.same, PV.same, AV.sameL, PV.sameL, PV.sameLL, sameAt, againEv, againG, againX, againOne, findIx, hand, view, viewT, allM, tupleOf, oneTup, resultsOf, result1, pureArg, allFlat, flat, frz, cellsAll, sameLen, appendTo, fillK, rg_some, rg_ite, rg_none, implies_true, true_implies, false_implies, Option.map_some, Option.map_none, Nat.reduceBEq, Nat.reduceAdd, Nat.reduceLeDiff, Nat.reduceLT, Bool.or_self, Bool.or_false, Bool.false_or, Bool.false_eq_true, Bool.true_eq_false, if_false, if_true, Bool.not_true, Bool.not_false, asInt, St.newObj, newOwns, St.obj, St.putObj, puress, pures, objOf, ofCells, AV.cells, AObj.rd, AObj.wr, sub, over, PV.scalarEq, reduceCtorEq, and_self, and_true, true_and, List.getD_cons_zero, List.getD_cons_succ, List.set_cons_zero, List.set_cons_succ, List.drop_zero, List.drop_succ_cons, List.take_zero, List.take_succ_cons, List.take_nil, List.drop_nil, fill, List.contains_cons, List.contains_nil, Bool.or_true, Bool.true_or, Bool.and_true, Bool.true_and, Bool.and_false, Bool.false_and, decide_true, decide_false, beq_self_eq_true, Int.toNat_natCast, Nat.reduceMul, Nat.reduceSub, Int.reduceToNat, Nat.zero_le, Nat.lt_irrefl, Nat.le_refl, not_true_eq_false, not_false_eq_true, decide_eq_true_eq, runD_nil, runD_cons', bod_some, Option.bind_some, stepD, againK, List.all_cons, List.all_nil, aexec_draw, Int.reduceBEq, Int.reduceBNe, Bool.not_eq_true', Int.reduceLT, Int.reduceLE, Int.reduceEq, Int.reduceNeg, Int.reduceAdd, Int.reduceSub, Int.reduceMul, Int.natCast_nonneg, List.getElem?_concat_length, true_or, or_true, false_or, or_false, false_and, and_false, Nat.reduceEqDiff, Nat.one_ne_zero, List.cons_append, List.nil_append, List.append_nil, List.length_map, hloop, fewOps, hr]
end Go.TA.Tryd

end
section
/- The other guard of most laws: whether rows are few. -/
set_option linter.unusedVariables false
set_option linter.unusedSimpArgs false
set_option maxRecDepth 100000
set_option maxHeartbeats 1000000
namespace Go.TA.Tryd
def rowCost (x : GRow) : Int := ((x.text.length : Int) + x.key.length + x.tag.length).tdiv 4096
def fewRowsL : List GRow → Int → Option Int
  | [], left => some left
  | x :: l, left => if left - 1 - x.attrs.length - rowCost x < 0 then none else fewRowsL l (attrsLeft x.attrs (left - 1 - x.attrs.length - rowCost x))
def fewRows (l : List GRow) (most : Int) : Bool := match fewRowsL l most with
  | some n => decide (n ≥ 0)
  | none => false
theorem tdiv_bound {x : Int} (h : 0 ≤ x) (h2 : x ≤ 1048576) : 0 ≤ x.tdiv 4096 ∧ x.tdiv 4096 ≤ 1048576 := by
  rw [Int.tdiv_eq_ediv_of_nonneg h]; omega
theorem attrsLeft_bound (l : List Attr) (hs : smallAttrs l) : ∀ left : Int, left - 1048576 * (l.length : Int) ≤ attrsLeft l left ∧ attrsLeft l left ≤ left := by
  induction l with
  | nil => intro left; simp [attrsLeft]
  | cons a l ih =>
    intro left
    have ha := hs a (by simp)
    have q := tdiv_bound (x := (a.value.length : Int) + (a.name.length : Int)) (by omega) (by omega)
    obtain ⟨z1, z2⟩ := ih (fun b hb => hs b (by simp [hb])) (left - ((a.value.length : Int) + a.name.length).tdiv 4096)
    simp only [attrsLeft, List.length_cons, Int.natCast_add, Int.natCast_one]
    constructor <;> omega
theorem fewR_inner {C : Calls'} {N n : Nat} (l : List GRow) (i : Nat) (x : GRow) (h : l[i]? = some x) (hx : x.small n) (hn : n ≤ 1048577) (hN : n ≤ N) (left : Int) (hl : -1099511627776 ≤ left) (hl2 : left ≤ 1000000) :
    aexec C N (.loop B5x1) ⟨[(0, .p (.list (l.map GRow.pv))), (5, .p (.int .i64 left)), (6, .p (.int .i64 i)), (10, .p (.int .i64 l.length)), (11, .p (.int .i64 i)), (52, .p (.int .i64 x.attrs.length)), (53, .p (.int .i64 0))], [], []⟩ =
      some (.exit 2, ⟨[(0, .p (.list (l.map GRow.pv))), (5, .p (.int .i64 (attrsLeft x.attrs left))), (10, .p (.int .i64 l.length)), (11, .p (.int .i64 i))], [], []⟩) := by
  have hlt : i < l.length := (List.getElem?_eq_some_iff.1 h).1
  have hg := getD_map (f := GRow.pv) h
  have := hx.attrs
  refine loop_rule' (σ := Nat × Int) (S := fun s => ⟨[(0, .p (.list (l.map GRow.pv))), (5, .p (.int .i64 s.2)), (6, .p (.int .i64 i)), (10, .p (.int .i64 l.length)), (11, .p (.int .i64 i)), (52, .p (.int .i64 x.attrs.length)), (53, .p (.int .i64 s.1))], [], []⟩)
    (I := fun s => s.1 ≤ x.attrs.length ∧ -1099511627776 - 1048576 * (s.1 : Int) ≤ s.2 ∧ s.2 ≤ 1000000) (μ := fun s => x.attrs.length - s.1)
    (Φ := fun s => (.exit 2, ⟨[(0, .p (.list (l.map GRow.pv))), (5, .p (.int .i64 (attrsLeft (x.attrs.drop s.1) s.2))), (10, .p (.int .i64 l.length)), (11, .p (.int .i64 i))], [], []⟩)) ?_ (0, left) ?_ ?_
  · rintro ⟨k, left⟩ ⟨h1, h2, h3⟩
    simp only at h1 h2 h3 ⊢
    by_cases hk : k < x.attrs.length
    · obtain ⟨a, ha⟩ := get_some hk
      have hga := getD_map (f := Attr.pv) ha
      have hs := hx.small a (List.mem_of_getElem? ha)
      have q := tdiv_bound (x := (a.value.length : Int) + (a.name.length : Int)) (by omega) (by omega)
      refine .inl ⟨(k + 1, left - ((a.value.length : Int) + a.name.length).tdiv 4096), ?_, ⟨by omega, by simp only [Int.natCast_add, Int.natCast_one]; omega, by omega⟩, by simp only; omega, ?_⟩
      · have k1 : (k : Int) < (x.attrs.length : Int) := by omega
        have k2 : (i : Int) < (l.length : Int) := by omega
        simp (implicitDefEqProofs := false) (disch := omega) only [B5x1, runOps_nil, runOps_cons, bo_some, bo_none, bo_ite, be_some, be_none, be_ite, bn_some, bn_none, bn_ite, bn'_some, aexec_skip, aexec_region, aexec_seq, aexec_block, aexec_exit, aexec_ret, aexec_keep, aexec_cond, condK_bool, bs_normal, bs_ret, bs_exit, bs_none, bs_ite, bkp_some, bb_normal, bb_ret, bb_exit, bb_none, bb_ite, bl_normal, bl_ret, bl_exit, bl_none, bl_ite, br_ret, br_normal, br_none, br_ite, rr_some, m_none, m_some, m_st, m_fr, m_lo, m_p, m_own, m_bool, m_int, m_str, m_list, m_pcells, m_length, m_and, m_or, ite_self,
 enterSt, stepOp, guardK, evalOp, bk_some, bk_ite, bk_none, orBot, St.know, St.arg, St.get, lk, up, St.set, opt', List.length_cons, List.length_nil, List.range, List.range.loop, List.zip, List.zipWith, St.keep, pickL, List.map_cons, List.map_nil, List.any_cons, List.any_nil, mentions, mentionsL, AObj.mentions, bin, binI, avEq, isNil, isNilC, ptrEq, St.one, cellsEq, seq_b, seq_i, seq_s, una, ropRd, bound, okFor, noLocals, noLocal, AV.same, PV.same, AV.sameL, PV.sameL, PV.sameLL, sameAt, againEv, againG, againX, againOne, findIx, hand, view, viewT, allM, tupleOf, oneTup, resultsOf, result1, pureArg, allFlat, flat, frz, cellsAll, sameLen, appendTo, fillK, rg_some, rg_ite, rg_none, implies_true, true_implies, false_implies, Option.map_some, Option.map_none, Nat.reduceBEq, Nat.reduceAdd, Nat.reduceLeDiff, Nat.reduceLT, Bool.or_self, Bool.or_false, Bool.false_or, Bool.false_eq_true, Bool.true_eq_false, if_false, if_true, Bool.not_true, Bool.not_false, asInt, St.newObj, newOwns, St.obj, St.putObj, puress, pures, objOf, ofCells, AV.cells, AObj.rd, AObj.wr, sub, over, PV.scalarEq, reduceCtorEq, and_self, and_true, true_and, List.getD_cons_zero, List.getD_cons_succ, List.set_cons_zero, List.set_cons_succ, List.drop_zero, List.drop_succ_cons, List.take_zero, List.take_succ_cons, List.take_nil, List.drop_nil, fill, List.contains_cons, List.contains_nil, Bool.or_true, Bool.true_or, Bool.and_true, Bool.true_and, Bool.and_false, Bool.false_and, decide_true, decide_false, beq_self_eq_true, Int.toNat_natCast, Nat.reduceMul, Nat.reduceSub, Int.reduceToNat, Nat.zero_le, Nat.lt_irrefl, Nat.le_refl, not_true_eq_false, not_false_eq_true, decide_eq_true_eq, runD_nil, runD_cons', bod_some, Option.bind_some, stepD, againK, List.all_cons, List.all_nil, aexec_draw, Int.reduceBEq, Int.reduceBNe, Bool.not_eq_true', Int.reduceLT, Int.reduceLE, Int.reduceEq, Int.reduceNeg, Int.reduceAdd, Int.reduceSub, Int.reduceMul, Int.natCast_nonneg, List.getElem?_concat_length, true_or, or_true, false_or, or_false, false_and, and_false, Nat.reduceEqDiff, Nat.one_ne_zero, List.cons_append, List.nil_append, List.append_nil, k1, k2, hg, hga, GRow.pv, attrsPV, Attr.pv, List.length_map, wrap_id, Int.natCast_add, Int.natCast_one]
      · rw [List.drop_eq_getElem?_toList_append, ha]; rfl
    · refine .inr ⟨?_, by simp⟩
      have : k = x.attrs.length := by omega
      subst this
      have k1 : ¬ ((x.attrs.length : Int) < (x.attrs.length : Int)) := by omega
      simp (implicitDefEqProofs := false) only [B5x1, runOps_nil, runOps_cons, bo_some, bo_none, bo_ite, be_some, be_none, be_ite, bn_some, bn_none, bn_ite, bn'_some, aexec_skip, aexec_region, aexec_seq, aexec_block, aexec_exit, aexec_ret, aexec_keep, aexec_cond, condK_bool, bs_normal, bs_ret, bs_exit, bs_none, bs_ite, bkp_some, bb_normal, bb_ret, bb_exit, bb_none, bb_ite, bl_normal, bl_ret, bl_exit, bl_none, bl_ite, br_ret, br_normal, br_none, br_ite, rr_some, m_none, m_some, m_st, m_fr, m_lo, m_p, m_own, m_bool, m_int, m_str, m_list, m_pcells, m_length, m_and, m_or, ite_self,
 enterSt, stepOp, guardK, evalOp, bk_some, bk_ite, bk_none, orBot, St.know, St.arg, St.get, lk, up, St.set, opt', List.length_cons, List.length_nil, List.range, List.range.loop, List.zip, List.zipWith, St.keep, pickL, List.map_cons, List.map_nil, List.any_cons, List.any_nil, mentions, mentionsL, AObj.mentions, bin, binI, avEq, isNil, isNilC, ptrEq, St.one, cellsEq, seq_b, seq_i, seq_s, una, ropRd, bound, okFor, noLocals, noLocal, AV.same, PV.same, AV.sameL, PV.sameL, PV.sameLL, sameAt, againEv, againG, againX, againOne, findIx, hand, view, viewT, allM, tupleOf, oneTup, resultsOf, result1, pureArg, allFlat, flat, frz, cellsAll, sameLen, appendTo, fillK, rg_some, rg_ite, rg_none, implies_true, true_implies, false_implies, Option.map_some, Option.map_none, Nat.reduceBEq, Nat.reduceAdd, Nat.reduceLeDiff, Nat.reduceLT, Bool.or_self, Bool.or_false, Bool.false_or, Bool.false_eq_true, Bool.true_eq_false, if_false, if_true, Bool.not_true, Bool.not_false, asInt, St.newObj, newOwns, St.obj, St.putObj, puress, pures, objOf, ofCells, AV.cells, AObj.rd, AObj.wr, sub, over, PV.scalarEq, reduceCtorEq, and_self, and_true, true_and, List.getD_cons_zero, List.getD_cons_succ, List.set_cons_zero, List.set_cons_succ, List.drop_zero, List.drop_succ_cons, List.take_zero, List.take_succ_cons, List.take_nil, List.drop_nil, fill, List.contains_cons, List.contains_nil, Bool.or_true, Bool.true_or, Bool.and_true, Bool.true_and, Bool.and_false, Bool.false_and, decide_true, decide_false, beq_self_eq_true, Int.toNat_natCast, Nat.reduceMul, Nat.reduceSub, Int.reduceToNat, Nat.zero_le, Nat.lt_irrefl, Nat.le_refl, not_true_eq_false, not_false_eq_true, decide_eq_true_eq, runD_nil, runD_cons', bod_some, Option.bind_some, stepD, againK, List.all_cons, List.all_nil, aexec_draw, Int.reduceBEq, Int.reduceBNe, Bool.not_eq_true', Int.reduceLT, Int.reduceLE, Int.reduceEq, Int.reduceNeg, Int.reduceAdd, Int.reduceSub, Int.reduceMul, Int.natCast_nonneg, List.getElem?_concat_length, true_or, or_true, false_or, or_false, false_and, and_false, Nat.reduceEqDiff, Nat.one_ne_zero, List.cons_append, List.nil_append, List.append_nil, k1, List.drop_length, attrsLeft]
  · simp only [Int.natCast_zero]; omega
  · simp only; omega
def fewREnd (r : Option Int) : Ex × St := match r with
  | none => (.ret, ⟨[(4, .p (.bool false))], [], []⟩)
  | some left => (.exit 0, ⟨[(5, .p (.int .i64 left))], [], []⟩)
theorem fewR_outer {C : Calls'} {N n : Nat} (l : List GRow) (hl : Rows.small n l) (hn : n ≤ 1048577) (hN : n ≤ N) (most : Int) (h1 : 0 ≤ most) (h2 : most ≤ 1000000) :
    aexec C N (.loop B5x0) ⟨[(0, .p (.list (l.map GRow.pv))), (5, .p (.int .i64 most)), (10, .p (.int .i64 l.length)), (11, .p (.int .i64 0))], [], []⟩ = some (fewREnd (fewRowsL l most)) := by
  have hlen := hl.len
  refine loop_rule' (σ := Nat × Int) (S := fun s => ⟨[(0, .p (.list (l.map GRow.pv))), (5, .p (.int .i64 s.2)), (10, .p (.int .i64 l.length)), (11, .p (.int .i64 s.1))], [], []⟩)
    (I := fun s => s.1 ≤ l.length ∧ -1099511627776 ≤ s.2 ∧ s.2 ≤ 1000000) (μ := fun s => l.length - s.1)
    (Φ := fun s => fewREnd (fewRowsL (l.drop s.1) s.2)) ?_ (0, most) ?_ ?_
  · rintro ⟨i, left⟩ ⟨h1, h2, h3⟩
    simp only at h1 h2 h3 ⊢
    by_cases hi : i < l.length
    · obtain ⟨x, hx⟩ := get_some hi
      have hgx := getD_map (f := GRow.pv) hx
      have hs := hl.row x (List.mem_of_getElem? hx)
      have q := tdiv_bound (x := (x.text.length : Int) + x.key.length + x.tag.length) (by omega) (by have := hs.text; omega)
      have ha := hs.attrs
      have hd : l.drop i = x :: l.drop (i + 1) := by rw [List.drop_eq_getElem?_toList_append, hx]; rfl
      have k2 : (i : Int) < (l.length : Int) := by omega
      have hc : fewRowsL (l.drop i) left = if left - 1 - x.attrs.length - rowCost x < 0 then none else fewRowsL (l.drop (i + 1)) (attrsLeft x.attrs (left - 1 - x.attrs.length - rowCost x)) := by rw [hd]; rfl
      have htx := hs.text
      unfold rowCost at hc
      by_cases hneg : left - 1 - x.attrs.length - ((x.text.length : Int) + x.key.length + x.tag.length).tdiv 4096 < 0
      · refine .inr ?_
        rw [hc, if_pos hneg]
        refine ⟨?_, by simp [fewREnd]⟩
        simp (implicitDefEqProofs := false) (disch := omega) only [B5x0, runOps_nil, runOps_cons, bo_some, bo_none, bo_ite, be_some, be_none, be_ite, bn_some, bn_none, bn_ite, bn'_some, aexec_skip, aexec_region, aexec_seq, aexec_block, aexec_exit, aexec_ret, aexec_keep, aexec_cond, condK_bool, bs_normal, bs_ret, bs_exit, bs_none, bs_ite, bkp_some, bb_normal, bb_ret, bb_exit, bb_none, bb_ite, bl_normal, bl_ret, bl_exit, bl_none, bl_ite, br_ret, br_normal, br_none, br_ite, rr_some, m_none, m_some, m_st, m_fr, m_lo, m_p, m_own, m_bool, m_int, m_str, m_list, m_pcells, m_length, m_and, m_or, ite_self,
 enterSt, stepOp, guardK, evalOp, bk_some, bk_ite, bk_none, orBot, St.know, St.arg, St.get, lk, up, St.set, opt', List.length_cons, List.length_nil, List.range, List.range.loop, List.zip, List.zipWith, St.keep, pickL, List.map_cons, List.map_nil, List.any_cons, List.any_nil, mentions, mentionsL, AObj.mentions, bin, binI, avEq, isNil, isNilC, ptrEq, St.one, cellsEq, seq_b, seq_i, seq_s, una, ropRd, bound, okFor, noLocals, noLocal, AV.same, PV.same, AV.sameL, PV.sameL, PV.sameLL, sameAt, againEv, againG, againX, againOne, findIx, hand, view, viewT, allM, tupleOf, oneTup, resultsOf, result1, pureArg, allFlat, flat, frz, cellsAll, sameLen, appendTo, fillK, rg_some, rg_ite, rg_none, implies_true, true_implies, false_implies, Option.map_some, Option.map_none, Nat.reduceBEq, Nat.reduceAdd, Nat.reduceLeDiff, Nat.reduceLT, Bool.or_self, Bool.or_false, Bool.false_or, Bool.false_eq_true, Bool.true_eq_false, if_false, if_true, Bool.not_true, Bool.not_false, asInt, St.newObj, newOwns, St.obj, St.putObj, puress, pures, objOf, ofCells, AV.cells, AObj.rd, AObj.wr, sub, over, PV.scalarEq, reduceCtorEq, and_self, and_true, true_and, List.getD_cons_zero, List.getD_cons_succ, List.set_cons_zero, List.set_cons_succ, List.drop_zero, List.drop_succ_cons, List.take_zero, List.take_succ_cons, List.take_nil, List.drop_nil, fill, List.contains_cons, List.contains_nil, Bool.or_true, Bool.true_or, Bool.and_true, Bool.true_and, Bool.and_false, Bool.false_and, decide_true, decide_false, beq_self_eq_true, Int.toNat_natCast, Nat.reduceMul, Nat.reduceSub, Int.reduceToNat, Nat.zero_le, Nat.lt_irrefl, Nat.le_refl, not_true_eq_false, not_false_eq_true, decide_eq_true_eq, runD_nil, runD_cons', bod_some, Option.bind_some, stepD, againK, List.all_cons, List.all_nil, aexec_draw, Int.reduceBEq, Int.reduceBNe, Bool.not_eq_true', Int.reduceLT, Int.reduceLE, Int.reduceEq, Int.reduceNeg, Int.reduceAdd, Int.reduceSub, Int.reduceMul, Int.natCast_nonneg, List.getElem?_concat_length, true_or, or_true, false_or, or_false, false_and, and_false, Nat.reduceEqDiff, Nat.one_ne_zero, List.cons_append, List.nil_append, List.append_nil, k2, hgx, GRow.pv, attrsPV, Attr.pv, List.length_map, wrap_id, hneg, fewREnd]
      · have hb := attrsLeft_bound x.attrs hs.small (left - 1 - x.attrs.length - ((x.text.length : Int) + x.key.length + x.tag.length).tdiv 4096)
        have hloop := fewR_inner (C := C) (N := N) (n := n) l i x hx hs hn hN (left - 1 - x.attrs.length - ((x.text.length : Int) + x.key.length + x.tag.length).tdiv 4096) (by omega) (by omega)
        refine .inl ⟨(i + 1, attrsLeft x.attrs (left - 1 - x.attrs.length - ((x.text.length : Int) + x.key.length + x.tag.length).tdiv 4096)), ?_, ⟨by omega, by simp only; omega, by simp only; omega⟩, by simp only; omega, by simp only; rw [hc, if_neg hneg]⟩
        simp (implicitDefEqProofs := false) (disch := omega) only [B5x0, runOps_nil, runOps_cons, bo_some, bo_none, bo_ite, be_some, be_none, be_ite, bn_some, bn_none, bn_ite, bn'_some, aexec_skip, aexec_region, aexec_seq, aexec_block, aexec_exit, aexec_ret, aexec_keep, aexec_cond, condK_bool, bs_normal, bs_ret, bs_exit, bs_none, bs_ite, bkp_some, bb_normal, bb_ret, bb_exit, bb_none, bb_ite, bl_normal, bl_ret, bl_exit, bl_none, bl_ite, br_ret, br_normal, br_none, br_ite, rr_some, m_none, m_some, m_st, m_fr, m_lo, m_p, m_own, m_bool, m_int, m_str, m_list, m_pcells, m_length, m_and, m_or, ite_self,
 enterSt, stepOp, guardK, evalOp, bk_some, bk_ite, bk_none, orBot, St.know, St.arg, St.get, lk, up, St.set, opt', List.length_cons, List.length_nil, List.range, List.range.loop, List.zip, List.zipWith, St.keep, pickL, List.map_cons, List.map_nil, List.any_cons, List.any_nil, mentions, mentionsL, AObj.mentions, bin, binI, avEq, isNil, isNilC, ptrEq, St.one, cellsEq, seq_b, seq_i, seq_s, una, ropRd, bound, okFor, noLocals, noLocal, AV.same, PV.same, AV.sameL, PV.sameL, PV.sameLL, sameAt, againEv, againG, againX, againOne, findIx, hand, view, viewT, allM, tupleOf, oneTup, resultsOf, result1, pureArg, allFlat, flat, frz, cellsAll, sameLen, appendTo, fillK, rg_some, rg_ite, rg_none, implies_true, true_implies, false_implies, Option.map_some, Option.map_none, Nat.reduceBEq, Nat.reduceAdd, Nat.reduceLeDiff, Nat.reduceLT, Bool.or_self, Bool.or_false, Bool.false_or, Bool.false_eq_true, Bool.true_eq_false, if_false, if_true, Bool.not_true, Bool.not_false, asInt, St.newObj, newOwns, St.obj, St.putObj, puress, pures, objOf, ofCells, AV.cells, AObj.rd, AObj.wr, sub, over, PV.scalarEq, reduceCtorEq, and_self, and_true, true_and, List.getD_cons_zero, List.getD_cons_succ, List.set_cons_zero, List.set_cons_succ, List.drop_zero, List.drop_succ_cons, List.take_zero, List.take_succ_cons, List.take_nil, List.drop_nil, fill, List.contains_cons, List.contains_nil, Bool.or_true, Bool.true_or, Bool.and_true, Bool.true_and, Bool.and_false, Bool.false_and, decide_true, decide_false, beq_self_eq_true, Int.toNat_natCast, Nat.reduceMul, Nat.reduceSub, Int.reduceToNat, Nat.zero_le, Nat.lt_irrefl, Nat.le_refl, not_true_eq_false, not_false_eq_true, decide_eq_true_eq, runD_nil, runD_cons', bod_some, Option.bind_some, stepD, againK, List.all_cons, List.all_nil, aexec_draw, Int.reduceBEq, Int.reduceBNe, Bool.not_eq_true', Int.reduceLT, Int.reduceLE, Int.reduceEq, Int.reduceNeg, Int.reduceAdd, Int.reduceSub, Int.reduceMul, Int.natCast_nonneg, List.getElem?_concat_length, true_or, or_true, false_or, or_false, false_and, and_false, Nat.reduceEqDiff, Nat.one_ne_zero, List.cons_append, List.nil_append, List.append_nil, k2, hgx, GRow.pv, attrsPV, Attr.pv, List.length_map, wrap_id, hneg, hloop, Int.natCast_add, Int.natCast_one]
    · refine .inr ⟨?_, ?_⟩
      · have : i = l.length := by omega
        subst this
        have k1 : ¬ ((l.length : Int) < (l.length : Int)) := by omega
        simp (implicitDefEqProofs := false) only [B5x0, runOps_nil, runOps_cons, bo_some, bo_none, bo_ite, be_some, be_none, be_ite, bn_some, bn_none, bn_ite, bn'_some, aexec_skip, aexec_region, aexec_seq, aexec_block, aexec_exit, aexec_ret, aexec_keep, aexec_cond, condK_bool, bs_normal, bs_ret, bs_exit, bs_none, bs_ite, bkp_some, bb_normal, bb_ret, bb_exit, bb_none, bb_ite, bl_normal, bl_ret, bl_exit, bl_none, bl_ite, br_ret, br_normal, br_none, br_ite, rr_some, m_none, m_some, m_st, m_fr, m_lo, m_p, m_own, m_bool, m_int, m_str, m_list, m_pcells, m_length, m_and, m_or, ite_self,
 enterSt, stepOp, guardK, evalOp, bk_some, bk_ite, bk_none, orBot, St.know, St.arg, St.get, lk, up, St.set, opt', List.length_cons, List.length_nil, List.range, List.range.loop, List.zip, List.zipWith, St.keep, pickL, List.map_cons, List.map_nil, List.any_cons, List.any_nil, mentions, mentionsL, AObj.mentions, bin, binI, avEq, isNil, isNilC, ptrEq, St.one, cellsEq, seq_b, seq_i, seq_s, una, ropRd, bound, okFor, noLocals, noLocal, AV.same, PV.same, AV.sameL, PV.sameL, PV.sameLL, sameAt, againEv, againG, againX, againOne, findIx, hand, view, viewT, allM, tupleOf, oneTup, resultsOf, result1, pureArg, allFlat, flat, frz, cellsAll, sameLen, appendTo, fillK, rg_some, rg_ite, rg_none, implies_true, true_implies, false_implies, Option.map_some, Option.map_none, Nat.reduceBEq, Nat.reduceAdd, Nat.reduceLeDiff, Nat.reduceLT, Bool.or_self, Bool.or_false, Bool.false_or, Bool.false_eq_true, Bool.true_eq_false, if_false, if_true, Bool.not_true, Bool.not_false, asInt, St.newObj, newOwns, St.obj, St.putObj, puress, pures, objOf, ofCells, AV.cells, AObj.rd, AObj.wr, sub, over, PV.scalarEq, reduceCtorEq, and_self, and_true, true_and, List.getD_cons_zero, List.getD_cons_succ, List.set_cons_zero, List.set_cons_succ, List.drop_zero, List.drop_succ_cons, List.take_zero, List.take_succ_cons, List.take_nil, List.drop_nil, fill, List.contains_cons, List.contains_nil, Bool.or_true, Bool.true_or, Bool.and_true, Bool.true_and, Bool.and_false, Bool.false_and, decide_true, decide_false, beq_self_eq_true, Int.toNat_natCast, Nat.reduceMul, Nat.reduceSub, Int.reduceToNat, Nat.zero_le, Nat.lt_irrefl, Nat.le_refl, not_true_eq_false, not_false_eq_true, decide_eq_true_eq, runD_nil, runD_cons', bod_some, Option.bind_some, stepD, againK, List.all_cons, List.all_nil, aexec_draw, Int.reduceBEq, Int.reduceBNe, Bool.not_eq_true', Int.reduceLT, Int.reduceLE, Int.reduceEq, Int.reduceNeg, Int.reduceAdd, Int.reduceSub, Int.reduceMul, Int.natCast_nonneg, List.getElem?_concat_length, true_or, or_true, false_or, or_false, false_and, and_false, Nat.reduceEqDiff, Nat.one_ne_zero, List.cons_append, List.nil_append, List.append_nil, k1, List.drop_length, fewRowsL, fewREnd]
      · have : l.drop i = [] := List.drop_eq_nil_of_le (by omega)
        simp [this, fewRowsL, fewREnd]
  · simp only; omega
  · simp only; omega
theorem fewR_run (l : List GRow) (most : Int) (g : List AObj) {n : Nat} (hl : Rows.small n l) (hn : n ≤ 1048577) (h1 : 0 ≤ most) (h2 : most ≤ 1000000) {m : Nat} (hm : n ≤ m) :
    acall T (m + 1) 5 [.p (.list (l.map GRow.pv)), .p (.int .i64 most)] g = some (.p (.bool (fewRows l most)), g) := by
  rw [acall_code T5, run_pure rfl rfl rfl]
  have hloop := fewR_outer (C := acall T m) (N := m) l hl hn hm most h1 h2
  cases hr : fewRowsL l most with
  | none =>
    rw [hr] at hloop
    simp (implicitDefEqProofs := false) only [F5, fewREnd] at hloop ⊢
    simp (implicitDefEqProofs := false) only [runOps_nil, runOps_cons, bo_some, bo_none, bo_ite, be_some, be_none, be_ite, bn_some, bn_none, bn_ite, bn'_some, aexec_skip, aexec_region, aexec_seq, aexec_block, aexec_exit, aexec_ret, aexec_keep, aexec_cond, condK_bool, bs_normal, bs_ret, bs_exit, bs_none, bs_ite, bkp_some, bb_normal, bb_ret, bb_exit, bb_none, bb_ite, bl_normal, bl_ret, bl_exit, bl_none, bl_ite, br_ret, br_normal, br_none, br_ite, rr_some, m_none, m_some, m_st, m_fr, m_lo, m_p, m_own, m_bool, m_int, m_str, m_list, m_pcells, m_length, m_and, m_or, ite_self,
 enterSt, stepOp, guardK, evalOp, bk_some, bk_ite, bk_none, orBot, St.know, St.arg, St.get, lk, up, St.set, opt', List.length_cons, List.length_nil, List.range, List.range.loop, List.zip, List.zipWith, St.keep, pickL, List.map_cons, List.map_nil, List.any_cons, List.any_nil, mentions, mentionsL, AObj.mentions, bin, binI, avEq, isNil, isNilC, ptrEq, St.one, cellsEq, seq_b, seq_i, seq_s, una, ropRd, bound, okFor, noLocals, noLocal, AV.same, PV.same, AV.sameL, PV.sameL, PV.sameLL, sameAt, againEv, againG, againX, againOne, findIx, hand, view, viewT, allM, tupleOf, oneTup, resultsOf, result1, pureArg, allFlat, flat, frz, cellsAll, sameLen, appendTo, fillK, rg_some, rg_ite, rg_none, implies_true, true_implies, false_implies, Option.map_some, Option.map_none, Nat.reduceBEq, Nat.reduceAdd, Nat.reduceLeDiff, Nat.reduceLT, Bool.or_self, Bool.or_false, Bool.false_or, Bool.false_eq_true, Bool.true_eq_false, if_false, if_true, Bool.not_true, Bool.not_false, asInt, St.newObj, newOwns, St.obj, St.putObj, puress, pures, objOf, ofCells, AV.cells, AObj.rd, AObj.wr, sub, over, PV.scalarEq, reduceCtorEq, and_self, and_true, true_and, List.getD_cons_zero, List.getD_cons_succ, List.set_cons_zero, List.set_cons_succ, List.drop_zero, List.drop_succ_cons, List.take_zero, List.take_succ_cons, List.take_nil, List.drop_nil, fill, List.contains_cons, List.contains_nil, Bool.or_true, Bool.true_or, Bool.and_true, Bool.true_and, Bool.and_false, Bool.false_and, decide_true, decide_false, beq_self_eq_true, Int.toNat_natCast, Nat.reduceMul, Nat.reduceSub, Int.reduceToNat, Nat.zero_le, Nat.lt_irrefl, Nat.le_refl, not_true_eq_false, not_false_eq_true, decide_eq_true_eq, runD_nil, runD_cons', bod_some, Option.bind_some, stepD, againK, List.all_cons, List.all_nil, aexec_draw, Int.reduceBEq, Int.reduceBNe, Bool.not_eq_true', Int.reduceLT, Int.reduceLE, Int.reduceEq, Int.reduceNeg, Int.reduceAdd, Int.reduceSub, Int.reduceMul, Int.natCast_nonneg, List.getElem?_concat_length, true_or, or_true, false_or, or_false, false_and, and_false, Nat.reduceEqDiff, Nat.one_ne_zero, List.cons_append, List.nil_append, List.append_nil, List.length_map, hloop, fewRows, hr]
  | some left =>
    rw [hr] at hloop
    simp (implicitDefEqProofs := false) only [F5, fewREnd] at hloop ⊢
    simp (implicitDefEqProofs := false) only [runOps_nil, runOps_cons, bo_some, bo_none, bo_ite, be_some, be_none, be_ite, bn_some, bn_none, bn_ite, bn'_some, aexec_skip, aexec_region, aexec_seq, aexec_block, aexec_exit, aexec_ret, aexec_keep, aexec_cond, condK_bool, bs_normal, bs_ret, bs_exit, bs_none, bs_ite, bkp_some, bb_normal, bb_ret, bb_exit, bb_none, bb_ite, bl_normal, bl_ret, bl_exit, bl_none, bl_ite, br_ret, br_normal, br_none, br_ite, rr_some, m_none, m_some, m_st, m_fr, m_lo, m_p, m_own, m_bool, m_int, m_str, m_list, m_pcells, m_length, m_and, m_or, ite_self,
 enterSt, stepOp, guardK, evalOp, bk_some, bk_ite, bk_none, orBot, St.know, St.arg, St.get, lk, up, St.set, opt', List.length_cons, List.length_nil, List.range, List.range.loop, List.zip, List.zipWith, St.keep, pickL, List.map_cons, List.map_nil, List.any_cons, List.any_nil, mentions, mentionsL, AObj.mentions, bin, binI, avEq, isNil, isNilC, ptrEq, St.one, cellsEq, seq_b, seq_i, seq_s, una, ropRd, bound, okFor, noLocals, noLocal, AV.same, PV.same, AV.sameL, PV.sameL, PV.sameLL, sameAt, againEv, againG, againX, againOne, findIx, hand, view, viewT, allM, tupleOf, oneTup, resultsOf, result1, pureArg, allFlat, flat, frz, cellsAll, sameLen, appendTo, fillK, rg_some, rg_ite, rg_none, implies_true, true_implies, false_implies, Option.map_some, Option.map_none, Nat.reduceBEq, Nat.reduceAdd, Nat.reduceLeDiff, Nat.reduceLT, Bool.or_self, Bool.or_false, Bool.false_or, Bool.false_eq_true, Bool.true_eq_false, if_false, if_true, Bool.not_true, Bool.not_false, asInt, St.newObj, newOwns, St.obj, St.putObj, puress, pures, objOf, ofCells, AV.cells, AObj.rd, AObj.wr, sub, over, PV.scalarEq, reduceCtorEq, and_self, and_true, true_and, List.getD_cons_zero, List.getD_cons_succ, List.set_cons_zero, List.set_cons_succ, List.drop_zero, List.drop_succ_cons, List.take_zero, List.take_succ_cons, List.take_nil, List.drop_nil, fill, List.contains_cons, List.contains_nil, Bool.or_true, Bool.true_or, Bool.and_true, Bool.true_and, Bool.and_false, Bool.false_and, decide_true, decide_false, beq_self_eq_true, Int.toNat_natCast, Nat.reduceMul, Nat.reduceSub, Int.reduceToNat, Nat.zero_le, Nat.lt_irrefl, Nat.le_refl, not_true_eq_false, not_false_eq_true, decide_eq_true_eq, runD_nil, runD_cons', bod_some, Option.bind_some, stepD, againK, List.all_cons, List.all_nil, aexec_draw, Int.reduceBEq, Int.reduceBNe, Bool.not_eq_true', Int.reduceLT, Int.reduceLE, Int.reduceEq, Int.reduceNeg, Int.reduceAdd, Int.reduceSub, Int.reduceMul, Int.natCast_nonneg, List.getElem?_concat_length, true_or, or_true, false_or, or_false, false_and, and_false, Nat.reduceEqDiff, Nat.one_ne_zero, List.cons_append, List.nil_append, List.append_nil, List.length_map, hloop, fewRows, hr]
end Go.TA.Tryd

end
section
/- The examples that the statements contain, run. -/
set_option linter.unusedVariables false
set_option maxRecDepth 100000
namespace Go.TA.Tryd
theorem same28 (n : Nat) : acall T (n + 60) 13 [] [] = some (.p (.bool true), []) := by kernel_rfl

theorem same27 (n : Nat) : acall T (n + 60) 8 [] [] = some (.p (.bool true), []) := by kernel_rfl
end Go.TA.Tryd

end
section
/- The law ValidNone, in the machine. -/
set_option linter.unusedVariables false
set_option linter.unusedSimpArgs false
set_option maxRecDepth 100000
set_option maxHeartbeats 8000000
namespace Go.TA.Tryd
def lawS (l : List GRow) (L : List GOp) (b : GOp) (i : Nat) : St := ⟨[(0, .p (.list (l.map GRow.pv))), (1, .p (.list (L.map GOp.pv))), (5, .ptr false 5 9 1 0 0), (7, .p (.list ((named l 0).map GRow.pv))), (54, .p (.int .i64 l.length)), (55, .p (.int .i64 i))], [(5, .pcells 9 [b.pv])], []⟩
theorem ids_loop {C : Calls'} {N : Nat} (l : List GRow) (L : List GOp) (b : GOp) (hl : l.length ≤ 1048576) (hN : l.length < N) : aexec C N (.loop B4x0) (lawS l L b 0) = some (.exit 0, ⟨[(0, .p (.list (l.map GRow.pv))), (1, .p (.list (L.map GOp.pv))), (5, .ptr false 5 9 1 0 0)], [(5, .pcells 9 [b.pv])], []⟩) := by
  have nl := named_len l 0
  refine loop_rule' (C := C) (N := N) (B := B4x0) (σ := Nat) (S := fun i => lawS l L b i) (I := fun i => i ≤ l.length) (μ := fun i => l.length - i) (Φ := fun i => (.exit 0, ⟨[(0, .p (.list (l.map GRow.pv))), (1, .p (.list (L.map GOp.pv))), (5, .ptr false 5 9 1 0 0)], [(5, .pcells 9 [b.pv])], []⟩)) ?_ 0 (by omega) (by omega)
  intro i hi
  by_cases h : i < l.length
  · left
    obtain ⟨x, hx⟩ := get_some h
    have hg2 : ((named l 0).map GRow.pv).getD i [] = GRow.pv { x with id := (i : Int) + 1 } := getD_map (f := GRow.pv) (by rw [named_get, hx]; simp)
    have k1 : (i : Int) < (l.length : Int) := by omega
    refine ⟨i + 1, ?_, by omega, by omega, rfl⟩
    simp only [lawS]
    simp (implicitDefEqProofs := false) (maxSteps := 1000000) (disch := omega) only [Ra, Rb, Rc, Rd, Re, Rf, Rg, evalOp, St.know, mentions, AObj.mentions, bin, binI, avEq, Nat.reduceBEq, Nat.reduceAdd, asInt, B4x0, k1, nl, hg2, GRow.pv, GOp.pv]
  · right
    obtain rfl : i = l.length := by omega
    have k1 : ¬ (l.length : Int) < (l.length : Int) := by omega
    refine ⟨?_, by simp⟩
    simp only [lawS]
    simp (implicitDefEqProofs := false) (maxSteps := 1000000) (disch := omega) only [Ra, Rb, Rc, Rd, Re, Rf, Rg, evalOp, St.know, mentions, AObj.mentions, bin, binI, Nat.reduceBEq, B4x0, k1, GOp.pv]
theorem law_run (l : List GRow) (L : List GOp) (b : GOp) (hsm : Rows.small 1048577 l) (hL : ∀ x ∈ L, smallOp x) (hLl : L.length ≤ 1048575) (hb : smallOp b) (n : Nat) (hn : 2097200 < n) :
    acall T (n + l.length + l.length + 47) 4 [.p (.list (l.map GRow.pv)), .p (.list (L.map GOp.pv)), .p (.agg b.pv)] [] = some (.p (.bool true), []) := by
  have hlen := hsm.len
  have hsame := same28 (n + l.length + l.length - 14)
  rw [show n + l.length + l.length - 14 + 60 = n + l.length + l.length + 46 by omega] at hsame
  have hfr := fewR_run l 120 [] hsm (Nat.le_refl _) (by omega) (by omega) (m := n + l.length + l.length + 45) (by omega)
  have hfo := few_run L 100 [] (n := n + l.length + l.length + 45) (fun y hy => ⟨hL y hy, by have := (hL y hy).1; omega⟩) (by omega) (by omega) (by omega) (by omega)
  have hfb := few_run [b] 100 [] (n := n + l.length + l.length + 45) (fun y hy => by simp at hy; subst hy; exact ⟨hb, by have := hb.1; omega⟩) (by simp) (by simp) (by omega) (by omega)
  have hck := check13_run l hsm (Nat.le_refl _) (n := n + l.length + l.length + 8) (by omega) []
  have hrf := ref25_run b hb.2.1 [] (n := n + l.length + l.length + 9) (by have := hb.1; omega) (by omega)
  simp only [GOp.pv, attrsPV, List.map_cons, List.map_nil] at hfb hrf
  rw [acall_code T4, run_pure rfl rfl rfl]
  cases h1 : fewRows l 120 with
  | false =>
    rw [h1] at hfr
    simp (implicitDefEqProofs := false) (maxSteps := 1000000) (disch := omega) only [Ra, Rb, Rc, Rd, Re, Rf, Rg, guardK, evalOp, St.know, List.zipWith, mentions, AObj.mentions, avEq, una, noLocal, view, viewT, tupleOf, oneTup, pureArg, allFlat, flat, Nat.reduceBEq, Nat.reduceAdd, Nat.reduceLT, pures, AV.cells, AObj.rd, F4, GOp.pv, attrsPV, hfr, hsame]
  | true =>
  rw [h1] at hfr
  cases h2 : fewOps L 100 with
  | false =>
    rw [h2] at hfo
    simp (implicitDefEqProofs := false) (maxSteps := 1000000) (disch := omega) only [Ra, Rb, Rc, Rd, Re, Rf, Rg, guardK, evalOp, St.know, List.zipWith, mentions, AObj.mentions, avEq, una, noLocal, view, viewT, tupleOf, oneTup, pureArg, allFlat, flat, Nat.reduceBEq, Nat.reduceAdd, Nat.reduceLT, pures, AV.cells, AObj.rd, F4, GOp.pv, attrsPV, hfr, hfo, hsame]
  | true =>
  rw [h2] at hfo
  cases h3 : fewOps [b] 100 with
  | false =>
    rw [h3] at hfb
    simp (implicitDefEqProofs := false) (maxSteps := 1000000) (disch := omega) only [Ra, Rb, Rc, Rd, Re, Rf, Rg, guardK, evalOp, St.know, List.zipWith, mentions, AObj.mentions, avEq, una, noLocal, view, viewT, tupleOf, oneTup, pureArg, allFlat, flat, Nat.reduceBEq, Nat.reduceAdd, Nat.reduceLT, pures, AV.cells, AObj.rd, F4, GOp.pv, attrsPV, hfr, hfo, hfb, hsame]
  | true =>
  rw [h3] at hfb
  by_cases h4 : check13 l = 0
  rotate_left
  · have h4' : (check13 l == 0) = false := by simpa using h4
    simp (implicitDefEqProofs := false) (maxSteps := 1000000) (disch := omega) only [Ra, Rb, Rc, Rd, Re, Rf, Rg, guardK, evalOp, St.know, List.zipWith, mentions, AObj.mentions, avEq, una, noLocal, view, viewT, tupleOf, oneTup, pureArg, allFlat, flat, Nat.reduceBEq, Nat.reduceAdd, Nat.reduceLT, pures, AV.cells, AObj.rd, F4, GOp.pv, attrsPV, hfr, hfo, hfb, hck, h4', hsame]
  rw [h4] at hck
  have hv := valid_nil l hsm (Nat.le_refl _) h4 (n := n) (by omega) []
  rw [outPV_all] at hv
  have hsh := shapes_run l hsm (Nat.le_refl _) (n := n + l.length + l.length + 44) (by omega) []
  have hids := ids_loop (C := acall T (n + l.length + l.length + 46)) (N := n + l.length + l.length + 46) l L b (by omega) (by omega)
  simp only [lawS, Int.natCast_zero, GOp.pv, attrsPV] at hids
  have nl := named_len l 0
  by_cases h5 : opErr b = 0
  · rw [h5] at hrf
    simp (implicitDefEqProofs := false) (maxSteps := 1000000) (disch := omega) only [Ra, Rb, Rc, Rd, Re, Rf, Rg, guardK, evalOp, St.know, List.zipWith, mentions, AObj.mentions, avEq, una, noLocal, view, viewT, tupleOf, oneTup, pureArg, allFlat, flat, Nat.reduceBEq, Nat.reduceAdd, Nat.reduceLT, pures, AV.cells, AObj.rd, F4, GOp.pv, attrsPV, hfr, hfo, hfb, hck, hv, hsh, hids, hrf, nl, hsame]
  · have h5' : (opErr b == 0) = false := by simpa using h5
    obtain ⟨i, e, he, hvb⟩ := valid_bad l hsm (Nat.le_refl _) h4 L b h5 (fun x hx => by
      rcases List.mem_append.1 hx with hx | hx
      · exact (hL x hx).1
      · simp at hx; subst hx; exact hb.1) hLl ((L.length : Int) + 1) (n := n + l.length) (by omega) []
    have he' : (e == 0) = false := by simpa using he
    have hall : ((L.map GOp.pv).all fun x => x.length == 9) = true := by simp [List.all_eq_true, GOp.pv]
    simp only [List.map_append, List.map_cons, List.map_nil, GOp.pv, attrsPV] at hvb
    simp (implicitDefEqProofs := false) (maxSteps := 1000000) (disch := omega) only [Ra, Rb, Rc, Rd, Re, Rf, Rg, guardK, evalOp, St.know, List.zipWith, mentions, AObj.mentions, avEq, una, noLocal, view, viewT, tupleOf, oneTup, pureArg, allFlat, flat, frz, appendTo, Nat.reduceBEq, Nat.reduceAdd, Nat.reduceLeDiff, Nat.reduceLT, pures, AV.cells, AObj.rd, F4, GOp.pv, attrsPV, hfr, hfo, hfb, hck, hv, hsh, hids, hrf, h5', hvb, he', nl, hall, hsame, List.length_append]
end Go.TA.Tryd

end
section
/- The law ValidNone, for every input of bulk at most 1048576: the call returns true, and nothing that was there has changed. -/
namespace Go.Proofs.YtnjblmbobmbgkaaDoor.validNone
open Go.ChangeShapes Go.WideShapes Go.ChangeAt Go.RowKit Go.TA
set_option linter.unusedVariables false
set_option maxRecDepth 100000

theorem own : ownKnob Tryd.prog.godebug = none := by kernel_rfl
theorem kids : Kids Tryd.prog (· < Tryd.prog.types.size) := kids_rows (by kernel_rfl) (by kernel_rfl)
theorem full : ∀ t e, t < Tryd.prog.types.size → Tryd.prog.underlying t = some (.slice e) → 0 < Tryd.prog.cellsOf e := slices_full_of Tryd.prog (by kernel_rfl)
theorem bulk {H : Type} : Bulk (H := H) Rows.uptoBulk Rows.uptoBulkAll where
  str bs := by simp [Rows.uptoBulk]
  lit l := by cases l <;> simp [Rows.uptoBulk]
  nil := by simp [Rows.uptoBulk]
  slice a b := by simp [Rows.uptoBulk]
  agg a := by simp [Rows.uptoBulk]
  nilA := by simp [Rows.uptoBulkAll]
  consA d r := by simp [Rows.uptoBulkAll]
/-! ### the table of tens -/
theorem laidVars_tail {P : Program} {w : World} {x : String × DataW Unit} {r : List (String × DataW Unit)} {ps : List MemPlace} (h : DataW.LaidVars P w (x :: r) ps) : ∃ qs, DataW.LaidVars P w r qs := by
  obtain ⟨n, d⟩ := x
  obtain ⟨g, t, cs, fuel, p, q, _, _, _, _, hq, _⟩ := h
  exact ⟨q, hq⟩
theorem tab_of_vars {P : Program} {W : World} {name : String} {k : IntKind} {zs : List Int} {rest : List (String × DataW Unit)} {ps : List MemPlace} {g : Nat} {t e : TypeId} {n : Nat}
    (hg : P.globalNamed name = some g) (hty : (P.globals[g]?).map (·.type) = some t) (ht : P.underlying t = some (.array n e)) (he : P.underlying e = some (.int k)) (hce : P.cellsOf e = 1) (hct : P.cellsOf t = n)
    (h : DataW.LaidVars P W ((name, Lib.tabData k zs) :: rest) ps) : Lib.TabIs P W name k zs := by
  obtain ⟨g', t', cs, fuel, p, q, hg', ht', hvar, hd, _, _⟩ := h
  obtain rfl := Option.some.inj (hg.symm.trans hg')
  obtain rfl := Option.some.inj (hty.symm.trans ht')
  unfold Lib.TabIs
  rw [hvar, ← Lib.cells_of_tab ht he hce hct hd]
theorem table {W : World} (h : laidMetH Tryd.prog Rows.validNoneRow.laid W) : Lib.TabIs Tryd.prog W "internal/strconv.uint64pow10" .u64 Lib.pow10Tab := by
  have h' : laidMet Tryd.prog Rows.validNoneRow.laid W := h
  obtain ⟨ps, hv, _⟩ := h'
  obtain ⟨qs, hv⟩ := laidVars_tail hv
  obtain ⟨qs, hv⟩ := laidVars_tail hv
  exact tab_of_vars (g := 0) (t := 141) (e := 131) (n := 20) (rest := []) (by kernel_rfl) (by kernel_rfl) (by kernel_rfl) (by kernel_rfl) (by kernel_rfl) (by kernel_rfl) hv

def types : List TypeId := [22, 37, 23, 41, 3, 9, 35, 48]
theorem closed : closedB Tryd.prog 9 types = true := by decide +kernel
theorem shRows : shOf Tryd.prog 9 22 = some [.sl 37] := by decide +kernel
theorem shRow : shOf Tryd.prog 9 37 = some (rowSh 48) := by decide +kernel
theorem shOps : shOf Tryd.prog 9 23 = some [.sl 41] := by decide +kernel
theorem shOp : shOf Tryd.prog 9 41 = some (opSh 48) := by decide +kernel
theorem shAttr : shOf Tryd.prog 9 48 = some [.str, .str] := by decide +kernel
theorem params : Tryd.f4.params.toList = [22, 23, 41] := by kernel_rfl
theorem bulk_ops : ∀ (L : List GOp), (∀ x ∈ L, bulkL x.pv ≤ bulkLL (L.map GOp.pv)) ∧ 9 * L.length ≤ bulkLL (L.map GOp.pv)
  | [] => by simp [bulkLL]
  | a :: l => by
    obtain ⟨h1, h2⟩ := bulk_ops l
    have := bulk_op a
    simp only [List.map_cons, bulkLL, List.length_cons]
    refine ⟨fun b hb => ?_, by omega⟩
    rcases List.mem_cons.1 hb with rfl | hb
    · omega
    · have := h1 b hb; omega

theorem contract (H : Type) (enc : TypeId × Value → H) (W : World) (base : Nat) (args : Array Value) (ds gs : List (DataW H)) (before : List MemPlace)
    (hval : ∀ (j : Nat) t v, Tryd.f4.params[j]? = some t → args[j]? = some v → Value.okWide Tryd.prog W .any base t v)
    (hW : DataW.Whole enc Tryd.prog Tryd.f4.params.toList Rows.validNoneSpec.vars false W args.toList ds gs before) (hk : Rows.uptoSmall H (ds ++ gs) = true) (hL : laidMetH Tryd.prog Rows.validNoneRow.laid W) :
    Calls Tryd.prog 4 args W fun e W' => ∃ v, e = .returned v ∧ Rows.validNoneSpec.post enc Tryd.prog Tryd.f4 false true false false W args v W' := by
  have hW' := hW
  obtain ⟨p, q, hA, hV, rfl, _, _⟩ := hW'
  obtain ⟨rfl, rfl⟩ := trodVars_none hV
  rw [List.append_nil] at hk
  have hbound : Rows.uptoBulkAll ds ≤ 1048576 := of_decide_eq_true hk
  have hlen := trod_len hA
  rw [params] at hA hlen
  obtain ⟨pss, h1, h2, h3, h4⟩ := args_rel (gs := types) (D0 := 9) kids full bulk closed hA (by decide) (fun j t v hj hv => ⟨_, _, hval j t v (by rw [← Array.getElem?_toList, params]; exact hj) (by simpa using hv)⟩)
  match pss, h1 with
  | [ps, qs, rs], h1 =>
  obtain ⟨⟨shs, hs, hok⟩, ⟨shs2, hs2, hok2⟩, ⟨shs3, hs3, hok3⟩, _⟩ := h1
  rw [shRows] at hs
  rw [shOps] at hs2
  rw [shOp] at hs3
  simp only [Option.some.injEq] at hs hs2 hs3
  subst hs hs2 hs3
  obtain ⟨xs, r, rfl, hx, hr⟩ := dec_list shRow hok
  obtain rfl := dec_nil hr
  obtain ⟨l, rfl, hl⟩ := dec_rows shAttr hx
  obtain ⟨ys, r2, rfl, hy, hr2⟩ := dec_list shOp hok2
  obtain rfl := dec_nil hr2
  obtain ⟨L, rfl, hLo⟩ := dec_ops shAttr hy
  obtain ⟨b, rfl, hbo⟩ := dec_op shAttr hok3
  have hb : bulkLL (l.map GRow.pv) < 1048577 := by simp only [bulkLL, bulkL, PV.bulk] at h2; omega
  have hb2 : bulkLL (L.map GOp.pv) ≤ 1048575 := by simp only [bulkLL, bulkL, PV.bulk] at h2; omega
  have hb3 : bulkL b.pv ≤ 1048576 := by simp only [bulkLL, bulkL, PV.bulk] at h2; omega
  obtain ⟨hbs, hbn⟩ := Go.TA.Tryd.smallOp_of hb3 (Nat.le_refl _)
  obtain ⟨ho1, ho2⟩ := bulk_ops L
  have hrun := Go.TA.Tryd.law_run l L b (small_rows hb (Nat.le_refl _)) (fun x hx => (Go.TA.Tryd.smallOp_of (n := 1048576) (by have := ho1 x hx; omega) (Nat.le_refl _)).1) (by omega) hbs 2097201 (by omega)
  have ha : aggT Tryd.prog 22 = false := by decide +kernel
  have ha2 : aggT Tryd.prog 23 = false := by decide +kernel
  have ha3 : aggT Tryd.prog 41 = true := by decide +kernel
  have hargs : argsOf Tryd.prog [22, 23, 41] [[.list (l.map GRow.pv)], [.list (L.map GOp.pv)], b.pv] = [.list (l.map GRow.pv), .list (L.map GOp.pv), .agg b.pv] := by simp [argsOf, argOf, ha, ha2, ha3]
  rw [hargs] at h3 h4
  refine (law_calls_at (ΓW_holds (table hL)) Go.TA.Tryd.mixed (Go.TA.Tryd.T_okW W) (ps := [.list (l.map GRow.pv), .list (L.map GOp.pv), .agg b.pv]) hrun (by simpa using h3) h4).mono fun e W' ⟨he, hB⟩ => ⟨_, he, ?_⟩
  refine law_post kids full hW rfl (tb := 4) rfl (by kernel_rfl) (by rw [params]; decide +kernel) ?_ hB
  match ds, hlen with
  | [d, d2, d3], _ => rfl

/-! ### a witness -/
def wargs : Array Value := #[.slice none 0 0, .slice none 0 0, .agg #[.int .i64 0, .int .i64 0, .int .i64 0, .int .i64 0, .string ⟨#[]⟩, .string ⟨#[]⟩, .string ⟨#[]⟩, .string ⟨#[]⟩, .slice none 0 0]]
def put (k : IntKind) (zs : List Int) : Obj → Obj
  | .cells _ t frozen => .cells (zs.map fun z => Value.int k z).toArray t frozen
  | o => o
def bits32 : List Int := [0, 1, 28, 2, 29, 14, 24, 3, 30, 22, 20, 15, 25, 17, 4, 8, 31, 27, 13, 23, 21, 19, 16, 7, 26, 12, 18, 6, 11, 5, 10, 9]
def bits64 : List Int := [0, 1, 56, 2, 57, 49, 28, 3, 61, 58, 42, 50, 38, 29, 17, 4, 62, 47, 59, 36, 45, 43, 51, 22, 53, 39, 33, 30, 24, 18, 12, 5, 63, 55, 48, 27, 60, 41, 37, 16, 46, 35, 44, 21, 52, 32, 23, 11, 54, 26, 40, 15, 34, 20, 31, 10, 25, 14, 19, 9, 13, 8, 7, 6]
noncomputable def laidWorld (os : Os) : World :=
  { World.holding Tryd.prog os ⟨#[], #[], []⟩ with heap := (((World.holding Tryd.prog os ⟨#[], #[], []⟩).heap.modify 0 (put .u64 Lib.pow10Tab)).modify 2 (put .u8 bits32)).modify 3 (put .u8 bits64) }
theorem laid_met (os : Os) : laidMet Tryd.prog Rows.validNoneRow.laid ((laidWorld os).forCall (fun _ _ => 0) ⟨#[], wargs, []⟩).memory :=
  laidMet_of_run' 8 (by kernel_rfl) (by kernel_rfl)
theorem reads (os : Os) {H : Type} (enc : TypeId × Value → H) : ∃ places, DataW.whole enc Tryd.prog ((laidWorld os).forCall (fun _ _ => 0) ⟨#[], wargs, []⟩).memory Tryd.f4.params.toList Rows.validNoneSpec.vars false wargs.toList 8 = some ([.nil, .nil, .agg [.lit (.int .i64 0), .lit (.int .i64 0), .lit (.int .i64 0), .lit (.int .i64 0), .lit (.string []), .lit (.string []), .lit (.string []), .lit (.string []), .nil]], [], places) :=
  ⟨[], by kernel_rfl⟩

theorem liftedUpto (os : Os) (started : os.Started) (H : Type) (enc : TypeId × Value → H) (F : Stop.Interp) :
    ReturnsInHanded {} Tryd.checked os 4 .any ((Rows.OpenSpec.upto Rows.validNoneSpec).preRow enc Tryd.prog Tryd.f4 Rows.validNoneUptoRow.domain false Rows.validNoneUptoRow.laid) (((Rows.OpenSpec.upto Rows.validNoneSpec).at F).post enc Tryd.prog Tryd.f4 false true false false) := by
  obtain ⟨places, hx⟩ := reads os enc
  refine returnsInHanded_of_row (C := Tryd.checked) (s := Rows.OpenSpec.upto Rows.validNoneSpec) own started (by kernel_rfl) Tryd.func4
    (witness_row_at (enc := enc) (C := Tryd.checked) false (laidWorld os) wargs rfl (by kernel_rfl) (by kernel_rfl) (by kernel_rfl)
      (OpenSpec.preRow_of_cond 8 hx (by kernel_rfl) (fun k hk => by cases hk; kernel_rfl) (by kernel_rfl) (laid_met os))) ?_
  intro W base args ds gs before hval hW _ hcond _ hL _ _
  exact contract H enc W base args ds gs before hval hW (hcond _ rfl) hL
theorem saidUpto : Rows.ValidNoneUptoSaid :=
  OpenClaim.holds_of_cond 4 Tryd.f4 rfl rfl rfl rfl rfl rfl rfl ⟨rfl, rfl, rfl, rfl, rfl⟩ rfl rfl rfl rfl rfl (by kernel_rfl) Tryd.func4 (by kernel_rfl)
    (of_decide_eq_true (by kernel_rfl)) (by unfold Func.isWrapper; first | (rw [if_pos (by decide +kernel)]; kernel_rfl) | (rw [if_neg (by decide +kernel)]; exact ⟨rfl, rfl⟩))
    (fun os started H enc _ F => by rw [OpenClaim.pre_eq_preRow]; exact liftedUpto os started H enc F)
theorem plain (f : FuncId) (fn : Func) (hf : Tryd.pinned.checked.prog.funcNamed "tendril/tendrillaw28.ValidNone" = some f) (hfn : Tryd.pinned.checked.prog.funcs[f]? = some fn) :
    false = Tryd.pinned.checked.prog.looks [] ∧ ∀ (j : Nat) t, fn.params[j]? = some t → Tryd.pinned.checked.prog.wantsStandIn t = false := by
  obtain rfl : f = 4 := Option.some.inj ((show Tryd.prog.funcNamed "tendril/tendrillaw28.ValidNone" = some 4 by kernel_rfl).symm.trans hf) |>.symm
  obtain rfl : fn = Tryd.f4 := (Option.some.inj (Tryd.func4.symm.trans hfn)).symm
  refine ⟨by kernel_rfl, fun j t ht => ?_⟩
  have hm : t ∈ [22, 23, 41] := by
    rw [← params]
    exact Array.mem_toList_iff.2 (Array.mem_of_getElem? ht)
  have hall : [22, 23, 41].all (fun t => Tryd.prog.wantsStandIn t == false) = true := by kernel_rfl
  exact beq_iff_eq.1 (List.all_eq_true.1 hall t hm)
theorem holds : Rows.ValidNoneUptoCardSaid :=
  Claim7.holds_tied_plain_at .later [] _ _ _ _ saidUpto (fun _ h => by cases h) (by kernel_rfl) (fun _ h => by cases h) validNoneUpto_row_tie rfl ⟨rfl, rfl⟩ (by kernel_rfl) rfl plain (by kernel_rfl)
end Go.Proofs.YtnjblmbobmbgkaaDoor.validNone

end
