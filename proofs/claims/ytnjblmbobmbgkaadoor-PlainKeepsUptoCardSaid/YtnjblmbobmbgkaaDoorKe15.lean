/- Part 15 of 15 of a proof; joined from ValidFewR, ValidSame28, ValidKeepLaw, ValidKeepFin. The law PlainKeeps, for every input of bulk at most 1048576: the call returns true, and nothing that was there has changed. -/
import Derived.Test.YtnjblmbobmbgkaaDoorKe6
import Derived.Test.YtnjblmbobmbgkaaDoorKe11
import Derived.Test.YtnjblmbobmbgkaaDoorKe1
import Derived.Test.YtnjblmbobmbgkaaDoorKe14
import Derived.Test.YtnjblmbobmbgkaaDoorCards
import Derived.Test.YtnjblmbobmbgkaaDoorTie
import Derived.WalkKit
import Derived.ProofKit
import Derived.OpenShut
import Derived.JoinedCond
import Derived.Deep.DeepHandedRow
import Derived.Lib.LaidTab
section
set_option linter.unusedSimpArgs false
set_option linter.unusedVariables false
/- The other guard of most laws: whether rows are few. -/
set_option linter.unusedVariables false
set_option linter.unusedSimpArgs false
set_option maxRecDepth 100000
set_option maxHeartbeats 1000000
namespace Go.TA.Tryd
def rowCost (x : GRow) : Int := ((x.text.length : Int) + x.key.length + x.tag.length).tdiv 4096
def fewRowsL : List GRow → Int → Option Int
  | [], left => some left
  | x :: l, left => if left - 1 - x.attrs.length - rowCost x < 0 then none else fewRowsL l (attrsLeft x.attrs (left - 1 - x.attrs.length - rowCost x))
def fewRows (l : List GRow) (most : Int) : Bool := match fewRowsL l most with
  | some n => decide (n ≥ 0)
  | none => false
theorem tdiv_bound {x : Int} (h : 0 ≤ x) (h2 : x ≤ 1048576) : 0 ≤ x.tdiv 4096 ∧ x.tdiv 4096 ≤ 1048576 := by
  rw [Int.tdiv_eq_ediv_of_nonneg h]; omega
theorem attrsLeft_bound (l : List Attr) (hs : smallAttrs l) : ∀ left : Int, left - 1048576 * (l.length : Int) ≤ attrsLeft l left ∧ attrsLeft l left ≤ left := by
  induction l with
  | nil => intro left; simp [attrsLeft]
  | cons a l ih =>
    intro left
    have ha := hs a (by simp)
    have q := tdiv_bound (x := (a.value.length : Int) + (a.name.length : Int)) (by omega) (by omega)
    obtain ⟨z1, z2⟩ := ih (fun b hb => hs b (by simp [hb])) (left - ((a.value.length : Int) + a.name.length).tdiv 4096)
    simp only [attrsLeft, List.length_cons, Int.natCast_add, Int.natCast_one]
    constructor <;> omega
theorem fewR_inner {C : Calls'} {N n : Nat} (l : List GRow) (i : Nat) (x : GRow) (h : l[i]? = some x) (hx : x.small n) (hn : n ≤ 1048577) (hN : n ≤ N) (left : Int) (hl : -1099511627776 ≤ left) (hl2 : left ≤ 1000000) :
    aexec C N (.loop B5x1) ⟨[(0, .p (.list (l.map GRow.pv))), (5, .p (.int .i64 left)), (6, .p (.int .i64 i)), (10, .p (.int .i64 l.length)), (11, .p (.int .i64 i)), (52, .p (.int .i64 x.attrs.length)), (53, .p (.int .i64 0))], [], []⟩ =
      some (.exit 2, ⟨[(0, .p (.list (l.map GRow.pv))), (5, .p (.int .i64 (attrsLeft x.attrs left))), (10, .p (.int .i64 l.length)), (11, .p (.int .i64 i))], [], []⟩) := by
  have hlt : i < l.length := (List.getElem?_eq_some_iff.1 h).1
  have hg := getD_map (f := GRow.pv) h
  have := hx.attrs
  refine loop_rule' (σ := Nat × Int) (S := fun s => ⟨[(0, .p (.list (l.map GRow.pv))), (5, .p (.int .i64 s.2)), (6, .p (.int .i64 i)), (10, .p (.int .i64 l.length)), (11, .p (.int .i64 i)), (52, .p (.int .i64 x.attrs.length)), (53, .p (.int .i64 s.1))], [], []⟩)
    (I := fun s => s.1 ≤ x.attrs.length ∧ -1099511627776 - 1048576 * (s.1 : Int) ≤ s.2 ∧ s.2 ≤ 1000000) (μ := fun s => x.attrs.length - s.1)
    (Φ := fun s => (.exit 2, ⟨[(0, .p (.list (l.map GRow.pv))), (5, .p (.int .i64 (attrsLeft (x.attrs.drop s.1) s.2))), (10, .p (.int .i64 l.length)), (11, .p (.int .i64 i))], [], []⟩)) ?_ (0, left) ?_ ?_
  · rintro ⟨k, left⟩ ⟨h1, h2, h3⟩
    simp only at h1 h2 h3 ⊢
    by_cases hk : k < x.attrs.length
    · obtain ⟨a, ha⟩ := get_some hk
      have hga := getD_map (f := Attr.pv) ha
      have hs := hx.small a (List.mem_of_getElem? ha)
      have q := tdiv_bound (x := (a.value.length : Int) + (a.name.length : Int)) (by omega) (by omega)
      refine .inl ⟨(k + 1, left - ((a.value.length : Int) + a.name.length).tdiv 4096), ?_, ⟨by omega, by simp only [Int.natCast_add, Int.natCast_one]; omega, by omega⟩, by simp only; omega, ?_⟩
      · have k1 : (k : Int) < (x.attrs.length : Int) := by omega
        have k2 : (i : Int) < (l.length : Int) := by omega
        simp (implicitDefEqProofs := false) (disch := omega) only [B5x1, runOps_nil, runOps_cons, bo_some, bo_none, bo_ite, be_some, be_none, be_ite, bn_some, bn_none, bn_ite, bn'_some, aexec_skip, aexec_region, aexec_seq, aexec_block, aexec_exit, aexec_ret, aexec_keep, aexec_cond, condK_bool, bs_normal, bs_ret, bs_exit, bs_none, bs_ite, bkp_some, bb_normal, bb_ret, bb_exit, bb_none, bb_ite, bl_normal, bl_ret, bl_exit, bl_none, bl_ite, br_ret, br_normal, br_none, br_ite, rr_some, m_none, m_some, m_st, m_fr, m_lo, m_p, m_own, m_bool, m_int, m_str, m_list, m_pcells, m_length, m_and, m_or, ite_self,
 enterSt, stepOp, guardK, evalOp, bk_some, bk_ite, bk_none, orBot, St.know, St.arg, St.get, lk, up, St.set, opt', List.length_cons, List.length_nil, List.range, List.range.loop, List.zip, List.zipWith, St.keep, pickL, List.map_cons, List.map_nil, List.any_cons, List.any_nil, mentions, mentionsL, AObj.mentions, bin, binI, avEq, isNil, isNilC, ptrEq, St.one, cellsEq, seq_b, seq_i, seq_s, una, ropRd, bound, okFor, noLocals, noLocal, AV.same, PV.same, AV.sameL, PV.sameL, PV.sameLL, sameAt, againEv, againG, againX, againOne, findIx, hand, view, viewT, allM, tupleOf, oneTup, resultsOf, result1, pureArg, allFlat, flat, frz, cellsAll, sameLen, appendTo, fillK, rg_some, rg_ite, rg_none, implies_true, true_implies, false_implies, Option.map_some, Option.map_none, Nat.reduceBEq, Nat.reduceAdd, Nat.reduceLeDiff, Nat.reduceLT, Bool.or_self, Bool.or_false, Bool.false_or, Bool.false_eq_true, Bool.true_eq_false, if_false, if_true, Bool.not_true, Bool.not_false, asInt, St.newObj, newOwns, St.obj, St.putObj, puress, pures, objOf, ofCells, AV.cells, AObj.rd, AObj.wr, sub, over, PV.scalarEq, reduceCtorEq, and_self, and_true, true_and, List.getD_cons_zero, List.getD_cons_succ, List.set_cons_zero, List.set_cons_succ, List.drop_zero, List.drop_succ_cons, List.take_zero, List.take_succ_cons, List.take_nil, List.drop_nil, fill, List.contains_cons, List.contains_nil, Bool.or_true, Bool.true_or, Bool.and_true, Bool.true_and, Bool.and_false, Bool.false_and, decide_true, decide_false, beq_self_eq_true, Int.toNat_natCast, Nat.reduceMul, Nat.reduceSub, Int.reduceToNat, Nat.zero_le, Nat.lt_irrefl, Nat.le_refl, not_true_eq_false, not_false_eq_true, decide_eq_true_eq, runD_nil, runD_cons', bod_some, Option.bind_some, stepD, againK, List.all_cons, List.all_nil, aexec_draw, Int.reduceBEq, Int.reduceBNe, Bool.not_eq_true', Int.reduceLT, Int.reduceLE, Int.reduceEq, Int.reduceNeg, Int.reduceAdd, Int.reduceSub, Int.reduceMul, Int.natCast_nonneg, List.getElem?_concat_length, true_or, or_true, false_or, or_false, false_and, and_false, Nat.reduceEqDiff, Nat.one_ne_zero, List.cons_append, List.nil_append, List.append_nil, k1, k2, hg, hga, GRow.pv, attrsPV, Attr.pv, List.length_map, wrap_id, Int.natCast_add, Int.natCast_one]
      · rw [List.drop_eq_getElem?_toList_append, ha]; rfl
    · refine .inr ⟨?_, by simp⟩
      have : k = x.attrs.length := by omega
      subst this
      have k1 : ¬ ((x.attrs.length : Int) < (x.attrs.length : Int)) := by omega
      simp (implicitDefEqProofs := false) only [B5x1, runOps_nil, runOps_cons, bo_some, bo_none, bo_ite, be_some, be_none, be_ite, bn_some, bn_none, bn_ite, bn'_some, aexec_skip, aexec_region, aexec_seq, aexec_block, aexec_exit, aexec_ret, aexec_keep, aexec_cond, condK_bool, bs_normal, bs_ret, bs_exit, bs_none, bs_ite, bkp_some, bb_normal, bb_ret, bb_exit, bb_none, bb_ite, bl_normal, bl_ret, bl_exit, bl_none, bl_ite, br_ret, br_normal, br_none, br_ite, rr_some, m_none, m_some, m_st, m_fr, m_lo, m_p, m_own, m_bool, m_int, m_str, m_list, m_pcells, m_length, m_and, m_or, ite_self,
 enterSt, stepOp, guardK, evalOp, bk_some, bk_ite, bk_none, orBot, St.know, St.arg, St.get, lk, up, St.set, opt', List.length_cons, List.length_nil, List.range, List.range.loop, List.zip, List.zipWith, St.keep, pickL, List.map_cons, List.map_nil, List.any_cons, List.any_nil, mentions, mentionsL, AObj.mentions, bin, binI, avEq, isNil, isNilC, ptrEq, St.one, cellsEq, seq_b, seq_i, seq_s, una, ropRd, bound, okFor, noLocals, noLocal, AV.same, PV.same, AV.sameL, PV.sameL, PV.sameLL, sameAt, againEv, againG, againX, againOne, findIx, hand, view, viewT, allM, tupleOf, oneTup, resultsOf, result1, pureArg, allFlat, flat, frz, cellsAll, sameLen, appendTo, fillK, rg_some, rg_ite, rg_none, implies_true, true_implies, false_implies, Option.map_some, Option.map_none, Nat.reduceBEq, Nat.reduceAdd, Nat.reduceLeDiff, Nat.reduceLT, Bool.or_self, Bool.or_false, Bool.false_or, Bool.false_eq_true, Bool.true_eq_false, if_false, if_true, Bool.not_true, Bool.not_false, asInt, St.newObj, newOwns, St.obj, St.putObj, puress, pures, objOf, ofCells, AV.cells, AObj.rd, AObj.wr, sub, over, PV.scalarEq, reduceCtorEq, and_self, and_true, true_and, List.getD_cons_zero, List.getD_cons_succ, List.set_cons_zero, List.set_cons_succ, List.drop_zero, List.drop_succ_cons, List.take_zero, List.take_succ_cons, List.take_nil, List.drop_nil, fill, List.contains_cons, List.contains_nil, Bool.or_true, Bool.true_or, Bool.and_true, Bool.true_and, Bool.and_false, Bool.false_and, decide_true, decide_false, beq_self_eq_true, Int.toNat_natCast, Nat.reduceMul, Nat.reduceSub, Int.reduceToNat, Nat.zero_le, Nat.lt_irrefl, Nat.le_refl, not_true_eq_false, not_false_eq_true, decide_eq_true_eq, runD_nil, runD_cons', bod_some, Option.bind_some, stepD, againK, List.all_cons, List.all_nil, aexec_draw, Int.reduceBEq, Int.reduceBNe, Bool.not_eq_true', Int.reduceLT, Int.reduceLE, Int.reduceEq, Int.reduceNeg, Int.reduceAdd, Int.reduceSub, Int.reduceMul, Int.natCast_nonneg, List.getElem?_concat_length, true_or, or_true, false_or, or_false, false_and, and_false, Nat.reduceEqDiff, Nat.one_ne_zero, List.cons_append, List.nil_append, List.append_nil, k1, List.drop_length, attrsLeft]
  · simp only [Int.natCast_zero]; omega
  · simp only; omega
def fewREnd (r : Option Int) : Ex × St := match r with
  | none => (.ret, ⟨[(4, .p (.bool false))], [], []⟩)
  | some left => (.exit 0, ⟨[(5, .p (.int .i64 left))], [], []⟩)
theorem fewR_outer {C : Calls'} {N n : Nat} (l : List GRow) (hl : Rows.small n l) (hn : n ≤ 1048577) (hN : n ≤ N) (most : Int) (h1 : 0 ≤ most) (h2 : most ≤ 1000000) :
    aexec C N (.loop B5x0) ⟨[(0, .p (.list (l.map GRow.pv))), (5, .p (.int .i64 most)), (10, .p (.int .i64 l.length)), (11, .p (.int .i64 0))], [], []⟩ = some (fewREnd (fewRowsL l most)) := by
  have hlen := hl.len
  refine loop_rule' (σ := Nat × Int) (S := fun s => ⟨[(0, .p (.list (l.map GRow.pv))), (5, .p (.int .i64 s.2)), (10, .p (.int .i64 l.length)), (11, .p (.int .i64 s.1))], [], []⟩)
    (I := fun s => s.1 ≤ l.length ∧ -1099511627776 ≤ s.2 ∧ s.2 ≤ 1000000) (μ := fun s => l.length - s.1)
    (Φ := fun s => fewREnd (fewRowsL (l.drop s.1) s.2)) ?_ (0, most) ?_ ?_
  · rintro ⟨i, left⟩ ⟨h1, h2, h3⟩
    simp only at h1 h2 h3 ⊢
    by_cases hi : i < l.length
    · obtain ⟨x, hx⟩ := get_some hi
      have hgx := getD_map (f := GRow.pv) hx
      have hs := hl.row x (List.mem_of_getElem? hx)
      have q := tdiv_bound (x := (x.text.length : Int) + x.key.length + x.tag.length) (by omega) (by have := hs.text; omega)
      have ha := hs.attrs
      have hd : l.drop i = x :: l.drop (i + 1) := by rw [List.drop_eq_getElem?_toList_append, hx]; rfl
      have k2 : (i : Int) < (l.length : Int) := by omega
      have hc : fewRowsL (l.drop i) left = if left - 1 - x.attrs.length - rowCost x < 0 then none else fewRowsL (l.drop (i + 1)) (attrsLeft x.attrs (left - 1 - x.attrs.length - rowCost x)) := by rw [hd]; rfl
      have htx := hs.text
      unfold rowCost at hc
      by_cases hneg : left - 1 - x.attrs.length - ((x.text.length : Int) + x.key.length + x.tag.length).tdiv 4096 < 0
      · refine .inr ?_
        rw [hc, if_pos hneg]
        refine ⟨?_, by simp [fewREnd]⟩
        simp (implicitDefEqProofs := false) (disch := omega) only [B5x0, runOps_nil, runOps_cons, bo_some, bo_none, bo_ite, be_some, be_none, be_ite, bn_some, bn_none, bn_ite, bn'_some, aexec_skip, aexec_region, aexec_seq, aexec_block, aexec_exit, aexec_ret, aexec_keep, aexec_cond, condK_bool, bs_normal, bs_ret, bs_exit, bs_none, bs_ite, bkp_some, bb_normal, bb_ret, bb_exit, bb_none, bb_ite, bl_normal, bl_ret, bl_exit, bl_none, bl_ite, br_ret, br_normal, br_none, br_ite, rr_some, m_none, m_some, m_st, m_fr, m_lo, m_p, m_own, m_bool, m_int, m_str, m_list, m_pcells, m_length, m_and, m_or, ite_self,
 enterSt, stepOp, guardK, evalOp, bk_some, bk_ite, bk_none, orBot, St.know, St.arg, St.get, lk, up, St.set, opt', List.length_cons, List.length_nil, List.range, List.range.loop, List.zip, List.zipWith, St.keep, pickL, List.map_cons, List.map_nil, List.any_cons, List.any_nil, mentions, mentionsL, AObj.mentions, bin, binI, avEq, isNil, isNilC, ptrEq, St.one, cellsEq, seq_b, seq_i, seq_s, una, ropRd, bound, okFor, noLocals, noLocal, AV.same, PV.same, AV.sameL, PV.sameL, PV.sameLL, sameAt, againEv, againG, againX, againOne, findIx, hand, view, viewT, allM, tupleOf, oneTup, resultsOf, result1, pureArg, allFlat, flat, frz, cellsAll, sameLen, appendTo, fillK, rg_some, rg_ite, rg_none, implies_true, true_implies, false_implies, Option.map_some, Option.map_none, Nat.reduceBEq, Nat.reduceAdd, Nat.reduceLeDiff, Nat.reduceLT, Bool.or_self, Bool.or_false, Bool.false_or, Bool.false_eq_true, Bool.true_eq_false, if_false, if_true, Bool.not_true, Bool.not_false, asInt, St.newObj, newOwns, St.obj, St.putObj, puress, pures, objOf, ofCells, AV.cells, AObj.rd, AObj.wr, sub, over, PV.scalarEq, reduceCtorEq, and_self, and_true, true_and, List.getD_cons_zero, List.getD_cons_succ, List.set_cons_zero, List.set_cons_succ, List.drop_zero, List.drop_succ_cons, List.take_zero, List.take_succ_cons, List.take_nil, List.drop_nil, fill, List.contains_cons, List.contains_nil, Bool.or_true, Bool.true_or, Bool.and_true, Bool.true_and, Bool.and_false, Bool.false_and, decide_true, decide_false, beq_self_eq_true, Int.toNat_natCast, Nat.reduceMul, Nat.reduceSub, Int.reduceToNat, Nat.zero_le, Nat.lt_irrefl, Nat.le_refl, not_true_eq_false, not_false_eq_true, decide_eq_true_eq, runD_nil, runD_cons', bod_some, Option.bind_some, stepD, againK, List.all_cons, List.all_nil, aexec_draw, Int.reduceBEq, Int.reduceBNe, Bool.not_eq_true', Int.reduceLT, Int.reduceLE, Int.reduceEq, Int.reduceNeg, Int.reduceAdd, Int.reduceSub, Int.reduceMul, Int.natCast_nonneg, List.getElem?_concat_length, true_or, or_true, false_or, or_false, false_and, and_false, Nat.reduceEqDiff, Nat.one_ne_zero, List.cons_append, List.nil_append, List.append_nil, k2, hgx, GRow.pv, attrsPV, Attr.pv, List.length_map, wrap_id, hneg, fewREnd]
      · have hb := attrsLeft_bound x.attrs hs.small (left - 1 - x.attrs.length - ((x.text.length : Int) + x.key.length + x.tag.length).tdiv 4096)
        have hloop := fewR_inner (C := C) (N := N) (n := n) l i x hx hs hn hN (left - 1 - x.attrs.length - ((x.text.length : Int) + x.key.length + x.tag.length).tdiv 4096) (by omega) (by omega)
        refine .inl ⟨(i + 1, attrsLeft x.attrs (left - 1 - x.attrs.length - ((x.text.length : Int) + x.key.length + x.tag.length).tdiv 4096)), ?_, ⟨by omega, by simp only; omega, by simp only; omega⟩, by simp only; omega, by simp only; rw [hc, if_neg hneg]⟩
        simp (implicitDefEqProofs := false) (disch := omega) only [B5x0, runOps_nil, runOps_cons, bo_some, bo_none, bo_ite, be_some, be_none, be_ite, bn_some, bn_none, bn_ite, bn'_some, aexec_skip, aexec_region, aexec_seq, aexec_block, aexec_exit, aexec_ret, aexec_keep, aexec_cond, condK_bool, bs_normal, bs_ret, bs_exit, bs_none, bs_ite, bkp_some, bb_normal, bb_ret, bb_exit, bb_none, bb_ite, bl_normal, bl_ret, bl_exit, bl_none, bl_ite, br_ret, br_normal, br_none, br_ite, rr_some, m_none, m_some, m_st, m_fr, m_lo, m_p, m_own, m_bool, m_int, m_str, m_list, m_pcells, m_length, m_and, m_or, ite_self,
 enterSt, stepOp, guardK, evalOp, bk_some, bk_ite, bk_none, orBot, St.know, St.arg, St.get, lk, up, St.set, opt', List.length_cons, List.length_nil, List.range, List.range.loop, List.zip, List.zipWith, St.keep, pickL, List.map_cons, List.map_nil, List.any_cons, List.any_nil, mentions, mentionsL, AObj.mentions, bin, binI, avEq, isNil, isNilC, ptrEq, St.one, cellsEq, seq_b, seq_i, seq_s, una, ropRd, bound, okFor, noLocals, noLocal, AV.same, PV.same, AV.sameL, PV.sameL, PV.sameLL, sameAt, againEv, againG, againX, againOne, findIx, hand, view, viewT, allM, tupleOf, oneTup, resultsOf, result1, pureArg, allFlat, flat, frz, cellsAll, sameLen, appendTo, fillK, rg_some, rg_ite, rg_none, implies_true, true_implies, false_implies, Option.map_some, Option.map_none, Nat.reduceBEq, Nat.reduceAdd, Nat.reduceLeDiff, Nat.reduceLT, Bool.or_self, Bool.or_false, Bool.false_or, Bool.false_eq_true, Bool.true_eq_false, if_false, if_true, Bool.not_true, Bool.not_false, asInt, St.newObj, newOwns, St.obj, St.putObj, puress, pures, objOf, ofCells, AV.cells, AObj.rd, AObj.wr, sub, over, PV.scalarEq, reduceCtorEq, and_self, and_true, true_and, List.getD_cons_zero, List.getD_cons_succ, List.set_cons_zero, List.set_cons_succ, List.drop_zero, List.drop_succ_cons, List.take_zero, List.take_succ_cons, List.take_nil, List.drop_nil, fill, List.contains_cons, List.contains_nil, Bool.or_true, Bool.true_or, Bool.and_true, Bool.true_and, Bool.and_false, Bool.false_and, decide_true, decide_false, beq_self_eq_true, Int.toNat_natCast, Nat.reduceMul, Nat.reduceSub, Int.reduceToNat, Nat.zero_le, Nat.lt_irrefl, Nat.le_refl, not_true_eq_false, not_false_eq_true, decide_eq_true_eq, runD_nil, runD_cons', bod_some, Option.bind_some, stepD, againK, List.all_cons, List.all_nil, aexec_draw, Int.reduceBEq, Int.reduceBNe, Bool.not_eq_true', Int.reduceLT, Int.reduceLE, Int.reduceEq, Int.reduceNeg, Int.reduceAdd, Int.reduceSub, Int.reduceMul, Int.natCast_nonneg, List.getElem?_concat_length, true_or, or_true, false_or, or_false, false_and, and_false, Nat.reduceEqDiff, Nat.one_ne_zero, List.cons_append, List.nil_append, List.append_nil, k2, hgx, GRow.pv, attrsPV, Attr.pv, List.length_map, wrap_id, hneg, hloop, Int.natCast_add, Int.natCast_one]
    · refine .inr ⟨?_, ?_⟩
      · have : i = l.length := by omega
        subst this
        have k1 : ¬ ((l.length : Int) < (l.length : Int)) := by omega
        simp (implicitDefEqProofs := false) only [B5x0, runOps_nil, runOps_cons, bo_some, bo_none, bo_ite, be_some, be_none, be_ite, bn_some, bn_none, bn_ite, bn'_some, aexec_skip, aexec_region, aexec_seq, aexec_block, aexec_exit, aexec_ret, aexec_keep, aexec_cond, condK_bool, bs_normal, bs_ret, bs_exit, bs_none, bs_ite, bkp_some, bb_normal, bb_ret, bb_exit, bb_none, bb_ite, bl_normal, bl_ret, bl_exit, bl_none, bl_ite, br_ret, br_normal, br_none, br_ite, rr_some, m_none, m_some, m_st, m_fr, m_lo, m_p, m_own, m_bool, m_int, m_str, m_list, m_pcells, m_length, m_and, m_or, ite_self,
 enterSt, stepOp, guardK, evalOp, bk_some, bk_ite, bk_none, orBot, St.know, St.arg, St.get, lk, up, St.set, opt', List.length_cons, List.length_nil, List.range, List.range.loop, List.zip, List.zipWith, St.keep, pickL, List.map_cons, List.map_nil, List.any_cons, List.any_nil, mentions, mentionsL, AObj.mentions, bin, binI, avEq, isNil, isNilC, ptrEq, St.one, cellsEq, seq_b, seq_i, seq_s, una, ropRd, bound, okFor, noLocals, noLocal, AV.same, PV.same, AV.sameL, PV.sameL, PV.sameLL, sameAt, againEv, againG, againX, againOne, findIx, hand, view, viewT, allM, tupleOf, oneTup, resultsOf, result1, pureArg, allFlat, flat, frz, cellsAll, sameLen, appendTo, fillK, rg_some, rg_ite, rg_none, implies_true, true_implies, false_implies, Option.map_some, Option.map_none, Nat.reduceBEq, Nat.reduceAdd, Nat.reduceLeDiff, Nat.reduceLT, Bool.or_self, Bool.or_false, Bool.false_or, Bool.false_eq_true, Bool.true_eq_false, if_false, if_true, Bool.not_true, Bool.not_false, asInt, St.newObj, newOwns, St.obj, St.putObj, puress, pures, objOf, ofCells, AV.cells, AObj.rd, AObj.wr, sub, over, PV.scalarEq, reduceCtorEq, and_self, and_true, true_and, List.getD_cons_zero, List.getD_cons_succ, List.set_cons_zero, List.set_cons_succ, List.drop_zero, List.drop_succ_cons, List.take_zero, List.take_succ_cons, List.take_nil, List.drop_nil, fill, List.contains_cons, List.contains_nil, Bool.or_true, Bool.true_or, Bool.and_true, Bool.true_and, Bool.and_false, Bool.false_and, decide_true, decide_false, beq_self_eq_true, Int.toNat_natCast, Nat.reduceMul, Nat.reduceSub, Int.reduceToNat, Nat.zero_le, Nat.lt_irrefl, Nat.le_refl, not_true_eq_false, not_false_eq_true, decide_eq_true_eq, runD_nil, runD_cons', bod_some, Option.bind_some, stepD, againK, List.all_cons, List.all_nil, aexec_draw, Int.reduceBEq, Int.reduceBNe, Bool.not_eq_true', Int.reduceLT, Int.reduceLE, Int.reduceEq, Int.reduceNeg, Int.reduceAdd, Int.reduceSub, Int.reduceMul, Int.natCast_nonneg, List.getElem?_concat_length, true_or, or_true, false_or, or_false, false_and, and_false, Nat.reduceEqDiff, Nat.one_ne_zero, List.cons_append, List.nil_append, List.append_nil, k1, List.drop_length, fewRowsL, fewREnd]
      · have : l.drop i = [] := List.drop_eq_nil_of_le (by omega)
        simp [this, fewRowsL, fewREnd]
  · simp only; omega
  · simp only; omega
theorem fewR_run (l : List GRow) (most : Int) (g : List AObj) {n : Nat} (hl : Rows.small n l) (hn : n ≤ 1048577) (h1 : 0 ≤ most) (h2 : most ≤ 1000000) {m : Nat} (hm : n ≤ m) :
    acall T (m + 1) 5 [.p (.list (l.map GRow.pv)), .p (.int .i64 most)] g = some (.p (.bool (fewRows l most)), g) := by
  rw [acall_code T5, run_pure rfl rfl rfl]
  have hloop := fewR_outer (C := acall T m) (N := m) l hl hn hm most h1 h2
  cases hr : fewRowsL l most with
  | none =>
    rw [hr] at hloop
    simp (implicitDefEqProofs := false) only [F5, fewREnd] at hloop ⊢
    simp (implicitDefEqProofs := false) only [runOps_nil, runOps_cons, bo_some, bo_none, bo_ite, be_some, be_none, be_ite, bn_some, bn_none, bn_ite, bn'_some, aexec_skip, aexec_region, aexec_seq, aexec_block, aexec_exit, aexec_ret, aexec_keep, aexec_cond, condK_bool, bs_normal, bs_ret, bs_exit, bs_none, bs_ite, bkp_some, bb_normal, bb_ret, bb_exit, bb_none, bb_ite, bl_normal, bl_ret, bl_exit, bl_none, bl_ite, br_ret, br_normal, br_none, br_ite, rr_some, m_none, m_some, m_st, m_fr, m_lo, m_p, m_own, m_bool, m_int, m_str, m_list, m_pcells, m_length, m_and, m_or, ite_self,
 enterSt, stepOp, guardK, evalOp, bk_some, bk_ite, bk_none, orBot, St.know, St.arg, St.get, lk, up, St.set, opt', List.length_cons, List.length_nil, List.range, List.range.loop, List.zip, List.zipWith, St.keep, pickL, List.map_cons, List.map_nil, List.any_cons, List.any_nil, mentions, mentionsL, AObj.mentions, bin, binI, avEq, isNil, isNilC, ptrEq, St.one, cellsEq, seq_b, seq_i, seq_s, una, ropRd, bound, okFor, noLocals, noLocal, AV.same, PV.same, AV.sameL, PV.sameL, PV.sameLL, sameAt, againEv, againG, againX, againOne, findIx, hand, view, viewT, allM, tupleOf, oneTup, resultsOf, result1, pureArg, allFlat, flat, frz, cellsAll, sameLen, appendTo, fillK, rg_some, rg_ite, rg_none, implies_true, true_implies, false_implies, Option.map_some, Option.map_none, Nat.reduceBEq, Nat.reduceAdd, Nat.reduceLeDiff, Nat.reduceLT, Bool.or_self, Bool.or_false, Bool.false_or, Bool.false_eq_true, Bool.true_eq_false, if_false, if_true, Bool.not_true, Bool.not_false, asInt, St.newObj, newOwns, St.obj, St.putObj, puress, pures, objOf, ofCells, AV.cells, AObj.rd, AObj.wr, sub, over, PV.scalarEq, reduceCtorEq, and_self, and_true, true_and, List.getD_cons_zero, List.getD_cons_succ, List.set_cons_zero, List.set_cons_succ, List.drop_zero, List.drop_succ_cons, List.take_zero, List.take_succ_cons, List.take_nil, List.drop_nil, fill, List.contains_cons, List.contains_nil, Bool.or_true, Bool.true_or, Bool.and_true, Bool.true_and, Bool.and_false, Bool.false_and, decide_true, decide_false, beq_self_eq_true, Int.toNat_natCast, Nat.reduceMul, Nat.reduceSub, Int.reduceToNat, Nat.zero_le, Nat.lt_irrefl, Nat.le_refl, not_true_eq_false, not_false_eq_true, decide_eq_true_eq, runD_nil, runD_cons', bod_some, Option.bind_some, stepD, againK, List.all_cons, List.all_nil, aexec_draw, Int.reduceBEq, Int.reduceBNe, Bool.not_eq_true', Int.reduceLT, Int.reduceLE, Int.reduceEq, Int.reduceNeg, Int.reduceAdd, Int.reduceSub, Int.reduceMul, Int.natCast_nonneg, List.getElem?_concat_length, true_or, or_true, false_or, or_false, false_and, and_false, Nat.reduceEqDiff, Nat.one_ne_zero, List.cons_append, List.nil_append, List.append_nil, List.length_map, hloop, fewRows, hr]
  | some left =>
    rw [hr] at hloop
    simp (implicitDefEqProofs := false) only [F5, fewREnd] at hloop ⊢
    simp (implicitDefEqProofs := false) only [runOps_nil, runOps_cons, bo_some, bo_none, bo_ite, be_some, be_none, be_ite, bn_some, bn_none, bn_ite, bn'_some, aexec_skip, aexec_region, aexec_seq, aexec_block, aexec_exit, aexec_ret, aexec_keep, aexec_cond, condK_bool, bs_normal, bs_ret, bs_exit, bs_none, bs_ite, bkp_some, bb_normal, bb_ret, bb_exit, bb_none, bb_ite, bl_normal, bl_ret, bl_exit, bl_none, bl_ite, br_ret, br_normal, br_none, br_ite, rr_some, m_none, m_some, m_st, m_fr, m_lo, m_p, m_own, m_bool, m_int, m_str, m_list, m_pcells, m_length, m_and, m_or, ite_self,
 enterSt, stepOp, guardK, evalOp, bk_some, bk_ite, bk_none, orBot, St.know, St.arg, St.get, lk, up, St.set, opt', List.length_cons, List.length_nil, List.range, List.range.loop, List.zip, List.zipWith, St.keep, pickL, List.map_cons, List.map_nil, List.any_cons, List.any_nil, mentions, mentionsL, AObj.mentions, bin, binI, avEq, isNil, isNilC, ptrEq, St.one, cellsEq, seq_b, seq_i, seq_s, una, ropRd, bound, okFor, noLocals, noLocal, AV.same, PV.same, AV.sameL, PV.sameL, PV.sameLL, sameAt, againEv, againG, againX, againOne, findIx, hand, view, viewT, allM, tupleOf, oneTup, resultsOf, result1, pureArg, allFlat, flat, frz, cellsAll, sameLen, appendTo, fillK, rg_some, rg_ite, rg_none, implies_true, true_implies, false_implies, Option.map_some, Option.map_none, Nat.reduceBEq, Nat.reduceAdd, Nat.reduceLeDiff, Nat.reduceLT, Bool.or_self, Bool.or_false, Bool.false_or, Bool.false_eq_true, Bool.true_eq_false, if_false, if_true, Bool.not_true, Bool.not_false, asInt, St.newObj, newOwns, St.obj, St.putObj, puress, pures, objOf, ofCells, AV.cells, AObj.rd, AObj.wr, sub, over, PV.scalarEq, reduceCtorEq, and_self, and_true, true_and, List.getD_cons_zero, List.getD_cons_succ, List.set_cons_zero, List.set_cons_succ, List.drop_zero, List.drop_succ_cons, List.take_zero, List.take_succ_cons, List.take_nil, List.drop_nil, fill, List.contains_cons, List.contains_nil, Bool.or_true, Bool.true_or, Bool.and_true, Bool.true_and, Bool.and_false, Bool.false_and, decide_true, decide_false, beq_self_eq_true, Int.toNat_natCast, Nat.reduceMul, Nat.reduceSub, Int.reduceToNat, Nat.zero_le, Nat.lt_irrefl, Nat.le_refl, not_true_eq_false, not_false_eq_true, decide_eq_true_eq, runD_nil, runD_cons', bod_some, Option.bind_some, stepD, againK, List.all_cons, List.all_nil, aexec_draw, Int.reduceBEq, Int.reduceBNe, Bool.not_eq_true', Int.reduceLT, Int.reduceLE, Int.reduceEq, Int.reduceNeg, Int.reduceAdd, Int.reduceSub, Int.reduceMul, Int.natCast_nonneg, List.getElem?_concat_length, true_or, or_true, false_or, or_false, false_and, and_false, Nat.reduceEqDiff, Nat.one_ne_zero, List.cons_append, List.nil_append, List.append_nil, List.length_map, hloop, fewRows, hr]
end Go.TA.Tryd


end
section
set_option linter.unusedSimpArgs false
set_option linter.unusedVariables false
/- The examples that the statements contain, run. -/
set_option linter.unusedVariables false
set_option maxRecDepth 100000
namespace Go.TA.Tryd
theorem same27 (n : Nat) : acall T (n + 60) 8 [] [] = some (.p (.bool true), []) := by kernel_rfl
end Go.TA.Tryd


end
section
set_option linter.unusedSimpArgs false
set_option linter.unusedVariables false
/- The law PlainKeeps, in the machine. -/
set_option linter.unusedVariables false
set_option linter.unusedSimpArgs false
set_option maxRecDepth 100000
set_option maxHeartbeats 8000000
namespace Go.TA.Tryd
structure KeptRow (l : List GRow) (N : Nat) (out : List GRow) (i : Nat) (x : GRow) (c : Nat) : Prop where
  id : x.id = (c : Int)
  pos : 0 < c
  lt : c < N
  up : x.up = 0 ∨ ∃ (j : Nat) (y : GRow), x.up = (j : Int) + 1 ∧ out[j]? = some y
  was : c ≤ l.length → ∃ y, l[c - 1]? = some y ∧ x.tag = y.tag ∧ x.key = y.key ∧ ((x.up = 0 ∧ y.up = 0) ∨ ∃ (j : Nat) (z : GRow), x.up = (j : Int) + 1 ∧ out[j]? = some z ∧ z.id = y.up)
theorem kept_of {l : List GRow} {m R : Nat} (hs : sound l) {S : MS} (hS : S.Ok R) (hst : Stays (S0 l) S) (R' : Nat) : ∀ i x, (rowsM S R')[i]? = some x → ∃ c, KeptRow l S.N (rowsM S R') i x c := by
  intro i x hx
  obtain ⟨c, g⟩ := rowsM_good hS R' i x hx
  refine ⟨c, g.id, g.pos, g.lt, ?_, fun hc => ?_⟩
  · rcases g.up with h | ⟨j, y, h1, h2, h3, h4⟩
    · exact .inl h.1
    · exact .inr ⟨j, y, h2, h3⟩
  · obtain ⟨y, hy⟩ := get_some (show c - 1 < l.length by have := g.pos; omega)
    obtain ⟨h1, h2, h3, h4⟩ := hst.2 c (by simp only [S0]; omega) g.live
    have hn : (S0 l).st c = nodeOf y := by
      obtain ⟨k, rfl⟩ : ∃ k, c = k + 1 := ⟨c - 1, by have := g.pos; omega⟩
      simp only [Nat.add_sub_cancel] at hy
      simp [S0, st0, hy]
    rw [hn] at h2 h3 h4
    have hu := hs.1 (c - 1) y (by have := g.pos; omega) hy
    have h5 := h4 (by simp only [nodeOf]; omega)
    refine ⟨y, hy, by rw [g.tag, h2]; rfl, by rw [g.key, h3]; rfl, ?_⟩
    have e : (S.st c).up = y.up := h5
    rcases g.up with h | ⟨j, z, k1, k2, k3, k4⟩
    · exact .inl ⟨h.1, by rw [← e]; exact h.2⟩
    · exact .inr ⟨j, z, k2, k3, by rw [k4, e]⟩
def keepS (l : List GRow) (G : List AObj) (q k i : Nat) : St := ⟨[(0, .p (.list (l.map GRow.pv))), (5, MP), (6, .p (.int .i64 0)), (7, .own true q k), (36, .p (.int .i64 k)), (37, .p (.int .i64 i))], [], G⟩
theorem keep_loop {n : Nat} (l : List GRow) (hl : l.length ≤ 1048576) (S : MS) (hN : S.N ≤ 4194304) (av : Nat → AV) (rest : List AObj) (out : List GRow) (hol : out.length ≤ S.N) (hk : ∀ i x, out[i]? = some x → ∃ c, KeptRow l S.N out i x c) (hn : S.N < n + 1) :
    aexec (acall T (n + 1)) (n + 1) (.loop B3x0) (keepS l (machG S.N S.st av (rest ++ [.pcells 6 (out.map GRow.pv)])) (rest.length + 1 + 1) out.length 0) = some (.exit 0, ⟨[(6, .p (.int .i64 0))], [], machG S.N S.st av (rest ++ [.pcells 6 (out.map GRow.pv)])⟩) := by
  have key := loop_rule' (C := acall T (n + 1)) (N := n + 1) (B := B3x0) (σ := Nat) (S := fun i => keepS l (machG S.N S.st av (rest ++ [.pcells 6 (out.map GRow.pv)])) (rest.length + 1 + 1) out.length i) (I := fun i => i ≤ out.length) (μ := fun i => out.length - i) (Φ := fun i => (.exit 0, ⟨[(6, .p (.int .i64 0))], [], machG S.N S.st av (rest ++ [.pcells 6 (out.map GRow.pv)])⟩)) ?_ 0 (by omega) (by omega)
  · exact key
  have ol : (out.map GRow.pv).length = out.length := by simp
  have hq : (rest ++ [AObj.pcells 6 (out.map GRow.pv)])[rest.length]? = some (.pcells 6 (out.map GRow.pv)) := by simp
  have hnx := Next_run S av (rest ++ [.pcells 6 (out.map GRow.pv)]) n
  intro i hi
  by_cases h : i < out.length
  · left
    obtain ⟨x, hx⟩ := get_some h
    obtain ⟨c, g⟩ := hk i x hx
    have hgx := getD_map (f := GRow.pv) hx
    have k1 : (i : Int) < (out.length : Int) := by omega
    have k2 : ¬ (c : Int) < 1 := by have := g.pos; omega
    have k3 : ¬ (c : Int) ≥ (S.N : Int) := by have := g.lt; omega
    have hid := g.id
    have hclt := g.lt
    refine ⟨i + 1, ?_, by omega, by omega, rfl⟩
    simp only [keepS, machG] at hnx ⊢
    by_cases hc : c ≤ l.length
    · obtain ⟨y, hy, ht, hke, hup⟩ := g.was hc
      have k4 : ¬ (c : Int) > (l.length : Int) := by omega
      have k5 : (c : Int) - 1 = ((c - 1 : Nat) : Int) := by have := g.pos; omega
      have k5' : ((c - 1 : Nat) : Int) < (l.length : Int) := by have := g.pos; omega
      have hgy := getD_map (f := GRow.pv) hy
      rcases hup with ⟨u1, u2⟩ | ⟨j, z, u1, hz, u2⟩
      · have k6 : ¬ (0 : Int) > 0 := by omega
        simp (implicitDefEqProofs := false) (maxSteps := 1000000) (disch := omega) only [Ra, Rb, Rc, Rd, Re, Rf, Rg, guardK, evalOp, idx_p, St.know, mentions, AObj.mentions, bin, binI, avEq, noLocal, Nat.reduceBEq, Nat.reduceAdd, Nat.reduceLeDiff, asInt, rd_p, reduceCtorEq, Nat.reduceEqDiff, B3x0, k1, k2, k3, k4, k5, k5', k6, hq, ol, hgx, hgy, hid, hnx, ht, hke, u1, u2, GRow.pv, List.getElem?_cons_succ]
      · have k6 : (j : Int) + 1 > 0 := by omega
        have hjl := (List.getElem?_eq_some_iff.1 hz).1
        have k7 : (j : Int) + 1 - 1 = (j : Int) := by omega
        have k8 : (j : Int) < (out.length : Int) := by omega
        have hgz := getD_map (f := GRow.pv) hz
        simp (implicitDefEqProofs := false) (maxSteps := 1000000) (disch := omega) only [Ra, Rb, Rc, Rd, Re, Rf, Rg, guardK, evalOp, idx_p, St.know, mentions, AObj.mentions, bin, binI, avEq, noLocal, Nat.reduceBEq, Nat.reduceAdd, Nat.reduceLeDiff, asInt, rd_p, reduceCtorEq, Nat.reduceEqDiff, B3x0, k1, k2, k3, k4, k5, k5', k6, k7, k8, hq, ol, hgx, hgy, hgz, hid, hnx, ht, hke, u1, u2, GRow.pv, List.getElem?_cons_succ]
    · have k4 : (c : Int) > (l.length : Int) := by omega
      simp (implicitDefEqProofs := false) (maxSteps := 1000000) (disch := omega) only [Ra, Rb, Rc, Rd, Re, Rf, Rg, guardK, evalOp, idx_p, St.know, mentions, AObj.mentions, bin, binI, noLocal, Nat.reduceBEq, Nat.reduceAdd, Nat.reduceLeDiff, asInt, rd_p, Nat.reduceEqDiff, B3x0, k1, k2, k3, k4, hq, ol, hgx, hid, hnx, GRow.pv, List.getElem?_cons_succ]
  · right
    obtain rfl : i = out.length := by omega
    have k1 : ¬ (out.length : Int) < (out.length : Int) := by omega
    refine ⟨?_, by simp⟩
    simp only [keepS]
    simp (implicitDefEqProofs := false) (maxSteps := 1000000) (disch := omega) only [Ra, Rb, Rc, Rd, Re, Rf, Rg, evalOp, St.know, mentions, AObj.mentions, bin, binI, Nat.reduceBEq, B3x0, k1]
theorem keep_run (l : List GRow) (L : List GOp) (hsm : Rows.small 1048577 l) (hL : ∀ x ∈ L, smallOp x) (hLl : L.length ≤ 1048575) :
    ∃ n, acall T n 3 [.p (.list (l.map GRow.pv)), .p (.list (L.map GOp.pv))] [] = some (.p (.bool true), []) := by
  have hlen := hsm.len
  obtain ⟨n, hn⟩ : ∃ n, n = 4 * 4194304 + bnd l.length L.length + bnd l.length L.length := ⟨_, rfl⟩
  refine ⟨n + l.length + 46 + bnd l.length L.length, ?_⟩
  generalize hB : bnd l.length L.length = B at hn ⊢
  have hsame := same27 (n + l.length + B - 15)
  rw [show n + l.length + B - 15 + 60 = n + l.length + 45 + B by omega] at hsame
  have hfr := fewR_run l 120 [] hsm (Nat.le_refl _) (by omega) (by omega) (m := n + l.length + 44 + B) (by omega)
  have hfo := few_run L 150 [] (n := n + l.length + 44 + B) (fun y hy => ⟨hL y hy, by have := (hL y hy).1; omega⟩) (by omega) (by omega) (by omega) (by omega)
  have hck := check13_run l hsm (Nat.le_refl _) (n := n + l.length + 7 + B) (by omega) []
  rw [show n + l.length + 44 + B + 1 = n + l.length + 45 + B by omega] at hfr hfo
  rw [show n + l.length + 7 + B + 38 = n + l.length + 45 + B by omega] at hck
  rw [show n + l.length + 46 + B = n + l.length + 45 + B + 1 by omega, acall_code T3, run_pure rfl rfl rfl]
  cases h1 : fewRows l 120 with
  | false =>
    rw [h1] at hfr
    simp (implicitDefEqProofs := false) (maxSteps := 1000000) (disch := omega) only [Ra, Rb, Rc, Rd, Re, Rf, Rg, guardK, evalOp, St.know, List.zipWith, mentions, AObj.mentions, avEq, una, noLocal, view, viewT, tupleOf, oneTup, pureArg, allFlat, flat, Nat.reduceBEq, Nat.reduceAdd, F3, hfr, hsame]
  | true =>
  rw [h1] at hfr
  cases h2 : fewOps L 150 with
  | false =>
    rw [h2] at hfo
    simp (implicitDefEqProofs := false) (maxSteps := 1000000) (disch := omega) only [Ra, Rb, Rc, Rd, Re, Rf, Rg, guardK, evalOp, St.know, List.zipWith, mentions, AObj.mentions, avEq, una, noLocal, view, viewT, tupleOf, oneTup, pureArg, allFlat, flat, Nat.reduceBEq, Nat.reduceAdd, F3, hfr, hfo, hsame]
  | true =>
  rw [h2] at hfo
  by_cases h4 : check13 l = 0
  rotate_left
  · have h4' : (check13 l == 0) = false := by simpa using h4
    simp (implicitDefEqProofs := false) (maxSteps := 1000000) (disch := omega) only [Ra, Rb, Rc, Rd, Re, Rf, Rg, guardK, evalOp, St.know, List.zipWith, mentions, AObj.mentions, avEq, una, noLocal, view, viewT, tupleOf, oneTup, pureArg, allFlat, flat, Nat.reduceBEq, Nat.reduceAdd, F3, hfr, hfo, hck, h4', hsame]
  rw [h4] at hck
  have hs : sound l := formed_sound (check13_ok h4).1
  have hS0 := S0_ok hs hsm (Nat.le_refl _)
  obtain ⟨av, rest, hnew, hM, _⟩ := new_run l hsm (Nat.le_refl _) h4 (n := n + 1 + B) (by omega)
  rw [show n + 1 + B + l.length + 44 = n + l.length + 45 + B by omega] at hnew
  obtain ⟨av2, rest2, R2, hrun, hM2, hS2, hR2, hN2, _⟩ := mrun_run hS0 L (fun x hx => by have := (hL x hx).1; omega) (by simp only [S0]; omega) av rest hM (F := n + l.length + 44 + B) (by simp only [S0]; rw [hB]; omega)
  rw [show n + l.length + 44 + B + 1 = n + l.length + 45 + B by omega] at hrun
  have hstay := runM_stays L hS0 0 (fun x hx => by have := (hL x hx).1; omega)
  rw [hB] at hR2
  have hSN : (S0 l).N = l.length + 1 := rfl
  rw [hSN] at hN2
  generalize hr : runM (S0 l) L 0 = r at hrun hM2 hS2 hN2 hstay
  obtain ⟨r1, r2, S2⟩ := r
  simp only at hrun hM2 hS2 hN2 hstay
  have hrows := Rows_run hS2 (by omega) av2 rest2 hM2 (n := n + l.length + 43 + B - R2) (by omega)
  rw [show n + l.length + 43 + B - R2 + R2 + 2 = n + l.length + 45 + B by omega] at hrows
  have hkl := kept_of (m := 0) hs hS2 hstay R2
  have hol := rowsM_len hS2 R2
  have hloop := keep_loop (n := n + l.length + 44 + B) l (by omega) S2 (by omega) av2 rest2 (rowsM S2 R2) hol hkl (by omega)
  rw [show n + l.length + 44 + B + 1 = n + l.length + 45 + B by omega] at hloop
  generalize rowsM S2 R2 = out at hrows hloop hol
  simp only [keepS, Int.natCast_zero] at hloop
  have e0 : (S0 l).N = l.length + 1 := rfl
  have e1 : (S0 l).st = st0 l := rfl
  rw [e0, e1] at hrun
  simp (implicitDefEqProofs := false) (maxSteps := 1000000) (disch := omega) only [Ra, Rb, Rc, Rd, Re, Rf, Rg, guardK, evalOp, St.know, List.zipWith, mentions, AObj.mentions, avEq, una, noLocal, view, viewT, tupleOf, oneTup, pureArg, allFlat, flat, Nat.reduceBEq, Nat.reduceAdd, Nat.reduceLT, F3, hfr, hfo, hck, hnew, hrun, hrows, hloop, hsame]
end Go.TA.Tryd


end
section
set_option linter.unusedSimpArgs false
set_option linter.unusedVariables false
/- The law PlainKeeps, for every input of bulk at most 1048576: the call returns true, and nothing that was there has changed. -/
namespace Go.Proofs.YtnjblmbobmbgkaaDoor.plainKeeps
open Go.ChangeShapes Go.WideShapes Go.ChangeAt Go.RowKit Go.TA
set_option linter.unusedVariables false
set_option maxRecDepth 100000
theorem own : ownKnob Tryd.prog.godebug = none := by kernel_rfl
theorem kids : Kids Tryd.prog (· < Tryd.prog.types.size) := kids_rows (by kernel_rfl) (by kernel_rfl)
theorem full : ∀ t e, t < Tryd.prog.types.size → Tryd.prog.underlying t = some (.slice e) → 0 < Tryd.prog.cellsOf e := slices_full_of Tryd.prog (by kernel_rfl)
theorem bulk {H : Type} : Bulk (H := H) Rows.uptoBulk Rows.uptoBulkAll where
  str bs := by simp [Rows.uptoBulk]
  lit l := by cases l <;> simp [Rows.uptoBulk]
  nil := by simp [Rows.uptoBulk]
  slice a b := by simp [Rows.uptoBulk]
  agg a := by simp [Rows.uptoBulk]
  nilA := by simp [Rows.uptoBulkAll]
  consA d r := by simp [Rows.uptoBulkAll]
theorem laidVars_tail {P : Program} {w : World} {x : String × DataW Unit} {r : List (String × DataW Unit)} {ps : List MemPlace} (h : DataW.LaidVars P w (x :: r) ps) : ∃ qs, DataW.LaidVars P w r qs := by
  obtain ⟨n, d⟩ := x
  obtain ⟨g, t, cs, fuel, p, q, _, _, _, _, hq, _⟩ := h
  exact ⟨q, hq⟩
theorem tab_of_vars {P : Program} {W : World} {name : String} {k : IntKind} {zs : List Int} {rest : List (String × DataW Unit)} {ps : List MemPlace} {g : Nat} {t e : TypeId} {n : Nat}
    (hg : P.globalNamed name = some g) (hty : (P.globals[g]?).map (·.type) = some t) (ht : P.underlying t = some (.array n e)) (he : P.underlying e = some (.int k)) (hce : P.cellsOf e = 1) (hct : P.cellsOf t = n)
    (h : DataW.LaidVars P W ((name, Lib.tabData k zs) :: rest) ps) : Lib.TabIs P W name k zs := by
  obtain ⟨g', t', cs, fuel, p, q, hg', ht', hvar, hd, _, _⟩ := h
  obtain rfl := Option.some.inj (hg.symm.trans hg')
  obtain rfl := Option.some.inj (hty.symm.trans ht')
  unfold Lib.TabIs
  rw [hvar, ← Lib.cells_of_tab ht he hce hct hd]
theorem table {W : World} (h : laidMetH Tryd.prog Rows.plainKeepsRow.laid W) : Lib.TabIs Tryd.prog W "internal/strconv.uint64pow10" .u64 Lib.pow10Tab := by
  have h' : laidMet Tryd.prog Rows.plainKeepsRow.laid W := h
  obtain ⟨ps, hv, _⟩ := h'
  obtain ⟨qs, hv⟩ := laidVars_tail hv
  obtain ⟨qs, hv⟩ := laidVars_tail hv
  exact tab_of_vars (g := 0) (t := 141) (e := 131) (n := 20) (rest := []) (by kernel_rfl) (by kernel_rfl) (by kernel_rfl) (by kernel_rfl) (by kernel_rfl) (by kernel_rfl) hv
def types : List TypeId := [22, 37, 23, 41, 3, 9, 35, 48]
theorem closed : closedB Tryd.prog 9 types = true := by decide +kernel
theorem shRows : shOf Tryd.prog 9 22 = some [.sl 37] := by decide +kernel
theorem shRow : shOf Tryd.prog 9 37 = some (rowSh 48) := by decide +kernel
theorem shOps : shOf Tryd.prog 9 23 = some [.sl 41] := by decide +kernel
theorem shOp : shOf Tryd.prog 9 41 = some (opSh 48) := by decide +kernel
theorem shAttr : shOf Tryd.prog 9 48 = some [.str, .str] := by decide +kernel
theorem params : Tryd.f3.params.toList = [22, 23] := by kernel_rfl
theorem bulk_ops : ∀ (L : List GOp), (∀ x ∈ L, bulkL x.pv ≤ bulkLL (L.map GOp.pv)) ∧ 9 * L.length ≤ bulkLL (L.map GOp.pv)
  | [] => by simp [bulkLL]
  | a :: l => by
    obtain ⟨h1, h2⟩ := bulk_ops l
    have := bulk_op a
    simp only [List.map_cons, bulkLL, List.length_cons]
    refine ⟨fun b hb => ?_, by omega⟩
    rcases List.mem_cons.1 hb with rfl | hb
    · omega
    · have := h1 b hb; omega
theorem contract (H : Type) (enc : TypeId × Value → H) (W : World) (base : Nat) (args : Array Value) (ds gs : List (DataW H)) (before : List MemPlace)
    (hval : ∀ (j : Nat) t v, Tryd.f3.params[j]? = some t → args[j]? = some v → Value.okWide Tryd.prog W .any base t v)
    (hW : DataW.Whole enc Tryd.prog Tryd.f3.params.toList Rows.plainKeepsSpec.vars false W args.toList ds gs before) (hk : Rows.uptoSmall H (ds ++ gs) = true) (hL : laidMetH Tryd.prog Rows.plainKeepsRow.laid W) :
    Calls Tryd.prog 3 args W fun e W' => ∃ v, e = .returned v ∧ Rows.plainKeepsSpec.post enc Tryd.prog Tryd.f3 false true false false W args v W' := by
  have hW' := hW
  obtain ⟨p, q, hA, hV, rfl, _, _⟩ := hW'
  obtain ⟨rfl, rfl⟩ := trodVars_none hV
  rw [List.append_nil] at hk
  have hbound : Rows.uptoBulkAll ds ≤ 1048576 := of_decide_eq_true hk
  have hlen := trod_len hA
  rw [params] at hA hlen
  obtain ⟨pss, h1, h2, h3, h4⟩ := args_rel (gs := types) (D0 := 9) kids full bulk closed hA (by decide) (fun j t v hj hv => ⟨_, _, hval j t v (by rw [← Array.getElem?_toList, params]; exact hj) (by simpa using hv)⟩)
  match pss, h1 with
  | [ps1, ps2], h1 =>
  obtain ⟨⟨shs1, hs1, hok1⟩, ⟨shs2, hs2, hok2⟩, _⟩ := h1
  rw [shRows] at hs1
  rw [shOps] at hs2
  simp only [Option.some.injEq] at hs1 hs2
  subst hs1 hs2
  obtain ⟨xs1, r1, rfl, hx1, hr1⟩ := dec_list shRow hok1
  obtain rfl := dec_nil hr1
  obtain ⟨l1, rfl, hl1⟩ := dec_rows shAttr hx1
  obtain ⟨xs2, r2, rfl, hx2, hr2⟩ := dec_list shOp hok2
  obtain rfl := dec_nil hr2
  obtain ⟨l2, rfl, hl2⟩ := dec_ops shAttr hx2
  have hb1 : bulkLL (l1.map GRow.pv) < 1048577 := by simp only [bulkLL, bulkL, PV.bulk] at h2; omega
  have hb2 : bulkLL (l2.map GOp.pv) ≤ 1048575 := by simp only [bulkLL, bulkL, PV.bulk] at h2; omega
  obtain ⟨fuel, hrun⟩ := Go.TA.Tryd.keep_run l1 l2 (small_rows hb1 (Nat.le_refl _)) (fun x hx => (Go.TA.Tryd.smallOp_of (n := 1048576) (by have := (bulk_ops l2).1 x hx; omega) (Nat.le_refl _)).1) (by have := (bulk_ops l2).2; omega)
  have ha0 : aggT Tryd.prog 22 = false := by decide +kernel
  have ha1 : aggT Tryd.prog 23 = false := by decide +kernel
  have hargs : argsOf Tryd.prog [22, 23] [[.list (l1.map GRow.pv)], [.list (l2.map GOp.pv)]] = [.list (l1.map GRow.pv), .list (l2.map GOp.pv)] := by simp [argsOf, argOf, ha0, ha1]
  rw [hargs] at h3 h4
  refine (law_calls_at (ΓW_holds (table hL)) Go.TA.Tryd.mixed (Go.TA.Tryd.T_okW W) (ps := [.list (l1.map GRow.pv), .list (l2.map GOp.pv)]) hrun (by simpa using h3) h4).mono fun e W' ⟨he, hB⟩ => ⟨_, he, ?_⟩
  refine law_post kids full hW rfl (tb := 4) rfl (by kernel_rfl) (by rw [params]; decide +kernel) ?_ hB
  match ds, hlen with
  | [d1, d2], _ => rfl
def wargs : Array Value := #[.slice none 0 0, .slice none 0 0]
def put (k : IntKind) (zs : List Int) : Obj → Obj
  | .cells _ t frozen => .cells (zs.map fun z => Value.int k z).toArray t frozen
  | o => o
def bits32 : List Int := [0, 1, 28, 2, 29, 14, 24, 3, 30, 22, 20, 15, 25, 17, 4, 8, 31, 27, 13, 23, 21, 19, 16, 7, 26, 12, 18, 6, 11, 5, 10, 9]
def bits64 : List Int := [0, 1, 56, 2, 57, 49, 28, 3, 61, 58, 42, 50, 38, 29, 17, 4, 62, 47, 59, 36, 45, 43, 51, 22, 53, 39, 33, 30, 24, 18, 12, 5, 63, 55, 48, 27, 60, 41, 37, 16, 46, 35, 44, 21, 52, 32, 23, 11, 54, 26, 40, 15, 34, 20, 31, 10, 25, 14, 19, 9, 13, 8, 7, 6]
noncomputable def laidWorld (os : Os) : World :=
  { World.holding Tryd.prog os ⟨#[], #[], []⟩ with heap := (((World.holding Tryd.prog os ⟨#[], #[], []⟩).heap.modify 0 (put .u64 Lib.pow10Tab)).modify 2 (put .u8 bits32)).modify 3 (put .u8 bits64) }
theorem laid_met (os : Os) : laidMet Tryd.prog Rows.plainKeepsRow.laid ((laidWorld os).forCall (fun _ _ => 0) ⟨#[], wargs, []⟩).memory :=
  laidMet_of_run' 8 (by kernel_rfl) (by kernel_rfl)
theorem reads (os : Os) {H : Type} (enc : TypeId × Value → H) : ∃ places, DataW.whole enc Tryd.prog ((laidWorld os).forCall (fun _ _ => 0) ⟨#[], wargs, []⟩).memory Tryd.f3.params.toList Rows.plainKeepsSpec.vars false wargs.toList 8 = some ([.nil, .nil], [], places) :=
  ⟨[], by kernel_rfl⟩
theorem liftedUpto (os : Os) (started : os.Started) (H : Type) (enc : TypeId × Value → H) (F : Stop.Interp) :
    ReturnsInHanded {} Tryd.checked os 3 .any ((Rows.OpenSpec.upto Rows.plainKeepsSpec).preRow enc Tryd.prog Tryd.f3 Rows.plainKeepsUptoRow.domain false Rows.plainKeepsUptoRow.laid) (((Rows.OpenSpec.upto Rows.plainKeepsSpec).at F).post enc Tryd.prog Tryd.f3 false true false false) := by
  obtain ⟨places, hx⟩ := reads os enc
  refine returnsInHanded_of_row (C := Tryd.checked) (s := Rows.OpenSpec.upto Rows.plainKeepsSpec) own started (by kernel_rfl) Tryd.func3
    (witness_row_at (enc := enc) (C := Tryd.checked) false (laidWorld os) wargs rfl (by kernel_rfl) (by kernel_rfl) (by kernel_rfl)
      (OpenSpec.preRow_of_cond 8 hx (by kernel_rfl) (fun k hk => by cases hk; kernel_rfl) (by kernel_rfl) (laid_met os))) ?_
  intro W base args ds gs before hval hW _ hcond _ hL _ _
  exact contract H enc W base args ds gs before hval hW (hcond _ rfl) hL
theorem saidUpto : Rows.PlainKeepsUptoSaid :=
  OpenClaim.holds_of_cond 3 Tryd.f3 rfl rfl rfl rfl rfl rfl rfl ⟨rfl, rfl, rfl, rfl, rfl⟩ rfl rfl rfl rfl rfl (by kernel_rfl) Tryd.func3 (by kernel_rfl)
    (of_decide_eq_true (by kernel_rfl)) (by unfold Func.isWrapper; first | (rw [if_pos (by decide +kernel)]; kernel_rfl) | (rw [if_neg (by decide +kernel)]; exact ⟨rfl, rfl⟩))
    (fun os started H enc _ F => by rw [OpenClaim.pre_eq_preRow]; exact liftedUpto os started H enc F)
theorem plain (f : FuncId) (fn : Func) (hf : Tryd.pinned.checked.prog.funcNamed "tendril/tendrillaw27.PlainKeeps" = some f) (hfn : Tryd.pinned.checked.prog.funcs[f]? = some fn) :
    false = Tryd.pinned.checked.prog.looks [] ∧ ∀ (j : Nat) t, fn.params[j]? = some t → Tryd.pinned.checked.prog.wantsStandIn t = false := by
  obtain rfl : f = 3 := Option.some.inj ((show Tryd.prog.funcNamed "tendril/tendrillaw27.PlainKeeps" = some 3 by kernel_rfl).symm.trans hf) |>.symm
  obtain rfl : fn = Tryd.f3 := (Option.some.inj (Tryd.func3.symm.trans hfn)).symm
  refine ⟨by kernel_rfl, fun j t ht => ?_⟩
  have hm : t ∈ [22, 23] := by
    rw [← params]
    exact Array.mem_toList_iff.2 (Array.mem_of_getElem? ht)
  have hall : [22, 23].all (fun t => Tryd.prog.wantsStandIn t == false) = true := by kernel_rfl
  exact beq_iff_eq.1 (List.all_eq_true.1 hall t hm)
theorem holds : Rows.PlainKeepsUptoCardSaid :=
  Claim7.holds_tied_plain_at .later [] _ _ _ _ saidUpto (fun _ h => by cases h) (by kernel_rfl) (fun _ h => by cases h) plainKeepsUpto_row_tie rfl ⟨rfl, rfl⟩ (by kernel_rfl) rfl plain (by kernel_rfl)
end Go.Proofs.YtnjblmbobmbgkaaDoor.plainKeeps


end
