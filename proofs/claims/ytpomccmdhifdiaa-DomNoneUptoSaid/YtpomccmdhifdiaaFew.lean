/- The guard of most laws: whether operations are few. -/
import Derived.Test.YtpomccmdhifdiaaDec
import Derived.Test.YtpomccmdhifdiaaNoneTab
set_option linter.unusedVariables false
set_option linter.unusedSimpArgs false
set_option maxRecDepth 100000
set_option maxHeartbeats 1000000
namespace Go.TA.Try

theorem attr_get {l : List Attr} {i : Nat} {a : Attr} (h : l[i]? = some a) : (l.map Attr.pv).getD i [] = [.str a.name, .str a.value] := by
  rw [List.getD_eq_getElem?_getD, List.getElem?_map, h]; rfl
theorem few_attr {C : Calls'} {N : Nat} (x : GOp) (p0 p11 p12 : PV) (g : List AObj) (i : Nat) (a : Attr) (left : Int) (h : x.attrs[i]? = some a) (hb : x.attrs.length ≤ 1048576) (ha : a.value.length + a.name.length ≤ 1048576) (hl : -4611686018427387904 ≤ left) (hl2 : left ≤ 4611686018427387904) :
    aexec C N B7_1 ⟨[(0, .p p0), (5, .p (.int .i64 left)), (7, .ptr false 7 9 1 0 0), (11, .p p11), (12, .p p12), (46, .p (.int .i64 x.attrs.length)), (47, .p (.int .i64 i))], [(7, .pcells 9 [x.pv])], g⟩ =
      some (.normal, ⟨[(0, .p p0), (5, .p (.int .i64 (left - ((a.value.length : Int) + a.name.length).tdiv 4096))), (7, .ptr false 7 9 1 0 0), (11, .p p11), (12, .p p12), (46, .p (.int .i64 x.attrs.length)), (47, .p (.int .i64 (i + 1)))], [(7, .pcells 9 [x.pv])], g⟩) := by
  have hlt : i < x.attrs.length := (List.getElem?_eq_some_iff.1 h).1
  have h1 : (i : Int) < (x.attrs.length : Int) := by omega
  have h2 := attr_get h
  have q : 0 ≤ ((a.value.length : Int) + (a.name.length : Int)).tdiv 4096 ∧ ((a.value.length : Int) + (a.name.length : Int)).tdiv 4096 ≤ 1048576 := by
    rw [Int.tdiv_eq_ediv_of_nonneg (by omega)]; omega
  generalize hq : ((a.value.length : Int) + (a.name.length : Int)).tdiv 4096 = d at q ⊢
  obtain ⟨w1, w2, w3, w4⟩ : IntKind.i64.wrap ((a.value.length : Int) + (a.name.length : Int)) = (a.value.length : Int) + (a.name.length : Int) ∧ IntKind.i64.wrap d = d ∧ IntKind.i64.wrap (left - d) = left - d ∧ IntKind.i64.wrap ((i : Int) + 1) = (i : Int) + 1 :=
    ⟨wrap_id (by omega) (by omega), wrap_id (by omega) (by omega), wrap_id (by omega) (by omega), wrap_id (by omega) (by omega)⟩
  simp (implicitDefEqProofs := false) only [B7_1, runOps_nil, runOps_cons, bo_some, bo_none, bo_ite, be_some, be_none, be_ite, bn_some, bn_none, bn_ite, bn'_some, aexec_skip, aexec_region, aexec_seq, aexec_block, aexec_exit, aexec_ret, aexec_keep, aexec_cond, condK_bool, bs_normal, bs_ret, bs_exit, bs_none, bs_ite, bkp_some, bb_normal, bb_ret, bb_exit, bb_none, bb_ite, bl_normal, bl_ret, bl_exit, bl_none, bl_ite, br_ret, br_normal, br_none, br_ite, rr_some, m_none, m_some, m_st, m_fr, m_lo, m_p, m_own, m_bool, m_int, m_str, m_list, m_pcells, m_length, m_and, m_or, ite_self,
 enterSt, stepOp, guardK, evalOp, bk_some, bk_ite, bk_none, orBot, St.know, St.arg, St.get, lk, up, St.set, opt', List.length_cons, List.length_nil, List.range, List.range.loop, List.zip, List.zipWith, St.keep, pickL, List.map_cons, List.map_nil, List.any_cons, List.any_nil, mentions, mentionsL, AObj.mentions, bin, binI, avEq, isNil, isNilC, ptrEq, St.one, cellsEq, scalarEqK, una, ropRd, bound, okFor, noLocals, noLocal, AV.same, PV.same, AV.sameL, PV.sameL, PV.sameLL, sameAt, againEv, againG, againX, againOne, findIx, hand, view, viewT, allM, tupleOf, oneTup, resultsOf, result1, pureArg, allFlat, flat, frz, cellsAll, sameLen, appendTo, fillK, rg_some, rg_ite, rg_none, implies_true, true_implies, false_implies, Option.map_some, Option.map_none, Nat.reduceBEq, Nat.reduceAdd, Nat.reduceLeDiff, Nat.reduceLT, Bool.or_self, Bool.or_false, Bool.false_or, Bool.false_eq_true, Bool.true_eq_false, if_false, if_true, Bool.not_true, Bool.not_false, asInt, St.newObj, newOwns, St.obj, St.putObj, puress, pures, objOf, ofCells, AV.cells, AObj.rd, AObj.wr, sub, over, PV.scalarEq, reduceCtorEq, and_self, and_true, true_and, List.getD_cons_zero, List.getD_cons_succ, List.set_cons_zero, List.set_cons_succ, List.drop_zero, List.drop_succ_cons, List.take_zero, List.take_succ_cons, List.take_nil, List.drop_nil, fill, List.contains_cons, List.contains_nil, Bool.or_true, Bool.true_or, Bool.and_true, Bool.true_and, Bool.and_false, Bool.false_and, decide_true, decide_false, beq_self_eq_true, Int.toNat_natCast, Nat.reduceMul, Nat.reduceSub, Int.reduceToNat, Nat.zero_le, Nat.lt_irrefl, Nat.le_refl, not_true_eq_false, not_false_eq_true, decide_eq_true_eq, runD_nil, runD_cons', bod_some, Option.bind_some, stepD, againK, List.all_cons, List.all_nil, aexec_draw, Int.reduceBEq, Int.reduceBNe, Bool.not_eq_true', Int.reduceLT, Int.reduceLE, Int.reduceEq, Int.reduceNeg, Int.reduceAdd, Int.reduceSub, Int.reduceMul, Int.natCast_nonneg, List.getElem?_concat_length, true_or, or_true, false_or, or_false, false_and, and_false, h1, h2, GOp.pv, attrsPV, List.length_map, w1, hq, w2, w3, w4]
theorem few_attr_end {C : Calls'} {N : Nat} (x : GOp) (p0 p11 p12 : PV) (g : List AObj) (left : Int) :
    aexec C N B7_1 ⟨[(0, .p p0), (5, .p (.int .i64 left)), (7, .ptr false 7 9 1 0 0), (11, .p p11), (12, .p p12), (46, .p (.int .i64 x.attrs.length)), (47, .p (.int .i64 x.attrs.length))], [(7, .pcells 9 [x.pv])], g⟩ =
      some (.exit 2, ⟨[(0, .p p0), (5, .p (.int .i64 left)), (11, .p p11), (12, .p p12)], [], g⟩) := by
  have h1 : ¬ ((x.attrs.length : Int) < (x.attrs.length : Int)) := by omega
  simp (implicitDefEqProofs := false) only [B7_1, runOps_nil, runOps_cons, bo_some, bo_none, bo_ite, be_some, be_none, be_ite, bn_some, bn_none, bn_ite, bn'_some, aexec_skip, aexec_region, aexec_seq, aexec_block, aexec_exit, aexec_ret, aexec_keep, aexec_cond, condK_bool, bs_normal, bs_ret, bs_exit, bs_none, bs_ite, bkp_some, bb_normal, bb_ret, bb_exit, bb_none, bb_ite, bl_normal, bl_ret, bl_exit, bl_none, bl_ite, br_ret, br_normal, br_none, br_ite, rr_some, m_none, m_some, m_st, m_fr, m_lo, m_p, m_own, m_bool, m_int, m_str, m_list, m_pcells, m_length, m_and, m_or, ite_self,
 enterSt, stepOp, guardK, evalOp, bk_some, bk_ite, bk_none, orBot, St.know, St.arg, St.get, lk, up, St.set, opt', List.length_cons, List.length_nil, List.range, List.range.loop, List.zip, List.zipWith, St.keep, pickL, List.map_cons, List.map_nil, List.any_cons, List.any_nil, mentions, mentionsL, AObj.mentions, bin, binI, avEq, isNil, isNilC, ptrEq, St.one, cellsEq, scalarEqK, una, ropRd, bound, okFor, noLocals, noLocal, AV.same, PV.same, AV.sameL, PV.sameL, PV.sameLL, sameAt, againEv, againG, againX, againOne, findIx, hand, view, viewT, allM, tupleOf, oneTup, resultsOf, result1, pureArg, allFlat, flat, frz, cellsAll, sameLen, appendTo, fillK, rg_some, rg_ite, rg_none, implies_true, true_implies, false_implies, Option.map_some, Option.map_none, Nat.reduceBEq, Nat.reduceAdd, Nat.reduceLeDiff, Nat.reduceLT, Bool.or_self, Bool.or_false, Bool.false_or, Bool.false_eq_true, Bool.true_eq_false, if_false, if_true, Bool.not_true, Bool.not_false, asInt, St.newObj, newOwns, St.obj, St.putObj, puress, pures, objOf, ofCells, AV.cells, AObj.rd, AObj.wr, sub, over, PV.scalarEq, reduceCtorEq, and_self, and_true, true_and, List.getD_cons_zero, List.getD_cons_succ, List.set_cons_zero, List.set_cons_succ, List.drop_zero, List.drop_succ_cons, List.take_zero, List.take_succ_cons, List.take_nil, List.drop_nil, fill, List.contains_cons, List.contains_nil, Bool.or_true, Bool.true_or, Bool.and_true, Bool.true_and, Bool.and_false, Bool.false_and, decide_true, decide_false, beq_self_eq_true, Int.toNat_natCast, Nat.reduceMul, Nat.reduceSub, Int.reduceToNat, Nat.zero_le, Nat.lt_irrefl, Nat.le_refl, not_true_eq_false, not_false_eq_true, decide_eq_true_eq, runD_nil, runD_cons', bod_some, Option.bind_some, stepD, againK, List.all_cons, List.all_nil, aexec_draw, Int.reduceBEq, Int.reduceBNe, Bool.not_eq_true', Int.reduceLT, Int.reduceLE, Int.reduceEq, Int.reduceNeg, Int.reduceAdd, Int.reduceSub, Int.reduceMul, Int.natCast_nonneg, List.getElem?_concat_length, true_or, or_true, false_or, or_false, false_and, and_false, h1]
/-- Attributes that are not too great. -/
def smallAttrs (l : List Attr) : Prop := ∀ a ∈ l, a.value.length + a.name.length ≤ 1048576
theorem few_attrs {C : Calls'} {N : Nat} (x : GOp) (p0 p11 p12 : PV) (g : List AObj) (hb : x.attrs.length ≤ 1048576) (hs : smallAttrs x.attrs) (rest : List Attr) : ∀ (pre : List Attr) (m : Nat) (left : Int), x.attrs = pre ++ rest → rest.length < m →
    -4611686018427387904 + 1048576 * (rest.length : Int) ≤ left → left ≤ 4611686018427387904 →
    aloop C N B7_1 m ⟨[(0, .p p0), (5, .p (.int .i64 left)), (7, .ptr false 7 9 1 0 0), (11, .p p11), (12, .p p12), (46, .p (.int .i64 x.attrs.length)), (47, .p (.int .i64 pre.length))], [(7, .pcells 9 [x.pv])], g⟩ =
      some (.exit 2, ⟨[(0, .p p0), (5, .p (.int .i64 (attrsLeft rest left))), (11, .p p11), (12, .p p12)], [], g⟩) := by
  induction rest with
  | nil =>
    intro pre m left hd hm h1 h2
    obtain ⟨m, rfl⟩ : ∃ k, m = k + 1 := ⟨m - 1, by simp at hm; omega⟩
    have e : pre.length = x.attrs.length := by rw [hd]; simp
    rw [e, aloop_succ, few_attr_end, bl_exit]; rfl
  | cons a rest ih =>
    intro pre m left hd hm h1 h2
    obtain ⟨m, rfl⟩ : ∃ k, m = k + 1 := ⟨m - 1, by simp at hm; omega⟩
    have hget : x.attrs[pre.length]? = some a := by rw [hd]; simp
    have hmem : a ∈ x.attrs := List.mem_of_getElem? hget
    simp only [List.length_cons, Int.natCast_add, Int.natCast_one] at hm h1
    have q : 0 ≤ ((a.value.length : Int) + (a.name.length : Int)).tdiv 4096 ∧ ((a.value.length : Int) + (a.name.length : Int)).tdiv 4096 ≤ 1048576 := by
      have := hs a hmem
      rw [Int.tdiv_eq_ediv_of_nonneg (by omega)]; omega
    rw [aloop_succ, few_attr x p0 p11 p12 g pre.length a left hget hb (hs a hmem) (by omega) h2, bl_normal]
    have := ih (pre ++ [a]) m (left - ((a.value.length : Int) + a.name.length).tdiv 4096) (by rw [hd]; simp) (by omega) (by omega) (by omega)
    rw [List.length_append, Int.natCast_add] at this
    exact this
theorem few_attrs0 {C : Calls'} {N : Nat} (x : GOp) (p0 p11 p12 : PV) (g : List AObj) (hb : x.attrs.length ≤ 1048576) (hs : smallAttrs x.attrs) (hN : x.attrs.length < N) {left : Int} (h1 : -4611686018427387904 + 1048576 * (x.attrs.length : Int) ≤ left) (h2 : left ≤ 4611686018427387904) :
    aexec C N (.loop B7_1) ⟨[(0, .p p0), (5, .p (.int .i64 left)), (7, .ptr false 7 9 1 0 0), (11, .p p11), (12, .p p12), (46, .p (.int .i64 x.attrs.length)), (47, .p (.int .i64 0))], [(7, .pcells 9 [x.pv])], g⟩ =
      some (.exit 2, ⟨[(0, .p p0), (5, .p (.int .i64 (attrsLeft x.attrs left))), (11, .p p11), (12, .p p12)], [], g⟩) := by
  rw [aexec_loop]
  exact few_attrs x p0 p11 p12 g hb hs x.attrs [] N left rfl hN h1 h2
def smallOp (x : GOp) : Prop := x.attrs.length ≤ 1048576 ∧ smallAttrs x.attrs ∧ x.text.length + x.key.length + x.tag.length + x.name.length ≤ 1048576
theorem smallOp_of {x : GOp} {n : Nat} (h : bulkL x.pv ≤ n) (hn : n ≤ 1048576) : smallOp x ∧ x.attrs.length < n := by
  rw [bulk_op] at h
  obtain ⟨h1, h2⟩ := bulk_attrs x.attrs
  refine ⟨⟨by omega, fun a ha => by have := h1 a ha; omega, by omega⟩, by omega⟩
theorem attrsLeft_bound (l : List Attr) (hs : smallAttrs l) : ∀ left : Int, left - 1048576 * (l.length : Int) ≤ attrsLeft l left ∧ attrsLeft l left ≤ left := by
  induction l with
  | nil => intro left; simp [attrsLeft]
  | cons a l ih =>
    intro left
    have ha := hs a (by simp)
    have q : 0 ≤ ((a.value.length : Int) + (a.name.length : Int)).tdiv 4096 ∧ ((a.value.length : Int) + (a.name.length : Int)).tdiv 4096 ≤ 1048576 := by
      rw [Int.tdiv_eq_ediv_of_nonneg (by omega)]; omega
    obtain ⟨z1, z2⟩ := ih (fun b hb => hs b (by simp [hb])) (left - ((a.value.length : Int) + a.name.length).tdiv 4096)
    simp only [attrsLeft, List.length_cons, Int.natCast_add, Int.natCast_one]
    constructor <;> omega
theorem op_get {l : List GOp} {i : Nat} {x : GOp} (h : l[i]? = some x) : (l.map GOp.pv).getD i [] = x.pv := by
  rw [List.getD_eq_getElem?_getD, List.getElem?_map, h]; rfl
def fewCost (x : GOp) : Int := ((x.text.length : Int) + x.key.length + x.tag.length + x.name.length).tdiv 4096
theorem fewCost_bound {x : GOp} (h : smallOp x) : 0 ≤ fewCost x ∧ fewCost x ≤ 1048576 := by
  have := h.2.2
  unfold fewCost
  rw [Int.tdiv_eq_ediv_of_nonneg (by omega)]; omega
theorem few_op {C : Calls'} {N : Nat} (l : List GOp) (g : List AObj) (i : Nat) (x : GOp) (left : Int) (h : l[i]? = some x) (hx : smallOp x) (hN : x.attrs.length < N) (hlen : l.length ≤ 1048576) (hl : -1099511627776 ≤ left) (hl2 : left ≤ 1099511627776) :
    aexec C N B7_0 ⟨[(0, .p (.list (l.map GOp.pv))), (5, .p (.int .i64 left)), (11, .p (.int .i64 l.length)), (12, .p (.int .i64 i))], [], g⟩ =
      if left - 1 - x.attrs.length - fewCost x < 0 then some (.ret, ⟨[(4, .p (.bool false))], [], g⟩) else
      some (.normal, ⟨[(0, .p (.list (l.map GOp.pv))), (5, .p (.int .i64 (attrsLeft x.attrs (left - 1 - x.attrs.length - fewCost x)))), (11, .p (.int .i64 l.length)), (12, .p (.int .i64 (i + 1)))], [], g⟩) := by
  have hlt : i < l.length := (List.getElem?_eq_some_iff.1 h).1
  have h1 : (i : Int) < (l.length : Int) := by omega
  have h2 := op_get h
  obtain ⟨b1, b2, b3⟩ := hx
  have q := fewCost_bound (x := x) ⟨b1, b2, b3⟩
  have hq : ((x.text.length : Int) + x.key.length + x.tag.length + x.name.length).tdiv 4096 = fewCost x := rfl
  generalize fewCost x = d at q hq ⊢
  obtain ⟨w1, w2, w3, w4, w5, w6, w7, w8⟩ : IntKind.i64.wrap ((x.text.length : Int) + x.key.length) = (x.text.length : Int) + x.key.length ∧ IntKind.i64.wrap ((x.text.length : Int) + x.key.length + x.tag.length) = (x.text.length : Int) + x.key.length + x.tag.length ∧
      IntKind.i64.wrap ((x.text.length : Int) + x.key.length + x.tag.length + x.name.length) = (x.text.length : Int) + x.key.length + x.tag.length + x.name.length ∧ IntKind.i64.wrap d = d ∧ IntKind.i64.wrap (left - 1) = left - 1 ∧
      IntKind.i64.wrap (left - 1 - x.attrs.length) = left - 1 - x.attrs.length ∧ IntKind.i64.wrap (left - 1 - x.attrs.length - d) = left - 1 - x.attrs.length - d ∧ IntKind.i64.wrap ((i : Int) + 1) = (i : Int) + 1 :=
    ⟨wrap_id (by omega) (by omega), wrap_id (by omega) (by omega), wrap_id (by omega) (by omega), wrap_id (by omega) (by omega), wrap_id (by omega) (by omega), wrap_id (by omega) (by omega), wrap_id (by omega) (by omega), wrap_id (by omega) (by omega)⟩
  have hloop := few_attrs0 (C := C) (N := N) x (.list (l.map GOp.pv)) (.int .i64 l.length) (.int .i64 i) g b1 b2 hN (left := left - 1 - x.attrs.length - d) (by omega) (by omega)
  by_cases hneg : left - 1 - x.attrs.length - d < 0
  · simp (implicitDefEqProofs := false) only [B7_0, runOps_nil, runOps_cons, bo_some, bo_none, bo_ite, be_some, be_none, be_ite, bn_some, bn_none, bn_ite, bn'_some, aexec_skip, aexec_region, aexec_seq, aexec_block, aexec_exit, aexec_ret, aexec_keep, aexec_cond, condK_bool, bs_normal, bs_ret, bs_exit, bs_none, bs_ite, bkp_some, bb_normal, bb_ret, bb_exit, bb_none, bb_ite, bl_normal, bl_ret, bl_exit, bl_none, bl_ite, br_ret, br_normal, br_none, br_ite, rr_some, m_none, m_some, m_st, m_fr, m_lo, m_p, m_own, m_bool, m_int, m_str, m_list, m_pcells, m_length, m_and, m_or, ite_self,
 enterSt, stepOp, guardK, evalOp, bk_some, bk_ite, bk_none, orBot, St.know, St.arg, St.get, lk, up, St.set, opt', List.length_cons, List.length_nil, List.range, List.range.loop, List.zip, List.zipWith, St.keep, pickL, List.map_cons, List.map_nil, List.any_cons, List.any_nil, mentions, mentionsL, AObj.mentions, bin, binI, avEq, isNil, isNilC, ptrEq, St.one, cellsEq, scalarEqK, una, ropRd, bound, okFor, noLocals, noLocal, AV.same, PV.same, AV.sameL, PV.sameL, PV.sameLL, sameAt, againEv, againG, againX, againOne, findIx, hand, view, viewT, allM, tupleOf, oneTup, resultsOf, result1, pureArg, allFlat, flat, frz, cellsAll, sameLen, appendTo, fillK, rg_some, rg_ite, rg_none, implies_true, true_implies, false_implies, Option.map_some, Option.map_none, Nat.reduceBEq, Nat.reduceAdd, Nat.reduceLeDiff, Nat.reduceLT, Bool.or_self, Bool.or_false, Bool.false_or, Bool.false_eq_true, Bool.true_eq_false, if_false, if_true, Bool.not_true, Bool.not_false, asInt, St.newObj, newOwns, St.obj, St.putObj, puress, pures, objOf, ofCells, AV.cells, AObj.rd, AObj.wr, sub, over, PV.scalarEq, reduceCtorEq, and_self, and_true, true_and, List.getD_cons_zero, List.getD_cons_succ, List.set_cons_zero, List.set_cons_succ, List.drop_zero, List.drop_succ_cons, List.take_zero, List.take_succ_cons, List.take_nil, List.drop_nil, fill, List.contains_cons, List.contains_nil, Bool.or_true, Bool.true_or, Bool.and_true, Bool.true_and, Bool.and_false, Bool.false_and, decide_true, decide_false, beq_self_eq_true, Int.toNat_natCast, Nat.reduceMul, Nat.reduceSub, Int.reduceToNat, Nat.zero_le, Nat.lt_irrefl, Nat.le_refl, not_true_eq_false, not_false_eq_true, decide_eq_true_eq, runD_nil, runD_cons', bod_some, Option.bind_some, stepD, againK, List.all_cons, List.all_nil, aexec_draw, Int.reduceBEq, Int.reduceBNe, Bool.not_eq_true', Int.reduceLT, Int.reduceLE, Int.reduceEq, Int.reduceNeg, Int.reduceAdd, Int.reduceSub, Int.reduceMul, Int.natCast_nonneg, List.getElem?_concat_length, true_or, or_true, false_or, or_false, false_and, and_false, h1, h2, GOp.pv, attrsPV, List.length_map, w1, hq, w2, w3, w4, w5, w6, w7, hneg]
  · simp only [GOp.pv, attrsPV] at hloop
    simp (implicitDefEqProofs := false) only [B7_0, runOps_nil, runOps_cons, bo_some, bo_none, bo_ite, be_some, be_none, be_ite, bn_some, bn_none, bn_ite, bn'_some, aexec_skip, aexec_region, aexec_seq, aexec_block, aexec_exit, aexec_ret, aexec_keep, aexec_cond, condK_bool, bs_normal, bs_ret, bs_exit, bs_none, bs_ite, bkp_some, bb_normal, bb_ret, bb_exit, bb_none, bb_ite, bl_normal, bl_ret, bl_exit, bl_none, bl_ite, br_ret, br_normal, br_none, br_ite, rr_some, m_none, m_some, m_st, m_fr, m_lo, m_p, m_own, m_bool, m_int, m_str, m_list, m_pcells, m_length, m_and, m_or, ite_self,
 enterSt, stepOp, guardK, evalOp, bk_some, bk_ite, bk_none, orBot, St.know, St.arg, St.get, lk, up, St.set, opt', List.length_cons, List.length_nil, List.range, List.range.loop, List.zip, List.zipWith, St.keep, pickL, List.map_cons, List.map_nil, List.any_cons, List.any_nil, mentions, mentionsL, AObj.mentions, bin, binI, avEq, isNil, isNilC, ptrEq, St.one, cellsEq, scalarEqK, una, ropRd, bound, okFor, noLocals, noLocal, AV.same, PV.same, AV.sameL, PV.sameL, PV.sameLL, sameAt, againEv, againG, againX, againOne, findIx, hand, view, viewT, allM, tupleOf, oneTup, resultsOf, result1, pureArg, allFlat, flat, frz, cellsAll, sameLen, appendTo, fillK, rg_some, rg_ite, rg_none, implies_true, true_implies, false_implies, Option.map_some, Option.map_none, Nat.reduceBEq, Nat.reduceAdd, Nat.reduceLeDiff, Nat.reduceLT, Bool.or_self, Bool.or_false, Bool.false_or, Bool.false_eq_true, Bool.true_eq_false, if_false, if_true, Bool.not_true, Bool.not_false, asInt, St.newObj, newOwns, St.obj, St.putObj, puress, pures, objOf, ofCells, AV.cells, AObj.rd, AObj.wr, sub, over, PV.scalarEq, reduceCtorEq, and_self, and_true, true_and, List.getD_cons_zero, List.getD_cons_succ, List.set_cons_zero, List.set_cons_succ, List.drop_zero, List.drop_succ_cons, List.take_zero, List.take_succ_cons, List.take_nil, List.drop_nil, fill, List.contains_cons, List.contains_nil, Bool.or_true, Bool.true_or, Bool.and_true, Bool.true_and, Bool.and_false, Bool.false_and, decide_true, decide_false, beq_self_eq_true, Int.toNat_natCast, Nat.reduceMul, Nat.reduceSub, Int.reduceToNat, Nat.zero_le, Nat.lt_irrefl, Nat.le_refl, not_true_eq_false, not_false_eq_true, decide_eq_true_eq, runD_nil, runD_cons', bod_some, Option.bind_some, stepD, againK, List.all_cons, List.all_nil, aexec_draw, Int.reduceBEq, Int.reduceBNe, Bool.not_eq_true', Int.reduceLT, Int.reduceLE, Int.reduceEq, Int.reduceNeg, Int.reduceAdd, Int.reduceSub, Int.reduceMul, Int.natCast_nonneg, List.getElem?_concat_length, true_or, or_true, false_or, or_false, false_and, and_false, h1, h2, GOp.pv, attrsPV, List.length_map, w1, hq, w2, w3, w4, w5, w6, w7, w8, hneg, hloop]
/-- A result that ends the loop, or what is left. -/
def fewEnd (r : Option Int) (l : PV) (n : Int) (g : List AObj) : Ex × St := match r with
  | none => (.ret, ⟨[(4, .p (.bool false))], [], g⟩)
  | some left => (.exit 0, ⟨[(5, .p (.int .i64 left))], [], g⟩)
theorem few_op_end {C : Calls'} {N : Nat} (l : List GOp) (g : List AObj) (left : Int) :
    aexec C N B7_0 ⟨[(0, .p (.list (l.map GOp.pv))), (5, .p (.int .i64 left)), (11, .p (.int .i64 l.length)), (12, .p (.int .i64 l.length))], [], g⟩ = some (.exit 0, ⟨[(5, .p (.int .i64 left))], [], g⟩) := by
  have h1 : ¬ ((l.length : Int) < (l.length : Int)) := by omega
  simp (implicitDefEqProofs := false) only [B7_0, runOps_nil, runOps_cons, bo_some, bo_none, bo_ite, be_some, be_none, be_ite, bn_some, bn_none, bn_ite, bn'_some, aexec_skip, aexec_region, aexec_seq, aexec_block, aexec_exit, aexec_ret, aexec_keep, aexec_cond, condK_bool, bs_normal, bs_ret, bs_exit, bs_none, bs_ite, bkp_some, bb_normal, bb_ret, bb_exit, bb_none, bb_ite, bl_normal, bl_ret, bl_exit, bl_none, bl_ite, br_ret, br_normal, br_none, br_ite, rr_some, m_none, m_some, m_st, m_fr, m_lo, m_p, m_own, m_bool, m_int, m_str, m_list, m_pcells, m_length, m_and, m_or, ite_self,
 enterSt, stepOp, guardK, evalOp, bk_some, bk_ite, bk_none, orBot, St.know, St.arg, St.get, lk, up, St.set, opt', List.length_cons, List.length_nil, List.range, List.range.loop, List.zip, List.zipWith, St.keep, pickL, List.map_cons, List.map_nil, List.any_cons, List.any_nil, mentions, mentionsL, AObj.mentions, bin, binI, avEq, isNil, isNilC, ptrEq, St.one, cellsEq, scalarEqK, una, ropRd, bound, okFor, noLocals, noLocal, AV.same, PV.same, AV.sameL, PV.sameL, PV.sameLL, sameAt, againEv, againG, againX, againOne, findIx, hand, view, viewT, allM, tupleOf, oneTup, resultsOf, result1, pureArg, allFlat, flat, frz, cellsAll, sameLen, appendTo, fillK, rg_some, rg_ite, rg_none, implies_true, true_implies, false_implies, Option.map_some, Option.map_none, Nat.reduceBEq, Nat.reduceAdd, Nat.reduceLeDiff, Nat.reduceLT, Bool.or_self, Bool.or_false, Bool.false_or, Bool.false_eq_true, Bool.true_eq_false, if_false, if_true, Bool.not_true, Bool.not_false, asInt, St.newObj, newOwns, St.obj, St.putObj, puress, pures, objOf, ofCells, AV.cells, AObj.rd, AObj.wr, sub, over, PV.scalarEq, reduceCtorEq, and_self, and_true, true_and, List.getD_cons_zero, List.getD_cons_succ, List.set_cons_zero, List.set_cons_succ, List.drop_zero, List.drop_succ_cons, List.take_zero, List.take_succ_cons, List.take_nil, List.drop_nil, fill, List.contains_cons, List.contains_nil, Bool.or_true, Bool.true_or, Bool.and_true, Bool.true_and, Bool.and_false, Bool.false_and, decide_true, decide_false, beq_self_eq_true, Int.toNat_natCast, Nat.reduceMul, Nat.reduceSub, Int.reduceToNat, Nat.zero_le, Nat.lt_irrefl, Nat.le_refl, not_true_eq_false, not_false_eq_true, decide_eq_true_eq, runD_nil, runD_cons', bod_some, Option.bind_some, stepD, againK, List.all_cons, List.all_nil, aexec_draw, Int.reduceBEq, Int.reduceBNe, Bool.not_eq_true', Int.reduceLT, Int.reduceLE, Int.reduceEq, Int.reduceNeg, Int.reduceAdd, Int.reduceSub, Int.reduceMul, Int.natCast_nonneg, List.getElem?_concat_length, true_or, or_true, false_or, or_false, false_and, and_false, h1]
theorem few_ops {C : Calls'} {N : Nat} (l : List GOp) (g : List AObj) (hs : ∀ x ∈ l, smallOp x ∧ x.attrs.length < N) (hlen : l.length ≤ 1048576) (rest : List GOp) : ∀ (pre : List GOp) (m : Nat) (left : Int), l = pre ++ rest → rest.length < m → (pre ≠ [] → 0 ≤ left + 1099511627776) → -1099511627776 ≤ left → left ≤ 1000000 →
    aloop C N B7_0 m ⟨[(0, .p (.list (l.map GOp.pv))), (5, .p (.int .i64 left)), (11, .p (.int .i64 l.length)), (12, .p (.int .i64 pre.length))], [], g⟩ = some (fewEnd (fewOpsL rest left) (.list (l.map GOp.pv)) l.length g) := by
  induction rest with
  | nil =>
    intro pre m left hd hm _ h1 h2
    obtain ⟨m, rfl⟩ : ∃ k, m = k + 1 := ⟨m - 1, by simp at hm; omega⟩
    have e : pre.length = l.length := by rw [hd]; simp
    rw [e, aloop_succ, few_op_end, bl_exit]; rfl
  | cons x rest ih =>
    intro pre m left hd hm _ h1 h2
    obtain ⟨m, rfl⟩ : ∃ k, m = k + 1 := ⟨m - 1, by simp at hm; omega⟩
    have hget : l[pre.length]? = some x := by rw [hd]; simp
    have hmem : x ∈ l := List.mem_of_getElem? hget
    obtain ⟨hx, hN⟩ := hs x hmem
    rw [aloop_succ, few_op l g pre.length x left hget hx hN hlen (by omega) (by omega)]
    have hc : fewOpsL (x :: rest) left = if left - 1 - x.attrs.length - fewCost x < 0 then none else fewOpsL rest (attrsLeft x.attrs (left - 1 - x.attrs.length - fewCost x)) := rfl
    rw [hc]
    have q := fewCost_bound hx
    by_cases hneg : left - 1 - x.attrs.length - fewCost x < 0
    · rw [if_pos hneg, if_pos hneg, bl_ret]; rfl
    · rw [if_neg hneg, if_neg hneg, bl_normal]
      have hb := attrsLeft_bound x.attrs hx.2.1 (left - 1 - x.attrs.length - fewCost x)
      have hb2 : (x.attrs.length : Int) ≤ 1000000 := by omega
      simp only [List.length_cons] at hm
      have := ih (pre ++ [x]) m (attrsLeft x.attrs (left - 1 - x.attrs.length - fewCost x)) (by rw [hd]; simp) (by omega) (by omega) (by omega) (by omega)
      rw [List.length_append, Int.natCast_add] at this
      exact this
theorem few_run (l : List GOp) (most : Int) (g : List AObj) {n : Nat} (hs : ∀ x ∈ l, smallOp x ∧ x.attrs.length < n) (hlen : l.length ≤ 1048576) (hn : l.length < n) (h1 : 0 ≤ most) (h2 : most ≤ 1000000) :
    acall T (n + 1) 7 [.p (.list (l.map GOp.pv)), .p (.int .i64 most)] g = some (.p (.bool (fewOps l most)), g) := by
  rw [acall_code T7, run_pure rfl rfl rfl]
  have hloop := few_ops (C := acall T n) (N := n) l [] hs hlen l [] n most rfl hn (by simp) (by omega) (by omega)
  rw [← aexec_loop] at hloop
  cases hr : fewOpsL l most with
  | none =>
    rw [hr] at hloop
    simp (implicitDefEqProofs := false) only [F7, fewEnd, List.length_nil, Int.natCast_zero] at hloop ⊢
    simp (implicitDefEqProofs := false) only [runOps_nil, runOps_cons, bo_some, bo_none, bo_ite, be_some, be_none, be_ite, bn_some, bn_none, bn_ite, bn'_some, aexec_skip, aexec_region, aexec_seq, aexec_block, aexec_exit, aexec_ret, aexec_keep, aexec_cond, condK_bool, bs_normal, bs_ret, bs_exit, bs_none, bs_ite, bkp_some, bb_normal, bb_ret, bb_exit, bb_none, bb_ite, bl_normal, bl_ret, bl_exit, bl_none, bl_ite, br_ret, br_normal, br_none, br_ite, rr_some, m_none, m_some, m_st, m_fr, m_lo, m_p, m_own, m_bool, m_int, m_str, m_list, m_pcells, m_length, m_and, m_or, ite_self,
 enterSt, stepOp, guardK, evalOp, bk_some, bk_ite, bk_none, orBot, St.know, St.arg, St.get, lk, up, St.set, opt', List.length_cons, List.length_nil, List.range, List.range.loop, List.zip, List.zipWith, St.keep, pickL, List.map_cons, List.map_nil, List.any_cons, List.any_nil, mentions, mentionsL, AObj.mentions, bin, binI, avEq, isNil, isNilC, ptrEq, St.one, cellsEq, scalarEqK, una, ropRd, bound, okFor, noLocals, noLocal, AV.same, PV.same, AV.sameL, PV.sameL, PV.sameLL, sameAt, againEv, againG, againX, againOne, findIx, hand, view, viewT, allM, tupleOf, oneTup, resultsOf, result1, pureArg, allFlat, flat, frz, cellsAll, sameLen, appendTo, fillK, rg_some, rg_ite, rg_none, implies_true, true_implies, false_implies, Option.map_some, Option.map_none, Nat.reduceBEq, Nat.reduceAdd, Nat.reduceLeDiff, Nat.reduceLT, Bool.or_self, Bool.or_false, Bool.false_or, Bool.false_eq_true, Bool.true_eq_false, if_false, if_true, Bool.not_true, Bool.not_false, asInt, St.newObj, newOwns, St.obj, St.putObj, puress, pures, objOf, ofCells, AV.cells, AObj.rd, AObj.wr, sub, over, PV.scalarEq, reduceCtorEq, and_self, and_true, true_and, List.getD_cons_zero, List.getD_cons_succ, List.set_cons_zero, List.set_cons_succ, List.drop_zero, List.drop_succ_cons, List.take_zero, List.take_succ_cons, List.take_nil, List.drop_nil, fill, List.contains_cons, List.contains_nil, Bool.or_true, Bool.true_or, Bool.and_true, Bool.true_and, Bool.and_false, Bool.false_and, decide_true, decide_false, beq_self_eq_true, Int.toNat_natCast, Nat.reduceMul, Nat.reduceSub, Int.reduceToNat, Nat.zero_le, Nat.lt_irrefl, Nat.le_refl, not_true_eq_false, not_false_eq_true, decide_eq_true_eq, runD_nil, runD_cons', bod_some, Option.bind_some, stepD, againK, List.all_cons, List.all_nil, aexec_draw, Int.reduceBEq, Int.reduceBNe, Bool.not_eq_true', Int.reduceLT, Int.reduceLE, Int.reduceEq, Int.reduceNeg, Int.reduceAdd, Int.reduceSub, Int.reduceMul, Int.natCast_nonneg, List.getElem?_concat_length, true_or, or_true, false_or, or_false, false_and, and_false, List.length_map, hloop, fewOps, hr]
  | some left =>
    rw [hr] at hloop
    simp (implicitDefEqProofs := false) only [F7, fewEnd, List.length_nil, Int.natCast_zero] at hloop ⊢
    simp (implicitDefEqProofs := false) only [runOps_nil, runOps_cons, bo_some, bo_none, bo_ite, be_some, be_none, be_ite, bn_some, bn_none, bn_ite, bn'_some, aexec_skip, aexec_region, aexec_seq, aexec_block, aexec_exit, aexec_ret, aexec_keep, aexec_cond, condK_bool, bs_normal, bs_ret, bs_exit, bs_none, bs_ite, bkp_some, bb_normal, bb_ret, bb_exit, bb_none, bb_ite, bl_normal, bl_ret, bl_exit, bl_none, bl_ite, br_ret, br_normal, br_none, br_ite, rr_some, m_none, m_some, m_st, m_fr, m_lo, m_p, m_own, m_bool, m_int, m_str, m_list, m_pcells, m_length, m_and, m_or, ite_self,
 enterSt, stepOp, guardK, evalOp, bk_some, bk_ite, bk_none, orBot, St.know, St.arg, St.get, lk, up, St.set, opt', List.length_cons, List.length_nil, List.range, List.range.loop, List.zip, List.zipWith, St.keep, pickL, List.map_cons, List.map_nil, List.any_cons, List.any_nil, mentions, mentionsL, AObj.mentions, bin, binI, avEq, isNil, isNilC, ptrEq, St.one, cellsEq, scalarEqK, una, ropRd, bound, okFor, noLocals, noLocal, AV.same, PV.same, AV.sameL, PV.sameL, PV.sameLL, sameAt, againEv, againG, againX, againOne, findIx, hand, view, viewT, allM, tupleOf, oneTup, resultsOf, result1, pureArg, allFlat, flat, frz, cellsAll, sameLen, appendTo, fillK, rg_some, rg_ite, rg_none, implies_true, true_implies, false_implies, Option.map_some, Option.map_none, Nat.reduceBEq, Nat.reduceAdd, Nat.reduceLeDiff, Nat.reduceLT, Bool.or_self, Bool.or_false, Bool.false_or, Bool.false_eq_true, Bool.true_eq_false, if_false, if_true, Bool.not_true, Bool.not_false, asInt, St.newObj, newOwns, St.obj, St.putObj, puress, pures, objOf, ofCells, AV.cells, AObj.rd, AObj.wr, sub, over, PV.scalarEq, reduceCtorEq, and_self, and_true, true_and, List.getD_cons_zero, List.getD_cons_succ, List.set_cons_zero, List.set_cons_succ, List.drop_zero, List.drop_succ_cons, List.take_zero, List.take_succ_cons, List.take_nil, List.drop_nil, fill, List.contains_cons, List.contains_nil, Bool.or_true, Bool.true_or, Bool.and_true, Bool.true_and, Bool.and_false, Bool.false_and, decide_true, decide_false, beq_self_eq_true, Int.toNat_natCast, Nat.reduceMul, Nat.reduceSub, Int.reduceToNat, Nat.zero_le, Nat.lt_irrefl, Nat.le_refl, not_true_eq_false, not_false_eq_true, decide_eq_true_eq, runD_nil, runD_cons', bod_some, Option.bind_some, stepD, againK, List.all_cons, List.all_nil, aexec_draw, Int.reduceBEq, Int.reduceBNe, Bool.not_eq_true', Int.reduceLT, Int.reduceLE, Int.reduceEq, Int.reduceNeg, Int.reduceAdd, Int.reduceSub, Int.reduceMul, Int.natCast_nonneg, List.getElem?_concat_length, true_or, or_true, false_or, or_false, false_and, and_false, List.length_map, hloop, fewOps, hr]
end Go.TA.Try
