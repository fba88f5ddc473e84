/- AuditLinks: what both compute is the same. -/
import Derived.Test.YtpomccmdhifdiaaLinksRun
import Derived.KernelRfl
set_option linter.unusedVariables false
set_option linter.unusedSimpArgs false
set_option maxRecDepth 100000
set_option maxHeartbeats 8000000
namespace Go.TA.Try
open Go.TA.Near
mutual
theorem same_self : ∀ v : PV, PV.same v v = true
  | .bool a => by simp [PV.same]
  | .int k a => by simp [PV.same]
  | .str a => by simp [PV.same]
  | .nilp | .nilm | .nilf | .nili => by simp [PV.same]
  | .list l => by simp only [PV.same]; exact sameLL_self l
  | .agg l => by simp only [PV.same]; exact sameL_self l
theorem sameL_self : ∀ l : List PV, PV.sameL l l = true
  | [] => by simp [PV.sameL]
  | a :: l => by simp only [PV.sameL, same_self a, sameL_self l]; rfl
theorem sameLL_self : ∀ l : List (List PV), PV.sameLL l l = true
  | [] => by simp [PV.sameLL]
  | a :: l => by simp only [PV.sameLL, sameL_self a, sameLL_self l]; rfl
end
section
variable (n : Nat) (a b c d e : Nat → Int) (i : Nat)
theorem fget {n : Nat} {i : Nat} (h : i < n) : (fives n a b c d e).getD i [] = [.int .i64 (a i), .int .i64 (b i), .int .i64 (c i), .int .i64 (d i), .int .i64 (e i)] := fives_get h
theorem fset0 (v : Int) : (fives n a b c d e).set i [.int .i64 v, .int .i64 (b i), .int .i64 (c i), .int .i64 (d i), .int .i64 (e i)] = fives n (upd a i v) b c d e := fives_set0 ..
theorem fset1 (v : Int) : (fives n a b c d e).set i [.int .i64 (a i), .int .i64 v, .int .i64 (c i), .int .i64 (d i), .int .i64 (e i)] = fives n a (upd b i v) c d e := fives_set1 ..
theorem fset2 (v : Int) : (fives n a b c d e).set i [.int .i64 (a i), .int .i64 (b i), .int .i64 v, .int .i64 (d i), .int .i64 (e i)] = fives n a b (upd c i v) d e := fives_set2 ..
theorem fset3 (v : Int) : (fives n a b c d e).set i [.int .i64 (a i), .int .i64 (b i), .int .i64 (c i), .int .i64 v, .int .i64 (e i)] = fives n a b c (upd d i v) e := fives_set3 ..
theorem fset4 (v : Int) : (fives n a b c d e).set i [.int .i64 (a i), .int .i64 (b i), .int .i64 (c i), .int .i64 (d i), .int .i64 v] = fives n a b c d (upd e i v) := fives_set4 ..
theorem fsetAll (v w x y z : Int) : (fives n a b c d e).set i [.int .i64 v, .int .i64 w, .int .i64 x, .int .i64 y, .int .i64 z] = fives n (upd a i v) (upd b i w) (upd c i x) (upd d i y) (upd e i z) := fives_setAll ..
end
theorem upd_upd (f : Nat → Int) (i : Nat) (v w : Int) : upd (upd f i v) i w = upd f i w := by
  funext s; unfold upd; split <;> rfl
def minus (i : Nat) (s : Nat) : Int := if s < i then -1 else 0
theorem minus_step (i : Nat) : upd (minus i) i (-1) = minus (i + 1) := by
  funext s; unfold upd minus
  by_cases h : s = i
  · subst h; simp
  · have : (s < i + 1) = (s < i) := by apply propext; omega
    simp [h, this]
theorem minus_zero : minus 0 = fun _ => 0 := by funext s; simp [minus]
def linkRows (l : List GRow) (i : Nat) : List (List PV) := fives (l.length + 1) (upAt l i) (firstAt l i) (lastAt l i) (prevAt l i) (nextAt l i)
theorem fives_congr {n : Nat} {a b c d e a' b' c' d' e' : Nat → Int} (h : ∀ s, s < n → a s = a' s ∧ b s = b' s ∧ c s = c' s ∧ d s = d' s ∧ e s = e' s) : fives n a b c d e = fives n a' b' c' d' e' := by
  unfold fives
  refine List.map_congr_left fun s hs => ?_
  obtain ⟨h1, h2, h3, h4, h5⟩ := h s (by simpa using hs)
  rw [h1, h2, h3, h4, h5]
theorem linkRows_zero (l : List GRow) : fives (l.length + 1) (minus (l.length + 1)) (minus (l.length + 1)) (minus (l.length + 1)) (minus (l.length + 1)) (minus (l.length + 1)) = linkRows l 0 := by
  refine fives_congr fun s hs => ?_
  have e1 : minus (l.length + 1) s = -1 := by simp [minus, hs]
  rw [e1]
  refine ⟨?_, ?_, ?_, ?_, ?_⟩
  · unfold upAt; split
    · rfl
    · rw [if_neg (by omega)]
  · simp [firstAt, firstId, idOr]
  · simp [lastAt, lastId, idOr]
  · unfold prevAt; split
    · rfl
    · rw [if_neg (by omega)]
  · unfold nextAt; split
    · rfl
    · rw [if_neg (by omega)]
theorem links_fill {m : Nat} (l : List GRow) (g : List AObj) {n : Nat} (hl : Rows.small n l) (hn : n ≤ 1048577) (hm : n < m) :
    aexec (acall T m) m (.loop B15x0) ⟨[(0, .p (.list (l.map GRow.pv))), (4, .own false 17 (l.length + 1)), (19, .p (.int .i64 ((l.length : Int) + 1))), (20, .p (.int .i64 0))], [(17, .pcells 5 (fives (l.length + 1) (fun _ => 0) (fun _ => 0) (fun _ => 0) (fun _ => 0) (fun _ => 0)))], []⟩ =
      some (.exit 0, ⟨[(0, .p (.list (l.map GRow.pv))), (4, .own false 17 (l.length + 1))], [(17, .pcells 5 (linkRows l 0))], []⟩) := by
  have hlen := hl.len
  rw [← linkRows_zero, ← minus_zero]
  refine loop_rule' (σ := Nat) (S := fun i => ⟨[(0, .p (.list (l.map GRow.pv))), (4, .own false 17 (l.length + 1)), (19, .p (.int .i64 ((l.length : Int) + 1))), (20, .p (.int .i64 i))], [(17, .pcells 5 (fives (l.length + 1) (minus i) (minus i) (minus i) (minus i) (minus i)))], []⟩) (I := fun i => i ≤ l.length + 1) (μ := fun i => l.length + 1 - i)
    (Φ := fun _ => (.exit 0, ⟨[(0, .p (.list (l.map GRow.pv))), (4, .own false 17 (l.length + 1))], [(17, .pcells 5 (fives (l.length + 1) (minus (l.length + 1)) (minus (l.length + 1)) (minus (l.length + 1)) (minus (l.length + 1)) (minus (l.length + 1))))], []⟩)) ?_ 0 (by omega) (by omega)
  intro i hi
  by_cases h : i < l.length + 1
  · refine .inl ⟨i + 1, ?_, by omega, by omega, rfl⟩
    have k1 : (i : Int) < (l.length : Int) + 1 := by omega
    rw [← minus_step]
    simp (implicitDefEqProofs := false) (maxSteps := 1000000) (disch := omega) only [runOps_nil, runOps_cons, bo_some, bo_none, bo_ite, be_some, be_none, be_ite, bn_some, bn_none, bn_ite, bn'_some, aexec_skip, aexec_region, aexec_seq, aexec_block, aexec_exit, aexec_ret, aexec_keep, aexec_cond, condK_bool, bs_normal, bs_ret, bs_exit, bs_none, bs_ite, bkp_some, bb_normal, bb_ret, bb_exit, bb_none, bb_ite, bl_normal, bl_ret, bl_exit, bl_none, bl_ite, br_ret, br_normal, br_none, br_ite, rr_some, m_none, m_some, m_st, m_fr, m_lo, m_p, m_own, m_bool, m_int, m_str, m_list, m_pcells, m_length, m_and, m_or, ite_self,
 enterSt, stepOp, guardK, evalOp, bk_some, bk_ite, bk_none, orBot, St.know, St.arg, St.get, lk, up, St.set, opt', List.length_cons, List.length_nil, List.range, List.range.loop, List.zip, List.zipWith, St.keep, pickL, List.map_cons, List.map_nil, List.any_cons, List.any_nil, mentions, mentionsL, AObj.mentions, bin, binI, avEq, isNil, isNilC, ptrEq, St.one, cellsEq, scalarEqK, una, ropRd, bound, okFor, noLocals, noLocal, AV.same, PV.same, AV.sameL, PV.sameL, PV.sameLL, sameAt, againEv, againG, againX, againOne, findIx, hand, view, viewT, allM, tupleOf, oneTup, resultsOf, result1, pureArg, allFlat, flat, frz, cellsAll, sameLen, appendTo, fillK, rg_some, rg_ite, rg_none, implies_true, true_implies, false_implies, Option.map_some, Option.map_none, Nat.reduceBEq, Nat.reduceAdd, Nat.reduceLeDiff, Nat.reduceLT, Bool.or_self, Bool.or_false, Bool.false_or, Bool.false_eq_true, Bool.true_eq_false, if_false, if_true, Bool.not_true, Bool.not_false, asInt, St.newObj, newOwns, St.obj, St.putObj, puress, pures, objOf, ofCells, AV.cells, AObj.rd, AObj.wr, sub, over, PV.scalarEq, reduceCtorEq, and_self, and_true, true_and, List.getD_cons_zero, List.getD_cons_succ, List.set_cons_zero, List.set_cons_succ, List.drop_zero, List.drop_succ_cons, List.take_zero, List.take_succ_cons, List.take_nil, List.drop_nil, fill, List.contains_cons, List.contains_nil, Bool.or_true, Bool.true_or, Bool.and_true, Bool.true_and, Bool.and_false, Bool.false_and, decide_true, decide_false, beq_self_eq_true, Int.toNat_natCast, Nat.reduceMul, Nat.reduceSub, Int.reduceToNat, Nat.zero_le, Nat.lt_irrefl, Nat.le_refl, not_true_eq_false, not_false_eq_true, decide_eq_true_eq, runD_nil, runD_cons', bod_some, Option.bind_some, stepD, againK, List.all_cons, List.all_nil, aexec_draw, Int.reduceBEq, Int.reduceBNe, Bool.not_eq_true', Int.reduceLT, Int.reduceLE, Int.reduceEq, Int.reduceNeg, Int.reduceAdd, Int.reduceSub, Int.reduceMul, Int.natCast_nonneg, List.getElem?_concat_length, true_or, or_true, false_or, or_false, false_and, and_false, Nat.reduceEqDiff, Nat.one_ne_zero, List.cons_append, List.nil_append, List.append_nil, if_pos, if_neg, wrap_id, Int.natCast_add, Int.natCast_one, List.length_map, Int.toNat_natCast_add_one, Int.add_sub_cancel, gt_iff_lt, ge_iff_le, B15x0, fives_len, ones_len, fget, ones_get, fsetAll, ones_set, GRow.pv, attrsPV]
  · have : i = l.length + 1 := by omega
    subst this
    have k1 : ¬ ((l.length : Int) + 1 < (l.length : Int) + 1) := by omega
    refine .inr ⟨?_, by simp⟩
    simp (implicitDefEqProofs := false) (maxSteps := 1000000) (disch := omega) only [runOps_nil, runOps_cons, bo_some, bo_none, bo_ite, be_some, be_none, be_ite, bn_some, bn_none, bn_ite, bn'_some, aexec_skip, aexec_region, aexec_seq, aexec_block, aexec_exit, aexec_ret, aexec_keep, aexec_cond, condK_bool, bs_normal, bs_ret, bs_exit, bs_none, bs_ite, bkp_some, bb_normal, bb_ret, bb_exit, bb_none, bb_ite, bl_normal, bl_ret, bl_exit, bl_none, bl_ite, br_ret, br_normal, br_none, br_ite, rr_some, m_none, m_some, m_st, m_fr, m_lo, m_p, m_own, m_bool, m_int, m_str, m_list, m_pcells, m_length, m_and, m_or, ite_self,
 enterSt, stepOp, guardK, evalOp, bk_some, bk_ite, bk_none, orBot, St.know, St.arg, St.get, lk, up, St.set, opt', List.length_cons, List.length_nil, List.range, List.range.loop, List.zip, List.zipWith, St.keep, pickL, List.map_cons, List.map_nil, List.any_cons, List.any_nil, mentions, mentionsL, AObj.mentions, bin, binI, avEq, isNil, isNilC, ptrEq, St.one, cellsEq, scalarEqK, una, ropRd, bound, okFor, noLocals, noLocal, AV.same, PV.same, AV.sameL, PV.sameL, PV.sameLL, sameAt, againEv, againG, againX, againOne, findIx, hand, view, viewT, allM, tupleOf, oneTup, resultsOf, result1, pureArg, allFlat, flat, frz, cellsAll, sameLen, appendTo, fillK, rg_some, rg_ite, rg_none, implies_true, true_implies, false_implies, Option.map_some, Option.map_none, Nat.reduceBEq, Nat.reduceAdd, Nat.reduceLeDiff, Nat.reduceLT, Bool.or_self, Bool.or_false, Bool.false_or, Bool.false_eq_true, Bool.true_eq_false, if_false, if_true, Bool.not_true, Bool.not_false, asInt, St.newObj, newOwns, St.obj, St.putObj, puress, pures, objOf, ofCells, AV.cells, AObj.rd, AObj.wr, sub, over, PV.scalarEq, reduceCtorEq, and_self, and_true, true_and, List.getD_cons_zero, List.getD_cons_succ, List.set_cons_zero, List.set_cons_succ, List.drop_zero, List.drop_succ_cons, List.take_zero, List.take_succ_cons, List.take_nil, List.drop_nil, fill, List.contains_cons, List.contains_nil, Bool.or_true, Bool.true_or, Bool.and_true, Bool.true_and, Bool.and_false, Bool.false_and, decide_true, decide_false, beq_self_eq_true, Int.toNat_natCast, Nat.reduceMul, Nat.reduceSub, Int.reduceToNat, Nat.zero_le, Nat.lt_irrefl, Nat.le_refl, not_true_eq_false, not_false_eq_true, decide_eq_true_eq, runD_nil, runD_cons', bod_some, Option.bind_some, stepD, againK, List.all_cons, List.all_nil, aexec_draw, Int.reduceBEq, Int.reduceBNe, Bool.not_eq_true', Int.reduceLT, Int.reduceLE, Int.reduceEq, Int.reduceNeg, Int.reduceAdd, Int.reduceSub, Int.reduceMul, Int.natCast_nonneg, List.getElem?_concat_length, true_or, or_true, false_or, or_false, false_and, and_false, Nat.reduceEqDiff, Nat.one_ne_zero, List.cons_append, List.nil_append, List.append_nil, if_pos, if_neg, wrap_id, Int.natCast_add, Int.natCast_one, List.length_map, Int.toNat_natCast_add_one, Int.add_sub_cancel, gt_iff_lt, ge_iff_le, B15x0, fives_len, ones_len, fget, ones_get, fsetAll, ones_set, GRow.pv, attrsPV]
def linksS (l : List GRow) (i : Nat) : St := ⟨[(0, .p (.list (l.map GRow.pv))), (4, .own false 17 (l.length + 1)), (6, .own false 31 (l.length + 1)), (32, .p (.list (l.map GRow.pv))), (33, .p (.int .i64 l.length)), (34, .p (.int .i64 i))], [(17, .pcells 5 (linkRows l i)), (31, .pcells 1 (ones (l.length + 1) (hAt l i)))], []⟩
theorem links_body {C : Calls'} {N : Nat} (l : List GRow) (i : Nat) (hs : standB l 0 = true) (hlen : l.length ≤ 1048577) (h : i < l.length) :
    aexec C N B15x1 (linksS l i) = some (.normal, linksS l (i + 1)) := by
  obtain ⟨x, hx⟩ := get_some h
  have hst : standFrom l 0 := by simpa [standB] using hs
  have hu := hst i x (Nat.zero_le _) hx
  obtain ⟨u, hu'⟩ : ∃ u : Nat, x.up = (u : Int) := ⟨x.up.toNat, by omega⟩
  have hg := getD_map (f := GRow.pv) hx
  have k1 : (i : Int) < (l.length : Int) := by omega
  have k2 : (i : Int) + 1 < (l.length : Int) + 1 := by omega
  have k3 : (0 : Int) ≤ (i : Int) + 1 := by omega
  have hle := lastH_le (l.take i) u
  rw [List.length_take, Nat.min_eq_left (by omega)] at hle
  -- the last one there
  have hprev : (match lastH (l.take i) u with | 0 => -1 | k + 1 => (match l[k]? with | some y => y.id | none => 0)) = lastId (l.take i) x.up := by
    rw [hu']
    cases hk : lastH (l.take i) u with
    | zero => simp [lastId_zero hk]
    | succ k =>
      obtain ⟨y, hy, _, _⟩ := lastH_get _ _ _ hk
      rw [lastId_get hk hy]
      rw [List.getElem?_take_of_lt (by omega)] at hy
      simp [hy]
  have kk1 : (0 : Int) < (l.length : Int) + 1 := by omega
  have hupid : upId l i = (if 0 < x.up then (match l[x.up.toNat - 1]? with | some y => y.id | none => 0) else 0) := by unfold upId; rw [hx]; rfl
  unfold linksS linkRows
  rw [← hAt_step hx hu', ← lastAt_step hx hu', ← prevAt_step hx _ hprev.symm.symm]
  cases u with
  | zero =>
    have hu0 : x.up = 0 := by simpa using hu'
    rw [← upAt_step hx 0 (by rw [hupid, hu0]; simp)]
    cases hk : lastH (l.take i) 0 with
    | zero =>
      have hk0 : hAt l i 0 = 0 := by simp [hAt, hk]
      have hpp : upd (prevAt l i) (i + 1) (-1) = prevAt l i := by
        rw [prevAt_step hx _ (by rw [← hprev]; simp [hk]), prevAt_still hx (by rw [hu0]; exact hk)]
      rw [← firstAt_step hx hu' hk, ← nextAt_still hx hu' hk]
      simp only [Int.natCast_zero, hk, hpp]
      simp (implicitDefEqProofs := false) (maxSteps := 1000000) (disch := omega) only [runOps_nil, runOps_cons, bo_some, bo_none, bo_ite, be_some, be_none, be_ite, bn_some, bn_none, bn_ite, bn'_some, aexec_skip, aexec_region, aexec_seq, aexec_block, aexec_exit, aexec_ret, aexec_keep, aexec_cond, condK_bool, bs_normal, bs_ret, bs_exit, bs_none, bs_ite, bkp_some, bb_normal, bb_ret, bb_exit, bb_none, bb_ite, bl_normal, bl_ret, bl_exit, bl_none, bl_ite, br_ret, br_normal, br_none, br_ite, rr_some, m_none, m_some, m_st, m_fr, m_lo, m_p, m_own, m_bool, m_int, m_str, m_list, m_pcells, m_length, m_and, m_or, ite_self,
 enterSt, stepOp, guardK, evalOp, bk_some, bk_ite, bk_none, orBot, St.know, St.arg, St.get, lk, up, St.set, opt', List.length_cons, List.length_nil, List.range, List.range.loop, List.zip, List.zipWith, St.keep, pickL, List.map_cons, List.map_nil, List.any_cons, List.any_nil, mentions, mentionsL, AObj.mentions, bin, binI, avEq, isNil, isNilC, ptrEq, St.one, cellsEq, scalarEqK, una, ropRd, bound, okFor, noLocals, noLocal, AV.same, PV.same, AV.sameL, PV.sameL, PV.sameLL, sameAt, againEv, againG, againX, againOne, findIx, hand, view, viewT, allM, tupleOf, oneTup, resultsOf, result1, pureArg, allFlat, flat, frz, cellsAll, sameLen, appendTo, fillK, rg_some, rg_ite, rg_none, implies_true, true_implies, false_implies, Option.map_some, Option.map_none, Nat.reduceBEq, Nat.reduceAdd, Nat.reduceLeDiff, Nat.reduceLT, Bool.or_self, Bool.or_false, Bool.false_or, Bool.false_eq_true, Bool.true_eq_false, if_false, if_true, Bool.not_true, Bool.not_false, asInt, St.newObj, newOwns, St.obj, St.putObj, puress, pures, objOf, ofCells, AV.cells, AObj.rd, AObj.wr, sub, over, PV.scalarEq, reduceCtorEq, and_self, and_true, true_and, List.getD_cons_zero, List.getD_cons_succ, List.set_cons_zero, List.set_cons_succ, List.drop_zero, List.drop_succ_cons, List.take_zero, List.take_succ_cons, List.take_nil, List.drop_nil, fill, List.contains_cons, List.contains_nil, Bool.or_true, Bool.true_or, Bool.and_true, Bool.true_and, Bool.and_false, Bool.false_and, decide_true, decide_false, beq_self_eq_true, Int.toNat_natCast, Nat.reduceMul, Nat.reduceSub, Int.reduceToNat, Nat.zero_le, Nat.lt_irrefl, Nat.le_refl, not_true_eq_false, not_false_eq_true, decide_eq_true_eq, runD_nil, runD_cons', bod_some, Option.bind_some, stepD, againK, List.all_cons, List.all_nil, aexec_draw, Int.reduceBEq, Int.reduceBNe, Bool.not_eq_true', Int.reduceLT, Int.reduceLE, Int.reduceEq, Int.reduceNeg, Int.reduceAdd, Int.reduceSub, Int.reduceMul, Int.natCast_nonneg, List.getElem?_concat_length, true_or, or_true, false_or, or_false, false_and, and_false, Nat.reduceEqDiff, Nat.one_ne_zero, List.cons_append, List.nil_append, List.append_nil, if_pos, if_neg, wrap_id, Int.natCast_add, Int.natCast_one, List.length_map, Int.toNat_natCast_add_one, Int.add_sub_cancel, gt_iff_lt, ge_iff_le, B15x1, fives_len, ones_len, fget, ones_get, fset0, fset1, fset2, fset3, fset4, ones_set, GRow.pv, attrsPV, hg, hk0, hu0]
    | succ k =>
      have hk0 : hAt l i 0 = (k : Int) + 1 := by simp [hAt, hk]
      obtain ⟨y, hy⟩ := get_some (l := l) (i := k) (by simp only [Int.natCast_zero, hk] at hle; omega)
      have hgy := getD_map (f := GRow.pv) hy
      have q1 : (k : Int) < (l.length : Int) := by simp only [Int.natCast_zero, hk] at hle; omega
      have q2 : (k : Int) + 1 < (l.length : Int) + 1 := by omega
      have q3 : (0 : Int) ≤ (k : Int) + 1 := by omega
      have q4 : (0 : Int) < (k : Int) + 1 := by omega
      rw [← firstAt_still hx hu' hk, ← nextAt_step hx hu' hk]
      simp only [Int.natCast_zero, hk, hy]
      simp (implicitDefEqProofs := false) (maxSteps := 1000000) (disch := omega) only [runOps_nil, runOps_cons, bo_some, bo_none, bo_ite, be_some, be_none, be_ite, bn_some, bn_none, bn_ite, bn'_some, aexec_skip, aexec_region, aexec_seq, aexec_block, aexec_exit, aexec_ret, aexec_keep, aexec_cond, condK_bool, bs_normal, bs_ret, bs_exit, bs_none, bs_ite, bkp_some, bb_normal, bb_ret, bb_exit, bb_none, bb_ite, bl_normal, bl_ret, bl_exit, bl_none, bl_ite, br_ret, br_normal, br_none, br_ite, rr_some, m_none, m_some, m_st, m_fr, m_lo, m_p, m_own, m_bool, m_int, m_str, m_list, m_pcells, m_length, m_and, m_or, ite_self,
 enterSt, stepOp, guardK, evalOp, bk_some, bk_ite, bk_none, orBot, St.know, St.arg, St.get, lk, up, St.set, opt', List.length_cons, List.length_nil, List.range, List.range.loop, List.zip, List.zipWith, St.keep, pickL, List.map_cons, List.map_nil, List.any_cons, List.any_nil, mentions, mentionsL, AObj.mentions, bin, binI, avEq, isNil, isNilC, ptrEq, St.one, cellsEq, scalarEqK, una, ropRd, bound, okFor, noLocals, noLocal, AV.same, PV.same, AV.sameL, PV.sameL, PV.sameLL, sameAt, againEv, againG, againX, againOne, findIx, hand, view, viewT, allM, tupleOf, oneTup, resultsOf, result1, pureArg, allFlat, flat, frz, cellsAll, sameLen, appendTo, fillK, rg_some, rg_ite, rg_none, implies_true, true_implies, false_implies, Option.map_some, Option.map_none, Nat.reduceBEq, Nat.reduceAdd, Nat.reduceLeDiff, Nat.reduceLT, Bool.or_self, Bool.or_false, Bool.false_or, Bool.false_eq_true, Bool.true_eq_false, if_false, if_true, Bool.not_true, Bool.not_false, asInt, St.newObj, newOwns, St.obj, St.putObj, puress, pures, objOf, ofCells, AV.cells, AObj.rd, AObj.wr, sub, over, PV.scalarEq, reduceCtorEq, and_self, and_true, true_and, List.getD_cons_zero, List.getD_cons_succ, List.set_cons_zero, List.set_cons_succ, List.drop_zero, List.drop_succ_cons, List.take_zero, List.take_succ_cons, List.take_nil, List.drop_nil, fill, List.contains_cons, List.contains_nil, Bool.or_true, Bool.true_or, Bool.and_true, Bool.true_and, Bool.and_false, Bool.false_and, decide_true, decide_false, beq_self_eq_true, Int.toNat_natCast, Nat.reduceMul, Nat.reduceSub, Int.reduceToNat, Nat.zero_le, Nat.lt_irrefl, Nat.le_refl, not_true_eq_false, not_false_eq_true, decide_eq_true_eq, runD_nil, runD_cons', bod_some, Option.bind_some, stepD, againK, List.all_cons, List.all_nil, aexec_draw, Int.reduceBEq, Int.reduceBNe, Bool.not_eq_true', Int.reduceLT, Int.reduceLE, Int.reduceEq, Int.reduceNeg, Int.reduceAdd, Int.reduceSub, Int.reduceMul, Int.natCast_nonneg, List.getElem?_concat_length, true_or, or_true, false_or, or_false, false_and, and_false, Nat.reduceEqDiff, Nat.one_ne_zero, List.cons_append, List.nil_append, List.append_nil, if_pos, if_neg, wrap_id, Int.natCast_add, Int.natCast_one, List.length_map, Int.toNat_natCast_add_one, Int.add_sub_cancel, gt_iff_lt, ge_iff_le, B15x1, fives_len, ones_len, fget, ones_get, fset0, fset1, fset2, fset3, fset4, ones_set, GRow.pv, attrsPV, hg, hgy, hk0, hu0]
  | succ v =>
    have hu0 : x.up = (v : Int) + 1 := by simpa using hu'
    obtain ⟨z, hz⟩ := get_some (l := l) (i := v) (by omega)
    have hgz := getD_map (f := GRow.pv) hz
    have r1 : (v : Int) < (l.length : Int) := by omega
    have r2 : (v : Int) + 1 < (l.length : Int) + 1 := by omega
    have r3 : (0 : Int) ≤ (v : Int) + 1 := by omega
    have r4 : (0 : Int) < (v : Int) + 1 := by omega
    rw [← upAt_step hx z.id (by rw [hupid, hu0]; have : ((v : Int) + 1).toNat - 1 = v := by omega
                                rw [this, hz, if_pos r4]), ← upd_upd (upAt l i) (i + 1) 0 z.id]
    cases hk : lastH (l.take i) ((v + 1 : Nat) : Int) with
    | zero =>
      have hk0 : hAt l i (v + 1) = 0 := by simp only [hAt, hk]; rfl
      have hpp : upd (prevAt l i) (i + 1) (-1) = prevAt l i := by
        rw [prevAt_step hx _ (by rw [← hprev, hk]), prevAt_still hx (by rw [hu']; exact hk)]
      rw [← firstAt_step hx hu' hk, ← nextAt_still hx hu' hk]
      simp only [hk]
      rw [hpp]
      simp (implicitDefEqProofs := false) (maxSteps := 1000000) (disch := omega) only [runOps_nil, runOps_cons, bo_some, bo_none, bo_ite, be_some, be_none, be_ite, bn_some, bn_none, bn_ite, bn'_some, aexec_skip, aexec_region, aexec_seq, aexec_block, aexec_exit, aexec_ret, aexec_keep, aexec_cond, condK_bool, bs_normal, bs_ret, bs_exit, bs_none, bs_ite, bkp_some, bb_normal, bb_ret, bb_exit, bb_none, bb_ite, bl_normal, bl_ret, bl_exit, bl_none, bl_ite, br_ret, br_normal, br_none, br_ite, rr_some, m_none, m_some, m_st, m_fr, m_lo, m_p, m_own, m_bool, m_int, m_str, m_list, m_pcells, m_length, m_and, m_or, ite_self,
 enterSt, stepOp, guardK, evalOp, bk_some, bk_ite, bk_none, orBot, St.know, St.arg, St.get, lk, up, St.set, opt', List.length_cons, List.length_nil, List.range, List.range.loop, List.zip, List.zipWith, St.keep, pickL, List.map_cons, List.map_nil, List.any_cons, List.any_nil, mentions, mentionsL, AObj.mentions, bin, binI, avEq, isNil, isNilC, ptrEq, St.one, cellsEq, scalarEqK, una, ropRd, bound, okFor, noLocals, noLocal, AV.same, PV.same, AV.sameL, PV.sameL, PV.sameLL, sameAt, againEv, againG, againX, againOne, findIx, hand, view, viewT, allM, tupleOf, oneTup, resultsOf, result1, pureArg, allFlat, flat, frz, cellsAll, sameLen, appendTo, fillK, rg_some, rg_ite, rg_none, implies_true, true_implies, false_implies, Option.map_some, Option.map_none, Nat.reduceBEq, Nat.reduceAdd, Nat.reduceLeDiff, Nat.reduceLT, Bool.or_self, Bool.or_false, Bool.false_or, Bool.false_eq_true, Bool.true_eq_false, if_false, if_true, Bool.not_true, Bool.not_false, asInt, St.newObj, newOwns, St.obj, St.putObj, puress, pures, objOf, ofCells, AV.cells, AObj.rd, AObj.wr, sub, over, PV.scalarEq, reduceCtorEq, and_self, and_true, true_and, List.getD_cons_zero, List.getD_cons_succ, List.set_cons_zero, List.set_cons_succ, List.drop_zero, List.drop_succ_cons, List.take_zero, List.take_succ_cons, List.take_nil, List.drop_nil, fill, List.contains_cons, List.contains_nil, Bool.or_true, Bool.true_or, Bool.and_true, Bool.true_and, Bool.and_false, Bool.false_and, decide_true, decide_false, beq_self_eq_true, Int.toNat_natCast, Nat.reduceMul, Nat.reduceSub, Int.reduceToNat, Nat.zero_le, Nat.lt_irrefl, Nat.le_refl, not_true_eq_false, not_false_eq_true, decide_eq_true_eq, runD_nil, runD_cons', bod_some, Option.bind_some, stepD, againK, List.all_cons, List.all_nil, aexec_draw, Int.reduceBEq, Int.reduceBNe, Bool.not_eq_true', Int.reduceLT, Int.reduceLE, Int.reduceEq, Int.reduceNeg, Int.reduceAdd, Int.reduceSub, Int.reduceMul, Int.natCast_nonneg, List.getElem?_concat_length, true_or, or_true, false_or, or_false, false_and, and_false, Nat.reduceEqDiff, Nat.one_ne_zero, List.cons_append, List.nil_append, List.append_nil, if_pos, if_neg, wrap_id, Int.natCast_add, Int.natCast_one, List.length_map, Int.toNat_natCast_add_one, Int.add_sub_cancel, gt_iff_lt, ge_iff_le, B15x1, fives_len, ones_len, fget, ones_get, fset0, fset1, fset2, fset3, fset4, ones_set, GRow.pv, attrsPV, hg, hgz, hk0, hu0]
    | succ k =>
      have hk0 : hAt l i (v + 1) = (k : Int) + 1 := by simp only [hAt, hk]; rfl
      obtain ⟨y, hy⟩ := get_some (l := l) (i := k) (by rw [hk] at hle; omega)
      have hgy := getD_map (f := GRow.pv) hy
      have q1 : (k : Int) < (l.length : Int) := by rw [hk] at hle; omega
      have q2 : (k : Int) + 1 < (l.length : Int) + 1 := by omega
      have q3 : (0 : Int) ≤ (k : Int) + 1 := by omega
      have q4 : (0 : Int) < (k : Int) + 1 := by omega
      rw [← firstAt_still hx hu' hk, ← nextAt_step hx hu' hk]
      simp only [hk, hy]
      simp (implicitDefEqProofs := false) (maxSteps := 1000000) (disch := omega) only [runOps_nil, runOps_cons, bo_some, bo_none, bo_ite, be_some, be_none, be_ite, bn_some, bn_none, bn_ite, bn'_some, aexec_skip, aexec_region, aexec_seq, aexec_block, aexec_exit, aexec_ret, aexec_keep, aexec_cond, condK_bool, bs_normal, bs_ret, bs_exit, bs_none, bs_ite, bkp_some, bb_normal, bb_ret, bb_exit, bb_none, bb_ite, bl_normal, bl_ret, bl_exit, bl_none, bl_ite, br_ret, br_normal, br_none, br_ite, rr_some, m_none, m_some, m_st, m_fr, m_lo, m_p, m_own, m_bool, m_int, m_str, m_list, m_pcells, m_length, m_and, m_or, ite_self,
 enterSt, stepOp, guardK, evalOp, bk_some, bk_ite, bk_none, orBot, St.know, St.arg, St.get, lk, up, St.set, opt', List.length_cons, List.length_nil, List.range, List.range.loop, List.zip, List.zipWith, St.keep, pickL, List.map_cons, List.map_nil, List.any_cons, List.any_nil, mentions, mentionsL, AObj.mentions, bin, binI, avEq, isNil, isNilC, ptrEq, St.one, cellsEq, scalarEqK, una, ropRd, bound, okFor, noLocals, noLocal, AV.same, PV.same, AV.sameL, PV.sameL, PV.sameLL, sameAt, againEv, againG, againX, againOne, findIx, hand, view, viewT, allM, tupleOf, oneTup, resultsOf, result1, pureArg, allFlat, flat, frz, cellsAll, sameLen, appendTo, fillK, rg_some, rg_ite, rg_none, implies_true, true_implies, false_implies, Option.map_some, Option.map_none, Nat.reduceBEq, Nat.reduceAdd, Nat.reduceLeDiff, Nat.reduceLT, Bool.or_self, Bool.or_false, Bool.false_or, Bool.false_eq_true, Bool.true_eq_false, if_false, if_true, Bool.not_true, Bool.not_false, asInt, St.newObj, newOwns, St.obj, St.putObj, puress, pures, objOf, ofCells, AV.cells, AObj.rd, AObj.wr, sub, over, PV.scalarEq, reduceCtorEq, and_self, and_true, true_and, List.getD_cons_zero, List.getD_cons_succ, List.set_cons_zero, List.set_cons_succ, List.drop_zero, List.drop_succ_cons, List.take_zero, List.take_succ_cons, List.take_nil, List.drop_nil, fill, List.contains_cons, List.contains_nil, Bool.or_true, Bool.true_or, Bool.and_true, Bool.true_and, Bool.and_false, Bool.false_and, decide_true, decide_false, beq_self_eq_true, Int.toNat_natCast, Nat.reduceMul, Nat.reduceSub, Int.reduceToNat, Nat.zero_le, Nat.lt_irrefl, Nat.le_refl, not_true_eq_false, not_false_eq_true, decide_eq_true_eq, runD_nil, runD_cons', bod_some, Option.bind_some, stepD, againK, List.all_cons, List.all_nil, aexec_draw, Int.reduceBEq, Int.reduceBNe, Bool.not_eq_true', Int.reduceLT, Int.reduceLE, Int.reduceEq, Int.reduceNeg, Int.reduceAdd, Int.reduceSub, Int.reduceMul, Int.natCast_nonneg, List.getElem?_concat_length, true_or, or_true, false_or, or_false, false_and, and_false, Nat.reduceEqDiff, Nat.one_ne_zero, List.cons_append, List.nil_append, List.append_nil, if_pos, if_neg, wrap_id, Int.natCast_add, Int.natCast_one, List.length_map, Int.toNat_natCast_add_one, Int.add_sub_cancel, gt_iff_lt, ge_iff_le, B15x1, fives_len, ones_len, fget, ones_get, fset0, fset1, fset2, fset3, fset4, ones_set, GRow.pv, attrsPV, hg, hgy, hgz, hk0, hu0]
end Go.TA.Try
