/- Part 5 of 6 of a proof; joined from ValidRef13, ValidFormed, ValidNames02, ValidCmp, ValidAttrs09, ValidAttrsP, ValidAlone, ValidTree, ValidCheck13, ValidVisit, ValidFlatA, ValidFlat, Ints, Mach, ValidPNew, Pre, ValidPRows, ValidEndRun, OpsData, ValidOpsUsed, ValidOpsNone3, ValidOpsNone5, ValidOpsNone7, ValidOpsNone, ValidOpsSame, ValidOps25, ValidOpsPA, ValidOpsPB, ValidOpsP, ValidValidRun. What the empty script comes to. -/
import Derived.Test.YtnjblmbobmbgkaaDoorVn1
import Derived.Test.YtnjblmbobmbgkaaDoorVn3
import Derived.Test.YtnjblmbobmbgkaaDoorVn4
section
/- Rows that stand as a tree's do: the document's answer. -/
set_option linter.unusedVariables false
set_option linter.unusedSimpArgs false
set_option maxRecDepth 100000
set_option maxHeartbeats 8000000
namespace Go.TA.Tryd
def rowsPV (l : List GRow) : AV := .p (.list (l.map GRow.pv))
def aboveOut (r : Bool) : Ex × St := if r = true then (.ret, ⟨[(6, .p (.bool true))], [], []⟩) else (.exit 0, ⟨[], [], []⟩)
theorem up_val {l : List GRow} {i x : Nat} (h : standTo l i) (hi : i ≤ l.length) (hx : x < i) : ∃ r, l[x]? = some r ∧ r.up = (upAt l (x + 1) : Int) := by
  obtain ⟨r, hr⟩ := get_some (show x < l.length by omega)
  refine ⟨r, hr, ?_⟩
  have := h x r hx hr
  simp [upAt, hr]
  omega
theorem above_loop {n N : Nat} (l : List GRow) (h : Int) (i : Nat) (hs : standTo l i) (hi : i ≤ l.length) (hl : l.length ≤ 1048576) (hN : i < N) :
    aexec (acall T n) N (.loop B32x0) ⟨[(0, .p (.list (l.map GRow.pv))), (2, .p (.int .i64 h)), (7, .p (.int .i64 (i : Int)))], [], []⟩ = some (aboveOut (aboveB l i h)) := by
  refine loop_rule' (C := acall T n) (N := N) (B := B32x0) (σ := Nat) (S := fun x => ⟨[(0, .p (.list (l.map GRow.pv))), (2, .p (.int .i64 h)), (7, .p (.int .i64 x))], [], []⟩) (I := fun x => x ≤ i) (μ := fun x => x)
    (Φ := fun x => aboveOut (aboveB l x h)) ?_ i (Nat.le_refl _) hN
  intro x hx
  cases x with
  | zero =>
    refine .inr ⟨?_, by simp [aboveB, chain_zero, aboveOut]⟩
    have e : aboveOut (aboveB l 0 h) = (.exit 0, ⟨[], [], []⟩) := by simp [aboveB, chain_zero, aboveOut]
    rw [e]
    simp (implicitDefEqProofs := false) (maxSteps := 1000000) (disch := omega) only [Ra, Rb, Rc, Rd, Re, Rf, Rg, evalOp, St.know, mentions, AObj.mentions, bin, binI, Nat.reduceBEq, Int.reduceLT, B32x0, Int.natCast_zero]
  | succ x =>
    obtain ⟨r, hr, hu⟩ := up_val hs hi (show x < i by omega)
    have hg := getD_map (f := GRow.pv) hr
    have k1 : (0 : Int) < (x : Int) + 1 := by omega
    have k2 : (x : Int) < (l.length : Int) := by omega
    have hc := chain_succ hs hi (show x < i by omega)
    by_cases he : ((x : Int) + 1) = h
    · have e : aboveB l (x + 1) h = true := by
        simp only [aboveB, hc, List.any_cons, Bool.or_eq_true, beq_iff_eq]
        left; push_cast; exact he
      have he' : ((x : Int) + 1 == h) = true := by simpa using he
      refine .inr ⟨?_, by rw [e]; simp [aboveOut]⟩
      rw [e]
      simp (implicitDefEqProofs := false) (maxSteps := 1000000) (disch := omega) only [Ra, Rb, Rc, Rd, Re, Rf, Rg, evalOp, St.know, mentions, AObj.mentions, bin, binI, avEq, Nat.reduceBEq, B32x0, k1, he', aboveOut]
    · have e : aboveB l (x + 1) h = aboveB l (upAt l (x + 1)) h := by
        simp only [aboveB, hc, List.any_cons]
        have : (((x + 1 : Nat) : Int) == h) = false := by simp; omega
        rw [this, Bool.false_or]
      have he' : ((x : Int) + 1 == h) = false := by simpa using he
      have hle := upAt_le hs (show x < i by omega) (by omega)
      refine .inl ⟨upAt l (x + 1), ?_, by omega, by omega, by rw [e]⟩
      simp (implicitDefEqProofs := false) (maxSteps := 1000000) (disch := omega) only [Ra, Rb, Rc, Rd, Re, Rf, Rg, evalOp, St.know, mentions, AObj.mentions, bin, binI, avEq, Nat.reduceBEq, Nat.reduceAdd, Nat.reduceLeDiff, asInt, B32x0, k1, k2, he', hg, GRow.pv, hu]
theorem above_run (l : List GRow) (h : Int) (i : Nat) (hs : standTo l i) (hi : i ≤ l.length) (hl : l.length ≤ 1048576) (g : List AObj) {n : Nat} (hn : i < n) :
    acall T (n + 1) 32 [.p (.list (l.map GRow.pv)), .p (.int .i64 i), .p (.int .i64 h)] g = some (.p (.bool (aboveB l i h)), g) := by
  rw [acall_code T32, run_pure rfl rfl rfl]
  have hloop := above_loop (n := n) (N := n) l h i hs hi hl hn
  cases hb : aboveB l i h with
  | true =>
    rw [hb] at hloop
    simp only [aboveOut, if_true] at hloop
    simp (implicitDefEqProofs := false) (maxSteps := 1000000) (disch := omega) only [Ra, Rb, Rc, Rd, Re, Rf, Rg, evalOp, List.zipWith, mentions, AObj.mentions, noLocal, view, tupleOf, oneTup, Nat.reduceBEq, Nat.reduceAdd, F32, hloop]
  | false =>
    rw [hb] at hloop
    simp only [aboveOut, Bool.false_eq_true, if_false] at hloop
    simp (implicitDefEqProofs := false) (maxSteps := 1000000) (disch := omega) only [Ra, Rb, Rc, Rd, Re, Rf, Rg, evalOp, List.zipWith, mentions, AObj.mentions, noLocal, view, tupleOf, oneTup, Nat.reduceBEq, Nat.reduceAdd, F32, hloop]
/-! ### Depth -/
theorem depth_loop {n N : Nat} (l : List GRow) (i : Nat) (hs : standTo l i) (hi : i ≤ l.length) (hl : l.length ≤ 1048576) (hN : i < N) :
    aexec (acall T n) N (.loop B18x0) ⟨[(0, .p (.list (l.map GRow.pv))), (1, .p (.int .i64 (i : Int))), (5, .p (.int .i64 ((0 : Nat) : Int)))], [], []⟩ = some (.exit 0, ⟨[(5, .p (.int .i64 ((chain l i).length : Int)))], [], []⟩) := by
  have := loop_rule' (C := acall T n) (N := N) (B := B18x0) (σ := Nat × Nat) (S := fun s => ⟨[(0, .p (.list (l.map GRow.pv))), (1, .p (.int .i64 s.1)), (5, .p (.int .i64 s.2))], [], []⟩) (I := fun s => s.1 ≤ i ∧ s.2 + s.1 ≤ i) (μ := fun s => s.1)
    (Φ := fun s => (.exit 0, ⟨[(5, .p (.int .i64 ((s.2 + (chain l s.1).length : Nat) : Int)))], [], []⟩)) ?_ (i, 0) ⟨Nat.le_refl _, by simp⟩ hN
  · simpa using this
  rintro ⟨x, d⟩ ⟨hx, hd⟩
  simp only at hx hd ⊢
  cases x with
  | zero =>
    refine .inr ⟨?_, by simp⟩
    simp only [chain_zero, List.length_nil, Nat.add_zero]
    simp (implicitDefEqProofs := false) (maxSteps := 1000000) (disch := omega) only [Ra, Rb, Rc, Rd, Re, Rf, Rg, evalOp, St.know, mentions, AObj.mentions, bin, binI, Nat.reduceBEq, Int.reduceLT, B18x0, Int.natCast_zero]
  | succ x =>
    obtain ⟨r, hr, hu⟩ := up_val hs hi (show x < i by omega)
    have hg := getD_map (f := GRow.pv) hr
    have k1 : (0 : Int) < (x : Int) + 1 := by omega
    have k2 : (x : Int) < (l.length : Int) := by omega
    have hc := chain_succ hs hi (show x < i by omega)
    have hle := upAt_le hs (show x < i by omega) (by omega)
    refine .inl ⟨(upAt l (x + 1), d + 1), ?_, ⟨by omega, by simp only; omega⟩, by simp only; omega, ?_⟩
    · simp (implicitDefEqProofs := false) (maxSteps := 1000000) (disch := omega) only [Ra, Rb, Rc, Rd, Re, Rf, Rg, evalOp, St.know, mentions, AObj.mentions, bin, binI, Nat.reduceBEq, Nat.reduceAdd, Nat.reduceLeDiff, asInt, B18x0, k1, k2, hg, GRow.pv, hu]
    · rw [hc, List.length_cons]; congr 6; simp only; omega
theorem depth_run (l : List GRow) (i : Nat) (hs : standTo l i) (hi : i ≤ l.length) (hl : l.length ≤ 1048576) (g : List AObj) {n : Nat} (hn : i < n) :
    acall T (n + 1) 18 [.p (.list (l.map GRow.pv)), .p (.int .i64 i)] g = some (.p (.int .i64 (chain l i).length), g) := by
  rw [acall_code T18, run_pure rfl rfl rfl]
  have hloop := depth_loop (n := n) (N := n) l i hs hi hl hn
  simp only [Int.natCast_zero] at hloop
  simp (implicitDefEqProofs := false) (maxSteps := 1000000) (disch := omega) only [Ra, Rb, Rc, Rd, Re, Rf, Rg, evalOp, List.zipWith, mentions, AObj.mentions, noLocal, view, tupleOf, oneTup, Nat.reduceBEq, Nat.reduceAdd, F18, hloop]
/-! ### Formed -/
def formOut (k : Nat) (r : Bool) : Ex × St := if r = true then (.exit 0, ⟨[], [], []⟩) else (.ret, ⟨[(k, .p (.bool false))], [], []⟩)
theorem form13_loop {n N : Nat} (l : List GRow) (hl : l.length ≤ 1048576) (hN : l.length < N) (hn : l.length < n) :
    aexec (acall T (n + 1)) N (.loop B17x0) ⟨[(0, .p (.list (l.map GRow.pv))), (5, .p (.int .i64 l.length)), (6, .p (.int .i64 ((0 : Nat) : Int)))], [], []⟩ = some (formOut 2 (formedB l)) := by
  have := loop_rule' (C := acall T (n + 1)) (N := N) (B := B17x0) (σ := Nat) (S := fun i => ⟨[(0, .p (.list (l.map GRow.pv))), (5, .p (.int .i64 l.length)), (6, .p (.int .i64 i))], [], []⟩) (I := fun i => i ≤ l.length ∧ standTo l i) (μ := fun i => l.length - i)
    (Φ := fun i => formOut 2 (formedFrom l i (l.drop i))) ?_ 0 ⟨by omega, standTo_zero l⟩ (by omega)
  · simpa [formedB] using this
  rintro i ⟨hi, hs⟩
  by_cases h : i < l.length
  · have k1 : (i : Int) < (l.length : Int) := by omega
    obtain ⟨x, hx⟩ := get_some h
    have hg := getD_map (f := GRow.pv) hx
    have hd : l.drop i = x :: l.drop (i + 1) := by rw [List.drop_eq_getElem?_toList_append, hx]; rfl
    rw [hd]
    have bad : rowOkB l i x = false → formOut 2 (formedFrom l i (x :: l.drop (i + 1))) = (.ret, ⟨[(2, .p (.bool false))], [], []⟩) := fun h => by simp [formedFrom, h, formOut]
    have good : rowOkB l i x = true → formOut 2 (formedFrom l i (x :: l.drop (i + 1))) = formOut 2 (formedFrom l (i + 1) (l.drop (i + 1))) := fun h => by simp [formedFrom, h]
    cases i with
    | zero =>
      by_cases hu : x.up = 0
      · have hr : rowOkB l 0 x = true := by simp [rowOkB, hu]
        refine .inl ⟨1, ?_, ⟨by omega, row_stands hs (by omega) hx hr⟩, by omega, good hr⟩
        have hu' : (x.up == 0) = true := by simp [hu]
        simp only [Int.natCast_zero, Int.natCast_one] at k1 ⊢
        have hg0 : (l.map GRow.pv).getD 0 [] = x.pv := hg
        have e0 : Int.toNat 0 = 0 := rfl
        simp (implicitDefEqProofs := false) (maxSteps := 1000000) (disch := omega) only [Ra, Rb, Rc, Rd, Re, Rf, Rg, guardK, evalOp, St.know, mentions, AObj.mentions, bin, binI, avEq, Nat.reduceBEq, Nat.reduceAdd, Nat.reduceLeDiff, asInt, Int.reduceLT, Int.reduceLE, Int.reduceAdd, B17x0, k1, hg0, e0, GRow.pv, hu']
      · have hr : rowOkB l 0 x = false := by simp [rowOkB, hu]
        refine .inr ?_
        rw [bad hr]
        refine ⟨?_, by simp⟩
        have hu' : (x.up == 0) = false := by simp [hu]
        simp only [Int.natCast_zero, Int.natCast_one] at k1 ⊢
        have hg0 : (l.map GRow.pv).getD 0 [] = x.pv := hg
        have e0 : Int.toNat 0 = 0 := rfl
        simp (implicitDefEqProofs := false) (maxSteps := 1000000) (disch := omega) only [Ra, Rb, Rc, Rd, Re, Rf, Rg, guardK, evalOp, St.know, mentions, AObj.mentions, bin, binI, avEq, Nat.reduceBEq, Nat.reduceAdd, Nat.reduceLeDiff, asInt, Int.reduceLE, B17x0, k1, hg0, e0, GRow.pv, hu']
    | succ j =>
      have k0 : ((j : Int) + 1 == 0) = false := by simp; omega
      have k3 : (0 : Int) < (j : Int) + 1 := by omega
      have k5 : ((j : Int) + 1).toNat = j + 1 := by omega
      simp only [Int.natCast_add, Int.natCast_one] at k1
      by_cases hu : x.up < 1
      · have hr : rowOkB l (j + 1) x = false := by simp [rowOkB]; intro h; omega
        refine .inr ?_
        rw [bad hr]
        refine ⟨?_, by simp⟩
        simp (implicitDefEqProofs := false) (maxSteps := 1000000) (disch := omega) only [Ra, Rb, Rc, Rd, Re, Rf, Rg, guardK, evalOp, St.know, mentions, AObj.mentions, bin, binI, avEq, una, viewT, pureArg, allFlat, flat, Nat.reduceBEq, Nat.reduceAdd, Nat.reduceLeDiff, asInt, B17x0, k0, k1, k3, k5, hg, GRow.pv, hu]
      · have hab := above_run (n := n) l x.up (j + 1) hs (by omega) hl [] (by omega)
        simp only [Int.natCast_add, Int.natCast_one] at hab
        cases hb : aboveB l (j + 1) x.up with
        | true =>
          have hr : rowOkB l (j + 1) x = true := by simp [rowOkB, hb]; omega
          refine .inl ⟨j + 1 + 1, ?_, ⟨by omega, row_stands hs (by omega) hx hr⟩, by omega, good hr⟩
          simp (implicitDefEqProofs := false) (maxSteps := 1000000) (disch := omega) only [Ra, Rb, Rc, Rd, Re, Rf, Rg, guardK, evalOp, St.know, mentions, AObj.mentions, bin, binI, avEq, una, view, viewT, pureArg, allFlat, flat, Nat.reduceBEq, Nat.reduceAdd, Nat.reduceLeDiff, asInt, B17x0, k0, k1, k3, k5, hg, GRow.pv, hu, hab, hb]
        | false =>
          have hr : rowOkB l (j + 1) x = false := by simp [rowOkB, hb]
          refine .inr ?_
          rw [bad hr]
          refine ⟨?_, by simp⟩
          simp (implicitDefEqProofs := false) (maxSteps := 1000000) (disch := omega) only [Ra, Rb, Rc, Rd, Re, Rf, Rg, guardK, evalOp, St.know, mentions, AObj.mentions, bin, binI, avEq, una, view, viewT, pureArg, allFlat, flat, Nat.reduceBEq, Nat.reduceAdd, Nat.reduceLeDiff, asInt, B17x0, k0, k1, k3, k5, hg, GRow.pv, hu, hab, hb]
  · have k1 : ¬ (i : Int) < (l.length : Int) := by omega
    have e : l.drop i = [] := List.drop_eq_nil_of_le (by omega)
    refine .inr ⟨?_, by rw [e]; simp [formedFrom, formOut]⟩
    rw [e]
    simp (implicitDefEqProofs := false) (maxSteps := 1000000) (disch := omega) only [Ra, Rb, Rc, Rd, Re, Rf, Rg, evalOp, St.know, mentions, AObj.mentions, bin, binI, Nat.reduceBEq, B17x0, k1, formedFrom, formOut]
theorem form13_run (l : List GRow) (hl : l.length ≤ 1048576) (g : List AObj) {n : Nat} (hn : l.length < n) : acall T (n + 2) 17 [.p (.list (l.map GRow.pv))] g = some (.p (.bool (formedB l)), g) := by
  rw [acall_code T17, run_pure rfl rfl rfl]
  have hloop := form13_loop (n := n) (N := n + 1) l hl (by omega) hn
  simp only [Int.natCast_zero] at hloop
  cases hb : formedB l with
  | true =>
    rw [hb] at hloop
    simp only [formOut, if_true] at hloop
    simp (implicitDefEqProofs := false) (maxSteps := 1000000) (disch := omega) only [Ra, Rb, Rc, Rd, Re, Rf, Rg, evalOp, List.zipWith, mentions, AObj.mentions, noLocal, view, tupleOf, oneTup, Nat.reduceBEq, Nat.reduceAdd, F17, hloop]
  | false =>
    rw [hb] at hloop
    simp only [formOut, Bool.false_eq_true, if_false] at hloop
    simp (implicitDefEqProofs := false) (maxSteps := 1000000) (disch := omega) only [Ra, Rb, Rc, Rd, Re, Rf, Rg, evalOp, List.zipWith, mentions, AObj.mentions, noLocal, view, tupleOf, oneTup, Nat.reduceBEq, Nat.reduceAdd, F17, hloop]
end Go.TA.Tryd

end
section
/- Rows that stand as a tree's do, and are not too deep: the program. -/
set_option linter.unusedVariables false
set_option linter.unusedSimpArgs false
set_option maxRecDepth 100000
set_option maxHeartbeats 8000000
namespace Go.TA.Tryd
def stopAt (l : List GRow) (h : Nat) (u : Int) : Int := if aboveB l h u = true then u else 0
def formS (l : List GRow) (i : Nat) (x : GRow) (h : Int) : St := ⟨[(0, .p (.list (l.map GRow.pv))), (3, .p (.int .i64 i)), (4, .ptr false 4 6 1 0 0), (5, .p (.int .i64 h)), (6, .p (.list (l.map GRow.pv))), (7, .p (.int .i64 l.length)), (8, .p (.int .i64 i))], [(4, .pcells 6 [x.pv])], []⟩
theorem formP_inner {n N : Nat} (l : List GRow) (i : Nat) (x : GRow) (hs : standTo l i) (hi : i ≤ l.length) (hl : l.length ≤ 1048576) (hN : i < N) :
    aexec (acall T n) N (.loop B44x1) (formS l i x i) = some (.exit 2, formS l i x (stopAt l i x.up)) := by
  refine loop_rule' (C := acall T n) (N := N) (B := B44x1) (σ := Nat) (S := fun h => formS l i x h) (I := fun h => h ≤ i) (μ := fun h => h)
    (Φ := fun h => (.exit 2, formS l i x (stopAt l h x.up))) ?_ i (Nat.le_refl _) hN
  intro h hh
  cases h with
  | zero =>
    refine .inr ⟨?_, by simp⟩
    have e : stopAt l 0 x.up = 0 := by simp [stopAt, aboveB, chain_zero]
    rw [e]
    simp (implicitDefEqProofs := false) (maxSteps := 1000000) (disch := omega) only [Ra, Rb, Rc, Rd, Re, Rf, Rg, guardK, evalOp, St.know, mentions, AObj.mentions, avEq, Nat.reduceBEq, Nat.reduceAdd, B44x1, formS, GRow.pv, Int.natCast_zero]
  | succ h =>
    obtain ⟨r, hr, hu⟩ := up_val hs hi (show h < i by omega)
    have hg := getD_map (f := GRow.pv) hr
    have k2 : (h : Int) < (l.length : Int) := by omega
    have k0 : ((h : Int) + 1 == 0) = false := by simp; omega
    have hc := chain_succ hs hi (show h < i by omega)
    cases he : ((h : Int) + 1 == x.up) with
    | true =>
      have he' : (h : Int) + 1 = x.up := by simpa using he
      have e : stopAt l (h + 1) x.up = (h : Int) + 1 := by
        have : aboveB l (h + 1) x.up = true := by
          simp only [aboveB, hc, List.any_cons, Bool.or_eq_true, beq_iff_eq]
          left; push_cast; exact he'
        simp [stopAt, this, he']
      refine .inr ⟨?_, by simp⟩
      rw [e]
      simp (implicitDefEqProofs := false) (maxSteps := 1000000) (disch := omega) only [Ra, Rb, Rc, Rd, Re, Rf, Rg, guardK, evalOp, St.know, mentions, AObj.mentions, avEq, Nat.reduceBEq, Nat.reduceAdd, Nat.reduceLeDiff, Nat.reduceLT, AObj.rd, Nat.reduceEqDiff, B44x1, formS, GRow.pv, k0, he]
    | false =>
      have e : stopAt l (h + 1) x.up = stopAt l (upAt l (h + 1)) x.up := by
        have : aboveB l (h + 1) x.up = aboveB l (upAt l (h + 1)) x.up := by
          simp only [aboveB, hc, List.any_cons]
          have : (((h + 1 : Nat) : Int) == x.up) = false := by simpa using he
          rw [this, Bool.false_or]
        simp only [stopAt, this]
      have hle := upAt_le hs (show h < i by omega) (by omega)
      refine .inl ⟨upAt l (h + 1), ?_, by omega, by omega, by rw [e]⟩
      simp (implicitDefEqProofs := false) (maxSteps := 1000000) (disch := omega) only [Ra, Rb, Rc, Rd, Re, Rf, Rg, guardK, evalOp, St.know, mentions, AObj.mentions, bin, binI, avEq, Nat.reduceBEq, Nat.reduceAdd, Nat.reduceLeDiff, Nat.reduceLT, asInt, AObj.rd, Nat.reduceEqDiff, B44x1, formS, GRow.pv, k0, k2, he, hg, hu]
theorem formP_loop {n N : Nat} (l : List GRow) (hl : l.length ≤ 1048576) (hN : l.length < N) :
    aexec (acall T n) N (.loop B44x0) ⟨[(0, .p (.list (l.map GRow.pv))), (6, .p (.list (l.map GRow.pv))), (7, .p (.int .i64 l.length)), (8, .p (.int .i64 ((0 : Nat) : Int)))], [], []⟩ = some (formOut 2 (formedB l)) := by
  have := loop_rule' (C := acall T n) (N := N) (B := B44x0) (σ := Nat) (S := fun i => ⟨[(0, .p (.list (l.map GRow.pv))), (6, .p (.list (l.map GRow.pv))), (7, .p (.int .i64 l.length)), (8, .p (.int .i64 i))], [], []⟩) (I := fun i => i ≤ l.length ∧ standTo l i) (μ := fun i => l.length - i)
    (Φ := fun i => formOut 2 (formedFrom l i (l.drop i))) ?_ 0 ⟨by omega, standTo_zero l⟩ (by omega)
  · simpa [formedB] using this
  rintro i ⟨hi, hs⟩
  by_cases h : i < l.length
  · have k1 : (i : Int) < (l.length : Int) := by omega
    obtain ⟨x, hx⟩ := get_some h
    have hg := getD_map (f := GRow.pv) hx
    have hd : l.drop i = x :: l.drop (i + 1) := by rw [List.drop_eq_getElem?_toList_append, hx]; rfl
    rw [hd]
    have bad : rowOkB l i x = false → formOut 2 (formedFrom l i (x :: l.drop (i + 1))) = (.ret, ⟨[(2, .p (.bool false))], [], []⟩) := fun h => by simp [formedFrom, h, formOut]
    have good : rowOkB l i x = true → formOut 2 (formedFrom l i (x :: l.drop (i + 1))) = formOut 2 (formedFrom l (i + 1) (l.drop (i + 1))) := fun h => by simp [formedFrom, h]
    have hin := formP_inner (n := n) (N := N) l i x hs hi hl (by omega)
    simp only [formS, GRow.pv] at hin
    cases hab : aboveB l i x.up with
    | true =>
      have hpos := above_up hab
      have hi0 : i ≠ 0 := fun e => by subst e; simp [aboveB, chain_zero] at hab
      have hr : rowOkB l i x = true := by simp [rowOkB, hi0, hab]; omega
      refine .inl ⟨i + 1, ?_, ⟨by omega, row_stands hs (by omega) hx hr⟩, by omega, good hr⟩
      simp only [stopAt, hab, if_true] at hin
      have k3 : (x.up == 0) = false := by simp; omega
      have k4 : ((i : Int) == 0) = false := by simp; omega
      simp (implicitDefEqProofs := false) (maxSteps := 1000000) (disch := omega) only [Ra, Rb, Rc, Rd, Re, Rf, Rg, guardK, evalOp, St.know, mentions, AObj.mentions, bin, binI, avEq, Nat.reduceBEq, Nat.reduceAdd, Nat.reduceLeDiff, Nat.reduceLT, asInt, pures, AV.cells, AObj.rd, AObj.wr, Nat.reduceEqDiff, B44x0, k1, hg, GRow.pv, hin, k3, k4]
    | false =>
      simp only [stopAt, hab, Bool.false_eq_true, if_false] at hin
      by_cases hu : x.up = 0
      · have k3 : (0 == x.up) = true := by simp [hu]
        by_cases hi0 : i = 0
        · have hr : rowOkB l i x = true := by simp [rowOkB, hi0, hu]
          refine .inl ⟨i + 1, ?_, ⟨by omega, row_stands hs (by omega) hx hr⟩, by omega, good hr⟩
          have k4 : ((i : Int) == 0) = true := by simp [hi0]
          simp (implicitDefEqProofs := false) (maxSteps := 1000000) (disch := omega) only [Ra, Rb, Rc, Rd, Re, Rf, Rg, guardK, evalOp, St.know, mentions, AObj.mentions, bin, binI, avEq, Nat.reduceBEq, Nat.reduceAdd, Nat.reduceLeDiff, Nat.reduceLT, asInt, pures, AV.cells, AObj.rd, AObj.wr, Nat.reduceEqDiff, B44x0, k1, hg, GRow.pv, hin, k3, k4]
        · have hr : rowOkB l i x = false := by simp [rowOkB, hi0, hab]
          refine .inr ?_
          rw [bad hr]
          refine ⟨?_, by simp⟩
          have k4 : ((i : Int) == 0) = false := by simp; omega
          have k6 : ((true : Bool) == false) = false := rfl
          simp (implicitDefEqProofs := false) (maxSteps := 1000000) (disch := omega) only [Ra, Rb, Rc, Rd, Re, Rf, Rg, guardK, evalOp, St.know, mentions, AObj.mentions, bin, binI, avEq, Nat.reduceBEq, Nat.reduceAdd, Nat.reduceLeDiff, Nat.reduceLT, asInt, pures, AV.cells, AObj.rd, AObj.wr, Nat.reduceEqDiff, B44x0, k1, hg, GRow.pv, hin, k3, k4, k6]
      · have k3 : (0 == x.up) = false := by simp; omega
        have hr : rowOkB l i x = false := by
          simp only [rowOkB, hab, Bool.and_false]
          split
          · simpa using hu
          · rfl
        refine .inr ?_
        rw [bad hr]
        refine ⟨?_, by simp⟩
        simp (implicitDefEqProofs := false) (maxSteps := 1000000) (disch := omega) only [Ra, Rb, Rc, Rd, Re, Rf, Rg, guardK, evalOp, St.know, mentions, AObj.mentions, bin, binI, avEq, Nat.reduceBEq, Nat.reduceAdd, Nat.reduceLeDiff, Nat.reduceLT, asInt, pures, AV.cells, AObj.rd, AObj.wr, Nat.reduceEqDiff, B44x0, k1, hg, GRow.pv, hin, k3]
  · have k1 : ¬ (i : Int) < (l.length : Int) := by omega
    have e : l.drop i = [] := List.drop_eq_nil_of_le (by omega)
    refine .inr ⟨?_, by rw [e]; simp [formedFrom, formOut]⟩
    rw [e]
    simp (implicitDefEqProofs := false) (maxSteps := 1000000) (disch := omega) only [Ra, Rb, Rc, Rd, Re, Rf, Rg, evalOp, St.know, mentions, AObj.mentions, bin, binI, Nat.reduceBEq, B44x0, k1, formedFrom, formOut]
theorem formP_run (l : List GRow) (hl : l.length ≤ 1048576) (g : List AObj) {n : Nat} (hn : l.length < n) : acall T (n + 1) 44 [.p (.list (l.map GRow.pv))] g = some (.p (.bool (formedB l)), g) := by
  rw [acall_code T44, run_pure rfl rfl rfl]
  have hloop := formP_loop (n := n) (N := n) l hl hn
  simp only [Int.natCast_zero] at hloop
  cases hb : formedB l with
  | true =>
    rw [hb] at hloop
    simp only [formOut, if_true] at hloop
    simp (implicitDefEqProofs := false) (maxSteps := 1000000) (disch := omega) only [Ra, Rb, Rc, Rd, Re, Rf, Rg, evalOp, List.zipWith, mentions, AObj.mentions, noLocal, view, tupleOf, oneTup, Nat.reduceBEq, Nat.reduceAdd, F44, hloop]
  | false =>
    rw [hb] at hloop
    simp only [formOut, Bool.false_eq_true, if_false] at hloop
    simp (implicitDefEqProofs := false) (maxSteps := 1000000) (disch := omega) only [Ra, Rb, Rc, Rd, Re, Rf, Rg, evalOp, List.zipWith, mentions, AObj.mentions, noLocal, view, tupleOf, oneTup, Nat.reduceBEq, Nat.reduceAdd, F44, hloop]
/-! ### how deep -/
def depths (l : List GRow) (i : Nat) : List (List PV) := (List.range (l.length + 1)).map fun h => [.int .i64 (if h ≤ i then ((chain l h).length : Int) else 0)]
theorem depths_len (l : List GRow) (i : Nat) : (depths l i).length = l.length + 1 := by simp [depths]
theorem depths_get (l : List GRow) {i h : Nat} (hh : h ≤ l.length) : (depths l i).getD h [] = [.int .i64 (if h ≤ i then ((chain l h).length : Int) else 0)] := by
  rw [List.getD_eq_getElem?_getD, depths, List.getElem?_map, List.getElem?_range (by omega)]
  rfl
theorem depths_set (l : List GRow) {i : Nat} (hi : i < l.length) : (depths l i).set (i + 1) [.int .i64 ((chain l (i + 1)).length : Int)] = depths l (i + 1) := by
  apply List.ext_getElem
  · simp [depths]
  · intro k h1 h2
    rw [List.getElem_set]
    simp only [depths, List.getElem_map, List.getElem_range]
    by_cases e : i + 1 = k
    · subst e; simp
    · rw [if_neg e]
      have : (k ≤ i) ↔ (k ≤ i + 1) := by omega
      simp only [this]
theorem depths_zero (l : List GRow) : List.replicate (l.length + 1) [PV.int .i64 0] = depths l 0 := by
  apply List.ext_getElem
  · simp [depths]
  · intro k h1 h2
    simp only [List.getElem_replicate, depths, List.getElem_map, List.getElem_range]
    by_cases e : k ≤ 0
    · obtain rfl : k = 0 := by omega
      simp [chain_zero]
    · simp [e]
def shallow (l : List GRow) : Prop := ∀ i, i < l.length → (chain l (i + 1)).length ≤ 64
theorem deep_loop {n N : Nat} (l : List GRow) (hs : standTo l l.length) (hd : shallow l) (hl : l.length ≤ 1048576) (hN : l.length < N) :
    aexec (acall T n) N (.loop B45x0) ⟨[(0, .p (.list (l.map GRow.pv))), (3, .own false 9 (l.length + 1)), (10, .p (.list (l.map GRow.pv))), (11, .p (.int .i64 l.length)), (12, .p (.int .i64 ((0 : Nat) : Int)))], [(9, .pcells 1 (depths l 0))], []⟩ = some (.exit 0, ⟨[(0, .p (.list (l.map GRow.pv)))], [], []⟩) := by
  refine loop_rule' (C := acall T n) (N := N) (B := B45x0) (σ := Nat) (S := fun i => ⟨[(0, .p (.list (l.map GRow.pv))), (3, .own false 9 (l.length + 1)), (10, .p (.list (l.map GRow.pv))), (11, .p (.int .i64 l.length)), (12, .p (.int .i64 i))], [(9, .pcells 1 (depths l i))], []⟩) (I := fun i => i ≤ l.length) (μ := fun i => l.length - i)
    (Φ := fun i => (.exit 0, ⟨[(0, .p (.list (l.map GRow.pv)))], [], []⟩)) ?_ 0 (by omega) (by omega)
  intro i hi
  by_cases h : i < l.length
  · have k1 : (i : Int) < (l.length : Int) := by omega
    obtain ⟨x, hx, hu⟩ := up_val hs (Nat.le_refl _) h
    have hg := getD_map (f := GRow.pv) hx
    have hle := upAt_le hs h h
    have hc := chain_succ hs (Nat.le_refl _) h
    have hdp := hd i h
    rw [hc, List.length_cons] at hdp
    have dl := depths_len l i
    have g1 : (depths l i).getD (upAt l (i + 1)) [] = [.int .i64 ((chain l (upAt l (i + 1))).length : Int)] := by rw [depths_get l (by omega), if_pos (by omega)]
    have s1 : (depths l i).set (i + 1) [.int .i64 (((chain l (upAt l (i + 1))).length : Int) + 1)] = depths l (i + 1) := by
      rw [← depths_set l h, hc, List.length_cons]; push_cast; rfl
    have g2 : (depths l (i + 1)).getD (i + 1) [] = [.int .i64 (((chain l (upAt l (i + 1))).length : Int) + 1)] := by rw [depths_get l (by omega), if_pos (by omega), hc, List.length_cons]; push_cast; rfl
    have g3 : (depths l i).getD (i + 1) [] = [.int .i64 0] := by rw [depths_get l (by omega), if_neg (by omega)]
    have k2 : ¬ (64 : Int) < ((chain l (upAt l (i + 1))).length : Int) + 1 := by omega
    have k5 : ((i : Int) + 1).toNat = i + 1 := by omega
    have dl2 := depths_len l (i + 1)
    refine .inl ⟨i + 1, ?_, by omega, by omega, rfl⟩
    simp (implicitDefEqProofs := false) (maxSteps := 1000000) (disch := omega) only [Ra, Rb, Rc, Rd, Re, Rf, Rg, evalOp, St.know, mentions, AObj.mentions, bin, binI, Nat.reduceBEq, Nat.reduceAdd, Nat.reduceLeDiff, Nat.reduceLT, asInt, pures, AV.cells, AObj.rd, AObj.wr, Nat.reduceEqDiff, B45x0, k1, hg, GRow.pv, hu, dl, dl2, g1, g2, g3, s1, k2, k5]
  · have k1 : ¬ (i : Int) < (l.length : Int) := by omega
    refine .inr ⟨?_, by simp⟩
    simp (implicitDefEqProofs := false) (maxSteps := 1000000) (disch := omega) only [Ra, Rb, Rc, Rd, Re, Rf, Rg, evalOp, St.know, mentions, AObj.mentions, bin, binI, Nat.reduceBEq, B45x0, k1]
theorem deep_run (l : List GRow) (hs : standTo l l.length) (hd : shallow l) (hl : l.length ≤ 4096) (g : List AObj) {n : Nat} (hn : l.length < n) : acall T (n + 1) 45 [.p (.list (l.map GRow.pv))] g = some (.p (.bool false), g) := by
  rw [acall_code T45, run_pure rfl rfl rfl]
  have hloop := deep_loop (n := n) (N := n) l hs hd (by omega) hn
  simp only [Int.natCast_zero] at hloop
  have k1 : ¬ (4096 : Int) < (l.length : Int) := by omega
  have k2 : ((l.length : Int) + 1).toNat = l.length + 1 := by omega
  have hz := depths_zero l
  simp (implicitDefEqProofs := false) (maxSteps := 1000000) (disch := omega) only [Ra, Rb, Rc, Rd, Re, Rf, Rg, evalOp, List.zipWith, mentions, AObj.mentions, bin, binI, noLocal, view, tupleOf, oneTup, Nat.reduceBEq, Nat.reduceAdd, asInt, F45, k1, k2, hz, hloop]
end Go.TA.Tryd

end
section
/- Tags and names: what the document's answer says of them. -/
set_option linter.unusedVariables false
set_option linter.unusedSimpArgs false
set_option maxRecDepth 100000
set_option maxHeartbeats 1000000
namespace Go.TA.Tryd
theorem inner_run (c : UInt8) (more : Bool) (g : List AObj) (n : Nat) : acall T (n + 1) 42 [.p (.int .u8 c.toNat), .p (.bool more)] g = some (.p (.bool (innerB more c)), g) := by
  rw [acall_code T42, run_pure rfl rfl rfl]
  by_cases h5 : (c.toNat : Int) = 45
  · simp (implicitDefEqProofs := false) (maxSteps := 1000000) (disch := omega) only [Ra, Rb, Rc, Rd, Re, Rf, Rg, guardK, evalOp, List.zipWith, mentions, AObj.mentions, bin, binI, avEq, noLocal, view, tupleOf, oneTup, Nat.reduceBEq, Nat.reduceAdd, Int.reduceBEq, Int.reduceLE, F42, innerB, smallB, digitB, h5]
  have e5 : ((c.toNat : Int) == 45) = false := by simpa using h5
  by_cases h1 : (97 : Int) ≤ c.toNat
  · by_cases h2 : (c.toNat : Int) ≤ 122
    · simp (implicitDefEqProofs := false) (maxSteps := 1000000) (disch := omega) only [Ra, Rb, Rc, Rd, Re, Rf, Rg, guardK, evalOp, List.zipWith, mentions, AObj.mentions, bin, binI, avEq, noLocal, view, tupleOf, oneTup, Nat.reduceBEq, Nat.reduceAdd, F42, innerB, smallB, digitB, h1, h2]
    · have h3 : (48 : Int) ≤ c.toNat := by omega
      have h4 : ¬ (c.toNat : Int) ≤ 57 := by omega
      have e6 : ((c.toNat : Int) == 58) = false := by simp; omega
      have e7 : ((c.toNat : Int) == 46) = false := by simp; omega
      cases more
      · simp (implicitDefEqProofs := false) (maxSteps := 1000000) (disch := omega) only [Ra, Rb, Rc, Rd, Re, Rf, Rg, guardK, evalOp, List.zipWith, mentions, AObj.mentions, bin, binI, avEq, noLocal, view, tupleOf, oneTup, Nat.reduceBEq, Nat.reduceAdd, F42, innerB, smallB, digitB, h1, h2, h3, h4, e5, e6, e7]
      · simp (implicitDefEqProofs := false) (maxSteps := 1000000) (disch := omega) only [Ra, Rb, Rc, Rd, Re, Rf, Rg, guardK, evalOp, List.zipWith, mentions, AObj.mentions, bin, binI, avEq, noLocal, view, tupleOf, oneTup, Nat.reduceBEq, Nat.reduceAdd, F42, innerB, smallB, digitB, h1, h2, h3, h4, e5, e6, e7]
  · by_cases h3 : (48 : Int) ≤ c.toNat
    · by_cases h4 : (c.toNat : Int) ≤ 57
      · simp (implicitDefEqProofs := false) (maxSteps := 1000000) (disch := omega) only [Ra, Rb, Rc, Rd, Re, Rf, Rg, guardK, evalOp, List.zipWith, mentions, AObj.mentions, bin, binI, avEq, noLocal, view, tupleOf, oneTup, Nat.reduceBEq, Nat.reduceAdd, F42, innerB, smallB, digitB, h1, h3, h4]
      · have e7 : ((c.toNat : Int) == 46) = false := by simp; omega
        cases more
        · simp (implicitDefEqProofs := false) (maxSteps := 1000000) (disch := omega) only [Ra, Rb, Rc, Rd, Re, Rf, Rg, guardK, evalOp, List.zipWith, mentions, AObj.mentions, bin, binI, avEq, noLocal, view, tupleOf, oneTup, Nat.reduceBEq, Nat.reduceAdd, F42, innerB, smallB, digitB, h1, h3, h4, e5, e7]
        · by_cases h6 : (c.toNat : Int) = 58
          · simp (implicitDefEqProofs := false) (maxSteps := 1000000) (disch := omega) only [Ra, Rb, Rc, Rd, Re, Rf, Rg, guardK, evalOp, List.zipWith, mentions, AObj.mentions, bin, binI, avEq, noLocal, view, tupleOf, oneTup, Nat.reduceBEq, Nat.reduceAdd, Int.reduceBEq, Int.reduceLE, F42, innerB, smallB, digitB, h6]
          · have e6 : ((c.toNat : Int) == 58) = false := by simpa using h6
            simp (implicitDefEqProofs := false) (maxSteps := 1000000) (disch := omega) only [Ra, Rb, Rc, Rd, Re, Rf, Rg, guardK, evalOp, List.zipWith, mentions, AObj.mentions, bin, binI, avEq, noLocal, view, tupleOf, oneTup, Nat.reduceBEq, Nat.reduceAdd, F42, innerB, smallB, digitB, h1, h3, h4, e5, e6, e7]
    · have e6 : ((c.toNat : Int) == 58) = false := by simp; omega
      cases more
      · simp (implicitDefEqProofs := false) (maxSteps := 1000000) (disch := omega) only [Ra, Rb, Rc, Rd, Re, Rf, Rg, guardK, evalOp, List.zipWith, mentions, AObj.mentions, bin, binI, avEq, noLocal, view, tupleOf, oneTup, Nat.reduceBEq, Nat.reduceAdd, F42, innerB, smallB, digitB, h1, h3, e5, e6]
      · by_cases h7 : (c.toNat : Int) = 46
        · simp (implicitDefEqProofs := false) (maxSteps := 1000000) (disch := omega) only [Ra, Rb, Rc, Rd, Re, Rf, Rg, guardK, evalOp, List.zipWith, mentions, AObj.mentions, bin, binI, avEq, noLocal, view, tupleOf, oneTup, Nat.reduceBEq, Nat.reduceAdd, Int.reduceBEq, Int.reduceLE, F42, innerB, smallB, digitB, h7]
        · have e7 : ((c.toNat : Int) == 46) = false := by simpa using h7
          simp (implicitDefEqProofs := false) (maxSteps := 1000000) (disch := omega) only [Ra, Rb, Rc, Rd, Re, Rf, Rg, guardK, evalOp, List.zipWith, mentions, AObj.mentions, bin, binI, avEq, noLocal, view, tupleOf, oneTup, Nat.reduceBEq, Nat.reduceAdd, F42, innerB, smallB, digitB, h1, h3, e5, e6, e7]
theorem named02_loop {n N : Nat} (s : Bs) (more : Bool) (hs : s.length ≤ 32) (hN : 32 < N) (i : Nat) (hi : i ≤ s.length) :
    aexec (acall T (n + 1)) N (.loop B30x0) ⟨[(0, .p (.str s)), (1, .p (.bool more)), (5, .p (.int .i64 i))], [], []⟩ = some (outB ((s.drop i).all (innerB more))) := by
  refine loop_rule' (σ := Nat) (S := fun i => ⟨[(0, .p (.str s)), (1, .p (.bool more)), (5, .p (.int .i64 i))], [], []⟩) (I := fun i => i ≤ s.length) (μ := fun i => s.length - i)
    (Φ := fun i => outB ((s.drop i).all (innerB more))) ?_ i hi (by omega)
  intro i hi
  by_cases h : i < s.length
  · obtain ⟨c, hc⟩ := get_some h
    have hg := getD_get hc
    have k1 : (i : Int) < (s.length : Int) := by omega
    rw [drop_cons hc]
    cases hb : innerB more c with
    | true =>
      refine .inl ⟨i + 1, ?_, by omega, by omega, by simp [hb]⟩
      simp (implicitDefEqProofs := false) (maxSteps := 1000000) (disch := omega) only [Ra, Rb, Rc, Rd, Re, Rf, Rg, evalOp, St.know, mentions, AObj.mentions, bin, binI, una, view, viewT, pureArg, allFlat, flat, Nat.reduceBEq, asInt, B30x0, k1, hg, inner_run, hb]
    | false =>
      refine .inr ⟨?_, by simp [hb, outB]⟩
      have eF : outB ((c :: s.drop (i + 1)).all (innerB more)) = (.ret, ⟨[(4, .p (.bool false))], [], []⟩) := by simp [outB, hb]
      rw [eF]
      simp (implicitDefEqProofs := false) (maxSteps := 1000000) (disch := omega) only [Ra, Rb, Rc, Rd, Re, Rf, Rg, evalOp, St.know, mentions, AObj.mentions, bin, binI, una, view, viewT, pureArg, allFlat, flat, Nat.reduceBEq, asInt, B30x0, k1, hg, inner_run, hb]
  · refine .inr ⟨?_, by rw [List.drop_eq_nil_of_le (by omega)]; simp [outB]⟩
    have k1 : ¬ (i : Int) < (s.length : Int) := by omega
    rw [List.drop_eq_nil_of_le (by omega)]
    simp (implicitDefEqProofs := false) (maxSteps := 1000000) (disch := omega) only [Ra, Rb, Rc, Rd, Re, Rf, Rg, evalOp, St.know, mentions, AObj.mentions, bin, binI, Nat.reduceBEq, B30x0, k1, outB]
theorem named02_run (s : Bs) (more : Bool) (g : List AObj) (n : Nat) : acall T (n + 35) 30 [.p (.str s), .p (.bool more)] g = some (.p (.bool (namedB more s)), g) := by
  rw [acall_code T30, run_pure rfl rfl rfl]
  cases s with
  | nil => simp (implicitDefEqProofs := false) (maxSteps := 1000000) (disch := omega) only [Ra, Rb, Rc, Rd, Re, Rf, Rg, guardK, evalOp, St.know, List.zipWith, mentions, AObj.mentions, bin, binI, noLocal, view, tupleOf, oneTup, Nat.reduceBEq, Nat.reduceAdd, asInt, Int.reduceLT, F30, namedB, Int.natCast_zero]
  | cons c r =>
    have k0 : ¬ ((r.length : Int) + 1 < 1) := by omega
    by_cases h32 : (c :: r).length ≤ 32
    · have k1 : ¬ (32 < (r.length : Int) + 1) := by simp at h32; omega
      have hl := named02_loop (n := n + 33) (N := n + 34) (c :: r) more h32 (by omega) 1 (by simp)
      simp only [Int.natCast_one] at hl
      by_cases h1 : (97 : Int) ≤ c.toNat
      · by_cases h2 : (c.toNat : Int) ≤ 122
        · have h1' : ¬ ((c.toNat : Int) < 97) := by omega
          have h2' : ¬ (122 < (c.toNat : Int)) := by omega
          have e : namedB more (c :: r) = r.all (innerB more) := by simp [namedB, smallB, h1, h2]; simp at h32; omega
          rw [e]
          cases hb : r.all (innerB more) with
          | true =>
            have hl' : outB (((c :: r).drop 1).all (innerB more)) = (.exit 0, ⟨[], [], []⟩) := by simp [outB, hb]
            rw [hl'] at hl
            simp (implicitDefEqProofs := false) (maxSteps := 1000000) (disch := omega) only [Ra, Rb, Rc, Rd, Re, Rf, Rg, guardK, evalOp, St.know, List.zipWith, mentions, AObj.mentions, bin, binI, noLocal, view, tupleOf, oneTup, Nat.reduceBEq, Nat.reduceAdd, asInt, Int.reduceToNat, Int.reduceLE, F30, k0, k1, h1', h2', hl]
          | false =>
            have hl' : outB (((c :: r).drop 1).all (innerB more)) = (.ret, ⟨[(4, .p (.bool false))], [], []⟩) := by simp [outB, hb]
            rw [hl'] at hl
            simp (implicitDefEqProofs := false) (maxSteps := 1000000) (disch := omega) only [Ra, Rb, Rc, Rd, Re, Rf, Rg, guardK, evalOp, St.know, List.zipWith, mentions, AObj.mentions, bin, binI, noLocal, view, tupleOf, oneTup, Nat.reduceBEq, Nat.reduceAdd, asInt, Int.reduceToNat, Int.reduceLE, F30, k0, k1, h1', h2', hl]
        · have h1' : ¬ ((c.toNat : Int) < 97) := by omega
          have h2' : 122 < (c.toNat : Int) := by omega
          have e : namedB more (c :: r) = false := by simp [namedB, smallB, h2]
          rw [e]
          simp (implicitDefEqProofs := false) (maxSteps := 1000000) (disch := omega) only [Ra, Rb, Rc, Rd, Re, Rf, Rg, guardK, evalOp, St.know, List.zipWith, mentions, AObj.mentions, bin, binI, noLocal, view, tupleOf, oneTup, Nat.reduceBEq, Nat.reduceAdd, asInt, Int.reduceToNat, Int.reduceLE, F30, k0, k1, h1', h2']
      · have h1' : (c.toNat : Int) < 97 := by omega
        have e : namedB more (c :: r) = false := by simp [namedB, smallB, h1]
        rw [e]
        simp (implicitDefEqProofs := false) (maxSteps := 1000000) (disch := omega) only [Ra, Rb, Rc, Rd, Re, Rf, Rg, guardK, evalOp, St.know, List.zipWith, mentions, AObj.mentions, bin, binI, noLocal, view, tupleOf, oneTup, Nat.reduceBEq, Nat.reduceAdd, asInt, Int.reduceToNat, Int.reduceLE, F30, k0, k1, h1']
    · have k1 : 32 < (r.length : Int) + 1 := by simp at h32; omega
      have e : namedB more (c :: r) = false := by simp [namedB]; simp at h32; omega
      rw [e]
      simp (implicitDefEqProofs := false) (maxSteps := 1000000) (disch := omega) only [Ra, Rb, Rc, Rd, Re, Rf, Rg, guardK, evalOp, St.know, List.zipWith, mentions, AObj.mentions, bin, binI, noLocal, view, tupleOf, oneTup, Nat.reduceBEq, Nat.reduceAdd, asInt, F30, k0, k1]
end Go.TA.Tryd

end
section
/- Which text is ahead. -/
set_option linter.unusedVariables false
set_option linter.unusedSimpArgs false
set_option maxRecDepth 100000
set_option maxHeartbeats 1000000
namespace Go.TA.Tryd
def cmpB : Bs → Bs → Int
  | [], [] => 0
  | [], _ :: _ => -1
  | _ :: _, [] => 1
  | a :: x, b :: y => if (a.toNat : Int) < b.toNat then -1 else if (b.toNat : Int) < a.toNat then 1 else cmpB x y
theorem cmpB_less : ∀ {x y : Bs}, x ≠ y → (0 < cmpB x y ↔ (strLess x y || x == y) = false)
  | [], [], h => absurd rfl h
  | [], b :: y, h => by simp [cmpB, strLess]
  | a :: x, [], h => by simp [cmpB, strLess]
  | a :: x, b :: y, h => by
    have e1 : (a < b) = ((a.toNat : Int) < b.toNat) := by rw [UInt8.lt_iff_toNat_lt]; simp
    simp only [cmpB, strLess]
    by_cases h1 : (a.toNat : Int) < b.toNat
    · simp [h1, e1]
    · by_cases h2 : (b.toNat : Int) < a.toNat
      · have hne : a ≠ b := fun e => by subst e; omega
        have hne' : ¬ (a :: x = b :: y) := fun e => hne (by injection e)
        simp [h1, h2, e1, hne]
      · have he : a = b := UInt8.toNat_inj.1 (by omega)
        subst he
        have hxy : x ≠ y := fun e => h (by rw [e])
        have := cmpB_less hxy
        simp only [h1, if_false, this, e1]
        simp [h1]
def cmpOut (a b : Bs) (r : Int) : Ex × St := if r = -1 then (.ret, ⟨[(4, .p (.int .i64 (-1)))], [], []⟩) else if r = 1 then (.ret, ⟨[(4, .p (.int .i64 1))], [], []⟩) else (.exit 0, ⟨[(0, .p (.str a)), (1, .p (.str b))], [], []⟩)
/-- The first place where two texts part: -1, 1; 0: there is none up to the shorter one's end. -/
def part : Bs → Bs → Int
  | a :: x, b :: y => if (a.toNat : Int) < b.toNat then -1 else if (b.toNat : Int) < a.toNat then 1 else part x y
  | _, _ => 0
theorem cmp_part : ∀ (x y : Bs), cmpB x y = if part x y = 0 then (if x.length < y.length then -1 else if y.length < x.length then 1 else 0) else part x y
  | [], [] => by simp [cmpB, part]
  | [], _ :: _ => by simp [cmpB, part]
  | _ :: _, [] => by simp [cmpB, part]
  | a :: x, b :: y => by
    simp only [cmpB, part, cmp_part x y, List.length_cons]
    split
    · simp
    · split
      · simp
      · simp
theorem cmp_loop {n N : Nat} (a b : Bs) (hN : a.length < N) (hb : b.length ≤ 1048577) :
    aexec (acall T n) N (.loop B43x0) ⟨[(0, .p (.str a)), (1, .p (.str b)), (5, .p (.int .i64 ((0 : Nat) : Int)))], [], []⟩ = some (cmpOut a b (part a b)) := by
  refine loop_rule' (C := acall T n) (N := N) (B := B43x0) (σ := Nat) (S := fun i => ⟨[(0, .p (.str a)), (1, .p (.str b)), (5, .p (.int .i64 i))], [], []⟩) (I := fun i => i ≤ a.length ∧ i ≤ b.length) (μ := fun i => a.length - i)
    (Φ := fun i => cmpOut a b (part (a.drop i) (b.drop i))) ?_ 0 ⟨by omega, by omega⟩ (by omega)
  rintro i ⟨hia, hib⟩
  by_cases h : i < a.length
  · have k1 : (i : Int) < (a.length : Int) := by omega
    obtain ⟨x, hx⟩ := get_some h
    have gx := getD_get hx
    by_cases h' : i < b.length
    · have k2 : (i : Int) < (b.length : Int) := by omega
      obtain ⟨y, hy⟩ := get_some h'
      have gy := getD_get hy
      rw [drop_cons hx, drop_cons hy]
      by_cases c1 : (x.toNat : Int) < y.toNat
      · refine .inr ⟨?_, by simp [part, c1, cmpOut]⟩
        have e : part (x :: a.drop (i + 1)) (y :: b.drop (i + 1)) = -1 := by simp [part, c1]
        rw [e]
        simp (implicitDefEqProofs := false) (maxSteps := 1000000) (disch := omega) only [Ra, Rb, Rc, Rd, Re, Rf, Rg, guardK, evalOp, St.know, mentions, AObj.mentions, bin, binI, Nat.reduceBEq, asInt, reduceCtorEq, Int.reduceNeg, B43x0, k1, k2, gx, gy, c1, cmpOut]
      · by_cases c2 : (y.toNat : Int) < x.toNat
        · refine .inr ⟨?_, by simp [part, c1, c2, cmpOut]⟩
          have e : part (x :: a.drop (i + 1)) (y :: b.drop (i + 1)) = 1 := by simp [part, c1, c2]
          rw [e]
          simp (implicitDefEqProofs := false) (maxSteps := 1000000) (disch := omega) only [Ra, Rb, Rc, Rd, Re, Rf, Rg, guardK, evalOp, St.know, mentions, AObj.mentions, bin, binI, Nat.reduceBEq, asInt, reduceCtorEq, Int.reduceNeg, B43x0, k1, k2, gx, gy, c1, c2, cmpOut]
        · refine .inl ⟨i + 1, ?_, ⟨by omega, by omega⟩, by omega, by simp [part, c1, c2]⟩
          simp (implicitDefEqProofs := false) (maxSteps := 1000000) (disch := omega) only [Ra, Rb, Rc, Rd, Re, Rf, Rg, guardK, evalOp, St.know, mentions, AObj.mentions, bin, binI, Nat.reduceBEq, asInt, Int.reduceNeg, B43x0, k1, k2, gx, gy, c1, c2]
    · have k2 : ¬ (i : Int) < (b.length : Int) := by omega
      have e : part (a.drop i) (b.drop i) = 0 := by rw [drop_cons hx, List.drop_eq_nil_of_le (by omega : b.length ≤ i)]; rfl
      refine .inr ⟨?_, by rw [e]; simp [cmpOut]⟩
      rw [e]
      simp (implicitDefEqProofs := false) (maxSteps := 1000000) (disch := omega) only [Ra, Rb, Rc, Rd, Re, Rf, Rg, guardK, evalOp, St.know, mentions, AObj.mentions, bin, binI, Nat.reduceBEq, reduceCtorEq, Int.reduceEq, Int.reduceNeg, B43x0, k1, k2, cmpOut]
  · have k1 : ¬ (i : Int) < (a.length : Int) := by omega
    have e : part (a.drop i) (b.drop i) = 0 := by rw [List.drop_eq_nil_of_le (by omega : a.length ≤ i)]; rfl
    refine .inr ⟨?_, by rw [e]; simp [cmpOut]⟩
    rw [e]
    simp (implicitDefEqProofs := false) (maxSteps := 1000000) (disch := omega) only [Ra, Rb, Rc, Rd, Re, Rf, Rg, guardK, evalOp, St.know, mentions, AObj.mentions, bin, binI, Nat.reduceBEq, reduceCtorEq, Int.reduceEq, Int.reduceNeg, B43x0, k1, cmpOut]
theorem part_cases : ∀ (x y : Bs), part x y = -1 ∨ part x y = 1 ∨ part x y = 0
  | [], [] => by simp [part]
  | [], _ :: _ => by simp [part]
  | _ :: _, [] => by simp [part]
  | a :: x, b :: y => by
    simp only [part]
    split
    · simp
    · split
      · simp
      · exact part_cases x y
theorem cmp_run (a b : Bs) (g : List AObj) {n : Nat} (ha : a.length < n) (hb : b.length ≤ 1048577) : acall T (n + 1) 43 [.p (.str a), .p (.str b)] g = some (.p (.int .i64 (cmpB a b)), g) := by
  rw [acall_code T43, run_pure rfl rfl rfl, cmp_part]
  have hl := cmp_loop (n := n) (N := n) a b ha hb
  simp only [Int.natCast_zero] at hl
  rcases part_cases a b with h | h | h
  · rw [h] at hl ⊢
    simp only [cmpOut] at hl
    simp (implicitDefEqProofs := false) (maxSteps := 1000000) (disch := omega) only [Ra, Rb, Rc, Rd, Re, Rf, Rg, evalOp, List.zipWith, mentions, AObj.mentions, noLocal, view, tupleOf, oneTup, Nat.reduceBEq, Nat.reduceAdd, reduceCtorEq, Int.reduceNeg, F43, hl]
  · rw [h] at hl ⊢
    simp only [cmpOut] at hl
    simp (implicitDefEqProofs := false) (maxSteps := 1000000) (disch := omega) only [Ra, Rb, Rc, Rd, Re, Rf, Rg, evalOp, List.zipWith, mentions, AObj.mentions, noLocal, view, tupleOf, oneTup, Nat.reduceBEq, Nat.reduceAdd, reduceCtorEq, Int.reduceEq, Int.reduceNeg, F43, hl]
  · rw [h] at hl ⊢
    simp only [cmpOut] at hl
    by_cases c1 : a.length < b.length
    · have k1 : (a.length : Int) < (b.length : Int) := by omega
      simp (implicitDefEqProofs := false) (maxSteps := 1000000) (disch := omega) only [Ra, Rb, Rc, Rd, Re, Rf, Rg, evalOp, St.know, List.zipWith, mentions, AObj.mentions, bin, binI, noLocal, view, tupleOf, oneTup, Nat.reduceBEq, Nat.reduceAdd, reduceCtorEq, Int.reduceEq, Int.reduceNeg, F43, hl, k1, c1]
    · have k1 : ¬ (a.length : Int) < (b.length : Int) := by omega
      by_cases c2 : b.length < a.length
      · have k2 : (b.length : Int) < (a.length : Int) := by omega
        simp (implicitDefEqProofs := false) (maxSteps := 1000000) (disch := omega) only [Ra, Rb, Rc, Rd, Re, Rf, Rg, evalOp, St.know, List.zipWith, mentions, AObj.mentions, bin, binI, noLocal, view, tupleOf, oneTup, Nat.reduceBEq, Nat.reduceAdd, reduceCtorEq, Int.reduceEq, Int.reduceNeg, F43, hl, k1, c1, k2, c2]
      · have k2 : ¬ (b.length : Int) < (a.length : Int) := by omega
        simp (implicitDefEqProofs := false) (maxSteps := 1000000) (disch := omega) only [Ra, Rb, Rc, Rd, Re, Rf, Rg, evalOp, St.know, List.zipWith, mentions, AObj.mentions, bin, binI, noLocal, view, tupleOf, oneTup, Nat.reduceBEq, Nat.reduceAdd, reduceCtorEq, Int.reduceEq, Int.reduceNeg, F43, hl, k1, c1, k2, c2]
end Go.TA.Tryd

end
section
/- What is wrong with attributes: the document's answer. -/
set_option linter.unusedVariables false
set_option linter.unusedSimpArgs false
set_option maxRecDepth 100000
set_option maxHeartbeats 8000000
namespace Go.TA.Tryd
/-- What is wrong with an attribute behind another one (a list without a first: none). -/
def attrErr (p : List Attr) (i : Nat) (a : Attr) : Int :=
  if i = 64 then 12 else if namedB true a.name = false then 8 else if 65536 < (a.value.length : Int) then 3 else match p with
    | [] => 0
    | b :: _ => if b.name = a.name then 10 else if 0 < cmpB b.name a.name then 9 else 0
def attrsChk : List Attr → Nat → List Attr → Int × Int
  | _, _, [] => (0, 0)
  | p, i, a :: l => if attrErr p i a = 0 then attrsChk [a] (i + 1) l else (i, attrErr p i a)
def attrsErr (l : List Attr) : Int := (attrsChk [] 0 l).2
def prevOf (l : List Attr) : Nat → List Attr
  | 0 => []
  | i + 1 => (l[i]?).toList
def chkOut (r : Int × Int) : Ex × St := if r.2 = 0 then (.exit 0, ⟨[], [], []⟩) else (.ret, ⟨[(2, .p (.int .i64 r.1)), (3, .p (.int .i64 r.2))], [], []⟩)
theorem chk_step {l : List Attr} {i : Nat} {a : Attr} (h : l[i]? = some a) : attrsChk (prevOf l i) i (l.drop i) = if attrErr (prevOf l i) i a = 0 then attrsChk (prevOf l (i + 1)) (i + 1) (l.drop (i + 1)) else ((i : Int), attrErr (prevOf l i) i a) := by
  have e : prevOf l (i + 1) = [a] := by simp [prevOf, h]
  rw [drop_cons h, e]
  simp only [attrsChk]
theorem a09_loop {n N : Nat} (l : List Attr) (hs : smallAttrs l) (hN : l.length < N) (hn : 1048576 < n) :
    aexec (acall T (n + 35)) N (.loop B31x0) ⟨[(0, .p (.list (l.map Attr.pv))), (6, .p (.int .i64 l.length)), (7, .p (.int .i64 ((0 : Nat) : Int)))], [], []⟩ = some (chkOut (attrsChk [] 0 l)) := by
  refine loop_rule' (C := acall T (n + 35)) (N := N) (B := B31x0) (σ := Nat) (S := fun i => ⟨[(0, .p (.list (l.map Attr.pv))), (6, .p (.int .i64 l.length)), (7, .p (.int .i64 i))], [], []⟩) (I := fun i => i ≤ l.length ∧ i ≤ 64) (μ := fun i => l.length - i)
    (Φ := fun i => chkOut (attrsChk (prevOf l i) i (l.drop i))) ?_ 0 ⟨by omega, by omega⟩ (by omega)
  rintro i ⟨hi, hi64⟩
  by_cases h : i < l.length
  · have k1 : (i : Int) < (l.length : Int) := by omega
    obtain ⟨a, ha⟩ := get_some h
    have ga := getD_map (f := Attr.pv) ha
    have hsa := hs a (List.mem_of_getElem? ha)
    rw [chk_step ha]
    -- what is wrong: the run ends
    have bad : ∀ e : Int, attrErr (prevOf l i) i a = e → e ≠ 0 → aexec (acall T (n + 35)) N B31x0 ⟨[(0, .p (.list (l.map Attr.pv))), (6, .p (.int .i64 l.length)), (7, .p (.int .i64 i))], [], []⟩ = some (.ret, ⟨[(2, .p (.int .i64 i)), (3, .p (.int .i64 e))], [], []⟩) →
        (∃ s', aexec (acall T (n + 35)) N B31x0 ⟨[(0, .p (.list (l.map Attr.pv))), (6, .p (.int .i64 l.length)), (7, .p (.int .i64 i))], [], []⟩ = some (.normal, (fun (i : Nat) => (⟨[(0, .p (.list (l.map Attr.pv))), (6, .p (.int .i64 l.length)), (7, .p (.int .i64 i))], [], []⟩ : St)) s') ∧ (s' ≤ l.length ∧ s' ≤ 64) ∧ l.length - s' < l.length - i ∧ chkOut (if attrErr (prevOf l i) i a = 0 then attrsChk (prevOf l (i + 1)) (i + 1) (l.drop (i + 1)) else ((i : Int), attrErr (prevOf l i) i a)) = chkOut (attrsChk (prevOf l s') s' (l.drop s'))) ∨
        (aexec (acall T (n + 35)) N B31x0 ⟨[(0, .p (.list (l.map Attr.pv))), (6, .p (.int .i64 l.length)), (7, .p (.int .i64 i))], [], []⟩ = some (chkOut (if attrErr (prevOf l i) i a = 0 then attrsChk (prevOf l (i + 1)) (i + 1) (l.drop (i + 1)) else ((i : Int), attrErr (prevOf l i) i a))) ∧ (chkOut (if attrErr (prevOf l i) i a = 0 then attrsChk (prevOf l (i + 1)) (i + 1) (l.drop (i + 1)) else ((i : Int), attrErr (prevOf l i) i a))).1 ≠ .normal) := fun e he h0 hr => by
      refine .inr ?_
      rw [he, if_neg h0]
      simp only [chkOut, h0, if_false]
      exact ⟨hr, by simp⟩
    by_cases h64 : i = 64
    · refine bad 12 (by simp [attrErr, h64]) (by decide) ?_
      have k2 : ((i : Int) == 64) = true := by simp; omega
      simp (implicitDefEqProofs := false) (maxSteps := 1000000) (disch := omega) only [Ra, Rb, Rc, Rd, Re, Rf, Rg, evalOp, St.know, mentions, AObj.mentions, bin, binI, avEq, Nat.reduceBEq, B31x0, k1, k2]
    have k2 : ((i : Int) == 64) = false := by simp; omega
    cases hnm : namedB true a.name with
    | false =>
      refine bad 8 (by simp [attrErr, h64, hnm]) (by decide) ?_
      simp (implicitDefEqProofs := false) (maxSteps := 1000000) (disch := omega) only [Ra, Rb, Rc, Rd, Re, Rf, Rg, evalOp, St.know, mentions, AObj.mentions, bin, binI, avEq, una, view, viewT, pureArg, allFlat, flat, Nat.reduceBEq, Nat.reduceAdd, asInt, B31x0, k1, k2, ga, Attr.pv, named02_run, hnm]
    | true =>
    by_cases hlong : 65536 < (a.value.length : Int)
    · refine bad 3 (by simp [attrErr, h64, hnm, hlong]) (by decide) ?_
      simp (implicitDefEqProofs := false) (maxSteps := 1000000) (disch := omega) only [Ra, Rb, Rc, Rd, Re, Rf, Rg, evalOp, St.know, mentions, AObj.mentions, bin, binI, avEq, una, view, viewT, pureArg, allFlat, flat, Nat.reduceBEq, Nat.reduceAdd, Nat.reduceLeDiff, asInt, B31x0, k1, k2, ga, Attr.pv, named02_run, hnm, hlong]
    cases i with
    | zero =>
      have e : attrErr (prevOf l 0) 0 a = 0 := by simp [attrErr, hnm, hlong, prevOf]
      rw [e, if_pos rfl]
      refine .inl ⟨1, ?_, ⟨by omega, by omega⟩, by omega, rfl⟩
      simp only [Int.natCast_zero, Int.natCast_one] at k1 k2 ⊢
      have k3 : (0 : Int) < (l.length : Int) := k1
      have ga0 : (l.map Attr.pv).getD 0 [] = Attr.pv a := ga
      have e0 : Int.toNat 0 = 0 := rfl
      simp (implicitDefEqProofs := false) (maxSteps := 1000000) (disch := omega) only [Ra, Rb, Rc, Rd, Re, Rf, Rg, guardK, evalOp, St.know, mentions, AObj.mentions, bin, binI, avEq, una, view, viewT, pureArg, allFlat, flat, Nat.reduceBEq, Nat.reduceAdd, Nat.reduceLeDiff, asInt, Int.reduceBEq, Int.reduceLT, Int.reduceLE, Int.reduceAdd, B31x0, k3, ga0, e0, Attr.pv, named02_run, hnm, hlong]
    | succ j =>
      obtain ⟨b, hb⟩ := get_some (show j < l.length by omega)
      have gb := getD_map (f := Attr.pv) hb
      have hsb := hs b (List.mem_of_getElem? hb)
      have ep : prevOf l (j + 1) = [b] := by simp [prevOf, hb]
      have k3 : (0 : Int) < (j : Int) + 1 := by omega
      have k4 : (j : Int) < (l.length : Int) := by omega
      simp only [Int.natCast_add, Int.natCast_one] at k1 k2
      have k5 : ((j : Int) + 1).toNat = j + 1 := by omega
      have hc := fun g => cmp_run (n := n + 34) b.name a.name g (by omega) (by omega)
      by_cases heq : b.name = a.name
      · refine bad 10 (by simp [attrErr, h64, hnm, hlong, ep, heq]) (by decide) ?_
        have heq' : (b.name == a.name) = true := by simpa using heq
        simp (implicitDefEqProofs := false) (maxSteps := 1000000) (disch := omega) only [Ra, Rb, Rc, Rd, Re, Rf, Rg, guardK, evalOp, St.know, mentions, AObj.mentions, bin, binI, avEq, una, view, viewT, pureArg, allFlat, flat, Nat.reduceBEq, Nat.reduceAdd, Nat.reduceLeDiff, asInt, B31x0, k1, k2, k3, k4, k5, ga, gb, Attr.pv, named02_run, hnm, hlong, heq']
      · have heq' : (b.name == a.name) = false := by simpa using heq
        by_cases hgt : 0 < cmpB b.name a.name
        · refine bad 9 (by simp [attrErr, h64, hnm, hlong, ep, heq, hgt]) (by decide) ?_
          simp (implicitDefEqProofs := false) (maxSteps := 1000000) (disch := omega) only [Ra, Rb, Rc, Rd, Re, Rf, Rg, guardK, evalOp, St.know, mentions, AObj.mentions, bin, binI, avEq, una, view, viewT, pureArg, allFlat, flat, Nat.reduceBEq, Nat.reduceAdd, Nat.reduceLeDiff, asInt, B31x0, k1, k2, k3, k4, k5, ga, gb, Attr.pv, named02_run, hnm, hlong, heq', hc, hgt]
        · have e : attrErr (prevOf l (j + 1)) (j + 1) a = 0 := by simp [attrErr, h64, hnm, hlong, ep, heq, hgt]
          rw [e, if_pos rfl]
          refine .inl ⟨j + 1 + 1, ?_, ⟨by omega, by omega⟩, by omega, rfl⟩
          simp (implicitDefEqProofs := false) (maxSteps := 1000000) (disch := omega) only [Ra, Rb, Rc, Rd, Re, Rf, Rg, guardK, evalOp, St.know, mentions, AObj.mentions, bin, binI, avEq, una, view, viewT, pureArg, allFlat, flat, Nat.reduceBEq, Nat.reduceAdd, Nat.reduceLeDiff, asInt, B31x0, k1, k2, k3, k4, k5, ga, gb, Attr.pv, named02_run, hnm, hlong, heq', hc, hgt]
  · have k1 : ¬ (i : Int) < (l.length : Int) := by omega
    have e : l.drop i = [] := List.drop_eq_nil_of_le (by omega)
    refine .inr ⟨?_, by rw [e]; simp [attrsChk, chkOut]⟩
    rw [e]
    simp (implicitDefEqProofs := false) (maxSteps := 1000000) (disch := omega) only [Ra, Rb, Rc, Rd, Re, Rf, Rg, evalOp, St.know, mentions, AObj.mentions, bin, binI, Nat.reduceBEq, B31x0, k1, attrsChk, chkOut]
theorem a09_run (l : List Attr) (hs : smallAttrs l) (g : List AObj) {n : Nat} (hl : l.length < n + 35) (hn : 1048576 < n) : acall T (n + 36) 31 [.p (.list (l.map Attr.pv))] g = some (.tuple [.p (.int .i64 (attrsChk [] 0 l).1), .p (.int .i64 (attrsErr l))], g) := by
  rw [acall_code T31, run_pure rfl rfl rfl]
  have hloop := a09_loop (n := n) (N := n + 35) l hs hl hn
  simp only [Int.natCast_zero] at hloop
  unfold attrsErr
  have h1 : (attrsChk [] 0 l).2 = 0 → (attrsChk [] 0 l).1 = 0 := by
    have key : ∀ (p : List Attr) (i : Nat) (l : List Attr), (attrsChk p i l).2 = 0 → (attrsChk p i l).1 = 0 := by
      intro p i l
      induction l generalizing p i with
      | nil => simp [attrsChk]
      | cons a l ih =>
        simp only [attrsChk]
        split
        · exact ih _ _
        · rename_i h; intro h'; exact absurd h' h
    exact key [] 0 l
  generalize attrsChk [] 0 l = r at hloop h1
  obtain ⟨x, e⟩ := r
  simp only [chkOut] at hloop h1 ⊢
  by_cases h : e = 0
  · rw [if_pos h] at hloop
    rw [h1 h, h]
    simp (implicitDefEqProofs := false) (maxSteps := 1000000) (disch := omega) only [Ra, Rb, Rc, Rd, Re, Rf, Rg, evalOp, List.zipWith, mentions, AObj.mentions, noLocal, view, tupleOf, oneTup, Nat.reduceBEq, Nat.reduceAdd, F31, hloop]
  · rw [if_neg h] at hloop
    simp (implicitDefEqProofs := false) (maxSteps := 1000000) (disch := omega) only [Ra, Rb, Rc, Rd, Re, Rf, Rg, evalOp, List.zipWith, mentions, AObj.mentions, noLocal, view, tupleOf, oneTup, Nat.reduceBEq, Nat.reduceAdd, F31, hloop]
end Go.TA.Tryd

end
section
/- What is wrong with attributes: the program. -/
set_option linter.unusedVariables false
set_option linter.unusedSimpArgs false
set_option maxRecDepth 100000
set_option maxHeartbeats 8000000
namespace Go.TA.Tryd
theorem ap_loop {n N : Nat} (l : List Attr) (hN : l.length < N) :
    aexec (acall T (n + 36)) N (.loop B55x0) ⟨[(0, .p (.list (l.map Attr.pv))), (7, .p (.list (l.map Attr.pv))), (8, .p (.int .i64 l.length)), (9, .p (.int .i64 ((0 : Nat) : Int)))], [], []⟩ = some (chkOut (attrsChk [] 0 l)) := by
  refine loop_rule' (C := acall T (n + 36)) (N := N) (B := B55x0) (σ := Nat) (S := fun i => ⟨[(0, .p (.list (l.map Attr.pv))), (7, .p (.list (l.map Attr.pv))), (8, .p (.int .i64 l.length)), (9, .p (.int .i64 i))], [], []⟩) (I := fun i => i ≤ l.length ∧ i ≤ 64) (μ := fun i => l.length - i)
    (Φ := fun i => chkOut (attrsChk (prevOf l i) i (l.drop i))) ?_ 0 ⟨by omega, by omega⟩ (by omega)
  rintro i ⟨hi, hi64⟩
  by_cases h : i < l.length
  · have k1 : (i : Int) < (l.length : Int) := by omega
    obtain ⟨a, ha⟩ := get_some h
    have ga := getD_map (f := Attr.pv) ha
    rw [chk_step ha]
    have bad : ∀ e : Int, attrErr (prevOf l i) i a = e → e ≠ 0 → aexec (acall T (n + 36)) N B55x0 ⟨[(0, .p (.list (l.map Attr.pv))), (7, .p (.list (l.map Attr.pv))), (8, .p (.int .i64 l.length)), (9, .p (.int .i64 i))], [], []⟩ = some (.ret, ⟨[(2, .p (.int .i64 i)), (3, .p (.int .i64 e))], [], []⟩) →
        (∃ s', aexec (acall T (n + 36)) N B55x0 ⟨[(0, .p (.list (l.map Attr.pv))), (7, .p (.list (l.map Attr.pv))), (8, .p (.int .i64 l.length)), (9, .p (.int .i64 i))], [], []⟩ = some (.normal, (fun (i : Nat) => (⟨[(0, .p (.list (l.map Attr.pv))), (7, .p (.list (l.map Attr.pv))), (8, .p (.int .i64 l.length)), (9, .p (.int .i64 i))], [], []⟩ : St)) s') ∧ (s' ≤ l.length ∧ s' ≤ 64) ∧ l.length - s' < l.length - i ∧ chkOut (if attrErr (prevOf l i) i a = 0 then attrsChk (prevOf l (i + 1)) (i + 1) (l.drop (i + 1)) else ((i : Int), attrErr (prevOf l i) i a)) = chkOut (attrsChk (prevOf l s') s' (l.drop s'))) ∨
        (aexec (acall T (n + 36)) N B55x0 ⟨[(0, .p (.list (l.map Attr.pv))), (7, .p (.list (l.map Attr.pv))), (8, .p (.int .i64 l.length)), (9, .p (.int .i64 i))], [], []⟩ = some (chkOut (if attrErr (prevOf l i) i a = 0 then attrsChk (prevOf l (i + 1)) (i + 1) (l.drop (i + 1)) else ((i : Int), attrErr (prevOf l i) i a))) ∧ (chkOut (if attrErr (prevOf l i) i a = 0 then attrsChk (prevOf l (i + 1)) (i + 1) (l.drop (i + 1)) else ((i : Int), attrErr (prevOf l i) i a))).1 ≠ .normal) := fun e he h0 hr => by
      refine .inr ?_
      rw [he, if_neg h0]
      simp only [chkOut, h0, if_false]
      exact ⟨hr, by simp⟩
    by_cases h64 : i = 64
    · refine bad 12 (by simp [attrErr, h64]) (by decide) ?_
      have k2 : ((i : Int) == 64) = true := by simp; omega
      simp (implicitDefEqProofs := false) (maxSteps := 1000000) (disch := omega) only [Ra, Rb, Rc, Rd, Re, Rf, Rg, evalOp, St.know, mentions, AObj.mentions, bin, binI, avEq, Nat.reduceBEq, Nat.reduceAdd, Nat.reduceLeDiff, Nat.reduceLT, asInt, pures, AV.cells, AObj.rd, AObj.wr, Int.reduceBEq, Nat.reduceEqDiff, B55x0, k1, k2, ga, Attr.pv]
    have k2 : ((i : Int) == 64) = false := by simp; omega
    cases hnm : namedB true a.name with
    | false =>
      refine bad 8 (by simp [attrErr, h64, hnm]) (by decide) ?_
      simp (implicitDefEqProofs := false) (maxSteps := 1000000) (disch := omega) only [Ra, Rb, Rc, Rd, Re, Rf, Rg, evalOp, St.know, mentions, AObj.mentions, bin, binI, avEq, una, view, viewT, pureArg, allFlat, flat, Nat.reduceBEq, Nat.reduceAdd, Nat.reduceLeDiff, Nat.reduceLT, asInt, pures, AV.cells, AObj.rd, AObj.wr, Int.reduceBEq, Nat.reduceEqDiff, B55x0, k1, k2, ga, Attr.pv, name_run, hnm]
    | true =>
    by_cases hlong : (a.value.length : Int) ≤ 65536
    rotate_left
    · refine bad 3 (by simp [attrErr, h64, hnm]; omega) (by decide) ?_
      simp (implicitDefEqProofs := false) (maxSteps := 1000000) (disch := omega) only [Ra, Rb, Rc, Rd, Re, Rf, Rg, evalOp, St.know, mentions, AObj.mentions, bin, binI, avEq, una, view, viewT, pureArg, allFlat, flat, Nat.reduceBEq, Nat.reduceAdd, Nat.reduceLeDiff, Nat.reduceLT, asInt, pures, AV.cells, AObj.rd, AObj.wr, Int.reduceBEq, Nat.reduceEqDiff, B55x0, k1, k2, ga, Attr.pv, name_run, hnm, fits_run, hlong]
    have hlong' : ¬ (65536 < (a.value.length : Int)) := by omega
    cases i with
    | zero =>
      have e : attrErr (prevOf l 0) 0 a = 0 := by simp [attrErr, hnm, hlong', prevOf]
      rw [e, if_pos rfl]
      refine .inl ⟨1, ?_, ⟨by omega, by omega⟩, by omega, rfl⟩
      simp only [Int.natCast_zero, Int.natCast_one] at k1 k2 ⊢
      have k3 : (0 : Int) < (l.length : Int) := k1
      have ga0 : (l.map Attr.pv).getD 0 [] = Attr.pv a := ga
      have e0 : Int.toNat 0 = 0 := rfl
      simp (implicitDefEqProofs := false) (maxSteps := 1000000) (disch := omega) only [Ra, Rb, Rc, Rd, Re, Rf, Rg, guardK, evalOp, St.know, mentions, AObj.mentions, bin, binI, avEq, una, view, viewT, pureArg, allFlat, flat, Nat.reduceBEq, Nat.reduceAdd, Nat.reduceLeDiff, Nat.reduceLT, asInt, pures, AV.cells, AObj.rd, AObj.wr, Int.reduceBEq, Int.reduceLT, Int.reduceLE, Int.reduceAdd, Nat.reduceEqDiff, B55x0, k3, ga0, e0, Attr.pv, name_run, hnm, fits_run, hlong]
    | succ j =>
      obtain ⟨b, hb⟩ := get_some (show j < l.length by omega)
      have gb := getD_map (f := Attr.pv) hb
      have ep : prevOf l (j + 1) = [b] := by simp [prevOf, hb]
      have k3 : (0 : Int) < (j : Int) + 1 := by omega
      have k4 : (j : Int) < (l.length : Int) := by omega
      simp only [Int.natCast_add, Int.natCast_one] at k1 k2
      have k5 : ((j : Int) + 1).toNat = j + 1 := by omega
      by_cases heq : b.name = a.name
      · refine bad 10 (by simp [attrErr, h64, hnm, hlong', ep, heq]) (by decide) ?_
        have heq' : (b.name == a.name) = true := by simpa using heq
        simp (implicitDefEqProofs := false) (maxSteps := 1000000) (disch := omega) only [Ra, Rb, Rc, Rd, Re, Rf, Rg, guardK, evalOp, St.know, mentions, AObj.mentions, bin, binI, avEq, una, view, viewT, pureArg, allFlat, flat, Nat.reduceBEq, Nat.reduceAdd, Nat.reduceLeDiff, Nat.reduceLT, asInt, pures, AV.cells, AObj.rd, AObj.wr, Int.reduceBEq, Nat.reduceEqDiff, B55x0, k1, k2, k3, k4, k5, ga, gb, Attr.pv, name_run, hnm, fits_run, hlong, heq']
      · have heq' : (b.name == a.name) = false := by simpa using heq
        have hcmp := cmpB_less heq
        by_cases hgt : 0 < cmpB b.name a.name
        · refine bad 9 (by simp [attrErr, h64, hnm, hlong', ep, heq, hgt]) (by decide) ?_
          have hl : strLess b.name a.name = false := by have := hcmp.1 hgt; rw [heq', Bool.or_false] at this; exact this
          simp (implicitDefEqProofs := false) (maxSteps := 1000000) (disch := omega) only [Ra, Rb, Rc, Rd, Re, Rf, Rg, guardK, evalOp, St.know, mentions, AObj.mentions, bin, binI, avEq, una, view, viewT, pureArg, allFlat, flat, Nat.reduceBEq, Nat.reduceAdd, Nat.reduceLeDiff, Nat.reduceLT, asInt, pures, AV.cells, AObj.rd, AObj.wr, Int.reduceBEq, Nat.reduceEqDiff, B55x0, k1, k2, k3, k4, k5, ga, gb, Attr.pv, name_run, hnm, fits_run, hlong, heq', binS, hl]
        · have e : attrErr (prevOf l (j + 1)) (j + 1) a = 0 := by simp [attrErr, h64, hnm, hlong', ep, heq, hgt]
          have hl : strLess b.name a.name = true := by
            cases h : strLess b.name a.name
            · exact absurd (hcmp.2 (by rw [h, heq']; rfl)) hgt
            · rfl
          rw [e, if_pos rfl]
          refine .inl ⟨j + 1 + 1, ?_, ⟨by omega, by omega⟩, by omega, rfl⟩
          simp (implicitDefEqProofs := false) (maxSteps := 1000000) (disch := omega) only [Ra, Rb, Rc, Rd, Re, Rf, Rg, guardK, evalOp, St.know, mentions, AObj.mentions, bin, binI, avEq, una, view, viewT, pureArg, allFlat, flat, Nat.reduceBEq, Nat.reduceAdd, Nat.reduceLeDiff, Nat.reduceLT, asInt, pures, AV.cells, AObj.rd, AObj.wr, Nat.reduceEqDiff, B55x0, k1, k2, k3, k4, k5, ga, gb, Attr.pv, name_run, hnm, fits_run, hlong, heq', binS, hl]
  · have k1 : ¬ (i : Int) < (l.length : Int) := by omega
    have e : l.drop i = [] := List.drop_eq_nil_of_le (by omega)
    refine .inr ⟨?_, by rw [e]; simp [attrsChk, chkOut]⟩
    rw [e]
    simp (implicitDefEqProofs := false) (maxSteps := 1000000) (disch := omega) only [Ra, Rb, Rc, Rd, Re, Rf, Rg, evalOp, St.know, mentions, AObj.mentions, bin, binI, Nat.reduceBEq, B55x0, k1, attrsChk, chkOut]
theorem ap_run (l : List Attr) (g : List AObj) {n : Nat} (hl : l.length < n + 36) : acall T (n + 37) 55 [.p (.list (l.map Attr.pv))] g = some (.tuple [.p (.int .i64 (attrsChk [] 0 l).1), .p (.int .i64 (attrsErr l))], g) := by
  rw [acall_code T55, run_pure rfl rfl rfl]
  have hloop := ap_loop (n := n) (N := n + 36) l hl
  simp only [Int.natCast_zero] at hloop
  unfold attrsErr
  have h1 : (attrsChk [] 0 l).2 = 0 → (attrsChk [] 0 l).1 = 0 := by
    have key : ∀ (p : List Attr) (i : Nat) (l : List Attr), (attrsChk p i l).2 = 0 → (attrsChk p i l).1 = 0 := by
      intro p i l
      induction l generalizing p i with
      | nil => simp [attrsChk]
      | cons a l ih =>
        simp only [attrsChk]
        split
        · exact ih _ _
        · rename_i h; intro h'; exact absurd h' h
    exact key [] 0 l
  generalize attrsChk [] 0 l = r at hloop h1
  obtain ⟨x, e⟩ := r
  simp only [chkOut] at hloop h1 ⊢
  by_cases h : e = 0
  · rw [if_pos h] at hloop
    rw [h1 h, h]
    simp (implicitDefEqProofs := false) (maxSteps := 1000000) (disch := omega) only [Ra, Rb, Rc, Rd, Re, Rf, Rg, evalOp, List.zipWith, mentions, AObj.mentions, noLocal, view, tupleOf, oneTup, Nat.reduceBEq, Nat.reduceAdd, F55, hloop]
  · rw [if_neg h] at hloop
    simp (implicitDefEqProofs := false) (maxSteps := 1000000) (disch := omega) only [Ra, Rb, Rc, Rd, Re, Rf, Rg, evalOp, List.zipWith, mentions, AObj.mentions, noLocal, view, tupleOf, oneTup, Nat.reduceBEq, Nat.reduceAdd, F55, hloop]
end Go.TA.Tryd

end
section
/- What is wrong with a node alone. -/
set_option linter.unusedVariables false
set_option linter.unusedSimpArgs false
set_option maxRecDepth 100000
set_option maxHeartbeats 8000000
namespace Go.TA.Tryd
def aloneErr (x : GRow) : Int := if namedB false x.tag = false then 7 else if 65536 < (x.key.length : Int) then 3 else if 65536 < (x.text.length : Int) then 3 else attrsErr x.attrs
/-- A node with what a row has, and these kids. -/
def nodeCells (x : GRow) (ks : List (List PV)) : List PV := [.str x.tag, .str x.key, .str x.text, .list (x.attrs.map Attr.pv), .list ks]
theorem alone_run (x : GRow) (ks : List (List PV)) (hs : smallAttrs x.attrs) (g : List AObj) {n : Nat} (hl : x.attrs.length < n) (hn : 1048576 < n) :
    acall T (n + 37) 19 [.p (.agg (nodeCells x ks))] g = some (.p (.int .i64 (aloneErr x)), g) := by
  rw [acall_code T19, run_pure rfl rfl rfl]
  have ha := fun g => a09_run x.attrs hs g (n := n) (by omega) hn
  cases h1 : namedB false x.tag with
  | false =>
    have e : aloneErr x = 7 := by simp [aloneErr, h1]
    rw [e]
    simp (implicitDefEqProofs := false) (maxSteps := 1000000) (disch := omega) only [Ra, Rb, Rc, Rd, Re, Rf, Rg, evalOp, St.know, List.zipWith, mentions, AObj.mentions, una, noLocal, view, viewT, tupleOf, oneTup, pureArg, allFlat, flat, Nat.reduceBEq, Nat.reduceAdd, Nat.reduceLeDiff, Nat.reduceLT, pures, AV.cells, AObj.rd, Nat.reduceEqDiff, F19, nodeCells, named02_run, h1]
  | true =>
  by_cases h2 : 65536 < (x.key.length : Int)
  · have e : aloneErr x = 3 := by simp [aloneErr, h1, h2]
    rw [e]
    simp (implicitDefEqProofs := false) (maxSteps := 1000000) (disch := omega) only [Ra, Rb, Rc, Rd, Re, Rf, Rg, guardK, evalOp, St.know, List.zipWith, mentions, AObj.mentions, bin, binI, una, noLocal, view, viewT, tupleOf, oneTup, pureArg, allFlat, flat, Nat.reduceBEq, Nat.reduceAdd, Nat.reduceLeDiff, Nat.reduceLT, pures, AV.cells, AObj.rd, Nat.reduceEqDiff, F19, nodeCells, named02_run, h1, h2]
  by_cases h3 : 65536 < (x.text.length : Int)
  · have e : aloneErr x = 3 := by simp [aloneErr, h1, h2, h3]
    rw [e]
    simp (implicitDefEqProofs := false) (maxSteps := 1000000) (disch := omega) only [Ra, Rb, Rc, Rd, Re, Rf, Rg, guardK, evalOp, St.know, List.zipWith, mentions, AObj.mentions, bin, binI, una, noLocal, view, viewT, tupleOf, oneTup, pureArg, allFlat, flat, Nat.reduceBEq, Nat.reduceAdd, Nat.reduceLeDiff, Nat.reduceLT, pures, AV.cells, AObj.rd, reduceCtorEq, Nat.reduceEqDiff, F19, nodeCells, named02_run, h1, h2, h3]
  have e : aloneErr x = attrsErr x.attrs := by simp [aloneErr, h1, h2, h3]
  rw [e]
  simp (implicitDefEqProofs := false) (maxSteps := 1000000) (disch := omega) only [Ra, Rb, Rc, Rd, Re, Rf, Rg, guardK, evalOp, St.know, List.zipWith, mentions, AObj.mentions, bin, binI, una, noLocal, view, viewT, tupleOf, oneTup, pureArg, allFlat, flat, Nat.reduceBEq, Nat.reduceAdd, Nat.reduceLeDiff, Nat.reduceLT, pures, AV.cells, AObj.rd, reduceCtorEq, Nat.reduceEqDiff, F19, nodeCells, named02_run, h1, h2, h3, ha]
theorem wrong_run (x : GRow) (ks : List (List PV)) (g : List AObj) {n : Nat} (hl : x.attrs.length < n) :
    acall T (n + 38) 77 [.p (.agg (nodeCells x ks))] g = some (.p (.int .i64 (aloneErr x)), g) := by
  rw [acall_code T77, run_pure rfl rfl rfl]
  have ha := fun g => ap_run x.attrs g (n := n) (by omega)
  cases h1 : namedB false x.tag with
  | false =>
    have e : aloneErr x = 7 := by simp [aloneErr, h1]
    rw [e]
    simp (implicitDefEqProofs := false) (maxSteps := 1000000) (disch := omega) only [Ra, Rb, Rc, Rd, Re, Rf, Rg, evalOp, St.know, List.zipWith, mentions, AObj.mentions, una, noLocal, view, viewT, tupleOf, oneTup, pureArg, allFlat, flat, Nat.reduceBEq, Nat.reduceAdd, Nat.reduceLeDiff, Nat.reduceLT, pures, AV.cells, AObj.rd, Nat.reduceEqDiff, F77, nodeCells, tag_run, h1]
  | true =>
  by_cases h2 : (x.key.length : Int) ≤ 65536
  rotate_left
  · have e : aloneErr x = 3 := by simp [aloneErr, h1]; omega
    rw [e]
    simp (implicitDefEqProofs := false) (maxSteps := 1000000) (disch := omega) only [Ra, Rb, Rc, Rd, Re, Rf, Rg, guardK, evalOp, St.know, List.zipWith, mentions, AObj.mentions, una, noLocal, view, viewT, tupleOf, oneTup, pureArg, allFlat, flat, Nat.reduceBEq, Nat.reduceAdd, Nat.reduceLeDiff, Nat.reduceLT, pures, AV.cells, AObj.rd, Nat.reduceEqDiff, F77, nodeCells, tag_run, h1, fits_run, h2]
  by_cases h3 : (x.text.length : Int) ≤ 65536
  rotate_left
  · have e : aloneErr x = 3 := by simp [aloneErr, h1]; omega
    rw [e]
    simp (implicitDefEqProofs := false) (maxSteps := 1000000) (disch := omega) only [Ra, Rb, Rc, Rd, Re, Rf, Rg, guardK, evalOp, St.know, List.zipWith, mentions, AObj.mentions, una, noLocal, view, viewT, tupleOf, oneTup, pureArg, allFlat, flat, Nat.reduceBEq, Nat.reduceAdd, Nat.reduceLeDiff, Nat.reduceLT, pures, AV.cells, AObj.rd, reduceCtorEq, Nat.reduceEqDiff, F77, nodeCells, tag_run, h1, fits_run, h2, h3]
  have e : aloneErr x = attrsErr x.attrs := by
    have h2' : ¬ 65536 < (x.key.length : Int) := by omega
    have h3' : ¬ 65536 < (x.text.length : Int) := by omega
    simp [aloneErr, h1, h2', h3']
  rw [e]
  simp (implicitDefEqProofs := false) (maxSteps := 1000000) (disch := omega) only [Ra, Rb, Rc, Rd, Re, Rf, Rg, guardK, evalOp, St.know, List.zipWith, mentions, AObj.mentions, una, noLocal, view, viewT, tupleOf, oneTup, pureArg, allFlat, flat, Nat.reduceBEq, Nat.reduceAdd, Nat.reduceLeDiff, Nat.reduceLT, pures, AV.cells, AObj.rd, reduceCtorEq, Nat.reduceEqDiff, F77, nodeCells, tag_run, h1, fits_run, h2, h3, ha]
end Go.TA.Tryd

end
section
/- The tree of rows, as the program builds it. -/
set_option linter.unusedVariables false
set_option linter.unusedSimpArgs false
set_option maxRecDepth 100000
set_option maxHeartbeats 8000000
namespace Go.TA.Tryd
theorem attrs_two (l : List Attr) : ((l.map Attr.pv).all fun x => x.length == 2) = true := by simp [List.all_eq_true, Attr.pv]
theorem attrs_same : ∀ (l : List Attr), PV.sameLL (l.map Attr.pv) (l.map Attr.pv) = true
  | [] => rfl
  | a :: l => by simp [PV.sameLL, PV.sameL, PV.same, Attr.pv, attrs_same l]
theorem cloneA_run (l : List Attr) (h : l.length ≤ 1048577) (g : List AObj) (n : Nat) : acall T (n + 1) 22 [.p (.list (l.map Attr.pv))] g = some (.own true g.length l.length, g ++ [.pcells 2 (l.map Attr.pv)]) := by
  rw [acall_prim T22]
  have h2 := attrs_two l
  have h3 : l.length * 4096 ≤ 140737488355328 := by omega
  simp only [pCloneT, thaw, bk_some, pClone, h2, List.length_map, h3, and_self, if_true]
mutual
/-- The rows from one place on, up to another, are this node with what is below it. -/
inductive BT (l : List GRow) : Nat → Nat → List PV → Prop
  | mk {a b : Nat} {x : GRow} {ks : List (List PV)} : l[a]? = some x → BTs l a b ks → BT l a b (nodeCells x ks)
inductive BTs (l : List GRow) : Nat → Nat → List (List PV) → Prop
  | nil {a : Nat} : BTs l a (a + 1) []
  | snoc {a m b : Nat} {ks : List (List PV)} {k : List PV} {y : GRow} : BTs l a m ks → l[m]? = some y → y.up = (a : Int) + 1 → BT l m b k → BTs l a b (ks ++ [k])
end
mutual
theorem BT.lt {l : List GRow} {a b : Nat} {p : List PV} : BT l a b p → a < b ∧ b ≤ l.length
  | .mk hx h => by
    have := BTs.lt h (List.getElem?_eq_some_iff.1 hx).1
    omega
theorem BTs.lt {l : List GRow} {a b : Nat} {ks : List (List PV)} : BTs l a b ks → a < l.length → a + 1 ≤ b ∧ b ≤ l.length ∧ ks.length + a + 1 ≤ b
  | .nil, ha => ⟨Nat.le_refl _, ha, by simp⟩
  | .snoc h _ _ h2, ha => by
    have h3 := BTs.lt h ha
    have h4 := BT.lt h2
    simp only [List.length_append, List.length_singleton]
    omega
end
theorem BT.len {l : List GRow} {a b : Nat} {p : List PV} (h : BT l a b p) : p.length = 5 := by
  cases h with
  | mk _ _ => rfl
theorem BTs.at {l : List GRow} {a b : Nat} {ks : List (List PV)} (h : BTs l a b ks) : ∀ (i : Nat) k, ks[i]? = some k → ∃ m m' y, BTs l a m (ks.take i) ∧ l[m]? = some y ∧ y.up = (a : Int) + 1 ∧ BT l m m' k ∧ BTs l a m' (ks.take (i + 1)) ∧ m' ≤ b := by
  match h with
  | .nil => intro i k hk; simp at hk
  | .snoc (m := m) (ks := ks0) (k := k0) (y := y) h1 hy hu h2 =>
    intro i k hk
    by_cases hi : i < ks0.length
    · rw [List.getElem?_append_left hi] at hk
      obtain ⟨m1, m2, y1, q1, q2, q3, q4, q5, q6⟩ := BTs.at h1 i k hk
      have := BT.lt h2
      refine ⟨m1, m2, y1, ?_, q2, q3, q4, ?_, by omega⟩
      · rw [List.take_append_of_le_length (by omega)]; exact q1
      · rw [List.take_append_of_le_length (by omega)]; exact q5
    · have hlt := (List.getElem?_eq_some_iff.1 hk).1
      simp only [List.length_append, List.length_singleton] at hlt
      obtain rfl : i = ks0.length := by omega
      rw [List.getElem?_append_right (Nat.le_refl _), Nat.sub_self] at hk
      simp only [List.getElem?_cons_zero, Option.some.injEq] at hk
      subst hk
      refine ⟨m, b, y, ?_, hy, hu, h2, ?_, Nat.le_refl _⟩
      · rw [List.take_append_of_le_length (Nat.le_refl _), List.take_length]; exact h1
      · rw [List.take_of_length_le (by simp)]; exact .snoc h1 hy hu h2
mutual
theorem BT.uniq {l : List GRow} {a b b' : Nat} {p p' : List PV} : BT l a b p → BT l a b' p' → p = p' → b = b'
  | .mk hx h, .mk hx' h', e => by
    simp only [nodeCells, List.cons.injEq, PV.list.injEq, and_true] at e
    exact BTs.uniq h h' e.2.2.2.2
theorem BTs.uniq {l : List GRow} {a b b' : Nat} {ks ks' : List (List PV)} : BTs l a b ks → BTs l a b' ks' → ks = ks' → b = b'
  | .nil, .nil, _ => rfl
  | .nil, .snoc _ _ _ _, e => by simp at e
  | .snoc _ _ _ _, .nil, e => by simp at e
  | .snoc h1 _ _ h2, .snoc h1' _ _ h2', e => by
    obtain ⟨e1, e2⟩ := List.append_inj' e rfl
    have e3 := BTs.uniq h1 h1' e1
    subst e3
    exact BT.uniq h2 h2' (by simpa using e2)
end
/-! ### build -/
def kidsC (ks : List (List PV)) : AV := match ks with
  | [] => .nils
  | _ :: _ => .own true 0 ks.length
theorem kidsC_m (r : List Nat) (ks : List (List PV)) : mentions r (kidsC ks) = false := by cases ks <;> simp [kidsC, mentions]
def kidsG (ks : List (List PV)) : List AObj := match ks with
  | [] => []
  | _ :: _ => [.pcells 5 ks]
def buildL (x : GRow) (ks : List (List PV)) : List (Nat × AObj) := [(4, .pcells 5 [[.str [], .str [], .str [], .list [], .list []]]), (7, .cells 5 [[.p (.str x.tag), .p (.str x.key), .p (.str x.text), .p (.list (x.attrs.map Attr.pv)), kidsC ks]]), (1000, .pcells 5 [])]
def buildS (l : List GRow) (a : Nat) (x : GRow) (nx : Nat) (ks : List (List PV)) : St := ⟨[(0, .p (.list (l.map GRow.pv))), (1, .p (.int .i64 a)), (4, .ptr false 4 5 1 0 0), (7, .ptr false 7 5 1 0 0), (8, .p (.int .i64 nx))], buildL x ks, kidsG ks⟩
def buildQ (l : List GRow) (a : Nat) (x : GRow) (r : Ex × St) : Prop := ∃ nx ks, BTs l a nx ks ∧ (∀ y, l[nx]? = some y → y.up ≠ (a : Int) + 1) ∧ r = (.exit 0, ⟨[(4, .ptr false 4 5 1 0 0), (7, .ptr false 7 5 1 0 0), (8, .p (.int .i64 nx))], buildL x ks, kidsG ks⟩)
theorem build_loop {n N : Nat} (l : List GRow) (hl : l.length ≤ 1048576) (a : Nat) (x : GRow) (hx : l[a]? = some x) (hN : l.length - a < N)
    (ih : ∀ m, a < m → m < l.length → ∃ b p, BT l m b p ∧ ∀ g, acall T n 47 [.p (.list (l.map GRow.pv)), .p (.int .i64 m)] g = some (.tuple [.p (.agg p), .p (.int .i64 b)], g)) :
    ∃ r, aexec (acall T n) N (.loop B47x0) (buildS l a x (a + 1) []) = some r ∧ buildQ l a x r := by
  have ha : a < l.length := (List.getElem?_eq_some_iff.1 hx).1
  refine loop_inv (σ := Nat × List (List PV)) (S := fun s => buildS l a x s.1 s.2) (I := fun s => BTs l a s.1 s.2) (μ := fun s => l.length - s.1) (Q := buildQ l a x) ?_ (a + 1, []) .nil (by simp only; omega)
  rintro ⟨nx, ks⟩ hI
  simp only at hI ⊢
  have hlt := hI.lt ha
  by_cases h : nx < l.length
  · obtain ⟨y, hy⟩ := get_some h
    have hg := getD_map (f := GRow.pv) hy
    have k1 : (nx : Int) < (l.length : Int) := by omega
    cases hu : (y.up == (a : Int) + 1) with
    | true =>
      obtain ⟨b, p, hbt, hrun⟩ := ih nx (by omega) h
      have hr := hrun []
      have hp := hbt.len
      have hb := hbt.lt
      have hu' : y.up = (a : Int) + 1 := by simpa using hu
      left
      refine ⟨(b, ks ++ [p]), ?_, .snoc hI hy hu' hbt, by simp only; omega⟩
      obtain ⟨c1, c2, c3, c4, c5, rfl⟩ : ∃ c1 c2 c3 c4 c5, p = [c1, c2, c3, c4, c5] := by
        match p, hp with
        | [c1, c2, c3, c4, c5], _ => exact ⟨c1, c2, c3, c4, c5, rfl⟩
      cases ks with
      | nil =>
        simp only [buildS, buildL, kidsC, kidsG, List.nil_append]
        simp (implicitDefEqProofs := false) (maxSteps := 1000000) (disch := omega) only [Ra, Rb, Rc, Rd, Re, Rf, Rg, guardK, evalOp, St.know, mentions, AObj.mentions, bin, binI, avEq, view, viewT, pureArg, allFlat, flat, appendTo, Nat.reduceBEq, Nat.reduceAdd, Nat.reduceLeDiff, Nat.reduceLT, asInt, pures, AV.cells, AObj.rd, AObj.wr, reduceCtorEq, Nat.reduceMul, Nat.reduceEqDiff, B47x0, k1, hg, GRow.pv, hu, hr, List.getElem?_nil, List.getElem?_cons_succ]
      | cons k0 ks0 =>
        have hkl : (k0 :: ks0).length + 1 ≤ 1048576 := by omega
        simp only [buildS, buildL, kidsC, kidsG, List.cons_append, List.length_cons, List.length_append, List.length_nil] at hkl ⊢
        simp (implicitDefEqProofs := false) (maxSteps := 1000000) (disch := omega) only [Ra, Rb, Rc, Rd, Re, Rf, Rg, guardK, evalOp, St.know, mentions, AObj.mentions, bin, binI, avEq, view, viewT, pureArg, allFlat, flat, appendTo, Nat.reduceBEq, Nat.reduceAdd, Nat.reduceLeDiff, Nat.reduceLT, asInt, pures, AV.cells, AObj.rd, AObj.wr, reduceCtorEq, Nat.reduceEqDiff, B47x0, k1, hg, GRow.pv, hu, hr, List.getElem?_nil, List.getElem?_cons_zero, List.getElem?_cons_succ, List.length_append]
    | false =>
      right
      have hu' : ¬ y.up = (a : Int) + 1 := by simpa using hu
      refine ⟨_, ?_, ?_, nx, ks, hI, fun z hz => by rw [hy] at hz; cases hz; exact hu', rfl⟩
      · simp only [buildS, buildL]
        simp (implicitDefEqProofs := false) (maxSteps := 1000000) (disch := omega) only [Ra, Rb, Rc, Rd, Re, Rf, Rg, guardK, evalOp, St.know, mentions, AObj.mentions, bin, binI, avEq, Nat.reduceBEq, Nat.reduceAdd, Nat.reduceLeDiff, asInt, B47x0, k1, hg, GRow.pv, hu, kidsC_m]
      · simp
  · right
    have k1 : ¬ (nx : Int) < (l.length : Int) := by omega
    refine ⟨_, ?_, ?_, nx, ks, hI, fun z hz => ?_, rfl⟩
    · simp only [buildS, buildL]
      simp (implicitDefEqProofs := false) (maxSteps := 1000000) (disch := omega) only [Ra, Rb, Rc, Rd, Re, Rf, Rg, guardK, evalOp, St.know, mentions, AObj.mentions, bin, binI, avEq, Nat.reduceBEq, asInt, B47x0, k1, kidsC_m]
    · simp
    · have := (List.getElem?_eq_some_iff.1 hz).1
      omega
theorem build_run (l : List GRow) (hl : l.length ≤ 1048576) (hal : ∀ x ∈ l, x.attrs.length ≤ 1048577) : ∀ (d a n : Nat), a < l.length → l.length - a ≤ d → ∃ b p, BT l a b p ∧ (∀ y, l[b]? = some y → y.up ≠ (a : Int) + 1) ∧ ∀ g, acall T (n + d + 3) 47 [.p (.list (l.map GRow.pv)), .p (.int .i64 a)] g = some (.tuple [.p (.agg p), .p (.int .i64 b)], g) := by
  intro d
  induction d with
  | zero => intro a n ha hd; omega
  | succ d ih =>
    intro a n ha hd
    obtain ⟨x, hx⟩ := get_some ha
    have hg := getD_map (f := GRow.pv) hx
    have k1 : (a : Int) < (l.length : Int) := by omega
    obtain ⟨r, hr, nx, ks, hbt, hlast, rfl⟩ := build_loop (n := n + d + 3) (N := n + d + 3) l hl a x hx (by omega) (fun m h1 h2 => by
      obtain ⟨b, p, q1, _, q3⟩ := ih m n h2 (by omega)
      exact ⟨b, p, q1, q3⟩)
    refine ⟨nx, nodeCells x ks, .mk hx hbt, hlast, fun g => ?_⟩
    rw [show n + (d + 1) + 3 = n + d + 3 + 1 by omega, acall_code T47, run_pure rfl rfl rfl]
    have hcl := fun g => cloneA_run x.attrs (hal x (List.mem_of_getElem? hx)) g (n + d + 2)
    cases ks with
    | nil =>
      simp only [buildS, buildL, kidsC, kidsG, Int.natCast_add, Int.natCast_one] at hr
      simp only [nodeCells]
      simp (implicitDefEqProofs := false) (maxSteps := 1000000) (disch := omega) only [Ra, Rb, Rc, Rd, Re, Rf, Rg, evalOp, List.zipWith, mentions, AObj.mentions, bin, binI, noLocal, AV.same, PV.same, view, viewT, tupleOf, oneTup, pureArg, allFlat, flat, Nat.reduceBEq, Nat.reduceAdd, Nat.reduceLeDiff, Nat.reduceLT, asInt, pures, AV.cells, AObj.rd, AObj.wr, reduceCtorEq, Nat.reduceEqDiff, F47, k1, hg, GRow.pv, attrsPV, hcl, hr, attrs_same, List.getElem?_cons_zero]
    | cons k0 ks0 =>
      simp only [buildS, buildL, kidsC, kidsG, Int.natCast_add, Int.natCast_one] at hr
      simp only [nodeCells]
      simp (implicitDefEqProofs := false) (maxSteps := 1000000) (disch := omega) only [Ra, Rb, Rc, Rd, Re, Rf, Rg, evalOp, List.zipWith, mentions, AObj.mentions, bin, binI, noLocal, AV.same, PV.same, view, viewT, tupleOf, oneTup, pureArg, allFlat, flat, Nat.reduceBEq, Nat.reduceAdd, Nat.reduceLeDiff, Nat.reduceLT, asInt, pures, AV.cells, AObj.rd, AObj.wr, reduceCtorEq, Nat.reduceEqDiff, F47, k1, hg, GRow.pv, attrsPV, hcl, hr, attrs_same, List.getElem?_cons_zero, List.getElem?_cons_succ]
end Go.TA.Tryd

end
section
/- What is wrong with rows: the document's answer. -/
set_option linter.unusedVariables false
set_option linter.unusedSimpArgs false
set_option maxRecDepth 100000
set_option maxHeartbeats 8000000
namespace Go.TA.Tryd
def twinB (x y : GRow) : Bool := (y.up == x.up) && (y.key == x.key)
def dupB (l : List GRow) (i : Nat) (x : GRow) : Bool := !(x.key == []) && (l.take i).any (twinB x)
def rowErr (l : List GRow) (i : Nat) (x : GRow) : Int := if i = 4096 then 12 else if 64 < (chain l (i + 1)).length then 11 else if aloneErr x = 0 then (if dupB l i x = true then 10 else 0) else aloneErr x
def errFrom (l : List GRow) : Nat → List GRow → Int
  | _, [] => 0
  | i, x :: r => if rowErr l i x = 0 then errFrom l (i + 1) r else rowErr l i x
def check13 (l : List GRow) : Int := if formedB l = true then errFrom l 0 l else 2
def dupOut (l : List GRow) (i : Nat) (r : Bool) : Ex × St := if r = true then (.ret, ⟨[(2, .p (.int .i64 10))], [], []⟩) else (.exit 2, ⟨[(0, .p (.list (l.map GRow.pv))), (10, .p (.int .i64 l.length)), (11, .p (.int .i64 i))], [], []⟩)
theorem dup_loop {n N : Nat} (l : List GRow) (i : Nat) (x : GRow) (hx : l[i]? = some x) (hl : l.length ≤ 1048576) (hN : l.length < N) :
    aexec (acall T n) N (.loop B7x1) ⟨[(0, .p (.list (l.map GRow.pv))), (3, .p (.int .i64 i)), (10, .p (.int .i64 l.length)), (11, .p (.int .i64 i)), (46, .p (.int .i64 i)), (47, .p (.int .i64 ((0 : Nat) : Int)))], [], []⟩ = some (dupOut l i (dupB l i x)) := by
  have hlt : i < l.length := (List.getElem?_eq_some_iff.1 hx).1
  have hg := getD_map (f := GRow.pv) hx
  have := loop_rule' (C := acall T n) (N := N) (B := B7x1) (σ := Nat) (S := fun k => ⟨[(0, .p (.list (l.map GRow.pv))), (3, .p (.int .i64 i)), (10, .p (.int .i64 l.length)), (11, .p (.int .i64 i)), (46, .p (.int .i64 i)), (47, .p (.int .i64 k))], [], []⟩) (I := fun k => k ≤ i) (μ := fun k => i - k)
    (Φ := fun k => dupOut l i (!(x.key == []) && ((l.take i).drop k).any (twinB x))) ?_ 0 (by omega) (by omega)
  · simpa [dupB] using this
  intro k hk
  by_cases h : k < i
  · have k1 : (k : Int) < (i : Int) := by omega
    have k2 : (i : Int) < (l.length : Int) := by omega
    have k3 : (k : Int) < (l.length : Int) := by omega
    obtain ⟨y, hy⟩ := get_some (show k < l.length by omega)
    have hgy := getD_map (f := GRow.pv) hy
    have hd : (l.take i).drop k = y :: (l.take i).drop (k + 1) := by
      rw [List.drop_eq_getElem?_toList_append, List.getElem?_take, if_pos h, hy]; rfl
    have next : (!(x.key == []) && twinB x y) = false → dupOut l i (!(x.key == []) && ((l.take i).drop k).any (twinB x)) = dupOut l i (!(x.key == []) && ((l.take i).drop (k + 1)).any (twinB x)) := fun h => by
      rw [hd, List.any_cons, Bool.and_or_distrib_left, h, Bool.false_or]
    cases hk0 : (x.key == []) with
    | true =>
      refine .inl ⟨k + 1, ?_, by omega, by omega, by rw [hk0] at next; exact next rfl⟩
      simp (implicitDefEqProofs := false) (maxSteps := 1000000) (disch := omega) only [Ra, Rb, Rc, Rd, Re, Rf, Rg, guardK, evalOp, St.know, mentions, AObj.mentions, bin, binI, avEq, Nat.reduceBEq, Nat.reduceAdd, Nat.reduceLeDiff, asInt, B7x1, k1, k2, hg, GRow.pv, hk0]
    | false =>
      cases hu : (y.up == x.up) with
      | false =>
        refine .inl ⟨k + 1, ?_, by omega, by omega, by rw [hk0] at next; exact next (by simp [twinB, hu])⟩
        simp (implicitDefEqProofs := false) (maxSteps := 1000000) (disch := omega) only [Ra, Rb, Rc, Rd, Re, Rf, Rg, guardK, evalOp, St.know, mentions, AObj.mentions, bin, binI, avEq, Nat.reduceBEq, Nat.reduceAdd, Nat.reduceLeDiff, asInt, B7x1, k1, k2, k3, hg, hgy, GRow.pv, hk0, hu]
      | true =>
        cases hke : (y.key == x.key) with
        | false =>
          refine .inl ⟨k + 1, ?_, by omega, by omega, by rw [hk0] at next; exact next (by simp [twinB, hke])⟩
          simp (implicitDefEqProofs := false) (maxSteps := 1000000) (disch := omega) only [Ra, Rb, Rc, Rd, Re, Rf, Rg, guardK, evalOp, St.know, mentions, AObj.mentions, bin, binI, avEq, Nat.reduceBEq, Nat.reduceAdd, Nat.reduceLeDiff, asInt, B7x1, k1, k2, k3, hg, hgy, GRow.pv, hk0, hu, hke]
        | true =>
          have e : dupOut l i (!false && ((l.take i).drop k).any (twinB x)) = (.ret, ⟨[(2, .p (.int .i64 10))], [], []⟩) := by
            rw [hd, List.any_cons]; simp [twinB, hu, hke, dupOut]
          refine .inr ?_
          rw [e]
          refine ⟨?_, by simp⟩
          simp (implicitDefEqProofs := false) (maxSteps := 1000000) (disch := omega) only [Ra, Rb, Rc, Rd, Re, Rf, Rg, guardK, evalOp, St.know, mentions, AObj.mentions, bin, binI, avEq, Nat.reduceBEq, Nat.reduceAdd, Nat.reduceLeDiff, asInt, B7x1, k1, k2, k3, hg, hgy, GRow.pv, hk0, hu, hke]
  · have k1 : ¬ (k : Int) < (i : Int) := by omega
    have e : (l.take i).drop k = [] := List.drop_eq_nil_of_le (by rw [List.length_take]; omega)
    refine .inr ?_
    rw [e, List.any_nil, Bool.and_false]
    have e2 : dupOut l i false = (.exit 2, ⟨[(0, .p (.list (l.map GRow.pv))), (10, .p (.int .i64 l.length)), (11, .p (.int .i64 i))], [], []⟩) := by simp [dupOut]
    rw [e2]
    refine ⟨?_, by simp⟩
    simp (implicitDefEqProofs := false) (maxSteps := 1000000) (disch := omega) only [Ra, Rb, Rc, Rd, Re, Rf, Rg, evalOp, St.know, mentions, AObj.mentions, bin, binI, Nat.reduceBEq, B7x1, k1]
def errOut (r : Int) : Ex × St := if r = 0 then (.exit 0, ⟨[], [], []⟩) else (.ret, ⟨[(2, .p (.int .i64 r))], [], []⟩)
theorem err_loop {n N m : Nat} (l : List GRow) (hl : Rows.small m l) (hm : m ≤ 1048577) (hs : standTo l l.length) (hN : m ≤ N) (hn : 1048577 ≤ n) :
    aexec (acall T (n + 37)) N (.loop B7x0) ⟨[(0, .p (.list (l.map GRow.pv))), (10, .p (.int .i64 l.length)), (11, .p (.int .i64 ((0 : Nat) : Int)))], [], []⟩ = some (errOut (errFrom l 0 l)) := by
  have hlen := hl.len
  have := loop_rule' (C := acall T (n + 37)) (N := N) (B := B7x0) (σ := Nat) (S := fun i => ⟨[(0, .p (.list (l.map GRow.pv))), (10, .p (.int .i64 l.length)), (11, .p (.int .i64 i))], [], []⟩) (I := fun i => i ≤ l.length ∧ i ≤ 4096) (μ := fun i => l.length - i)
    (Φ := fun i => errOut (errFrom l i (l.drop i))) ?_ 0 ⟨by omega, by omega⟩ (by omega)
  · simpa using this
  rintro i ⟨hi, hi4⟩
  by_cases h : i < l.length
  · have k1 : (i : Int) < (l.length : Int) := by omega
    obtain ⟨x, hx⟩ := get_some h
    have hg := getD_map (f := GRow.pv) hx
    have hsm := hl.row x (List.mem_of_getElem? hx)
    have hd : l.drop i = x :: l.drop (i + 1) := by rw [List.drop_eq_getElem?_toList_append, hx]; rfl
    rw [hd]
    have bad : ∀ e : Int, rowErr l i x = e → e ≠ 0 → errOut (errFrom l i (x :: l.drop (i + 1))) = (.ret, ⟨[(2, .p (.int .i64 e))], [], []⟩) := fun e h1 h2 => by
      simp only [errFrom, h1, if_neg h2, errOut]
    by_cases h4 : i = 4096
    · refine .inr ?_
      rw [bad 12 (by simp [rowErr, h4]) (by decide)]
      refine ⟨?_, by simp⟩
      have k2 : ((i : Int) == 4096) = true := by simp; omega
      simp (implicitDefEqProofs := false) (maxSteps := 1000000) (disch := omega) only [Ra, Rb, Rc, Rd, Re, Rf, Rg, evalOp, St.know, mentions, AObj.mentions, bin, binI, avEq, Nat.reduceBEq, B7x0, k1, k2]
    have k2 : ((i : Int) == 4096) = false := by simp; omega
    have hdep := depth_run (n := n + 36) l (i + 1) (hs.mono (by omega)) (by omega) (by omega) [] (by omega)
    simp only [Int.natCast_add, Int.natCast_one] at hdep
    by_cases h64 : 64 < (chain l (i + 1)).length
    · refine .inr ?_
      rw [bad 11 (by simp [rowErr, h4, h64]) (by decide)]
      refine ⟨?_, by simp⟩
      have k3 : (64 : Int) < ((chain l (i + 1)).length : Int) := by omega
      simp (implicitDefEqProofs := false) (maxSteps := 1000000) (disch := omega) only [Ra, Rb, Rc, Rd, Re, Rf, Rg, evalOp, St.know, mentions, AObj.mentions, bin, binI, avEq, view, viewT, pureArg, allFlat, flat, Nat.reduceBEq, B7x0, k1, k2, hdep, k3]
    have k3 : ¬ (64 : Int) < ((chain l (i + 1)).length : Int) := by omega
    have hal := alone_run (n := n) x [] hsm.small [] (by have := hsm.attrs; omega) (by omega)
    simp only [nodeCells] at hal
    by_cases ha : aloneErr x = 0
    rotate_left
    · refine .inr ?_
      rw [bad (aloneErr x) (by simp [rowErr, h4, h64, ha]) ha]
      refine ⟨?_, by simp⟩
      have ha' : (aloneErr x == 0) = false := by simpa using ha
      simp (implicitDefEqProofs := false) (maxSteps := 1000000) (disch := omega) only [Ra, Rb, Rc, Rd, Re, Rf, Rg, evalOp, St.know, mentions, AObj.mentions, bin, binI, avEq, view, viewT, pureArg, allFlat, flat, Nat.reduceBEq, Nat.reduceAdd, Nat.reduceLeDiff, asInt, pures, AV.cells, reduceCtorEq, Nat.reduceEqDiff, B7x0, k1, k2, hdep, k3, hg, GRow.pv, attrsPV, hal, ha']
    have hdl := dup_loop (n := n + 37) (N := N) l i x hx (by omega) (by omega)
    simp only [Int.natCast_zero] at hdl
    rw [ha] at hal
    cases hdup : dupB l i x with
    | true =>
      refine .inr ?_
      rw [bad 10 (by simp [rowErr, h4, h64, ha, hdup]) (by decide)]
      refine ⟨?_, by simp⟩
      rw [hdup] at hdl
      simp only [dupOut, if_true] at hdl
      simp (implicitDefEqProofs := false) (maxSteps := 1000000) (disch := omega) only [Ra, Rb, Rc, Rd, Re, Rf, Rg, evalOp, St.know, mentions, AObj.mentions, bin, binI, avEq, view, viewT, pureArg, allFlat, flat, Nat.reduceBEq, Nat.reduceAdd, Nat.reduceLeDiff, asInt, pures, AV.cells, reduceCtorEq, Nat.reduceEqDiff, B7x0, k1, k2, hdep, k3, hg, GRow.pv, attrsPV, hal, hdl]
    | false =>
      have e : rowErr l i x = 0 := by simp [rowErr, h4, h64, ha, hdup]
      refine .inl ⟨i + 1, ?_, ⟨by omega, by omega⟩, by omega, by simp only [errFrom, e, if_true]⟩
      rw [hdup] at hdl
      simp only [dupOut, Bool.false_eq_true, if_false] at hdl
      simp (implicitDefEqProofs := false) (maxSteps := 1000000) (disch := omega) only [Ra, Rb, Rc, Rd, Re, Rf, Rg, evalOp, St.know, mentions, AObj.mentions, bin, binI, avEq, view, viewT, pureArg, allFlat, flat, Nat.reduceBEq, Nat.reduceAdd, Nat.reduceLeDiff, asInt, pures, AV.cells, reduceCtorEq, Nat.reduceEqDiff, B7x0, k1, k2, hdep, k3, hg, GRow.pv, attrsPV, hal, hdl]
  · have k1 : ¬ (i : Int) < (l.length : Int) := by omega
    have e : l.drop i = [] := List.drop_eq_nil_of_le (by omega)
    refine .inr ⟨?_, by rw [e]; simp [errFrom, errOut]⟩
    rw [e]
    simp (implicitDefEqProofs := false) (maxSteps := 1000000) (disch := omega) only [Ra, Rb, Rc, Rd, Re, Rf, Rg, evalOp, St.know, mentions, AObj.mentions, bin, binI, Nat.reduceBEq, B7x0, k1, errFrom, errOut]
theorem check13_run (l : List GRow) {m n : Nat} (hl : Rows.small m l) (hm : m ≤ 1048577) (hn : 1048577 ≤ n) (g : List AObj) : acall T (n + 38) 7 [.p (.list (l.map GRow.pv))] g = some (.p (.int .i64 (check13 l)), g) := by
  rw [acall_code T7, run_pure rfl rfl rfl]
  have hlen := hl.len
  have hf := form13_run (n := n + 35) l (by omega) [] (by omega)
  cases hb : formedB l with
  | false =>
    rw [hb] at hf
    have e : check13 l = 2 := by simp [check13, hb]
    rw [e]
    simp (implicitDefEqProofs := false) (maxSteps := 1000000) (disch := omega) only [Ra, Rb, Rc, Rd, Re, Rf, Rg, evalOp, St.know, List.zipWith, mentions, AObj.mentions, una, noLocal, view, viewT, tupleOf, oneTup, pureArg, allFlat, flat, Nat.reduceBEq, Nat.reduceAdd, F7, hf]
  | true =>
    rw [hb] at hf
    have hloop := err_loop (n := n) (N := n + 37) (m := m) l hl hm (formed_stands hb) (by omega) hn
    simp only [Int.natCast_zero] at hloop
    have e : check13 l = errFrom l 0 l := by simp [check13, hb]
    rw [e]
    by_cases h0 : errFrom l 0 l = 0
    · rw [h0] at hloop ⊢
      simp only [errOut, if_true] at hloop
      simp (implicitDefEqProofs := false) (maxSteps := 1000000) (disch := omega) only [Ra, Rb, Rc, Rd, Re, Rf, Rg, evalOp, St.know, List.zipWith, mentions, AObj.mentions, una, noLocal, view, viewT, tupleOf, oneTup, pureArg, allFlat, flat, Nat.reduceBEq, Nat.reduceAdd, F7, hf, hloop]
    · simp only [errOut, if_neg h0] at hloop
      simp (implicitDefEqProofs := false) (maxSteps := 1000000) (disch := omega) only [Ra, Rb, Rc, Rd, Re, Rf, Rg, evalOp, St.know, List.zipWith, mentions, AObj.mentions, una, noLocal, view, viewT, tupleOf, oneTup, pureArg, allFlat, flat, Nat.reduceBEq, Nat.reduceAdd, F7, hf, hloop]
end Go.TA.Tryd

end
section
/- The program's look at the tree of rows that are right. -/
set_option linter.unusedVariables false
set_option linter.unusedSimpArgs false
set_option maxRecDepth 100000
set_option maxHeartbeats 8000000
namespace Go.TA.Tryd
def allOk (l : List GRow) : Prop := ∀ (i : Nat) x, l[i]? = some x → rowErr l i x = 0
theorem errFrom_ok {l : List GRow} : ∀ {i : Nat}, errFrom l i (l.drop i) = 0 → ∀ (j : Nat) x, i ≤ j → l[j]? = some x → rowErr l j x = 0 := by
  intro i h j x hij hj
  obtain ⟨d, rfl⟩ : ∃ d, j = i + d := ⟨j - i, by omega⟩
  induction d generalizing i with
  | zero =>
    have e : l.drop i = x :: l.drop (i + 1) := by rw [List.drop_eq_getElem?_toList_append]; simp at hj; rw [hj]; rfl
    rw [e] at h
    simp only [errFrom] at h
    by_cases h0 : rowErr l i x = 0
    · simpa using h0
    · rw [if_neg h0] at h; exact absurd h h0
  | succ d ih =>
    have hlt : i < l.length := by
      have := (List.getElem?_eq_some_iff.1 hj).1
      omega
    obtain ⟨y, hy⟩ := get_some hlt
    have e : l.drop i = y :: l.drop (i + 1) := by rw [List.drop_eq_getElem?_toList_append, hy]; rfl
    rw [e] at h
    simp only [errFrom] at h
    have h0 : rowErr l i y = 0 := by
      by_cases h0 : rowErr l i y = 0
      · exact h0
      · rw [if_neg h0] at h; exact absurd h h0
    rw [if_pos h0] at h
    have := ih h (by omega) (by rw [← hj]; congr 1; omega)
    rw [show i + (d + 1) = i + 1 + d by omega]
    exact this
theorem check13_ok {l : List GRow} (h : check13 l = 0) : formedB l = true ∧ allOk l := by
  unfold check13 at h
  split at h
  · rename_i hf
    exact ⟨hf, fun i x hx => errFrom_ok (i := 0) (by simpa using h) i x (by omega) hx⟩
  · omega
theorem rowErr_ok {l : List GRow} {i : Nat} {x : GRow} (h : rowErr l i x = 0) : i ≠ 4096 ∧ (chain l (i + 1)).length ≤ 64 ∧ aloneErr x = 0 ∧ dupB l i x = false := by
  unfold rowErr at h
  split at h
  · omega
  · rename_i h1
    split at h
    · omega
    · rename_i h2
      split at h
      · rename_i h3
        split at h
        · omega
        · rename_i h4
          exact ⟨h1, by omega, h3, by simpa using h4⟩
      · rename_i h3
        exact absurd h h3
/-- Keys of siblings ahead of a place. -/
def KOk (l : List GRow) (u : Int) (b : Nat) (es : List (PV × AV)) : Prop := ∀ e ∈ es, ∃ k : Bs, e.1 = .str k ∧ k ≠ [] ∧ ∃ (j : Nat) (y : GRow), j < b ∧ l[j]? = some y ∧ y.up = u ∧ y.key = k
theorem KOk.mono {l : List GRow} {u : Int} {b b' : Nat} {es : List (PV × AV)} (h : KOk l u b es) (hb : b ≤ b') : KOk l u b' es := fun e he => by
  obtain ⟨k, h1, h2, j, y, h3, h4⟩ := h e he
  exact ⟨k, h1, h2, j, y, by omega, h4⟩
theorem KOk.strs {l : List GRow} {u : Int} {b : Nat} {es : List (PV × AV)} (h : KOk l u b es) (k : Bs) : (es.all fun e => (scalarEqK 2 e.1 (.str k)).isSome) = true := by
  rw [List.all_eq_true]
  intro e he
  obtain ⟨k', h1, _⟩ := h e he
  rw [h1]; rfl
theorem KOk.none {l : List GRow} {x : GRow} {b : Nat} {es : List (PV × AV)} (h : KOk l x.up b es) (hd : dupB l b x = false) : mlk 2 es (.str x.key) = none := by
  have key : ∀ e ∈ es, scalarEqK 2 e.1 (.str x.key) ≠ some true := by
    intro e he hc
    obtain ⟨k, h1, h2, j, y, h3, h4, h5, h6⟩ := h e he
    rw [h1] at hc
    have hk : k = x.key := by simpa [scalarEqK] using hc
    have : dupB l b x = true := by
      simp only [dupB, Bool.and_eq_true, Bool.not_eq_true', List.any_eq_true]
      refine ⟨by rw [← hk]; simpa using h2, y, ?_, by simp [twinB, h5, h6, hk]⟩
      rw [List.mem_iff_getElem?]
      exact ⟨j, by rw [List.getElem?_take, if_pos h3]; exact h4⟩
    rw [this] at hd
    cases hd
  induction es with
  | nil => rfl
  | cons e es ih =>
    obtain ⟨a, v⟩ := e
    simp only [mlk]
    rw [if_neg (key (a, v) (by simp))]
    exact ih (fun e he => h e (by simp [he])) (fun e he => key e (by simp [he]))
theorem mput_none {es : List (PV × AV)} {k : PV} {v : AV} (h : mlk 2 es k = none) : mput 2 es k v = es ++ [(k, v)] := by
  induction es with
  | nil => rfl
  | cons e es ih =>
    obtain ⟨a, w⟩ := e
    simp only [mlk, mput] at h ⊢
    by_cases hc : scalarEqK 2 a k = some true
    · rw [if_pos hc] at h; cases h
    · rw [if_neg hc] at h
      rw [if_neg hc, ih h]; rfl
theorem KOk.more {l : List GRow} {x : GRow} {b : Nat} {es : List (PV × AV)} (h : KOk l x.up b es) (hx : l[b]? = some x) (hk : x.key ≠ []) (v : AV) : KOk l x.up (b + 1) (es ++ [(.str x.key, v)]) := by
  intro e he
  rcases List.mem_append.1 he with he | he
  · exact (h.mono (by omega)) e he
  · simp only [List.mem_singleton] at he
    subst he
    exact ⟨x.key, rfl, hk, b, x, by omega, hx, rfl, rfl⟩
/-! ### the look -/
def LK (m : Nat) (deep : Int) : AObj := .pcells 3 [[.int .i64 m, .int .i64 deep, .int .i64 0]]
def VK : AObj := .cells 1 [[.func 76 [.ptr true 0 3 1 0 0, .ptr true 1 1 1 0 0]]]
def pL : AV := .ptr true 0 3 1 0 0
def pV : AV := .ptr true 1 1 1 0 0
/-- What a look at a node that is right leaves. -/
def Seen (l : List GRow) (u : Int) (b : Nat) (j : Nat) (ms : List AObj) (r : AV × List AObj) : Prop :=
  ∃ deep ms' es, r = (.p (.bool true), LK b deep :: VK :: ms') ∧ ms.length ≤ ms'.length ∧ ms'[j]? = some (.map es) ∧ KOk l u b es ∧ ∀ j', j' < ms.length → j' ≠ j → ms'[j']? = ms[j']?
def visS (d : Int) (ks : List (List PV)) (jb i m : Nat) (deep : Int) (ms : List AObj) : St := ⟨[(1, .p (.int .i64 d)), (4, .ptr true 1 1 1 0 0), (11, .map true (jb + 1 + 1)), (61, .p (.list ks)), (62, .p (.int .i64 ks.length)), (63, .p (.int .i64 i))], [], LK m deep :: VK :: ms⟩
theorem vis_loop {n N : Nat} (l : List GRow) (a b : Nat) (d : Int) (ks : List (List PV)) (hbt : BTs l a b ks) (hl : l.length ≤ 1048576) (ha : a < l.length) (hd : -1000000 ≤ d ∧ d ≤ 1000000) (hN : ks.length < N) (ms0 : List AObj) (deep0 : Int)
    (ih : ∀ m m' k es j deep ms, BT l m m' k → (∃ y, l[m]? = some y ∧ y.up = (a : Int) + 1) → a < m → m' ≤ b → ms[j]? = some (.map es) → KOk l ((a : Int) + 1) m es →
      ∃ r, acall T n 76 [.p (.agg k), .p (.int .i64 (d + 1)), .map true (j + 1 + 1), pL, pV] (LK m deep :: VK :: ms) = some r ∧ Seen l ((a : Int) + 1) m' j ms r) :
    ∃ r, aexec (acall T n) N (.loop B76x0) (visS d ks ms0.length 0 (a + 1) deep0 (ms0 ++ [.map []])) = some r ∧ ∃ deep ms', r = (.exit 1, ⟨[], [], LK b deep :: VK :: ms'⟩) ∧ ms0.length ≤ ms'.length ∧ ∀ j', j' < ms0.length → ms'[j']? = ms0[j']? := by
  refine loop_inv (σ := Nat × Nat × Int × List AObj) (S := fun s => visS d ks ms0.length s.1 s.2.1 s.2.2.1 s.2.2.2)
    (I := fun s => s.1 ≤ ks.length ∧ BTs l a s.2.1 (ks.take s.1) ∧ ms0.length < s.2.2.2.length ∧ (∀ j', j' < ms0.length → s.2.2.2[j']? = ms0[j']?) ∧ ∃ es, s.2.2.2[ms0.length]? = some (.map es) ∧ KOk l ((a : Int) + 1) s.2.1 es) (μ := fun s => ks.length - s.1)
    (Q := fun r => ∃ deep ms', r = (.exit 1, ⟨[], [], LK b deep :: VK :: ms'⟩) ∧ ms0.length ≤ ms'.length ∧ ∀ j', j' < ms0.length → ms'[j']? = ms0[j']?) ?_ (0, a + 1, deep0, ms0 ++ [.map []]) ⟨by omega, by simpa using BTs.nil, by simp, fun j' hj => by simp [List.getElem?_append_left hj], [], by simp, fun e he => by simp at he⟩ (by simp only; omega)
  rintro ⟨i, m, deep, ms⟩ ⟨h1, h2, h3, h4, es, h5, h6⟩
  simp only at h1 h2 h3 h4 h5 h6 ⊢
  by_cases hi : i < ks.length
  · obtain ⟨k, hk⟩ := get_some hi
    obtain ⟨q, q', y, p1, p2, p3, p4, p5, hle⟩ := hbt.at i k hk
    have hq : q = m := p1.uniq h2 rfl
    subst hq
    have hlt := (BTs.lt h2 ha)
    obtain ⟨r, hr, deep', ms', es', rfl, s1, s2, s3, s4⟩ := ih q q' k es ms0.length deep ms p4 ⟨y, p2, p3⟩ (by omega) hle h5 h6
    left
    refine ⟨(i + 1, q', deep', ms'), ?_, ⟨by omega, p5, by simp only; omega, fun j' hj => by simp only; rw [s4 j' (by omega) (by omega)]; exact h4 j' hj, es', s2, s3⟩, by simp only; omega⟩
    have hg : ks.getD i [] = k := by rw [List.getD_eq_getElem?_getD, hk]; rfl
    have hkl := p4.len
    obtain ⟨c1, c2, c3, c4, c5, rfl⟩ : ∃ c1 c2 c3 c4 c5, k = [c1, c2, c3, c4, c5] := by
      match k, hkl with
      | [c1, c2, c3, c4, c5], _ => exact ⟨c1, c2, c3, c4, c5, rfl⟩
    have k1 : (i : Int) < (ks.length : Int) := by omega
    have hkl2 := hbt.lt ha
    have k9 : (i : Int) ≤ 1048576 := by omega
    simp only [LK, VK, pL, pV] at hr
    simp only [visS, LK, VK]
    simp (implicitDefEqProofs := false) (maxSteps := 1000000) (disch := omega) only [Ra, Rb, Rc, Rd, Re, Rf, Rg, evalOp, St.know, mentions, AObj.mentions, bin, binI, una, noLocal, Nat.reduceBEq, Nat.reduceAdd, Nat.reduceLT, asInt, pures, AV.cells, AObj.rd, AObj.wr, B76x0, k1, hg, List.getElem?_cons_zero, List.getElem?_cons_succ, hr]
  · right
    obtain rfl : i = ks.length := by omega
    rw [List.take_length] at h2
    have hm : m = b := h2.uniq hbt rfl
    subst hm
    have k1 : ¬ (ks.length : Int) < (ks.length : Int) := by omega
    refine ⟨(.exit 1, ⟨[], [], LK m deep :: VK :: ms⟩), ?_, by simp, deep, ms, rfl, by omega, h4⟩
    simp only [visS, LK, VK]
    simp (implicitDefEqProofs := false) (maxSteps := 1000000) (disch := omega) only [Ra, Rb, Rc, Rd, Re, Rf, Rg, evalOp, St.know, mentions, AObj.mentions, bin, binI, Nat.reduceBEq, B76x0, k1]
theorem vis_run (l : List GRow) (hl : l.length ≤ 1048576) (hs : standTo l l.length) (hok : allOk l) (hal : ∀ x ∈ l, x.attrs.length ≤ 1048577) : ∀ (D n a b : Nat) (p : List PV) (x : GRow) (es : List (PV × AV)) (j : Nat) (deep : Int) (ms : List AObj), b - a ≤ D → 1048577 < n → BT l a b p → l[a]? = some x → ms[j]? = some (.map es) → KOk l x.up a es →
    ∃ r, acall T (n + D + 39) 76 [.p (.agg p), .p (.int .i64 (chain l (a + 1)).length), .map true (j + 1 + 1), pL, pV] (LK a deep :: VK :: ms) = some r ∧ Seen l x.up b j ms r := by
  intro D
  induction D with
  | zero =>
    intro n a b p x es j deep ms hD hn hbt
    have := hbt.lt
    omega
  | succ D ih =>
    intro n a b p x es j deep ms hD hn hbt hx hj hes
    have hlt := hbt.lt
    cases hbt with
    | mk hx' hks =>
    rename_i x' ks
    rw [hx] at hx'
    cases hx'
    have ha : a < l.length := by omega
    obtain ⟨h1, h2, h3, h4⟩ := rowErr_ok (hok a x hx)
    have hlk := hes.none h4
    have hst := hes.strs x.key
    have hw := wrong_run (n := n + D + 1) x ks [] (by have := hal x (List.mem_of_getElem? hx); omega)
    rw [h3, show n + D + 1 + 38 = n + D + 39 by omega] at hw
    simp only [nodeCells] at hw
    have k1 : ((a : Int) == 4096) = false := by simp; omega
    have k2 : ¬ (64 : Int) < ((chain l (a + 1)).length : Int) := by omega
    have hjl : j < ms.length := (List.getElem?_eq_some_iff.1 hj).1
    -- the map, with the key
    obtain ⟨es1, he1, hes1⟩ : ∃ es1, es1 = (if x.key = [] then es else es ++ [(.str x.key, .p (.agg []))]) ∧ KOk l x.up (a + 1) es1 := by
      refine ⟨_, rfl, ?_⟩
      split
      · exact hes.mono (by omega)
      · rename_i hk; exact hes.more hx hk _
    have hcx : ∀ m y, l[m]? = some y → y.up = (a : Int) + 1 → a < m → (chain l (m + 1)).length = (chain l (a + 1)).length + 1 := by
      intro m y hy hu ham
      have hm : m < l.length := (List.getElem?_eq_some_iff.1 hy).1
      rw [chain_succ hs (Nat.le_refl _) hm]
      have : upAt l (m + 1) = a + 1 := by simp [upAt, hy, hu]
      rw [this, List.length_cons]
    have hks' := hks.lt ha
    obtain ⟨r, hr, deep', ms', rfl, hml, hsame⟩ := vis_loop (n := n + D + 39) (N := n + D + 39) l a b (chain l (a + 1)).length ks hks hl ha (by omega) (by omega) (ms.set j (.map es1)) (if ((chain l (a + 1)).length : Int) > deep then ((chain l (a + 1)).length : Int) else deep) (fun m m' k es' j' deep' ms' hb1 hy ham hmb hj' hes' => by
      obtain ⟨y, hy, hu⟩ := hy
      have := hb1.lt
      have hc := hcx m y hy hu ham
      have := ih n m m' k y es' j' deep' ms' (by omega) hn hb1 hy hj' (by rw [hu]; exact hes')
      rw [hc, hu] at this
      push_cast at this
      exact this)
    refine ⟨(.p (.bool true), LK b deep' :: VK :: ms'), ?_, deep', ms', es1, rfl, by simpa using hml, ?_, hes1.mono (by omega), fun j' hj' hne => ?_⟩
    rotate_left
    · rw [hsame j (by simpa using hjl), List.getElem?_set, if_pos rfl, if_pos hjl]
    · rw [hsame j' (by simpa using hj'), List.getElem?_set, if_neg (fun e => hne e.symm)]
    rw [show n + (D + 1) + 39 = n + D + 39 + 1 by omega, acall_code T76, run_code rfl rfl]
    simp only [visS, LK, VK, Int.natCast_add, Int.natCast_one, Int.natCast_zero] at hr
    simp only [nodeCells, LK, VK, pL, pV]
    by_cases hk : x.key = []
    · have hk' : (x.key == []) = true := by simp [hk]
      rw [if_pos hk] at he1
      subst he1
      have hset : ms.set j (.map es1) = ms := by
        apply List.ext_getElem?
        intro q
        rw [List.getElem?_set]
        split
        · rename_i e; subst e; exact hj.symm
        · rfl
      rw [hset] at hr
      have hlk' : mlk 2 es1 (.str []) = none := by rw [hk] at hlk; exact hlk
      have hst' : (es1.all fun e => (scalarEqK 2 e.1 (.str [])).isSome) = true := by rw [hk] at hst; exact hst
      rw [hk] at hw
      by_cases hdp : ((chain l (a + 1)).length : Int) > deep
      · rw [if_pos hdp] at hr
        simp (implicitDefEqProofs := false) (maxSteps := 1000000) (disch := omega) only [Ra, Rb, Rc, Rd, Re, Rf, Rg, guardK, evalOp, St.know, List.zipWith, mentions, AObj.mentions, bin, binI, avEq, noLocal, view, viewT, tupleOf, oneTup, pureArg, allFlat, flat, Nat.reduceBEq, Nat.reduceAdd, Nat.reduceLeDiff, Nat.reduceLT, pures, AV.cells, AObj.rd, AObj.wr, reduceCtorEq, Nat.reduceEqDiff, F76, hk, k1, k2, hw, hlk', hst', hj, hdp, hr, Option.getD_none, Option.isSome_none, List.getElem?_cons_zero, List.getElem?_cons_succ]
      · rw [if_neg hdp] at hr
        simp (implicitDefEqProofs := false) (maxSteps := 1000000) (disch := omega) only [Ra, Rb, Rc, Rd, Re, Rf, Rg, guardK, evalOp, St.know, List.zipWith, mentions, AObj.mentions, bin, binI, avEq, noLocal, view, viewT, tupleOf, oneTup, pureArg, allFlat, flat, Nat.reduceBEq, Nat.reduceAdd, Nat.reduceLeDiff, Nat.reduceLT, pures, AV.cells, AObj.rd, AObj.wr, reduceCtorEq, Nat.reduceEqDiff, F76, hk, k1, k2, hw, hlk', hst', hj, hdp, hr, Option.getD_none, Option.isSome_none, List.getElem?_cons_zero, List.getElem?_cons_succ]
    · have hk' : (x.key == []) = false := by simpa using hk
      rw [if_neg hk] at he1
      subst he1
      have hmp := mput_none (v := .p (.agg [])) hlk
      by_cases hdp : ((chain l (a + 1)).length : Int) > deep
      · rw [if_pos hdp] at hr
        simp (implicitDefEqProofs := false) (maxSteps := 1000000) (disch := omega) only [Ra, Rb, Rc, Rd, Re, Rf, Rg, guardK, evalOp, St.know, List.zipWith, mentions, AObj.mentions, bin, binI, avEq, noLocal, view, viewT, tupleOf, oneTup, pureArg, allFlat, flat, Nat.reduceBEq, Nat.reduceAdd, Nat.reduceLeDiff, Nat.reduceLT, pures, AV.cells, AObj.rd, AObj.wr, reduceCtorEq, Nat.reduceEqDiff, F76, hk', k1, k2, hw, hlk, hst, hmp, hj, hdp, hr, Option.getD_none, Option.isSome_none, Option.isSome_some, List.getElem?_cons_zero, List.getElem?_cons_succ]
      · rw [if_neg hdp] at hr
        simp (implicitDefEqProofs := false) (maxSteps := 1000000) (disch := omega) only [Ra, Rb, Rc, Rd, Re, Rf, Rg, guardK, evalOp, St.know, List.zipWith, mentions, AObj.mentions, bin, binI, avEq, noLocal, view, viewT, tupleOf, oneTup, pureArg, allFlat, flat, Nat.reduceBEq, Nat.reduceAdd, Nat.reduceLeDiff, Nat.reduceLT, pures, AV.cells, AObj.rd, AObj.wr, reduceCtorEq, Nat.reduceEqDiff, F76, hk', k1, k2, hw, hlk, hst, hmp, hj, hdp, hr, Option.getD_none, Option.isSome_none, Option.isSome_some, List.getElem?_cons_zero, List.getElem?_cons_succ]
end Go.TA.Tryd

end
section
/- Rows that are right for the document's answer are right for the program. -/
set_option linter.unusedVariables false
set_option linter.unusedSimpArgs false
set_option maxRecDepth 100000
set_option maxHeartbeats 8000000
namespace Go.TA.Tryd
theorem chain_one {l : List GRow} {x : GRow} (hs : standTo l l.length) (hx : l[0]? = some x) : chain l 1 = [1] := by
  have hlt : 0 < l.length := (List.getElem?_eq_some_iff.1 hx).1
  rw [chain_succ hs (Nat.le_refl _) hlt]
  have := upAt_le hs hlt hlt
  have : upAt l 1 = 0 := by simpa using this
  rw [this]; rfl
theorem check_run (l : List GRow) (hl : l.length ≤ 1048576) (hs : standTo l l.length) (hok : allOk l) (hal : ∀ x ∈ l, x.attrs.length ≤ 1048577) {b : Nat} {p : List PV} (hbt : BT l 0 b p) {n : Nat} (hn : 1048577 < n) (g : List AObj) :
    ∃ deep, acall T (n + l.length + 40) 64 [.p (.agg p)] g = some (.p (.agg [.int .i64 b, .int .i64 deep, .int .i64 0]), g) := by
  have hlt := hbt.lt
  have hbt' := hbt
  cases hbt with
  | mk hx hks =>
  rename_i x ks
  obtain ⟨r, hr, deep, ms', es, rfl, _, _, _, _⟩ := vis_run l hl hs hok hal l.length n 0 b (nodeCells x ks) x [] 0 0 [.map []] (by omega) hn hbt' hx rfl (fun e he => by simp at he)
  refine ⟨deep, ?_⟩
  rw [acall_code T64, run_pure rfl rfl rfl]
  have hc := chain_one hs hx
  simp only [Nat.zero_add, hc, List.length_singleton, Int.natCast_one, Int.natCast_zero, LK, VK, pL, pV, nodeCells] at hr
  simp only [nodeCells]
  simp (implicitDefEqProofs := false) (maxSteps := 1000000) (disch := omega) only [Ra, Rb, Rc, Rd, Re, Rf, Rg, evalOp, List.zipWith, mentions, AObj.mentions, noLocal, view, tupleOf, oneTup, Nat.reduceBEq, Nat.reduceAdd, Nat.reduceLT, pures, AV.cells, AObj.rd, AObj.wr, F64, hr, List.getElem?_cons_zero, List.getElem?_cons_succ]
theorem vcheck_run (l : List GRow) (hl : l.length ≤ 1048576) (hs : standTo l l.length) (hok : allOk l) (hal : ∀ x ∈ l, x.attrs.length ≤ 1048577) {b : Nat} {p : List PV} (hbt : BT l 0 b p) {n : Nat} (hn : 1048577 < n) (g : List AObj) :
    acall T (n + l.length + 41) 48 [.p (.agg p)] g = some (.tuple [.p (.int .i64 0), .p (.int .i64 0)], g) := by
  obtain ⟨deep, hr⟩ := check_run l hl hs hok hal hbt hn []
  cases hbt with
  | mk hx hks =>
  rename_i x ks
  rw [acall_code T48, run_pure rfl rfl rfl]
  simp only [nodeCells] at hr ⊢
  simp (implicitDefEqProofs := false) (maxSteps := 1000000) (disch := omega) only [Ra, Rb, Rc, Rd, Re, Rf, Rg, evalOp, St.know, List.zipWith, mentions, AObj.mentions, avEq, noLocal, view, viewT, tupleOf, oneTup, pureArg, allFlat, flat, Nat.reduceBEq, Nat.reduceAdd, Nat.reduceLT, pures, AV.cells, AObj.rd, AObj.wr, reduceCtorEq, Nat.reduceEqDiff, F48, hr]
end Go.TA.Tryd

end
section
/- Rows that are right for the document's answer are right for the program. -/
set_option linter.unusedVariables false
set_option linter.unusedSimpArgs false
set_option maxRecDepth 100000
set_option maxHeartbeats 8000000
namespace Go.TA.Tryd
theorem tree_run (l : List GRow) (hl : l.length ≤ 1048576) (hne : l ≠ []) (hf : formedB l = true) (hok : allOk l) (hal : ∀ x ∈ l, x.attrs.length ≤ 1048577) {n : Nat} (hn : 1048577 < n) (g : List AObj) :
    ∃ p, (∃ c1 c2 c3 c4 c5, p = [c1, c2, c3, c4, c5]) ∧ acall T (n + l.length + 42) 33 [.p (.list (l.map GRow.pv))] g = some (.tuple [.p (.agg p), .p (.int .i64 0)], g) := by
  have hs := formed_stands hf
  have hlen : 0 < l.length := List.length_pos_iff.2 hne
  have hsh : shallow l := fun i hi => by
    obtain ⟨x, hx⟩ := get_some hi
    exact (rowErr_ok (hok i x hx)).2.1
  have h4 : l.length ≤ 4096 := by
    rcases Nat.lt_or_ge 4096 l.length with h | h
    · obtain ⟨i, hi⟩ : ∃ i : Nat, i = 4096 := ⟨4096, rfl⟩
      rw [← hi] at h
      obtain ⟨x, hx⟩ := get_some h
      exact absurd hi (rowErr_ok (hok i x hx)).1
    · exact h
  obtain ⟨b, p, hbt, _, hb⟩ := build_run l hl hal l.length 0 (n + 38) hlen (by omega)
  have hb := hb []
  rw [show n + 38 + l.length + 3 = n + l.length + 41 by omega] at hb
  have hv := vcheck_run l hl hs hok hal hbt hn []
  have hfr := formP_run l hl [] (n := n + l.length + 40) (by omega)
  rw [hf] at hfr
  have hdr := deep_run l hs hsh h4 [] (n := n + l.length + 40) (by omega)
  cases hbt with
  | @mk _ _ x ks hx hks =>
  refine ⟨nodeCells x ks, ⟨_, _, _, _, _, rfl⟩, ?_⟩
  rw [acall_code T33, run_pure rfl rfl rfl]
  simp only [nodeCells, Int.natCast_zero] at hb hv ⊢
  have k0 : ((l.length : Int) == 0) = false := by simp; omega
  simp (implicitDefEqProofs := false) (maxSteps := 1000000) (disch := omega) only [Ra, Rb, Rc, Rd, Re, Rf, Rg, evalOp, St.know, List.zipWith, mentions, AObj.mentions, avEq, una, noLocal, view, viewT, tupleOf, oneTup, pureArg, allFlat, flat, Nat.reduceBEq, Nat.reduceAdd, Nat.reduceLT, pures, AV.cells, AObj.rd, AObj.wr, F33, k0, hfr, hdr, hb, hv]
theorem flatCheck_ok (l : List GRow) {m : Nat} (hl : Rows.small m l) (hm : m ≤ 1048577) (h : check13 l = 0) {n : Nat} (hn : 1048577 < n) (g : List AObj) : acall T (n + l.length + 43) 21 [.p (.list (l.map GRow.pv))] g = some (.p (.int .i64 0), g) := by
  obtain ⟨hf, hok⟩ := check13_ok h
  have hlen := hl.len
  rw [acall_code T21, run_pure rfl rfl rfl]
  by_cases hne : l = []
  · subst hne
    simp (implicitDefEqProofs := false) (maxSteps := 1000000) (disch := omega) only [Ra, Rb, Rc, Rd, Re, Rf, Rg, evalOp, St.know, List.zipWith, mentions, AObj.mentions, avEq, noLocal, view, tupleOf, oneTup, Nat.reduceBEq, Nat.reduceAdd, F21, Int.natCast_zero]
  · obtain ⟨p, hp, hr⟩ := tree_run l (by omega) hne hf hok (fun x hx => by have := (hl.row x hx).attrs; omega) hn []
    have hlen0 : 0 < l.length := List.length_pos_iff.2 hne
    have k0 : ((l.length : Int) == 0) = false := by simp; omega
    obtain ⟨c1, c2, c3, c4, c5, rfl⟩ := hp
    simp (implicitDefEqProofs := false) (maxSteps := 1000000) (disch := omega) only [Ra, Rb, Rc, Rd, Re, Rf, Rg, evalOp, St.know, List.zipWith, mentions, AObj.mentions, avEq, noLocal, view, viewT, tupleOf, oneTup, pureArg, allFlat, flat, Nat.reduceBEq, Nat.reduceAdd, Nat.reduceLT, pures, AV.cells, AObj.wr, F21, k0, hr]
end Go.TA.Tryd

end
section
/- Rows of numbers; what is found among rows; whether attributes are the same. Plain. -/
set_option linter.unusedVariables false
namespace Go.TA
def intsPV (l : List Int) : List (List PV) := l.map fun i => [PV.int .i64 i]
theorem intsPV_len (l : List Int) : (intsPV l).length = l.length := by simp [intsPV]
theorem intsPV_snoc (l : List Int) (i : Int) : intsPV l ++ [[PV.int .i64 i]] = intsPV (l ++ [i]) := by simp [intsPV]
theorem intsPV_nil : ([] : List (List PV)) = intsPV [] := rfl
theorem intsPV_get {l : List Int} {i : Nat} {v : Int} (h : l[i]? = some v) : (intsPV l).getD i [] = [PV.int .i64 v] := by
  unfold intsPV; rw [List.getD_eq_getElem?_getD, List.getElem?_map, h]; rfl
/-- The place of the first row with an ID. -/
def findAt (l : List GRow) (id : Int) : Option Nat := l.findIdx? (fun x => x.id == id)
def idAt (o : Option Nat) : Int := match o with
  | some k => k
  | none => -1
def sameRow (x y : GRow) : Bool := decide (x.tag = y.tag ∧ x.key = y.key ∧ x.text = y.text ∧ x.attrs = y.attrs)
def goneF (b : List GRow) (x : GRow) : List Int := match findAt b x.id with
  | some _ => []
  | none => [x.id]
def turnedF (a : List GRow) (y : GRow) : List Int := match findAt a y.id with
  | some k => (match a[k]? with | some x => if sameRow x y = true then [] else [y.id] | none => [])
  | none => []
theorem flat_step {f : GRow → List Int} {l : List GRow} {i : Nat} {x : GRow} (h : l[i]? = some x) : (l.take (i + 1)).flatMap f = (l.take i).flatMap f ++ f x := by
  rw [List.take_add_one, h]; simp
theorem findAt_lt {l : List GRow} {id : Int} {k : Nat} (h : findAt l id = some k) : k < l.length := by
  unfold findAt at h
  rw [List.findIdx?_eq_some_iff_getElem] at h
  exact h.1
theorem findAt_drop {l : List GRow} {id : Int} {i : Nat} {x : GRow} (h : l[i]? = some x) : (l.drop i).findIdx? (fun x => x.id == id) = if x.id = id then some 0 else ((l.drop (i + 1)).findIdx? (fun x => x.id == id)).map (· + 1) := by
  have hd : l.drop i = x :: l.drop (i + 1) := by rw [List.drop_eq_getElem?_toList_append, h]; rfl
  rw [hd, List.findIdx?_cons]
  by_cases hx : x.id = id
  · simp [hx]
  · simp [hx]
/-- A map from IDs to their first rows, as the program makes it. -/
def rowAV (x : GRow) : AV := .p (.agg x.pv)
def fmStep (es : List (PV × AV)) (x : GRow) : List (PV × AV) := if (mlk 1 es (.int .i64 x.id)).isSome = true then es else mput 1 es (.int .i64 x.id) (rowAV x)
def fm (l : List GRow) : List (PV × AV) := l.foldl fmStep []
theorem fm_step {l : List GRow} {i : Nat} {x : GRow} (h : l[i]? = some x) : fm (l.take (i + 1)) = fmStep (fm (l.take i)) x := by
  unfold fm; rw [List.take_add_one, h]; simp
def keysOk (es : List (PV × AV)) : Prop := ∀ e ∈ es, ∃ n, e.1 = .int .i64 n
theorem keysOk_all {es : List (PV × AV)} (h : keysOk es) (id : Int) : es.all (fun e => (scalarEqK 1 e.1 (.int .i64 id)).isSome) = true := by
  rw [List.all_eq_true]
  intro e he
  obtain ⟨n, hn⟩ := h e he
  rw [hn]; simp [scalarEqK]
theorem mput_new {es : List (PV × AV)} (hk : keysOk es) {id : Int} {v : AV} (h : mlk 1 es (.int .i64 id) = none) : mput 1 es (.int .i64 id) v = es ++ [(.int .i64 id, v)] := by
  induction es with
  | nil => rfl
  | cons e es ih =>
    obtain ⟨n, hn⟩ := hk e (by simp)
    obtain ⟨a, w⟩ := e
    simp only at hn
    subst hn
    simp only [mlk, mput] at h ⊢
    by_cases hc : scalarEqK 1 (.int .i64 n) (.int .i64 id) = some true
    · rw [if_pos hc] at h; cases h
    · rw [if_neg hc] at h
      rw [if_neg hc, ih (fun e he => hk e (by simp [he])) h]; rfl
theorem mlk_snoc (es : List (PV × AV)) (a : PV) (v : AV) (k : PV) : mlk 1 (es ++ [(a, v)]) k = match mlk 1 es k with | some w => some w | none => if scalarEqK 1 a k = some true then some v else none := by
  induction es with
  | nil => simp [mlk]
  | cons e es ih =>
    obtain ⟨b, w⟩ := e
    simp only [List.cons_append, mlk]
    by_cases hc : scalarEqK 1 b k = some true
    · rw [if_pos hc, if_pos hc]
    · rw [if_neg hc, if_neg hc, ih]
def MapIs (es : List (PV × AV)) (l : List GRow) : Prop := keysOk es ∧ ∀ id, mlk 1 es (.int .i64 id) = (l.find? fun x => x.id == id).map rowAV
theorem mapIs_step {es : List (PV × AV)} {l : List GRow} (x : GRow) (h : MapIs es l) : MapIs (fmStep es x) (l ++ [x]) := by
  obtain ⟨hk, hl⟩ := h
  unfold fmStep
  cases hm : mlk 1 es (.int .i64 x.id) with
  | some w =>
    simp only [Option.isSome_some, if_true]
    refine ⟨hk, fun id => ?_⟩
    rw [hl id, List.find?_append]
    by_cases hid : x.id = id
    · subst hid
      rw [hl] at hm
      cases hf : l.find? (fun y => y.id == x.id) with
      | none => rw [hf] at hm; cases hm
      | some y => simp
    · simp [hid]
  | none =>
    simp only [Option.isSome_none, Bool.false_eq_true, if_false]
    rw [mput_new hk hm]
    refine ⟨fun e he => ?_, fun id => ?_⟩
    · rcases List.mem_append.1 he with he | he
      · exact hk e he
      · simp at he; subst he; exact ⟨_, rfl⟩
    · rw [mlk_snoc, hl id, List.find?_append]
      cases hf : l.find? (fun y => y.id == id) with
      | some y => simp
      | none =>
        by_cases hid : x.id = id
        · simp [hid, scalarEqK]
        · simp [hid, scalarEqK]
theorem fm_is (l : List GRow) : MapIs (fm l) l := by
  have key : ∀ (r p : List GRow) (es : List (PV × AV)), MapIs es p → MapIs (r.foldl fmStep es) (p ++ r) := by
    intro r
    induction r with
    | nil => intro p es h; simpa using h
    | cons x r ih =>
      intro p es h
      have := ih (p ++ [x]) (fmStep es x) (mapIs_step x h)
      simpa using this
  exact key l [] [] ⟨fun e he => by simp at he, fun id => by simp [mlk]⟩
/-- What is found, and where it stands. -/
theorem find_at (l : List GRow) (id : Int) : l.find? (fun x => x.id == id) = match findAt l id with | some k => l[k]? | none => none := by
  unfold findAt
  induction l with
  | nil => rfl
  | cons x l ih =>
    rw [List.findIdx?_cons]
    by_cases hx : x.id = id
    · simp [hx]
    · simp only [List.find?_cons, beq_false_of_ne hx, ih, Bool.false_eq_true, if_false]
      cases hf : l.findIdx? (fun x => x.id == id) with
      | none => rfl
      | some k => simp
end Go.TA

end
section
/- The machine's memory: its nodes, and their kids' rows. Plain. -/
set_option linter.unusedVariables false
set_option linter.unusedSimpArgs false
namespace Go.TA
structure MNode where
  live : Bool
  up : Int
  tag : Bs
  key : Bs
  text : Bs
  attrs : List Attr
def nodeAV (s : MNode) (k : AV) : List AV := [.p (.bool s.live), .p (.int .i64 s.up), k, .p (.str s.tag), .p (.str s.key), .p (.str s.text), .p (.list (s.attrs.map Attr.pv))]
def rowsAV (N : Nat) (st : Nat → MNode) (av : Nat → AV) : List (List AV) := (List.range N).map fun h => nodeAV (st h) (av h)
def upd {α : Type} (f : Nat → α) (h : Nat) (v : α) : Nat → α := fun k => if k = h then v else f k
theorem upd_at {α : Type} (f : Nat → α) (h : Nat) (v : α) : upd f h v h = v := by simp [upd]
theorem upd_ne {α : Type} {f : Nat → α} {h k : Nat} {v : α} (hk : k ≠ h) : upd f h v k = f k := by simp [upd, hk]
section
variable {N : Nat} {st : Nat → MNode} {av : Nat → AV}
theorem rowsAV_len : (rowsAV N st av).length = N := by simp [rowsAV]
theorem rowsAV_get {h : Nat} (hh : h < N) : (rowsAV N st av).getD h [] = nodeAV (st h) (av h) := by
  rw [List.getD_eq_getElem?_getD, rowsAV, List.getElem?_map, List.getElem?_range hh]; rfl
theorem rowsAV_push (s : MNode) (a : AV) : rowsAV N st av ++ [nodeAV s a] = rowsAV (N + 1) (upd st N s) (upd av N a) := by
  simp only [rowsAV, List.range_succ, List.map_append, List.map_cons, List.map_nil, upd_at]
  congr 1
  apply List.map_congr_left
  intro h hh
  have : h ≠ N := by have := List.mem_range.1 hh; omega
  simp [upd, this]
theorem rowsAV_set {h : Nat} (hh : h < N) (s : MNode) (a : AV) : (rowsAV N st av).set h (nodeAV s a) = rowsAV N (upd st h s) (upd av h a) := by
  apply List.ext_getElem
  · simp [rowsAV]
  · intro k h1 h2
    rw [List.getElem_set]
    simp only [rowsAV, List.getElem_map, List.getElem_range]
    by_cases e : h = k
    · subst e; simp [upd]
    · rw [if_neg e]
      have e' : k ≠ h := fun e' => e e'.symm
      simp [upd, e']
theorem rowsAV_congr {st' : Nat → MNode} {av' : Nat → AV} (h : ∀ k, k < N → st k = st' k ∧ av k = av' k) : rowsAV N st av = rowsAV N st' av' := by
  unfold rowsAV
  apply List.map_congr_left
  intro k hk
  obtain ⟨h1, h2⟩ := h k (List.mem_range.1 hk)
  rw [h1, h2]
end
def refOf : AV → Option Nat
  | .own true k _ => some k
  | _ => none
/-- A node's kids, as they lie in memory. -/
inductive KRep (rest : List AObj) : AV → List Int → Prop
  | none : KRep rest .nils []
  | own {r : Nat} {ks : List Int} : rest[r]? = some (.pcells 1 (intsPV ks)) → KRep rest (.own true (r + 1 + 1) ks.length) ks
  | list {ks : List Int} : KRep rest (.p (.list (intsPV ks))) ks
structure MOk (N : Nat) (av : Nat → AV) (kd : Nat → List Int) (rest : List AObj) : Prop where
  kids : ∀ h, h < N → KRep rest (av h) (kd h)
  disj : ∀ h h', h < N → h' < N → h ≠ h' → refOf (av h) = none ∨ refOf (av h) ≠ refOf (av h')
def machG (N : Nat) (st : Nat → MNode) (av : Nat → AV) (rest : List AObj) : List AObj := .cells 7 (rowsAV N st av) :: .cells 1 [[.own true 0 N]] :: rest
section
variable {N : Nat} {st : Nat → MNode} {av : Nat → AV} {kd : Nat → List Int} {rest : List AObj}
theorem KRep.inv {a : AV} {ks : List Int} (h : KRep rest a ks) : (a = .nils ∧ ks = []) ∨ (∃ r, a = .own true (r + 1 + 1) ks.length ∧ rest[r]? = some (.pcells 1 (intsPV ks))) ∨ a = .p (.list (intsPV ks)) := by
  cases h with
  | none => exact .inl ⟨rfl, rfl⟩
  | own h => exact .inr (.inl ⟨_, rfl, h⟩)
  | list => exact .inr (.inr rfl)
theorem KRep.more {a : AV} {ks : List Int} (h : KRep rest a ks) (r : List AObj) : KRep (rest ++ r) a ks := by
  cases h with
  | none => exact .none
  | own h => exact .own (by rw [List.getElem?_append_left (List.getElem?_eq_some_iff.1 h).1]; exact h)
  | list => exact .list
theorem KRep.set {a : AV} {ks : List Int} (h : KRep rest a ks) {r : Nat} {o : AObj} (hr : refOf a ≠ some (r + 1 + 1)) : KRep (rest.set r o) a ks := by
  cases h with
  | none => exact .none
  | own h =>
    refine .own ?_
    rw [List.getElem?_set, if_neg (fun e => hr (by rw [e]; rfl))]
    exact h
  | list => exact .list
theorem KRep.ref_lt {a : AV} {ks : List Int} (h : KRep rest a ks) {k : Nat} (hk : refOf a = some k) : k < rest.length + 1 + 1 := by
  cases h with
  | none => cases hk
  | own h =>
    simp only [refOf, Option.some.injEq] at hk
    have := (List.getElem?_eq_some_iff.1 h).1
    omega
  | list => cases hk
theorem MOk.push (h : MOk N av kd rest) : MOk (N + 1) (upd av N .nils) (upd kd N []) rest where
  kids k hk := by
    by_cases e : k = N
    · subst e; rw [upd_at, upd_at]; exact .none
    · rw [upd_ne e, upd_ne e]; exact h.kids k (by omega)
  disj k k' hk hk' hne := by
    by_cases e : k = N
    · subst e; left; rw [upd_at]; rfl
    · rw [upd_ne e]
      by_cases e' : k' = N
      · subst e'
        rw [upd_at]
        cases hr : refOf (av k) with
        | none => exact .inl rfl
        | some q => exact .inr (by simp [refOf])
      · rw [upd_ne e']; exact h.disj k k' (by omega) (by omega) hne
/-- A node's kids are a new row. -/
theorem MOk.fresh (h : MOk N av kd rest) {u : Nat} (hu : u < N) (ks : List Int) : MOk N (upd av u (.own true (rest.length + 1 + 1) ks.length)) (upd kd u ks) (rest ++ [.pcells 1 (intsPV ks)]) where
  kids k hk := by
    by_cases e : k = u
    · subst e; rw [upd_at, upd_at]; exact .own (by simp)
    · rw [upd_ne e, upd_ne e]; exact (h.kids k hk).more _
  disj k k' hk hk' hne := by
    by_cases e : k = u
    · subst e
      rw [upd_at, upd_ne (fun e => hne e.symm)]
      right
      intro he
      have := (h.kids k' hk').ref_lt (k := rest.length + 1 + 1) he.symm
      omega
    · rw [upd_ne e]
      by_cases e' : k' = u
      · subst e'
        rw [upd_at]
        cases hr : refOf (av k) with
        | none => exact .inl rfl
        | some q =>
          right
          have := (h.kids k hk).ref_lt hr
          simp only [refOf, ne_eq, Option.some.injEq]
          omega
      · rw [upd_ne e']; exact h.disj k k' hk hk' hne
/-- A node's row of kids has turned in place. -/
theorem MOk.turn (h : MOk N av kd rest) {u r : Nat} (hu : u < N) (hr : av u = .own true (r + 1 + 1) (kd u).length) (hrl : r < rest.length) (ks : List Int) : MOk N (upd av u (.own true (r + 1 + 1) ks.length)) (upd kd u ks) (rest.set r (.pcells 1 (intsPV ks))) where
  kids k hk := by
    by_cases e : k = u
    · subst e; rw [upd_at, upd_at]; exact .own (by simp [List.getElem?_set, hrl])
    · rw [upd_ne e, upd_ne e]
      refine (h.kids k hk).set ?_
      rcases h.disj k u hk hu e with h1 | h1
      · rw [h1]; simp
      · rw [hr] at h1; exact h1
  disj k k' hk hk' hne := by
    have e0 : ∀ ks : List Int, refOf (AV.own true (r + 1 + 1) ks.length) = refOf (av u) := fun ks => by rw [hr]; rfl
    by_cases e : k = u
    · subst e
      rw [upd_at, upd_ne (fun e => hne e.symm), e0]
      exact h.disj k k' hk hk' hne
    · rw [upd_ne e]
      by_cases e' : k' = u
      · subst e'
        rw [upd_at, e0]
        exact h.disj k k' hk hk' hne
      · rw [upd_ne e']; exact h.disj k k' hk hk' hne
/-- A node's kids are a list that nobody writes; its row, if it had one, is of no use any more. -/
theorem MOk.fix (h : MOk N av kd rest) {u : Nat} (hu : u < N) (ks : List Int) : MOk N (upd av u (.p (.list (intsPV ks)))) (upd kd u ks) rest where
  kids k hk := by
    by_cases e : k = u
    · subst e; rw [upd_at, upd_at]; exact .list
    · rw [upd_ne e, upd_ne e]; exact h.kids k hk
  disj k k' hk hk' hne := by
    by_cases e : k = u
    · subst e; left; rw [upd_at]; rfl
    · rw [upd_ne e]
      by_cases e' : k' = u
      · subst e'
        rw [upd_at]
        cases hr : refOf (av k) with
        | none => exact .inl rfl
        | some q => exact .inr (by simp [refOf])
      · rw [upd_ne e']; exact h.disj k k' hk hk' hne
end
/-! ### the machine of rows -/
def holder : MNode := ⟨true, -1, [], [], [], []⟩
def nodeOf (x : GRow) : MNode := ⟨true, x.up, x.tag, x.key, x.text, x.attrs⟩
def st0 (l : List GRow) : Nat → MNode
  | 0 => holder
  | h + 1 => ((l[h]?).map nodeOf).getD holder
def kd0 (l : List GRow) (i : Nat) (h : Nat) : List Int := ((List.range i).filter fun k => ((l[k]?).map (fun x => x.up == (h : Int))).getD false).map fun (k : Nat) => (k : Int) + 1
theorem kd0_zero (l : List GRow) (h : Nat) : kd0 l 0 h = [] := rfl
theorem kd0_succ {l : List GRow} {i : Nat} {x : GRow} (hx : l[i]? = some x) (h : Nat) : kd0 l (i + 1) h = if x.up = (h : Int) then kd0 l i h ++ [(i : Int) + 1] else kd0 l i h := by
  simp only [kd0, List.range_succ, List.filter_append, List.map_append, List.filter_cons, List.filter_nil, hx, Option.map_some, Option.getD_some]
  by_cases e : x.up = (h : Int)
  · simp [e]
  · simp [e]
theorem kd0_new {l : List GRow} {i h : Nat} (hs : standTo l i) (hh : i < h) : kd0 l i h = [] := by
  unfold kd0
  rw [List.map_eq_nil_iff, List.filter_eq_nil_iff]
  intro k hk
  have hk := List.mem_range.1 hk
  cases hx : l[k]? with
  | none => simp
  | some x =>
    have := hs k x hk hx
    simp
    omega
end Go.TA

end
section
/- The machine of rows that are right. -/
set_option linter.unusedVariables false
set_option linter.unusedSimpArgs false
set_option maxRecDepth 100000
set_option maxHeartbeats 8000000
namespace Go.TA.Tryd
def newS (l : List GRow) (i : Nat) (av : Nat → AV) (rest : List AObj) : St := ⟨[(5, .ptr true 1 1 1 0 0), (17, .p (.list (l.map GRow.pv))), (18, .p (.int .i64 l.length)), (19, .p (.int .i64 i))], [], machG (i + 1) (st0 l) av rest⟩
theorem new_loop {n N : Nat} (l : List GRow) (hl : l.length ≤ 1048576) (hal : ∀ x ∈ l, x.attrs.length ≤ 1048577) (hs : standTo l l.length) (hN : l.length < N) :
    ∃ r, aexec (acall T (n + 1)) N (.loop B9x0) (newS l 0 (fun _ => .nils) []) = some r ∧ ∃ av rest, r = (.exit 0, ⟨[(5, .ptr true 1 1 1 0 0)], [], machG (l.length + 1) (st0 l) av rest⟩) ∧ MOk (l.length + 1) av (kd0 l l.length) rest ∧ ∀ h, h < l.length + 1 → ∀ ks, av h ≠ .p ks := by
  refine loop_inv (σ := Nat × (Nat → AV) × List AObj) (S := fun s => newS l s.1 s.2.1 s.2.2) (I := fun s => s.1 ≤ l.length ∧ MOk (s.1 + 1) s.2.1 (kd0 l s.1) s.2.2 ∧ ∀ h, h < s.1 + 1 → ∀ ks, s.2.1 h ≠ .p ks) (μ := fun s => l.length - s.1)
    (Q := fun r => ∃ av rest, r = (.exit 0, ⟨[(5, .ptr true 1 1 1 0 0)], [], machG (l.length + 1) (st0 l) av rest⟩) ∧ MOk (l.length + 1) av (kd0 l l.length) rest ∧ ∀ h, h < l.length + 1 → ∀ ks, av h ≠ .p ks) ?_ (0, (fun _ => .nils), []) ⟨by omega, ⟨fun h _ => .none, fun _ _ _ _ _ => .inl rfl⟩, fun h _ ks => by simp⟩ (by simp only; omega)
  rintro ⟨i, av, rest⟩ ⟨h1, h2, h3⟩
  simp only at h1 h2 h3 ⊢
  by_cases hi : i < l.length
  · left
    obtain ⟨x, hx, hu⟩ := up_val hs (Nat.le_refl _) hi
    have hle := upAt_le hs hi hi
    have hg := getD_map (f := GRow.pv) hx
    have k1 : (i : Int) < (l.length : Int) := by omega
    have hcl := cloneA_run x.attrs (hal x (List.mem_of_getElem? hx)) [] n
    generalize hU : upAt l (i + 1) = u at hu hle
    have hst : st0 l (i + 1) = nodeOf x := by simp [st0, hx]
    -- a node more
    have hpush : rowsAV (i + 1) (st0 l) av ++ [[.p (.bool true), .p (.int .i64 u), .nils, .p (.str x.tag), .p (.str x.key), .p (.str x.text), .p (.list (x.attrs.map Attr.pv))]] = rowsAV (i + 1 + 1) (st0 l) (upd av (i + 1) .nils) := by
      have := rowsAV_push (N := i + 1) (st := st0 l) (av := av) (nodeOf x) .nils
      simp only [nodeAV, nodeOf, hu] at this
      rw [this]
      refine rowsAV_congr fun k hk => ⟨?_, rfl⟩
      by_cases e : k = i + 1
      · subst e; rw [upd_at, hst, nodeOf, hu]
      · rw [upd_ne e]
    have hM := h2.push
    have len1 : (rowsAV (i + 1) (st0 l) av).length = i + 1 := rowsAV_len
    have len2 : (rowsAV (i + 1 + 1) (st0 l) (upd av (i + 1) .nils)).length = i + 1 + 1 := rowsAV_len
    have hgu : (rowsAV (i + 1 + 1) (st0 l) (upd av (i + 1) .nils)).getD u [] = nodeAV (st0 l u) (upd av (i + 1) .nils u) := rowsAV_get (by omega)
    have hkd : ∀ h, h < i + 1 + 1 → upd (upd (kd0 l i) (i + 1) []) u (upd (kd0 l i) (i + 1) [] u ++ [(i : Int) + 1]) h = kd0 l (i + 1) h := by
      intro h hh
      have hnew : upd (kd0 l i) (i + 1) [] h = kd0 l i h := by
        by_cases e : h = i + 1
        · subst e; rw [upd_at, kd0_new (hs.mono (by omega)) (by omega)]
        · rw [upd_ne e]
      rw [kd0_succ hx, hu]
      by_cases e : h = u
      · subst e
        rw [upd_at, hnew, if_pos rfl]
      · rw [upd_ne e, hnew, if_neg (by omega)]
    have hset : ∀ a, (rowsAV (i + 1 + 1) (st0 l) (upd av (i + 1) .nils)).set u [.p (.bool (st0 l u).live), .p (.int .i64 (st0 l u).up), a, .p (.str (st0 l u).tag), .p (.str (st0 l u).key), .p (.str (st0 l u).text), .p (.list ((st0 l u).attrs.map Attr.pv))] = rowsAV (i + 1 + 1) (st0 l) (upd (upd av (i + 1) .nils) u a) := by
      intro a
      have := rowsAV_set (N := i + 1 + 1) (st := st0 l) (av := upd av (i + 1) .nils) (h := u) (by omega) (st0 l u) a
      simp only [nodeAV] at this
      rw [this]
      refine rowsAV_congr fun k hk => ⟨?_, rfl⟩
      by_cases e : k = u
      · subst e; rw [upd_at]
      · rw [upd_ne e]
    have hK := hM.kids u (by omega)
    generalize hav : upd av (i + 1) .nils u = a at hK hgu
    generalize hks : upd (kd0 l i) (i + 1) [] u = ks at hK hkd
    simp only [nodeAV] at hgu
    have hle2 : (u : Int) < (i : Int) + 1 + 1 := by omega
    have hkl : ks.length ≤ 1048576 := by
      rw [← hks]
      by_cases e : u = i + 1
      · rw [e, upd_at]; simp
      · rw [upd_ne e]
        simp only [kd0, List.length_map]
        have := List.length_filter_le (fun k => ((l[k]?).map (fun x => x.up == (u : Int))).getD false) (List.range i)
        simp only [List.length_range] at this
        omega
    rcases hK.inv with ⟨rfl, rfl⟩ | ⟨r, rfl, hr⟩ | rfl
    · refine ⟨(i + 1, upd (upd av (i + 1) .nils) u (.own true (rest.length + 1 + 1) 1), rest ++ [.pcells 1 [[.int .i64 ((i : Int) + 1)]]]), ?_, ⟨by omega, ?_, ?_⟩, by simp only; omega⟩
      · have hsl : ∀ o o' : AObj, (rest ++ [o]).set rest.length o' = rest ++ [o'] := fun o o' => by simp [List.set_append]
        simp only [newS, machG]
        simp (implicitDefEqProofs := false) (maxSteps := 1000000) (disch := omega) only [Ra, Rb, Rc, Rd, Re, Rf, Rg, evalOp, St.know, mentions, AObj.mentions, bin, binI, noLocal, AV.same, PV.same, view, viewT, pureArg, allFlat, flat, appendTo, Nat.reduceBEq, Nat.reduceAdd, Nat.reduceLeDiff, Nat.reduceLT, asInt, pures, AV.cells, AObj.rd, AObj.wr, reduceCtorEq, Nat.reduceMul, Nat.reduceEqDiff, B9x0, k1, hg, GRow.pv, attrsPV, hcl, hpush, len1, len2, hgu, hset, hu, hle2, hsl, List.length_append, List.getElem?_cons_zero, List.getElem?_cons_succ]
      · have := hM.fresh (u := u) (by omega) [(i : Int) + 1]
        simp only [List.length_singleton, intsPV, List.map_cons, List.map_nil] at this
        refine ⟨fun h hh => ?_, this.disj⟩
        have q := this.kids h hh
        rw [← hkd h hh]
        simpa [hks] using q
      · intro h hh ks
        by_cases e : h = u
        · subst e; simp [upd]
        · simp only
          rw [upd_ne e]
          by_cases e' : h = i + 1
          · subst e'; simp [upd]
          · rw [upd_ne e']; exact h3 h (by omega) ks
    · have hrl : r < rest.length := (List.getElem?_eq_some_iff.1 hr).1
      refine ⟨(i + 1, upd (upd av (i + 1) .nils) u (.own true (r + 1 + 1) (ks.length + 1)), rest.set r (.pcells 1 (intsPV ks ++ [[.int .i64 ((i : Int) + 1)]]))), ?_, ⟨by omega, ?_, ?_⟩, by simp only; omega⟩
      · simp only [newS, machG]
        have il := intsPV_len ks
        simp (implicitDefEqProofs := false) (maxSteps := 1000000) (disch := omega) only [Ra, Rb, Rc, Rd, Re, Rf, Rg, evalOp, St.know, mentions, AObj.mentions, bin, binI, noLocal, AV.same, PV.same, view, viewT, pureArg, allFlat, flat, appendTo, Nat.reduceBEq, Nat.reduceAdd, Nat.reduceLeDiff, Nat.reduceLT, asInt, pures, AV.cells, AObj.rd, AObj.wr, reduceCtorEq, Nat.reduceEqDiff, B9x0, k1, hg, GRow.pv, attrsPV, hcl, hpush, len1, len2, hgu, hset, hu, hle2, hr, il, List.length_append, List.getElem?_cons_zero, List.getElem?_cons_succ]
      · have := hM.turn (u := u) (r := r) (by omega) (by rw [hav, hks]) hrl (ks ++ [(i : Int) + 1])
        simp only [List.length_append, List.length_singleton, ← intsPV_snoc] at this
        refine ⟨fun h hh => ?_, this.disj⟩
        have q := this.kids h hh
        rw [← hkd h hh]
        exact q
      · intro h hh ks
        by_cases e : h = u
        · subst e; simp [upd]
        · simp only
          rw [upd_ne e]
          by_cases e' : h = i + 1
          · subst e'; simp [upd]
          · rw [upd_ne e']; exact h3 h (by omega) ks
    · exfalso
      by_cases e : u = i + 1
      · rw [e, upd_at] at hav; cases hav
      · rw [upd_ne e] at hav; exact h3 u (by omega) _ hav
  · right
    obtain rfl : i = l.length := by omega
    have k1 : ¬ (l.length : Int) < (l.length : Int) := by omega
    refine ⟨_, ?_, ?_, av, rest, rfl, h2, h3⟩
    · simp only [newS]
      simp (implicitDefEqProofs := false) (maxSteps := 1000000) (disch := omega) only [Ra, Rb, Rc, Rd, Re, Rf, Rg, evalOp, St.know, mentions, AObj.mentions, bin, binI, Nat.reduceBEq, B9x0, k1]
    · simp
theorem new_run (l : List GRow) {m : Nat} (hl : Rows.small m l) (hm : m ≤ 1048577) (h : check13 l = 0) {n : Nat} (hn : 1048577 < n) :
    ∃ av rest, acall T (n + l.length + 44) 9 [.p (.list (l.map GRow.pv))] [] = some (.tuple [.ptr true 1 1 1 0 0, .p (.int .i64 0)], machG (l.length + 1) (st0 l) av rest) ∧ MOk (l.length + 1) av (kd0 l l.length) rest ∧ ∀ h, h < l.length + 1 → ∀ ks, av h ≠ .p ks := by
  have hlen := hl.len
  have hfc := flatCheck_ok l hl hm h hn []
  have hs : standTo l l.length := formed_stands (check13_ok h).1
  obtain ⟨r, hr, av, rest, rfl, hok, hpp⟩ := new_loop (n := n + l.length + 42) (N := n + l.length + 43) l (by omega) (fun x hx => by have := (hl.row x hx).attrs; omega) hs (by omega)
  refine ⟨av, rest, ?_, hok, hpp⟩
  rw [acall_code T9, run_code rfl rfl]
  have h0 : rowsAV 1 (st0 l) (fun _ => AV.nils) = [nodeAV holder .nils] := rfl
  simp only [newS, machG, Nat.zero_add, Int.natCast_zero, h0, nodeAV, holder, List.map_nil] at hr ⊢
  simp (implicitDefEqProofs := false) (maxSteps := 1000000) (disch := omega) only [Ra, Rb, Rc, Rd, Re, Rf, Rg, evalOp, St.know, List.zipWith, mentions, AObj.mentions, avEq, noLocal, view, viewT, oneTup, pureArg, allFlat, flat, Nat.reduceBEq, Nat.reduceAdd, Nat.reduceLeDiff, pures, AV.cells, Int.reduceNeg, Nat.reduceEqDiff, F9, hfc, hr]
end Go.TA.Tryd

end
section
/- Rows that stand as a tree's do: where what is below a handle ends; kids in their order. Plain. -/
set_option linter.unusedVariables false
set_option linter.unusedSimpArgs false
namespace Go.TA
/-- The rows stand, and each stands below a handle above the row ahead. -/
def sound (l : List GRow) : Prop := standTo l l.length ∧ ∀ (j : Nat) x, l[j]? = some x → (j = 0 ∧ x.up = 0) ∨ (0 < j ∧ ∃ y ∈ chain l j, (y : Int) = x.up)
theorem formed_sound {l : List GRow} (h : formedB l = true) : sound l := by
  refine ⟨formed_stands h, fun j x hx => ?_⟩
  have hr := formed_drop (i := 0) (by simpa [formedB] using h) j x (by omega) hx
  unfold rowOkB at hr
  split at hr
  · rename_i h0; exact .inl ⟨h0, by simpa using hr⟩
  · rename_i h0
    simp only [Bool.and_eq_true, decide_eq_true_eq, aboveB, List.any_eq_true, beq_iff_eq] at hr
    exact .inr ⟨by omega, hr.2⟩
def endOf (l : List GRow) (h : Nat) : Nat := h + (l.drop h).findIdx (fun x => decide (x.up < (h : Int)))
section
variable {l : List GRow}
theorem endOf_le {h : Nat} (hh : h ≤ l.length) : h ≤ endOf l h ∧ endOf l h ≤ l.length := by
  unfold endOf
  have := List.findIdx_le_length (xs := l.drop h) (p := fun x => decide (x.up < (h : Int)))
  rw [List.length_drop] at this
  omega
theorem endOf_in {h j : Nat} {x : GRow} (h1 : h ≤ j) (h2 : j < endOf l h) (hx : l[j]? = some x) : (h : Int) ≤ x.up := by
  unfold endOf at h2
  have hlt : j < l.length := (List.getElem?_eq_some_iff.1 hx).1
  have := List.not_of_lt_findIdx (xs := l.drop h) (p := fun x => decide (x.up < (h : Int))) (i := j - h) (by omega)
  simp only [List.getElem_drop, decide_eq_false_iff_not] at this
  have e : l[h + (j - h)]'(by omega) = x := by
    have : l[h + (j - h)]? = some x := by rw [← hx]; congr 1; omega
    exact (List.getElem?_eq_some_iff.1 this).2
  rw [e] at this
  simpa using this
theorem endOf_at {h : Nat} {x : GRow} (hh : h ≤ l.length) (hx : l[endOf l h]? = some x) : x.up < (h : Int) := by
  have hlt : endOf l h < l.length := (List.getElem?_eq_some_iff.1 hx).1
  unfold endOf at hlt hx
  have := List.findIdx_getElem (xs := l.drop h) (p := fun x => decide (x.up < (h : Int))) (w := by rw [List.length_drop]; omega)
  simp only [List.getElem_drop, decide_eq_true_eq] at this
  have e := (List.getElem?_eq_some_iff.1 hx).2
  rw [e] at this
  exact this
theorem up_of (hs : sound l) {j : Nat} {x : GRow} (hx : l[j]? = some x) : x.up = (upAt l (j + 1) : Int) := by
  have := hs.1 j x (List.getElem?_eq_some_iff.1 hx).1 hx
  simp [upAt, hx]
  omega
/-- What is above a row below a handle, up to that handle, is above the handle. -/
theorem chain_below (hs : sound l) {m : Nat} (hm : m < l.length) : ∀ j, m + 1 ≤ j → j ≤ endOf l (m + 1) → ∀ y ∈ chain l j, y < m + 1 → y ∈ chain l (upAt l (m + 1)) := by
  intro j
  induction j using Nat.strongRecOn with
  | _ j ih =>
    intro h1 h2 y hy hlt
    have hle := (endOf_le (l := l) (h := m + 1) (by omega)).2
    obtain ⟨j, rfl⟩ : ∃ k, j = k + 1 := ⟨j - 1, by omega⟩
    by_cases e : j = m
    · subst e
      rw [chain_succ hs.1 (Nat.le_refl _) (by omega)] at hy
      rcases List.mem_cons.1 hy with rfl | hy
      · omega
      · exact hy
    · obtain ⟨x, hx⟩ := get_some (show j < l.length by omega)
      have hup := endOf_in (h := m + 1) (by omega) (by omega) hx
      have hu := up_of hs hx
      have hule := upAt_le hs.1 (show j < l.length by omega) (by omega)
      rw [chain_succ hs.1 (Nat.le_refl _) (by omega)] at hy
      rcases List.mem_cons.1 hy with rfl | hy
      · omega
      · exact ih _ (by omega) (by omega) (by omega) y hy hlt
/-- Behind what is below a handle, nothing is below it. -/
theorem chain_behind (hs : sound l) {h : Nat} (hh : h ≤ l.length) : ∀ j, endOf l h + 1 ≤ j → j ≤ l.length → ∀ y ∈ chain l j, ¬ (h ≤ y ∧ y ≤ endOf l h) := by
  intro j
  induction j using Nat.strongRecOn with
  | _ j ih =>
    intro h1 h2 y hy hc
    obtain ⟨j, rfl⟩ : ∃ k, j = k + 1 := ⟨j - 1, by omega⟩
    obtain ⟨x, hx⟩ := get_some (show j < l.length by omega)
    have hu := up_of hs hx
    have hule := upAt_le hs.1 (show j < l.length by omega) (by omega)
    rw [chain_succ hs.1 (Nat.le_refl _) (by omega)] at hy
    rcases List.mem_cons.1 hy with rfl | hy
    · omega
    have hyle := chain_le hs.1 (Nat.le_refl _) _ (by omega : upAt l (j + 1) ≤ l.length) y hy
    by_cases e : j = endOf l h
    · subst e
      have := endOf_at hh hx
      omega
    · by_cases e2 : endOf l h + 1 ≤ upAt l (j + 1)
      · exact ih _ (by omega) e2 (by omega) y hy hc
      · rcases hs.2 j x hx with ⟨h0, _⟩ | ⟨_, z, hz, hzu⟩
        · omega
        · have hz' : z = upAt l (j + 1) := by omega
          have := ih j (by omega) (by omega) (by omega) z hz
          omega
theorem kd0_prefix {i k : Nat} (hik : i ≤ k) (h : Nat) : ∃ r, kd0 l k h = kd0 l i h ++ r := by
  obtain ⟨d, rfl⟩ : ∃ d, k = i + d := ⟨k - i, by omega⟩
  induction d with
  | zero => exact ⟨[], by simp⟩
  | succ d ih =>
    obtain ⟨r, hr⟩ := ih (by omega)
    by_cases hlt : i + d < l.length
    · obtain ⟨x, hx⟩ := get_some hlt
      rw [show i + (d + 1) = i + d + 1 by omega, kd0_succ hx, hr]
      split
      · exact ⟨r ++ [_], by rw [List.append_assoc]⟩
      · exact ⟨r, rfl⟩
    · refine ⟨r, ?_⟩
      rw [← hr]
      have : l[i + d]? = none := List.getElem?_eq_none (by omega)
      simp [kd0, show i + (d + 1) = i + d + 1 by omega, List.range_succ, List.filter_append, this]
theorem kd0_skip {i : Nat} (h : Nat) : ∀ (d : Nat), (∀ (j : Nat) x, i ≤ j → j < i + d → l[j]? = some x → x.up ≠ (h : Int)) → kd0 l (i + d) h = kd0 l i h := by
  intro d
  induction d with
  | zero => intro _; rfl
  | succ d ih =>
    intro hn
    rw [← ih (fun j x h1 h2 => hn j x h1 (by omega))]
    rw [show i + (d + 1) = i + d + 1 by omega]
    cases hx : l[i + d]? with
    | none => simp [kd0, List.range_succ, List.filter_append, hx]
    | some x => rw [kd0_succ hx, if_neg (hn (i + d) x (by omega) (by omega) hx)]
/-- One kid more: it is the next row. -/
theorem kid_next (hs : sound l) {h cur : Nat} (h1 : h ≤ cur) (h2 : cur < endOf l h) (hcur : cur = h ∨ ∃ m, h ≤ m ∧ m < cur ∧ cur = endOf l (m + 1) ∧ upAt l (m + 1) = h) (hh : h ≤ l.length) : ∃ x, l[cur]? = some x ∧ x.up = (h : Int) := by
  have hle := (endOf_le (l := l) hh).2
  obtain ⟨x, hx⟩ := get_some (show cur < l.length by omega)
  refine ⟨x, hx, ?_⟩
  have hup := endOf_in h1 h2 hx
  rcases hs.2 cur x hx with ⟨h0, h3⟩ | ⟨h0, y, hy, hyu⟩
  · omega
  · have hyle := chain_le hs.1 (Nat.le_refl _) cur (by omega) y hy
    rcases hcur with rfl | ⟨m, m1, m2, m3, m4⟩
    · omega
    · have hm : m < l.length := by omega
      have hat : x.up < ((m + 1 : Nat) : Int) := by
        rw [m3] at hx
        exact endOf_at (by omega) hx
      have := chain_below hs hm cur (by omega) (by omega) y hy (by omega)
      rw [m4] at this
      have := chain_le hs.1 (Nat.le_refl _) h hh y this
      omega
theorem kid_list (hs : sound l) {h cur : Nat} {x : GRow} (hx : l[cur]? = some x) (hu : x.up = (h : Int)) : (kd0 l l.length h)[(kd0 l cur h).length]? = some ((cur : Int) + 1) ∧ kd0 l (endOf l (cur + 1)) h = kd0 l cur h ++ [(cur : Int) + 1] := by
  have hlt : cur < l.length := (List.getElem?_eq_some_iff.1 hx).1
  have h1 : kd0 l (cur + 1) h = kd0 l cur h ++ [(cur : Int) + 1] := by rw [kd0_succ hx, if_pos hu]
  have hst := hs.1 cur x hlt hx
  have he := endOf_le (l := l) (h := cur + 1) (by omega)
  refine ⟨?_, ?_⟩
  · obtain ⟨r, hr⟩ := kd0_prefix (l := l) (show cur + 1 ≤ l.length by omega) h
    rw [hr, h1, List.append_assoc, List.getElem?_append_right (Nat.le_refl _), Nat.sub_self]
    rfl
  · rw [← h1]
    have := kd0_skip (l := l) (i := cur + 1) h (endOf l (cur + 1) - (cur + 1)) (fun j x h2 h3 hj => by
      have := endOf_in (h := cur + 1) h2 (by omega) hj
      omega)
    rw [← this]
    congr 1
    omega
theorem kids_end (hs : sound l) {h : Nat} (hh : h ≤ l.length) : kd0 l (endOf l h) h = kd0 l l.length h := by
  have he := endOf_le (l := l) hh
  have := kd0_skip (l := l) (i := endOf l h) h (l.length - endOf l h) (fun j x h1 h2 hj hu => by
    have hlt : j < l.length := (List.getElem?_eq_some_iff.1 hj).1
    have hstand := hs.1 j x hlt hj
    by_cases e : j = endOf l h
    · subst e
      have := endOf_at hh hj
      omega
    · rcases hs.2 j x hj with ⟨h0, _⟩ | ⟨_, y, hy, hyu⟩
      · omega
      · have := chain_behind hs hh j (by omega) (by omega) y hy
        omega)
  rw [← this]
  congr 1
  omega
theorem end_mono {h cur : Nat} (h1 : h ≤ cur) (h2 : cur < endOf l h) (hh : h ≤ l.length) : endOf l (cur + 1) ≤ endOf l h := by
  have he := endOf_le (l := l) hh
  have he2 := endOf_le (l := l) (h := cur + 1) (by omega)
  rcases Nat.lt_or_ge (endOf l h) (endOf l (cur + 1)) with hlt | hge
  · obtain ⟨x, hx⟩ := get_some (show endOf l h < l.length by omega)
    have a1 := endOf_at hh hx
    have a2 := endOf_in (h := cur + 1) (by omega) hlt hx
    omega
  · exact hge
theorem end_zero (hs : sound l) : endOf l 0 = l.length := by
  have he := endOf_le (l := l) (h := 0) (by omega)
  rcases Nat.lt_or_ge (endOf l 0) l.length with hlt | hge
  · obtain ⟨x, hx⟩ := get_some hlt
    have a1 := endOf_at (h := 0) (by omega) hx
    have := hs.1 _ x hlt hx
    omega
  · omega
/-- Rows with the places as their IDs. -/
def named : List GRow → Nat → List GRow
  | [], _ => []
  | x :: r, i => { x with id := (i : Int) + 1 } :: named r (i + 1)
theorem named_len : ∀ (l : List GRow) (i : Nat), (named l i).length = l.length
  | [], _ => rfl
  | x :: r, i => by simp [named, named_len r]
theorem named_get : ∀ (l : List GRow) (i k : Nat), (named l i)[k]? = (l[k]?).map fun x => { x with id := ((i + k : Nat) : Int) + 1 }
  | [], _, _ => by simp [named]
  | x :: r, i, 0 => by simp [named]
  | x :: r, i, k + 1 => by
    simp only [named, List.getElem?_cons_succ, named_get r (i + 1) k]
    congr 1
    funext y
    rw [show i + 1 + k = i + (k + 1) by omega]
def outPV (l : List GRow) (j : Nat) : List (List PV) := ((named l 0).take j).map GRow.pv
theorem outPV_len {j : Nat} (hj : j ≤ l.length) : (outPV l j).length = j := by simp [outPV, named_len]; omega
theorem outPV_succ {j : Nat} {x : GRow} (hx : l[j]? = some x) : outPV l j ++ [GRow.pv { x with id := (j : Int) + 1 }] = outPV l (j + 1) := by
  unfold outPV
  have : (named l 0)[j]? = some { x with id := (j : Int) + 1 } := by rw [named_get, hx]; simp
  rw [List.take_add_one, this]
  simp
theorem outPV_zero : outPV l 0 = [] := rfl
theorem kd0_len (i h : Nat) : (kd0 l i h).length ≤ i := by
  unfold kd0
  rw [List.length_map]
  have := List.length_filter_le (fun k => ((l[k]?).map (fun x => x.up == (h : Int))).getD false) (List.range i)
  simpa using this
end
end Go.TA

end
section
/- The rows of the machine of rows. -/
set_option linter.unusedVariables false
set_option linter.unusedSimpArgs false
set_option maxRecDepth 100000
set_option maxHeartbeats 8000000
namespace Go.TA.Tryd
def rowS (l : List GRow) (av : Nat → AV) (rest : List AObj) (q h : Nat) (i cur : Nat) : St := ⟨[(0, .ptr true 1 1 1 0 0), (1, .own true (q + 1 + 1) cur), (3, .p (.int .i64 h)), (19, av h), (20, .p (.int .i64 (kd0 l l.length h).length)), (21, .p (.int .i64 i))], [], machG (l.length + 1) (st0 l) av (rest.set q (.pcells 6 (outPV l cur)))⟩
theorem rows_loop {n N : Nat} (l : List GRow) (hl : l.length ≤ 1048576) (hal : ∀ x ∈ l, x.attrs.length ≤ 1048577) (hs : sound l) (av : Nat → AV) (rest : List AObj) (hM : MOk (l.length + 1) av (kd0 l l.length) rest) (hp : ∀ k, k < l.length + 1 → ∀ ks, av k ≠ .p ks) (q : Nat) (hq : q < rest.length) (hqf : ∀ k, k < l.length + 1 → refOf (av k) ≠ some (q + 1 + 1))
    (h : Nat) (hh : h ≤ l.length) (hN : l.length < N)
    (ih : ∀ cur, h ≤ cur → cur < endOf l h → acall T (n + 1) 24 [.ptr true 1 1 1 0 0, .own true (q + 1 + 1) (cur + 1), .p (.int .i64 ((cur : Int) + 1)), .p (.int .i64 ((cur : Int) + 1))] (machG (l.length + 1) (st0 l) av (rest.set q (.pcells 6 (outPV l (cur + 1))))) = some (.own true (q + 1 + 1) (endOf l (cur + 1)), machG (l.length + 1) (st0 l) av (rest.set q (.pcells 6 (outPV l (endOf l (cur + 1))))))) :
    aexec (acall T (n + 1)) N (.loop B24x0) (rowS l av rest q h (kd0 l h h).length h) = some (.exit 0, ⟨[(1, .own true (q + 1 + 1) (endOf l h))], [], machG (l.length + 1) (st0 l) av (rest.set q (.pcells 6 (outPV l (endOf l h))))⟩) := by
  have he := endOf_le (l := l) hh
  have key := loop_inv (C := acall T (n + 1)) (N := N) (B := B24x0) (σ := Nat) (S := fun cur => rowS l av rest q h (kd0 l cur h).length cur)
    (I := fun cur => h ≤ cur ∧ cur ≤ endOf l h ∧ (cur = h ∨ ∃ m, h ≤ m ∧ m < cur ∧ cur = endOf l (m + 1) ∧ upAt l (m + 1) = h)) (μ := fun cur => l.length - cur)
    (Q := fun r => r = (.exit 0, ⟨[(1, .own true (q + 1 + 1) (endOf l h))], [], machG (l.length + 1) (st0 l) av (rest.set q (.pcells 6 (outPV l (endOf l h))))⟩)) ?_ h ⟨Nat.le_refl _, he.1, .inl rfl⟩ (by omega)
  · obtain ⟨r, hr, rfl⟩ := key
    exact hr
  rintro cur ⟨h1, h2, h3⟩
  have hK := hM.kids h (by omega)
  by_cases hc : cur < endOf l h
  · left
    obtain ⟨x, hx, hu⟩ := kid_next hs h1 hc h3 hh
    obtain ⟨hkid, hnext⟩ := kid_list hs hx hu
    have hend := endOf_le (l := l) (h := cur + 1) (by omega)
    have hkl : (kd0 l cur h).length < (kd0 l l.length h).length := (List.getElem?_eq_some_iff.1 hkid).1
    refine ⟨endOf l (cur + 1), ?_, ⟨by omega, end_mono h1 hc hh, .inr ⟨cur, h1, by omega, rfl, ?_⟩⟩, by omega⟩
    rotate_left
    · have := up_of hs hx
      omega
    have kb := kd0_len (l := l) cur h
    have hnl : (kd0 l (endOf l (cur + 1)) h).length = (kd0 l cur h).length + 1 := by rw [hnext, List.length_append]; rfl
    have ihc := ih cur h1 hc
    have hcl := cloneA_run x.attrs (hal x (List.mem_of_getElem? hx)) [] n
    have hst : st0 l (cur + 1) = nodeOf x := by simp [st0, hx]
    have hgn : (rowsAV (l.length + 1) (st0 l) av).getD (cur + 1) [] = nodeAV (nodeOf x) (av (cur + 1)) := by rw [rowsAV_get (by omega), hst]
    have len1 : (rowsAV (l.length + 1) (st0 l) av).length = l.length + 1 := rowsAV_len
    have ol := outPV_len (l := l) (j := cur) (by omega)
    have ol2 := outPV_len (l := l) (j := cur + 1) (by omega)
    have os := outPV_succ hx
    simp only [GRow.pv, attrsPV, hu] at os
    have k1 : ((kd0 l cur h).length : Int) < ((kd0 l l.length h).length : Int) := by omega
    have k2 : (cur : Int) < (l.length : Int) := by omega
    have k5 : ((cur : Int) + 1).toNat = cur + 1 := by omega
    have hgq : (rest.set q (.pcells 6 (outPV l cur)))[q]? = some (.pcells 6 (outPV l cur)) := by rw [List.getElem?_set, if_pos rfl, if_pos hq]
    have hss : ∀ o o', (rest.set q o).set q o' = rest.set q o' := fun o o' => by simp
    simp only [nodeAV, nodeOf] at hgn
    rcases hK.inv with ⟨_, h0⟩ | ⟨r, hav, hr⟩ | hav
    · rw [h0] at hkl; simp at hkl
    rotate_left
    · exact absurd hav (hp h (by omega) _)
    · have hrq : r ≠ q := fun e => hqf h (by omega) (by rw [hav, e]; rfl)
      have hgr : (rest.set q (.pcells 6 (outPV l cur)))[r]? = some (.pcells 1 (intsPV (kd0 l l.length h))) := by rw [List.getElem?_set, if_neg (fun e => hrq e.symm)]; exact hr
      have hgi := intsPV_get hkid
      have il := intsPV_len (kd0 l l.length h)
      rcases (hM.kids (cur + 1) (by omega)).inv with ⟨hav2, _⟩ | ⟨r2, hav2, _⟩ | hav2
      rotate_left 2
      · exact absurd hav2 (hp (cur + 1) (by omega) _)
      all_goals
        simp only [hav2] at hgn
        simp only [rowS, machG, hav, hnl] at ihc ⊢
        simp (implicitDefEqProofs := false) (maxSteps := 1000000) (disch := omega) only [Ra, Rb, Rc, Rd, Re, Rf, Rg, evalOp, St.know, mentions, AObj.mentions, bin, binI, noLocal, view, viewT, pureArg, allFlat, flat, appendTo, Nat.reduceBEq, Nat.reduceAdd, Nat.reduceLeDiff, Nat.reduceLT, asInt, pures, AV.cells, AObj.rd, AObj.wr, reduceCtorEq, Nat.reduceEqDiff, B24x0, k1, k5, hgn, len1, hgq, hgr, hgi, il, hss, hcl, ol, ol2, os, ihc, List.length_append, List.getElem?_cons_zero, List.getElem?_cons_succ]
  · right
    obtain rfl : cur = endOf l h := by omega
    have hkl : (kd0 l (endOf l h) h).length = (kd0 l l.length h).length := by rw [kids_end hs hh]
    have k1 : ¬ ((kd0 l l.length h).length : Int) < ((kd0 l l.length h).length : Int) := by omega
    refine ⟨_, ?_, ?_, rfl⟩
    · rcases hK.inv with ⟨hav, _⟩ | ⟨r, hav, _⟩ | hav
      all_goals
        simp only [rowS, hkl, hav]
        simp (implicitDefEqProofs := false) (maxSteps := 1000000) (disch := omega) only [Ra, Rb, Rc, Rd, Re, Rf, Rg, evalOp, St.know, mentions, AObj.mentions, bin, binI, Nat.reduceBEq, B24x0, k1]
    · simp
theorem rows_body (l : List GRow) (hl : l.length ≤ 1048576) (hal : ∀ x ∈ l, x.attrs.length ≤ 1048577) (hs : sound l) (av : Nat → AV) (rest : List AObj) (hM : MOk (l.length + 1) av (kd0 l l.length) rest) (hp : ∀ k, k < l.length + 1 → ∀ ks, av k ≠ .p ks) (q : Nat) (hq : q < rest.length) (hqf : ∀ k, k < l.length + 1 → refOf (av k) ≠ some (q + 1 + 1))
    (n D h : Nat) (hh : h ≤ l.length)
    (ih : ∀ cur, h ≤ cur → cur < endOf l h → acall T (n + l.length + D + 2) 24 [.ptr true 1 1 1 0 0, .own true (q + 1 + 1) (cur + 1), .p (.int .i64 ((cur : Int) + 1)), .p (.int .i64 ((cur : Int) + 1))] (machG (l.length + 1) (st0 l) av (rest.set q (.pcells 6 (outPV l (cur + 1))))) = some (.own true (q + 1 + 1) (endOf l (cur + 1)), machG (l.length + 1) (st0 l) av (rest.set q (.pcells 6 (outPV l (endOf l (cur + 1))))))) :
    acall T (n + l.length + D + 3) 24 [.ptr true 1 1 1 0 0, .own true (q + 1 + 1) h, .p (.int .i64 h), .p (.int .i64 h)] (machG (l.length + 1) (st0 l) av (rest.set q (.pcells 6 (outPV l h)))) = some (.own true (q + 1 + 1) (endOf l h), machG (l.length + 1) (st0 l) av (rest.set q (.pcells 6 (outPV l (endOf l h))))) := by
  have hloop := rows_loop (n := n + l.length + D + 1) (N := n + l.length + D + 2) l hl hal hs av rest hM hp q hq hqf h hh (by omega) ih
  have h0 : (kd0 l h h).length = 0 := by
    have : kd0 l h h = [] := by
      unfold kd0
      rw [List.map_eq_nil_iff, List.filter_eq_nil_iff]
      intro k hk
      have hk := List.mem_range.1 hk
      cases hx : l[k]? with
      | none => simp
      | some x =>
        have := hs.1 k x (List.getElem?_eq_some_iff.1 hx).1 hx
        simp
        omega
    rw [this]; rfl
  rw [h0] at hloop
  have hgn : (rowsAV (l.length + 1) (st0 l) av).getD h [] = nodeAV (st0 l h) (av h) := rowsAV_get (by omega)
  have len1 : (rowsAV (l.length + 1) (st0 l) av).length = l.length + 1 := rowsAV_len
  have hK := hM.kids h (by omega)
  have k2 : (h : Int) < (l.length : Int) + 1 := by omega
  simp only [nodeAV] at hgn
  rw [acall_code T24, run_code rfl rfl]
  rcases hK.inv with ⟨hav, hk0⟩ | ⟨r, hav, hr⟩ | hav
  · simp only [rowS, machG, hav, hk0, List.length_nil, Int.natCast_zero] at hloop hgn ⊢
    simp (implicitDefEqProofs := false) (maxSteps := 1000000) (disch := omega) only [Ra, Rb, Rc, Rd, Re, Rf, Rg, evalOp, List.zipWith, mentions, AObj.mentions, noLocal, view, tupleOf, oneTup, Nat.reduceBEq, Nat.reduceAdd, Nat.reduceLeDiff, Nat.reduceLT, asInt, pures, AObj.rd, reduceCtorEq, Nat.reduceEqDiff, F24, k2, hgn, len1, hloop, List.getElem?_cons_zero, List.getElem?_cons_succ]
  · have hrq : r ≠ q := fun e => hqf h (by omega) (by rw [hav, e]; rfl)
    have hgr : (rest.set q (.pcells 6 (outPV l h)))[r]? = some (.pcells 1 (intsPV (kd0 l l.length h))) := by rw [List.getElem?_set, if_neg (fun e => hrq e.symm)]; exact hr
    have il := intsPV_len (kd0 l l.length h)
    simp only [rowS, machG, hav, Int.natCast_zero] at hloop hgn ⊢
    simp (implicitDefEqProofs := false) (maxSteps := 1000000) (disch := omega) only [Ra, Rb, Rc, Rd, Re, Rf, Rg, evalOp, List.zipWith, mentions, AObj.mentions, noLocal, view, tupleOf, oneTup, Nat.reduceBEq, Nat.reduceAdd, Nat.reduceLeDiff, Nat.reduceLT, asInt, pures, AObj.rd, reduceCtorEq, Nat.reduceEqDiff, F24, k2, hgn, len1, hloop, List.getElem?_cons_zero, List.getElem?_cons_succ]
  · exact absurd hav (hp h (by omega) _)
theorem rows_run (l : List GRow) (hl : l.length ≤ 1048576) (hal : ∀ x ∈ l, x.attrs.length ≤ 1048577) (hs : sound l) (av : Nat → AV) (rest : List AObj) (hM : MOk (l.length + 1) av (kd0 l l.length) rest) (hp : ∀ k, k < l.length + 1 → ∀ ks, av k ≠ .p ks) (q : Nat) (hq : q < rest.length) (hqf : ∀ k, k < l.length + 1 → refOf (av k) ≠ some (q + 1 + 1)) :
    ∀ (D n h : Nat), h ≤ l.length → l.length - h ≤ D → acall T (n + l.length + D + 3) 24 [.ptr true 1 1 1 0 0, .own true (q + 1 + 1) h, .p (.int .i64 h), .p (.int .i64 h)] (machG (l.length + 1) (st0 l) av (rest.set q (.pcells 6 (outPV l h)))) = some (.own true (q + 1 + 1) (endOf l h), machG (l.length + 1) (st0 l) av (rest.set q (.pcells 6 (outPV l (endOf l h))))) := by
  intro D
  induction D with
  | zero =>
    intro n h hh hD
    exact rows_body l hl hal hs av rest hM hp q hq hqf n 0 h hh (fun cur h1 h2 => by have := endOf_le (l := l) hh; omega)
  | succ D ih =>
    intro n h hh hD
    exact rows_body l hl hal hs av rest hM hp q hq hqf n (D + 1) h hh (fun cur h1 h2 => by
      have he := endOf_le (l := l) hh
      have := ih n (cur + 1) (by omega) (by omega)
      simp only [Int.natCast_add, Int.natCast_one] at this
      exact this)
end Go.TA.Tryd

end
section
/- The empty script on rows that are right. -/
set_option linter.unusedVariables false
set_option linter.unusedSimpArgs false
set_option maxRecDepth 100000
set_option maxHeartbeats 8000000
namespace Go.TA.Tryd
/-! ### IDs are not looked at -/
def strip (x : GRow) : GRow := { x with id := 0 }
theorem upAt_strip (l : List GRow) (x : Nat) : upAt (l.map strip) x = upAt l x := by
  simp only [upAt, List.getElem?_map, Option.map_map]
  rfl
theorem anc_strip (l : List GRow) : ∀ f x, anc (l.map strip) f x = anc l f x
  | 0, _ => rfl
  | f + 1, 0 => rfl
  | f + 1, x + 1 => by simp only [anc, upAt_strip, anc_strip l f]
theorem chain_strip (l : List GRow) (x : Nat) : chain (l.map strip) x = chain l x := anc_strip l x x
theorem formedFrom_strip (l : List GRow) : ∀ (r : List GRow) (i : Nat), formedFrom (l.map strip) i (r.map strip) = formedFrom l i r
  | [], _ => rfl
  | x :: r, i => by
    simp only [List.map_cons, formedFrom, formedFrom_strip l r]
    congr 1
    simp only [rowOkB, aboveB, chain_strip]
    rfl
theorem rowErr_strip (l : List GRow) (i : Nat) (x : GRow) : rowErr (l.map strip) i (strip x) = rowErr l i x := by
  have hd : dupB (l.map strip) i (strip x) = dupB l i x := by
    simp only [dupB, ← List.map_take, List.any_map]
    rfl
  simp only [rowErr, chain_strip, hd]
  rfl
theorem errFrom_strip (l : List GRow) : ∀ (r : List GRow) (i : Nat), errFrom (l.map strip) i (r.map strip) = errFrom l i r
  | [], _ => rfl
  | x :: r, i => by simp only [List.map_cons, errFrom, rowErr_strip, errFrom_strip l r]
theorem check13_strip (l : List GRow) : check13 (l.map strip) = check13 l := by
  simp only [check13, formedB, formedFrom_strip, errFrom_strip]
  rfl
theorem named_strip : ∀ (l : List GRow) (i : Nat), (named l i).map strip = l.map strip
  | [], _ => rfl
  | x :: r, i => by simp only [named, List.map_cons, named_strip r]; rfl
theorem check13_named (l : List GRow) : check13 (named l 0) = check13 l := by rw [← check13_strip, named_strip, check13_strip]
theorem named_mem : ∀ {l : List GRow} {i : Nat} {y : GRow}, y ∈ named l i → ∃ x ∈ l, strip y = strip x
  | [], _, _, h => by simp [named] at h
  | x :: r, i, y, h => by
    simp only [named, List.mem_cons] at h
    rcases h with rfl | h
    · exact ⟨x, by simp, rfl⟩
    · obtain ⟨z, hz, e⟩ := named_mem h
      exact ⟨z, by simp [hz], e⟩
theorem named_small {m : Nat} {l : List GRow} (h : Rows.small m l) : Rows.small m (named l 0) := by
  refine ⟨by rw [named_len]; exact h.len, fun y hy => ?_⟩
  obtain ⟨x, hx, e⟩ := named_mem hy
  have hs := h.row x hx
  simp only [strip, GRow.mk.injEq, true_and] at e
  obtain ⟨_, e2, e3, e4, e5⟩ := e
  exact ⟨by rw [e5]; exact hs.attrs, by rw [e5]; exact hs.small, by rw [e2, e3, e4]; exact hs.text⟩
theorem outPV_all (l : List GRow) : outPV l l.length = (named l 0).map GRow.pv := by unfold outPV; rw [List.take_of_length_le (by rw [named_len]; exact Nat.le_refl _)]
/-! ### Rows, Loose -/
section
variable (l : List GRow) (hl : l.length ≤ 1048576) (hal : ∀ x ∈ l, x.attrs.length ≤ 1048577) (hs : sound l) (av : Nat → AV) (rest : List AObj) (hM : MOk (l.length + 1) av (kd0 l l.length) rest) (hp : ∀ k, k < l.length + 1 → ∀ ks, av k ≠ .p ks)
include hl hal hs hM hp
theorem prows_run (n : Nat) : acall T (n + l.length + l.length + 4) 11 [.ptr true 1 1 1 0 0] (machG (l.length + 1) (st0 l) av rest) = some (.own true (rest.length + 1 + 1) l.length, machG (l.length + 1) (st0 l) av (rest ++ [.pcells 6 (outPV l l.length)])) := by
  have hM' : MOk (l.length + 1) av (kd0 l l.length) (rest ++ [.pcells 6 []]) := ⟨fun h hh => (hM.kids h hh).more _, hM.disj⟩
  have hr := rows_run l hl hal hs av (rest ++ [.pcells 6 []]) hM' hp rest.length (by simp) (fun k hk e => by
    have := (hM.kids k hk).ref_lt e
    omega) l.length n 0 (by omega) (by omega)
  have hset : ∀ o o' : AObj, (rest ++ [o]).set rest.length o' = rest ++ [o'] := fun o o' => by simp [List.set_append]
  simp only [hset, end_zero hs, outPV_zero, Int.natCast_zero] at hr
  rw [acall_code T11, run_code rfl rfl]
  have len1 : (rowsAV (l.length + 1) (st0 l) av).length = l.length + 1 := rowsAV_len
  have k0 : ((l.length : Int) + 1 == 0) = false := by simp; omega
  simp only [machG] at hr ⊢
  simp (implicitDefEqProofs := false) (maxSteps := 1000000) (disch := omega) only [Ra, Rb, Rc, Rd, Re, Rf, Rg, guardK, evalOp, St.know, List.zipWith, mentions, AObj.mentions, avEq, ptrEq, noLocal, view, tupleOf, oneTup, Nat.reduceBEq, Nat.reduceAdd, Nat.reduceLT, pures, AObj.rd, F11, k0, hr, List.getElem?_cons_zero, List.getElem?_cons_succ]
theorem ploose_run (n : Nat) (hn : l.length + 1 < n) : acall T (n + 1) 20 [.ptr true 1 1 1 0 0] (machG (l.length + 1) (st0 l) av rest) = some (.own true (rest.length + 1 + 1) 0, machG (l.length + 1) (st0 l) av (rest ++ [.pcells 1 []])) := by
  have _ := hal
  have _ := hM
  have _ := hp
  have _ := hs
  have len1 : (rowsAV (l.length + 1) (st0 l) av).length = l.length + 1 := rowsAV_len
  have key := loop_rule' (C := acall T n) (N := n) (B := B20x0) (σ := Nat) (S := fun h => ⟨[(3, .own true (rest.length + 1 + 1) 0), (12, .own true 0 (l.length + 1)), (13, .p (.int .i64 ((l.length : Int) + 1))), (14, .p (.int .i64 h))], [], machG (l.length + 1) (st0 l) av (rest ++ [.pcells 1 []])⟩) (I := fun h => h ≤ l.length + 1) (μ := fun h => l.length + 1 - h)
    (Φ := fun h => (.exit 0, ⟨[(3, .own true (rest.length + 1 + 1) 0)], [], machG (l.length + 1) (st0 l) av (rest ++ [.pcells 1 []])⟩)) ?_ 0 (by omega) (by omega)
  · rw [acall_code T20, run_code rfl rfl]
    simp only [machG, Int.natCast_zero] at key ⊢
    simp (implicitDefEqProofs := false) (maxSteps := 1000000) (disch := omega) only [Ra, Rb, Rc, Rd, Re, Rf, Rg, evalOp, St.know, List.zipWith, mentions, AObj.mentions, avEq, ptrEq, noLocal, view, tupleOf, oneTup, Nat.reduceBEq, Nat.reduceAdd, Nat.reduceLT, pures, AObj.rd, F20, key, List.getElem?_cons_zero, List.getElem?_cons_succ]
  intro h hh
  by_cases hlt : h < l.length + 1
  · left
    refine ⟨h + 1, ?_, by omega, by omega, rfl⟩
    have k1 : (h : Int) < (l.length : Int) + 1 := by omega
    have hgn : (rowsAV (l.length + 1) (st0 l) av).getD h [] = nodeAV (st0 l h) (av h) := rowsAV_get hlt
    have hK := hM.kids h hlt
    simp only [machG]
    cases h with
    | zero =>
      simp only [nodeAV, Int.natCast_zero] at hgn k1 ⊢
      have e0 : Int.toNat 0 = 0 := rfl
      rcases hK.inv with ⟨hav, _⟩ | ⟨r, hav, _⟩ | hav
      rotate_left 2
      · exact absurd hav (hp 0 hlt _)
      all_goals
        simp only [hav] at hgn
        simp (implicitDefEqProofs := false) (maxSteps := 1000000) (disch := omega) only [Ra, Rb, Rc, Rd, Re, Rf, Rg, guardK, evalOp, St.know, mentions, AObj.mentions, bin, binI, appendTo, Nat.reduceBEq, Nat.reduceAdd, Nat.reduceLeDiff, Nat.reduceLT, asInt, pures, AV.cells, AObj.rd, AObj.wr, Nat.reduceMul, Int.reduceLT, Int.reduceLE, Int.reduceAdd, B20x0, k1, len1, hgn, e0, List.getElem?_cons_zero, List.getElem?_cons_succ]
    | succ k =>
      obtain ⟨x, hx⟩ := get_some (show k < l.length by omega)
      have hst : st0 l (k + 1) = nodeOf x := by simp [st0, hx]
      have hup := hs.1 k x (by omega) hx
      have k2 : ¬ x.up < 0 := by omega
      have k3 : (0 : Int) < (k : Int) + 1 := by omega
      have k5 : ((k : Int) + 1).toNat = k + 1 := by omega
      simp only [Int.natCast_add, Int.natCast_one] at k1
      rw [hst] at hgn
      simp only [nodeAV, nodeOf] at hgn
      rcases hK.inv with ⟨hav, _⟩ | ⟨r, hav, _⟩ | hav
      rotate_left 2
      · exact absurd hav (hp (k + 1) hlt _)
      all_goals
        simp only [hav] at hgn
        simp (implicitDefEqProofs := false) (maxSteps := 1000000) (disch := omega) only [Ra, Rb, Rc, Rd, Re, Rf, Rg, guardK, evalOp, St.know, mentions, AObj.mentions, bin, binI, appendTo, Nat.reduceBEq, Nat.reduceAdd, Nat.reduceLeDiff, Nat.reduceLT, asInt, pures, AV.cells, AObj.rd, AObj.wr, Nat.reduceMul, Nat.reduceEqDiff, B20x0, k1, k2, k3, k5, len1, hgn, List.getElem?_cons_zero, List.getElem?_cons_succ]
  · right
    obtain rfl : h = l.length + 1 := by omega
    refine ⟨?_, by simp⟩
    have k1 : ¬ (((l.length + 1 : Nat) : Int) < (l.length : Int) + 1) := by omega
    simp only [Int.natCast_add, Int.natCast_one] at k1 ⊢
    simp (implicitDefEqProofs := false) (maxSteps := 1000000) (disch := omega) only [Ra, Rb, Rc, Rd, Re, Rf, Rg, evalOp, St.know, mentions, AObj.mentions, bin, binI, Nat.reduceBEq, B20x0, k1]
end
end Go.TA.Tryd

end
section
/- What fields an operation's kind does not use: what they are. Plain. -/
set_option linter.unusedVariables false
set_option linter.unusedSimpArgs false
set_option maxRecDepth 100000
set_option maxHeartbeats 8000000
namespace Go.TA
def nzI (n : Int) : Bool := !(n == 0)
def nzS (s : Bs) : Bool := !(s == [])
def nzA (l : List Attr) : Bool := decide (0 < (l.length : Int))
def none1 (x : GOp) : Bool := nzI x.node || (nzI x.up || (nzI x.before || (nzS x.name)))
def none2 (x : GOp) : Bool := nzS x.tag || (nzS x.key || (nzA x.attrs || (nzS x.name || (nzS x.text))))
def none3 (x : GOp) : Bool := nzS x.tag || (nzS x.key || (nzA x.attrs || (nzI x.up || (nzS x.name || (nzS x.text)))))
def none4 (x : GOp) : Bool := nzS x.tag || (nzS x.key || (nzA x.attrs || (nzI x.up || (nzI x.before || (nzS x.name || (nzS x.text))))))
def none5 (x : GOp) : Bool := nzS x.tag || (nzS x.key || (nzA x.attrs || (nzI x.up || (nzI x.before))))
def none6 (x : GOp) : Bool := nzS x.tag || (nzS x.key || (nzA x.attrs || (nzI x.up || (nzI x.before || (nzS x.text)))))
def none7 (x : GOp) : Bool := nzS x.tag || (nzS x.key || (nzA x.attrs || (nzI x.up || (nzI x.before || (nzS x.name)))))
def noneB (x : GOp) : Bool := if x.kind = 1 then none1 x else if x.kind = 2 then none2 x else if x.kind = 3 then none3 x else if x.kind = 4 then none4 x else if x.kind = 5 then none5 x else if x.kind = 6 then none6 x else if x.kind = 7 then none7 x else false
def used1 (x : GOp) : GOp := ⟨x.kind, 0, 0, 0, x.tag, x.key, [], x.text, x.attrs⟩
def used2 (x : GOp) : GOp := ⟨x.kind, x.node, x.up, x.before, [], [], [], [], []⟩
def used3 (x : GOp) : GOp := ⟨x.kind, x.node, 0, x.before, [], [], [], [], []⟩
def used4 (x : GOp) : GOp := ⟨x.kind, x.node, 0, 0, [], [], [], [], []⟩
def used5 (x : GOp) : GOp := ⟨x.kind, x.node, 0, 0, [], [], x.name, x.text, []⟩
def used6 (x : GOp) : GOp := ⟨x.kind, x.node, 0, 0, [], [], x.name, [], []⟩
def used7 (x : GOp) : GOp := ⟨x.kind, x.node, 0, 0, [], [], [], x.text, []⟩
def usedOp (x : GOp) : GOp := if x.kind = 1 then used1 x else if x.kind = 2 then used2 x else if x.kind = 3 then used3 x else if x.kind = 4 then used4 x else if x.kind = 5 then used5 x else if x.kind = 6 then used6 x else if x.kind = 7 then used7 x else x
end Go.TA

end
section
/- An operation with the fields alone that its kind uses. -/
set_option linter.unusedVariables false
set_option linter.unusedSimpArgs false
set_option maxRecDepth 100000
set_option maxHeartbeats 8000000
namespace Go.TA.Tryd
theorem used1_run (x : GOp) (hk : x.kind = 1) (g : List AObj) (n : Nat) : acall T (n + 1) 51 [.p (.agg x.pv)] g = some (.p (.agg (used1 x).pv), g) := by
  rw [acall_code T51, run_pure rfl rfl rfl]
  simp (implicitDefEqProofs := false) (maxSteps := 1000000) (disch := omega) only [Ra, Rb, Rc, Rd, Re, Rf, Rg, evalOp, St.know, List.zipWith, mentions, AObj.mentions, avEq, noLocal, AV.same, PV.same, view, tupleOf, oneTup, Nat.reduceBEq, Nat.reduceAdd, Nat.reduceLeDiff, Nat.reduceLT, pures, AV.cells, AObj.rd, AObj.wr, reduceCtorEq, Nat.reduceEqDiff, F51, GOp.pv, attrsPV, used1, hk, attrs_same]
theorem used2_run (x : GOp) (hk : x.kind = 2) (g : List AObj) (n : Nat) : acall T (n + 1) 51 [.p (.agg x.pv)] g = some (.p (.agg (used2 x).pv), g) := by
  rw [acall_code T51, run_pure rfl rfl rfl]
  simp (implicitDefEqProofs := false) (maxSteps := 1000000) (disch := omega) only [Ra, Rb, Rc, Rd, Re, Rf, Rg, evalOp, St.know, List.zipWith, mentions, AObj.mentions, avEq, noLocal, view, tupleOf, oneTup, Nat.reduceBEq, Nat.reduceAdd, Nat.reduceLeDiff, Nat.reduceLT, pures, AV.cells, AObj.rd, AObj.wr, reduceCtorEq, Int.reduceBEq, Nat.reduceEqDiff, F51, GOp.pv, attrsPV, used2, hk]
theorem used3_run (x : GOp) (hk : x.kind = 3) (g : List AObj) (n : Nat) : acall T (n + 1) 51 [.p (.agg x.pv)] g = some (.p (.agg (used3 x).pv), g) := by
  rw [acall_code T51, run_pure rfl rfl rfl]
  simp (implicitDefEqProofs := false) (maxSteps := 1000000) (disch := omega) only [Ra, Rb, Rc, Rd, Re, Rf, Rg, evalOp, St.know, List.zipWith, mentions, AObj.mentions, avEq, noLocal, view, tupleOf, oneTup, Nat.reduceBEq, Nat.reduceAdd, Nat.reduceLeDiff, Nat.reduceLT, pures, AV.cells, AObj.rd, AObj.wr, reduceCtorEq, Int.reduceBEq, Nat.reduceEqDiff, F51, GOp.pv, attrsPV, used3, hk]
theorem used4_run (x : GOp) (hk : x.kind = 4) (g : List AObj) (n : Nat) : acall T (n + 1) 51 [.p (.agg x.pv)] g = some (.p (.agg (used4 x).pv), g) := by
  rw [acall_code T51, run_pure rfl rfl rfl]
  simp (implicitDefEqProofs := false) (maxSteps := 1000000) (disch := omega) only [Ra, Rb, Rc, Rd, Re, Rf, Rg, evalOp, St.know, List.zipWith, mentions, AObj.mentions, avEq, noLocal, view, tupleOf, oneTup, Nat.reduceBEq, Nat.reduceAdd, Nat.reduceLeDiff, Nat.reduceLT, pures, AV.cells, AObj.rd, AObj.wr, reduceCtorEq, Int.reduceBEq, Nat.reduceEqDiff, F51, GOp.pv, attrsPV, used4, hk]
theorem used5_run (x : GOp) (hk : x.kind = 5) (g : List AObj) (n : Nat) : acall T (n + 1) 51 [.p (.agg x.pv)] g = some (.p (.agg (used5 x).pv), g) := by
  rw [acall_code T51, run_pure rfl rfl rfl]
  simp (implicitDefEqProofs := false) (maxSteps := 1000000) (disch := omega) only [Ra, Rb, Rc, Rd, Re, Rf, Rg, evalOp, St.know, List.zipWith, mentions, AObj.mentions, avEq, noLocal, view, tupleOf, oneTup, Nat.reduceBEq, Nat.reduceAdd, Nat.reduceLeDiff, Nat.reduceLT, pures, AV.cells, AObj.rd, AObj.wr, reduceCtorEq, Int.reduceBEq, Nat.reduceEqDiff, F51, GOp.pv, attrsPV, used5, hk]
theorem used6_run (x : GOp) (hk : x.kind = 6) (g : List AObj) (n : Nat) : acall T (n + 1) 51 [.p (.agg x.pv)] g = some (.p (.agg (used6 x).pv), g) := by
  rw [acall_code T51, run_pure rfl rfl rfl]
  simp (implicitDefEqProofs := false) (maxSteps := 1000000) (disch := omega) only [Ra, Rb, Rc, Rd, Re, Rf, Rg, evalOp, St.know, List.zipWith, mentions, AObj.mentions, avEq, noLocal, view, tupleOf, oneTup, Nat.reduceBEq, Nat.reduceAdd, Nat.reduceLeDiff, Nat.reduceLT, pures, AV.cells, AObj.rd, AObj.wr, reduceCtorEq, Int.reduceBEq, Nat.reduceEqDiff, F51, GOp.pv, attrsPV, used6, hk]
theorem used7_run (x : GOp) (hk : x.kind = 7) (g : List AObj) (n : Nat) : acall T (n + 1) 51 [.p (.agg x.pv)] g = some (.p (.agg (used7 x).pv), g) := by
  rw [acall_code T51, run_pure rfl rfl rfl]
  simp (implicitDefEqProofs := false) (maxSteps := 1000000) (disch := omega) only [Ra, Rb, Rc, Rd, Re, Rf, Rg, evalOp, St.know, List.zipWith, mentions, AObj.mentions, avEq, noLocal, view, tupleOf, oneTup, Nat.reduceBEq, Nat.reduceAdd, Nat.reduceLeDiff, Nat.reduceLT, pures, AV.cells, AObj.rd, AObj.wr, reduceCtorEq, Int.reduceBEq, Nat.reduceEqDiff, F51, GOp.pv, attrsPV, used7, hk]
theorem used_run (x : GOp) (h1 : 1 ≤ x.kind) (h7 : x.kind ≤ 7) (g : List AObj) (n : Nat) : acall T (n + 1) 51 [.p (.agg x.pv)] g = some (.p (.agg (usedOp x).pv), g) := by
  by_cases k1 : x.kind = 1
  · rw [used1_run x k1]; simp [usedOp, k1]
  by_cases k2 : x.kind = 2
  · rw [used2_run x k2]; simp [usedOp, k2]
  by_cases k3 : x.kind = 3
  · rw [used3_run x k3]; simp [usedOp, k3]
  by_cases k4 : x.kind = 4
  · rw [used4_run x k4]; simp [usedOp, k4]
  by_cases k5 : x.kind = 5
  · rw [used5_run x k5]; simp [usedOp, k5]
  by_cases k6 : x.kind = 6
  · rw [used6_run x k6]; simp [usedOp, k6]
  by_cases k7 : x.kind = 7
  · rw [used7_run x k7]; simp [usedOp, k7]
  omega
end Go.TA.Tryd

end
section
/- Does an operation have a field that its kind does not use? The document's answer. -/
set_option linter.unusedVariables false
set_option linter.unusedSimpArgs false
set_option maxRecDepth 100000
set_option maxHeartbeats 8000000
namespace Go.TA.Tryd
theorem none1_run (x : GOp) (hk : x.kind = 1) (g : List AObj) (n : Nat) : acall T (n + 1) 29 [.p (.agg x.pv)] g = some (.p (.bool (none1 x)), g) := by
  rw [acall_code T29, run_pure rfl rfl rfl]
  simp only [none1, nzI, nzS, nzA]
  cases h0 : (x.node == 0)
  · simp (implicitDefEqProofs := false) (maxSteps := 1000000) (disch := omega) only [Ra, Rb, Rc, Rd, Re, Rf, Rg, guardK, evalOp, St.know, List.zipWith, mentions, AObj.mentions, avEq, noLocal, view, tupleOf, oneTup, Nat.reduceBEq, Nat.reduceAdd, Nat.reduceLeDiff, Nat.reduceLT, pures, AV.cells, AObj.rd, Nat.reduceEqDiff, F29, GOp.pv, attrsPV, hk, h0]
  cases h1 : (x.up == 0)
  · simp (implicitDefEqProofs := false) (maxSteps := 1000000) (disch := omega) only [Ra, Rb, Rc, Rd, Re, Rf, Rg, guardK, evalOp, St.know, List.zipWith, mentions, AObj.mentions, avEq, noLocal, view, tupleOf, oneTup, Nat.reduceBEq, Nat.reduceAdd, Nat.reduceLeDiff, Nat.reduceLT, pures, AV.cells, AObj.rd, reduceCtorEq, Int.reduceBEq, Nat.reduceEqDiff, F29, GOp.pv, attrsPV, hk, h0, h1]
  cases h2 : (x.before == 0)
  · simp (implicitDefEqProofs := false) (maxSteps := 1000000) (disch := omega) only [Ra, Rb, Rc, Rd, Re, Rf, Rg, guardK, evalOp, St.know, List.zipWith, mentions, AObj.mentions, avEq, noLocal, view, tupleOf, oneTup, Nat.reduceBEq, Nat.reduceAdd, Nat.reduceLeDiff, Nat.reduceLT, pures, AV.cells, AObj.rd, reduceCtorEq, Int.reduceBEq, Nat.reduceEqDiff, F29, GOp.pv, attrsPV, hk, h0, h1, h2]
  cases h3 : (x.name == [])
  · simp (implicitDefEqProofs := false) (maxSteps := 1000000) (disch := omega) only [Ra, Rb, Rc, Rd, Re, Rf, Rg, guardK, evalOp, St.know, List.zipWith, mentions, AObj.mentions, avEq, noLocal, view, tupleOf, oneTup, Nat.reduceBEq, Nat.reduceAdd, Nat.reduceLeDiff, Nat.reduceLT, pures, AV.cells, AObj.rd, reduceCtorEq, Int.reduceBEq, Nat.reduceEqDiff, F29, GOp.pv, attrsPV, hk, h0, h1, h2, h3]
  simp (implicitDefEqProofs := false) (maxSteps := 1000000) (disch := omega) only [Ra, Rb, Rc, Rd, Re, Rf, Rg, guardK, evalOp, St.know, List.zipWith, mentions, AObj.mentions, avEq, noLocal, view, tupleOf, oneTup, Nat.reduceBEq, Nat.reduceAdd, Nat.reduceLeDiff, Nat.reduceLT, pures, AV.cells, AObj.rd, reduceCtorEq, Int.reduceBEq, Nat.reduceEqDiff, F29, GOp.pv, attrsPV, hk, h0, h1, h2, h3]
theorem none2_run (x : GOp) (hk : x.kind = 2) (g : List AObj) (n : Nat) : acall T (n + 1) 29 [.p (.agg x.pv)] g = some (.p (.bool (none2 x)), g) := by
  rw [acall_code T29, run_pure rfl rfl rfl]
  simp only [none2, nzI, nzS, nzA]
  cases h0 : (x.tag == [])
  · simp (implicitDefEqProofs := false) (maxSteps := 1000000) (disch := omega) only [Ra, Rb, Rc, Rd, Re, Rf, Rg, guardK, evalOp, St.know, List.zipWith, mentions, AObj.mentions, bin, avEq, noLocal, view, tupleOf, oneTup, Nat.reduceBEq, Nat.reduceAdd, Nat.reduceLeDiff, Nat.reduceLT, pures, AV.cells, AObj.rd, reduceCtorEq, Int.reduceBEq, Nat.reduceEqDiff, F29, GOp.pv, attrsPV, hk, h0]
  cases h1 : (x.key == [])
  · simp (implicitDefEqProofs := false) (maxSteps := 1000000) (disch := omega) only [Ra, Rb, Rc, Rd, Re, Rf, Rg, guardK, evalOp, St.know, List.zipWith, mentions, AObj.mentions, bin, avEq, noLocal, view, tupleOf, oneTup, Nat.reduceBEq, Nat.reduceAdd, Nat.reduceLeDiff, Nat.reduceLT, pures, AV.cells, AObj.rd, reduceCtorEq, Int.reduceBEq, Nat.reduceEqDiff, F29, GOp.pv, attrsPV, hk, h0, h1]
  by_cases h2 : 0 < (x.attrs.length : Int)
  · simp (implicitDefEqProofs := false) (maxSteps := 1000000) (disch := omega) only [Ra, Rb, Rc, Rd, Re, Rf, Rg, guardK, evalOp, St.know, List.zipWith, mentions, AObj.mentions, bin, binI, avEq, noLocal, view, tupleOf, oneTup, Nat.reduceBEq, Nat.reduceAdd, Nat.reduceLeDiff, Nat.reduceLT, pures, AV.cells, AObj.rd, reduceCtorEq, Int.reduceBEq, Nat.reduceEqDiff, F29, GOp.pv, attrsPV, hk, h0, h1, h2]
  cases h3 : (x.name == [])
  · simp (implicitDefEqProofs := false) (maxSteps := 1000000) (disch := omega) only [Ra, Rb, Rc, Rd, Re, Rf, Rg, guardK, evalOp, St.know, List.zipWith, mentions, AObj.mentions, bin, binI, avEq, noLocal, view, tupleOf, oneTup, Nat.reduceBEq, Nat.reduceAdd, Nat.reduceLeDiff, Nat.reduceLT, pures, AV.cells, AObj.rd, reduceCtorEq, Int.reduceBEq, Nat.reduceEqDiff, F29, GOp.pv, attrsPV, hk, h0, h1, h2, h3]
  cases h4 : (x.text == [])
  · simp (implicitDefEqProofs := false) (maxSteps := 1000000) (disch := omega) only [Ra, Rb, Rc, Rd, Re, Rf, Rg, guardK, evalOp, St.know, List.zipWith, mentions, AObj.mentions, bin, binI, avEq, noLocal, view, tupleOf, oneTup, Nat.reduceBEq, Nat.reduceAdd, Nat.reduceLeDiff, Nat.reduceLT, pures, AV.cells, AObj.rd, reduceCtorEq, Int.reduceBEq, Nat.reduceEqDiff, F29, GOp.pv, attrsPV, hk, h0, h1, h2, h3, h4]
  simp (implicitDefEqProofs := false) (maxSteps := 1000000) (disch := omega) only [Ra, Rb, Rc, Rd, Re, Rf, Rg, guardK, evalOp, St.know, List.zipWith, mentions, AObj.mentions, bin, binI, avEq, noLocal, view, tupleOf, oneTup, Nat.reduceBEq, Nat.reduceAdd, Nat.reduceLeDiff, Nat.reduceLT, pures, AV.cells, AObj.rd, reduceCtorEq, Int.reduceBEq, Nat.reduceEqDiff, F29, GOp.pv, attrsPV, hk, h0, h1, h2, h3, h4]
theorem none3_run (x : GOp) (hk : x.kind = 3) (g : List AObj) (n : Nat) : acall T (n + 1) 29 [.p (.agg x.pv)] g = some (.p (.bool (none3 x)), g) := by
  rw [acall_code T29, run_pure rfl rfl rfl]
  simp only [none3, nzI, nzS, nzA]
  cases h0 : (x.tag == [])
  · simp (implicitDefEqProofs := false) (maxSteps := 1000000) (disch := omega) only [Ra, Rb, Rc, Rd, Re, Rf, Rg, guardK, evalOp, St.know, List.zipWith, mentions, AObj.mentions, bin, avEq, noLocal, view, tupleOf, oneTup, Nat.reduceBEq, Nat.reduceAdd, Nat.reduceLeDiff, Nat.reduceLT, pures, AV.cells, AObj.rd, reduceCtorEq, Int.reduceBEq, Nat.reduceEqDiff, F29, GOp.pv, attrsPV, hk, h0]
  cases h1 : (x.key == [])
  · simp (implicitDefEqProofs := false) (maxSteps := 1000000) (disch := omega) only [Ra, Rb, Rc, Rd, Re, Rf, Rg, guardK, evalOp, St.know, List.zipWith, mentions, AObj.mentions, bin, avEq, noLocal, view, tupleOf, oneTup, Nat.reduceBEq, Nat.reduceAdd, Nat.reduceLeDiff, Nat.reduceLT, pures, AV.cells, AObj.rd, reduceCtorEq, Int.reduceBEq, Nat.reduceEqDiff, F29, GOp.pv, attrsPV, hk, h0, h1]
  by_cases h2 : 0 < (x.attrs.length : Int)
  · simp (implicitDefEqProofs := false) (maxSteps := 1000000) (disch := omega) only [Ra, Rb, Rc, Rd, Re, Rf, Rg, guardK, evalOp, St.know, List.zipWith, mentions, AObj.mentions, bin, binI, avEq, noLocal, view, tupleOf, oneTup, Nat.reduceBEq, Nat.reduceAdd, Nat.reduceLeDiff, Nat.reduceLT, pures, AV.cells, AObj.rd, reduceCtorEq, Int.reduceBEq, Nat.reduceEqDiff, F29, GOp.pv, attrsPV, hk, h0, h1, h2]
  cases h3 : (x.up == 0)
  · simp (implicitDefEqProofs := false) (maxSteps := 1000000) (disch := omega) only [Ra, Rb, Rc, Rd, Re, Rf, Rg, guardK, evalOp, St.know, List.zipWith, mentions, AObj.mentions, bin, binI, avEq, noLocal, view, tupleOf, oneTup, Nat.reduceBEq, Nat.reduceAdd, Nat.reduceLeDiff, Nat.reduceLT, pures, AV.cells, AObj.rd, reduceCtorEq, Int.reduceBEq, Nat.reduceEqDiff, F29, GOp.pv, attrsPV, hk, h0, h1, h2, h3]
  cases h4 : (x.name == [])
  · simp (implicitDefEqProofs := false) (maxSteps := 1000000) (disch := omega) only [Ra, Rb, Rc, Rd, Re, Rf, Rg, guardK, evalOp, St.know, List.zipWith, mentions, AObj.mentions, bin, binI, avEq, noLocal, view, tupleOf, oneTup, Nat.reduceBEq, Nat.reduceAdd, Nat.reduceLeDiff, Nat.reduceLT, pures, AV.cells, AObj.rd, reduceCtorEq, Int.reduceBEq, Nat.reduceEqDiff, F29, GOp.pv, attrsPV, hk, h0, h1, h2, h3, h4]
  cases h5 : (x.text == [])
  · simp (implicitDefEqProofs := false) (maxSteps := 1000000) (disch := omega) only [Ra, Rb, Rc, Rd, Re, Rf, Rg, guardK, evalOp, St.know, List.zipWith, mentions, AObj.mentions, bin, binI, avEq, noLocal, view, tupleOf, oneTup, Nat.reduceBEq, Nat.reduceAdd, Nat.reduceLeDiff, Nat.reduceLT, pures, AV.cells, AObj.rd, reduceCtorEq, Int.reduceBEq, Nat.reduceEqDiff, F29, GOp.pv, attrsPV, hk, h0, h1, h2, h3, h4, h5]
  simp (implicitDefEqProofs := false) (maxSteps := 1000000) (disch := omega) only [Ra, Rb, Rc, Rd, Re, Rf, Rg, guardK, evalOp, St.know, List.zipWith, mentions, AObj.mentions, bin, binI, avEq, noLocal, view, tupleOf, oneTup, Nat.reduceBEq, Nat.reduceAdd, Nat.reduceLeDiff, Nat.reduceLT, pures, AV.cells, AObj.rd, reduceCtorEq, Int.reduceBEq, Nat.reduceEqDiff, F29, GOp.pv, attrsPV, hk, h0, h1, h2, h3, h4, h5]
end Go.TA.Tryd

end
section
/- Does an operation have a field that its kind does not use? The document's answer. -/
set_option linter.unusedVariables false
set_option linter.unusedSimpArgs false
set_option maxRecDepth 100000
set_option maxHeartbeats 8000000
namespace Go.TA.Tryd
theorem none4_run (x : GOp) (hk : x.kind = 4) (g : List AObj) (n : Nat) : acall T (n + 1) 29 [.p (.agg x.pv)] g = some (.p (.bool (none4 x)), g) := by
  rw [acall_code T29, run_pure rfl rfl rfl]
  simp only [none4, nzI, nzS, nzA]
  cases h0 : (x.tag == [])
  · simp (implicitDefEqProofs := false) (maxSteps := 1000000) (disch := omega) only [Ra, Rb, Rc, Rd, Re, Rf, Rg, guardK, evalOp, St.know, List.zipWith, mentions, AObj.mentions, bin, avEq, noLocal, view, tupleOf, oneTup, Nat.reduceBEq, Nat.reduceAdd, Nat.reduceLeDiff, Nat.reduceLT, pures, AV.cells, AObj.rd, reduceCtorEq, Int.reduceBEq, Nat.reduceEqDiff, F29, GOp.pv, attrsPV, hk, h0]
  cases h1 : (x.key == [])
  · simp (implicitDefEqProofs := false) (maxSteps := 1000000) (disch := omega) only [Ra, Rb, Rc, Rd, Re, Rf, Rg, guardK, evalOp, St.know, List.zipWith, mentions, AObj.mentions, bin, avEq, noLocal, view, tupleOf, oneTup, Nat.reduceBEq, Nat.reduceAdd, Nat.reduceLeDiff, Nat.reduceLT, pures, AV.cells, AObj.rd, reduceCtorEq, Int.reduceBEq, Nat.reduceEqDiff, F29, GOp.pv, attrsPV, hk, h0, h1]
  by_cases h2 : 0 < (x.attrs.length : Int)
  · simp (implicitDefEqProofs := false) (maxSteps := 1000000) (disch := omega) only [Ra, Rb, Rc, Rd, Re, Rf, Rg, guardK, evalOp, St.know, List.zipWith, mentions, AObj.mentions, bin, binI, avEq, noLocal, view, tupleOf, oneTup, Nat.reduceBEq, Nat.reduceAdd, Nat.reduceLeDiff, Nat.reduceLT, pures, AV.cells, AObj.rd, reduceCtorEq, Int.reduceBEq, Nat.reduceEqDiff, F29, GOp.pv, attrsPV, hk, h0, h1, h2]
  cases h3 : (x.up == 0)
  · simp (implicitDefEqProofs := false) (maxSteps := 1000000) (disch := omega) only [Ra, Rb, Rc, Rd, Re, Rf, Rg, guardK, evalOp, St.know, List.zipWith, mentions, AObj.mentions, bin, binI, avEq, noLocal, view, tupleOf, oneTup, Nat.reduceBEq, Nat.reduceAdd, Nat.reduceLeDiff, Nat.reduceLT, pures, AV.cells, AObj.rd, reduceCtorEq, Int.reduceBEq, Nat.reduceEqDiff, F29, GOp.pv, attrsPV, hk, h0, h1, h2, h3]
  cases h4 : (x.before == 0)
  · simp (implicitDefEqProofs := false) (maxSteps := 1000000) (disch := omega) only [Ra, Rb, Rc, Rd, Re, Rf, Rg, guardK, evalOp, St.know, List.zipWith, mentions, AObj.mentions, bin, binI, avEq, noLocal, view, tupleOf, oneTup, Nat.reduceBEq, Nat.reduceAdd, Nat.reduceLeDiff, Nat.reduceLT, pures, AV.cells, AObj.rd, reduceCtorEq, Int.reduceBEq, Nat.reduceEqDiff, F29, GOp.pv, attrsPV, hk, h0, h1, h2, h3, h4]
  cases h5 : (x.name == [])
  · simp (implicitDefEqProofs := false) (maxSteps := 1000000) (disch := omega) only [Ra, Rb, Rc, Rd, Re, Rf, Rg, guardK, evalOp, St.know, List.zipWith, mentions, AObj.mentions, bin, binI, avEq, noLocal, view, tupleOf, oneTup, Nat.reduceBEq, Nat.reduceAdd, Nat.reduceLeDiff, Nat.reduceLT, pures, AV.cells, AObj.rd, reduceCtorEq, Int.reduceBEq, Nat.reduceEqDiff, F29, GOp.pv, attrsPV, hk, h0, h1, h2, h3, h4, h5]
  cases h6 : (x.text == [])
  · simp (implicitDefEqProofs := false) (maxSteps := 1000000) (disch := omega) only [Ra, Rb, Rc, Rd, Re, Rf, Rg, guardK, evalOp, St.know, List.zipWith, mentions, AObj.mentions, bin, binI, avEq, noLocal, view, tupleOf, oneTup, Nat.reduceBEq, Nat.reduceAdd, Nat.reduceLeDiff, Nat.reduceLT, pures, AV.cells, AObj.rd, reduceCtorEq, Int.reduceBEq, Nat.reduceEqDiff, F29, GOp.pv, attrsPV, hk, h0, h1, h2, h3, h4, h5, h6]
  simp (implicitDefEqProofs := false) (maxSteps := 1000000) (disch := omega) only [Ra, Rb, Rc, Rd, Re, Rf, Rg, guardK, evalOp, St.know, List.zipWith, mentions, AObj.mentions, bin, binI, avEq, noLocal, view, tupleOf, oneTup, Nat.reduceBEq, Nat.reduceAdd, Nat.reduceLeDiff, Nat.reduceLT, pures, AV.cells, AObj.rd, reduceCtorEq, Int.reduceBEq, Nat.reduceEqDiff, F29, GOp.pv, attrsPV, hk, h0, h1, h2, h3, h4, h5, h6]
theorem none5_run (x : GOp) (hk : x.kind = 5) (g : List AObj) (n : Nat) : acall T (n + 1) 29 [.p (.agg x.pv)] g = some (.p (.bool (none5 x)), g) := by
  rw [acall_code T29, run_pure rfl rfl rfl]
  simp only [none5, nzI, nzS, nzA]
  cases h0 : (x.tag == [])
  · simp (implicitDefEqProofs := false) (maxSteps := 1000000) (disch := omega) only [Ra, Rb, Rc, Rd, Re, Rf, Rg, guardK, evalOp, St.know, List.zipWith, mentions, AObj.mentions, bin, avEq, noLocal, view, tupleOf, oneTup, Nat.reduceBEq, Nat.reduceAdd, Nat.reduceLeDiff, Nat.reduceLT, pures, AV.cells, AObj.rd, reduceCtorEq, Int.reduceBEq, Nat.reduceEqDiff, F29, GOp.pv, attrsPV, hk, h0]
  cases h1 : (x.key == [])
  · simp (implicitDefEqProofs := false) (maxSteps := 1000000) (disch := omega) only [Ra, Rb, Rc, Rd, Re, Rf, Rg, guardK, evalOp, St.know, List.zipWith, mentions, AObj.mentions, bin, avEq, noLocal, view, tupleOf, oneTup, Nat.reduceBEq, Nat.reduceAdd, Nat.reduceLeDiff, Nat.reduceLT, pures, AV.cells, AObj.rd, reduceCtorEq, Int.reduceBEq, Nat.reduceEqDiff, F29, GOp.pv, attrsPV, hk, h0, h1]
  by_cases h2 : 0 < (x.attrs.length : Int)
  · simp (implicitDefEqProofs := false) (maxSteps := 1000000) (disch := omega) only [Ra, Rb, Rc, Rd, Re, Rf, Rg, guardK, evalOp, St.know, List.zipWith, mentions, AObj.mentions, bin, binI, avEq, noLocal, view, tupleOf, oneTup, Nat.reduceBEq, Nat.reduceAdd, Nat.reduceLeDiff, Nat.reduceLT, pures, AV.cells, AObj.rd, reduceCtorEq, Int.reduceBEq, Nat.reduceEqDiff, F29, GOp.pv, attrsPV, hk, h0, h1, h2]
  cases h3 : (x.up == 0)
  · simp (implicitDefEqProofs := false) (maxSteps := 1000000) (disch := omega) only [Ra, Rb, Rc, Rd, Re, Rf, Rg, guardK, evalOp, St.know, List.zipWith, mentions, AObj.mentions, bin, binI, avEq, noLocal, view, tupleOf, oneTup, Nat.reduceBEq, Nat.reduceAdd, Nat.reduceLeDiff, Nat.reduceLT, pures, AV.cells, AObj.rd, reduceCtorEq, Int.reduceBEq, Nat.reduceEqDiff, F29, GOp.pv, attrsPV, hk, h0, h1, h2, h3]
  cases h4 : (x.before == 0)
  · simp (implicitDefEqProofs := false) (maxSteps := 1000000) (disch := omega) only [Ra, Rb, Rc, Rd, Re, Rf, Rg, guardK, evalOp, St.know, List.zipWith, mentions, AObj.mentions, bin, binI, avEq, noLocal, view, tupleOf, oneTup, Nat.reduceBEq, Nat.reduceAdd, Nat.reduceLeDiff, Nat.reduceLT, pures, AV.cells, AObj.rd, reduceCtorEq, Int.reduceBEq, Nat.reduceEqDiff, F29, GOp.pv, attrsPV, hk, h0, h1, h2, h3, h4]
  simp (implicitDefEqProofs := false) (maxSteps := 1000000) (disch := omega) only [Ra, Rb, Rc, Rd, Re, Rf, Rg, guardK, evalOp, St.know, List.zipWith, mentions, AObj.mentions, bin, binI, avEq, noLocal, view, tupleOf, oneTup, Nat.reduceBEq, Nat.reduceAdd, Nat.reduceLeDiff, Nat.reduceLT, pures, AV.cells, AObj.rd, reduceCtorEq, Int.reduceBEq, Nat.reduceEqDiff, F29, GOp.pv, attrsPV, hk, h0, h1, h2, h3, h4]
end Go.TA.Tryd

end
section
/- Does an operation have a field that its kind does not use? The document's answer. -/
set_option linter.unusedVariables false
set_option linter.unusedSimpArgs false
set_option maxRecDepth 100000
set_option maxHeartbeats 8000000
namespace Go.TA.Tryd
theorem none6_run (x : GOp) (hk : x.kind = 6) (g : List AObj) (n : Nat) : acall T (n + 1) 29 [.p (.agg x.pv)] g = some (.p (.bool (none6 x)), g) := by
  rw [acall_code T29, run_pure rfl rfl rfl]
  simp only [none6, nzI, nzS, nzA]
  cases h0 : (x.tag == [])
  · simp (implicitDefEqProofs := false) (maxSteps := 1000000) (disch := omega) only [Ra, Rb, Rc, Rd, Re, Rf, Rg, guardK, evalOp, St.know, List.zipWith, mentions, AObj.mentions, bin, avEq, noLocal, view, tupleOf, oneTup, Nat.reduceBEq, Nat.reduceAdd, Nat.reduceLeDiff, Nat.reduceLT, pures, AV.cells, AObj.rd, reduceCtorEq, Int.reduceBEq, Nat.reduceEqDiff, F29, GOp.pv, attrsPV, hk, h0]
  cases h1 : (x.key == [])
  · simp (implicitDefEqProofs := false) (maxSteps := 1000000) (disch := omega) only [Ra, Rb, Rc, Rd, Re, Rf, Rg, guardK, evalOp, St.know, List.zipWith, mentions, AObj.mentions, bin, avEq, noLocal, view, tupleOf, oneTup, Nat.reduceBEq, Nat.reduceAdd, Nat.reduceLeDiff, Nat.reduceLT, pures, AV.cells, AObj.rd, reduceCtorEq, Int.reduceBEq, Nat.reduceEqDiff, F29, GOp.pv, attrsPV, hk, h0, h1]
  by_cases h2 : 0 < (x.attrs.length : Int)
  · simp (implicitDefEqProofs := false) (maxSteps := 1000000) (disch := omega) only [Ra, Rb, Rc, Rd, Re, Rf, Rg, guardK, evalOp, St.know, List.zipWith, mentions, AObj.mentions, bin, binI, avEq, noLocal, view, tupleOf, oneTup, Nat.reduceBEq, Nat.reduceAdd, Nat.reduceLeDiff, Nat.reduceLT, pures, AV.cells, AObj.rd, reduceCtorEq, Int.reduceBEq, Nat.reduceEqDiff, F29, GOp.pv, attrsPV, hk, h0, h1, h2]
  cases h3 : (x.up == 0)
  · simp (implicitDefEqProofs := false) (maxSteps := 1000000) (disch := omega) only [Ra, Rb, Rc, Rd, Re, Rf, Rg, guardK, evalOp, St.know, List.zipWith, mentions, AObj.mentions, bin, binI, avEq, noLocal, view, tupleOf, oneTup, Nat.reduceBEq, Nat.reduceAdd, Nat.reduceLeDiff, Nat.reduceLT, pures, AV.cells, AObj.rd, reduceCtorEq, Int.reduceBEq, Nat.reduceEqDiff, F29, GOp.pv, attrsPV, hk, h0, h1, h2, h3]
  cases h4 : (x.before == 0)
  · simp (implicitDefEqProofs := false) (maxSteps := 1000000) (disch := omega) only [Ra, Rb, Rc, Rd, Re, Rf, Rg, guardK, evalOp, St.know, List.zipWith, mentions, AObj.mentions, bin, binI, avEq, noLocal, view, tupleOf, oneTup, Nat.reduceBEq, Nat.reduceAdd, Nat.reduceLeDiff, Nat.reduceLT, pures, AV.cells, AObj.rd, reduceCtorEq, Int.reduceBEq, Nat.reduceEqDiff, F29, GOp.pv, attrsPV, hk, h0, h1, h2, h3, h4]
  cases h5 : (x.text == [])
  · simp (implicitDefEqProofs := false) (maxSteps := 1000000) (disch := omega) only [Ra, Rb, Rc, Rd, Re, Rf, Rg, guardK, evalOp, St.know, List.zipWith, mentions, AObj.mentions, bin, binI, avEq, noLocal, view, tupleOf, oneTup, Nat.reduceBEq, Nat.reduceAdd, Nat.reduceLeDiff, Nat.reduceLT, pures, AV.cells, AObj.rd, reduceCtorEq, Int.reduceBEq, Nat.reduceEqDiff, F29, GOp.pv, attrsPV, hk, h0, h1, h2, h3, h4, h5]
  simp (implicitDefEqProofs := false) (maxSteps := 1000000) (disch := omega) only [Ra, Rb, Rc, Rd, Re, Rf, Rg, guardK, evalOp, St.know, List.zipWith, mentions, AObj.mentions, bin, binI, avEq, noLocal, view, tupleOf, oneTup, Nat.reduceBEq, Nat.reduceAdd, Nat.reduceLeDiff, Nat.reduceLT, pures, AV.cells, AObj.rd, reduceCtorEq, Int.reduceBEq, Nat.reduceEqDiff, F29, GOp.pv, attrsPV, hk, h0, h1, h2, h3, h4, h5]
theorem none7_run (x : GOp) (hk : x.kind = 7) (g : List AObj) (n : Nat) : acall T (n + 1) 29 [.p (.agg x.pv)] g = some (.p (.bool (none7 x)), g) := by
  rw [acall_code T29, run_pure rfl rfl rfl]
  simp only [none7, nzI, nzS, nzA]
  cases h0 : (x.tag == [])
  · simp (implicitDefEqProofs := false) (maxSteps := 1000000) (disch := omega) only [Ra, Rb, Rc, Rd, Re, Rf, Rg, guardK, evalOp, St.know, List.zipWith, mentions, AObj.mentions, bin, avEq, noLocal, view, tupleOf, oneTup, Nat.reduceBEq, Nat.reduceAdd, Nat.reduceLeDiff, Nat.reduceLT, pures, AV.cells, AObj.rd, reduceCtorEq, Int.reduceBEq, Nat.reduceEqDiff, F29, GOp.pv, attrsPV, hk, h0]
  cases h1 : (x.key == [])
  · simp (implicitDefEqProofs := false) (maxSteps := 1000000) (disch := omega) only [Ra, Rb, Rc, Rd, Re, Rf, Rg, guardK, evalOp, St.know, List.zipWith, mentions, AObj.mentions, bin, avEq, noLocal, view, tupleOf, oneTup, Nat.reduceBEq, Nat.reduceAdd, Nat.reduceLeDiff, Nat.reduceLT, pures, AV.cells, AObj.rd, reduceCtorEq, Int.reduceBEq, Nat.reduceEqDiff, F29, GOp.pv, attrsPV, hk, h0, h1]
  by_cases h2 : 0 < (x.attrs.length : Int)
  · simp (implicitDefEqProofs := false) (maxSteps := 1000000) (disch := omega) only [Ra, Rb, Rc, Rd, Re, Rf, Rg, guardK, evalOp, St.know, List.zipWith, mentions, AObj.mentions, bin, binI, avEq, noLocal, view, tupleOf, oneTup, Nat.reduceBEq, Nat.reduceAdd, Nat.reduceLeDiff, Nat.reduceLT, pures, AV.cells, AObj.rd, reduceCtorEq, Int.reduceBEq, Nat.reduceEqDiff, F29, GOp.pv, attrsPV, hk, h0, h1, h2]
  cases h3 : (x.up == 0)
  · simp (implicitDefEqProofs := false) (maxSteps := 1000000) (disch := omega) only [Ra, Rb, Rc, Rd, Re, Rf, Rg, guardK, evalOp, St.know, List.zipWith, mentions, AObj.mentions, bin, binI, avEq, noLocal, view, tupleOf, oneTup, Nat.reduceBEq, Nat.reduceAdd, Nat.reduceLeDiff, Nat.reduceLT, pures, AV.cells, AObj.rd, reduceCtorEq, Int.reduceBEq, Nat.reduceEqDiff, F29, GOp.pv, attrsPV, hk, h0, h1, h2, h3]
  cases h4 : (x.before == 0)
  · simp (implicitDefEqProofs := false) (maxSteps := 1000000) (disch := omega) only [Ra, Rb, Rc, Rd, Re, Rf, Rg, guardK, evalOp, St.know, List.zipWith, mentions, AObj.mentions, bin, binI, avEq, noLocal, view, tupleOf, oneTup, Nat.reduceBEq, Nat.reduceAdd, Nat.reduceLeDiff, Nat.reduceLT, pures, AV.cells, AObj.rd, reduceCtorEq, Int.reduceBEq, Nat.reduceEqDiff, F29, GOp.pv, attrsPV, hk, h0, h1, h2, h3, h4]
  cases h5 : (x.name == [])
  · simp (implicitDefEqProofs := false) (maxSteps := 1000000) (disch := omega) only [Ra, Rb, Rc, Rd, Re, Rf, Rg, guardK, evalOp, St.know, List.zipWith, mentions, AObj.mentions, bin, binI, avEq, noLocal, view, tupleOf, oneTup, Nat.reduceBEq, Nat.reduceAdd, Nat.reduceLeDiff, Nat.reduceLT, pures, AV.cells, AObj.rd, reduceCtorEq, Int.reduceBEq, Nat.reduceEqDiff, F29, GOp.pv, attrsPV, hk, h0, h1, h2, h3, h4, h5]
  simp (implicitDefEqProofs := false) (maxSteps := 1000000) (disch := omega) only [Ra, Rb, Rc, Rd, Re, Rf, Rg, guardK, evalOp, St.know, List.zipWith, mentions, AObj.mentions, bin, binI, avEq, noLocal, view, tupleOf, oneTup, Nat.reduceBEq, Nat.reduceAdd, Nat.reduceLeDiff, Nat.reduceLT, pures, AV.cells, AObj.rd, reduceCtorEq, Int.reduceBEq, Nat.reduceEqDiff, F29, GOp.pv, attrsPV, hk, h0, h1, h2, h3, h4, h5]
end Go.TA.Tryd

end
section
/- Does an operation have a field that its kind does not use? The document's answer. -/
set_option linter.unusedVariables false
set_option linter.unusedSimpArgs false
set_option maxRecDepth 100000
set_option maxHeartbeats 8000000
namespace Go.TA.Tryd
theorem none_run (x : GOp) (h1 : 1 ≤ x.kind) (h7 : x.kind ≤ 7) (g : List AObj) (n : Nat) : acall T (n + 1) 29 [.p (.agg x.pv)] g = some (.p (.bool (noneB x)), g) := by
  by_cases k1 : x.kind = 1
  · rw [none1_run x k1]; simp [noneB, k1]
  by_cases k2 : x.kind = 2
  · rw [none2_run x k2]; simp [noneB, k2]
  by_cases k3 : x.kind = 3
  · rw [none3_run x k3]; simp [noneB, k3]
  by_cases k4 : x.kind = 4
  · rw [none4_run x k4]; simp [noneB, k4]
  by_cases k5 : x.kind = 5
  · rw [none5_run x k5]; simp [noneB, k5]
  by_cases k6 : x.kind = 6
  · rw [none6_run x k6]; simp [noneB, k6]
  by_cases k7 : x.kind = 7
  · rw [none7_run x k7]; simp [noneB, k7]
  omega
end Go.TA.Tryd

end
section
/- Whether an operation is what its kind uses of it: by texts, as the program does it. -/
set_option linter.unusedVariables false
set_option linter.unusedSimpArgs false
set_option maxRecDepth 100000
set_option maxHeartbeats 8000000
namespace Go.TA.Tryd
def eqEnd (b : Bool) : Ex × St := if b = true then (.exit 0, ⟨[], [], []⟩) else (.ret, ⟨[(4, .p (.bool false))], [], []⟩)
theorem eqEnd_ne (b : Bool) : (eqEnd b).1 ≠ .normal := by cases b <;> simp [eqEnd]

theorem slicesEq_run (a b : List Attr) (g : List AObj) {n m : Nat} (ha : a.length < n) (hn : n ≤ 1048577) (hm : n ≤ m) :
    acall T (m + 1) 65 [.p (attrsPV a), .p (attrsPV b)] g = some (.p (.bool (decide (a = b))), g) := by
  rw [acall_code T65, run_pure rfl rfl rfl]
  by_cases hlen : a.length = b.length
  · have hloop : aexec (acall T m) m (.loop B65x0) ⟨[(0, .p (.list (a.map Attr.pv))), (1, .p (.list (b.map Attr.pv))), (12, .p (.int .i64 a.length)), (13, .p (.int .i64 0))], [], []⟩ = some (eqEnd (decide (a.drop 0 = b.drop 0))) := by
      refine loop_rule' (σ := Nat) (S := fun i => ⟨[(0, .p (.list (a.map Attr.pv))), (1, .p (.list (b.map Attr.pv))), (12, .p (.int .i64 a.length)), (13, .p (.int .i64 i))], [], []⟩) (I := fun i => i ≤ a.length) (μ := fun i => a.length - i) (Φ := fun i => eqEnd (decide (a.drop i = b.drop i))) ?_ 0 (by omega) (by omega)
      intro i hi
      by_cases h : i < a.length
      · obtain ⟨x, hx⟩ := get_some h
        obtain ⟨y, hy⟩ := get_some (l := b) (i := i) (by omega)
        have hgx := getD_map (f := Attr.pv) hx
        have hgy := getD_map (f := Attr.pv) hy
        have hdx : a.drop i = x :: a.drop (i + 1) := by rw [List.drop_eq_getElem?_toList_append, hx]; rfl
        have hdy : b.drop i = y :: b.drop (i + 1) := by rw [List.drop_eq_getElem?_toList_append, hy]; rfl
        by_cases hxy : x = y
        · subst hxy
          refine .inl ⟨i + 1, ?_, by omega, by omega, by rw [hdx, hdy]; simp⟩
          simp (implicitDefEqProofs := false) (maxSteps := 1000000) (disch := omega) only [Ra, Rb, Rc, Rd, Re, Rf, Rg, evalOp, St.know, mentions, AObj.mentions, bin, binI, avEq, cellsEq, Nat.reduceBEq, Nat.reduceAdd, asInt, B65x0, hgx, hgy, Attr.pv]
        · refine .inr ⟨?_, eqEnd_ne _⟩
          have e : decide (a.drop i = b.drop i) = false := by rw [hdx, hdy]; simp [hxy]
          have e2 : (x.name == y.name && x.value == y.value) = false := by
            rw [← Bool.not_eq_true, Bool.and_eq_true, beq_iff_eq, beq_iff_eq]
            rintro ⟨h1, h2⟩
            apply hxy
            cases x; cases y; simp only at h1 h2; subst h1 h2; rfl
          rw [e]
          simp (implicitDefEqProofs := false) (maxSteps := 1000000) (disch := omega) only [Ra, Rb, Rc, Rd, Re, Rf, Rg, evalOp, St.know, mentions, AObj.mentions, bin, binI, avEq, cellsEq, Nat.reduceBEq, Nat.reduceAdd, asInt, B65x0, hgx, hgy, Attr.pv, e2, eqEnd]
      · have e : decide (a.drop i = b.drop i) = true := by rw [List.drop_eq_nil_of_le (by omega), List.drop_eq_nil_of_le (by omega)]; simp
        refine .inr ⟨?_, eqEnd_ne _⟩
        rw [e]
        simp (implicitDefEqProofs := false) (maxSteps := 1000000) (disch := omega) only [Ra, Rb, Rc, Rd, Re, Rf, Rg, evalOp, St.know, mentions, AObj.mentions, bin, binI, Nat.reduceBEq, B65x0, eqEnd]
    rw [List.drop_zero, List.drop_zero] at hloop
    have hl2 : ((a.length : Int) == (b.length : Int)) = true := by simp [hlen]
    cases hd : decide (a = b) with
    | false =>
      rw [hd] at hloop
      simp only [eqEnd, Bool.false_eq_true, if_false] at hloop
      simp (implicitDefEqProofs := false) (maxSteps := 1000000) (disch := omega) only [Ra, Rb, Rc, Rd, Re, Rf, Rg, evalOp, St.know, List.zipWith, mentions, AObj.mentions, avEq, noLocal, view, tupleOf, oneTup, Nat.reduceBEq, Nat.reduceAdd, F65, attrsPV, hl2, hloop]
    | true =>
      rw [hd] at hloop
      simp only [eqEnd, if_true] at hloop
      simp (implicitDefEqProofs := false) (maxSteps := 1000000) (disch := omega) only [Ra, Rb, Rc, Rd, Re, Rf, Rg, evalOp, St.know, List.zipWith, mentions, AObj.mentions, avEq, noLocal, view, tupleOf, oneTup, Nat.reduceBEq, Nat.reduceAdd, F65, attrsPV, hl2, hloop]
  · have hl2 : ((a.length : Int) == (b.length : Int)) = false := by rw [beq_eq_false_iff_ne]; omega
    have hd : decide (a = b) = false := by rw [decide_eq_false_iff_not]; intro hh; exact hlen (by rw [hh])
    rw [hd]
    simp (implicitDefEqProofs := false) (maxSteps := 1000000) (disch := omega) only [Ra, Rb, Rc, Rd, Re, Rf, Rg, evalOp, St.know, List.zipWith, mentions, AObj.mentions, avEq, noLocal, view, tupleOf, oneTup, Nat.reduceBEq, Nat.reduceAdd, F65, attrsPV, hl2]

def hOk (n : Int) : Bool := decide (0 ≤ n) && decide (n ≤ 4294967295)
theorem handle_run (k : Int) (g : List AObj) (n : Nat) : acall T (n + 1) 49 [.p (.int .i64 k)] g = some (.p (.bool (hOk k)), g) := by
  rw [acall_code T49, run_pure rfl rfl rfl]
  by_cases h1 : 0 ≤ k
  · by_cases h2 : k ≤ 4294967295
    · simp (implicitDefEqProofs := false) (maxSteps := 1000000) (disch := omega) only [Ra, Rb, Rc, Rd, Re, Rf, Rg, guardK, evalOp, List.zipWith, mentions, AObj.mentions, bin, binI, noLocal, view, tupleOf, oneTup, Nat.reduceBEq, Nat.reduceAdd, F49, hOk, h1, h2]
    · simp (implicitDefEqProofs := false) (maxSteps := 1000000) (disch := omega) only [Ra, Rb, Rc, Rd, Re, Rf, Rg, guardK, evalOp, List.zipWith, mentions, AObj.mentions, bin, binI, noLocal, view, tupleOf, oneTup, Nat.reduceBEq, Nat.reduceAdd, F49, hOk, h1, h2]
  · simp (implicitDefEqProofs := false) (maxSteps := 1000000) (disch := omega) only [Ra, Rb, Rc, Rd, Re, Rf, Rg, guardK, evalOp, List.zipWith, mentions, AObj.mentions, bin, binI, noLocal, view, tupleOf, oneTup, Nat.reduceBEq, Nat.reduceAdd, F49, hOk, h1]
theorem over_run (k : Int) (g : List AObj) (n : Nat) : acall T (n + 1) 28 [.p (.int .i64 k)] g = some (.p (.bool (!hOk k)), g) := by
  rw [acall_code T28, run_pure rfl rfl rfl]
  by_cases h1 : k < 0
  · have h1' : ¬ 0 ≤ k := by omega
    simp (implicitDefEqProofs := false) (maxSteps := 1000000) (disch := omega) only [Ra, Rb, Rc, Rd, Re, Rf, Rg, guardK, evalOp, List.zipWith, mentions, AObj.mentions, bin, binI, noLocal, view, tupleOf, oneTup, Nat.reduceBEq, Nat.reduceAdd, F28, hOk, h1, h1']
  · have h1' : 0 ≤ k := by omega
    by_cases h2 : 4294967295 < k
    · have h2' : ¬ k ≤ 4294967295 := by omega
      simp (implicitDefEqProofs := false) (maxSteps := 1000000) (disch := omega) only [Ra, Rb, Rc, Rd, Re, Rf, Rg, guardK, evalOp, List.zipWith, mentions, AObj.mentions, bin, binI, noLocal, view, tupleOf, oneTup, Nat.reduceBEq, Nat.reduceAdd, F28, hOk, h1, h1', h2, h2']
    · have h2' : k ≤ 4294967295 := by omega
      simp (implicitDefEqProofs := false) (maxSteps := 1000000) (disch := omega) only [Ra, Rb, Rc, Rd, Re, Rf, Rg, guardK, evalOp, List.zipWith, mentions, AObj.mentions, bin, binI, noLocal, view, tupleOf, oneTup, Nat.reduceBEq, Nat.reduceAdd, F28, hOk, h1, h1', h2, h2']
theorem itoa_run (k : Int) (h1 : -9223372036854775808 ≤ k) (h2 : k ≤ 9223372036854775807) (g : List AObj) (n : Nat) : acall T (n + 1) 67 [.p (.int .i64 k)] g = some (.p (.str (Lib.itoa k)), g) := by
  rw [acall_prim T67]
  simp [pItoa, h1, h2]
theorem digits_zero : ∀ (u : Nat), 1 ≤ u → Lib.decDigits u ≠ [48] := by
  intro u hu h
  by_cases h10 : u < 10
  · rw [Lib.decDigits_one h10] at h
    injection h with h _
    have : (UInt8.ofNat (48 + u)).toNat = 48 := by rw [h]; rfl
    rw [UInt8.toNat_ofNat'] at this
    omega
  · have hl := Lib.decDigits_length u
    rw [h] at hl
    rw [Lib.nDigits, dif_neg h10] at hl
    have : 1 ≤ Lib.nDigits (u / 10) := by
      rw [Lib.nDigits]
      split <;> omega
    simp at hl
    omega
theorem itoa_zero {k : Int} (h : 0 ≤ k) : (Lib.itoa k == Lib.itoa 0) = (k == 0) := by
  have e0 : Lib.itoa 0 = [48] := by
    have : Lib.itoa 0 = Lib.decDigits 0 := by simp [Lib.itoa]
    rw [this, Lib.decDigits_one (by omega)]
    rfl
  rw [e0]
  by_cases hk : k = 0
  · subst hk; rw [e0]; rfl
  · have hne : Lib.itoa k ≠ [48] := by
      have : Lib.itoa k = Lib.decDigits k.toNat := by unfold Lib.itoa; rw [if_neg (by omega)]
      rw [this]
      exact digits_zero _ (by omega)
    rw [Bool.eq_iff_iff, beq_iff_eq, beq_iff_eq]
    exact ⟨fun h => absurd h hne, fun h => absurd h hk⟩
def smallI (k : Int) : Prop := 0 ≤ k ∧ k ≤ 4294967295
structure OpFine (x : GOp) : Prop where
  kind : smallI x.kind
  node : smallI x.node
  up : smallI x.up
  before : smallI x.before
theorem one_run (x : GOp) (hx : OpFine x) (g : List AObj) (n : Nat) : acall T (n + 2) 66 [.p (.agg x.pv)] g = some (.p (.agg [.str (Lib.itoa x.kind), .str (Lib.itoa x.node), .str (Lib.itoa x.up), .str (Lib.itoa x.before), .str x.tag, .str x.key, .str x.name, .str x.text, .str []]), g) := by
  rw [acall_code T66, run_pure rfl rfl rfl]
  have h1 := fun g => itoa_run x.kind (by have := hx.kind.1; omega) (by have := hx.kind.2; omega) g n
  have h2 := fun g => itoa_run x.node (by have := hx.node.1; omega) (by have := hx.node.2; omega) g n
  have h3 := fun g => itoa_run x.up (by have := hx.up.1; omega) (by have := hx.up.2; omega) g n
  have h4 := fun g => itoa_run x.before (by have := hx.before.1; omega) (by have := hx.before.2; omega) g n
  simp (implicitDefEqProofs := false) (maxSteps := 1000000) (disch := omega) only [Ra, Rb, Rc, Rd, Re, Rf, Rg, evalOp, List.zipWith, mentions, AObj.mentions, noLocal, view, viewT, tupleOf, oneTup, pureArg, allFlat, flat, Nat.reduceBEq, Nat.reduceAdd, Nat.reduceLeDiff, Nat.reduceLT, pures, AV.cells, AObj.rd, AObj.wr, reduceCtorEq, Nat.reduceEqDiff, F66, GOp.pv, attrsPV, h1, h2, h3, h4]
def sameV (x y : GOp) : Bool := decide (x.attrs = y.attrs) && ((Lib.itoa x.kind == Lib.itoa y.kind) && ((Lib.itoa x.node == Lib.itoa y.node) && ((Lib.itoa x.up == Lib.itoa y.up) && ((Lib.itoa x.before == Lib.itoa y.before) && ((x.tag == y.tag) && ((x.key == y.key) && ((x.name == y.name) && (x.text == y.text))))))))
theorem opsame_run (x y : GOp) (hx : OpFine x) (hy : OpFine y) (g : List AObj) {n : Nat} (hl : x.attrs.length < n + 1) (hb : x.attrs.length ≤ 1048576) : acall T (n + 3) 50 [.p (.agg x.pv), .p (.agg y.pv)] g = some (.p (.bool (sameV x y)), g) := by
  rw [acall_code T50, run_pure rfl rfl rfl]
  have he := fun g => slicesEq_run x.attrs y.attrs g (n := x.attrs.length + 1) (m := n + 1) (by omega) (by omega) (by omega)
  have o1 := fun g => one_run x hx g n
  have o2 := fun g => one_run y hy g n
  simp only [GOp.pv, attrsPV] at he o1 o2
  by_cases ha : x.attrs = y.attrs
  · have ha' : decide (x.attrs = y.attrs) = true := by simpa using ha
    rw [ha'] at he
    simp only [sameV, ha']
    simp (implicitDefEqProofs := false) (maxSteps := 1000000) (disch := omega) only [Ra, Rb, Rc, Rd, Re, Rf, Rg, evalOp, St.know, List.zipWith, mentions, AObj.mentions, avEq, cellsEq, una, noLocal, AV.same, PV.same, PV.sameL, view, viewT, tupleOf, oneTup, pureArg, allFlat, flat, Nat.reduceBEq, Nat.reduceAdd, Nat.reduceLT, pures, AV.cells, AObj.rd, reduceCtorEq, Nat.reduceEqDiff, F50, GOp.pv, attrsPV, he, o1, o2, attrs_same, Nat.zero_add]
  · have ha' : decide (x.attrs = y.attrs) = false := by simpa using ha
    rw [ha'] at he
    simp only [sameV, ha']
    simp (implicitDefEqProofs := false) (maxSteps := 1000000) (disch := omega) only [Ra, Rb, Rc, Rd, Re, Rf, Rg, evalOp, St.know, List.zipWith, mentions, AObj.mentions, una, noLocal, view, viewT, tupleOf, oneTup, pureArg, allFlat, flat, Nat.reduceBEq, Nat.reduceAdd, Nat.reduceLT, pures, AV.cells, AObj.rd, reduceCtorEq, Nat.reduceEqDiff, F50, GOp.pv, attrsPV, he]
end Go.TA.Tryd

end
section
/- What is wrong with an operation: the document's answer. -/
set_option linter.unusedVariables false
set_option linter.unusedSimpArgs false
set_option maxRecDepth 100000
set_option maxHeartbeats 8000000
namespace Go.TA.Tryd
def tagBad (x : GOp) : Bool := (x.kind == 1) && !namedB false x.tag
def nameBad (x : GOp) : Bool := ((x.kind == 5) || (x.kind == 6)) && !namedB true x.name
def opErr (x : GOp) : Int := if x.kind < 1 then 6 else if 7 < x.kind then 6 else if hOk x.node = false then 5 else if hOk x.up = false then 5 else if hOk x.before = false then 5 else if noneB x = true then 2 else if tagBad x = true then 7 else if nameBad x = true then 8 else if 65536 < (x.key.length : Int) then 3 else if 65536 < (x.text.length : Int) then 3 else attrsErr x.attrs
theorem ref25_run (x : GOp) (hs : smallAttrs x.attrs) (g : List AObj) {n : Nat} (hl : x.attrs.length < n) (hn : 1048576 < n) : acall T (n + 37) 16 [.p (.agg x.pv)] g = some (.p (.int .i64 (opErr x)), g) := by
  rw [acall_code T16, run_pure rfl rfl rfl]
  have ov := fun (k : Int) g => over_run k g (n + 35)
  have nt := fun s g => named02_run s false g (n + 1)
  have nn := fun s g => named02_run s true g (n + 1)
  have at_ := fun g => a09_run x.attrs hs g (n := n) (by omega) hn
  by_cases k1 : x.kind < 1
  · have e : opErr x = 6 := by simp [opErr, tagBad, nameBad, k1]
    rw [e]
    simp (implicitDefEqProofs := false) (maxSteps := 1000000) (disch := omega) only [Ra, Rb, Rc, Rd, Re, Rf, Rg, guardK, evalOp, St.know, List.zipWith, mentions, AObj.mentions, bin, binI, noLocal, view, tupleOf, oneTup, Nat.reduceBEq, Nat.reduceAdd, Nat.reduceLeDiff, Nat.reduceLT, pures, AV.cells, AObj.rd, Nat.reduceEqDiff, F16, GOp.pv, attrsPV, k1]
  by_cases k7 : 7 < x.kind
  · have e : opErr x = 6 := by simp [opErr, tagBad, nameBad, k1, k7]
    rw [e]
    simp (implicitDefEqProofs := false) (maxSteps := 1000000) (disch := omega) only [Ra, Rb, Rc, Rd, Re, Rf, Rg, guardK, evalOp, St.know, List.zipWith, mentions, AObj.mentions, bin, binI, noLocal, view, tupleOf, oneTup, Nat.reduceBEq, Nat.reduceAdd, Nat.reduceLeDiff, Nat.reduceLT, pures, AV.cells, AObj.rd, Nat.reduceEqDiff, F16, GOp.pv, attrsPV, k1, k7]
  cases hnode : hOk x.node
  · have e : opErr x = 5 := by simp [opErr, tagBad, nameBad, k1, k7, hnode]
    rw [e]
    simp (implicitDefEqProofs := false) (maxSteps := 1000000) (disch := omega) only [Ra, Rb, Rc, Rd, Re, Rf, Rg, guardK, evalOp, St.know, List.zipWith, mentions, AObj.mentions, bin, binI, noLocal, view, viewT, tupleOf, oneTup, pureArg, allFlat, flat, Nat.reduceBEq, Nat.reduceAdd, Nat.reduceLeDiff, Nat.reduceLT, pures, AV.cells, AObj.rd, Nat.reduceEqDiff, F16, GOp.pv, attrsPV, ov, k1, k7, hnode]
  cases hup : hOk x.up
  · have e : opErr x = 5 := by simp [opErr, tagBad, nameBad, k1, k7, hnode, hup]
    rw [e]
    simp (implicitDefEqProofs := false) (maxSteps := 1000000) (disch := omega) only [Ra, Rb, Rc, Rd, Re, Rf, Rg, guardK, evalOp, St.know, List.zipWith, mentions, AObj.mentions, bin, binI, noLocal, view, viewT, tupleOf, oneTup, pureArg, allFlat, flat, Nat.reduceBEq, Nat.reduceAdd, Nat.reduceLeDiff, Nat.reduceLT, pures, AV.cells, AObj.rd, reduceCtorEq, Nat.reduceEqDiff, F16, GOp.pv, attrsPV, ov, k1, k7, hnode, hup]
  cases hbefore : hOk x.before
  · have e : opErr x = 5 := by simp [opErr, tagBad, nameBad, k1, k7, hnode, hup, hbefore]
    rw [e]
    simp (implicitDefEqProofs := false) (maxSteps := 1000000) (disch := omega) only [Ra, Rb, Rc, Rd, Re, Rf, Rg, guardK, evalOp, St.know, List.zipWith, mentions, AObj.mentions, bin, binI, noLocal, view, viewT, tupleOf, oneTup, pureArg, allFlat, flat, Nat.reduceBEq, Nat.reduceAdd, Nat.reduceLeDiff, Nat.reduceLT, pures, AV.cells, AObj.rd, reduceCtorEq, Nat.reduceEqDiff, F16, GOp.pv, attrsPV, ov, k1, k7, hnode, hup, hbefore]
  have no := fun g => none_run x (by omega) (by omega) g (n + 35)
  simp only [GOp.pv, attrsPV] at no
  cases hn : noneB x
  rotate_left
  · have e : opErr x = 2 := by simp [opErr, tagBad, nameBad, k1, k7, hnode, hup, hbefore, hn]
    rw [e]
    simp (implicitDefEqProofs := false) (maxSteps := 1000000) (disch := omega) only [Ra, Rb, Rc, Rd, Re, Rf, Rg, guardK, evalOp, St.know, List.zipWith, mentions, AObj.mentions, bin, binI, noLocal, view, viewT, tupleOf, oneTup, pureArg, allFlat, flat, Nat.reduceBEq, Nat.reduceAdd, Nat.reduceLeDiff, Nat.reduceLT, pures, AV.cells, AObj.rd, reduceCtorEq, Nat.reduceEqDiff, F16, GOp.pv, attrsPV, ov, no, k1, k7, hnode, hup, hbefore, hn]
  cases e1 : (x.kind == 1)
  rotate_left
  · have e1' : x.kind = 1 := by simpa using e1
    have e5 : (x.kind == 5) = false := by rw [e1']; rfl
    have e6 : (x.kind == 6) = false := by rw [e1']; rfl
    cases t1 : namedB false x.tag
    · have e : opErr x = 7 := by simp [opErr, tagBad, nameBad, k1, k7, hnode, hup, hbefore, hn, e1, e5, e6, t1]
      rw [e]
      simp (implicitDefEqProofs := false) (maxSteps := 1000000) (disch := omega) only [Ra, Rb, Rc, Rd, Re, Rf, Rg, guardK, evalOp, St.know, List.zipWith, mentions, AObj.mentions, bin, binI, avEq, una, noLocal, view, viewT, tupleOf, oneTup, pureArg, allFlat, flat, Nat.reduceBEq, Nat.reduceAdd, Nat.reduceLeDiff, Nat.reduceLT, pures, AV.cells, AObj.rd, reduceCtorEq, Nat.reduceEqDiff, F16, GOp.pv, attrsPV, ov, no, nt, k1, k7, hnode, hup, hbefore, hn, e1, t1]
    by_cases l1 : 65536 < (x.key.length : Int)
    · have e : opErr x = 3 := by simp [opErr, tagBad, nameBad, k1, k7, hnode, hup, hbefore, hn, e1, e5, e6, t1, l1]
      rw [e]
      simp (implicitDefEqProofs := false) (maxSteps := 1000000) (disch := omega) only [Ra, Rb, Rc, Rd, Re, Rf, Rg, guardK, evalOp, St.know, List.zipWith, mentions, AObj.mentions, bin, binI, avEq, una, noLocal, view, viewT, tupleOf, oneTup, pureArg, allFlat, flat, Nat.reduceBEq, Nat.reduceAdd, Nat.reduceLeDiff, Nat.reduceLT, pures, AV.cells, AObj.rd, reduceCtorEq, Nat.reduceEqDiff, F16, GOp.pv, attrsPV, ov, no, nt, k1, k7, hnode, hup, hbefore, hn, e1, e5, e6, t1, l1]
    by_cases l2 : 65536 < (x.text.length : Int)
    · have e : opErr x = 3 := by simp [opErr, tagBad, nameBad, k1, k7, hnode, hup, hbefore, hn, e1, e5, e6, t1, l1, l2]
      rw [e]
      simp (implicitDefEqProofs := false) (maxSteps := 1000000) (disch := omega) only [Ra, Rb, Rc, Rd, Re, Rf, Rg, guardK, evalOp, St.know, List.zipWith, mentions, AObj.mentions, bin, binI, avEq, una, noLocal, view, viewT, tupleOf, oneTup, pureArg, allFlat, flat, Nat.reduceBEq, Nat.reduceAdd, Nat.reduceLeDiff, Nat.reduceLT, pures, AV.cells, AObj.rd, reduceCtorEq, Nat.reduceEqDiff, F16, GOp.pv, attrsPV, ov, no, nt, k1, k7, hnode, hup, hbefore, hn, e1, e5, e6, t1, l1, l2]
    have e : opErr x = attrsErr x.attrs := by simp [opErr, tagBad, nameBad, k1, k7, hnode, hup, hbefore, hn, e1, e5, e6, t1, l1, l2]
    rw [e]
    simp (implicitDefEqProofs := false) (maxSteps := 1000000) (disch := omega) only [Ra, Rb, Rc, Rd, Re, Rf, Rg, guardK, evalOp, St.know, List.zipWith, mentions, AObj.mentions, bin, binI, avEq, una, noLocal, view, viewT, tupleOf, oneTup, pureArg, allFlat, flat, Nat.reduceBEq, Nat.reduceAdd, Nat.reduceLeDiff, Nat.reduceLT, pures, AV.cells, AObj.rd, reduceCtorEq, Nat.reduceEqDiff, F16, GOp.pv, attrsPV, ov, no, nt, at_, k1, k7, hnode, hup, hbefore, hn, e1, e5, e6, t1, l1, l2]
  cases e5 : (x.kind == 5)
  rotate_left
  · cases t2 : namedB true x.name
    · have e : opErr x = 8 := by simp [opErr, tagBad, nameBad, k1, k7, hnode, hup, hbefore, hn, e1, e5, t2]
      rw [e]
      simp (implicitDefEqProofs := false) (maxSteps := 1000000) (disch := omega) only [Ra, Rb, Rc, Rd, Re, Rf, Rg, guardK, evalOp, St.know, List.zipWith, mentions, AObj.mentions, bin, binI, avEq, una, noLocal, view, viewT, tupleOf, oneTup, pureArg, allFlat, flat, Nat.reduceBEq, Nat.reduceAdd, Nat.reduceLeDiff, Nat.reduceLT, pures, AV.cells, AObj.rd, reduceCtorEq, Nat.reduceEqDiff, F16, GOp.pv, attrsPV, ov, no, nn, k1, k7, hnode, hup, hbefore, hn, e1, e5, t2]
    by_cases l1 : 65536 < (x.key.length : Int)
    · have e : opErr x = 3 := by simp [opErr, tagBad, nameBad, k1, k7, hnode, hup, hbefore, hn, e1, e5, t2, l1]
      rw [e]
      simp (implicitDefEqProofs := false) (maxSteps := 1000000) (disch := omega) only [Ra, Rb, Rc, Rd, Re, Rf, Rg, guardK, evalOp, St.know, List.zipWith, mentions, AObj.mentions, bin, binI, avEq, una, noLocal, view, viewT, tupleOf, oneTup, pureArg, allFlat, flat, Nat.reduceBEq, Nat.reduceAdd, Nat.reduceLeDiff, Nat.reduceLT, pures, AV.cells, AObj.rd, reduceCtorEq, Nat.reduceEqDiff, F16, GOp.pv, attrsPV, ov, no, nn, k1, k7, hnode, hup, hbefore, hn, e1, e5, t2, l1]
    by_cases l2 : 65536 < (x.text.length : Int)
    · have e : opErr x = 3 := by simp [opErr, tagBad, nameBad, k1, k7, hnode, hup, hbefore, hn, e1, e5, t2, l1, l2]
      rw [e]
      simp (implicitDefEqProofs := false) (maxSteps := 1000000) (disch := omega) only [Ra, Rb, Rc, Rd, Re, Rf, Rg, guardK, evalOp, St.know, List.zipWith, mentions, AObj.mentions, bin, binI, avEq, una, noLocal, view, viewT, tupleOf, oneTup, pureArg, allFlat, flat, Nat.reduceBEq, Nat.reduceAdd, Nat.reduceLeDiff, Nat.reduceLT, pures, AV.cells, AObj.rd, reduceCtorEq, Nat.reduceEqDiff, F16, GOp.pv, attrsPV, ov, no, nn, k1, k7, hnode, hup, hbefore, hn, e1, e5, t2, l1, l2]
    have e : opErr x = attrsErr x.attrs := by simp [opErr, tagBad, nameBad, k1, k7, hnode, hup, hbefore, hn, e1, e5, t2, l1, l2]
    rw [e]
    simp (implicitDefEqProofs := false) (maxSteps := 1000000) (disch := omega) only [Ra, Rb, Rc, Rd, Re, Rf, Rg, guardK, evalOp, St.know, List.zipWith, mentions, AObj.mentions, bin, binI, avEq, una, noLocal, view, viewT, tupleOf, oneTup, pureArg, allFlat, flat, Nat.reduceBEq, Nat.reduceAdd, Nat.reduceLeDiff, Nat.reduceLT, pures, AV.cells, AObj.rd, reduceCtorEq, Nat.reduceEqDiff, F16, GOp.pv, attrsPV, ov, no, nn, at_, k1, k7, hnode, hup, hbefore, hn, e1, e5, t2, l1, l2]
  cases e6 : (x.kind == 6)
  rotate_left
  · cases t2 : namedB true x.name
    · have e : opErr x = 8 := by simp [opErr, tagBad, nameBad, k1, k7, hnode, hup, hbefore, hn, e1, e5, e6, t2]
      rw [e]
      simp (implicitDefEqProofs := false) (maxSteps := 1000000) (disch := omega) only [Ra, Rb, Rc, Rd, Re, Rf, Rg, guardK, evalOp, St.know, List.zipWith, mentions, AObj.mentions, bin, binI, avEq, una, noLocal, view, viewT, tupleOf, oneTup, pureArg, allFlat, flat, Nat.reduceBEq, Nat.reduceAdd, Nat.reduceLeDiff, Nat.reduceLT, pures, AV.cells, AObj.rd, reduceCtorEq, Nat.reduceEqDiff, F16, GOp.pv, attrsPV, ov, no, nn, k1, k7, hnode, hup, hbefore, hn, e1, e5, e6, t2]
    by_cases l1 : 65536 < (x.key.length : Int)
    · have e : opErr x = 3 := by simp [opErr, tagBad, nameBad, k1, k7, hnode, hup, hbefore, hn, e1, e5, e6, t2, l1]
      rw [e]
      simp (implicitDefEqProofs := false) (maxSteps := 1000000) (disch := omega) only [Ra, Rb, Rc, Rd, Re, Rf, Rg, guardK, evalOp, St.know, List.zipWith, mentions, AObj.mentions, bin, binI, avEq, una, noLocal, view, viewT, tupleOf, oneTup, pureArg, allFlat, flat, Nat.reduceBEq, Nat.reduceAdd, Nat.reduceLeDiff, Nat.reduceLT, pures, AV.cells, AObj.rd, reduceCtorEq, Nat.reduceEqDiff, F16, GOp.pv, attrsPV, ov, no, nn, k1, k7, hnode, hup, hbefore, hn, e1, e5, e6, t2, l1]
    by_cases l2 : 65536 < (x.text.length : Int)
    · have e : opErr x = 3 := by simp [opErr, tagBad, nameBad, k1, k7, hnode, hup, hbefore, hn, e1, e5, e6, t2, l1, l2]
      rw [e]
      simp (implicitDefEqProofs := false) (maxSteps := 1000000) (disch := omega) only [Ra, Rb, Rc, Rd, Re, Rf, Rg, guardK, evalOp, St.know, List.zipWith, mentions, AObj.mentions, bin, binI, avEq, una, noLocal, view, viewT, tupleOf, oneTup, pureArg, allFlat, flat, Nat.reduceBEq, Nat.reduceAdd, Nat.reduceLeDiff, Nat.reduceLT, pures, AV.cells, AObj.rd, reduceCtorEq, Nat.reduceEqDiff, F16, GOp.pv, attrsPV, ov, no, nn, k1, k7, hnode, hup, hbefore, hn, e1, e5, e6, t2, l1, l2]
    have e : opErr x = attrsErr x.attrs := by simp [opErr, tagBad, nameBad, k1, k7, hnode, hup, hbefore, hn, e1, e5, e6, t2, l1, l2]
    rw [e]
    simp (implicitDefEqProofs := false) (maxSteps := 1000000) (disch := omega) only [Ra, Rb, Rc, Rd, Re, Rf, Rg, guardK, evalOp, St.know, List.zipWith, mentions, AObj.mentions, bin, binI, avEq, una, noLocal, view, viewT, tupleOf, oneTup, pureArg, allFlat, flat, Nat.reduceBEq, Nat.reduceAdd, Nat.reduceLeDiff, Nat.reduceLT, pures, AV.cells, AObj.rd, reduceCtorEq, Nat.reduceEqDiff, F16, GOp.pv, attrsPV, ov, no, nn, at_, k1, k7, hnode, hup, hbefore, hn, e1, e5, e6, t2, l1, l2]
  by_cases l1 : 65536 < (x.key.length : Int)
  · have e : opErr x = 3 := by simp [opErr, tagBad, nameBad, k1, k7, hnode, hup, hbefore, hn, e1, e5, e6, l1]
    rw [e]
    simp (implicitDefEqProofs := false) (maxSteps := 1000000) (disch := omega) only [Ra, Rb, Rc, Rd, Re, Rf, Rg, guardK, evalOp, St.know, List.zipWith, mentions, AObj.mentions, bin, binI, avEq, una, noLocal, view, viewT, tupleOf, oneTup, pureArg, allFlat, flat, Nat.reduceBEq, Nat.reduceAdd, Nat.reduceLeDiff, Nat.reduceLT, pures, AV.cells, AObj.rd, reduceCtorEq, Nat.reduceEqDiff, F16, GOp.pv, attrsPV, ov, no, k1, k7, hnode, hup, hbefore, hn, e1, e5, e6, l1]
  by_cases l2 : 65536 < (x.text.length : Int)
  · have e : opErr x = 3 := by simp [opErr, tagBad, nameBad, k1, k7, hnode, hup, hbefore, hn, e1, e5, e6, l1, l2]
    rw [e]
    simp (implicitDefEqProofs := false) (maxSteps := 1000000) (disch := omega) only [Ra, Rb, Rc, Rd, Re, Rf, Rg, guardK, evalOp, St.know, List.zipWith, mentions, AObj.mentions, bin, binI, avEq, una, noLocal, view, viewT, tupleOf, oneTup, pureArg, allFlat, flat, Nat.reduceBEq, Nat.reduceAdd, Nat.reduceLeDiff, Nat.reduceLT, pures, AV.cells, AObj.rd, reduceCtorEq, Nat.reduceEqDiff, F16, GOp.pv, attrsPV, ov, no, k1, k7, hnode, hup, hbefore, hn, e1, e5, e6, l1, l2]
  have e : opErr x = attrsErr x.attrs := by simp [opErr, tagBad, nameBad, k1, k7, hnode, hup, hbefore, hn, e1, e5, e6, l1, l2]
  rw [e]
  simp (implicitDefEqProofs := false) (maxSteps := 1000000) (disch := omega) only [Ra, Rb, Rc, Rd, Re, Rf, Rg, guardK, evalOp, St.know, List.zipWith, mentions, AObj.mentions, bin, binI, avEq, una, noLocal, view, viewT, tupleOf, oneTup, pureArg, allFlat, flat, Nat.reduceBEq, Nat.reduceAdd, Nat.reduceLeDiff, Nat.reduceLT, pures, AV.cells, AObj.rd, reduceCtorEq, Nat.reduceEqDiff, F16, GOp.pv, attrsPV, ov, no, at_, k1, k7, hnode, hup, hbefore, hn, e1, e5, e6, l1, l2]
end Go.TA.Tryd

end
section
/- What is wrong with an operation: the program. -/
set_option linter.unusedVariables false
set_option linter.unusedSimpArgs false
set_option maxRecDepth 100000
set_option maxHeartbeats 8000000
namespace Go.TA.Tryd
theorem used_fine {x : GOp} (h1 : 1 ≤ x.kind) (h7 : x.kind ≤ 7) (hx : OpFine x) : OpFine (usedOp x) := by
  have z : smallI 0 := ⟨by omega, by omega⟩
  unfold usedOp
  split
  · exact ⟨hx.kind, z, z, z⟩
  split
  · exact ⟨hx.kind, hx.node, hx.up, hx.before⟩
  split
  · exact ⟨hx.kind, hx.node, z, hx.before⟩
  split
  · exact ⟨hx.kind, hx.node, z, z⟩
  split
  · exact ⟨hx.kind, hx.node, z, z⟩
  split
  · exact ⟨hx.kind, hx.node, z, z⟩
  split
  · exact ⟨hx.kind, hx.node, z, z⟩
  · exact hx
theorem nzA_nil (l : List Attr) : decide (l = []) = !nzA l := by
  cases l with
  | nil => simp [nzA]
  | cons a l =>
    have : (0 : Int) < ((a :: l).length : Int) := by simp
    simp [nzA, this]
theorem same_used {x : GOp} (h1 : 1 ≤ x.kind) (h7 : x.kind ≤ 7) (hx : OpFine x) : sameV x (usedOp x) = !noneB x := by
  have zn := itoa_zero hx.node.1
  have zu := itoa_zero hx.up.1
  have zb := itoa_zero hx.before.1
  have za := nzA_nil x.attrs
  by_cases k1 : x.kind = 1
  · simp only [usedOp, noneB, k1, if_true, if_false, Int.reduceEq, sameV, used1, none1, zn, zu, zb, za, nzI, nzS, beq_self_eq_true, decide_true, Bool.true_and, Bool.and_true, Bool.not_or, Bool.not_not]
    all_goals (cases x.tag == [] <;> cases x.key == [] <;> cases x.name == [] <;> cases x.text == [] <;> cases nzA x.attrs <;> cases x.node == 0 <;> cases x.up == 0 <;> cases x.before == 0 <;> rfl)
  by_cases k2 : x.kind = 2
  · have q1 : (x.kind = 1) = False := by simp; omega
    simp only [usedOp, noneB, k2, if_true, if_false, Int.reduceEq, sameV, used2, none2, zn, zu, zb, za, nzI, nzS, beq_self_eq_true, decide_true, Bool.true_and, Bool.and_true, Bool.not_or, Bool.not_not]
    all_goals (cases x.tag == [] <;> cases x.key == [] <;> cases x.name == [] <;> cases x.text == [] <;> cases nzA x.attrs <;> cases x.node == 0 <;> cases x.up == 0 <;> cases x.before == 0 <;> rfl)
  by_cases k3 : x.kind = 3
  · have q1 : (x.kind = 1) = False := by simp; omega
    have q2 : (x.kind = 2) = False := by simp; omega
    simp only [usedOp, noneB, k3, if_true, if_false, Int.reduceEq, sameV, used3, none3, zn, zu, zb, za, nzI, nzS, beq_self_eq_true, decide_true, Bool.true_and, Bool.and_true, Bool.not_or, Bool.not_not]
    all_goals (cases x.tag == [] <;> cases x.key == [] <;> cases x.name == [] <;> cases x.text == [] <;> cases nzA x.attrs <;> cases x.node == 0 <;> cases x.up == 0 <;> cases x.before == 0 <;> rfl)
  by_cases k4 : x.kind = 4
  · have q1 : (x.kind = 1) = False := by simp; omega
    have q2 : (x.kind = 2) = False := by simp; omega
    have q3 : (x.kind = 3) = False := by simp; omega
    simp only [usedOp, noneB, k4, if_true, if_false, Int.reduceEq, sameV, used4, none4, zn, zu, zb, za, nzI, nzS, beq_self_eq_true, decide_true, Bool.true_and, Bool.and_true, Bool.not_or, Bool.not_not]
    all_goals (cases x.tag == [] <;> cases x.key == [] <;> cases x.name == [] <;> cases x.text == [] <;> cases nzA x.attrs <;> cases x.node == 0 <;> cases x.up == 0 <;> cases x.before == 0 <;> rfl)
  by_cases k5 : x.kind = 5
  · have q1 : (x.kind = 1) = False := by simp; omega
    have q2 : (x.kind = 2) = False := by simp; omega
    have q3 : (x.kind = 3) = False := by simp; omega
    have q4 : (x.kind = 4) = False := by simp; omega
    simp only [usedOp, noneB, k5, if_true, if_false, Int.reduceEq, sameV, used5, none5, zn, zu, zb, za, nzI, nzS, beq_self_eq_true, decide_true, Bool.true_and, Bool.and_true, Bool.not_or, Bool.not_not]
    all_goals (cases x.tag == [] <;> cases x.key == [] <;> cases x.name == [] <;> cases x.text == [] <;> cases nzA x.attrs <;> cases x.node == 0 <;> cases x.up == 0 <;> cases x.before == 0 <;> rfl)
  by_cases k6 : x.kind = 6
  · have q1 : (x.kind = 1) = False := by simp; omega
    have q2 : (x.kind = 2) = False := by simp; omega
    have q3 : (x.kind = 3) = False := by simp; omega
    have q4 : (x.kind = 4) = False := by simp; omega
    have q5 : (x.kind = 5) = False := by simp; omega
    simp only [usedOp, noneB, k6, if_true, if_false, Int.reduceEq, sameV, used6, none6, zn, zu, zb, za, nzI, nzS, beq_self_eq_true, decide_true, Bool.true_and, Bool.and_true, Bool.not_or, Bool.not_not]
    all_goals (cases x.tag == [] <;> cases x.key == [] <;> cases x.name == [] <;> cases x.text == [] <;> cases nzA x.attrs <;> cases x.node == 0 <;> cases x.up == 0 <;> cases x.before == 0 <;> rfl)
  by_cases k7 : x.kind = 7
  · have q1 : (x.kind = 1) = False := by simp; omega
    have q2 : (x.kind = 2) = False := by simp; omega
    have q3 : (x.kind = 3) = False := by simp; omega
    have q4 : (x.kind = 4) = False := by simp; omega
    have q5 : (x.kind = 5) = False := by simp; omega
    have q6 : (x.kind = 6) = False := by simp; omega
    simp only [usedOp, noneB, k7, if_true, if_false, Int.reduceEq, sameV, used7, none7, zn, zu, zb, za, nzI, nzS, beq_self_eq_true, decide_true, Bool.true_and, Bool.and_true, Bool.not_or, Bool.not_not]
    all_goals (cases x.tag == [] <;> cases x.key == [] <;> cases x.name == [] <;> cases x.text == [] <;> cases nzA x.attrs <;> cases x.node == 0 <;> cases x.up == 0 <;> cases x.before == 0 <;> rfl)
  omega
theorem fine_of {x : GOp} (h1 : ¬ x.kind < 1) (h7 : ¬ 7 < x.kind) (hn : hOk x.node = true) (hu : hOk x.up = true) (hb : hOk x.before = true) : OpFine x := by
  simp only [hOk, Bool.and_eq_true, decide_eq_true_eq] at hn hu hb
  exact ⟨⟨by omega, by omega⟩, hn, hu, hb⟩
end Go.TA.Tryd

end
section
/- What is wrong with an operation: the program. -/
set_option linter.unusedVariables false
set_option linter.unusedSimpArgs false
set_option maxRecDepth 100000
set_option maxHeartbeats 8000000
namespace Go.TA.Tryd
theorem opsP_run (x : GOp) (g : List AObj) {n : Nat} (hl : x.attrs.length < n) (hb : x.attrs.length ≤ 1048576) : acall T (n + 38) 34 [.p (.agg x.pv)] g = some (.p (.int .i64 (opErr x)), g) := by
  rw [acall_code T34, run_pure rfl rfl rfl]
  have ha := fun (k : Int) g => handle_run k g (n + 36)
  have tg := fun s g => tag_run s g (n + 1)
  have nm := fun s g => name_run s g (n + 1)
  have fi := fun s g => fits_run s g (n + 36)
  have at_ := fun g => ap_run x.attrs g (n := n) (by omega)
  by_cases k1 : x.kind < 1
  · have e : opErr x = 6 := by simp [opErr, tagBad, nameBad, k1]
    rw [e]
    simp (implicitDefEqProofs := false) (maxSteps := 1000000) (disch := omega) only [Ra, Rb, Rc, Rd, Re, Rf, Rg, guardK, evalOp, St.know, List.zipWith, mentions, AObj.mentions, bin, binI, noLocal, view, tupleOf, oneTup, Nat.reduceBEq, Nat.reduceAdd, Nat.reduceLeDiff, Nat.reduceLT, pures, AV.cells, AObj.rd, Nat.reduceEqDiff, F34, GOp.pv, attrsPV, k1]
  by_cases k7 : 7 < x.kind
  · have e : opErr x = 6 := by simp [opErr, tagBad, nameBad, k1, k7]
    rw [e]
    simp (implicitDefEqProofs := false) (maxSteps := 1000000) (disch := omega) only [Ra, Rb, Rc, Rd, Re, Rf, Rg, guardK, evalOp, St.know, List.zipWith, mentions, AObj.mentions, bin, binI, noLocal, view, tupleOf, oneTup, Nat.reduceBEq, Nat.reduceAdd, Nat.reduceLeDiff, Nat.reduceLT, pures, AV.cells, AObj.rd, Nat.reduceEqDiff, F34, GOp.pv, attrsPV, k1, k7]
  cases hnode : hOk x.node
  · have e : opErr x = 5 := by simp [opErr, tagBad, nameBad, k1, k7, hnode]
    rw [e]
    simp (implicitDefEqProofs := false) (maxSteps := 1000000) (disch := omega) only [Ra, Rb, Rc, Rd, Re, Rf, Rg, guardK, evalOp, St.know, List.zipWith, mentions, AObj.mentions, bin, binI, una, noLocal, view, viewT, tupleOf, oneTup, pureArg, allFlat, flat, Nat.reduceBEq, Nat.reduceAdd, Nat.reduceLeDiff, Nat.reduceLT, pures, AV.cells, AObj.rd, Nat.reduceEqDiff, F34, GOp.pv, attrsPV, ha, k1, k7, hnode]
  cases hup : hOk x.up
  · have e : opErr x = 5 := by simp [opErr, tagBad, nameBad, k1, k7, hnode, hup]
    rw [e]
    simp (implicitDefEqProofs := false) (maxSteps := 1000000) (disch := omega) only [Ra, Rb, Rc, Rd, Re, Rf, Rg, guardK, evalOp, St.know, List.zipWith, mentions, AObj.mentions, bin, binI, una, noLocal, view, viewT, tupleOf, oneTup, pureArg, allFlat, flat, Nat.reduceBEq, Nat.reduceAdd, Nat.reduceLeDiff, Nat.reduceLT, pures, AV.cells, AObj.rd, reduceCtorEq, Nat.reduceEqDiff, F34, GOp.pv, attrsPV, ha, k1, k7, hnode, hup]
  cases hbefore : hOk x.before
  · have e : opErr x = 5 := by simp [opErr, tagBad, nameBad, k1, k7, hnode, hup, hbefore]
    rw [e]
    simp (implicitDefEqProofs := false) (maxSteps := 1000000) (disch := omega) only [Ra, Rb, Rc, Rd, Re, Rf, Rg, guardK, evalOp, St.know, List.zipWith, mentions, AObj.mentions, bin, binI, una, noLocal, view, viewT, tupleOf, oneTup, pureArg, allFlat, flat, Nat.reduceBEq, Nat.reduceAdd, Nat.reduceLeDiff, Nat.reduceLT, pures, AV.cells, AObj.rd, reduceCtorEq, Nat.reduceEqDiff, F34, GOp.pv, attrsPV, ha, k1, k7, hnode, hup, hbefore]
  have us := fun g => used_run x (by omega) (by omega) g (n + 36)
  have hf := fine_of k1 k7 hnode hup hbefore
  have sa := fun g => opsame_run x (usedOp x) hf (used_fine (by omega) (by omega) hf) g (n := n + 34) (by omega) hb
  rw [same_used (by omega) (by omega) hf] at sa
  generalize usedOp x = u at us sa
  simp only [GOp.pv, attrsPV] at us sa
  cases hn : noneB x
  rotate_left
  · rw [hn] at sa
    have e : opErr x = 2 := by simp [opErr, tagBad, nameBad, k1, k7, hnode, hup, hbefore, hn]
    rw [e]
    simp (implicitDefEqProofs := false) (maxSteps := 1000000) (disch := omega) only [Ra, Rb, Rc, Rd, Re, Rf, Rg, guardK, evalOp, St.know, List.zipWith, mentions, AObj.mentions, bin, binI, una, noLocal, view, viewT, tupleOf, oneTup, pureArg, allFlat, flat, Nat.reduceBEq, Nat.reduceAdd, Nat.reduceLeDiff, Nat.reduceLT, pures, AV.cells, AObj.rd, reduceCtorEq, Nat.reduceEqDiff, F34, GOp.pv, attrsPV, ha, us, sa, k1, k7, hnode, hup, hbefore]
  rw [hn] at sa
  cases e1 : (x.kind == 1)
  rotate_left
  · have e1' : x.kind = 1 := by simpa using e1
    have e5 : (x.kind == 5) = false := by rw [e1']; rfl
    have e6 : (x.kind == 6) = false := by rw [e1']; rfl
    cases t1 : namedB false x.tag
    · have e : opErr x = 7 := by simp [opErr, tagBad, nameBad, k1, k7, hnode, hup, hbefore, hn, e1, e5, e6, t1]
      rw [e]
      simp (implicitDefEqProofs := false) (maxSteps := 1000000) (disch := omega) only [Ra, Rb, Rc, Rd, Re, Rf, Rg, guardK, evalOp, St.know, List.zipWith, mentions, AObj.mentions, bin, binI, avEq, una, noLocal, view, viewT, tupleOf, oneTup, pureArg, allFlat, flat, Nat.reduceBEq, Nat.reduceAdd, Nat.reduceLeDiff, Nat.reduceLT, pures, AV.cells, AObj.rd, reduceCtorEq, Nat.reduceEqDiff, F34, GOp.pv, attrsPV, ha, us, sa, tg, k1, k7, hnode, hup, hbefore, e1, t1]
    by_cases l1 : (x.key.length : Int) ≤ 65536
    rotate_left
    · have l1' : 65536 < (x.key.length : Int) := by omega
      have e : opErr x = 3 := by simp [opErr, tagBad, nameBad, k1, k7, hnode, hup, hbefore, hn, e1, e5, e6, t1, l1, l1']
      rw [e]
      simp (implicitDefEqProofs := false) (maxSteps := 1000000) (disch := omega) only [Ra, Rb, Rc, Rd, Re, Rf, Rg, guardK, evalOp, St.know, List.zipWith, mentions, AObj.mentions, bin, binI, avEq, una, noLocal, view, viewT, tupleOf, oneTup, pureArg, allFlat, flat, Nat.reduceBEq, Nat.reduceAdd, Nat.reduceLeDiff, Nat.reduceLT, pures, AV.cells, AObj.rd, reduceCtorEq, Nat.reduceEqDiff, F34, GOp.pv, attrsPV, ha, us, sa, tg, fi, k1, k7, hnode, hup, hbefore, e1, e5, e6, t1, l1]
    have l1' : ¬ 65536 < (x.key.length : Int) := by omega
    by_cases l2 : (x.text.length : Int) ≤ 65536
    rotate_left
    · have l2' : 65536 < (x.text.length : Int) := by omega
      have e : opErr x = 3 := by simp [opErr, tagBad, nameBad, k1, k7, hnode, hup, hbefore, hn, e1, e5, e6, t1, l1, l1', l2, l2']
      rw [e]
      simp (implicitDefEqProofs := false) (maxSteps := 1000000) (disch := omega) only [Ra, Rb, Rc, Rd, Re, Rf, Rg, guardK, evalOp, St.know, List.zipWith, mentions, AObj.mentions, bin, binI, avEq, una, noLocal, view, viewT, tupleOf, oneTup, pureArg, allFlat, flat, Nat.reduceBEq, Nat.reduceAdd, Nat.reduceLeDiff, Nat.reduceLT, pures, AV.cells, AObj.rd, reduceCtorEq, Nat.reduceEqDiff, F34, GOp.pv, attrsPV, ha, us, sa, tg, fi, k1, k7, hnode, hup, hbefore, e1, e5, e6, t1, l1, l2]
    have l2' : ¬ 65536 < (x.text.length : Int) := by omega
    have e : opErr x = attrsErr x.attrs := by simp [opErr, tagBad, nameBad, k1, k7, hnode, hup, hbefore, hn, e1, e5, e6, t1, l1, l1', l2, l2']
    rw [e]
    simp (implicitDefEqProofs := false) (maxSteps := 1000000) (disch := omega) only [Ra, Rb, Rc, Rd, Re, Rf, Rg, guardK, evalOp, St.know, List.zipWith, mentions, AObj.mentions, bin, binI, avEq, una, noLocal, view, viewT, tupleOf, oneTup, pureArg, allFlat, flat, Nat.reduceBEq, Nat.reduceAdd, Nat.reduceLeDiff, Nat.reduceLT, pures, AV.cells, AObj.rd, reduceCtorEq, Nat.reduceEqDiff, F34, GOp.pv, attrsPV, ha, us, sa, tg, fi, at_, k1, k7, hnode, hup, hbefore, e1, e5, e6, t1, l1, l2]
  cases e5 : (x.kind == 5)
  rotate_left
  · cases t2 : namedB true x.name
    · have e : opErr x = 8 := by simp [opErr, tagBad, nameBad, k1, k7, hnode, hup, hbefore, hn, e1, e5, t2]
      rw [e]
      simp (implicitDefEqProofs := false) (maxSteps := 1000000) (disch := omega) only [Ra, Rb, Rc, Rd, Re, Rf, Rg, guardK, evalOp, St.know, List.zipWith, mentions, AObj.mentions, bin, binI, avEq, una, noLocal, view, viewT, tupleOf, oneTup, pureArg, allFlat, flat, Nat.reduceBEq, Nat.reduceAdd, Nat.reduceLeDiff, Nat.reduceLT, pures, AV.cells, AObj.rd, reduceCtorEq, Nat.reduceEqDiff, F34, GOp.pv, attrsPV, ha, us, sa, nm, k1, k7, hnode, hup, hbefore, e1, e5, t2]
    by_cases l1 : (x.key.length : Int) ≤ 65536
    rotate_left
    · have l1' : 65536 < (x.key.length : Int) := by omega
      have e : opErr x = 3 := by simp [opErr, tagBad, nameBad, k1, k7, hnode, hup, hbefore, hn, e1, e5, t2, l1, l1']
      rw [e]
      simp (implicitDefEqProofs := false) (maxSteps := 1000000) (disch := omega) only [Ra, Rb, Rc, Rd, Re, Rf, Rg, guardK, evalOp, St.know, List.zipWith, mentions, AObj.mentions, bin, binI, avEq, una, noLocal, view, viewT, tupleOf, oneTup, pureArg, allFlat, flat, Nat.reduceBEq, Nat.reduceAdd, Nat.reduceLeDiff, Nat.reduceLT, pures, AV.cells, AObj.rd, reduceCtorEq, Nat.reduceEqDiff, F34, GOp.pv, attrsPV, ha, us, sa, nm, fi, k1, k7, hnode, hup, hbefore, e1, e5, t2, l1]
    have l1' : ¬ 65536 < (x.key.length : Int) := by omega
    by_cases l2 : (x.text.length : Int) ≤ 65536
    rotate_left
    · have l2' : 65536 < (x.text.length : Int) := by omega
      have e : opErr x = 3 := by simp [opErr, tagBad, nameBad, k1, k7, hnode, hup, hbefore, hn, e1, e5, t2, l1, l1', l2, l2']
      rw [e]
      simp (implicitDefEqProofs := false) (maxSteps := 1000000) (disch := omega) only [Ra, Rb, Rc, Rd, Re, Rf, Rg, guardK, evalOp, St.know, List.zipWith, mentions, AObj.mentions, bin, binI, avEq, una, noLocal, view, viewT, tupleOf, oneTup, pureArg, allFlat, flat, Nat.reduceBEq, Nat.reduceAdd, Nat.reduceLeDiff, Nat.reduceLT, pures, AV.cells, AObj.rd, reduceCtorEq, Nat.reduceEqDiff, F34, GOp.pv, attrsPV, ha, us, sa, nm, fi, k1, k7, hnode, hup, hbefore, e1, e5, t2, l1, l2]
    have l2' : ¬ 65536 < (x.text.length : Int) := by omega
    have e : opErr x = attrsErr x.attrs := by simp [opErr, tagBad, nameBad, k1, k7, hnode, hup, hbefore, hn, e1, e5, t2, l1, l1', l2, l2']
    rw [e]
    simp (implicitDefEqProofs := false) (maxSteps := 1000000) (disch := omega) only [Ra, Rb, Rc, Rd, Re, Rf, Rg, guardK, evalOp, St.know, List.zipWith, mentions, AObj.mentions, bin, binI, avEq, una, noLocal, view, viewT, tupleOf, oneTup, pureArg, allFlat, flat, Nat.reduceBEq, Nat.reduceAdd, Nat.reduceLeDiff, Nat.reduceLT, pures, AV.cells, AObj.rd, reduceCtorEq, Nat.reduceEqDiff, F34, GOp.pv, attrsPV, ha, us, sa, nm, fi, at_, k1, k7, hnode, hup, hbefore, e1, e5, t2, l1, l2]
  cases e6 : (x.kind == 6)
  rotate_left
  · cases t2 : namedB true x.name
    · have e : opErr x = 8 := by simp [opErr, tagBad, nameBad, k1, k7, hnode, hup, hbefore, hn, e1, e5, e6, t2]
      rw [e]
      simp (implicitDefEqProofs := false) (maxSteps := 1000000) (disch := omega) only [Ra, Rb, Rc, Rd, Re, Rf, Rg, guardK, evalOp, St.know, List.zipWith, mentions, AObj.mentions, bin, binI, avEq, una, noLocal, view, viewT, tupleOf, oneTup, pureArg, allFlat, flat, Nat.reduceBEq, Nat.reduceAdd, Nat.reduceLeDiff, Nat.reduceLT, pures, AV.cells, AObj.rd, reduceCtorEq, Nat.reduceEqDiff, F34, GOp.pv, attrsPV, ha, us, sa, nm, k1, k7, hnode, hup, hbefore, e1, e5, e6, t2]
    by_cases l1 : (x.key.length : Int) ≤ 65536
    rotate_left
    · have l1' : 65536 < (x.key.length : Int) := by omega
      have e : opErr x = 3 := by simp [opErr, tagBad, nameBad, k1, k7, hnode, hup, hbefore, hn, e1, e5, e6, t2, l1, l1']
      rw [e]
      simp (implicitDefEqProofs := false) (maxSteps := 1000000) (disch := omega) only [Ra, Rb, Rc, Rd, Re, Rf, Rg, guardK, evalOp, St.know, List.zipWith, mentions, AObj.mentions, bin, binI, avEq, una, noLocal, view, viewT, tupleOf, oneTup, pureArg, allFlat, flat, Nat.reduceBEq, Nat.reduceAdd, Nat.reduceLeDiff, Nat.reduceLT, pures, AV.cells, AObj.rd, reduceCtorEq, Nat.reduceEqDiff, F34, GOp.pv, attrsPV, ha, us, sa, nm, fi, k1, k7, hnode, hup, hbefore, e1, e5, e6, t2, l1]
    have l1' : ¬ 65536 < (x.key.length : Int) := by omega
    by_cases l2 : (x.text.length : Int) ≤ 65536
    rotate_left
    · have l2' : 65536 < (x.text.length : Int) := by omega
      have e : opErr x = 3 := by simp [opErr, tagBad, nameBad, k1, k7, hnode, hup, hbefore, hn, e1, e5, e6, t2, l1, l1', l2, l2']
      rw [e]
      simp (implicitDefEqProofs := false) (maxSteps := 1000000) (disch := omega) only [Ra, Rb, Rc, Rd, Re, Rf, Rg, guardK, evalOp, St.know, List.zipWith, mentions, AObj.mentions, bin, binI, avEq, una, noLocal, view, viewT, tupleOf, oneTup, pureArg, allFlat, flat, Nat.reduceBEq, Nat.reduceAdd, Nat.reduceLeDiff, Nat.reduceLT, pures, AV.cells, AObj.rd, reduceCtorEq, Nat.reduceEqDiff, F34, GOp.pv, attrsPV, ha, us, sa, nm, fi, k1, k7, hnode, hup, hbefore, e1, e5, e6, t2, l1, l2]
    have l2' : ¬ 65536 < (x.text.length : Int) := by omega
    have e : opErr x = attrsErr x.attrs := by simp [opErr, tagBad, nameBad, k1, k7, hnode, hup, hbefore, hn, e1, e5, e6, t2, l1, l1', l2, l2']
    rw [e]
    simp (implicitDefEqProofs := false) (maxSteps := 1000000) (disch := omega) only [Ra, Rb, Rc, Rd, Re, Rf, Rg, guardK, evalOp, St.know, List.zipWith, mentions, AObj.mentions, bin, binI, avEq, una, noLocal, view, viewT, tupleOf, oneTup, pureArg, allFlat, flat, Nat.reduceBEq, Nat.reduceAdd, Nat.reduceLeDiff, Nat.reduceLT, pures, AV.cells, AObj.rd, reduceCtorEq, Nat.reduceEqDiff, F34, GOp.pv, attrsPV, ha, us, sa, nm, fi, at_, k1, k7, hnode, hup, hbefore, e1, e5, e6, t2, l1, l2]
  by_cases l1 : (x.key.length : Int) ≤ 65536
  rotate_left
  · have l1' : 65536 < (x.key.length : Int) := by omega
    have e : opErr x = 3 := by simp [opErr, tagBad, nameBad, k1, k7, hnode, hup, hbefore, hn, e1, e5, e6, l1, l1']
    rw [e]
    simp (implicitDefEqProofs := false) (maxSteps := 1000000) (disch := omega) only [Ra, Rb, Rc, Rd, Re, Rf, Rg, guardK, evalOp, St.know, List.zipWith, mentions, AObj.mentions, bin, binI, avEq, una, noLocal, view, viewT, tupleOf, oneTup, pureArg, allFlat, flat, Nat.reduceBEq, Nat.reduceAdd, Nat.reduceLeDiff, Nat.reduceLT, pures, AV.cells, AObj.rd, reduceCtorEq, Nat.reduceEqDiff, F34, GOp.pv, attrsPV, ha, us, sa, fi, k1, k7, hnode, hup, hbefore, e1, e5, e6, l1]
  have l1' : ¬ 65536 < (x.key.length : Int) := by omega
  by_cases l2 : (x.text.length : Int) ≤ 65536
  rotate_left
  · have l2' : 65536 < (x.text.length : Int) := by omega
    have e : opErr x = 3 := by simp [opErr, tagBad, nameBad, k1, k7, hnode, hup, hbefore, hn, e1, e5, e6, l1, l1', l2, l2']
    rw [e]
    simp (implicitDefEqProofs := false) (maxSteps := 1000000) (disch := omega) only [Ra, Rb, Rc, Rd, Re, Rf, Rg, guardK, evalOp, St.know, List.zipWith, mentions, AObj.mentions, bin, binI, avEq, una, noLocal, view, viewT, tupleOf, oneTup, pureArg, allFlat, flat, Nat.reduceBEq, Nat.reduceAdd, Nat.reduceLeDiff, Nat.reduceLT, pures, AV.cells, AObj.rd, reduceCtorEq, Nat.reduceEqDiff, F34, GOp.pv, attrsPV, ha, us, sa, fi, k1, k7, hnode, hup, hbefore, e1, e5, e6, l1, l2]
  have l2' : ¬ 65536 < (x.text.length : Int) := by omega
  have e : opErr x = attrsErr x.attrs := by simp [opErr, tagBad, nameBad, k1, k7, hnode, hup, hbefore, hn, e1, e5, e6, l1, l1', l2, l2']
  rw [e]
  simp (implicitDefEqProofs := false) (maxSteps := 1000000) (disch := omega) only [Ra, Rb, Rc, Rd, Re, Rf, Rg, guardK, evalOp, St.know, List.zipWith, mentions, AObj.mentions, bin, binI, avEq, una, noLocal, view, viewT, tupleOf, oneTup, pureArg, allFlat, flat, Nat.reduceBEq, Nat.reduceAdd, Nat.reduceLeDiff, Nat.reduceLT, pures, AV.cells, AObj.rd, reduceCtorEq, Nat.reduceEqDiff, F34, GOp.pv, attrsPV, ha, us, sa, fi, at_, k1, k7, hnode, hup, hbefore, e1, e5, e6, l1, l2]
end Go.TA.Tryd

end
section
/- What is wrong with an operation: the program. -/
set_option linter.unusedVariables false
set_option linter.unusedSimpArgs false
set_option maxRecDepth 100000
set_option maxHeartbeats 8000000
namespace Go.TA.Tryd
/-- An operation that may not be, behind any others. -/
theorem first_bad (L : List GOp) (b : GOp) (hb : opErr b ≠ 0) (hL : ∀ x ∈ L ++ [b], x.attrs.length ≤ 1048576) (hlen : L.length ≤ 1048575) (g : List AObj) {n : Nat} (hn : 1048577 < n) :
    ∃ i e, e ≠ 0 ∧ acall T (n + 39) 25 [.p (.list ((L ++ [b]).map GOp.pv))] g = some (.tuple [.p (.int .i64 i), .p (.int .i64 e)], g) := by
  have hll : (L ++ [b]).length = L.length + 1 := by simp
  generalize hM : L ++ [b] = M at hL hll ⊢
  have hlast : ∀ x, M[L.length]? = some x → opErr x ≠ 0 := by
    intro x hx
    rw [← hM, List.getElem?_append_right (Nat.le_refl _), Nat.sub_self] at hx
    simp only [List.getElem?_cons_zero, Option.some.injEq] at hx
    rw [← hx]; exact hb
  have key := loop_inv (C := acall T (n + 38)) (N := n + 38) (B := B25x0) (σ := Nat) (S := fun i => ⟨[(7, .p (.list (M.map GOp.pv))), (8, .p (.int .i64 M.length)), (9, .p (.int .i64 i))], [], []⟩)
    (I := fun i => i ≤ L.length) (μ := fun i => M.length - i) (Q := fun r => ∃ i e : Int, e ≠ 0 ∧ r = (.ret, ⟨[(2, .p (.int .i64 i)), (3, .p (.int .i64 e))], [], []⟩)) ?_ 0 (by omega) (by omega)
  · obtain ⟨r, hr, i, e, he, rfl⟩ := key
    refine ⟨i, e, he, ?_⟩
    rw [acall_code T25, run_pure rfl rfl rfl]
    simp only [Int.natCast_zero] at hr
    simp (implicitDefEqProofs := false) (maxSteps := 1000000) (disch := omega) only [Ra, Rb, Rc, Rd, Re, Rf, Rg, evalOp, List.zipWith, mentions, AObj.mentions, noLocal, view, tupleOf, oneTup, Nat.reduceBEq, Nat.reduceAdd, F25, hr]
  intro i hi
  obtain ⟨x, hx⟩ := get_some (show i < M.length by omega)
  have hg := getD_map (f := GOp.pv) hx
  have hxl := hL x (List.mem_of_getElem? hx)
  have k1 : (i : Int) < (M.length : Int) := by omega
  have k2 : ((i : Int) == 1048576) = false := by simp; omega
  have hc := fun g => opsP_run x g (n := n) (by omega) hxl
  simp only [GOp.pv, attrsPV] at hc
  by_cases he : opErr x = 0
  · left
    have hne : i ≠ L.length := fun e => by subst e; exact hlast x hx he
    refine ⟨i + 1, ?_, by omega, by omega⟩
    rw [he] at hc
    simp (implicitDefEqProofs := false) (maxSteps := 1000000) (disch := omega) only [Ra, Rb, Rc, Rd, Re, Rf, Rg, evalOp, St.know, mentions, AObj.mentions, bin, binI, avEq, view, viewT, pureArg, allFlat, flat, Nat.reduceBEq, Nat.reduceAdd, Nat.reduceLT, asInt, pures, AV.cells, AObj.rd, AObj.wr, B25x0, k1, k2, hg, GOp.pv, attrsPV, hc]
  · right
    have he' : (opErr x == 0) = false := by simpa using he
    refine ⟨_, ?_, ?_, i, opErr x, he, rfl⟩
    · simp (implicitDefEqProofs := false) (maxSteps := 1000000) (disch := omega) only [Ra, Rb, Rc, Rd, Re, Rf, Rg, evalOp, St.know, mentions, AObj.mentions, bin, binI, avEq, view, viewT, pureArg, allFlat, flat, Nat.reduceBEq, Nat.reduceAdd, Nat.reduceLT, asInt, pures, AV.cells, AObj.rd, AObj.wr, B25x0, k1, k2, hg, GOp.pv, attrsPV, hc, he']
    · simp
theorem first_nil (g : List AObj) (n : Nat) : acall T (n + 2) 25 [.p (.list [])] g = some (.tuple [.p (.int .i64 0), .p (.int .i64 0)], g) := by
  rw [acall_code T25, run_pure rfl rfl rfl]
  have hl : aexec (acall T (n + 1)) (n + 1) (.loop B25x0) ⟨[(7, .p (.list [])), (8, .p (.int .i64 0)), (9, .p (.int .i64 0))], [], []⟩ = some (.exit 0, ⟨[], [], []⟩) := by
    rw [aexec_loop, aloop_succ]
    simp (implicitDefEqProofs := false) (maxSteps := 1000000) (disch := omega) only [Ra, Rb, Rc, Rd, Re, Rf, Rg, evalOp, St.know, mentions, AObj.mentions, bin, binI, Nat.reduceBEq, Int.reduceLT, B25x0]
  simp (implicitDefEqProofs := false) (maxSteps := 1000000) (disch := omega) only [Ra, Rb, Rc, Rd, Re, Rf, Rg, evalOp, List.zipWith, mentions, AObj.mentions, noLocal, view, tupleOf, oneTup, Nat.reduceBEq, Nat.reduceAdd, F25, hl, Int.natCast_zero]
end Go.TA.Tryd

end
section
/- What the empty script comes to. -/
set_option linter.unusedVariables false
set_option linter.unusedSimpArgs false
set_option maxRecDepth 100000
set_option maxHeartbeats 8000000
namespace Go.TA.Tryd
theorem count_nil (g : List AObj) (n : Nat) : acall T (n + 2) 41 [.p (.list [])] g = some (.p (.agg [.int .i64 0, .int .i64 0, .int .i64 0, .int .i64 0, .int .i64 0, .int .i64 0, .int .i64 0]), g) := by
  rw [acall_code T41, run_pure rfl rfl rfl]
  have hl : aexec (acall T (n + 1)) (n + 1) (.loop B41x0) ⟨[(2, .ptr false 2 7 1 0 0), (3, .ptr false 3 8 1 0 0), (6, .p (.list [])), (7, .p (.int .i64 0)), (8, .p (.int .i64 0))], [(2, .pcells 7 [[.int .i64 0, .int .i64 0, .int .i64 0, .int .i64 0, .int .i64 0, .int .i64 0, .int .i64 0]]), (3, .pcells 8 [[.int .i64 0, .int .i64 0, .int .i64 0, .int .i64 0, .int .i64 0, .int .i64 0, .int .i64 0, .int .i64 0]])], []⟩ = some (.exit 0, ⟨[(2, .ptr false 2 7 1 0 0), (3, .ptr false 3 8 1 0 0)], [(2, .pcells 7 [[.int .i64 0, .int .i64 0, .int .i64 0, .int .i64 0, .int .i64 0, .int .i64 0, .int .i64 0]]), (3, .pcells 8 [[.int .i64 0, .int .i64 0, .int .i64 0, .int .i64 0, .int .i64 0, .int .i64 0, .int .i64 0, .int .i64 0]])], []⟩) := by
    rw [aexec_loop, aloop_succ]
    simp (implicitDefEqProofs := false) (maxSteps := 1000000) (disch := omega) only [Ra, Rb, Rc, Rd, Re, Rf, Rg, evalOp, St.know, mentions, AObj.mentions, bin, binI, Nat.reduceBEq, Int.reduceLT, B41x0]
  simp (implicitDefEqProofs := false) (maxSteps := 1000000) (disch := omega) only [Ra, Rb, Rc, Rd, Re, Rf, Rg, evalOp, List.zipWith, mentions, AObj.mentions, noLocal, view, tupleOf, oneTup, Nat.reduceBEq, Nat.reduceAdd, Nat.reduceLeDiff, Nat.reduceLT, asInt, pures, AV.cells, AObj.rd, AObj.wr, reduceCtorEq, Nat.reduceMul, Int.reduceToNat, Int.reduceLE, Nat.reduceEqDiff, F41, hl, Int.natCast_zero]
theorem mrun_nil (N : Nat) (st : Nat → MNode) (av : Nat → AV) (rest : List AObj) (n : Nat) : acall T (n + 2) 10 [.ptr true 1 1 1 0 0, .p (.list [])] (machG (N + 1) st av rest) = some (.tuple [.p (.int .i64 0), .p (.int .i64 0)], machG (N + 1) st av rest) := by
  rw [acall_code T10, run_code rfl rfl]
  have len1 : (rowsAV (N + 1) st av).length = N + 1 := rowsAV_len
  have k0 : ((N : Int) + 1 == 0) = false := by simp; omega
  have hl : aexec (acall T (n + 1)) (n + 1) (.loop B10x0) ⟨[(0, .ptr true 1 1 1 0 0), (1, .p (.list [])), (19, .p (.list [])), (20, .p (.int .i64 0)), (21, .p (.int .i64 0))], [], machG (N + 1) st av rest⟩ = some (.exit 0, ⟨[(1, .p (.list []))], [], machG (N + 1) st av rest⟩) := by
    rw [aexec_loop, aloop_succ]
    simp (implicitDefEqProofs := false) (maxSteps := 1000000) (disch := omega) only [Ra, Rb, Rc, Rd, Re, Rf, Rg, evalOp, St.know, mentions, AObj.mentions, bin, binI, Nat.reduceBEq, Int.reduceLT, B10x0]
  simp only [machG] at hl ⊢
  simp (implicitDefEqProofs := false) (maxSteps := 1000000) (disch := omega) only [Ra, Rb, Rc, Rd, Re, Rf, Rg, guardK, evalOp, St.know, List.zipWith, mentions, AObj.mentions, avEq, ptrEq, noLocal, view, tupleOf, oneTup, Nat.reduceBEq, Nat.reduceAdd, Nat.reduceLT, pures, AObj.rd, F10, k0, hl, Int.natCast_zero, List.getElem?_cons_zero, List.getElem?_cons_succ]
def rootsN (i : Nat) : Int := if i = 0 then 0 else 1
theorem end_run (l : List GRow) {m : Nat} (hsm : Rows.small m l) (hm : m ≤ 1048577) (hc : check13 l = 0) (av : Nat → AV) (rest : List AObj) (hM : MOk (l.length + 1) av (kd0 l l.length) rest) (hp : ∀ k, k < l.length + 1 → ∀ ks, av k ≠ .p ks) {n : Nat} (hn : 1048577 < n) :
    ∃ rest', acall T (n + l.length + l.length + 45) 26 [.ptr true 1 1 1 0 0, .p (.list []), .p (.int .i64 0)] (machG (l.length + 1) (st0 l) av rest) = some (.tuple [.own true (rest.length + 1 + 1) l.length, .p (.int .i64 0)], machG (l.length + 1) (st0 l) av rest') ∧ rest'[rest.length]? = some (.pcells 6 (outPV l l.length)) := by
  have hlen := hsm.len
  have hs : sound l := formed_sound (check13_ok hc).1
  have hal : ∀ x ∈ l, x.attrs.length ≤ 1048577 := fun x hx => by have := (hsm.row x hx).attrs; omega
  have hrows := prows_run l (by omega) hal hs av rest hM hp (n + 40)
  rw [show n + 40 + l.length + l.length + 4 = n + l.length + l.length + 44 by omega] at hrows
  have hM' : MOk (l.length + 1) av (kd0 l l.length) (rest ++ [.pcells 6 (outPV l l.length)]) := ⟨fun h hh => (hM.kids h hh).more _, hM.disj⟩
  have hloose := ploose_run l (by omega) hal hs av (rest ++ [.pcells 6 (outPV l l.length)]) hM' hp (n + l.length + l.length + 43) (by omega)
  have hflat := flatCheck_ok (named l 0) (named_small hsm) hm (by rw [check13_named]; exact hc) (n := n + l.length + 1) (by omega) []
  rw [named_len, ← outPV_all, show n + l.length + 1 + l.length + 43 = n + l.length + l.length + 44 by omega] at hflat
  have hcount := count_nil [] (n + l.length + l.length + 42)
  have ol := outPV_len (l := l) (j := l.length) (Nat.le_refl _)
  have q1 : (rest ++ [AObj.pcells 6 (outPV l l.length)])[rest.length]? = some (.pcells 6 (outPV l l.length)) := by simp
  have q2 : (rest ++ [AObj.pcells 6 (outPV l l.length)] ++ [.pcells 1 []])[rest.length]? = some (.pcells 6 (outPV l l.length)) := by simp
  have hloop := loop_rule' (C := acall T (n + l.length + l.length + 44)) (N := n + l.length + l.length + 44) (B := B26x0) (σ := Nat) (S := fun i => ⟨[(0, .ptr true 1 1 1 0 0), (1, .p (.list [])), (2, .p (.int .i64 0)), (8, .own true (rest.length + 1 + 1) l.length), (9, .p (.int .i64 (rootsN i))), (15, .own true (rest.length + 1 + 1) l.length), (16, .p (.int .i64 l.length)), (17, .p (.int .i64 i))], [], machG (l.length + 1) (st0 l) av (rest ++ [.pcells 6 (outPV l l.length)])⟩) (I := fun i => i ≤ l.length) (μ := fun i => l.length - i)
    (Φ := fun i => (.exit 0, ⟨[(0, .ptr true 1 1 1 0 0), (1, .p (.list [])), (2, .p (.int .i64 0)), (8, .own true (rest.length + 1 + 1) l.length), (9, .p (.int .i64 (rootsN l.length)))], [], machG (l.length + 1) (st0 l) av (rest ++ [.pcells 6 (outPV l l.length)])⟩)) ?_ 0 (by omega) (by omega)
  · refine ⟨rest ++ [.pcells 6 (outPV l l.length)] ++ [.pcells 1 []], ?_, q2⟩
    rw [acall_code T26, run_code rfl rfl]
    have hr0 : ¬ (1 : Int) < rootsN l.length := by unfold rootsN; split <;> omega
    have r0 : rootsN 0 = 0 := rfl
    simp only [machG, Int.natCast_zero, r0] at hloop hrows hloose ⊢
    simp (implicitDefEqProofs := false) (maxSteps := 1000000) (disch := omega) only [Ra, Rb, Rc, Rd, Re, Rf, Rg, evalOp, St.know, List.zipWith, mentions, AObj.mentions, bin, binI, avEq, noLocal, view, viewT, tupleOf, oneTup, pureArg, allFlat, flat, Nat.reduceBEq, Nat.reduceAdd, Nat.reduceLeDiff, Int.reduceLT, Int.reduceLE, Nat.reduceEqDiff, F26, hrows, hloop, hloose, hflat, hcount, ol, q2, hr0, List.getElem?_cons_succ, List.length_append, Int.natCast_zero]
  intro i hi
  by_cases h : i < l.length
  · left
    obtain ⟨x, hx⟩ := get_some h
    have k1 : (i : Int) < (l.length : Int) := by omega
    have hg : (outPV l l.length).getD i [] = GRow.pv { x with id := (i : Int) + 1 } := by
      rw [outPV_all]
      exact getD_map (f := GRow.pv) (by rw [named_get, hx]; simp)
    refine ⟨i + 1, ?_, by omega, by omega, rfl⟩
    have hst := hs.2 i x hx
    by_cases h0 : i = 0
    · subst h0
      have hu : (x.up == 0) = true := by
        rcases hst with ⟨_, h2⟩ | ⟨h2, _⟩
        · simp [h2]
        · omega
      have r0 : rootsN 0 = 0 := rfl
      have r1 : rootsN (0 + 1) = 1 := rfl
      have e0 : Int.toNat 0 = 0 := rfl
      simp only [machG, r0, r1, Int.natCast_zero, Nat.zero_add, Int.natCast_one] at k1 ⊢
      simp (implicitDefEqProofs := false) (maxSteps := 1000000) (disch := omega) only [Ra, Rb, Rc, Rd, Re, Rf, Rg, evalOp, St.know, mentions, AObj.mentions, bin, binI, avEq, Nat.reduceBEq, Nat.reduceAdd, Nat.reduceLeDiff, Nat.reduceLT, asInt, pures, AV.cells, AObj.rd, AObj.wr, Int.reduceLE, Int.reduceAdd, Nat.reduceEqDiff, B26x0, k1, ol, q1, hg, GRow.pv, attrsPV, hu, e0, List.getElem?_cons_succ]
    · have hu : (x.up == 0) = false := by
        rcases hst with ⟨h2, _⟩ | ⟨_, y, hy, hyu⟩
        · omega
        · have := chain_pos hy
          simp; omega
      have r0 : rootsN i = 1 := by simp [rootsN, h0]
      have r1 : rootsN (i + 1) = 1 := by simp [rootsN]
      simp only [machG, r0, r1] at k1 ⊢
      simp (implicitDefEqProofs := false) (maxSteps := 1000000) (disch := omega) only [Ra, Rb, Rc, Rd, Re, Rf, Rg, evalOp, St.know, mentions, AObj.mentions, bin, binI, avEq, Nat.reduceBEq, Nat.reduceAdd, Nat.reduceLeDiff, Nat.reduceLT, asInt, pures, AV.cells, AObj.rd, AObj.wr, Int.reduceAdd, Nat.reduceEqDiff, B26x0, k1, ol, q1, hg, GRow.pv, attrsPV, hu, List.getElem?_cons_succ]
  · right
    obtain rfl : i = l.length := by omega
    have k1 : ¬ (l.length : Int) < (l.length : Int) := by omega
    refine ⟨?_, by simp⟩
    simp (implicitDefEqProofs := false) (maxSteps := 1000000) (disch := omega) only [Ra, Rb, Rc, Rd, Re, Rf, Rg, evalOp, St.know, mentions, AObj.mentions, bin, binI, Nat.reduceBEq, B26x0, k1]
theorem valid_nil (l : List GRow) {m : Nat} (hsm : Rows.small m l) (hm : m ≤ 1048577) (hc : check13 l = 0) {n : Nat} (hn : 1048577 < n) (g : List AObj) :
    acall T (n + l.length + l.length + 46) 14 [.p (.list (l.map GRow.pv)), .p (.list []), .p (.int .i64 0)] g = some (.tuple [.p (.list (outPV l l.length)), .p (.int .i64 0), .p (.int .i64 0)], g) := by
  have hlen := hsm.len
  obtain ⟨av, rest, hnew, hM, hp⟩ := new_run l hsm hm hc (n := n + l.length + 1) (by omega)
  rw [show n + l.length + 1 + l.length + 44 = n + l.length + l.length + 45 by omega] at hnew
  have hf := first_nil [] (n + l.length + l.length + 43)
  have hr := mrun_nil l.length (st0 l) av rest (n + l.length + l.length + 43)
  obtain ⟨rest', he, hq⟩ := end_run l hsm hm hc av rest hM hp hn
  have ol := outPV_len (l := l) (j := l.length) (Nat.le_refl _)
  rw [acall_code T14, run_pure rfl rfl rfl]
  simp only [machG] at hnew hr he
  simp (implicitDefEqProofs := false) (maxSteps := 1000000) (disch := omega) only [Ra, Rb, Rc, Rd, Re, Rf, Rg, evalOp, St.know, List.zipWith, mentions, AObj.mentions, avEq, noLocal, view, viewT, tupleOf, oneTup, pureArg, allFlat, flat, Nat.reduceBEq, Nat.reduceAdd, Nat.reduceLT, F14, hnew, hf, hr, he, hq, ol, List.getElem?_cons_succ]
theorem valid_bad (l : List GRow) {m : Nat} (hsm : Rows.small m l) (hm : m ≤ 1048577) (hc : check13 l = 0) (L : List GOp) (b : GOp) (hb : opErr b ≠ 0) (hL : ∀ x ∈ L ++ [b], x.attrs.length ≤ 1048576) (hLl : L.length ≤ 1048575) (k : Int) {n : Nat} (hn : 1048577 < n) (g : List AObj) :
    ∃ i e, e ≠ 0 ∧ acall T (n + l.length + 46) 14 [.p (.list (l.map GRow.pv)), .p (.list ((L ++ [b]).map GOp.pv)), .p (.int .i64 k)] g = some (.tuple [.p (.list []), .p (.int .i64 i), .p (.int .i64 e)], g) := by
  have hlen := hsm.len
  obtain ⟨av, rest, hnew, hM, hp⟩ := new_run l hsm hm hc (n := n + 1) (by omega)
  rw [show n + 1 + l.length + 44 = n + l.length + 45 by omega] at hnew
  obtain ⟨i, e, he, hf⟩ := first_bad L b hb hL hLl [] (n := n + l.length + 6) (by omega)
  refine ⟨i, e, he, ?_⟩
  have he' : (e == 0) = false := by simpa using he
  rw [acall_code T14, run_pure rfl rfl rfl]
  simp only [machG] at hnew
  simp (implicitDefEqProofs := false) (maxSteps := 1000000) (disch := omega) only [Ra, Rb, Rc, Rd, Re, Rf, Rg, evalOp, St.know, List.zipWith, mentions, AObj.mentions, avEq, noLocal, view, viewT, tupleOf, oneTup, pureArg, allFlat, flat, Nat.reduceBEq, Nat.reduceAdd, Nat.reduceLT, F14, hnew, hf, he']
end Go.TA.Tryd

end
