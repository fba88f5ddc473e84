/- Part 14 of 15 of a proof; joined from ValidMKeep, ValidCheck13, ValidVisit, ValidFlatA, ValidFlat, ValidPNew, ValidFew. The guard of most laws: whether operations are few. -/
import Derived.Test.YtnjblmbobmbgkaaDoorKe13
import Derived.Test.YtnjblmbobmbgkaaDoorKe1
import Derived.Test.YtnjblmbobmbgkaaDoorKe11
import Derived.Test.YtnjblmbobmbgkaaDoorKe12
import Derived.Test.YtnjblmbobmbgkaaDoorKe6
section
set_option linter.unusedSimpArgs false
set_option linter.unusedVariables false
/- What stays as it was, whatever a script does; what a machine's rows tell. Plain. -/
set_option linter.unusedVariables false
set_option linter.unusedSimpArgs false
namespace Go.TA.Tryd
def Stays (S S' : MS) : Prop := S.N ≤ S'.N ∧ ∀ y : Nat, y < S.N → (S'.st y).live = true → (S.st y).live = true ∧ (S'.st y).tag = (S.st y).tag ∧ (S'.st y).key = (S.st y).key ∧ (0 ≤ (S.st y).up → (S'.st y).up = (S.st y).up)
theorem Stays.refl (S : MS) : Stays S S := ⟨Nat.le_refl _, fun y _ h => ⟨h, rfl, rfl, fun _ => rfl⟩⟩
theorem Stays.trans {S S' S'' : MS} (h1 : Stays S S') (h2 : Stays S' S'') : Stays S S'' := by
  refine ⟨Nat.le_trans h1.1 h2.1, fun y hy hl => ?_⟩
  obtain ⟨a1, a2, a3, a4⟩ := h2.2 y (Nat.lt_of_lt_of_le hy h1.1) hl
  obtain ⟨b1, b2, b3, b4⟩ := h1.2 y hy a1
  refine ⟨b1, by rw [a2, b2], by rw [a3, b3], fun h => ?_⟩
  have := b4 h
  rw [a4 (by omega), this]
theorem stays_upd {S : MS} {kd : Nat → List Int} {h : Nat} {s : MNode} (h1 : s.live = (S.st h).live) (h2 : s.tag = (S.st h).tag) (h3 : s.key = (S.st h).key) (h4 : 0 ≤ (S.st h).up → s.up = (S.st h).up) : Stays S ⟨S.N, upd S.st h s, kd⟩ := by
  refine ⟨Nat.le_refl _, fun y hy hl => ?_⟩
  simp only at hl ⊢
  by_cases e : y = h
  · subst e
    rw [upd_at] at hl ⊢
    exact ⟨by rw [← h1]; exact hl, h2, h3, h4⟩
  · rw [upd_ne e] at hl ⊢
    exact ⟨hl, rfl, rfl, fun _ => rfl⟩
theorem takeM_other (S : MS) {h y : Nat} (e : y ≠ h) : (takeM S h).st y = S.st y := by
  unfold takeM
  split
  · rfl
  · simp only; rw [upd_ne e]
theorem takeM_same (S : MS) (h : Nat) : ((takeM S h).st h).tag = (S.st h).tag ∧ ((takeM S h).st h).key = (S.st h).key := by
  unfold takeM
  split
  · exact ⟨rfl, rfl⟩
  · simp only; rw [upd_at]; exact ⟨rfl, rfl⟩
theorem changeM_stays (S : MS) (h : Nat) (x : GOp) : Stays S (changeM S h x).2 := by
  unfold changeM setM textM
  split
  · split
    · exact .refl S
    · exact stays_upd rfl rfl rfl (fun _ => rfl)
  split
  · split
    · exact stays_upd rfl rfl rfl (fun _ => rfl)
    · exact .refl S
  split
  · exact stays_upd rfl rfl rfl (fun _ => rfl)
  · exact .refl S
theorem doM_stays {R : Nat} {S : MS} (hS : S.Ok R) (x : GOp) : Stays S (doM S x).2 := by
  unfold doM
  split
  · refine ⟨by simp [MS.create], fun y hy hl => ?_⟩
    simp only [MS.create] at hl ⊢
    rw [upd_ne (by omega)] at hl ⊢
    exact ⟨hl, rfl, rfl, fun _ => rfl⟩
  split
  · exact .refl S
  split
  · unfold insertM
    split
    · exact .refl S
    split
    · exact .refl S
    rename_i h1
    split
    · exact .refl S
    split
    · exact .refl S
    refine stays_upd rfl rfl rfl (fun h => ?_)
    exact absurd h h1
  split
  · unfold moveM
    split
    · exact .refl S
    rename_i hl
    simp only [Bool.not_eq_false, Bool.and_eq_true] at hl
    split
    · exact .refl S
    split
    · exact .refl S
    rename_i h1 h2
    obtain ⟨c, hc, hcN, hcl⟩ := live_nat hl.1
    have hup : upOf S x.node = (S.st c).up := by rw [hc]; rfl
    obtain ⟨p, hp, _⟩ := hS.up_nat hcN (by omega)
    rw [hup, hp, hc]
    simp only [Int.toNat_natCast]
    refine ⟨by simp [placeM, takeM_N], fun y hy hl' => ?_⟩
    simp only [placeM] at hl' ⊢
    by_cases e : y = c
    · subst e
      rw [upd_at] at hl' ⊢
      obtain ⟨t1, t2⟩ := takeM_same S y
      exact ⟨hcl, t1, t2, fun _ => hp.symm⟩
    · rw [upd_ne e] at hl' ⊢
      rw [takeM_other S e] at hl' ⊢
      exact ⟨hl', rfl, rfl, fun _ => rfl⟩
  split
  · exact .refl S
  rename_i hl
  simp only [Bool.not_eq_false] at hl
  obtain ⟨c, hc, hcN, hcl⟩ := live_nat hl
  rw [hc]
  simp only [Int.toNat_natCast]
  split
  · classical
    refine ⟨by simp [endM, takeM_N], fun y hy hl' => ?_⟩
    simp only [endM] at hl' ⊢
    by_cases e : Below (takeM S c) (c : Int) (y : Int)
    · rw [if_pos e] at hl'; simp [deadN] at hl'
    · rw [if_neg e] at hl' ⊢
      have hne : y ≠ c := fun e2 => by subst e2; exact e .here
      rw [takeM_other S hne] at hl' ⊢
      exact ⟨hl', rfl, rfl, fun _ => rfl⟩
  · exact changeM_stays S c x
theorem doE_stays {R : Nat} {S : MS} (hS : S.Ok R) (x : GOp) : Stays S (doE S x).2 := by
  unfold doE
  split
  · exact doM_stays hS x
  · exact .refl S
theorem runM_stays : ∀ (L : List GOp) {R : Nat} {S : MS} (hS : S.Ok R) (i : Nat), (∀ x ∈ L, x.attrs.length ≤ 1048577) → Stays S (runM S L i).2.2
  | [], _, S, _, _, _ => .refl S
  | x :: L, R, S, hS, i, hL => by
    rw [runM]
    have h1 := doE_stays hS x
    split
    · exact h1.trans (runM_stays L (doE_ok hS x (hL x (by simp))).1 (i + 1) (fun y hy => hL y (by simp [hy])))
    · exact h1
structure GoodRow (S : MS) (out : List GRow) (i : Nat) (x : GRow) (c : Nat) : Prop where
  id : x.id = (c : Int)
  pos : 0 < c
  lt : c < S.N
  live : (S.st c).live = true
  tag : x.tag = (S.st c).tag
  key : x.key = (S.st c).key
  up : (x.up = 0 ∧ (S.st c).up = 0) ∨ ∃ j y, j < i ∧ x.up = (j : Int) + 1 ∧ out[j]? = some y ∧ y.id = (S.st c).up
def Good (S : MS) (out : List GRow) : Prop := ∀ i x, out[i]? = some x → ∃ c, GoodRow S out i x c
def Link (out : List GRow) (h : Nat) (up : Int) : Prop := (h = 0 ∧ up = 0) ∨ ∃ (j : Nat) (y : GRow), up = (j : Int) + 1 ∧ out[j]? = some y ∧ y.id = (h : Int)
theorem Link.more {out : List GRow} {h : Nat} {up : Int} (l : Link out h up) (r : List GRow) : Link (out ++ r) h up := by
  rcases l with l | ⟨j, y, h1, h2, h3⟩
  · exact .inl l
  · refine .inr ⟨j, y, h1, ?_, h3⟩
    rw [List.getElem?_append_left (List.getElem?_eq_some_iff.1 h2).1]; exact h2
section
variable {R : Nat} {S : MS} (hS : S.Ok R)
include hS
theorem good_push {out : List GRow} {h c : Nat} {up : Int} (hg : Good S out) (hl : Link out h up) (hc : c < S.N) (hcl : (S.st c).live = true) (hu : (S.st c).up = (h : Int)) : Good S (out ++ [rowM S (c : Int) up]) := by
  have hc0 : 0 < c := by
    rcases Nat.eq_zero_or_pos c with e | e
    · subst e; have := hS.top.2; omega
    · exact e
  intro i x hx
  by_cases hi : i < out.length
  · rw [List.getElem?_append_left hi] at hx
    obtain ⟨c', g⟩ := hg i x hx
    refine ⟨c', g.id, g.pos, g.lt, g.live, g.tag, g.key, ?_⟩
    rcases g.up with h1 | ⟨j, y, h1, h2, h3, h4⟩
    · exact .inl h1
    · refine .inr ⟨j, y, h1, h2, ?_, h4⟩
      rw [List.getElem?_append_left (by omega)]; exact h3
  · have hi2 : i = out.length := by
      have := (List.getElem?_eq_some_iff.1 hx).1
      simp at this; omega
    subst hi2
    rw [List.getElem?_append_right (Nat.le_refl _), Nat.sub_self] at hx
    simp only [List.getElem?_cons_zero, Option.some.injEq] at hx
    subst hx
    refine ⟨c, rfl, hc0, hc, hcl, rfl, rfl, ?_⟩
    rcases hl with ⟨h1, h2⟩ | ⟨j, y, h1, h2, h3⟩
    · exact .inl ⟨h2, by rw [hu, h1]; rfl⟩
    · have hj := (List.getElem?_eq_some_iff.1 h2).1
      exact .inr ⟨j, y, hj, h1, by rw [List.getElem?_append_left hj]; exact h2, by rw [h3, hu]⟩
theorem below_good : ∀ (d : Nat) (out : List GRow) (h : Nat) (up : Int), h < S.N → Good S out → Link out h up → Good S (belowM S d out (h : Int) up) ∧ ∃ more, belowM S d out (h : Int) up = out ++ more
  | 0, out, h, up, hh, hg, hl => ⟨hg, [], by simp [belowM]⟩
  | d + 1, out, h, up, hh, hg, hl => by
    rw [← outI_all]
    have key : ∀ i, i ≤ (S.kd h).length → Good S (outI S d out h up i) ∧ ∃ more, outI S d out h up i = out ++ more := by
      intro i
      induction i with
      | zero => exact fun _ => ⟨hg, [], by simp [outI_zero]⟩
      | succ i ih =>
        intro hi
        obtain ⟨h1, more, h2⟩ := ih (by omega)
        obtain ⟨k, hk⟩ : ∃ k, (S.kd h)[i]? = some k := ⟨_, List.getElem?_eq_getElem (by omega)⟩
        obtain ⟨c, rfl, hc, hcl, hu⟩ := hS.kids h hh k (List.mem_of_getElem? hk)
        have hl1 : Link (outI S d out h up i) h up := by rw [h2]; exact hl.more more
        have hg1 := good_push hS h1 hl1 hc hcl hu
        rw [outI_succ hk]
        obtain ⟨r1, more2, r2⟩ := below_good d _ c (((outI S d out h up i).length : Int) + 1) hc hg1 (.inr ⟨(outI S d out h up i).length, rowM S (c : Int) up, rfl, by simp, rfl⟩)
        exact ⟨r1, more ++ [rowM S (c : Int) up] ++ more2, by rw [r2, h2]; simp⟩
    exact key _ (Nat.le_refl _)
theorem rowsM_good (R' : Nat) : Good S (rowsM S R') := (below_good hS (R' + 1) [] 0 0 hS.pos (fun i x h => by simp at h) (.inl ⟨rfl, rfl⟩)).1
end
end Go.TA.Tryd


end
section
set_option linter.unusedSimpArgs false
set_option linter.unusedVariables false
/- What is wrong with rows: the document's answer. -/
set_option linter.unusedVariables false
set_option linter.unusedSimpArgs false
set_option maxRecDepth 100000
set_option maxHeartbeats 8000000
namespace Go.TA.Tryd
def twinB (x y : GRow) : Bool := (y.up == x.up) && (y.key == x.key)
def dupB (l : List GRow) (i : Nat) (x : GRow) : Bool := !(x.key == []) && (l.take i).any (twinB x)
def rowErr (l : List GRow) (i : Nat) (x : GRow) : Int := if i = 4096 then 12 else if 64 < (chain l (i + 1)).length then 11 else if aloneErr x = 0 then (if dupB l i x = true then 10 else 0) else aloneErr x
def errFrom (l : List GRow) : Nat → List GRow → Int
  | _, [] => 0
  | i, x :: r => if rowErr l i x = 0 then errFrom l (i + 1) r else rowErr l i x
def check13 (l : List GRow) : Int := if formedB l = true then errFrom l 0 l else 2
def dupOut (l : List GRow) (i : Nat) (r : Bool) : Ex × St := if r = true then (.ret, ⟨[(2, .p (.int .i64 10))], [], []⟩) else (.exit 2, ⟨[(0, .p (.list (l.map GRow.pv))), (10, .p (.int .i64 l.length)), (11, .p (.int .i64 i))], [], []⟩)
theorem dup_loop {n N : Nat} (l : List GRow) (i : Nat) (x : GRow) (hx : l[i]? = some x) (hl : l.length ≤ 1048576) (hN : l.length < N) :
    aexec (acall T n) N (.loop B7x1) ⟨[(0, .p (.list (l.map GRow.pv))), (3, .p (.int .i64 i)), (10, .p (.int .i64 l.length)), (11, .p (.int .i64 i)), (46, .p (.int .i64 i)), (47, .p (.int .i64 ((0 : Nat) : Int)))], [], []⟩ = some (dupOut l i (dupB l i x)) := by
  have hlt : i < l.length := (List.getElem?_eq_some_iff.1 hx).1
  have hg := getD_map (f := GRow.pv) hx
  have := loop_rule' (C := acall T n) (N := N) (B := B7x1) (σ := Nat) (S := fun k => ⟨[(0, .p (.list (l.map GRow.pv))), (3, .p (.int .i64 i)), (10, .p (.int .i64 l.length)), (11, .p (.int .i64 i)), (46, .p (.int .i64 i)), (47, .p (.int .i64 k))], [], []⟩) (I := fun k => k ≤ i) (μ := fun k => i - k)
    (Φ := fun k => dupOut l i (!(x.key == []) && ((l.take i).drop k).any (twinB x))) ?_ 0 (by omega) (by omega)
  · simpa [dupB] using this
  intro k hk
  by_cases h : k < i
  · have k1 : (k : Int) < (i : Int) := by omega
    have k2 : (i : Int) < (l.length : Int) := by omega
    have k3 : (k : Int) < (l.length : Int) := by omega
    obtain ⟨y, hy⟩ := get_some (show k < l.length by omega)
    have hgy := getD_map (f := GRow.pv) hy
    have hd : (l.take i).drop k = y :: (l.take i).drop (k + 1) := by
      rw [List.drop_eq_getElem?_toList_append, List.getElem?_take, if_pos h, hy]; rfl
    have next : (!(x.key == []) && twinB x y) = false → dupOut l i (!(x.key == []) && ((l.take i).drop k).any (twinB x)) = dupOut l i (!(x.key == []) && ((l.take i).drop (k + 1)).any (twinB x)) := fun h => by
      rw [hd, List.any_cons, Bool.and_or_distrib_left, h, Bool.false_or]
    cases hk0 : (x.key == []) with
    | true =>
      refine .inl ⟨k + 1, ?_, by omega, by omega, by rw [hk0] at next; exact next rfl⟩
      simp (implicitDefEqProofs := false) (maxSteps := 1000000) (disch := omega) only [Ra, Rb, Rc, Rd, Re, Rf, Rg, guardK, evalOp, St.know, mentions, AObj.mentions, bin, binI, avEq, Nat.reduceBEq, Nat.reduceAdd, Nat.reduceLeDiff, asInt, B7x1, k1, k2, hg, GRow.pv, hk0]
    | false =>
      cases hu : (y.up == x.up) with
      | false =>
        refine .inl ⟨k + 1, ?_, by omega, by omega, by rw [hk0] at next; exact next (by simp [twinB, hu])⟩
        simp (implicitDefEqProofs := false) (maxSteps := 1000000) (disch := omega) only [Ra, Rb, Rc, Rd, Re, Rf, Rg, guardK, evalOp, St.know, mentions, AObj.mentions, bin, binI, avEq, Nat.reduceBEq, Nat.reduceAdd, Nat.reduceLeDiff, asInt, B7x1, k1, k2, k3, hg, hgy, GRow.pv, hk0, hu]
      | true =>
        cases hke : (y.key == x.key) with
        | false =>
          refine .inl ⟨k + 1, ?_, by omega, by omega, by rw [hk0] at next; exact next (by simp [twinB, hke])⟩
          simp (implicitDefEqProofs := false) (maxSteps := 1000000) (disch := omega) only [Ra, Rb, Rc, Rd, Re, Rf, Rg, guardK, evalOp, St.know, mentions, AObj.mentions, bin, binI, avEq, Nat.reduceBEq, Nat.reduceAdd, Nat.reduceLeDiff, asInt, B7x1, k1, k2, k3, hg, hgy, GRow.pv, hk0, hu, hke]
        | true =>
          have e : dupOut l i (!false && ((l.take i).drop k).any (twinB x)) = (.ret, ⟨[(2, .p (.int .i64 10))], [], []⟩) := by
            rw [hd, List.any_cons]; simp [twinB, hu, hke, dupOut]
          refine .inr ?_
          rw [e]
          refine ⟨?_, by simp⟩
          simp (implicitDefEqProofs := false) (maxSteps := 1000000) (disch := omega) only [Ra, Rb, Rc, Rd, Re, Rf, Rg, guardK, evalOp, St.know, mentions, AObj.mentions, bin, binI, avEq, Nat.reduceBEq, Nat.reduceAdd, Nat.reduceLeDiff, asInt, B7x1, k1, k2, k3, hg, hgy, GRow.pv, hk0, hu, hke]
  · have k1 : ¬ (k : Int) < (i : Int) := by omega
    have e : (l.take i).drop k = [] := List.drop_eq_nil_of_le (by rw [List.length_take]; omega)
    refine .inr ?_
    rw [e, List.any_nil, Bool.and_false]
    have e2 : dupOut l i false = (.exit 2, ⟨[(0, .p (.list (l.map GRow.pv))), (10, .p (.int .i64 l.length)), (11, .p (.int .i64 i))], [], []⟩) := by simp [dupOut]
    rw [e2]
    refine ⟨?_, by simp⟩
    simp (implicitDefEqProofs := false) (maxSteps := 1000000) (disch := omega) only [Ra, Rb, Rc, Rd, Re, Rf, Rg, evalOp, St.know, mentions, AObj.mentions, bin, binI, Nat.reduceBEq, B7x1, k1]
def errOut (r : Int) : Ex × St := if r = 0 then (.exit 0, ⟨[], [], []⟩) else (.ret, ⟨[(2, .p (.int .i64 r))], [], []⟩)
theorem err_loop {n N m : Nat} (l : List GRow) (hl : Rows.small m l) (hm : m ≤ 1048577) (hs : standTo l l.length) (hN : m ≤ N) (hn : 1048577 ≤ n) :
    aexec (acall T (n + 37)) N (.loop B7x0) ⟨[(0, .p (.list (l.map GRow.pv))), (10, .p (.int .i64 l.length)), (11, .p (.int .i64 ((0 : Nat) : Int)))], [], []⟩ = some (errOut (errFrom l 0 l)) := by
  have hlen := hl.len
  have := loop_rule' (C := acall T (n + 37)) (N := N) (B := B7x0) (σ := Nat) (S := fun i => ⟨[(0, .p (.list (l.map GRow.pv))), (10, .p (.int .i64 l.length)), (11, .p (.int .i64 i))], [], []⟩) (I := fun i => i ≤ l.length ∧ i ≤ 4096) (μ := fun i => l.length - i)
    (Φ := fun i => errOut (errFrom l i (l.drop i))) ?_ 0 ⟨by omega, by omega⟩ (by omega)
  · simpa using this
  rintro i ⟨hi, hi4⟩
  by_cases h : i < l.length
  · have k1 : (i : Int) < (l.length : Int) := by omega
    obtain ⟨x, hx⟩ := get_some h
    have hg := getD_map (f := GRow.pv) hx
    have hsm := hl.row x (List.mem_of_getElem? hx)
    have hd : l.drop i = x :: l.drop (i + 1) := by rw [List.drop_eq_getElem?_toList_append, hx]; rfl
    rw [hd]
    have bad : ∀ e : Int, rowErr l i x = e → e ≠ 0 → errOut (errFrom l i (x :: l.drop (i + 1))) = (.ret, ⟨[(2, .p (.int .i64 e))], [], []⟩) := fun e h1 h2 => by
      simp only [errFrom, h1, if_neg h2, errOut]
    by_cases h4 : i = 4096
    · refine .inr ?_
      rw [bad 12 (by simp [rowErr, h4]) (by decide)]
      refine ⟨?_, by simp⟩
      have k2 : ((i : Int) == 4096) = true := by simp; omega
      simp (implicitDefEqProofs := false) (maxSteps := 1000000) (disch := omega) only [Ra, Rb, Rc, Rd, Re, Rf, Rg, evalOp, St.know, mentions, AObj.mentions, bin, binI, avEq, Nat.reduceBEq, B7x0, k1, k2]
    have k2 : ((i : Int) == 4096) = false := by simp; omega
    have hdep := depth_run (n := n + 36) l (i + 1) (hs.mono (by omega)) (by omega) (by omega) [] (by omega)
    simp only [Int.natCast_add, Int.natCast_one] at hdep
    by_cases h64 : 64 < (chain l (i + 1)).length
    · refine .inr ?_
      rw [bad 11 (by simp [rowErr, h4, h64]) (by decide)]
      refine ⟨?_, by simp⟩
      have k3 : (64 : Int) < ((chain l (i + 1)).length : Int) := by omega
      simp (implicitDefEqProofs := false) (maxSteps := 1000000) (disch := omega) only [Ra, Rb, Rc, Rd, Re, Rf, Rg, evalOp, St.know, mentions, AObj.mentions, bin, binI, avEq, view, viewT, pureArg, allFlat, flat, Nat.reduceBEq, B7x0, k1, k2, hdep, k3]
    have k3 : ¬ (64 : Int) < ((chain l (i + 1)).length : Int) := by omega
    have hal := alone_run (n := n) x [] hsm.small [] (by have := hsm.attrs; omega) (by omega)
    simp only [nodeCells] at hal
    by_cases ha : aloneErr x = 0
    rotate_left
    · refine .inr ?_
      rw [bad (aloneErr x) (by simp [rowErr, h4, h64, ha]) ha]
      refine ⟨?_, by simp⟩
      have ha' : (aloneErr x == 0) = false := by simpa using ha
      simp (implicitDefEqProofs := false) (maxSteps := 1000000) (disch := omega) only [Ra, Rb, Rc, Rd, Re, Rf, Rg, evalOp, St.know, mentions, AObj.mentions, bin, binI, avEq, view, viewT, pureArg, allFlat, flat, Nat.reduceBEq, Nat.reduceAdd, Nat.reduceLeDiff, asInt, pures, AV.cells, reduceCtorEq, Nat.reduceEqDiff, B7x0, k1, k2, hdep, k3, hg, GRow.pv, attrsPV, hal, ha']
    have hdl := dup_loop (n := n + 37) (N := N) l i x hx (by omega) (by omega)
    simp only [Int.natCast_zero] at hdl
    rw [ha] at hal
    cases hdup : dupB l i x with
    | true =>
      refine .inr ?_
      rw [bad 10 (by simp [rowErr, h4, h64, ha, hdup]) (by decide)]
      refine ⟨?_, by simp⟩
      rw [hdup] at hdl
      simp only [dupOut, if_true] at hdl
      simp (implicitDefEqProofs := false) (maxSteps := 1000000) (disch := omega) only [Ra, Rb, Rc, Rd, Re, Rf, Rg, evalOp, St.know, mentions, AObj.mentions, bin, binI, avEq, view, viewT, pureArg, allFlat, flat, Nat.reduceBEq, Nat.reduceAdd, Nat.reduceLeDiff, asInt, pures, AV.cells, reduceCtorEq, Nat.reduceEqDiff, B7x0, k1, k2, hdep, k3, hg, GRow.pv, attrsPV, hal, hdl]
    | false =>
      have e : rowErr l i x = 0 := by simp [rowErr, h4, h64, ha, hdup]
      refine .inl ⟨i + 1, ?_, ⟨by omega, by omega⟩, by omega, by simp only [errFrom, e, if_true]⟩
      rw [hdup] at hdl
      simp only [dupOut, Bool.false_eq_true, if_false] at hdl
      simp (implicitDefEqProofs := false) (maxSteps := 1000000) (disch := omega) only [Ra, Rb, Rc, Rd, Re, Rf, Rg, evalOp, St.know, mentions, AObj.mentions, bin, binI, avEq, view, viewT, pureArg, allFlat, flat, Nat.reduceBEq, Nat.reduceAdd, Nat.reduceLeDiff, asInt, pures, AV.cells, reduceCtorEq, Nat.reduceEqDiff, B7x0, k1, k2, hdep, k3, hg, GRow.pv, attrsPV, hal, hdl]
  · have k1 : ¬ (i : Int) < (l.length : Int) := by omega
    have e : l.drop i = [] := List.drop_eq_nil_of_le (by omega)
    refine .inr ⟨?_, by rw [e]; simp [errFrom, errOut]⟩
    rw [e]
    simp (implicitDefEqProofs := false) (maxSteps := 1000000) (disch := omega) only [Ra, Rb, Rc, Rd, Re, Rf, Rg, evalOp, St.know, mentions, AObj.mentions, bin, binI, Nat.reduceBEq, B7x0, k1, errFrom, errOut]
theorem check13_run (l : List GRow) {m n : Nat} (hl : Rows.small m l) (hm : m ≤ 1048577) (hn : 1048577 ≤ n) (g : List AObj) : acall T (n + 38) 7 [.p (.list (l.map GRow.pv))] g = some (.p (.int .i64 (check13 l)), g) := by
  rw [acall_code T7, run_pure rfl rfl rfl]
  have hlen := hl.len
  have hf := form13_run (n := n + 35) l (by omega) [] (by omega)
  cases hb : formedB l with
  | false =>
    rw [hb] at hf
    have e : check13 l = 2 := by simp [check13, hb]
    rw [e]
    simp (implicitDefEqProofs := false) (maxSteps := 1000000) (disch := omega) only [Ra, Rb, Rc, Rd, Re, Rf, Rg, evalOp, St.know, List.zipWith, mentions, AObj.mentions, una, noLocal, view, viewT, tupleOf, oneTup, pureArg, allFlat, flat, Nat.reduceBEq, Nat.reduceAdd, F7, hf]
  | true =>
    rw [hb] at hf
    have hloop := err_loop (n := n) (N := n + 37) (m := m) l hl hm (formed_stands hb) (by omega) hn
    simp only [Int.natCast_zero] at hloop
    have e : check13 l = errFrom l 0 l := by simp [check13, hb]
    rw [e]
    by_cases h0 : errFrom l 0 l = 0
    · rw [h0] at hloop ⊢
      simp only [errOut, if_true] at hloop
      simp (implicitDefEqProofs := false) (maxSteps := 1000000) (disch := omega) only [Ra, Rb, Rc, Rd, Re, Rf, Rg, evalOp, St.know, List.zipWith, mentions, AObj.mentions, una, noLocal, view, viewT, tupleOf, oneTup, pureArg, allFlat, flat, Nat.reduceBEq, Nat.reduceAdd, F7, hf, hloop]
    · simp only [errOut, if_neg h0] at hloop
      simp (implicitDefEqProofs := false) (maxSteps := 1000000) (disch := omega) only [Ra, Rb, Rc, Rd, Re, Rf, Rg, evalOp, St.know, List.zipWith, mentions, AObj.mentions, una, noLocal, view, viewT, tupleOf, oneTup, pureArg, allFlat, flat, Nat.reduceBEq, Nat.reduceAdd, F7, hf, hloop]
end Go.TA.Tryd


end
section
set_option linter.unusedSimpArgs false
set_option linter.unusedVariables false
/- The program's look at the tree of rows that are right. -/
set_option linter.unusedVariables false
set_option linter.unusedSimpArgs false
set_option maxRecDepth 100000
set_option maxHeartbeats 8000000
namespace Go.TA.Tryd
def allOk (l : List GRow) : Prop := ∀ (i : Nat) x, l[i]? = some x → rowErr l i x = 0
theorem errFrom_ok {l : List GRow} : ∀ {i : Nat}, errFrom l i (l.drop i) = 0 → ∀ (j : Nat) x, i ≤ j → l[j]? = some x → rowErr l j x = 0 := by
  intro i h j x hij hj
  obtain ⟨d, rfl⟩ : ∃ d, j = i + d := ⟨j - i, by omega⟩
  induction d generalizing i with
  | zero =>
    have e : l.drop i = x :: l.drop (i + 1) := by rw [List.drop_eq_getElem?_toList_append]; simp at hj; rw [hj]; rfl
    rw [e] at h
    simp only [errFrom] at h
    by_cases h0 : rowErr l i x = 0
    · simpa using h0
    · rw [if_neg h0] at h; exact absurd h h0
  | succ d ih =>
    have hlt : i < l.length := by
      have := (List.getElem?_eq_some_iff.1 hj).1
      omega
    obtain ⟨y, hy⟩ := get_some hlt
    have e : l.drop i = y :: l.drop (i + 1) := by rw [List.drop_eq_getElem?_toList_append, hy]; rfl
    rw [e] at h
    simp only [errFrom] at h
    have h0 : rowErr l i y = 0 := by
      by_cases h0 : rowErr l i y = 0
      · exact h0
      · rw [if_neg h0] at h; exact absurd h h0
    rw [if_pos h0] at h
    have := ih h (by omega) (by rw [← hj]; congr 1; omega)
    rw [show i + (d + 1) = i + 1 + d by omega]
    exact this
theorem check13_ok {l : List GRow} (h : check13 l = 0) : formedB l = true ∧ allOk l := by
  unfold check13 at h
  split at h
  · rename_i hf
    exact ⟨hf, fun i x hx => errFrom_ok (i := 0) (by simpa using h) i x (by omega) hx⟩
  · omega
theorem rowErr_ok {l : List GRow} {i : Nat} {x : GRow} (h : rowErr l i x = 0) : i ≠ 4096 ∧ (chain l (i + 1)).length ≤ 64 ∧ aloneErr x = 0 ∧ dupB l i x = false := by
  unfold rowErr at h
  split at h
  · omega
  · rename_i h1
    split at h
    · omega
    · rename_i h2
      split at h
      · rename_i h3
        split at h
        · omega
        · rename_i h4
          exact ⟨h1, by omega, h3, by simpa using h4⟩
      · rename_i h3
        exact absurd h h3
def KOk (l : List GRow) (u : Int) (b : Nat) (es : List (PV × AV)) : Prop := ∀ e ∈ es, ∃ k : Bs, e.1 = .str k ∧ k ≠ [] ∧ ∃ (j : Nat) (y : GRow), j < b ∧ l[j]? = some y ∧ y.up = u ∧ y.key = k
theorem KOk.mono {l : List GRow} {u : Int} {b b' : Nat} {es : List (PV × AV)} (h : KOk l u b es) (hb : b ≤ b') : KOk l u b' es := fun e he => by
  obtain ⟨k, h1, h2, j, y, h3, h4⟩ := h e he
  exact ⟨k, h1, h2, j, y, by omega, h4⟩
theorem KOk.strs {l : List GRow} {u : Int} {b : Nat} {es : List (PV × AV)} (h : KOk l u b es) (k : Bs) : (es.all fun e => (scalarEqK 2 e.1 (.str k)).isSome) = true := by
  rw [List.all_eq_true]
  intro e he
  obtain ⟨k', h1, _⟩ := h e he
  rw [h1]; rfl
theorem KOk.none {l : List GRow} {x : GRow} {b : Nat} {es : List (PV × AV)} (h : KOk l x.up b es) (hd : dupB l b x = false) : mlk 2 es (.str x.key) = none := by
  have key : ∀ e ∈ es, scalarEqK 2 e.1 (.str x.key) ≠ some true := by
    intro e he hc
    obtain ⟨k, h1, h2, j, y, h3, h4, h5, h6⟩ := h e he
    rw [h1] at hc
    have hk : k = x.key := by simpa [scalarEqK] using hc
    have : dupB l b x = true := by
      simp only [dupB, Bool.and_eq_true, Bool.not_eq_true', List.any_eq_true]
      refine ⟨by rw [← hk]; simpa using h2, y, ?_, by simp [twinB, h5, h6, hk]⟩
      rw [List.mem_iff_getElem?]
      exact ⟨j, by rw [List.getElem?_take, if_pos h3]; exact h4⟩
    rw [this] at hd
    cases hd
  induction es with
  | nil => rfl
  | cons e es ih =>
    obtain ⟨a, v⟩ := e
    simp only [mlk]
    rw [if_neg (key (a, v) (by simp))]
    exact ih (fun e he => h e (by simp [he])) (fun e he => key e (by simp [he]))
theorem mput_none {es : List (PV × AV)} {k : PV} {v : AV} (h : mlk 2 es k = none) : mput 2 es k v = es ++ [(k, v)] := by
  induction es with
  | nil => rfl
  | cons e es ih =>
    obtain ⟨a, w⟩ := e
    simp only [mlk, mput] at h ⊢
    by_cases hc : scalarEqK 2 a k = some true
    · rw [if_pos hc] at h; cases h
    · rw [if_neg hc] at h
      rw [if_neg hc, ih h]; rfl
theorem KOk.more {l : List GRow} {x : GRow} {b : Nat} {es : List (PV × AV)} (h : KOk l x.up b es) (hx : l[b]? = some x) (hk : x.key ≠ []) (v : AV) : KOk l x.up (b + 1) (es ++ [(.str x.key, v)]) := by
  intro e he
  rcases List.mem_append.1 he with he | he
  · exact (h.mono (by omega)) e he
  · simp only [List.mem_singleton] at he
    subst he
    exact ⟨x.key, rfl, hk, b, x, by omega, hx, rfl, rfl⟩
def LK (m : Nat) (deep : Int) : AObj := .pcells 3 [[.int .i64 m, .int .i64 deep, .int .i64 0]]
def VK : AObj := .cells 1 [[.func 76 [.ptr true 0 3 1 0 0, .ptr true 1 1 1 0 0]]]
def pL : AV := .ptr true 0 3 1 0 0
def pV : AV := .ptr true 1 1 1 0 0
def Seen (l : List GRow) (u : Int) (b : Nat) (j : Nat) (ms : List AObj) (r : AV × List AObj) : Prop :=
  ∃ deep ms' es, r = (.p (.bool true), LK b deep :: VK :: ms') ∧ ms.length ≤ ms'.length ∧ ms'[j]? = some (.map es) ∧ KOk l u b es ∧ ∀ j', j' < ms.length → j' ≠ j → ms'[j']? = ms[j']?
def visS (d : Int) (ks : List (List PV)) (jb i m : Nat) (deep : Int) (ms : List AObj) : St := ⟨[(1, .p (.int .i64 d)), (4, .ptr true 1 1 1 0 0), (11, .map true (jb + 1 + 1)), (61, .p (.list ks)), (62, .p (.int .i64 ks.length)), (63, .p (.int .i64 i))], [], LK m deep :: VK :: ms⟩
theorem vis_loop {n N : Nat} (l : List GRow) (a b : Nat) (d : Int) (ks : List (List PV)) (hbt : BTs l a b ks) (hl : l.length ≤ 1048576) (ha : a < l.length) (hd : -1000000 ≤ d ∧ d ≤ 1000000) (hN : ks.length < N) (ms0 : List AObj) (deep0 : Int)
    (ih : ∀ m m' k es j deep ms, BT l m m' k → (∃ y, l[m]? = some y ∧ y.up = (a : Int) + 1) → a < m → m' ≤ b → ms[j]? = some (.map es) → KOk l ((a : Int) + 1) m es →
      ∃ r, acall T n 76 [.p (.agg k), .p (.int .i64 (d + 1)), .map true (j + 1 + 1), pL, pV] (LK m deep :: VK :: ms) = some r ∧ Seen l ((a : Int) + 1) m' j ms r) :
    ∃ r, aexec (acall T n) N (.loop B76x0) (visS d ks ms0.length 0 (a + 1) deep0 (ms0 ++ [.map []])) = some r ∧ ∃ deep ms', r = (.exit 1, ⟨[], [], LK b deep :: VK :: ms'⟩) ∧ ms0.length ≤ ms'.length ∧ ∀ j', j' < ms0.length → ms'[j']? = ms0[j']? := by
  refine loop_inv (σ := Nat × Nat × Int × List AObj) (S := fun s => visS d ks ms0.length s.1 s.2.1 s.2.2.1 s.2.2.2)
    (I := fun s => s.1 ≤ ks.length ∧ BTs l a s.2.1 (ks.take s.1) ∧ ms0.length < s.2.2.2.length ∧ (∀ j', j' < ms0.length → s.2.2.2[j']? = ms0[j']?) ∧ ∃ es, s.2.2.2[ms0.length]? = some (.map es) ∧ KOk l ((a : Int) + 1) s.2.1 es) (μ := fun s => ks.length - s.1)
    (Q := fun r => ∃ deep ms', r = (.exit 1, ⟨[], [], LK b deep :: VK :: ms'⟩) ∧ ms0.length ≤ ms'.length ∧ ∀ j', j' < ms0.length → ms'[j']? = ms0[j']?) ?_ (0, a + 1, deep0, ms0 ++ [.map []]) ⟨by omega, by simpa using BTs.nil, by simp, fun j' hj => by simp [List.getElem?_append_left hj], [], by simp, fun e he => by simp at he⟩ (by simp only; omega)
  rintro ⟨i, m, deep, ms⟩ ⟨h1, h2, h3, h4, es, h5, h6⟩
  simp only at h1 h2 h3 h4 h5 h6 ⊢
  by_cases hi : i < ks.length
  · obtain ⟨k, hk⟩ := get_some hi
    obtain ⟨q, q', y, p1, p2, p3, p4, p5, hle⟩ := hbt.at i k hk
    have hq : q = m := p1.uniq h2 rfl
    subst hq
    have hlt := (BTs.lt h2 ha)
    obtain ⟨r, hr, deep', ms', es', rfl, s1, s2, s3, s4⟩ := ih q q' k es ms0.length deep ms p4 ⟨y, p2, p3⟩ (by omega) hle h5 h6
    left
    refine ⟨(i + 1, q', deep', ms'), ?_, ⟨by omega, p5, by simp only; omega, fun j' hj => by simp only; rw [s4 j' (by omega) (by omega)]; exact h4 j' hj, es', s2, s3⟩, by simp only; omega⟩
    have hg : ks.getD i [] = k := by rw [List.getD_eq_getElem?_getD, hk]; rfl
    have hkl := p4.len
    obtain ⟨c1, c2, c3, c4, c5, rfl⟩ : ∃ c1 c2 c3 c4 c5, k = [c1, c2, c3, c4, c5] := by
      match k, hkl with
      | [c1, c2, c3, c4, c5], _ => exact ⟨c1, c2, c3, c4, c5, rfl⟩
    have k1 : (i : Int) < (ks.length : Int) := by omega
    have hkl2 := hbt.lt ha
    have k9 : (i : Int) ≤ 1048576 := by omega
    simp only [LK, VK, pL, pV] at hr
    simp only [visS, LK, VK]
    simp (implicitDefEqProofs := false) (maxSteps := 1000000) (disch := omega) only [Ra, Rb, Rc, Rd, Re, Rf, Rg, evalOp, St.know, mentions, AObj.mentions, bin, binI, una, noLocal, Nat.reduceBEq, Nat.reduceAdd, Nat.reduceLT, asInt, pures, AV.cells, rd_p, rd_c, wr_p, B76x0, k1, hg, List.getElem?_cons_zero, List.getElem?_cons_succ, hr]
  · right
    obtain rfl : i = ks.length := by omega
    rw [List.take_length] at h2
    have hm : m = b := h2.uniq hbt rfl
    subst hm
    have k1 : ¬ (ks.length : Int) < (ks.length : Int) := by omega
    refine ⟨(.exit 1, ⟨[], [], LK m deep :: VK :: ms⟩), ?_, by simp, deep, ms, rfl, by omega, h4⟩
    simp only [visS, LK, VK]
    simp (implicitDefEqProofs := false) (maxSteps := 1000000) (disch := omega) only [Ra, Rb, Rc, Rd, Re, Rf, Rg, evalOp, St.know, mentions, AObj.mentions, bin, binI, Nat.reduceBEq, B76x0, k1]
theorem vis_run (l : List GRow) (hl : l.length ≤ 1048576) (hs : standTo l l.length) (hok : allOk l) (hal : ∀ x ∈ l, x.attrs.length ≤ 1048577) : ∀ (D n a b : Nat) (p : List PV) (x : GRow) (es : List (PV × AV)) (j : Nat) (deep : Int) (ms : List AObj), b - a ≤ D → 1048577 < n → BT l a b p → l[a]? = some x → ms[j]? = some (.map es) → KOk l x.up a es →
    ∃ r, acall T (n + D + 39) 76 [.p (.agg p), .p (.int .i64 (chain l (a + 1)).length), .map true (j + 1 + 1), pL, pV] (LK a deep :: VK :: ms) = some r ∧ Seen l x.up b j ms r := by
  intro D
  induction D with
  | zero =>
    intro n a b p x es j deep ms hD hn hbt
    have := hbt.lt
    omega
  | succ D ih =>
    intro n a b p x es j deep ms hD hn hbt hx hj hes
    have hlt := hbt.lt
    cases hbt with
    | mk hx' hks =>
    rename_i x' ks
    rw [hx] at hx'
    cases hx'
    have ha : a < l.length := by omega
    obtain ⟨h1, h2, h3, h4⟩ := rowErr_ok (hok a x hx)
    have hlk := hes.none h4
    have hst := hes.strs x.key
    have hw := wrong_run (n := n + D + 1) x ks [] (by have := hal x (List.mem_of_getElem? hx); omega)
    rw [h3, show n + D + 1 + 38 = n + D + 39 by omega] at hw
    simp only [nodeCells] at hw
    have k1 : ((a : Int) == 4096) = false := by simp; omega
    have k2 : ¬ (64 : Int) < ((chain l (a + 1)).length : Int) := by omega
    have hjl : j < ms.length := (List.getElem?_eq_some_iff.1 hj).1
    obtain ⟨es1, he1, hes1⟩ : ∃ es1, es1 = (if x.key = [] then es else es ++ [(.str x.key, .p (.agg []))]) ∧ KOk l x.up (a + 1) es1 := by
      refine ⟨_, rfl, ?_⟩
      split
      · exact hes.mono (by omega)
      · rename_i hk; exact hes.more hx hk _
    have hcx : ∀ m y, l[m]? = some y → y.up = (a : Int) + 1 → a < m → (chain l (m + 1)).length = (chain l (a + 1)).length + 1 := by
      intro m y hy hu ham
      have hm : m < l.length := (List.getElem?_eq_some_iff.1 hy).1
      rw [chain_succ hs (Nat.le_refl _) hm]
      have : upAt l (m + 1) = a + 1 := by simp [upAt, hy, hu]
      rw [this, List.length_cons]
    have hks' := hks.lt ha
    obtain ⟨r, hr, deep', ms', rfl, hml, hsame⟩ := vis_loop (n := n + D + 39) (N := n + D + 39) l a b (chain l (a + 1)).length ks hks hl ha (by omega) (by omega) (ms.set j (.map es1)) (if ((chain l (a + 1)).length : Int) > deep then ((chain l (a + 1)).length : Int) else deep) (fun m m' k es' j' deep' ms' hb1 hy ham hmb hj' hes' => by
      obtain ⟨y, hy, hu⟩ := hy
      have := hb1.lt
      have hc := hcx m y hy hu ham
      have := ih n m m' k y es' j' deep' ms' (by omega) hn hb1 hy hj' (by rw [hu]; exact hes')
      rw [hc, hu] at this
      push_cast at this
      exact this)
    refine ⟨(.p (.bool true), LK b deep' :: VK :: ms'), ?_, deep', ms', es1, rfl, by simpa using hml, ?_, hes1.mono (by omega), fun j' hj' hne => ?_⟩
    rotate_left
    · rw [hsame j (by simpa using hjl), List.getElem?_set, if_pos rfl, if_pos hjl]
    · rw [hsame j' (by simpa using hj'), List.getElem?_set, if_neg (fun e => hne e.symm)]
    rw [show n + (D + 1) + 39 = n + D + 39 + 1 by omega, acall_code T76, run_code rfl rfl]
    simp only [visS, LK, VK, Int.natCast_add, Int.natCast_one, Int.natCast_zero] at hr
    simp only [nodeCells, LK, VK, pL, pV]
    by_cases hk : x.key = []
    · have hk' : (x.key == []) = true := by simp [hk]
      rw [if_pos hk] at he1
      subst he1
      have hset : ms.set j (.map es1) = ms := by
        apply List.ext_getElem?
        intro q
        rw [List.getElem?_set]
        split
        · rename_i e; subst e; exact hj.symm
        · rfl
      rw [hset] at hr
      have hlk' : mlk 2 es1 (.str []) = none := by rw [hk] at hlk; exact hlk
      have hst' : (es1.all fun e => (scalarEqK 2 e.1 (.str [])).isSome) = true := by rw [hk] at hst; exact hst
      rw [hk] at hw
      by_cases hdp : ((chain l (a + 1)).length : Int) > deep
      · rw [if_pos hdp] at hr
        simp (implicitDefEqProofs := false) (maxSteps := 1000000) (disch := omega) only [Ra, Rb, Rc, Rd, Re, Rf, Rg, guardK, evalOp, St.know, List.zipWith, mentions, AObj.mentions, bin, binI, avEq, noLocal, view, viewT, tupleOf, oneTup, pureArg, allFlat, flat, Nat.reduceBEq, Nat.reduceAdd, Nat.reduceLeDiff, Nat.reduceLT, pures, AV.cells, rd_p, wr_p, reduceCtorEq, Nat.reduceEqDiff, F76, hk, k1, k2, hw, hlk', hst', hj, hdp, hr, Option.getD_none, Option.isSome_none, List.getElem?_cons_zero, List.getElem?_cons_succ]
      · rw [if_neg hdp] at hr
        simp (implicitDefEqProofs := false) (maxSteps := 1000000) (disch := omega) only [Ra, Rb, Rc, Rd, Re, Rf, Rg, guardK, evalOp, St.know, List.zipWith, mentions, AObj.mentions, bin, binI, avEq, noLocal, view, viewT, tupleOf, oneTup, pureArg, allFlat, flat, Nat.reduceBEq, Nat.reduceAdd, Nat.reduceLeDiff, Nat.reduceLT, pures, AV.cells, rd_p, wr_p, reduceCtorEq, Nat.reduceEqDiff, F76, hk, k1, k2, hw, hlk', hst', hj, hdp, hr, Option.getD_none, Option.isSome_none, List.getElem?_cons_zero, List.getElem?_cons_succ]
    · have hk' : (x.key == []) = false := by simpa using hk
      rw [if_neg hk] at he1
      subst he1
      have hmp := mput_none (v := .p (.agg [])) hlk
      by_cases hdp : ((chain l (a + 1)).length : Int) > deep
      · rw [if_pos hdp] at hr
        simp (implicitDefEqProofs := false) (maxSteps := 1000000) (disch := omega) only [Ra, Rb, Rc, Rd, Re, Rf, Rg, guardK, evalOp, St.know, List.zipWith, mentions, AObj.mentions, bin, binI, avEq, noLocal, view, viewT, tupleOf, oneTup, pureArg, allFlat, flat, Nat.reduceBEq, Nat.reduceAdd, Nat.reduceLeDiff, Nat.reduceLT, pures, AV.cells, rd_p, wr_p, reduceCtorEq, Nat.reduceEqDiff, F76, hk', k1, k2, hw, hlk, hst, hmp, hj, hdp, hr, Option.getD_none, Option.isSome_none, Option.isSome_some, List.getElem?_cons_zero, List.getElem?_cons_succ]
      · rw [if_neg hdp] at hr
        simp (implicitDefEqProofs := false) (maxSteps := 1000000) (disch := omega) only [Ra, Rb, Rc, Rd, Re, Rf, Rg, guardK, evalOp, St.know, List.zipWith, mentions, AObj.mentions, bin, binI, avEq, noLocal, view, viewT, tupleOf, oneTup, pureArg, allFlat, flat, Nat.reduceBEq, Nat.reduceAdd, Nat.reduceLeDiff, Nat.reduceLT, pures, AV.cells, rd_p, wr_p, reduceCtorEq, Nat.reduceEqDiff, F76, hk', k1, k2, hw, hlk, hst, hmp, hj, hdp, hr, Option.getD_none, Option.isSome_none, Option.isSome_some, List.getElem?_cons_zero, List.getElem?_cons_succ]
end Go.TA.Tryd


end
section
set_option linter.unusedSimpArgs false
set_option linter.unusedVariables false
/- Rows that are right for the document's answer are right for the program. -/
set_option linter.unusedVariables false
set_option linter.unusedSimpArgs false
set_option maxRecDepth 100000
set_option maxHeartbeats 8000000
namespace Go.TA.Tryd
theorem chain_one {l : List GRow} {x : GRow} (hs : standTo l l.length) (hx : l[0]? = some x) : chain l 1 = [1] := by
  have hlt : 0 < l.length := (List.getElem?_eq_some_iff.1 hx).1
  rw [chain_succ hs (Nat.le_refl _) hlt]
  have := upAt_le hs hlt hlt
  have : upAt l 1 = 0 := by simpa using this
  rw [this]; rfl
theorem check_run (l : List GRow) (hl : l.length ≤ 1048576) (hs : standTo l l.length) (hok : allOk l) (hal : ∀ x ∈ l, x.attrs.length ≤ 1048577) {b : Nat} {p : List PV} (hbt : BT l 0 b p) {n : Nat} (hn : 1048577 < n) (g : List AObj) :
    ∃ deep, acall T (n + l.length + 40) 64 [.p (.agg p)] g = some (.p (.agg [.int .i64 b, .int .i64 deep, .int .i64 0]), g) := by
  have hlt := hbt.lt
  have hbt' := hbt
  cases hbt with
  | mk hx hks =>
  rename_i x ks
  obtain ⟨r, hr, deep, ms', es, rfl, _, _, _, _⟩ := vis_run l hl hs hok hal l.length n 0 b (nodeCells x ks) x [] 0 0 [.map []] (by omega) hn hbt' hx rfl (fun e he => by simp at he)
  refine ⟨deep, ?_⟩
  rw [acall_code T64, run_pure rfl rfl rfl]
  have hc := chain_one hs hx
  simp only [Nat.zero_add, hc, List.length_singleton, Int.natCast_one, Int.natCast_zero, LK, VK, pL, pV, nodeCells] at hr
  simp only [nodeCells]
  simp (implicitDefEqProofs := false) (maxSteps := 1000000) (disch := omega) only [Ra, Rb, Rc, Rd, Re, Rf, Rg, evalOp, List.zipWith, mentions, AObj.mentions, noLocal, view, tupleOf, oneTup, Nat.reduceBEq, Nat.reduceAdd, Nat.reduceLT, pures, AV.cells, rd_p, rd_c, wr_p, F64, hr, List.getElem?_cons_zero, List.getElem?_cons_succ]
theorem vcheck_run (l : List GRow) (hl : l.length ≤ 1048576) (hs : standTo l l.length) (hok : allOk l) (hal : ∀ x ∈ l, x.attrs.length ≤ 1048577) {b : Nat} {p : List PV} (hbt : BT l 0 b p) {n : Nat} (hn : 1048577 < n) (g : List AObj) :
    acall T (n + l.length + 41) 48 [.p (.agg p)] g = some (.tuple [.p (.int .i64 0), .p (.int .i64 0)], g) := by
  obtain ⟨deep, hr⟩ := check_run l hl hs hok hal hbt hn []
  cases hbt with
  | mk hx hks =>
  rename_i x ks
  rw [acall_code T48, run_pure rfl rfl rfl]
  simp only [nodeCells] at hr ⊢
  simp (implicitDefEqProofs := false) (maxSteps := 1000000) (disch := omega) only [Ra, Rb, Rc, Rd, Re, Rf, Rg, evalOp, St.know, List.zipWith, mentions, AObj.mentions, avEq, noLocal, view, viewT, tupleOf, oneTup, pureArg, allFlat, flat, Nat.reduceBEq, Nat.reduceAdd, Nat.reduceLT, pures, AV.cells, rd_p, wr_p, reduceCtorEq, Nat.reduceEqDiff, F48, hr]
end Go.TA.Tryd


end
section
set_option linter.unusedSimpArgs false
set_option linter.unusedVariables false
/- Rows that are right for the document's answer are right for the program. -/
set_option linter.unusedVariables false
set_option linter.unusedSimpArgs false
set_option maxRecDepth 100000
set_option maxHeartbeats 8000000
namespace Go.TA.Tryd
theorem tree_run (l : List GRow) (hl : l.length ≤ 1048576) (hne : l ≠ []) (hf : formedB l = true) (hok : allOk l) (hal : ∀ x ∈ l, x.attrs.length ≤ 1048577) {n : Nat} (hn : 1048577 < n) (g : List AObj) :
    ∃ p, (∃ c1 c2 c3 c4 c5, p = [c1, c2, c3, c4, c5]) ∧ acall T (n + l.length + 42) 33 [.p (.list (l.map GRow.pv))] g = some (.tuple [.p (.agg p), .p (.int .i64 0)], g) := by
  have hs := formed_stands hf
  have hlen : 0 < l.length := List.length_pos_iff.2 hne
  have hsh : shallow l := fun i hi => by
    obtain ⟨x, hx⟩ := get_some hi
    exact (rowErr_ok (hok i x hx)).2.1
  have h4 : l.length ≤ 4096 := by
    rcases Nat.lt_or_ge 4096 l.length with h | h
    · obtain ⟨i, hi⟩ : ∃ i : Nat, i = 4096 := ⟨4096, rfl⟩
      rw [← hi] at h
      obtain ⟨x, hx⟩ := get_some h
      exact absurd hi (rowErr_ok (hok i x hx)).1
    · exact h
  obtain ⟨b, p, hbt, _, hb⟩ := build_run l hl hal l.length 0 (n + 38) hlen (by omega)
  have hb := hb []
  rw [show n + 38 + l.length + 3 = n + l.length + 41 by omega] at hb
  have hv := vcheck_run l hl hs hok hal hbt hn []
  have hfr := formP_run l hl [] (n := n + l.length + 40) (by omega)
  rw [hf] at hfr
  have hdr := deep_run l hs hsh h4 [] (n := n + l.length + 40) (by omega)
  cases hbt with
  | @mk _ _ x ks hx hks =>
  refine ⟨nodeCells x ks, ⟨_, _, _, _, _, rfl⟩, ?_⟩
  rw [acall_code T33, run_pure rfl rfl rfl]
  simp only [nodeCells, Int.natCast_zero] at hb hv ⊢
  have k0 : ((l.length : Int) == 0) = false := by simp; omega
  simp (implicitDefEqProofs := false) (maxSteps := 1000000) (disch := omega) only [Ra, Rb, Rc, Rd, Re, Rf, Rg, evalOp, St.know, List.zipWith, mentions, AObj.mentions, avEq, una, noLocal, view, viewT, tupleOf, oneTup, pureArg, allFlat, flat, Nat.reduceBEq, Nat.reduceAdd, Nat.reduceLT, pures, AV.cells, rd_p, wr_p, F33, k0, hfr, hdr, hb, hv]
theorem flatCheck_ok (l : List GRow) {m : Nat} (hl : Rows.small m l) (hm : m ≤ 1048577) (h : check13 l = 0) {n : Nat} (hn : 1048577 < n) (g : List AObj) : acall T (n + l.length + 43) 21 [.p (.list (l.map GRow.pv))] g = some (.p (.int .i64 0), g) := by
  obtain ⟨hf, hok⟩ := check13_ok h
  have hlen := hl.len
  rw [acall_code T21, run_pure rfl rfl rfl]
  by_cases hne : l = []
  · subst hne
    simp (implicitDefEqProofs := false) (maxSteps := 1000000) (disch := omega) only [Ra, Rb, Rc, Rd, Re, Rf, Rg, evalOp, St.know, List.zipWith, mentions, AObj.mentions, avEq, noLocal, view, tupleOf, oneTup, Nat.reduceBEq, Nat.reduceAdd, F21, Int.natCast_zero]
  · obtain ⟨p, hp, hr⟩ := tree_run l (by omega) hne hf hok (fun x hx => by have := (hl.row x hx).attrs; omega) hn []
    have hlen0 : 0 < l.length := List.length_pos_iff.2 hne
    have k0 : ((l.length : Int) == 0) = false := by simp; omega
    obtain ⟨c1, c2, c3, c4, c5, rfl⟩ := hp
    simp (implicitDefEqProofs := false) (maxSteps := 1000000) (disch := omega) only [Ra, Rb, Rc, Rd, Re, Rf, Rg, evalOp, St.know, List.zipWith, mentions, AObj.mentions, avEq, noLocal, view, viewT, tupleOf, oneTup, pureArg, allFlat, flat, Nat.reduceBEq, Nat.reduceAdd, Nat.reduceLT, pures, AV.cells, wr_p, F21, k0, hr]
end Go.TA.Tryd


end
section
set_option linter.unusedSimpArgs false
set_option linter.unusedVariables false
/- The machine of rows that are right. -/
set_option linter.unusedVariables false
set_option linter.unusedSimpArgs false
set_option maxRecDepth 100000
set_option maxHeartbeats 8000000
namespace Go.TA.Tryd
def newS (l : List GRow) (i : Nat) (av : Nat → AV) (rest : List AObj) : St := ⟨[(5, .ptr true 1 1 1 0 0), (17, .p (.list (l.map GRow.pv))), (18, .p (.int .i64 l.length)), (19, .p (.int .i64 i))], [], machG (i + 1) (st0 l) av rest⟩
theorem new_loop {n N : Nat} (l : List GRow) (hl : l.length ≤ 1048576) (hal : ∀ x ∈ l, x.attrs.length ≤ 1048577) (hs : standTo l l.length) (hN : l.length < N) :
    ∃ r, aexec (acall T (n + 1)) N (.loop B9x0) (newS l 0 (fun _ => .nils) []) = some r ∧ ∃ av rest, r = (.exit 0, ⟨[(5, .ptr true 1 1 1 0 0)], [], machG (l.length + 1) (st0 l) av rest⟩) ∧ MOk (l.length + 1) av (kd0 l l.length) rest ∧ ∀ h, h < l.length + 1 → ∀ ks, av h ≠ .p ks := by
  refine loop_inv (σ := Nat × (Nat → AV) × List AObj) (S := fun s => newS l s.1 s.2.1 s.2.2) (I := fun s => s.1 ≤ l.length ∧ MOk (s.1 + 1) s.2.1 (kd0 l s.1) s.2.2 ∧ ∀ h, h < s.1 + 1 → ∀ ks, s.2.1 h ≠ .p ks) (μ := fun s => l.length - s.1)
    (Q := fun r => ∃ av rest, r = (.exit 0, ⟨[(5, .ptr true 1 1 1 0 0)], [], machG (l.length + 1) (st0 l) av rest⟩) ∧ MOk (l.length + 1) av (kd0 l l.length) rest ∧ ∀ h, h < l.length + 1 → ∀ ks, av h ≠ .p ks) ?_ (0, (fun _ => .nils), []) ⟨by omega, ⟨fun h _ => .none, fun _ _ _ _ _ => .inl rfl⟩, fun h _ ks => by simp⟩ (by simp only; omega)
  rintro ⟨i, av, rest⟩ ⟨h1, h2, h3⟩
  simp only at h1 h2 h3 ⊢
  by_cases hi : i < l.length
  · left
    obtain ⟨x, hx, hu⟩ := up_val hs (Nat.le_refl _) hi
    have hle := upAt_le hs hi hi
    have hg := getD_map (f := GRow.pv) hx
    have k1 : (i : Int) < (l.length : Int) := by omega
    have hcl := cloneA_run x.attrs (hal x (List.mem_of_getElem? hx)) [] n
    generalize hU : upAt l (i + 1) = u at hu hle
    have hst : st0 l (i + 1) = nodeOf x := by simp [st0, hx]
    have hpush : rowsAV (i + 1) (st0 l) av ++ [[.p (.bool true), .p (.int .i64 u), .nils, .p (.str x.tag), .p (.str x.key), .p (.str x.text), .p (.list (x.attrs.map Attr.pv))]] = rowsAV (i + 1 + 1) (st0 l) (upd av (i + 1) .nils) := by
      have := rowsAV_push (N := i + 1) (st := st0 l) (av := av) (nodeOf x) .nils
      simp only [nodeAV, nodeOf, hu] at this
      rw [this]
      refine rowsAV_congr fun k hk => ⟨?_, rfl⟩
      by_cases e : k = i + 1
      · subst e; rw [upd_at, hst, nodeOf, hu]
      · rw [upd_ne e]
    have hM := h2.push
    have len1 : (rowsAV (i + 1) (st0 l) av).length = i + 1 := rowsAV_len
    have len2 : (rowsAV (i + 1 + 1) (st0 l) (upd av (i + 1) .nils)).length = i + 1 + 1 := rowsAV_len
    have hgu : (rowsAV (i + 1 + 1) (st0 l) (upd av (i + 1) .nils)).getD u [] = nodeAV (st0 l u) (upd av (i + 1) .nils u) := rowsAV_get (by omega)
    have hkd : ∀ h, h < i + 1 + 1 → upd (upd (kd0 l i) (i + 1) []) u (upd (kd0 l i) (i + 1) [] u ++ [(i : Int) + 1]) h = kd0 l (i + 1) h := by
      intro h hh
      have hnew : upd (kd0 l i) (i + 1) [] h = kd0 l i h := by
        by_cases e : h = i + 1
        · subst e; rw [upd_at, kd0_new (hs.mono (by omega)) (by omega)]
        · rw [upd_ne e]
      rw [kd0_succ hx, hu]
      by_cases e : h = u
      · subst e
        rw [upd_at, hnew, if_pos rfl]
      · rw [upd_ne e, hnew, if_neg (by omega)]
    have hset : ∀ a, (rowsAV (i + 1 + 1) (st0 l) (upd av (i + 1) .nils)).set u [.p (.bool (st0 l u).live), .p (.int .i64 (st0 l u).up), a, .p (.str (st0 l u).tag), .p (.str (st0 l u).key), .p (.str (st0 l u).text), .p (.list ((st0 l u).attrs.map Attr.pv))] = rowsAV (i + 1 + 1) (st0 l) (upd (upd av (i + 1) .nils) u a) := by
      intro a
      have := rowsAV_set (N := i + 1 + 1) (st := st0 l) (av := upd av (i + 1) .nils) (h := u) (by omega) (st0 l u) a
      simp only [nodeAV] at this
      rw [this]
      refine rowsAV_congr fun k hk => ⟨?_, rfl⟩
      by_cases e : k = u
      · subst e; rw [upd_at]
      · rw [upd_ne e]
    have hK := hM.kids u (by omega)
    generalize hav : upd av (i + 1) .nils u = a at hK hgu
    generalize hks : upd (kd0 l i) (i + 1) [] u = ks at hK hkd
    simp only [nodeAV] at hgu
    have hle2 : (u : Int) < (i : Int) + 1 + 1 := by omega
    have hkl : ks.length ≤ 1048576 := by
      rw [← hks]
      by_cases e : u = i + 1
      · rw [e, upd_at]; simp
      · rw [upd_ne e]
        simp only [kd0, List.length_map]
        have := List.length_filter_le (fun k => ((l[k]?).map (fun x => x.up == (u : Int))).getD false) (List.range i)
        simp only [List.length_range] at this
        omega
    rcases hK.inv with ⟨rfl, rfl⟩ | ⟨r, rfl, hr⟩ | rfl
    · refine ⟨(i + 1, upd (upd av (i + 1) .nils) u (.own true (rest.length + 1 + 1) 1), rest ++ [.pcells 1 [[.int .i64 ((i : Int) + 1)]]]), ?_, ⟨by omega, ?_, ?_⟩, by simp only; omega⟩
      · have hsl : ∀ o o' : AObj, (rest ++ [o]).set rest.length o' = rest ++ [o'] := fun o o' => by simp [List.set_append]
        simp only [newS, machG]
        simp (implicitDefEqProofs := false) (maxSteps := 1000000) (disch := omega) only [Ra, Rb, Rc, Rd, Re, Rf, Rg, evalOp, idx_c, St.know, mentions, AObj.mentions, bin, binI, noLocal, AV.same, PV.same, view, viewT, pureArg, allFlat, flat, app_p, app_c, Nat.reduceBEq, Nat.reduceAdd, Nat.reduceLeDiff, Nat.reduceLT, asInt, pures, AV.cells, rd_p, rd_c, wr_p, wr_c, reduceCtorEq, Nat.reduceMul, Nat.reduceEqDiff, B9x0, k1, hg, GRow.pv, attrsPV, hcl, hpush, len1, len2, hgu, hset, hu, hle2, hsl, List.length_append, List.getElem?_cons_zero, List.getElem?_cons_succ]
      · have := hM.fresh (u := u) (by omega) [(i : Int) + 1]
        simp only [List.length_singleton, intsPV, List.map_cons, List.map_nil] at this
        refine ⟨fun h hh => ?_, this.disj⟩
        have q := this.kids h hh
        rw [← hkd h hh]
        simpa [hks] using q
      · intro h hh ks
        by_cases e : h = u
        · subst e; simp [upd]
        · simp only
          rw [upd_ne e]
          by_cases e' : h = i + 1
          · subst e'; simp [upd]
          · rw [upd_ne e']; exact h3 h (by omega) ks
    · have hrl : r < rest.length := (List.getElem?_eq_some_iff.1 hr).1
      refine ⟨(i + 1, upd (upd av (i + 1) .nils) u (.own true (r + 1 + 1) (ks.length + 1)), rest.set r (.pcells 1 (intsPV ks ++ [[.int .i64 ((i : Int) + 1)]]))), ?_, ⟨by omega, ?_, ?_⟩, by simp only; omega⟩
      · simp only [newS, machG]
        have il := intsPV_len ks
        simp (implicitDefEqProofs := false) (maxSteps := 1000000) (disch := omega) only [Ra, Rb, Rc, Rd, Re, Rf, Rg, evalOp, idx_c, St.know, mentions, AObj.mentions, bin, binI, noLocal, AV.same, PV.same, view, viewT, pureArg, allFlat, flat, app_p, app_c, Nat.reduceBEq, Nat.reduceAdd, Nat.reduceLeDiff, Nat.reduceLT, asInt, pures, AV.cells, rd_p, rd_c, wr_p, wr_c, reduceCtorEq, Nat.reduceEqDiff, B9x0, k1, hg, GRow.pv, attrsPV, hcl, hpush, len1, len2, hgu, hset, hu, hle2, hr, il, List.length_append, List.getElem?_cons_zero, List.getElem?_cons_succ]
      · have := hM.turn (u := u) (r := r) (by omega) (by rw [hav, hks]) hrl (ks ++ [(i : Int) + 1])
        simp only [List.length_append, List.length_singleton, ← intsPV_snoc] at this
        refine ⟨fun h hh => ?_, this.disj⟩
        have q := this.kids h hh
        rw [← hkd h hh]
        exact q
      · intro h hh ks
        by_cases e : h = u
        · subst e; simp [upd]
        · simp only
          rw [upd_ne e]
          by_cases e' : h = i + 1
          · subst e'; simp [upd]
          · rw [upd_ne e']; exact h3 h (by omega) ks
    · exfalso
      by_cases e : u = i + 1
      · rw [e, upd_at] at hav; cases hav
      · rw [upd_ne e] at hav; exact h3 u (by omega) _ hav
  · right
    obtain rfl : i = l.length := by omega
    have k1 : ¬ (l.length : Int) < (l.length : Int) := by omega
    refine ⟨_, ?_, ?_, av, rest, rfl, h2, h3⟩
    · simp only [newS]
      simp (implicitDefEqProofs := false) (maxSteps := 1000000) (disch := omega) only [Ra, Rb, Rc, Rd, Re, Rf, Rg, evalOp, St.know, mentions, AObj.mentions, bin, binI, Nat.reduceBEq, B9x0, k1]
    · simp
theorem new_run (l : List GRow) {m : Nat} (hl : Rows.small m l) (hm : m ≤ 1048577) (h : check13 l = 0) {n : Nat} (hn : 1048577 < n) :
    ∃ av rest, acall T (n + l.length + 44) 9 [.p (.list (l.map GRow.pv))] [] = some (.tuple [.ptr true 1 1 1 0 0, .p (.int .i64 0)], machG (l.length + 1) (st0 l) av rest) ∧ MOk (l.length + 1) av (kd0 l l.length) rest ∧ ∀ h, h < l.length + 1 → ∀ ks, av h ≠ .p ks := by
  have hlen := hl.len
  have hfc := flatCheck_ok l hl hm h hn []
  have hs : standTo l l.length := formed_stands (check13_ok h).1
  obtain ⟨r, hr, av, rest, rfl, hok, hpp⟩ := new_loop (n := n + l.length + 42) (N := n + l.length + 43) l (by omega) (fun x hx => by have := (hl.row x hx).attrs; omega) hs (by omega)
  refine ⟨av, rest, ?_, hok, hpp⟩
  rw [acall_code T9, run_code rfl rfl]
  have h0 : rowsAV 1 (st0 l) (fun _ => AV.nils) = [nodeAV holder .nils] := rfl
  simp only [newS, machG, Nat.zero_add, Int.natCast_zero, h0, nodeAV, holder, List.map_nil] at hr ⊢
  simp (implicitDefEqProofs := false) (maxSteps := 1000000) (disch := omega) only [Ra, Rb, Rc, Rd, Re, Rf, Rg, evalOp, St.know, List.zipWith, mentions, AObj.mentions, avEq, noLocal, view, viewT, oneTup, pureArg, allFlat, flat, Nat.reduceBEq, Nat.reduceAdd, Nat.reduceLeDiff, pures, AV.cells, Int.reduceNeg, Nat.reduceEqDiff, F9, hfc, hr]
end Go.TA.Tryd


end
section
set_option linter.unusedSimpArgs false
set_option linter.unusedVariables false
/- The guard of most laws: whether operations are few. -/
set_option linter.unusedVariables false
set_option linter.unusedSimpArgs false
set_option maxRecDepth 100000
set_option maxHeartbeats 1000000
namespace Go.TA.Tryd
theorem attr_get {l : List Attr} {i : Nat} {a : Attr} (h : l[i]? = some a) : (l.map Attr.pv).getD i [] = [.str a.name, .str a.value] := by
  rw [List.getD_eq_getElem?_getD, List.getElem?_map, h]; rfl
theorem few_attr {C : Calls'} {N : Nat} (x : GOp) (p0 p11 p12 : PV) (g : List AObj) (i : Nat) (a : Attr) (left : Int) (h : x.attrs[i]? = some a) (hb : x.attrs.length ≤ 1048576) (ha : a.value.length + a.name.length ≤ 1048576) (hl : -4611686018427387904 ≤ left) (hl2 : left ≤ 4611686018427387904) :
    aexec C N B6x1 ⟨[(0, .p p0), (5, .p (.int .i64 left)), (7, .ptr false 7 9 1 0 0), (11, .p p11), (12, .p p12), (46, .p (.int .i64 x.attrs.length)), (47, .p (.int .i64 i))], [(7, .pcells 9 [x.pv])], g⟩ =
      some (.normal, ⟨[(0, .p p0), (5, .p (.int .i64 (left - ((a.value.length : Int) + a.name.length).tdiv 4096))), (7, .ptr false 7 9 1 0 0), (11, .p p11), (12, .p p12), (46, .p (.int .i64 x.attrs.length)), (47, .p (.int .i64 (i + 1)))], [(7, .pcells 9 [x.pv])], g⟩) := by
  have hlt : i < x.attrs.length := (List.getElem?_eq_some_iff.1 h).1
  have h1 : (i : Int) < (x.attrs.length : Int) := by omega
  have h2 := attr_get h
  have q : 0 ≤ ((a.value.length : Int) + (a.name.length : Int)).tdiv 4096 ∧ ((a.value.length : Int) + (a.name.length : Int)).tdiv 4096 ≤ 1048576 := by
    rw [Int.tdiv_eq_ediv_of_nonneg (by omega)]; omega
  generalize hq : ((a.value.length : Int) + (a.name.length : Int)).tdiv 4096 = d at q ⊢
  obtain ⟨w1, w2, w3, w4⟩ : IntKind.i64.wrap ((a.value.length : Int) + (a.name.length : Int)) = (a.value.length : Int) + (a.name.length : Int) ∧ IntKind.i64.wrap d = d ∧ IntKind.i64.wrap (left - d) = left - d ∧ IntKind.i64.wrap ((i : Int) + 1) = (i : Int) + 1 :=
    ⟨wrap_id (by omega) (by omega), wrap_id (by omega) (by omega), wrap_id (by omega) (by omega), wrap_id (by omega) (by omega)⟩
  simp (implicitDefEqProofs := false) only [B6x1, runOps_nil, runOps_cons, bo_some, bo_none, bo_ite, be_some, be_none, be_ite, bn_some, bn_none, bn_ite, bn'_some, aexec_skip, aexec_region, aexec_seq, aexec_block, aexec_exit, aexec_ret, aexec_keep, aexec_cond, condK_bool, bs_normal, bs_ret, bs_exit, bs_none, bs_ite, bkp_some, bb_normal, bb_ret, bb_exit, bb_none, bb_ite, bl_normal, bl_ret, bl_exit, bl_none, bl_ite, br_ret, br_normal, br_none, br_ite, rr_some, m_none, m_some, m_st, m_fr, m_lo, m_p, m_own, m_bool, m_int, m_str, m_list, m_pcells, m_length, m_and, m_or, ite_self,
 enterSt, stepOp, guardK, evalOp, bk_some, bk_ite, bk_none, orBot, St.know, St.arg, St.get, lk, up, St.set, opt', List.length_cons, List.length_nil, List.range, List.range.loop, List.zip, List.zipWith, St.keep, pickL, List.map_cons, List.map_nil, List.any_cons, List.any_nil, mentions, mentionsL, AObj.mentions, bin, binI, avEq, isNil, isNilC, ptrEq, St.one, cellsEq, seq_b, seq_i, seq_s, una, ropRd, bound, okFor, noLocals, noLocal, AV.same, PV.same, AV.sameL, PV.sameL, PV.sameLL, sameAt, againEv, againG, againX, againOne, findIx, hand, view, viewT, allM, tupleOf, oneTup, resultsOf, result1, pureArg, allFlat, flat, frz, cellsAll, sameLen, appendTo, fillK, rg_some, rg_ite, rg_none, implies_true, true_implies, false_implies, Option.map_some, Option.map_none, Nat.reduceBEq, Nat.reduceAdd, Nat.reduceLeDiff, Nat.reduceLT, Bool.or_self, Bool.or_false, Bool.false_or, Bool.false_eq_true, Bool.true_eq_false, if_false, if_true, Bool.not_true, Bool.not_false, asInt, St.newObj, newOwns, St.obj, St.putObj, puress, pures, objOf, ofCells, AV.cells, AObj.rd, AObj.wr, sub, over, PV.scalarEq, reduceCtorEq, and_self, and_true, true_and, List.getD_cons_zero, List.getD_cons_succ, List.set_cons_zero, List.set_cons_succ, List.drop_zero, List.drop_succ_cons, List.take_zero, List.take_succ_cons, List.take_nil, List.drop_nil, fill, List.contains_cons, List.contains_nil, Bool.or_true, Bool.true_or, Bool.and_true, Bool.true_and, Bool.and_false, Bool.false_and, decide_true, decide_false, beq_self_eq_true, Int.toNat_natCast, Nat.reduceMul, Nat.reduceSub, Int.reduceToNat, Nat.zero_le, Nat.lt_irrefl, Nat.le_refl, not_true_eq_false, not_false_eq_true, decide_eq_true_eq, runD_nil, runD_cons', bod_some, Option.bind_some, stepD, againK, List.all_cons, List.all_nil, aexec_draw, Int.reduceBEq, Int.reduceBNe, Bool.not_eq_true', Int.reduceLT, Int.reduceLE, Int.reduceEq, Int.reduceNeg, Int.reduceAdd, Int.reduceSub, Int.reduceMul, Int.natCast_nonneg, List.getElem?_concat_length, true_or, or_true, false_or, or_false, false_and, and_false, Nat.reduceEqDiff, Nat.one_ne_zero, List.cons_append, List.nil_append, List.append_nil, h1, h2, GOp.pv, attrsPV, List.length_map, w1, hq, w2, w3, w4]
theorem few_attr_end {C : Calls'} {N : Nat} (x : GOp) (p0 p11 p12 : PV) (g : List AObj) (left : Int) :
    aexec C N B6x1 ⟨[(0, .p p0), (5, .p (.int .i64 left)), (7, .ptr false 7 9 1 0 0), (11, .p p11), (12, .p p12), (46, .p (.int .i64 x.attrs.length)), (47, .p (.int .i64 x.attrs.length))], [(7, .pcells 9 [x.pv])], g⟩ =
      some (.exit 2, ⟨[(0, .p p0), (5, .p (.int .i64 left)), (11, .p p11), (12, .p p12)], [], g⟩) := by
  have h1 : ¬ ((x.attrs.length : Int) < (x.attrs.length : Int)) := by omega
  simp (implicitDefEqProofs := false) only [B6x1, runOps_nil, runOps_cons, bo_some, bo_none, bo_ite, be_some, be_none, be_ite, bn_some, bn_none, bn_ite, bn'_some, aexec_skip, aexec_region, aexec_seq, aexec_block, aexec_exit, aexec_ret, aexec_keep, aexec_cond, condK_bool, bs_normal, bs_ret, bs_exit, bs_none, bs_ite, bkp_some, bb_normal, bb_ret, bb_exit, bb_none, bb_ite, bl_normal, bl_ret, bl_exit, bl_none, bl_ite, br_ret, br_normal, br_none, br_ite, rr_some, m_none, m_some, m_st, m_fr, m_lo, m_p, m_own, m_bool, m_int, m_str, m_list, m_pcells, m_length, m_and, m_or, ite_self,
 enterSt, stepOp, guardK, evalOp, bk_some, bk_ite, bk_none, orBot, St.know, St.arg, St.get, lk, up, St.set, opt', List.length_cons, List.length_nil, List.range, List.range.loop, List.zip, List.zipWith, St.keep, pickL, List.map_cons, List.map_nil, List.any_cons, List.any_nil, mentions, mentionsL, AObj.mentions, bin, binI, avEq, isNil, isNilC, ptrEq, St.one, cellsEq, seq_b, seq_i, seq_s, una, ropRd, bound, okFor, noLocals, noLocal, AV.same, PV.same, AV.sameL, PV.sameL, PV.sameLL, sameAt, againEv, againG, againX, againOne, findIx, hand, view, viewT, allM, tupleOf, oneTup, resultsOf, result1, pureArg, allFlat, flat, frz, cellsAll, sameLen, appendTo, fillK, rg_some, rg_ite, rg_none, implies_true, true_implies, false_implies, Option.map_some, Option.map_none, Nat.reduceBEq, Nat.reduceAdd, Nat.reduceLeDiff, Nat.reduceLT, Bool.or_self, Bool.or_false, Bool.false_or, Bool.false_eq_true, Bool.true_eq_false, if_false, if_true, Bool.not_true, Bool.not_false, asInt, St.newObj, newOwns, St.obj, St.putObj, puress, pures, objOf, ofCells, AV.cells, AObj.rd, AObj.wr, sub, over, PV.scalarEq, reduceCtorEq, and_self, and_true, true_and, List.getD_cons_zero, List.getD_cons_succ, List.set_cons_zero, List.set_cons_succ, List.drop_zero, List.drop_succ_cons, List.take_zero, List.take_succ_cons, List.take_nil, List.drop_nil, fill, List.contains_cons, List.contains_nil, Bool.or_true, Bool.true_or, Bool.and_true, Bool.true_and, Bool.and_false, Bool.false_and, decide_true, decide_false, beq_self_eq_true, Int.toNat_natCast, Nat.reduceMul, Nat.reduceSub, Int.reduceToNat, Nat.zero_le, Nat.lt_irrefl, Nat.le_refl, not_true_eq_false, not_false_eq_true, decide_eq_true_eq, runD_nil, runD_cons', bod_some, Option.bind_some, stepD, againK, List.all_cons, List.all_nil, aexec_draw, Int.reduceBEq, Int.reduceBNe, Bool.not_eq_true', Int.reduceLT, Int.reduceLE, Int.reduceEq, Int.reduceNeg, Int.reduceAdd, Int.reduceSub, Int.reduceMul, Int.natCast_nonneg, List.getElem?_concat_length, true_or, or_true, false_or, or_false, false_and, and_false, Nat.reduceEqDiff, Nat.one_ne_zero, List.cons_append, List.nil_append, List.append_nil, h1]
def smallAttrs (l : List Attr) : Prop := ∀ a ∈ l, a.value.length + a.name.length ≤ 1048576
theorem few_attrs {C : Calls'} {N : Nat} (x : GOp) (p0 p11 p12 : PV) (g : List AObj) (hb : x.attrs.length ≤ 1048576) (hs : smallAttrs x.attrs) (rest : List Attr) : ∀ (pre : List Attr) (m : Nat) (left : Int), x.attrs = pre ++ rest → rest.length < m →
    -4611686018427387904 + 1048576 * (rest.length : Int) ≤ left → left ≤ 4611686018427387904 →
    aloop C N B6x1 m ⟨[(0, .p p0), (5, .p (.int .i64 left)), (7, .ptr false 7 9 1 0 0), (11, .p p11), (12, .p p12), (46, .p (.int .i64 x.attrs.length)), (47, .p (.int .i64 pre.length))], [(7, .pcells 9 [x.pv])], g⟩ =
      some (.exit 2, ⟨[(0, .p p0), (5, .p (.int .i64 (attrsLeft rest left))), (11, .p p11), (12, .p p12)], [], g⟩) := by
  induction rest with
  | nil =>
    intro pre m left hd hm h1 h2
    obtain ⟨m, rfl⟩ : ∃ k, m = k + 1 := ⟨m - 1, by simp at hm; omega⟩
    have e : pre.length = x.attrs.length := by rw [hd]; simp
    rw [e, aloop_succ, few_attr_end, bl_exit]; rfl
  | cons a rest ih =>
    intro pre m left hd hm h1 h2
    obtain ⟨m, rfl⟩ : ∃ k, m = k + 1 := ⟨m - 1, by simp at hm; omega⟩
    have hget : x.attrs[pre.length]? = some a := by rw [hd]; simp
    have hmem : a ∈ x.attrs := List.mem_of_getElem? hget
    simp only [List.length_cons, Int.natCast_add, Int.natCast_one] at hm h1
    have q : 0 ≤ ((a.value.length : Int) + (a.name.length : Int)).tdiv 4096 ∧ ((a.value.length : Int) + (a.name.length : Int)).tdiv 4096 ≤ 1048576 := by
      have := hs a hmem
      rw [Int.tdiv_eq_ediv_of_nonneg (by omega)]; omega
    rw [aloop_succ, few_attr x p0 p11 p12 g pre.length a left hget hb (hs a hmem) (by omega) h2, bl_normal]
    have := ih (pre ++ [a]) m (left - ((a.value.length : Int) + a.name.length).tdiv 4096) (by rw [hd]; simp) (by omega) (by omega) (by omega)
    rw [List.length_append, Int.natCast_add] at this
    exact this
theorem few_attrs0 {C : Calls'} {N : Nat} (x : GOp) (p0 p11 p12 : PV) (g : List AObj) (hb : x.attrs.length ≤ 1048576) (hs : smallAttrs x.attrs) (hN : x.attrs.length < N) {left : Int} (h1 : -4611686018427387904 + 1048576 * (x.attrs.length : Int) ≤ left) (h2 : left ≤ 4611686018427387904) :
    aexec C N (.loop B6x1) ⟨[(0, .p p0), (5, .p (.int .i64 left)), (7, .ptr false 7 9 1 0 0), (11, .p p11), (12, .p p12), (46, .p (.int .i64 x.attrs.length)), (47, .p (.int .i64 0))], [(7, .pcells 9 [x.pv])], g⟩ =
      some (.exit 2, ⟨[(0, .p p0), (5, .p (.int .i64 (attrsLeft x.attrs left))), (11, .p p11), (12, .p p12)], [], g⟩) := by
  rw [aexec_loop]
  exact few_attrs x p0 p11 p12 g hb hs x.attrs [] N left rfl hN h1 h2
def smallOp (x : GOp) : Prop := x.attrs.length ≤ 1048576 ∧ smallAttrs x.attrs ∧ x.text.length + x.key.length + x.tag.length + x.name.length ≤ 1048576
theorem smallOp_of {x : GOp} {n : Nat} (h : bulkL x.pv ≤ n) (hn : n ≤ 1048576) : smallOp x ∧ x.attrs.length < n := by
  rw [bulk_op] at h
  obtain ⟨h1, h2⟩ := bulk_attrs x.attrs
  refine ⟨⟨by omega, fun a ha => by have := h1 a ha; omega, by omega⟩, by omega⟩
theorem attrsLeft_boundF (l : List Attr) (hs : smallAttrs l) : ∀ left : Int, left - 1048576 * (l.length : Int) ≤ attrsLeft l left ∧ attrsLeft l left ≤ left := by
  induction l with
  | nil => intro left; simp [attrsLeft]
  | cons a l ih =>
    intro left
    have ha := hs a (by simp)
    have q : 0 ≤ ((a.value.length : Int) + (a.name.length : Int)).tdiv 4096 ∧ ((a.value.length : Int) + (a.name.length : Int)).tdiv 4096 ≤ 1048576 := by
      rw [Int.tdiv_eq_ediv_of_nonneg (by omega)]; omega
    obtain ⟨z1, z2⟩ := ih (fun b hb => hs b (by simp [hb])) (left - ((a.value.length : Int) + a.name.length).tdiv 4096)
    simp only [attrsLeft, List.length_cons, Int.natCast_add, Int.natCast_one]
    constructor <;> omega
theorem op_get {l : List GOp} {i : Nat} {x : GOp} (h : l[i]? = some x) : (l.map GOp.pv).getD i [] = x.pv := by
  rw [List.getD_eq_getElem?_getD, List.getElem?_map, h]; rfl
def fewCost (x : GOp) : Int := ((x.text.length : Int) + x.key.length + x.tag.length + x.name.length).tdiv 4096
theorem fewCost_bound {x : GOp} (h : smallOp x) : 0 ≤ fewCost x ∧ fewCost x ≤ 1048576 := by
  have := h.2.2
  unfold fewCost
  rw [Int.tdiv_eq_ediv_of_nonneg (by omega)]; omega
theorem few_op {C : Calls'} {N : Nat} (l : List GOp) (g : List AObj) (i : Nat) (x : GOp) (left : Int) (h : l[i]? = some x) (hx : smallOp x) (hN : x.attrs.length < N) (hlen : l.length ≤ 1048576) (hl : -1099511627776 ≤ left) (hl2 : left ≤ 1099511627776) :
    aexec C N B6x0 ⟨[(0, .p (.list (l.map GOp.pv))), (5, .p (.int .i64 left)), (11, .p (.int .i64 l.length)), (12, .p (.int .i64 i))], [], g⟩ =
      if left - 1 - x.attrs.length - fewCost x < 0 then some (.ret, ⟨[(4, .p (.bool false))], [], g⟩) else
      some (.normal, ⟨[(0, .p (.list (l.map GOp.pv))), (5, .p (.int .i64 (attrsLeft x.attrs (left - 1 - x.attrs.length - fewCost x)))), (11, .p (.int .i64 l.length)), (12, .p (.int .i64 (i + 1)))], [], g⟩) := by
  have hlt : i < l.length := (List.getElem?_eq_some_iff.1 h).1
  have h1 : (i : Int) < (l.length : Int) := by omega
  have h2 := op_get h
  obtain ⟨b1, b2, b3⟩ := hx
  have q := fewCost_bound (x := x) ⟨b1, b2, b3⟩
  have hq : ((x.text.length : Int) + x.key.length + x.tag.length + x.name.length).tdiv 4096 = fewCost x := rfl
  generalize fewCost x = d at q hq ⊢
  obtain ⟨w1, w2, w3, w4, w5, w6, w7, w8⟩ : IntKind.i64.wrap ((x.text.length : Int) + x.key.length) = (x.text.length : Int) + x.key.length ∧ IntKind.i64.wrap ((x.text.length : Int) + x.key.length + x.tag.length) = (x.text.length : Int) + x.key.length + x.tag.length ∧
      IntKind.i64.wrap ((x.text.length : Int) + x.key.length + x.tag.length + x.name.length) = (x.text.length : Int) + x.key.length + x.tag.length + x.name.length ∧ IntKind.i64.wrap d = d ∧ IntKind.i64.wrap (left - 1) = left - 1 ∧
      IntKind.i64.wrap (left - 1 - x.attrs.length) = left - 1 - x.attrs.length ∧ IntKind.i64.wrap (left - 1 - x.attrs.length - d) = left - 1 - x.attrs.length - d ∧ IntKind.i64.wrap ((i : Int) + 1) = (i : Int) + 1 :=
    ⟨wrap_id (by omega) (by omega), wrap_id (by omega) (by omega), wrap_id (by omega) (by omega), wrap_id (by omega) (by omega), wrap_id (by omega) (by omega), wrap_id (by omega) (by omega), wrap_id (by omega) (by omega), wrap_id (by omega) (by omega)⟩
  have hloop := few_attrs0 (C := C) (N := N) x (.list (l.map GOp.pv)) (.int .i64 l.length) (.int .i64 i) g b1 b2 hN (left := left - 1 - x.attrs.length - d) (by omega) (by omega)
  by_cases hneg : left - 1 - x.attrs.length - d < 0
  · simp (implicitDefEqProofs := false) only [B6x0, runOps_nil, runOps_cons, bo_some, bo_none, bo_ite, be_some, be_none, be_ite, bn_some, bn_none, bn_ite, bn'_some, aexec_skip, aexec_region, aexec_seq, aexec_block, aexec_exit, aexec_ret, aexec_keep, aexec_cond, condK_bool, bs_normal, bs_ret, bs_exit, bs_none, bs_ite, bkp_some, bb_normal, bb_ret, bb_exit, bb_none, bb_ite, bl_normal, bl_ret, bl_exit, bl_none, bl_ite, br_ret, br_normal, br_none, br_ite, rr_some, m_none, m_some, m_st, m_fr, m_lo, m_p, m_own, m_bool, m_int, m_str, m_list, m_pcells, m_length, m_and, m_or, ite_self,
 enterSt, stepOp, guardK, evalOp, bk_some, bk_ite, bk_none, orBot, St.know, St.arg, St.get, lk, up, St.set, opt', List.length_cons, List.length_nil, List.range, List.range.loop, List.zip, List.zipWith, St.keep, pickL, List.map_cons, List.map_nil, List.any_cons, List.any_nil, mentions, mentionsL, AObj.mentions, bin, binI, avEq, isNil, isNilC, ptrEq, St.one, cellsEq, seq_b, seq_i, seq_s, una, ropRd, bound, okFor, noLocals, noLocal, AV.same, PV.same, AV.sameL, PV.sameL, PV.sameLL, sameAt, againEv, againG, againX, againOne, findIx, hand, view, viewT, allM, tupleOf, oneTup, resultsOf, result1, pureArg, allFlat, flat, frz, cellsAll, sameLen, appendTo, fillK, rg_some, rg_ite, rg_none, implies_true, true_implies, false_implies, Option.map_some, Option.map_none, Nat.reduceBEq, Nat.reduceAdd, Nat.reduceLeDiff, Nat.reduceLT, Bool.or_self, Bool.or_false, Bool.false_or, Bool.false_eq_true, Bool.true_eq_false, if_false, if_true, Bool.not_true, Bool.not_false, asInt, St.newObj, newOwns, St.obj, St.putObj, puress, pures, objOf, ofCells, AV.cells, AObj.rd, AObj.wr, sub, over, PV.scalarEq, reduceCtorEq, and_self, and_true, true_and, List.getD_cons_zero, List.getD_cons_succ, List.set_cons_zero, List.set_cons_succ, List.drop_zero, List.drop_succ_cons, List.take_zero, List.take_succ_cons, List.take_nil, List.drop_nil, fill, List.contains_cons, List.contains_nil, Bool.or_true, Bool.true_or, Bool.and_true, Bool.true_and, Bool.and_false, Bool.false_and, decide_true, decide_false, beq_self_eq_true, Int.toNat_natCast, Nat.reduceMul, Nat.reduceSub, Int.reduceToNat, Nat.zero_le, Nat.lt_irrefl, Nat.le_refl, not_true_eq_false, not_false_eq_true, decide_eq_true_eq, runD_nil, runD_cons', bod_some, Option.bind_some, stepD, againK, List.all_cons, List.all_nil, aexec_draw, Int.reduceBEq, Int.reduceBNe, Bool.not_eq_true', Int.reduceLT, Int.reduceLE, Int.reduceEq, Int.reduceNeg, Int.reduceAdd, Int.reduceSub, Int.reduceMul, Int.natCast_nonneg, List.getElem?_concat_length, true_or, or_true, false_or, or_false, false_and, and_false, Nat.reduceEqDiff, Nat.one_ne_zero, List.cons_append, List.nil_append, List.append_nil, h1, h2, GOp.pv, attrsPV, List.length_map, w1, hq, w2, w3, w4, w5, w6, w7, hneg]
  · simp only [GOp.pv, attrsPV] at hloop
    simp (implicitDefEqProofs := false) only [B6x0, runOps_nil, runOps_cons, bo_some, bo_none, bo_ite, be_some, be_none, be_ite, bn_some, bn_none, bn_ite, bn'_some, aexec_skip, aexec_region, aexec_seq, aexec_block, aexec_exit, aexec_ret, aexec_keep, aexec_cond, condK_bool, bs_normal, bs_ret, bs_exit, bs_none, bs_ite, bkp_some, bb_normal, bb_ret, bb_exit, bb_none, bb_ite, bl_normal, bl_ret, bl_exit, bl_none, bl_ite, br_ret, br_normal, br_none, br_ite, rr_some, m_none, m_some, m_st, m_fr, m_lo, m_p, m_own, m_bool, m_int, m_str, m_list, m_pcells, m_length, m_and, m_or, ite_self,
 enterSt, stepOp, guardK, evalOp, bk_some, bk_ite, bk_none, orBot, St.know, St.arg, St.get, lk, up, St.set, opt', List.length_cons, List.length_nil, List.range, List.range.loop, List.zip, List.zipWith, St.keep, pickL, List.map_cons, List.map_nil, List.any_cons, List.any_nil, mentions, mentionsL, AObj.mentions, bin, binI, avEq, isNil, isNilC, ptrEq, St.one, cellsEq, seq_b, seq_i, seq_s, una, ropRd, bound, okFor, noLocals, noLocal, AV.same, PV.same, AV.sameL, PV.sameL, PV.sameLL, sameAt, againEv, againG, againX, againOne, findIx, hand, view, viewT, allM, tupleOf, oneTup, resultsOf, result1, pureArg, allFlat, flat, frz, cellsAll, sameLen, appendTo, fillK, rg_some, rg_ite, rg_none, implies_true, true_implies, false_implies, Option.map_some, Option.map_none, Nat.reduceBEq, Nat.reduceAdd, Nat.reduceLeDiff, Nat.reduceLT, Bool.or_self, Bool.or_false, Bool.false_or, Bool.false_eq_true, Bool.true_eq_false, if_false, if_true, Bool.not_true, Bool.not_false, asInt, St.newObj, newOwns, St.obj, St.putObj, puress, pures, objOf, ofCells, AV.cells, AObj.rd, AObj.wr, sub, over, PV.scalarEq, reduceCtorEq, and_self, and_true, true_and, List.getD_cons_zero, List.getD_cons_succ, List.set_cons_zero, List.set_cons_succ, List.drop_zero, List.drop_succ_cons, List.take_zero, List.take_succ_cons, List.take_nil, List.drop_nil, fill, List.contains_cons, List.contains_nil, Bool.or_true, Bool.true_or, Bool.and_true, Bool.true_and, Bool.and_false, Bool.false_and, decide_true, decide_false, beq_self_eq_true, Int.toNat_natCast, Nat.reduceMul, Nat.reduceSub, Int.reduceToNat, Nat.zero_le, Nat.lt_irrefl, Nat.le_refl, not_true_eq_false, not_false_eq_true, decide_eq_true_eq, runD_nil, runD_cons', bod_some, Option.bind_some, stepD, againK, List.all_cons, List.all_nil, aexec_draw, Int.reduceBEq, Int.reduceBNe, Bool.not_eq_true', Int.reduceLT, Int.reduceLE, Int.reduceEq, Int.reduceNeg, Int.reduceAdd, Int.reduceSub, Int.reduceMul, Int.natCast_nonneg, List.getElem?_concat_length, true_or, or_true, false_or, or_false, false_and, and_false, Nat.reduceEqDiff, Nat.one_ne_zero, List.cons_append, List.nil_append, List.append_nil, h1, h2, GOp.pv, attrsPV, List.length_map, w1, hq, w2, w3, w4, w5, w6, w7, w8, hneg, hloop]
def fewEnd (r : Option Int) (l : PV) (n : Int) (g : List AObj) : Ex × St := match r with
  | none => (.ret, ⟨[(4, .p (.bool false))], [], g⟩)
  | some left => (.exit 0, ⟨[(5, .p (.int .i64 left))], [], g⟩)
theorem few_op_end {C : Calls'} {N : Nat} (l : List GOp) (g : List AObj) (left : Int) :
    aexec C N B6x0 ⟨[(0, .p (.list (l.map GOp.pv))), (5, .p (.int .i64 left)), (11, .p (.int .i64 l.length)), (12, .p (.int .i64 l.length))], [], g⟩ = some (.exit 0, ⟨[(5, .p (.int .i64 left))], [], g⟩) := by
  have h1 : ¬ ((l.length : Int) < (l.length : Int)) := by omega
  simp (implicitDefEqProofs := false) only [B6x0, runOps_nil, runOps_cons, bo_some, bo_none, bo_ite, be_some, be_none, be_ite, bn_some, bn_none, bn_ite, bn'_some, aexec_skip, aexec_region, aexec_seq, aexec_block, aexec_exit, aexec_ret, aexec_keep, aexec_cond, condK_bool, bs_normal, bs_ret, bs_exit, bs_none, bs_ite, bkp_some, bb_normal, bb_ret, bb_exit, bb_none, bb_ite, bl_normal, bl_ret, bl_exit, bl_none, bl_ite, br_ret, br_normal, br_none, br_ite, rr_some, m_none, m_some, m_st, m_fr, m_lo, m_p, m_own, m_bool, m_int, m_str, m_list, m_pcells, m_length, m_and, m_or, ite_self,
 enterSt, stepOp, guardK, evalOp, bk_some, bk_ite, bk_none, orBot, St.know, St.arg, St.get, lk, up, St.set, opt', List.length_cons, List.length_nil, List.range, List.range.loop, List.zip, List.zipWith, St.keep, pickL, List.map_cons, List.map_nil, List.any_cons, List.any_nil, mentions, mentionsL, AObj.mentions, bin, binI, avEq, isNil, isNilC, ptrEq, St.one, cellsEq, seq_b, seq_i, seq_s, una, ropRd, bound, okFor, noLocals, noLocal, AV.same, PV.same, AV.sameL, PV.sameL, PV.sameLL, sameAt, againEv, againG, againX, againOne, findIx, hand, view, viewT, allM, tupleOf, oneTup, resultsOf, result1, pureArg, allFlat, flat, frz, cellsAll, sameLen, appendTo, fillK, rg_some, rg_ite, rg_none, implies_true, true_implies, false_implies, Option.map_some, Option.map_none, Nat.reduceBEq, Nat.reduceAdd, Nat.reduceLeDiff, Nat.reduceLT, Bool.or_self, Bool.or_false, Bool.false_or, Bool.false_eq_true, Bool.true_eq_false, if_false, if_true, Bool.not_true, Bool.not_false, asInt, St.newObj, newOwns, St.obj, St.putObj, puress, pures, objOf, ofCells, AV.cells, AObj.rd, AObj.wr, sub, over, PV.scalarEq, reduceCtorEq, and_self, and_true, true_and, List.getD_cons_zero, List.getD_cons_succ, List.set_cons_zero, List.set_cons_succ, List.drop_zero, List.drop_succ_cons, List.take_zero, List.take_succ_cons, List.take_nil, List.drop_nil, fill, List.contains_cons, List.contains_nil, Bool.or_true, Bool.true_or, Bool.and_true, Bool.true_and, Bool.and_false, Bool.false_and, decide_true, decide_false, beq_self_eq_true, Int.toNat_natCast, Nat.reduceMul, Nat.reduceSub, Int.reduceToNat, Nat.zero_le, Nat.lt_irrefl, Nat.le_refl, not_true_eq_false, not_false_eq_true, decide_eq_true_eq, runD_nil, runD_cons', bod_some, Option.bind_some, stepD, againK, List.all_cons, List.all_nil, aexec_draw, Int.reduceBEq, Int.reduceBNe, Bool.not_eq_true', Int.reduceLT, Int.reduceLE, Int.reduceEq, Int.reduceNeg, Int.reduceAdd, Int.reduceSub, Int.reduceMul, Int.natCast_nonneg, List.getElem?_concat_length, true_or, or_true, false_or, or_false, false_and, and_false, Nat.reduceEqDiff, Nat.one_ne_zero, List.cons_append, List.nil_append, List.append_nil, h1]
theorem few_ops {C : Calls'} {N : Nat} (l : List GOp) (g : List AObj) (hs : ∀ x ∈ l, smallOp x ∧ x.attrs.length < N) (hlen : l.length ≤ 1048576) (rest : List GOp) : ∀ (pre : List GOp) (m : Nat) (left : Int), l = pre ++ rest → rest.length < m → (pre ≠ [] → 0 ≤ left + 1099511627776) → -1099511627776 ≤ left → left ≤ 1000000 →
    aloop C N B6x0 m ⟨[(0, .p (.list (l.map GOp.pv))), (5, .p (.int .i64 left)), (11, .p (.int .i64 l.length)), (12, .p (.int .i64 pre.length))], [], g⟩ = some (fewEnd (fewOpsL rest left) (.list (l.map GOp.pv)) l.length g) := by
  induction rest with
  | nil =>
    intro pre m left hd hm _ h1 h2
    obtain ⟨m, rfl⟩ : ∃ k, m = k + 1 := ⟨m - 1, by simp at hm; omega⟩
    have e : pre.length = l.length := by rw [hd]; simp
    rw [e, aloop_succ, few_op_end, bl_exit]; rfl
  | cons x rest ih =>
    intro pre m left hd hm _ h1 h2
    obtain ⟨m, rfl⟩ : ∃ k, m = k + 1 := ⟨m - 1, by simp at hm; omega⟩
    have hget : l[pre.length]? = some x := by rw [hd]; simp
    have hmem : x ∈ l := List.mem_of_getElem? hget
    obtain ⟨hx, hN⟩ := hs x hmem
    rw [aloop_succ, few_op l g pre.length x left hget hx hN hlen (by omega) (by omega)]
    have hc : fewOpsL (x :: rest) left = if left - 1 - x.attrs.length - fewCost x < 0 then none else fewOpsL rest (attrsLeft x.attrs (left - 1 - x.attrs.length - fewCost x)) := rfl
    rw [hc]
    have q := fewCost_bound hx
    by_cases hneg : left - 1 - x.attrs.length - fewCost x < 0
    · rw [if_pos hneg, if_pos hneg, bl_ret]; rfl
    · rw [if_neg hneg, if_neg hneg, bl_normal]
      have hb := attrsLeft_boundF x.attrs hx.2.1 (left - 1 - x.attrs.length - fewCost x)
      have hb2 : (x.attrs.length : Int) ≤ 1000000 := by omega
      simp only [List.length_cons] at hm
      have := ih (pre ++ [x]) m (attrsLeft x.attrs (left - 1 - x.attrs.length - fewCost x)) (by rw [hd]; simp) (by omega) (by omega) (by omega) (by omega)
      rw [List.length_append, Int.natCast_add] at this
      exact this
theorem few_run (l : List GOp) (most : Int) (g : List AObj) {n : Nat} (hs : ∀ x ∈ l, smallOp x ∧ x.attrs.length < n) (hlen : l.length ≤ 1048576) (hn : l.length < n) (h1 : 0 ≤ most) (h2 : most ≤ 1000000) :
    acall T (n + 1) 6 [.p (.list (l.map GOp.pv)), .p (.int .i64 most)] g = some (.p (.bool (fewOps l most)), g) := by
  rw [acall_code T6, run_pure rfl rfl rfl]
  have hloop := few_ops (C := acall T n) (N := n) l [] hs hlen l [] n most rfl hn (by simp) (by omega) (by omega)
  rw [← aexec_loop] at hloop
  cases hr : fewOpsL l most with
  | none =>
    rw [hr] at hloop
    simp (implicitDefEqProofs := false) only [F6, fewEnd, List.length_nil, Int.natCast_zero] at hloop ⊢
    simp (implicitDefEqProofs := false) only [runOps_nil, runOps_cons, bo_some, bo_none, bo_ite, be_some, be_none, be_ite, bn_some, bn_none, bn_ite, bn'_some, aexec_skip, aexec_region, aexec_seq, aexec_block, aexec_exit, aexec_ret, aexec_keep, aexec_cond, condK_bool, bs_normal, bs_ret, bs_exit, bs_none, bs_ite, bkp_some, bb_normal, bb_ret, bb_exit, bb_none, bb_ite, bl_normal, bl_ret, bl_exit, bl_none, bl_ite, br_ret, br_normal, br_none, br_ite, rr_some, m_none, m_some, m_st, m_fr, m_lo, m_p, m_own, m_bool, m_int, m_str, m_list, m_pcells, m_length, m_and, m_or, ite_self,
 enterSt, stepOp, guardK, evalOp, bk_some, bk_ite, bk_none, orBot, St.know, St.arg, St.get, lk, up, St.set, opt', List.length_cons, List.length_nil, List.range, List.range.loop, List.zip, List.zipWith, St.keep, pickL, List.map_cons, List.map_nil, List.any_cons, List.any_nil, mentions, mentionsL, AObj.mentions, bin, binI, avEq, isNil, isNilC, ptrEq, St.one, cellsEq, seq_b, seq_i, seq_s, una, ropRd, bound, okFor, noLocals, noLocal, AV.same, PV.same, AV.sameL, PV.sameL, PV.sameLL, sameAt, againEv, againG, againX, againOne, findIx, hand, view, viewT, allM, tupleOf, oneTup, resultsOf, result1, pureArg, allFlat, flat, frz, cellsAll, sameLen, appendTo, fillK, rg_some, rg_ite, rg_none, implies_true, true_implies, false_implies, Option.map_some, Option.map_none, Nat.reduceBEq, Nat.reduceAdd, Nat.reduceLeDiff, Nat.reduceLT, Bool.or_self, Bool.or_false, Bool.false_or, Bool.false_eq_true, Bool.true_eq_false, if_false, if_true, Bool.not_true, Bool.not_false, asInt, St.newObj, newOwns, St.obj, St.putObj, puress, pures, objOf, ofCells, AV.cells, AObj.rd, AObj.wr, sub, over, PV.scalarEq, reduceCtorEq, and_self, and_true, true_and, List.getD_cons_zero, List.getD_cons_succ, List.set_cons_zero, List.set_cons_succ, List.drop_zero, List.drop_succ_cons, List.take_zero, List.take_succ_cons, List.take_nil, List.drop_nil, fill, List.contains_cons, List.contains_nil, Bool.or_true, Bool.true_or, Bool.and_true, Bool.true_and, Bool.and_false, Bool.false_and, decide_true, decide_false, beq_self_eq_true, Int.toNat_natCast, Nat.reduceMul, Nat.reduceSub, Int.reduceToNat, Nat.zero_le, Nat.lt_irrefl, Nat.le_refl, not_true_eq_false, not_false_eq_true, decide_eq_true_eq, runD_nil, runD_cons', bod_some, Option.bind_some, stepD, againK, List.all_cons, List.all_nil, aexec_draw, Int.reduceBEq, Int.reduceBNe, Bool.not_eq_true', Int.reduceLT, Int.reduceLE, Int.reduceEq, Int.reduceNeg, Int.reduceAdd, Int.reduceSub, Int.reduceMul, Int.natCast_nonneg, List.getElem?_concat_length, true_or, or_true, false_or, or_false, false_and, and_false, Nat.reduceEqDiff, Nat.one_ne_zero, List.cons_append, List.nil_append, List.append_nil, List.length_map, hloop, fewOps, hr]
  | some left =>
    rw [hr] at hloop
    simp (implicitDefEqProofs := false) only [F6, fewEnd, List.length_nil, Int.natCast_zero] at hloop ⊢
    simp (implicitDefEqProofs := false) only [runOps_nil, runOps_cons, bo_some, bo_none, bo_ite, be_some, be_none, be_ite, bn_some, bn_none, bn_ite, bn'_some, aexec_skip, aexec_region, aexec_seq, aexec_block, aexec_exit, aexec_ret, aexec_keep, aexec_cond, condK_bool, bs_normal, bs_ret, bs_exit, bs_none, bs_ite, bkp_some, bb_normal, bb_ret, bb_exit, bb_none, bb_ite, bl_normal, bl_ret, bl_exit, bl_none, bl_ite, br_ret, br_normal, br_none, br_ite, rr_some, m_none, m_some, m_st, m_fr, m_lo, m_p, m_own, m_bool, m_int, m_str, m_list, m_pcells, m_length, m_and, m_or, ite_self,
 enterSt, stepOp, guardK, evalOp, bk_some, bk_ite, bk_none, orBot, St.know, St.arg, St.get, lk, up, St.set, opt', List.length_cons, List.length_nil, List.range, List.range.loop, List.zip, List.zipWith, St.keep, pickL, List.map_cons, List.map_nil, List.any_cons, List.any_nil, mentions, mentionsL, AObj.mentions, bin, binI, avEq, isNil, isNilC, ptrEq, St.one, cellsEq, seq_b, seq_i, seq_s, una, ropRd, bound, okFor, noLocals, noLocal, AV.same, PV.same, AV.sameL, PV.sameL, PV.sameLL, sameAt, againEv, againG, againX, againOne, findIx, hand, view, viewT, allM, tupleOf, oneTup, resultsOf, result1, pureArg, allFlat, flat, frz, cellsAll, sameLen, appendTo, fillK, rg_some, rg_ite, rg_none, implies_true, true_implies, false_implies, Option.map_some, Option.map_none, Nat.reduceBEq, Nat.reduceAdd, Nat.reduceLeDiff, Nat.reduceLT, Bool.or_self, Bool.or_false, Bool.false_or, Bool.false_eq_true, Bool.true_eq_false, if_false, if_true, Bool.not_true, Bool.not_false, asInt, St.newObj, newOwns, St.obj, St.putObj, puress, pures, objOf, ofCells, AV.cells, AObj.rd, AObj.wr, sub, over, PV.scalarEq, reduceCtorEq, and_self, and_true, true_and, List.getD_cons_zero, List.getD_cons_succ, List.set_cons_zero, List.set_cons_succ, List.drop_zero, List.drop_succ_cons, List.take_zero, List.take_succ_cons, List.take_nil, List.drop_nil, fill, List.contains_cons, List.contains_nil, Bool.or_true, Bool.true_or, Bool.and_true, Bool.true_and, Bool.and_false, Bool.false_and, decide_true, decide_false, beq_self_eq_true, Int.toNat_natCast, Nat.reduceMul, Nat.reduceSub, Int.reduceToNat, Nat.zero_le, Nat.lt_irrefl, Nat.le_refl, not_true_eq_false, not_false_eq_true, decide_eq_true_eq, runD_nil, runD_cons', bod_some, Option.bind_some, stepD, againK, List.all_cons, List.all_nil, aexec_draw, Int.reduceBEq, Int.reduceBNe, Bool.not_eq_true', Int.reduceLT, Int.reduceLE, Int.reduceEq, Int.reduceNeg, Int.reduceAdd, Int.reduceSub, Int.reduceMul, Int.natCast_nonneg, List.getElem?_concat_length, true_or, or_true, false_or, or_false, false_and, and_false, Nat.reduceEqDiff, Nat.one_ne_zero, List.cons_append, List.nil_append, List.append_nil, List.length_map, hloop, fewOps, hr]
end Go.TA.Tryd


end
