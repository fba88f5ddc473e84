/- The links that follow from rows: plain. -/
import Derived.Test.YtpomccmdhifdiaaDataR
set_option linter.unusedVariables false
namespace Go.TA.Near
open Go.TA
def hasUp (u : Int) (x : GRow) : Bool := x.up == u
def idOr (o : Option GRow) : Int := match o with
  | some x => x.id
  | none => -1
/-- The first and the last of some rows with an Up: their IDs. -/
def firstId (l : List GRow) (u : Int) : Int := idOr (l.find? (hasUp u))
def lastId (l : List GRow) (u : Int) : Int := idOr (l.reverse.find? (hasUp u))
/-- Behind the last row with an Up; 0: there is none. -/
def lastH : List GRow → Int → Nat
  | [], _ => 0
  | x :: l, u => if 0 < lastH l u then lastH l u + 1 else if hasUp u x = true then 1 else 0
def stand (l : List GRow) : Prop := ∀ (i : Nat) x, l[i]? = some x → 0 ≤ x.up ∧ x.up ≤ i

theorem lastH_snoc (l : List GRow) (x : GRow) (u : Int) : lastH (l ++ [x]) u = if hasUp u x = true then l.length + 1 else lastH l u := by
  induction l with
  | nil => simp [lastH]
  | cons y l ih =>
    simp only [List.cons_append, lastH, ih, List.length_cons]
    by_cases h : hasUp u x = true
    · simp [h]
    · simp [h]
theorem lastH_le (l : List GRow) (u : Int) : lastH l u ≤ l.length := by
  induction l with
  | nil => simp [lastH]
  | cons y l ih =>
    simp only [lastH, List.length_cons]
    split
    · omega
    · split <;> omega
theorem lastH_zero (l : List GRow) (u : Int) : lastH l u = 0 ↔ ∀ x ∈ l, hasUp u x = false := by
  induction l with
  | nil => simp [lastH]
  | cons y l ih =>
    simp only [lastH, List.mem_cons, forall_eq_or_imp]
    constructor
    · intro h
      have h0 : lastH l u = 0 := by
        by_cases h1 : 0 < lastH l u
        · simp [h1] at h
        · omega
      rw [h0] at h
      refine ⟨?_, ih.1 h0⟩
      by_cases h2 : hasUp u y = true
      · simp [h2] at h
      · simpa using h2
    · rintro ⟨h1, h2⟩
      have := ih.2 h2
      simp [this, h1]
/-- What stands where the last one is. -/
theorem lastH_get (l : List GRow) (u : Int) (k : Nat) (h : lastH l u = k + 1) : ∃ y, l[k]? = some y ∧ hasUp u y = true ∧ ∀ x ∈ l.drop (k + 1), hasUp u x = false := by
  induction l generalizing k with
  | nil => simp [lastH] at h
  | cons y l ih =>
    simp only [lastH] at h
    by_cases h1 : 0 < lastH l u
    · rw [if_pos h1] at h
      obtain ⟨m, hm⟩ : ∃ m, lastH l u = m + 1 := ⟨lastH l u - 1, by omega⟩
      obtain rfl : k = m + 1 := by omega
      obtain ⟨z, hz, h2, h3⟩ := ih m hm
      exact ⟨z, by simpa using hz, h2, by simpa using h3⟩
    · rw [if_neg h1] at h
      by_cases h2 : hasUp u y = true
      · rw [if_pos h2] at h
        obtain rfl : k = 0 := by omega
        have := (lastH_zero l u).1 (by omega)
        exact ⟨y, rfl, h2, by simpa using this⟩
      · rw [if_neg h2] at h
        omega
theorem lastH_of (l : List GRow) (u : Int) (k : Nat) (y : GRow) (h1 : l[k]? = some y) (h2 : hasUp u y = true) (h3 : ∀ x ∈ l.drop (k + 1), hasUp u x = false) : lastH l u = k + 1 := by
  induction l generalizing k with
  | nil => simp at h1
  | cons z l ih =>
    cases k with
    | zero =>
      simp only [List.getElem?_cons_zero, Option.some.injEq] at h1
      subst h1
      have : lastH l u = 0 := (lastH_zero l u).2 (by simpa using h3)
      simp [lastH, this, h2]
    | succ k =>
      have := ih k (by simpa using h1) (by simpa using h3)
      simp [lastH, this]
theorem find_none {l : List GRow} {u : Int} (h : ∀ x ∈ l, hasUp u x = false) : l.find? (hasUp u) = none := by
  rw [List.find?_eq_none]; intro x hx; simp [h x hx]
theorem firstId_none {l : List GRow} {u : Int} (h : ∀ x ∈ l, hasUp u x = false) : firstId l u = -1 := by rw [firstId, find_none h]; rfl
theorem lastId_snoc (l : List GRow) (x : GRow) (u : Int) : lastId (l ++ [x]) u = if hasUp u x = true then x.id else lastId l u := by
  unfold lastId
  rw [List.reverse_append]
  by_cases h : hasUp u x = true
  · simp [h, idOr]
  · simp [h]
theorem lastId_cons (y : GRow) (l : List GRow) (u : Int) : lastId (y :: l) u = if 0 < lastH l u then lastId l u else if hasUp u y = true then y.id else -1 := by
  unfold lastId
  rw [List.reverse_cons, List.find?_append]
  by_cases h : 0 < lastH l u
  · rw [if_pos h]
    cases hf : l.reverse.find? (hasUp u) with
    | some z => simp
    | none =>
      rw [List.find?_eq_none] at hf
      have := (lastH_zero l u).2 (fun x hx => by simpa using hf x (by simpa using hx))
      omega
  · have := (lastH_zero l u).1 (by omega)
    rw [if_neg h, find_none (by simpa using this)]
    by_cases hy : hasUp u y = true
    · simp [hy, idOr]
    · simp [hy, idOr]
theorem lastId_get {l : List GRow} {u : Int} {k : Nat} {y : GRow} (h : lastH l u = k + 1) (hy : l[k]? = some y) : lastId l u = y.id := by
  induction l generalizing k with
  | nil => simp at hy
  | cons z l ih =>
    rw [lastId_cons]
    simp only [lastH] at h
    by_cases h1 : 0 < lastH l u
    · rw [if_pos h1] at h ⊢
      obtain ⟨m, hm⟩ : ∃ m, lastH l u = m + 1 := ⟨lastH l u - 1, by omega⟩
      obtain rfl : k = m + 1 := by omega
      exact ih hm (by simpa using hy)
    · rw [if_neg h1] at h ⊢
      by_cases h2 : hasUp u z = true
      · rw [if_pos h2] at h ⊢
        obtain rfl : k = 0 := by omega
        simp at hy
        rw [hy]
      · rw [if_neg h2] at h
        omega
theorem lastId_zero {l : List GRow} {u : Int} (h : lastH l u = 0) : lastId l u = -1 := by
  have := (lastH_zero l u).1 h
  unfold lastId
  rw [find_none (by simpa using this)]; rfl
theorem firstId_snoc (l : List GRow) (x : GRow) (u : Int) : firstId (l ++ [x]) u = if (∀ y ∈ l, hasUp u y = false) ∧ hasUp u x = true then x.id else firstId l u := by
  unfold firstId
  rw [List.find?_append]
  by_cases h : ∀ y ∈ l, hasUp u y = false
  · rw [find_none h]
    by_cases hx : hasUp u x = true
    · rw [if_pos ⟨h, hx⟩]; simp [hx, idOr]
    · rw [if_neg (fun hh => hx hh.2)]; simp [hx]
  · rw [if_neg (fun hh => h hh.1)]
    have : ∃ y, l.find? (hasUp u) = some y := by
      cases hf : l.find? (hasUp u) with
      | some y => exact ⟨y, rfl⟩
      | none =>
        rw [List.find?_eq_none] at hf
        exact absurd (fun y hy => by simpa using hf y hy) h
    obtain ⟨y, hy⟩ := this
    simp [hy]

/-! ### the links behind so many rows -/
def rowUp (l : List GRow) (s : Nat) : Int := match l[s]? with
  | some x => x.up
  | none => 0
def upId (l : List GRow) (s : Nat) : Int := match l[s]? with
  | some x => if 0 < x.up then (match l[x.up.toNat - 1]? with | some y => y.id | none => 0) else 0
  | none => 0
def upAt (l : List GRow) (i s : Nat) : Int := if s = 0 then -1 else if s ≤ i then upId l (s - 1) else -1
def firstAt (l : List GRow) (i s : Nat) : Int := firstId (l.take i) s
def lastAt (l : List GRow) (i s : Nat) : Int := lastId (l.take i) s
def prevAt (l : List GRow) (i s : Nat) : Int := if s = 0 then -1 else if s ≤ i then lastId (l.take (s - 1)) (rowUp l (s - 1)) else -1
def nextAt (l : List GRow) (i s : Nat) : Int := if s = 0 then -1 else if s ≤ i then firstId ((l.take i).drop s) (rowUp l (s - 1)) else -1
def hAt (l : List GRow) (i s : Nat) : Int := (lastH (l.take i) s : Nat)
def upd (f : Nat → Int) (i : Nat) (v : Int) (s : Nat) : Int := if s = i then v else f s

section
variable {l : List GRow} {i : Nat} {x : GRow}
theorem take_snoc (h : l[i]? = some x) : l.take (i + 1) = l.take i ++ [x] := by rw [List.take_add_one, h]; rfl
theorem rowUp_get (h : l[i]? = some x) : rowUp l i = x.up := by unfold rowUp; rw [h]
theorem upAt_step (h : l[i]? = some x) (v : Int) (hv : v = upId l i) : upd (upAt l i) (i + 1) v = upAt l (i + 1) := by
  funext s
  unfold upd upAt
  by_cases h1 : s = i + 1
  · subst h1; simp [hv]
  · rw [if_neg h1]
    by_cases h2 : s = 0
    · simp [h2]
    · have : (s ≤ i + 1) = (s ≤ i) := by apply propext; omega
      simp only [h2, if_false, this]
theorem hasUp_nat {u s : Nat} (hx : x.up = (u : Int)) : hasUp (s : Int) x = decide (s = u) := by
  unfold hasUp
  rw [hx]
  by_cases h : s = u
  · subst h; simp
  · have : ¬ ((u : Int) = (s : Int)) := by omega
    simp [h, this]
theorem hAt_step (h : l[i]? = some x) {u : Nat} (hx : x.up = (u : Int)) : upd (hAt l i) u ((i : Int) + 1) = hAt l (i + 1) := by
  funext s
  have hlt := (List.getElem?_eq_some_iff.1 h).1
  unfold upd hAt
  rw [take_snoc h, lastH_snoc, hasUp_nat hx, List.length_take, Nat.min_eq_left (by omega)]
  simp only [decide_eq_true_eq]
  split <;> simp
theorem lastAt_step (h : l[i]? = some x) {u : Nat} (hx : x.up = (u : Int)) : upd (lastAt l i) u x.id = lastAt l (i + 1) := by
  funext s
  unfold upd lastAt
  rw [take_snoc h, lastId_snoc, hasUp_nat hx]
  simp only [decide_eq_true_eq]
theorem firstAt_step (h : l[i]? = some x) {u : Nat} (hx : x.up = (u : Int)) (h0 : lastH (l.take i) u = 0) : upd (firstAt l i) u x.id = firstAt l (i + 1) := by
  funext s
  unfold upd firstAt
  rw [take_snoc h, firstId_snoc, hasUp_nat hx]
  simp only [decide_eq_true_eq]
  by_cases hs : s = u
  · subst hs
    rw [if_pos rfl, if_pos ⟨(lastH_zero _ _).1 h0, rfl⟩]
  · rw [if_neg hs, if_neg (fun hh => hs hh.2)]
theorem firstAt_still (h : l[i]? = some x) {u : Nat} (hx : x.up = (u : Int)) {k : Nat} (h0 : lastH (l.take i) u = k + 1) : firstAt l i = firstAt l (i + 1) := by
  funext s
  unfold firstAt
  rw [take_snoc h, firstId_snoc, hasUp_nat hx]
  simp only [decide_eq_true_eq]
  by_cases hs : s = u
  · subst hs
    rw [if_neg]
    rintro ⟨h1, _⟩
    have := (lastH_zero _ _).2 h1
    omega
  · rw [if_neg (fun hh => hs hh.2)]
theorem prevAt_step (h : l[i]? = some x) (v : Int) (hv : v = lastId (l.take i) x.up) : upd (prevAt l i) (i + 1) v = prevAt l (i + 1) := by
  funext s
  unfold upd prevAt
  by_cases h1 : s = i + 1
  · subst h1; simp [hv, rowUp_get h]
  · rw [if_neg h1]
    by_cases h2 : s = 0
    · simp [h2]
    · have : (s ≤ i + 1) = (s ≤ i) := by apply propext; omega
      simp only [h2, if_false, this]
theorem prevAt_still (h : l[i]? = some x) (hv : lastH (l.take i) x.up = 0) : prevAt l i = prevAt l (i + 1) := by
  rw [← prevAt_step h (-1) (by rw [lastId_zero hv])]
  funext s
  unfold upd prevAt
  by_cases h1 : s = i + 1
  · subst h1; simp; intro hh; omega
  · rw [if_neg h1]
theorem nextAt_succ (h : l[i]? = some x) (s : Nat) : nextAt l (i + 1) s = if s ≠ 0 ∧ s ≤ i ∧ (∀ y ∈ (l.take i).drop s, hasUp (rowUp l (s - 1)) y = false) ∧ hasUp (rowUp l (s - 1)) x = true then x.id else nextAt l i s := by
  have hlt := (List.getElem?_eq_some_iff.1 h).1
  unfold nextAt
  by_cases h2 : s = 0
  · simp [h2]
  · simp only [h2, if_false, ne_eq, not_false_eq_true, true_and]
    by_cases h3 : s ≤ i
    · rw [if_pos (show s ≤ i + 1 by omega), take_snoc h, List.drop_append_of_le_length (by rw [List.length_take]; omega), firstId_snoc]
      simp only [h3, true_and, if_true]
    · simp only [h3, false_and, if_false]
      by_cases h4 : s ≤ i + 1
      · rw [if_pos h4]
        have : (l.take (i + 1)).drop s = [] := List.drop_eq_nil_of_le (by rw [List.length_take]; omega)
        rw [this]; rfl
      · rw [if_neg h4]
theorem nextAt_step (h : l[i]? = some x) {u : Nat} (hx : x.up = (u : Int)) {k : Nat} (h0 : lastH (l.take i) u = k + 1) : upd (nextAt l i) (k + 1) x.id = nextAt l (i + 1) := by
  funext s
  have hlt := (List.getElem?_eq_some_iff.1 h).1
  have hle := lastH_le (l.take i) u
  rw [List.length_take, Nat.min_eq_left (by omega)] at hle
  rw [nextAt_succ h]
  unfold upd
  by_cases hs : s = k + 1
  · subst hs
    obtain ⟨y, hy, hu, hd⟩ := lastH_get _ _ _ h0
    have hy2 : l[k]? = some y := by rw [List.getElem?_take_of_lt (by omega)] at hy; exact hy
    have hyu : y.up = (u : Int) := by simpa [hasUp] using hu
    rw [if_pos rfl, if_pos]
    simp only [Nat.add_sub_cancel, rowUp_get hy2, hyu]
    exact ⟨by omega, by omega, hd, by simp [hasUp, hx]⟩
  · rw [if_neg hs, if_neg]
    rintro ⟨h1, h2, h3, h4⟩
    obtain ⟨m, rfl⟩ : ∃ m, s = m + 1 := ⟨s - 1, by omega⟩
    obtain ⟨y, hy⟩ := get_some (l := l) (i := m) (by omega)
    simp only [Nat.add_sub_cancel, rowUp_get hy] at h3 h4
    have h5 : x.up = y.up := by simpa [hasUp] using h4
    have h6 : y.up = (u : Int) := by rw [← h5, hx]
    rw [h6] at h3
    have h7 := lastH_of (l.take i) u m y (by rw [List.getElem?_take_of_lt (by omega)]; exact hy) (by simp [hasUp, h6]) h3
    omega
theorem nextAt_still (h : l[i]? = some x) {u : Nat} (hx : x.up = (u : Int)) (h0 : lastH (l.take i) u = 0) : nextAt l i = nextAt l (i + 1) := by
  funext s
  have hlt := (List.getElem?_eq_some_iff.1 h).1
  rw [nextAt_succ h, if_neg]
  rintro ⟨h1, h2, h3, h4⟩
  obtain ⟨m, rfl⟩ : ∃ m, s = m + 1 := ⟨s - 1, by omega⟩
  obtain ⟨y, hy⟩ := get_some (l := l) (i := m) (by omega)
  simp only [Nat.add_sub_cancel, rowUp_get hy] at h3 h4
  have h5 : x.up = y.up := by simpa [hasUp] using h4
  have h6 : y.up = (u : Int) := by rw [← h5, hx]
  rw [h6] at h3
  have h7 := lastH_of (l.take i) u m y (by rw [List.getElem?_take_of_lt (by omega)]; exact hy) (by simp [hasUp, h6]) h3
  omega
end
end Go.TA.Near
