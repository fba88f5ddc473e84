/- Part 3 of 6 of a proof; joined from Road, Dec, DataR, Chain, ValidLow0. Functions of the program, lowered: each is held against the program's own text by the kernel. -/
import Derived.Test.YtnjblmbobmbgkaaDoorVn2
import Derived.ReadAgain
import Derived.ChangeArms
import Derived.ChangeSame
import Derived.ChangeBears
import Derived.ChangeShapes
import Derived.Test.YtnjblmbobmbgkaaDoorVn1
import Derived.Test.YtnjblmbobmbgkaaDoorProg
section
/- From what a statement reads to the machine, and back. -/
set_option linter.unusedVariables false
set_option linter.unusedSimpArgs false

/-! ## Road -/
namespace Go.TA

/-! ### shapes -/
inductive Sh where
  | bool
  | int (k : IntKind)
  | str
  | sl (e : Nat)
  deriving DecidableEq
def flat? : List (Option (List Sh)) → Option (List Sh)
  | [] => some []
  | some a :: l => (flat? l).map (a ++ ·)
  | none :: _ => none
def shOf (P : Program) : Nat → TypeId → Option (List Sh)
  | 0, _ => none
  | d + 1, t => match P.underlying t with
    | some .bool => some [.bool]
    | some (.int k) => some [.int k]
    | some .string => some [.str]
    | some (.slice e) => some [.sl e]
    | some (.struct fs) => flat? (fs.toList.map fun f => shOf P d f.type)
    | _ => none
/-- Types that lead to no others. -/
def closedB (P : Program) (D : Nat) (gs : List TypeId) : Bool := gs.all fun t => t < P.types.size && (shOf P D t).isSome && match P.underlying t with
  | some .bool | some (.int _) | some .string => true
  | some (.slice e) => gs.contains e
  | some (.struct fs) => fs.toList.all fun f => gs.contains f.type
  | _ => false
mutual
def okV (tb : Nat → Option (List Sh)) : Sh → PV → Prop
  | .bool, .bool _ => True
  | .int k, .int k' n => k' = k ∧ (Lit.int k n).wf = true
  | .str, .str _ => True
  | .sl e, .list xs => match tb e with
    | some shs => okVss tb shs xs
    | none => False
  | _, _ => False
def okVs (tb : Nat → Option (List Sh)) : List Sh → List PV → Prop
  | [], [] => True
  | s :: l, v :: r => okV tb s v ∧ okVs tb l r
  | _, _ => False
def okVss (tb : Nat → Option (List Sh)) (shs : List Sh) : List (List PV) → Prop
  | [] => True
  | x :: r => okVs tb shs x ∧ okVss tb shs r
end
mutual
def PV.bulk : PV → Nat
  | .str s => s.length + 1
  | .list xs => bulkLL xs + 1
  | .agg cs => bulkL cs + 1
  | _ => 1
def bulkL : List PV → Nat
  | [] => 0
  | a :: l => PV.bulk a + bulkL l
def bulkLL : List (List PV) → Nat
  | [] => 0
  | a :: l => bulkL a + bulkLL l
end
/-- How a statement counts. -/
structure Bulk {H : Type} (B : DataW H → Nat) (BA : List (DataW H) → Nat) : Prop where
  str : ∀ bs, B (.lit (.string bs)) = bs.length + 1
  lit : ∀ l, 1 ≤ B (.lit l)
  nil : 1 ≤ B .nil
  slice : ∀ a b, B (.slice a b) = BA a + BA b + 1
  agg : ∀ a, B (.agg a) = BA a + 1
  nilA : BA [] = 0
  consA : ∀ d r, BA (d :: r) = B d + BA r

/-! ### relations of lists -/
def RelL (w : World) (N : Nat → Prop) : List PV → List Value → Prop
  | [], [] => True
  | p :: l, v :: r => RelP w N p v ∧ v.oneCell' = true ∧ RelL w N l r
  | _, _ => False
section
variable {w : World} {N : Nat → Prop}
theorem RelL.len : ∀ {l : List PV} {r : List Value}, RelL w N l r → l.length = r.length
  | [], [], _ => rfl
  | _ :: _, _ :: _, ⟨_, _, h⟩ => by simp [RelL.len h]
  | [], _ :: _, h => h.elim
  | _ :: _, [], h => h.elim
theorem RelL.get : ∀ {l : List PV} {r : List Value}, RelL w N l r → ∀ j (h : j < l.length) (h' : j < r.length), RelP w N (l[j]) (r[j]) ∧ (r[j]).oneCell' = true
  | [], [], _, j, h, _ => by simp at h
  | p :: l, v :: r, ⟨a, b, h⟩, j, h1, h2 => by
    cases j with
    | zero => exact ⟨a, b⟩
    | succ j => exact RelL.get h j (by simpa using h1) (by simpa using h2)
  | [], _ :: _, h, _, _, _ => h.elim
  | _ :: _, [], h, _, _, _ => h.elim
theorem RelL.append : ∀ {l l' : List PV} {r r' : List Value}, RelL w N l r → RelL w N l' r' → RelL w N (l ++ l') (r ++ r')
  | [], _, [], _, _, h' => h'
  | p :: l, _, v :: r, _, ⟨a, b, h⟩, h' => ⟨a, b, RelL.append h h'⟩
  | [], _, _ :: _, _, h, _ => h.elim
  | _ :: _, _, [], _, h, _ => h.elim
theorem RelL.agg {l : List PV} {r : List Value} (h : RelL w N l r) : RelP w N (.agg l) (.agg r.toArray) := by
  refine .agg l r h.len (fun v hv => ?_) (fun j h1 h2 => (h.get j h1 h2).1)
  obtain ⟨j, hj, rfl⟩ := List.getElem_of_mem hv
  exact (h.get j (by rw [h.len]; exact hj) hj).2
end
theorem okVs_append {tb : Nat → Option (List Sh)} : ∀ {a b : List Sh} {x y : List PV}, okVs tb a x → okVs tb b y → okVs tb (a ++ b) (x ++ y)
  | [], _, [], _, _, h => h
  | s :: a, _, v :: x, _, h, h' => by simp only [okVs] at h; exact ⟨h.1, okVs_append h.2 h'⟩
  | [], _, _ :: _, _, h, _ => by simp [okVs] at h
  | _ :: _, _, [], _, h, _ => by simp [okVs] at h
theorem bulkL_append : ∀ (a b : List PV), bulkL (a ++ b) = bulkL a + bulkL b
  | [], b => by simp [bulkL]
  | x :: a, b => by simp only [List.cons_append, bulkL, bulkL_append a b]; omega
theorem okVss_of {tb : Nat → Option (List Sh)} {shs : List Sh} : ∀ {xs : List (List PV)}, (∀ i (h : i < xs.length), okVs tb shs (xs[i])) → okVss tb shs xs
  | [], _ => trivial
  | x :: r, h => ⟨h 0 (by simp), okVss_of (fun i hi => h (i + 1) (by simpa using hi))⟩
theorem exists_list {α : Type} {p : Nat → α → Prop} : ∀ {n : Nat}, (∀ i, i < n → ∃ x, p i x) → ∃ l : List α, l.length = n ∧ ∀ i (h : i < l.length), p i (l[i])
  | 0, _ => ⟨[], rfl, by simp⟩
  | n + 1, h => by
    obtain ⟨l, h1, h2⟩ := exists_list (n := n) (fun i hi => h i (by omega))
    obtain ⟨x, hx⟩ := h n (by omega)
    refine ⟨l ++ [x], by simp [h1], fun i hi => ?_⟩
    by_cases e : i < l.length
    · rw [List.getElem_append_left e]; exact h2 i e
    · have : i = n := by simp at hi; omega
      subst this
      rw [List.getElem_append_right (by omega)]
      simpa using hx

section
variable {H : Type} {enc : TypeId × Value → H} {P : Program} {W : World} {base : Nat} {spare : Nat → Bool} {held : Bool} {B : DataW H → Nat} {BA : List (DataW H) → Nat} {D0 : Nat} {gs : List TypeId}
abbrev Any : Nat → Prop := fun _ => True

theorem closed_in (h : closedB P D0 gs = true) {t : TypeId} (ht : t ∈ gs) : t < P.types.size ∧ (shOf P D0 t).isSome = true ∧ (match P.underlying t with
  | some .bool | some (.int _) | some .string => true
  | some (.slice e) => gs.contains e
  | some (.struct fs) => fs.toList.all fun f => gs.contains f.type
  | _ => false) = true := by
  simp only [closedB, List.all_eq_true, Bool.and_eq_true, decide_eq_true_eq] at h
  exact ⟨(h t ht).1.1, (h t ht).1.2, (h t ht).2⟩
/-- What is told of one value's cells. -/
def Told (P : Program) (W : World) (D0 : Nat) (B : DataW H → Nat) (shs : List Sh) (cs : List Value) (d : DataW H) : Prop := ∃ pvs, okVs (shOf P D0) shs pvs ∧ RelL W Any pvs cs ∧ bulkL pvs ≤ B d
theorem told_fields (hb : Bulk B BA) : ∀ (fs : List Field) (o : Nat) (cs : List Value) (oshs : List (Option (List Sh))) (ds : List (DataW H)) {shs : List Sh}, flat? oshs = some shs → oshs.length = fs.length → ds.length = fs.length →
    (∀ (j : Nat) (f : Field), fs[j]? = some f → f.offset = o + ((fs.take j).map fun f => P.cellsOf f.type).sum) → cs.length = o + (fs.map fun f => P.cellsOf f.type).sum →
    (∀ (j : Nat) (f : Field) (s : List Sh) (d : DataW H), fs[j]? = some f → oshs[j]? = some (some s) → ds[j]? = some d → Told P W D0 B s ((cs.drop f.offset).take (P.cellsOf f.type)) d) →
    ∃ pvs, okVs (shOf P D0) shs pvs ∧ RelL W Any pvs (cs.drop o) ∧ bulkL pvs ≤ BA ds
  | [], o, cs, oshs, ds, shs, hf, hl1, hl2, hoff, hlen, hall => by
    have : oshs = [] := List.eq_nil_of_length_eq_zero hl1
    subst this
    have : ds = [] := List.eq_nil_of_length_eq_zero hl2
    subst this
    simp only [flat?, Option.some.injEq] at hf
    subst hf
    refine ⟨[], trivial, ?_, by simp [bulkL]⟩
    have : cs.drop o = [] := List.drop_eq_nil_of_le (by simp at hlen; omega)
    rw [this]; trivial
  | f :: fs, o, cs, oshs, ds, shs, hf, hl1, hl2, hoff, hlen, hall => by
    match oshs, ds, hl1, hl2 with
    | [], _, h, _ => simp at h
    | _ :: _, [], _, h => simp at h
    | none :: _, _ :: _, _, _ => simp [flat?] at hf
    | some s :: oshs, d :: ds, hl1, hl2 =>
      simp only [flat?, Option.map_eq_some_iff] at hf
      obtain ⟨shs', hf, rfl⟩ := hf
      have h0 : f.offset = o := by simpa using hoff 0 f rfl
      obtain ⟨p, p1, p2, p3⟩ := hall 0 f s d rfl rfl rfl
      rw [h0] at p2
      simp only [List.map_cons, List.sum_cons] at hlen
      obtain ⟨q, q1, q2, q3⟩ := told_fields hb fs (o + P.cellsOf f.type) cs oshs ds hf (by simpa using hl1) (by simpa using hl2) (fun j g hg => by
        have := hoff (j + 1) g (by simpa using hg)
        simp only [List.take_succ_cons, List.map_cons, List.sum_cons] at this
        omega) (by omega) (fun j g s' d' hg hs hd => hall (j + 1) g s' d' (by simpa using hg) (by simpa using hs) (by simpa using hd))
      refine ⟨p ++ q, okVs_append p1 q1, ?_, by rw [bulkL_append, hb.consA]; omega⟩
      have := p2.append q2
      have e : (cs.drop o).take (P.cellsOf f.type) ++ cs.drop (o + P.cellsOf f.type) = cs.drop o := by
        rw [← List.drop_drop]; exact List.take_append_drop _ _
      rw [e] at this
      exact this
theorem cells_get {a : Addr} {n : Nat} {cs : List Value} (h : W.cells? base a n = some cs) : cs.length = n ∧ ∀ i (hi : i < cs.length), W.cell? (a.add i) = some (cs[i]) := by
  unfold World.cells? at h
  split at h
  · have hl : cs.length = n := by simpa using mapM_some_length h
    refine ⟨hl, fun i hi => ?_⟩
    have hi' : i < n := by omega
    have := mapM_some_get h i i (by simp [hi'])
    rw [this, List.getElem?_eq_getElem hi]
  · cases h
theorem spot_none {a : Addr} {v : Value} (h : W.cell? a = some v) : a.spot = none := by
  unfold World.cell? at h
  split at h
  · split at h
    · cases h
    · rename_i hs; cases e : a.spot with
      | none => rfl
      | some s => rw [e] at hs; simp at hs
  · cases h
theorem bulk_elems (hb : Bulk B BA) : ∀ (ds : List (DataW H)) (xs : List (List PV)), xs.length = ds.length → (∀ i (h : i < xs.length) (h' : i < ds.length), bulkL (xs[i]) ≤ B (ds[i])) → bulkLL xs ≤ BA ds
  | [], [], _, _ => by simp [bulkLL]
  | [], _ :: _, h, _ => by simp at h
  | _ :: _, [], h, _ => by simp at h
  | d :: ds, x :: xs, hl, h => by
    have h0 := h 0 (by simp) (by simp)
    have ih := bulk_elems hb ds xs (by simpa using hl) (fun i h1 h2 => h (i + 1) (by simpa using h1) (by simpa using h2))
    simp only [bulkLL, hb.consA]
    simp only [List.getElem_cons_zero] at h0
    omega
theorem lit_pos (hb : Bulk B BA) (l : Lit) : 1 ≤ B (.lit l) := hb.lit l
theorem trod_told (K : Kids P (· < P.types.size)) (hz : ∀ t e, t < P.types.size → P.underlying t = some (.slice e) → 0 < P.cellsOf e) (hb : Bulk B BA) (hc : closedB P D0 gs = true) :
    ∀ (n : Nat) (t : TypeId) (cs : List Value) (x : DataW H × List MemPlace) (D : Nat) (shs : List Sh), t ∈ gs → DataW.trod enc P W base spare held n t cs = some x → shOf P D t = some shs → Told P W D0 B shs cs x.1
  | 0, t, cs, x, D, shs, _, h, _ => by simp [DataW.trod] at h
  | n + 1, t, cs, x, 0, shs, _, _, h => by simp [shOf] at h
  | n + 1, t, cs, x, D + 1, shs, hg, h, hs => by
    obtain ⟨hlt, _, hkind⟩ := closed_in hc hg
    simp only [shOf] at hs
    split at hs
    · rename_i hu
      simp only [Option.some.injEq] at hs
      subst hs
      obtain ⟨b, rfl, rfl⟩ := DataW.trod_bool hu h
      exact ⟨[.bool b], ⟨trivial, trivial⟩, ⟨.bool b, rfl, trivial⟩, hb.lit _⟩
    · rename_i k hu
      simp only [Option.some.injEq] at hs
      subst hs
      obtain ⟨m, rfl, rfl, hw⟩ := DataW.trod_int hu h
      exact ⟨[.int k m], ⟨⟨rfl, hw⟩, trivial⟩, ⟨.int k m, rfl, trivial⟩, hb.lit _⟩
    · rename_i hu
      simp only [Option.some.injEq] at hs
      subst hs
      obtain ⟨s, rfl, rfl, hw⟩ := DataW.trod_string hu h
      exact ⟨[.str s.data.toList], ⟨trivial, trivial⟩, ⟨.str s.data.toList, rfl, trivial⟩, by simp [bulkL, PV.bulk, hb.str]⟩
    · rename_i e hu
      simp only [Option.some.injEq] at hs
      subst hs
      rw [hu] at hkind
      have he : e ∈ gs := by simpa using hkind
      obtain ⟨helt, hes, _⟩ := closed_in hc he
      obtain ⟨es, hes⟩ := Option.isSome_iff_exists.1 hes
      rcases DataW.trod_slice hu h with ⟨rfl, rfl⟩ | ⟨a, len, cap, elems, rest, m, hm, rfl, rfl, hba, hlc, hcap, hel, hget, _⟩
      · refine ⟨[.list []], ⟨?_, trivial⟩, ⟨.none none 0 (by simp [maxLen]), rfl, trivial⟩, ?_⟩
        · simp only [okV, hes]; trivial
        · have := hb.nil; simpa [bulkL, PV.bulk, bulkLL] using this
      · obtain rfl : n = m := by omega
        -- each element
        have each : ∀ i, i < len → ∃ q : List PV × List Value, okVs (shOf P D0) es q.1 ∧ RelL W Any q.1 q.2 ∧ W.cells? base (a.add (i * P.cellsOf e)) (P.cellsOf e) = some q.2 ∧ ∀ y, elems[i]? = some y → bulkL q.1 ≤ B y.1 := by
          intro i hi
          have hi' : i < elems.length := by omega
          have hgi := hget i hi
          rw [List.getElem?_eq_getElem hi'] at hgi
          obtain ⟨ci, hci, hti⟩ := Option.bind_eq_some_iff.1 hgi
          obtain ⟨p, p1, p2, p3⟩ := trod_told K hz hb hc n e ci _ D0 es he hti hes
          refine ⟨(p, ci), p1, p2, hci, fun y hy => ?_⟩
          rw [List.getElem?_eq_getElem hi'] at hy
          simp only [Option.some.injEq] at hy
          rw [← hy]; exact p3
        obtain ⟨qs, hql, hqs⟩ := exists_list each
        have hcz : 0 < P.cellsOf e := hz t e hlt hu
        refine ⟨[.list (qs.map (·.1))], ⟨?_, trivial⟩, ⟨?_, rfl, trivial⟩, ?_⟩
        · simp only [okV, hes]
          refine okVss_of (fun i hi => ?_)
          simp only [List.getElem_map]
          exact (hqs i (by simpa using hi)).1
        · rcases Nat.eq_zero_or_pos len with h0 | h0
          · have : qs = [] := List.eq_nil_of_length_eq_zero (by omega)
            subst this
            subst h0
            exact .none (some a) cap hcap
          · -- its block
            have hspot : a.spot = none := by
              obtain ⟨_, _, hc0, _⟩ := hqs 0 (by omega)
              obtain ⟨g1, g2⟩ := cells_get hc0
              have := g2 0 (by omega)
              simp only [Nat.zero_mul, Addr.add, if_true] at this
              exact spot_none this
            obtain ⟨b, off, sp⟩ := a
            simp only at hspot
            subst hspot
            have hcell : ∀ i j, (hi : i < qs.length) → (hj : j < P.cellsOf e) → ∃ v, ((qs[i]).2)[j]? = some v ∧ v.oneCell' = true ∧ W.cell? ⟨b, off + (i * P.cellsOf e + j), none⟩ = some v := by
              intro i j hi hj
              obtain ⟨_, h2, h3, _⟩ := hqs i hi
              obtain ⟨g1, g2⟩ := cells_get h3
              have hj' : j < ((qs[i]).2).length := by omega
              refine ⟨((qs[i]).2)[j], List.getElem?_eq_getElem hj', (h2.get j (by rw [h2.len]; exact hj') hj').2, ?_⟩
              have := g2 j hj'
              rw [add_at, add_at] at this
              rw [← this, Nat.add_assoc]
            have e0 : len = (qs.map (·.1)).length := by simp [hql]
            rw [e0]
            have hbs : b < W.heap.size := by
              obtain ⟨v, _, _, hv⟩ := hcell 0 0 (by omega) hcz
              unfold World.cell? at hv
              split at hv
              · rename_i hb'; exact (Array.getElem?_eq_some_iff.1 hb').1
              · cases hv
            refine .list _ b off cap (P.cellsOf e) (fun i j => match qs[i]? with | some q => (match q.2[j]? with | some v => if v.oneCell' = true then v else .bool true | none => .bool true) | none => .bool true) trivial hbs (by simp; omega) hcap (fun i hi => ?_) (fun i j hi hj => ?_) (fun i j => ?_) (fun i j hi hj => ?_)
            · simp only [List.getElem_map]
              have hi' : i < qs.length := by simpa using hi
              obtain ⟨_, h2, h3, _⟩ := hqs i hi'
              rw [h2.len, (cells_get h3).1]
            · have hi' : i < qs.length := by simpa using hi
              obtain ⟨v, v1, v2, v3⟩ := hcell i j hi' hj
              simp only [List.getElem?_eq_getElem hi', v1, v2, if_true]
              exact v3
            · split
              · split
                · split
                  · assumption
                  · rfl
                · rfl
              · rfl
            · have hi' : i < qs.length := by simpa using hi
              simp only [List.getElem_map] at hj ⊢
              obtain ⟨_, h2, h3, _⟩ := hqs i hi'
              have hj' : j < ((qs[i]).2).length := by rw [← h2.len]; exact hj
              have hr := h2.get j hj hj'
              simp only [List.getElem?_eq_getElem hi', List.getElem?_eq_getElem hj', hr.2, if_true]
              exact hr.1
        · simp only [bulkL, PV.bulk, hb.slice]
          have := bulk_elems hb (elems.map (·.1)) (qs.map (·.1)) (by simp; omega) (fun i h1 h2 => by
            simp only [List.getElem_map]
            have h2' : i < elems.length := by simpa using h2
            exact (hqs i (by simpa using h1)).2.2.2 _ (List.getElem?_eq_getElem h2'))
          omega
    · rename_i fs hu
      rw [hu] at hkind
      simp only [List.all_eq_true] at hkind
      obtain ⟨xs, m, hm, rfl, hlen, hxl, hget⟩ := DataW.trod_struct hu h
      obtain rfl : n = m := by omega
      obtain ⟨k1, k2, k3⟩ := K.struct hlt hu
      have := told_fields (P := P) (W := W) (D0 := D0) hb fs.toList 0 cs (fs.toList.map fun f => shOf P D f.type) (xs.map (·.1)) hs (by simp) (by simp [hxl]) (fun j f hf => by
        have := k3 j f hf
        omega) (by rw [hlen, k2]; omega) (fun j f s d hf hsj hd => by
          have hfa : fs[j]? = some f := by simpa using hf
          have hgj := hget j f hfa
          have hjx : j < xs.length := by
            have := (Array.getElem?_eq_some_iff.1 hfa).1
            omega
          rw [List.getElem?_eq_getElem hjx] at hgj
          rw [List.getElem?_map, List.getElem?_eq_getElem hjx] at hd
          simp only [Option.map_some, Option.some.injEq] at hd
          subst hd
          rw [List.getElem?_map, hf] at hsj
          simp only [Option.map_some, Option.some.injEq] at hsj
          exact trod_told K hz hb hc n f.type _ _ D s (by simpa using hkind f (List.mem_of_getElem? hf)) hgj hsj)
      obtain ⟨p, p1, p2, p3⟩ := this
      refine ⟨p, p1, by simpa using p2, ?_⟩
      simp only [hb.agg]
      omega
    · cases hs
end
end Go.TA

/-! ## Road2 -/
namespace Go.TA

def aggT (P : Program) (t : TypeId) : Bool := match P.underlying t with
  | some (.struct _) => true
  | _ => false
def argOf (agg : Bool) (pvs : List PV) : PV := if agg then .agg pvs else pvs.getD 0 .nilp
def okArgs (P : Program) (D0 : Nat) : List TypeId → List (List PV) → Prop
  | [], [] => True
  | t :: ts, p :: ps => (∃ shs, shOf P D0 t = some shs ∧ okVs (shOf P D0) shs p) ∧ okArgs P D0 ts ps
  | _, _ => False
def argsOf (P : Program) : List TypeId → List (List PV) → List PV
  | t :: ts, p :: ps => argOf (aggT P t) p :: argsOf P ts ps
  | _, _ => []
section
variable {H : Type} {enc : TypeId × Value → H} {P : Program} {W W' : World} {base : Nat} {spare : Nat → Bool} {held : Bool} {B : DataW H → Nat} {BA : List (DataW H) → Nat} {D0 : Nat} {gs : List TypeId}

theorem okVs_len {tb : Nat → Option (List Sh)} : ∀ {a : List Sh} {x : List PV}, okVs tb a x → a.length = x.length
  | [], [], _ => rfl
  | _ :: _, _ :: _, h => by simp only [okVs] at h; simp [okVs_len h.2]
  | [], _ :: _, h => by simp [okVs] at h
  | _ :: _, [], h => by simp [okVs] at h
theorem sh_one {t : TypeId} {D : Nat} {shs : List Sh} (h : shOf P D t = some shs) (ha : aggT P t = false) : shs.length = 1 := by
  cases D with
  | zero => simp [shOf] at h
  | succ D =>
    simp only [shOf] at h
    split at h
    all_goals first | (simp only [Option.some.injEq] at h; subst h; rfl) | (simp [aggT, *] at ha; done) | cases h
theorem cells_one (hc : closedB P D0 gs = true) {t : TypeId} (ht : t ∈ gs) (ha : aggT P t = false) {v : Value} {r : Reach} {b : Nat} (hv : Value.okWide P W r b t v) : v.cells.toList = [v] := by
  obtain ⟨_, _, hk⟩ := closed_in hc ht
  cases v <;> try rfl
  rename_i cs
  unfold aggT at ha
  split at ha
  · cases ha
  split at hk <;> rename_i hu <;> simp_all [Value.okWide, Cell.okWide, Cell.ok]
theorem agg_form {t : TypeId} (ha : aggT P t = true) {v : Value} {r : Reach} {b : Nat} (hv : Value.okWide P W r b t v) : ∃ cs : List Value, v = .agg cs.toArray ∧ v.cells.toList = cs := by
  unfold aggT at ha
  split at ha
  · rename_i fs hu
    simp only [Value.okWide, hu] at hv
    obtain ⟨cs, rfl, _⟩ := hv
    exact ⟨cs.toList, by simp, rfl⟩
  · cases ha
theorem args_rel (K : Kids P (· < P.types.size)) (hz : ∀ t e, t < P.types.size → P.underlying t = some (.slice e) → 0 < P.cellsOf e) (hb : Bulk B BA) (hc : closedB P D0 gs = true) :
    ∀ {ts : List TypeId} {vs : List Value} {ds : List (DataW H)} {ps : List MemPlace}, DataW.TrodAll enc P W base spare held ts vs ds ps → (∀ t ∈ ts, t ∈ gs) → (∀ (j : Nat) t v, ts[j]? = some t → vs[j]? = some v → ∃ r b, Value.okWide P W r b t v) →
    ∃ pss, okArgs P D0 ts pss ∧ bulkLL pss ≤ BA ds ∧ (argsOf P ts pss).length = vs.length ∧ ∀ j (h : j < (argsOf P ts pss).length) (h' : j < vs.length), RelP W Any ((argsOf P ts pss)[j]) (vs[j])
  | [], [], [], _, _, _, _ => ⟨[], trivial, by simp [bulkLL], rfl, by simp [argsOf]⟩
  | t :: ts, v :: vs, d :: ds, _, ⟨p, q, ⟨n, hn⟩, h2, _⟩, hg, hw => by
    obtain ⟨pss, q1, q2, q3, q4⟩ := args_rel K hz hb hc h2 (fun t ht => hg t (by simp [ht])) (fun j t v h1 h2 => hw (j + 1) t v (by simpa using h1) (by simpa using h2))
    have ht := hg t (by simp)
    obtain ⟨_, hs, _⟩ := closed_in hc ht
    obtain ⟨shs, hs⟩ := Option.isSome_iff_exists.1 hs
    obtain ⟨pvs, p1, p2, p3⟩ := trod_told K hz hb hc n t _ _ D0 shs ht hn hs
    obtain ⟨r, b, hov⟩ := hw 0 t v rfl rfl
    refine ⟨pvs :: pss, ⟨⟨shs, hs, p1⟩, q1⟩, by simp only [bulkLL, hb.consA]; simp only at p3; omega, by simp [argsOf, q3], fun j h h' => ?_⟩
    cases j with
    | succ j => exact q4 j (by simpa [argsOf] using h) (by simpa using h')
    | zero =>
      simp only [argsOf, List.getElem_cons_zero]
      cases ha : aggT P t with
      | true =>
        obtain ⟨cs, rfl, hcs⟩ := agg_form ha hov
        rw [hcs] at p2
        simpa [argOf] using p2.agg
      | false =>
        have hl := sh_one hs ha
        rw [cells_one hc ht ha hov] at p2
        have := p2.get 0 (by rw [p2.len]; simp) (by simp)
        simp only [List.getElem_cons_zero] at this
        have hp : 0 < pvs.length := by rw [p2.len]; simp
        simp only [argOf, Bool.false_eq_true, if_false, getD_lt PV.nilp hp]
        exact this.1
theorem carry_all : ∀ {ts : List TypeId} {vs : List Value} {ds : List (DataW H)} {ps : List MemPlace}, DataW.TrodAll enc P W base spare held ts vs ds ps → (∀ p ∈ ps, W.sameAt W' p) → DataW.TrodAll enc P W' base spare held ts vs ds ps
  | [], [], [], _, h, _ => h
  | _ :: _, _ :: _, _ :: _, _, ⟨p, q, ⟨n, hn⟩, h2, e⟩, hs => ⟨p, q, ⟨n, DataW.trod_carry n _ _ _ hn (fun x hx => hs x (by rw [e]; exact List.mem_append_left _ hx))⟩, carry_all h2 (fun x hx => hs x (by rw [e]; exact List.mem_append_right _ hx)), e⟩
theorem trod_len : ∀ {ts : List TypeId} {vs : List Value} {ds : List (DataW H)} {ps : List MemPlace}, DataW.TrodAll enc P W base spare held ts vs ds ps → ds.length = ts.length
  | [], [], [], _, _ => rfl
  | _ :: _, _ :: _, _ :: _, _, ⟨_, _, _, h, _⟩ => by simp [trod_len h]
theorem same_below (h : Go.RowKit.Below W.heap.size W W') {p : MemPlace} (hp : p.block < W.heap.size) : W.sameAt W' p := by
  cases p with
  | cell b off => exact World.cell?_of_block (a := ⟨b, off, none⟩) (h.block b hp)
  | map b => exact h.block b hp
/-- What a law's statement asks behind the call: it is true, and nothing has changed. -/
theorem law_post (K : Kids P (· < P.types.size)) (hz : ∀ t e, t < P.types.size → P.underlying t = some (.slice e) → 0 < P.cellsOf e) {f : Func} {s : ChangeSpec} {apart fresh handsOn : Bool} {args : Array Value} {ds gs : List (DataW H)} {before : List MemPlace}
    (hW : DataW.Whole enc P f.params.toList s.vars apart W args.toList ds gs before) (hv : s.vars = []) {tb : TypeId} (hr : f.resultTypes = #[tb]) (hu : P.underlying tb = some .bool) (hp : ∀ t ∈ f.params.toList, t < P.types.size)
    (hspec : s.fn H ds = { results := [.lit (.bool true)], args := ds }) (hB : Go.RowKit.Below W.heap.size W W') : s.post enc P f apart fresh handsOn false W args (.bool true) W' := by
  have hW' := hW
  obtain ⟨p, q, h1, h2, rfl, h4, h5⟩ := hW
  rw [hv] at h2
  obtain ⟨rfl, rfl⟩ := Go.ChangeShapes.trodVars_none h2
  have hlt := h1.lt
  have hold : ∀ x ∈ p, (fun b => decide (b < W.heap.size)) x.block = true := fun x hx => by simpa using hlt x hx
  refine ⟨ds, [], p ++ [], [], p, [], hW', ?_, ?_, ?_, hB.frame _, fun h => by cases h⟩
  · rw [hr, List.append_nil, hspec]
    exact ⟨[], [], ⟨1, by simp [DataW.trod, hu, Value.cells]⟩, rfl, rfl⟩
  · rw [List.append_nil, hspec]
    exact (carry_all h1 (fun x hx => same_below hB (hlt x hx))).respare K hz hp hold
  · rw [hv, List.append_nil, hspec]
    exact rfl

/-! ### the call -/
def Γ0 : Ground := ⟨0, fun _ => True, fun _ _ => Nat.zero_le _, fun _ _ _ _ _ => trivial⟩
def Cx.zero (W : World) : Cx := ⟨fun _ => False, fun _ _ => none, [], [], W⟩
theorem relH_zero {Γ : Ground} (W : World) (hW : Γ.holds W) : RelH Γ (Cx.zero W) where
  ground := hW
  objs z k ob hob := by cases z <;> simp [Cx.obj, Cx.zero, lk] at hob
  inj z k z' k' b h := by simp [Cx.zero] at h
  live z k b h := by simp [Cx.zero] at h
  xlt b hb := hb.elim
theorem law_calls_at {Γ : Ground} (hW : Γ.holds W) (hm : P.follows .mixedOrders = true) {T : Nat → Option LFn} (hT : TOk P Γ T) {n f : Nat} {ps : List PV} {g' : List AObj} (h : acall T n f (ps.map .p) [] = some (.p (.bool true), g')) {args : Array Value}
    (hl : ps.length = args.size) (hr : ∀ j (h : j < ps.length) (h' : j < args.toList.length), RelP W Any (ps[j]) (args.toList[j])) : Calls P f args W fun e W' => e = .returned (.bool true) ∧ Go.RowKit.Below W.heap.size W W' := by
  obtain ⟨_, _, _, h4⟩ := acall_sound hm hT n f _ [] _ _ h (noLocals_p ps) (fun o h => by simp at h)
  have hN : ∀ b, (Cx.zero W).N b := fun b => ⟨fun h => h, fun ⟨z, k, h⟩ => by simp [Cx.zero] at h⟩
  have := h4 (Cx.zero W) args.toList rfl rfl (relH_zero W hW) (by simpa using hl) (fun j h h' => by
    simp only [List.getElem_map]
    exact .p _ _ ((hr j (by simpa using h) h').mono fun b _ hb => ⟨hN b, hb, rfl⟩))
  rw [Array.toArray_toList] at this
  refine Calls.mono this (fun e w' he => ?_)
  obtain ⟨v, rfl, c', _, _, rfl, hE, _, hv⟩ := he
  exact ⟨by rw [relV_bool hv], hE.os, hE.tape, hE.output, hE.size, fun k hk => hE.keep k hk (fun ⟨z, k, h⟩ => by simp [Cx.zero] at h)⟩
theorem law_calls (hm : P.follows .mixedOrders = true) {T : Nat → Option LFn} (hT : TOk P Γ0 T) {n f : Nat} {ps : List PV} {g' : List AObj} (h : acall T n f (ps.map .p) [] = some (.p (.bool true), g')) {args : Array Value}
    (hl : ps.length = args.size) (hr : ∀ j (h : j < ps.length) (h' : j < args.toList.length), RelP W Any (ps[j]) (args.toList[j])) : Calls P f args W fun e W' => e = .returned (.bool true) ∧ Go.RowKit.Below W.heap.size W W' := law_calls_at (Γ := Γ0) trivial hm hT h hl hr
end
/-- A row of a table. -/
def RowOk (P : Program) (Γ : Ground) (e : Nat × LFn) : Prop := match e.2 with
  | .code F => FnSound P e.1 F
  | .prim p => PrimOk P Γ e.1 p
theorem tOk_of {P : Program} {Γ : Ground} {tab : List (Nat × LFn)} (h : ∀ e ∈ tab, RowOk P Γ e) : TOk P Γ (fun k => lk tab k) := fun f => by
  change match lk tab f with
    | some (.code F) => FnSound P f F
    | some (.prim p) => PrimOk P Γ f p
    | none => True
  cases e : lk tab f with
  | none => trivial
  | some x =>
    have := h (f, x) (lk_mem e)
    cases x <;> exact this
end Go.TA

end
section
/- Values of the machine, read as data. -/
set_option linter.unusedVariables false
set_option linter.unusedSimpArgs false
namespace Go.TA
section
variable {tb : Nat → Option (List Sh)}
theorem dec_str {l : List Sh} {ps : List PV} (h : okVs tb (.str :: l) ps) : ∃ s r, ps = .str s :: r ∧ okVs tb l r := by
  cases ps with
  | nil => simp [okVs] at h
  | cons p r =>
    simp only [okVs] at h
    cases p <;> simp [okV] at h
    exact ⟨_, r, rfl, h⟩
theorem dec_int {k : IntKind} {l : List Sh} {ps : List PV} (h : okVs tb (.int k :: l) ps) : ∃ n r, ps = .int k n :: r ∧ (Lit.int k n).wf = true ∧ okVs tb l r := by
  cases ps with
  | nil => simp [okVs] at h
  | cons p r =>
    simp only [okVs] at h
    cases p <;> simp [okV] at h
    obtain ⟨⟨rfl, hw⟩, hr⟩ := h
    exact ⟨_, r, rfl, hw, hr⟩
theorem dec_list {e : Nat} {l : List Sh} {ps : List PV} {es : List Sh} (ht : tb e = some es) (h : okVs tb (.sl e :: l) ps) : ∃ xs r, ps = .list xs :: r ∧ okVss tb es xs ∧ okVs tb l r := by
  cases ps with
  | nil => simp [okVs] at h
  | cons p r =>
    simp only [okVs] at h
    cases p <;> simp [okV, ht] at h
    exact ⟨_, r, rfl, h.1, h.2⟩
theorem dec_nil {ps : List PV} (h : okVs tb [] ps) : ps = [] := by
  cases ps with
  | nil => rfl
  | cons p r => simp [okVs] at h
def i64ok (n : Int) : Prop := -9223372036854775808 ≤ n ∧ n ≤ 9223372036854775807
theorem wf_i64 {n : Int} (h : (Lit.int .i64 n).wf = true) : i64ok n := by
  simpa [Lit.wf, IntKind.min, IntKind.max, IntKind.signed, IntKind.bits, i64ok] using h
theorem dec_attrs : ∀ {xs : List (List PV)}, okVss tb [.str, .str] xs → ∃ l : List Attr, xs = l.map Attr.pv
  | [], _ => ⟨[], rfl⟩
  | x :: xs, h => by
    simp only [okVss] at h
    obtain ⟨l, rfl⟩ := dec_attrs h.2
    obtain ⟨a, r1, rfl, h1⟩ := dec_str h.1
    obtain ⟨b, r2, rfl, h2⟩ := dec_str h1
    obtain rfl := dec_nil h2
    exact ⟨⟨a, b⟩ :: l, rfl⟩
def opSh (a : Nat) : List Sh := [.int .i64, .int .i64, .int .i64, .int .i64, .str, .str, .str, .str, .sl a]
def GOp.ok (x : GOp) : Prop := i64ok x.kind ∧ i64ok x.node ∧ i64ok x.up ∧ i64ok x.before
theorem dec_op {a : Nat} (ha : tb a = some [.str, .str]) {ps : List PV} (h : okVs tb (opSh a) ps) : ∃ x : GOp, ps = x.pv ∧ x.ok := by
  unfold opSh at h
  obtain ⟨k, r1, rfl, w1, h1⟩ := dec_int h
  obtain ⟨n, r2, rfl, w2, h2⟩ := dec_int h1
  obtain ⟨u, r3, rfl, w3, h3⟩ := dec_int h2
  obtain ⟨b, r4, rfl, w4, h4⟩ := dec_int h3
  obtain ⟨s1, r5, rfl, h5⟩ := dec_str h4
  obtain ⟨s2, r6, rfl, h6⟩ := dec_str h5
  obtain ⟨s3, r7, rfl, h7⟩ := dec_str h6
  obtain ⟨s4, r8, rfl, h8⟩ := dec_str h7
  obtain ⟨xs, r9, rfl, hx, h9⟩ := dec_list ha h8
  obtain rfl := dec_nil h9
  obtain ⟨l, rfl⟩ := dec_attrs hx
  exact ⟨⟨k, n, u, b, s1, s2, s3, s4, l⟩, rfl, wf_i64 w1, wf_i64 w2, wf_i64 w3, wf_i64 w4⟩
theorem dec_ops {a : Nat} (ha : tb a = some [.str, .str]) : ∀ {xs : List (List PV)}, okVss tb (opSh a) xs → ∃ l : List GOp, xs = l.map GOp.pv ∧ ∀ x ∈ l, x.ok
  | [], _ => ⟨[], rfl, by simp⟩
  | x :: xs, h => by
    simp only [okVss] at h
    obtain ⟨l, rfl, hl⟩ := dec_ops ha h.2
    obtain ⟨y, rfl, hy⟩ := dec_op ha h.1
    exact ⟨y :: l, rfl, by simpa using ⟨hy, hl⟩⟩
/-! ### sizes -/
theorem bulk_attrs : ∀ (l : List Attr), (∀ a ∈ l, a.value.length + a.name.length + 2 ≤ bulkLL (l.map Attr.pv)) ∧ l.length ≤ bulkLL (l.map Attr.pv)
  | [] => by simp [bulkLL]
  | a :: l => by
    obtain ⟨h1, h2⟩ := bulk_attrs l
    simp only [List.map_cons, bulkLL, Attr.pv, bulkL, PV.bulk, List.length_cons]
    refine ⟨fun b hb => ?_, by omega⟩
    rcases List.mem_cons.1 hb with rfl | hb
    · omega
    · have := h1 b hb; omega
theorem bulk_op (x : GOp) : bulkL x.pv = 8 + x.tag.length + x.key.length + x.name.length + x.text.length + bulkLL (x.attrs.map Attr.pv) + 1 := by
  simp only [GOp.pv, attrsPV, bulkL, PV.bulk]; omega
end
end Go.TA

end
section
/- Rows, as Lean has them. -/
set_option linter.unusedVariables false
set_option linter.unusedSimpArgs false
namespace Go.TA
structure GRow where
  id : Int
  up : Int
  tag : Bs
  key : Bs
  text : Bs
  attrs : List Attr
  deriving DecidableEq
def GRow.pv (x : GRow) : List PV := [.int .i64 x.id, .int .i64 x.up, .str x.tag, .str x.key, .str x.text, attrsPV x.attrs]
def rowSh (a : Nat) : List Sh := [.int .i64, .int .i64, .str, .str, .str, .sl a]
def GRow.ok (x : GRow) : Prop := i64ok x.id ∧ i64ok x.up
section
variable {tb : Nat → Option (List Sh)}
theorem dec_row {a : Nat} (ha : tb a = some [.str, .str]) {ps : List PV} (h : okVs tb (rowSh a) ps) : ∃ x : GRow, ps = x.pv ∧ x.ok := by
  unfold rowSh at h
  obtain ⟨k, r1, rfl, w1, h1⟩ := dec_int h
  obtain ⟨n, r2, rfl, w2, h2⟩ := dec_int h1
  obtain ⟨s1, r5, rfl, h5⟩ := dec_str h2
  obtain ⟨s2, r6, rfl, h6⟩ := dec_str h5
  obtain ⟨s3, r7, rfl, h7⟩ := dec_str h6
  obtain ⟨xs, r9, rfl, hx, h9⟩ := dec_list ha h7
  obtain rfl := dec_nil h9
  obtain ⟨l, rfl⟩ := dec_attrs hx
  exact ⟨⟨k, n, s1, s2, s3, l⟩, rfl, wf_i64 w1, wf_i64 w2⟩
theorem dec_rows {a : Nat} (ha : tb a = some [.str, .str]) : ∀ {xs : List (List PV)}, okVss tb (rowSh a) xs → ∃ l : List GRow, xs = l.map GRow.pv ∧ ∀ x ∈ l, x.ok
  | [], _ => ⟨[], rfl, by simp⟩
  | x :: xs, h => by
    simp only [okVss] at h
    obtain ⟨l, rfl, hl⟩ := dec_rows ha h.2
    obtain ⟨y, rfl, hy⟩ := dec_row ha h.1
    exact ⟨y :: l, rfl, by simpa using ⟨hy, hl⟩⟩
end
/-! ### sizes -/
def smallAttrs (l : List Attr) : Prop := ∀ a ∈ l, a.value.length + a.name.length ≤ 1048576
structure GRow.small (n : Nat) (x : GRow) : Prop where
  attrs : x.attrs.length < n
  small : smallAttrs x.attrs
  text : x.text.length + x.key.length + x.tag.length ≤ 1048576
structure Rows.small (n : Nat) (l : List GRow) : Prop where
  len : l.length < n
  row : ∀ x ∈ l, x.small n
theorem bulk_row (x : GRow) : bulkL x.pv = 5 + x.tag.length + x.key.length + x.text.length + bulkLL (x.attrs.map Attr.pv) + 1 := by
  simp only [GRow.pv, attrsPV, bulkL, PV.bulk]; omega
theorem small_row {n : Nat} {x : GRow} (h : bulkL x.pv ≤ n) (hn : n ≤ 1048576) : x.small n := by
  rw [bulk_row] at h
  obtain ⟨h1, h2⟩ := bulk_attrs x.attrs
  exact ⟨by omega, fun a ha => by have := h1 a ha; omega, by omega⟩
theorem bulk_rows : ∀ (l : List GRow), (∀ x ∈ l, bulkL x.pv ≤ bulkLL (l.map GRow.pv)) ∧ l.length ≤ bulkLL (l.map GRow.pv)
  | [] => by simp [bulkLL]
  | a :: l => by
    obtain ⟨h1, h2⟩ := bulk_rows l
    have := bulk_row a
    simp only [List.map_cons, bulkLL, List.length_cons]
    refine ⟨fun b hb => ?_, by omega⟩
    rcases List.mem_cons.1 hb with rfl | hb
    · omega
    · have := h1 b hb; omega
theorem small_rows {n : Nat} {l : List GRow} (h : bulkLL (l.map GRow.pv) < n) (hn : n ≤ 1048577) : Rows.small n l := by
  obtain ⟨h1, h2⟩ := bulk_rows l
  refine ⟨by omega, fun x hx => ?_⟩
  have h3 := h1 x hx
  have h4 := small_row (n := n - 1) (x := x) (by omega) (by omega)
  exact ⟨by have := h4.attrs; omega, h4.small, h4.text⟩
end Go.TA

end
section
/- The handles above a row. Plain. -/
set_option linter.unusedVariables false
set_option linter.unusedSimpArgs false
namespace Go.TA
def upAt (l : List GRow) (x : Nat) : Nat := ((l[x - 1]?).map (fun r => r.up.toNat)).getD 0
/-- The first rows stand below rows ahead of them. -/
def standTo (l : List GRow) (i : Nat) : Prop := ∀ (j : Nat) x, j < i → l[j]? = some x → 0 ≤ x.up ∧ x.up ≤ j
def anc (l : List GRow) : Nat → Nat → List Nat
  | 0, _ => []
  | _ + 1, 0 => []
  | f + 1, x + 1 => (x + 1) :: anc l f (upAt l (x + 1))
def chain (l : List GRow) (x : Nat) : List Nat := anc l x x
theorem chain_zero (l : List GRow) : chain l 0 = [] := rfl
theorem upAt_le {l : List GRow} {i x : Nat} (h : standTo l i) (hx : x < i) (hl : x < l.length) : upAt l (x + 1) ≤ x := by
  obtain ⟨r, hr⟩ := get_some hl
  have := h x r hx hr
  simp [upAt, hr]
  omega
theorem anc_fuel {l : List GRow} {i : Nat} (h : standTo l i) (hi : i ≤ l.length) : ∀ (x f : Nat), x ≤ i → x ≤ f → anc l f x = anc l x x := by
  intro x
  induction x using Nat.strongRecOn with
  | _ x ih =>
    intro f hx hf
    cases x with
    | zero => cases f <;> rfl
    | succ x =>
      cases f with
      | zero => omega
      | succ f =>
        simp only [anc]
        have hu := upAt_le h (x := x) (by omega) (by omega)
        rw [ih _ (by omega) f (by omega) (by omega), ih _ (by omega) x (by omega) (by omega)]
theorem chain_succ {l : List GRow} {i x : Nat} (h : standTo l i) (hi : i ≤ l.length) (hx : x < i) : chain l (x + 1) = (x + 1) :: chain l (upAt l (x + 1)) := by
  have hu := upAt_le h hx (by omega)
  unfold chain
  simp only [anc]
  rw [anc_fuel h hi _ x (by omega) hu]
theorem chain_pos {l : List GRow} : ∀ {f x : Nat} {y : Nat}, y ∈ anc l f x → 0 < y
  | 0, _, _, h => by simp [anc] at h
  | f + 1, 0, _, h => by simp [anc] at h
  | f + 1, x + 1, y, h => by
    simp only [anc, List.mem_cons] at h
    rcases h with rfl | h
    · omega
    · exact chain_pos h
theorem chain_le {l : List GRow} {i : Nat} (h : standTo l i) (hi : i ≤ l.length) : ∀ (x : Nat), x ≤ i → ∀ y ∈ chain l x, y ≤ x := by
  intro x
  induction x using Nat.strongRecOn with
  | _ x ih =>
    intro hx y hy
    cases x with
    | zero => simp [chain_zero] at hy
    | succ x =>
      rw [chain_succ h hi hx] at hy
      have hu := upAt_le h (x := x) (by omega) (by omega)
      rcases List.mem_cons.1 hy with rfl | hy
      · omega
      · have := ih _ (by omega) (by omega) y hy
        omega
theorem standTo.mono {l : List GRow} {i j : Nat} (h : standTo l i) (hij : j ≤ i) : standTo l j := fun k x hk hx => h k x (by omega) hx
def aboveB (l : List GRow) (x : Nat) (h : Int) : Bool := (chain l x).any fun y => (y : Int) == h
def rowOkB (l : List GRow) (i : Nat) (x : GRow) : Bool := if i = 0 then x.up == 0 else decide (1 ≤ x.up) && aboveB l i x.up
def formedFrom (l : List GRow) : Nat → List GRow → Bool
  | _, [] => true
  | i, x :: r => rowOkB l i x && formedFrom l (i + 1) r
def formedB (l : List GRow) : Bool := formedFrom l 0 l
theorem row_stands {l : List GRow} {i : Nat} {x : GRow} (h : standTo l i) (hi : i ≤ l.length) (hx : l[i]? = some x) (hr : rowOkB l i x = true) : standTo l (i + 1) := by
  intro j y hj hy
  by_cases e : j = i
  · subst e
    rw [hx] at hy
    cases hy
    unfold rowOkB at hr
    split at hr
    · rename_i h0
      subst h0
      have : x.up = 0 := by simpa using hr
      omega
    · simp only [Bool.and_eq_true, decide_eq_true_eq, aboveB, List.any_eq_true, beq_iff_eq] at hr
      obtain ⟨h1, y, hy, he⟩ := hr
      have := chain_le h hi j (Nat.le_refl _) y hy
      omega
  · exact h j y (by omega) hy
theorem standTo_zero (l : List GRow) : standTo l 0 := fun j x hj => by omega
/-- Where the search upward stops: at the handle that is sought, or at none. -/
theorem above_up {l : List GRow} {x : Nat} {h : Int} (ha : aboveB l x h = true) : 0 < h := by
  simp only [aboveB, List.any_eq_true, beq_iff_eq] at ha
  obtain ⟨y, hy, he⟩ := ha
  have := chain_pos hy
  omega
theorem formed_drop {l : List GRow} : ∀ {i : Nat}, formedFrom l i (l.drop i) = true → ∀ (j : Nat) x, i ≤ j → l[j]? = some x → rowOkB l j x = true := by
  intro i h j x hij hj
  obtain ⟨d, rfl⟩ : ∃ d, j = i + d := ⟨j - i, by omega⟩
  induction d generalizing i with
  | zero =>
    have e : l.drop i = x :: l.drop (i + 1) := by rw [List.drop_eq_getElem?_toList_append]; simp at hj; rw [hj]; rfl
    rw [e] at h
    simp only [formedFrom, Bool.and_eq_true] at h
    simpa using h.1
  | succ d ih =>
    have hlt : i < l.length := by
      have := (List.getElem?_eq_some_iff.1 hj).1
      omega
    obtain ⟨y, hy⟩ := get_some hlt
    have e : l.drop i = y :: l.drop (i + 1) := by rw [List.drop_eq_getElem?_toList_append, hy]; rfl
    rw [e] at h
    simp only [formedFrom, Bool.and_eq_true] at h
    have := ih h.2 (by omega) (by rw [← hj]; congr 1; omega)
    rw [show i + (d + 1) = i + 1 + d by omega]
    exact this
theorem formed_stands {l : List GRow} (h : formedB l = true) : standTo l l.length := by
  have hr := formed_drop (i := 0) (by simpa [formedB] using h)
  have key : ∀ i, i ≤ l.length → standTo l i := by
    intro i
    induction i with
    | zero => intro _; exact standTo_zero l
    | succ i ih =>
      intro hi
      obtain ⟨x, hx⟩ := get_some (show i < l.length by omega)
      exact row_stands (ih (by omega)) (by omega) hx (hr i x (by omega) hx)
  exact key _ (Nat.le_refl _)
end Go.TA

end
section
/- Functions of the program, lowered: each is held against the program's own text by the kernel. -/
set_option linter.unusedVariables false
set_option maxRecDepth 100000
namespace Go.TA.Tryd
/- tendril/tendrillaw27.PlainKeeps -/
def B3x0 : LCode :=
  (.seq (.region [
    { dst := some 38, op := .bin .lss (.t 37) (.t 36), ix := 0 }] false [0, 5, 6, 7, 36, 37, 38] []) (.seq (.cond (.t 38) (.keep [0, 5, 6, 7, 36, 37] [] .skip) (.keep [6] [] (.exit 0))) (.keep [0, 5, 6, 7, 36, 37] [] (.seq (.block 1 (.seq (.region [
    { dst := some 39, op := .move (.t 37), ix := 0 },
    { dst := some 8, op := .move (.t 39), ix := 1 }] false [0, 5, 6, 7, 8, 36, 37] []) (.seq (.region [
    { dst := some 40, op := .move (.t 7), ix := 0 },
    { dst := some 41, op := .move (.t 8), ix := 1 },
    { dst := some 42, op := .indexAddr 6 (.t 40) (.t 41), ix := 2 },
    { dst := some 43, op := .fieldAddr 0 (.t 42), ix := 3 },
    { dst := some 44, op := .load 1 false (.t 43), ix := 4 },
    { dst := some 9, op := .move (.t 44), ix := 5 }] false [0, 5, 6, 7, 8, 9, 36, 37] []) (.seq (.region [
    { dst := some 45, op := .move (.t 9), ix := 0 },
    { dst := some 46, op := .bin .lss (.t 45) (.c (.int .i64 1)), ix := 1 },
    { dst := some 47, op := .move (.t 46), ix := 2 },
    { dst := some 48, op := .move (.t 9), guard := some (47, false), ix := 3 },
    { dst := some 49, op := .move (.t 5), guard := some (47, false), ix := 4 },
    { dst := some 50, op := .call 12 [(.t 49, .as)], guard := some (47, false), ix := 5 },
    { dst := some 51, op := .bin .geq (.t 48) (.t 50), guard := some (47, false), ix := 6 },
    { dst := some 52, op := .pick (.t 47) (.c (.bool true)) (.t 51), ix := 7 }] false [0, 5, 6, 7, 8, 9, 36, 37, 52] []) (.seq (.cond (.t 52) (.seq (.region [
    { dst := some 4, op := .move (.c (.bool false)), ix := 0 }] false [4] []) (.keep [4] [] .ret)) (.keep [0, 5, 6, 7, 8, 9, 36, 37] [] .skip)) (.keep [0, 5, 6, 7, 8, 9, 36, 37] [] (.seq (.region [
    { dst := some 53, op := .move (.t 9), ix := 0 },
    { dst := some 54, op := .move (.t 0), ix := 1 },
    { dst := some 55, op := .len 1 (.t 54), ix := 2 },
    { dst := some 56, op := .bin .gtr (.t 53) (.t 55), ix := 3 }] false [0, 5, 6, 7, 8, 9, 36, 37, 56] []) (.seq (.cond (.t 56) (.keep [0, 5, 6, 7, 36, 37] [] (.exit 1)) (.keep [0, 5, 6, 7, 8, 9, 36, 37] [] .skip)) (.keep [0, 5, 6, 7, 8, 9, 36, 37] [] (.seq (.region [
    { dst := some 10, op := .move (.c (.int .i64 0)), ix := 0 }] false [0, 5, 6, 7, 8, 9, 10, 36, 37] []) (.seq (.region [
    { dst := some 57, op := .move (.t 7), ix := 0 },
    { dst := some 58, op := .move (.t 8), ix := 1 },
    { dst := some 59, op := .indexAddr 6 (.t 57) (.t 58), ix := 2 },
    { dst := some 60, op := .fieldAddr 1 (.t 59), ix := 3 },
    { dst := some 61, op := .load 1 false (.t 60), ix := 4 },
    { dst := some 62, op := .bin .gtr (.t 61) (.c (.int .i64 0)), ix := 5 }] false [0, 5, 6, 7, 8, 9, 10, 36, 37, 62] []) (.seq (.cond (.t 62) (.seq (.region [
    { dst := some 63, op := .move (.t 7), ix := 0 },
    { dst := some 64, op := .move (.t 7), ix := 1 },
    { dst := some 65, op := .move (.t 8), ix := 2 },
    { dst := some 66, op := .indexAddr 6 (.t 64) (.t 65), ix := 3 },
    { dst := some 67, op := .fieldAddr 1 (.t 66), ix := 4 },
    { dst := some 68, op := .load 1 false (.t 67), ix := 5 },
    { dst := some 69, op := .bin .sub (.t 68) (.c (.int .i64 1)), ix := 6 },
    { dst := some 70, op := .indexAddr 6 (.t 63) (.t 69), ix := 7 },
    { dst := some 71, op := .fieldAddr 0 (.t 70), ix := 8 },
    { dst := some 72, op := .load 1 false (.t 71), ix := 9 },
    { dst := some 10, op := .move (.t 72), ix := 10 }] false [0, 5, 6, 7, 8, 9, 10, 36, 37] []) (.keep [0, 5, 6, 7, 8, 9, 10, 36, 37] [] .skip)) (.keep [0, 5, 6, 7, 8, 9, 10, 36, 37] [] .skip)) (.keep [0, 5, 6, 7, 8, 9, 10, 36, 37] [] (.seq (.region [
    { dst := some 73, op := .move (.t 7), ix := 0 },
    { dst := some 74, op := .move (.t 8), ix := 1 },
    { dst := some 75, op := .indexAddr 6 (.t 73) (.t 74), ix := 2 },
    { dst := some 76, op := .fieldAddr 2 (.t 75), ix := 3 },
    { dst := some 77, op := .load 1 false (.t 76), ix := 4 },
    { dst := some 78, op := .move (.t 0), ix := 5 },
    { dst := some 79, op := .move (.t 9), ix := 6 },
    { dst := some 80, op := .bin .sub (.t 79) (.c (.int .i64 1)), ix := 7 },
    { dst := some 81, op := .indexAddr 6 (.t 78) (.t 80), ix := 8 },
    { dst := some 82, op := .fieldAddr 2 (.t 81), ix := 9 },
    { dst := some 83, op := .load 1 false (.t 82), ix := 10 },
    { dst := some 84, op := .eq .s true (.t 77) (.t 83), ix := 11 },
    { dst := some 85, op := .move (.t 84), ix := 12 },
    { dst := some 86, op := .move (.t 7), guard := some (85, false), ix := 13 },
    { dst := some 87, op := .move (.t 8), guard := some (85, false), ix := 14 },
    { dst := some 88, op := .indexAddr 6 (.t 86) (.t 87), guard := some (85, false), ix := 15 },
    { dst := some 89, op := .fieldAddr 3 (.t 88), guard := some (85, false), ix := 16 },
    { dst := some 90, op := .load 1 false (.t 89), guard := some (85, false), ix := 17 },
    { dst := some 91, op := .move (.t 0), guard := some (85, false), ix := 18 },
    { dst := some 92, op := .move (.t 9), guard := some (85, false), ix := 19 },
    { dst := some 93, op := .bin .sub (.t 92) (.c (.int .i64 1)), guard := some (85, false), ix := 20 },
    { dst := some 94, op := .indexAddr 6 (.t 91) (.t 93), guard := some (85, false), ix := 21 },
    { dst := some 95, op := .fieldAddr 3 (.t 94), guard := some (85, false), ix := 22 },
    { dst := some 96, op := .load 1 false (.t 95), guard := some (85, false), ix := 23 },
    { dst := some 97, op := .eq .s true (.t 90) (.t 96), guard := some (85, false), ix := 24 },
    { dst := some 98, op := .pick (.t 85) (.c (.bool true)) (.t 97), ix := 25 },
    { dst := some 99, op := .move (.t 98), ix := 26 },
    { dst := some 100, op := .move (.t 10), guard := some (99, false), ix := 27 },
    { dst := some 101, op := .move (.t 0), guard := some (99, false), ix := 28 },
    { dst := some 102, op := .move (.t 9), guard := some (99, false), ix := 29 },
    { dst := some 103, op := .bin .sub (.t 102) (.c (.int .i64 1)), guard := some (99, false), ix := 30 },
    { dst := some 104, op := .indexAddr 6 (.t 101) (.t 103), guard := some (99, false), ix := 31 },
    { dst := some 105, op := .fieldAddr 1 (.t 104), guard := some (99, false), ix := 32 },
    { dst := some 106, op := .load 1 false (.t 105), guard := some (99, false), ix := 33 },
    { dst := some 107, op := .eq .i true (.t 100) (.t 106), guard := some (99, false), ix := 34 },
    { dst := some 108, op := .pick (.t 99) (.c (.bool true)) (.t 107), ix := 35 }] true [0, 5, 6, 7, 36, 37, 108] []) (.seq (.cond (.t 108) (.seq (.region [
    { dst := some 4, op := .move (.c (.bool false)), ix := 0 }] false [4] []) (.keep [4] [] .ret)) (.keep [0, 5, 6, 7, 36, 37] [] .skip)) (.keep [0, 5, 6, 7, 36, 37] [] .skip)))))))))))))))) (.keep [0, 5, 6, 7, 36, 37] [] (.seq (.region [
    { dst := some 109, op := .bin .add (.t 37) (.c (.int .i64 1)), ix := 0 },
    { dst := some 37, op := .move (.t 109), ix := 1 }] false [0, 5, 6, 7, 36, 37] []) (.keep [0, 5, 6, 7, 36, 37] [] .skip)))))))
def F3 : LFunc := { nparams := 2, results := [.tmp 4], pure := true, body :=
  (.seq (.region [
    { dst := some 4, op := .move (.c (.bool false)), ix := 0 }] false [0, 1] []) (.seq (.region [
    { dst := some 11, op := .move (.t 0), ix := 0 },
    { dst := some 12, op := .pcall 5 [(.t 11, .as), (.c (.int .i64 120), .as)], ix := 1 },
    { dst := some 13, op := .un .not (.t 12), ix := 2 },
    { dst := some 14, op := .move (.t 13), ix := 3 },
    { dst := some 15, op := .move (.t 1), guard := some (14, false), ix := 4 },
    { dst := some 16, op := .pcall 6 [(.t 15, .as), (.c (.int .i64 150), .as)], guard := some (14, false), ix := 5 },
    { dst := some 17, op := .un .not (.t 16), guard := some (14, false), ix := 6 },
    { dst := some 18, op := .pick (.t 14) (.c (.bool true)) (.t 17), ix := 7 },
    { dst := some 19, op := .move (.t 18), ix := 8 },
    { dst := some 20, op := .move (.t 0), guard := some (19, false), ix := 9 },
    { dst := some 21, op := .pcall 7 [(.t 20, .as)], guard := some (19, false), ix := 10 },
    { dst := some 22, op := .eq .i true (.t 21) (.c (.int .i64 0)), guard := some (19, false), ix := 11 },
    { dst := some 23, op := .pick (.t 19) (.c (.bool true)) (.t 22), ix := 12 }] false [0, 1, 23] []) (.seq (.cond (.t 23) (.seq (.region [
    { dst := some 24, op := .pcall 8 [], ix := 0 },
    { dst := some 4, op := .move (.t 24), ix := 1 }] false [4] []) (.keep [4] [] .ret)) (.keep [0, 1] [] .skip)) (.keep [0, 1] [] (.seq (.region [
    { dst := some 26, op := .move (.t 0), ix := 0 },
    { dst := some 27, op := .call 9 [(.t 26, .as)], ix := 1 },
    { dst := some 25, op := .move (.t 27), ix := 2 },
    { dst := some 28, op := .extract (.t 25) 0, ix := 3 },
    { dst := some 29, op := .extract (.t 25) 1, ix := 4 },
    { dst := some 5, op := .move (.t 28), ix := 5 },
    { dst := some 6, op := .move (.t 29), ix := 6 }] false [0, 1, 5, 6] []) (.seq (.region [
    { dst := some 30, op := .move (.t 5), ix := 0 },
    { dst := some 31, op := .move (.t 1), ix := 1 },
    { dst := some 32, op := .call 10 [(.t 30, .as), (.t 31, .as)], ix := 2 }] false [0, 5, 6] []) (.seq (.region [
    { dst := some 33, op := .move (.t 5), ix := 0 },
    { dst := some 34, op := .call 11 [(.t 33, .as)], ix := 1 },
    { dst := some 7, op := .move (.t 34), ix := 2 }] false [0, 5, 6, 7] []) (.seq (.region [
    { dst := some 35, op := .move (.t 7), ix := 0 },
    { dst := some 36, op := .len 1 (.t 35), ix := 1 },
    { dst := some 37, op := .move (.c (.int .i64 0)), ix := 2 }] false [0, 5, 6, 7, 36, 37] []) (.seq (.block 0 (.seq (.keep [0, 5, 6, 7, 36, 37] [] (.loop B3x0)) (.keep [6] [] .skip))) (.keep [6] [] (.seq (.region [
    { dst := some 110, op := .move (.t 6), ix := 0 },
    { dst := some 111, op := .eq .i false (.t 110) (.c (.int .i64 0)), ix := 1 },
    { dst := some 112, op := .move (.t 111), ix := 2 },
    { dst := some 113, op := .pcall 8 [], guard := some (112, true), ix := 3 },
    { dst := some 114, op := .pick (.t 112) (.t 113) (.c (.bool false)), ix := 4 },
    { dst := some 4, op := .move (.t 114), ix := 5 }] false [4] []) (.keep [4] [] .ret)))))))))))) }
theorem ok3 : fnSoundB Go.Proofs.Tryd.prog 3 F3 = true := by decide +kernel
/- tendril/tendrillaw28.ValidNone -/
def B4x0 : LCode :=
  (.seq (.region [
    { dst := some 56, op := .bin .lss (.t 55) (.t 54), ix := 0 }] false [0, 1, 5, 7, 54, 55, 56] [5]) (.seq (.cond (.t 56) (.keep [0, 1, 5, 7, 54, 55] [5] .skip) (.keep [0, 1, 5] [5] (.exit 0))) (.keep [0, 1, 5, 7, 54, 55] [5] (.seq (.block 1 (.seq (.region [
    { dst := some 57, op := .move (.t 55), ix := 0 },
    { dst := some 10, op := .move (.t 57), ix := 1 }] false [0, 1, 5, 7, 10, 54, 55] [5]) (.seq (.region [
    { dst := some 58, op := .move (.t 7), ix := 0 },
    { dst := some 59, op := .move (.t 10), ix := 1 },
    { dst := some 60, op := .indexAddr 6 (.t 58) (.t 59), ix := 2 },
    { dst := some 61, op := .fieldAddr 0 (.t 60), ix := 3 },
    { dst := some 62, op := .load 1 false (.t 61), ix := 4 },
    { dst := some 63, op := .move (.t 10), ix := 5 },
    { dst := some 64, op := .bin .add (.t 63) (.c (.int .i64 1)), ix := 6 },
    { dst := some 65, op := .eq .i true (.t 62) (.t 64), ix := 7 }] false [0, 1, 5, 7, 54, 55, 65] [5]) (.seq (.cond (.t 65) (.seq (.region [
    { dst := some 6, op := .move (.c (.bool false)), ix := 0 }] false [6] []) (.keep [6] [] .ret)) (.keep [0, 1, 5, 7, 54, 55] [5] .skip)) (.keep [0, 1, 5, 7, 54, 55] [5] .skip))))) (.keep [0, 1, 5, 7, 54, 55] [5] (.seq (.region [
    { dst := some 66, op := .bin .add (.t 55) (.c (.int .i64 1)), ix := 0 },
    { dst := some 55, op := .move (.t 66), ix := 1 }] false [0, 1, 5, 7, 54, 55] [5]) (.keep [0, 1, 5, 7, 54, 55] [5] .skip)))))))
def F4 : LFunc := { nparams := 3, results := [.tmp 6], pure := true, body :=
  (.seq (.region [
    { dst := some 5, op := .box false 5 (.t 2), ix := 0 },
    { dst := some 6, op := .move (.c (.bool false)), ix := 1 }] false [0, 1, 5] [5]) (.seq (.region [
    { dst := some 15, op := .move (.t 0), ix := 0 },
    { dst := some 16, op := .pcall 5 [(.t 15, .as), (.c (.int .i64 120), .as)], ix := 1 },
    { dst := some 17, op := .un .not (.t 16), ix := 2 },
    { dst := some 18, op := .move (.t 17), ix := 3 },
    { dst := some 19, op := .move (.t 1), guard := some (18, false), ix := 4 },
    { dst := some 20, op := .pcall 6 [(.t 19, .as), (.c (.int .i64 100), .as)], guard := some (18, false), ix := 5 },
    { dst := some 21, op := .un .not (.t 20), guard := some (18, false), ix := 6 },
    { dst := some 22, op := .pick (.t 18) (.c (.bool true)) (.t 21), ix := 7 },
    { dst := some 23, op := .move (.t 22), ix := 8 },
    { dst := some 24, op := .load 9 true (.t 5), guard := some (23, false), ix := 9 },
    { dst := some 25, op := .row 9 [.t 24], guard := some (23, false), ix := 10 },
    { dst := some 26, op := .pcall 6 [(.t 25, .look), (.c (.int .i64 100), .as)], guard := some (23, false), ix := 11 },
    { dst := some 27, op := .un .not (.t 26), guard := some (23, false), ix := 12 },
    { dst := some 28, op := .pick (.t 23) (.c (.bool true)) (.t 27), ix := 13 },
    { dst := some 29, op := .move (.t 28), ix := 14 },
    { dst := some 30, op := .move (.t 0), guard := some (29, false), ix := 15 },
    { dst := some 31, op := .pcall 7 [(.t 30, .as)], guard := some (29, false), ix := 16 },
    { dst := some 32, op := .eq .i true (.t 31) (.c (.int .i64 0)), guard := some (29, false), ix := 17 },
    { dst := some 33, op := .pick (.t 29) (.c (.bool true)) (.t 32), ix := 18 }] false [0, 1, 5, 33] [5]) (.seq (.cond (.t 33) (.seq (.region [
    { dst := some 34, op := .pcall 13 [], ix := 0 },
    { dst := some 6, op := .move (.t 34), ix := 1 }] false [6] []) (.keep [6] [] .ret)) (.keep [0, 1, 5] [5] .skip)) (.keep [0, 1, 5] [5] (.seq (.region [
    { dst := some 36, op := .move (.t 0), ix := 0 },
    { dst := some 37, op := .pcall 14 [(.t 36, .as), (.c (.list []), .as), (.c (.int .i64 0), .as)], ix := 1 },
    { dst := some 35, op := .move (.t 37), ix := 2 },
    { dst := some 38, op := .extract (.t 35) 0, ix := 3 },
    { dst := some 39, op := .extract (.t 35) 1, ix := 4 },
    { dst := some 40, op := .extract (.t 35) 2, ix := 5 },
    { dst := some 7, op := .move (.t 38), ix := 6 },
    { dst := some 8, op := .move (.t 39), ix := 7 },
    { dst := some 9, op := .move (.t 40), ix := 8 }] false [0, 1, 5, 7, 8, 9] [5]) (.seq (.region [
    { dst := some 41, op := .move (.t 7), ix := 0 },
    { dst := some 42, op := .move (.t 0), ix := 1 },
    { dst := some 43, op := .pcall 15 [(.t 41, .as), (.t 42, .as)], ix := 2 },
    { dst := some 44, op := .un .not (.t 43), ix := 3 },
    { dst := some 45, op := .move (.t 44), ix := 4 },
    { dst := some 46, op := .move (.t 8), guard := some (45, false), ix := 5 },
    { dst := some 47, op := .eq .i true (.t 46) (.c (.int .i64 0)), guard := some (45, false), ix := 6 },
    { dst := some 48, op := .pick (.t 45) (.c (.bool true)) (.t 47), ix := 7 },
    { dst := some 49, op := .move (.t 48), ix := 8 },
    { dst := some 50, op := .move (.t 9), guard := some (49, false), ix := 9 },
    { dst := some 51, op := .eq .i true (.t 50) (.c (.int .i64 0)), guard := some (49, false), ix := 10 },
    { dst := some 52, op := .pick (.t 49) (.c (.bool true)) (.t 51), ix := 11 }] false [0, 1, 5, 7, 52] [5]) (.seq (.cond (.t 52) (.seq (.region [
    { dst := some 6, op := .move (.c (.bool false)), ix := 0 }] false [6] []) (.keep [6] [] .ret)) (.keep [0, 1, 5, 7] [5] .skip)) (.keep [0, 1, 5, 7] [5] (.seq (.region [
    { dst := some 53, op := .move (.t 7), ix := 0 },
    { dst := some 54, op := .len 1 (.t 53), ix := 1 },
    { dst := some 55, op := .move (.c (.int .i64 0)), ix := 2 }] false [0, 1, 5, 7, 54, 55] [5]) (.seq (.block 0 (.seq (.keep [0, 1, 5, 7, 54, 55] [5] (.loop B4x0)) (.keep [0, 1, 5] [5] .skip))) (.keep [0, 1, 5] [5] (.seq (.region [
    { dst := some 67, op := .load 9 true (.t 5), ix := 0 },
    { dst := some 68, op := .pcall 16 [(.t 67, .as)], ix := 1 },
    { dst := some 69, op := .eq .i false (.t 68) (.c (.int .i64 0)), ix := 2 }] false [0, 1, 5, 69] [5]) (.seq (.cond (.t 69) (.seq (.region [
    { dst := some 70, op := .pcall 13 [], ix := 0 },
    { dst := some 6, op := .move (.t 70), ix := 1 }] false [6] []) (.keep [6] [] .ret)) (.keep [0, 1, 5] [5] .skip)) (.keep [0, 1, 5] [5] (.seq (.region [
    { dst := some 11, op := .nilown false 1000 9, ix := 0 }] false [0, 1, 5, 11] [5, 1000]) (.seq (.region [
    { dst := some 71, op := .move (.t 11), ix := 0 },
    { dst := some 72, op := .move (.t 1), ix := 1 },
    { dst := some 73, op := .append false 1001 9 120 (.t 71) (.t 72), ix := 2 },
    { dst := some 11, op := .move (.t 73), ix := 3 }] false [0, 5, 11] [5, 1000]) (.seq (.region [
    { dst := some 74, op := .move (.t 11), ix := 0 },
    { dst := some 75, op := .load 9 true (.t 5), ix := 1 },
    { dst := some 76, op := .row 9 [.t 75], ix := 2 },
    { dst := some 77, op := .append false 1002 9 120 (.t 74) (.t 76), ix := 3 },
    { dst := some 11, op := .move (.t 77), ix := 4 }] false [0, 11] [1000]) (.seq (.region [
    { dst := some 79, op := .move (.t 0), ix := 0 },
    { dst := some 80, op := .move (.t 11), ix := 1 },
    { dst := some 81, op := .move (.t 11), ix := 2 },
    { dst := some 82, op := .len 1 (.t 81), ix := 3 },
    { dst := some 83, op := .pcall 14 [(.t 79, .as), (.t 80, .freeze), (.t 82, .as)], ix := 4 },
    { dst := some 78, op := .move (.t 83), ix := 5 },
    { dst := some 84, op := .extract (.t 78) 0, ix := 6 },
    { dst := some 85, op := .extract (.t 78) 1, ix := 7 },
    { dst := some 86, op := .extract (.t 78) 2, ix := 8 },
    { dst := some 12, op := .move (.t 84), ix := 9 },
    { dst := some 13, op := .move (.t 85), ix := 10 },
    { dst := some 14, op := .move (.t 86), ix := 11 }] false [14] []) (.seq (.region [
    { dst := some 87, op := .move (.t 14), ix := 0 },
    { dst := some 88, op := .eq .i true (.t 87) (.c (.int .i64 0)), ix := 1 },
    { dst := some 89, op := .move (.t 88), ix := 2 },
    { dst := some 90, op := .pcall 13 [], guard := some (89, true), ix := 3 },
    { dst := some 91, op := .pick (.t 89) (.t 90) (.c (.bool false)), ix := 4 },
    { dst := some 6, op := .move (.t 91), ix := 5 }] false [6] []) (.keep [6] [] .ret)))))))))))))))))))) }
theorem ok4 : fnSoundB Go.Proofs.Tryd.prog 4 F4 = true := by decide +kernel
/- tendril/tendrilplain.FewRows -/
def B5x1 : LCode :=
  (.seq (.region [
    { dst := some 54, op := .bin .lss (.t 53) (.t 52), ix := 0 }] false [0, 5, 6, 10, 11, 52, 53, 54] []) (.seq (.cond (.t 54) (.keep [0, 5, 6, 10, 11, 52, 53] [] .skip) (.keep [0, 5, 10, 11] [] (.exit 2))) (.keep [0, 5, 6, 10, 11, 52, 53] [] (.seq (.block 3 (.seq (.region [
    { dst := some 55, op := .move (.t 53), ix := 0 },
    { dst := some 7, op := .move (.t 55), ix := 1 }] false [0, 5, 6, 7, 10, 11, 52, 53] []) (.seq (.region [
    { dst := some 56, op := .move (.t 5), ix := 0 },
    { dst := some 57, op := .move (.t 0), ix := 1 },
    { dst := some 58, op := .move (.t 6), ix := 2 },
    { dst := some 59, op := .indexAddr 6 (.t 57) (.t 58), ix := 3 },
    { dst := some 60, op := .fieldAddr 5 (.t 59), ix := 4 },
    { dst := some 61, op := .load 1 false (.t 60), ix := 5 },
    { dst := some 62, op := .move (.t 7), ix := 6 },
    { dst := some 63, op := .indexAddr 2 (.t 61) (.t 62), ix := 7 },
    { dst := some 64, op := .fieldAddr 1 (.t 63), ix := 8 },
    { dst := some 65, op := .load 1 false (.t 64), ix := 9 },
    { dst := some 66, op := .len 0 (.t 65), ix := 10 },
    { dst := some 67, op := .move (.t 0), ix := 11 },
    { dst := some 68, op := .move (.t 6), ix := 12 },
    { dst := some 69, op := .indexAddr 6 (.t 67) (.t 68), ix := 13 },
    { dst := some 70, op := .fieldAddr 5 (.t 69), ix := 14 },
    { dst := some 71, op := .load 1 false (.t 70), ix := 15 },
    { dst := some 72, op := .move (.t 7), ix := 16 },
    { dst := some 73, op := .indexAddr 2 (.t 71) (.t 72), ix := 17 },
    { dst := some 74, op := .fieldAddr 0 (.t 73), ix := 18 },
    { dst := some 75, op := .load 1 false (.t 74), ix := 19 },
    { dst := some 76, op := .len 0 (.t 75), ix := 20 },
    { dst := some 77, op := .bin .add (.t 66) (.t 76), ix := 21 },
    { dst := some 78, op := .bin .quo (.t 77) (.c (.int .i64 4096)), ix := 22 },
    { dst := some 79, op := .bin .sub (.t 56) (.t 78), ix := 23 },
    { dst := some 5, op := .move (.t 79), ix := 24 }] true [0, 5, 6, 10, 11, 52, 53] []) (.keep [0, 5, 6, 10, 11, 52, 53] [] .skip)))) (.keep [0, 5, 6, 10, 11, 52, 53] [] (.seq (.region [
    { dst := some 80, op := .bin .add (.t 53) (.c (.int .i64 1)), ix := 0 },
    { dst := some 53, op := .move (.t 80), ix := 1 }] false [0, 5, 6, 10, 11, 52, 53] []) (.keep [0, 5, 6, 10, 11, 52, 53] [] .skip)))))))
def B5x0 : LCode :=
  (.seq (.region [
    { dst := some 12, op := .bin .lss (.t 11) (.t 10), ix := 0 }] false [0, 5, 10, 11, 12] []) (.seq (.cond (.t 12) (.keep [0, 5, 10, 11] [] .skip) (.keep [5] [] (.exit 0))) (.keep [0, 5, 10, 11] [] (.seq (.block 1 (.seq (.region [
    { dst := some 13, op := .move (.t 11), ix := 0 },
    { dst := some 6, op := .move (.t 13), ix := 1 }] false [0, 5, 6, 10, 11] []) (.seq (.region [
    { dst := some 14, op := .move (.t 5), ix := 0 },
    { dst := some 15, op := .bin .sub (.t 14) (.c (.int .i64 1)), ix := 1 },
    { dst := some 16, op := .move (.t 0), ix := 2 },
    { dst := some 17, op := .move (.t 6), ix := 3 },
    { dst := some 18, op := .indexAddr 6 (.t 16) (.t 17), ix := 4 },
    { dst := some 19, op := .fieldAddr 5 (.t 18), ix := 5 },
    { dst := some 20, op := .load 1 false (.t 19), ix := 6 },
    { dst := some 21, op := .len 1 (.t 20), ix := 7 },
    { dst := some 22, op := .bin .sub (.t 15) (.t 21), ix := 8 },
    { dst := some 23, op := .move (.t 0), ix := 9 },
    { dst := some 24, op := .move (.t 6), ix := 10 },
    { dst := some 25, op := .indexAddr 6 (.t 23) (.t 24), ix := 11 },
    { dst := some 26, op := .fieldAddr 4 (.t 25), ix := 12 },
    { dst := some 27, op := .load 1 false (.t 26), ix := 13 },
    { dst := some 28, op := .len 0 (.t 27), ix := 14 },
    { dst := some 29, op := .move (.t 0), ix := 15 },
    { dst := some 30, op := .move (.t 6), ix := 16 },
    { dst := some 31, op := .indexAddr 6 (.t 29) (.t 30), ix := 17 },
    { dst := some 32, op := .fieldAddr 3 (.t 31), ix := 18 },
    { dst := some 33, op := .load 1 false (.t 32), ix := 19 },
    { dst := some 34, op := .len 0 (.t 33), ix := 20 },
    { dst := some 35, op := .bin .add (.t 28) (.t 34), ix := 21 },
    { dst := some 36, op := .move (.t 0), ix := 22 },
    { dst := some 37, op := .move (.t 6), ix := 23 },
    { dst := some 38, op := .indexAddr 6 (.t 36) (.t 37), ix := 24 },
    { dst := some 39, op := .fieldAddr 2 (.t 38), ix := 25 },
    { dst := some 40, op := .load 1 false (.t 39), ix := 26 },
    { dst := some 41, op := .len 0 (.t 40), ix := 27 },
    { dst := some 42, op := .bin .add (.t 35) (.t 41), ix := 28 },
    { dst := some 43, op := .bin .quo (.t 42) (.c (.int .i64 4096)), ix := 29 },
    { dst := some 44, op := .bin .sub (.t 22) (.t 43), ix := 30 },
    { dst := some 5, op := .move (.t 44), ix := 31 }] true [0, 5, 6, 10, 11] []) (.seq (.region [
    { dst := some 45, op := .move (.t 5), ix := 0 },
    { dst := some 46, op := .bin .lss (.t 45) (.c (.int .i64 0)), ix := 1 }] false [0, 5, 6, 10, 11, 46] []) (.seq (.cond (.t 46) (.seq (.region [
    { dst := some 4, op := .move (.c (.bool false)), ix := 0 }] false [4] []) (.keep [4] [] .ret)) (.keep [0, 5, 6, 10, 11] [] .skip)) (.keep [0, 5, 6, 10, 11] [] (.seq (.region [
    { dst := some 47, op := .move (.t 0), ix := 0 },
    { dst := some 48, op := .move (.t 6), ix := 1 },
    { dst := some 49, op := .indexAddr 6 (.t 47) (.t 48), ix := 2 },
    { dst := some 50, op := .fieldAddr 5 (.t 49), ix := 3 },
    { dst := some 51, op := .load 1 false (.t 50), ix := 4 },
    { dst := some 52, op := .len 1 (.t 51), ix := 5 },
    { dst := some 53, op := .move (.c (.int .i64 0)), ix := 6 }] false [0, 5, 6, 10, 11, 52, 53] []) (.seq (.block 2 (.seq (.keep [0, 5, 6, 10, 11, 52, 53] [] (.loop B5x1)) (.keep [0, 5, 10, 11] [] .skip))) (.keep [0, 5, 10, 11] [] .skip))))))))) (.keep [0, 5, 10, 11] [] (.seq (.region [
    { dst := some 81, op := .bin .add (.t 11) (.c (.int .i64 1)), ix := 0 },
    { dst := some 11, op := .move (.t 81), ix := 1 }] false [0, 5, 10, 11] []) (.keep [0, 5, 10, 11] [] .skip)))))))
def F5 : LFunc := { nparams := 2, results := [.tmp 4], pure := true, body :=
  (.seq (.region [
    { dst := some 4, op := .move (.c (.bool false)), ix := 0 }] false [0, 1] []) (.seq (.region [
    { dst := some 8, op := .move (.t 1), ix := 0 },
    { dst := some 5, op := .move (.t 8), ix := 1 }] false [0, 5] []) (.seq (.region [
    { dst := some 9, op := .move (.t 0), ix := 0 },
    { dst := some 10, op := .len 1 (.t 9), ix := 1 },
    { dst := some 11, op := .move (.c (.int .i64 0)), ix := 2 }] false [0, 5, 10, 11] []) (.seq (.block 0 (.seq (.keep [0, 5, 10, 11] [] (.loop B5x0)) (.keep [5] [] .skip))) (.keep [5] [] (.seq (.region [
    { dst := some 82, op := .move (.t 5), ix := 0 },
    { dst := some 83, op := .bin .geq (.t 82) (.c (.int .i64 0)), ix := 1 },
    { dst := some 4, op := .move (.t 83), ix := 2 }] false [4] []) (.keep [4] [] .ret))))))) }
theorem ok5 : fnSoundB Go.Proofs.Tryd.prog 5 F5 = true := by decide +kernel
/- tendril/tendrilplain.FewOps -/
def B6x1 : LCode :=
  (.seq (.region [
    { dst := some 48, op := .bin .lss (.t 47) (.t 46), ix := 0 }] false [0, 5, 7, 11, 12, 46, 47, 48] [7]) (.seq (.cond (.t 48) (.keep [0, 5, 7, 11, 12, 46, 47] [7] .skip) (.keep [0, 5, 11, 12] [] (.exit 2))) (.keep [0, 5, 7, 11, 12, 46, 47] [7] (.seq (.block 3 (.seq (.region [
    { dst := some 49, op := .move (.t 47), ix := 0 },
    { dst := some 8, op := .move (.t 49), ix := 1 }] false [0, 5, 7, 8, 11, 12, 46, 47] [7]) (.seq (.region [
    { dst := some 50, op := .move (.t 5), ix := 0 },
    { dst := some 51, op := .fieldAddr 8 (.t 7), ix := 1 },
    { dst := some 52, op := .load 1 false (.t 51), ix := 2 },
    { dst := some 53, op := .move (.t 8), ix := 3 },
    { dst := some 54, op := .indexAddr 2 (.t 52) (.t 53), ix := 4 },
    { dst := some 55, op := .fieldAddr 1 (.t 54), ix := 5 },
    { dst := some 56, op := .load 1 false (.t 55), ix := 6 },
    { dst := some 57, op := .len 0 (.t 56), ix := 7 },
    { dst := some 58, op := .fieldAddr 8 (.t 7), ix := 8 },
    { dst := some 59, op := .load 1 false (.t 58), ix := 9 },
    { dst := some 60, op := .move (.t 8), ix := 10 },
    { dst := some 61, op := .indexAddr 2 (.t 59) (.t 60), ix := 11 },
    { dst := some 62, op := .fieldAddr 0 (.t 61), ix := 12 },
    { dst := some 63, op := .load 1 false (.t 62), ix := 13 },
    { dst := some 64, op := .len 0 (.t 63), ix := 14 },
    { dst := some 65, op := .bin .add (.t 57) (.t 64), ix := 15 },
    { dst := some 66, op := .bin .quo (.t 65) (.c (.int .i64 4096)), ix := 16 },
    { dst := some 67, op := .bin .sub (.t 50) (.t 66), ix := 17 },
    { dst := some 5, op := .move (.t 67), ix := 18 }] true [0, 5, 7, 11, 12, 46, 47] [7]) (.keep [0, 5, 7, 11, 12, 46, 47] [7] .skip)))) (.keep [0, 5, 7, 11, 12, 46, 47] [7] (.seq (.region [
    { dst := some 68, op := .bin .add (.t 47) (.c (.int .i64 1)), ix := 0 },
    { dst := some 47, op := .move (.t 68), ix := 1 }] false [0, 5, 7, 11, 12, 46, 47] [7]) (.keep [0, 5, 7, 11, 12, 46, 47] [7] .skip)))))))
def B6x0 : LCode :=
  (.seq (.region [
    { dst := some 13, op := .bin .lss (.t 12) (.t 11), ix := 0 }] false [0, 5, 11, 12, 13] []) (.seq (.cond (.t 13) (.keep [0, 5, 11, 12] [] .skip) (.keep [5] [] (.exit 0))) (.keep [0, 5, 11, 12] [] (.seq (.block 1 (.seq (.region [
    { dst := some 14, op := .move (.t 12), ix := 0 },
    { dst := some 6, op := .move (.t 14), ix := 1 }] false [0, 5, 6, 11, 12] []) (.seq (.region [
    { dst := some 15, op := .move (.t 0), ix := 0 },
    { dst := some 16, op := .move (.t 6), ix := 1 },
    { dst := some 17, op := .indexAddr 9 (.t 15) (.t 16), ix := 2 },
    { dst := some 18, op := .load 9 true (.t 17), ix := 3 },
    { dst := some 7, op := .alloc false 7 [.p (.int .i64 0), .p (.int .i64 0), .p (.int .i64 0), .p (.int .i64 0), .p (.str []), .p (.str []), .p (.str []), .p (.str []), .p (.list [])] [], ix := 4 },
    { dst := none, op := .store 9 true (.t 7) (.t 18), ix := 5 }] false [0, 5, 7, 11, 12] [7]) (.seq (.region [
    { dst := some 19, op := .move (.t 5), ix := 0 },
    { dst := some 20, op := .bin .sub (.t 19) (.c (.int .i64 1)), ix := 1 },
    { dst := some 21, op := .fieldAddr 8 (.t 7), ix := 2 },
    { dst := some 22, op := .load 1 false (.t 21), ix := 3 },
    { dst := some 23, op := .len 1 (.t 22), ix := 4 },
    { dst := some 24, op := .bin .sub (.t 20) (.t 23), ix := 5 },
    { dst := some 25, op := .fieldAddr 7 (.t 7), ix := 6 },
    { dst := some 26, op := .load 1 false (.t 25), ix := 7 },
    { dst := some 27, op := .len 0 (.t 26), ix := 8 },
    { dst := some 28, op := .fieldAddr 5 (.t 7), ix := 9 },
    { dst := some 29, op := .load 1 false (.t 28), ix := 10 },
    { dst := some 30, op := .len 0 (.t 29), ix := 11 },
    { dst := some 31, op := .bin .add (.t 27) (.t 30), ix := 12 },
    { dst := some 32, op := .fieldAddr 4 (.t 7), ix := 13 },
    { dst := some 33, op := .load 1 false (.t 32), ix := 14 },
    { dst := some 34, op := .len 0 (.t 33), ix := 15 },
    { dst := some 35, op := .bin .add (.t 31) (.t 34), ix := 16 },
    { dst := some 36, op := .fieldAddr 6 (.t 7), ix := 17 },
    { dst := some 37, op := .load 1 false (.t 36), ix := 18 },
    { dst := some 38, op := .len 0 (.t 37), ix := 19 },
    { dst := some 39, op := .bin .add (.t 35) (.t 38), ix := 20 },
    { dst := some 40, op := .bin .quo (.t 39) (.c (.int .i64 4096)), ix := 21 },
    { dst := some 41, op := .bin .sub (.t 24) (.t 40), ix := 22 },
    { dst := some 5, op := .move (.t 41), ix := 23 }] false [0, 5, 7, 11, 12] [7]) (.seq (.region [
    { dst := some 42, op := .move (.t 5), ix := 0 },
    { dst := some 43, op := .bin .lss (.t 42) (.c (.int .i64 0)), ix := 1 }] false [0, 5, 7, 11, 12, 43] [7]) (.seq (.cond (.t 43) (.seq (.region [
    { dst := some 4, op := .move (.c (.bool false)), ix := 0 }] false [4] []) (.keep [4] [] .ret)) (.keep [0, 5, 7, 11, 12] [7] .skip)) (.keep [0, 5, 7, 11, 12] [7] (.seq (.region [
    { dst := some 44, op := .fieldAddr 8 (.t 7), ix := 0 },
    { dst := some 45, op := .load 1 false (.t 44), ix := 1 },
    { dst := some 46, op := .len 1 (.t 45), ix := 2 },
    { dst := some 47, op := .move (.c (.int .i64 0)), ix := 3 }] false [0, 5, 7, 11, 12, 46, 47] [7]) (.seq (.block 2 (.seq (.keep [0, 5, 7, 11, 12, 46, 47] [7] (.loop B6x1)) (.keep [0, 5, 11, 12] [] .skip))) (.keep [0, 5, 11, 12] [] .skip)))))))))) (.keep [0, 5, 11, 12] [] (.seq (.region [
    { dst := some 69, op := .bin .add (.t 12) (.c (.int .i64 1)), ix := 0 },
    { dst := some 12, op := .move (.t 69), ix := 1 }] false [0, 5, 11, 12] []) (.keep [0, 5, 11, 12] [] .skip)))))))
def F6 : LFunc := { nparams := 2, results := [.tmp 4], pure := true, body :=
  (.seq (.region [
    { dst := some 4, op := .move (.c (.bool false)), ix := 0 }] false [0, 1] []) (.seq (.region [
    { dst := some 9, op := .move (.t 1), ix := 0 },
    { dst := some 5, op := .move (.t 9), ix := 1 }] false [0, 5] []) (.seq (.region [
    { dst := some 10, op := .move (.t 0), ix := 0 },
    { dst := some 11, op := .len 1 (.t 10), ix := 1 },
    { dst := some 12, op := .move (.c (.int .i64 0)), ix := 2 }] false [0, 5, 11, 12] []) (.seq (.block 0 (.seq (.keep [0, 5, 11, 12] [] (.loop B6x0)) (.keep [5] [] .skip))) (.keep [5] [] (.seq (.region [
    { dst := some 70, op := .move (.t 5), ix := 0 },
    { dst := some 71, op := .bin .geq (.t 70) (.c (.int .i64 0)), ix := 1 },
    { dst := some 4, op := .move (.t 71), ix := 2 }] false [4] []) (.keep [4] [] .ret))))))) }
theorem ok6 : fnSoundB Go.Proofs.Tryd.prog 6 F6 = true := by decide +kernel
/- tendril/tendrilref13.Check -/
def B7x1 : LCode :=
  (.seq (.region [
    { dst := some 48, op := .bin .lss (.t 47) (.t 46), ix := 0 }] false [0, 3, 10, 11, 46, 47, 48] []) (.seq (.cond (.t 48) (.keep [0, 3, 10, 11, 46, 47] [] .skip) (.keep [0, 10, 11] [] (.exit 2))) (.keep [0, 3, 10, 11, 46, 47] [] (.seq (.block 3 (.seq (.region [
    { dst := some 49, op := .move (.t 47), ix := 0 },
    { dst := some 5, op := .move (.t 49), ix := 1 }] false [0, 3, 5, 10, 11, 46, 47] []) (.seq (.region [
    { dst := some 50, op := .move (.t 0), ix := 0 },
    { dst := some 51, op := .move (.t 3), ix := 1 },
    { dst := some 52, op := .indexAddr 6 (.t 50) (.t 51), ix := 2 },
    { dst := some 53, op := .fieldAddr 3 (.t 52), ix := 3 },
    { dst := some 54, op := .load 1 false (.t 53), ix := 4 },
    { dst := some 55, op := .eq .s true (.t 54) (.c (.str [])), ix := 5 },
    { dst := some 56, op := .move (.t 55), ix := 6 },
    { dst := some 57, op := .move (.t 0), guard := some (56, true), ix := 7 },
    { dst := some 58, op := .move (.t 5), guard := some (56, true), ix := 8 },
    { dst := some 59, op := .indexAddr 6 (.t 57) (.t 58), guard := some (56, true), ix := 9 },
    { dst := some 60, op := .fieldAddr 1 (.t 59), guard := some (56, true), ix := 10 },
    { dst := some 61, op := .load 1 false (.t 60), guard := some (56, true), ix := 11 },
    { dst := some 62, op := .move (.t 0), guard := some (56, true), ix := 12 },
    { dst := some 63, op := .move (.t 3), guard := some (56, true), ix := 13 },
    { dst := some 64, op := .indexAddr 6 (.t 62) (.t 63), guard := some (56, true), ix := 14 },
    { dst := some 65, op := .fieldAddr 1 (.t 64), guard := some (56, true), ix := 15 },
    { dst := some 66, op := .load 1 false (.t 65), guard := some (56, true), ix := 16 },
    { dst := some 67, op := .eq .i false (.t 61) (.t 66), guard := some (56, true), ix := 17 },
    { dst := some 68, op := .pick (.t 56) (.t 67) (.c (.bool false)), ix := 18 },
    { dst := some 69, op := .move (.t 68), ix := 19 },
    { dst := some 70, op := .move (.t 0), guard := some (69, true), ix := 20 },
    { dst := some 71, op := .move (.t 5), guard := some (69, true), ix := 21 },
    { dst := some 72, op := .indexAddr 6 (.t 70) (.t 71), guard := some (69, true), ix := 22 },
    { dst := some 73, op := .fieldAddr 3 (.t 72), guard := some (69, true), ix := 23 },
    { dst := some 74, op := .load 1 false (.t 73), guard := some (69, true), ix := 24 },
    { dst := some 75, op := .move (.t 0), guard := some (69, true), ix := 25 },
    { dst := some 76, op := .move (.t 3), guard := some (69, true), ix := 26 },
    { dst := some 77, op := .indexAddr 6 (.t 75) (.t 76), guard := some (69, true), ix := 27 },
    { dst := some 78, op := .fieldAddr 3 (.t 77), guard := some (69, true), ix := 28 },
    { dst := some 79, op := .load 1 false (.t 78), guard := some (69, true), ix := 29 },
    { dst := some 80, op := .eq .s false (.t 74) (.t 79), guard := some (69, true), ix := 30 },
    { dst := some 81, op := .pick (.t 69) (.t 80) (.c (.bool false)), ix := 31 }] true [0, 3, 10, 11, 46, 47, 81] []) (.seq (.cond (.t 81) (.seq (.region [
    { dst := some 2, op := .move (.c (.int .i64 10)), ix := 0 }] false [2] []) (.keep [2] [] .ret)) (.keep [0, 3, 10, 11, 46, 47] [] .skip)) (.keep [0, 3, 10, 11, 46, 47] [] .skip))))) (.keep [0, 3, 10, 11, 46, 47] [] (.seq (.region [
    { dst := some 82, op := .bin .add (.t 47) (.c (.int .i64 1)), ix := 0 },
    { dst := some 47, op := .move (.t 82), ix := 1 }] false [0, 3, 10, 11, 46, 47] []) (.keep [0, 3, 10, 11, 46, 47] [] .skip)))))))
def B7x0 : LCode :=
  (.seq (.region [
    { dst := some 12, op := .bin .lss (.t 11) (.t 10), ix := 0 }] false [0, 10, 11, 12] []) (.seq (.cond (.t 12) (.keep [0, 10, 11] [] .skip) (.keep [] [] (.exit 0))) (.keep [0, 10, 11] [] (.seq (.block 1 (.seq (.region [
    { dst := some 13, op := .move (.t 11), ix := 0 },
    { dst := some 3, op := .move (.t 13), ix := 1 }] false [0, 3, 10, 11] []) (.seq (.region [
    { dst := some 14, op := .move (.t 3), ix := 0 },
    { dst := some 15, op := .eq .i false (.t 14) (.c (.int .i64 4096)), ix := 1 }] false [0, 3, 10, 11, 15] []) (.seq (.cond (.t 15) (.seq (.region [
    { dst := some 2, op := .move (.c (.int .i64 12)), ix := 0 }] false [2] []) (.keep [2] [] .ret)) (.keep [0, 3, 10, 11] [] .skip)) (.keep [0, 3, 10, 11] [] (.seq (.region [
    { dst := some 16, op := .move (.t 0), ix := 0 },
    { dst := some 17, op := .move (.t 3), ix := 1 },
    { dst := some 18, op := .bin .add (.t 17) (.c (.int .i64 1)), ix := 2 },
    { dst := some 19, op := .pcall 18 [(.t 16, .as), (.t 18, .as)], ix := 3 },
    { dst := some 20, op := .bin .gtr (.t 19) (.c (.int .i64 64)), ix := 4 }] false [0, 3, 10, 11, 20] []) (.seq (.cond (.t 20) (.seq (.region [
    { dst := some 2, op := .move (.c (.int .i64 11)), ix := 0 }] false [2] []) (.keep [2] [] .ret)) (.keep [0, 3, 10, 11] [] .skip)) (.keep [0, 3, 10, 11] [] (.seq (.region [
    { dst := some 21, op := .move (.t 0), ix := 0 },
    { dst := some 22, op := .move (.t 3), ix := 1 },
    { dst := some 23, op := .indexAddr 6 (.t 21) (.t 22), ix := 2 },
    { dst := some 24, op := .fieldAddr 2 (.t 23), ix := 3 },
    { dst := some 25, op := .load 1 false (.t 24), ix := 4 },
    { dst := some 26, op := .move (.t 0), ix := 5 },
    { dst := some 27, op := .move (.t 3), ix := 6 },
    { dst := some 28, op := .indexAddr 6 (.t 26) (.t 27), ix := 7 },
    { dst := some 29, op := .fieldAddr 3 (.t 28), ix := 8 },
    { dst := some 30, op := .load 1 false (.t 29), ix := 9 },
    { dst := some 31, op := .move (.t 0), ix := 10 },
    { dst := some 32, op := .move (.t 3), ix := 11 },
    { dst := some 33, op := .indexAddr 6 (.t 31) (.t 32), ix := 12 },
    { dst := some 34, op := .fieldAddr 4 (.t 33), ix := 13 },
    { dst := some 35, op := .load 1 false (.t 34), ix := 14 },
    { dst := some 36, op := .move (.t 0), ix := 15 },
    { dst := some 37, op := .move (.t 3), ix := 16 },
    { dst := some 38, op := .indexAddr 6 (.t 36) (.t 37), ix := 17 },
    { dst := some 39, op := .fieldAddr 5 (.t 38), ix := 18 },
    { dst := some 40, op := .load 1 false (.t 39), ix := 19 },
    { dst := some 41, op := .build [.p (.str []), .p (.str []), .p (.str []), .p (.list []), .nils] [(0, 1, .t 25), (1, 1, .t 30), (2, 1, .t 35), (3, 1, .t 40)], ix := 20 },
    { dst := some 42, op := .pcall 19 [(.t 41, .look)], ix := 21 },
    { dst := some 4, op := .move (.t 42), ix := 22 }] true [0, 3, 4, 10, 11] []) (.seq (.region [
    { dst := some 43, op := .move (.t 4), ix := 0 },
    { dst := some 44, op := .eq .i true (.t 43) (.c (.int .i64 0)), ix := 1 }] false [0, 3, 4, 10, 11, 44] []) (.seq (.cond (.t 44) (.seq (.region [
    { dst := some 45, op := .move (.t 4), ix := 0 },
    { dst := some 2, op := .move (.t 45), ix := 1 }] false [2] []) (.keep [2] [] .ret)) (.keep [0, 3, 10, 11] [] .skip)) (.keep [0, 3, 10, 11] [] (.seq (.region [
    { dst := some 46, op := .move (.t 3), ix := 0 },
    { dst := some 47, op := .move (.c (.int .i64 0)), ix := 1 }] false [0, 3, 10, 11, 46, 47] []) (.seq (.block 2 (.seq (.keep [0, 3, 10, 11, 46, 47] [] (.loop B7x1)) (.keep [0, 10, 11] [] .skip))) (.keep [0, 10, 11] [] .skip))))))))))))))) (.keep [0, 10, 11] [] (.seq (.region [
    { dst := some 83, op := .bin .add (.t 11) (.c (.int .i64 1)), ix := 0 },
    { dst := some 11, op := .move (.t 83), ix := 1 }] false [0, 10, 11] []) (.keep [0, 10, 11] [] .skip)))))))
def F7 : LFunc := { nparams := 1, results := [.tmp 2], pure := true, body :=
  (.seq (.region [
    { dst := some 2, op := .move (.c (.int .i64 0)), ix := 0 }] false [0] []) (.seq (.region [
    { dst := some 6, op := .move (.t 0), ix := 0 },
    { dst := some 7, op := .pcall 17 [(.t 6, .as)], ix := 1 },
    { dst := some 8, op := .un .not (.t 7), ix := 2 }] false [0, 8] []) (.seq (.cond (.t 8) (.seq (.region [
    { dst := some 2, op := .move (.c (.int .i64 2)), ix := 0 }] false [2] []) (.keep [2] [] .ret)) (.keep [0] [] .skip)) (.keep [0] [] (.seq (.region [
    { dst := some 9, op := .move (.t 0), ix := 0 },
    { dst := some 10, op := .len 1 (.t 9), ix := 1 },
    { dst := some 11, op := .move (.c (.int .i64 0)), ix := 2 }] false [0, 10, 11] []) (.seq (.block 0 (.seq (.keep [0, 10, 11] [] (.loop B7x0)) (.keep [] [] .skip))) (.keep [] [] (.seq (.region [
    { dst := some 2, op := .move (.c (.int .i64 0)), ix := 0 }] false [2] []) (.keep [2] [] .ret))))))))) }
theorem ok7 : fnSoundB Go.Proofs.Tryd.prog 7 F7 = true := by decide +kernel
/- tendril/tendrillaw27.same -/
def F8 : LFunc := { nparams := 0, results := [.tmp 0], pure := true, body :=
  (.seq (.region [
    { dst := some 0, op := .move (.c (.bool false)), ix := 0 }] false [] []) (.seq (.region [
    { dst := some 7, op := .build [.p (.int .i64 0), .p (.int .i64 0), .p (.str []), .p (.str []), .p (.str []), .p (.list [])] [(2, 1, .c (.str [112]))], ix := 0 },
    { dst := some 8, op := .row 6 [.t 7], ix := 1 },
    { dst := some 9, op := .call 9 [(.t 8, .freeze)], ix := 2 },
    { dst := some 6, op := .move (.t 9), ix := 3 },
    { dst := some 10, op := .extract (.t 6) 0, ix := 4 },
    { dst := some 11, op := .extract (.t 6) 1, ix := 5 },
    { dst := some 1, op := .move (.t 10), ix := 6 },
    { dst := some 2, op := .move (.t 11), ix := 7 }] false [1, 2] []) (.seq (.region [
    { dst := some 13, op := .move (.t 1), ix := 0 },
    { dst := some 14, op := .build [.p (.int .i64 0), .p (.int .i64 0), .p (.int .i64 0), .p (.int .i64 0), .p (.str []), .p (.str []), .p (.str []), .p (.str []), .p (.list [])] [(0, 1, .c (.int .i64 1)), (4, 1, .c (.str [98]))], ix := 1 },
    { dst := some 15, op := .build [.p (.int .i64 0), .p (.int .i64 0), .p (.int .i64 0), .p (.int .i64 0), .p (.str []), .p (.str []), .p (.str []), .p (.str []), .p (.list [])] [(0, 1, .c (.int .i64 2)), (1, 1, .c (.int .i64 2)), (2, 1, .c (.int .i64 1))], ix := 2 },
    { dst := some 16, op := .build [.p (.int .i64 0), .p (.int .i64 0), .p (.int .i64 0), .p (.int .i64 0), .p (.str []), .p (.str []), .p (.str []), .p (.str []), .p (.list [])] [(0, 1, .c (.int .i64 2)), (1, 1, .c (.int .i64 2))], ix := 3 },
    { dst := some 17, op := .row 9 [.t 14, .t 15, .t 16], ix := 4 },
    { dst := some 18, op := .call 10 [(.t 13, .as), (.t 17, .freeze)], ix := 5 },
    { dst := some 12, op := .move (.t 18), ix := 6 },
    { dst := some 19, op := .extract (.t 12) 0, ix := 7 },
    { dst := some 20, op := .extract (.t 12) 1, ix := 8 },
    { dst := some 3, op := .move (.t 19), ix := 9 },
    { dst := some 4, op := .move (.t 20), ix := 10 }] false [1, 2, 3, 4] []) (.seq (.region [
    { dst := some 21, op := .move (.t 1), ix := 0 },
    { dst := some 22, op := .call 11 [(.t 21, .as)], ix := 1 },
    { dst := some 5, op := .move (.t 22), ix := 2 }] false [1, 2, 3, 4, 5] []) (.seq (.region [
    { dst := some 23, op := .move (.t 2), ix := 0 },
    { dst := some 24, op := .eq .i false (.t 23) (.c (.int .i64 0)), ix := 1 },
    { dst := some 25, op := .move (.t 24), ix := 2 },
    { dst := some 26, op := .move (.t 3), guard := some (25, true), ix := 3 },
    { dst := some 27, op := .eq .i false (.t 26) (.c (.int .i64 2)), guard := some (25, true), ix := 4 },
    { dst := some 28, op := .pick (.t 25) (.t 27) (.c (.bool false)), ix := 5 },
    { dst := some 29, op := .move (.t 28), ix := 6 },
    { dst := some 30, op := .move (.t 4), guard := some (29, true), ix := 7 },
    { dst := some 31, op := .eq .i false (.t 30) (.c (.int .i64 15)), guard := some (29, true), ix := 8 },
    { dst := some 32, op := .pick (.t 29) (.t 31) (.c (.bool false)), ix := 9 },
    { dst := some 33, op := .move (.t 32), ix := 10 },
    { dst := some 34, op := .move (.t 5), guard := some (33, true), ix := 11 },
    { dst := some 35, op := .len 1 (.t 34), guard := some (33, true), ix := 12 },
    { dst := some 36, op := .eq .i false (.t 35) (.c (.int .i64 2)), guard := some (33, true), ix := 13 },
    { dst := some 37, op := .pick (.t 33) (.t 36) (.c (.bool false)), ix := 14 },
    { dst := some 38, op := .move (.t 37), ix := 15 },
    { dst := some 39, op := .move (.t 5), guard := some (38, true), ix := 16 },
    { dst := some 40, op := .indexAddr 6 (.t 39) (.c (.int .i64 1)), guard := some (38, true), ix := 17 },
    { dst := some 41, op := .fieldAddr 0 (.t 40), guard := some (38, true), ix := 18 },
    { dst := some 42, op := .load 1 false (.t 41), guard := some (38, true), ix := 19 },
    { dst := some 43, op := .eq .i false (.t 42) (.c (.int .i64 2)), guard := some (38, true), ix := 20 },
    { dst := some 44, op := .pick (.t 38) (.t 43) (.c (.bool false)), ix := 21 },
    { dst := some 45, op := .move (.t 44), ix := 22 },
    { dst := some 46, op := .move (.t 5), guard := some (45, true), ix := 23 },
    { dst := some 47, op := .indexAddr 6 (.t 46) (.c (.int .i64 1)), guard := some (45, true), ix := 24 },
    { dst := some 48, op := .fieldAddr 1 (.t 47), guard := some (45, true), ix := 25 },
    { dst := some 49, op := .load 1 false (.t 48), guard := some (45, true), ix := 26 },
    { dst := some 50, op := .eq .i false (.t 49) (.c (.int .i64 1)), guard := some (45, true), ix := 27 },
    { dst := some 51, op := .pick (.t 45) (.t 50) (.c (.bool false)), ix := 28 },
    { dst := some 52, op := .move (.t 51), ix := 29 },
    { dst := some 53, op := .move (.t 1), guard := some (52, true), ix := 30 },
    { dst := some 54, op := .call 12 [(.t 53, .as)], guard := some (52, true), ix := 31 },
    { dst := some 55, op := .eq .i false (.t 54) (.c (.int .i64 3)), guard := some (52, true), ix := 32 },
    { dst := some 56, op := .pick (.t 52) (.t 55) (.c (.bool false)), ix := 33 },
    { dst := some 57, op := .move (.t 56), ix := 34 },
    { dst := some 58, op := .move (.t 1), guard := some (57, true), ix := 35 },
    { dst := some 59, op := .call 20 [(.t 58, .as)], guard := some (57, true), ix := 36 },
    { dst := some 60, op := .len 1 (.t 59), guard := some (57, true), ix := 37 },
    { dst := some 61, op := .eq .i false (.t 60) (.c (.int .i64 0)), guard := some (57, true), ix := 38 },
    { dst := some 62, op := .pick (.t 57) (.t 61) (.c (.bool false)), ix := 39 },
    { dst := some 0, op := .move (.t 62), ix := 40 }] false [0] []) (.keep [0] [] .ret)))))) }
theorem ok8 : fnSoundB Go.Proofs.Tryd.prog 8 F8 = true := by decide +kernel
/- tendril/plain.New -/
def B9x0 : LCode :=
  (.seq (.region [
    { dst := some 20, op := .bin .lss (.t 19) (.t 18), ix := 0 }] false [5, 17, 18, 19, 20] []) (.seq (.cond (.t 20) (.keep [5, 17, 18, 19] [] .skip) (.keep [5] [] (.exit 0))) (.keep [5, 17, 18, 19] [] (.seq (.block 1 (.seq (.region [
    { dst := some 21, op := .move (.t 19), ix := 0 },
    { dst := some 22, op := .indexAddr 6 (.t 17) (.t 19), ix := 1 },
    { dst := some 23, op := .load 6 true (.t 22), ix := 2 },
    { dst := some 7, op := .alloc false 7 [.p (.int .i64 0), .p (.int .i64 0), .p (.str []), .p (.str []), .p (.str []), .p (.list [])] [], ix := 3 },
    { dst := some 6, op := .move (.t 21), ix := 4 },
    { dst := none, op := .store 6 true (.t 7) (.t 23), ix := 5 }] false [5, 6, 7, 17, 18, 19] [7]) (.seq (.draw [
    { dst := some 24, op := .move (.t 5), ix := 0 },
    { dst := some 25, op := .move (.t 5), ix := 1 },
    { dst := some 26, op := .nilCheck (.t 25), ix := 2 },
    { dst := some 27, op := .fieldAddr 0 (.t 26), ix := 3 },
    { dst := some 28, op := .load 1 false (.t 27), ix := 4 },
    { dst := some 29, op := .fieldAddr 1 (.t 7), ix := 5 },
    { dst := some 30, op := .load 1 false (.t 29), ix := 6 },
    { dst := some 31, op := .fieldAddr 2 (.t 7), ix := 7 },
    { dst := some 32, op := .load 1 false (.t 31), ix := 8 },
    { dst := some 33, op := .fieldAddr 3 (.t 7), ix := 9 },
    { dst := some 34, op := .load 1 false (.t 33), ix := 10 },
    { dst := some 35, op := .fieldAddr 4 (.t 7), ix := 11 },
    { dst := some 36, op := .load 1 false (.t 35), ix := 12 },
    { dst := some 37, op := .fieldAddr 5 (.t 7), ix := 13 },
    { dst := some 38, op := .load 1 false (.t 37), ix := 14 },
    { dst := some 39, op := .pcall 22 [(.t 38, .as)], ix := 15 },
    { dst := some 40, op := .build [.p (.bool false), .p (.int .i64 0), .nils, .p (.str []), .p (.str []), .p (.str []), .p (.list [])] [(0, 1, .c (.bool true)), (1, 1, .t 30), (3, 1, .t 32), (4, 1, .t 34), (5, 1, .t 36), (6, 1, .t 39)], ix := 16 },
    { dst := some 41, op := .row 7 [.t 40], ix := 17 },
    { dst := some 42, op := .append true 1000 7 112 (.t 28) (.t 41), ix := 18 },
    { dst := some 43, op := .nilCheck (.t 24), ix := 19 },
    { dst := some 44, op := .fieldAddr 0 (.t 43), ix := 20 },
    { dst := none, op := .store 1 false (.t 44) (.t 42), ix := 21 }] [5, 6, 7, 17, 18, 19] [7]) (.seq (.draw [
    { dst := some 45, op := .move (.t 5), ix := 0 },
    { dst := some 46, op := .nilCheck (.t 45), ix := 1 },
    { dst := some 47, op := .fieldAddr 0 (.t 46), ix := 2 },
    { dst := some 48, op := .load 1 false (.t 47), ix := 3 },
    { dst := some 49, op := .fieldAddr 1 (.t 7), ix := 4 },
    { dst := some 50, op := .load 1 false (.t 49), ix := 5 },
    { dst := some 51, op := .move (.t 5), ix := 6 },
    { dst := some 52, op := .nilCheck (.t 51), ix := 7 },
    { dst := some 53, op := .fieldAddr 0 (.t 52), ix := 8 },
    { dst := some 54, op := .load 1 false (.t 53), ix := 9 },
    { dst := some 55, op := .fieldAddr 1 (.t 7), ix := 10 },
    { dst := some 56, op := .load 1 false (.t 55), ix := 11 },
    { dst := some 57, op := .indexAddr 7 (.t 54) (.t 56), ix := 12 },
    { dst := some 58, op := .fieldAddr 2 (.t 57), ix := 13 },
    { dst := some 59, op := .load 1 false (.t 58), ix := 14 },
    { dst := some 60, op := .move (.t 6), ix := 15 },
    { dst := some 61, op := .bin .add (.t 60) (.c (.int .i64 1)), ix := 16 },
    { dst := some 62, op := .row 1 [.t 61], ix := 17 },
    { dst := some 63, op := .append true 1001 1 8 (.t 59) (.t 62), ix := 18, again := [3, 5] },
    { dst := some 64, op := .indexAddr 7 (.t 48) (.t 50), ix := 19 },
    { dst := some 65, op := .fieldAddr 2 (.t 64), ix := 20 },
    { dst := none, op := .store 1 false (.t 65) (.t 63), ix := 21 }] [5, 17, 18, 19] []) (.keep [5, 17, 18, 19] [] .skip))))) (.keep [5, 17, 18, 19] [] (.seq (.region [
    { dst := some 66, op := .bin .add (.t 19) (.c (.int .i64 1)), ix := 0 },
    { dst := some 19, op := .move (.t 66), ix := 1 }] false [5, 17, 18, 19] []) (.keep [5, 17, 18, 19] [] .skip)))))))
def F9 : LFunc := { nparams := 1, results := [.tmp 2, .tmp 3], pure := false, body :=
  (.seq (.region [
    { dst := some 2, op := .move (.c (.nilp)), ix := 0 },
    { dst := some 3, op := .move (.c (.int .i64 0)), ix := 1 }] false [0] []) (.seq (.region [
    { dst := some 8, op := .move (.t 0), ix := 0 },
    { dst := some 9, op := .pcall 21 [(.t 8, .as)], ix := 1 },
    { dst := some 4, op := .move (.t 9), ix := 2 }] false [0, 4] []) (.seq (.region [
    { dst := some 10, op := .move (.t 4), ix := 0 },
    { dst := some 11, op := .eq .i true (.t 10) (.c (.int .i64 0)), ix := 1 }] false [0, 4, 11] []) (.seq (.cond (.t 11) (.seq (.region [
    { dst := some 12, op := .move (.t 4), ix := 0 },
    { dst := some 2, op := .move (.c (.nilp)), ix := 1 },
    { dst := some 3, op := .move (.t 12), ix := 2 }] false [2, 3] []) (.keep [2, 3] [] .ret)) (.keep [0] [] .skip)) (.keep [0] [] (.seq (.region [
    { dst := some 13, op := .build [.p (.bool false), .p (.int .i64 0), .nils, .p (.str []), .p (.str []), .p (.str []), .p (.list [])] [(0, 1, .c (.bool true)), (1, 1, .c (.int .i64 (-1)))], ix := 0 },
    { dst := some 14, op := .rowOwn true 14 7 [.t 13], ix := 1 },
    { dst := some 15, op := .build [.nils] [(0, 1, .t 14)], ix := 2 },
    { dst := some 16, op := .box true 16 (.t 15), ix := 3 },
    { dst := some 5, op := .move (.t 16), ix := 4 }] false [0, 5] []) (.seq (.region [
    { dst := some 17, op := .move (.t 0), ix := 0 },
    { dst := some 18, op := .len 1 (.t 17), ix := 1 },
    { dst := some 19, op := .move (.c (.int .i64 0)), ix := 2 }] false [5, 17, 18, 19] []) (.seq (.block 0 (.seq (.keep [5, 17, 18, 19] [] (.loop B9x0)) (.keep [5] [] .skip))) (.keep [5] [] (.seq (.region [
    { dst := some 67, op := .move (.t 5), ix := 0 },
    { dst := some 2, op := .move (.t 67), ix := 1 },
    { dst := some 3, op := .move (.c (.int .i64 0)), ix := 2 }] false [2, 3] []) (.keep [2, 3] [] .ret))))))))))) }
theorem ok9 : fnSoundB Go.Proofs.Tryd.prog 9 F9 = true := by decide +kernel
/- (tendril/plain.Machine).Run -/
def B10x0 : LCode :=
  (.seq (.region [
    { dst := some 22, op := .bin .lss (.t 21) (.t 20), ix := 0 }] false [0, 1, 19, 20, 21, 22] []) (.seq (.cond (.t 22) (.keep [0, 1, 19, 20, 21] [] .skip) (.keep [1] [] (.exit 0))) (.keep [0, 1, 19, 20, 21] [] (.seq (.block 1 (.seq (.region [
    { dst := some 23, op := .move (.t 21), ix := 0 },
    { dst := some 24, op := .indexAddr 9 (.t 19) (.t 21), ix := 1 },
    { dst := some 25, op := .load 9 true (.t 24), ix := 2 },
    { dst := some 7, op := .alloc false 7 [.p (.int .i64 0), .p (.int .i64 0), .p (.int .i64 0), .p (.int .i64 0), .p (.str []), .p (.str []), .p (.str []), .p (.str []), .p (.list [])] [], ix := 3 },
    { dst := some 6, op := .move (.t 23), ix := 4 },
    { dst := none, op := .store 9 true (.t 7) (.t 25), ix := 5 }] false [0, 1, 6, 7, 19, 20, 21] [7]) (.seq (.region [
    { dst := some 26, op := .move (.t 0), ix := 0 },
    { dst := some 27, op := .load 9 true (.t 7), ix := 1 },
    { dst := some 28, op := .call 23 [(.t 26, .as), (.t 27, .as)], ix := 2 },
    { dst := some 8, op := .move (.t 28), ix := 3 }] false [0, 1, 6, 8, 19, 20, 21] []) (.seq (.region [
    { dst := some 29, op := .move (.t 8), ix := 0 },
    { dst := some 30, op := .eq .i true (.t 29) (.c (.int .i64 0)), ix := 1 }] false [0, 1, 6, 8, 19, 20, 21, 30] []) (.seq (.cond (.t 30) (.seq (.region [
    { dst := some 31, op := .move (.t 6), ix := 0 },
    { dst := some 32, op := .move (.t 8), ix := 1 },
    { dst := some 4, op := .move (.t 31), ix := 2 },
    { dst := some 5, op := .move (.t 32), ix := 3 }] false [4, 5] []) (.keep [4, 5] [] .ret)) (.keep [0, 1, 19, 20, 21] [] .skip)) (.keep [0, 1, 19, 20, 21] [] .skip)))))) (.keep [0, 1, 19, 20, 21] [] (.seq (.region [
    { dst := some 33, op := .bin .add (.t 21) (.c (.int .i64 1)), ix := 0 },
    { dst := some 21, op := .move (.t 33), ix := 1 }] false [0, 1, 19, 20, 21] []) (.keep [0, 1, 19, 20, 21] [] .skip)))))))
def F10 : LFunc := { nparams := 2, results := [.tmp 4, .tmp 5], pure := false, body :=
  (.seq (.region [
    { dst := some 4, op := .move (.c (.int .i64 0)), ix := 0 },
    { dst := some 5, op := .move (.c (.int .i64 0)), ix := 1 }] false [0, 1] []) (.seq (.region [
    { dst := some 9, op := .move (.t 0), ix := 0 },
    { dst := some 10, op := .eq .ptr false (.t 9) (.c (.nilp)), ix := 1 },
    { dst := some 11, op := .move (.t 10), ix := 2 },
    { dst := some 12, op := .move (.t 0), guard := some (11, false), ix := 3 },
    { dst := some 13, op := .nilCheck (.t 12), guard := some (11, false), ix := 4 },
    { dst := some 14, op := .fieldAddr 0 (.t 13), guard := some (11, false), ix := 5 },
    { dst := some 15, op := .load 1 false (.t 14), guard := some (11, false), ix := 6 },
    { dst := some 16, op := .len 1 (.t 15), guard := some (11, false), ix := 7 },
    { dst := some 17, op := .eq .i false (.t 16) (.c (.int .i64 0)), guard := some (11, false), ix := 8 },
    { dst := some 18, op := .pick (.t 11) (.c (.bool true)) (.t 17), ix := 9 }] false [0, 1, 18] []) (.seq (.cond (.t 18) (.seq (.region [
    { dst := some 4, op := .move (.c (.int .i64 0)), ix := 0 },
    { dst := some 5, op := .move (.c (.int .i64 1)), ix := 1 }] false [4, 5] []) (.keep [4, 5] [] .ret)) (.keep [0, 1] [] .skip)) (.keep [0, 1] [] (.seq (.region [
    { dst := some 19, op := .move (.t 1), ix := 0 },
    { dst := some 20, op := .len 1 (.t 19), ix := 1 },
    { dst := some 21, op := .move (.c (.int .i64 0)), ix := 2 }] false [0, 1, 19, 20, 21] []) (.seq (.block 0 (.seq (.keep [0, 1, 19, 20, 21] [] (.loop B10x0)) (.keep [1] [] .skip))) (.keep [1] [] (.seq (.region [
    { dst := some 34, op := .move (.t 1), ix := 0 },
    { dst := some 35, op := .len 1 (.t 34), ix := 1 },
    { dst := some 4, op := .move (.t 35), ix := 2 },
    { dst := some 5, op := .move (.c (.int .i64 0)), ix := 3 }] false [4, 5] []) (.keep [4, 5] [] .ret))))))))) }
theorem ok10 : fnSoundB Go.Proofs.Tryd.prog 10 F10 = true := by decide +kernel
/- (tendril/plain.Machine).Rows -/
def F11 : LFunc := { nparams := 1, results := [.tmp 2], pure := false, body :=
  (.seq (.region [
    { dst := some 2, op := .move (.c (.list [])), ix := 0 }] false [0] []) (.seq (.region [
    { dst := some 3, op := .move (.t 0), ix := 0 },
    { dst := some 4, op := .eq .ptr false (.t 3) (.c (.nilp)), ix := 1 },
    { dst := some 5, op := .move (.t 4), ix := 2 },
    { dst := some 6, op := .move (.t 0), guard := some (5, false), ix := 3 },
    { dst := some 7, op := .nilCheck (.t 6), guard := some (5, false), ix := 4 },
    { dst := some 8, op := .fieldAddr 0 (.t 7), guard := some (5, false), ix := 5 },
    { dst := some 9, op := .load 1 false (.t 8), guard := some (5, false), ix := 6 },
    { dst := some 10, op := .len 1 (.t 9), guard := some (5, false), ix := 7 },
    { dst := some 11, op := .eq .i false (.t 10) (.c (.int .i64 0)), guard := some (5, false), ix := 8 },
    { dst := some 12, op := .pick (.t 5) (.c (.bool true)) (.t 11), ix := 9 }] false [0, 12] []) (.seq (.cond (.t 12) (.seq (.region [
    { dst := some 2, op := .move (.c (.list [])), ix := 0 }] false [2] []) (.keep [2] [] .ret)) (.keep [0] [] .skip)) (.keep [0] [] (.seq (.region [
    { dst := some 13, op := .move (.t 0), ix := 0 },
    { dst := some 14, op := .call 24 [(.t 13, .as), (.c (.list []), .fresh 6), (.c (.int .i64 0), .as), (.c (.int .i64 0), .as)], ix := 1 },
    { dst := some 2, op := .move (.t 14), ix := 2 }] false [2] []) (.keep [2] [] .ret)))))) }
theorem ok11 : fnSoundB Go.Proofs.Tryd.prog 11 F11 = true := by decide +kernel
/- (tendril/plain.Machine).Next -/
def F12 : LFunc := { nparams := 1, results := [.tmp 2], pure := false, body :=
  (.seq (.region [
    { dst := some 2, op := .move (.c (.int .i64 0)), ix := 0 }] false [0] []) (.seq (.region [
    { dst := some 3, op := .move (.t 0), ix := 0 },
    { dst := some 4, op := .eq .ptr false (.t 3) (.c (.nilp)), ix := 1 }] false [0, 4] []) (.seq (.cond (.t 4) (.seq (.region [
    { dst := some 2, op := .move (.c (.int .i64 0)), ix := 0 }] false [2] []) (.keep [2] [] .ret)) (.keep [0] [] .skip)) (.keep [0] [] (.seq (.region [
    { dst := some 5, op := .move (.t 0), ix := 0 },
    { dst := some 6, op := .nilCheck (.t 5), ix := 1 },
    { dst := some 7, op := .fieldAddr 0 (.t 6), ix := 2 },
    { dst := some 8, op := .load 1 false (.t 7), ix := 3 },
    { dst := some 9, op := .len 1 (.t 8), ix := 4 },
    { dst := some 2, op := .move (.t 9), ix := 5 }] false [2] []) (.keep [2] [] .ret)))))) }
theorem ok12 : fnSoundB Go.Proofs.Tryd.prog 12 F12 = true := by decide +kernel
/- tendril/tendrillaw28.same -/
def F13 : LFunc := { nparams := 0, results := [.tmp 0], pure := true, body :=
  (.seq (.region [
    { dst := some 0, op := .move (.c (.bool false)), ix := 0 }] false [] []) (.seq (.region [
    { dst := some 11, op := .build [.p (.int .i64 0), .p (.int .i64 0), .p (.int .i64 0), .p (.int .i64 0), .p (.str []), .p (.str []), .p (.str []), .p (.str []), .p (.list [])] [(0, 1, .c (.int .i64 1)), (4, 1, .c (.str [112]))], ix := 0 },
    { dst := some 12, op := .build [.p (.int .i64 0), .p (.int .i64 0), .p (.int .i64 0), .p (.int .i64 0), .p (.str []), .p (.str []), .p (.str []), .p (.str []), .p (.list [])] [(0, 1, .c (.int .i64 2)), (1, 1, .c (.int .i64 1))], ix := 1 },
    { dst := some 13, op := .row 9 [.t 11, .t 12], ix := 2 },
    { dst := some 1, op := .move (.t 13), ix := 3 }] false [1] []) (.seq (.region [
    { dst := some 15, op := .move (.t 1), ix := 0 },
    { dst := some 16, op := .pcall 14 [(.c (.list []), .as), (.t 15, .freeze), (.c (.int .i64 1), .as)], ix := 1 },
    { dst := some 14, op := .move (.t 16), ix := 2 },
    { dst := some 17, op := .extract (.t 14) 0, ix := 3 },
    { dst := some 18, op := .extract (.t 14) 1, ix := 4 },
    { dst := some 19, op := .extract (.t 14) 2, ix := 5 },
    { dst := some 2, op := .move (.t 17), ix := 6 },
    { dst := some 3, op := .move (.t 18), ix := 7 },
    { dst := some 4, op := .move (.t 19), ix := 8 }] false [1, 2, 3, 4] []) (.seq (.region [
    { dst := some 21, op := .move (.t 1), ix := 0 },
    { dst := some 22, op := .slice false 9 (.t 21) none (some (.c (.int .i64 1))), ix := 1 },
    { dst := some 23, op := .pcall 14 [(.c (.list []), .as), (.t 22, .freeze), (.c (.int .i64 1), .as)], ix := 2 },
    { dst := some 20, op := .move (.t 23), ix := 3 },
    { dst := some 24, op := .extract (.t 20) 0, ix := 4 },
    { dst := some 25, op := .extract (.t 20) 1, ix := 5 },
    { dst := some 26, op := .extract (.t 20) 2, ix := 6 },
    { dst := some 5, op := .move (.t 24), ix := 7 },
    { dst := some 6, op := .move (.t 25), ix := 8 },
    { dst := some 7, op := .move (.t 26), ix := 9 }] false [1, 2, 3, 4, 6, 7] []) (.seq (.region [
    { dst := some 28, op := .move (.t 1), ix := 0 },
    { dst := some 29, op := .pcall 14 [(.c (.list []), .as), (.t 28, .freeze), (.c (.int .i64 0), .as)], ix := 1 },
    { dst := some 27, op := .move (.t 29), ix := 2 },
    { dst := some 30, op := .extract (.t 27) 0, ix := 3 },
    { dst := some 31, op := .extract (.t 27) 1, ix := 4 },
    { dst := some 32, op := .extract (.t 27) 2, ix := 5 },
    { dst := some 8, op := .move (.t 30), ix := 6 },
    { dst := some 9, op := .move (.t 31), ix := 7 },
    { dst := some 10, op := .move (.t 32), ix := 8 }] false [2, 3, 4, 6, 7, 9, 10] []) (.seq (.region [
    { dst := some 33, op := .move (.t 2), ix := 0 },
    { dst := some 34, op := .len 1 (.t 33), ix := 1 },
    { dst := some 35, op := .eq .i false (.t 34) (.c (.int .i64 1)), ix := 2 },
    { dst := some 36, op := .move (.t 35), ix := 3 },
    { dst := some 37, op := .move (.t 2), guard := some (36, true), ix := 4 },
    { dst := some 38, op := .indexAddr 6 (.t 37) (.c (.int .i64 0)), guard := some (36, true), ix := 5 },
    { dst := some 39, op := .fieldAddr 0 (.t 38), guard := some (36, true), ix := 6 },
    { dst := some 40, op := .load 1 false (.t 39), guard := some (36, true), ix := 7 },
    { dst := some 41, op := .eq .i false (.t 40) (.c (.int .i64 1)), guard := some (36, true), ix := 8 },
    { dst := some 42, op := .pick (.t 36) (.t 41) (.c (.bool false)), ix := 9 },
    { dst := some 43, op := .move (.t 42), ix := 10 },
    { dst := some 44, op := .move (.t 3), guard := some (43, true), ix := 11 },
    { dst := some 45, op := .eq .i false (.t 44) (.c (.int .i64 0)), guard := some (43, true), ix := 12 },
    { dst := some 46, op := .pick (.t 43) (.t 45) (.c (.bool false)), ix := 13 },
    { dst := some 47, op := .move (.t 46), ix := 14 },
    { dst := some 48, op := .move (.t 4), guard := some (47, true), ix := 15 },
    { dst := some 49, op := .eq .i false (.t 48) (.c (.int .i64 0)), guard := some (47, true), ix := 16 },
    { dst := some 50, op := .pick (.t 47) (.t 49) (.c (.bool false)), ix := 17 },
    { dst := some 51, op := .move (.t 50), ix := 18 },
    { dst := some 52, op := .move (.t 6), guard := some (51, true), ix := 19 },
    { dst := some 53, op := .eq .i false (.t 52) (.c (.int .i64 1)), guard := some (51, true), ix := 20 },
    { dst := some 54, op := .pick (.t 51) (.t 53) (.c (.bool false)), ix := 21 },
    { dst := some 55, op := .move (.t 54), ix := 22 },
    { dst := some 56, op := .move (.t 7), guard := some (55, true), ix := 23 },
    { dst := some 57, op := .eq .i false (.t 56) (.c (.int .i64 19)), guard := some (55, true), ix := 24 },
    { dst := some 58, op := .pick (.t 55) (.t 57) (.c (.bool false)), ix := 25 },
    { dst := some 59, op := .move (.t 58), ix := 26 },
    { dst := some 60, op := .move (.t 9), guard := some (59, true), ix := 27 },
    { dst := some 61, op := .eq .i false (.t 60) (.c (.int .i64 2)), guard := some (59, true), ix := 28 },
    { dst := some 62, op := .pick (.t 59) (.t 61) (.c (.bool false)), ix := 29 },
    { dst := some 63, op := .move (.t 62), ix := 30 },
    { dst := some 64, op := .move (.t 10), guard := some (63, true), ix := 31 },
    { dst := some 65, op := .eq .i false (.t 64) (.c (.int .i64 21)), guard := some (63, true), ix := 32 },
    { dst := some 66, op := .pick (.t 63) (.t 65) (.c (.bool false)), ix := 33 },
    { dst := some 0, op := .move (.t 66), ix := 34 }] false [0] []) (.keep [0] [] .ret))))))) }
theorem ok13 : fnSoundB Go.Proofs.Tryd.prog 13 F13 = true := by decide +kernel
/- tendril/valid.Run -/
def F14 : LFunc := { nparams := 3, results := [.tmp 6, .tmp 7, .tmp 8], pure := true, body :=
  (.seq (.region [
    { dst := some 6, op := .move (.c (.list [])), ix := 0 },
    { dst := some 7, op := .move (.c (.int .i64 0)), ix := 1 },
    { dst := some 8, op := .move (.c (.int .i64 0)), ix := 2 }] false [0, 1, 2] []) (.seq (.region [
    { dst := some 17, op := .move (.t 0), ix := 0 },
    { dst := some 18, op := .call 9 [(.t 17, .as)], ix := 1 },
    { dst := some 16, op := .move (.t 18), ix := 2 },
    { dst := some 19, op := .extract (.t 16) 0, ix := 3 },
    { dst := some 20, op := .extract (.t 16) 1, ix := 4 },
    { dst := some 9, op := .move (.t 19), ix := 5 },
    { dst := some 10, op := .move (.t 20), ix := 6 }] false [1, 2, 9, 10] []) (.seq (.region [
    { dst := some 21, op := .move (.t 10), ix := 0 },
    { dst := some 22, op := .eq .i true (.t 21) (.c (.int .i64 0)), ix := 1 }] false [1, 2, 9, 10, 22] []) (.seq (.cond (.t 22) (.seq (.region [
    { dst := some 23, op := .move (.t 10), ix := 0 },
    { dst := some 6, op := .move (.c (.list [])), ix := 1 },
    { dst := some 7, op := .move (.c (.int .i64 0)), ix := 2 },
    { dst := some 8, op := .move (.t 23), ix := 3 }] false [6, 7, 8] []) (.keep [6, 7, 8] [] .ret)) (.keep [1, 2, 9] [] .skip)) (.keep [1, 2, 9] [] (.seq (.region [
    { dst := some 25, op := .move (.t 1), ix := 0 },
    { dst := some 26, op := .pcall 25 [(.t 25, .as)], ix := 1 },
    { dst := some 24, op := .move (.t 26), ix := 2 },
    { dst := some 27, op := .extract (.t 24) 0, ix := 3 },
    { dst := some 28, op := .extract (.t 24) 1, ix := 4 },
    { dst := some 11, op := .move (.t 27), ix := 5 },
    { dst := some 12, op := .move (.t 28), ix := 6 }] false [1, 2, 9, 11, 12] []) (.seq (.region [
    { dst := some 29, op := .move (.t 12), ix := 0 },
    { dst := some 30, op := .eq .i true (.t 29) (.c (.int .i64 0)), ix := 1 }] false [1, 2, 9, 11, 12, 30] []) (.seq (.cond (.t 30) (.seq (.region [
    { dst := some 31, op := .move (.t 11), ix := 0 },
    { dst := some 32, op := .move (.t 12), ix := 1 },
    { dst := some 6, op := .move (.c (.list [])), ix := 2 },
    { dst := some 7, op := .move (.t 31), ix := 3 },
    { dst := some 8, op := .move (.t 32), ix := 4 }] false [6, 7, 8] []) (.keep [6, 7, 8] [] .ret)) (.keep [1, 2, 9] [] .skip)) (.keep [1, 2, 9] [] (.seq (.region [
    { dst := some 34, op := .move (.t 9), ix := 0 },
    { dst := some 35, op := .move (.t 1), ix := 1 },
    { dst := some 36, op := .call 10 [(.t 34, .as), (.t 35, .as)], ix := 2 },
    { dst := some 33, op := .move (.t 36), ix := 3 },
    { dst := some 37, op := .extract (.t 33) 0, ix := 4 },
    { dst := some 38, op := .extract (.t 33) 1, ix := 5 },
    { dst := some 13, op := .move (.t 37), ix := 6 },
    { dst := some 14, op := .move (.t 38), ix := 7 }] false [1, 2, 9, 13, 14] []) (.seq (.region [
    { dst := some 39, op := .move (.t 14), ix := 0 },
    { dst := some 40, op := .eq .i true (.t 39) (.c (.int .i64 0)), ix := 1 }] false [1, 2, 9, 13, 14, 40] []) (.seq (.cond (.t 40) (.seq (.region [
    { dst := some 41, op := .move (.t 13), ix := 0 },
    { dst := some 42, op := .move (.t 14), ix := 1 },
    { dst := some 6, op := .move (.c (.list [])), ix := 2 },
    { dst := some 7, op := .move (.t 41), ix := 3 },
    { dst := some 8, op := .move (.t 42), ix := 4 }] false [6, 7, 8] []) (.keep [6, 7, 8] [] .ret)) (.keep [1, 2, 9] [] .skip)) (.keep [1, 2, 9] [] (.seq (.region [
    { dst := some 44, op := .move (.t 9), ix := 0 },
    { dst := some 45, op := .move (.t 1), ix := 1 },
    { dst := some 46, op := .move (.t 2), ix := 2 },
    { dst := some 47, op := .call 26 [(.t 44, .as), (.t 45, .as), (.t 46, .as)], ix := 3 },
    { dst := some 43, op := .move (.t 47), ix := 4 },
    { dst := some 48, op := .extract (.t 43) 0, ix := 5 },
    { dst := some 49, op := .extract (.t 43) 1, ix := 6 },
    { dst := some 15, op := .move (.t 48), ix := 7 },
    { dst := some 10, op := .move (.t 49), ix := 8 }] false [1, 10, 15] []) (.seq (.region [
    { dst := some 50, op := .move (.t 10), ix := 0 },
    { dst := some 51, op := .eq .i true (.t 50) (.c (.int .i64 0)), ix := 1 }] false [1, 10, 15, 51] []) (.seq (.cond (.t 51) (.seq (.region [
    { dst := some 52, op := .move (.t 1), ix := 0 },
    { dst := some 53, op := .len 1 (.t 52), ix := 1 },
    { dst := some 54, op := .move (.t 10), ix := 2 },
    { dst := some 6, op := .move (.c (.list [])), ix := 3 },
    { dst := some 7, op := .move (.t 53), ix := 4 },
    { dst := some 8, op := .move (.t 54), ix := 5 }] false [6, 7, 8] []) (.keep [6, 7, 8] [] .ret)) (.keep [15] [] .skip)) (.keep [15] [] (.seq (.region [
    { dst := some 55, op := .move (.t 15), ix := 0 },
    { dst := some 6, op := .move (.t 55), ix := 1 },
    { dst := some 7, op := .move (.c (.int .i64 0)), ix := 2 },
    { dst := some 8, op := .move (.c (.int .i64 0)), ix := 3 }] false [6, 7, 8] []) (.keep [6, 7, 8] [] .ret))))))))))))))))))) }
theorem ok14 : fnSoundB Go.Proofs.Tryd.prog 14 F14 = true := by decide +kernel
/- tendril/tendrilplain.Shapes -/
def B15x0 : LCode :=
  (.seq (.region [
    { dst := some 16, op := .bin .lss (.t 15) (.t 14), ix := 0 }] false [0, 1, 14, 15, 16] []) (.seq (.cond (.t 16) (.keep [0, 1, 14, 15] [] .skip) (.keep [] [] (.exit 0))) (.keep [0, 1, 14, 15] [] (.seq (.block 1 (.seq (.region [
    { dst := some 17, op := .move (.t 15), ix := 0 },
    { dst := some 5, op := .move (.t 17), ix := 1 }] false [0, 1, 5, 14, 15] []) (.seq (.region [
    { dst := some 18, op := .move (.t 0), ix := 0 },
    { dst := some 19, op := .move (.t 5), ix := 1 },
    { dst := some 20, op := .indexAddr 6 (.t 18) (.t 19), ix := 2 },
    { dst := some 21, op := .load 6 true (.t 20), ix := 3 },
    { dst := some 6, op := .alloc false 6 [.p (.int .i64 0), .p (.int .i64 0), .p (.str []), .p (.str []), .p (.str []), .p (.list [])] [], ix := 4 },
    { dst := none, op := .store 6 true (.t 6) (.t 21), ix := 5 }] false [0, 1, 5, 6, 14, 15] [6]) (.seq (.region [
    { dst := some 22, op := .move (.t 1), ix := 0 },
    { dst := some 23, op := .move (.t 5), ix := 1 },
    { dst := some 24, op := .indexAddr 6 (.t 22) (.t 23), ix := 2 },
    { dst := some 25, op := .load 6 true (.t 24), ix := 3 },
    { dst := some 7, op := .alloc false 7 [.p (.int .i64 0), .p (.int .i64 0), .p (.str []), .p (.str []), .p (.str []), .p (.list [])] [], ix := 4 },
    { dst := none, op := .store 6 true (.t 7) (.t 25), ix := 5 }] false [0, 1, 6, 7, 14, 15] [6, 7]) (.seq (.region [
    { dst := some 26, op := .fieldAddr 1 (.t 6), ix := 0 },
    { dst := some 27, op := .load 1 false (.t 26), ix := 1 },
    { dst := some 28, op := .fieldAddr 1 (.t 7), ix := 2 },
    { dst := some 29, op := .load 1 false (.t 28), ix := 3 },
    { dst := some 30, op := .eq .i true (.t 27) (.t 29), ix := 4 },
    { dst := some 31, op := .move (.t 30), ix := 5 },
    { dst := some 32, op := .fieldAddr 2 (.t 6), guard := some (31, false), ix := 6 },
    { dst := some 33, op := .load 1 false (.t 32), guard := some (31, false), ix := 7 },
    { dst := some 34, op := .fieldAddr 2 (.t 7), guard := some (31, false), ix := 8 },
    { dst := some 35, op := .load 1 false (.t 34), guard := some (31, false), ix := 9 },
    { dst := some 36, op := .eq .s true (.t 33) (.t 35), guard := some (31, false), ix := 10 },
    { dst := some 37, op := .pick (.t 31) (.c (.bool true)) (.t 36), ix := 11 },
    { dst := some 38, op := .move (.t 37), ix := 12 },
    { dst := some 39, op := .fieldAddr 3 (.t 6), guard := some (38, false), ix := 13 },
    { dst := some 40, op := .load 1 false (.t 39), guard := some (38, false), ix := 14 },
    { dst := some 41, op := .fieldAddr 3 (.t 7), guard := some (38, false), ix := 15 },
    { dst := some 42, op := .load 1 false (.t 41), guard := some (38, false), ix := 16 },
    { dst := some 43, op := .eq .s true (.t 40) (.t 42), guard := some (38, false), ix := 17 },
    { dst := some 44, op := .pick (.t 38) (.c (.bool true)) (.t 43), ix := 18 },
    { dst := some 45, op := .move (.t 44), ix := 19 },
    { dst := some 46, op := .fieldAddr 4 (.t 6), guard := some (45, false), ix := 20 },
    { dst := some 47, op := .load 1 false (.t 46), guard := some (45, false), ix := 21 },
    { dst := some 48, op := .fieldAddr 4 (.t 7), guard := some (45, false), ix := 22 },
    { dst := some 49, op := .load 1 false (.t 48), guard := some (45, false), ix := 23 },
    { dst := some 50, op := .eq .s true (.t 47) (.t 49), guard := some (45, false), ix := 24 },
    { dst := some 51, op := .pick (.t 45) (.c (.bool true)) (.t 50), ix := 25 },
    { dst := some 52, op := .move (.t 51), ix := 26 },
    { dst := some 53, op := .fieldAddr 5 (.t 6), guard := some (52, false), ix := 27 },
    { dst := some 54, op := .load 1 false (.t 53), guard := some (52, false), ix := 28 },
    { dst := some 55, op := .fieldAddr 5 (.t 7), guard := some (52, false), ix := 29 },
    { dst := some 56, op := .load 1 false (.t 55), guard := some (52, false), ix := 30 },
    { dst := some 57, op := .pcall 27 [(.t 54, .as), (.t 56, .as)], guard := some (52, false), ix := 31 },
    { dst := some 58, op := .un .not (.t 57), guard := some (52, false), ix := 32 },
    { dst := some 59, op := .pick (.t 52) (.c (.bool true)) (.t 58), ix := 33 }] false [0, 1, 14, 15, 59] []) (.seq (.cond (.t 59) (.seq (.region [
    { dst := some 4, op := .move (.c (.bool false)), ix := 0 }] false [4] []) (.keep [4] [] .ret)) (.keep [0, 1, 14, 15] [] .skip)) (.keep [0, 1, 14, 15] [] .skip))))))) (.keep [0, 1, 14, 15] [] (.seq (.region [
    { dst := some 60, op := .bin .add (.t 15) (.c (.int .i64 1)), ix := 0 },
    { dst := some 15, op := .move (.t 60), ix := 1 }] false [0, 1, 14, 15] []) (.keep [0, 1, 14, 15] [] .skip)))))))
def F15 : LFunc := { nparams := 2, results := [.tmp 4], pure := true, body :=
  (.seq (.region [
    { dst := some 4, op := .move (.c (.bool false)), ix := 0 }] false [0, 1] []) (.seq (.region [
    { dst := some 8, op := .move (.t 0), ix := 0 },
    { dst := some 9, op := .len 1 (.t 8), ix := 1 },
    { dst := some 10, op := .move (.t 1), ix := 2 },
    { dst := some 11, op := .len 1 (.t 10), ix := 3 },
    { dst := some 12, op := .eq .i true (.t 9) (.t 11), ix := 4 }] false [0, 1, 12] []) (.seq (.cond (.t 12) (.seq (.region [
    { dst := some 4, op := .move (.c (.bool false)), ix := 0 }] false [4] []) (.keep [4] [] .ret)) (.keep [0, 1] [] .skip)) (.keep [0, 1] [] (.seq (.region [
    { dst := some 13, op := .move (.t 0), ix := 0 },
    { dst := some 14, op := .len 1 (.t 13), ix := 1 },
    { dst := some 15, op := .move (.c (.int .i64 0)), ix := 2 }] false [0, 1, 14, 15] []) (.seq (.block 0 (.seq (.keep [0, 1, 14, 15] [] (.loop B15x0)) (.keep [] [] .skip))) (.keep [] [] (.seq (.region [
    { dst := some 4, op := .move (.c (.bool true)), ix := 0 }] false [4] []) (.keep [4] [] .ret))))))))) }
theorem ok15 : fnSoundB Go.Proofs.Tryd.prog 15 F15 = true := by decide +kernel
/- tendril/tendrilref25.Check -/
def F16 : LFunc := { nparams := 1, results := [.tmp 2], pure := true, body :=
  (.seq (.region [
    { dst := some 1, op := .box false 1 (.t 0), ix := 0 },
    { dst := some 2, op := .move (.c (.int .i64 0)), ix := 1 }] false [1] [1]) (.seq (.region [
    { dst := some 5, op := .fieldAddr 0 (.t 1), ix := 0 },
    { dst := some 6, op := .load 1 false (.t 5), ix := 1 },
    { dst := some 7, op := .bin .lss (.t 6) (.c (.int .i64 1)), ix := 2 },
    { dst := some 8, op := .move (.t 7), ix := 3 },
    { dst := some 9, op := .fieldAddr 0 (.t 1), guard := some (8, false), ix := 4 },
    { dst := some 10, op := .load 1 false (.t 9), guard := some (8, false), ix := 5 },
    { dst := some 11, op := .bin .gtr (.t 10) (.c (.int .i64 7)), guard := some (8, false), ix := 6 },
    { dst := some 12, op := .pick (.t 8) (.c (.bool true)) (.t 11), ix := 7 }] false [1, 12] [1]) (.seq (.cond (.t 12) (.seq (.region [
    { dst := some 2, op := .move (.c (.int .i64 6)), ix := 0 }] false [2] []) (.keep [2] [] .ret)) (.keep [1] [1] .skip)) (.keep [1] [1] (.seq (.region [
    { dst := some 13, op := .fieldAddr 1 (.t 1), ix := 0 },
    { dst := some 14, op := .load 1 false (.t 13), ix := 1 },
    { dst := some 15, op := .pcall 28 [(.t 14, .as)], ix := 2 },
    { dst := some 16, op := .move (.t 15), ix := 3 },
    { dst := some 17, op := .fieldAddr 2 (.t 1), guard := some (16, false), ix := 4 },
    { dst := some 18, op := .load 1 false (.t 17), guard := some (16, false), ix := 5 },
    { dst := some 19, op := .pcall 28 [(.t 18, .as)], guard := some (16, false), ix := 6 },
    { dst := some 20, op := .pick (.t 16) (.c (.bool true)) (.t 19), ix := 7 },
    { dst := some 21, op := .move (.t 20), ix := 8 },
    { dst := some 22, op := .fieldAddr 3 (.t 1), guard := some (21, false), ix := 9 },
    { dst := some 23, op := .load 1 false (.t 22), guard := some (21, false), ix := 10 },
    { dst := some 24, op := .pcall 28 [(.t 23, .as)], guard := some (21, false), ix := 11 },
    { dst := some 25, op := .pick (.t 21) (.c (.bool true)) (.t 24), ix := 12 }] false [1, 25] [1]) (.seq (.cond (.t 25) (.seq (.region [
    { dst := some 2, op := .move (.c (.int .i64 5)), ix := 0 }] false [2] []) (.keep [2] [] .ret)) (.keep [1] [1] .skip)) (.keep [1] [1] (.seq (.region [
    { dst := some 26, op := .load 9 true (.t 1), ix := 0 },
    { dst := some 27, op := .pcall 29 [(.t 26, .as)], ix := 1 }] false [1, 27] [1]) (.seq (.cond (.t 27) (.seq (.region [
    { dst := some 2, op := .move (.c (.int .i64 2)), ix := 0 }] false [2] []) (.keep [2] [] .ret)) (.keep [1] [1] .skip)) (.keep [1] [1] (.seq (.region [
    { dst := some 28, op := .fieldAddr 0 (.t 1), ix := 0 },
    { dst := some 29, op := .load 1 false (.t 28), ix := 1 },
    { dst := some 30, op := .eq .i false (.t 29) (.c (.int .i64 1)), ix := 2 },
    { dst := some 31, op := .move (.t 30), ix := 3 },
    { dst := some 32, op := .fieldAddr 4 (.t 1), guard := some (31, true), ix := 4 },
    { dst := some 33, op := .load 1 false (.t 32), guard := some (31, true), ix := 5 },
    { dst := some 34, op := .pcall 30 [(.t 33, .as), (.c (.bool false), .as)], guard := some (31, true), ix := 6 },
    { dst := some 35, op := .un .not (.t 34), guard := some (31, true), ix := 7 },
    { dst := some 36, op := .pick (.t 31) (.t 35) (.c (.bool false)), ix := 8 }] false [1, 36] [1]) (.seq (.cond (.t 36) (.seq (.region [
    { dst := some 2, op := .move (.c (.int .i64 7)), ix := 0 }] false [2] []) (.keep [2] [] .ret)) (.keep [1] [1] .skip)) (.keep [1] [1] (.seq (.region [
    { dst := some 37, op := .fieldAddr 0 (.t 1), ix := 0 },
    { dst := some 38, op := .load 1 false (.t 37), ix := 1 },
    { dst := some 39, op := .eq .i false (.t 38) (.c (.int .i64 5)), ix := 2 },
    { dst := some 40, op := .move (.t 39), ix := 3 },
    { dst := some 41, op := .fieldAddr 0 (.t 1), guard := some (40, false), ix := 4 },
    { dst := some 42, op := .load 1 false (.t 41), guard := some (40, false), ix := 5 },
    { dst := some 43, op := .eq .i false (.t 42) (.c (.int .i64 6)), guard := some (40, false), ix := 6 },
    { dst := some 44, op := .pick (.t 40) (.c (.bool true)) (.t 43), ix := 7 },
    { dst := some 45, op := .move (.t 44), ix := 8 },
    { dst := some 46, op := .fieldAddr 6 (.t 1), guard := some (45, true), ix := 9 },
    { dst := some 47, op := .load 1 false (.t 46), guard := some (45, true), ix := 10 },
    { dst := some 48, op := .pcall 30 [(.t 47, .as), (.c (.bool true), .as)], guard := some (45, true), ix := 11 },
    { dst := some 49, op := .un .not (.t 48), guard := some (45, true), ix := 12 },
    { dst := some 50, op := .pick (.t 45) (.t 49) (.c (.bool false)), ix := 13 }] false [1, 50] [1]) (.seq (.cond (.t 50) (.seq (.region [
    { dst := some 2, op := .move (.c (.int .i64 8)), ix := 0 }] false [2] []) (.keep [2] [] .ret)) (.keep [1] [1] .skip)) (.keep [1] [1] (.seq (.region [
    { dst := some 51, op := .fieldAddr 5 (.t 1), ix := 0 },
    { dst := some 52, op := .load 1 false (.t 51), ix := 1 },
    { dst := some 53, op := .len 0 (.t 52), ix := 2 },
    { dst := some 54, op := .bin .gtr (.t 53) (.c (.int .i64 65536)), ix := 3 },
    { dst := some 55, op := .move (.t 54), ix := 4 },
    { dst := some 56, op := .fieldAddr 7 (.t 1), guard := some (55, false), ix := 5 },
    { dst := some 57, op := .load 1 false (.t 56), guard := some (55, false), ix := 6 },
    { dst := some 58, op := .len 0 (.t 57), guard := some (55, false), ix := 7 },
    { dst := some 59, op := .bin .gtr (.t 58) (.c (.int .i64 65536)), guard := some (55, false), ix := 8 },
    { dst := some 60, op := .pick (.t 55) (.c (.bool true)) (.t 59), ix := 9 }] false [1, 60] [1]) (.seq (.cond (.t 60) (.seq (.region [
    { dst := some 2, op := .move (.c (.int .i64 3)), ix := 0 }] false [2] []) (.keep [2] [] .ret)) (.keep [1] [1] .skip)) (.keep [1] [1] (.seq (.region [
    { dst := some 62, op := .fieldAddr 8 (.t 1), ix := 0 },
    { dst := some 63, op := .load 1 false (.t 62), ix := 1 },
    { dst := some 64, op := .pcall 31 [(.t 63, .as)], ix := 2 },
    { dst := some 61, op := .move (.t 64), ix := 3 },
    { dst := some 65, op := .extract (.t 61) 0, ix := 4 },
    { dst := some 66, op := .extract (.t 61) 1, ix := 5 },
    { dst := some 3, op := .move (.t 65), ix := 6 },
    { dst := some 4, op := .move (.t 66), ix := 7 }] false [4] []) (.seq (.region [
    { dst := some 67, op := .move (.t 4), ix := 0 },
    { dst := some 2, op := .move (.t 67), ix := 1 }] false [2] []) (.keep [2] [] .ret)))))))))))))))))))))) }
theorem ok16 : fnSoundB Go.Proofs.Tryd.prog 16 F16 = true := by decide +kernel
/- tendril/tendrilref13.Formed -/
def B17x0 : LCode :=
  (.seq (.region [
    { dst := some 7, op := .bin .lss (.t 6) (.t 5), ix := 0 }] false [0, 5, 6, 7] []) (.seq (.cond (.t 7) (.keep [0, 5, 6] [] .skip) (.keep [] [] (.exit 0))) (.keep [0, 5, 6] [] (.seq (.block 1 (.seq (.region [
    { dst := some 8, op := .move (.t 6), ix := 0 },
    { dst := some 3, op := .move (.t 8), ix := 1 }] false [0, 3, 5, 6] []) (.seq (.region [
    { dst := some 9, op := .move (.t 3), ix := 0 },
    { dst := some 10, op := .eq .i false (.t 9) (.c (.int .i64 0)), ix := 1 },
    { dst := some 11, op := .move (.t 10), ix := 2 },
    { dst := some 12, op := .move (.t 0), guard := some (11, true), ix := 3 },
    { dst := some 13, op := .move (.t 3), guard := some (11, true), ix := 4 },
    { dst := some 14, op := .indexAddr 6 (.t 12) (.t 13), guard := some (11, true), ix := 5 },
    { dst := some 15, op := .fieldAddr 1 (.t 14), guard := some (11, true), ix := 6 },
    { dst := some 16, op := .load 1 false (.t 15), guard := some (11, true), ix := 7 },
    { dst := some 17, op := .eq .i true (.t 16) (.c (.int .i64 0)), guard := some (11, true), ix := 8 },
    { dst := some 18, op := .pick (.t 11) (.t 17) (.c (.bool false)), ix := 9 },
    { dst := some 19, op := .move (.t 18), ix := 10 },
    { dst := some 20, op := .move (.t 3), guard := some (19, false), ix := 11 },
    { dst := some 21, op := .bin .gtr (.t 20) (.c (.int .i64 0)), guard := some (19, false), ix := 12 },
    { dst := some 22, op := .move (.t 21), guard := some (19, false), ix := 13 },
    { dst := some 23, op := .move (.t 0), guard := some (22, true), ix := 14 },
    { dst := some 24, op := .move (.t 3), guard := some (22, true), ix := 15 },
    { dst := some 25, op := .indexAddr 6 (.t 23) (.t 24), guard := some (22, true), ix := 16 },
    { dst := some 26, op := .fieldAddr 1 (.t 25), guard := some (22, true), ix := 17 },
    { dst := some 27, op := .load 1 false (.t 26), guard := some (22, true), ix := 18 },
    { dst := some 28, op := .bin .lss (.t 27) (.c (.int .i64 1)), guard := some (22, true), ix := 19 },
    { dst := some 29, op := .move (.t 28), guard := some (22, true), ix := 20 },
    { dst := some 30, op := .move (.t 0), guard := some (29, false), ix := 21 },
    { dst := some 31, op := .move (.t 3), guard := some (29, false), ix := 22 },
    { dst := some 32, op := .move (.t 0), guard := some (29, false), ix := 23 },
    { dst := some 33, op := .move (.t 3), guard := some (29, false), ix := 24 },
    { dst := some 34, op := .indexAddr 6 (.t 32) (.t 33), guard := some (29, false), ix := 25 },
    { dst := some 35, op := .fieldAddr 1 (.t 34), guard := some (29, false), ix := 26 },
    { dst := some 36, op := .load 1 false (.t 35), guard := some (29, false), ix := 27 },
    { dst := some 37, op := .pcall 32 [(.t 30, .as), (.t 31, .as), (.t 36, .as)], guard := some (29, false), ix := 28 },
    { dst := some 38, op := .un .not (.t 37), guard := some (29, false), ix := 29 },
    { dst := some 39, op := .pick (.t 29) (.c (.bool true)) (.t 38), guard := some (22, true), ix := 30 },
    { dst := some 40, op := .pick (.t 22) (.t 39) (.c (.bool false)), guard := some (19, false), ix := 31 },
    { dst := some 41, op := .pick (.t 19) (.c (.bool true)) (.t 40), ix := 32 }] false [0, 5, 6, 41] []) (.seq (.cond (.t 41) (.seq (.region [
    { dst := some 2, op := .move (.c (.bool false)), ix := 0 }] false [2] []) (.keep [2] [] .ret)) (.keep [0, 5, 6] [] .skip)) (.keep [0, 5, 6] [] .skip))))) (.keep [0, 5, 6] [] (.seq (.region [
    { dst := some 42, op := .bin .add (.t 6) (.c (.int .i64 1)), ix := 0 },
    { dst := some 6, op := .move (.t 42), ix := 1 }] false [0, 5, 6] []) (.keep [0, 5, 6] [] .skip)))))))
def F17 : LFunc := { nparams := 1, results := [.tmp 2], pure := true, body :=
  (.seq (.region [
    { dst := some 2, op := .move (.c (.bool false)), ix := 0 }] false [0] []) (.seq (.region [
    { dst := some 4, op := .move (.t 0), ix := 0 },
    { dst := some 5, op := .len 1 (.t 4), ix := 1 },
    { dst := some 6, op := .move (.c (.int .i64 0)), ix := 2 }] false [0, 5, 6] []) (.seq (.block 0 (.seq (.keep [0, 5, 6] [] (.loop B17x0)) (.keep [] [] .skip))) (.keep [] [] (.seq (.region [
    { dst := some 2, op := .move (.c (.bool true)), ix := 0 }] false [2] []) (.keep [2] [] .ret)))))) }
theorem ok17 : fnSoundB Go.Proofs.Tryd.prog 17 F17 = true := by decide +kernel
/- tendril/tendrilref13.Depth -/
def B18x0 : LCode :=
  (.seq (.region [
    { dst := some 6, op := .move (.t 1), ix := 0 },
    { dst := some 7, op := .bin .gtr (.t 6) (.c (.int .i64 0)), ix := 1 }] false [0, 1, 5, 7] []) (.seq (.cond (.t 7) (.keep [0, 1, 5] [] .skip) (.keep [5] [] (.exit 0))) (.keep [0, 1, 5] [] (.seq (.block 1 (.seq (.region [
    { dst := some 8, op := .move (.t 5), ix := 0 },
    { dst := some 9, op := .bin .add (.t 8) (.c (.int .i64 1)), ix := 1 },
    { dst := some 5, op := .move (.t 9), ix := 2 }] false [0, 1, 5] []) (.seq (.region [
    { dst := some 10, op := .move (.t 0), ix := 0 },
    { dst := some 11, op := .move (.t 1), ix := 1 },
    { dst := some 12, op := .bin .sub (.t 11) (.c (.int .i64 1)), ix := 2 },
    { dst := some 13, op := .indexAddr 6 (.t 10) (.t 12), ix := 3 },
    { dst := some 14, op := .fieldAddr 1 (.t 13), ix := 4 },
    { dst := some 15, op := .load 1 false (.t 14), ix := 5 },
    { dst := some 1, op := .move (.t 15), ix := 6 }] false [0, 1, 5] []) (.keep [0, 1, 5] [] .skip)))) (.keep [0, 1, 5] [] .skip)))))
def F18 : LFunc := { nparams := 2, results := [.tmp 4], pure := true, body :=
  (.seq (.region [
    { dst := some 4, op := .move (.c (.int .i64 0)), ix := 0 }] false [0, 1] []) (.seq (.region [
    { dst := some 5, op := .move (.c (.int .i64 0)), ix := 0 }] false [0, 1, 5] []) (.seq (.block 0 (.seq (.keep [0, 1, 5] [] (.loop B18x0)) (.keep [5] [] .skip))) (.keep [5] [] (.seq (.region [
    { dst := some 16, op := .move (.t 5), ix := 0 },
    { dst := some 4, op := .move (.t 16), ix := 1 }] false [4] []) (.keep [4] [] .ret)))))) }
theorem ok18 : fnSoundB Go.Proofs.Tryd.prog 18 F18 = true := by decide +kernel
/- tendril/tendrilref11.Alone -/
def F19 : LFunc := { nparams := 1, results := [.tmp 2], pure := true, body :=
  (.seq (.region [
    { dst := some 1, op := .box false 1 (.t 0), ix := 0 },
    { dst := some 2, op := .move (.c (.int .i64 0)), ix := 1 }] false [1] [1]) (.seq (.region [
    { dst := some 5, op := .fieldAddr 0 (.t 1), ix := 0 },
    { dst := some 6, op := .load 1 false (.t 5), ix := 1 },
    { dst := some 7, op := .pcall 30 [(.t 6, .as), (.c (.bool false), .as)], ix := 2 },
    { dst := some 8, op := .un .not (.t 7), ix := 3 }] false [1, 8] [1]) (.seq (.cond (.t 8) (.seq (.region [
    { dst := some 2, op := .move (.c (.int .i64 7)), ix := 0 }] false [2] []) (.keep [2] [] .ret)) (.keep [1] [1] .skip)) (.keep [1] [1] (.seq (.region [
    { dst := some 9, op := .fieldAddr 1 (.t 1), ix := 0 },
    { dst := some 10, op := .load 1 false (.t 9), ix := 1 },
    { dst := some 11, op := .len 0 (.t 10), ix := 2 },
    { dst := some 12, op := .bin .gtr (.t 11) (.c (.int .i64 65536)), ix := 3 },
    { dst := some 13, op := .move (.t 12), ix := 4 },
    { dst := some 14, op := .fieldAddr 2 (.t 1), guard := some (13, false), ix := 5 },
    { dst := some 15, op := .load 1 false (.t 14), guard := some (13, false), ix := 6 },
    { dst := some 16, op := .len 0 (.t 15), guard := some (13, false), ix := 7 },
    { dst := some 17, op := .bin .gtr (.t 16) (.c (.int .i64 65536)), guard := some (13, false), ix := 8 },
    { dst := some 18, op := .pick (.t 13) (.c (.bool true)) (.t 17), ix := 9 }] false [1, 18] [1]) (.seq (.cond (.t 18) (.seq (.region [
    { dst := some 2, op := .move (.c (.int .i64 3)), ix := 0 }] false [2] []) (.keep [2] [] .ret)) (.keep [1] [1] .skip)) (.keep [1] [1] (.seq (.region [
    { dst := some 20, op := .fieldAddr 3 (.t 1), ix := 0 },
    { dst := some 21, op := .load 1 false (.t 20), ix := 1 },
    { dst := some 22, op := .pcall 31 [(.t 21, .as)], ix := 2 },
    { dst := some 19, op := .move (.t 22), ix := 3 },
    { dst := some 23, op := .extract (.t 19) 0, ix := 4 },
    { dst := some 24, op := .extract (.t 19) 1, ix := 5 },
    { dst := some 3, op := .move (.t 23), ix := 6 },
    { dst := some 4, op := .move (.t 24), ix := 7 }] false [4] []) (.seq (.region [
    { dst := some 25, op := .move (.t 4), ix := 0 },
    { dst := some 2, op := .move (.t 25), ix := 1 }] false [2] []) (.keep [2] [] .ret)))))))))) }
theorem ok19 : fnSoundB Go.Proofs.Tryd.prog 19 F19 = true := by decide +kernel
/- (tendril/plain.Machine).Loose -/
def B20x0 : LCode :=
  (.seq (.region [
    { dst := some 15, op := .bin .lss (.t 14) (.t 13), ix := 0 }] false [3, 12, 13, 14, 15] []) (.seq (.cond (.t 15) (.keep [3, 12, 13, 14] [] .skip) (.keep [3] [] (.exit 0))) (.keep [3, 12, 13, 14] [] (.seq (.block 1 (.seq (.region [
    { dst := some 16, op := .move (.t 14), ix := 0 },
    { dst := some 17, op := .indexAddr 7 (.t 12) (.t 14), ix := 1 },
    { dst := some 18, op := .load 7 true (.t 17), ix := 2 },
    { dst := some 5, op := .alloc false 5 [.p (.bool false), .p (.int .i64 0), .p (.list []), .p (.str []), .p (.str []), .p (.str []), .p (.list [])] [], ix := 3 },
    { dst := some 4, op := .move (.t 16), ix := 4 },
    { dst := none, op := .store 7 true (.t 5) (.t 18), ix := 5 }] false [3, 4, 5, 12, 13, 14] [5]) (.seq (.region [
    { dst := some 19, op := .move (.t 4), ix := 0 },
    { dst := some 20, op := .bin .gtr (.t 19) (.c (.int .i64 0)), ix := 1 },
    { dst := some 21, op := .move (.t 20), ix := 2 },
    { dst := some 22, op := .fieldAddr 0 (.t 5), guard := some (21, true), ix := 3 },
    { dst := some 23, op := .load 1 false (.t 22), guard := some (21, true), ix := 4 },
    { dst := some 24, op := .pick (.t 21) (.t 23) (.c (.bool false)), ix := 5 },
    { dst := some 25, op := .move (.t 24), ix := 6 },
    { dst := some 26, op := .fieldAddr 1 (.t 5), guard := some (25, true), ix := 7 },
    { dst := some 27, op := .load 1 false (.t 26), guard := some (25, true), ix := 8 },
    { dst := some 28, op := .bin .lss (.t 27) (.c (.int .i64 0)), guard := some (25, true), ix := 9 },
    { dst := some 29, op := .pick (.t 25) (.t 28) (.c (.bool false)), ix := 10 }] false [3, 4, 12, 13, 14, 29] []) (.seq (.cond (.t 29) (.seq (.region [
    { dst := some 30, op := .move (.t 3), ix := 0 },
    { dst := some 31, op := .move (.t 4), ix := 1 },
    { dst := some 32, op := .row 1 [.t 31], ix := 2 },
    { dst := some 33, op := .append true 1001 1 8 (.t 30) (.t 32), ix := 3 },
    { dst := some 3, op := .move (.t 33), ix := 4 }] false [3, 12, 13, 14] []) (.keep [3, 12, 13, 14] [] .skip)) (.keep [3, 12, 13, 14] [] .skip)) (.keep [3, 12, 13, 14] [] .skip))))) (.keep [3, 12, 13, 14] [] (.seq (.region [
    { dst := some 34, op := .bin .add (.t 14) (.c (.int .i64 1)), ix := 0 },
    { dst := some 14, op := .move (.t 34), ix := 1 }] false [3, 12, 13, 14] []) (.keep [3, 12, 13, 14] [] .skip)))))))
def F20 : LFunc := { nparams := 1, results := [.tmp 2], pure := false, body :=
  (.seq (.region [
    { dst := some 2, op := .move (.c (.list [])), ix := 0 }] false [0] []) (.seq (.region [
    { dst := some 3, op := .nilown true 1000 1, ix := 0 }] false [0, 3] []) (.seq (.region [
    { dst := some 6, op := .move (.t 0), ix := 0 },
    { dst := some 7, op := .eq .ptr false (.t 6) (.c (.nilp)), ix := 1 }] false [0, 3, 7] []) (.seq (.cond (.t 7) (.seq (.region [
    { dst := some 8, op := .move (.t 3), ix := 0 },
    { dst := some 2, op := .move (.t 8), ix := 1 }] false [2] []) (.keep [2] [] .ret)) (.keep [0, 3] [] .skip)) (.keep [0, 3] [] (.seq (.region [
    { dst := some 9, op := .move (.t 0), ix := 0 },
    { dst := some 10, op := .nilCheck (.t 9), ix := 1 },
    { dst := some 11, op := .fieldAddr 0 (.t 10), ix := 2 },
    { dst := some 12, op := .load 1 false (.t 11), ix := 3 },
    { dst := some 13, op := .len 1 (.t 12), ix := 4 },
    { dst := some 14, op := .move (.c (.int .i64 0)), ix := 5 }] false [3, 12, 13, 14] []) (.seq (.block 0 (.seq (.keep [3, 12, 13, 14] [] (.loop B20x0)) (.keep [3] [] .skip))) (.keep [3] [] (.seq (.region [
    { dst := some 35, op := .move (.t 3), ix := 0 },
    { dst := some 2, op := .move (.t 35), ix := 1 }] false [2] []) (.keep [2] [] .ret)))))))))) }
theorem ok20 : fnSoundB Go.Proofs.Tryd.prog 20 F20 = true := by decide +kernel
/- tendril/flat.Check -/
def F21 : LFunc := { nparams := 1, results := [.tmp 2], pure := true, body :=
  (.seq (.region [
    { dst := some 2, op := .move (.c (.int .i64 0)), ix := 0 }] false [0] []) (.seq (.region [
    { dst := some 5, op := .move (.t 0), ix := 0 },
    { dst := some 6, op := .len 1 (.t 5), ix := 1 },
    { dst := some 7, op := .eq .i false (.t 6) (.c (.int .i64 0)), ix := 2 }] false [0, 7] []) (.seq (.cond (.t 7) (.seq (.region [
    { dst := some 2, op := .move (.c (.int .i64 0)), ix := 0 }] false [2] []) (.keep [2] [] .ret)) (.keep [0] [] .skip)) (.keep [0] [] (.seq (.region [
    { dst := some 9, op := .move (.t 0), ix := 0 },
    { dst := some 10, op := .pcall 33 [(.t 9, .as)], ix := 1 },
    { dst := some 8, op := .move (.t 10), ix := 2 },
    { dst := some 11, op := .extract (.t 8) 0, ix := 3 },
    { dst := some 12, op := .extract (.t 8) 1, ix := 4 },
    { dst := some 3, op := .alloc false 3 [.p (.str []), .p (.str []), .p (.str []), .p (.list []), .p (.list [])] [], ix := 5 },
    { dst := none, op := .store 5 true (.t 3) (.t 11), ix := 6 },
    { dst := some 4, op := .move (.t 12), ix := 7 }] false [4] []) (.seq (.region [
    { dst := some 13, op := .move (.t 4), ix := 0 },
    { dst := some 2, op := .move (.t 13), ix := 1 }] false [2] []) (.keep [2] [] .ret))))))) }
theorem ok21 : fnSoundB Go.Proofs.Tryd.prog 21 F21 = true := by decide +kernel
/- (tendril/plain.Machine).Do -/
def F23 : LFunc := { nparams := 2, results := [.tmp 4], pure := false, body :=
  (.seq (.region [
    { dst := some 3, op := .box false 3 (.t 1), ix := 0 },
    { dst := some 4, op := .move (.c (.int .i64 0)), ix := 1 }] false [0, 3] [3]) (.seq (.region [
    { dst := some 7, op := .move (.t 0), ix := 0 },
    { dst := some 8, op := .eq .ptr false (.t 7) (.c (.nilp)), ix := 1 },
    { dst := some 9, op := .move (.t 8), ix := 2 },
    { dst := some 10, op := .move (.t 0), guard := some (9, false), ix := 3 },
    { dst := some 11, op := .nilCheck (.t 10), guard := some (9, false), ix := 4 },
    { dst := some 12, op := .fieldAddr 0 (.t 11), guard := some (9, false), ix := 5 },
    { dst := some 13, op := .load 1 false (.t 12), guard := some (9, false), ix := 6 },
    { dst := some 14, op := .len 1 (.t 13), guard := some (9, false), ix := 7 },
    { dst := some 15, op := .eq .i false (.t 14) (.c (.int .i64 0)), guard := some (9, false), ix := 8 },
    { dst := some 16, op := .pick (.t 9) (.c (.bool true)) (.t 15), ix := 9 }] false [0, 3, 16] [3]) (.seq (.cond (.t 16) (.seq (.region [
    { dst := some 4, op := .move (.c (.int .i64 1)), ix := 0 }] false [4] []) (.keep [4] [] .ret)) (.keep [0, 3] [3] .skip)) (.keep [0, 3] [3] (.seq (.region [
    { dst := some 17, op := .load 9 true (.t 3), ix := 0 },
    { dst := some 18, op := .pcall 34 [(.t 17, .as)], ix := 1 },
    { dst := some 5, op := .move (.t 18), ix := 2 }] false [0, 3, 5] [3]) (.seq (.region [
    { dst := some 19, op := .move (.t 5), ix := 0 },
    { dst := some 20, op := .eq .i true (.t 19) (.c (.int .i64 0)), ix := 1 }] false [0, 3, 5, 20] [3]) (.seq (.cond (.t 20) (.seq (.region [
    { dst := some 21, op := .move (.t 5), ix := 0 },
    { dst := some 4, op := .move (.t 21), ix := 1 }] false [4] []) (.keep [4] [] .ret)) (.keep [0, 3] [3] .skip)) (.keep [0, 3] [3] (.seq (.region [
    { dst := some 22, op := .fieldAddr 0 (.t 3), ix := 0 },
    { dst := some 23, op := .load 1 false (.t 22), ix := 1 },
    { dst := some 24, op := .eq .i false (.t 23) (.c (.int .i64 1)), ix := 2 }] false [0, 3, 24] [3]) (.seq (.cond (.t 24) (.seq (.draw [
    { dst := some 25, op := .move (.t 0), ix := 0 },
    { dst := some 26, op := .move (.t 0), ix := 1 },
    { dst := some 27, op := .nilCheck (.t 26), ix := 2 },
    { dst := some 28, op := .fieldAddr 0 (.t 27), ix := 3 },
    { dst := some 29, op := .load 1 false (.t 28), ix := 4 },
    { dst := some 30, op := .fieldAddr 4 (.t 3), ix := 5 },
    { dst := some 31, op := .load 1 false (.t 30), ix := 6 },
    { dst := some 32, op := .fieldAddr 5 (.t 3), ix := 7 },
    { dst := some 33, op := .load 1 false (.t 32), ix := 8 },
    { dst := some 34, op := .fieldAddr 7 (.t 3), ix := 9 },
    { dst := some 35, op := .load 1 false (.t 34), ix := 10 },
    { dst := some 36, op := .fieldAddr 8 (.t 3), ix := 11 },
    { dst := some 37, op := .load 1 false (.t 36), ix := 12 },
    { dst := some 38, op := .pcall 22 [(.t 37, .as)], ix := 13 },
    { dst := some 39, op := .build [.p (.bool false), .p (.int .i64 0), .nils, .p (.str []), .p (.str []), .p (.str []), .p (.list [])] [(0, 1, .c (.bool true)), (1, 1, .c (.int .i64 (-1))), (3, 1, .t 31), (4, 1, .t 33), (5, 1, .t 35), (6, 1, .t 38)], ix := 14 },
    { dst := some 40, op := .row 7 [.t 39], ix := 15 },
    { dst := some 41, op := .append true 1000 7 112 (.t 29) (.t 40), ix := 16 },
    { dst := some 42, op := .nilCheck (.t 25), ix := 17 },
    { dst := some 43, op := .fieldAddr 0 (.t 42), ix := 18 },
    { dst := none, op := .store 1 false (.t 43) (.t 41), ix := 19 }] [] []) (.seq (.region [
    { dst := some 4, op := .move (.c (.int .i64 0)), ix := 0 }] false [4] []) (.keep [4] [] .ret))) (.keep [0, 3] [3] .skip)) (.keep [0, 3] [3] (.seq (.region [
    { dst := some 44, op := .fieldAddr 1 (.t 3), ix := 0 },
    { dst := some 45, op := .load 1 false (.t 44), ix := 1 },
    { dst := some 46, op := .eq .i false (.t 45) (.c (.int .i64 0)), ix := 2 }] false [0, 3, 46] [3]) (.seq (.cond (.t 46) (.seq (.region [
    { dst := some 4, op := .move (.c (.int .i64 14)), ix := 0 }] false [4] []) (.keep [4] [] .ret)) (.keep [0, 3] [3] .skip)) (.keep [0, 3] [3] (.seq (.region [
    { dst := some 47, op := .fieldAddr 0 (.t 3), ix := 0 },
    { dst := some 48, op := .load 1 false (.t 47), ix := 1 }] false [0, 3, 48] [3]) (.seq (.block 0 (.seq (.region [
    { dst := some 50, op := .eq .i false (.t 48) (.c (.int .i64 2)), ix := 0 },
    { dst := some 49, op := .move (.t 50), ix := 1 }] false [0, 3, 48, 49] [3]) (.seq (.cond (.t 49) (.seq (.region [
    { dst := some 51, op := .move (.t 0), ix := 0 },
    { dst := some 52, op := .load 9 true (.t 3), ix := 1 },
    { dst := some 53, op := .call 35 [(.t 51, .as), (.t 52, .as)], ix := 2 },
    { dst := some 4, op := .move (.t 53), ix := 3 }] false [4] []) (.keep [4] [] .ret)) (.seq (.region [
    { dst := some 55, op := .eq .i false (.t 48) (.c (.int .i64 3)), ix := 0 },
    { dst := some 54, op := .move (.t 55), ix := 1 }] false [0, 3, 54] [3]) (.seq (.cond (.t 54) (.seq (.region [
    { dst := some 56, op := .move (.t 0), ix := 0 },
    { dst := some 57, op := .load 9 true (.t 3), ix := 1 },
    { dst := some 58, op := .call 36 [(.t 56, .as), (.t 57, .as)], ix := 2 },
    { dst := some 4, op := .move (.t 58), ix := 3 }] false [4] []) (.keep [4] [] .ret)) (.keep [0, 3] [3] .skip)) (.keep [0, 3] [3] .skip)))) (.keep [0, 3] [3] .skip)))) (.keep [0, 3] [3] (.seq (.region [
    { dst := some 59, op := .move (.t 0), ix := 0 },
    { dst := some 60, op := .fieldAddr 1 (.t 3), ix := 1 },
    { dst := some 61, op := .load 1 false (.t 60), ix := 2 },
    { dst := some 62, op := .call 37 [(.t 59, .as), (.t 61, .as)], ix := 3 },
    { dst := some 6, op := .move (.t 62), ix := 4 }] false [0, 3, 6] [3]) (.seq (.region [
    { dst := some 63, op := .move (.t 6), ix := 0 },
    { dst := some 64, op := .eq .i true (.t 63) (.c (.int .i64 0)), ix := 1 }] false [0, 3, 6, 64] [3]) (.seq (.cond (.t 64) (.seq (.region [
    { dst := some 65, op := .move (.t 6), ix := 0 },
    { dst := some 4, op := .move (.t 65), ix := 1 }] false [4] []) (.keep [4] [] .ret)) (.keep [0, 3] [3] .skip)) (.keep [0, 3] [3] (.seq (.region [
    { dst := some 66, op := .fieldAddr 0 (.t 3), ix := 0 },
    { dst := some 67, op := .load 1 false (.t 66), ix := 1 },
    { dst := some 68, op := .eq .i false (.t 67) (.c (.int .i64 4)), ix := 2 }] false [0, 3, 68] [3]) (.seq (.cond (.t 68) (.seq (.region [
    { dst := some 69, op := .move (.t 0), ix := 0 },
    { dst := some 70, op := .fieldAddr 1 (.t 3), ix := 1 },
    { dst := some 71, op := .load 1 false (.t 70), ix := 2 },
    { dst := some 72, op := .call 38 [(.t 69, .as), (.t 71, .as)], ix := 3 }] false [0, 3] [3]) (.seq (.region [
    { dst := some 73, op := .move (.t 0), ix := 0 },
    { dst := some 74, op := .fieldAddr 1 (.t 3), ix := 1 },
    { dst := some 75, op := .load 1 false (.t 74), ix := 2 },
    { dst := some 76, op := .call 39 [(.t 73, .as), (.t 75, .as)], ix := 3 }] false [] []) (.seq (.region [
    { dst := some 4, op := .move (.c (.int .i64 0)), ix := 0 }] false [4] []) (.keep [4] [] .ret)))) (.keep [0, 3] [3] .skip)) (.keep [0, 3] [3] (.seq (.draw [
    { dst := some 77, op := .move (.t 0), ix := 0 },
    { dst := some 78, op := .move (.t 0), ix := 1 },
    { dst := some 79, op := .nilCheck (.t 78), ix := 2 },
    { dst := some 80, op := .fieldAddr 0 (.t 79), ix := 3 },
    { dst := some 81, op := .load 1 false (.t 80), ix := 4 },
    { dst := some 82, op := .fieldAddr 1 (.t 3), ix := 5 },
    { dst := some 83, op := .load 1 false (.t 82), ix := 6 },
    { dst := some 84, op := .indexAddr 7 (.t 81) (.t 83), ix := 7 },
    { dst := some 85, op := .load 9 true (.t 3), ix := 8 },
    { dst := some 86, op := .call 40 [(.t 77, .as), (.t 84, .as), (.t 85, .as)], ix := 9 },
    { dst := some 4, op := .move (.t 86), ix := 10 }] [4] []) (.keep [4] [] .ret)))))))))))))))))))))))))) }
theorem ok23 : fnSoundB Go.Proofs.Tryd.prog 23 F23 = true := by decide +kernel
/- (tendril/plain.Machine).rows -/
def B24x0 : LCode :=
  (.seq (.region [
    { dst := some 22, op := .bin .lss (.t 21) (.t 20), ix := 0 }] false [0, 1, 3, 19, 20, 21, 22] []) (.seq (.cond (.t 22) (.keep [0, 1, 3, 19, 20, 21] [] .skip) (.keep [1] [] (.exit 0))) (.keep [0, 1, 3, 19, 20, 21] [] (.seq (.block 1 (.seq (.region [
    { dst := some 23, op := .indexAddr 1 (.t 19) (.t 21), ix := 0 },
    { dst := some 24, op := .load 1 false (.t 23), ix := 1 },
    { dst := some 10, op := .move (.t 24), ix := 2 }] false [0, 1, 3, 10, 19, 20, 21] []) (.seq (.region [
    { dst := some 25, op := .move (.t 0), ix := 0 },
    { dst := some 26, op := .nilCheck (.t 25), ix := 1 },
    { dst := some 27, op := .fieldAddr 0 (.t 26), ix := 2 },
    { dst := some 28, op := .load 1 false (.t 27), ix := 3 },
    { dst := some 29, op := .move (.t 10), ix := 4 },
    { dst := some 30, op := .indexAddr 7 (.t 28) (.t 29), ix := 5 },
    { dst := some 31, op := .load 7 true (.t 30), ix := 6 },
    { dst := some 11, op := .alloc false 11 [.p (.bool false), .p (.int .i64 0), .p (.list []), .p (.str []), .p (.str []), .p (.str []), .p (.list [])] [], ix := 7 },
    { dst := none, op := .store 7 true (.t 11) (.t 31), ix := 8 }] false [0, 1, 3, 10, 11, 19, 20, 21] [11]) (.seq (.draw [
    { dst := some 32, op := .move (.t 1), ix := 0 },
    { dst := some 33, op := .move (.t 10), ix := 1 },
    { dst := some 34, op := .move (.t 3), ix := 2 },
    { dst := some 35, op := .fieldAddr 3 (.t 11), ix := 3 },
    { dst := some 36, op := .load 1 false (.t 35), ix := 4 },
    { dst := some 37, op := .fieldAddr 4 (.t 11), ix := 5 },
    { dst := some 38, op := .load 1 false (.t 37), ix := 6 },
    { dst := some 39, op := .fieldAddr 5 (.t 11), ix := 7 },
    { dst := some 40, op := .load 1 false (.t 39), ix := 8 },
    { dst := some 41, op := .fieldAddr 6 (.t 11), ix := 9 },
    { dst := some 42, op := .load 1 false (.t 41), ix := 10 },
    { dst := some 43, op := .pcall 22 [(.t 42, .as)], ix := 11 },
    { dst := some 44, op := .build [.p (.int .i64 0), .p (.int .i64 0), .p (.str []), .p (.str []), .p (.str []), .p (.list [])] [(0, 1, .t 33), (1, 1, .t 34), (2, 1, .t 36), (3, 1, .t 38), (4, 1, .t 40), (5, 1, .t 43)], ix := 12 },
    { dst := some 45, op := .row 6 [.t 44], ix := 13 },
    { dst := some 46, op := .append true 1000 6 88 (.t 32) (.t 45), ix := 14 },
    { dst := some 1, op := .move (.t 46), ix := 15 }] [0, 1, 3, 10, 19, 20, 21] []) (.seq (.region [
    { dst := some 47, op := .move (.t 0), ix := 0 },
    { dst := some 48, op := .move (.t 1), ix := 1 },
    { dst := some 49, op := .move (.t 10), ix := 2 },
    { dst := some 50, op := .move (.t 1), ix := 3 },
    { dst := some 51, op := .len 1 (.t 50), ix := 4 },
    { dst := some 52, op := .call 24 [(.t 47, .as), (.t 48, .as), (.t 49, .as), (.t 51, .as)], ix := 5 },
    { dst := some 1, op := .move (.t 52), ix := 6 }] false [0, 1, 3, 19, 20, 21] []) (.keep [0, 1, 3, 19, 20, 21] [] .skip)))))) (.keep [0, 1, 3, 19, 20, 21] [] (.seq (.region [
    { dst := some 53, op := .bin .add (.t 21) (.c (.int .i64 1)), ix := 0 },
    { dst := some 21, op := .move (.t 53), ix := 1 }] false [0, 1, 3, 19, 20, 21] []) (.keep [0, 1, 3, 19, 20, 21] [] .skip)))))))
def F24 : LFunc := { nparams := 4, results := [.tmp 8], pure := false, body :=
  (.seq (.region [
    { dst := some 8, op := .move (.c (.list [])), ix := 0 }] false [0, 1, 2, 3] []) (.seq (.region [
    { dst := some 12, op := .move (.t 0), ix := 0 },
    { dst := some 13, op := .nilCheck (.t 12), ix := 1 },
    { dst := some 14, op := .fieldAddr 0 (.t 13), ix := 2 },
    { dst := some 15, op := .load 1 false (.t 14), ix := 3 },
    { dst := some 16, op := .move (.t 2), ix := 4 },
    { dst := some 17, op := .indexAddr 7 (.t 15) (.t 16), ix := 5 },
    { dst := some 18, op := .fieldAddr 2 (.t 17), ix := 6 },
    { dst := some 19, op := .load 1 false (.t 18), ix := 7 },
    { dst := some 20, op := .len 1 (.t 19), ix := 8 },
    { dst := some 21, op := .move (.c (.int .i64 0)), ix := 9 }] false [0, 1, 3, 19, 20, 21] []) (.seq (.block 0 (.seq (.keep [0, 1, 3, 19, 20, 21] [] (.loop B24x0)) (.keep [1] [] .skip))) (.keep [1] [] (.seq (.region [
    { dst := some 54, op := .move (.t 1), ix := 0 },
    { dst := some 8, op := .move (.t 54), ix := 1 }] false [8] []) (.keep [8] [] .ret)))))) }
theorem ok24 : fnSoundB Go.Proofs.Tryd.prog 24 F24 = true := by decide +kernel
/- tendril/ops.First -/
def B25x0 : LCode :=
  (.seq (.region [
    { dst := some 10, op := .bin .lss (.t 9) (.t 8), ix := 0 }] false [7, 8, 9, 10] []) (.seq (.cond (.t 10) (.keep [7, 8, 9] [] .skip) (.keep [] [] (.exit 0))) (.keep [7, 8, 9] [] (.seq (.block 1 (.seq (.region [
    { dst := some 11, op := .move (.t 9), ix := 0 },
    { dst := some 12, op := .indexAddr 9 (.t 7) (.t 9), ix := 1 },
    { dst := some 13, op := .load 9 true (.t 12), ix := 2 },
    { dst := some 5, op := .alloc false 5 [.p (.int .i64 0), .p (.int .i64 0), .p (.int .i64 0), .p (.int .i64 0), .p (.str []), .p (.str []), .p (.str []), .p (.str []), .p (.list [])] [], ix := 3 },
    { dst := some 4, op := .move (.t 11), ix := 4 },
    { dst := none, op := .store 9 true (.t 5) (.t 13), ix := 5 }] false [4, 5, 7, 8, 9] [5]) (.seq (.region [
    { dst := some 14, op := .move (.t 4), ix := 0 },
    { dst := some 15, op := .eq .i false (.t 14) (.c (.int .i64 1048576)), ix := 1 }] false [4, 5, 7, 8, 9, 15] [5]) (.seq (.cond (.t 15) (.seq (.region [
    { dst := some 16, op := .move (.t 4), ix := 0 },
    { dst := some 2, op := .move (.t 16), ix := 1 },
    { dst := some 3, op := .move (.c (.int .i64 12)), ix := 2 }] false [2, 3] []) (.keep [2, 3] [] .ret)) (.keep [4, 5, 7, 8, 9] [5] .skip)) (.keep [4, 5, 7, 8, 9] [5] (.seq (.region [
    { dst := some 17, op := .load 9 true (.t 5), ix := 0 },
    { dst := some 18, op := .pcall 34 [(.t 17, .as)], ix := 1 },
    { dst := some 6, op := .move (.t 18), ix := 2 }] false [4, 6, 7, 8, 9] []) (.seq (.region [
    { dst := some 19, op := .move (.t 6), ix := 0 },
    { dst := some 20, op := .eq .i true (.t 19) (.c (.int .i64 0)), ix := 1 }] false [4, 6, 7, 8, 9, 20] []) (.seq (.cond (.t 20) (.seq (.region [
    { dst := some 21, op := .move (.t 4), ix := 0 },
    { dst := some 22, op := .move (.t 6), ix := 1 },
    { dst := some 2, op := .move (.t 21), ix := 2 },
    { dst := some 3, op := .move (.t 22), ix := 3 }] false [2, 3] []) (.keep [2, 3] [] .ret)) (.keep [7, 8, 9] [] .skip)) (.keep [7, 8, 9] [] .skip))))))))) (.keep [7, 8, 9] [] (.seq (.region [
    { dst := some 23, op := .bin .add (.t 9) (.c (.int .i64 1)), ix := 0 },
    { dst := some 9, op := .move (.t 23), ix := 1 }] false [7, 8, 9] []) (.keep [7, 8, 9] [] .skip)))))))
def F25 : LFunc := { nparams := 1, results := [.tmp 2, .tmp 3], pure := true, body :=
  (.seq (.region [
    { dst := some 2, op := .move (.c (.int .i64 0)), ix := 0 },
    { dst := some 3, op := .move (.c (.int .i64 0)), ix := 1 }] false [0] []) (.seq (.region [
    { dst := some 7, op := .move (.t 0), ix := 0 },
    { dst := some 8, op := .len 1 (.t 7), ix := 1 },
    { dst := some 9, op := .move (.c (.int .i64 0)), ix := 2 }] false [7, 8, 9] []) (.seq (.block 0 (.seq (.keep [7, 8, 9] [] (.loop B25x0)) (.keep [] [] .skip))) (.keep [] [] (.seq (.region [
    { dst := some 2, op := .move (.c (.int .i64 0)), ix := 0 },
    { dst := some 3, op := .move (.c (.int .i64 0)), ix := 1 }] false [2, 3] []) (.keep [2, 3] [] .ret)))))) }
theorem ok25 : fnSoundB Go.Proofs.Tryd.prog 25 F25 = true := by decide +kernel
/- tendril/valid.end -/
def B26x0 : LCode :=
  (.seq (.region [
    { dst := some 18, op := .bin .lss (.t 17) (.t 16), ix := 0 }] false [0, 1, 2, 8, 9, 15, 16, 17, 18] []) (.seq (.cond (.t 18) (.keep [0, 1, 2, 8, 9, 15, 16, 17] [] .skip) (.keep [0, 1, 2, 8, 9] [] (.exit 0))) (.keep [0, 1, 2, 8, 9, 15, 16, 17] [] (.seq (.block 1 (.seq (.region [
    { dst := some 19, op := .indexAddr 6 (.t 15) (.t 17), ix := 0 },
    { dst := some 20, op := .load 6 true (.t 19), ix := 1 },
    { dst := some 11, op := .alloc false 11 [.p (.int .i64 0), .p (.int .i64 0), .p (.str []), .p (.str []), .p (.str []), .p (.list [])] [], ix := 2 },
    { dst := none, op := .store 6 true (.t 11) (.t 20), ix := 3 }] false [0, 1, 2, 8, 9, 11, 15, 16, 17] [11]) (.seq (.region [
    { dst := some 21, op := .fieldAddr 1 (.t 11), ix := 0 },
    { dst := some 22, op := .load 1 false (.t 21), ix := 1 },
    { dst := some 23, op := .eq .i false (.t 22) (.c (.int .i64 0)), ix := 2 }] false [0, 1, 2, 8, 9, 15, 16, 17, 23] []) (.seq (.cond (.t 23) (.seq (.region [
    { dst := some 24, op := .move (.t 9), ix := 0 },
    { dst := some 25, op := .bin .add (.t 24) (.c (.int .i64 1)), ix := 1 },
    { dst := some 9, op := .move (.t 25), ix := 2 }] false [0, 1, 2, 8, 9, 15, 16, 17] []) (.keep [0, 1, 2, 8, 9, 15, 16, 17] [] .skip)) (.keep [0, 1, 2, 8, 9, 15, 16, 17] [] .skip)) (.keep [0, 1, 2, 8, 9, 15, 16, 17] [] .skip))))) (.keep [0, 1, 2, 8, 9, 15, 16, 17] [] (.seq (.region [
    { dst := some 26, op := .bin .add (.t 17) (.c (.int .i64 1)), ix := 0 },
    { dst := some 17, op := .move (.t 26), ix := 1 }] false [0, 1, 2, 8, 9, 15, 16, 17] []) (.keep [0, 1, 2, 8, 9, 15, 16, 17] [] .skip)))))))
def F26 : LFunc := { nparams := 3, results := [.tmp 6, .tmp 7], pure := false, body :=
  (.seq (.region [
    { dst := some 6, op := .move (.c (.list [])), ix := 0 },
    { dst := some 7, op := .move (.c (.int .i64 0)), ix := 1 }] false [0, 1, 2] []) (.seq (.region [
    { dst := some 13, op := .move (.t 0), ix := 0 },
    { dst := some 14, op := .call 11 [(.t 13, .as)], ix := 1 },
    { dst := some 8, op := .move (.t 14), ix := 2 }] false [0, 1, 2, 8] []) (.seq (.region [
    { dst := some 9, op := .move (.c (.int .i64 0)), ix := 0 }] false [0, 1, 2, 8, 9] []) (.seq (.region [
    { dst := some 15, op := .move (.t 8), ix := 0 },
    { dst := some 16, op := .len 1 (.t 15), ix := 1 },
    { dst := some 17, op := .move (.c (.int .i64 0)), ix := 2 }] false [0, 1, 2, 8, 9, 15, 16, 17] []) (.seq (.block 0 (.seq (.keep [0, 1, 2, 8, 9, 15, 16, 17] [] (.loop B26x0)) (.keep [0, 1, 2, 8, 9] [] .skip))) (.keep [0, 1, 2, 8, 9] [] (.seq (.block 2 (.seq (.region [
    { dst := some 28, op := .move (.t 0), ix := 0 },
    { dst := some 29, op := .call 20 [(.t 28, .as)], ix := 1 },
    { dst := some 30, op := .len 1 (.t 29), ix := 2 },
    { dst := some 31, op := .bin .gtr (.t 30) (.c (.int .i64 0)), ix := 3 },
    { dst := some 27, op := .move (.t 31), ix := 4 }] false [1, 2, 8, 9, 27] []) (.seq (.cond (.t 27) (.seq (.region [
    { dst := some 6, op := .move (.c (.list [])), ix := 0 },
    { dst := some 7, op := .move (.c (.int .i64 19)), ix := 1 }] false [6, 7] []) (.keep [6, 7] [] .ret)) (.seq (.region [
    { dst := some 33, op := .move (.t 9), ix := 0 },
    { dst := some 34, op := .bin .gtr (.t 33) (.c (.int .i64 1)), ix := 1 },
    { dst := some 32, op := .move (.t 34), ix := 2 }] false [1, 2, 8, 32] []) (.seq (.cond (.t 32) (.seq (.region [
    { dst := some 6, op := .move (.c (.list [])), ix := 0 },
    { dst := some 7, op := .move (.c (.int .i64 20)), ix := 1 }] false [6, 7] []) (.keep [6, 7] [] .ret)) (.keep [1, 2, 8] [] .skip)) (.keep [1, 2, 8] [] .skip)))) (.keep [1, 2, 8] [] .skip)))) (.keep [1, 2, 8] [] (.seq (.region [
    { dst := some 35, op := .move (.t 8), ix := 0 },
    { dst := some 36, op := .pcall 21 [(.t 35, .look)], ix := 1 },
    { dst := some 12, op := .move (.t 36), ix := 2 }] false [1, 2, 8, 12] []) (.seq (.block 3 (.seq (.block 5 (.seq (.block 4 (.seq (.region [
    { dst := some 38, op := .move (.t 12), ix := 0 },
    { dst := some 39, op := .eq .i true (.t 38) (.c (.int .i64 0)), ix := 1 },
    { dst := some 37, op := .move (.t 39), ix := 2 }] false [1, 2, 8, 12, 37] []) (.seq (.cond (.t 37) (.keep [12] [] (.exit 4)) (.keep [1, 2, 8, 12] [] .skip)) (.keep [1, 2, 8, 12] [] (.seq (.region [
    { dst := some 41, op := .move (.t 1), ix := 0 },
    { dst := some 42, op := .pcall 41 [(.t 41, .as)], ix := 1 },
    { dst := some 43, op := .field 0 1 false (.t 42), ix := 2 },
    { dst := some 44, op := .move (.t 2), ix := 3 },
    { dst := some 45, op := .bin .leq (.t 43) (.t 44), ix := 4 },
    { dst := some 40, op := .move (.t 45), ix := 5 }] false [8, 12, 40] []) (.seq (.cond (.t 40) (.keep [8, 12] [] (.exit 5)) (.keep [] [] .skip)) (.keep [] [] (.exit 3)))))))) (.keep [12] [] (.seq (.region [
    { dst := some 8, op := .move (.c (.list [])), ix := 0 }] false [8, 12] []) (.keep [8, 12] [] .skip))))) (.keep [8, 12] [] (.seq (.region [
    { dst := some 46, op := .move (.t 8), ix := 0 },
    { dst := some 47, op := .move (.t 12), ix := 1 },
    { dst := some 6, op := .move (.t 46), ix := 2 },
    { dst := some 7, op := .move (.t 47), ix := 3 }] false [6, 7] []) (.seq (.keep [6, 7] [] .ret) (.keep [] [] (.exit 3))))))) (.keep [] [] (.seq (.region [
    { dst := some 6, op := .move (.c (.list [])), ix := 0 },
    { dst := some 7, op := .move (.c (.int .i64 21)), ix := 1 }] false [6, 7] []) (.keep [6, 7] [] .ret))))))))))))) }
theorem ok26 : fnSoundB Go.Proofs.Tryd.prog 26 F26 = true := by decide +kernel
/- tendril/tendrilplain.Attrs -/
def B27x0 : LCode :=
  (.seq (.region [
    { dst := some 14, op := .bin .lss (.t 13) (.t 12), ix := 0 }] false [0, 1, 12, 13, 14] []) (.seq (.cond (.t 14) (.keep [0, 1, 12, 13] [] .skip) (.keep [] [] (.exit 0))) (.keep [0, 1, 12, 13] [] (.seq (.block 1 (.seq (.region [
    { dst := some 15, op := .move (.t 13), ix := 0 },
    { dst := some 5, op := .move (.t 15), ix := 1 }] false [0, 1, 5, 12, 13] []) (.seq (.region [
    { dst := some 16, op := .move (.t 0), ix := 0 },
    { dst := some 17, op := .move (.t 5), ix := 1 },
    { dst := some 18, op := .indexAddr 2 (.t 16) (.t 17), ix := 2 },
    { dst := some 19, op := .load 2 true (.t 18), ix := 3 },
    { dst := some 20, op := .move (.t 1), ix := 4 },
    { dst := some 21, op := .move (.t 5), ix := 5 },
    { dst := some 22, op := .indexAddr 2 (.t 20) (.t 21), ix := 6 },
    { dst := some 23, op := .load 2 true (.t 22), ix := 7 },
    { dst := some 24, op := .eq (.st [2, 2]) true (.t 19) (.t 23), ix := 8 }] true [0, 1, 12, 13, 24] []) (.seq (.cond (.t 24) (.seq (.region [
    { dst := some 4, op := .move (.c (.bool false)), ix := 0 }] false [4] []) (.keep [4] [] .ret)) (.keep [0, 1, 12, 13] [] .skip)) (.keep [0, 1, 12, 13] [] .skip))))) (.keep [0, 1, 12, 13] [] (.seq (.region [
    { dst := some 25, op := .bin .add (.t 13) (.c (.int .i64 1)), ix := 0 },
    { dst := some 13, op := .move (.t 25), ix := 1 }] false [0, 1, 12, 13] []) (.keep [0, 1, 12, 13] [] .skip)))))))
def F27 : LFunc := { nparams := 2, results := [.tmp 4], pure := true, body :=
  (.seq (.region [
    { dst := some 4, op := .move (.c (.bool false)), ix := 0 }] false [0, 1] []) (.seq (.region [
    { dst := some 6, op := .move (.t 0), ix := 0 },
    { dst := some 7, op := .len 1 (.t 6), ix := 1 },
    { dst := some 8, op := .move (.t 1), ix := 2 },
    { dst := some 9, op := .len 1 (.t 8), ix := 3 },
    { dst := some 10, op := .eq .i true (.t 7) (.t 9), ix := 4 }] false [0, 1, 10] []) (.seq (.cond (.t 10) (.seq (.region [
    { dst := some 4, op := .move (.c (.bool false)), ix := 0 }] false [4] []) (.keep [4] [] .ret)) (.keep [0, 1] [] .skip)) (.keep [0, 1] [] (.seq (.region [
    { dst := some 11, op := .move (.t 0), ix := 0 },
    { dst := some 12, op := .len 1 (.t 11), ix := 1 },
    { dst := some 13, op := .move (.c (.int .i64 0)), ix := 2 }] false [0, 1, 12, 13] []) (.seq (.block 0 (.seq (.keep [0, 1, 12, 13] [] (.loop B27x0)) (.keep [] [] .skip))) (.keep [] [] (.seq (.region [
    { dst := some 4, op := .move (.c (.bool true)), ix := 0 }] false [4] []) (.keep [4] [] .ret))))))))) }
theorem ok27 : fnSoundB Go.Proofs.Tryd.prog 27 F27 = true := by decide +kernel
/- tendril/tendrilref25.over -/
def F28 : LFunc := { nparams := 1, results := [.tmp 2], pure := true, body :=
  (.seq (.region [
    { dst := some 2, op := .move (.c (.bool false)), ix := 0 }] false [0] []) (.seq (.region [
    { dst := some 3, op := .move (.t 0), ix := 0 },
    { dst := some 4, op := .bin .lss (.t 3) (.c (.int .i64 0)), ix := 1 },
    { dst := some 5, op := .move (.t 4), ix := 2 },
    { dst := some 6, op := .move (.t 0), guard := some (5, false), ix := 3 },
    { dst := some 7, op := .bin .gtr (.t 6) (.c (.int .i64 4294967295)), guard := some (5, false), ix := 4 },
    { dst := some 8, op := .pick (.t 5) (.c (.bool true)) (.t 7), ix := 5 },
    { dst := some 2, op := .move (.t 8), ix := 6 }] false [2] []) (.keep [2] [] .ret))) }
theorem ok28 : fnSoundB Go.Proofs.Tryd.prog 28 F28 = true := by decide +kernel
/- tendril/tendrilref25.none -/
def F29 : LFunc := { nparams := 1, results := [.tmp 2], pure := true, body :=
  (.seq (.region [
    { dst := some 1, op := .box false 1 (.t 0), ix := 0 },
    { dst := some 2, op := .move (.c (.bool false)), ix := 1 }] false [1] [1]) (.seq (.region [
    { dst := some 4, op := .fieldAddr 0 (.t 1), ix := 0 },
    { dst := some 5, op := .load 1 false (.t 4), ix := 1 },
    { dst := some 3, op := .move (.t 5), ix := 2 }] false [1, 3] [1]) (.seq (.region [
    { dst := some 6, op := .move (.t 3), ix := 0 },
    { dst := some 7, op := .eq .i true (.t 6) (.c (.int .i64 1)), ix := 1 },
    { dst := some 8, op := .move (.t 7), ix := 2 },
    { dst := some 9, op := .fieldAddr 4 (.t 1), guard := some (8, true), ix := 3 },
    { dst := some 10, op := .load 1 false (.t 9), guard := some (8, true), ix := 4 },
    { dst := some 11, op := .eq .s true (.t 10) (.c (.str [])), guard := some (8, true), ix := 5 },
    { dst := some 12, op := .move (.t 11), guard := some (8, true), ix := 6 },
    { dst := some 13, op := .fieldAddr 5 (.t 1), guard := some (12, false), ix := 7 },
    { dst := some 14, op := .load 1 false (.t 13), guard := some (12, false), ix := 8 },
    { dst := some 15, op := .eq .s true (.t 14) (.c (.str [])), guard := some (12, false), ix := 9 },
    { dst := some 16, op := .pick (.t 12) (.c (.bool true)) (.t 15), guard := some (8, true), ix := 10 },
    { dst := some 17, op := .move (.t 16), guard := some (8, true), ix := 11 },
    { dst := some 18, op := .fieldAddr 8 (.t 1), guard := some (17, false), ix := 12 },
    { dst := some 19, op := .load 1 false (.t 18), guard := some (17, false), ix := 13 },
    { dst := some 20, op := .len 1 (.t 19), guard := some (17, false), ix := 14 },
    { dst := some 21, op := .bin .gtr (.t 20) (.c (.int .i64 0)), guard := some (17, false), ix := 15 },
    { dst := some 22, op := .pick (.t 17) (.c (.bool true)) (.t 21), guard := some (8, true), ix := 16 },
    { dst := some 23, op := .pick (.t 8) (.t 22) (.c (.bool false)), ix := 17 }] false [1, 3, 23] [1]) (.seq (.cond (.t 23) (.seq (.region [
    { dst := some 2, op := .move (.c (.bool true)), ix := 0 }] false [2] []) (.keep [2] [] .ret)) (.keep [1, 3] [1] .skip)) (.keep [1, 3] [1] (.seq (.region [
    { dst := some 24, op := .move (.t 3), ix := 0 },
    { dst := some 25, op := .eq .i false (.t 24) (.c (.int .i64 1)), ix := 1 },
    { dst := some 26, op := .move (.t 25), ix := 2 },
    { dst := some 27, op := .fieldAddr 1 (.t 1), guard := some (26, true), ix := 3 },
    { dst := some 28, op := .load 1 false (.t 27), guard := some (26, true), ix := 4 },
    { dst := some 29, op := .eq .i true (.t 28) (.c (.int .i64 0)), guard := some (26, true), ix := 5 },
    { dst := some 30, op := .pick (.t 26) (.t 29) (.c (.bool false)), ix := 6 },
    { dst := some 31, op := .move (.t 30), ix := 7 },
    { dst := some 32, op := .move (.t 3), guard := some (31, false), ix := 8 },
    { dst := some 33, op := .eq .i true (.t 32) (.c (.int .i64 2)), guard := some (31, false), ix := 9 },
    { dst := some 34, op := .move (.t 33), guard := some (31, false), ix := 10 },
    { dst := some 35, op := .fieldAddr 2 (.t 1), guard := some (34, true), ix := 11 },
    { dst := some 36, op := .load 1 false (.t 35), guard := some (34, true), ix := 12 },
    { dst := some 37, op := .eq .i true (.t 36) (.c (.int .i64 0)), guard := some (34, true), ix := 13 },
    { dst := some 38, op := .pick (.t 34) (.t 37) (.c (.bool false)), guard := some (31, false), ix := 14 },
    { dst := some 39, op := .pick (.t 31) (.c (.bool true)) (.t 38), ix := 15 },
    { dst := some 40, op := .move (.t 39), ix := 16 },
    { dst := some 41, op := .move (.t 3), guard := some (40, false), ix := 17 },
    { dst := some 42, op := .eq .i true (.t 41) (.c (.int .i64 2)), guard := some (40, false), ix := 18 },
    { dst := some 43, op := .move (.t 42), guard := some (40, false), ix := 19 },
    { dst := some 44, op := .move (.t 3), guard := some (43, true), ix := 20 },
    { dst := some 45, op := .eq .i true (.t 44) (.c (.int .i64 3)), guard := some (43, true), ix := 21 },
    { dst := some 46, op := .pick (.t 43) (.t 45) (.c (.bool false)), guard := some (40, false), ix := 22 },
    { dst := some 47, op := .move (.t 46), guard := some (40, false), ix := 23 },
    { dst := some 48, op := .fieldAddr 3 (.t 1), guard := some (47, true), ix := 24 },
    { dst := some 49, op := .load 1 false (.t 48), guard := some (47, true), ix := 25 },
    { dst := some 50, op := .eq .i true (.t 49) (.c (.int .i64 0)), guard := some (47, true), ix := 26 },
    { dst := some 51, op := .pick (.t 47) (.t 50) (.c (.bool false)), guard := some (40, false), ix := 27 },
    { dst := some 52, op := .pick (.t 40) (.c (.bool true)) (.t 51), ix := 28 }] false [1, 3, 52] [1]) (.seq (.cond (.t 52) (.seq (.region [
    { dst := some 2, op := .move (.c (.bool true)), ix := 0 }] false [2] []) (.keep [2] [] .ret)) (.keep [1, 3] [1] .skip)) (.keep [1, 3] [1] (.seq (.region [
    { dst := some 53, op := .move (.t 3), ix := 0 },
    { dst := some 54, op := .eq .i true (.t 53) (.c (.int .i64 5)), ix := 1 },
    { dst := some 55, op := .move (.t 54), ix := 2 },
    { dst := some 56, op := .move (.t 3), guard := some (55, true), ix := 3 },
    { dst := some 57, op := .eq .i true (.t 56) (.c (.int .i64 6)), guard := some (55, true), ix := 4 },
    { dst := some 58, op := .pick (.t 55) (.t 57) (.c (.bool false)), ix := 5 },
    { dst := some 59, op := .move (.t 58), ix := 6 },
    { dst := some 60, op := .fieldAddr 6 (.t 1), guard := some (59, true), ix := 7 },
    { dst := some 61, op := .load 1 false (.t 60), guard := some (59, true), ix := 8 },
    { dst := some 62, op := .eq .s true (.t 61) (.c (.str [])), guard := some (59, true), ix := 9 },
    { dst := some 63, op := .pick (.t 59) (.t 62) (.c (.bool false)), ix := 10 },
    { dst := some 64, op := .move (.t 63), ix := 11 },
    { dst := some 65, op := .move (.t 3), guard := some (64, false), ix := 12 },
    { dst := some 66, op := .eq .i true (.t 65) (.c (.int .i64 1)), guard := some (64, false), ix := 13 },
    { dst := some 67, op := .move (.t 66), guard := some (64, false), ix := 14 },
    { dst := some 68, op := .move (.t 3), guard := some (67, true), ix := 15 },
    { dst := some 69, op := .eq .i true (.t 68) (.c (.int .i64 5)), guard := some (67, true), ix := 16 },
    { dst := some 70, op := .pick (.t 67) (.t 69) (.c (.bool false)), guard := some (64, false), ix := 17 },
    { dst := some 71, op := .move (.t 70), guard := some (64, false), ix := 18 },
    { dst := some 72, op := .move (.t 3), guard := some (71, true), ix := 19 },
    { dst := some 73, op := .eq .i true (.t 72) (.c (.int .i64 7)), guard := some (71, true), ix := 20 },
    { dst := some 74, op := .pick (.t 71) (.t 73) (.c (.bool false)), guard := some (64, false), ix := 21 },
    { dst := some 75, op := .move (.t 74), guard := some (64, false), ix := 22 },
    { dst := some 76, op := .fieldAddr 7 (.t 1), guard := some (75, true), ix := 23 },
    { dst := some 77, op := .load 1 false (.t 76), guard := some (75, true), ix := 24 },
    { dst := some 78, op := .eq .s true (.t 77) (.c (.str [])), guard := some (75, true), ix := 25 },
    { dst := some 79, op := .pick (.t 75) (.t 78) (.c (.bool false)), guard := some (64, false), ix := 26 },
    { dst := some 80, op := .pick (.t 64) (.c (.bool true)) (.t 79), ix := 27 },
    { dst := some 2, op := .move (.t 80), ix := 28 }] false [2] []) (.keep [2] [] .ret)))))))))) }
theorem ok29 : fnSoundB Go.Proofs.Tryd.prog 29 F29 = true := by decide +kernel
/- tendril/tendrilref02.Named -/
def B30x0 : LCode :=
  (.seq (.region [
    { dst := some 24, op := .move (.t 5), ix := 0 },
    { dst := some 25, op := .move (.t 0), ix := 1 },
    { dst := some 26, op := .len 0 (.t 25), ix := 2 },
    { dst := some 27, op := .bin .lss (.t 24) (.t 26), ix := 3 }] false [0, 1, 5, 27] []) (.seq (.cond (.t 27) (.keep [0, 1, 5] [] .skip) (.keep [] [] (.exit 0))) (.keep [0, 1, 5] [] (.seq (.block 1 (.seq (.region [
    { dst := some 30, op := .move (.t 0), ix := 0 },
    { dst := some 31, op := .move (.t 5), ix := 1 },
    { dst := some 32, op := .index (.t 30) (.t 31), ix := 2 },
    { dst := some 33, op := .move (.t 1), ix := 3 },
    { dst := some 34, op := .pcall 42 [(.t 32, .as), (.t 33, .as)], ix := 4 },
    { dst := some 35, op := .un .not (.t 34), ix := 5 }] false [0, 1, 5, 35] []) (.seq (.cond (.t 35) (.seq (.region [
    { dst := some 4, op := .move (.c (.bool false)), ix := 0 }] false [4] []) (.keep [4] [] .ret)) (.keep [0, 1, 5] [] .skip)) (.keep [0, 1, 5] [] .skip)))) (.keep [0, 1, 5] [] (.seq (.region [
    { dst := some 28, op := .move (.t 5), ix := 0 },
    { dst := some 29, op := .bin .add (.t 28) (.c (.int .i64 1)), ix := 1 },
    { dst := some 5, op := .move (.t 29), ix := 2 }] false [0, 1, 5] []) (.keep [0, 1, 5] [] .skip)))))))
def F30 : LFunc := { nparams := 2, results := [.tmp 4], pure := true, body :=
  (.seq (.region [
    { dst := some 4, op := .move (.c (.bool false)), ix := 0 }] false [0, 1] []) (.seq (.region [
    { dst := some 6, op := .move (.t 0), ix := 0 },
    { dst := some 7, op := .len 0 (.t 6), ix := 1 },
    { dst := some 8, op := .bin .lss (.t 7) (.c (.int .i64 1)), ix := 2 },
    { dst := some 9, op := .move (.t 8), ix := 3 },
    { dst := some 10, op := .move (.t 0), guard := some (9, false), ix := 4 },
    { dst := some 11, op := .len 0 (.t 10), guard := some (9, false), ix := 5 },
    { dst := some 12, op := .bin .gtr (.t 11) (.c (.int .i64 32)), guard := some (9, false), ix := 6 },
    { dst := some 13, op := .pick (.t 9) (.c (.bool true)) (.t 12), ix := 7 },
    { dst := some 14, op := .move (.t 13), ix := 8 },
    { dst := some 15, op := .move (.t 0), guard := some (14, false), ix := 9 },
    { dst := some 16, op := .index (.t 15) (.c (.int .i64 0)), guard := some (14, false), ix := 10 },
    { dst := some 17, op := .bin .lss (.t 16) (.c (.int .u8 97)), guard := some (14, false), ix := 11 },
    { dst := some 18, op := .pick (.t 14) (.c (.bool true)) (.t 17), ix := 12 },
    { dst := some 19, op := .move (.t 18), ix := 13 },
    { dst := some 20, op := .move (.t 0), guard := some (19, false), ix := 14 },
    { dst := some 21, op := .index (.t 20) (.c (.int .i64 0)), guard := some (19, false), ix := 15 },
    { dst := some 22, op := .bin .gtr (.t 21) (.c (.int .u8 122)), guard := some (19, false), ix := 16 },
    { dst := some 23, op := .pick (.t 19) (.c (.bool true)) (.t 22), ix := 17 }] false [0, 1, 23] []) (.seq (.cond (.t 23) (.seq (.region [
    { dst := some 4, op := .move (.c (.bool false)), ix := 0 }] false [4] []) (.keep [4] [] .ret)) (.keep [0, 1] [] .skip)) (.keep [0, 1] [] (.seq (.region [
    { dst := some 5, op := .move (.c (.int .i64 1)), ix := 0 }] false [0, 1, 5] []) (.seq (.block 0 (.seq (.keep [0, 1, 5] [] (.loop B30x0)) (.keep [] [] .skip))) (.keep [] [] (.seq (.region [
    { dst := some 4, op := .move (.c (.bool true)), ix := 0 }] false [4] []) (.keep [4] [] .ret))))))))) }
theorem ok30 : fnSoundB Go.Proofs.Tryd.prog 30 F30 = true := by decide +kernel
/- tendril/tendrilref09.Check -/
def B31x0 : LCode :=
  (.seq (.region [
    { dst := some 8, op := .bin .lss (.t 7) (.t 6), ix := 0 }] false [0, 6, 7, 8] []) (.seq (.cond (.t 8) (.keep [0, 6, 7] [] .skip) (.keep [] [] (.exit 0))) (.keep [0, 6, 7] [] (.seq (.block 1 (.seq (.region [
    { dst := some 9, op := .move (.t 7), ix := 0 },
    { dst := some 4, op := .move (.t 9), ix := 1 }] false [0, 4, 6, 7] []) (.seq (.region [
    { dst := some 10, op := .move (.t 4), ix := 0 },
    { dst := some 11, op := .eq .i false (.t 10) (.c (.int .i64 64)), ix := 1 }] false [0, 4, 6, 7, 11] []) (.seq (.cond (.t 11) (.seq (.region [
    { dst := some 12, op := .move (.t 4), ix := 0 },
    { dst := some 2, op := .move (.t 12), ix := 1 },
    { dst := some 3, op := .move (.c (.int .i64 12)), ix := 2 }] false [2, 3] []) (.keep [2, 3] [] .ret)) (.keep [0, 4, 6, 7] [] .skip)) (.keep [0, 4, 6, 7] [] (.seq (.region [
    { dst := some 13, op := .move (.t 0), ix := 0 },
    { dst := some 14, op := .move (.t 4), ix := 1 },
    { dst := some 15, op := .indexAddr 2 (.t 13) (.t 14), ix := 2 },
    { dst := some 16, op := .fieldAddr 0 (.t 15), ix := 3 },
    { dst := some 17, op := .load 1 false (.t 16), ix := 4 },
    { dst := some 18, op := .pcall 30 [(.t 17, .as), (.c (.bool true), .as)], ix := 5 },
    { dst := some 19, op := .un .not (.t 18), ix := 6 }] false [0, 4, 6, 7, 19] []) (.seq (.cond (.t 19) (.seq (.region [
    { dst := some 20, op := .move (.t 4), ix := 0 },
    { dst := some 2, op := .move (.t 20), ix := 1 },
    { dst := some 3, op := .move (.c (.int .i64 8)), ix := 2 }] false [2, 3] []) (.keep [2, 3] [] .ret)) (.keep [0, 4, 6, 7] [] .skip)) (.keep [0, 4, 6, 7] [] (.seq (.region [
    { dst := some 21, op := .move (.t 0), ix := 0 },
    { dst := some 22, op := .move (.t 4), ix := 1 },
    { dst := some 23, op := .indexAddr 2 (.t 21) (.t 22), ix := 2 },
    { dst := some 24, op := .fieldAddr 1 (.t 23), ix := 3 },
    { dst := some 25, op := .load 1 false (.t 24), ix := 4 },
    { dst := some 26, op := .len 0 (.t 25), ix := 5 },
    { dst := some 27, op := .bin .gtr (.t 26) (.c (.int .i64 65536)), ix := 6 }] false [0, 4, 6, 7, 27] []) (.seq (.cond (.t 27) (.seq (.region [
    { dst := some 28, op := .move (.t 4), ix := 0 },
    { dst := some 2, op := .move (.t 28), ix := 1 },
    { dst := some 3, op := .move (.c (.int .i64 3)), ix := 2 }] false [2, 3] []) (.keep [2, 3] [] .ret)) (.keep [0, 4, 6, 7] [] .skip)) (.keep [0, 4, 6, 7] [] (.seq (.region [
    { dst := some 29, op := .move (.t 4), ix := 0 },
    { dst := some 30, op := .bin .gtr (.t 29) (.c (.int .i64 0)), ix := 1 },
    { dst := some 31, op := .move (.t 30), ix := 2 },
    { dst := some 32, op := .move (.t 0), guard := some (31, true), ix := 3 },
    { dst := some 33, op := .move (.t 4), guard := some (31, true), ix := 4 },
    { dst := some 34, op := .bin .sub (.t 33) (.c (.int .i64 1)), guard := some (31, true), ix := 5 },
    { dst := some 35, op := .indexAddr 2 (.t 32) (.t 34), guard := some (31, true), ix := 6 },
    { dst := some 36, op := .fieldAddr 0 (.t 35), guard := some (31, true), ix := 7 },
    { dst := some 37, op := .load 1 false (.t 36), guard := some (31, true), ix := 8 },
    { dst := some 38, op := .move (.t 0), guard := some (31, true), ix := 9 },
    { dst := some 39, op := .move (.t 4), guard := some (31, true), ix := 10 },
    { dst := some 40, op := .indexAddr 2 (.t 38) (.t 39), guard := some (31, true), ix := 11 },
    { dst := some 41, op := .fieldAddr 0 (.t 40), guard := some (31, true), ix := 12 },
    { dst := some 42, op := .load 1 false (.t 41), guard := some (31, true), ix := 13 },
    { dst := some 43, op := .eq .s false (.t 37) (.t 42), guard := some (31, true), ix := 14 },
    { dst := some 44, op := .pick (.t 31) (.t 43) (.c (.bool false)), ix := 15 }] true [0, 4, 6, 7, 44] []) (.seq (.cond (.t 44) (.seq (.region [
    { dst := some 45, op := .move (.t 4), ix := 0 },
    { dst := some 2, op := .move (.t 45), ix := 1 },
    { dst := some 3, op := .move (.c (.int .i64 10)), ix := 2 }] false [2, 3] []) (.keep [2, 3] [] .ret)) (.keep [0, 4, 6, 7] [] .skip)) (.keep [0, 4, 6, 7] [] (.seq (.region [
    { dst := some 46, op := .move (.t 4), ix := 0 },
    { dst := some 47, op := .bin .gtr (.t 46) (.c (.int .i64 0)), ix := 1 },
    { dst := some 48, op := .move (.t 47), ix := 2 },
    { dst := some 49, op := .move (.t 0), guard := some (48, true), ix := 3 },
    { dst := some 50, op := .move (.t 4), guard := some (48, true), ix := 4 },
    { dst := some 51, op := .bin .sub (.t 50) (.c (.int .i64 1)), guard := some (48, true), ix := 5 },
    { dst := some 52, op := .indexAddr 2 (.t 49) (.t 51), guard := some (48, true), ix := 6 },
    { dst := some 53, op := .fieldAddr 0 (.t 52), guard := some (48, true), ix := 7 },
    { dst := some 54, op := .load 1 false (.t 53), guard := some (48, true), ix := 8 },
    { dst := some 55, op := .move (.t 0), guard := some (48, true), ix := 9 },
    { dst := some 56, op := .move (.t 4), guard := some (48, true), ix := 10 },
    { dst := some 57, op := .indexAddr 2 (.t 55) (.t 56), guard := some (48, true), ix := 11 },
    { dst := some 58, op := .fieldAddr 0 (.t 57), guard := some (48, true), ix := 12 },
    { dst := some 59, op := .load 1 false (.t 58), guard := some (48, true), ix := 13 },
    { dst := some 60, op := .pcall 43 [(.t 54, .as), (.t 59, .as)], guard := some (48, true), ix := 14 },
    { dst := some 61, op := .bin .gtr (.t 60) (.c (.int .i64 0)), guard := some (48, true), ix := 15 },
    { dst := some 62, op := .pick (.t 48) (.t 61) (.c (.bool false)), ix := 16 }] true [0, 4, 6, 7, 62] []) (.seq (.cond (.t 62) (.seq (.region [
    { dst := some 63, op := .move (.t 4), ix := 0 },
    { dst := some 2, op := .move (.t 63), ix := 1 },
    { dst := some 3, op := .move (.c (.int .i64 9)), ix := 2 }] false [2, 3] []) (.keep [2, 3] [] .ret)) (.keep [0, 6, 7] [] .skip)) (.keep [0, 6, 7] [] .skip))))))))))))))))) (.keep [0, 6, 7] [] (.seq (.region [
    { dst := some 64, op := .bin .add (.t 7) (.c (.int .i64 1)), ix := 0 },
    { dst := some 7, op := .move (.t 64), ix := 1 }] false [0, 6, 7] []) (.keep [0, 6, 7] [] .skip)))))))
def F31 : LFunc := { nparams := 1, results := [.tmp 2, .tmp 3], pure := true, body :=
  (.seq (.region [
    { dst := some 2, op := .move (.c (.int .i64 0)), ix := 0 },
    { dst := some 3, op := .move (.c (.int .i64 0)), ix := 1 }] false [0] []) (.seq (.region [
    { dst := some 5, op := .move (.t 0), ix := 0 },
    { dst := some 6, op := .len 1 (.t 5), ix := 1 },
    { dst := some 7, op := .move (.c (.int .i64 0)), ix := 2 }] false [0, 6, 7] []) (.seq (.block 0 (.seq (.keep [0, 6, 7] [] (.loop B31x0)) (.keep [] [] .skip))) (.keep [] [] (.seq (.region [
    { dst := some 2, op := .move (.c (.int .i64 0)), ix := 0 },
    { dst := some 3, op := .move (.c (.int .i64 0)), ix := 1 }] false [2, 3] []) (.keep [2, 3] [] .ret)))))) }
theorem ok31 : fnSoundB Go.Proofs.Tryd.prog 31 F31 = true := by decide +kernel
/- tendril/tendrilref13.Above -/
def B32x0 : LCode :=
  (.seq (.region [
    { dst := some 9, op := .move (.t 7), ix := 0 },
    { dst := some 10, op := .bin .gtr (.t 9) (.c (.int .i64 0)), ix := 1 }] false [0, 2, 7, 10] []) (.seq (.cond (.t 10) (.keep [0, 2, 7] [] .skip) (.keep [] [] (.exit 0))) (.keep [0, 2, 7] [] (.seq (.block 1 (.seq (.region [
    { dst := some 11, op := .move (.t 7), ix := 0 },
    { dst := some 12, op := .move (.t 2), ix := 1 },
    { dst := some 13, op := .eq .i false (.t 11) (.t 12), ix := 2 }] false [0, 2, 7, 13] []) (.seq (.cond (.t 13) (.seq (.region [
    { dst := some 6, op := .move (.c (.bool true)), ix := 0 }] false [6] []) (.keep [6] [] .ret)) (.keep [0, 2, 7] [] .skip)) (.keep [0, 2, 7] [] (.seq (.region [
    { dst := some 14, op := .move (.t 0), ix := 0 },
    { dst := some 15, op := .move (.t 7), ix := 1 },
    { dst := some 16, op := .bin .sub (.t 15) (.c (.int .i64 1)), ix := 2 },
    { dst := some 17, op := .indexAddr 6 (.t 14) (.t 16), ix := 3 },
    { dst := some 18, op := .fieldAddr 1 (.t 17), ix := 4 },
    { dst := some 19, op := .load 1 false (.t 18), ix := 5 },
    { dst := some 7, op := .move (.t 19), ix := 6 }] false [0, 2, 7] []) (.keep [0, 2, 7] [] .skip)))))) (.keep [0, 2, 7] [] .skip)))))
def F32 : LFunc := { nparams := 3, results := [.tmp 6], pure := true, body :=
  (.seq (.region [
    { dst := some 6, op := .move (.c (.bool false)), ix := 0 }] false [0, 1, 2] []) (.seq (.region [
    { dst := some 8, op := .move (.t 1), ix := 0 },
    { dst := some 7, op := .move (.t 8), ix := 1 }] false [0, 2, 7] []) (.seq (.block 0 (.seq (.keep [0, 2, 7] [] (.loop B32x0)) (.keep [] [] .skip))) (.keep [] [] (.seq (.region [
    { dst := some 6, op := .move (.c (.bool false)), ix := 0 }] false [6] []) (.keep [6] [] .ret)))))) }
theorem ok32 : fnSoundB Go.Proofs.Tryd.prog 32 F32 = true := by decide +kernel
/- tendril/flat.Tree -/
def F33 : LFunc := { nparams := 1, results := [.cell 2 5 true, .tmp 3], pure := true, body :=
  (.seq (.region [
    { dst := some 2, op := .alloc false 2 [.p (.str []), .p (.str []), .p (.str []), .p (.list []), .p (.list [])] [], ix := 0 },
    { dst := some 3, op := .move (.c (.int .i64 0)), ix := 1 }] false [0, 2] [2, 1000, 1001, 1002]) (.seq (.block 0 (.seq (.region [
    { dst := some 9, op := .move (.t 0), ix := 0 },
    { dst := some 10, op := .len 1 (.t 9), ix := 1 },
    { dst := some 11, op := .eq .i false (.t 10) (.c (.int .i64 0)), ix := 2 },
    { dst := some 8, op := .move (.t 11), ix := 3 }] false [0, 2, 8] [2, 1000, 1001, 1002]) (.seq (.cond (.t 8) (.seq (.region [
    { dst := some 12, op := .build [.p (.str []), .p (.str []), .p (.str []), .p (.list []), .nils] [], ix := 0 },
    { dst := none, op := .store 5 true (.t 2) (.t 12), ix := 1 },
    { dst := some 3, op := .move (.c (.int .i64 23)), ix := 2 }] false [2, 3] [2, 1000, 1001, 1002]) (.keep [2, 3] [2, 1000, 1001, 1002] .ret)) (.seq (.region [
    { dst := some 14, op := .move (.t 0), ix := 0 },
    { dst := some 15, op := .pcall 44 [(.t 14, .as)], ix := 1 },
    { dst := some 16, op := .un .not (.t 15), ix := 2 },
    { dst := some 13, op := .move (.t 16), ix := 3 }] false [0, 2, 13] [2, 1000, 1001, 1002]) (.seq (.cond (.t 13) (.seq (.region [
    { dst := some 17, op := .build [.p (.str []), .p (.str []), .p (.str []), .p (.list []), .nils] [], ix := 0 },
    { dst := none, op := .store 5 true (.t 2) (.t 17), ix := 1 },
    { dst := some 3, op := .move (.c (.int .i64 2)), ix := 2 }] false [2, 3] [2, 1000, 1001, 1002]) (.keep [2, 3] [2, 1000, 1001, 1002] .ret)) (.keep [0, 2] [2, 1000, 1001, 1002] .skip)) (.keep [0, 2] [2, 1000, 1001, 1002] .skip)))) (.keep [0, 2] [2, 1000, 1001, 1002] .skip)))) (.keep [0, 2] [2, 1000, 1001, 1002] (.seq (.region [
    { dst := some 18, op := .move (.t 0), ix := 0 },
    { dst := some 19, op := .pcall 45 [(.t 18, .as)], ix := 1 }] false [0, 2, 19] [2, 1000, 1001, 1002]) (.seq (.cond (.t 19) (.seq (.region [
    { dst := some 20, op := .move (.t 0), ix := 0 },
    { dst := some 21, op := .pcall 46 [(.t 20, .as)], ix := 1 },
    { dst := some 0, op := .move (.t 21), ix := 2 }] false [0, 2] [2, 1000, 1001, 1002]) (.keep [0, 2] [2, 1000, 1001, 1002] .skip)) (.keep [0, 2] [2, 1000, 1001, 1002] .skip)) (.keep [0, 2] [2, 1000, 1001, 1002] (.seq (.region [
    { dst := some 23, op := .move (.t 0), ix := 0 },
    { dst := some 24, op := .pcall 47 [(.t 23, .as), (.c (.int .i64 0), .as)], ix := 1 },
    { dst := some 22, op := .move (.t 24), ix := 2 },
    { dst := some 25, op := .extract (.t 22) 0, ix := 3 },
    { dst := some 26, op := .extract (.t 22) 1, ix := 4 },
    { dst := some 4, op := .alloc false 4 [.p (.str []), .p (.str []), .p (.str []), .p (.list []), .p (.list [])] [], ix := 5 },
    { dst := none, op := .store 5 true (.t 4) (.t 25), ix := 6 },
    { dst := some 5, op := .move (.t 26), ix := 7 }] false [2, 4] [2, 4, 1000, 1001, 1002]) (.seq (.region [
    { dst := some 28, op := .load 5 true (.t 4), ix := 0 },
    { dst := some 29, op := .pcall 48 [(.t 28, .as)], ix := 1 },
    { dst := some 27, op := .move (.t 29), ix := 2 },
    { dst := some 30, op := .extract (.t 27) 0, ix := 3 },
    { dst := some 31, op := .extract (.t 27) 1, ix := 4 },
    { dst := some 6, op := .move (.t 30), ix := 5 },
    { dst := some 7, op := .move (.t 31), ix := 6 }] false [2, 4, 7] [2, 4, 1000, 1001, 1002]) (.seq (.region [
    { dst := some 32, op := .move (.t 7), ix := 0 },
    { dst := some 33, op := .eq .i true (.t 32) (.c (.int .i64 0)), ix := 1 }] false [2, 4, 7, 33] [2, 4, 1000, 1001, 1002]) (.seq (.cond (.t 33) (.seq (.region [
    { dst := some 34, op := .build [.p (.str []), .p (.str []), .p (.str []), .p (.list []), .nils] [], ix := 0 },
    { dst := some 35, op := .move (.t 7), ix := 1 },
    { dst := none, op := .store 5 true (.t 2) (.t 34), ix := 2 },
    { dst := some 3, op := .move (.t 35), ix := 3 }] false [2, 3] [2, 1000, 1001, 1002]) (.keep [2, 3] [2, 1000, 1001, 1002] .ret)) (.keep [2, 4] [2, 4, 1000, 1001, 1002] .skip)) (.keep [2, 4] [2, 4, 1000, 1001, 1002] (.seq (.region [
    { dst := some 36, op := .load 5 true (.t 4), ix := 0 },
    { dst := none, op := .store 5 true (.t 2) (.t 36), ix := 1 },
    { dst := some 3, op := .move (.c (.int .i64 0)), ix := 2 }] false [2, 3] [2, 1000, 1001, 1002]) (.keep [2, 3] [2, 1000, 1001, 1002] .ret))))))))))))) }
theorem ok33 : fnSoundB Go.Proofs.Tryd.prog 33 F33 = true := by decide +kernel
/- tendril/ops.Check -/
def F34 : LFunc := { nparams := 1, results := [.tmp 2], pure := true, body :=
  (.seq (.region [
    { dst := some 1, op := .box false 1 (.t 0), ix := 0 },
    { dst := some 2, op := .move (.c (.int .i64 0)), ix := 1 }] false [1] [1]) (.seq (.block 0 (.seq (.region [
    { dst := some 6, op := .fieldAddr 0 (.t 1), ix := 0 },
    { dst := some 7, op := .load 1 false (.t 6), ix := 1 },
    { dst := some 8, op := .bin .lss (.t 7) (.c (.int .i64 1)), ix := 2 },
    { dst := some 9, op := .move (.t 8), ix := 3 },
    { dst := some 10, op := .fieldAddr 0 (.t 1), guard := some (9, false), ix := 4 },
    { dst := some 11, op := .load 1 false (.t 10), guard := some (9, false), ix := 5 },
    { dst := some 12, op := .bin .gtr (.t 11) (.c (.int .i64 7)), guard := some (9, false), ix := 6 },
    { dst := some 13, op := .pick (.t 9) (.c (.bool true)) (.t 12), ix := 7 },
    { dst := some 5, op := .move (.t 13), ix := 8 }] false [1, 5] [1]) (.seq (.cond (.t 5) (.seq (.region [
    { dst := some 2, op := .move (.c (.int .i64 6)), ix := 0 }] false [2] []) (.keep [2] [] .ret)) (.seq (.region [
    { dst := some 15, op := .fieldAddr 1 (.t 1), ix := 0 },
    { dst := some 16, op := .load 1 false (.t 15), ix := 1 },
    { dst := some 17, op := .pcall 49 [(.t 16, .as)], ix := 2 },
    { dst := some 18, op := .un .not (.t 17), ix := 3 },
    { dst := some 19, op := .move (.t 18), ix := 4 },
    { dst := some 20, op := .fieldAddr 2 (.t 1), guard := some (19, false), ix := 5 },
    { dst := some 21, op := .load 1 false (.t 20), guard := some (19, false), ix := 6 },
    { dst := some 22, op := .pcall 49 [(.t 21, .as)], guard := some (19, false), ix := 7 },
    { dst := some 23, op := .un .not (.t 22), guard := some (19, false), ix := 8 },
    { dst := some 24, op := .pick (.t 19) (.c (.bool true)) (.t 23), ix := 9 },
    { dst := some 25, op := .move (.t 24), ix := 10 },
    { dst := some 26, op := .fieldAddr 3 (.t 1), guard := some (25, false), ix := 11 },
    { dst := some 27, op := .load 1 false (.t 26), guard := some (25, false), ix := 12 },
    { dst := some 28, op := .pcall 49 [(.t 27, .as)], guard := some (25, false), ix := 13 },
    { dst := some 29, op := .un .not (.t 28), guard := some (25, false), ix := 14 },
    { dst := some 30, op := .pick (.t 25) (.c (.bool true)) (.t 29), ix := 15 },
    { dst := some 14, op := .move (.t 30), ix := 16 }] false [1, 14] [1]) (.seq (.cond (.t 14) (.seq (.region [
    { dst := some 2, op := .move (.c (.int .i64 5)), ix := 0 }] false [2] []) (.keep [2] [] .ret)) (.seq (.region [
    { dst := some 32, op := .load 9 true (.t 1), ix := 0 },
    { dst := some 33, op := .load 9 true (.t 1), ix := 1 },
    { dst := some 34, op := .pcall 51 [(.t 33, .as)], ix := 2 },
    { dst := some 35, op := .pcall 50 [(.t 32, .as), (.t 34, .as)], ix := 3 },
    { dst := some 36, op := .un .not (.t 35), ix := 4 },
    { dst := some 31, op := .move (.t 36), ix := 5 }] true [1, 31] [1]) (.seq (.cond (.t 31) (.seq (.region [
    { dst := some 2, op := .move (.c (.int .i64 2)), ix := 0 }] false [2] []) (.keep [2] [] .ret)) (.seq (.region [
    { dst := some 38, op := .fieldAddr 0 (.t 1), ix := 0 },
    { dst := some 39, op := .load 1 false (.t 38), ix := 1 },
    { dst := some 40, op := .eq .i false (.t 39) (.c (.int .i64 1)), ix := 2 },
    { dst := some 41, op := .move (.t 40), ix := 3 },
    { dst := some 42, op := .fieldAddr 4 (.t 1), guard := some (41, true), ix := 4 },
    { dst := some 43, op := .load 1 false (.t 42), guard := some (41, true), ix := 5 },
    { dst := some 44, op := .pcall 52 [(.t 43, .as)], guard := some (41, true), ix := 6 },
    { dst := some 45, op := .un .not (.t 44), guard := some (41, true), ix := 7 },
    { dst := some 46, op := .pick (.t 41) (.t 45) (.c (.bool false)), ix := 8 },
    { dst := some 37, op := .move (.t 46), ix := 9 }] false [1, 37] [1]) (.seq (.cond (.t 37) (.seq (.region [
    { dst := some 2, op := .move (.c (.int .i64 7)), ix := 0 }] false [2] []) (.keep [2] [] .ret)) (.seq (.region [
    { dst := some 48, op := .fieldAddr 0 (.t 1), ix := 0 },
    { dst := some 49, op := .load 1 false (.t 48), ix := 1 },
    { dst := some 50, op := .eq .i false (.t 49) (.c (.int .i64 5)), ix := 2 },
    { dst := some 51, op := .move (.t 50), ix := 3 },
    { dst := some 52, op := .fieldAddr 0 (.t 1), guard := some (51, false), ix := 4 },
    { dst := some 53, op := .load 1 false (.t 52), guard := some (51, false), ix := 5 },
    { dst := some 54, op := .eq .i false (.t 53) (.c (.int .i64 6)), guard := some (51, false), ix := 6 },
    { dst := some 55, op := .pick (.t 51) (.c (.bool true)) (.t 54), ix := 7 },
    { dst := some 56, op := .move (.t 55), ix := 8 },
    { dst := some 57, op := .fieldAddr 6 (.t 1), guard := some (56, true), ix := 9 },
    { dst := some 58, op := .load 1 false (.t 57), guard := some (56, true), ix := 10 },
    { dst := some 59, op := .pcall 53 [(.t 58, .as)], guard := some (56, true), ix := 11 },
    { dst := some 60, op := .un .not (.t 59), guard := some (56, true), ix := 12 },
    { dst := some 61, op := .pick (.t 56) (.t 60) (.c (.bool false)), ix := 13 },
    { dst := some 47, op := .move (.t 61), ix := 14 }] false [1, 47] [1]) (.seq (.cond (.t 47) (.seq (.region [
    { dst := some 2, op := .move (.c (.int .i64 8)), ix := 0 }] false [2] []) (.keep [2] [] .ret)) (.seq (.region [
    { dst := some 63, op := .fieldAddr 5 (.t 1), ix := 0 },
    { dst := some 64, op := .load 1 false (.t 63), ix := 1 },
    { dst := some 65, op := .pcall 54 [(.t 64, .as)], ix := 2 },
    { dst := some 66, op := .un .not (.t 65), ix := 3 },
    { dst := some 67, op := .move (.t 66), ix := 4 },
    { dst := some 68, op := .fieldAddr 7 (.t 1), guard := some (67, false), ix := 5 },
    { dst := some 69, op := .load 1 false (.t 68), guard := some (67, false), ix := 6 },
    { dst := some 70, op := .pcall 54 [(.t 69, .as)], guard := some (67, false), ix := 7 },
    { dst := some 71, op := .un .not (.t 70), guard := some (67, false), ix := 8 },
    { dst := some 72, op := .pick (.t 67) (.c (.bool true)) (.t 71), ix := 9 },
    { dst := some 62, op := .move (.t 72), ix := 10 }] false [1, 62] [1]) (.seq (.cond (.t 62) (.seq (.region [
    { dst := some 2, op := .move (.c (.int .i64 3)), ix := 0 }] false [2] []) (.keep [2] [] .ret)) (.keep [1] [1] .skip)) (.keep [1] [1] .skip)))) (.keep [1] [1] .skip)))) (.keep [1] [1] .skip)))) (.keep [1] [1] .skip)))) (.keep [1] [1] .skip)))) (.keep [1] [1] .skip)))) (.keep [1] [1] (.seq (.region [
    { dst := some 74, op := .fieldAddr 8 (.t 1), ix := 0 },
    { dst := some 75, op := .load 1 false (.t 74), ix := 1 },
    { dst := some 76, op := .pcall 55 [(.t 75, .as)], ix := 2 },
    { dst := some 73, op := .move (.t 76), ix := 3 },
    { dst := some 77, op := .extract (.t 73) 0, ix := 4 },
    { dst := some 78, op := .extract (.t 73) 1, ix := 5 },
    { dst := some 3, op := .move (.t 77), ix := 6 },
    { dst := some 4, op := .move (.t 78), ix := 7 }] false [4] []) (.seq (.region [
    { dst := some 79, op := .move (.t 4), ix := 0 },
    { dst := some 2, op := .move (.t 79), ix := 1 }] false [2] []) (.keep [2] [] .ret)))))) }
theorem ok34 : fnSoundB Go.Proofs.Tryd.prog 34 F34 = true := by decide +kernel
end Go.TA.Tryd

end
