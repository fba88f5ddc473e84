/- From what a statement reads to the machine, and back. -/
import Derived.Test.YtpomccmdhifdiaaLibF
import Derived.ReadAgain
import Derived.ChangeArms
import Derived.ChangeSame
import Derived.ChangeBears
import Derived.ChangeShapes
set_option linter.unusedVariables false
set_option linter.unusedSimpArgs false

/-! ## Road -/
namespace Go.TA

/-! ### shapes -/
inductive Sh where
  | bool
  | int (k : IntKind)
  | str
  | sl (e : Nat)
  deriving DecidableEq
def flat? : List (Option (List Sh)) → Option (List Sh)
  | [] => some []
  | some a :: l => (flat? l).map (a ++ ·)
  | none :: _ => none
def shOf (P : Program) : Nat → TypeId → Option (List Sh)
  | 0, _ => none
  | d + 1, t => match P.underlying t with
    | some .bool => some [.bool]
    | some (.int k) => some [.int k]
    | some .string => some [.str]
    | some (.slice e) => some [.sl e]
    | some (.struct fs) => flat? (fs.toList.map fun f => shOf P d f.type)
    | _ => none
/-- Types that lead to no others. -/
def closedB (P : Program) (D : Nat) (gs : List TypeId) : Bool := gs.all fun t => t < P.types.size && (shOf P D t).isSome && match P.underlying t with
  | some .bool | some (.int _) | some .string => true
  | some (.slice e) => gs.contains e
  | some (.struct fs) => fs.toList.all fun f => gs.contains f.type
  | _ => false
mutual
def okV (tb : Nat → Option (List Sh)) : Sh → PV → Prop
  | .bool, .bool _ => True
  | .int k, .int k' n => k' = k ∧ (Lit.int k n).wf = true
  | .str, .str _ => True
  | .sl e, .list xs => match tb e with
    | some shs => okVss tb shs xs
    | none => False
  | _, _ => False
def okVs (tb : Nat → Option (List Sh)) : List Sh → List PV → Prop
  | [], [] => True
  | s :: l, v :: r => okV tb s v ∧ okVs tb l r
  | _, _ => False
def okVss (tb : Nat → Option (List Sh)) (shs : List Sh) : List (List PV) → Prop
  | [] => True
  | x :: r => okVs tb shs x ∧ okVss tb shs r
end
mutual
def PV.bulk : PV → Nat
  | .str s => s.length + 1
  | .list xs => bulkLL xs + 1
  | .agg cs => bulkL cs + 1
  | _ => 1
def bulkL : List PV → Nat
  | [] => 0
  | a :: l => PV.bulk a + bulkL l
def bulkLL : List (List PV) → Nat
  | [] => 0
  | a :: l => bulkL a + bulkLL l
end
/-- How a statement counts. -/
structure Bulk {H : Type} (B : DataW H → Nat) (BA : List (DataW H) → Nat) : Prop where
  str : ∀ bs, B (.lit (.string bs)) = bs.length + 1
  lit : ∀ l, 1 ≤ B (.lit l)
  nil : 1 ≤ B .nil
  slice : ∀ a b, B (.slice a b) = BA a + BA b + 1
  agg : ∀ a, B (.agg a) = BA a + 1
  nilA : BA [] = 0
  consA : ∀ d r, BA (d :: r) = B d + BA r

/-! ### relations of lists -/
def RelL (w : World) (N : Nat → Prop) : List PV → List Value → Prop
  | [], [] => True
  | p :: l, v :: r => RelP w N p v ∧ v.oneCell' = true ∧ RelL w N l r
  | _, _ => False
section
variable {w : World} {N : Nat → Prop}
theorem RelL.len : ∀ {l : List PV} {r : List Value}, RelL w N l r → l.length = r.length
  | [], [], _ => rfl
  | _ :: _, _ :: _, ⟨_, _, h⟩ => by simp [RelL.len h]
  | [], _ :: _, h => h.elim
  | _ :: _, [], h => h.elim
theorem RelL.get : ∀ {l : List PV} {r : List Value}, RelL w N l r → ∀ j (h : j < l.length) (h' : j < r.length), RelP w N (l[j]) (r[j]) ∧ (r[j]).oneCell' = true
  | [], [], _, j, h, _ => by simp at h
  | p :: l, v :: r, ⟨a, b, h⟩, j, h1, h2 => by
    cases j with
    | zero => exact ⟨a, b⟩
    | succ j => exact RelL.get h j (by simpa using h1) (by simpa using h2)
  | [], _ :: _, h, _, _, _ => h.elim
  | _ :: _, [], h, _, _, _ => h.elim
theorem RelL.append : ∀ {l l' : List PV} {r r' : List Value}, RelL w N l r → RelL w N l' r' → RelL w N (l ++ l') (r ++ r')
  | [], _, [], _, _, h' => h'
  | p :: l, _, v :: r, _, ⟨a, b, h⟩, h' => ⟨a, b, RelL.append h h'⟩
  | [], _, _ :: _, _, h, _ => h.elim
  | _ :: _, _, [], _, h, _ => h.elim
theorem RelL.agg {l : List PV} {r : List Value} (h : RelL w N l r) : RelP w N (.agg l) (.agg r.toArray) := by
  refine .agg l r h.len (fun v hv => ?_) (fun j h1 h2 => (h.get j h1 h2).1)
  obtain ⟨j, hj, rfl⟩ := List.getElem_of_mem hv
  exact (h.get j (by rw [h.len]; exact hj) hj).2
end
theorem okVs_append {tb : Nat → Option (List Sh)} : ∀ {a b : List Sh} {x y : List PV}, okVs tb a x → okVs tb b y → okVs tb (a ++ b) (x ++ y)
  | [], _, [], _, _, h => h
  | s :: a, _, v :: x, _, h, h' => by simp only [okVs] at h; exact ⟨h.1, okVs_append h.2 h'⟩
  | [], _, _ :: _, _, h, _ => by simp [okVs] at h
  | _ :: _, _, [], _, h, _ => by simp [okVs] at h
theorem bulkL_append : ∀ (a b : List PV), bulkL (a ++ b) = bulkL a + bulkL b
  | [], b => by simp [bulkL]
  | x :: a, b => by simp only [List.cons_append, bulkL, bulkL_append a b]; omega
theorem okVss_of {tb : Nat → Option (List Sh)} {shs : List Sh} : ∀ {xs : List (List PV)}, (∀ i (h : i < xs.length), okVs tb shs (xs[i])) → okVss tb shs xs
  | [], _ => trivial
  | x :: r, h => ⟨h 0 (by simp), okVss_of (fun i hi => h (i + 1) (by simpa using hi))⟩
theorem exists_list {α : Type} {p : Nat → α → Prop} : ∀ {n : Nat}, (∀ i, i < n → ∃ x, p i x) → ∃ l : List α, l.length = n ∧ ∀ i (h : i < l.length), p i (l[i])
  | 0, _ => ⟨[], rfl, by simp⟩
  | n + 1, h => by
    obtain ⟨l, h1, h2⟩ := exists_list (n := n) (fun i hi => h i (by omega))
    obtain ⟨x, hx⟩ := h n (by omega)
    refine ⟨l ++ [x], by simp [h1], fun i hi => ?_⟩
    by_cases e : i < l.length
    · rw [List.getElem_append_left e]; exact h2 i e
    · have : i = n := by simp at hi; omega
      subst this
      rw [List.getElem_append_right (by omega)]
      simpa using hx

section
variable {H : Type} {enc : TypeId × Value → H} {P : Program} {W : World} {base : Nat} {spare : Nat → Bool} {held : Bool} {B : DataW H → Nat} {BA : List (DataW H) → Nat} {D0 : Nat} {gs : List TypeId}
abbrev Any : Nat → Prop := fun _ => True

theorem closed_in (h : closedB P D0 gs = true) {t : TypeId} (ht : t ∈ gs) : t < P.types.size ∧ (shOf P D0 t).isSome = true ∧ (match P.underlying t with
  | some .bool | some (.int _) | some .string => true
  | some (.slice e) => gs.contains e
  | some (.struct fs) => fs.toList.all fun f => gs.contains f.type
  | _ => false) = true := by
  simp only [closedB, List.all_eq_true, Bool.and_eq_true, decide_eq_true_eq] at h
  exact ⟨(h t ht).1.1, (h t ht).1.2, (h t ht).2⟩
/-- What is told of one value's cells. -/
def Told (P : Program) (W : World) (D0 : Nat) (B : DataW H → Nat) (shs : List Sh) (cs : List Value) (d : DataW H) : Prop := ∃ pvs, okVs (shOf P D0) shs pvs ∧ RelL W Any pvs cs ∧ bulkL pvs ≤ B d
theorem told_fields (hb : Bulk B BA) : ∀ (fs : List Field) (o : Nat) (cs : List Value) (oshs : List (Option (List Sh))) (ds : List (DataW H)) {shs : List Sh}, flat? oshs = some shs → oshs.length = fs.length → ds.length = fs.length →
    (∀ (j : Nat) (f : Field), fs[j]? = some f → f.offset = o + ((fs.take j).map fun f => P.cellsOf f.type).sum) → cs.length = o + (fs.map fun f => P.cellsOf f.type).sum →
    (∀ (j : Nat) (f : Field) (s : List Sh) (d : DataW H), fs[j]? = some f → oshs[j]? = some (some s) → ds[j]? = some d → Told P W D0 B s ((cs.drop f.offset).take (P.cellsOf f.type)) d) →
    ∃ pvs, okVs (shOf P D0) shs pvs ∧ RelL W Any pvs (cs.drop o) ∧ bulkL pvs ≤ BA ds
  | [], o, cs, oshs, ds, shs, hf, hl1, hl2, hoff, hlen, hall => by
    have : oshs = [] := List.eq_nil_of_length_eq_zero hl1
    subst this
    have : ds = [] := List.eq_nil_of_length_eq_zero hl2
    subst this
    simp only [flat?, Option.some.injEq] at hf
    subst hf
    refine ⟨[], trivial, ?_, by simp [bulkL]⟩
    have : cs.drop o = [] := List.drop_eq_nil_of_le (by simp at hlen; omega)
    rw [this]; trivial
  | f :: fs, o, cs, oshs, ds, shs, hf, hl1, hl2, hoff, hlen, hall => by
    match oshs, ds, hl1, hl2 with
    | [], _, h, _ => simp at h
    | _ :: _, [], _, h => simp at h
    | none :: _, _ :: _, _, _ => simp [flat?] at hf
    | some s :: oshs, d :: ds, hl1, hl2 =>
      simp only [flat?, Option.map_eq_some_iff] at hf
      obtain ⟨shs', hf, rfl⟩ := hf
      have h0 : f.offset = o := by simpa using hoff 0 f rfl
      obtain ⟨p, p1, p2, p3⟩ := hall 0 f s d rfl rfl rfl
      rw [h0] at p2
      simp only [List.map_cons, List.sum_cons] at hlen
      obtain ⟨q, q1, q2, q3⟩ := told_fields hb fs (o + P.cellsOf f.type) cs oshs ds hf (by simpa using hl1) (by simpa using hl2) (fun j g hg => by
        have := hoff (j + 1) g (by simpa using hg)
        simp only [List.take_succ_cons, List.map_cons, List.sum_cons] at this
        omega) (by omega) (fun j g s' d' hg hs hd => hall (j + 1) g s' d' (by simpa using hg) (by simpa using hs) (by simpa using hd))
      refine ⟨p ++ q, okVs_append p1 q1, ?_, by rw [bulkL_append, hb.consA]; omega⟩
      have := p2.append q2
      have e : (cs.drop o).take (P.cellsOf f.type) ++ cs.drop (o + P.cellsOf f.type) = cs.drop o := by
        rw [← List.drop_drop]; exact List.take_append_drop _ _
      rw [e] at this
      exact this
theorem cells_get {a : Addr} {n : Nat} {cs : List Value} (h : W.cells? base a n = some cs) : cs.length = n ∧ ∀ i (hi : i < cs.length), W.cell? (a.add i) = some (cs[i]) := by
  unfold World.cells? at h
  split at h
  · have hl : cs.length = n := by simpa using mapM_some_length h
    refine ⟨hl, fun i hi => ?_⟩
    have hi' : i < n := by omega
    have := mapM_some_get h i i (by simp [hi'])
    rw [this, List.getElem?_eq_getElem hi]
  · cases h
theorem spot_none {a : Addr} {v : Value} (h : W.cell? a = some v) : a.spot = none := by
  unfold World.cell? at h
  split at h
  · split at h
    · cases h
    · rename_i hs; cases e : a.spot with
      | none => rfl
      | some s => rw [e] at hs; simp at hs
  · cases h
theorem bulk_elems (hb : Bulk B BA) : ∀ (ds : List (DataW H)) (xs : List (List PV)), xs.length = ds.length → (∀ i (h : i < xs.length) (h' : i < ds.length), bulkL (xs[i]) ≤ B (ds[i])) → bulkLL xs ≤ BA ds
  | [], [], _, _ => by simp [bulkLL]
  | [], _ :: _, h, _ => by simp at h
  | _ :: _, [], h, _ => by simp at h
  | d :: ds, x :: xs, hl, h => by
    have h0 := h 0 (by simp) (by simp)
    have ih := bulk_elems hb ds xs (by simpa using hl) (fun i h1 h2 => h (i + 1) (by simpa using h1) (by simpa using h2))
    simp only [bulkLL, hb.consA]
    simp only [List.getElem_cons_zero] at h0
    omega
theorem lit_pos (hb : Bulk B BA) (l : Lit) : 1 ≤ B (.lit l) := hb.lit l
theorem trod_told (K : Kids P (· < P.types.size)) (hz : ∀ t e, t < P.types.size → P.underlying t = some (.slice e) → 0 < P.cellsOf e) (hb : Bulk B BA) (hc : closedB P D0 gs = true) :
    ∀ (n : Nat) (t : TypeId) (cs : List Value) (x : DataW H × List MemPlace) (D : Nat) (shs : List Sh), t ∈ gs → DataW.trod enc P W base spare held n t cs = some x → shOf P D t = some shs → Told P W D0 B shs cs x.1
  | 0, t, cs, x, D, shs, _, h, _ => by simp [DataW.trod] at h
  | n + 1, t, cs, x, 0, shs, _, _, h => by simp [shOf] at h
  | n + 1, t, cs, x, D + 1, shs, hg, h, hs => by
    obtain ⟨hlt, _, hkind⟩ := closed_in hc hg
    simp only [shOf] at hs
    split at hs
    · rename_i hu
      simp only [Option.some.injEq] at hs
      subst hs
      obtain ⟨b, rfl, rfl⟩ := DataW.trod_bool hu h
      exact ⟨[.bool b], ⟨trivial, trivial⟩, ⟨.bool b, rfl, trivial⟩, hb.lit _⟩
    · rename_i k hu
      simp only [Option.some.injEq] at hs
      subst hs
      obtain ⟨m, rfl, rfl, hw⟩ := DataW.trod_int hu h
      exact ⟨[.int k m], ⟨⟨rfl, hw⟩, trivial⟩, ⟨.int k m, rfl, trivial⟩, hb.lit _⟩
    · rename_i hu
      simp only [Option.some.injEq] at hs
      subst hs
      obtain ⟨s, rfl, rfl, hw⟩ := DataW.trod_string hu h
      exact ⟨[.str s.data.toList], ⟨trivial, trivial⟩, ⟨.str s.data.toList, rfl, trivial⟩, by simp [bulkL, PV.bulk, hb.str]⟩
    · rename_i e hu
      simp only [Option.some.injEq] at hs
      subst hs
      rw [hu] at hkind
      have he : e ∈ gs := by simpa using hkind
      obtain ⟨helt, hes, _⟩ := closed_in hc he
      obtain ⟨es, hes⟩ := Option.isSome_iff_exists.1 hes
      rcases DataW.trod_slice hu h with ⟨rfl, rfl⟩ | ⟨a, len, cap, elems, rest, m, hm, rfl, rfl, hba, hlc, hcap, hel, hget, _⟩
      · refine ⟨[.list []], ⟨?_, trivial⟩, ⟨.none none 0 (by simp [maxLen]), rfl, trivial⟩, ?_⟩
        · simp only [okV, hes]; trivial
        · have := hb.nil; simpa [bulkL, PV.bulk, bulkLL] using this
      · obtain rfl : n = m := by omega
        -- each element
        have each : ∀ i, i < len → ∃ q : List PV × List Value, okVs (shOf P D0) es q.1 ∧ RelL W Any q.1 q.2 ∧ W.cells? base (a.add (i * P.cellsOf e)) (P.cellsOf e) = some q.2 ∧ ∀ y, elems[i]? = some y → bulkL q.1 ≤ B y.1 := by
          intro i hi
          have hi' : i < elems.length := by omega
          have hgi := hget i hi
          rw [List.getElem?_eq_getElem hi'] at hgi
          obtain ⟨ci, hci, hti⟩ := Option.bind_eq_some_iff.1 hgi
          obtain ⟨p, p1, p2, p3⟩ := trod_told K hz hb hc n e ci _ D0 es he hti hes
          refine ⟨(p, ci), p1, p2, hci, fun y hy => ?_⟩
          rw [List.getElem?_eq_getElem hi'] at hy
          simp only [Option.some.injEq] at hy
          rw [← hy]; exact p3
        obtain ⟨qs, hql, hqs⟩ := exists_list each
        have hcz : 0 < P.cellsOf e := hz t e hlt hu
        refine ⟨[.list (qs.map (·.1))], ⟨?_, trivial⟩, ⟨?_, rfl, trivial⟩, ?_⟩
        · simp only [okV, hes]
          refine okVss_of (fun i hi => ?_)
          simp only [List.getElem_map]
          exact (hqs i (by simpa using hi)).1
        · rcases Nat.eq_zero_or_pos len with h0 | h0
          · have : qs = [] := List.eq_nil_of_length_eq_zero (by omega)
            subst this
            subst h0
            exact .none (some a) cap hcap
          · -- its block
            have hspot : a.spot = none := by
              obtain ⟨_, _, hc0, _⟩ := hqs 0 (by omega)
              obtain ⟨g1, g2⟩ := cells_get hc0
              have := g2 0 (by omega)
              simp only [Nat.zero_mul, Addr.add, if_true] at this
              exact spot_none this
            obtain ⟨b, off, sp⟩ := a
            simp only at hspot
            subst hspot
            have hcell : ∀ i j, (hi : i < qs.length) → (hj : j < P.cellsOf e) → ∃ v, ((qs[i]).2)[j]? = some v ∧ v.oneCell' = true ∧ W.cell? ⟨b, off + (i * P.cellsOf e + j), none⟩ = some v := by
              intro i j hi hj
              obtain ⟨_, h2, h3, _⟩ := hqs i hi
              obtain ⟨g1, g2⟩ := cells_get h3
              have hj' : j < ((qs[i]).2).length := by omega
              refine ⟨((qs[i]).2)[j], List.getElem?_eq_getElem hj', (h2.get j (by rw [h2.len]; exact hj') hj').2, ?_⟩
              have := g2 j hj'
              rw [add_at, add_at] at this
              rw [← this, Nat.add_assoc]
            have e0 : len = (qs.map (·.1)).length := by simp [hql]
            rw [e0]
            have hbs : b < W.heap.size := by
              obtain ⟨v, _, _, hv⟩ := hcell 0 0 (by omega) hcz
              unfold World.cell? at hv
              split at hv
              · rename_i hb'; exact (Array.getElem?_eq_some_iff.1 hb').1
              · cases hv
            refine .list _ b off cap (P.cellsOf e) (fun i j => match qs[i]? with | some q => (match q.2[j]? with | some v => if v.oneCell' = true then v else .bool true | none => .bool true) | none => .bool true) trivial hbs (by simp; omega) hcap (fun i hi => ?_) (fun i j hi hj => ?_) (fun i j => ?_) (fun i j hi hj => ?_)
            · simp only [List.getElem_map]
              have hi' : i < qs.length := by simpa using hi
              obtain ⟨_, h2, h3, _⟩ := hqs i hi'
              rw [h2.len, (cells_get h3).1]
            · have hi' : i < qs.length := by simpa using hi
              obtain ⟨v, v1, v2, v3⟩ := hcell i j hi' hj
              simp only [List.getElem?_eq_getElem hi', v1, v2, if_true]
              exact v3
            · split
              · split
                · split
                  · assumption
                  · rfl
                · rfl
              · rfl
            · have hi' : i < qs.length := by simpa using hi
              simp only [List.getElem_map] at hj ⊢
              obtain ⟨_, h2, h3, _⟩ := hqs i hi'
              have hj' : j < ((qs[i]).2).length := by rw [← h2.len]; exact hj
              have hr := h2.get j hj hj'
              simp only [List.getElem?_eq_getElem hi', List.getElem?_eq_getElem hj', hr.2, if_true]
              exact hr.1
        · simp only [bulkL, PV.bulk, hb.slice]
          have := bulk_elems hb (elems.map (·.1)) (qs.map (·.1)) (by simp; omega) (fun i h1 h2 => by
            simp only [List.getElem_map]
            have h2' : i < elems.length := by simpa using h2
            exact (hqs i (by simpa using h1)).2.2.2 _ (List.getElem?_eq_getElem h2'))
          omega
    · rename_i fs hu
      rw [hu] at hkind
      simp only [List.all_eq_true] at hkind
      obtain ⟨xs, m, hm, rfl, hlen, hxl, hget⟩ := DataW.trod_struct hu h
      obtain rfl : n = m := by omega
      obtain ⟨k1, k2, k3⟩ := K.struct hlt hu
      have := told_fields (P := P) (W := W) (D0 := D0) hb fs.toList 0 cs (fs.toList.map fun f => shOf P D f.type) (xs.map (·.1)) hs (by simp) (by simp [hxl]) (fun j f hf => by
        have := k3 j f hf
        omega) (by rw [hlen, k2]; omega) (fun j f s d hf hsj hd => by
          have hfa : fs[j]? = some f := by simpa using hf
          have hgj := hget j f hfa
          have hjx : j < xs.length := by
            have := (Array.getElem?_eq_some_iff.1 hfa).1
            omega
          rw [List.getElem?_eq_getElem hjx] at hgj
          rw [List.getElem?_map, List.getElem?_eq_getElem hjx] at hd
          simp only [Option.map_some, Option.some.injEq] at hd
          subst hd
          rw [List.getElem?_map, hf] at hsj
          simp only [Option.map_some, Option.some.injEq] at hsj
          exact trod_told K hz hb hc n f.type _ _ D s (by simpa using hkind f (List.mem_of_getElem? hf)) hgj hsj)
      obtain ⟨p, p1, p2, p3⟩ := this
      refine ⟨p, p1, by simpa using p2, ?_⟩
      simp only [hb.agg]
      omega
    · cases hs
end
end Go.TA

/-! ## Road2 -/
namespace Go.TA

def aggT (P : Program) (t : TypeId) : Bool := match P.underlying t with
  | some (.struct _) => true
  | _ => false
def argOf (agg : Bool) (pvs : List PV) : PV := if agg then .agg pvs else pvs.getD 0 .nilp
def okArgs (P : Program) (D0 : Nat) : List TypeId → List (List PV) → Prop
  | [], [] => True
  | t :: ts, p :: ps => (∃ shs, shOf P D0 t = some shs ∧ okVs (shOf P D0) shs p) ∧ okArgs P D0 ts ps
  | _, _ => False
def argsOf (P : Program) : List TypeId → List (List PV) → List PV
  | t :: ts, p :: ps => argOf (aggT P t) p :: argsOf P ts ps
  | _, _ => []
section
variable {H : Type} {enc : TypeId × Value → H} {P : Program} {W W' : World} {base : Nat} {spare : Nat → Bool} {held : Bool} {B : DataW H → Nat} {BA : List (DataW H) → Nat} {D0 : Nat} {gs : List TypeId}

theorem okVs_len {tb : Nat → Option (List Sh)} : ∀ {a : List Sh} {x : List PV}, okVs tb a x → a.length = x.length
  | [], [], _ => rfl
  | _ :: _, _ :: _, h => by simp only [okVs] at h; simp [okVs_len h.2]
  | [], _ :: _, h => by simp [okVs] at h
  | _ :: _, [], h => by simp [okVs] at h
theorem sh_one {t : TypeId} {D : Nat} {shs : List Sh} (h : shOf P D t = some shs) (ha : aggT P t = false) : shs.length = 1 := by
  cases D with
  | zero => simp [shOf] at h
  | succ D =>
    simp only [shOf] at h
    split at h
    all_goals first | (simp only [Option.some.injEq] at h; subst h; rfl) | (simp [aggT, *] at ha; done) | cases h
theorem cells_one (hc : closedB P D0 gs = true) {t : TypeId} (ht : t ∈ gs) (ha : aggT P t = false) {v : Value} {r : Reach} {b : Nat} (hv : Value.okWide P W r b t v) : v.cells.toList = [v] := by
  obtain ⟨_, _, hk⟩ := closed_in hc ht
  cases v <;> try rfl
  rename_i cs
  unfold aggT at ha
  split at ha
  · cases ha
  split at hk <;> rename_i hu <;> simp_all [Value.okWide, Cell.okWide, Cell.ok]
theorem agg_form {t : TypeId} (ha : aggT P t = true) {v : Value} {r : Reach} {b : Nat} (hv : Value.okWide P W r b t v) : ∃ cs : List Value, v = .agg cs.toArray ∧ v.cells.toList = cs := by
  unfold aggT at ha
  split at ha
  · rename_i fs hu
    simp only [Value.okWide, hu] at hv
    obtain ⟨cs, rfl, _⟩ := hv
    exact ⟨cs.toList, by simp, rfl⟩
  · cases ha
theorem args_rel (K : Kids P (· < P.types.size)) (hz : ∀ t e, t < P.types.size → P.underlying t = some (.slice e) → 0 < P.cellsOf e) (hb : Bulk B BA) (hc : closedB P D0 gs = true) :
    ∀ {ts : List TypeId} {vs : List Value} {ds : List (DataW H)} {ps : List MemPlace}, DataW.TrodAll enc P W base spare held ts vs ds ps → (∀ t ∈ ts, t ∈ gs) → (∀ (j : Nat) t v, ts[j]? = some t → vs[j]? = some v → ∃ r b, Value.okWide P W r b t v) →
    ∃ pss, okArgs P D0 ts pss ∧ bulkLL pss ≤ BA ds ∧ (argsOf P ts pss).length = vs.length ∧ ∀ j (h : j < (argsOf P ts pss).length) (h' : j < vs.length), RelP W Any ((argsOf P ts pss)[j]) (vs[j])
  | [], [], [], _, _, _, _ => ⟨[], trivial, by simp [bulkLL], rfl, by simp [argsOf]⟩
  | t :: ts, v :: vs, d :: ds, _, ⟨p, q, ⟨n, hn⟩, h2, _⟩, hg, hw => by
    obtain ⟨pss, q1, q2, q3, q4⟩ := args_rel K hz hb hc h2 (fun t ht => hg t (by simp [ht])) (fun j t v h1 h2 => hw (j + 1) t v (by simpa using h1) (by simpa using h2))
    have ht := hg t (by simp)
    obtain ⟨_, hs, _⟩ := closed_in hc ht
    obtain ⟨shs, hs⟩ := Option.isSome_iff_exists.1 hs
    obtain ⟨pvs, p1, p2, p3⟩ := trod_told K hz hb hc n t _ _ D0 shs ht hn hs
    obtain ⟨r, b, hov⟩ := hw 0 t v rfl rfl
    refine ⟨pvs :: pss, ⟨⟨shs, hs, p1⟩, q1⟩, by simp only [bulkLL, hb.consA]; simp only at p3; omega, by simp [argsOf, q3], fun j h h' => ?_⟩
    cases j with
    | succ j => exact q4 j (by simpa [argsOf] using h) (by simpa using h')
    | zero =>
      simp only [argsOf, List.getElem_cons_zero]
      cases ha : aggT P t with
      | true =>
        obtain ⟨cs, rfl, hcs⟩ := agg_form ha hov
        rw [hcs] at p2
        simpa [argOf] using p2.agg
      | false =>
        have hl := sh_one hs ha
        rw [cells_one hc ht ha hov] at p2
        have := p2.get 0 (by rw [p2.len]; simp) (by simp)
        simp only [List.getElem_cons_zero] at this
        have hp : 0 < pvs.length := by rw [p2.len]; simp
        simp only [argOf, Bool.false_eq_true, if_false, getD_lt PV.nilp hp]
        exact this.1
theorem carry_all : ∀ {ts : List TypeId} {vs : List Value} {ds : List (DataW H)} {ps : List MemPlace}, DataW.TrodAll enc P W base spare held ts vs ds ps → (∀ p ∈ ps, W.sameAt W' p) → DataW.TrodAll enc P W' base spare held ts vs ds ps
  | [], [], [], _, h, _ => h
  | _ :: _, _ :: _, _ :: _, _, ⟨p, q, ⟨n, hn⟩, h2, e⟩, hs => ⟨p, q, ⟨n, DataW.trod_carry n _ _ _ hn (fun x hx => hs x (by rw [e]; exact List.mem_append_left _ hx))⟩, carry_all h2 (fun x hx => hs x (by rw [e]; exact List.mem_append_right _ hx)), e⟩
theorem trod_len : ∀ {ts : List TypeId} {vs : List Value} {ds : List (DataW H)} {ps : List MemPlace}, DataW.TrodAll enc P W base spare held ts vs ds ps → ds.length = ts.length
  | [], [], [], _, _ => rfl
  | _ :: _, _ :: _, _ :: _, _, ⟨_, _, _, h, _⟩ => by simp [trod_len h]
theorem same_below (h : Go.RowKit.Below W.heap.size W W') {p : MemPlace} (hp : p.block < W.heap.size) : W.sameAt W' p := by
  cases p with
  | cell b off => exact World.cell?_of_block (a := ⟨b, off, none⟩) (h.block b hp)
  | map b => exact h.block b hp
/-- What a law's statement asks behind the call: it is true, and nothing has changed. -/
theorem law_post (K : Kids P (· < P.types.size)) (hz : ∀ t e, t < P.types.size → P.underlying t = some (.slice e) → 0 < P.cellsOf e) {f : Func} {s : ChangeSpec} {apart fresh handsOn : Bool} {args : Array Value} {ds gs : List (DataW H)} {before : List MemPlace}
    (hW : DataW.Whole enc P f.params.toList s.vars apart W args.toList ds gs before) (hv : s.vars = []) {tb : TypeId} (hr : f.resultTypes = #[tb]) (hu : P.underlying tb = some .bool) (hp : ∀ t ∈ f.params.toList, t < P.types.size)
    (hspec : s.fn H ds = { results := [.lit (.bool true)], args := ds }) (hB : Go.RowKit.Below W.heap.size W W') : s.post enc P f apart fresh handsOn false W args (.bool true) W' := by
  have hW' := hW
  obtain ⟨p, q, h1, h2, rfl, h4, h5⟩ := hW
  rw [hv] at h2
  obtain ⟨rfl, rfl⟩ := Go.ChangeShapes.trodVars_none h2
  have hlt := h1.lt
  have hold : ∀ x ∈ p, (fun b => decide (b < W.heap.size)) x.block = true := fun x hx => by simpa using hlt x hx
  refine ⟨ds, [], p ++ [], [], p, [], hW', ?_, ?_, ?_, hB.frame _, fun h => by cases h⟩
  · rw [hr, List.append_nil, hspec]
    exact ⟨[], [], ⟨1, by simp [DataW.trod, hu, Value.cells]⟩, rfl, rfl⟩
  · rw [List.append_nil, hspec]
    exact (carry_all h1 (fun x hx => same_below hB (hlt x hx))).respare K hz hp hold
  · rw [hv, List.append_nil, hspec]
    exact rfl

/-! ### the call -/
def Γ0 : Ground := ⟨0, fun _ => True, fun _ _ => Nat.zero_le _, fun _ _ _ _ _ => trivial⟩
def Cx.zero (W : World) : Cx := ⟨fun _ => False, fun _ _ => none, [], [], W⟩
theorem relH_zero (W : World) : RelH Γ0 (Cx.zero W) where
  ground := trivial
  objs z k ob hob := by cases z <;> simp [Cx.obj, Cx.zero, lk] at hob
  inj z k z' k' b h := by simp [Cx.zero] at h
  live z k b h := by simp [Cx.zero] at h
  xlt b hb := hb.elim
theorem law_calls (hm : P.follows .mixedOrders = true) {T : Nat → Option LFn} (hT : TOk P Γ0 T) {n f : Nat} {ps : List PV} {g' : List AObj} (h : acall T n f (ps.map .p) [] = some (.p (.bool true), g')) {args : Array Value}
    (hl : ps.length = args.size) (hr : ∀ j (h : j < ps.length) (h' : j < args.toList.length), RelP W Any (ps[j]) (args.toList[j])) : Calls P f args W fun e W' => e = .returned (.bool true) ∧ Go.RowKit.Below W.heap.size W W' := by
  obtain ⟨_, _, _, h4⟩ := acall_sound hm hT n f _ [] _ _ h (noLocals_p ps) (fun o h => by simp at h)
  have hN : ∀ b, (Cx.zero W).N b := fun b => ⟨fun h => h, fun ⟨z, k, h⟩ => by simp [Cx.zero] at h⟩
  have := h4 (Cx.zero W) args.toList rfl rfl (relH_zero W) (by simpa using hl) (fun j h h' => by
    simp only [List.getElem_map]
    exact .p _ _ ((hr j (by simpa using h) h').mono fun b _ hb => ⟨hN b, hb, rfl⟩))
  rw [Array.toArray_toList] at this
  refine Calls.mono this (fun e w' he => ?_)
  obtain ⟨v, rfl, c', _, _, rfl, hE, _, hv⟩ := he
  exact ⟨by rw [relV_bool hv], hE.os, hE.tape, hE.output, hE.size, fun k hk => hE.keep k hk (fun ⟨z, k, h⟩ => by simp [Cx.zero] at h)⟩
end
/-- A row of a table. -/
def RowOk (P : Program) (Γ : Ground) (e : Nat × LFn) : Prop := match e.2 with
  | .code F => FnSound P e.1 F
  | .prim p => PrimOk P Γ e.1 p
theorem tOk_of {P : Program} {Γ : Ground} {tab : List (Nat × LFn)} (h : ∀ e ∈ tab, RowOk P Γ e) : TOk P Γ (fun k => lk tab k) := fun f => by
  change match lk tab f with
    | some (.code F) => FnSound P f F
    | some (.prim p) => PrimOk P Γ f p
    | none => True
  cases e : lk tab f with
  | none => trivial
  | some x =>
    have := h (f, x) (lk_mem e)
    cases x <;> exact this
end Go.TA
