/- Part 2 of 6 of a proof; joined from LibD, LibE, LibF. Code, functions and the whole table are sound. -/
import Derived.Test.YtnjblmbobmbgkaaDoorVn1
import Derived.Deep.AppendSrc
import Derived.MapKept
import Derived.Tactics
import Derived.Orders
section
/- The last operations, and calls, are sound. -/
set_option linter.unusedVariables false
set_option linter.unusedSimpArgs false

/-! ## Ops17 -/
namespace Go.TA
section
variable {P : Program} {Γ : Ground} {c : Cx} {s : St} {ρ : Operand → Value} {o : Oper}

theorem RowsRel.more {sz : Nat} {xs : List (List AV)} {a : List Value} (h : RowsRel c sz xs a) (r : List Value) : RowsRel c sz xs (a ++ r) := by
  refine ⟨h.1, by rw [List.length_append]; have := h.2.1; omega, fun i j hi hj => ?_⟩
  obtain ⟨v, v1, v2, v3⟩ := h.2.2 i j hi hj
  refine ⟨v, ?_, v2, v3⟩
  rw [List.getElem?_append_left (List.getElem?_eq_some_iff.1 v1).1]
  exact v1
theorem row_lt {i j n sz : Nat} (hi : i < n) (hj : j < sz) : i * sz + j < n * sz := by
  have := Nat.mul_le_mul_right sz (show i + 1 ≤ n from hi)
  rw [Nat.succ_mul] at this
  omega
theorem RowsRel.take {sz : Nat} {xs : List (List AV)} {a : List Value} (h : RowsRel c sz xs a) : RowsRel c sz xs (a.take (xs.length * sz)) := by
  refine ⟨h.1, by rw [List.length_take]; have := h.2.1; omega, fun i j hi hj => ?_⟩
  obtain ⟨v, v1, v2, v3⟩ := h.2.2 i j hi hj
  refine ⟨v, ?_, v2, v3⟩
  rw [List.getElem?_take, if_pos (row_lt hi (by rw [h.1 i hi] at hj; exact hj))]
  exact v1
theorem RowsRel.append {sz : Nat} {xs ys : List (List AV)} {a b : List Value} (h : RowsRel c sz xs a) (hl : a.length = xs.length * sz) (h' : RowsRel c sz ys b) : RowsRel c sz (xs ++ ys) (a ++ b) := by
  refine ⟨fun i hi => ?_, by simp only [List.length_append, Nat.add_mul]; have := h'.2.1; omega, fun i j hi hj => ?_⟩
  · rw [List.getElem_append]
    split
    · exact h.1 _ _
    · exact h'.1 _ _
  · by_cases e : i < xs.length
    · have ex : (xs ++ ys)[i] = xs[i] := List.getElem_append_left e
      rw [ex] at hj
      obtain ⟨v, v1, v2, v3⟩ := h.2.2 i j e hj
      refine ⟨v, ?_, v2, ?_⟩
      · rw [List.getElem?_append_left (List.getElem?_eq_some_iff.1 v1).1]
        exact v1
      · simp only [ex]
        exact v3
    · have ex : (xs ++ ys)[i] = ys[i - xs.length]'(by simp at hi; omega) := List.getElem_append_right (by omega)
      rw [ex] at hj
      obtain ⟨v, v1, v2, v3⟩ := h'.2.2 (i - xs.length) j (by simp at hi; omega) hj
      refine ⟨v, ?_, v2, ?_⟩
      · have em : i * sz = xs.length * sz + (i - xs.length) * sz := by rw [← Nat.add_mul]; congr 1; omega
        rw [List.getElem?_append_right (by rw [hl]; omega), ← v1]
        congr 1
        rw [hl]
        omega
      · simp only [ex]
        exact v3
theorem RowsRel.mono {c' : Cx} (hE : Evolve c c') {sz : Nat} {xs : List (List AV)} {a : List Value} (h : RowsRel c sz xs a) : RowsRel c' sz xs a :=
  ⟨h.1, h.2.1, fun i j hi hj => by obtain ⟨v, v1, v2, v3⟩ := h.2.2 i j hi hj; exact ⟨v, v1, v2, hE.relV v3⟩⟩
theorem append_rel (hH : RelH Γ c) {z : Bool} {k n sz bytes : Nat} {ob ob' : AObj} {xs ys : List (List AV)} {v x : Value} {t u e ty : TypeId} {i : TypeInfo} {zv : Value} {news : List Value} (hob : c.obj z k = some ob) (hcnt : ob.cnt = some n) (hm : ob.isMap = false) (hm' : ob'.isMap = false) (hs : ob'.sz = sz) (hs0 : ob.sz = sz) (hcnt' : ob'.cnt = some (n + ys.length))
    (hR : RelRow c (c.μ z k) sz xs) (hn : xs.length = n) (hro : ∀ c'' : Cx, RelRow c'' (c''.μ z k) sz (xs ++ ys) → RelObj c'' z k ob') (hv : RelV c (.own z k n) v)
    (ht : P.underlying t = some (.slice e)) (hi : P.info? e = some i) (hz : i.zero = some zv) (hsz : i.size = sz) (hby : i.bytes = bytes) (hzs : zv.cells.size = sz)
    (hsrc : Src P sz u x ys.length news c.w) (hy : RowsRel c sz ys news) (hb1 : (n + ys.length) * bytes ≤ 140737488355328) (hb2 : n + ys.length ≤ 140737488355328) :
    ∃ v' w' m', (Builtin.append_ #[t, u] ty #[v, x]).run P c.w = .ok v' w' ∧ Evolve c (c.set z k ob' m' w') ∧ RelH Γ (c.set z k ob' m' w') ∧ RelV (c.set z k ob' m' w') (.own z k (n + ys.length)) v' := by
  subst hsz
  subst hby
  have hne : c.obj z k ≠ none := by rw [hob]; simp
  have hobs : ∀ m' w', (c.set z k ob' m' w').obj z k = some ob' := fun m' w' => by rw [Cx.obj_set hne, if_pos ⟨rfl, rfl⟩]
  have hμs : ∀ m' w', (c.set z k ob' m' w').μ z k = m' := fun m' w' => by simp [Cx.set]
  obtain ⟨A, cap, rfl, hrow⟩ := row_now hv hob hcnt
  have hnl : news.length = ys.length * i.size := hsrc.newsLen
  -- a new block
  have grow : ∀ (olds : List Value) (base : Option Addr), (Builtin.firstCells i.size n (.slice base n cap)).run P c.w.drew = .ok olds.toArray c.w.drew → RowsRel c i.size xs olds → olds.length = n * i.size → cap < n + ys.length → n ≤ cap →
      ∃ v' w' m', (Builtin.append_ #[t, u] ty #[.slice base n cap, x]).run P c.w = .ok v' w' ∧ Evolve c (c.set z k ob' m' w') ∧ RelH Γ (c.set z k ob' m' w') ∧ RelV (c.set z k ob' m' w') (.own z k (n + ys.length)) v' := by
    intro olds base hold hxr hol hcap hncap
    have hr := run_append_grow_src (P := P) c.w t u ty e i zv ht hi hz base n cap olds hold x ys.length news hsrc hcap (by omega) (growslice_fits hcap hb1)
    have hge := grownCap_ge c.w (n + ys.length) cap e
    have hcm := grownCap_le_maxLen c.w (n + ys.length) cap e (by simp [maxLen]; omega)
    generalize grownCap c.w (n + ys.length) cap e = cap' at *
    have hb := below_drew_alloc c.w (.cells ((olds ++ news).toArray ++ Builtin.zeroCells zv.cells (cap' - (n + ys.length))) e)
    have hnew := heap_alloc_new c.w.drew (.cells ((olds ++ news).toArray ++ Builtin.zeroCells zv.cells (cap' - (n + ys.length))) e)
    have hlt := size_alloc c.w.drew (.cells ((olds ++ news).toArray ++ Builtin.zeroCells zv.cells (cap' - (n + ys.length))) e)
    have hsize : ((olds ++ news).toArray ++ Builtin.zeroCells zv.cells (cap' - (n + ys.length))).size = cap' * i.size := by
      rw [Array.size_append, size_zeroCells, hzs, List.size_toArray, List.length_append, hol, hnl, ← Nat.add_mul, ← Nat.add_mul]
      congr 1
      omega
    have hlist : ((olds ++ news).toArray ++ Builtin.zeroCells zv.cells (cap' - (n + ys.length))).toList = olds ++ news ++ (Builtin.zeroCells zv.cells (cap' - (n + ys.length))).toList := by simp
    generalize ((olds ++ news).toArray ++ Builtin.zeroCells zv.cells (cap' - (n + ys.length))) = arr at *
    obtain ⟨hE, hH'⟩ := hH.set ob' (some c.w.heap.size) (w' := c.w.drew.alloc (.cells arr e)) hob hb.size hb.tape hb.os hb.output (fun b hb' _ => hb.block b hb') (fun b hb' => by
      cases hb'
      exact ⟨.inr ⟨Nat.le_refl _, hlt, hH.new.1⟩, by rw [hcnt']; simp⟩) (fun m' hm2 => by
      rw [hcnt'] at hm2
      cases hm2
      exact ⟨n, hcnt, by omega, by rw [hm, hm'], fun e => by omega⟩) (fun hE => by
      refine hro _ ?_
      rw [hμs]
      have hrr := ((hxr.append (by rw [hol, hn]) hy).more (Builtin.zeroCells zv.cells (cap' - (n + ys.length))).toList).mono hE
      rw [← hlist] at hrr
      exact ⟨hrr.1, .inr ⟨_, arr, e, rfl, hnew, by simpa using hrr.2.1, fun a b ha hb => by simpa using hrr.2.2 a b ha hb⟩⟩)
    refine ⟨_, _, some c.w.heap.size, hr, hE, hH', .own _ _ _ _ _ ⟨ob', hobs _ _, fun m' hm2 => ?_⟩⟩
    rw [hcnt'] at hm2
    cases hm2
    exact ⟨Nat.le_refl _, fun _ => .inr ⟨_, arr, e, hμs _ _, rfl, hge, hcm, hnew, by rw [hsize, hs]⟩⟩
  rcases hrow with ⟨q0, h0, rfl, rfl⟩ | ⟨b, cs, e', q1, rfl, q3, q4, q5, q6⟩
  · have hx0 : xs = [] := List.eq_nil_of_length_eq_zero (hn.trans h0)
    subst hx0
    by_cases hy0 : ys.length = 0
    · have hys : ys = [] := List.eq_nil_of_length_eq_zero hy0
      subst hys
      have hnews : news = [] := List.eq_nil_of_length_eq_zero (by simpa using hnl)
      subst hnews
      subst h0
      obtain ⟨hE, hH'⟩ := hH.set ob' none (w' := c.w) hob (Nat.le_refl _) rfl rfl rfl (fun _ _ _ => rfl) (fun b hb => by cases hb) (fun m' hm2 => by
        rw [hcnt'] at hm2
        cases hm2
        exact ⟨0, hcnt, Nat.le_refl _, by rw [hm, hm'], fun _ => ⟨⟨q0.symm, fun b cs e h => by rw [q0] at h; cases h⟩, by rw [hs, hs0]⟩⟩) (fun hE => by
        refine hro _ ?_
        rw [hμs]
        exact ⟨by simp, .inl ⟨rfl, rfl⟩⟩)
      refine ⟨.slice none 0 0, c.w, none, ?_, hE, hH', .own _ _ _ _ _ ⟨ob', hobs _ _, fun m' hm2 => ?_⟩⟩
      · have hc := hsrc.cells
        have hl := hsrc.len
        simp only [List.length_nil] at hc hl
        rcases hsrc.kind with ⟨e2, hk⟩ | hk <;> simp [Builtin.append_, run_underlying ht, run_underlying hk, sizeOf, typeInfo, hi, hl, hc]
      · rw [hcnt'] at hm2
        cases hm2
        exact ⟨Nat.le_refl _, fun _ => .inl ⟨hμs _ _, rfl, rfl, rfl⟩⟩
    · subst h0
      exact grow [] none (by simp [Builtin.firstCells]) ⟨by simp, by simp, fun i j hi => by simp at hi⟩ (by simp) (by omega) (Nat.le_refl _)
  · rw [q1] at hR
    obtain ⟨cs2, e2, hh, hrows⟩ := relRow_rows hR
    rw [q5] at hh
    cases hh
    have htake := hrows.take
    rw [hn] at htake
    have hlen : (cs.toList.take (n * i.size)).length = n * i.size := by
      have := hrows.2.1
      rw [hn] at this
      rw [List.length_take]
      omega
    by_cases hroom : n + ys.length ≤ cap
    · have hfit : n * i.size + 0 + news.length ≤ cs.size := by
        rw [hnl, q6, hs0, Nat.add_zero, ← Nat.add_mul]
        exact Nat.mul_le_mul_right _ hroom
      have hst := run_storeCells_at P b (n * i.size) e' news 0 cs c.w q5 hfit hsrc.one
      simp only [Nat.add_zero] at hst hfit
      have hset := setRow_heap c.w b cs (cs.toList.take (n * i.size) ++ news ++ cs.toList.drop (n * i.size + news.length)).toArray e' (0, 0) q5
      have hsize : (cs.toList.take (n * i.size) ++ news ++ cs.toList.drop (n * i.size + news.length)).toArray.size = cs.size := by
        simp only [List.size_toArray, List.length_append, List.length_take, List.length_drop, Array.length_toList]
        omega
      have hrr : RowsRel c i.size (xs ++ ys) (cs.toList.take (n * i.size) ++ news ++ cs.toList.drop (n * i.size + news.length)) := (htake.append (by rw [hlen, hn]) hy).more _
      generalize (cs.toList.take (n * i.size) ++ news ++ cs.toList.drop (n * i.size + news.length)) = arr at *
      obtain ⟨hE, hH'⟩ := hH.set ob' (some b) (w' := c.w.setRow b arr.toArray) hob (by simp) rfl rfl rfl (fun b' _ hne => setRow_other c.w b b' _ (fun e => hne (by rw [q1, e]))) (fun b' e3 => ⟨.inl (by cases e3; exact q1), by rw [hcnt']; simp⟩) (fun m' hm2 => by
        rw [hcnt'] at hm2
        cases hm2
        exact ⟨n, hcnt, by omega, by rw [hm, hm'], fun e => ⟨⟨q1.symm, fun b' cs1 e1 h1 h2 => by
          rw [q1] at h1
          cases h1
          rw [q5] at h2
          cases h2
          exact ⟨arr.toArray, hset, hsize⟩⟩, by rw [hs, hs0]⟩⟩) (fun hE => by
        refine hro _ ?_
        rw [hμs]
        have hrr := hrr.mono hE
        exact ⟨hrr.1, .inr ⟨b, arr.toArray, e', rfl, hset, by simpa using hrr.2.1, fun a b ha hb => by simpa using hrr.2.2 a b ha hb⟩⟩)
      refine ⟨.slice (some ⟨b, 0, none⟩) (n + ys.length) cap, _, some b, ?_, hE, hH', .own _ _ _ _ _ ⟨ob', hobs _ _, fun m' hm2 => ?_⟩⟩
      · have hc := hsrc.cells
        have hl := hsrc.len
        rcases hsrc.kind with ⟨e2, hk⟩ | hk <;> simp [Builtin.append_, run_underlying ht, run_underlying hk, sizeOf, typeInfo, hi, hl, hc, hroom, Addr.add_lit, hst]
      · rw [hcnt'] at hm2
        cases hm2
        exact ⟨Nat.le_refl _, fun _ => .inr ⟨b, arr.toArray, e', hμs _ _, rfl, hroom, q4, hset, by rw [hsize, q6, hs, hs0]⟩⟩
    · refine grow (cs.toList.take (n * i.size)) (some ⟨b, 0, none⟩) ?_ htake hlen (by omega) q3
      refine run_firstCells_some c.w.drew i.size n ⟨b, 0, none⟩ n cap _ hlen (fun j v hj => ?_)
      rw [List.getElem?_take] at hj
      split at hj
      · rw [add_at, Nat.zero_add]
        refine (cell_of_row c.w.drew b j cs e' (0, 0) q5).trans ?_
        simpa using hj
      · cases hj
end
end Go.TA

/-! ## Ops18 -/
namespace Go.TA
section
variable {P : Program} {Γ : Ground} {c : Cx} {s : St} {ρ : Operand → Value} {o : Oper}

abbrev SrcK (P : Program) (u : TypeId) : Prop := (∃ e', P.underlying u = some (.slice e')) ∨ P.underlying u = some .string
theorem src_slice {w : World} {sz : Nat} {u : TypeId} (hk : SrcK P u) (a : Addr) (n cp : Nat) (news : List Value) (hl : news.length = n * sz) (hnews : ∀ j v, news[j]? = some v → w.cell? (a.add j) = some v)
    (h1 : ∀ v ∈ news, v.oneCell' = true) : Src P sz u (.slice (some a) n cp) n news w :=
  ⟨hk, fun _ => rfl, run_firstCells_some w sz n a n cp news hl hnews, run_firstCells_some w.drew sz n a n cp news hl hnews, hl, h1⟩
theorem src_nil {w : World} {sz : Nat} {u : TypeId} (hk : SrcK P u) (A : Option Addr) (cp : Nat) : Src P sz u (.slice A 0 cp) 0 [] w := by
  cases A with
  | some a => exact src_slice hk a 0 cp [] (by simp) (by simp) (by simp)
  | none => exact ⟨hk, fun _ => rfl, run_firstCells_none w sz 0 0 cp, run_firstCells_none w.drew sz 0 0 cp, by simp, by simp⟩
/-- Rows, laid out one behind the other. -/
def laid (m sz : Nat) (f : Nat → Nat → Value) : List Value := (List.range (m * sz)).map fun q => f (q / sz) (q % sz)
theorem laid_get {m sz : Nat} {f : Nat → Nat → Value} {i j : Nat} (hi : i < m) (hj : j < sz) : (laid m sz f)[i * sz + j]? = some (f i j) := by
  have h := row_lt (n := m) hi hj
  have e1 : (i * sz + j) / sz = i := by rw [Nat.mul_comm, Nat.mul_add_div (by omega), Nat.div_eq_of_lt hj, Nat.add_zero]
  have e2 : (i * sz + j) % sz = j := by rw [Nat.mul_comm, Nat.mul_add_mod, Nat.mod_eq_of_lt hj]
  simp [laid, h, e1, e2]
theorem src_rows {w : World} {sz : Nat} {u : TypeId} (hk : SrcK P u) (h0 : 0 < sz) {b off m cp : Nat} {f : Nat → Nat → Value} (hcell : ∀ i j, i < m → j < sz → w.cell? ⟨b, off + (i * sz + j), none⟩ = some (f i j)) (h1 : ∀ i j, (f i j).oneCell' = true) :
    Src P sz u (.slice (some ⟨b, off, none⟩) m cp) m (laid m sz f) w :=
  src_slice hk _ m cp _ (by simp [laid]) (fun j v hj => by
    simp only [laid, List.getElem?_map] at hj
    have hlt : j < m * sz := by
      have := (List.getElem?_eq_some_iff.1 (Option.map_eq_some_iff.1 hj).choose_spec.1).1
      simpa using this
    rw [List.getElem?_range hlt] at hj
    simp only [Option.map_some, Option.some.injEq] at hj
    subst hj
    rw [add_at]
    have := hcell (j / sz) (j % sz) (by rw [Nat.div_lt_iff_lt_mul h0]; exact hlt) (Nat.mod_lt _ h0)
    rw [← this]
    congr 2
    rw [Nat.mul_comm, Nat.div_add_mod]) (fun v hv => by
    simp only [laid, List.mem_map] at hv
    obtain ⟨q, _, rfl⟩ := hv
    exact h1 _ _)
/-- What is appended. -/
inductive News (sz : Nat) : AV → List (List AV) → Prop
  | lit (ys : List (List AV)) : (∀ i (h : i < ys.length), (ys[i]).length = sz) → News sz (.lit ys) ys
  | list (ps : List (List PV)) : (∀ i (h : i < ps.length), (ps[i]).length = sz) → News sz (.p (.list ps)) (lift ps)
  | str (bs : List UInt8) : sz = 1 → News sz (.p (.str bs)) (lift (bs.map fun b => [PV.int .u8 b.toNat]))
theorem news_rel {sz : Nat} {av : AV} {ys : List (List AV)} {x : Value} {u : TypeId} (hn : News sz av ys) (h0 : 0 < sz) (hk : SrcK P u) (hr : RelV c av x) : ∃ news, Src P sz u x ys.length news c.w ∧ RowsRel c sz ys news := by
  cases hn with
  | lit _ hl =>
    cases hr with
    | lit _ b cap sz' f h1 h2 h3 h4 h5 h6 h7 h8 =>
      by_cases he : ys.length = 0
      · have e : ys = [] := List.eq_nil_of_length_eq_zero he
        subst e
        exact ⟨[], src_nil hk _ _, by simp, by simp, fun i j hi => by simp at hi⟩
      · have e1 : sz' = sz := by rw [← h5 0 (by omega), hl 0 (by omega)]
        subst e1
        refine ⟨laid ys.length sz' f, src_rows (off := 0) hk h0 (fun i j hi hj => by rw [Nat.zero_add]; exact h6 i j hi hj) h7, h5, by simp [laid], fun i j hi hj => ⟨f i j, laid_get hi (by rw [h5 i hi] at hj; exact hj), h7 i j, h8 i j hi hj⟩⟩
  | list ps hl =>
    obtain ⟨A, cap, rfl, q1, q2, q3⟩ := relP_list (relV_p hr)
    have hlen : (lift ps).length = ps.length := by simp [lift]
    rw [hlen]
    by_cases he : ps.length = 0
    · have e : ps = [] := List.eq_nil_of_length_eq_zero he
      subst e
      exact ⟨[], src_nil hk _ _, by simp [lift], by simp [lift], fun i j hi => by simp [lift] at hi⟩
    · obtain ⟨b, off, sz', f, rfl, h1, h2, h5, h6, h7, h8⟩ := q3 (by omega)
      have e1 : sz' = sz := by rw [← h5 0 (by omega), hl 0 (by omega)]
      subst e1
      refine ⟨laid ps.length sz' f, src_rows hk h0 h6 h7, fun i hi => by simpa [lift] using h5 i (by simpa [lift] using hi), by simp [laid, lift], fun i j hi hj => ?_⟩
      have hi' : i < ps.length := by simpa [lift] using hi
      have hj' : j < (ps[i]).length := by simpa [lift] using hj
      refine ⟨f i j, laid_get hi' (by rw [h5 i hi'] at hj'; exact hj'), h7 i j, ?_⟩
      simp only [lift, List.getElem_map]
      exact .p _ _ (h8 i j hi' hj')
  | str bs h1 =>
    subst h1
    have := relV_str hr
    subst this
    have hsz : (⟨bs.toArray⟩ : ByteArray).size = bs.length := rfl
    have hbl : (byteCells ⟨bs.toArray⟩).length = bs.length := by rw [byteCells_length, hsz]
    refine ⟨byteCells ⟨bs.toArray⟩, ?_, ?_⟩
    · have hf : ∀ w', (Builtin.firstCells 1 bs.length (.string ⟨bs.toArray⟩)).run P w' = .ok (byteCells ⟨bs.toArray⟩).toArray w' := fun w' => by
        have := firstCells_string (P := P) ⟨bs.toArray⟩ w'
        rwa [hsz] at this
      have hl : (lift (bs.map fun b => [PV.int .u8 b.toNat])).length = bs.length := by simp [lift]
      rw [hl]
      exact ⟨hk, fun _ => rfl, hf _, hf _, by rw [hbl, Nat.mul_one], fun u hu => by
        obtain ⟨_, _, rfl⟩ := List.mem_map.1 hu
        rfl⟩
    · refine ⟨fun i hi => by simp [lift], by rw [hbl]; simp [lift], fun i j hi hj => ?_⟩
      have hi' : i < bs.length := by simpa [lift] using hi
      have hj' : j = 0 := by simpa [lift] using hj
      subst hj'
      refine ⟨.int .u8 (bs[i]).toNat, by simp [byteCells, hi'], rfl, ?_⟩
      simp only [lift, List.getElem_map, List.getElem_cons_zero]
      exact rInt _ _
theorem all_len {α : Type} {sz : Nat} {ys : List (List α)} (h : (ys.all fun y => y.length == sz) = true) (i : Nat) (hi : i < ys.length) : (ys[i]).length = sz := by
  have := List.all_eq_true.1 h ys[i] (List.getElem_mem _)
  simpa using this
theorem appendTo_rel {z : Bool} {k n sz bytes : Nat} {ob : AObj} {y av : AV} {s' : St} (h : appendTo s z k n sz bytes ob y = some (av, s')) (hR : RelObj c z k ob) : ∃ xs ys ob', News sz y ys ∧ RelRow c (c.μ z k) sz xs ∧ xs.length = n ∧ ob.cnt = some n ∧ ob.isMap = false ∧ ob.sz = sz ∧
    ob'.cnt = some (n + ys.length) ∧ ob'.isMap = false ∧ ob'.sz = sz ∧ (∀ c'' : Cx, RelRow c'' (c''.μ z k) sz (xs ++ ys) → RelObj c'' z k ob') ∧ (n + ys.length) * bytes ≤ 140737488355328 ∧ n + ys.length ≤ 140737488355328 ∧ av = .own z k (n + ys.length) ∧ s' = s.putObj z k ob' := by
  cases ob with
  | pcells b xs =>
    simp only [appendTo] at h
    split at h
    rotate_left
    · cases h
    rename_i hc
    obtain ⟨rfl, hn⟩ := hc
    have hlx : (lift xs).length = n := by simpa [lift] using hn
    split at h
    · rename_i ys
      split at h
      rotate_left
      · cases h
      rename_i hc
      obtain ⟨c1, c2, c3⟩ := hc
      have hx : (List.map (fun c => List.map AV.p c) xs) = lift xs := rfl
      split at h
      · rename_i ps hp
        simp only [Option.some.injEq, Prod.mk.injEq] at h
        obtain ⟨rfl, rfl⟩ := h
        have e := puress_lift hp
        have hlen : ps.length = ys.length := by rw [e]; simp [lift]
        refine ⟨lift xs, ys, .pcells b (xs ++ ps), .lit ys (all_len c3), hR, hlx, by simp [AObj.cnt, hn], rfl, rfl, by simp [AObj.cnt, hn, hlen], rfl, rfl, fun c'' h => ?_, c1, c2, by rw [List.length_append, hn, hlen], rfl⟩
        rw [e] at h
        simp only [RelObj]
        simpa [lift] using h
      · split at h
        rotate_left
        · cases h
        simp only [Option.some.injEq, Prod.mk.injEq] at h
        obtain ⟨rfl, rfl⟩ := h
        refine ⟨lift xs, ys, .cells b (lift xs ++ ys), .lit ys (all_len c3), hR, hlx, by simp [AObj.cnt, hn], rfl, rfl, by simp [AObj.cnt, hlx], rfl, rfl, fun c'' h => h, c1, c2, by rw [hx, List.length_append, hlx], rfl⟩
    · rename_i ps
      split at h
      rotate_left
      · cases h
      rename_i hc
      obtain ⟨c1, c2, c3⟩ := hc
      simp only [Option.some.injEq, Prod.mk.injEq] at h
      obtain ⟨rfl, rfl⟩ := h
      have hlen : (lift ps).length = ps.length := by simp [lift]
      refine ⟨lift xs, lift ps, .pcells b (xs ++ ps), .list ps (all_len c3), hR, hlx, by simp [AObj.cnt, hn], rfl, rfl, by simp [AObj.cnt, hn, hlen], rfl, rfl, fun c'' h => ?_, by rw [hlen]; exact c1, by rw [hlen]; exact c2, by rw [List.length_append, hn, hlen], rfl⟩
      simp only [RelObj]
      simpa [lift] using h
    · rename_i bs
      split at h
      rotate_left
      · cases h
      rename_i hc
      obtain ⟨c1, c2, c3⟩ := hc
      simp only [Option.some.injEq, Prod.mk.injEq] at h
      obtain ⟨rfl, rfl⟩ := h
      have hlen : (lift (bs.map fun b => [PV.int .u8 b.toNat])).length = bs.length := by simp [lift]
      refine ⟨lift xs, lift (bs.map fun b => [PV.int .u8 b.toNat]), .pcells b (xs ++ bs.map fun b => [PV.int .u8 b.toNat]), .str bs c3, hR, hlx, by simp [AObj.cnt, hn], rfl, rfl, by simp [AObj.cnt, hn, hlen], rfl, rfl, fun c'' h => ?_, by rw [hlen]; exact c1, by rw [hlen]; exact c2, by rw [List.length_append, hn, hlen, List.length_map], rfl⟩
      simp only [RelObj]
      simpa [lift] using h
    · cases h
  | cells b xs =>
    simp only [appendTo] at h
    split at h
    rotate_left
    · cases h
    rename_i hc
    obtain ⟨rfl, hn⟩ := hc
    split at h
    · rename_i ys
      split at h
      rotate_left
      · cases h
      rename_i hc
      obtain ⟨c1, c2, c3, c4⟩ := hc
      simp only [Option.some.injEq, Prod.mk.injEq] at h
      obtain ⟨rfl, rfl⟩ := h
      exact ⟨xs, ys, .cells b (xs ++ ys), .lit ys (all_len c3), hR, hn, by simp [AObj.cnt, hn], rfl, rfl, by simp [AObj.cnt, hn], rfl, rfl, fun c'' h => h, c1, c2, by rw [List.length_append, hn], rfl⟩
    · cases h
  | dead => simp [appendTo] at h
  | map es => simp [appendTo] at h
  | siter a b => simp [appendTo] at h
end
end Go.TA

/-! ## Ops19 -/
namespace Go.TA
section
variable {P : Program} {Γ : Ground} {c : Cx} {s : St} {ρ : Operand → Value} {o : Oper}

theorem does_append (hl : s.l = c.l) (hg : s.g = c.g) (hH : RelH Γ c) (hρ : RelA c s ρ) {z : Bool} {k sz bytes : Nat} {x y : LOpd} (hok : ok_append P z k sz bytes x y o.op = true) {C : Calls'} {av : AV} {s' : St} (h : evalOp C s (.append z k sz bytes x y) = some (av, s')) :
    Does P ρ o c.w (Ans Γ c s'.l s'.g av) := by
  cases ho : o.op <;> rw [ho] at hok <;> try (simp [ok_append] at hok; done)
  rename_i cl
  obtain ⟨cal, args, argTypes⟩ := cl
  cases cal <;> try (simp [ok_append] at hok; done)
  rename_i bi
  cases bi <;> try (simp [ok_append] at hok; done)
  simp only [ok_append, Bool.and_eq_true] at hok
  obtain ⟨h1, h2⟩ := hok
  obtain ⟨hlen, hr⟩ := opds_rel hρ h2
  obtain ⟨args⟩ := args
  obtain ⟨argTypes⟩ := argTypes
  match args, hlen with
  | [p, q], _ =>
    have r1 := hr 0 (by simp) (by simp)
    have r2 := hr 1 (by simp) (by simp)
    simp only [List.getElem_cons_zero, List.getElem_cons_succ] at r1 r2
    split at h1
    rotate_left
    · cases h1
    rename_i t u heq
    simp only at heq
    subst heq
    split at h1
    rotate_left
    · cases h1
    rename_i e hu
    simp only [Bool.and_eq_true, beq_iff_eq, bne_iff_ne, ne_eq] at h1
    obtain ⟨⟨⟨⟨g1, g2⟩, g3⟩, g4⟩, g5⟩ := h1
    obtain ⟨i, hi, hsz⟩ := Option.map_eq_some_iff.1 g1
    obtain ⟨i', hi', hby⟩ := Option.map_eq_some_iff.1 g2
    rw [hi] at hi'
    cases hi'
    split at g4
    rotate_left
    · cases g4
    rename_i vs hz
    unfold tzero at hz
    rw [hi, Option.bind_some] at hz
    obtain ⟨zv, hzv, rfl⟩ := Option.map_eq_some_iff.1 hz
    have hzs : zv.cells.size = sz := by simpa using g4
    have hk : SrcK P u := by
      split at g5
      · rename_i e' hk; exact .inl ⟨e', hk⟩
      · rename_i hk; exact .inr hk
      · cases g5
    have key : ∀ (z : Bool) (c1 : Cx) (s1 : St) (k1 n : Nat) (ob : AObj), s1.l = c1.l → s1.g = c1.g → c1.w = c.w → Evolve c c1 → RelH Γ c1 → c1.obj z k1 = some ob → RelV c1 (.own z k1 n) (ρ p) → appendTo s1 z k1 n sz bytes ob (s.arg y) = some (av, s') → Does P ρ o c.w (Ans Γ c s'.l s'.g av) := by
      intro z c1 s1 k1 n ob hl1 hg1 hw1 hE1 hH1 hob hv ha
      obtain ⟨xs, ys, ob', a1, a2, a3, a4, a5, a6, a7, a8, a9, a10, a11, a12, rfl, rfl⟩ := appendTo_rel ha (hH1.objs z k1 ob hob)
      obtain ⟨news, b1, b2⟩ := news_rel a1 (by omega) hk (hE1.relV r2)
      obtain ⟨v', w', m', d1, d2, d3, d4⟩ := append_rel (ty := o.type) hH1 hob a4 a5 a8 a9 a6 a7 a2 a3 a10 hv hu hi hzv hsz hby hzs b1 b2 a11 a12
      rw [hw1] at d1
      refine Does.value (v := v') (w' := w') (by simp [execOp, ho, resolve, invoke, builtin, d1]) ⟨_, put_l hl1, put_g hg1, rfl, hE1.trans d2, d3, d4⟩
    simp only [evalOp] at h
    split at h
    · rename_i z' k' n hx
      rw [hx] at r1
      obtain ⟨ob, hob, h⟩ := bk_eq h
      rw [obj_eq hl hg] at hob
      exact key z' c s k' n ob hl hg rfl (Evolve.refl c) hH hob r1 h
    · rename_i hx
      rw [hx] at r1
      obtain ⟨⟨k', s1⟩, hn, h⟩ := bk_eq h
      have hnil : ρ p = .slice none 0 0 := by
        generalize ρ p = v at r1
        cases r1
        rfl
      obtain ⟨n1, n2, n3, hE, hH', hr⟩ := new_nil hl hg hH hn
      rw [← hnil] at hr
      obtain ⟨hf, _⟩ := newObj_cx hl hg hn none c.w
      exact key z _ s1 k' 0 (.pcells sz []) n1.symm n2.symm rfl hE hH' (by rw [Cx.obj_add hf, if_pos ⟨rfl, rfl⟩]) hr h
    · cases h
end
end Go.TA

/-! ## Ops20 -/
namespace Go.TA
section
variable {P : Program} {Γ : Ground} {c : Cx} {s : St} {ρ : Operand → Value} {o : Oper}

theorem RowsRel.drop {sz : Nat} {xs : List (List AV)} {a : List Value} (h : RowsRel c sz xs a) (m : Nat) : RowsRel c sz (xs.drop m) (a.drop (m * sz)) := by
  refine ⟨fun i hi => by rw [List.getElem_drop]; exact h.1 _ _, ?_, fun i j hi hj => ?_⟩
  · rw [List.length_drop, List.length_drop, Nat.sub_mul]
    have := h.2.1
    omega
  · rw [List.getElem_drop] at hj
    obtain ⟨v, v1, v2, v3⟩ := h.2.2 (m + i) j (by rw [List.length_drop] at hi; omega) hj
    refine ⟨v, ?_, v2, ?_⟩
    · rw [List.getElem?_drop, ← v1]
      congr 1
      rw [Nat.add_mul]
      omega
    · simp only [List.getElem_drop]
      exact v3
theorem does_copy (hl : s.l = c.l) (hg : s.g = c.g) (hH : RelH Γ c) (hρ : RelA c s ρ) {sz : Nat} {x y : LOpd} (hok : ok_copy P sz x y o.op = true) {C : Calls'} {av : AV} {s' : St} (h : evalOp C s (.copy sz x y) = some (av, s')) :
    Does P ρ o c.w (Ans Γ c s'.l s'.g av) := by
  cases ho : o.op <;> rw [ho] at hok <;> try (simp [ok_copy] at hok; done)
  rename_i cl
  obtain ⟨cal, args, argTypes⟩ := cl
  cases cal <;> try (simp [ok_copy] at hok; done)
  rename_i bi
  cases bi <;> try (simp [ok_copy] at hok; done)
  simp only [ok_copy, Bool.and_eq_true] at hok
  obtain ⟨h1, h2⟩ := hok
  obtain ⟨hlen, hr⟩ := opds_rel hρ h2
  obtain ⟨args⟩ := args
  obtain ⟨argTypes⟩ := argTypes
  match args, hlen with
  | [p, q], _ =>
    have r1 := hr 0 (by simp) (by simp)
    have r2 := hr 1 (by simp) (by simp)
    simp only [List.getElem_cons_zero, List.getElem_cons_succ] at r1 r2
    split at h1
    rotate_left
    · cases h1
    rename_i t u heq
    simp only at heq
    subst heq
    split at h1
    rotate_left
    · cases h1
    rename_i e e' hu hu'
    simp only [Bool.and_eq_true, beq_iff_eq, bne_iff_ne, ne_eq] at h1
    obtain ⟨g1, g2⟩ := h1
    simp only [evalOp] at h
    split at h
    rotate_left
    · cases h
    rename_i z k n ys hx hy
    rw [hx] at r1
    rw [hy] at r2
    obtain ⟨ob, hob, h⟩ := bk_eq h
    rw [obj_eq hl hg] at hob
    split at h
    rotate_left
    · cases h
    rename_i b xs
    split at h
    rotate_left
    · cases h
    rename_i hc
    obtain ⟨e1, e2, c3⟩ := hc
    simp only [Option.some.injEq, Prod.mk.injEq] at h
    obtain ⟨rfl, rfl⟩ := h
    subst e1
    subst e2
    have hys := all_len c3
    generalize hm : min ys.length xs.length = m
    have hm1 : m ≤ ys.length := by omega
    have hm2 : m ≤ xs.length := by omega
    obtain ⟨A2, cap2, hv2, q1, q2, q3⟩ := relP_list (relV_p r2)
    obtain ⟨A, cap, hv1, hrow⟩ := row_now r1 hob rfl
    have hlx : (ys.take m ++ xs.drop m).length = xs.length := by simp; omega
    have hne : c.obj z k ≠ none := by rw [hob]; simp
    -- the cells that are copied
    have hnews : ∃ news : List Value, (Builtin.firstCells b m (ρ q)).run P c.w = .ok news.toArray c.w ∧ news.length = m * b ∧ RowsRel c b (lift (ys.take m)) news ∧ ∀ u ∈ news, u.oneCell' = true := by
      rw [hv2]
      by_cases h0 : m = 0
      · subst h0
        refine ⟨[], ?_, by simp, ⟨by simp [lift], by simp [lift], fun i j hi => by simp [lift] at hi⟩, by simp⟩
        cases A2 with
        | none => exact run_firstCells_none c.w b 0 _ _
        | some a => exact run_firstCells_some c.w b 0 a _ _ [] (by simp) (by simp)
      · obtain ⟨bb, off, sz', f, rfl, d1, d2, d3, d4, d5, d6⟩ := q3 (by omega)
        have e1 : sz' = b := by rw [← d3 0 (by omega), hys 0 (by omega)]
        subst e1
        have hs := src_rows (P := P) (u := t) (m := m) (cp := cap2) (.inl ⟨e, hu⟩) (by omega) (fun i j hi hj => d4 i j (by omega) hj) d5
        refine ⟨laid m sz' f, ?_, hs.newsLen, ⟨fun i hi => ?_, by simp [laid, lift]; exact Nat.mul_le_mul_right _ (by omega), fun i j hi hj => ?_⟩, hs.one⟩
        · have hc := hs.cells
          simpa [Builtin.firstCells] using hc
        · simp only [lift, List.getElem_map, List.length_map, List.getElem_take]
          exact d3 _ _
        · have hi' : i < m := by simp [lift] at hi; omega
          have hj' : j < (ys[i]).length := by simpa [lift] using hj
          refine ⟨f i j, laid_get hi' (by rw [d3 i (by omega)] at hj'; exact hj'), d5 i j, ?_⟩
          simp only [lift, List.getElem_map, List.getElem_take]
          exact .p _ _ (d6 i j (by omega) hj')
    obtain ⟨news, f1, f2, f3, f4⟩ := hnews
    have hmin : (min ys.length xs.length : Nat) = m := hm
    rcases hrow with ⟨w0, w1, rfl, rfl⟩ | ⟨bb, cs, e'', w1, rfl, w3, w4, w5, w6⟩
    · have hm0 : m = 0 := by omega
      subst hm0
      obtain ⟨hE, hH'⟩ := hH.set (.pcells b (ys.take 0 ++ xs.drop 0)) none (w' := c.w) hob (Nat.le_refl _) rfl rfl rfl (fun _ _ _ => rfl) (fun b hb => by cases hb) (fun m' hm2 => by
        simp only [AObj.cnt, hlx] at hm2
        exact ⟨m', hm2, Nat.le_refl _, rfl, fun _ => ⟨⟨w0.symm, fun b cs e h => by rw [w0] at h; cases h⟩, rfl⟩⟩) (fun hE => by
        have : xs = [] := List.eq_nil_of_length_eq_zero w1
        subst this
        simp only [RelObj]
        refine ⟨by simp [lift], .inl ⟨by simp [Cx.set], by simp [lift]⟩⟩)
      refine Does.value (v := .int .i64 (0 : Nat)) (w' := c.w) ?_ ⟨_, put_l hl, put_g hg, rfl, hE, hH', rInt _ _⟩
      rw [w1] at hv1 hm
      simp [execOp, ho, resolve, invoke, builtin, Builtin.copy_, run_underlying hu, hv1, hv2, Builtin.lenOf, tsize_run g1, goInt]
      rw [hv2] at f1
      simp [f1]
    · have hR := hH.objs z k _ hob
      simp only [RelObj, w1] at hR
      obtain ⟨cs2, e2, hh, hrows⟩ := relRow_rows hR
      rw [w5] at hh
      cases hh
      have hfit : 0 + 0 + news.length ≤ cs.size := by
        rw [f2, w6]
        simp only [Nat.zero_add]
        exact Nat.mul_le_mul_right _ (by omega)
      have hst := run_storeCells_at P bb 0 e'' news 0 cs c.w w5 hfit f4
      simp only [Nat.add_zero, Nat.zero_add, List.take_zero, List.nil_append] at hst hfit
      have hrr : RowsRel c b (lift (ys.take m ++ xs.drop m)) (news ++ cs.toList.drop news.length) := by
        have hd := hrows.drop m
        have e1 : (lift xs).drop m = lift (xs.drop m) := by simp [lift]
        have e2 : lift (ys.take m ++ xs.drop m) = lift (ys.take m) ++ lift (xs.drop m) := by simp [lift]
        rw [e1] at hd
        rw [e2, f2]
        have e3 : (lift (ys.take m)).length = m := by simp [lift]; omega
        exact f3.append (by rw [f2, e3]) hd
      obtain ⟨hE, hH'⟩ := write_rows (xs' := lift (ys.take m ++ xs.drop m)) (bs := b) (ob' := .pcells b (ys.take m ++ xs.drop m)) (cs' := (news ++ cs.toList.drop news.length).toArray) hH hob w1 w5 (by simp; omega) (by simp only [AObj.cnt, hlx]) (by simp [AObj.cnt]) rfl rfl (fun c'' h => h) (by simpa using hrr)
      refine Does.value (v := .int .i64 (m : Nat)) (w' := c.w.setRow bb (news ++ cs.toList.drop news.length).toArray) ?_ ⟨_, put_l hl, put_g hg, rfl, hE, hH', rInt _ _⟩
      rw [hv2] at f1
      have hm' : Nat.min ys.length xs.length = m := hm
      simp [execOp, ho, resolve, invoke, builtin, Builtin.copy_, run_underlying hu, hv1, hv2, Builtin.lenOf, tsize_run g1, goInt, hm', f1, hst]
end
end Go.TA

/-! ## Ops21 -/
namespace Go.TA
section
variable {P : Program} {Γ : Ground} {c : Cx} {s : St} {ρ : Operand → Value} {o : Oper}

theorem sameNow_rel {w : World} {N : Nat → Prop} {kk : Nat} {t : TypeId} {d : TypeDesc} {a k : PV} {va vk : Value} {b : Bool} (hk : kindT P t kk = true) (hu : P.underlying t = some d) (h : scalarEqK kk a k = some b) (ha : RelP w N a va) (hkey : RelP w N k vk) : Instr.sameNow d vk va = some b := by
  unfold kindT at hk
  rw [hu] at hk
  unfold scalarEqK at h
  split at h
  · simp only [Option.some.injEq] at h
    subst h
    have e1 := relP_bool ha
    have e2 := relP_bool hkey
    subst e1
    subst e2
    cases d <;> simp at hk
    simp [Instr.sameNow, Bool.beq_comm]
  · rename_i k1 x1 k2 x2
    split at h
    rotate_left
    · cases h
    rename_i e
    subst e
    simp only [Option.some.injEq] at h
    subst h
    have e1 := relP_int ha
    have e2 := relP_int hkey
    subst e1
    subst e2
    cases d <;> simp at hk
    simp [Instr.sameNow, BEq.comm]
  · rename_i x1 x2
    simp only [Option.some.injEq] at h
    subst h
    have e1 := relP_str ha
    have e2 := relP_str hkey
    subst e1
    subst e2
    cases d <;> simp at hk
    simp only [Instr.sameNow, Option.some.injEq]
    show (x2.toArray == x1.toArray) = (x1 == x2)
    rw [Bool.eq_iff_iff]
    simp
    exact eq_comm
  · cases h
/-- The place of a key. -/
def midx (kk : Nat) : List (PV × AV) → PV → Option Nat
  | [], _ => none
  | (a, _) :: l, k => if scalarEqK kk a k = some true then some 0 else (midx kk l k).map (· + 1)
theorem mlk_idx (kk : Nat) (k : PV) : ∀ es : List (PV × AV), mlk kk es k = ((midx kk es k).bind fun i => es[i]?).map (·.2)
  | [] => rfl
  | (a, v) :: l => by
    simp only [mlk, midx]
    split
    · rfl
    · rw [mlk_idx kk k l]
      cases midx kk l k <;> simp
theorem mput_idx (kk : Nat) (k : PV) (x : AV) : ∀ es : List (PV × AV), mput kk es k x = match midx kk es k with
    | some i => es.set i (k, x)
    | none => es ++ [(k, x)]
  | [] => rfl
  | (a, v) :: l => by
    simp only [mput, midx]
    split
    · rfl
    · rw [mput_idx kk k x l]
      cases midx kk l k <;> simp
theorem mdel_idx (kk : Nat) (k : PV) : ∀ es : List (PV × AV), mdel kk es k = match midx kk es k with
    | some i => es.eraseIdx i
    | none => es
  | [] => rfl
  | (a, v) :: l => by
    simp only [mdel, midx]
    split
    · rfl
    · rw [mdel_idx kk k l]
      cases midx kk l k <;> simp
/-- The entries that the map holds. -/
def EntRel (c : Cx) (es : List (PV × AV)) (es' : List MapEntry) : Prop := es'.length = es.length ∧ ∀ i (h : i < es.length) (h' : i < es'.length), isKey (es[i]).1 = true ∧ RelP c.w c.N (es[i]).1 (es'[i]).key ∧ RelV c (es[i]).2 (es'[i]).val
theorem findNow_rel {kk : Nat} {t : TypeId} {d : TypeDesc} {k : PV} {vk : Value} (hk : kindT P t kk = true) (hu : P.underlying t = some d) (hkey : RelP c.w c.N k vk) : ∀ {es : List (PV × AV)} {es' : List MapEntry} (j : Nat), EntRel c es es' → (es.all fun e => (scalarEqK kk e.1 k).isSome) = true →
    Instr.findNow d vk es' j = some ((midx kk es k).bind fun i => (es'[i]?).map fun e => (i + j, e.val)) ∧ ∀ i, midx kk es k = some i → i < es.length ∧ ∃ h : i < es.length, scalarEqK kk (es[i]).1 k = some true
  | [], [], j, _, _ => ⟨rfl, fun i h => by simp [midx] at h⟩
  | [], _ :: _, _, h, _ => by have := h.1; simp at this
  | _ :: _, [], _, h, _ => by have := h.1; simp at this
  | (a, v) :: l, e :: r, j, h, hall => by
    simp only [List.all_cons, Bool.and_eq_true] at hall
    obtain ⟨b, hb⟩ := Option.isSome_iff_exists.1 hall.1
    have h0 := h.2 0 (by simp) (by simp)
    simp only [List.getElem_cons_zero] at h0
    have hs := sameNow_rel hk hu hb h0.2.1 hkey
    have hrest : EntRel c l r := ⟨by have := h.1; simpa using this, fun i x y => h.2 (i + 1) (by simpa using x) (by simpa using y)⟩
    obtain ⟨r1, r2⟩ := findNow_rel hk hu hkey (j + 1) hrest hall.2
    cases b
    · refine ⟨?_, fun i hi => ?_⟩
      · simp only [Instr.findNow, hs, midx, hb, r1]
        simp
        cases midx kk l k with
        | none => simp
        | some i =>
          simp
          cases r[i]? with
          | none => simp
          | some e => simp; omega
      · simp only [midx, hb] at hi
        simp at hi
        obtain ⟨i', hi', rfl⟩ := hi
        obtain ⟨q1, q2, q3⟩ := r2 i' hi'
        exact ⟨by simpa using q1, by simpa using q1, by simpa using q3⟩
    · refine ⟨?_, fun i hi => ?_⟩
      · simp [Instr.findNow, hs, midx, hb]
      · simp [midx, hb] at hi
        subst hi
        exact ⟨by simp, by simp, by simpa using hb⟩
theorem checkKey_run' {kk : Nat} {t : TypeId} (hk : kindT P t kk = true) (e : Bool) (v : Value) (w : World) (n : Nat) : (Instr.checkKey e (n + 1) t v).run P w = .ok () w := by
  unfold kindT at hk
  split at hk
  all_goals first
    | (cases hk; done)
    | (rename_i hu; simp [Instr.checkKey, run_underlying hu])
theorem checkKey_run {kk : Nat} {t : TypeId} (hk : kindT P t kk = true) (e : Bool) (v : Value) (w : World) : (Instr.checkKey e 10000 t v).run P w = .ok () w := checkKey_run' hk e v w 9999
end
end Go.TA

/-! ## Ops22 -/
namespace Go.TA
section
variable {P : Program} {Γ : Ground} {c : Cx} {s : St} {ρ : Operand → Value} {o : Oper}

theorem findKey_rel {kk : Nat} {t : TypeId} {k : PV} {vk : Value} (hk : kindT P t kk = true) (hkey : RelP c.w c.N k vk) {es : List (PV × AV)} {es' : List MapEntry} (h : EntRel c es es') (hall : (es.all fun e => (scalarEqK kk e.1 k).isSome) = true) :
    (Instr.findKey t vk es').run P c.w = .ok ((midx kk es k).bind fun i => (es'[i]?).map fun e => (i, e.val)) c.w ∧ ∀ i, midx kk es k = some i → ∃ h : i < es.length, scalarEqK kk (es[i]).1 k = some true := by
  have hu : ∃ d, P.underlying t = some d := by
    unfold kindT at hk
    split at hk
    · rename_i h; exact ⟨_, h⟩
    · rename_i h; exact ⟨_, h⟩
    · rename_i h; exact ⟨_, h⟩
    · cases hk
  obtain ⟨d, hu⟩ := hu
  obtain ⟨r1, r2⟩ := findNow_rel hk hu hkey 0 h hall
  refine ⟨?_, fun i hi => (r2 i hi).2⟩
  simp only [Nat.add_zero] at r1
  simp [Instr.findKey, run_underlying hu, r1]
theorem does_lookup (hl : s.l = c.l) (hg : s.g = c.g) (hH : RelH Γ c) (hρ : RelA c s ρ) {kk : Nat} {zero : PV} {ok : Bool} {x y : LOpd} (hok : ok_lookup P kk zero ok x y o.op = true) {C : Calls'} {av : AV} {s' : St} (h : evalOp C s (.lookup kk zero ok x y) = some (av, s')) :
    Does P ρ o c.w (Ans Γ c s'.l s'.g av) := by
  cases ho : o.op <;> rw [ho] at hok <;> simp [ok_lookup] at hok
  rename_i t x' y' ok'
  obtain ⟨⟨⟨rfl, h1⟩, h2⟩, h3⟩ := hok
  have r1 := hρ _ _ h2
  have r2 := hρ _ _ h3
  split at h1
  rotate_left
  · cases h1
  rename_i kt et hu
  simp only [Bool.and_eq_true] at h1
  obtain ⟨g1, g2⟩ := h1
  split at g2
  rotate_left
  · cases g2
  rename_i zv hz
  have hzr : (zeroValue et).run P c.w = .ok zv c.w := by
    obtain ⟨i, hi, hz⟩ := Option.bind_eq_some_iff.1 hz
    simp [zeroValue, typeInfo, hi, hz]
  simp only [evalOp] at h
  split at h
  rotate_left
  · cases h
  rename_i k hy
  rw [hy] at r2
  have hkey := relV_p r2
  obtain ⟨es, hes, h⟩ := bk_eq h
  split at h
  rotate_left
  · cases h
  rename_i hall
  simp only [Option.some.injEq, Prod.mk.injEq] at h
  obtain ⟨rfl, rfl⟩ := h
  have hmap : ∃ es' : List MapEntry, EntRel c es es' ∧ ((ρ x' = .map none ∧ es' = []) ∨ ∃ b clock, ρ x' = .map (some b) ∧ c.w.heap[b]? = some (.map es'.toArray clock)) := by
    split at hes
    · rename_i hx
      simp only [Option.some.injEq] at hes
      subst hes
      rw [hx] at r1
      exact ⟨[], ⟨rfl, fun i h => by simp at h⟩, .inl ⟨relP_nilm (relV_p r1), rfl⟩⟩
    · rename_i z k' hx
      rw [hx] at r1
      split at hes
      rotate_left
      · cases hes
      rename_i es1 hob
      simp only [Option.some.injEq] at hes
      subst hes
      rw [obj_eq hl hg] at hob
      obtain ⟨r, hv0, ob, hob', H⟩ := relV_map r1
      rw [hob] at hob'; cases hob'
      obtain ⟨_, b, hb, hv⟩ := H 0 rfl
      rw [hv] at hv0
      obtain ⟨b', es', clock, q1, q2, q3, q4⟩ := hH.objs z k' _ hob
      rw [hb] at q1; cases q1
      exact ⟨es'.toList, ⟨by simpa using q3, fun i x y => by simpa using q4 i x (by simpa using y)⟩, .inr ⟨b, clock, hv0, by simpa using q2⟩⟩
    · cases hes
  obtain ⟨es', he, hm⟩ := hmap
  obtain ⟨f1, f2⟩ := findKey_rel (P := P) g1 hkey he hall
  have hck := fun e => checkKey_run (P := P) g1 e (ρ y') c.w
  -- what is found
  have hval : ∃ v b, ((midx kk es k).bind fun i => (es'[i]?).map fun e => (i, e.val)).elim (zv, false) (fun r => (r.2, true)) = (v, b) ∧ RelV c ((mlk kk es k).getD (.p zero)) v ∧ (mlk kk es k).isSome = b := by
    rw [mlk_idx]
    cases hi : midx kk es k with
    | none => exact ⟨zv, false, rfl, .p _ _ (const1_rel g2), rfl⟩
    | some i =>
      obtain ⟨hlt, _⟩ := f2 i hi
      have hlt' : i < es'.length := by rw [he.1]; exact hlt
      refine ⟨(es'[i]).val, true, by simp [hlt'], ?_, by simp [hlt]⟩
      simp [hlt]
      exact (he.2 i hlt hlt').2.2
  obtain ⟨v, b, e1, e2, e3⟩ := hval
  have hrun : (execOp ρ o).run P c.w = .ok (.value (if ok = true then .tuple #[v, .bool b] else v)) c.w := by
    rcases hm with ⟨hx, rfl⟩ | ⟨bb, clock, hx, hh⟩
    · cases hf : (midx kk es k).bind fun i => (([] : List MapEntry)[i]?).map fun e => (i, e.val) with
      | none =>
        rw [hf] at f1 e1
        simp at e1
        obtain ⟨rfl, rfl⟩ := e1
        simp [execOp, ho, Instr.lookup, run_underlying hu, hx, hck, f1, hzr]
      | some r =>
        rw [hf] at f1 e1
        simp at e1
        obtain ⟨rfl, rfl⟩ := e1
        simp [execOp, ho, Instr.lookup, run_underlying hu, hx, hck, f1]
    · cases hf : (midx kk es k).bind fun i => (es'[i]?).map fun e => (i, e.val) with
      | none =>
        rw [hf] at f1 e1
        simp at e1
        obtain ⟨rfl, rfl⟩ := e1
        simp [execOp, ho, Instr.lookup, run_underlying hu, hx, MapKept.run_getObj_map hh, hck, f1, hzr]
      | some r =>
        rw [hf] at f1 e1
        simp at e1
        obtain ⟨rfl, rfl⟩ := e1
        simp [execOp, ho, Instr.lookup, run_underlying hu, hx, MapKept.run_getObj_map hh, hck, f1]
  refine Does.value hrun ?_
  rw [hl, hg]
  refine ans_same hH ?_
  cases ok
  · simpa using e2
  · simp only [if_true]
    rw [e3]
    refine .tuple [_, _] [v, .bool b] rfl (fun j h h' => ?_)
    match j, h with
    | 0, _ => exact e2
    | 1, _ => exact rBool _
end
end Go.TA

/-! ## Ops23 -/
namespace Go.TA
section
variable {P : Program} {Γ : Ground} {c : Cx} {s : St} {ρ : Operand → Value} {o : Oper}

theorem write_map (hH : RelH Γ c) {z : Bool} {k b clock clock' : Nat} {es es2 : List (PV × AV)} {a : Array MapEntry} {es' : List MapEntry} (hob : c.obj z k = some (.map es)) (hb : c.μ z k = some b) (hh : c.w.heap[b]? = some (.map a clock)) (hr : EntRel c es2 es') :
    let w' := { c.w with heap := c.w.heap.setIfInBounds b (.map es'.toArray clock') }
    Evolve c (c.set z k (.map es2) (some b) w') ∧ RelH Γ (c.set z k (.map es2) (some b) w') := by
  intro w'
  have hlt : b < c.w.heap.size := (Array.getElem?_eq_some_iff.1 hh).1
  have hset : w'.heap[b]? = some (.map es'.toArray clock') := by simp [w', hlt]
  refine hH.set (.map es2) (some b) hob (by simp [w']) rfl rfl rfl (fun b' _ hne => ?_) (fun b' e' => ⟨.inl (by cases e'; exact hb), by simp [AObj.cnt]⟩) (fun m' hm' => ?_) (fun hE => ?_)
  · have : b ≠ b' := fun e => hne (by rw [hb, e])
    simp [w', Array.getElem?_setIfInBounds, this]
  · simp only [AObj.cnt, Option.some.injEq] at hm'
    subst hm'
    refine ⟨0, rfl, Nat.le_refl _, rfl, fun _ => ⟨⟨hb.symm, fun b' cs1 e1 h1 h2 => ?_⟩, rfl⟩⟩
    rw [hb] at h1
    cases h1
    rw [hh] at h2
    cases h2
  · have hμ : (c.set z k (.map es2) (some b) w').μ z k = some b := by simp [Cx.set]
    simp only [RelObj, hμ]
    refine ⟨b, es'.toArray, clock', rfl, hset, by simpa using hr.1, fun i h1 h2 => ?_⟩
    obtain ⟨x1, x2, x3⟩ := hr.2 i h1 (by simpa using h2)
    simp only [List.getElem_toArray]
    exact ⟨x1, hE.relP x2, hE.relV x3⟩
theorem map_now {z : Bool} {k : Nat} {es : List (PV × AV)} {v : Value} (hH : RelH Γ c) (hob : c.obj z k = some (.map es)) (r : RelV c (.map z k) v) : ∃ b a clock, v = .map (some b) ∧ c.μ z k = some b ∧ c.w.heap[b]? = some (.map a clock) ∧ EntRel c es a.toList := by
  obtain ⟨r, hv0, ob, hob', H⟩ := relV_map r
  rw [hob] at hob'; cases hob'
  obtain ⟨_, b, hb, hv⟩ := H 0 rfl
  obtain ⟨b', es', clock, q1, q2, q3, q4⟩ := hH.objs z k _ hob
  rw [hb] at q1; cases q1
  exact ⟨b, es', clock, hv0.trans hv, hb, q2, by simpa using q3, fun i x y => by simpa using q4 i x (by simpa using y)⟩
theorem key_is {kk : Nat} {a k : PV} {b : Bool} (h : scalarEqK kk a k = some b) : isKey k = true := by
  unfold scalarEqK at h
  split at h <;> first | rfl | cases h
theorem does_delete (hl : s.l = c.l) (hg : s.g = c.g) (hH : RelH Γ c) (hρ : RelA c s ρ) {kk : Nat} {x y : LOpd} (hok : ok_delete P kk x y o.op = true) {C : Calls'} {av : AV} {s' : St} (h : evalOp C s (.delete kk x y) = some (av, s')) :
    Does P ρ o c.w (Ans Γ c s'.l s'.g av) := by
  cases ho : o.op <;> rw [ho] at hok <;> try (simp [ok_delete] at hok; done)
  rename_i cl
  obtain ⟨cal, args, argTypes⟩ := cl
  cases cal <;> try (simp [ok_delete] at hok; done)
  rename_i bi
  cases bi <;> try (simp [ok_delete] at hok; done)
  simp only [ok_delete, Bool.and_eq_true] at hok
  obtain ⟨h1, h2⟩ := hok
  obtain ⟨hlen, hr⟩ := opds_rel hρ h2
  obtain ⟨args⟩ := args
  match args, hlen with
  | [p, q], _ =>
    have r1 := hr 0 (by simp) (by simp)
    have r2 := hr 1 (by simp) (by simp)
    simp only [List.getElem_cons_zero, List.getElem_cons_succ] at r1 r2
    split at h1
    rotate_left
    · cases h1
    rename_i t ht
    split at h1
    rotate_left
    · cases h1
    rename_i kt et hu
    simp only [evalOp] at h
    split at h
    rotate_left
    · cases h
    rename_i z k key hx hy
    split at h
    rotate_left
    · cases h
    rename_i es hob
    split at h
    rotate_left
    · cases h
    rename_i hall
    simp only [Option.some.injEq, Prod.mk.injEq] at h
    obtain ⟨rfl, rfl⟩ := h
    rw [hx] at r1
    rw [hy] at r2
    rw [obj_eq hl hg] at hob
    have hkey := relV_p r2
    obtain ⟨b, a, clock, hv, hb, hh, he⟩ := map_now hH hob r1
    obtain ⟨f1, f2⟩ := findKey_rel (P := P) h1 hkey he hall
    have hck := fun e => checkKey_run (P := P) h1 e (ρ q) c.w
    rw [mdel_idx]
    cases hi : midx kk es key with
    | none =>
      rw [hi] at f1
      simp only [Option.bind_none] at f1
      obtain ⟨hE, hH'⟩ := write_map (clock' := clock) hH hob hb hh he
      simp only at hE hH' ⊢
      refine Does.value (v := undef) (by simp [execOp, ho, resolve, invoke, builtin, Builtin.delete_, ht, run_underlying hu, hv, MapKept.run_getObj_map hh, hck, f1, MapKept.run_setObj_map _ hh]; exact ⟨rfl, rfl⟩) ⟨_, put_l hl, put_g hg, rfl, hE, hH', rUndef⟩
    | some i =>
      obtain ⟨hlt, _⟩ := f2 i hi
      have hlt' : i < a.toList.length := by rw [he.1]; exact hlt
      rw [hi] at f1
      simp only [Option.bind_some, List.getElem?_eq_getElem hlt', Option.map_some] at f1
      have he2 : EntRel c (es.eraseIdx i) (a.toList.eraseIdx i) := by
        refine ⟨by rw [List.length_eraseIdx, List.length_eraseIdx, he.1], fun j x y => ?_⟩
        rw [List.getElem_eraseIdx, List.getElem_eraseIdx]
        split
        · exact he.2 _ _ _
        · exact he.2 _ _ _
      obtain ⟨hE, hH'⟩ := write_map (clock' := clock) hH hob hb hh he2
      have hsz : i < a.size := by simpa using hlt'
      have e3 : (a.toList.eraseIdx i).toArray = a.eraseIdxIfInBounds i := by
        rw [Array.eraseIdxIfInBounds, dif_pos hsz]
        apply Array.ext'
        simp
      rw [e3] at hE hH'
      simp only at hE hH' ⊢
      refine Does.value (v := undef) (by simp [execOp, ho, resolve, invoke, builtin, Builtin.delete_, ht, run_underlying hu, hv, MapKept.run_getObj_map hh, hck, f1, MapKept.run_setObj_map _ hh]; exact ⟨rfl, rfl⟩) ⟨_, put_l hl, put_g hg, rfl, hE, hH', rUndef⟩
end
end Go.TA

/-! ## Ops24 -/
namespace Go.TA
section
variable {P : Program} {Γ : Ground} {c : Cx} {s : St} {ρ : Operand → Value} {o : Oper}

theorem sameBits_rel {w : World} {N : Nat → Prop} {kk : Nat} {a k : PV} {va vk : Value} (n : Nat) (h : scalarEqK kk a k = some true) (ha : RelP w N a va) (hk : RelP w N k vk) : Instr.sameBits n va vk = true := by
  unfold scalarEqK at h
  split at h
  · simp at h
    subst h
    rw [relP_bool ha, relP_bool hk]
    simp [Instr.sameBits]
  · split at h
    rotate_left
    · cases h
    rename_i e
    subst e
    simp at h
    subst h
    rw [relP_int ha, relP_int hk]
    simp [Instr.sameBits]
  · simp at h
    subst h
    rw [relP_str ha, relP_str hk]
    simp only [Instr.sameBits]
    show (_ == _) = true
    rename_i x1 x2 
    show (_ : List UInt8).toArray == (_ : List UInt8).toArray
    simp
  · cases h
theorem stays_run {w : World} {kk : Nat} {a k : PV} {va vk : Value} {N : Nat → Prop} (h : scalarEqK kk a k = some true) (ha : RelP w N a va) (hk : RelP w N k vk) (w' : World) : (Instr.keyThatStays va vk).run P w' = .ok vk w' := by
  unfold Instr.keyThatStays
  rw [if_pos (sameBits_rel _ h ha hk)]
  rfl
theorem mapUpdate_rel (hl : s.l = c.l) (hg : s.g = c.g) (hH : RelH Γ c) {kk : Nat} {t kt et : TypeId} {m key v : Value} {z : Bool} {k : Nat} {kp : PV} {av : AV} {es : List (PV × AV)} (hu : P.underlying t = some (.map kt et)) (hkt : kindT P kt kk = true) (hob : c.obj z k = some (.map es)) (hm : RelV c (.map z k) m)
    (hkey : RelP c.w c.N kp key) (hv : RelV c av v) (hall : (es.all fun e => (scalarEqK kk e.1 kp).isSome) = true) (hself : (scalarEqK kk kp kp).isSome = true) :
    ∃ b w', (Instr.mapUpdate t m key v).run P c.w = .ok () w' ∧ Evolve c (c.set z k (.map (mput kk es kp av)) (some b) w') ∧ RelH Γ (c.set z k (.map (mput kk es kp av)) (some b) w') := by
  obtain ⟨b, a, clock, rfl, hb, hh, he⟩ := map_now hH hob hm
  obtain ⟨f1, f2⟩ := findKey_rel (P := P) hkt hkey he hall
  have hck := fun e => checkKey_run (P := P) hkt e key c.w
  obtain ⟨bb, hbb⟩ := Option.isSome_iff_exists.1 hself
  have hik := key_is hbb
  rw [mput_idx]
  cases hi : midx kk es kp with
  | none =>
    rw [hi] at f1
    simp only [Option.bind_none] at f1
    have he2 : EntRel c (es ++ [(kp, av)]) (a.push { key, val := v, born := clock }).toList := by
      refine ⟨by simp; simpa using he.1, fun j x y => ?_⟩
      have hl' : a.toList.length = es.length := he.1
      by_cases e : j < es.length
      · have y' : j < a.toList.length := by omega
        have := he.2 j e y'
        simp only [Array.toList_push]
        rw [List.getElem_append_left e, List.getElem_append_left y']
        exact this
      · have ej : j = es.length := by simp at x; omega
        subst ej
        simp only [Array.toList_push]
        rw [List.getElem_append_right (Nat.le_refl _), List.getElem_append_right (by omega)]
        simp [hl']
        exact ⟨hik, hkey, hv⟩
    obtain ⟨hE, hH'⟩ := write_map (clock' := clock + 1) hH hob hb hh he2
    rw [Array.toArray_toList] at hE hH'
    exact ⟨b, _, by simp [Instr.mapUpdate, run_underlying hu, MapKept.run_getObj_map hh, hck, f1, MapKept.run_setObj_map _ hh], hE, hH'⟩
  | some i =>
    obtain ⟨hlt, hsame⟩ := f2 i hi
    have hlt' : i < a.toList.length := by rw [he.1]; exact hlt
    have hsz : i < a.size := by simpa using hlt'
    rw [hi] at f1
    simp only [Option.bind_some, List.getElem?_eq_getElem hlt', Option.map_some] at f1
    have hst := stays_run (P := P) hsame (he.2 i hlt hlt').2.1 hkey c.w
    have he2 : EntRel c (es.set i (kp, av)) (a.modify i fun e => { e with key, val := v }).toList := by
      refine ⟨by simp; simpa using he.1, fun j x y => ?_⟩
      have hl' : a.toList.length = es.length := he.1
      have x' : j < es.length := by simpa using x
      have y' : j < a.toList.length := by omega
      have := he.2 j x' y'
      rw [List.getElem_set]
      simp only [Array.getElem_toList, Array.getElem_modify]
      by_cases e : i = j
      · subst e
        simp
        exact ⟨hik, hkey, hv⟩
      · simp [e]
        simpa using this
    obtain ⟨hE, hH'⟩ := write_map (clock' := clock) hH hob hb hh he2
    rw [Array.toArray_toList] at hE hH'
    have hst2 : (Instr.keyThatStays (a[i]).key key).run P c.w = .ok key c.w := by simpa using hst
    exact ⟨b, _, by simp [Instr.mapUpdate, run_underlying hu, MapKept.run_getObj_map hh, hck, f1, hsz, hst2, MapKept.run_setObj_map _ hh], hE, hH'⟩
theorem does_mapUpdate (hl : s.l = c.l) (hg : s.g = c.g) (hH : RelH Γ c) (hρ : RelA c s ρ) {kk : Nat} {x y u : LOpd} (hok : ok_mapUpdate P kk x y u o.op = true) {C : Calls'} {av : AV} {s' : St} (h : evalOp C s (.mapUpdate kk x y u) = some (av, s')) :
    Does P ρ o c.w (Ans Γ c s'.l s'.g av) := by
  simp only [evalOp] at h
  split at h
  rotate_left
  · cases h
  rename_i z k key hx hy
  split at h
  rotate_left
  · cases h
  rename_i es hob
  split at h
  rotate_left
  · cases h
  rename_i hc
  obtain ⟨c1, c2, _⟩ := hc
  simp only [Option.some.injEq, Prod.mk.injEq] at h
  obtain ⟨rfl, rfl⟩ := h
  rw [obj_eq hl hg] at hob
  cases ho : o.op <;> rw [ho] at hok <;> simp [ok_mapUpdate] at hok
  all_goals
    obtain ⟨⟨⟨h1, h2⟩, h3⟩, h4⟩ := hok
    have r1 := hρ _ _ h2
    have r2 := hρ _ _ h3
    have r3 := hρ _ _ h4
    rw [hx] at r1
    rw [hy] at r2
    split at h1
    rotate_left
    · cases h1
    rename_i kt et hu
    obtain ⟨b, w', hrun, hE, hH'⟩ := mapUpdate_rel (P := P) hl hg hH hu h1 hob r1 (relV_p r2) r3 c1 c2
    exact Does.skip (w' := w') (by simp [execOp, ho, hrun]) ⟨_, put_l hl, put_g hg, rfl, hE, hH', rUndef⟩
end
end Go.TA

/-! ## View -/
namespace Go.TA
section
variable {P : Program} {Γ : Ground} {c : Cx} {s : St} {ρ : Operand → Value} {o : Oper}

theorem allM_get {α β : Type} {f : α → Option β} : ∀ {l : List α} {r : List β}, allM f l = some r → l.length = r.length ∧ ∀ i (h : i < l.length) (h' : i < r.length), f (l[i]) = some (r[i])
  | [], r, h => by simp [allM] at h; subst h; exact ⟨rfl, by simp⟩
  | a :: l, r, h => by
    simp only [allM] at h
    obtain ⟨b, hb, h⟩ := bk_eq h
    obtain ⟨q, hq, h⟩ := bk_eq h
    simp only [Option.some.injEq] at h
    subst h
    obtain ⟨x1, x2⟩ := allM_get hq
    refine ⟨by simp [x1], fun i h h' => ?_⟩
    cases i with
    | zero => exact hb
    | succ i => exact x2 i (by simpa using h) (by simpa using h')
abbrev Cx.NX (c : Cx) (b : Nat) : Prop := ¬ c.X b
theorem relP_NX {pv : PV} {v : Value} (h : RelP c.w c.N pv v) : RelP c.w c.NX pv v := h.mono fun b hb hlt => ⟨hb.1, hlt, rfl⟩
theorem row_NX (hH : RelH Γ c) {z : Bool} {k sz n : Nat} {ob : AObj} {xs : List (List AV)} {ps : List (List PV)} {v : Value} (hob : c.obj z k = some ob) (hcnt : ob.cnt = some n) (hn : xs.length = n) (hR : RelRow c (c.μ z k) sz xs) (hr : RelV c (.own z k n) v)
    (hl : xs.length = ps.length) (hel : ∀ i (h : i < xs.length) (h' : i < ps.length), (xs[i]).length = (ps[i]).length ∧ ∀ j (hj : j < (xs[i]).length) (hj' : j < (ps[i]).length) u, RelV c (xs[i][j]) u → RelP c.w c.NX (ps[i][j]) u) : RelP c.w c.NX (.list ps) v := by
  obtain ⟨A, cap, rfl, hrow⟩ := row_now hr hob hcnt
  rcases hrow with ⟨_, h0, rfl, rfl⟩ | ⟨b, cs, e, q1, rfl, q3, q4, q5, q6⟩
  · have : ps = [] := List.eq_nil_of_length_eq_zero (by omega)
    subst this
    rw [h0]
    exact .none none 0 (by simp [maxLen])
  · rw [q1] at hR
    have hlive := hH.live z k b q1
    obtain ⟨hl0, hR⟩ := hR
    rcases hR with ⟨hR, _⟩ | ⟨b', cs', e', hb', hh, hs, hv⟩
    · cases hR
    · cases hb'
      have hl1 : ∀ i (h : i < ps.length), (ps[i]).length = sz := fun i h => by rw [← (hel i (by omega) h).1]; exact hl0 i (by omega)
      have e1 : n = ps.length := by omega
      rw [e1]
      refine .list ps b 0 cap sz (fun i j => match cs'[i * sz + j]? with | some v => if v.oneCell' = true then v else .bool true | none => .bool true) hlive.2.2.1 hlive.1 (by omega) q4 hl1 (fun i j hi hj => ?_) (fun i j => ?_) (fun i j hi hj => ?_)
      · obtain ⟨v, v1, v2, v3⟩ := hv i j (by omega) (by rw [hl0 i (by omega)]; exact hj)
        simp only [v1, v2, if_true, Nat.zero_add]
        exact (cell_of_row c.w b _ cs' e' (0, 0) hh).trans v1
      · split
        · split
          · assumption
          · rfl
        · rfl
      · obtain ⟨v, v1, v2, v3⟩ := hv i j (by omega) (by rw [(hel i (by omega) hi).1]; exact hj)
        simp only [v1, v2, if_true]
        exact (hel i (by omega) hi).2 j _ hj v v3
theorem relV_p_of {pv : PV} {v : Value} (h : RelV c (.p pv) v) : RelP c.w c.NX pv v := relP_NX (relV_p h)
theorem view_p (d : Nat) (v pv : PV) (h : view s (d + 1) (.p v) = some pv) : v = pv := by simpa [view] using h
theorem view_rel (hl : s.l = c.l) (hg : s.g = c.g) (hH : RelH Γ c) : ∀ (d : Nat) {av : AV} {pv : PV} {v : Value}, view s d av = some pv → RelV c av v → RelP c.w c.NX pv v
  | 0, av, pv, v, h, _ => by simp [view] at h
  | d + 1, av, pv, v, h, hr => by
    have ih := fun {av pv v} => view_rel hl hg hH d (av := av) (pv := pv) (v := v)
    have two : ∀ {xs : List (List AV)} {ps : List (List PV)}, allM (allM (view s d)) xs = some ps → xs.length = ps.length ∧ ∀ i (h : i < xs.length) (h' : i < ps.length), (xs[i]).length = (ps[i]).length ∧ ∀ j (hj : j < (xs[i]).length) (hj' : j < (ps[i]).length) u, RelV c (xs[i][j]) u → RelP c.w c.NX (ps[i][j]) u := fun hx => by
      obtain ⟨a1, a2⟩ := allM_get hx
      refine ⟨a1, fun i h h' => ?_⟩
      obtain ⟨b1, b2⟩ := allM_get (a2 i h h')
      exact ⟨b1, fun j hj hj' u hu => ih (b2 j hj hj') hu⟩
    cases av with
    | p v' => rw [← view_p d v' pv h]; exact relV_p_of hr
    | nils => simp [view] at h; subst h; cases hr; exact .none none 0 (by simp [maxLen])
    | agg cs =>
      simp only [view, Option.map_eq_some_iff] at h
      obtain ⟨ps, hps, rfl⟩ := h
      obtain ⟨a1, a2⟩ := allM_get hps
      obtain ⟨vs, rfl, b1, b2, b3⟩ := relV_agg hr
      exact .agg ps vs (by omega) b2 (fun j h h' => ih (a2 j (by omega) h) (b3 j (by omega) h'))
    | lit xs =>
      simp only [view, Option.map_eq_some_iff] at h
      obtain ⟨ps, hps, rfl⟩ := h
      obtain ⟨a1, a2⟩ := two hps
      cases hr with
      | lit _ b cap sz f h1 h2 h3 h4 h5 h6 h7 h8 =>
        rw [a1]
        refine .list ps b 0 cap sz f h1.1 h2 (by omega) h4 (fun i hi => by rw [← (a2 i (by omega) hi).1]; exact h5 i (by omega)) (fun i j hi hj => by rw [Nat.zero_add]; exact h6 i j (by omega) hj) h7 (fun i j hi hj => ?_)
        exact (a2 i (by omega) hi).2 j (by rw [(a2 i (by omega) hi).1]; exact hj) hj _ (h8 i j (by omega) (by rw [(a2 i (by omega) hi).1]; exact hj))
    | own z k n =>
      simp only [view] at h
      split at h
      · rename_i b xs hob
        split at h
        rotate_left
        · cases h
        rename_i hn
        simp only [Option.some.injEq] at h
        subst h
        rw [obj_eq hl hg] at hob
        have hR := hH.objs z k _ hob
        refine row_NX hH hob (by simp [AObj.cnt, hn]) (xs := lift xs) (by simpa [lift] using hn) hR hr (by simp [lift]) (fun i h h' => ⟨by simp [lift], fun j hj hj' u hu => ?_⟩)
        simp only [lift, List.getElem_map] at hu
        exact relV_p_of hu
      · rename_i b xs hob
        split at h
        rotate_left
        · cases h
        rename_i hn
        simp only [Option.map_eq_some_iff] at h
        obtain ⟨ps, hps, rfl⟩ := h
        obtain ⟨a1, a2⟩ := two hps
        rw [obj_eq hl hg] at hob
        have hR := hH.objs z k _ hob
        exact row_NX hH hob (by simp [AObj.cnt, hn]) (xs := xs) hn hR hr a1 a2
      · cases h
    | _ => simp [view] at h
end
end Go.TA

/-! ## Call -/
namespace Go.TA

def noLocalObj : AObj → Bool
  | .cells _ xs => xs.all noLocals
  | .map es => es.all fun e => noLocal e.2
  | _ => true
def gOk (g : List AObj) : Prop := ∀ o ∈ g, noLocalObj o = true

section
variable {P : Program} {Γ : Ground} {c : Cx} {s : St} {ρ : Operand → Value} {o : Oper}

/-- What a callee sees: the caller's own blocks are foreign to it. -/
def Cx.down (c : Cx) : Cx := ⟨fun b => c.X b ∨ ∃ k, c.μ false k = some b, fun z k => if z then c.μ true k else none, [], c.g, c.w⟩
theorem down_own (b : Nat) : c.down.Own b ↔ ∃ k, c.μ true k = some b := by
  constructor
  · rintro ⟨z, k, h⟩
    cases z
    · simp [Cx.down] at h
    · exact ⟨k, by simpa [Cx.down] using h⟩
  · rintro ⟨k, h⟩
    exact ⟨true, k, by simpa [Cx.down] using h⟩
theorem down_N (b : Nat) : c.down.N b ↔ c.N b := by
  unfold Cx.N
  rw [down_own]
  simp only [Cx.down, Cx.Own]
  constructor
  · rintro ⟨h1, h2⟩
    refine ⟨fun h => h1 (.inl h), ?_⟩
    rintro ⟨z, k, h⟩
    cases z
    · exact h1 (.inr ⟨k, h⟩)
    · exact h2 ⟨k, h⟩
  · rintro ⟨h1, h2⟩
    refine ⟨?_, fun ⟨k, h⟩ => h2 ⟨true, k, h⟩⟩
    rintro (h | ⟨k, h⟩)
    · exact h1 h
    · exact h2 ⟨false, k, h⟩
theorem down_obj (k : Nat) : c.down.obj true k = c.obj true k := by simp [Cx.obj, Cx.down]
theorem relP_down {pv : PV} {v : Value} (h : RelP c.w c.N pv v) : RelP c.down.w c.down.N pv v := h.mono fun b hb hlt => ⟨(down_N b).2 hb, hlt, rfl⟩
theorem noLocals_get : ∀ {l : List AV}, noLocals l = true → ∀ j (h : j < l.length), noLocal (l[j]) = true
  | [], _, j, h => by simp at h
  | a :: l, hn, j, h => by
    simp only [noLocals, Bool.and_eq_true] at hn
    cases j with
    | zero => exact hn.1
    | succ j => exact noLocals_get hn.2 j (by simpa using h)
theorem relV_down {av : AV} {v : Value} (h : RelV c av v) : noLocal av = true → RelV c.down av v := by
  induction h with
  | bot v => intro _; exact .bot v
  | p pv v hp => intro _; exact .p _ _ (relP_down hp)
  | rop cs b off f hN hb hc h1 hr => intro _; exact .rop cs b off f ((down_N b).2 hN) hb hc h1 (fun j hj => relP_down (hr j hj))
  | ptr z k sz n i j a hp =>
    intro hn
    simp only [noLocal] at hn
    subst hn
    obtain ⟨ob, ho, H⟩ := hp
    exact .ptr _ _ _ _ _ _ _ ⟨ob, by rw [down_obj]; exact ho, fun m hm => ⟨(H m hm).1, fun e => by obtain ⟨b, hb, ha⟩ := (H m hm).2 e; exact ⟨b, by simpa [Cx.down] using hb, ha⟩⟩⟩
  | own z k n A cap hp =>
    intro hn
    simp only [noLocal] at hn
    subst hn
    obtain ⟨ob, ho, H⟩ := hp
    refine .own _ _ _ _ _ ⟨ob, by rw [down_obj]; exact ho, fun m hm => ⟨(H m hm).1, fun e => ?_⟩⟩
    rcases (H m hm).2 e with ⟨x1, x2⟩ | ⟨b, cs, e, x1, x2⟩
    · exact .inl ⟨by simpa [Cx.down] using x1, x2⟩
    · exact .inr ⟨b, cs, e, by simpa [Cx.down] using x1, x2⟩
  | nils => intro _; exact .nils
  | lit xs b cap sz f hN hb hc hm hl hcell h1 hr ih => intro hn; simp [noLocal] at hn
  | map z k r hp =>
    intro hn
    simp only [noLocal] at hn
    subst hn
    obtain ⟨ob, ho, H⟩ := hp
    exact .map _ _ _ ⟨ob, by rw [down_obj]; exact ho, fun m hm => ⟨(H m hm).1, by obtain ⟨b, hb, ha⟩ := (H m hm).2; exact ⟨b, by simpa [Cx.down] using hb, ha⟩⟩⟩
  | func f cs vs hl hr ih =>
    intro hn
    simp only [noLocal] at hn
    exact .func f cs vs hl (fun j h h' => ih j h h' (noLocals_get hn j h))
  | agg cs vs hl h1 hr ih =>
    intro hn
    simp only [noLocal] at hn
    exact .agg cs vs hl h1 (fun j h h' => ih j h h' (noLocals_get hn j h))
  | tuple cs vs hl hr ih =>
    intro hn
    simp only [noLocal] at hn
    exact .tuple cs vs hl (fun j h h' => ih j h h' (noLocals_get hn j h))
theorem noLocals_p : ∀ p : List PV, noLocals (p.map .p) = true
  | [] => rfl
  | a :: l => by simp [noLocals, noLocal, noLocals_p l]
theorem relObj_down {k : Nat} {ob : AObj} (h : RelObj c true k ob) (hn : noLocalObj ob = true) : RelObj c.down true k ob := by
  have hμ : c.down.μ true k = c.μ true k := by simp [Cx.down]
  have row : ∀ (m : Option Nat) (sz : Nat) (xs : List (List AV)), (∀ r ∈ xs, noLocals r = true) → RelRow c m sz xs → RelRow c.down m sz xs := fun m sz xs hx hr => by
    obtain ⟨h0, h1⟩ := hr
    refine ⟨h0, h1.imp id ?_⟩
    rintro ⟨b, cs, e, hb, hh, hs, hv⟩
    refine ⟨b, cs, e, hb, hh, hs, fun i j hi hj => ?_⟩
    obtain ⟨v, v1, v2, v3⟩ := hv i j hi hj
    exact ⟨v, v1, v2, relV_down v3 (noLocals_get (hx _ (List.getElem_mem hi)) j hj)⟩
  cases ob with
  | dead => trivial
  | siter a b => trivial
  | pcells sz xs =>
    simp only [RelObj, hμ] at h ⊢
    refine row _ _ _ (fun r hr => ?_) h
    simp only [lift, List.mem_map] at hr
    obtain ⟨p, _, rfl⟩ := hr
    exact noLocals_p p
  | cells sz xs =>
    simp only [RelObj, hμ] at h ⊢
    exact row _ _ _ (fun r hr => by simp only [noLocalObj, List.all_eq_true] at hn; exact hn r hr) h
  | map es =>
    simp only [RelObj, hμ] at h ⊢
    obtain ⟨b, es', clock, hb, hh, hs, hv⟩ := h
    refine ⟨b, es', clock, hb, hh, hs, fun i h1 h2 => ?_⟩
    obtain ⟨x1, x2, x3⟩ := hv i h1 h2
    simp only [noLocalObj, List.all_eq_true] at hn
    exact ⟨x1, relP_down x2, relV_down x3 (hn _ (List.getElem_mem h1))⟩
theorem down_obj_false (k : Nat) : c.down.obj false k = none := by simp [Cx.obj, Cx.down, lk]
theorem relH_down (hH : RelH Γ c) (hg : gOk c.g) : RelH Γ c.down where
  ground := hH.ground
  objs z k ob hob := by
    cases z
    · rw [down_obj_false] at hob; cases hob
    · rw [down_obj] at hob
      refine relObj_down (hH.objs true k ob hob) (hg ob ?_)
      simp only [Cx.obj, if_true] at hob
      exact List.mem_of_getElem? hob
  inj z k z' k' b h1 h2 := by
    cases z
    · simp [Cx.down] at h1
    · cases z'
      · simp [Cx.down] at h2
      · simp only [Cx.down, if_true] at h1 h2
        exact hH.inj _ _ _ _ _ h1 h2
  live z k b h := by
    cases z
    · simp [Cx.down] at h
    · simp only [Cx.down, if_true] at h
      obtain ⟨x1, x2, x3, ob, x4, x5⟩ := hH.live _ _ _ h
      refine ⟨x1, x2, ?_, ob, by rw [down_obj]; exact x4, x5⟩
      rintro (hx | ⟨k', hk'⟩)
      · exact x3 hx
      · have := (hH.inj _ _ _ _ _ h hk').1
        cases this
  xlt b hb := by
    rcases hb with hb | ⟨k, hk⟩
    · exact hH.xlt b hb
    · exact hH.lt b ⟨false, k, hk⟩
/-- Behind a call. -/
def Cx.up (c d : Cx) : Cx := ⟨c.X, fun z k => if z then d.μ true k else c.μ false k, c.l, d.g, d.w⟩
theorem down_size : c.down.w = c.w := rfl
section
variable {d : Cx}
theorem up_Own (b : Nat) : (c.up d).Own b ↔ (∃ k, d.μ true k = some b) ∨ ∃ k, c.μ false k = some b := by
  constructor
  · rintro ⟨z, k, h⟩
    cases z
    · exact .inr ⟨k, by simpa [Cx.up] using h⟩
    · exact .inl ⟨k, by simpa [Cx.up] using h⟩
  · rintro (⟨k, h⟩ | ⟨k, h⟩)
    · exact ⟨true, k, by simpa [Cx.up] using h⟩
    · exact ⟨false, k, by simpa [Cx.up] using h⟩
/-- No block of the callee's is a local one. -/
theorem noμ_local (hl : d.l = []) (hd : RelH Γ d) (k : Nat) : d.μ false k = none := by
  cases h : d.μ false k with
  | none => rfl
  | some b =>
    obtain ⟨_, _, _, ob, ho, _⟩ := hd.live _ _ _ h
    simp [Cx.obj, hl, lk] at ho
theorem up_N (hl : d.l = []) (hd : RelH Γ d) (hE : Evolve c.down d) (b : Nat) : (c.up d).N b ↔ d.N b := by
  unfold Cx.N
  rw [up_Own, hE.X]
  simp only [Cx.down, Cx.up]
  constructor
  · rintro ⟨h1, h2⟩
    refine ⟨?_, ?_⟩
    · rintro (h | h)
      · exact h1 h
      · exact h2 (.inr h)
    · rintro ⟨z, k, h⟩
      cases z
      · rw [noμ_local hl hd] at h; cases h
      · exact h2 (.inl ⟨k, h⟩)
  · rintro ⟨h1, h2⟩
    refine ⟨fun h => h1 (.inl h), ?_⟩
    rintro (⟨k, h⟩ | h)
    · exact h2 ⟨true, k, h⟩
    · exact h1 (.inr h)
theorem up_obj_true (k : Nat) : (c.up d).obj true k = d.obj true k := by simp [Cx.obj, Cx.up]
theorem up_obj_false (k : Nat) : (c.up d).obj false k = c.obj false k := by simp [Cx.obj, Cx.up]
theorem nolocal_obj (hl : d.l = []) (k : Nat) : d.obj false k = none := by simp [Cx.obj, hl, lk]
theorem relP_up (hl : d.l = []) (hd : RelH Γ d) (hE : Evolve c.down d) {pv : PV} {v : Value} (h : RelP d.w d.N pv v) : RelP (c.up d).w (c.up d).N pv v := h.mono fun b hb hlt => ⟨(up_N hl hd hE b).2 hb, hlt, rfl⟩
theorem relV_up (hl : d.l = []) (hd : RelH Γ d) (hE : Evolve c.down d) {av : AV} {v : Value} (h : RelV d av v) : RelV (c.up d) av v := by
  induction h with
  | bot v => exact .bot v
  | p pv v hp => exact .p _ _ (relP_up hl hd hE hp)
  | rop cs b off f hN hb hc h1 hr => exact .rop cs b off f ((up_N hl hd hE b).2 hN) hb hc h1 (fun j hj => relP_up hl hd hE (hr j hj))
  | ptr z k sz n i j a hp =>
    obtain ⟨ob, ho, H⟩ := hp
    cases z
    · rw [nolocal_obj hl] at ho; cases ho
    · exact .ptr _ _ _ _ _ _ _ ⟨ob, by rw [up_obj_true]; exact ho, fun m hm => ⟨(H m hm).1, fun e => by obtain ⟨b, hb, ha⟩ := (H m hm).2 e; exact ⟨b, by simpa [Cx.up] using hb, ha⟩⟩⟩
  | own z k n A cap hp =>
    obtain ⟨ob, ho, H⟩ := hp
    cases z
    · rw [nolocal_obj hl] at ho; cases ho
    · refine .own _ _ _ _ _ ⟨ob, by rw [up_obj_true]; exact ho, fun m hm => ⟨(H m hm).1, fun e => ?_⟩⟩
      rcases (H m hm).2 e with ⟨x1, x2⟩ | ⟨b, cs, e, x1, x2⟩
      · exact .inl ⟨by simpa [Cx.up] using x1, x2⟩
      · exact .inr ⟨b, cs, e, by simpa [Cx.up] using x1, x2⟩
  | nils => exact .nils
  | lit xs b cap sz f hN hb hc hm hl' hcell h1 hr ih => exact .lit xs b cap sz f ((up_N hl hd hE b).2 hN) hb hc hm hl' hcell h1 ih
  | map z k r hp =>
    obtain ⟨ob, ho, H⟩ := hp
    cases z
    · rw [nolocal_obj hl] at ho; cases ho
    · exact .map _ _ _ ⟨ob, by rw [up_obj_true]; exact ho, fun m hm => ⟨(H m hm).1, by obtain ⟨b, hb, ha⟩ := (H m hm).2; exact ⟨b, by simpa [Cx.up] using hb, ha⟩⟩⟩
  | func f cs vs hl' hr ih => exact .func f cs vs hl' ih
  | agg cs vs hl' h1 hr ih => exact .agg cs vs hl' h1 ih
  | tuple cs vs hl' hr ih => exact .tuple cs vs hl' ih
theorem evolve_up (hH : RelH Γ c) (hl : d.l = []) (hd : RelH Γ d) (hE : Evolve c.down d) : Evolve c (c.up d) where
  X := rfl
  size := hE.size
  tape := hE.tape
  os := hE.os
  output := hE.output
  keep b h hn := hE.keep b h (fun ho => hn (by obtain ⟨k, hk⟩ := (down_own b).1 ho; exact ⟨true, k, hk⟩))
  fresh b ho := by
    rcases (up_Own b).1 ho with ⟨k, hk⟩ | ⟨k, hk⟩
    · rcases hE.fresh b ⟨true, k, hk⟩ with h | h
      · obtain ⟨k', hk'⟩ := (down_own b).1 h
        exact .inl ⟨true, k', hk'⟩
      · exact .inr h
    · exact .inl ⟨false, k, hk⟩
  objs z k ob hob := by
    cases z
    · refine ⟨ob, by rw [up_obj_false]; exact hob, fun m hm => ⟨m, hm, Nat.le_refl _, rfl, fun _ => ⟨by simp [Cx.up], rfl, fun b cs e h1 h2 => ⟨cs, ?_, rfl⟩⟩⟩⟩
      refine (hE.keep b (hH.lt b ⟨false, k, h1⟩) (fun ho => ?_)).trans h2
      obtain ⟨k', hk'⟩ := (down_own b).1 ho
      have := (hH.inj _ _ _ _ _ h1 hk').1
      cases this
    · obtain ⟨ob', ho', H⟩ := hE.objs true k ob (by rw [down_obj]; exact hob)
      refine ⟨ob', by rw [up_obj_true]; exact ho', fun m' hm' => ?_⟩
      obtain ⟨m, a1, a2, a3, a4⟩ := H m' hm'
      refine ⟨m, a1, a2, a3, fun e => ?_⟩
      obtain ⟨x1, x2, x3⟩ := a4 e
      exact ⟨by simpa [Cx.up, Cx.down] using x1, x2, fun b cs e h1 h2 => x3 b cs e (by simpa [Cx.down] using h1) h2⟩
theorem relObj_up (hl : d.l = []) (hd : RelH Γ d) (hE : Evolve c.down d) {k : Nat} {ob : AObj} (h : RelObj d true k ob) : RelObj (c.up d) true k ob := by
  have hμ : (c.up d).μ true k = d.μ true k := by simp [Cx.up]
  have row : ∀ (m : Option Nat) (sz : Nat) (xs : List (List AV)), RelRow d m sz xs → RelRow (c.up d) m sz xs := fun m sz xs hr => by
    obtain ⟨h0, h1⟩ := hr
    refine ⟨h0, h1.imp id ?_⟩
    rintro ⟨b, cs, e, hb, hh, hs, hv⟩
    refine ⟨b, cs, e, hb, hh, hs, fun i j hi hj => ?_⟩
    obtain ⟨v, v1, v2, v3⟩ := hv i j hi hj
    exact ⟨v, v1, v2, relV_up hl hd hE v3⟩
  cases ob with
  | dead => trivial
  | siter a b => trivial
  | pcells sz xs => simp only [RelObj, hμ] at h ⊢; exact row _ _ _ h
  | cells sz xs => simp only [RelObj, hμ] at h ⊢; exact row _ _ _ h
  | map es =>
    simp only [RelObj, hμ] at h ⊢
    obtain ⟨b, es', clock, hb, hh, hs, hv⟩ := h
    refine ⟨b, es', clock, hb, hh, hs, fun i h1 h2 => ?_⟩
    obtain ⟨x1, x2, x3⟩ := hv i h1 h2
    exact ⟨x1, relP_up hl hd hE x2, relV_up hl hd hE x3⟩
theorem relH_up (hH : RelH Γ c) (hl : d.l = []) (hd : RelH Γ d) (hE : Evolve c.down d) : RelH Γ (c.up d) where
  ground := hd.ground
  objs z k ob hob := by
    cases z
    · rw [up_obj_false] at hob
      refine (hH.objs false k ob hob).mono (evolve_up hH hl hd hE) (by simp [Cx.up]) (fun b hb => ?_)
      refine hE.keep b (hH.lt b ⟨false, k, hb⟩) (fun ho => ?_)
      obtain ⟨k', hk'⟩ := (down_own b).1 ho
      have := (hH.inj _ _ _ _ _ hb hk').1
      cases this
    · rw [up_obj_true] at hob
      exact relObj_up hl hd hE (hd.objs true k ob hob)
  inj z k z' k' b h1 h2 := by
    have mixed : ∀ k k', d.μ true k = some b → c.μ false k' = some b → False := fun k k' a1 a2 => by
      obtain ⟨_, _, x3, _⟩ := hd.live _ _ _ a1
      rw [hE.X] at x3
      exact x3 (.inr ⟨k', a2⟩)
    cases z <;> cases z' <;> simp only [Cx.up, if_true, Bool.false_eq_true, if_false] at h1 h2
    · exact hH.inj _ _ _ _ _ h1 h2
    · exact (mixed _ _ h2 h1).elim
    · exact (mixed _ _ h1 h2).elim
    · exact hd.inj _ _ _ _ _ h1 h2
  live z k b h := by
    cases z
    · simp only [Cx.up, Bool.false_eq_true, if_false] at h
      obtain ⟨x1, x2, x3, ob, x4, x5⟩ := hH.live _ _ _ h
      exact ⟨Nat.lt_of_lt_of_le x1 hE.size, x2, x3, ob, by rw [up_obj_false]; exact x4, x5⟩
    · simp only [Cx.up, if_true] at h
      obtain ⟨x1, x2, x3, ob, x4, x5⟩ := hd.live _ _ _ h
      exact ⟨x1, x2, fun hx => x3 (by rw [hE.X]; exact .inl hx), ob, by rw [up_obj_true]; exact x4, x5⟩
  xlt b hb := Nat.lt_of_lt_of_le (hH.xlt b hb) hE.size
end
end
end Go.TA

/-! ## Call2 -/
namespace Go.TA

/-- What a table of functions is said to do. -/
def SoundC (P : Program) (Γ : Ground) (C : Calls') : Prop :=
  ∀ f args g r g', C f args g = some (r, g') → noLocals args = true → gOk g →
    calleeOk P f = true ∧ gOk g' ∧ noLocal r = true ∧
    ∀ (c : Cx) (vs : List Value), c.l = [] → c.g = g → RelH Γ c → args.length = vs.length → (∀ j (h : j < args.length) (h' : j < vs.length), RelV c (args[j]) (vs[j])) →
      Calls P f vs.toArray c.w (fun e w' => ∃ v, e = .returned v ∧ Ans Γ c [] g' r v w')

section
variable {P : Program} {Γ : Ground} {c : Cx} {s : St} {ρ : Operand → Value} {o : Oper}

theorem view_emp {fr : List (Nat × AV)} : ∀ (d : Nat) {av : AV} {pv : PV} {v : Value}, view ⟨fr, [], []⟩ d av = some pv → RelV c av v → RelP c.w c.N pv v
  | 0, av, pv, v, h, _ => by simp [view] at h
  | d + 1, av, pv, v, h, hr => by
    have ih := fun {av pv v} => view_emp (fr := fr) d (av := av) (pv := pv) (v := v)
    have two : ∀ {xs : List (List AV)} {ps : List (List PV)}, allM (allM (view ⟨fr, [], []⟩ d)) xs = some ps → xs.length = ps.length ∧ ∀ i (h : i < xs.length) (h' : i < ps.length), (xs[i]).length = (ps[i]).length ∧ ∀ j (hj : j < (xs[i]).length) (hj' : j < (ps[i]).length) u, RelV c (xs[i][j]) u → RelP c.w c.N (ps[i][j]) u := fun hx => by
      obtain ⟨a1, a2⟩ := allM_get hx
      refine ⟨a1, fun i h h' => ?_⟩
      obtain ⟨b1, b2⟩ := allM_get (a2 i h h')
      exact ⟨b1, fun j hj hj' u hu => ih (b2 j hj hj') hu⟩
    cases av with
    | p v' => rw [← view_p d v' pv h]; exact relV_p hr
    | nils => simp [view] at h; subst h; cases hr; exact .none none 0 (by simp [maxLen])
    | agg cs =>
      simp only [view, Option.map_eq_some_iff] at h
      obtain ⟨ps, hps, rfl⟩ := h
      obtain ⟨a1, a2⟩ := allM_get hps
      obtain ⟨vs, rfl, b1, b2, b3⟩ := relV_agg hr
      exact .agg ps vs (by omega) b2 (fun j h h' => ih (a2 j (by omega) h) (b3 j (by omega) h'))
    | lit xs =>
      simp only [view, Option.map_eq_some_iff] at h
      obtain ⟨ps, hps, rfl⟩ := h
      obtain ⟨a1, a2⟩ := two hps
      cases hr with
      | lit _ b cap sz f h1 h2 h3 h4 h5 h6 h7 h8 =>
        rw [a1]
        refine .list ps b 0 cap sz f h1 h2 (by omega) h4 (fun i hi => by rw [← (a2 i (by omega) hi).1]; exact h5 i (by omega)) (fun i j hi hj => by rw [Nat.zero_add]; exact h6 i j (by omega) hj) h7 (fun i j hi hj => ?_)
        exact (a2 i (by omega) hi).2 j (by rw [(a2 i (by omega) hi).1]; exact hj) hj _ (h8 i j (by omega) (by rw [(a2 i (by omega) hi).1]; exact hj))
    | own z k n => cases z <;> simp [view, St.obj, lk] at h
    | _ => simp [view] at h

theorem frz_rel (hl : s.l = c.l) (hg : s.g = c.g) (hH : RelH Γ c) {av : AV} {p : PV} {s1 : St} {v : Value} (h : frz s av = some (p, s1)) (hr : RelV c av v) :
    ∃ c1 : Cx, c1.w = c.w ∧ c1.l = s1.l ∧ c1.g = s1.g ∧ s1.fr = s.fr ∧ Evolve c c1 ∧ RelH Γ c1 ∧ RelP c1.w c1.N p v := by
  unfold frz at h
  split at h
  · rename_i z k n
    split at h
    rotate_left
    · cases h
    rename_i b xs hob
    split at h
    rotate_left
    · cases h
    rename_i hn
    simp only [Option.some.injEq, Prod.mk.injEq] at h
    obtain ⟨rfl, rfl⟩ := h
    rw [obj_eq hl hg] at hob
    subst hn
    obtain ⟨a1, a2, a3⟩ := freeze_rel hH hob hr
    refine ⟨c.set z k .dead none c.w, rfl, put_l hl, put_g hg, ?_, a1, a2, a3⟩
    unfold St.putObj; cases z <;> rfl
  · obtain ⟨v', hv', h⟩ := Option.map_eq_some_iff.1 h
    simp only [Prod.mk.injEq] at h
    obtain ⟨rfl, rfl⟩ := h
    exact ⟨c, rfl, hl.symm, hg.symm, rfl, Evolve.refl c, hH, view_emp 8 hv' hr⟩

/-- An argument: as it is, or only looked at. -/
def ArgRel (c : Cx) (b : Bool) (a : AV) (v : Value) : Prop := RelV c a v ∨ (b = true ∧ ∃ p, a = .p p ∧ RelP c.w c.NX p v)
theorem nilSlice_rho (hk : ∀ v, ρ (.const v) = v) {y : Operand} (h : isNilSlice y = true) : ρ y = .slice none 0 0 := by
  unfold isNilSlice at h
  split at h
  · exact hk _
  · cases h
theorem hand_rel (hk : ∀ v, ρ (.const v) = v) : ∀ {l : List (LOpd × How)} {r : List Operand} {s : St} {c : Cx}, s.l = c.l → s.g = c.g → RelH Γ c → RelA c s ρ → argsOk l r = true → ∀ {as : List AV} {s' : St} {b : Bool}, hand s l = some (as, s', b) →
    ∃ c1 : Cx, c1.w = c.w ∧ c1.l = s'.l ∧ c1.g = s'.g ∧ s'.fr = s.fr ∧ Evolve c c1 ∧ RelH Γ c1 ∧ as.length = r.length ∧ ∀ j (h : j < as.length) (h' : j < r.length), ArgRel c1 b (as[j]) (ρ (r[j]))
  | [], r, s, c, hl, hg, hH, hρ, hok, as, s', b, h => by
    cases r with
    | cons _ _ => simp [argsOk] at hok
    | nil =>
      simp only [hand, Option.some.injEq, Prod.mk.injEq] at h
      obtain ⟨rfl, rfl, rfl⟩ := h
      exact ⟨c, rfl, hl.symm, hg.symm, rfl, Evolve.refl c, hH, rfl, by simp⟩
  | (x, how) :: l, [], s, c, hl, hg, hH, hρ, hok, as, s', b, h => by cases how <;> simp [argsOk] at hok
  | (x, how) :: l, y :: r, s, c, hl, hg, hH, hρ, hok, as, s', b, h => by
    have hop : opdOk x y = true ∧ argsOk l r = true := by
      cases how <;> simp [argsOk] at hok <;> simp [hok]
    obtain ⟨hx, hrest⟩ := hop
    have hv := hρ x y hx
    -- what is left, from another context that has the same memory
    have next : ∀ {s1 : St} {c0 : Cx} {as' : List AV} {s' : St} {b : Bool}, c0.w = c.w → s1.l = c0.l → s1.g = c0.g → s1.fr = s.fr → Evolve c c0 → RelH Γ c0 → hand s1 l = some (as', s', b) →
        ∃ c1 : Cx, c1.w = c.w ∧ c1.l = s'.l ∧ c1.g = s'.g ∧ s'.fr = s.fr ∧ Evolve c0 c1 ∧ RelH Γ c1 ∧ as'.length = r.length ∧ ∀ j (h : j < as'.length) (h' : j < r.length), ArgRel c1 b (as'[j]) (ρ (r[j])) := by
      intro s1 c0 as' s' b hw hl1 hg1 hf1 hE hH1 hh
      have hρ1 : RelA c0 s1 ρ := fun x y hxy => by
        have : s1.arg x = s.arg x := by cases x <;> simp [St.arg, St.get, hf1]
        rw [this]
        exact hE.relV (hρ x y hxy)
      obtain ⟨c1, q1, q2, q3, q4, q5, q6, q7, q8⟩ := hand_rel hk hl1 hg1 hH1 hρ1 hrest hh
      exact ⟨c1, q1.trans hw, q2, q3, q4.trans hf1, q5, q6, q7, q8⟩
    have cons : ∀ {c1 : Cx} {a : AV} {as' : List AV} {b : Bool}, ArgRel c1 b a (ρ y) → as'.length = r.length → (∀ j (h : j < as'.length) (h' : j < r.length), ArgRel c1 b (as'[j]) (ρ (r[j]))) →
        (a :: as').length = (y :: r).length ∧ ∀ j (h : j < (a :: as').length) (h' : j < (y :: r).length), ArgRel c1 b ((a :: as')[j]) (ρ ((y :: r)[j])) := by
      intro c1 a as' b h0 hlen hall
      refine ⟨by simp [hlen], fun j h h' => ?_⟩
      cases j with
      | zero => exact h0
      | succ j => exact hall j (by simpa using h) (by simpa using h')
    cases how with
    | as =>
      simp only [hand] at h
      obtain ⟨⟨as', s1, b1⟩, hh, h⟩ := bk_eq h
      simp only [Option.some.injEq, Prod.mk.injEq] at h
      obtain ⟨rfl, rfl, rfl⟩ := h
      obtain ⟨c1, q1, q2, q3, q4, q5, q6, q7, q8⟩ := next rfl hl hg rfl (Evolve.refl c) hH hh
      obtain ⟨z1, z2⟩ := cons (.inl (q5.relV hv)) q7 q8
      exact ⟨c1, q1, q2, q3, q4, q5, q6, z1, z2⟩
    | freeze =>
      simp only [hand] at h
      obtain ⟨⟨p, s0⟩, hf, h⟩ := bk_eq h
      obtain ⟨⟨as', s1, b1⟩, hh, h⟩ := bk_eq h
      simp only [Option.some.injEq, Prod.mk.injEq] at h
      obtain ⟨rfl, rfl, rfl⟩ := h
      obtain ⟨c0, p1, p2, p3, p4, p5, p6, p7⟩ := frz_rel hl hg hH hf hv
      obtain ⟨c1, q1, q2, q3, q4, q5, q6, q7, q8⟩ := next p1 p2.symm p3.symm p4 p5 p6 hh
      obtain ⟨z1, z2⟩ := cons (.inl (.p _ _ (q5.relP p7))) q7 q8
      exact ⟨c1, q1, q2, q3, q4, p5.trans q5, q6, z1, z2⟩
    | look =>
      simp only [hand] at h
      obtain ⟨p, hp, h⟩ := bk_eq h
      obtain ⟨⟨as', s1, b1⟩, hh, h⟩ := bk_eq h
      simp only [Option.some.injEq, Prod.mk.injEq] at h
      obtain ⟨rfl, rfl, rfl⟩ := h
      obtain ⟨c1, q1, q2, q3, q4, q5, q6, q7, q8⟩ := next rfl hl hg rfl (Evolve.refl c) hH hh
      have hp' := view_rel hl hg hH 8 hp hv
      have hp1 : RelP c1.w c1.NX p (ρ y) := hp'.mono fun b hb hlt => ⟨by simp only [Cx.NX, q5.X]; exact hb, Nat.lt_of_lt_of_le hlt q5.size, by rw [q1]⟩
      obtain ⟨z1, z2⟩ := cons (b := true) (.inr ⟨rfl, p, rfl, hp1⟩) q7 (fun j h h' => (q8 j h h').imp id (fun ⟨_, x⟩ => ⟨rfl, x⟩))
      exact ⟨c1, q1, q2, q3, q4, q5, q6, z1, z2⟩
    | fresh sz =>
      have hnil : isNilSlice y = true := by simp [argsOk] at hok; exact hok.1.1
      have hy := nilSlice_rho hk hnil
      simp only [hand] at h
      split at h
      rotate_left
      · cases h
      obtain ⟨⟨as', s1, b1⟩, hh, h⟩ := bk_eq h
      simp only [Option.some.injEq, Prod.mk.injEq] at h
      obtain ⟨rfl, rfl, rfl⟩ := h
      obtain ⟨n1, n2, n3, n4, n5, n6⟩ := new_nil (z := true) (k := 0) (sz := sz) hl hg hH rfl
      obtain ⟨c1, q1, q2, q3, q4, q5, q6, q7, q8⟩ := next (s1 := ⟨s.fr, s.l, s.g ++ [.pcells sz []]⟩) (c0 := c.add true s.g.length (.pcells sz []) none c.w) rfl n1.symm n2.symm rfl n4 n5 hh
      obtain ⟨z1, z2⟩ := cons (.inl (q5.relV (by rw [hy]; exact n6))) q7 q8
      exact ⟨c1, q1, q2, q3, q4, n4.trans q5, q6, z1, z2⟩

/-- A call of a function that is known. -/
theorem run_call {f : Nat} (h : calleeOk P f = true) (w : World) (args : Array Value) (caps : Array Value) : (invoke (.fn (.func f) caps) args).run P w = .ok (.enter f (args ++ caps)) w := by
  unfold calleeOk at h
  split at h
  · rename_i fn hf
    simp only [Bool.and_eq_true, bne_iff_ne, ne_eq] at h
    have hb : fn.body ≠ none := by intro hbb; rw [hbb] at h; simp at h
    simp [invoke, callFunc, Sem.run_bind, run_program, hf, h.1, hb]
  · cases h
theorem func_rho (hρ : RelA c s ρ) (f : Nat) : ρ (.func f) = .func (.func f) #[] #[] := by
  have h := hρ (.f f) (.func f) (by simp [opdOk])
  simp only [St.arg] at h
  generalize ρ (.func f) = v at h
  cases h with
  | func _ _ vs hl _ =>
    have : vs = [] := List.eq_nil_of_length_eq_zero hl.symm
    subst this; rfl
theorem ans_up (hH : RelH Γ c) {c1 : Cx} (hE1 : Evolve c c1) (hH1 : RelH Γ c1) {g' : List AObj} {r : AV} {v : Value} {w' : World} (h : Ans Γ c1.down [] g' r v w') : Ans Γ c c1.l g' r v w' := by
  obtain ⟨d, hl, hg, hw, hE, hd, hr⟩ := h
  exact ⟨c1.up d, rfl, hg, hw, hE1.trans (evolve_up hH1 hl hd hE), relH_up hH1 hl hd hE, relV_up hl hd hE hr⟩
theorem argRel_false {a : AV} {v : Value} (h : ArgRel c false a v) : RelV c a v := h.resolve_right (by simp)
theorem noLocals_append : ∀ {a b : List AV}, noLocals (a ++ b) = (noLocals a && noLocals b)
  | [], b => by simp [noLocals]
  | x :: a, b => by simp [noLocals, noLocals_append (a := a), Bool.and_assoc]
theorem does_call {C : Calls'} (hC : SoundC P Γ C) (hl : s.l = c.l) (hg : s.g = c.g) (hH : RelH Γ c) (hρ : RhoA c s ρ) {f : Nat} {l : List (LOpd × How)} (hok : ok_call f l o.op = true) {av : AV} {s' : St} (h : evalOp C s (.call f l) = some (av, s'))
    (hgo' : ∀ {as : List AV} {s1 : St} {b : Bool}, hand s l = some (as, s1, b) → gOk s1.g) : Does P ρ o c.w (Ans Γ c s'.l s'.g av) := by
  cases ho : o.op <;> rw [ho] at hok <;> try (simp [ok_call] at hok; done)
  rename_i cl
  obtain ⟨callee, args, argTypes⟩ := cl
  cases callee <;> try (simp [ok_call] at hok; done)
  rename_i fo
  cases fo <;> try (simp [ok_call] at hok; done)
  rename_i f'
  simp only [ok_call, Bool.and_eq_true, beq_iff_eq] at hok
  obtain ⟨rfl, hargs⟩ := hok
  simp only [evalOp] at h
  obtain ⟨⟨as, s1, b⟩, hh, h⟩ := bk_eq h
  simp only at h
  split at h
  rotate_left
  · cases h
  rename_i hcond
  obtain ⟨rfl, hno⟩ := hcond
  obtain ⟨⟨r, g'⟩, hc, h⟩ := bk_eq h
  simp only [Option.some.injEq, Prod.mk.injEq] at h
  obtain ⟨rfl, rfl⟩ := h
  obtain ⟨c1, q1, q2, q3, q4, q5, q6, q7, q8⟩ := hand_rel hρ.2 hl hg hH hρ.1 hargs hh
  obtain ⟨z1, z2, z3, z4⟩ := hC _ _ _ _ _ hc hno (hgo' hh)
  have hfn := func_rho hρ.1 f
  have hrun : (execOp ρ o).run P c.w = .ok (.enter f (args.map ρ)) c.w := by
    have := run_call z1 c.w (args.map ρ) #[]
    simp only [Array.append_empty] at this
    simp [execOp, ho, resolve, hfn, Deferred.ofValue, this]
  unfold Does
  rw [hrun]
  have e : args.map ρ = (args.toList.map ρ).toArray := by rw [← Array.toList_map]
  simp only
  rw [e, ← q1]
  have := z4 c1.down (args.toList.map ρ) rfl q3 (relH_down q6 (by rw [q3]; exact hgo' hh)) (by simp [q7]) (fun j h h' => by
    refine relV_down ?_ (noLocals_get hno j h)
    have := argRel_false (q8 j h (by simpa using h'))
    simpa using this)
  refine Calls.mono this (fun e w' he => ?_)
  obtain ⟨v, rfl, ha⟩ := he
  refine ⟨v, rfl, ?_⟩
  have := ans_up hH q5 q6 ha
  rw [q2] at this
  exact this
theorem does_callv {C : Calls'} (hC : SoundC P Γ C) (hl : s.l = c.l) (hg : s.g = c.g) (hH : RelH Γ c) (hρ : RhoA c s ρ) {x : LOpd} {l : List (LOpd × How)} (hok : ok_callv x l o.op = true) {av : AV} {s' : St} (h : evalOp C s (.callv x l) = some (av, s'))
    (hgo' : ∀ {as : List AV} {s1 : St} {b : Bool}, hand s l = some (as, s1, b) → gOk s1.g) : Does P ρ o c.w (Ans Γ c s'.l s'.g av) := by
  cases ho : o.op <;> rw [ho] at hok <;> try (simp [ok_callv] at hok; done)
  rename_i cl
  obtain ⟨callee, args, argTypes⟩ := cl
  cases callee <;> try (simp [ok_callv] at hok; done)
  rename_i fo
  simp only [ok_callv, Bool.and_eq_true] at hok
  obtain ⟨hfo, hargs⟩ := hok
  simp only [evalOp] at h
  split at h
  rotate_left
  · cases h
  rename_i f caps hx
  obtain ⟨⟨as, s1, b⟩, hh, h⟩ := bk_eq h
  simp only at h
  split at h
  rotate_left
  · cases h
  rename_i hcond
  obtain ⟨rfl, hno⟩ := hcond
  obtain ⟨⟨r, g'⟩, hc, h⟩ := bk_eq h
  simp only [Option.some.injEq, Prod.mk.injEq] at h
  obtain ⟨rfl, rfl⟩ := h
  obtain ⟨c1, q1, q2, q3, q4, q5, q6, q7, q8⟩ := hand_rel hρ.2 hl hg hH hρ.1 hargs hh
  obtain ⟨z1, z2, z3, z4⟩ := hC _ _ _ _ _ hc hno (hgo' hh)
  have hfn := hρ.1 _ _ hfo
  rw [hx] at hfn
  obtain ⟨us, hfn, hul, hur⟩ : ∃ us : List Value, ρ fo = .func (.func f) #[] us.toArray ∧ caps.length = us.length ∧ ∀ j (h : j < caps.length) (h' : j < us.length), RelV c (caps[j]) (us[j]) := by
    generalize ρ fo = v at hfn
    cases hfn with
    | func _ _ us hl hr => exact ⟨us, rfl, hl, hr⟩
  have hrun : (execOp ρ o).run P c.w = .ok (.enter f (args.map ρ ++ us.toArray)) c.w := by
    have := run_call z1 c.w (args.map ρ) us.toArray
    simp [execOp, ho, resolve, hfn, Deferred.ofValue, this]
  unfold Does
  rw [hrun]
  have e : args.map ρ ++ us.toArray = (args.toList.map ρ ++ us).toArray := by
    apply Array.toList_inj.1; simp
  simp only
  rw [e, ← q1]
  have := z4 c1.down (args.toList.map ρ ++ us) rfl q3 (relH_down q6 (by rw [q3]; exact hgo' hh)) (by simp [q7, hul]) (fun j h h' => by
    refine relV_down ?_ (noLocals_get hno j h)
    by_cases hj : j < as.length
    · have := argRel_false (q8 j hj (by omega))
      rw [List.getElem_append_left hj, List.getElem_append_left (by rw [List.length_map]; omega)]
      simpa using this
    · have hj' : j - as.length < caps.length := by simp at h; omega
      have := q5.relV (hur (j - as.length) hj' (by omega))
      rw [List.getElem_append_right (by omega), List.getElem_append_right (by rw [List.length_map]; omega)]
      simpa [q7] using this)
  refine Calls.mono this (fun e w' he => ?_)
  obtain ⟨v, rfl, ha⟩ := he
  refine ⟨v, rfl, ?_⟩
  have := ans_up hH q5 q6 ha
  rw [q2] at this
  exact this

/-- What a function that shares nothing with its caller sees. -/
def Cx.alone (c : Cx) (X : Nat → Prop) : Cx := ⟨X, fun _ _ => none, [], [], c.w⟩
theorem alone_own (X : Nat → Prop) (b : Nat) : ¬ (c.alone X).Own b := by
  rintro ⟨z, k, h⟩
  simp [Cx.alone] at h
theorem relH_alone (hH : RelH Γ c) (X : Nat → Prop) (hX : ∀ b, X b → c.X b ∨ c.Own b) : RelH Γ (c.alone X) where
  ground := hH.ground
  objs z k ob hob := by cases z <;> simp [Cx.obj, Cx.alone, lk] at hob
  inj z k z' k' b h := by simp [Cx.alone] at h
  live z k b h := by simp [Cx.alone] at h
  xlt b hb := by
    rcases hX b hb with h | h
    · exact hH.xlt b h
    · exact hH.lt b h
theorem relV_alone {X : Nat → Prop} (hX : ∀ b, c.N b → ¬ X b) {a : AV} (hp : pureArg a = true) {v : Value} (h : RelV c a v) : RelV (c.alone X) a v := by
  have hN : ∀ b, c.N b → (c.alone X).N b := fun b hb => ⟨hX b hb, alone_own X b⟩
  have hP : ∀ {p : PV} {u : Value}, RelP c.w c.N p u → RelP (c.alone X).w (c.alone X).N p u := fun h => h.mono fun b hb hlt => ⟨hN b hb, hlt, rfl⟩
  cases h with
  | p pv v h => exact .p _ _ (hP h)
  | rop cs b off f h1 h2 h3 h4 h5 => exact .rop cs b off f (hN b h1) h2 h3 h4 (fun j hj => hP (h5 j hj))
  | func f cs vs hl hr =>
    cases cs with
    | nil => exact .func f [] vs hl (fun j h => by simp at h)
    | cons _ _ => simp [pureArg] at hp
  | _ => simp [pureArg] at hp
theorem pure_noLocals : ∀ {l : List AV}, l.all pureArg = true → noLocals l = true
  | [], _ => rfl
  | a :: l, h => by
    simp only [List.all_cons, Bool.and_eq_true] at h
    simp only [noLocals, Bool.and_eq_true]
    refine ⟨?_, pure_noLocals h.2⟩
    cases a <;> simp [pureArg] at h <;> try rfl
    rename_i f cs
    cases cs with
    | nil => rfl
    | cons _ _ => simp [pureArg] at h
theorem flat_any {w w' : World} {N N' : Nat → Prop} {p : PV} {v : Value} (hf : flat p = true) (h : RelP w N p v) : RelP w' N' p v := by
  cases h with
  | bool b => exact .bool b
  | int k n => exact .int k n
  | str s => exact .str s
  | nilp => exact .nilp
  | nilm => exact .nilm
  | nilf => exact .nilf
  | nili => exact .nili
  | _ => simp [flat] at hf
theorem relP_tuple_rel {ps : List PV} {vs : List Value} (hl : ps.length = vs.length) (h : ∀ j (h : j < ps.length) (h' : j < vs.length), RelP c.w c.N (ps[j]) (vs[j])) : RelV c (.tuple (ps.map .p)) (.tuple vs.toArray) :=
  .tuple _ _ (by simp [hl]) (fun j h1 h2 => by simp only [List.getElem_map]; exact .p _ _ (h j (by simpa using h1) h2))
/-- The result of a call, viewed. -/
theorem viewT_rel {d : Cx} (hd : RelH Γ d) {fr : List (Nat × AV)} (hl : d.l = []) {r r' : AV} {v : Value} (h : viewT ⟨fr, [], d.g⟩ r = some r') (hr : RelV d r v) {c' : Cx} (b : Bool) (hb : b = true → allFlat r' = true)
    (hP : ∀ {p : PV} {u : Value}, RelP d.w d.NX p u → (b = true → flat p = true) → RelP c'.w c'.N p u) : RelV c' r' v := by
  cases r with
  | tuple vs =>
    simp only [viewT, Option.map_eq_some_iff] at h
    obtain ⟨ps, hps, rfl⟩ := h
    obtain ⟨us, rfl, hl', hr'⟩ := rUndef_inv hr
    obtain ⟨a1, a2⟩ := allM_get hps
    refine relP_tuple_rel (by omega) (fun j h1 h2 => hP (view_rel hl.symm rfl hd 8 (a2 j (by omega) h1) (hr' j (by omega) h2)) (fun e => ?_))
    have := hb e
    simp only [allFlat, List.all_map, List.all_eq_true] at this
    exact this _ (List.getElem_mem h1)
  | _ =>
    simp only [viewT, Option.map_eq_some_iff] at h
    obtain ⟨p, hp, rfl⟩ := h
    exact .p _ _ (hP (view_rel hl.symm rfl hd 8 hp hr) (fun e => by simpa [allFlat] using hb e))
theorem does_pcall {C : Calls'} (hC : SoundC P Γ C) (hl : s.l = c.l) (hg : s.g = c.g) (hH : RelH Γ c) (hρ : RhoA c s ρ) {f : Nat} {l : List (LOpd × How)} (hok : ok_pcall f l o.op = true) {av : AV} {s' : St} (h : evalOp C s (.pcall f l) = some (av, s')) :
    Does P ρ o c.w (Ans Γ c s'.l s'.g av) := by
  cases ho : o.op <;> rw [ho] at hok <;> try (simp [ok_pcall] at hok; done)
  rename_i cl
  obtain ⟨callee, args, argTypes⟩ := cl
  cases callee <;> try (simp [ok_pcall] at hok; done)
  rename_i fo
  cases fo <;> try (simp [ok_pcall] at hok; done)
  rename_i f'
  simp only [ok_pcall, Bool.and_eq_true, beq_iff_eq] at hok
  obtain ⟨rfl, hargs⟩ := hok
  simp only [evalOp] at h
  obtain ⟨⟨as, s1, b⟩, hh, h⟩ := bk_eq h
  simp only at h
  split at h
  rotate_left
  · cases h
  rename_i hpure
  obtain ⟨⟨r, g'⟩, hc, h⟩ := bk_eq h
  obtain ⟨r', hv, h⟩ := bk_eq h
  split at h
  rotate_left
  · cases h
  rename_i hflat
  simp only [Option.some.injEq, Prod.mk.injEq] at h
  obtain ⟨rfl, rfl⟩ := h
  obtain ⟨c1, q1, q2, q3, q4, q5, q6, q7, q8⟩ := hand_rel hρ.2 hl hg hH hρ.1 hargs hh
  obtain ⟨z1, z2, z3, z4⟩ := hC _ _ _ _ _ hc (pure_noLocals hpure) (fun o h => by simp at h)
  have hfn := func_rho hρ.1 f
  have hrun : (execOp ρ o).run P c.w = .ok (.enter f (args.map ρ)) c.w := by
    have := run_call z1 c.w (args.map ρ) #[]
    simp only [Array.append_empty] at this
    simp [execOp, ho, resolve, hfn, Deferred.ofValue, this]
  unfold Does
  rw [hrun]
  have e : args.map ρ = (args.toList.map ρ).toArray := by rw [← Array.toList_map]
  simp only
  rw [e, ← q1]
  let X : Nat → Prop := fun x => c1.X x ∨ (b = false ∧ c1.Own x)
  have hX : ∀ x, X x → c1.X x ∨ c1.Own x := fun x hx => hx.imp id (·.2)
  have hXN : ∀ x, c1.N x → ¬ X x := fun x hx h => h.elim hx.1 (fun h => hx.2 h.2)
  have := z4 (c1.alone X) (args.toList.map ρ) rfl rfl (relH_alone q6 X hX) (by simp [q7]) (fun j h h' => by
    have hpj : pureArg (as[j]) = true := List.all_eq_true.1 hpure _ (List.getElem_mem h)
    have hj := q8 j h (by simpa using h')
    simp only [List.getElem_map, Array.getElem_toList] at hj ⊢
    rcases hj with hj | ⟨rfl, p, hp, hj⟩
    · exact relV_alone hXN hpj hj
    · rw [hp]
      exact .p _ _ (hj.mono fun x hx hlt => ⟨⟨fun h => h.elim hx (fun h => by cases h.1), alone_own X x⟩, hlt, rfl⟩))
  refine Calls.mono this (fun e w' he => ?_)
  obtain ⟨v, rfl, d, d1, d2, d3, d4, d5, d6⟩ := he
  refine ⟨v, rfl, ?_⟩
  have hbel : Go.RowKit.Below c1.w.heap.size c1.w w' := by
    subst d3
    exact ⟨d4.os, d4.tape, d4.output, d4.size, fun k hk => d4.keep k hk (alone_own X k)⟩
  refine ⟨{ c1 with w := w' }, q2, q3, rfl, q5.trans (evolve_below hbel q6.lt), q6.below hbel, ?_⟩
  subst d2
  refine viewT_rel d5 d1 hv d6 b hflat (fun {p u} hp hf => ?_)
  subst d3
  cases b with
  | true => exact flat_any (hf rfl) hp
  | false => exact hp.mono fun x hx hlt => ⟨by
      have hx' : ¬ X x := by simpa [Cx.NX, d4.X, Cx.alone] using hx
      exact ⟨fun h => hx' (.inl h), fun h => hx' (.inr ⟨rfl, h⟩)⟩, hlt, rfl⟩
end
end Go.TA

end
section
/- One step of a region, and regions that draw their order, are sound. -/
set_option linter.unusedVariables false
set_option linter.unusedSimpArgs false

/-! ## GOk -/
namespace Go.TA
section
variable {P : Program} {s : St} {o : Oper}

theorem noLocals_iff : ∀ {l : List AV}, noLocals l = true ↔ ∀ a ∈ l, noLocal a = true
  | [] => by simp [noLocals]
  | a :: l => by simp [noLocals, noLocals_iff (l := l)]
theorem okFor_true {xs : List (List AV)} (h : okFor true xs = true) : xs.all noLocals = true := by simpa [okFor] using h
theorem noLocalObj_objOf {sz : Nat} {xs : List (List AV)} (h : xs.all noLocals = true) : noLocalObj (objOf sz xs) = true := by
  unfold objOf
  split
  · rfl
  · exact h
theorem gOk_put (hg : gOk s.g) {z : Bool} {k : Nat} {ob : AObj} (h : z = true → noLocalObj ob = true) : gOk (s.putObj z k ob).g := by
  cases z
  · simpa [St.putObj] using hg
  · intro x hx
    simp only [St.putObj, if_true] at hx
    rcases List.mem_or_eq_of_mem_set hx with hx | rfl
    · exact hg x hx
    · exact h rfl
theorem gOk_new (hg : gOk s.g) {z : Bool} {k k' : Nat} {ob : AObj} {s' : St} (hn : s.newObj z k ob = some (k', s')) (h : z = true → noLocalObj ob = true) : gOk s'.g := by
  unfold St.newObj at hn
  cases z
  · simp only [Bool.false_eq_true, if_false] at hn
    split at hn
    · simp only [Option.some.injEq, Prod.mk.injEq] at hn
      obtain ⟨_, rfl⟩ := hn
      exact hg
    · cases hn
  · simp only [if_true, Option.some.injEq, Prod.mk.injEq] at hn
    obtain ⟨_, rfl⟩ := hn
    intro x hx
    rcases List.mem_append.1 hx with hx | hx
    · exact hg x hx
    · simp only [List.mem_singleton] at hx; subst hx; exact h rfl
theorem gOk_obj (hg : gOk s.g) {k : Nat} {ob : AObj} (h : s.obj true k = some ob) : noLocalObj ob = true := by
  simp only [St.obj, if_true] at h
  exact hg ob (List.mem_of_getElem? h)
theorem noLocals_over {j : Nat} {a b : List AV} (ha : noLocals a = true) (hb : noLocals b = true) : noLocals (over j a b) = true := by
  rw [noLocals_iff] at *
  intro x hx
  unfold over at hx
  split at hx
  · exact ha x hx
  · simp only [List.mem_append] at hx
    rcases hx with (hx | hx) | hx
    · exact hb x (List.mem_of_mem_take hx)
    · exact ha x hx
    · exact hb x (List.mem_of_mem_drop hx)
theorem all_set {xs : List (List AV)} {i : Nat} {r : List AV} (h : xs.all noLocals = true) (hr : noLocals r = true) : (xs.set i r).all noLocals = true := by
  rw [List.all_eq_true] at *
  intro x hx
  rcases List.mem_or_eq_of_mem_set hx with hx | rfl
  · exact h x hx
  · exact hr
theorem noLocals_getD {xs : List (List AV)} (h : xs.all noLocals = true) (i : Nat) : noLocals (xs.getD i []) = true := by
  rw [List.all_eq_true] at h
  by_cases hi : i < xs.length
  · rw [getD_lt [] hi]; exact h _ (List.getElem_mem hi)
  · rw [List.getD_eq_getElem?_getD, List.getElem?_eq_none (by omega)]; rfl
theorem noLocals_lift (xs : List (List PV)) : (xs.map fun c => c.map AV.p).all noLocals = true := by
  rw [List.all_eq_true]
  intro x hx
  obtain ⟨p, _, rfl⟩ := List.mem_map.1 hx
  exact noLocals_p p
theorem noLocalObj_wr {n i j bs : Nat} {new : List AV} {ob ob' : AObj} (h : ob.wr n i j bs new = some ob') (ho : noLocalObj ob = true) (hn : noLocals new = true) : noLocalObj ob' = true := by
  cases ob with
  | pcells b xs =>
    simp only [AObj.wr] at h
    split at h
    · split at h <;> simp only [Option.some.injEq] at h <;> subst h
      · rfl
      · refine all_set (noLocals_lift xs) (noLocals_over hn (noLocals_p _))
    · cases h
  | cells b xs =>
    simp only [AObj.wr] at h
    split at h
    · simp only [Option.some.injEq] at h
      subst h
      exact all_set ho (noLocals_over hn (noLocals_getD ho i))
    · cases h
  | _ => simp [AObj.wr] at h
theorem noLocal_cells {v : AV} {cs : List AV} (h : v.cells = some cs) (hv : noLocal v = true) : noLocals cs = true := by
  cases v with
  | p pv =>
    cases pv <;> simp only [AV.cells, Option.some.injEq] at h <;> subst h
    case agg => exact noLocals_p _
    all_goals rfl
  | agg l => simp only [AV.cells, Option.some.injEq] at h; subst h; simpa [noLocal] using hv
  | bot => simp [AV.cells] at h
  | tuple l => simp [AV.cells] at h
  | _ => simp only [AV.cells, Option.some.injEq] at h; subst h; simp [noLocals, hv]
theorem okFor_one {z : Bool} {cs : List AV} (h : okFor z [cs] = true) : z = true → noLocals cs = true := by
  rintro rfl; simpa [okFor] using h
theorem mput_noLocal {kk : Nat} {k : PV} {x : AV} (hx : noLocal x = true) : ∀ {es : List (PV × AV)}, es.all (fun e => noLocal e.2) = true → (mput kk es k x).all (fun e => noLocal e.2) = true
  | [], _ => by simp [mput, hx]
  | (a, v) :: l, h => by
    simp only [List.all_cons, Bool.and_eq_true] at h
    simp only [mput]
    split
    · simp [hx]; simpa using h.2
    · simp only [List.all_cons, Bool.and_eq_true]; exact ⟨h.1, mput_noLocal hx h.2⟩
theorem mdel_noLocal {kk : Nat} {k : PV} : ∀ {es : List (PV × AV)}, es.all (fun e => noLocal e.2) = true → (mdel kk es k).all (fun e => noLocal e.2) = true
  | [], _ => by simp [mdel]
  | (a, v) :: l, h => by
    simp only [List.all_cons, Bool.and_eq_true] at h
    simp only [mdel]
    split
    · exact h.2
    · simp only [List.all_cons, Bool.and_eq_true]; exact ⟨h.1, mdel_noLocal h.2⟩
theorem gOk_frz (hg : gOk s.g) {av : AV} {p : PV} {s1 : St} (h : frz s av = some (p, s1)) : gOk s1.g := by
  unfold frz at h
  split at h
  · split at h
    rotate_left
    · cases h
    split at h
    · simp only [Option.some.injEq, Prod.mk.injEq] at h
      obtain ⟨_, rfl⟩ := h
      exact gOk_put hg (fun _ => rfl)
    · cases h
  · obtain ⟨v, _, h⟩ := Option.map_eq_some_iff.1 h
    simp only [Prod.mk.injEq] at h
    obtain ⟨_, rfl⟩ := h
    exact hg
theorem gOk_hand : ∀ {l : List (LOpd × How)} {s : St} {as : List AV} {s' : St} {b : Bool}, hand s l = some (as, s', b) → gOk s.g → gOk s'.g
  | [], s, as, s', b, h, hg => by
    simp only [hand, Option.some.injEq, Prod.mk.injEq] at h
    obtain ⟨_, rfl, _⟩ := h
    exact hg
  | (x, how) :: l, s, as, s', b, h, hg => by
    cases how with
    | as =>
      simp only [hand] at h
      obtain ⟨⟨as', s1, b1⟩, hh, h⟩ := bk_eq h
      simp only [Option.some.injEq, Prod.mk.injEq] at h
      obtain ⟨rfl, rfl, rfl⟩ := h
      exact gOk_hand hh hg
    | freeze =>
      simp only [hand] at h
      obtain ⟨⟨p, s0⟩, hf, h⟩ := bk_eq h
      obtain ⟨⟨as', s1, b1⟩, hh, h⟩ := bk_eq h
      simp only [Option.some.injEq, Prod.mk.injEq] at h
      obtain ⟨rfl, rfl, rfl⟩ := h
      exact gOk_hand hh (gOk_frz hg hf)
    | look =>
      simp only [hand] at h
      obtain ⟨p, hp, h⟩ := bk_eq h
      obtain ⟨⟨as', s1, b1⟩, hh, h⟩ := bk_eq h
      simp only [Option.some.injEq, Prod.mk.injEq] at h
      obtain ⟨rfl, rfl, rfl⟩ := h
      exact gOk_hand hh hg
    | fresh sz =>
      simp only [hand] at h
      split at h
      rotate_left
      · cases h
      obtain ⟨⟨as', s1, b1⟩, hh, h⟩ := bk_eq h
      simp only [Option.some.injEq, Prod.mk.injEq] at h
      obtain ⟨rfl, rfl, rfl⟩ := h
      refine gOk_hand hh (fun x hx => ?_)
      simp only [List.mem_append, List.mem_singleton] at hx
      rcases hx with hx | rfl
      · exact hg x hx
      · rfl
theorem gOk_owns {z : Bool} : ∀ {owns : List (Nat × Nat × Nat)} {s : St} {cs : List AV} {s' : St} {cs' : List AV}, newOwns z s cs owns = some (s', cs') → gOk s.g → (z = true → noLocals cs = true) → gOk s'.g ∧ (z = true → noLocals cs' = true)
  | [], s, cs, s', cs', h, hg, hc => by
    simp only [newOwns, Option.some.injEq, Prod.mk.injEq] at h
    obtain ⟨rfl, rfl⟩ := h
    exact ⟨hg, hc⟩
  | (c, k, sz) :: r, s, cs, s', cs', h, hg, hc => by
    simp only [newOwns] at h
    obtain ⟨⟨k', s1⟩, hn, h⟩ := bk_eq h
    refine gOk_owns h (gOk_new hg hn (fun _ => rfl)) (fun hz => ?_)
    have := hc hz
    rw [noLocals_iff] at *
    intro x hx
    rcases List.mem_or_eq_of_mem_set hx with hx | rfl
    · exact this x hx
    · simpa [noLocal] using hz
theorem gOk_appendTo (hg : gOk s.g) {z : Bool} {k n sz bytes : Nat} {ob : AObj} {y av : AV} {s' : St} (h : appendTo s z k n sz bytes ob y = some (av, s')) (ho : z = true → noLocalObj ob = true) : gOk s'.g := by
  unfold appendTo at h
  have oka : ∀ {xs ys : List (List AV)}, (z = true → xs.all noLocals = true) → okFor z ys = true → z = true → (xs ++ ys).all noLocals = true := fun hx hy hz => by
    subst hz
    simp only [List.all_append, Bool.and_eq_true]
    exact ⟨hx rfl, okFor_true hy⟩
  split at h
  · split at h
    rotate_left
    · cases h
    split at h
    · split at h
      rotate_left
      · cases h
      split at h
      · simp only [Option.some.injEq, Prod.mk.injEq] at h
        obtain ⟨_, rfl⟩ := h
        exact gOk_put hg (fun _ => rfl)
      · split at h
        · rename_i hok
          simp only [Option.some.injEq, Prod.mk.injEq] at h
          obtain ⟨_, rfl⟩ := h
          exact gOk_put hg (oka (fun _ => noLocals_lift _) hok)
        · cases h
    · split at h
      · simp only [Option.some.injEq, Prod.mk.injEq] at h
        obtain ⟨_, rfl⟩ := h
        exact gOk_put hg (fun _ => rfl)
      · cases h
    · split at h
      · simp only [Option.some.injEq, Prod.mk.injEq] at h
        obtain ⟨_, rfl⟩ := h
        exact gOk_put hg (fun _ => rfl)
      · cases h
    · cases h
  · split at h
    rotate_left
    · cases h
    split at h
    · split at h
      · rename_i hok
        simp only [Option.some.injEq, Prod.mk.injEq] at h
        obtain ⟨_, rfl⟩ := h
        exact gOk_put hg (oka ho hok.2.2.2)
      · cases h
    · cases h
  · cases h

theorem bk_eq_iff {α β : Type} {x : Option α} {f : α → Option β} {b : β} : bk x f = some b ↔ ∃ a, x = some a ∧ f a = some b := ⟨bk_eq, fun ⟨a, h, h'⟩ => by rw [h]; exact h'⟩
/-- Operations that leave all blocks as they are. -/
def LOp.calm : LOp → Bool
  | .move _ | .pick .. | .build .. | .row .. | .load .. | .nilCheck _ | .bin .. | .eq .. | .un .. | .toInt .. | .toBytes _ | .toStr .. | .makeFunc .. | .fieldAddr .. | .field .. | .indexAddr .. | .indexArr .. | .index .. | .lookup .. | .extract .. | .len .. | .minI .. | .maxI .. | .stuck => true
  | .slice b .. => b
  | .pcall _ l => l.all fun x => x.2 = .as || x.2 = .look
  | _ => false
theorem hand_calm : ∀ {l : List (LOpd × How)} {s : St} {as : List AV} {s' : St} {b : Bool}, (l.all fun x => x.2 = .as || x.2 = .look) = true → hand s l = some (as, s', b) → s' = s
  | [], s, as, s', b, _, h => by
    simp only [hand, Option.some.injEq, Prod.mk.injEq] at h
    exact h.2.1.symm
  | (x, how) :: l, s, as, s', b, hc, h => by
    simp only [List.all_cons, Bool.and_eq_true] at hc
    cases how with
    | as =>
      simp only [hand] at h
      obtain ⟨⟨as', s1, b1⟩, hh, h⟩ := bk_eq h
      simp only [Option.some.injEq, Prod.mk.injEq] at h
      obtain ⟨rfl, rfl, rfl⟩ := h
      exact hand_calm hc.2 hh
    | look =>
      simp only [hand] at h
      obtain ⟨p, hp, h⟩ := bk_eq h
      obtain ⟨⟨as', s1, b1⟩, hh, h⟩ := bk_eq h
      simp only [Option.some.injEq, Prod.mk.injEq] at h
      obtain ⟨rfl, rfl, rfl⟩ := h
      exact hand_calm hc.2 hh
    | _ => simp at hc
theorem calm_same {C : Calls'} {op : LOp} (hc : op.calm = true) {av : AV} {s' : St} (h : evalOp C s op = some (av, s')) : s' = s := by
  cases op with
  | stuck => cases h
  | pcall f l =>
    simp only [evalOp] at h
    obtain ⟨⟨as, s1, b⟩, hh, h⟩ := bk_eq h
    try simp only at h
    split at h
    rotate_left
    · cases h
    obtain ⟨⟨r, g'⟩, _, h⟩ := bk_eq h
    obtain ⟨r', _, h⟩ := bk_eq h
    try simp only at h
    split at h
    · simp only [Option.some.injEq, Prod.mk.injEq] at h
      rw [← h.2]
      exact hand_calm hc hh
    · cases h
  | slice b sz x lo hi =>
    simp only [LOp.calm] at hc
    subst hc
    simp only [evalOp] at h
    split at h
    · obtain ⟨_, _, h⟩ := bk_eq h
      obtain ⟨_, _, h⟩ := bk_eq h
      split at h
      · simp only [Option.some.injEq, Prod.mk.injEq] at h; exact h.2.symm
      · cases h
    · cases h
  | toStr b x =>
    cases b
    · simp only [evalOp] at h
      split at h
      · obtain ⟨_, _, h⟩ := bk_eq h
        simp only [Option.some.injEq, Prod.mk.injEq] at h; exact h.2.symm
      · cases h
    · simp only [evalOp] at h
      split at h
      · simp only [Option.some.injEq, Prod.mk.injEq] at h; exact h.2.symm
      · cases h
  | len k x =>
    rcases k with _ | _ | k <;> simp only [evalOp] at h <;> split at h <;> try split at h
    all_goals first | (simp only [Option.some.injEq, Prod.mk.injEq] at h; exact h.2.symm) | (simp only [reduceCtorEq] at h)
  | _ =>
    first
      | (simp [LOp.calm] at hc; done)
      | (simp only [evalOp] at h
         repeat' (first | (rw [bk_eq_iff] at h; obtain ⟨_, _, h⟩ := h) | split at h)
         all_goals first | (simp only [Option.some.injEq, Prod.mk.injEq] at h; exact h.2.symm) | (simp only [reduceCtorEq] at h))

theorem zeroAV_noLocals : ∀ {zs : List AV} {vs : List Value}, zeroAV zs vs = true → noLocals zs = true
  | [], [], _ => rfl
  | [], _ :: _, h => by simp [zeroAV] at h
  | a :: l, [], h => by cases a <;> simp [zeroAV] at h
  | a :: l, b :: r, h => by
    cases a <;> try (simp [zeroAV] at h; done)
    · simp only [zeroAV, Bool.and_eq_true] at h
      simp [noLocals, noLocal, zeroAV_noLocals h.2]
    · have : zeroAV l r = true := by
        unfold zeroAV at h
        split at h <;> simp_all
      simp [noLocals, noLocal, zeroAV_noLocals this]
theorem alloc_noLocals {z : Bool} {k : Nat} {zero : List AV} {owns : List (Nat × Nat × Nat)} {op : Op} (h : ok_alloc P z k zero owns op = true) : noLocals zero = true := by
  cases op <;> simp [ok_alloc] at h
  have h := h.1
  split at h
  · exact zeroAV_noLocals h
  · cases h
theorem gOk_op {C : Calls'} (hC : ∀ f args g r g', C f args g = some (r, g') → noLocals args = true → gOk g → gOk g') {op : LOp} {o : Op} (hok : opOk P op o = true) (hg : gOk s.g) {av : AV} {s' : St} (h : evalOp C s op = some (av, s')) : gOk s'.g := by
  by_cases hc : op.calm = true
  · rw [calm_same hc h]; exact hg
  cases op with
  | nilown z k sz =>
    simp only [evalOp] at h
    obtain ⟨⟨k', s1⟩, hn, h⟩ := bk_eq h
    simp only [Option.some.injEq, Prod.mk.injEq] at h
    obtain ⟨_, rfl⟩ := h
    exact gOk_new hg hn (fun _ => rfl)
  | alloc z k zero owns =>
    have hz := alloc_noLocals (P := P) (z := z) (k := k) (owns := owns) (op := o) (by simpa [opOk] using hok)
    simp only [evalOp] at h
    obtain ⟨⟨s0, zero'⟩, h0, h⟩ := bk_eq h
    obtain ⟨⟨k', s1⟩, hn, h⟩ := bk_eq h
    simp only [Option.some.injEq, Prod.mk.injEq] at h
    obtain ⟨_, rfl⟩ := h
    obtain ⟨g1, g2⟩ := gOk_owns h0 hg (fun _ => hz)
    exact gOk_new g1 hn (fun e => noLocalObj_objOf (by simp [g2 e]))
  | box z k x =>
    simp only [evalOp] at h
    obtain ⟨cs, hcs, h⟩ := bk_eq h
    split at h
    rotate_left
    · cases h
    rename_i hok
    obtain ⟨⟨k', s1⟩, hn, h⟩ := bk_eq h
    simp only [Option.some.injEq, Prod.mk.injEq] at h
    obtain ⟨_, rfl⟩ := h
    exact gOk_new hg hn (fun e => noLocalObj_objOf (by simp [okFor_one hok e]))
  | rowOwn z k sz parts =>
    simp only [evalOp] at h
    obtain ⟨cs, hcs, h⟩ := bk_eq h
    split at h
    rotate_left
    · cases h
    rename_i hok
    obtain ⟨⟨k', s1⟩, hn, h⟩ := bk_eq h
    simp only [Option.some.injEq, Prod.mk.injEq] at h
    obtain ⟨_, rfl⟩ := h
    exact gOk_new hg hn (fun e => noLocalObj_objOf (by subst e; exact okFor_true hok.2))
  | store sz agg a v =>
    simp only [evalOp] at h
    split at h
    rotate_left
    · cases h
    obtain ⟨cs, hcs, h⟩ := bk_eq h
    split at h
    rotate_left
    · cases h
    rename_i z k bs n i j _ hok
    obtain ⟨ob, hob, h⟩ := bk_eq h
    obtain ⟨ob', hob', h⟩ := bk_eq h
    simp only [Option.some.injEq, Prod.mk.injEq] at h
    obtain ⟨_, rfl⟩ := h
    exact gOk_put hg (fun e => by subst e; exact noLocalObj_wr hob' (gOk_obj hg hob) (okFor_one hok.2 rfl))
  | makeMap z k =>
    simp only [evalOp] at h
    obtain ⟨⟨k', s1⟩, hn, h⟩ := bk_eq h
    simp only [Option.some.injEq, Prod.mk.injEq] at h
    obtain ⟨_, rfl⟩ := h
    exact gOk_new hg hn (fun _ => rfl)
  | makeRow z k sz bytes zero l cp =>
    simp only [evalOp] at h
    obtain ⟨_, _, h⟩ := bk_eq h
    obtain ⟨_, _, h⟩ := bk_eq h
    try simp only at h
    split at h
    rotate_left
    · cases h
    obtain ⟨⟨k', s1⟩, hn, h⟩ := bk_eq h
    simp only [Option.some.injEq, Prod.mk.injEq] at h
    obtain ⟨_, rfl⟩ := h
    exact gOk_new hg hn (fun _ => rfl)
  | slice b sz x lo hi =>
    cases b
    rotate_left
    · exact absurd rfl hc
    simp only [evalOp] at h
    split at h
    · obtain ⟨_, _, h⟩ := bk_eq h
      obtain ⟨_, _, h⟩ := bk_eq h
      split at h
      · simp only [Option.some.injEq, Prod.mk.injEq] at h
        obtain ⟨_, rfl⟩ := h
        exact hg
      · cases h
    · split at h
      · obtain ⟨_, _, h⟩ := bk_eq h
        obtain ⟨_, _, h⟩ := bk_eq h
        split at h
        · simp only [Option.some.injEq, Prod.mk.injEq] at h
          obtain ⟨_, rfl⟩ := h
          exact gOk_put hg (fun _ => rfl)
        · cases h
      · cases h
    · obtain ⟨_, _, h⟩ := bk_eq h
      obtain ⟨_, _, h⟩ := bk_eq h
      obtain ⟨_, _, h⟩ := bk_eq h
      split at h
      · simp only [Option.some.injEq, Prod.mk.injEq] at h
        obtain ⟨_, rfl⟩ := h
        exact hg
      · cases h
    · cases h
  | mapUpdate kk m key v =>
    simp only [evalOp] at h
    split at h
    · split at h
      · rename_i z k _ _ _ es hob
        split at h
        · rename_i hok
          simp only [Option.some.injEq, Prod.mk.injEq] at h
          obtain ⟨_, rfl⟩ := h
          refine gOk_put hg (fun e => ?_)
          subst e
          have := gOk_obj hg hob
          exact mput_noLocal (by simpa [noLocals] using okFor_one hok.2.2 rfl) this
        · cases h
      · cases h
    · cases h
  | append z k sz bytes x y =>
    simp only [evalOp] at h
    split at h
    · obtain ⟨ob, hob, h⟩ := bk_eq h
      exact gOk_appendTo hg h (fun e => by subst e; exact gOk_obj hg hob)
    · obtain ⟨⟨k', s1⟩, hn, h⟩ := bk_eq h
      exact gOk_appendTo (gOk_new hg hn (fun _ => rfl)) h (fun _ => rfl)
    · cases h
  | copy sz d x =>
    simp only [evalOp] at h
    split at h
    · obtain ⟨ob, hob, h⟩ := bk_eq h
      split at h
      · split at h
        · simp only [Option.some.injEq, Prod.mk.injEq] at h
          obtain ⟨_, rfl⟩ := h
          exact gOk_put hg (fun _ => rfl)
        · cases h
      · cases h
    · cases h
  | delete kk m key =>
    simp only [evalOp] at h
    split at h
    · split at h
      · rename_i z k _ _ _ es hob
        split at h
        · simp only [Option.some.injEq, Prod.mk.injEq] at h
          obtain ⟨_, rfl⟩ := h
          refine gOk_put hg (fun e => ?_)
          subst e
          have := gOk_obj hg hob
          exact mdel_noLocal this
        · cases h
      · cases h
    · cases h
  | call f l =>
    simp only [evalOp] at h
    obtain ⟨⟨as, s1, b⟩, hh, h⟩ := bk_eq h
    try simp only at h
    split at h
    rotate_left
    · cases h
    rename_i hcond
    obtain ⟨⟨r, g'⟩, hcall, h⟩ := bk_eq h
    simp only [Option.some.injEq, Prod.mk.injEq] at h
    obtain ⟨_, rfl⟩ := h
    exact hC _ _ _ _ _ hcall hcond.2 (gOk_hand hh hg)
  | callv f l =>
    simp only [evalOp] at h
    split at h
    rotate_left
    · cases h
    obtain ⟨⟨as, s1, b⟩, hh, h⟩ := bk_eq h
    try simp only at h
    split at h
    rotate_left
    · cases h
    rename_i hcond
    obtain ⟨⟨r, g'⟩, hcall, h⟩ := bk_eq h
    simp only [Option.some.injEq, Prod.mk.injEq] at h
    obtain ⟨_, rfl⟩ := h
    exact hC _ _ _ _ _ hcall hcond.2 (gOk_hand hh hg)
  | pcall f l =>
    simp only [evalOp] at h
    obtain ⟨⟨as, s1, b⟩, hh, h⟩ := bk_eq h
    try simp only at h
    split at h
    rotate_left
    · cases h
    obtain ⟨⟨r, g'⟩, _, h⟩ := bk_eq h
    obtain ⟨r', _, h⟩ := bk_eq h
    try simp only at h
    split at h
    · simp only [Option.some.injEq, Prod.mk.injEq] at h
      rw [← h.2]
      exact gOk_hand hh hg
    · cases h
  | _ => exact absurd rfl hc
end
end Go.TA

/-! ## Step -/
namespace Go.TA

/-- A state of the abstract machine, and one of the machine. -/
structure Good (Γ : Ground) (c : Cx) (s : St) (a : Act) (n : Nat) : Prop where
  l : s.l = c.l
  g : s.g = c.g
  H : RelH Γ c
  F : RelF c s a
  G : gOk s.g
  N : a.tmps.size = n
  D : a.defers = []

def guardOk (ops : Array Oper) : Option (Nat × Bool) → Option (Nat × Bool) → Bool
  | none, none => true
  | some (t, b), some (j, b') => b == b' && (ops[j]?).bind (·.dst) == some t
  | _, _ => false
def dstOk (n : Nat) : Option Nat → Bool
  | none => true
  | some d => d < n
def operOk (P : Program) (n : Nat) (ops : Array Oper) (x : LOper) (o : Oper) : Bool := opOk P x.op o.op && x.dst == o.dst && guardOk ops x.guard o.guard && dstOk n x.dst
def opersOk (P : Program) (n : Nat) (ops : Array Oper) : List LOper → List Oper → Bool
  | [], [] => true
  | x :: l, o :: r => operOk P n ops x o && opersOk P n ops l r
  | _, _ => false

section
variable {P : Program} {Γ : Ground} {c : Cx} {s : St} {a : Act} {n : Nat}

theorem does_op {C : Calls'} (hC : SoundC P Γ C) {ρ : Operand → Value} {o : Oper} {op : LOp} (hok : opOk P op o.op = true) (hl : s.l = c.l) (hg : s.g = c.g) (hH : RelH Γ c) (hρ : RhoA c s ρ) (hgo : gOk s.g) {av : AV} {s' : St} (h : evalOp C s op = some (av, s')) :
    Does P ρ o c.w (Ans Γ c s'.l s'.g av) := by
  cases op <;> simp only [opOk] at hok
  case move => exact does_move hl hg hH hρ.1 hok h
  case nilown => exact does_nilown hl hg hH hρ.2 hok h
  case pick => exact does_pick hl hg hH hρ.1 hok h
  case alloc => exact does_alloc hl hg hH hok h
  case box => exact does_box hl hg hH hρ.1 hok h
  case build => exact does_build hl hg hH hρ.1 hok h
  case row => exact does_row hl hg hH hρ.1 hok h
  case rowOwn => exact does_rowOwn hl hg hH hρ.1 hok h
  case load => exact does_load hl hg hH hρ.1 hok h
  case store => exact does_store hl hg hH hρ.1 hok h
  case nilCheck => exact does_nilCheck hl hg hH hρ.1 hok h
  case bin => exact does_bin hl hg hH hρ.1 hok h
  case eq => exact does_eq hl hg hH hρ hok h
  case un => exact does_un hl hg hH hρ.1 hok h
  case toInt => exact does_toInt hl hg hH hρ.1 hok h
  case toBytes => exact does_toBytes hl hg hH hρ.1 hok h
  case toStr => exact does_toStr hl hg hH hρ.1 hok h
  case makeFunc => exact does_makeFunc hl hg hH hρ.1 hok h
  case makeMap => exact does_makeMap hl hg hH hρ.2 hok h
  case makeRow => exact does_makeRow hl hg hH hρ.1 hok h
  case slice => exact does_slice hl hg hH hρ.1 hok h
  case fieldAddr => exact does_fieldAddr hl hg hH hρ.1 hok h
  case field => exact does_field hl hg hH hρ.1 hok h
  case indexAddr => exact does_indexAddr hl hg hH hρ.1 hok h
  case indexArr => exact does_indexArr hl hg hH hρ.1 hok h
  case index => exact does_index hl hg hH hρ.1 hok h
  case lookup => exact does_lookup hl hg hH hρ.1 hok h
  case mapUpdate => exact does_mapUpdate hl hg hH hρ.1 hok h
  case extract => exact does_extract hl hg hH hρ.1 hok h
  case len => exact does_len hl hg hH hρ.1 hok h
  case append => exact does_append hl hg hH hρ.1 hok h
  case copy => exact does_copy hl hg hH hρ.1 hok h
  case minI => exact does_min hl hg hH hρ.1 hok h
  case maxI => exact does_max hl hg hH hρ.1 hok h
  case delete => exact does_delete hl hg hH hρ.1 hok h
  case call => exact does_call hC hl hg hH hρ hok h (fun hh => gOk_hand hh hgo)
  case callv => exact does_callv hC hl hg hH hρ hok h (fun hh => gOk_hand hh hgo)
  case pcall => exact does_pcall hC hl hg hH hρ hok h
  case stuck => cases h

theorem rhoA (P : Program) (hF : RelF c s a) : RhoA c s a.eval := ⟨fun _ _ h => opd_rel P hF h, fun _ => rfl⟩
theorem get_set (s : St) (d t : Nat) (v : AV) : (s.set d v).get t = if t = d then v else s.get t := by
  simp only [St.get, St.set, lk]
  cases e : (d == t)
  · have : t ≠ d := fun h => by subst h; simp at e
    simp [this]
  · have : t = d := (beq_iff_eq.1 e).symm
    simp [this, orBot]
theorem opt_l (s : St) (d : Option Nat) (v : AV) : (opt' s d v).l = s.l := by cases d <;> rfl
theorem opt_g (s : St) (d : Option Nat) (v : AV) : (opt' s d v).g = s.g := by cases d <;> rfl
theorem relF_put (hF : RelF c s a) {dst : Option Nat} (hd : dstOk a.tmps.size dst = true) {av : AV} {v : Value} (hv : RelV c av v) : RelF c (opt' s dst av) (a.put dst v) := by
  cases dst with
  | none => exact hF
  | some d =>
    intro t
    simp only [dstOk, decide_eq_true_eq] at hd
    simp only [opt', get_set, Act.put]
    by_cases e : t = d
    · subst e
      simp [hd, hv]
    · have e' : ¬ d = t := fun h => e h.symm
      have := hF t
      simp only [e, if_false]
      simpa [Array.getElem?_setIfInBounds, e'] using this
theorem put_size (a : Act) (d : Option Nat) (v : Value) : (a.put d v).tmps.size = a.tmps.size := by cases d <;> simp [Act.put]
theorem put_defers' (a : Act) (d : Option Nat) (v : Value) : (a.put d v).defers = a.defers := by cases d <;> rfl
theorem evalOp_fr {C : Calls'} {op : LOp} {av : AV} {s' : St} (h : evalOp C s op = some (av, s')) : True := trivial

/-- The frame is left as it is by every operation. -/
theorem hand_fr : ∀ {l : List (LOpd × How)} {s : St} {as : List AV} {s' : St} {b : Bool}, hand s l = some (as, s', b) → s'.fr = s.fr
  | [], s, as, s', b, h => by
    simp only [hand, Option.some.injEq, Prod.mk.injEq] at h
    rw [h.2.1]
  | (x, how) :: l, s, as, s', b, h => by
    cases how with
    | as =>
      simp only [hand] at h
      obtain ⟨⟨as', s1, b1⟩, hh, h⟩ := bk_eq h
      simp only [Option.some.injEq, Prod.mk.injEq] at h
      obtain ⟨rfl, rfl, rfl⟩ := h
      exact hand_fr hh
    | freeze =>
      simp only [hand] at h
      obtain ⟨⟨p, s0⟩, hf, h⟩ := bk_eq h
      obtain ⟨⟨as', s1, b1⟩, hh, h⟩ := bk_eq h
      simp only [Option.some.injEq, Prod.mk.injEq] at h
      obtain ⟨rfl, rfl, rfl⟩ := h
      rw [hand_fr hh]
      unfold frz at hf
      split at hf
      · split at hf
        · split at hf
          · simp only [Option.some.injEq, Prod.mk.injEq] at hf
            obtain ⟨_, rfl⟩ := hf
            unfold St.putObj; split <;> rfl
          · cases hf
        · cases hf
      · obtain ⟨v, _, hf⟩ := Option.map_eq_some_iff.1 hf
        simp only [Prod.mk.injEq] at hf
        rw [← hf.2]
    | look =>
      simp only [hand] at h
      obtain ⟨p, hp, h⟩ := bk_eq h
      obtain ⟨⟨as', s1, b1⟩, hh, h⟩ := bk_eq h
      simp only [Option.some.injEq, Prod.mk.injEq] at h
      obtain ⟨rfl, rfl, rfl⟩ := h
      exact hand_fr hh
    | fresh sz =>
      simp only [hand] at h
      split at h
      rotate_left
      · cases h
      obtain ⟨⟨as', s1, b1⟩, hh, h⟩ := bk_eq h
      simp only [Option.some.injEq, Prod.mk.injEq] at h
      obtain ⟨rfl, rfl, rfl⟩ := h
      rw [hand_fr hh]
theorem newObj_fr {z : Bool} {k k' : Nat} {ob : AObj} {s' : St} (h : s.newObj z k ob = some (k', s')) : s'.fr = s.fr := by
  unfold St.newObj at h
  split at h
  · simp only [Option.some.injEq, Prod.mk.injEq] at h; rw [← h.2]
  · split at h
    · simp only [Option.some.injEq, Prod.mk.injEq] at h; rw [← h.2]
    · cases h
theorem putObj_fr {z : Bool} {k : Nat} {ob : AObj} : (s.putObj z k ob).fr = s.fr := by unfold St.putObj; split <;> rfl
theorem owns_fr {z : Bool} : ∀ {owns : List (Nat × Nat × Nat)} {s : St} {cs : List AV} {s' : St} {cs' : List AV}, newOwns z s cs owns = some (s', cs') → s'.fr = s.fr
  | [], s, cs, s', cs', h => by
    simp only [newOwns, Option.some.injEq, Prod.mk.injEq] at h
    rw [h.1]
  | (c, k, sz) :: r, s, cs, s', cs', h => by
    simp only [newOwns] at h
    obtain ⟨⟨k', s1⟩, hn, h⟩ := bk_eq h
    rw [owns_fr h, newObj_fr hn]
theorem appendTo_fr {z : Bool} {k n sz bytes : Nat} {ob : AObj} {y av : AV} {s' : St} (h : appendTo s z k n sz bytes ob y = some (av, s')) : s'.fr = s.fr := by
  unfold appendTo at h
  repeat' split at h
  all_goals first | (simp only [reduceCtorEq] at h; done) | (simp only [Option.some.injEq, Prod.mk.injEq] at h; rw [← h.2, putObj_fr])
theorem eval_fr {C : Calls'} {op : LOp} {av : AV} {s' : St} (h : evalOp C s op = some (av, s')) : s'.fr = s.fr := by
  by_cases hc : op.calm = true
  · rw [calm_same hc h]
  cases op with
  | alloc z k zero owns =>
    simp only [evalOp] at h
    obtain ⟨⟨s0, zero'⟩, h0, h⟩ := bk_eq h
    obtain ⟨⟨k', s1⟩, hn, h⟩ := bk_eq h
    simp only [Option.some.injEq, Prod.mk.injEq] at h
    rw [← h.2, newObj_fr hn, owns_fr h0]
  | append z k sz bytes x y =>
    simp only [evalOp] at h
    split at h
    · obtain ⟨ob, hob, h⟩ := bk_eq h
      exact appendTo_fr h
    · obtain ⟨⟨k', s1⟩, hn, h⟩ := bk_eq h
      rw [appendTo_fr h, newObj_fr hn]
    · cases h
  | slice b sz x lo hi =>
    cases b
    rotate_left
    · exact absurd rfl hc
    simp only [evalOp] at h
    split at h
    · obtain ⟨_, _, h⟩ := bk_eq h
      obtain ⟨_, _, h⟩ := bk_eq h
      split at h
      · simp only [Option.some.injEq, Prod.mk.injEq] at h; rw [← h.2]
      · cases h
    · split at h
      · obtain ⟨_, _, h⟩ := bk_eq h
        obtain ⟨_, _, h⟩ := bk_eq h
        split at h
        · simp only [Option.some.injEq, Prod.mk.injEq] at h; rw [← h.2, putObj_fr]
        · cases h
      · cases h
    · obtain ⟨_, _, h⟩ := bk_eq h
      obtain ⟨_, _, h⟩ := bk_eq h
      obtain ⟨_, _, h⟩ := bk_eq h
      split at h
      · simp only [Option.some.injEq, Prod.mk.injEq] at h; rw [← h.2]
      · cases h
    · cases h
  | call f l =>
    simp only [evalOp] at h
    obtain ⟨⟨as, s1, b⟩, hh, h⟩ := bk_eq h
    try simp only at h
    split at h
    rotate_left
    · cases h
    obtain ⟨⟨r, g'⟩, hcall, h⟩ := bk_eq h
    simp only [Option.some.injEq, Prod.mk.injEq] at h
    rw [← h.2]
    exact (hand_fr hh :)
  | callv f l =>
    simp only [evalOp] at h
    split at h
    rotate_left
    · cases h
    obtain ⟨⟨as, s1, b⟩, hh, h⟩ := bk_eq h
    try simp only at h
    split at h
    rotate_left
    · cases h
    obtain ⟨⟨r, g'⟩, hcall, h⟩ := bk_eq h
    simp only [Option.some.injEq, Prod.mk.injEq] at h
    rw [← h.2]
    exact (hand_fr hh :)
  | pcall f l =>
    simp only [evalOp] at h
    obtain ⟨⟨as, s1, b⟩, hh, h⟩ := bk_eq h
    try simp only at h
    split at h
    rotate_left
    · cases h
    obtain ⟨⟨r, g'⟩, _, h⟩ := bk_eq h
    obtain ⟨r', _, h⟩ := bk_eq h
    try simp only at h
    split at h
    · simp only [Option.some.injEq, Prod.mk.injEq] at h
      rw [← h.2]
      exact hand_fr hh
    · cases h
  | _ =>
    first
      | exact absurd rfl hc
      | (simp only [evalOp] at h
         repeat' (first | (rw [bk_eq_iff] at h; obtain ⟨⟨_, _⟩, hn, h⟩ := h; have := newObj_fr hn) | (rw [bk_eq_iff] at h; obtain ⟨_, _, h⟩ := h) | split at h)
         all_goals first | (simp only [reduceCtorEq] at h; done) | (simp only [Option.some.injEq, Prod.mk.injEq] at h; rw [← h.2]; first | assumption | exact putObj_fr))

/-- An operation that is done. -/
theorem good_put (hg : Good Γ c s a n) {c' : Cx} {s' : St} (hE : Evolve c c') (hH : RelH Γ c') (hl : c'.l = s'.l) (hgg : c'.g = s'.g) (hfr : s'.fr = s.fr) (hgo : gOk s'.g) {dst : Option Nat} (hd : dstOk n dst = true) {av : AV} {v : Value} (hv : RelV c' av v) :
    Good Γ c' (opt' s' dst av) (a.put dst v) n where
  l := by rw [opt_l, hl]
  g := by rw [opt_g, hgg]
  H := hH
  F := by
    refine relF_put (fun t => ?_) (by rw [hg.N]; exact hd) hv
    have : s'.get t = s.get t := by simp [St.get, hfr]
    rw [this]
    exact hE.relV (hg.F t)
  G := by rw [opt_g]; exact hgo
  N := by rw [put_size]; exact hg.N
  D := by rw [put_defers']; exact hg.D
theorem oper_rel {C : Calls'} (hC : SoundC P Γ C) (hg : Good Γ c s a n) {op : LOp} {o : Oper} (hok : opOk P op o.op = true) (hd : dstOk n o.dst = true) {av : AV} {s' : St} (h : evalOp C s op = some (av, s'))
    {K : Act → World → Prop} {Q : Exit → Act → World → Prop} (hK : ∀ c' v, Good Γ c' (opt' s' o.dst av) (a.put o.dst v) n → Evolve c c' → c'.l = s'.l → c'.g = s'.g → RelV c' av v → K (a.put o.dst v) c'.w) : o.wp P a c.w K Q := by
  refine Does.wp (does_op hC hok hg.l hg.g hg.H (rhoA P hg.F) hg.G h) (fun v w' hR => ?_)
  obtain ⟨c', h1, h2, rfl, h4, h5, h6⟩ := hR
  have hgo : gOk s'.g := gOk_op (fun f args g r g' h1 h2 h3 => (hC f args g r g' h1 h2 h3).2.1) hok hg.G h
  exact hK c' v (good_put hg h4 h5 h1 h2 (eval_fr h) hgo hd h6) h4 h1 h2 h6
theorem yielded_of {ops : Array Oper} {j t : Nat} (h : (ops[j]?).bind (·.dst) = some t) (hg : Good Γ c s a n) {b : Bool} (hv : s.get t = .p (.bool b)) : yielded ops a.tmps j = some b := by
  have h1 := hg.F t
  rw [hv] at h1
  have h1 := relV_bool h1
  have : a.tmps[t]? = some (.bool b) := by
    rw [Array.getD_eq_getD_getElem?] at h1
    cases e : a.tmps[t]? with
    | none => rw [e] at h1; simp [undef] at h1
    | some v => rw [e] at h1; simp at h1; rw [h1]
  simp [yielded, h, this]
theorem yielded_none {ops : Array Oper} {j t : Nat} (h : (ops[j]?).bind (·.dst) = some t) (hg : Good Γ c s a n) {l : List AV} (hv : s.get t = .tuple l) : yielded ops a.tmps j = none := by
  have h1 := hg.F t
  rw [hv] at h1
  obtain ⟨vs, h1, _⟩ := rUndef_inv h1
  have : a.tmps[t]? = none ∨ ∃ l, a.tmps[t]? = some (.tuple l) := by
    rw [Array.getD_eq_getD_getElem?] at h1
    cases e : a.tmps[t]? with
    | none => exact .inl rfl
    | some v => rw [e] at h1; simp at h1; exact .inr ⟨_, by rw [h1]⟩
  rcases this with this | ⟨l, this⟩ <;> simp [yielded, h, this]
theorem Good.known (hg : Good Γ c s a n) {t : Nat} {v : AV} (hv : s.get t = v) : Good Γ c (s.set t v) a n where
  l := hg.l
  g := hg.g
  H := hg.H
  F u := by
    rw [get_set]
    split
    · rename_i e; subst e; rw [← hv]; exact hg.F u
    · exact hg.F u
  G := hg.G
  N := hg.N
  D := hg.D
theorem step_rel {C : Calls'} (hC : SoundC P Γ C) {ops : Array Oper} (hg : Good Γ c s a n) {x : LOper} {o : Oper} (hok : operOk P n ops x o = true) {s' : St} (h : stepOp C x s = some s')
    {K : Act → World → Prop} {Q : Exit → Act → World → Prop} (hK : ∀ c' a', Good Γ c' s' a' n → Evolve c c' → K a' c'.w) : if Region.wanted o (yielded ops a.tmps) then o.wp P a c.w K Q else K (a.put o.dst undef) c.w := by
  simp only [operOk, Bool.and_eq_true, beq_iff_eq] at hok
  obtain ⟨⟨⟨h1, h2⟩, h3⟩, h4⟩ := hok
  rw [h2] at h4
  have run : ∀ {s0 : St}, Good Γ c s0 a n → be (evalOp C s0 x.op) x.dst = some s' → o.wp P a c.w K Q := by
    intro s0 hg0 hbe
    unfold be at hbe
    obtain ⟨⟨av, s1⟩, hev, hp⟩ := Option.bind_eq_some_iff.1 hbe
    simp only [putK, Option.some.injEq] at hp
    subst hp
    refine oper_rel hC hg0 h1 h4 hev (fun c' v hgood hE _ _ _ => ?_)
    rw [← h2] at hgood ⊢
    exact hK c' _ hgood hE
  have skip : ∀ {s0 : St}, Good Γ c s0 a n → s' = opt' s0 x.dst (.tuple []) → K (a.put o.dst undef) c.w := by
    intro s0 hg0 e
    subst e
    rw [← h2]
    rw [← h2] at h4
    exact hK c _ (good_put hg0 (Evolve.refl c) hg0.H hg0.l.symm hg0.g.symm rfl hg0.G h4 rUndef) (Evolve.refl c)
  unfold stepOp at h
  split at h
  · rename_i hn
    rw [hn] at h3
    have hgn : o.guard = none := by
      cases e : o.guard with
      | none => rfl
      | some q => rw [e] at h3; simp [guardOk] at h3
    simp only [Region.wanted, hgn, if_true]
    exact run hg h
  · rename_i t b hs
    rw [hs] at h3
    cases e : o.guard with
    | none => rw [e] at h3; simp [guardOk] at h3
    | some q =>
      obtain ⟨j, b'⟩ := q
      rw [e] at h3
      simp only [guardOk, Bool.and_eq_true, beq_iff_eq] at h3
      obtain ⟨rfl, hj⟩ := h3
      simp only [Region.wanted, e]
      unfold guardK at h
      split at h
      · rename_i cb hv
        rw [yielded_of hj hg hv]
        split at h
        · rename_i hcb
          subst hcb
          simp only [beq_self_eq_true, if_true]
          exact run (hg.known hv) h
        · rename_i hcb
          have hcb' : cb = !b := by cases cb <;> cases b <;> simp_all
          have : (some cb == some b) = false := by simpa using hcb
          simp only [this, Bool.false_eq_true, if_false]
          simp only [Option.some.injEq] at h
          exact skip (hg.known (t := t) (v := .p (.bool !b)) (by rw [hv, hcb'])) h.symm
      · rename_i l hv
        rw [yielded_none hj hg hv]
        have : ((none : Option Bool) == some b) = false := rfl
        simp only [this, Bool.false_eq_true, if_false]
        simp only [Option.some.injEq] at h
        exact skip hg h.symm
      · cases h
theorem runOps_rel {C : Calls'} (hC : SoundC P Γ C) {ops : Array Oper} {Q : Exit → Act → World → Prop} : ∀ {xs : List LOper} {os : List Oper} {c : Cx} {s s' : St} {a : Act}, opersOk P n ops xs os = true → Good Γ c s a n → runOps C xs s = some s' →
    (∀ c' a', Good Γ c' s' a' n → Evolve c c' → Q .normal a' c'.w) → wpList P ops Q os a c.w
  | [], [], c, s, s', a, _, hg, h, hQ => by
    simp only [runOps, Option.some.injEq] at h
    subst h
    exact hQ c a hg (Evolve.refl c)
  | [], _ :: _, c, s, s', a, hok, _, _, _ => by simp [opersOk] at hok
  | _ :: _, [], c, s, s', a, hok, _, _, _ => by simp [opersOk] at hok
  | x :: xs, o :: os, c, s, s', a, hok, hg, h, hQ => by
    simp only [opersOk, Bool.and_eq_true] at hok
    simp only [runOps] at h
    obtain ⟨s1, h1, h2⟩ := Option.bind_eq_some_iff.1 h
    have := step_rel (Q := Q) (K := wpList P ops Q os) hC hg hok.1 h1 (fun c' a' hg' hE => runOps_rel hC hok.2 hg' h2 (fun c2 a2 hg2 hE2 => hQ c2 a2 hg2 (hE.trans hE2)))
    unfold wpList
    split
    · rename_i hw; rw [if_pos hw] at this; exact .inl this
    · rename_i hw; rw [if_neg hw] at this; exact this
end
end Go.TA

/-! ## Congr -/
namespace Go.TA

def LOpd.uses : LOpd → List Nat
  | .t n => [n]
  | _ => []
def optUses : Option LOpd → List Nat
  | some x => x.uses
  | none => []
def LOp.uses : LOp → List Nat
  | .move x | .box _ _ x | .load _ _ x | .nilCheck x | .un _ x | .toInt _ x | .toBytes x | .toStr _ x | .fieldAddr _ x | .field _ _ _ x | .extract x _ | .len _ x => x.uses
  | .pick c a b => c.uses ++ a.uses ++ b.uses
  | .nilown .. | .alloc .. | .makeMap .. | .stuck => []
  | .build _ parts => parts.flatMap fun p => p.2.2.uses
  | .row _ parts | .rowOwn _ _ _ parts => parts.flatMap LOpd.uses
  | .store _ _ a v => a.uses ++ v.uses
  | .bin _ x y | .eq _ _ x y | .indexAddr _ x y | .indexArr _ _ x y | .index x y | .append _ _ _ _ x y | .copy _ x y | .minI x y | .maxI x y | .delete _ x y => x.uses ++ y.uses
  | .makeFunc _ caps => caps.flatMap LOpd.uses
  | .makeRow _ _ _ _ _ x y => x.uses ++ y.uses
  | .slice _ _ x lo hi => x.uses ++ optUses lo ++ optUses hi
  | .lookup _ _ _ m k => m.uses ++ k.uses
  | .mapUpdate _ m k v => m.uses ++ k.uses ++ v.uses
  | .call _ l | .pcall _ l => l.flatMap fun p => p.1.uses
  | .callv f l => f.uses ++ l.flatMap fun p => p.1.uses

def St.rf (s : St) (fr : List (Nat × AV)) : St := ⟨fr, s.l, s.g⟩
theorem map_bk {α β γ : Type} {x : Option α} {f : α → Option β} {g : β → γ} : (bk x f).map g = bk x fun a => (f a).map g := by cases x <;> rfl
theorem bk_ext {α β : Type} {x : Option α} {f f' : α → Option β} (h : ∀ a, f a = f' a) : bk x f = bk x f' := by
  cases x with
  | none => rfl
  | some a => exact h a
theorem bk_map {α β γ : Type} {x : Option α} {g : α → β} {f : β → Option γ} : bk (x.map g) f = bk x fun a => f (g a) := by cases x <;> rfl
section
variable {s : St} {fr : List (Nat × AV)}
theorem rf_arg {x : LOpd} (h : ∀ t ∈ x.uses, (s.rf fr).get t = s.get t) : (s.rf fr).arg x = s.arg x := by
  cases x with
  | t n => exact h n (by simp [LOpd.uses])
  | c v => rfl
  | f n => rfl
theorem rf_obj (z : Bool) (k : Nat) : (s.rf fr).obj z k = s.obj z k := rfl
theorem rf_put (z : Bool) (k : Nat) (o : AObj) : (s.rf fr).putObj z k o = (s.putObj z k o).rf fr := by cases z <;> rfl
theorem rf_new (z : Bool) (k : Nat) (o : AObj) : (s.rf fr).newObj z k o = (s.newObj z k o).map fun r => (r.1, r.2.rf fr) := by
  unfold St.newObj St.rf
  cases z
  · simp only [Bool.false_eq_true, if_false]
    split <;> rfl
  · rfl
theorem allM_congr {α β : Type} {f g : α → Option β} (h : ∀ a, f a = g a) : ∀ l, allM f l = allM g l
  | [] => rfl
  | a :: l => by simp only [allM, h a, allM_congr h l]
theorem rf_view : ∀ (d : Nat) (v : AV), view (s.rf fr) d v = view s d v
  | 0, v => by cases v <;> rfl
  | d + 1, v => by
    have ih := rf_view d
    have h1 := allM_congr (f := view (s.rf fr) d) (g := view s d) ih
    have h2 := allM_congr (f := allM (view (s.rf fr) d)) (g := allM (view s d)) h1
    cases v <;> simp only [view, rf_obj, h1, h2]
theorem rf_frz (v : AV) : frz (s.rf fr) v = (frz s v).map fun r => (r.1, r.2.rf fr) := by
  unfold frz
  split
  · simp only [rf_obj, rf_put]
    split
    · split <;> rfl
    · rfl
  · rw [Option.map_map]; rfl
theorem rf_hand : ∀ (l : List (LOpd × How)) (s : St), (∀ t ∈ l.flatMap fun p => p.1.uses, (s.rf fr).get t = s.get t) → hand (s.rf fr) l = (hand s l).map fun r => (r.1, r.2.1.rf fr, r.2.2)
  | [], s, _ => rfl
  | (x, how) :: l, s, h => by
    have hx := rf_arg (s := s) (fr := fr) (x := x) (fun t ht => h t (by simp [ht]))
    have hl : ∀ t ∈ l.flatMap fun p => p.1.uses, (s.rf fr).get t = s.get t := fun t ht => h t (by simp only [List.flatMap_cons, List.mem_append]; exact .inr ht)
    cases how with
    | as => simp only [hand, hx, rf_hand l s hl, bk_map, map_bk]; exact bk_ext fun _ => rfl
    | freeze =>
      simp only [hand, hx, rf_frz, bk_map, map_bk]
      cases hf : frz s (s.arg x) with
      | none => rfl
      | some r =>
        obtain ⟨p, s1⟩ := r
        have hs1 : s1.fr = s.fr := by
          unfold frz at hf
          split at hf
          · split at hf
            · split at hf
              · simp only [Option.some.injEq, Prod.mk.injEq] at hf
                rw [← hf.2]; exact putObj_fr
              · cases hf
            · cases hf
          · obtain ⟨v, _, hf⟩ := Option.map_eq_some_iff.1 hf
            simp only [Prod.mk.injEq] at hf
            rw [← hf.2]
        have hl1 : ∀ t ∈ l.flatMap fun p => p.1.uses, (s1.rf fr).get t = s1.get t := fun t ht => by
          have := hl t ht
          simp only [St.get, St.rf, hs1] at this ⊢
          exact this
        simp only [bk_some, rf_hand l s1 hl1, bk_map]
        exact bk_ext fun _ => rfl
    | look => simp only [hand, hx, rf_view, rf_hand l s hl, bk_map, map_bk]; exact bk_ext fun _ => bk_ext fun _ => rfl
    | fresh sz =>
      simp only [hand, hx]
      split
      · have := rf_hand l ⟨s.fr, s.l, s.g ++ [.pcells sz []]⟩ hl
        simp only [St.rf] at this ⊢
        simp only [this, bk_map, map_bk]
        exact bk_ext fun _ => rfl
      · rfl
theorem rf_owns {z : Bool} : ∀ (owns : List (Nat × Nat × Nat)) (s : St) (cs : List AV), newOwns z (s.rf fr) cs owns = (newOwns z s cs owns).map fun r => (r.1.rf fr, r.2)
  | [], s, cs => rfl
  | (c, k, sz) :: r, s, cs => by
    simp only [newOwns, rf_new, bk_map, map_bk]
    exact bk_ext fun a => rf_owns r _ _
theorem rf_bound {x : Option LOpd} {d : Int} (h : ∀ t ∈ optUses x, (s.rf fr).get t = s.get t) : bound (s.rf fr) x d = bound s x d := by
  cases x with
  | none => rfl
  | some x => simp only [bound, rf_arg (s := s) (fr := fr) (x := x) h]
theorem rf_appendTo (z : Bool) (k n sz bytes : Nat) (ob : AObj) (y : AV) : appendTo (s.rf fr) z k n sz bytes ob y = (appendTo s z k n sz bytes ob y).map fun r => (r.1, r.2.rf fr) := by
  unfold appendTo
  simp only [rf_put]
  repeat' split
  all_goals rfl
theorem rf_one (z : Bool) (k : Nat) : (s.rf fr).one z k = s.one z k := rfl
theorem rf_ptrEq (x y : AV) : ptrEq (s.rf fr) x y = ptrEq s x y := rfl
theorem rf_isNil (k : TK) (x : AV) : isNil (s.rf fr) k x = isNil s k x := rfl
theorem rf_avEq {k : TK} {x y : LOpd} (hx : (s.rf fr).arg x = s.arg x) (hy : (s.rf fr).arg y = s.arg y) : avEq (s.rf fr) k x y = avEq s k x y := by
  cases k <;> simp only [avEq, hx, hy, rf_ptrEq, rf_isNil]
theorem rf_args {l : List LOpd} (h : ∀ t ∈ l.flatMap LOpd.uses, (s.rf fr).get t = s.get t) : l.map (s.rf fr).arg = l.map s.arg := by
  refine List.map_congr_left fun x hx => rf_arg fun t ht => h t ?_
  simp only [List.mem_flatMap]
  exact ⟨x, hx, ht⟩

theorem eval_rf {C : Calls'} {op : LOp} (h : ∀ t ∈ op.uses, (s.rf fr).get t = s.get t) : evalOp C (s.rf fr) op = (evalOp C s op).map fun r => (r.1, r.2.rf fr) := by
  have one : ∀ {x : LOpd}, (∀ t ∈ x.uses, t ∈ op.uses) → (s.rf fr).arg x = s.arg x := fun hx => rf_arg fun t ht => h t (hx t ht)
  cases op with
  | move x => simp only [evalOp, one (x := x) (fun t ht => ht)]; rfl
  | nilown z k sz => simp only [evalOp, rf_new, bk_map, map_bk]; exact bk_ext fun _ => rfl
  | pick c a b =>
    simp only [evalOp, one (x := c) (fun t ht => by simp [LOp.uses, ht]), one (x := a) (fun t ht => by simp [LOp.uses, ht]), one (x := b) (fun t ht => by simp [LOp.uses, ht])]
    split <;> rfl
  | alloc z k zero owns => simp only [evalOp, rf_owns, bk_map, rf_new, map_bk]; exact bk_ext fun _ => bk_ext fun _ => rfl
  | box z k x =>
    simp only [evalOp, one (x := x) (fun t ht => ht), rf_new, bk_map, map_bk]
    refine bk_ext fun _ => ?_
    split
    · rw [map_bk]; rfl
    · rfl
  | build zero parts =>
    have : (parts.map fun (o, n, x) => (o, n, (s.rf fr).arg x)) = parts.map fun (o, n, x) => (o, n, s.arg x) := by
      refine List.map_congr_left fun p hp => ?_
      obtain ⟨o, n, x⟩ := p
      simp only [one (x := x) (fun t ht => by simp only [LOp.uses, List.mem_flatMap]; exact ⟨_, hp, ht⟩)]
    simp only [evalOp, this, map_bk]
    exact bk_ext fun _ => rfl
  | row sz parts =>
    simp only [evalOp, rf_args (s := s) (fr := fr) (l := parts) h, map_bk]
    refine bk_ext fun _ => ?_
    split <;> rfl
  | rowOwn z k sz parts =>
    simp only [evalOp, rf_args (s := s) (fr := fr) (l := parts) h, rf_new, bk_map, map_bk]
    refine bk_ext fun _ => ?_
    split
    · rw [map_bk]; rfl
    · rfl
  | load sz agg a =>
    simp only [evalOp, one (x := a) (fun t ht => ht), rf_obj]
    split
    · rw [map_bk]; rfl
    · rw [map_bk]; refine bk_ext fun _ => ?_; rw [map_bk]; rfl
    · rfl
  | store sz agg a v =>
    simp only [evalOp, one (x := a) (fun t ht => by simp [LOp.uses, ht]), one (x := v) (fun t ht => by simp [LOp.uses, ht]), rf_obj, rf_put]
    split
    · rw [map_bk]
      refine bk_ext fun _ => ?_
      split
      · rw [map_bk]; refine bk_ext fun _ => ?_; rw [map_bk]; rfl
      · rfl
    · rfl
  | nilCheck x => simp only [evalOp, one (x := x) (fun t ht => ht)]; split <;> rfl
  | bin op x y =>
    simp only [evalOp, one (x := x) (fun t ht => by simp [LOp.uses, ht]), one (x := y) (fun t ht => by simp [LOp.uses, ht]), map_bk]
    exact bk_ext fun _ => rfl
  | eq k neg x y =>
    simp only [evalOp, rf_avEq (one (x := x) (fun t ht => by simp [LOp.uses, ht])) (one (x := y) (fun t ht => by simp [LOp.uses, ht])), map_bk]
    exact bk_ext fun _ => rfl
  | un op x => simp only [evalOp, one (x := x) (fun t ht => ht), map_bk]; exact bk_ext fun _ => rfl
  | toInt k x => simp only [evalOp, one (x := x) (fun t ht => ht), map_bk]; exact bk_ext fun _ => rfl
  | toBytes x =>
    simp only [evalOp, one (x := x) (fun t ht => ht)]
    split
    · split <;> rfl
    · rfl
  | toStr b x =>
    cases b <;> simp only [evalOp, one (x := x) (fun t ht => ht)] <;> split
    · rw [map_bk]; rfl
    all_goals rfl
  | makeFunc f caps => simp only [evalOp, rf_args (s := s) (fr := fr) (l := caps) h]; rfl
  | stuck => rfl
  | makeMap z k => simp only [evalOp, rf_new, bk_map, map_bk]; exact bk_ext fun _ => rfl
  | makeRow z k sz bytes zero x y =>
    simp only [evalOp, one (x := x) (fun t ht => by simp [LOp.uses, ht]), one (x := y) (fun t ht => by simp [LOp.uses, ht]), rf_new, bk_map, map_bk]
    refine bk_ext fun _ => bk_ext fun _ => ?_
    split
    · rw [map_bk]; rfl
    · rfl
  | slice b sz x lo hi =>
    have h1 := one (x := x) (fun t ht => by simp [LOp.uses, ht])
    have h2 : ∀ d, bound (s.rf fr) lo d = bound s lo d := fun d => rf_bound fun t ht => h t (by simp [LOp.uses, ht])
    have h3 : ∀ d, bound (s.rf fr) hi d = bound s hi d := fun d => rf_bound fun t ht => h t (by simp [LOp.uses, ht])
    cases b
    · simp only [evalOp, h1, h2, h3, rf_obj, rf_put]
      split
      · rw [map_bk]; refine bk_ext fun _ => ?_; rw [map_bk]; refine bk_ext fun _ => ?_; split <;> rfl
      · split
        · rw [map_bk]; refine bk_ext fun _ => ?_; rw [map_bk]; refine bk_ext fun _ => ?_; split <;> rfl
        · rfl
      · rw [map_bk]; refine bk_ext fun _ => ?_; rw [map_bk]; refine bk_ext fun _ => ?_; rw [map_bk]; refine bk_ext fun _ => ?_; split <;> rfl
      · rfl
    · simp only [evalOp, h1, h2, h3]
      split
      · rw [map_bk]; refine bk_ext fun _ => ?_; rw [map_bk]; refine bk_ext fun _ => ?_; split <;> rfl
      · rfl
  | fieldAddr off x =>
    simp only [evalOp, one (x := x) (fun t ht => ht)]
    split
    · split <;> rfl
    · rfl
    · rfl
  | field off sz agg x =>
    simp only [evalOp, one (x := x) (fun t ht => ht)]
    split
    · split <;> rfl
    · split <;> rfl
    · rfl
  | indexAddr sz x i =>
    simp only [evalOp, one (x := x) (fun t ht => by simp [LOp.uses, ht]), one (x := i) (fun t ht => by simp [LOp.uses, ht]), rf_obj, map_bk]
    refine bk_ext fun _ => ?_
    split
    · split <;> rfl
    · rw [map_bk]
      refine bk_ext fun _ => ?_
      split
      · split <;> rfl
      · split <;> rfl
      · rfl
    · rfl
  | indexArr len sz x i =>
    simp only [evalOp, one (x := x) (fun t ht => by simp [LOp.uses, ht]), one (x := i) (fun t ht => by simp [LOp.uses, ht]), rf_obj, map_bk]
    refine bk_ext fun _ => ?_
    split
    · split
      · split <;> rfl
      · rfl
      · rfl
    · rfl
  | index x i =>
    simp only [evalOp, one (x := x) (fun t ht => by simp [LOp.uses, ht]), one (x := i) (fun t ht => by simp [LOp.uses, ht]), rf_obj, map_bk]
    refine bk_ext fun _ => ?_
    split
    · split <;> rfl
    · rfl
  | lookup kk zero ok m key =>
    simp only [evalOp, one (x := m) (fun t ht => by simp [LOp.uses, ht]), one (x := key) (fun t ht => by simp [LOp.uses, ht]), rf_obj]
    split
    · rw [map_bk]
      refine bk_ext fun _ => ?_
      split <;> rfl
    · rfl
  | mapUpdate kk m key v =>
    simp only [evalOp, one (x := m) (fun t ht => by simp [LOp.uses, ht]), one (x := key) (fun t ht => by simp [LOp.uses, ht]), one (x := v) (fun t ht => by simp [LOp.uses, ht]), rf_obj, rf_put]
    split
    · split
      · split <;> rfl
      · rfl
    · rfl
  | extract x ix =>
    simp only [evalOp, one (x := x) (fun t ht => ht)]
    split
    · split <;> rfl
    · rfl
  | len k x =>
    rcases k with _ | _ | k <;> simp only [evalOp, one (x := x) (fun t ht => ht), rf_obj] <;> split <;> try rfl
    split <;> rfl
  | append z k sz bytes x y =>
    simp only [evalOp, one (x := x) (fun t ht => by simp [LOp.uses, ht]), one (x := y) (fun t ht => by simp [LOp.uses, ht]), rf_obj, rf_appendTo, rf_new, bk_map]
    split
    · rw [map_bk]
    · rw [map_bk]
    · rfl
  | copy sz d x =>
    simp only [evalOp, one (x := d) (fun t ht => by simp [LOp.uses, ht]), one (x := x) (fun t ht => by simp [LOp.uses, ht]), rf_obj, rf_put]
    split
    · rw [map_bk]
      refine bk_ext fun _ => ?_
      split
      · split <;> rfl
      · rfl
    · rfl
  | minI x y =>
    simp only [evalOp, one (x := x) (fun t ht => by simp [LOp.uses, ht]), one (x := y) (fun t ht => by simp [LOp.uses, ht])]
    split <;> rfl
  | maxI x y =>
    simp only [evalOp, one (x := x) (fun t ht => by simp [LOp.uses, ht]), one (x := y) (fun t ht => by simp [LOp.uses, ht])]
    split <;> rfl
  | delete kk m key =>
    simp only [evalOp, one (x := m) (fun t ht => by simp [LOp.uses, ht]), one (x := key) (fun t ht => by simp [LOp.uses, ht]), rf_obj, rf_put]
    split
    · split
      · split <;> rfl
      · rfl
    · rfl
  | call f l =>
    simp only [evalOp, rf_hand l s h, bk_map, map_bk]
    refine bk_ext fun _ => ?_
    split
    · rw [map_bk]; rfl
    · rfl
  | callv f l =>
    simp only [evalOp, one (x := f) (fun t ht => by simp [LOp.uses, ht]), rf_hand l s (fun t ht => h t (by simp only [LOp.uses, List.mem_append]; exact .inr ht)), bk_map]
    split
    · rw [map_bk]
      refine bk_ext fun _ => ?_
      split
      · rw [map_bk]; rfl
      · rfl
    · rfl
  | pcall f l =>
    simp only [evalOp, rf_hand l s h, bk_map, map_bk]
    refine bk_ext fun _ => ?_
    split
    · rw [map_bk]
      refine bk_ext fun _ => ?_
      rw [map_bk]
      refine bk_ext fun _ => ?_
      split <;> rfl
    · rfl
/-- The same operation from another frame that has the same operands. -/
theorem eval_congr {C : Calls'} {op : LOp} {av : AV} {s s' s2 : St} (h : evalOp C s op = some (av, s')) (hl : s2.l = s.l) (hg : s2.g = s.g) (hu : ∀ t ∈ op.uses, s2.get t = s.get t) : evalOp C s2 op = some (av, s'.rf s2.fr) := by
  have e : s2 = s.rf s2.fr := by cases s2; cases s; simp_all [St.rf]
  rw [e, eval_rf (s := s) (fr := s2.fr) (op := op) (fun t ht => by rw [← e]; exact hu t ht), h]
  rfl
end
end Go.TA

/-! ## Draw1 -/
namespace Go.TA

mutual
theorem PV.same_eq : ∀ {a b : PV}, PV.same a b = true → a = b
  | .bool a, b, h => by cases b <;> simp [PV.same] at h; rw [h]
  | .int k a, b, h => by cases b <;> simp [PV.same] at h; rw [h.1, h.2]
  | .str a, b, h => by cases b <;> simp [PV.same] at h; rw [h]
  | .nilp, b, h => by cases b <;> simp [PV.same] at h; rfl
  | .nilm, b, h => by cases b <;> simp [PV.same] at h; rfl
  | .nilf, b, h => by cases b <;> simp [PV.same] at h; rfl
  | .nili, b, h => by cases b <;> simp [PV.same] at h; rfl
  | .list a, b, h => by cases b <;> simp [PV.same] at h; rw [PV.sameLL_eq h]
  | .agg a, b, h => by cases b <;> simp [PV.same] at h; rw [PV.sameL_eq h]
theorem PV.sameL_eq : ∀ {a b : List PV}, PV.sameL a b = true → a = b
  | [], b, h => by cases b <;> simp [PV.sameL] at h; rfl
  | a :: l, b, h => by
    cases b <;> simp [PV.sameL] at h
    rw [PV.same_eq h.1, PV.sameL_eq h.2]
theorem PV.sameLL_eq : ∀ {a b : List (List PV)}, PV.sameLL a b = true → a = b
  | [], b, h => by cases b <;> simp [PV.sameLL] at h; rfl
  | a :: l, b, h => by
    cases b <;> simp [PV.sameLL] at h
    rw [PV.sameL_eq h.1, PV.sameLL_eq h.2]
end
mutual
theorem AV.same_eq : ∀ {a b : AV}, AV.same a b = true → a = b
  | .bot, b, h => by cases b <;> simp [AV.same] at h; rfl
  | .p a, b, h => by cases b <;> simp [AV.same] at h; rw [PV.same_eq h]
  | .rop a, b, h => by cases b <;> simp [AV.same] at h; rw [PV.sameL_eq h]
  | .ptr z k sz n i j, b, h => by cases b <;> simp [AV.same] at h; simp [h]
  | .own z k n, b, h => by cases b <;> simp [AV.same] at h; simp [h]
  | .nils, b, h => by cases b <;> simp [AV.same] at h; rfl
  | .lit a, b, h => by cases b <;> simp [AV.same] at h; rw [AV.sameLL_eq h]
  | .map z k, b, h => by cases b <;> simp [AV.same] at h; simp [h]
  | .func f a, b, h => by cases b <;> simp [AV.same] at h; rw [h.1, AV.sameL_eq h.2]
  | .agg a, b, h => by cases b <;> simp [AV.same] at h; rw [AV.sameL_eq h]
  | .tuple a, b, h => by cases b <;> simp [AV.same] at h; rw [AV.sameL_eq h]
theorem AV.sameL_eq : ∀ {a b : List AV}, AV.sameL a b = true → a = b
  | [], b, h => by cases b <;> simp [AV.sameL] at h; rfl
  | a :: l, b, h => by
    cases b <;> simp [AV.sameL] at h
    rw [AV.same_eq h.1, AV.sameL_eq h.2]
theorem AV.sameLL_eq : ∀ {a b : List (List AV)}, AV.sameLL a b = true → a = b
  | [], b, h => by cases b <;> simp [AV.sameLL] at h; rfl
  | a :: l, b, h => by
    cases b <;> simp [AV.sameLL] at h
    rw [AV.sameL_eq h.1, AV.sameLL_eq h.2]
end

def guardUses : Option (Nat × Bool) → List Nat
  | some (t, _) => [t]
  | none => []
def LOper.uses (x : LOper) : List Nat := guardUses x.guard ++ x.op.uses
/-- Operations that do not look at any block. -/
def LOp.blind : LOp → Bool
  | .move _ | .pick .. | .build .. | .row .. | .nilCheck _ | .bin .. | .un .. | .toInt .. | .toBytes _ | .toStr .. | .makeFunc .. | .fieldAddr .. | .field .. | .indexArr .. | .index .. | .extract .. | .minI .. | .maxI .. => true
  | .eq k .. => match k with
    | .b | .i | .s | .st _ => true
    | _ => false
  | .slice b .. => b
  | .len k _ => k == 0 || k == 1
  | _ => false
section
variable {C : Calls'}
theorem blind_eval {op : LOp} (hb : op.blind = true) {s s2 : St} {av : AV} {s' : St} (h : evalOp C s op = some (av, s')) (hf : s2.fr = s.fr) : evalOp C s2 op = some (av, s2) := by
  have ha : ∀ x : LOpd, s2.arg x = s.arg x := fun x => by cases x <;> simp [St.arg, St.get, hf]
  have hbd : ∀ (x : Option LOpd) (d : Int), bound s2 x d = bound s x d := fun x d => by cases x <;> simp [bound, ha]
  have key : ∀ {x y : Option (AV × St)}, x = some (av, s') → y = x.map (fun r => (r.1, s2)) → y = some (av, s2) := fun h1 h2 => by rw [h2, h1]; rfl
  refine key h ?_
  cases op with
  | eq k neg x y => cases k <;> simp [LOp.blind] at hb <;> simp only [evalOp, avEq, ha, map_bk] <;> exact bk_ext fun _ => rfl
  | slice b sz x lo hi =>
    simp only [LOp.blind] at hb
    subst hb
    simp only [evalOp, ha, hbd]
    split
    · rw [map_bk]; refine bk_ext fun _ => ?_; rw [map_bk]; refine bk_ext fun _ => ?_; split <;> rfl
    · rfl
  | len k x =>
    rcases k with _ | _ | k
    · simp only [evalOp, ha]; split <;> rfl
    · simp only [evalOp, ha]; split <;> rfl
    · simp [LOp.blind] at hb
  | toStr b x =>
    cases b <;> simp only [evalOp, ha] <;> split
    · rw [map_bk]; rfl
    all_goals rfl
  | build zero parts =>
    simp only [evalOp, ha, map_bk]
    exact bk_ext fun _ => rfl
  | row sz parts =>
    have : s2.arg = s.arg := funext ha
    simp only [evalOp, this, map_bk]
    refine bk_ext fun _ => ?_
    split <;> rfl
  | makeFunc f caps =>
    have : s2.arg = s.arg := funext ha
    simp only [evalOp, this]; rfl
  | indexArr len sz x i =>
    simp only [evalOp, ha, map_bk]
    refine bk_ext fun _ => ?_
    split
    · split
      · split <;> rfl
      · rfl
      · rfl
    · rfl
  | index x i =>
    simp only [evalOp, ha, map_bk]
    refine bk_ext fun _ => ?_
    split
    · split <;> rfl
    · rfl
  | fieldAddr off x =>
    simp only [evalOp, ha]
    split
    · split <;> rfl
    · rfl
    · rfl
  | field off sz agg x =>
    simp only [evalOp, ha]
    split
    · split <;> rfl
    · split <;> rfl
    · rfl
  | toBytes x =>
    simp only [evalOp, ha]
    split
    · split <;> rfl
    · rfl
  | extract x ix =>
    simp only [evalOp, ha]
    split
    · split <;> rfl
    · rfl
  | pick c a b => simp only [evalOp, ha]; split <;> rfl
  | nilCheck x => simp only [evalOp, ha]; split <;> rfl
  | minI x y => simp only [evalOp, ha]; split <;> rfl
  | maxI x y => simp only [evalOp, ha]; split <;> rfl
  | move x => simp only [evalOp, ha]; rfl
  | bin op x y => simp only [evalOp, ha, map_bk]; exact bk_ext fun _ => rfl
  | un op x => simp only [evalOp, ha, map_bk]; exact bk_ext fun _ => rfl
  | toInt k x => simp only [evalOp, ha, map_bk]; exact bk_ext fun _ => rfl
  | _ => simp [LOp.blind] at hb

/-- What a step comes to, in general: a value for its destination, and blocks. -/
theorem opt_get (s : St) (d : Option Nat) (v : AV) (t : Nat) : (opt' s d v).get t = if d = some t then v else s.get t := by
  cases d with
  | none => simp [opt']
  | some d =>
    simp only [opt', get_set, Option.some.injEq]
    by_cases e : t = d
    · subst e; simp
    · have : ¬ d = t := fun h => e h.symm
      simp [e, this]
theorem be_eq {x : Option (AV × St)} {d : Option Nat} {s' : St} (h : be x d = some s') : ∃ v s1, x = some (v, s1) ∧ s' = opt' s1 d v := by
  unfold be at h
  obtain ⟨⟨v, s1⟩, h1, h2⟩ := Option.bind_eq_some_iff.1 h
  simp only [putK, Option.some.injEq] at h2
  exact ⟨v, s1, h1, h2.symm⟩
theorem be_mk (v : AV) (s1 : St) (d : Option Nat) : be (some (v, s1)) d = some (opt' s1 d v) := rfl
theorem eval_get {op : LOp} {av : AV} {s s' : St} (h : evalOp C s op = some (av, s')) (t : Nat) : s'.get t = s.get t := by simp [St.get, eval_fr h]
/-- The guard says so; or not. -/
def Off (x : LOper) (s : St) : Prop := ∃ t b, x.guard = some (t, b) ∧ (s.get t = .p (.bool !b) ∨ ∃ l, s.get t = .tuple l)
def On (x : LOper) (s : St) : Prop := x.guard = none ∨ ∃ t b, x.guard = some (t, b) ∧ s.get t = .p (.bool b)
theorem step_inv {x : LOper} {s s' : St} (h : stepOp C x s = some s') : ∃ v, (∀ t, s'.get t = if x.dst = some t then v else s.get t) ∧
    ((On x s ∧ evalOp C s x.op = some (v, ⟨s.fr, s'.l, s'.g⟩)) ∨ (Off x s ∧ v = .tuple [] ∧ s'.l = s.l ∧ s'.g = s.g)) := by
  unfold stepOp at h
  split at h
  · rename_i hg
    obtain ⟨v, s1, h1, rfl⟩ := be_eq h
    refine ⟨v, fun t => by rw [opt_get, eval_get h1], .inl ⟨.inl hg, ?_⟩⟩
    rw [h1, opt_l, opt_g, ← eval_fr h1]
  · rename_i t b hg
    unfold guardK at h
    split at h
    · rename_i cb hv
      split at h
      · rename_i e
        subst e
        obtain ⟨v, s1, h1, rfl⟩ := be_eq h
        have hs : ∀ u, (s.set t (.p (.bool cb))).get u = s.get u := fun u => by
          rw [get_set]; split
          · rename_i e; rw [e, hv]
          · rfl
        have h2 := eval_congr (s2 := s) h1 rfl rfl (fun u _ => (hs u).symm)
        refine ⟨v, fun u => by rw [opt_get, eval_get h1, hs], .inl ⟨.inr ⟨t, cb, hg, hv⟩, ?_⟩⟩
        rw [h2, opt_l, opt_g]; rfl
      · rename_i e
        have hcb : cb = !b := by cases cb <;> cases b <;> simp_all
        simp only [Option.some.injEq] at h
        subst h
        refine ⟨.tuple [], fun u => ?_, .inr ⟨⟨t, b, hg, .inl (by rw [hv, hcb])⟩, rfl, by rw [opt_l]; rfl, by rw [opt_g]; rfl⟩⟩
        rw [opt_get, get_set]
        split
        · rfl
        · split
          · rename_i e; rw [e, hv, hcb]
          · rfl
    · rename_i l hv
      simp only [Option.some.injEq] at h
      subst h
      exact ⟨.tuple [], fun u => by rw [opt_get], .inr ⟨⟨t, b, hg, .inr ⟨l, hv⟩⟩, rfl, by rw [opt_l], by rw [opt_g]⟩⟩
    · cases h
theorem step_on {x : LOper} {s s1 : St} {v : AV} (hon : On x s) (h : evalOp C s x.op = some (v, s1)) : ∃ s', stepOp C x s = some s' ∧ s'.l = s1.l ∧ s'.g = s1.g ∧ ∀ t, s'.get t = if x.dst = some t then v else s.get t := by
  unfold stepOp
  rcases hon with hg | ⟨t, b, hg, hv⟩
  · rw [hg]
    refine ⟨opt' s1 x.dst v, by simp only [h, be_mk], by rw [opt_l], by rw [opt_g], fun t => by rw [opt_get, eval_get h]⟩
  · rw [hg]
    have hs : ∀ u, (s.set t (.p (.bool b))).get u = s.get u := fun u => by
      rw [get_set]; split
      · rename_i e; rw [e, hv]
      · rfl
    have h2 := eval_congr (s2 := s.set t (.p (.bool b))) h rfl rfl (fun u _ => hs u)
    refine ⟨opt' (s1.rf (s.set t (.p (.bool b))).fr) x.dst v, by simp only [guardK, hv, if_true, h2, be_mk], by rw [opt_l]; rfl, by rw [opt_g]; rfl, fun u => ?_⟩
    rw [opt_get]
    split
    · rfl
    · exact hs u
theorem step_off {x : LOper} {s : St} (hoff : Off x s) : ∃ s', stepOp C x s = some s' ∧ s'.l = s.l ∧ s'.g = s.g ∧ ∀ t, s'.get t = if x.dst = some t then .tuple [] else s.get t := by
  obtain ⟨t, b, hg, hv⟩ := hoff
  unfold stepOp
  rw [hg]
  rcases hv with hv | ⟨l, hv⟩
  · refine ⟨opt' (s.set t (.p (.bool !b))) x.dst (.tuple []), by simp [guardK, hv], by rw [opt_l]; rfl, by rw [opt_g]; rfl, fun u => ?_⟩
    rw [opt_get, get_set]
    split
    · rfl
    · split
      · rename_i e; rw [e, hv]
      · rfl
  · exact ⟨opt' s x.dst (.tuple []), by simp [guardK, hv], by rw [opt_l], by rw [opt_g], fun u => by rw [opt_get]⟩
theorem On.same {x : LOper} {s s2 : St} (h : On x s) (hu : ∀ t ∈ x.uses, s2.get t = s.get t) : On x s2 := by
  rcases h with h | ⟨t, b, hg, hv⟩
  · exact .inl h
  · exact .inr ⟨t, b, hg, by rw [hu t (by simp [LOper.uses, hg, guardUses]), hv]⟩
theorem Off.same {x : LOper} {s s2 : St} (h : Off x s) (hu : ∀ t ∈ x.uses, s2.get t = s.get t) : Off x s2 := by
  obtain ⟨t, b, hg, hv⟩ := h
  exact ⟨t, b, hg, by rw [hu t (by simp [LOper.uses, hg, guardUses])]; exact hv⟩
/-- The same step from another frame. -/
theorem step_congr {x : LOper} {s s' s2 : St} (h : stepOp C x s = some s') (hl : s2.l = s.l) (hg : s2.g = s.g) (hu : ∀ t ∈ x.uses, s2.get t = s.get t) :
    ∃ s2', stepOp C x s2 = some s2' ∧ s2'.l = s'.l ∧ s2'.g = s'.g ∧ ∀ t, s2'.get t = if x.dst = some t then s'.get t else s2.get t := by
  obtain ⟨v, hv, h1⟩ := step_inv h
  have fin : ∀ {s2' : St}, (∀ t, s2'.get t = if x.dst = some t then v else s2.get t) → ∀ t, s2'.get t = if x.dst = some t then s'.get t else s2.get t := fun hh t => by
    rw [hh t, hv t]
    split <;> rfl
  rcases h1 with ⟨hon, he⟩ | ⟨hoff, rfl, h1, h2⟩
  · have he2 := eval_congr (s2 := s2) he hl hg (fun t ht => hu t (by simp [LOper.uses, ht]))
    obtain ⟨s2', a1, a2, a3, a4⟩ := step_on (hon.same hu) he2
    exact ⟨s2', a1, a2, a3, fin a4⟩
  · obtain ⟨s2', a1, a2, a3, a4⟩ := step_off (C := C) (hoff.same hu)
    exact ⟨s2', a1, by rw [a2, hl, h1], by rw [a3, hg, h2], fin a4⟩
/-- The same step, of an operation that looks at no block, whatever the blocks. -/
theorem step_blind {x : LOper} (hb : x.op.blind = true) {s s' s2 : St} (h : stepOp C x s = some s') (hu : ∀ t ∈ x.uses, s2.get t = s.get t) :
    ∃ s2', stepOp C x s2 = some s2' ∧ s2'.l = s2.l ∧ s2'.g = s2.g ∧ ∀ t, s2'.get t = if x.dst = some t then s'.get t else s2.get t := by
  obtain ⟨v, hv, h1⟩ := step_inv h
  have fin : ∀ {s2' : St}, (∀ t, s2'.get t = if x.dst = some t then v else s2.get t) → ∀ t, s2'.get t = if x.dst = some t then s'.get t else s2.get t := fun hh t => by
    rw [hh t, hv t]
    split <;> rfl
  rcases h1 with ⟨hon, he⟩ | ⟨hoff, rfl, h1, h2⟩
  · have he1 := blind_eval hb he (s2 := ⟨s.fr, s2.l, s2.g⟩) rfl
    have he2 := eval_congr (s2 := s2) he1 rfl rfl (fun t ht => hu t (by simp [LOper.uses, ht]))
    obtain ⟨s2', a1, a2, a3, a4⟩ := step_on (hon.same hu) he2
    exact ⟨s2', a1, a2, a3, fin a4⟩
  · obtain ⟨s2', a1, a2, a3, a4⟩ := step_off (C := C) (hoff.same hu)
    exact ⟨s2', a1, a2, a3, fin a4⟩
theorem step_calm {x : LOper} (hc : x.op.calm = true) {s s' : St} (h : stepOp C x s = some s') : s'.l = s.l ∧ s'.g = s.g := by
  obtain ⟨v, hv, h1⟩ := step_inv h
  rcases h1 with ⟨hon, he⟩ | ⟨hoff, rfl, h1, h2⟩
  · have := calm_same hc he
    have e1 := congrArg St.l this
    have e2 := congrArg St.g this
    exact ⟨e1, e2⟩
  · exact ⟨h1, h2⟩
theorem step_get {x : LOper} {s s' : St} (h : stepOp C x s = some s') {t : Nat} (ht : x.dst ≠ some t) : s'.get t = s.get t := by
  obtain ⟨v, hv, _⟩ := step_inv h
  rw [hv t, if_neg ht]
/-- Looked at once more, it comes to the same. -/
theorem again_step {x : LOper} {s : St} (h : againX C s x = true) : ∃ s', stepOp C x s = some s' ∧ ∀ t, s'.get t = s.get t := by
  have same : ∀ {v : AV} {s' : St}, sameAt s x.dst v = true → (∀ t, s'.get t = if x.dst = some t then v else s.get t) → ∀ t, s'.get t = s.get t := by
    intro v s' hs hh t
    rw [hh t]
    split
    · rename_i e
      rw [e] at hs
      exact AV.same_eq hs
    · rfl
  have ev : On x s → againEv s x.dst (evalOp C s x.op) = true → ∃ s', stepOp C x s = some s' ∧ ∀ t, s'.get t = s.get t := by
    intro hon he
    cases hx : evalOp C s x.op with
    | none => rw [hx] at he; simp [againEv] at he
    | some r =>
      obtain ⟨v, s1⟩ := r
      rw [hx] at he
      obtain ⟨s', a1, a2, a3, a4⟩ := step_on hon hx
      exact ⟨s', a1, same he a4⟩
  have off : Off x s → sameAt s x.dst (.tuple []) = true → ∃ s', stepOp C x s = some s' ∧ ∀ t, s'.get t = s.get t := by
    intro hoff he
    obtain ⟨s', a1, a2, a3, a4⟩ := step_off (C := C) hoff
    exact ⟨s', a1, same he a4⟩
  unfold againX at h
  split at h
  · rename_i hg; exact ev (.inl hg) h
  · rename_i t b hg
    unfold againG at h
    split at h
    · rename_i cb hv
      rw [hg] at h
      simp only at h
      split at h
      · rename_i e; subst e; exact ev (.inr ⟨t, _, hg, hv⟩) h
      · rename_i e
        have hcb : cb = !b := by cases cb <;> cases b <;> simp_all
        exact off ⟨t, b, hg, .inl (by rw [hv, hcb])⟩ h
    · rename_i l hv; exact off ⟨t, b, hg, .inr ⟨l, hv⟩⟩ h
    · cases h
end
end Go.TA

/-! ## Draw2 -/
namespace Go.TA

/-! ### what is to be checked of such a region -/
def dflt : LOper := { dst := none, op := .move (.c .nilp) }
def atP (xs : List LOper) (p : Nat) : LOper := xs.getD p dflt
def edges (ops : Array Oper) (i : Nat) : List Nat := match ops[i]? with
  | some o => (o.after.toList.filter (Region.binds .any)).map (·.on)
  | none => []
def isSome' : Option Nat → Nat → Bool
  | some d, t => d == t
  | none, _ => false
def anyUse : Option Nat → List Nat → Bool
  | some d, l => l.contains d
  | none, _ => false
def sameDst : Option Nat → Option Nat → Bool
  | some a, some b => a == b
  | _, _ => false
/-- Between q and p nothing that q looks at, or makes, is made anew. -/
def keptBetween (xs : List LOper) (q p : Nat) : Bool :=
  !anyUse (atP xs q).dst (atP xs q).uses && (List.range (p + 1)).all fun r => r ≤ q || (!anyUse (atP xs r).dst (atP xs q).uses && !sameDst (atP xs r).dst (atP xs q).dst)
def pairOk (M : Array Nat) (xs : List LOper) (q p : Nat) : Bool :=
  let a := atP xs q
  let b := atP xs p
  let bit := (M.getD b.ix 0).testBit a.ix
  a.ix != b.ix && (bit || (!anyUse b.dst a.uses && !sameDst b.dst a.dst && !anyUse a.dst b.uses && a.op.calm &&
    (b.op.calm || a.op.blind || (b.again.contains a.ix && keptBetween xs q p))))
def matOk (M : Array Nat) (ops : Array Oper) : Bool :=
  (List.range ops.size).all fun j => (List.range ops.size).all fun i => !(M.getD j 0).testBit i || (edges ops j).any fun e => e == i || (M.getD e 0).testBit i
def linOk (ops : Array Oper) (xs : List LOper) : Bool :=
  (List.range xs.length).all fun p => (edges ops (atP xs p).ix).all fun e => (List.range p).any fun q => (atP xs q).ix == e
def allOk (P : Program) (n : Nat) (ops : Array Oper) (xs : List LOper) : Bool :=
  (List.range xs.length).all fun p => match ops[(atP xs p).ix]? with
    | some o => operOk P n ops (atP xs p) o
    | none => false
def drawOk (P : Program) (n : Nat) (ops : Array Oper) (xs : List LOper) : Bool :=
  Region.noSelect ops && xs.length == ops.size && (List.range ops.size).all (fun i => (List.range xs.length).any fun p => (atP xs p).ix == i) &&
  allOk P n ops xs && linOk ops xs && matOk (Region.before ops) ops && (List.range xs.length).all fun p => (List.range p).all fun q => pairOk (Region.before ops) xs q p

/-! ### the run, place by place -/
section
variable {C : Calls'}
theorem findIx_done : ∀ {l : List LOper} {j : Nat} {x : LOper}, findIx l j = some x → x ∈ l ∧ x.ix = j
  | [], j, x, h => by simp [findIx] at h
  | a :: l, j, x, h => by
    simp only [findIx] at h
    split at h
    · rename_i e
      simp only [Option.some.injEq] at h
      subst h
      exact ⟨by simp, by simpa using e⟩
    · obtain ⟨h1, h2⟩ := findIx_done h
      exact ⟨by simp [h1], h2⟩
theorem runD_trace : ∀ (xs done : List LOper) {s s' : St}, runD C done xs s = some s' → ∃ σ : Nat → St, σ 0 = s ∧ σ xs.length = s' ∧
    ∀ p, p < xs.length → stepOp C (atP xs p) (σ p) = some (σ (p + 1)) ∧ (atP xs p).again.all (againOne C ((xs.take p).reverse ++ done) (σ (p + 1))) = true
  | [], done, s, s', h => by
    simp only [runD, Option.some.injEq] at h
    exact ⟨fun _ => s, rfl, h, fun p hp => by simp at hp⟩
  | x :: xs, done, s, s', h => by
    simp only [runD, stepD] at h
    obtain ⟨s1, h1, h2⟩ := Option.bind_eq_some_iff.1 h
    obtain ⟨s0, h0, h1⟩ := Option.bind_eq_some_iff.1 h1
    unfold againK at h1
    split at h1
    rotate_left
    · cases h1
    rename_i hag
    simp only [Option.some.injEq] at h1
    subst h1
    obtain ⟨σ, e0, e1, e2⟩ := runD_trace xs (x :: done) h2
    refine ⟨fun p => match p with | 0 => s | p + 1 => σ p, rfl, e1, fun p hp => ?_⟩
    cases p with
    | zero =>
      simp only [List.take_zero, List.reverse_nil, List.nil_append, e0]
      exact ⟨h0, hag⟩
    | succ p =>
      have := e2 p (by simpa using hp)
      simp only [List.take_succ_cons, List.reverse_cons, List.append_assoc, List.singleton_append]
      exact this
end

/-- The value that a temporary has, once these places are done. -/
def curV (b : Nat → AV) (W : Nat → Option Nat) (v : Nat → AV) (D : Nat → Bool) : Nat → Nat → AV
  | 0, t => b t
  | p + 1, t => if D p = true ∧ W p = some t then v p else curV b W v D p t
section
variable {b : Nat → AV} {W : Nat → Option Nat} {v : Nat → AV} {D : Nat → Bool}
theorem curV_low {t : Nat} : ∀ {p n : Nat}, p ≤ n → (∀ q, p ≤ q → q < n → W q = some t → D q = false) → curV b W v D n t = curV b W v D p t
  | p, 0, h, _ => by have : p = 0 := by omega
                     subst this; rfl
  | p, n + 1, h, hD => by
    by_cases e : p = n + 1
    · subst e; rfl
    · simp only [curV]
      have : ¬ (D n = true ∧ W n = some t) := fun ⟨h1, h2⟩ => by rw [hD n (by omega) (by omega) h2] at h1; cases h1
      rw [if_neg this]
      exact curV_low (by omega) (fun q h1 h2 h3 => hD q h1 (by omega) h3)
theorem curV_all {t : Nat} : ∀ {p : Nat}, (∀ q, q < p → W q = some t → D q = true) → curV b W v D p t = curV b W v (fun _ => true) p t
  | 0, _ => rfl
  | p + 1, h => by
    simp only [curV]
    have ih := curV_all (p := p) (fun q h1 h2 => h q (by omega) h2)
    by_cases e : W p = some t
    · simp [e, h p (by omega) e]
    · simp [e, ih]
theorem curV_at {t p n : Nat} (hp : p ≤ n) (h1 : ∀ q, q < p → W q = some t → D q = true) (h2 : ∀ q, p ≤ q → q < n → W q = some t → D q = false) : curV b W v D n t = curV b W v (fun _ => true) p t := by
  rw [curV_low hp h2, curV_all h1]
/-- One place more. -/
def more (D : Nat → Bool) (p : Nat) : Nat → Bool := fun q => if q = p then true else D q
theorem curV_more_ne {t p : Nat} (hW : W p ≠ some t) : ∀ n, curV b W v (more D p) n t = curV b W v D n t
  | 0 => rfl
  | n + 1 => by
    simp only [curV, curV_more_ne hW n]
    by_cases e : n = p
    · subst e; simp [hW]
    · simp [more, e]
theorem curV_more_eq {t p n : Nat} (hp : p < n) (hW : W p = some t) (h2 : ∀ q, p < q → q < n → W q = some t → D q = false) : curV b W v (more D p) n t = v p := by
  rw [curV_low (p := p + 1) (by omega) (fun q h1 h3 h4 => by
    have : q ≠ p := by omega
    simp only [more, if_neg this]; exact h2 q (by omega) h3 h4)]
  simp [curV, more, hW]
/-- A frame with these values. -/
theorem curV_fr (s0 : St) (n : Nat) : ∃ fr : List (Nat × AV), ∀ (l : List (Nat × AObj)) (g : List AObj) (t : Nat), (⟨fr, l, g⟩ : St).get t = curV s0.get W v D n t := by
  induction n with
  | zero => exact ⟨s0.fr, fun l g t => rfl⟩
  | succ n ih =>
    obtain ⟨fr, h⟩ := ih
    by_cases hD : D n = true
    · cases hW : W n with
      | none => exact ⟨fr, fun l g t => by rw [h]; simp [curV, hW]⟩
      | some d =>
        refine ⟨(d, v n) :: fr, fun l g t => ?_⟩
        have := get_set ⟨fr, l, g⟩ d t (v n)
        simp only [St.set] at this
        rw [this, h]
        simp only [curV, hD, hW, true_and, Option.some.injEq]
        by_cases e : t = d
        · subst e; simp
        · have : ¬ d = t := fun h => e h.symm
          simp [e, this]
    · exact ⟨fr, fun l g t => by rw [h]; simp [curV, hD]⟩
end
/-- How many are left. -/
def left (D : Nat → Bool) : Nat → Nat
  | 0 => 0
  | p + 1 => left D p + if D p = true then 0 else 1
theorem left_zero {D : Nat → Bool} : ∀ {n : Nat}, left D n = 0 → ∀ p, p < n → D p = true
  | 0, _, p, hp => by omega
  | n + 1, h, p, hp => by
    simp only [left] at h
    by_cases e : p = n
    · subst e
      by_cases hD : D p = true
      · exact hD
      · simp [hD] at h
    · exact left_zero (n := n) (by omega) p (by omega)
theorem left_more {D : Nat → Bool} {p : Nat} (hD : D p = false) : ∀ {n : Nat}, (p < n → left D n = left (more D p) n + 1) ∧ (n ≤ p → left D n = left (more D p) n)
  | 0 => ⟨fun h => by omega, fun _ => rfl⟩
  | n + 1 => by
    obtain ⟨h1, h2⟩ := left_more hD (n := n)
    refine ⟨fun h => ?_, fun h => ?_⟩
    · simp only [left]
      by_cases e : n = p
      · subst e
        rw [h2 (Nat.le_refl _)]
        simp [more, hD]
      · rw [h1 (by omega)]
        simp only [more, if_neg e]
        omega
    · simp only [left]
      have e : n ≠ p := by omega
      rw [h2 (by omega)]
      simp only [more, if_neg e]
end Go.TA

/-! ## Draw3 -/
namespace Go.TA

structure DrawFacts (P : Program) (n : Nat) (ops : Array Oper) (xs : List LOper) (M : Array Nat) : Prop where
  len : xs.length = ops.size
  ix : ∀ i, i < ops.size → ∃ p, p < xs.length ∧ (atP xs p).ix = i
  all : ∀ p, p < xs.length → ∃ o, ops[(atP xs p).ix]? = some o ∧ operOk P n ops (atP xs p) o = true
  lin : ∀ p, p < xs.length → ∀ e, e ∈ edges ops (atP xs p).ix → ∃ q, q < p ∧ (atP xs q).ix = e
  mat : ∀ j i, j < ops.size → i < ops.size → (M.getD j 0).testBit i = true → ∃ e, e ∈ edges ops j ∧ (e = i ∨ (M.getD e 0).testBit i = true)
  pair : ∀ q p, q < p → p < xs.length → pairOk M xs q p = true
theorem drawFacts {P : Program} {n : Nat} {ops : Array Oper} {xs : List LOper} (h : drawOk P n ops xs = true) : DrawFacts P n ops xs (Region.before ops) := by
  simp only [drawOk, Bool.and_eq_true, beq_iff_eq, List.all_eq_true, List.mem_range, List.any_eq_true] at h
  obtain ⟨⟨⟨⟨⟨⟨_, h1⟩, h2⟩, h3⟩, h4⟩, h5⟩, h6⟩ := h
  refine ⟨h1, h2, fun p hp => ?_, fun p hp e he => ?_, fun j i hj hi hb => ?_, fun q p hq hp => h6 p hp q hq⟩
  · simp only [allOk, List.all_eq_true, List.mem_range] at h3
    have := h3 p hp
    split at this
    · rename_i o ho; exact ⟨o, ho, this⟩
    · cases this
  · simp only [linOk, List.all_eq_true, List.mem_range, List.any_eq_true, beq_iff_eq] at h4
    exact h4 p hp e he
  · simp only [matOk, List.all_eq_true, List.mem_range, List.any_eq_true, Bool.or_eq_true, Bool.not_eq_true', beq_iff_eq] at h5
    rcases h5 j hj i hi with h | h
    · rw [h] at hb; cases hb
    · exact h
theorem mem_edges {ops : Array Oper} {i : Nat} {o : Oper} (ho : ops[i]? = some o) {e : Nat} : e ∈ edges ops i ↔ ∃ x ∈ o.after, Region.binds .any x = true ∧ x.on = e := by
  simp only [edges, ho, List.mem_map, List.mem_filter, Array.mem_toList_iff]
  constructor
  · rintro ⟨x, ⟨h1, h2⟩, h3⟩; exact ⟨x, h1, h2, h3⟩
  · rintro ⟨x, h1, h2, h3⟩; exact ⟨x, ⟨h1, h2⟩, h3⟩
theorem anyUse_true {d : Nat} {l : List Nat} (h : d ∈ l) : anyUse (some d) l = true := by simp [anyUse, h]
theorem atP_mem {xs : List LOper} {x : LOper} (h : x ∈ xs) : ∃ r, r < xs.length ∧ atP xs r = x := by
  obtain ⟨r, hr, e⟩ := List.getElem_of_mem h
  exact ⟨r, hr, by simp [atP, hr, e]⟩
theorem mem_take_atP {xs : List LOper} {p : Nat} (hp : p ≤ xs.length) {x : LOper} (h : x ∈ xs.take p) : ∃ r, r < p ∧ atP xs r = x := by
  obtain ⟨r, hr, e⟩ := List.getElem_of_mem h
  rw [List.length_take] at hr
  rw [List.getElem_take] at e
  exact ⟨r, by omega, by simp [atP, show r < xs.length by omega, e]⟩
theorem Good.alike {Γ : Ground} {c : Cx} {s s2 : St} {a : Act} {n : Nat} (h : Good Γ c s a n) (hl : s2.l = s.l) (hg : s2.g = s.g) (ht : ∀ t, s2.get t = s.get t) : Good Γ c s2 a n where
  l := hl.trans h.l
  g := hg.trans h.g
  H := h.H
  F t := by rw [ht]; exact h.F t
  G := by rw [hg]; exact h.G
  N := h.N
  D := h.D

section
variable {P : Program} {Γ : Ground} {C : Calls'} {n : Nat} {ops : Array Oper} {xs : List LOper} {M : Array Nat} {σ : Nat → St}

/-- What is listed, place by place. -/
def Dn (xs : List LOper) (listed : Array Bool) (p : Nat) : Bool := decide (p < xs.length) && listed.getD (atP xs p).ix false
def Closed (ops : Array Oper) (xs : List LOper) (listed : Array Bool) : Prop := ∀ p, p < xs.length → listed.getD (atP xs p).ix false = true → ∀ e, e ∈ edges ops (atP xs p).ix → listed.getD e false = true
theorem bits_listed (F : DrawFacts P n ops xs M) {listed : Array Bool} (hc : Closed ops xs listed) : ∀ (m p : Nat), p ≤ m → p < xs.length → (∀ e, e ∈ edges ops (atP xs p).ix → listed.getD e false = true) →
    ∀ i, i < ops.size → (M.getD (atP xs p).ix 0).testBit i = true → listed.getD i false = true
  | m, p, hm, hp, he, i, hi, hb => by
    obtain ⟨o, ho, _⟩ := F.all p hp
    have hj : (atP xs p).ix < ops.size := (Array.getElem?_eq_some_iff.1 ho).1
    obtain ⟨e, he1, he2⟩ := F.mat _ i hj hi hb
    rcases he2 with rfl | he2
    · exact he _ he1
    · obtain ⟨q, hq, hqe⟩ := F.lin p hp e he1
      rw [← hqe] at he2
      have hl := he e he1
      rw [← hqe] at hl
      cases m with
      | zero => omega
      | succ m => exact bits_listed F hc m q (by omega) (by omega) (hc q (by omega) hl) i hi he2
theorem ix_inj (F : DrawFacts P n ops xs M) {q p : Nat} (hq : q < xs.length) (hp : p < xs.length) (h : (atP xs q).ix = (atP xs p).ix) : q = p := by
  rcases Nat.lt_trichotomy q p with h1 | h1 | h1
  · have := F.pair q p h1 hp
    simp [pairOk, h] at this
  · exact h1
  · have := F.pair p q h1 hq
    simp [pairOk, h] at this
theorem pair_cases (F : DrawFacts P n ops xs M) {q p : Nat} (hqp : q < p) (hp : p < xs.length) : (M.getD (atP xs p).ix 0).testBit (atP xs q).ix = true ∨
    (anyUse (atP xs p).dst (atP xs q).uses = false ∧ sameDst (atP xs p).dst (atP xs q).dst = false ∧ anyUse (atP xs q).dst (atP xs p).uses = false ∧ (atP xs q).op.calm = true ∧
      ((atP xs p).op.calm = true ∨ (atP xs q).op.blind = true ∨ ((atP xs p).again.contains (atP xs q).ix = true ∧ keptBetween xs q p = true))) := by
  have := F.pair q p hqp hp
  simp only [pairOk, Bool.and_eq_true, Bool.or_eq_true, Bool.not_eq_true'] at this
  rcases this.2 with h | h
  · exact .inl h
  · exact .inr ⟨h.1.1.1.1, h.1.1.1.2, h.1.1.2, h.1.2, by
      rcases h.2 with (h | h) | h
      · exact .inl h
      · exact .inr (.inl h)
      · exact .inr (.inr h)⟩

/-- The run. -/
structure Run (C : Calls') (xs : List LOper) (σ : Nat → St) : Prop where
  step : ∀ p, p < xs.length → stepOp C (atP xs p) (σ p) = some (σ (p + 1))
  again : ∀ p, p < xs.length → (atP xs p).again.all (againOne C ((xs.take p).reverse ++ []) (σ (p + 1))) = true
def Wp (xs : List LOper) (p : Nat) : Option Nat := (atP xs p).dst
def vp (xs : List LOper) (σ : Nat → St) (p : Nat) : AV := match (atP xs p).dst with
  | some d => (σ (p + 1)).get d
  | none => .bot
theorem run_get (R : Run C xs σ) : ∀ p, p ≤ xs.length → ∀ t, (σ p).get t = curV (σ 0).get (Wp xs) (vp xs σ) (fun _ => true) p t
  | 0, _, t => rfl
  | p + 1, hp, t => by
    simp only [curV, true_and]
    by_cases e : Wp xs p = some t
    · rw [if_pos e]
      simp only [Wp] at e
      simp only [vp, e]
    · rw [if_neg e, step_get (R.step p (by omega)) e, run_get R p (by omega) t]
theorem heap_same (R : Run C xs σ) : ∀ (m p q : Nat), q ≤ p + m → p ≤ q → q ≤ xs.length → (∀ r, p ≤ r → r < q → (atP xs r).op.calm = true) → (σ q).l = (σ p).l ∧ (σ q).g = (σ p).g
  | 0, p, q, h1, h2, h3, h4 => by have : p = q := by omega
                                  subst this; exact ⟨rfl, rfl⟩
  | m + 1, p, q, h1, h2, h3, h4 => by
    by_cases e : p = q
    · subst e; exact ⟨rfl, rfl⟩
    · obtain ⟨a1, a2⟩ := step_calm (h4 p (Nat.le_refl _) (by omega)) (R.step p (by omega))
      obtain ⟨b1, b2⟩ := heap_same R m (p + 1) q (by omega) (by omega) h3 (fun r h h' => h4 r (by omega) h')
      exact ⟨b1.trans a1, b2.trans a2⟩
theorem kept_get (R : Run C xs σ) {t : Nat} : ∀ (m p q : Nat), q ≤ p + m → p ≤ q → q ≤ xs.length → (∀ r, p ≤ r → r < q → (atP xs r).dst ≠ some t) → (σ q).get t = (σ p).get t
  | 0, p, q, h1, h2, h3, h4 => by have : p = q := by omega
                                  subst this; rfl
  | m + 1, p, q, h1, h2, h3, h4 => by
    by_cases e : p = q
    · subst e; rfl
    · rw [kept_get R m (p + 1) q (by omega) (by omega) h3 (fun r h h' => h4 r (by omega) h'), step_get (R.step p (by omega)) (h4 p (Nat.le_refl _) (by omega))]
/-- The last loud place ahead of k, from p on. -/
theorem last_loud (f : Nat → Bool) (p : Nat) : ∀ k, (∀ q, p < q → q < k → f q = true) ∨ ∃ q, p < q ∧ q < k ∧ f q = false ∧ ∀ r, q < r → r < k → f r = true
  | 0 => .inl fun q _ h => by omega
  | k + 1 => by
    by_cases hk : p < k ∧ f k = false
    · exact .inr ⟨k, hk.1, by omega, hk.2, fun r h1 h2 => by omega⟩
    · rcases last_loud f p k with h | ⟨q, h1, h2, h3, h4⟩
      · refine .inl fun q hq hq' => ?_
        by_cases e : q = k
        · subst e
          cases hf : f q with
          | true => rfl
          | false => exact absurd ⟨hq, hf⟩ hk
        · exact h q hq (by omega)
      · refine .inr ⟨q, h1, by omega, h3, fun r hr hr' => ?_⟩
        by_cases e : r = k
        · subst e
          cases hf : f r with
          | true => rfl
          | false => exact absurd ⟨by omega, hf⟩ hk
        · exact h4 r hr (by omega)

structure Inv (Γ : Ground) (n : Nat) (ops : Array Oper) (xs : List LOper) (σ : Nat → St) (listed : Array Bool) (k : Nat) (c : Cx) (a : Act) : Prop where
  size : listed.size = ops.size
  closed : Closed ops xs listed
  le : k ≤ xs.length
  loud : ∀ q, q < xs.length → (atP xs q).op.calm = false → (Dn xs listed q = true ↔ q < k)
  good : ∃ fr, (∀ t, (⟨fr, (σ k).l, (σ k).g⟩ : St).get t = curV (σ 0).get (Wp xs) (vp xs σ) (Dn xs listed) xs.length t) ∧ Good Γ c ⟨fr, (σ k).l, (σ k).g⟩ a n

theorem calm_of {b : Bool} (h : ¬ b = false) : b = true := by cases b <;> simp_all
/-- One operation that is ready. -/
theorem draw_step (F : DrawFacts P n ops xs M) (R : Run C xs σ) (hC : SoundC P Γ C) {listed : Array Bool} {k : Nat} {c : Cx} {a : Act} (I : Inv Γ n ops xs σ listed k c a) {i : Nat} (hr : i ∈ Region.ready .any ops listed)
    {Q : Exit → Act → World → Prop} {K : Act → World → Prop}
    (hK : ∀ k' c' a', Inv Γ n ops xs σ (listed.setIfInBounds i true) k' c' a' → Evolve c c' → left (Dn xs (listed.setIfInBounds i true)) xs.length + 1 = left (Dn xs listed) xs.length → K a' c'.w) : wpOp P ops Q i K a c.w := by
  obtain ⟨hun, o, ho, hedge⟩ := mem_ready.1 hr
  have hi : i < ops.size := (Array.getElem?_eq_some_iff.1 ho).1
  obtain ⟨p, hp, rfl⟩ := F.ix i hi
  have hlf : listed.getD (atP xs p).ix false = false := by
    have hlt : (atP xs p).ix < listed.size := by rw [I.size]; exact hi
    simp [hlt] at hun ⊢
    exact hun
  have hDp : Dn xs listed p = false := by simp [Dn, hlf]
  have hed : ∀ e, e ∈ edges ops (atP xs p).ix → listed.getD e false = true := fun e he => by
    obtain ⟨x, h1, h2, rfl⟩ := (mem_edges ho).1 he
    exact hedge x h1 h2
  have ixlt : ∀ q, q < xs.length → (atP xs q).ix < ops.size := fun q hq => by
    obtain ⟨o', ho', _⟩ := F.all q hq
    exact (Array.getElem?_eq_some_iff.1 ho').1
  -- what must be ahead of p, is listed
  have ahead : ∀ q, q < xs.length → (M.getD (atP xs p).ix 0).testBit (atP xs q).ix = true → Dn xs listed q = true := fun q hq hb => by
    simp only [Dn, hq, decide_true, Bool.true_and]
    exact bits_listed F I.closed p p (Nat.le_refl _) hp hed _ (ixlt q hq) hb
  -- what must be behind p, is not
  have behind : ∀ q, q < xs.length → (M.getD (atP xs q).ix 0).testBit (atP xs p).ix = true → Dn xs listed q = false := fun q hq hb => by
    cases hD : Dn xs listed q with
    | false => rfl
    | true =>
      simp only [Dn, hq, decide_true, Bool.true_and] at hD
      have := bits_listed F I.closed q q (Nat.le_refl _) hq (I.closed q hq hD) _ (ixlt p hp) hb
      rw [hlf] at this; cases this
  obtain ⟨fr, hfr, hgood⟩ := I.good
  -- its operands
  have huse : ∀ t, t ∈ (atP xs p).uses → (⟨fr, (σ k).l, (σ k).g⟩ : St).get t = (σ p).get t := fun t ht => by
    rw [hfr, run_get R p (by omega)]
    refine curV_at (by omega) (fun q hq hw => ?_) (fun q hq hq' hw => ?_)
    · rcases pair_cases F hq hp with h | ⟨_, _, h, _⟩
      · exact ahead q (by omega) h
      · simp only [Wp] at hw; rw [hw, anyUse_true ht] at h; cases h
    · by_cases e : q = p
      · subst e; exact hDp
      · rcases pair_cases F (q := p) (p := q) (by omega) hq' with h | ⟨h, _⟩
        · exact behind q hq' h
        · simp only [Wp] at hw; rw [hw, anyUse_true ht] at h; cases h
  -- louds ahead of p are done
  have loudlt : ∀ q, q < p → (atP xs q).op.calm = false → q < k := fun q hq hl => by
    rcases pair_cases F hq hp with h | ⟨_, _, _, h, _⟩
    · exact (I.loud q (by omega) hl).1 (ahead q (by omega) h)
    · rw [h] at hl; cases hl
  have hst := R.step p hp
  -- the step, and where its blocks stand
  obtain ⟨s2, k', hs2, hk', hl2, hg2, hv2, hkl⟩ : ∃ s2 k', stepOp C (atP xs p) ⟨fr, (σ k).l, (σ k).g⟩ = some s2 ∧ k' ≤ xs.length ∧ s2.l = (σ k').l ∧ s2.g = (σ k').g ∧
      (∀ t, (atP xs p).dst = some t → s2.get t = (σ (p + 1)).get t) ∧ ∀ q, q < xs.length → (atP xs q).op.calm = false → (more (Dn xs listed) p q = true ↔ q < k') := by
    by_cases hcp : (atP xs p).op.calm = true
    · -- calm
      have fin : ∀ {s2 : St}, stepOp C (atP xs p) ⟨fr, (σ k).l, (σ k).g⟩ = some s2 → (∀ t, (atP xs p).dst = some t → s2.get t = (σ (p + 1)).get t) → ∃ s2 k', stepOp C (atP xs p) ⟨fr, (σ k).l, (σ k).g⟩ = some s2 ∧ k' ≤ xs.length ∧ s2.l = (σ k').l ∧ s2.g = (σ k').g ∧
          (∀ t, (atP xs p).dst = some t → s2.get t = (σ (p + 1)).get t) ∧ ∀ q, q < xs.length → (atP xs q).op.calm = false → (more (Dn xs listed) p q = true ↔ q < k') := by
        intro s2 h1 h2
        obtain ⟨c1, c2⟩ := step_calm hcp h1
        refine ⟨s2, k, h1, I.le, c1, c2, h2, fun q hq hl => ?_⟩
        have : q ≠ p := fun e => by subst e; rw [hcp] at hl; cases hl
        simp only [more, if_neg this]
        exact I.loud q hq hl
      rcases last_loud (fun q => (atP xs q).op.calm) p k with hnone | ⟨q, hpq, hqk, hql, hlast⟩
      · have hheap : (σ k).l = (σ p).l ∧ (σ k).g = (σ p).g := by
          rcases Nat.le_total k p with hkp | hkp
          · obtain ⟨h1, h2⟩ := heap_same R p k p (by omega) hkp (by omega) (fun r h1 h2 => calm_of fun h => by have := loudlt r h2 h; omega)
            exact ⟨h1.symm, h2.symm⟩
          · refine heap_same R k p k (by omega) hkp I.le (fun r h1 h2 => ?_)
            by_cases e : r = p
            · subst e; exact hcp
            · exact hnone r (by omega) h2
        obtain ⟨s2, a1, a2, a3, a4⟩ := step_congr (s2 := ⟨fr, (σ k).l, (σ k).g⟩) hst hheap.1 hheap.2 huse
        exact fin a1 (fun t ht => by rw [a4 t, if_pos ht])
      · have hqn : q < xs.length := by have := I.le; omega
        have hDq : Dn xs listed q = true := (I.loud q hqn hql).2 hqk
        rcases pair_cases F hpq hqn with h | ⟨_, _, _, _, h | h | ⟨hag, hkept⟩⟩
        · rw [behind q hqn h] at hDq; cases hDq
        · rw [h] at hql; cases hql
        · obtain ⟨s2, a1, a2, a3, a4⟩ := step_blind (s2 := ⟨fr, (σ k).l, (σ k).g⟩) h hst huse
          exact fin a1 (fun t ht => by rw [a4 t, if_pos ht])
        · have hall := R.again q hqn
          rw [List.all_eq_true] at hall
          have hone := hall _ (by simpa using hag)
          unfold againOne at hone
          split at hone
          rotate_left
          · cases hone
          rename_i x hx
          obtain ⟨hmem, hxi⟩ := findIx_done hx
          simp only [List.append_nil, List.mem_reverse] at hmem
          obtain ⟨r, hrq, hrx⟩ := mem_take_atP (by omega) hmem
          have hrp : r = p := ix_inj F (by omega) hp (by rw [hrx]; exact hxi)
          subst hrp
          subst hrx
          obtain ⟨s', b1, b2⟩ := again_step hone
          simp only [keptBetween, Bool.and_eq_true, Bool.not_eq_true', List.all_eq_true, List.mem_range, Bool.or_eq_true, decide_eq_true_eq] at hkept
          obtain ⟨hk1, hk2⟩ := hkept
          have hheap : (σ k).l = (σ (q + 1)).l ∧ (σ k).g = (σ (q + 1)).g := heap_same R k (q + 1) k (by omega) (by omega) I.le (fun r h1 h2 => hlast r (by omega) h2)
          have hu2 : ∀ t, t ∈ (atP xs r).uses → (⟨fr, (σ k).l, (σ k).g⟩ : St).get t = (σ (q + 1)).get t := fun t ht => by
            rw [huse t ht]
            refine (kept_get R (q + 1) r (q + 1) (by omega) (by omega) (by omega) (fun u h1 h2 hd => ?_)).symm
            by_cases e : u = r
            · subst e; rw [hd, anyUse_true ht] at hk1; cases hk1
            · rcases hk2 u (by omega) with h | ⟨h, _⟩
              · omega
              · rw [hd, anyUse_true ht] at h; cases h
          obtain ⟨s2, a1, a2, a3, a4⟩ := step_congr (s2 := ⟨fr, (σ k).l, (σ k).g⟩) b1 hheap.1 hheap.2 hu2
          refine fin a1 (fun t ht => ?_)
          rw [a4 t, if_pos ht, b2 t]
          refine kept_get R q (r + 1) (q + 1) (by omega) (by omega) (by omega) (fun u h1 h2 hd => ?_)
          rcases hk2 u (by omega) with h | ⟨_, h⟩
          · omega
          · rw [hd, ht] at h; simp [sameDst] at h
    · -- loud
      have hcp' : (atP xs p).op.calm = false := by cases h : (atP xs p).op.calm with
        | true => exact absurd h hcp
        | false => rfl
      have hkp : k ≤ p := by
        rcases Nat.lt_or_ge p k with h | h
        · have := (I.loud p hp hcp').2 h
          rw [hDp] at this; cases this
        · exact h
      obtain ⟨h1, h2⟩ := heap_same R p k p (by omega) hkp (by omega) (fun r h1 h2 => calm_of fun h => by have := loudlt r h2 h; omega)
      obtain ⟨s2, a1, a2, a3, a4⟩ := step_congr (s2 := ⟨fr, (σ k).l, (σ k).g⟩) hst h1.symm h2.symm huse
      refine ⟨s2, p + 1, a1, by omega, a2, a3, fun t ht => by rw [a4 t, if_pos ht], fun q hq hl => ?_⟩
      by_cases e : q = p
      · subst e; simp [more]
      · simp only [more, if_neg e]
        rcases Nat.lt_or_ge q p with h | h
        · have := (I.loud q hq hl).2 (loudlt q h hl)
          simp [this]; omega
        · have : Dn xs listed q = false := by
            rcases pair_cases F (q := p) (p := q) (by omega) hq with hb | ⟨_, _, _, hb, _⟩
            · exact behind q hq hb
            · rw [hcp'] at hb; cases hb
          simp [this]; omega
  have hDn : Dn xs (listed.setIfInBounds (atP xs p).ix true) = more (Dn xs listed) p := funext fun q => by
    by_cases e : q = p
    · subst e
      have hlt : (atP xs q).ix < listed.size := by rw [I.size]; exact hi
      simp [Dn, more, hp, hlt]
    · simp only [more, if_neg e, Dn]
      by_cases hq : q < xs.length
      · have : (atP xs p).ix ≠ (atP xs q).ix := fun h => e (ix_inj F hq hp h.symm)
        rw [getD_set_ne false this]
      · simp [hq]
  obtain ⟨o', ho', hok⟩ := F.all p hp
  rw [ho] at ho'
  cases ho'
  have := step_rel (Q := Q) (K := K) hC hgood hok hs2 (fun c' a' hg' hE => by
    refine hK k' c' a' ?_ hE ?_
    · refine ⟨by simpa using I.size, ?_, hk', by rw [hDn]; exact hkl, ?_⟩
      · intro q hq hl e he
        by_cases hqp : q = p
        · subst hqp; exact getD_set_true (hed e he)
        · have hne : (atP xs p).ix ≠ (atP xs q).ix := fun h => hqp (ix_inj F hq hp h.symm)
          rw [getD_set_ne false hne] at hl
          exact getD_set_true (I.closed q hq hl e he)
      · obtain ⟨fr', hfr'⟩ := curV_fr (W := Wp xs) (v := vp xs σ) (D := more (Dn xs listed) p) (σ 0) xs.length
        refine ⟨fr', fun t => by rw [hDn]; exact hfr' _ _ t, hg'.alike hl2.symm hg2.symm (fun t => ?_)⟩
        rw [hfr']
        by_cases ht : (atP xs p).dst = some t
        · rw [curV_more_eq hp ht (fun q h1 h2 h3 => ?_)]
          · simp only [vp, ht]; exact (hv2 t ht).symm
          · rcases pair_cases F h1 h2 with h | ⟨_, h, _⟩
            · exact behind q h2 h
            · simp only [Wp] at h3; rw [h3, ht] at h; simp [sameDst] at h
        · rw [curV_more_ne ht, step_get hs2 ht, hfr]
    · rw [hDn]
      exact ((left_more hDp).1 hp).symm)
  unfold wpOp
  simp only [ho]
  split
  · rename_i hw; rw [if_pos hw] at this; exact .inl this
  · rename_i hw; rw [if_neg hw] at this; exact this

theorem draw_any (F : DrawFacts P n ops xs M) (R : Run C xs σ) (hC : SoundC P Γ C) {Q : Exit → Act → World → Prop} {c0 : Cx} (hQ : ∀ c' a', Good Γ c' (σ xs.length) a' n → Evolve c0 c' → Q .normal a' c'.w) :
    ∀ (fuel : Nat) (listed : Array Bool) (k : Nat) (c : Cx) (a : Act), Inv Γ n ops xs σ listed k c a → Evolve c0 c → left (Dn xs listed) xs.length ≤ fuel → wpAny P .any ops Q fuel listed a c.w := by
  -- if all is listed, nothing is ready; and then all is as the machine says
  have done : ∀ {listed : Array Bool} {k : Nat} {c : Cx} {a : Act}, Inv Γ n ops xs σ listed k c a → Evolve c0 c → (∀ p, p < xs.length → Dn xs listed p = true) → Region.ready .any ops listed = [] ∧ Q .normal a c.w := by
    intro listed k c a I hE hall
    refine ⟨?_, ?_⟩
    · refine List.eq_nil_iff_forall_not_mem.2 fun i hi => ?_
      obtain ⟨hun, o, ho, _⟩ := mem_ready.1 hi
      obtain ⟨p, hp, rfl⟩ := F.ix i (Array.getElem?_eq_some_iff.1 ho).1
      have := hall p hp
      simp only [Dn, hp, decide_true, Bool.true_and] at this
      have hlt : (atP xs p).ix < listed.size := by rw [I.size]; exact (Array.getElem?_eq_some_iff.1 ho).1
      simp [hlt] at hun this
      rw [hun] at this; cases this
    · obtain ⟨fr, hfr, hgood⟩ := I.good
      obtain ⟨h1, h2⟩ := heap_same R xs.length k xs.length (by omega) I.le (Nat.le_refl _) (fun r h1 h2 => calm_of fun h => by have := (I.loud r h2 h).1 (hall r h2); omega)
      refine hQ c a (hgood.alike h1 h2 (fun t => ?_)) hE
      rw [hfr, run_get R xs.length (Nat.le_refl _)]
      exact (curV_all (fun q hq _ => hall q hq)).symm
  -- nothing ready: all is listed
  have noready : ∀ {listed : Array Bool} {k : Nat} {c : Cx} {a : Act}, Inv Γ n ops xs σ listed k c a → Region.ready .any ops listed = [] → ∀ m p, p ≤ m → p < xs.length → Dn xs listed p = true := by
    intro listed k c a I hr m
    induction m with
    | zero =>
      intro p hm hp
      have : p = 0 := by omega
      subst this
      cases hD : Dn xs listed 0 with
      | true => rfl
      | false =>
        obtain ⟨o, ho, _⟩ := F.all 0 hp
        have hlt : (atP xs 0).ix < listed.size := by rw [I.size]; exact (Array.getElem?_eq_some_iff.1 ho).1
        have : (atP xs 0).ix ∈ Region.ready .any ops listed := mem_ready.2 ⟨by simp [Dn, hp, hlt] at hD ⊢; exact hD, o, ho, fun e he hb => by
          obtain ⟨q, hq, _⟩ := F.lin 0 hp e.on ((mem_edges ho).2 ⟨e, he, hb, rfl⟩)
          omega⟩
        rw [hr] at this; cases this
    | succ m ih =>
      intro p hm hp
      cases hD : Dn xs listed p with
      | true => rfl
      | false =>
        obtain ⟨o, ho, _⟩ := F.all p hp
        have hlt : (atP xs p).ix < listed.size := by rw [I.size]; exact (Array.getElem?_eq_some_iff.1 ho).1
        have : (atP xs p).ix ∈ Region.ready .any ops listed := mem_ready.2 ⟨by simp [Dn, hp, hlt] at hD ⊢; exact hD, o, ho, fun e he hb => by
          obtain ⟨q, hq, hqe⟩ := F.lin p hp e.on ((mem_edges ho).2 ⟨e, he, hb, rfl⟩)
          have := ih q (by omega) (by omega)
          simp only [Dn, show q < xs.length by omega, decide_true, Bool.true_and, hqe] at this
          exact this⟩
        rw [hr] at this; cases this
  intro fuel
  induction fuel with
  | zero =>
    intro listed k c a I hE hf
    exact done I hE (left_zero (by omega))
  | succ fuel ih =>
    intro listed k c a I hE hf
    refine ⟨fun hr => (done I hE (fun p hp => noready I hr p p (Nat.le_refl _) hp)).2, fun i hi => ?_⟩
    exact draw_step F R hC I hi (fun k' c' a' I' hE' hl => ih _ k' c' a' I' (hE.trans hE') (by omega))
theorem left_le (D : Nat → Bool) : ∀ n, left D n ≤ n
  | 0 => Nat.le_refl _
  | n + 1 => by simp only [left]; have := left_le D n; split <;> omega
theorem draw_rel (hm : P.follows .mixedOrders = true) (hok : drawOk P n ops xs = true) (hC : SoundC P Γ C) {c : Cx} {s s' : St} {a : Act} (hg : Good Γ c s a n) (h : runD C [] xs s = some s') {id : Nat} {Q : Exit → Act → World → Prop}
    (hQ : ∀ c' a', Good Γ c' s' a' n → Evolve c c' → Q .normal a' c'.w) : (Code.region id ops true).wp P Q a c.w := by
  refine wp_region_any hm ?_
  obtain ⟨σ, h0, h1, h2⟩ := runD_trace xs [] h
  have F := drawFacts hok
  have R : Run C xs σ := ⟨fun p hp => (h2 p hp).1, fun p hp => (h2 p hp).2⟩
  -- one answer is drawn
  have hb : Go.RowKit.Below c.w.heap.size c.w { c.w with drawn := c.w.drawn + 1 } := ⟨rfl, rfl, rfl, Nat.le_refl _, fun _ _ => rfl⟩
  have hE := evolve_below hb hg.H.lt
  have hg1 : Good Γ { c with w := { c.w with drawn := c.w.drawn + 1 } } s a n := ⟨hg.l, hg.g, hg.H.below hb, fun t => hE.relV (hg.F t), hg.G, hg.N, hg.D⟩
  have hno : ∀ i, (Array.replicate ops.size false).getD i false = false := fun i => by
    by_cases e : i < ops.size <;> simp [e]
  have hD : Dn xs (Array.replicate ops.size false) = fun _ => false := funext fun p => by simp only [Dn, hno, Bool.and_false]
  have I0 : Inv Γ n ops xs σ (Array.replicate ops.size false) 0 { c with w := { c.w with drawn := c.w.drawn + 1 } } a := by
    refine ⟨by simp, fun p hp hl => ?_, by omega, fun q hq hl => ?_, ⟨s.fr, fun t => ?_, ?_⟩⟩
    · rw [hno] at hl; cases hl
    · rw [hD]; simp
    · rw [hD]
      have : ∀ n, curV (σ 0).get (Wp xs) (vp xs σ) (fun _ => false) n t = (σ 0).get t := fun n => by
        induction n with
        | zero => rfl
        | succ n ih => simp [curV, ih]
      rw [this, h0]
    · rw [h0]; exact hg1
  exact draw_any F R hC (fun c' a' hg' hE' => hQ c' a' (by rw [← h1]; exact hg') (hE.trans hE')) ops.size _ 0 _ a I0 (Evolve.refl _) (by rw [← F.len]; exact left_le _ _)
end
end Go.TA

end
section
/- Code, functions and the whole table are sound. -/
set_option linter.unusedVariables false
set_option linter.unusedSimpArgs false

/-! ## Keep -/
namespace Go.TA

/-- How contexts follow each other within a call: of the blocks alone those that are shared last. -/
structure Evo (c c' : Cx) : Prop where
  X : c'.X = c.X
  size : c.w.heap.size ≤ c'.w.heap.size
  tape : c'.w.tape = c.w.tape
  os : c'.w.os = c.w.os
  output : c'.w.output = c.w.output
  keep : ∀ b, b < c.w.heap.size → ¬ c.Own b → c'.w.heap[b]? = c.w.heap[b]?
  fresh : ∀ b, c'.Own b → c.Own b ∨ c.w.heap.size ≤ b
  objs : ∀ k o, c.obj true k = some o → ∃ o', c'.obj true k = some o' ∧ ∀ m', o'.cnt = some m' → ∃ m, o.cnt = some m ∧ m ≤ m' ∧ o'.isMap = o.isMap ∧
    (m = m' → c'.μ true k = c.μ true k ∧ o'.sz = o.sz ∧ ∀ b cs e, c.μ true k = some b → c.w.heap[b]? = some (.cells cs e (0, 0)) → ∃ cs', c'.w.heap[b]? = some (.cells cs' e (0, 0)) ∧ cs'.size = cs.size)
section
variable {c c' c'' : Cx}
theorem Evolve.evo (h : Evolve c c') : Evo c c' := ⟨h.X, h.size, h.tape, h.os, h.output, h.keep, h.fresh, fun k o => h.objs true k o⟩
theorem Evo.refl (c : Cx) : Evo c c := (Evolve.refl c).evo
theorem Evo.trans (h : Evo c c') (h' : Evo c' c'') : Evo c c'' where
  X := h'.X.trans h.X
  size := Nat.le_trans h.size h'.size
  tape := h'.tape.trans h.tape
  os := h'.os.trans h.os
  output := h'.output.trans h.output
  keep b hb hn := by
    have h1 : ¬ c'.Own b := fun ho => by
      rcases h.fresh b ho with h2 | h2
      · exact hn h2
      · omega
    exact (h'.keep b (Nat.lt_of_lt_of_le hb h.size) h1).trans (h.keep b hb hn)
  fresh b ho := by
    rcases h'.fresh b ho with h1 | h1
    · exact h.fresh b h1
    · exact .inr (Nat.le_trans h.size h1)
  objs k o ho := by
    obtain ⟨o1, h1, H1⟩ := h.objs k o ho
    obtain ⟨o2, h2, H2⟩ := h'.objs k o1 h1
    refine ⟨o2, h2, fun m2 hm2 => ?_⟩
    obtain ⟨m1, hm1, hle1, hk1, s1⟩ := H2 m2 hm2
    obtain ⟨m0, hm0, hle0, hk0, s0⟩ := H1 m1 hm1
    refine ⟨m0, hm0, Nat.le_trans hle0 hle1, hk1.trans hk0, fun e => ?_⟩
    obtain ⟨a1, a2, a3⟩ := s1 (by omega)
    obtain ⟨b1, b2, b3⟩ := s0 (by omega)
    refine ⟨a1.trans b1, a2.trans b2, fun b cs e hb hh => ?_⟩
    obtain ⟨cs1, x1, x2⟩ := b3 b cs e hb hh
    obtain ⟨cs2, y1, y2⟩ := a3 b cs1 e (b1.trans hb) x1
    exact ⟨cs2, y1, y2.trans x2⟩
/-- At a call's end, if it began without blocks of its own. -/
theorem Evo.evolve (h : Evo c c') (hl : c.l = []) : Evolve c c' := ⟨h.X, h.size, h.tape, h.os, h.output, h.keep, h.fresh, fun z k o ho => by
  cases z
  · simp [Cx.obj, hl, lk] at ho
  · exact h.objs k o ho⟩

/-! ### dropping blocks -/
def Cx.drop (c : Cx) (l' : List (Nat × AObj)) : Cx := ⟨c.X, fun z k => if z then c.μ true k else if (lk l' k).isSome then c.μ false k else none, l', c.g, c.w⟩
variable {l' : List (Nat × AObj)} {Γ : Ground}
theorem drop_N (b : Nat) (h : c.N b) : (c.drop l').N b := ⟨h.1, fun ⟨z, k, hk⟩ => by
  cases z
  · simp only [Cx.drop, Bool.false_eq_true, if_false] at hk
    split at hk
    · exact h.2 ⟨false, k, hk⟩
    · cases hk
  · exact h.2 ⟨true, k, hk⟩⟩
theorem relP_drop {pv : PV} {v : Value} (h : RelP c.w c.N pv v) : RelP (c.drop l').w (c.drop l').N pv v := h.mono fun b hb hlt => ⟨drop_N b hb, hlt, rfl⟩
theorem lk_contains : ∀ {α : Type} (l : List (Nat × α)) (k : Nat), (l.map (·.1)).contains k = (lk l k).isSome
  | _, [], k => rfl
  | _, (a, v) :: l, k => by
    simp only [List.map_cons, List.contains_cons, lk]
    cases e : (a == k)
    · have : (k == a) = false := by
        have := beq_eq_false_iff_ne.1 e
        exact beq_eq_false_iff_ne.2 (Ne.symm this)
      simp only [this, Bool.false_or]
      exact lk_contains l k
    · have : a = k := beq_iff_eq.1 e
      subst this
      simp
theorem drop_obj_true (k : Nat) : (c.drop l').obj true k = c.obj true k := by simp [Cx.obj, Cx.drop]
theorem drop_obj_false (hs : ∀ k o, lk l' k = some o → lk c.l k = some o) {k : Nat} (hk : (lk l' k).isSome = true) : (c.drop l').obj false k = c.obj false k := by
  obtain ⟨o, ho⟩ := Option.isSome_iff_exists.1 hk
  simp [Cx.obj, Cx.drop, ho, hs k o ho]
theorem drop_μ_false {k : Nat} (hk : (lk l' k).isSome = true) : (c.drop l').μ false k = c.μ false k := by simp [Cx.drop, hk]
theorem drop_both (hs : ∀ k o, lk l' k = some o → lk c.l k = some o) {z : Bool} {k : Nat} (h : (z || (l'.map (·.1)).contains k) = true) : (c.drop l').obj z k = c.obj z k ∧ (c.drop l').μ z k = c.μ z k := by
  cases z
  · simp only [Bool.false_or, lk_contains] at h
    exact ⟨drop_obj_false hs h, drop_μ_false h⟩
  · exact ⟨drop_obj_true k, rfl⟩
theorem mentionsL_get {ks : List Nat} : ∀ {l : List AV}, mentionsL ks l = false → ∀ j (h : j < l.length), mentions ks (l[j]) = false
  | [], _, j, h => by simp at h
  | a :: l, hm, j, h => by
    simp only [mentionsL, Bool.or_eq_false_iff] at hm
    cases j with
    | zero => exact hm.1
    | succ j => exact mentionsL_get hm.2 j (by simpa using h)
theorem mentionsLL_get {ks : List Nat} : ∀ {l : List (List AV)}, mentionsLL ks l = false → ∀ j (h : j < l.length), mentionsL ks (l[j]) = false
  | [], _, j, h => by simp at h
  | a :: l, hm, j, h => by
    simp only [mentionsLL, Bool.or_eq_false_iff] at hm
    cases j with
    | zero => exact hm.1
    | succ j => exact mentionsLL_get hm.2 j (by simpa using h)
theorem relV_drop (hs : ∀ k o, lk l' k = some o → lk c.l k = some o) {av : AV} {v : Value} (h : RelV c av v) : mentions (l'.map (·.1)) av = false → RelV (c.drop l') av v := by
  induction h with
  | bot v => intro _; exact .bot v
  | p pv v hp => intro _; exact .p _ _ (relP_drop hp)
  | rop cs b off f hN hb hc h1 hr => intro _; exact .rop cs b off f (drop_N b hN) hb hc h1 (fun j hj => relP_drop (hr j hj))
  | ptr z k sz n i j a hp =>
    intro hn
    simp only [mentions, Bool.not_eq_false'] at hn
    obtain ⟨e1, e2⟩ := drop_both hs hn
    obtain ⟨ob, ho, H⟩ := hp
    exact .ptr _ _ _ _ _ _ _ ⟨ob, e1.trans ho, fun m hm => ⟨(H m hm).1, fun e => by obtain ⟨b, hb, ha⟩ := (H m hm).2 e; exact ⟨b, e2.trans hb, ha⟩⟩⟩
  | own z k n A cap hp =>
    intro hn
    simp only [mentions, Bool.not_eq_false'] at hn
    obtain ⟨e1, e2⟩ := drop_both hs hn
    obtain ⟨ob, ho, H⟩ := hp
    refine .own _ _ _ _ _ ⟨ob, e1.trans ho, fun m hm => ⟨(H m hm).1, fun e => ?_⟩⟩
    rcases (H m hm).2 e with ⟨x1, x2⟩ | ⟨b, cs, e, x1, x2⟩
    · exact .inl ⟨e2.trans x1, x2⟩
    · exact .inr ⟨b, cs, e, e2.trans x1, x2⟩
  | nils => intro _; exact .nils
  | lit xs b cap sz f hN hb hc hm hl hcell h1 hr ih =>
    intro hn
    simp only [mentions] at hn
    exact .lit xs b cap sz f (drop_N b hN) hb hc hm hl hcell h1 (fun i j hi hj => ih i j hi hj (mentionsL_get (mentionsLL_get hn i hi) j hj))
  | map z k r hp =>
    intro hn
    simp only [mentions, Bool.not_eq_false'] at hn
    obtain ⟨e1, e2⟩ := drop_both hs hn
    obtain ⟨ob, ho, H⟩ := hp
    exact .map _ _ _ ⟨ob, e1.trans ho, fun m hm => ⟨(H m hm).1, by obtain ⟨b, hb, ha⟩ := (H m hm).2; exact ⟨b, e2.trans hb, ha⟩⟩⟩
  | func f cs vs hl hr ih =>
    intro hn
    simp only [mentions] at hn
    exact .func f cs vs hl (fun j h h' => ih j h h' (mentionsL_get hn j h))
  | agg cs vs hl h1 hr ih =>
    intro hn
    simp only [mentions] at hn
    exact .agg cs vs hl h1 (fun j h h' => ih j h h' (mentionsL_get hn j h))
  | tuple cs vs hl hr ih =>
    intro hn
    simp only [mentions] at hn
    exact .tuple cs vs hl (fun j h h' => ih j h h' (mentionsL_get hn j h))
mutual
theorem noLocal_mentions (ks : List Nat) : ∀ {a : AV}, noLocal a = true → mentions ks a = false
  | .bot, _ => rfl
  | .p _, _ => rfl
  | .rop _, _ => rfl
  | .ptr z .., h => by simp only [noLocal] at h; subst h; rfl
  | .own z .., h => by simp only [noLocal] at h; subst h; rfl
  | .nils, _ => rfl
  | .lit _, h => by simp [noLocal] at h
  | .map z _, h => by simp only [noLocal] at h; subst h; rfl
  | .func _ cs, h => by simp only [noLocal] at h; simpa [mentions] using noLocals_mentions ks h
  | .agg cs, h => by simp only [noLocal] at h; simpa [mentions] using noLocals_mentions ks h
  | .tuple cs, h => by simp only [noLocal] at h; simpa [mentions] using noLocals_mentions ks h
theorem noLocals_mentions (ks : List Nat) : ∀ {l : List AV}, noLocals l = true → mentionsL ks l = false
  | [], _ => rfl
  | a :: l, h => by
    simp only [noLocals, Bool.and_eq_true] at h
    simp [mentionsL, noLocal_mentions ks h.1, noLocals_mentions ks h.2]
end
theorem obj_mentions (ks : List Nat) {o : AObj} (h : noLocalObj o = true) : o.mentions ks = false := by
  cases o with
  | cells sz xs =>
    simp only [noLocalObj, List.all_eq_true] at h
    simp only [AObj.mentions, List.any_eq_false, Bool.not_eq_true]
    exact fun x hx => noLocals_mentions ks (h x hx)
  | map es =>
    simp only [noLocalObj, List.all_eq_true] at h
    simp only [AObj.mentions, List.any_eq_false, Bool.not_eq_true]
    exact fun x hx => noLocal_mentions ks (h x hx)
  | _ => rfl
theorem relObj_drop (hs : ∀ k o, lk l' k = some o → lk c.l k = some o) {z : Bool} {k : Nat} {ob : AObj} (hμ : (c.drop l').μ z k = c.μ z k) (h : RelObj c z k ob) (hn : ob.mentions (l'.map (·.1)) = false) : RelObj (c.drop l') z k ob := by
  have row : ∀ (m : Option Nat) (sz : Nat) (xs : List (List AV)), (∀ r ∈ xs, mentionsL (l'.map (·.1)) r = false) → RelRow c m sz xs → RelRow (c.drop l') m sz xs := fun m sz xs hx hr => by
    obtain ⟨h0, h1⟩ := hr
    refine ⟨h0, h1.imp id ?_⟩
    rintro ⟨b, cs, e, hb, hh, hs', hv⟩
    refine ⟨b, cs, e, hb, hh, hs', fun i j hi hj => ?_⟩
    obtain ⟨v, v1, v2, v3⟩ := hv i j hi hj
    exact ⟨v, v1, v2, relV_drop hs v3 (mentionsL_get (hx _ (List.getElem_mem hi)) j hj)⟩
  cases ob with
  | dead => trivial
  | siter a b => trivial
  | pcells sz xs =>
    simp only [RelObj, hμ] at h ⊢
    refine row _ _ _ (fun r hr => ?_) h
    simp only [lift, List.mem_map] at hr
    obtain ⟨p, _, rfl⟩ := hr
    exact noLocals_mentions _ (noLocals_p p)
  | cells sz xs =>
    simp only [RelObj, hμ] at h ⊢
    simp only [AObj.mentions, List.any_eq_false, Bool.not_eq_true] at hn
    exact row _ _ _ hn h
  | map es =>
    simp only [RelObj, hμ] at h ⊢
    obtain ⟨b, es', clock, hb, hh, hs', hv⟩ := h
    refine ⟨b, es', clock, hb, hh, hs', fun i h1 h2 => ?_⟩
    obtain ⟨x1, x2, x3⟩ := hv i h1 h2
    simp only [AObj.mentions, List.any_eq_false, Bool.not_eq_true] at hn
    exact ⟨x1, relP_drop x2, relV_drop hs x3 (hn _ (List.getElem_mem h1))⟩
theorem lk_mem : ∀ {α : Type} {l : List (Nat × α)} {k : Nat} {o : α}, lk l k = some o → (k, o) ∈ l
  | _, [], k, o, h => by simp [lk] at h
  | _, (a, v) :: l, k, o, h => by
    simp only [lk] at h
    split at h
    · rename_i e
      have : a = k := beq_iff_eq.1 e
      subst this
      simp only [Option.some.injEq] at h
      subst h
      simp
    · exact List.mem_cons_of_mem _ (lk_mem h)
theorem relH_drop (hH : RelH Γ c) (hs : ∀ k o, lk l' k = some o → lk c.l k = some o) (hg : gOk c.g) (hm : ∀ e ∈ l', e.2.mentions (l'.map (·.1)) = false) : RelH Γ (c.drop l') where
  ground := hH.ground
  objs z k ob hob := by
    cases z
    · have hk : lk l' k = some ob := by simpa [Cx.obj, Cx.drop] using hob
      refine relObj_drop hs (drop_μ_false (by rw [hk]; rfl)) (hH.objs false k ob ?_) (hm _ (lk_mem hk))
      simpa [Cx.obj] using hs k ob hk
    · rw [drop_obj_true] at hob
      refine relObj_drop hs rfl (hH.objs true k ob hob) (obj_mentions _ (hg ob ?_))
      simp only [Cx.obj, if_true] at hob
      exact List.mem_of_getElem? hob
  inj z k z' k' b h1 h2 := by
    have sub : ∀ z k, (c.drop l').μ z k = some b → c.μ z k = some b := fun z k h => by
      cases z
      · simp only [Cx.drop, Bool.false_eq_true, if_false] at h
        split at h
        · exact h
        · cases h
      · exact h
    exact hH.inj _ _ _ _ _ (sub _ _ h1) (sub _ _ h2)
  live z k b h := by
    cases z
    · simp only [Cx.drop, Bool.false_eq_true, if_false] at h
      split at h
      rotate_left
      · cases h
      rename_i hk
      obtain ⟨x1, x2, x3, ob, x4, x5⟩ := hH.live _ _ _ h
      exact ⟨x1, x2, x3, ob, (drop_obj_false hs hk).trans x4, x5⟩
    · obtain ⟨x1, x2, x3, ob, x4, x5⟩ := hH.live true k b h
      exact ⟨x1, x2, x3, ob, (drop_obj_true k).trans x4, x5⟩
  xlt := hH.xlt
theorem evo_drop : Evo c (c.drop l') where
  X := rfl
  size := Nat.le_refl _
  tape := rfl
  os := rfl
  output := rfl
  keep _ _ _ := rfl
  fresh b ho := by
    obtain ⟨z, k, h⟩ := ho
    cases z
    · simp only [Cx.drop, Bool.false_eq_true, if_false] at h
      split at h
      · exact .inl ⟨false, k, h⟩
      · cases h
    · exact .inl ⟨true, k, h⟩
  objs k o ho := ⟨o, (drop_obj_true k).trans ho, fun m hm => ⟨m, hm, Nat.le_refl _, rfl, fun _ => ⟨rfl, rfl, fun b cs e _ hh => ⟨cs, hh, rfl⟩⟩⟩⟩

/-! ### keep -/
theorem lk_pickL {l : List (Nat × AObj)} : ∀ {ks : List Nat} {k : Nat} {o : AObj}, lk (pickL l ks) k = some o → lk l k = some o
  | [], k, o, h => by simp [pickL, lk] at h
  | a :: ks, k, o, h => by
    simp only [pickL] at h
    split at h
    · rename_i v hv
      simp only [lk] at h
      split at h
      · rename_i e
        have : a = k := beq_iff_eq.1 e
        subst this
        rw [← h]; exact hv
      · exact lk_pickL h
    · exact lk_pickL h
theorem lk_frame {s : St} : ∀ (ts : List Nat) (t : Nat), lk (ts.map fun t => (t, s.get t)) t = if t ∈ ts then some (s.get t) else none
  | [], t => rfl
  | a :: ts, t => by
    simp only [List.map_cons, lk]
    cases e : (a == t)
    · have : t ≠ a := fun h => by subst h; simp at e
      simp [lk_frame ts t, this]
    · have : a = t := beq_iff_eq.1 e
      subst this
      simp
variable {s s' : St} {a : Act} {n : Nat}
theorem keep_rel (hg : Good Γ c s a n) {ts ks : List Nat} (h : s.keep ts ks = some s') : ∃ c', c'.w = c.w ∧ Good Γ c' s' a n ∧ Evo c c' := by
  unfold St.keep at h
  simp only at h
  split at h
  · cases h
  rename_i hm
  simp only [Option.some.injEq] at h
  subst h
  simp only [Bool.or_eq_true, not_or, Bool.not_eq_true, List.any_eq_false] at hm
  obtain ⟨hm1, hm2⟩ := hm
  have hs : ∀ k o, lk (pickL s.l ks) k = some o → lk c.l k = some o := fun k o hk => by rw [← hg.l]; exact lk_pickL hk
  refine ⟨c.drop (pickL s.l ks), rfl, ⟨rfl, hg.g, relH_drop hg.H hs (by rw [← hg.g]; exact hg.G) (fun e he => by simpa using hm2 e he), fun t => ?_, hg.G, hg.N, hg.D⟩, evo_drop⟩
  show RelV _ (orBot (lk (ts.map fun t => (t, s.get t)) t)) _
  rw [lk_frame]
  split
  · rename_i ht
    show RelV _ (s.get t) _
    exact relV_drop hs (hg.F t) (by simpa using hm1 (t, s.get t) (List.mem_map.2 ⟨t, ht, rfl⟩))
  · exact .bot _
end
end Go.TA

/-! ## Ctl -/
namespace Go.TA

/-! ### code as a list -/
def items : Code → List Code
  | .seq a b => items a ++ items b
  | .skip => []
  | .label _ => []
  | c => [c]
def wpL (P : Program) (Q : Exit → Act → World → Prop) : List Code → Act → World → Prop
  | [], a, w => Q .normal a w
  | c :: l, a, w => c.wp P (Exit.then (wpL P Q l) Q) a w
section
variable {P : Program} {Q : Exit → Act → World → Prop}
theorem then_then {K K' : Act → World → Prop} {e : Exit} {a : Act} {w : World} (h : Exit.then K Q e a w) (hK : e = .normal → K a w → K' a w) : Exit.then K' Q e a w := by
  cases e <;> simp only [Exit.then] at h ⊢ <;> first | exact hK rfl h | exact h
theorem wpL_append : ∀ {l r : List Code} {a : Act} {w : World}, wpL P Q (l ++ r) a w → wpL P (Exit.then (wpL P Q r) Q) l a w
  | [], r, a, w, h => h
  | c :: l, r, a, w, h => by
    simp only [List.cons_append, wpL] at h ⊢
    refine wp_mono h (fun e a' w' he => ?_)
    cases e <;> simp only [Exit.then] at he ⊢ <;> first | exact wpL_append he | exact he
theorem wp_of_wpL : ∀ {c : Code} {Q : Exit → Act → World → Prop} {a : Act} {w : World}, wpL P Q (items c) a w → c.wp P Q a w
  | .seq x y, Q, a, w, h => by
    have h1 := wp_of_wpL (wpL_append (by simpa [items] using h))
    refine wp_seq (wp_mono h1 (fun e a' w' he => then_then he (fun _ h => wp_of_wpL h)))
  | .skip, Q, a, w, h => wp_skip h
  | .label _, Q, a, w, h => wp_label h
  | .region .., Q, a, w, h => wp_mono h (fun e a' w' he => by cases e <;> exact he)
  | .cond .., Q, a, w, h => wp_mono h (fun e a' w' he => by cases e <;> exact he)
  | .block .., Q, a, w, h => wp_mono h (fun e a' w' he => by cases e <;> exact he)
  | .loop .., Q, a, w, h => wp_mono h (fun e a' w' he => by cases e <;> exact he)
  | .exit .., Q, a, w, h => wp_mono h (fun e a' w' he => by cases e <;> exact he)
  | .goto .., Q, a, w, h => wp_mono h (fun e a' w' he => by cases e <;> exact he)
  | .ret, Q, a, w, h => wp_mono h (fun e a' w' he => by cases e <;> exact he)
  | .scope .., Q, a, w, h => wp_mono h (fun e a' w' he => by cases e <;> exact he)
  | .rangeFunc .., Q, a, w, h => wp_mono h (fun e a' w' he => by cases e <;> exact he)
  | .refuse .., Q, a, w, h => wp_mono h (fun e a' w' he => by cases e <;> exact he)
end
end Go.TA

/-! ## Ctl2 -/
namespace Go.TA

def noAgain : List LOper → Bool
  | [] => true
  | x :: l => x.again.isEmpty && noAgain l
def codeOk (P : Program) (n : Nat) : LCode → List Code → Bool
  | .skip, [] => true
  | .region xs d _ _, [.region _ ops d'] => d == d' && (if d then drawOk P n ops xs && noAgain xs else opersOk P n ops xs ops.toList)
  | .draw xs _ _, [.region _ ops d'] => d' && drawOk P n ops xs
  | .seq a b, c :: l => codeOk P n a [c] && codeOk P n b l
  | .cond x a b, [.cond y c d] => opdOk x y && codeOk P n a (items c) && codeOk P n b (items d)
  | .block id a, [.block id' c] => id == id' && codeOk P n a (items c)
  | .loop a, [.loop c] => codeOk P n a (items c)
  | .exit id, .exit id' :: _ => id == id'
  | .ret, .ret :: _ => true
  | .keep _ _ c, l => codeOk P n c l
  | .stuck, _ => true
  | _, _ => false
def toExit : Ex → Exit
  | .normal => .normal
  | .exit id => .exit id
  | .ret => .ret

section
variable {P : Program} {Γ : Ground} {C : Calls'} {n N : Nat}

theorem runD_of_runOps : ∀ {xs done : List LOper} {s s' : St}, noAgain xs = true → runOps C xs s = some s' → runD C done xs s = some s'
  | [], done, s, s', _, h => h
  | x :: xs, done, s, s', hn, h => by
    simp only [noAgain, Bool.and_eq_true, List.isEmpty_iff] at hn
    simp only [runOps] at h
    obtain ⟨s1, h1, h2⟩ := Option.bind_eq_some_iff.1 h
    simp only [runD, stepD, h1, Option.bind_some, againK, hn.1, List.all_nil, if_true]
    exact runD_of_runOps hn.2 h2
theorem wpL_one {Q : Exit → Act → World → Prop} {c : Code} {a : Act} {w : World} (h : c.wp P Q a w) : wpL P Q [c] a w := wp_mono h (fun e a' w' he => by cases e <;> exact he)
theorem of_wpL_one {Q : Exit → Act → World → Prop} {c : Code} {a : Act} {w : World} (h : wpL P Q [c] a w) : c.wp P Q a w := wp_mono h (fun e a' w' he => by cases e <;> exact he)
/-- A loop whose rounds are counted. -/
theorem wp_loop_n {c : Code} {Q : Exit → Act → World → Prop} (R : Nat → Act → World → Prop) (round : ∀ m a w, R m a w → c.wp P (Exit.then (fun a' w' => ∃ m', m' < m ∧ R m' a' w') Q) a w) :
    ∀ (m : Nat) (a : Act) (w : World), R m a w → (Code.loop c).wp P Q a w := by
  intro m a w hR b k cs
  have key : ∀ m a w, R m a w → ∃ e a' w', Q e a' w' ∧ Arrives P (lone (b.at a (.code c :: .inLoop c :: k)) cs w) b k cs e a' w' := by
    intro m
    induction m using Nat.strongRecOn with
    | _ m ih =>
      intro a w hI
      obtain ⟨e, a₁, w₁, hq, harr⟩ := round m a w hI b (.inLoop c :: k) cs
      cases e with
      | normal =>
        obtain ⟨m', hlt, hI₁⟩ := hq
        obtain ⟨e₂, a₂, w₂, hq₂, harr₂⟩ := ih m' hlt a₁ w₁ hI₁
        exact ⟨e₂, a₂, w₂, hq₂, .of_steps (Steps.trans harr (.one step_inLoop)) harr₂⟩
      | exit id => exact ⟨_, a₁, w₁, hq, .pass (x := .inLoop c) rfl (fun _ _ => .inl (by simp)) harr⟩
      | goto l => exact ⟨_, a₁, w₁, hq, .pass (x := .inLoop c) rfl (fun _ _ => .inl (by simp)) harr⟩
      | ret => exact ⟨_, a₁, w₁, hq, .pass (x := .inLoop c) rfl (fun _ _ => .inl (by simp)) harr⟩
      | panic ch => exact ⟨_, a₁, w₁, hq, .pass (x := .inLoop c) rfl (fun _ _ => .inl (by simp)) harr⟩
      | outgrown => exact ⟨_, a₁, w₁, hq, .pass (x := .inLoop c) rfl (fun _ _ => .inl (by simp)) harr⟩
  obtain ⟨e, a', w', hq, harr⟩ := key m a w hR
  exact ⟨e, a', w', hq, .of_steps (.one step_loop) harr⟩
theorem know_rel {c : Cx} {s : St} {a : Act} (hg : Good Γ c s a n) {x : LOpd} {b : Bool} (h : s.arg x = .p (.bool b)) : Good Γ c (s.know x b) a n := by
  cases x with
  | t m => exact hg.known h
  | _ => exact hg
theorem region_end {c : Cx} {s s' : St} {a : Act} {ts ks : List Nat} {ex : Ex} {x : Option St} (hx : x = some s) (h : bn x ts ks = some (ex, s')) (hg : Good Γ c s a n) {Q : Exit → Act → World → Prop} (hQ : ∀ c' a', Good Γ c' s' a' n → Evo c c' → Q (toExit ex) a' c'.w) : Q .normal a c.w := by
  subst hx
  simp only [bn, Option.bind_some, bn'] at h
  obtain ⟨s1, h1, h2⟩ := Option.bind_eq_some_iff.1 h
  simp only [Option.some.injEq, Prod.mk.injEq] at h2
  obtain ⟨rfl, rfl⟩ := h2
  obtain ⟨c', hw, hg', hE⟩ := keep_rel hg h1
  have := hQ c' a hg' hE
  rw [hw] at this
  exact this
theorem bn_some' {x : Option St} {ts ks : List Nat} {r : Ex × St} (h : bn x ts ks = some r) : ∃ s, x = some s := by
  cases x with
  | none => simp [bn] at h
  | some s => exact ⟨s, rfl⟩
theorem aexec_rel (hm : P.follows .mixedOrders = true) (hC : SoundC P Γ C) : ∀ (code : LCode) {cs : List Code}, codeOk P n code cs = true → ∀ {c : Cx} {s s' : St} {a : Act} {ex : Ex}, Good Γ c s a n → aexec C N code s = some (ex, s') →
    ∀ {Q : Exit → Act → World → Prop}, (∀ c' a', Good Γ c' s' a' n → Evo c c' → Q (toExit ex) a' c'.w) → wpL P Q cs a c.w
  | .stuck, cs, hok, c, s, s', a, ex, hg, h, Q, hQ => by simp [aexec] at h
  | .skip, cs, hok, c, s, s', a, ex, hg, h, Q, hQ => by
    cases cs with
    | cons _ _ => simp [codeOk] at hok
    | nil =>
      simp only [aexec, Option.some.injEq, Prod.mk.injEq] at h
      obtain ⟨rfl, rfl⟩ := h
      exact hQ c a hg (Evo.refl c)
  | .region xs d ts ks, cs, hok, c, s, s', a, ex, hg, h, Q, hQ => by
    unfold codeOk at hok
    split at hok <;> try (cases hok; done)
    all_goals try contradiction
    rename_i heq
    injection heq with e1 e2 e3 e4
    subst e1 e2
    simp only [Bool.and_eq_true, beq_iff_eq] at hok
    obtain ⟨rfl, hok⟩ := hok
    simp only [aexec] at h
    obtain ⟨s1, hs1⟩ := bn_some' h
    refine wpL_one ?_
    split at hok
    · rename_i hd
      subst hd
      simp only [Bool.and_eq_true] at hok
      exact draw_rel hm hok.1 hC hg (runD_of_runOps hok.2 hs1) (fun c' a' hg' hE => region_end hs1 h hg' (fun c2 a2 hg2 hE2 => hQ c2 a2 hg2 (hE.evo.trans hE2)))
    · rename_i hd
      have hd : d = false := by cases d <;> simp_all
      subst hd
      exact wp_region_list (runOps_rel hC hok hg hs1 (fun c' a' hg' hE => region_end hs1 h hg' (fun c2 a2 hg2 hE2 => hQ c2 a2 hg2 (hE.evo.trans hE2))))
  | .draw xs ts ks, cs, hok, c, s, s', a, ex, hg, h, Q, hQ => by
    unfold codeOk at hok
    split at hok <;> try (cases hok; done)
    all_goals try contradiction
    rename_i heq
    injection heq with e1 e2 e3
    subst e1
    simp only [Bool.and_eq_true] at hok
    obtain ⟨rfl, hok⟩ := hok
    simp only [aexec] at h
    obtain ⟨s1, hs1⟩ := bn_some' h
    exact wpL_one (draw_rel hm hok hC hg hs1 (fun c' a' hg' hE => region_end hs1 h hg' (fun c2 a2 hg2 hE2 => hQ c2 a2 hg2 (hE.evo.trans hE2))))
  | .seq x y, cs, hok, c, s, s', a, ex, hg, h, Q, hQ => by
    cases cs with
    | nil => simp [codeOk] at hok
    | cons cd l =>
      simp only [codeOk, Bool.and_eq_true] at hok
      simp only [aexec] at h
      obtain ⟨⟨ex1, s1⟩, h1, h2⟩ := Option.bind_eq_some_iff.1 h
      refine of_wpL_one (aexec_rel hm hC x hok.1 hg h1 (fun c' a' hg' hE => ?_))
      cases ex1 with
      | normal =>
        simp only [thenK] at h2
        exact aexec_rel hm hC y hok.2 hg' h2 (fun c2 a2 hg2 hE2 => hQ c2 a2 hg2 (hE.trans hE2))
      | exit id =>
        simp only [thenK, Option.some.injEq, Prod.mk.injEq] at h2
        obtain ⟨rfl, rfl⟩ := h2
        exact hQ c' a' hg' hE
      | ret =>
        simp only [thenK, Option.some.injEq, Prod.mk.injEq] at h2
        obtain ⟨rfl, rfl⟩ := h2
        exact hQ c' a' hg' hE
  | .cond x u v, cs, hok, c, s, s', a, ex, hg, h, Q, hQ => by
    unfold codeOk at hok
    split at hok <;> try (cases hok; done)
    all_goals try contradiction
    rename_i heq
    injection heq with e1 e2 e3
    subst e1 e2 e3
    simp only [Bool.and_eq_true] at hok
    obtain ⟨⟨hx, hu⟩, hv⟩ := hok
    simp only [aexec] at h
    split at h
    rotate_left
    · cases h
    rename_i b hb
    have hval := (rhoA P hg.F).1 _ _ hx
    rw [hb] at hval
    refine wpL_one (wp_cond (relV_bool hval) ?_)
    split at h
    · rename_i hbt
      subst hbt
      exact wp_of_wpL (aexec_rel hm hC u hu (know_rel hg hb) h hQ)
    · rename_i hbf
      have : b = false := by cases b <;> simp_all
      subst this
      exact wp_of_wpL (aexec_rel hm hC v hv (know_rel hg hb) h hQ)
  | .block id x, cs, hok, c, s, s', a, ex, hg, h, Q, hQ => by
    unfold codeOk at hok
    split at hok <;> try (cases hok; done)
    all_goals try contradiction
    rename_i heq
    injection heq with e1 e2
    subst e1 e2
    simp only [Bool.and_eq_true, beq_iff_eq] at hok
    obtain ⟨rfl, hx⟩ := hok
    simp only [aexec, bb] at h
    obtain ⟨⟨ex1, s1⟩, h1, h2⟩ := Option.bind_eq_some_iff.1 h
    refine wpL_one (wp_block (wp_of_wpL (aexec_rel hm hC x hx hg h1 (fun c' a' hg' hE => ?_))))
    cases ex1 with
    | normal =>
      simp only [blockK, Option.some.injEq, Prod.mk.injEq] at h2
      obtain ⟨rfl, rfl⟩ := h2
      exact hQ c' a' hg' hE
    | exit i =>
      simp only [blockK] at h2
      simp only [toExit, Exit.inBlock]
      split at h2
      · rename_i e
        rw [if_pos e]
        simp only [Option.some.injEq, Prod.mk.injEq] at h2
        obtain ⟨rfl, rfl⟩ := h2
        exact hQ c' a' hg' hE
      · rename_i e
        rw [if_neg e]
        simp only [Option.some.injEq, Prod.mk.injEq] at h2
        obtain ⟨rfl, rfl⟩ := h2
        exact hQ c' a' hg' hE
    | ret =>
      simp only [blockK, Option.some.injEq, Prod.mk.injEq] at h2
      obtain ⟨rfl, rfl⟩ := h2
      exact hQ c' a' hg' hE
  | .loop x, cs, hok, c, s, s', a, ex, hg, h, Q, hQ => by
    unfold codeOk at hok
    split at hok <;> try (cases hok; done)
    all_goals try contradiction
    rename_i heq
    injection heq with e1
    subst e1
    simp only [aexec] at h
    refine wpL_one (wp_loop_n (fun m a w => ∃ c1 s1, Good Γ c1 s1 a n ∧ c1.w = w ∧ Evo c c1 ∧ loopN (fun s => aexec C N x s) m s1 = some (ex, s')) (fun m a1 w1 hR => ?_) N a c.w ⟨c, s, hg, rfl, Evo.refl c, h⟩)
    obtain ⟨c1, s1, hg1, rfl, hE1, hl⟩ := hR
    cases m with
    | zero => simp [loopN] at hl
    | succ m =>
      simp only [loopN] at hl
      obtain ⟨⟨ex1, s2⟩, h1, h2⟩ := Option.bind_eq_some_iff.1 hl
      refine wp_of_wpL (aexec_rel hm hC x hok hg1 h1 (fun c' a' hg' hE => ?_))
      cases ex1 with
      | normal =>
        simp only [thenK] at h2
        exact ⟨m, by omega, c', s2, hg', rfl, hE1.trans hE, h2⟩
      | exit id =>
        simp only [thenK, Option.some.injEq, Prod.mk.injEq] at h2
        obtain ⟨rfl, rfl⟩ := h2
        exact hQ c' a' hg' (hE1.trans hE)
      | ret =>
        simp only [thenK, Option.some.injEq, Prod.mk.injEq] at h2
        obtain ⟨rfl, rfl⟩ := h2
        exact hQ c' a' hg' (hE1.trans hE)
  | .exit id, cs, hok, c, s, s', a, ex, hg, h, Q, hQ => by
    unfold codeOk at hok
    split at hok <;> try (cases hok; done)
    all_goals try contradiction
    rename_i heq
    injection heq with e1
    subst e1
    have hok : id = _ := beq_iff_eq.1 hok
    subst hok
    simp only [aexec, Option.some.injEq, Prod.mk.injEq] at h
    obtain ⟨rfl, rfl⟩ := h
    exact wp_exit (hQ c a hg (Evo.refl c))
  | .ret, cs, hok, c, s, s', a, ex, hg, h, Q, hQ => by
    unfold codeOk at hok
    split at hok <;> try (cases hok; done)
    all_goals try contradiction
    simp only [aexec, Option.some.injEq, Prod.mk.injEq] at h
    obtain ⟨rfl, rfl⟩ := h
    exact wp_ret (hQ c a hg (Evo.refl c))
  | .keep ts ks x, cs, hok, c, s, s', a, ex, hg, h, Q, hQ => by
    simp only [codeOk] at hok
    simp only [aexec] at h
    obtain ⟨s1, h1, h2⟩ := Option.bind_eq_some_iff.1 h
    obtain ⟨c', hw, hg', hE⟩ := keep_rel hg h1
    have := aexec_rel hm hC x hok hg' h2 (fun c2 a2 hg2 hE2 => hQ c2 a2 hg2 (hE.trans hE2))
    rw [hw] at this
    exact this
  | .scope x, cs, hok, c, s, s', a, ex, hg, h, Q, hQ => by
    unfold codeOk at hok
    cases hok

/-! ### what is shared stays clean, whatever the memory -/
theorem step_gOk (hC : ∀ f args g r g', C f args g = some (r, g') → noLocals args = true → gOk g → gOk g') {x : LOper} {o : Op} (hok : opOk P x.op o = true) {s s' : St} (hg : gOk s.g) (h : stepOp C x s = some s') : gOk s'.g := by
  obtain ⟨v, hv, h1⟩ := step_inv h
  rcases h1 with ⟨hon, he⟩ | ⟨hoff, rfl, h1, h2⟩
  · exact (gOk_op hC hok hg he :)
  · rw [h2]; exact hg
theorem runOps_gOk (hC : ∀ f args g r g', C f args g = some (r, g') → noLocals args = true → gOk g → gOk g') : ∀ {xs : List LOper} {s s' : St}, (∀ x ∈ xs, ∃ o, opOk P x.op o = true) → gOk s.g → runOps C xs s = some s' → gOk s'.g
  | [], s, s', _, hg, h => by simp only [runOps, Option.some.injEq] at h; subst h; exact hg
  | x :: xs, s, s', hx, hg, h => by
    simp only [runOps] at h
    obtain ⟨s1, h1, h2⟩ := Option.bind_eq_some_iff.1 h
    obtain ⟨o, ho⟩ := hx x (by simp)
    exact runOps_gOk hC (fun y hy => hx y (by simp [hy])) (step_gOk hC ho hg h1) h2
theorem runD_gOk (hC : ∀ f args g r g', C f args g = some (r, g') → noLocals args = true → gOk g → gOk g') : ∀ {xs done : List LOper} {s s' : St}, (∀ x ∈ xs, ∃ o, opOk P x.op o = true) → gOk s.g → runD C done xs s = some s' → gOk s'.g
  | [], done, s, s', _, hg, h => by simp only [runD, Option.some.injEq] at h; subst h; exact hg
  | x :: xs, done, s, s', hx, hg, h => by
    simp only [runD, stepD] at h
    obtain ⟨s1, h1, h2⟩ := Option.bind_eq_some_iff.1 h
    obtain ⟨s0, h0, h1⟩ := Option.bind_eq_some_iff.1 h1
    unfold againK at h1
    split at h1
    rotate_left
    · cases h1
    simp only [Option.some.injEq] at h1
    subst h1
    obtain ⟨o, ho⟩ := hx x (by simp)
    exact runD_gOk hC (fun y hy => hx y (by simp [hy])) (step_gOk hC ho hg h0) h2
theorem opersOk_all {ops : Array Oper} : ∀ {xs : List LOper} {os : List Oper}, opersOk P n ops xs os = true → ∀ x ∈ xs, ∃ o, opOk P x.op o = true
  | [], _, _, x, hx => by simp at hx
  | y :: xs, [], h, x, hx => by simp [opersOk] at h
  | y :: xs, o :: os, h, x, hx => by
    simp only [opersOk, Bool.and_eq_true] at h
    rcases List.mem_cons.1 hx with rfl | hx
    · simp only [operOk, Bool.and_eq_true] at h
      exact ⟨o.op, h.1.1.1.1⟩
    · exact opersOk_all h.2 x hx
theorem drawOk_all {ops : Array Oper} {xs : List LOper} (h : drawOk P n ops xs = true) : ∀ x ∈ xs, ∃ o, opOk P x.op o = true := fun x hx => by
  obtain ⟨p, hp, rfl⟩ := atP_mem hx
  obtain ⟨o, _, ho⟩ := (drawFacts h).all p hp
  simp only [operOk, Bool.and_eq_true] at ho
  exact ⟨o.op, ho.1.1.1⟩
theorem keep_gOk {s s' : St} {ts ks : List Nat} (h : s.keep ts ks = some s') (hg : gOk s.g) : gOk s'.g := by
  unfold St.keep at h
  simp only at h
  split at h
  · cases h
  · simp only [Option.some.injEq] at h; subst h; exact hg
theorem bn_gOk {x : Option St} {ts ks : List Nat} {ex : Ex} {s' : St} (h : bn x ts ks = some (ex, s')) (hx : ∀ s, x = some s → gOk s.g) : gOk s'.g := by
  obtain ⟨s, rfl⟩ := bn_some' h
  simp only [bn, Option.bind_some, bn'] at h
  obtain ⟨s1, h1, h2⟩ := Option.bind_eq_some_iff.1 h
  simp only [Option.some.injEq, Prod.mk.injEq] at h2
  obtain ⟨rfl, rfl⟩ := h2
  exact keep_gOk h1 (hx s rfl)
theorem know_g (s : St) (x : LOpd) (b : Bool) : (s.know x b).g = s.g := by cases x <;> rfl
theorem aexec_gOk (hC : ∀ f args g r g', C f args g = some (r, g') → noLocals args = true → gOk g → gOk g') : ∀ (code : LCode) {cs : List Code}, codeOk P n code cs = true → ∀ {s s' : St} {ex : Ex}, gOk s.g → aexec C N code s = some (ex, s') → gOk s'.g
  | .stuck, cs, hok, s, s', ex, hg, h => by simp [aexec] at h
  | .skip, cs, hok, s, s', ex, hg, h => by
    simp only [aexec, Option.some.injEq, Prod.mk.injEq] at h
    rw [← h.2]; exact hg
  | .region xs d ts ks, cs, hok, s, s', ex, hg, h => by
    unfold codeOk at hok
    split at hok <;> try (cases hok; done)
    all_goals try contradiction
    rename_i heq
    injection heq with e1 e2 e3 e4
    subst e1 e2
    simp only [Bool.and_eq_true, beq_iff_eq] at hok
    simp only [aexec] at h
    refine bn_gOk h (fun s1 hs1 => runOps_gOk (P := P) hC ?_ hg hs1)
    split at hok
    · exact drawOk_all (by simp only [Bool.and_eq_true] at hok; exact hok.2.1)
    · exact opersOk_all hok.2
  | .draw xs ts ks, cs, hok, s, s', ex, hg, h => by
    unfold codeOk at hok
    split at hok <;> try (cases hok; done)
    all_goals try contradiction
    rename_i heq
    injection heq with e1 e2 e3
    subst e1
    simp only [Bool.and_eq_true] at hok
    simp only [aexec] at h
    exact bn_gOk h (fun s1 hs1 => runD_gOk hC (drawOk_all hok.2) hg hs1)
  | .seq x y, cs, hok, s, s', ex, hg, h => by
    cases cs with
    | nil => simp [codeOk] at hok
    | cons cd l =>
      simp only [codeOk, Bool.and_eq_true] at hok
      simp only [aexec] at h
      obtain ⟨⟨ex1, s1⟩, h1, h2⟩ := Option.bind_eq_some_iff.1 h
      have hg1 := aexec_gOk hC x hok.1 hg h1
      cases ex1 with
      | normal => exact aexec_gOk hC y hok.2 hg1 h2
      | exit id =>
        simp only [thenK, Option.some.injEq, Prod.mk.injEq] at h2
        rw [← h2.2]; exact hg1
      | ret =>
        simp only [thenK, Option.some.injEq, Prod.mk.injEq] at h2
        rw [← h2.2]; exact hg1
  | .cond x u v, cs, hok, s, s', ex, hg, h => by
    unfold codeOk at hok
    split at hok <;> try (cases hok; done)
    all_goals try contradiction
    rename_i heq
    injection heq with e1 e2 e3
    subst e1 e2 e3
    simp only [Bool.and_eq_true] at hok
    simp only [aexec] at h
    split at h
    rotate_left
    · cases h
    split at h
    · exact aexec_gOk hC u hok.1.2 (by rw [know_g]; exact hg) h
    · exact aexec_gOk hC v hok.2 (by rw [know_g]; exact hg) h
  | .block id x, cs, hok, s, s', ex, hg, h => by
    unfold codeOk at hok
    split at hok <;> try (cases hok; done)
    all_goals try contradiction
    rename_i heq
    injection heq with e1 e2
    subst e1 e2
    simp only [Bool.and_eq_true, beq_iff_eq] at hok
    simp only [aexec, bb] at h
    obtain ⟨⟨ex1, s1⟩, h1, h2⟩ := Option.bind_eq_some_iff.1 h
    have hg1 := aexec_gOk hC x hok.2 hg h1
    cases ex1 with
    | exit i =>
      simp only [blockK] at h2
      split at h2 <;> (simp only [Option.some.injEq, Prod.mk.injEq] at h2; rw [← h2.2]; exact hg1)
    | _ =>
      simp only [blockK, Option.some.injEq, Prod.mk.injEq] at h2
      rw [← h2.2]; exact hg1
  | .loop x, cs, hok, s, s', ex, hg, h => by
    unfold codeOk at hok
    split at hok <;> try (cases hok; done)
    all_goals try contradiction
    rename_i heq
    injection heq with e1
    subst e1
    simp only [aexec] at h
    have key : ∀ m (s1 : St), gOk s1.g → loopN (fun s => aexec C N x s) m s1 = some (ex, s') → gOk s'.g := by
      intro m
      induction m with
      | zero => intro s1 _ h; simp [loopN] at h
      | succ m ih =>
        intro s1 hg1 hl
        simp only [loopN] at hl
        obtain ⟨⟨ex1, s2⟩, h1, h2⟩ := Option.bind_eq_some_iff.1 hl
        have hg2 := aexec_gOk hC x hok hg1 h1
        cases ex1 with
        | normal => exact ih s2 hg2 h2
        | _ =>
          simp only [thenK, Option.some.injEq, Prod.mk.injEq] at h2
          rw [← h2.2]; exact hg2
    exact key N s hg h
  | .exit id, cs, hok, s, s', ex, hg, h => by
    simp only [aexec, Option.some.injEq, Prod.mk.injEq] at h
    rw [← h.2]; exact hg
  | .ret, cs, hok, s, s', ex, hg, h => by
    simp only [aexec, Option.some.injEq, Prod.mk.injEq] at h
    rw [← h.2]; exact hg
  | .keep ts ks x, cs, hok, s, s', ex, hg, h => by
    simp only [codeOk] at hok
    simp only [aexec] at h
    obtain ⟨s1, h1, h2⟩ := Option.bind_eq_some_iff.1 h
    exact aexec_gOk hC x hok (keep_gOk h1 hg) h2
  | .scope x, cs, hok, s, s', ex, hg, h => by
    unfold codeOk at hok
    cases hok
end
end Go.TA

/-! ## Fun -/
namespace Go.TA

def resOk (P : Program) : List LRes → List ResultVar → Bool
  | [], [] => true
  | .tmp t :: l, .tmp t' :: r => t == t' && resOk P l r
  | .cell t sz agg :: l, .cell t' ty :: r => t == t' && szOk P ty sz agg && resOk P l r
  | _, _ => false
def fnOk (P : Program) (F : LFunc) (fn : Func) (body : Code) : Bool := resOk P F.results fn.results.toList && codeOk P (max F.nparams fn.ntmps) F.body (items body)
/-- What is said of one call. -/
def SoundAt (P : Program) (Γ : Ground) (f : Nat) (args : List AV) (g : List AObj) (r : AV) (g' : List AObj) : Prop :=
  calleeOk P f = true ∧ gOk g' ∧ noLocal r = true ∧
    ∀ (c : Cx) (vs : List Value), c.l = [] → c.g = g → RelH Γ c → args.length = vs.length → (∀ j (h : j < args.length) (h' : j < vs.length), RelV c (args[j]) (vs[j])) →
      Calls P f vs.toArray c.w (fun e w' => ∃ v, e = .returned v ∧ Ans Γ c [] g' r v w')
def PrimOk (P : Program) (Γ : Ground) (f : Nat) (p : Calls' → List AV → List AObj → Option (AV × List AObj)) : Prop :=
  ∀ C, SoundC P Γ C → ∀ args g r g', p C args g = some (r, g') → noLocals args = true → gOk g → SoundAt P Γ f args g r g'
def FnSound (P : Program) (f : Nat) (F : LFunc) : Prop := calleeOk P f = true ∧ ∃ fn body, P.funcs[f]? = some fn ∧ fn.body = some body ∧ fnOk P F fn body = true
def TOk (P : Program) (Γ : Ground) (T : Nat → Option LFn) : Prop := ∀ f, match T f with
  | some (.code F) => FnSound P f F
  | some (.prim p) => PrimOk P Γ f p
  | none => True

section
variable {P : Program} {Γ : Ground} {C : Calls'} {n N : Nat} {c : Cx} {s : St} {a : Act}

def rvOf (tmps : Array Value) : ResultVar → Sem Value
  | .tmp t => pure (tmps.getD t undef)
  | .cell p t => do loadVar t (← asAddr (tmps.getD p undef))
/-- The results' values. -/
theorem res_rel (hg : Good Γ c s a n) : ∀ {rs : List LRes} {vars : List ResultVar} {vs : List AV}, resOk P rs vars = true → allM (result1 C s) rs = some vs →
    ∃ us : List Value, (vars.mapM (rvOf a.tmps)).run P c.w = .ok us c.w ∧ vs.length = us.length ∧ ∀ j (h : j < vs.length) (h' : j < us.length), RelV c (vs[j]) (us[j])
  | [], [], vs, _, h => by
    simp only [allM, Option.some.injEq] at h
    subst h
    exact ⟨[], by simp, rfl, by simp⟩
  | [], _ :: _, vs, h, _ => by simp [resOk] at h
  | .tmp _ :: _, [], vs, h, _ => by simp [resOk] at h
  | .cell .. :: _, [], vs, h, _ => by simp [resOk] at h
  | .tmp _ :: _, .cell .. :: _, vs, h, _ => by simp [resOk] at h
  | .cell .. :: _, .tmp _ :: _, vs, h, _ => by simp [resOk] at h
  | .tmp t :: rs, .tmp t' :: vars, vs, hok, h => by
    simp only [resOk, Bool.and_eq_true, beq_iff_eq] at hok
    obtain ⟨rfl, hok⟩ := hok
    simp only [allM] at h
    obtain ⟨v, hv, h⟩ := bk_eq h
    obtain ⟨vs', hvs, h⟩ := bk_eq h
    simp only [Option.some.injEq] at h
    subst h
    simp only [result1, Option.some.injEq] at hv
    subst hv
    obtain ⟨us, h1, h2, h3⟩ := res_rel hg hok hvs
    have e : (rvOf a.tmps (.tmp t)).run P c.w = .ok (a.tmps.getD t undef) c.w := rfl
    refine ⟨a.tmps.getD t undef :: us, by simp [List.mapM_cons, e, h1], by simp [h2], fun j h h' => ?_⟩
    cases j with
    | zero => exact hg.F t
    | succ j => exact h3 j (by simpa using h) (by simpa using h')
  | .cell t sz agg :: rs, .cell t' ty :: vars, vs, hok, h => by
    simp only [resOk, Bool.and_eq_true, beq_iff_eq] at hok
    obtain ⟨⟨rfl, hsz⟩, hok⟩ := hok
    simp only [allM] at h
    obtain ⟨v, hv, h⟩ := bk_eq h
    obtain ⟨vs', hvs, h⟩ := bk_eq h
    simp only [Option.some.injEq] at h
    subst h
    simp only [result1] at hv
    obtain ⟨⟨v', s'⟩, hev, hv⟩ := bk_eq hv
    simp only [Option.some.injEq] at hv
    subst hv
    obtain ⟨ad, u, hu, hrun, _, hr⟩ := load_rel (P := P) hg.l hg.g hg.H hsz (x := .t t) (hg.F t) hev
    obtain ⟨us, h1, h2, h3⟩ := res_rel hg hok hvs
    have e : (rvOf a.tmps (.cell t ty)).run P c.w = .ok u c.w := by
      simp only [rvOf, hu, asAddr, Sem.run_bind]
      simpa using hrun
    refine ⟨u :: us, by simp [List.mapM_cons, e, h1], by simp [h2], fun j h h' => ?_⟩
    cases j with
    | zero => exact hr
    | succ j => exact h3 j (by simpa using h) (by simpa using h')
def oneOrAll : List Value → Value
  | [u] => u
  | us => .tuple us.toArray
theorem results_rel (hg : Good Γ c s a n) {fn : Func} {rs : List LRes} {vs : List AV} (hok : resOk P rs fn.results.toList = true) (h : allM (result1 C s) rs = some vs) :
    ∃ us : List Value, (results fn a.tmps).run P c.w = .ok (oneOrAll us) c.w ∧ vs.length = us.length ∧ ∀ j (h : j < vs.length) (h' : j < us.length), RelV c (vs[j]) (us[j]) := by
  obtain ⟨us, h1, h2, h3⟩ := res_rel hg hok h
  refine ⟨us, ?_, h2, h3⟩
  have e : results fn a.tmps = (do let vs ← fn.results.mapM (rvOf a.tmps); pure (if h : vs.size = 1 then vs[0] else .tuple vs)) := rfl
  rw [e, Array.mapM_eq_mapM_toList]
  simp only [Sem.run_bind, Sem.run_map, h1, Result.andThen_ok, map_eq_pure_bind]
  match us with
  | [] => rfl
  | [u] => rfl
  | u :: v :: us => simp [oneOrAll]
theorem enter_rel {args : List AV} {vs : List Value} (hl : args.length = vs.length) (h : ∀ j (h : j < args.length) (h' : j < vs.length), RelV c (args[j]) (vs[j])) (m : Nat) (g : List AObj) :
    RelF c (enterSt args g) { tmps := vs.toArray ++ Array.replicate m undef, defers := [] } := by
  intro t
  have key : ∀ (l : List AV) (k t : Nat), lk ((List.range' k l.length).zip l) (k + t) = l[t]? := by
    intro l
    induction l with
    | nil => intro k t; rfl
    | cons a l ih =>
      intro k t
      simp only [List.length_cons, List.range'_succ, List.zip_cons_cons, lk]
      cases t with
      | zero => simp
      | succ t =>
        have : (k == k + (t + 1)) = false := by simp
        simp only [this, List.getElem?_cons_succ]
        have := ih (k + 1) t
        rw [show k + 1 + t = k + (t + 1) by omega] at this
        exact this
  have e : (enterSt args g).get t = orBot args[t]? := by
    simp only [enterSt, St.get, List.range_eq_range']
    have := key args 0 t
    rw [Nat.zero_add] at this
    rw [this]
  rw [e]
  by_cases ht : t < args.length
  · have ht' : t < vs.length := by omega
    rw [List.getElem?_eq_getElem ht]
    have := h t ht ht'
    simpa [orBot, Array.getElem?_append, ht'] using this
  · rw [List.getElem?_eq_none (by omega)]
    exact .bot _
end
end Go.TA

/-! ## Sound -/
namespace Go.TA
section
variable {P : Program} {Γ : Ground} {C : Calls'} {n N : Nat} {c : Cx} {s : St} {a : Act}

theorem body_good {args : List AV} {vs : List Value} (hl : args.length = vs.length) (h : ∀ j (h : j < args.length) (h' : j < vs.length), RelV c (args[j]) (vs[j])) (hH : RelH Γ c) (hcl : c.l = []) (hgo : gOk c.g) {np nt : Nat} (hp : args.length = np) :
    Good Γ c (enterSt args c.g) { tmps := vs.toArray ++ Array.replicate (nt - vs.toArray.size) undef, defers := [] } (max np nt) where
  l := hcl.symm
  g := rfl
  H := hH
  F := enter_rel hl h _ _
  G := hgo
  N := by simp; omega
  D := rfl
theorem one_rel {vs : List AV} {us : List Value} (hl : vs.length = us.length) (h : ∀ j (h : j < vs.length) (h' : j < us.length), RelV c (vs[j]) (us[j])) : RelV c (oneTup vs) (oneOrAll us) := by
  match vs, us, hl, h with
  | [], [], hl, h => exact .tuple [] [] rfl (by simp)
  | [v], [u], hl, h => exact h 0 (by simp) (by simp)
  | v :: v' :: vs, u :: u' :: us, hl, h => exact .tuple _ _ hl h
theorem tupleOf_rel {ps : List PV} {us : List Value} (hl : ps.length = us.length) (h : ∀ j (h : j < ps.length) (h' : j < us.length), RelP c.w c.N (ps[j]) (us[j])) : RelV c (tupleOf ps) (oneOrAll us) := by
  match ps, us, hl, h with
  | [], [], hl, h => exact .tuple [] [] rfl (by simp)
  | [v], [u], hl, h => exact .p _ _ (h 0 (by simp) (by simp))
  | v :: v' :: vs, u :: u' :: us, hl, h => exact relP_tuple_rel hl h
theorem one_noLocal {vs : List AV} (h : noLocals vs = true) : noLocal (oneTup vs) = true := by
  match vs, h with
  | [], _ => rfl
  | [v], h => simpa [noLocals, oneTup] using h
  | v :: v' :: vs, h => simpa [noLocal, oneTup] using h
theorem tupleOf_noLocal (ps : List PV) : noLocal (tupleOf ps) = true := by
  match ps with
  | [] => rfl
  | [v] => rfl
  | v :: v' :: vs => simp only [tupleOf, noLocal]; exact noLocals_p _
theorem ret_inv {F : LFunc} {x : Option (Ex × St)} {r : AV} {g' : List AObj} (h : br C F x = some (r, g')) : ∃ ex s', x = some (ex, s') ∧ (ex = .normal ∨ ex = .ret) ∧ resultsOf C F s' = some r ∧ g' = s'.g := by
  unfold br at h
  obtain ⟨⟨ex, s'⟩, hx, h⟩ := Option.bind_eq_some_iff.1 h
  refine ⟨ex, s', hx, ?_⟩
  cases ex <;> simp only [retK, rr, Option.map_eq_some_iff, reduceCtorEq] at h
  all_goals
    obtain ⟨r', hr, h⟩ := h
    simp only [Prod.mk.injEq] at h
    obtain ⟨rfl, rfl⟩ := h
    simp [hr]
theorem post_ret {fn : Func} {R : Ending → World → Prop} {ex : Ex} (he : ex = .normal ∨ ex = .ret) {a : Act} {w : World} {v : Value} (hd : a.defers = []) (hr : (results fn a.tmps).run P w = .ok v w) (hR : R (.returned v) w) : bodyPost P fn R (toExit ex) a w := by
  rcases he with rfl | rfl <;> exact ⟨hd, v, hr, hR⟩
theorem code_sound (hm : P.follows .mixedOrders = true) (hC : SoundC P Γ C) {f : Nat} {F : LFunc} (hF : FnSound P f F) {args : List AV} {g : List AObj} {r : AV} {g' : List AObj} (h : runFn C N F args g = some (r, g')) (hno : noLocals args = true) (hgo : gOk g) : SoundAt P Γ f args g r g' := by
  obtain ⟨hcal, fn, body, hfn, hbody, hok⟩ := hF
  simp only [fnOk, Bool.and_eq_true] at hok
  obtain ⟨hres, hcode⟩ := hok
  have hCg : ∀ f args g r g', C f args g = some (r, g') → noLocals args = true → gOk g → gOk g' := fun f args g r g' h1 h2 h3 => (hC f args g r g' h1 h2 h3).2.1
  unfold runFn at h
  split at h
  rotate_left
  · cases h
  rename_i hlen
  split at h
  · rename_i hpure
    split at h
    rotate_left
    · cases h
    rename_i hargs
    obtain ⟨⟨r1, g1⟩, hbr, h⟩ := Option.map_eq_some_iff.1 h
    simp only [Prod.mk.injEq] at h
    obtain ⟨rfl, rfl⟩ := h
    obtain ⟨ex, s', hex, hee, hr, _⟩ := ret_inv hbr
    unfold resultsOf at hr
    obtain ⟨vs', hvs, hr⟩ := bk_eq hr
    rw [if_pos hpure] at hr
    obtain ⟨ps, hps, hr⟩ := bk_eq hr
    simp only [Option.some.injEq] at hr
    subst hr
    refine ⟨hcal, hgo, tupleOf_noLocal ps, fun c vs hl hg hH hlv hrel => ?_⟩
    let X : Nat → Prop := fun x => c.X x ∨ c.Own x
    have hH0 := relH_alone hH X (fun b hb => hb)
    have hN0 : ∀ b, c.N b → ¬ X b := fun b hb h => h.elim hb.1 hb.2
    have hrel0 : ∀ j (h : j < args.length) (h' : j < vs.length), RelV (c.alone X) (args[j]) (vs[j]) := fun j h h' => relV_alone hN0 (List.all_eq_true.1 hargs _ (List.getElem_mem h)) (hrel j h h')
    refine calls_of_wp hfn hbody ?_
    have hg0 := body_good (c := c.alone X) (nt := fn.ntmps) hlv hrel0 hH0 rfl (fun o h => by simp [Cx.alone] at h) hlen
    refine wp_of_wpL (aexec_rel hm hC F.body hcode hg0 hex (fun c' a' hg' hE => ?_))
    obtain ⟨us, hrun, hl1, hl2⟩ := results_rel (C := C) hg' hres hvs
    refine post_ret hee hg'.D hrun ⟨_, rfl, ?_⟩
    obtain ⟨p1, p2⟩ := allM_get hps
    have hbel : Go.RowKit.Below c.w.heap.size c.w c'.w := ⟨hE.os, hE.tape, hE.output, hE.size, fun k hk => hE.keep k hk (alone_own X k)⟩
    refine ⟨{ c with w := c'.w }, hl, hg, rfl, evolve_below hbel hH.lt, hH.below hbel, tupleOf_rel (by omega) (fun j h1 h2 => ?_)⟩
    have hv := view_rel hg'.l hg'.g hg'.H 8 (p2 j (by omega) h1) (hl2 j (by omega) h2)
    exact hv.mono fun b hb hlt => ⟨by
      have hx : ¬ X b := by simpa [Cx.NX, hE.X, Cx.alone] using hb
      exact ⟨fun h => hx (.inl h), fun h => hx (.inr h)⟩, hlt, rfl⟩
  · rename_i hpure
    obtain ⟨ex, s', hex, hee, hr, rfl⟩ := ret_inv h
    unfold resultsOf at hr
    obtain ⟨vs', hvs, hr⟩ := bk_eq hr
    rw [if_neg hpure] at hr
    split at hr
    rotate_left
    · cases hr
    rename_i hnl
    simp only [Option.some.injEq] at hr
    subst hr
    have hgo' : gOk s'.g := aexec_gOk hCg F.body hcode (s := enterSt args g) hgo hex
    have hnr := one_noLocal hnl
    refine ⟨hcal, hgo', hnr, fun c vs hl hg hH hlv hrel => ?_⟩
    refine calls_of_wp hfn hbody ?_
    subst hg
    have hg0 := body_good (nt := fn.ntmps) hlv hrel hH hl hgo hlen
    refine wp_of_wpL (aexec_rel hm hC F.body hcode hg0 hex (fun c' a' hg' hE => ?_))
    obtain ⟨us, hrun, hl1, hl2⟩ := results_rel (C := C) hg' hres hvs
    refine post_ret hee hg'.D hrun ⟨_, rfl, ?_⟩
    have hs : ∀ k o, lk ([] : List (Nat × AObj)) k = some o → lk c'.l k = some o := fun k o h => by simp [lk] at h
    refine ⟨c'.drop [], rfl, hg'.g.symm, rfl, (hE.trans evo_drop).evolve hl, relH_drop hg'.H hs (by rw [← hg'.g]; exact hgo') (fun e h => by simp at h), ?_⟩
    exact relV_drop hs (one_rel hl1 hl2) (noLocal_mentions _ hnr)
def fnSoundB (P : Program) (f : Nat) (F : LFunc) : Bool := calleeOk P f && match P.funcs[f]? with
  | some fn => (match fn.body with
    | some b => fnOk P F fn b
    | none => false)
  | none => false
theorem fnSound_of {f : Nat} {F : LFunc} (h : fnSoundB P f F = true) : FnSound P f F := by
  unfold fnSoundB at h
  simp only [Bool.and_eq_true] at h
  refine ⟨h.1, ?_⟩
  have h := h.2
  split at h
  · rename_i fn hfn
    split at h
    · rename_i b hb
      exact ⟨fn, b, hfn, hb, h⟩
    · cases h
  · cases h
theorem acall_sound (hm : P.follows .mixedOrders = true) {T : Nat → Option LFn} (hT : TOk P Γ T) : ∀ n, SoundC P Γ (acall T n)
  | 0 => fun f args g r g' h => by simp [acall] at h
  | n + 1 => fun f args g r g' h hno hgo => by
    have hC := acall_sound hm hT n
    have ht := hT f
    simp only [acall] at h
    cases e : T f with
    | none => rw [e] at h; simp [acallK] at h
    | some x =>
      rw [e] at h ht
      cases x with
      | code F => exact code_sound hm hC ht h hno hgo
      | prim p => exact ht _ hC args g r g' h hno hgo
end
end Go.TA

end
