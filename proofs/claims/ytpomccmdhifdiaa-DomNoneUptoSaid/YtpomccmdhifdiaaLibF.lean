/- Code, functions and the whole table are sound. -/
import Derived.Test.YtpomccmdhifdiaaLibE
set_option linter.unusedVariables false
set_option linter.unusedSimpArgs false

/-! ## Keep -/
namespace Go.TA

/-- How contexts follow each other within a call: of the blocks alone those that are shared last. -/
structure Evo (c c' : Cx) : Prop where
  X : c'.X = c.X
  size : c.w.heap.size ≤ c'.w.heap.size
  tape : c'.w.tape = c.w.tape
  os : c'.w.os = c.w.os
  output : c'.w.output = c.w.output
  keep : ∀ b, b < c.w.heap.size → ¬ c.Own b → c'.w.heap[b]? = c.w.heap[b]?
  fresh : ∀ b, c'.Own b → c.Own b ∨ c.w.heap.size ≤ b
  objs : ∀ k o, c.obj true k = some o → ∃ o', c'.obj true k = some o' ∧ ∀ m', o'.cnt = some m' → ∃ m, o.cnt = some m ∧ m ≤ m' ∧ o'.isMap = o.isMap ∧
    (m = m' → c'.μ true k = c.μ true k ∧ o'.sz = o.sz ∧ ∀ b cs e, c.μ true k = some b → c.w.heap[b]? = some (.cells cs e (0, 0)) → ∃ cs', c'.w.heap[b]? = some (.cells cs' e (0, 0)) ∧ cs'.size = cs.size)
section
variable {c c' c'' : Cx}
theorem Evolve.evo (h : Evolve c c') : Evo c c' := ⟨h.X, h.size, h.tape, h.os, h.output, h.keep, h.fresh, fun k o => h.objs true k o⟩
theorem Evo.refl (c : Cx) : Evo c c := (Evolve.refl c).evo
theorem Evo.trans (h : Evo c c') (h' : Evo c' c'') : Evo c c'' where
  X := h'.X.trans h.X
  size := Nat.le_trans h.size h'.size
  tape := h'.tape.trans h.tape
  os := h'.os.trans h.os
  output := h'.output.trans h.output
  keep b hb hn := by
    have h1 : ¬ c'.Own b := fun ho => by
      rcases h.fresh b ho with h2 | h2
      · exact hn h2
      · omega
    exact (h'.keep b (Nat.lt_of_lt_of_le hb h.size) h1).trans (h.keep b hb hn)
  fresh b ho := by
    rcases h'.fresh b ho with h1 | h1
    · exact h.fresh b h1
    · exact .inr (Nat.le_trans h.size h1)
  objs k o ho := by
    obtain ⟨o1, h1, H1⟩ := h.objs k o ho
    obtain ⟨o2, h2, H2⟩ := h'.objs k o1 h1
    refine ⟨o2, h2, fun m2 hm2 => ?_⟩
    obtain ⟨m1, hm1, hle1, hk1, s1⟩ := H2 m2 hm2
    obtain ⟨m0, hm0, hle0, hk0, s0⟩ := H1 m1 hm1
    refine ⟨m0, hm0, Nat.le_trans hle0 hle1, hk1.trans hk0, fun e => ?_⟩
    obtain ⟨a1, a2, a3⟩ := s1 (by omega)
    obtain ⟨b1, b2, b3⟩ := s0 (by omega)
    refine ⟨a1.trans b1, a2.trans b2, fun b cs e hb hh => ?_⟩
    obtain ⟨cs1, x1, x2⟩ := b3 b cs e hb hh
    obtain ⟨cs2, y1, y2⟩ := a3 b cs1 e (b1.trans hb) x1
    exact ⟨cs2, y1, y2.trans x2⟩
/-- At a call's end, if it began without blocks of its own. -/
theorem Evo.evolve (h : Evo c c') (hl : c.l = []) : Evolve c c' := ⟨h.X, h.size, h.tape, h.os, h.output, h.keep, h.fresh, fun z k o ho => by
  cases z
  · simp [Cx.obj, hl, lk] at ho
  · exact h.objs k o ho⟩

/-! ### dropping blocks -/
def Cx.drop (c : Cx) (l' : List (Nat × AObj)) : Cx := ⟨c.X, fun z k => if z then c.μ true k else if (lk l' k).isSome then c.μ false k else none, l', c.g, c.w⟩
variable {l' : List (Nat × AObj)} {Γ : Ground}
theorem drop_N (b : Nat) (h : c.N b) : (c.drop l').N b := ⟨h.1, fun ⟨z, k, hk⟩ => by
  cases z
  · simp only [Cx.drop, Bool.false_eq_true, if_false] at hk
    split at hk
    · exact h.2 ⟨false, k, hk⟩
    · cases hk
  · exact h.2 ⟨true, k, hk⟩⟩
theorem relP_drop {pv : PV} {v : Value} (h : RelP c.w c.N pv v) : RelP (c.drop l').w (c.drop l').N pv v := h.mono fun b hb hlt => ⟨drop_N b hb, hlt, rfl⟩
theorem lk_contains : ∀ {α : Type} (l : List (Nat × α)) (k : Nat), (l.map (·.1)).contains k = (lk l k).isSome
  | _, [], k => rfl
  | _, (a, v) :: l, k => by
    simp only [List.map_cons, List.contains_cons, lk]
    cases e : (a == k)
    · have : (k == a) = false := by
        have := beq_eq_false_iff_ne.1 e
        exact beq_eq_false_iff_ne.2 (Ne.symm this)
      simp only [this, Bool.false_or]
      exact lk_contains l k
    · have : a = k := beq_iff_eq.1 e
      subst this
      simp
theorem drop_obj_true (k : Nat) : (c.drop l').obj true k = c.obj true k := by simp [Cx.obj, Cx.drop]
theorem drop_obj_false (hs : ∀ k o, lk l' k = some o → lk c.l k = some o) {k : Nat} (hk : (lk l' k).isSome = true) : (c.drop l').obj false k = c.obj false k := by
  obtain ⟨o, ho⟩ := Option.isSome_iff_exists.1 hk
  simp [Cx.obj, Cx.drop, ho, hs k o ho]
theorem drop_μ_false {k : Nat} (hk : (lk l' k).isSome = true) : (c.drop l').μ false k = c.μ false k := by simp [Cx.drop, hk]
theorem drop_both (hs : ∀ k o, lk l' k = some o → lk c.l k = some o) {z : Bool} {k : Nat} (h : (z || (l'.map (·.1)).contains k) = true) : (c.drop l').obj z k = c.obj z k ∧ (c.drop l').μ z k = c.μ z k := by
  cases z
  · simp only [Bool.false_or, lk_contains] at h
    exact ⟨drop_obj_false hs h, drop_μ_false h⟩
  · exact ⟨drop_obj_true k, rfl⟩
theorem mentionsL_get {ks : List Nat} : ∀ {l : List AV}, mentionsL ks l = false → ∀ j (h : j < l.length), mentions ks (l[j]) = false
  | [], _, j, h => by simp at h
  | a :: l, hm, j, h => by
    simp only [mentionsL, Bool.or_eq_false_iff] at hm
    cases j with
    | zero => exact hm.1
    | succ j => exact mentionsL_get hm.2 j (by simpa using h)
theorem mentionsLL_get {ks : List Nat} : ∀ {l : List (List AV)}, mentionsLL ks l = false → ∀ j (h : j < l.length), mentionsL ks (l[j]) = false
  | [], _, j, h => by simp at h
  | a :: l, hm, j, h => by
    simp only [mentionsLL, Bool.or_eq_false_iff] at hm
    cases j with
    | zero => exact hm.1
    | succ j => exact mentionsLL_get hm.2 j (by simpa using h)
theorem relV_drop (hs : ∀ k o, lk l' k = some o → lk c.l k = some o) {av : AV} {v : Value} (h : RelV c av v) : mentions (l'.map (·.1)) av = false → RelV (c.drop l') av v := by
  induction h with
  | bot v => intro _; exact .bot v
  | p pv v hp => intro _; exact .p _ _ (relP_drop hp)
  | rop cs b off f hN hb hc h1 hr => intro _; exact .rop cs b off f (drop_N b hN) hb hc h1 (fun j hj => relP_drop (hr j hj))
  | ptr z k sz n i j a hp =>
    intro hn
    simp only [mentions, Bool.not_eq_false'] at hn
    obtain ⟨e1, e2⟩ := drop_both hs hn
    obtain ⟨ob, ho, H⟩ := hp
    exact .ptr _ _ _ _ _ _ _ ⟨ob, e1.trans ho, fun m hm => ⟨(H m hm).1, fun e => by obtain ⟨b, hb, ha⟩ := (H m hm).2 e; exact ⟨b, e2.trans hb, ha⟩⟩⟩
  | own z k n A cap hp =>
    intro hn
    simp only [mentions, Bool.not_eq_false'] at hn
    obtain ⟨e1, e2⟩ := drop_both hs hn
    obtain ⟨ob, ho, H⟩ := hp
    refine .own _ _ _ _ _ ⟨ob, e1.trans ho, fun m hm => ⟨(H m hm).1, fun e => ?_⟩⟩
    rcases (H m hm).2 e with ⟨x1, x2⟩ | ⟨b, cs, e, x1, x2⟩
    · exact .inl ⟨e2.trans x1, x2⟩
    · exact .inr ⟨b, cs, e, e2.trans x1, x2⟩
  | nils => intro _; exact .nils
  | lit xs b cap sz f hN hb hc hm hl hcell h1 hr ih =>
    intro hn
    simp only [mentions] at hn
    exact .lit xs b cap sz f (drop_N b hN) hb hc hm hl hcell h1 (fun i j hi hj => ih i j hi hj (mentionsL_get (mentionsLL_get hn i hi) j hj))
  | map z k r hp =>
    intro hn
    simp only [mentions, Bool.not_eq_false'] at hn
    obtain ⟨e1, e2⟩ := drop_both hs hn
    obtain ⟨ob, ho, H⟩ := hp
    exact .map _ _ _ ⟨ob, e1.trans ho, fun m hm => ⟨(H m hm).1, by obtain ⟨b, hb, ha⟩ := (H m hm).2; exact ⟨b, e2.trans hb, ha⟩⟩⟩
  | func f cs vs hl hr ih =>
    intro hn
    simp only [mentions] at hn
    exact .func f cs vs hl (fun j h h' => ih j h h' (mentionsL_get hn j h))
  | agg cs vs hl h1 hr ih =>
    intro hn
    simp only [mentions] at hn
    exact .agg cs vs hl h1 (fun j h h' => ih j h h' (mentionsL_get hn j h))
  | tuple cs vs hl hr ih =>
    intro hn
    simp only [mentions] at hn
    exact .tuple cs vs hl (fun j h h' => ih j h h' (mentionsL_get hn j h))
mutual
theorem noLocal_mentions (ks : List Nat) : ∀ {a : AV}, noLocal a = true → mentions ks a = false
  | .bot, _ => rfl
  | .p _, _ => rfl
  | .rop _, _ => rfl
  | .ptr z .., h => by simp only [noLocal] at h; subst h; rfl
  | .own z .., h => by simp only [noLocal] at h; subst h; rfl
  | .nils, _ => rfl
  | .lit _, h => by simp [noLocal] at h
  | .map z _, h => by simp only [noLocal] at h; subst h; rfl
  | .func _ cs, h => by simp only [noLocal] at h; simpa [mentions] using noLocals_mentions ks h
  | .agg cs, h => by simp only [noLocal] at h; simpa [mentions] using noLocals_mentions ks h
  | .tuple cs, h => by simp only [noLocal] at h; simpa [mentions] using noLocals_mentions ks h
theorem noLocals_mentions (ks : List Nat) : ∀ {l : List AV}, noLocals l = true → mentionsL ks l = false
  | [], _ => rfl
  | a :: l, h => by
    simp only [noLocals, Bool.and_eq_true] at h
    simp [mentionsL, noLocal_mentions ks h.1, noLocals_mentions ks h.2]
end
theorem obj_mentions (ks : List Nat) {o : AObj} (h : noLocalObj o = true) : o.mentions ks = false := by
  cases o with
  | cells sz xs =>
    simp only [noLocalObj, List.all_eq_true] at h
    simp only [AObj.mentions, List.any_eq_false, Bool.not_eq_true]
    exact fun x hx => noLocals_mentions ks (h x hx)
  | map es =>
    simp only [noLocalObj, List.all_eq_true] at h
    simp only [AObj.mentions, List.any_eq_false, Bool.not_eq_true]
    exact fun x hx => noLocal_mentions ks (h x hx)
  | _ => rfl
theorem relObj_drop (hs : ∀ k o, lk l' k = some o → lk c.l k = some o) {z : Bool} {k : Nat} {ob : AObj} (hμ : (c.drop l').μ z k = c.μ z k) (h : RelObj c z k ob) (hn : ob.mentions (l'.map (·.1)) = false) : RelObj (c.drop l') z k ob := by
  have row : ∀ (m : Option Nat) (sz : Nat) (xs : List (List AV)), (∀ r ∈ xs, mentionsL (l'.map (·.1)) r = false) → RelRow c m sz xs → RelRow (c.drop l') m sz xs := fun m sz xs hx hr => by
    obtain ⟨h0, h1⟩ := hr
    refine ⟨h0, h1.imp id ?_⟩
    rintro ⟨b, cs, e, hb, hh, hs', hv⟩
    refine ⟨b, cs, e, hb, hh, hs', fun i j hi hj => ?_⟩
    obtain ⟨v, v1, v2, v3⟩ := hv i j hi hj
    exact ⟨v, v1, v2, relV_drop hs v3 (mentionsL_get (hx _ (List.getElem_mem hi)) j hj)⟩
  cases ob with
  | dead => trivial
  | siter a b => trivial
  | pcells sz xs =>
    simp only [RelObj, hμ] at h ⊢
    refine row _ _ _ (fun r hr => ?_) h
    simp only [lift, List.mem_map] at hr
    obtain ⟨p, _, rfl⟩ := hr
    exact noLocals_mentions _ (noLocals_p p)
  | cells sz xs =>
    simp only [RelObj, hμ] at h ⊢
    simp only [AObj.mentions, List.any_eq_false, Bool.not_eq_true] at hn
    exact row _ _ _ hn h
  | map es =>
    simp only [RelObj, hμ] at h ⊢
    obtain ⟨b, es', clock, hb, hh, hs', hv⟩ := h
    refine ⟨b, es', clock, hb, hh, hs', fun i h1 h2 => ?_⟩
    obtain ⟨x1, x2, x3⟩ := hv i h1 h2
    simp only [AObj.mentions, List.any_eq_false, Bool.not_eq_true] at hn
    exact ⟨x1, relP_drop x2, relV_drop hs x3 (hn _ (List.getElem_mem h1))⟩
theorem lk_mem : ∀ {α : Type} {l : List (Nat × α)} {k : Nat} {o : α}, lk l k = some o → (k, o) ∈ l
  | _, [], k, o, h => by simp [lk] at h
  | _, (a, v) :: l, k, o, h => by
    simp only [lk] at h
    split at h
    · rename_i e
      have : a = k := beq_iff_eq.1 e
      subst this
      simp only [Option.some.injEq] at h
      subst h
      simp
    · exact List.mem_cons_of_mem _ (lk_mem h)
theorem relH_drop (hH : RelH Γ c) (hs : ∀ k o, lk l' k = some o → lk c.l k = some o) (hg : gOk c.g) (hm : ∀ e ∈ l', e.2.mentions (l'.map (·.1)) = false) : RelH Γ (c.drop l') where
  ground := hH.ground
  objs z k ob hob := by
    cases z
    · have hk : lk l' k = some ob := by simpa [Cx.obj, Cx.drop] using hob
      refine relObj_drop hs (drop_μ_false (by rw [hk]; rfl)) (hH.objs false k ob ?_) (hm _ (lk_mem hk))
      simpa [Cx.obj] using hs k ob hk
    · rw [drop_obj_true] at hob
      refine relObj_drop hs rfl (hH.objs true k ob hob) (obj_mentions _ (hg ob ?_))
      simp only [Cx.obj, if_true] at hob
      exact List.mem_of_getElem? hob
  inj z k z' k' b h1 h2 := by
    have sub : ∀ z k, (c.drop l').μ z k = some b → c.μ z k = some b := fun z k h => by
      cases z
      · simp only [Cx.drop, Bool.false_eq_true, if_false] at h
        split at h
        · exact h
        · cases h
      · exact h
    exact hH.inj _ _ _ _ _ (sub _ _ h1) (sub _ _ h2)
  live z k b h := by
    cases z
    · simp only [Cx.drop, Bool.false_eq_true, if_false] at h
      split at h
      rotate_left
      · cases h
      rename_i hk
      obtain ⟨x1, x2, x3, ob, x4, x5⟩ := hH.live _ _ _ h
      exact ⟨x1, x2, x3, ob, (drop_obj_false hs hk).trans x4, x5⟩
    · obtain ⟨x1, x2, x3, ob, x4, x5⟩ := hH.live true k b h
      exact ⟨x1, x2, x3, ob, (drop_obj_true k).trans x4, x5⟩
  xlt := hH.xlt
theorem evo_drop : Evo c (c.drop l') where
  X := rfl
  size := Nat.le_refl _
  tape := rfl
  os := rfl
  output := rfl
  keep _ _ _ := rfl
  fresh b ho := by
    obtain ⟨z, k, h⟩ := ho
    cases z
    · simp only [Cx.drop, Bool.false_eq_true, if_false] at h
      split at h
      · exact .inl ⟨false, k, h⟩
      · cases h
    · exact .inl ⟨true, k, h⟩
  objs k o ho := ⟨o, (drop_obj_true k).trans ho, fun m hm => ⟨m, hm, Nat.le_refl _, rfl, fun _ => ⟨rfl, rfl, fun b cs e _ hh => ⟨cs, hh, rfl⟩⟩⟩⟩

/-! ### keep -/
theorem lk_pickL {l : List (Nat × AObj)} : ∀ {ks : List Nat} {k : Nat} {o : AObj}, lk (pickL l ks) k = some o → lk l k = some o
  | [], k, o, h => by simp [pickL, lk] at h
  | a :: ks, k, o, h => by
    simp only [pickL] at h
    split at h
    · rename_i v hv
      simp only [lk] at h
      split at h
      · rename_i e
        have : a = k := beq_iff_eq.1 e
        subst this
        rw [← h]; exact hv
      · exact lk_pickL h
    · exact lk_pickL h
theorem lk_frame {s : St} : ∀ (ts : List Nat) (t : Nat), lk (ts.map fun t => (t, s.get t)) t = if t ∈ ts then some (s.get t) else none
  | [], t => rfl
  | a :: ts, t => by
    simp only [List.map_cons, lk]
    cases e : (a == t)
    · have : t ≠ a := fun h => by subst h; simp at e
      simp [lk_frame ts t, this]
    · have : a = t := beq_iff_eq.1 e
      subst this
      simp
variable {s s' : St} {a : Act} {n : Nat}
theorem keep_rel (hg : Good Γ c s a n) {ts ks : List Nat} (h : s.keep ts ks = some s') : ∃ c', c'.w = c.w ∧ Good Γ c' s' a n ∧ Evo c c' := by
  unfold St.keep at h
  simp only at h
  split at h
  · cases h
  rename_i hm
  simp only [Option.some.injEq] at h
  subst h
  simp only [Bool.or_eq_true, not_or, Bool.not_eq_true, List.any_eq_false] at hm
  obtain ⟨hm1, hm2⟩ := hm
  have hs : ∀ k o, lk (pickL s.l ks) k = some o → lk c.l k = some o := fun k o hk => by rw [← hg.l]; exact lk_pickL hk
  refine ⟨c.drop (pickL s.l ks), rfl, ⟨rfl, hg.g, relH_drop hg.H hs (by rw [← hg.g]; exact hg.G) (fun e he => by simpa using hm2 e he), fun t => ?_, hg.G, hg.N, hg.D⟩, evo_drop⟩
  show RelV _ (orBot (lk (ts.map fun t => (t, s.get t)) t)) _
  rw [lk_frame]
  split
  · rename_i ht
    show RelV _ (s.get t) _
    exact relV_drop hs (hg.F t) (by simpa using hm1 (t, s.get t) (List.mem_map.2 ⟨t, ht, rfl⟩))
  · exact .bot _
end
end Go.TA

/-! ## Ctl -/
namespace Go.TA

/-! ### code as a list -/
def items : Code → List Code
  | .seq a b => items a ++ items b
  | .skip => []
  | .label _ => []
  | c => [c]
def wpL (P : Program) (Q : Exit → Act → World → Prop) : List Code → Act → World → Prop
  | [], a, w => Q .normal a w
  | c :: l, a, w => c.wp P (Exit.then (wpL P Q l) Q) a w
section
variable {P : Program} {Q : Exit → Act → World → Prop}
theorem then_then {K K' : Act → World → Prop} {e : Exit} {a : Act} {w : World} (h : Exit.then K Q e a w) (hK : e = .normal → K a w → K' a w) : Exit.then K' Q e a w := by
  cases e <;> simp only [Exit.then] at h ⊢ <;> first | exact hK rfl h | exact h
theorem wpL_append : ∀ {l r : List Code} {a : Act} {w : World}, wpL P Q (l ++ r) a w → wpL P (Exit.then (wpL P Q r) Q) l a w
  | [], r, a, w, h => h
  | c :: l, r, a, w, h => by
    simp only [List.cons_append, wpL] at h ⊢
    refine wp_mono h (fun e a' w' he => ?_)
    cases e <;> simp only [Exit.then] at he ⊢ <;> first | exact wpL_append he | exact he
theorem wp_of_wpL : ∀ {c : Code} {Q : Exit → Act → World → Prop} {a : Act} {w : World}, wpL P Q (items c) a w → c.wp P Q a w
  | .seq x y, Q, a, w, h => by
    have h1 := wp_of_wpL (wpL_append (by simpa [items] using h))
    refine wp_seq (wp_mono h1 (fun e a' w' he => then_then he (fun _ h => wp_of_wpL h)))
  | .skip, Q, a, w, h => wp_skip h
  | .label _, Q, a, w, h => wp_label h
  | .region .., Q, a, w, h => wp_mono h (fun e a' w' he => by cases e <;> exact he)
  | .cond .., Q, a, w, h => wp_mono h (fun e a' w' he => by cases e <;> exact he)
  | .block .., Q, a, w, h => wp_mono h (fun e a' w' he => by cases e <;> exact he)
  | .loop .., Q, a, w, h => wp_mono h (fun e a' w' he => by cases e <;> exact he)
  | .exit .., Q, a, w, h => wp_mono h (fun e a' w' he => by cases e <;> exact he)
  | .goto .., Q, a, w, h => wp_mono h (fun e a' w' he => by cases e <;> exact he)
  | .ret, Q, a, w, h => wp_mono h (fun e a' w' he => by cases e <;> exact he)
  | .scope .., Q, a, w, h => wp_mono h (fun e a' w' he => by cases e <;> exact he)
  | .rangeFunc .., Q, a, w, h => wp_mono h (fun e a' w' he => by cases e <;> exact he)
  | .refuse .., Q, a, w, h => wp_mono h (fun e a' w' he => by cases e <;> exact he)
end
end Go.TA

/-! ## Ctl2 -/
namespace Go.TA

def noAgain : List LOper → Bool
  | [] => true
  | x :: l => x.again.isEmpty && noAgain l
def codeOk (P : Program) (n : Nat) : LCode → List Code → Bool
  | .skip, [] => true
  | .region xs d _ _, [.region _ ops d'] => d == d' && (if d then drawOk P n ops xs && noAgain xs else opersOk P n ops xs ops.toList)
  | .draw xs _ _, [.region _ ops d'] => d' && drawOk P n ops xs
  | .seq a b, c :: l => codeOk P n a [c] && codeOk P n b l
  | .cond x a b, [.cond y c d] => opdOk x y && codeOk P n a (items c) && codeOk P n b (items d)
  | .block id a, [.block id' c] => id == id' && codeOk P n a (items c)
  | .loop a, [.loop c] => codeOk P n a (items c)
  | .exit id, .exit id' :: _ => id == id'
  | .ret, .ret :: _ => true
  | .keep _ _ c, l => codeOk P n c l
  | .stuck, _ => true
  | _, _ => false
def toExit : Ex → Exit
  | .normal => .normal
  | .exit id => .exit id
  | .ret => .ret

section
variable {P : Program} {Γ : Ground} {C : Calls'} {n N : Nat}

theorem runD_of_runOps : ∀ {xs done : List LOper} {s s' : St}, noAgain xs = true → runOps C xs s = some s' → runD C done xs s = some s'
  | [], done, s, s', _, h => h
  | x :: xs, done, s, s', hn, h => by
    simp only [noAgain, Bool.and_eq_true, List.isEmpty_iff] at hn
    simp only [runOps] at h
    obtain ⟨s1, h1, h2⟩ := Option.bind_eq_some_iff.1 h
    simp only [runD, stepD, h1, Option.bind_some, againK, hn.1, List.all_nil, if_true]
    exact runD_of_runOps hn.2 h2
theorem wpL_one {Q : Exit → Act → World → Prop} {c : Code} {a : Act} {w : World} (h : c.wp P Q a w) : wpL P Q [c] a w := wp_mono h (fun e a' w' he => by cases e <;> exact he)
theorem of_wpL_one {Q : Exit → Act → World → Prop} {c : Code} {a : Act} {w : World} (h : wpL P Q [c] a w) : c.wp P Q a w := wp_mono h (fun e a' w' he => by cases e <;> exact he)
/-- A loop whose rounds are counted. -/
theorem wp_loop_n {c : Code} {Q : Exit → Act → World → Prop} (R : Nat → Act → World → Prop) (round : ∀ m a w, R m a w → c.wp P (Exit.then (fun a' w' => ∃ m', m' < m ∧ R m' a' w') Q) a w) :
    ∀ (m : Nat) (a : Act) (w : World), R m a w → (Code.loop c).wp P Q a w := by
  intro m a w hR b k cs
  have key : ∀ m a w, R m a w → ∃ e a' w', Q e a' w' ∧ Arrives P (lone (b.at a (.code c :: .inLoop c :: k)) cs w) b k cs e a' w' := by
    intro m
    induction m using Nat.strongRecOn with
    | _ m ih =>
      intro a w hI
      obtain ⟨e, a₁, w₁, hq, harr⟩ := round m a w hI b (.inLoop c :: k) cs
      cases e with
      | normal =>
        obtain ⟨m', hlt, hI₁⟩ := hq
        obtain ⟨e₂, a₂, w₂, hq₂, harr₂⟩ := ih m' hlt a₁ w₁ hI₁
        exact ⟨e₂, a₂, w₂, hq₂, .of_steps (Steps.trans harr (.one step_inLoop)) harr₂⟩
      | exit id => exact ⟨_, a₁, w₁, hq, .pass (x := .inLoop c) rfl (fun _ _ => .inl (by simp)) harr⟩
      | goto l => exact ⟨_, a₁, w₁, hq, .pass (x := .inLoop c) rfl (fun _ _ => .inl (by simp)) harr⟩
      | ret => exact ⟨_, a₁, w₁, hq, .pass (x := .inLoop c) rfl (fun _ _ => .inl (by simp)) harr⟩
      | panic ch => exact ⟨_, a₁, w₁, hq, .pass (x := .inLoop c) rfl (fun _ _ => .inl (by simp)) harr⟩
      | outgrown => exact ⟨_, a₁, w₁, hq, .pass (x := .inLoop c) rfl (fun _ _ => .inl (by simp)) harr⟩
  obtain ⟨e, a', w', hq, harr⟩ := key m a w hR
  exact ⟨e, a', w', hq, .of_steps (.one step_loop) harr⟩
theorem know_rel {c : Cx} {s : St} {a : Act} (hg : Good Γ c s a n) {x : LOpd} {b : Bool} (h : s.arg x = .p (.bool b)) : Good Γ c (s.know x b) a n := by
  cases x with
  | t m => exact hg.known h
  | _ => exact hg
theorem region_end {c : Cx} {s s' : St} {a : Act} {ts ks : List Nat} {ex : Ex} {x : Option St} (hx : x = some s) (h : bn x ts ks = some (ex, s')) (hg : Good Γ c s a n) {Q : Exit → Act → World → Prop} (hQ : ∀ c' a', Good Γ c' s' a' n → Evo c c' → Q (toExit ex) a' c'.w) : Q .normal a c.w := by
  subst hx
  simp only [bn, Option.bind_some, bn'] at h
  obtain ⟨s1, h1, h2⟩ := Option.bind_eq_some_iff.1 h
  simp only [Option.some.injEq, Prod.mk.injEq] at h2
  obtain ⟨rfl, rfl⟩ := h2
  obtain ⟨c', hw, hg', hE⟩ := keep_rel hg h1
  have := hQ c' a hg' hE
  rw [hw] at this
  exact this
theorem bn_some' {x : Option St} {ts ks : List Nat} {r : Ex × St} (h : bn x ts ks = some r) : ∃ s, x = some s := by
  cases x with
  | none => simp [bn] at h
  | some s => exact ⟨s, rfl⟩
theorem aexec_rel (hm : P.follows .mixedOrders = true) (hC : SoundC P Γ C) : ∀ (code : LCode) {cs : List Code}, codeOk P n code cs = true → ∀ {c : Cx} {s s' : St} {a : Act} {ex : Ex}, Good Γ c s a n → aexec C N code s = some (ex, s') →
    ∀ {Q : Exit → Act → World → Prop}, (∀ c' a', Good Γ c' s' a' n → Evo c c' → Q (toExit ex) a' c'.w) → wpL P Q cs a c.w
  | .stuck, cs, hok, c, s, s', a, ex, hg, h, Q, hQ => by simp [aexec] at h
  | .skip, cs, hok, c, s, s', a, ex, hg, h, Q, hQ => by
    cases cs with
    | cons _ _ => simp [codeOk] at hok
    | nil =>
      simp only [aexec, Option.some.injEq, Prod.mk.injEq] at h
      obtain ⟨rfl, rfl⟩ := h
      exact hQ c a hg (Evo.refl c)
  | .region xs d ts ks, cs, hok, c, s, s', a, ex, hg, h, Q, hQ => by
    unfold codeOk at hok
    split at hok <;> try (cases hok; done)
    all_goals try contradiction
    rename_i heq
    injection heq with e1 e2 e3 e4
    subst e1 e2
    simp only [Bool.and_eq_true, beq_iff_eq] at hok
    obtain ⟨rfl, hok⟩ := hok
    simp only [aexec] at h
    obtain ⟨s1, hs1⟩ := bn_some' h
    refine wpL_one ?_
    split at hok
    · rename_i hd
      subst hd
      simp only [Bool.and_eq_true] at hok
      exact draw_rel hm hok.1 hC hg (runD_of_runOps hok.2 hs1) (fun c' a' hg' hE => region_end hs1 h hg' (fun c2 a2 hg2 hE2 => hQ c2 a2 hg2 (hE.evo.trans hE2)))
    · rename_i hd
      have hd : d = false := by cases d <;> simp_all
      subst hd
      exact wp_region_list (runOps_rel hC hok hg hs1 (fun c' a' hg' hE => region_end hs1 h hg' (fun c2 a2 hg2 hE2 => hQ c2 a2 hg2 (hE.evo.trans hE2))))
  | .draw xs ts ks, cs, hok, c, s, s', a, ex, hg, h, Q, hQ => by
    unfold codeOk at hok
    split at hok <;> try (cases hok; done)
    all_goals try contradiction
    rename_i heq
    injection heq with e1 e2 e3
    subst e1
    simp only [Bool.and_eq_true] at hok
    obtain ⟨rfl, hok⟩ := hok
    simp only [aexec] at h
    obtain ⟨s1, hs1⟩ := bn_some' h
    exact wpL_one (draw_rel hm hok hC hg hs1 (fun c' a' hg' hE => region_end hs1 h hg' (fun c2 a2 hg2 hE2 => hQ c2 a2 hg2 (hE.evo.trans hE2))))
  | .seq x y, cs, hok, c, s, s', a, ex, hg, h, Q, hQ => by
    cases cs with
    | nil => simp [codeOk] at hok
    | cons cd l =>
      simp only [codeOk, Bool.and_eq_true] at hok
      simp only [aexec] at h
      obtain ⟨⟨ex1, s1⟩, h1, h2⟩ := Option.bind_eq_some_iff.1 h
      refine of_wpL_one (aexec_rel hm hC x hok.1 hg h1 (fun c' a' hg' hE => ?_))
      cases ex1 with
      | normal =>
        simp only [thenK] at h2
        exact aexec_rel hm hC y hok.2 hg' h2 (fun c2 a2 hg2 hE2 => hQ c2 a2 hg2 (hE.trans hE2))
      | exit id =>
        simp only [thenK, Option.some.injEq, Prod.mk.injEq] at h2
        obtain ⟨rfl, rfl⟩ := h2
        exact hQ c' a' hg' hE
      | ret =>
        simp only [thenK, Option.some.injEq, Prod.mk.injEq] at h2
        obtain ⟨rfl, rfl⟩ := h2
        exact hQ c' a' hg' hE
  | .cond x u v, cs, hok, c, s, s', a, ex, hg, h, Q, hQ => by
    unfold codeOk at hok
    split at hok <;> try (cases hok; done)
    all_goals try contradiction
    rename_i heq
    injection heq with e1 e2 e3
    subst e1 e2 e3
    simp only [Bool.and_eq_true] at hok
    obtain ⟨⟨hx, hu⟩, hv⟩ := hok
    simp only [aexec] at h
    split at h
    rotate_left
    · cases h
    rename_i b hb
    have hval := (rhoA P hg.F).1 _ _ hx
    rw [hb] at hval
    refine wpL_one (wp_cond (relV_bool hval) ?_)
    split at h
    · rename_i hbt
      subst hbt
      exact wp_of_wpL (aexec_rel hm hC u hu (know_rel hg hb) h hQ)
    · rename_i hbf
      have : b = false := by cases b <;> simp_all
      subst this
      exact wp_of_wpL (aexec_rel hm hC v hv (know_rel hg hb) h hQ)
  | .block id x, cs, hok, c, s, s', a, ex, hg, h, Q, hQ => by
    unfold codeOk at hok
    split at hok <;> try (cases hok; done)
    all_goals try contradiction
    rename_i heq
    injection heq with e1 e2
    subst e1 e2
    simp only [Bool.and_eq_true, beq_iff_eq] at hok
    obtain ⟨rfl, hx⟩ := hok
    simp only [aexec, bb] at h
    obtain ⟨⟨ex1, s1⟩, h1, h2⟩ := Option.bind_eq_some_iff.1 h
    refine wpL_one (wp_block (wp_of_wpL (aexec_rel hm hC x hx hg h1 (fun c' a' hg' hE => ?_))))
    cases ex1 with
    | normal =>
      simp only [blockK, Option.some.injEq, Prod.mk.injEq] at h2
      obtain ⟨rfl, rfl⟩ := h2
      exact hQ c' a' hg' hE
    | exit i =>
      simp only [blockK] at h2
      simp only [toExit, Exit.inBlock]
      split at h2
      · rename_i e
        rw [if_pos e]
        simp only [Option.some.injEq, Prod.mk.injEq] at h2
        obtain ⟨rfl, rfl⟩ := h2
        exact hQ c' a' hg' hE
      · rename_i e
        rw [if_neg e]
        simp only [Option.some.injEq, Prod.mk.injEq] at h2
        obtain ⟨rfl, rfl⟩ := h2
        exact hQ c' a' hg' hE
    | ret =>
      simp only [blockK, Option.some.injEq, Prod.mk.injEq] at h2
      obtain ⟨rfl, rfl⟩ := h2
      exact hQ c' a' hg' hE
  | .loop x, cs, hok, c, s, s', a, ex, hg, h, Q, hQ => by
    unfold codeOk at hok
    split at hok <;> try (cases hok; done)
    all_goals try contradiction
    rename_i heq
    injection heq with e1
    subst e1
    simp only [aexec] at h
    refine wpL_one (wp_loop_n (fun m a w => ∃ c1 s1, Good Γ c1 s1 a n ∧ c1.w = w ∧ Evo c c1 ∧ loopN (fun s => aexec C N x s) m s1 = some (ex, s')) (fun m a1 w1 hR => ?_) N a c.w ⟨c, s, hg, rfl, Evo.refl c, h⟩)
    obtain ⟨c1, s1, hg1, rfl, hE1, hl⟩ := hR
    cases m with
    | zero => simp [loopN] at hl
    | succ m =>
      simp only [loopN] at hl
      obtain ⟨⟨ex1, s2⟩, h1, h2⟩ := Option.bind_eq_some_iff.1 hl
      refine wp_of_wpL (aexec_rel hm hC x hok hg1 h1 (fun c' a' hg' hE => ?_))
      cases ex1 with
      | normal =>
        simp only [thenK] at h2
        exact ⟨m, by omega, c', s2, hg', rfl, hE1.trans hE, h2⟩
      | exit id =>
        simp only [thenK, Option.some.injEq, Prod.mk.injEq] at h2
        obtain ⟨rfl, rfl⟩ := h2
        exact hQ c' a' hg' (hE1.trans hE)
      | ret =>
        simp only [thenK, Option.some.injEq, Prod.mk.injEq] at h2
        obtain ⟨rfl, rfl⟩ := h2
        exact hQ c' a' hg' (hE1.trans hE)
  | .exit id, cs, hok, c, s, s', a, ex, hg, h, Q, hQ => by
    unfold codeOk at hok
    split at hok <;> try (cases hok; done)
    all_goals try contradiction
    rename_i heq
    injection heq with e1
    subst e1
    have hok : id = _ := beq_iff_eq.1 hok
    subst hok
    simp only [aexec, Option.some.injEq, Prod.mk.injEq] at h
    obtain ⟨rfl, rfl⟩ := h
    exact wp_exit (hQ c a hg (Evo.refl c))
  | .ret, cs, hok, c, s, s', a, ex, hg, h, Q, hQ => by
    unfold codeOk at hok
    split at hok <;> try (cases hok; done)
    all_goals try contradiction
    simp only [aexec, Option.some.injEq, Prod.mk.injEq] at h
    obtain ⟨rfl, rfl⟩ := h
    exact wp_ret (hQ c a hg (Evo.refl c))
  | .keep ts ks x, cs, hok, c, s, s', a, ex, hg, h, Q, hQ => by
    simp only [codeOk] at hok
    simp only [aexec] at h
    obtain ⟨s1, h1, h2⟩ := Option.bind_eq_some_iff.1 h
    obtain ⟨c', hw, hg', hE⟩ := keep_rel hg h1
    have := aexec_rel hm hC x hok hg' h2 (fun c2 a2 hg2 hE2 => hQ c2 a2 hg2 (hE.trans hE2))
    rw [hw] at this
    exact this
  | .scope x, cs, hok, c, s, s', a, ex, hg, h, Q, hQ => by
    unfold codeOk at hok
    cases hok

/-! ### what is shared stays clean, whatever the memory -/
theorem step_gOk (hC : ∀ f args g r g', C f args g = some (r, g') → noLocals args = true → gOk g → gOk g') {x : LOper} {o : Op} (hok : opOk P x.op o = true) {s s' : St} (hg : gOk s.g) (h : stepOp C x s = some s') : gOk s'.g := by
  obtain ⟨v, hv, h1⟩ := step_inv h
  rcases h1 with ⟨hon, he⟩ | ⟨hoff, rfl, h1, h2⟩
  · exact (gOk_op hC hok hg he :)
  · rw [h2]; exact hg
theorem runOps_gOk (hC : ∀ f args g r g', C f args g = some (r, g') → noLocals args = true → gOk g → gOk g') : ∀ {xs : List LOper} {s s' : St}, (∀ x ∈ xs, ∃ o, opOk P x.op o = true) → gOk s.g → runOps C xs s = some s' → gOk s'.g
  | [], s, s', _, hg, h => by simp only [runOps, Option.some.injEq] at h; subst h; exact hg
  | x :: xs, s, s', hx, hg, h => by
    simp only [runOps] at h
    obtain ⟨s1, h1, h2⟩ := Option.bind_eq_some_iff.1 h
    obtain ⟨o, ho⟩ := hx x (by simp)
    exact runOps_gOk hC (fun y hy => hx y (by simp [hy])) (step_gOk hC ho hg h1) h2
theorem runD_gOk (hC : ∀ f args g r g', C f args g = some (r, g') → noLocals args = true → gOk g → gOk g') : ∀ {xs done : List LOper} {s s' : St}, (∀ x ∈ xs, ∃ o, opOk P x.op o = true) → gOk s.g → runD C done xs s = some s' → gOk s'.g
  | [], done, s, s', _, hg, h => by simp only [runD, Option.some.injEq] at h; subst h; exact hg
  | x :: xs, done, s, s', hx, hg, h => by
    simp only [runD, stepD] at h
    obtain ⟨s1, h1, h2⟩ := Option.bind_eq_some_iff.1 h
    obtain ⟨s0, h0, h1⟩ := Option.bind_eq_some_iff.1 h1
    unfold againK at h1
    split at h1
    rotate_left
    · cases h1
    simp only [Option.some.injEq] at h1
    subst h1
    obtain ⟨o, ho⟩ := hx x (by simp)
    exact runD_gOk hC (fun y hy => hx y (by simp [hy])) (step_gOk hC ho hg h0) h2
theorem opersOk_all {ops : Array Oper} : ∀ {xs : List LOper} {os : List Oper}, opersOk P n ops xs os = true → ∀ x ∈ xs, ∃ o, opOk P x.op o = true
  | [], _, _, x, hx => by simp at hx
  | y :: xs, [], h, x, hx => by simp [opersOk] at h
  | y :: xs, o :: os, h, x, hx => by
    simp only [opersOk, Bool.and_eq_true] at h
    rcases List.mem_cons.1 hx with rfl | hx
    · simp only [operOk, Bool.and_eq_true] at h
      exact ⟨o.op, h.1.1.1.1⟩
    · exact opersOk_all h.2 x hx
theorem drawOk_all {ops : Array Oper} {xs : List LOper} (h : drawOk P n ops xs = true) : ∀ x ∈ xs, ∃ o, opOk P x.op o = true := fun x hx => by
  obtain ⟨p, hp, rfl⟩ := atP_mem hx
  obtain ⟨o, _, ho⟩ := (drawFacts h).all p hp
  simp only [operOk, Bool.and_eq_true] at ho
  exact ⟨o.op, ho.1.1.1⟩
theorem keep_gOk {s s' : St} {ts ks : List Nat} (h : s.keep ts ks = some s') (hg : gOk s.g) : gOk s'.g := by
  unfold St.keep at h
  simp only at h
  split at h
  · cases h
  · simp only [Option.some.injEq] at h; subst h; exact hg
theorem bn_gOk {x : Option St} {ts ks : List Nat} {ex : Ex} {s' : St} (h : bn x ts ks = some (ex, s')) (hx : ∀ s, x = some s → gOk s.g) : gOk s'.g := by
  obtain ⟨s, rfl⟩ := bn_some' h
  simp only [bn, Option.bind_some, bn'] at h
  obtain ⟨s1, h1, h2⟩ := Option.bind_eq_some_iff.1 h
  simp only [Option.some.injEq, Prod.mk.injEq] at h2
  obtain ⟨rfl, rfl⟩ := h2
  exact keep_gOk h1 (hx s rfl)
theorem know_g (s : St) (x : LOpd) (b : Bool) : (s.know x b).g = s.g := by cases x <;> rfl
theorem aexec_gOk (hC : ∀ f args g r g', C f args g = some (r, g') → noLocals args = true → gOk g → gOk g') : ∀ (code : LCode) {cs : List Code}, codeOk P n code cs = true → ∀ {s s' : St} {ex : Ex}, gOk s.g → aexec C N code s = some (ex, s') → gOk s'.g
  | .stuck, cs, hok, s, s', ex, hg, h => by simp [aexec] at h
  | .skip, cs, hok, s, s', ex, hg, h => by
    simp only [aexec, Option.some.injEq, Prod.mk.injEq] at h
    rw [← h.2]; exact hg
  | .region xs d ts ks, cs, hok, s, s', ex, hg, h => by
    unfold codeOk at hok
    split at hok <;> try (cases hok; done)
    all_goals try contradiction
    rename_i heq
    injection heq with e1 e2 e3 e4
    subst e1 e2
    simp only [Bool.and_eq_true, beq_iff_eq] at hok
    simp only [aexec] at h
    refine bn_gOk h (fun s1 hs1 => runOps_gOk (P := P) hC ?_ hg hs1)
    split at hok
    · exact drawOk_all (by simp only [Bool.and_eq_true] at hok; exact hok.2.1)
    · exact opersOk_all hok.2
  | .draw xs ts ks, cs, hok, s, s', ex, hg, h => by
    unfold codeOk at hok
    split at hok <;> try (cases hok; done)
    all_goals try contradiction
    rename_i heq
    injection heq with e1 e2 e3
    subst e1
    simp only [Bool.and_eq_true] at hok
    simp only [aexec] at h
    exact bn_gOk h (fun s1 hs1 => runD_gOk hC (drawOk_all hok.2) hg hs1)
  | .seq x y, cs, hok, s, s', ex, hg, h => by
    cases cs with
    | nil => simp [codeOk] at hok
    | cons cd l =>
      simp only [codeOk, Bool.and_eq_true] at hok
      simp only [aexec] at h
      obtain ⟨⟨ex1, s1⟩, h1, h2⟩ := Option.bind_eq_some_iff.1 h
      have hg1 := aexec_gOk hC x hok.1 hg h1
      cases ex1 with
      | normal => exact aexec_gOk hC y hok.2 hg1 h2
      | exit id =>
        simp only [thenK, Option.some.injEq, Prod.mk.injEq] at h2
        rw [← h2.2]; exact hg1
      | ret =>
        simp only [thenK, Option.some.injEq, Prod.mk.injEq] at h2
        rw [← h2.2]; exact hg1
  | .cond x u v, cs, hok, s, s', ex, hg, h => by
    unfold codeOk at hok
    split at hok <;> try (cases hok; done)
    all_goals try contradiction
    rename_i heq
    injection heq with e1 e2 e3
    subst e1 e2 e3
    simp only [Bool.and_eq_true] at hok
    simp only [aexec] at h
    split at h
    rotate_left
    · cases h
    split at h
    · exact aexec_gOk hC u hok.1.2 (by rw [know_g]; exact hg) h
    · exact aexec_gOk hC v hok.2 (by rw [know_g]; exact hg) h
  | .block id x, cs, hok, s, s', ex, hg, h => by
    unfold codeOk at hok
    split at hok <;> try (cases hok; done)
    all_goals try contradiction
    rename_i heq
    injection heq with e1 e2
    subst e1 e2
    simp only [Bool.and_eq_true, beq_iff_eq] at hok
    simp only [aexec, bb] at h
    obtain ⟨⟨ex1, s1⟩, h1, h2⟩ := Option.bind_eq_some_iff.1 h
    have hg1 := aexec_gOk hC x hok.2 hg h1
    cases ex1 with
    | exit i =>
      simp only [blockK] at h2
      split at h2 <;> (simp only [Option.some.injEq, Prod.mk.injEq] at h2; rw [← h2.2]; exact hg1)
    | _ =>
      simp only [blockK, Option.some.injEq, Prod.mk.injEq] at h2
      rw [← h2.2]; exact hg1
  | .loop x, cs, hok, s, s', ex, hg, h => by
    unfold codeOk at hok
    split at hok <;> try (cases hok; done)
    all_goals try contradiction
    rename_i heq
    injection heq with e1
    subst e1
    simp only [aexec] at h
    have key : ∀ m (s1 : St), gOk s1.g → loopN (fun s => aexec C N x s) m s1 = some (ex, s') → gOk s'.g := by
      intro m
      induction m with
      | zero => intro s1 _ h; simp [loopN] at h
      | succ m ih =>
        intro s1 hg1 hl
        simp only [loopN] at hl
        obtain ⟨⟨ex1, s2⟩, h1, h2⟩ := Option.bind_eq_some_iff.1 hl
        have hg2 := aexec_gOk hC x hok hg1 h1
        cases ex1 with
        | normal => exact ih s2 hg2 h2
        | _ =>
          simp only [thenK, Option.some.injEq, Prod.mk.injEq] at h2
          rw [← h2.2]; exact hg2
    exact key N s hg h
  | .exit id, cs, hok, s, s', ex, hg, h => by
    simp only [aexec, Option.some.injEq, Prod.mk.injEq] at h
    rw [← h.2]; exact hg
  | .ret, cs, hok, s, s', ex, hg, h => by
    simp only [aexec, Option.some.injEq, Prod.mk.injEq] at h
    rw [← h.2]; exact hg
  | .keep ts ks x, cs, hok, s, s', ex, hg, h => by
    simp only [codeOk] at hok
    simp only [aexec] at h
    obtain ⟨s1, h1, h2⟩ := Option.bind_eq_some_iff.1 h
    exact aexec_gOk hC x hok (keep_gOk h1 hg) h2
  | .scope x, cs, hok, s, s', ex, hg, h => by
    unfold codeOk at hok
    cases hok
end
end Go.TA

/-! ## Fun -/
namespace Go.TA

def resOk (P : Program) : List LRes → List ResultVar → Bool
  | [], [] => true
  | .tmp t :: l, .tmp t' :: r => t == t' && resOk P l r
  | .cell t sz agg :: l, .cell t' ty :: r => t == t' && szOk P ty sz agg && resOk P l r
  | _, _ => false
def fnOk (P : Program) (F : LFunc) (fn : Func) (body : Code) : Bool := resOk P F.results fn.results.toList && codeOk P (max F.nparams fn.ntmps) F.body (items body)
/-- What is said of one call. -/
def SoundAt (P : Program) (Γ : Ground) (f : Nat) (args : List AV) (g : List AObj) (r : AV) (g' : List AObj) : Prop :=
  calleeOk P f = true ∧ gOk g' ∧ noLocal r = true ∧
    ∀ (c : Cx) (vs : List Value), c.l = [] → c.g = g → RelH Γ c → args.length = vs.length → (∀ j (h : j < args.length) (h' : j < vs.length), RelV c (args[j]) (vs[j])) →
      Calls P f vs.toArray c.w (fun e w' => ∃ v, e = .returned v ∧ Ans Γ c [] g' r v w')
def PrimOk (P : Program) (Γ : Ground) (f : Nat) (p : Calls' → List AV → List AObj → Option (AV × List AObj)) : Prop :=
  ∀ C, SoundC P Γ C → ∀ args g r g', p C args g = some (r, g') → noLocals args = true → gOk g → SoundAt P Γ f args g r g'
def FnSound (P : Program) (f : Nat) (F : LFunc) : Prop := calleeOk P f = true ∧ ∃ fn body, P.funcs[f]? = some fn ∧ fn.body = some body ∧ fnOk P F fn body = true
def TOk (P : Program) (Γ : Ground) (T : Nat → Option LFn) : Prop := ∀ f, match T f with
  | some (.code F) => FnSound P f F
  | some (.prim p) => PrimOk P Γ f p
  | none => True

section
variable {P : Program} {Γ : Ground} {C : Calls'} {n N : Nat} {c : Cx} {s : St} {a : Act}

def rvOf (tmps : Array Value) : ResultVar → Sem Value
  | .tmp t => pure (tmps.getD t undef)
  | .cell p t => do loadVar t (← asAddr (tmps.getD p undef))
/-- The results' values. -/
theorem res_rel (hg : Good Γ c s a n) : ∀ {rs : List LRes} {vars : List ResultVar} {vs : List AV}, resOk P rs vars = true → allM (result1 C s) rs = some vs →
    ∃ us : List Value, (vars.mapM (rvOf a.tmps)).run P c.w = .ok us c.w ∧ vs.length = us.length ∧ ∀ j (h : j < vs.length) (h' : j < us.length), RelV c (vs[j]) (us[j])
  | [], [], vs, _, h => by
    simp only [allM, Option.some.injEq] at h
    subst h
    exact ⟨[], by simp, rfl, by simp⟩
  | [], _ :: _, vs, h, _ => by simp [resOk] at h
  | .tmp _ :: _, [], vs, h, _ => by simp [resOk] at h
  | .cell .. :: _, [], vs, h, _ => by simp [resOk] at h
  | .tmp _ :: _, .cell .. :: _, vs, h, _ => by simp [resOk] at h
  | .cell .. :: _, .tmp _ :: _, vs, h, _ => by simp [resOk] at h
  | .tmp t :: rs, .tmp t' :: vars, vs, hok, h => by
    simp only [resOk, Bool.and_eq_true, beq_iff_eq] at hok
    obtain ⟨rfl, hok⟩ := hok
    simp only [allM] at h
    obtain ⟨v, hv, h⟩ := bk_eq h
    obtain ⟨vs', hvs, h⟩ := bk_eq h
    simp only [Option.some.injEq] at h
    subst h
    simp only [result1, Option.some.injEq] at hv
    subst hv
    obtain ⟨us, h1, h2, h3⟩ := res_rel hg hok hvs
    have e : (rvOf a.tmps (.tmp t)).run P c.w = .ok (a.tmps.getD t undef) c.w := rfl
    refine ⟨a.tmps.getD t undef :: us, by simp [List.mapM_cons, e, h1], by simp [h2], fun j h h' => ?_⟩
    cases j with
    | zero => exact hg.F t
    | succ j => exact h3 j (by simpa using h) (by simpa using h')
  | .cell t sz agg :: rs, .cell t' ty :: vars, vs, hok, h => by
    simp only [resOk, Bool.and_eq_true, beq_iff_eq] at hok
    obtain ⟨⟨rfl, hsz⟩, hok⟩ := hok
    simp only [allM] at h
    obtain ⟨v, hv, h⟩ := bk_eq h
    obtain ⟨vs', hvs, h⟩ := bk_eq h
    simp only [Option.some.injEq] at h
    subst h
    simp only [result1] at hv
    obtain ⟨⟨v', s'⟩, hev, hv⟩ := bk_eq hv
    simp only [Option.some.injEq] at hv
    subst hv
    obtain ⟨ad, u, hu, hrun, _, hr⟩ := load_rel (P := P) hg.l hg.g hg.H hsz (x := .t t) (hg.F t) hev
    obtain ⟨us, h1, h2, h3⟩ := res_rel hg hok hvs
    have e : (rvOf a.tmps (.cell t ty)).run P c.w = .ok u c.w := by
      simp only [rvOf, hu, asAddr, Sem.run_bind]
      simpa using hrun
    refine ⟨u :: us, by simp [List.mapM_cons, e, h1], by simp [h2], fun j h h' => ?_⟩
    cases j with
    | zero => exact hr
    | succ j => exact h3 j (by simpa using h) (by simpa using h')
def oneOrAll : List Value → Value
  | [u] => u
  | us => .tuple us.toArray
theorem results_rel (hg : Good Γ c s a n) {fn : Func} {rs : List LRes} {vs : List AV} (hok : resOk P rs fn.results.toList = true) (h : allM (result1 C s) rs = some vs) :
    ∃ us : List Value, (results fn a.tmps).run P c.w = .ok (oneOrAll us) c.w ∧ vs.length = us.length ∧ ∀ j (h : j < vs.length) (h' : j < us.length), RelV c (vs[j]) (us[j]) := by
  obtain ⟨us, h1, h2, h3⟩ := res_rel hg hok h
  refine ⟨us, ?_, h2, h3⟩
  have e : results fn a.tmps = (do let vs ← fn.results.mapM (rvOf a.tmps); pure (if h : vs.size = 1 then vs[0] else .tuple vs)) := rfl
  rw [e, Array.mapM_eq_mapM_toList]
  simp only [Sem.run_bind, Sem.run_map, h1, Result.andThen_ok, map_eq_pure_bind]
  match us with
  | [] => rfl
  | [u] => rfl
  | u :: v :: us => simp [oneOrAll]
theorem enter_rel {args : List AV} {vs : List Value} (hl : args.length = vs.length) (h : ∀ j (h : j < args.length) (h' : j < vs.length), RelV c (args[j]) (vs[j])) (m : Nat) (g : List AObj) :
    RelF c (enterSt args g) { tmps := vs.toArray ++ Array.replicate m undef, defers := [] } := by
  intro t
  have key : ∀ (l : List AV) (k t : Nat), lk ((List.range' k l.length).zip l) (k + t) = l[t]? := by
    intro l
    induction l with
    | nil => intro k t; rfl
    | cons a l ih =>
      intro k t
      simp only [List.length_cons, List.range'_succ, List.zip_cons_cons, lk]
      cases t with
      | zero => simp
      | succ t =>
        have : (k == k + (t + 1)) = false := by simp
        simp only [this, List.getElem?_cons_succ]
        have := ih (k + 1) t
        rw [show k + 1 + t = k + (t + 1) by omega] at this
        exact this
  have e : (enterSt args g).get t = orBot args[t]? := by
    simp only [enterSt, St.get, List.range_eq_range']
    have := key args 0 t
    rw [Nat.zero_add] at this
    rw [this]
  rw [e]
  by_cases ht : t < args.length
  · have ht' : t < vs.length := by omega
    rw [List.getElem?_eq_getElem ht]
    have := h t ht ht'
    simpa [orBot, Array.getElem?_append, ht'] using this
  · rw [List.getElem?_eq_none (by omega)]
    exact .bot _
end
end Go.TA

/-! ## Sound -/
namespace Go.TA
section
variable {P : Program} {Γ : Ground} {C : Calls'} {n N : Nat} {c : Cx} {s : St} {a : Act}

theorem body_good {args : List AV} {vs : List Value} (hl : args.length = vs.length) (h : ∀ j (h : j < args.length) (h' : j < vs.length), RelV c (args[j]) (vs[j])) (hH : RelH Γ c) (hcl : c.l = []) (hgo : gOk c.g) {np nt : Nat} (hp : args.length = np) :
    Good Γ c (enterSt args c.g) { tmps := vs.toArray ++ Array.replicate (nt - vs.toArray.size) undef, defers := [] } (max np nt) where
  l := hcl.symm
  g := rfl
  H := hH
  F := enter_rel hl h _ _
  G := hgo
  N := by simp; omega
  D := rfl
theorem one_rel {vs : List AV} {us : List Value} (hl : vs.length = us.length) (h : ∀ j (h : j < vs.length) (h' : j < us.length), RelV c (vs[j]) (us[j])) : RelV c (oneTup vs) (oneOrAll us) := by
  match vs, us, hl, h with
  | [], [], hl, h => exact .tuple [] [] rfl (by simp)
  | [v], [u], hl, h => exact h 0 (by simp) (by simp)
  | v :: v' :: vs, u :: u' :: us, hl, h => exact .tuple _ _ hl h
theorem tupleOf_rel {ps : List PV} {us : List Value} (hl : ps.length = us.length) (h : ∀ j (h : j < ps.length) (h' : j < us.length), RelP c.w c.N (ps[j]) (us[j])) : RelV c (tupleOf ps) (oneOrAll us) := by
  match ps, us, hl, h with
  | [], [], hl, h => exact .tuple [] [] rfl (by simp)
  | [v], [u], hl, h => exact .p _ _ (h 0 (by simp) (by simp))
  | v :: v' :: vs, u :: u' :: us, hl, h => exact relP_tuple_rel hl h
theorem one_noLocal {vs : List AV} (h : noLocals vs = true) : noLocal (oneTup vs) = true := by
  match vs, h with
  | [], _ => rfl
  | [v], h => simpa [noLocals, oneTup] using h
  | v :: v' :: vs, h => simpa [noLocal, oneTup] using h
theorem tupleOf_noLocal (ps : List PV) : noLocal (tupleOf ps) = true := by
  match ps with
  | [] => rfl
  | [v] => rfl
  | v :: v' :: vs => simp only [tupleOf, noLocal]; exact noLocals_p _
theorem ret_inv {F : LFunc} {x : Option (Ex × St)} {r : AV} {g' : List AObj} (h : br C F x = some (r, g')) : ∃ ex s', x = some (ex, s') ∧ (ex = .normal ∨ ex = .ret) ∧ resultsOf C F s' = some r ∧ g' = s'.g := by
  unfold br at h
  obtain ⟨⟨ex, s'⟩, hx, h⟩ := Option.bind_eq_some_iff.1 h
  refine ⟨ex, s', hx, ?_⟩
  cases ex <;> simp only [retK, rr, Option.map_eq_some_iff, reduceCtorEq] at h
  all_goals
    obtain ⟨r', hr, h⟩ := h
    simp only [Prod.mk.injEq] at h
    obtain ⟨rfl, rfl⟩ := h
    simp [hr]
theorem post_ret {fn : Func} {R : Ending → World → Prop} {ex : Ex} (he : ex = .normal ∨ ex = .ret) {a : Act} {w : World} {v : Value} (hd : a.defers = []) (hr : (results fn a.tmps).run P w = .ok v w) (hR : R (.returned v) w) : bodyPost P fn R (toExit ex) a w := by
  rcases he with rfl | rfl <;> exact ⟨hd, v, hr, hR⟩
theorem code_sound (hm : P.follows .mixedOrders = true) (hC : SoundC P Γ C) {f : Nat} {F : LFunc} (hF : FnSound P f F) {args : List AV} {g : List AObj} {r : AV} {g' : List AObj} (h : runFn C N F args g = some (r, g')) (hno : noLocals args = true) (hgo : gOk g) : SoundAt P Γ f args g r g' := by
  obtain ⟨hcal, fn, body, hfn, hbody, hok⟩ := hF
  simp only [fnOk, Bool.and_eq_true] at hok
  obtain ⟨hres, hcode⟩ := hok
  have hCg : ∀ f args g r g', C f args g = some (r, g') → noLocals args = true → gOk g → gOk g' := fun f args g r g' h1 h2 h3 => (hC f args g r g' h1 h2 h3).2.1
  unfold runFn at h
  split at h
  rotate_left
  · cases h
  rename_i hlen
  split at h
  · rename_i hpure
    split at h
    rotate_left
    · cases h
    rename_i hargs
    obtain ⟨⟨r1, g1⟩, hbr, h⟩ := Option.map_eq_some_iff.1 h
    simp only [Prod.mk.injEq] at h
    obtain ⟨rfl, rfl⟩ := h
    obtain ⟨ex, s', hex, hee, hr, _⟩ := ret_inv hbr
    unfold resultsOf at hr
    obtain ⟨vs', hvs, hr⟩ := bk_eq hr
    rw [if_pos hpure] at hr
    obtain ⟨ps, hps, hr⟩ := bk_eq hr
    simp only [Option.some.injEq] at hr
    subst hr
    refine ⟨hcal, hgo, tupleOf_noLocal ps, fun c vs hl hg hH hlv hrel => ?_⟩
    let X : Nat → Prop := fun x => c.X x ∨ c.Own x
    have hH0 := relH_alone hH X (fun b hb => hb)
    have hN0 : ∀ b, c.N b → ¬ X b := fun b hb h => h.elim hb.1 hb.2
    have hrel0 : ∀ j (h : j < args.length) (h' : j < vs.length), RelV (c.alone X) (args[j]) (vs[j]) := fun j h h' => relV_alone hN0 (List.all_eq_true.1 hargs _ (List.getElem_mem h)) (hrel j h h')
    refine calls_of_wp hfn hbody ?_
    have hg0 := body_good (c := c.alone X) (nt := fn.ntmps) hlv hrel0 hH0 rfl (fun o h => by simp [Cx.alone] at h) hlen
    refine wp_of_wpL (aexec_rel hm hC F.body hcode hg0 hex (fun c' a' hg' hE => ?_))
    obtain ⟨us, hrun, hl1, hl2⟩ := results_rel (C := C) hg' hres hvs
    refine post_ret hee hg'.D hrun ⟨_, rfl, ?_⟩
    obtain ⟨p1, p2⟩ := allM_get hps
    have hbel : Go.RowKit.Below c.w.heap.size c.w c'.w := ⟨hE.os, hE.tape, hE.output, hE.size, fun k hk => hE.keep k hk (alone_own X k)⟩
    refine ⟨{ c with w := c'.w }, hl, hg, rfl, evolve_below hbel hH.lt, hH.below hbel, tupleOf_rel (by omega) (fun j h1 h2 => ?_)⟩
    have hv := view_rel hg'.l hg'.g hg'.H 8 (p2 j (by omega) h1) (hl2 j (by omega) h2)
    exact hv.mono fun b hb hlt => ⟨by
      have hx : ¬ X b := by simpa [Cx.NX, hE.X, Cx.alone] using hb
      exact ⟨fun h => hx (.inl h), fun h => hx (.inr h)⟩, hlt, rfl⟩
  · rename_i hpure
    obtain ⟨ex, s', hex, hee, hr, rfl⟩ := ret_inv h
    unfold resultsOf at hr
    obtain ⟨vs', hvs, hr⟩ := bk_eq hr
    rw [if_neg hpure] at hr
    split at hr
    rotate_left
    · cases hr
    rename_i hnl
    simp only [Option.some.injEq] at hr
    subst hr
    have hgo' : gOk s'.g := aexec_gOk hCg F.body hcode (s := enterSt args g) hgo hex
    have hnr := one_noLocal hnl
    refine ⟨hcal, hgo', hnr, fun c vs hl hg hH hlv hrel => ?_⟩
    refine calls_of_wp hfn hbody ?_
    subst hg
    have hg0 := body_good (nt := fn.ntmps) hlv hrel hH hl hgo hlen
    refine wp_of_wpL (aexec_rel hm hC F.body hcode hg0 hex (fun c' a' hg' hE => ?_))
    obtain ⟨us, hrun, hl1, hl2⟩ := results_rel (C := C) hg' hres hvs
    refine post_ret hee hg'.D hrun ⟨_, rfl, ?_⟩
    have hs : ∀ k o, lk ([] : List (Nat × AObj)) k = some o → lk c'.l k = some o := fun k o h => by simp [lk] at h
    refine ⟨c'.drop [], rfl, hg'.g.symm, rfl, (hE.trans evo_drop).evolve hl, relH_drop hg'.H hs (by rw [← hg'.g]; exact hgo') (fun e h => by simp at h), ?_⟩
    exact relV_drop hs (one_rel hl1 hl2) (noLocal_mentions _ hnr)
def fnSoundB (P : Program) (f : Nat) (F : LFunc) : Bool := calleeOk P f && match P.funcs[f]? with
  | some fn => (match fn.body with
    | some b => fnOk P F fn b
    | none => false)
  | none => false
theorem fnSound_of {f : Nat} {F : LFunc} (h : fnSoundB P f F = true) : FnSound P f F := by
  unfold fnSoundB at h
  simp only [Bool.and_eq_true] at h
  refine ⟨h.1, ?_⟩
  have h := h.2
  split at h
  · rename_i fn hfn
    split at h
    · rename_i b hb
      exact ⟨fn, b, hfn, hb, h⟩
    · cases h
  · cases h
theorem acall_sound (hm : P.follows .mixedOrders = true) {T : Nat → Option LFn} (hT : TOk P Γ T) : ∀ n, SoundC P Γ (acall T n)
  | 0 => fun f args g r g' h => by simp [acall] at h
  | n + 1 => fun f args g r g' h hno hgo => by
    have hC := acall_sound hm hT n
    have ht := hT f
    simp only [acall] at h
    cases e : T f with
    | none => rw [e] at h; simp [acallK] at h
    | some x =>
      rw [e] at h ht
      cases x with
      | code F => exact code_sound hm hC ht h hno hgo
      | prim p => exact ht _ hC args g r g' h hno hgo
end
end Go.TA
