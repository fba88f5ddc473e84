/- Functions of the library, told at once. -/
import Derived.Test.YtpomccmdhifdiaaLibF
import Derived.Lib.Bytealg
set_option linter.unusedVariables false
set_option linter.unusedSimpArgs false
namespace Go.TA

def pIndexByte (C : Calls') : List AV → List AObj → Option (AV × List AObj)
  | [.p (.str s), .p (.int .u8 c)], g => some (.p (.int .i64 (Lib.indexByte s c.toNat.toUInt8)), g)
  | _, _ => none
section
variable {P : Program} {Γ : Ground} {f : Nat}
/-- A function of flat values that leaves the world as it is. -/
theorem prim_still {f : Nat} (hcal : calleeOk P f = true) {args : List AV} {g : List AObj} {r : AV} (hg : gOk g) (hr : noLocal r = true)
    (h : ∀ (c : Cx) (vs : List Value), args.length = vs.length → (∀ j (h : j < args.length) (h' : j < vs.length), RelV c (args[j]) (vs[j])) → ∃ v, RelV c r v ∧ Calls P f vs.toArray c.w (fun e w' => e = .returned v ∧ w' = c.w)) : SoundAt P Γ f args g r g := by
  refine ⟨hcal, hg, hr, fun c vs hl hgc hH hlen hrel => ?_⟩
  obtain ⟨v, hv, hc⟩ := h c vs hlen hrel
  refine Calls.mono hc (fun e w' he => ?_)
  obtain ⟨rfl, rfl⟩ := he
  exact ⟨v, rfl, c, hl, hgc, rfl, Evolve.refl c, hH, hv⟩
theorem pIndexByte_ok (hcal : calleeOk P f = true) (h : ∀ (s : ByteArray) (c : Int) (w : World), Calls P f #[.string s, .int .u8 c] w fun e w' => e = .returned (.int .i64 (Lib.indexByte s.data.toList c.toNat.toUInt8)) ∧ w' = w) : PrimOk P Γ f pIndexByte := by
  intro C hC args g r g' hp hno hgo
  unfold pIndexByte at hp
  split at hp
  · rename_i s b
    simp only [Option.some.injEq, Prod.mk.injEq] at hp
    obtain ⟨rfl, rfl⟩ := hp
    refine prim_still hcal hgo rfl (fun c vs hl hr => ?_)
    match vs, hl with
    | [u, v], _ =>
      have e1 := relV_str (hr 0 (by simp) (by simp))
      have e2 := relV_int (hr 1 (by simp) (by simp))
      simp only [List.getElem_cons_zero, List.getElem_cons_succ] at e1 e2
      subst e1 e2
      refine ⟨_, rInt _ _, ?_⟩
      have := h ⟨s.toArray⟩ b c.w
      simpa using this
  · cases hp

/-! ### slices.Clone -/
def pClone (sz : Nat) (C : Calls') : List AV → List AObj → Option (AV × List AObj)
  | [.p (.list xs)], g => if xs.length * 4096 ≤ 140737488355328 ∧ (xs.all fun x => x.length == sz) = true then some (.p (.list xs), g) else none
  | _, _ => none
def cloneHead : LCode := .region [{ dst := some 2, op := .move (.c (.list [])) }] false [0] []
def cloneTest : LOper := { dst := some 3, op := .move (.t 0) }
def cloneNil : LCode := .seq (.region [{ dst := some 2, op := .move (.c (.list [])) }] false [2] []) .ret
def cloneBody (sz bytes : Nat) : LCode := .seq (.region [{ dst := some 5, op := .rowOwn false 5 sz [] }, { dst := some 6, op := .move (.t 0) }, { dst := some 7, op := .append false 9 sz bytes (.t 5) (.t 6) }, { dst := some 2, op := .move (.t 7) }] false [2] [5]) .ret
def cloneEqB (P : Program) (o : Oper) : Bool := match o.op with
  | .binOp .eql t (.tmp 3) (.const (.slice none 0 0)) _ => eqOk P t .sl && o.dst == some 4 && o.guard.isNone
  | _ => false
def cloneItems (P : Program) (sz bytes : Nat) (l : List Code) : Bool := match l with
  | [.region i0 o0 false, .region _ o1 false, .cond (.tmp 4) a b, .region i3 o3 false, .ret] =>
    codeOk P 8 cloneHead [.region i0 o0 false] && (match o1.toList with
      | [x, y] => operOk P 8 o1 cloneTest x && cloneEqB P y
      | _ => false) && codeOk P 8 cloneNil (items a) && (items b).isEmpty && codeOk P 8 (cloneBody sz bytes) [.region i3 o3 false, .ret]
  | _ => false
def cloneB (P : Program) (f sz bytes : Nat) : Bool := calleeOk P f && bytes ≤ 4096 && sz != 0 && match P.funcs[f]? with
  | some fn => (match fn.body with
    | some b => fn.ntmps == 8 && resOk P [.tmp 2] fn.results.toList && cloneItems P sz bytes (items b)
    | none => false)
  | none => false
theorem aexec_head {C : Calls'} {N : Nat} {a : AV} {g : List AObj} {fr : List (Nat × AV)} (h : mentions [] a = false) (hl : lk fr 0 = some a) : aexec C N cloneHead ⟨fr, [], g⟩ = some (.normal, ⟨[(0, a)], [], g⟩) := by
  simp [cloneHead, aexec, runOps, stepOp, be, evalOp, putK, opt', St.set, St.arg, bn, bn', St.keep, St.get, lk, orBot, hl, pickL, h]
theorem aexec_nil {C : Calls'} {N : Nat} {s : St} : aexec C N cloneNil s = some (.ret, ⟨[(2, .p (.list []))], [], s.g⟩) := by
  simp [cloneNil, aexec, runOps, stepOp, be, evalOp, putK, opt', St.set, St.arg, bn, bn', St.keep, St.get, lk, orBot, pickL, thenK, mentions]
theorem aexec_body {C : Calls'} {N sz bytes : Nat} {xs : List (List PV)} {fr : List (Nat × AV)} {g : List AObj} (h0 : lk fr 0 = some (.p (.list xs))) (hb : bytes ≤ 4096) (hn : xs.length * 4096 ≤ 140737488355328) (h3 : (xs.all fun y => y.length == sz) = true) :
    aexec C N (cloneBody sz bytes) ⟨fr, [], g⟩ = some (.ret, ⟨[(2, .own false 5 xs.length)], [(5, .pcells sz xs)], g⟩) := by
  have h1 : xs.length * bytes ≤ 140737488355328 := Nat.le_trans (Nat.mul_le_mul_left _ hb) hn
  have h2 : xs.length ≤ 140737488355328 := by omega
  simp only [cloneBody, aexec, runOps, stepOp, be, evalOp, putK, opt', St.set, St.arg, St.get, lk, List.map_nil, cellsAll, bk_some, sameLen, okFor, Bool.not_false, Bool.true_or, and_self, if_true, St.newObj, Bool.false_eq_true, if_false, objOf, puress, List.length_nil, Option.bind_some, h0, orBot]
  simp [St.obj, St.putObj, lk, up, appendTo, h1, h2, h3, bk, bn, bn', St.keep, St.get, orBot, pickL, thenK, mentions, AObj.mentions, putK, opt', St.set]
theorem list_len {c : Cx} {xs : List (List PV)} {v : Value} (h : RelP c.w c.N (.list xs) v) : ∃ A cap, v = .slice A xs.length cap := by
  cases h with
  | none A cap h => exact ⟨A, cap, rfl⟩
  | list xs b off cap sz f h1 h2 h3 h4 h5 h6 h7 h8 => exact ⟨_, cap, rfl⟩
theorem pClone_ok (hm : P.follows .mixedOrders = true) {sz bytes : Nat} (hB : cloneB P f sz bytes = true) : PrimOk P Γ f (pClone sz) := by
  intro C hC args g r g' hp hno hgo
  unfold pClone at hp
  split at hp
  rotate_left
  · cases hp
  rename_i xs
  split at hp
  rotate_left
  · cases hp
  rename_i hcond
  obtain ⟨hn, hsz⟩ := hcond
  simp only [Option.some.injEq, Prod.mk.injEq] at hp
  obtain ⟨rfl, rfl⟩ := hp
  simp only [cloneB, Bool.and_eq_true, decide_eq_true_eq, bne_iff_ne, ne_eq] at hB
  obtain ⟨⟨⟨hcal, hbytes⟩, hsz0⟩, hB⟩ := hB
  split at hB
  rotate_left
  · cases hB
  rename_i fn hfn
  split at hB
  rotate_left
  · cases hB
  rename_i body hbody
  simp only [Bool.and_eq_true, beq_iff_eq] at hB
  obtain ⟨⟨hnt, hres⟩, hit⟩ := hB
  unfold cloneItems at hit
  split at hit
  rotate_left
  · cases hit
  rename_i i0 o0 i1 o1 ca cb i3 o3 hitems
  simp only [Bool.and_eq_true, List.isEmpty_iff] at hit
  obtain ⟨⟨⟨⟨hc0, hc1⟩, hc2⟩, hcb⟩, hc3⟩ := hit
  split at hc1
  rotate_left
  · cases hc1
  rename_i x y hxy
  simp only [Bool.and_eq_true] at hc1
  obtain ⟨hx, hy⟩ := hc1
  refine ⟨hcal, hgo, rfl, fun c vs hl hgc hH hlen hrel => ?_⟩
  match vs, hlen with
  | [v], _ =>
  have hv : RelV c (.p (.list xs)) v := hrel 0 (by simp) (by simp)
  let X : Nat → Prop := fun x => c.X x ∨ c.Own x
  have hH0 := relH_alone hH X (fun b hb => hb)
  have hN0 : ∀ b, c.N b → ¬ X b := fun b hb h => h.elim hb.1 hb.2
  refine calls_of_wp hfn hbody ?_
  have hg0 := body_good (c := c.alone X) (args := [.p (.list xs)]) (vs := [v]) (np := 1) (nt := fn.ntmps) rfl (fun j h h' => by
    have : j = 0 := by simp at h; omega
    subst this
    exact relV_alone hN0 rfl hv) hH0 rfl (fun o h => by simp [Cx.alone] at h) rfl
  rw [hnt] at hg0 ⊢
  have hmax : max 1 8 = 8 := rfl
  rw [hmax] at hg0
  refine wp_of_wpL ?_
  rw [hitems]
  -- what holds at the end
  have fin : ∀ {c' : Cx} {s' : St} {a' : Act} {av : AV}, Good Γ c' s' a' 8 → Evo (c.alone X) c' → s'.get 2 = av → view s' 8 av = some (.list xs) → bodyPost P fn (fun e w' => ∃ v, e = .returned v ∧ Ans Γ c [] g (.p (.list xs)) v w') .ret a' c'.w := by
    intro c' s' a' av hg' hE hav hview
    obtain ⟨us, hrun, hl1, hl2⟩ := results_rel (C := C) (vs := [s'.get 2]) hg' hres rfl
    refine ⟨hg'.D, _, hrun, _, rfl, ?_⟩
    match us, hl1 with
    | [u], _ =>
    have hu : RelV c' av u := by rw [← hav]; exact hl2 0 (by simp) (by simp)
    have hbel : Go.RowKit.Below c.w.heap.size c.w c'.w := ⟨hE.os, hE.tape, hE.output, hE.size, fun k hk => hE.keep k hk (alone_own X k)⟩
    refine ⟨{ c with w := c'.w }, hl, hgc, rfl, evolve_below hbel hH.lt, hH.below hbel, .p _ _ ?_⟩
    have := view_rel hg'.l hg'.g hg'.H 8 hview hu
    exact this.mono fun b hb hlt => ⟨by
      have hx : ¬ X b := by simpa [Cx.NX, hE.X, Cx.alone] using hb
      exact ⟨fun h => hx (.inl h), fun h => hx (.inr h)⟩, hlt, rfl⟩
  have hent : enterSt [.p (.list xs)] (c.alone X).g = ⟨[(0, .p (.list xs))], [], []⟩ := rfl
  rw [hent] at hg0
  -- the head
  have h0 := aexec_rel (C := C) (N := 9) hm hC cloneHead hc0 hg0 (aexec_head (a := .p (.list xs)) rfl rfl) (Q := Exit.then (wpL P (bodyPost P fn fun e w' => ∃ v, e = .returned v ∧ Ans Γ c [] g (.p (.list xs)) v w') [.region i1 o1 false, .cond (.tmp 4) ca cb, .region i3 o3 false, .ret]) (bodyPost P fn fun e w' => ∃ v, e = .returned v ∧ Ans Γ c [] g (.p (.list xs)) v w')) (fun c1 a1 hg1 hE1 => ?_)
  · exact of_wpL_one h0
  -- the test
  simp only [toExit, Exit.then]
  show (Code.region i1 o1 false).wp P _ a1 c1.w
  refine wp_region_list ?_
  rw [hxy]
  have hs1 : stepOp C cloneTest ⟨[(0, .p (.list xs))], [], []⟩ = some ⟨[(3, .p (.list xs)), (0, .p (.list xs))], [], []⟩ := rfl
  have hg1' : Good Γ c1 ⟨[(0, .p (.list xs))], [], []⟩ a1 8 := hg1
  have st := step_rel (Q := Exit.then (wpL P (bodyPost P fn fun e w' => ∃ v, e = .returned v ∧ Ans Γ c [] g (.p (.list xs)) v w') [.cond (.tmp 4) ca cb, .region i3 o3 false, .ret]) (bodyPost P fn fun e w' => ∃ v, e = .returned v ∧ Ans Γ c [] g (.p (.list xs)) v w'))
    (K := wpList P o1 (Exit.then (wpL P (bodyPost P fn fun e w' => ∃ v, e = .returned v ∧ Ans Γ c [] g (.p (.list xs)) v w') [.cond (.tmp 4) ca cb, .region i3 o3 false, .ret]) (bodyPost P fn fun e w' => ∃ v, e = .returned v ∧ Ans Γ c [] g (.p (.list xs)) v w')) [y]) hC hg1' hx hs1 (fun c2 a2 hg2 hE2 => ?_)
  · unfold wpList
    split
    · rename_i hw; rw [if_pos hw] at st; exact .inl st
    · rename_i hw; rw [if_neg hw] at st; exact st
  unfold cloneEqB at hy
  split at hy
  rotate_left
  · cases hy
  rename_i t t' hop
  simp only [Bool.and_eq_true, beq_iff_eq, Option.isNone_iff_eq_none] at hy
  obtain ⟨⟨heq, hdst⟩, hguard⟩ := hy
  have h3v := hg2.F 3
  have : (⟨[(3, .p (.list xs)), (0, .p (.list xs))], [], []⟩ : St).get 3 = .p (.list xs) := rfl
  rw [this] at h3v
  obtain ⟨A, cap, hval⟩ := list_len (relV_p h3v)
  have ht := (tells_nil (P := P) (w := c2.w) (t := t) (k := .sl) heq (.inl ⟨rfl, A, xs.length, cap, rfl, rfl⟩) (.tmp 3) (.const (.slice none 0 0))).1
  have hdo : Does P a2.eval y c2.w (Ans Γ c2 [] [] (.p (.bool A.isNone))) := by
    have e3 : a2.eval (.tmp 3) = .slice A xs.length cap := hval
    refine Does.value (v := .bool A.isNone) (w' := c2.w) ?_ ⟨c2, hg2.l.symm, hg2.g.symm, rfl, Evolve.refl c2, hg2.H, rBool _⟩
    obtain ⟨z1, z2, z3⟩ := ht
    have e4 : a2.eval (.const (.slice none 0 0)) = .slice none 0 0 := rfl
    simp only [execOp, hop, e3, e4, Sem.run_bind, z3, Result.andThen_ok, z1]
    rfl
  have hw : Region.wanted y (yielded o1 a2.tmps) = true := by simp [Region.wanted, hguard]
  unfold wpList
  rw [if_pos hw]
  refine .inl (Does.wp hdo (fun v' w' hR => ?_))
  obtain ⟨c3, p1, p2, rfl, hE3, hH3, hv3⟩ := hR
  have hg3 := good_put hg2 (s' := ⟨[(3, .p (.list xs)), (0, .p (.list xs))], [], []⟩) (dst := some 4) hE3 hH3 p1 p2 rfl hg2.G rfl hv3
  rw [hdst]
  simp only [wpList, Exit.then]
  have hg3' : Good Γ c3 ⟨[(4, .p (.bool A.isNone)), (3, .p (.list xs)), (0, .p (.list xs))], [], []⟩ (a2.put (some 4) v') 8 := hg3
  have hEvo : Evo (c.alone X) c3 := hE1.trans (hE2.trans hE3).evo
  have h4v := hg3'.F 4
  have : (⟨[(4, .p (.bool A.isNone)), (3, .p (.list xs)), (0, .p (.list xs))], [], []⟩ : St).get 4 = .p (.bool A.isNone) := rfl
  rw [this] at h4v
  show (Code.cond (.tmp 4) ca cb).wp P _ _ c3.w
  refine wp_cond (t := A.isNone) (relV_bool h4v) ?_
  cases hA : A.isNone with
  | true =>
    simp only [if_true]
    -- nil: the list is empty
    have hx0 : xs = [] := by
      obtain ⟨A', cap', e, _, _, hpos⟩ := relP_list (relV_p h3v)
      rcases Nat.eq_zero_or_pos xs.length with h0 | h0
      · exact List.eq_nil_of_length_eq_zero h0
      · obtain ⟨b, off, sz', f', e', _⟩ := hpos h0
        rw [hval] at e
        injection e with e1 e2 e3
        rw [e1, e'] at hA
        cases hA
    subst hx0
    refine wp_of_wpL (aexec_rel (C := C) (N := 9) hm hC cloneNil hc2 hg3' aexec_nil (fun c4 a4 hg4 hE4 => ?_))
    simp only [toExit, Exit.then]
    exact fin hg4 (hEvo.trans hE4) rfl rfl
  | false =>
    simp only [Bool.false_eq_true, if_false]
    refine wp_of_wpL ?_
    rw [hcb]
    show wpL P (bodyPost P fn fun e w' => ∃ v, e = .returned v ∧ Ans Γ c [] g (.p (.list xs)) v w') [.region i3 o3 false, .ret] _ c3.w
    refine aexec_rel (C := C) (N := 9) hm hC (cloneBody sz bytes) hc3 hg3' (aexec_body rfl hbytes hn hsz) (fun c4 a4 hg4 hE4 => ?_)
    refine fin hg4 (hEvo.trans hE4) rfl ?_
    show (if xs.length = xs.length then some (PV.list xs) else none) = some (.list xs)
    rw [if_pos rfl]
end
end Go.TA
