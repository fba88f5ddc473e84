/- Part 6 of 15 of a proof; joined from LibF, Road, Dec, DataR, Ints, Chain, Mach, Pre. Rows that stand as a tree's do: where what is below a handle ends; kids in their order. Plain. -/
import Derived.Test.YtbgbmdjfogohnaaGreatDoorIr5
import Derived.ReadAgain
import Derived.ChangeArms
import Derived.ChangeSame
import Derived.ChangeBears
import Derived.ChangeShapes
import Derived.Test.YtbgbmdjfogohnaaGreatDoorIr1
set_option linter.unusedSimpArgs false
set_option linter.unusedVariables false
set_option linter.defProp false
set_option maxRecDepth 100000
set_option maxHeartbeats 8000000
section
/- Code, functions and the whole table are sound. -/
namespace Go.TA
structure Evo (c c':Cx):Prop where
 X:c'.X=c.X
 size:c.w.heap.size≤c'.w.heap.size
 tape:c'.w.tape=c.w.tape
 os:c'.w.os=c.w.os
 output:c'.w.output=c.w.output
 keep:∀ b,b<c.w.heap.size→¬ c.Own b→c'.w.heap[b]? = c.w.heap[b]?
 fresh:∀ b,c'.Own b→c.Own b∨c.w.heap.size≤b
 objs:∀ k o,c.obj true k=some o→∃ o',c'.obj true k=some o'∧∀ m',o'.cnt=some m'→∃ m,o.cnt=some m∧m≤m'∧o'.isMap=o.isMap ∧
  (m=m'→c'.μ true k=c.μ true k∧o'.sz=o.sz∧∀ b cs e,c.μ true k=some b→c.w.heap[b]? = some (.cells cs e (0,0))→∃ cs',c'.w.heap[b]? = some (.cells cs' e (0,0))∧cs'.size=cs.size)
section
variable {c c' c'':Cx}
theorem Evolve.evo (h:Evolve c c'):Evo c c':=⟨h.X,h.size,h.tape,h.os,h.output,h.keep,h.fresh,fun k o=>h.objs true k o⟩
theorem Evo.refl (c:Cx):Evo c c:=(Evolve.refl c).evo
theorem Evo.trans (h:Evo c c') (h':Evo c' c''):Evo c c'' where
 X:=h'.X.trans h.X
 size:=Nat.le_trans h.size h'.size
 tape:=h'.tape.trans h.tape
 os:=h'.os.trans h.os
 output:=h'.output.trans h.output
 keep b hb hn:=by
  have h1:¬ c'.Own b:=fun ho=>by
   rcases h.fresh b ho with h2 | h2
   ·exact hn h2
   ·omega
  exact (h'.keep b (Nat.lt_of_lt_of_le hb h.size) h1).trans (h.keep b hb hn)
 fresh b ho:=by
  rcases h'.fresh b ho with h1 | h1
  ·exact h.fresh b h1
  ·exact .inr (Nat.le_trans h.size h1)
 objs k o ho:=by
  obtain ⟨o1,h1,H1⟩:=h.objs k o ho
  obtain ⟨o2,h2,H2⟩:=h'.objs k o1 h1
  refine ⟨o2,h2,fun m2 hm2 => ?_⟩
  obtain ⟨m1,hm1,hle1,hk1,s1⟩:=H2 m2 hm2
  obtain ⟨m0,hm0,hle0,hk0,s0⟩:=H1 m1 hm1
  refine ⟨m0,hm0,Nat.le_trans hle0 hle1,hk1.trans hk0,fun e => ?_⟩
  obtain ⟨a1,a2,a3⟩:=s1 (by omega)
  obtain ⟨b1,b2,b3⟩:=s0 (by omega)
  refine ⟨a1.trans b1,a2.trans b2,fun b cs e hb hh => ?_⟩
  obtain ⟨cs1,x1,x2⟩:=b3 b cs e hb hh
  obtain ⟨cs2,y1,y2⟩:=a3 b cs1 e (b1.trans hb) x1
  exact ⟨cs2,y1,y2.trans x2⟩
theorem Evo.evolve (h:Evo c c') (hl:c.l=[]):Evolve c c':=⟨h.X,h.size,h.tape,h.os,h.output,h.keep,h.fresh,fun z k o ho=>by
 cases z
 ·simp [Cx.obj,hl,lk] at ho
 ·exact h.objs k o ho⟩
def Cx.drop (c:Cx) (l':List (Nat × AObj)):Cx:=⟨c.X,fun z k=>if z then c.μ true k else if (lk l' k).isSome then c.μ false k else none,l',c.g,c.w⟩
variable {l':List (Nat × AObj)} {Γ : Ground}
theorem drop_N (b:Nat) (h:c.N b):(c.drop l').N b:=⟨h.1,fun ⟨z,k,hk⟩=>by
 cases z
 ·simp only [Cx.drop,Bool.false_eq_true,if_false] at hk
  split at hk
  ·exact h.2 ⟨false,k,hk⟩
  ·cases hk
 ·exact h.2 ⟨true,k,hk⟩⟩
theorem relP_drop {pv:PV} {v:Value} (h:RelP c.w c.N pv v):RelP (c.drop l').w (c.drop l').N pv v:=h.mono fun b hb hlt=>⟨drop_N b hb,hlt,rfl⟩
theorem lk_contains : ∀ {α : Type} (l : List (Nat × α)) (k : Nat), (l.map (·.1)).contains k = (lk l k).isSome
  | _,[],k=>rfl
  | _, (a, v) :: l, k => by
    simp only [List.map_cons,List.contains_cons,lk]
    cases e:(a==k)
    · have:(k==a)=false:=by
        have:=beq_eq_false_iff_ne.1 e
        exact beq_eq_false_iff_ne.2 (Ne.symm this)
      simp only [this,Bool.false_or]
      exact lk_contains l k
    · have:a=k:=beq_iff_eq.1 e
      subst this
      simp
theorem drop_obj_true (k:Nat):(c.drop l').obj true k=c.obj true k:=by simp [Cx.obj,Cx.drop]
theorem drop_obj_false (hs:∀ k o,lk l' k=some o→lk c.l k=some o) {k:Nat} (hk:(lk l' k).isSome=true):(c.drop l').obj false k=c.obj false k:=by
 obtain ⟨o,ho⟩:=Option.isSome_iff_exists.1 hk
 simp [Cx.obj,Cx.drop,ho,hs k o ho]
theorem drop_μ_false {k:Nat} (hk:(lk l' k).isSome=true):(c.drop l').μ false k=c.μ false k:=by simp [Cx.drop,hk]
theorem drop_both (hs:∀ k o,lk l' k=some o→lk c.l k=some o) {z:Bool} {k:Nat} (h:(z || (l'.map (·.1)).contains k)=true):(c.drop l').obj z k=c.obj z k∧(c.drop l').μ z k=c.μ z k:=by
 cases z
 ·simp only [Bool.false_or,lk_contains] at h
  exact ⟨drop_obj_false hs h,drop_μ_false h⟩
 ·exact ⟨drop_obj_true k,rfl⟩
theorem mentionsL_get {ks:List Nat}:∀ {l:List AV},mentionsL ks l=false→∀ j (h:j<l.length),mentions ks (l[j])=false
  | [],_,j,h=>by simp at h
  | a :: l, hm, j, h => by
    simp only [mentionsL,Bool.or_eq_false_iff] at hm
    cases j with
    | zero=>exact hm.1
    | succ j=>exact mentionsL_get hm.2 j (by simpa using h)
theorem mentionsLL_get {ks:List Nat}:∀ {l:List (List AV)},mentionsLL ks l=false→∀ j (h:j<l.length),mentionsL ks (l[j])=false
  | [],_,j,h=>by simp at h
  | a :: l, hm, j, h => by
    simp only [mentionsLL,Bool.or_eq_false_iff] at hm
    cases j with
    | zero=>exact hm.1
    | succ j=>exact mentionsLL_get hm.2 j (by simpa using h)
theorem relV_drop (hs:∀ k o,lk l' k=some o→lk c.l k=some o) {av:AV} {v:Value} (h:RelV c av v):mentions (l'.map (·.1)) av=false→RelV (c.drop l') av v:=by
  induction h with
  | bot v=>intro _;exact .bot v
  | p pv v hp=>intro _;exact .p _ _ (relP_drop hp)
  | rop cs b off f hN hb hc h1 hr=>intro _;exact .rop cs b off f (drop_N b hN) hb hc h1 (fun j hj=>relP_drop (hr j hj))
  | ptr z k sz n i j a hp =>
    intro hn
    simp only [mentions,Bool.not_eq_false'] at hn
    obtain ⟨e1,e2⟩:=drop_both hs hn
    obtain ⟨ob,ho,H⟩:=hp
    exact .ptr _ _ _ _ _ _ _ ⟨ob,e1.trans ho,fun m hm=>⟨(H m hm).1,fun e=>by obtain ⟨b,hb,ha⟩:=(H m hm).2 e;exact ⟨b,e2.trans hb,ha⟩⟩⟩
  | own z k n A cap hp =>
    intro hn
    simp only [mentions,Bool.not_eq_false'] at hn
    obtain ⟨e1,e2⟩:=drop_both hs hn
    obtain ⟨ob,ho,H⟩:=hp
    refine .own _ _ _ _ _ ⟨ob,e1.trans ho,fun m hm=>⟨(H m hm).1,fun e => ?_⟩⟩
    rcases (H m hm).2 e with ⟨x1,x2⟩ | ⟨b,cs,e,x1,x2⟩
    · exact .inl ⟨e2.trans x1,x2⟩
    · exact .inr ⟨b,cs,e,e2.trans x1,x2⟩
  | nils=>intro _;exact .nils
  | lit xs b cap sz f hN hb hc hm hl hcell h1 hr ih =>
    intro hn
    simp only [mentions] at hn
    exact .lit xs b cap sz f (drop_N b hN) hb hc hm hl hcell h1 (fun i j hi hj=>ih i j hi hj (mentionsL_get (mentionsLL_get hn i hi) j hj))
  | map z k r hp =>
    intro hn
    simp only [mentions,Bool.not_eq_false'] at hn
    obtain ⟨e1,e2⟩:=drop_both hs hn
    obtain ⟨ob,ho,H⟩:=hp
    exact .map _ _ _ ⟨ob,e1.trans ho,fun m hm=>⟨(H m hm).1,by obtain ⟨b,hb,ha⟩:=(H m hm).2;exact ⟨b,e2.trans hb,ha⟩⟩⟩
  | func f cs vs hl hr ih =>
    intro hn
    simp only [mentions] at hn
    exact .func f cs vs hl (fun j h h'=>ih j h h' (mentionsL_get hn j h))
  | bound f cs vs hl hr ih =>
    intro hn
    simp only [mentions] at hn
    exact .bound f cs vs hl (fun j h h'=>ih j h h' (mentionsL_get hn j h))
  | agg cs vs hl h1 hr ih =>
    intro hn
    simp only [mentions] at hn
    exact .agg cs vs hl h1 (fun j h h'=>ih j h h' (mentionsL_get hn j h))
  | tuple cs vs hl hr ih =>
    intro hn
    simp only [mentions] at hn
    exact .tuple cs vs hl (fun j h h'=>ih j h h' (mentionsL_get hn j h))
mutual
theorem noLocal_mentions (ks:List Nat):∀ {a:AV},noLocal a=true→mentions ks a=false
 | .bot,_=>rfl
 | .p _,_=>rfl
 | .rop _,_=>rfl
 | .ptr z ..,h=>by simp only [noLocal] at h;subst h;rfl
 | .own z ..,h=>by simp only [noLocal] at h;subst h;rfl
 | .nils,_=>rfl
 | .lit _,h=>by simp [noLocal] at h
 | .map z _,h=>by simp only [noLocal] at h;subst h;rfl
 | .func _ cs,h=>by simp only [noLocal] at h;simpa [mentions] using noLocals_mentions ks h
 | .bound _ cs,h=>by simp only [noLocal] at h;simpa [mentions] using noLocals_mentions ks h
 | .agg cs,h=>by simp only [noLocal] at h;simpa [mentions] using noLocals_mentions ks h
 | .tuple cs,h=>by simp only [noLocal] at h;simpa [mentions] using noLocals_mentions ks h
theorem noLocals_mentions (ks:List Nat):∀ {l:List AV},noLocals l=true→mentionsL ks l=false
  | [],_=>rfl
  | a :: l, h => by
    simp only [noLocals,Bool.and_eq_true] at h
    simp [mentionsL,noLocal_mentions ks h.1,noLocals_mentions ks h.2]
end
theorem obj_mentions (ks:List Nat) {o:AObj} (h:noLocalObj o=true):o.mentions ks=false:=by
  cases o with
  | cells sz xs =>
    simp only [noLocalObj,List.all_eq_true] at h
    simp only [AObj.mentions,List.any_eq_false,Bool.not_eq_true]
    exact fun x hx=>noLocals_mentions ks (h x hx)
  | map es =>
    simp only [noLocalObj,List.all_eq_true] at h
    simp only [AObj.mentions,List.any_eq_false,Bool.not_eq_true]
    exact fun x hx=>noLocal_mentions ks (h x hx)
  | _=>rfl
theorem relObj_drop (hs:∀ k o,lk l' k=some o→lk c.l k=some o) {z:Bool} {k:Nat} {ob:AObj} (hμ : (c.drop l').μ z k=c.μ z k) (h:RelObj c z k ob) (hn:ob.mentions (l'.map (·.1))=false):RelObj (c.drop l') z k ob:=by
  have row:∀ (m:Option Nat) (sz:Nat) (xs:List (List AV)),(∀ r ∈ xs,mentionsL (l'.map (·.1)) r=false)→RelRow c m sz xs→RelRow (c.drop l') m sz xs:=fun m sz xs hx hr=>by
    obtain ⟨h0,h1⟩:=hr
    refine ⟨h0,h1.imp id ?_⟩
    rintro ⟨b,cs,e,hb,hh,hs',hv⟩
    refine ⟨b,cs,e,hb,hh,hs',fun i j hi hj => ?_⟩
    obtain ⟨v,v1,v2,v3⟩:=hv i j hi hj
    exact ⟨v,v1,v2,relV_drop hs v3 (mentionsL_get (hx _ (List.getElem_mem hi)) j hj)⟩
  cases ob with
  | dead=>trivial
  | siter a b=>trivial
  | pcells sz xs =>
    simp only [RelObj,hμ] at h ⊢
    refine row _ _ _ (fun r hr => ?_) h
    simp only [lift,List.mem_map] at hr
    obtain ⟨p,_,rfl⟩:=hr
    exact noLocals_mentions _ (noLocals_p p)
  | cells sz xs =>
    simp only [RelObj,hμ] at h ⊢
    simp only [AObj.mentions,List.any_eq_false,Bool.not_eq_true] at hn
    exact row _ _ _ hn h
  | map es =>
    simp only [RelObj,hμ] at h ⊢
    obtain ⟨b,es',clock,hb,hh,hs',hv⟩:=h
    refine ⟨b,es',clock,hb,hh,hs',fun i h1 h2 => ?_⟩
    obtain ⟨x1,x2,x3⟩:=hv i h1 h2
    simp only [AObj.mentions,List.any_eq_false,Bool.not_eq_true] at hn
    exact ⟨x1,relP_drop x2,relV_drop hs x3 (hn _ (List.getElem_mem h1))⟩
theorem lk_mem:∀ {α : Type} {l:List (Nat × α)} {k:Nat} {o : α},lk l k=some o→(k,o) ∈ l
  | _,[],k,o,h=>by simp [lk] at h
  | _, (a, v) :: l, k, o, h => by
    simp only [lk] at h
    split at h
    · rename_i e
      have:a=k:=beq_iff_eq.1 e
      subst this
      simp only [Option.some.injEq] at h
      subst h
      simp
    · exact List.mem_cons_of_mem _ (lk_mem h)
theorem relH_drop (hH : RelH Γ c) (hs : ∀ k o, lk l' k = some o → lk c.l k = some o) (hg : gOk c.g) (hm : ∀ e ∈ l', e.2.mentions (l'.map (·.1)) = false) : RelH Γ (c.drop l') where
  ground:=hH.ground
  objs z k ob hob:=by
    cases z
    · have hk:lk l' k=some ob:=by simpa [Cx.obj,Cx.drop] using hob
      refine relObj_drop hs (drop_μ_false (by rw [hk];rfl)) (hH.objs false k ob ?_) (hm _ (lk_mem hk))
      simpa [Cx.obj] using hs k ob hk
    · rw [drop_obj_true] at hob
      refine relObj_drop hs rfl (hH.objs true k ob hob) (obj_mentions _ (hg ob ?_))
      simp only [Cx.obj,if_true] at hob
      exact List.mem_of_getElem? hob
  inj z k z' k' b h1 h2 := by
    have sub:∀ z k,(c.drop l').μ z k=some b→c.μ z k=some b:=fun z k h=>by
      cases z
      · simp only [Cx.drop,Bool.false_eq_true,if_false] at h
        split at h
        · exact h
        · cases h
      · exact h
    exact hH.inj _ _ _ _ _ (sub _ _ h1) (sub _ _ h2)
  live z k b h:=by
    cases z
    · simp only [Cx.drop,Bool.false_eq_true,if_false] at h
      split at h
      rotate_left
      · cases h
      rename_i hk
      obtain ⟨x1,x2,x3,ob,x4,x5⟩:=hH.live _ _ _ h
      exact ⟨x1,x2,x3,ob,(drop_obj_false hs hk).trans x4,x5⟩
    · obtain ⟨x1,x2,x3,ob,x4,x5⟩:=hH.live true k b h
      exact ⟨x1,x2,x3,ob,(drop_obj_true k).trans x4,x5⟩
  xlt:=hH.xlt
theorem evo_drop:Evo c (c.drop l') where
 X:=rfl
 size:=Nat.le_refl _
 tape:=rfl
 os:=rfl
 output:=rfl
 keep _ _ _:=rfl
 fresh b ho:=by
  obtain ⟨z,k,h⟩:=ho
  cases z
  ·simp only [Cx.drop,Bool.false_eq_true,if_false] at h
   split at h
   ·exact .inl ⟨false,k,h⟩
   ·cases h
  ·exact .inl ⟨true,k,h⟩
 objs k o ho:=⟨o,(drop_obj_true k).trans ho,fun m hm=>⟨m,hm,Nat.le_refl _,rfl,fun _=>⟨rfl,rfl,fun b cs e _ hh=>⟨cs,hh,rfl⟩⟩⟩⟩
theorem lk_pickL {l : List (Nat × AObj)} : ∀ {ks : List Nat} {k : Nat} {o : AObj}, lk (pickL l ks) k = some o → lk l k = some o
  | [],k,o,h=>by simp [pickL,lk] at h
  | a :: ks, k, o, h => by
    simp only [pickL] at h
    split at h
    · rename_i v hv
      simp only [lk] at h
      split at h
      · rename_i e
        have:a=k:=beq_iff_eq.1 e
        subst this
        rw [← h];exact hv
      · exact lk_pickL h
    · exact lk_pickL h
theorem lk_frame {s:St}:∀ (ts:List Nat) (t:Nat),lk (ts.map fun t=>(t,s.get t)) t=if t ∈ ts then some (s.get t) else none
  | [],t=>rfl
  | a :: ts, t => by
    simp only [List.map_cons,lk]
    cases e:(a==t)
    · have:t≠a:=fun h=>by subst h;simp at e
      simp [lk_frame ts t,this]
    · have:a=t:=beq_iff_eq.1 e
      subst this
      simp
variable {s s':St} {a:Act} {n:Nat}
theorem keep_rel (hg:Good Γ c s a n) {ts ks:List Nat} (h:s.keep ts ks=some s'):∃ c',c'.w=c.w∧Good Γ c' s' a n∧Evo c c':=by
 unfold St.keep at h
 simp only at h
 split at h
 ·cases h
 rename_i hm
 simp only [Option.some.injEq] at h
 subst h
 simp only [Bool.or_eq_true,not_or,Bool.not_eq_true,List.any_eq_false] at hm
 obtain ⟨hm1,hm2⟩:=hm
 have hs:∀ k o,lk (pickL s.l ks) k=some o→lk c.l k=some o:=fun k o hk=>by rw [← hg.l];exact lk_pickL hk
 refine ⟨c.drop (pickL s.l ks),rfl,⟨rfl,hg.g,relH_drop hg.H hs (by rw [← hg.g];exact hg.G) (fun e he=>by simpa using hm2 e he),fun t => ?_,hg.G,hg.N,hg.D⟩,evo_drop⟩
 show RelV _ (orBot (lk (ts.map fun t=>(t,s.get t)) t)) _
 rw [lk_frame]
 split
 ·rename_i ht
  show RelV _ (s.get t) _
  exact relV_drop hs (hg.F t) (by simpa using hm1 (t,s.get t) (List.mem_map.2 ⟨t,ht,rfl⟩))
 ·exact .bot _
end
end Go.TA
namespace Go.TA
def items:Code→List Code
 | .seq a b=>items a++items b
 | .skip=>[]
 | .label _=>[]
 | c=>[c]
def wpL (P:Program) (Q:Exit→Act→World→Prop):List Code→Act→World→Prop
 | [],a,w=>Q .normal a w
 | c::l,a,w=>c.wp P (Exit.then (wpL P Q l) Q) a w
section
variable {P:Program} {Q:Exit→Act→World→Prop}
theorem then_then {K K':Act→World→Prop} {e:Exit} {a:Act} {w:World} (h:Exit.then K Q e a w) (hK:e = .normal→K a w→K' a w):Exit.then K' Q e a w:=by
 cases e <;> simp only [Exit.then] at h ⊢ <;> first | exact hK rfl h | exact h
theorem wpL_append:∀ {l r:List Code} {a:Act} {w:World},wpL P Q (l++r) a w→wpL P (Exit.then (wpL P Q r) Q) l a w
  | [],r,a,w,h=>h
  | c :: l, r, a, w, h => by
    simp only [List.cons_append,wpL] at h ⊢
    refine wp_mono h (fun e a' w' he => ?_)
    cases e <;> simp only [Exit.then] at he ⊢ <;> first | exact wpL_append he | exact he
theorem wp_of_wpL:∀ {c:Code} {Q:Exit→Act→World→Prop} {a:Act} {w:World},wpL P Q (items c) a w→c.wp P Q a w
  | .seq x y, Q, a, w, h => by
    have h1:=wp_of_wpL (wpL_append (by simpa [items] using h))
    refine wp_seq (wp_mono h1 (fun e a' w' he=>then_then he (fun _ h=>wp_of_wpL h)))
  | .skip,Q,a,w,h=>wp_skip h
  | .label _,Q,a,w,h=>wp_label h
  | .region ..,Q,a,w,h=>wp_mono h (fun e a' w' he=>by cases e <;> exact he)
  | .cond ..,Q,a,w,h=>wp_mono h (fun e a' w' he=>by cases e <;> exact he)
  | .block ..,Q,a,w,h=>wp_mono h (fun e a' w' he=>by cases e <;> exact he)
  | .loop ..,Q,a,w,h=>wp_mono h (fun e a' w' he=>by cases e <;> exact he)
  | .exit ..,Q,a,w,h=>wp_mono h (fun e a' w' he=>by cases e <;> exact he)
  | .goto ..,Q,a,w,h=>wp_mono h (fun e a' w' he=>by cases e <;> exact he)
  | .ret,Q,a,w,h=>wp_mono h (fun e a' w' he=>by cases e <;> exact he)
  | .scope ..,Q,a,w,h=>wp_mono h (fun e a' w' he=>by cases e <;> exact he)
  | .rangeFunc ..,Q,a,w,h=>wp_mono h (fun e a' w' he=>by cases e <;> exact he)
  | .refuse ..,Q,a,w,h=>wp_mono h (fun e a' w' he=>by cases e <;> exact he)
end
end Go.TA
namespace Go.TA
def noAgain:List LOper→Bool
 | []=>true
 | x::l=>x.again.isEmpty && noAgain l
def codeOk (P:Program) (n:Nat):LCode→List Code→Bool
 | .skip,[]=>true
 | .region xs d _ _,[.region _ ops d']=>d==d' && (if d then drawOk P n ops xs && noAgain xs else opersOk P n ops xs ops.toList)
 | .draw xs _ _,[.region _ ops d']=>d' && drawOk P n ops xs
 | .seq a b,c::l=>codeOk P n a [c] && codeOk P n b l
 | .cond x a b,[.cond y c d]=>opdOk x y && codeOk P n a (items c) && codeOk P n b (items d)
 | .block id a,[.block id' c]=>id==id' && codeOk P n a (items c)
 | .loop a,[.loop c]=>codeOk P n a (items c)
 | .exit id,.exit id'::_=>id==id'
 | .ret,.ret::_=>true
 | .keep _ _ c,l=>codeOk P n c l
 | .stuck,_=>true
 | _,_=>false
def toExit:Ex→Exit
 | .normal => .normal
 | .exit id => .exit id
 | .ret => .ret
section
variable {P:Program} {Γ : Ground} {C:Calls'} {n N:Nat}
theorem runD_of_runOps:∀ {xs done:List LOper} {s s':St},noAgain xs=true→runOps C xs s=some s'→runD C done xs s=some s'
  | [],done,s,s',_,h=>h
  | x :: xs, done, s, s', hn, h => by
    simp only [noAgain,Bool.and_eq_true,List.isEmpty_iff] at hn
    simp only [runOps] at h
    obtain ⟨s1,h1,h2⟩:=Option.bind_eq_some_iff.1 h
    simp only [runD,stepD,h1,Option.bind_some,againK,hn.1,List.all_nil,if_true]
    exact runD_of_runOps hn.2 h2
theorem wpL_one {Q:Exit→Act→World→Prop} {c:Code} {a:Act} {w:World} (h:c.wp P Q a w):wpL P Q [c] a w:=wp_mono h (fun e a' w' he=>by cases e <;> exact he)
theorem of_wpL_one {Q:Exit→Act→World→Prop} {c:Code} {a:Act} {w:World} (h:wpL P Q [c] a w):c.wp P Q a w:=wp_mono h (fun e a' w' he=>by cases e <;> exact he)
theorem wp_loop_n {c : Code} {Q : Exit → Act → World → Prop} (R : Nat → Act → World → Prop) (round : ∀ m a w, R m a w → c.wp P (Exit.then (fun a' w' => ∃ m', m' < m ∧ R m' a' w') Q) a w) :
    ∀ (m:Nat) (a:Act) (w:World),R m a w→(Code.loop c).wp P Q a w:=by
  intro m a w hR b k cs
  have key:∀ m a w,R m a w→∃ e a' w',Q e a' w'∧Arrives P (lone (b.at a (.code c :: .inLoop c::k)) cs w) b k cs e a' w':=by
    intro m
    induction m using Nat.strongRecOn with
    | _ m ih =>
      intro a w hI
      obtain ⟨e,a₁,w₁,hq,harr⟩:=round m a w hI b (.inLoop c::k) cs
      cases e with
      | normal =>
        obtain ⟨m',hlt,hI₁⟩:=hq
        obtain ⟨e₂,a₂,w₂,hq₂,harr₂⟩:=ih m' hlt a₁ w₁ hI₁
        exact ⟨e₂,a₂,w₂,hq₂,.of_steps (Steps.trans harr (.one step_inLoop)) harr₂⟩
      | exit id=>exact ⟨_,a₁,w₁,hq,.pass (x:=.inLoop c) rfl (fun _ _ => .inl (by simp)) harr⟩
      | goto l=>exact ⟨_,a₁,w₁,hq,.pass (x:=.inLoop c) rfl (fun _ _ => .inl (by simp)) harr⟩
      | ret=>exact ⟨_,a₁,w₁,hq,.pass (x:=.inLoop c) rfl (fun _ _ => .inl (by simp)) harr⟩
      | panic ch=>exact ⟨_,a₁,w₁,hq,.pass (x:=.inLoop c) rfl (fun _ _ => .inl (by simp)) harr⟩
      | outgrown=>exact ⟨_,a₁,w₁,hq,.pass (x:=.inLoop c) rfl (fun _ _ => .inl (by simp)) harr⟩
  obtain ⟨e,a',w',hq,harr⟩:=key m a w hR
  exact ⟨e,a',w',hq,.of_steps (.one step_loop) harr⟩
theorem know_rel {c:Cx} {s:St} {a:Act} (hg:Good Γ c s a n) {x:LOpd} {b:Bool} (h:s.arg x = .p (.bool b)):Good Γ c (s.know x b) a n:=by
 cases x with
 | t m=>exact hg.known h
 | _=>exact hg
theorem region_end {c:Cx} {s s':St} {a:Act} {ts ks:List Nat} {ex:Ex} {x:Option St} (hx:x=some s) (h:bn x ts ks=some (ex,s')) (hg:Good Γ c s a n) {Q:Exit→Act→World→Prop} (hQ:∀ c' a',Good Γ c' s' a' n→Evo c c'→Q (toExit ex) a' c'.w):Q .normal a c.w:=by
 subst hx
 simp only [bn,Option.bind_some,bn'] at h
 obtain ⟨s1,h1,h2⟩:=Option.bind_eq_some_iff.1 h
 simp only [Option.some.injEq,Prod.mk.injEq] at h2
 obtain ⟨rfl,rfl⟩:=h2
 obtain ⟨c',hw,hg',hE⟩:=keep_rel hg h1
 have:=hQ c' a hg' hE
 rw [hw] at this
 exact this
theorem bn_some' {x:Option St} {ts ks:List Nat} {r:Ex × St} (h:bn x ts ks=some r):∃ s,x=some s:=by
 cases x with
 | none=>simp [bn] at h
 | some s=>exact ⟨s,rfl⟩
theorem aexec_rel (hm : P.follows .mixedOrders = true) (hC : SoundC P Γ C) : ∀ (code : LCode) {cs : List Code}, codeOk P n code cs = true → ∀ {c : Cx} {s s' : St} {a : Act} {ex : Ex}, Good Γ c s a n → aexec C N code s = some (ex, s') →
    ∀ {Q:Exit→Act→World→Prop},(∀ c' a',Good Γ c' s' a' n→Evo c c'→Q (toExit ex) a' c'.w)→wpL P Q cs a c.w
  | .stuck,cs,hok,c,s,s',a,ex,hg,h,Q,hQ=>by simp [aexec] at h
  | .skip, cs, hok, c, s, s', a, ex, hg, h, Q, hQ => by
    cases cs with
    | cons _ _=>simp [codeOk] at hok
    | nil =>
      simp only [aexec,Option.some.injEq,Prod.mk.injEq] at h
      obtain ⟨rfl,rfl⟩:=h
      exact hQ c a hg (Evo.refl c)
  | .region xs d ts ks, cs, hok, c, s, s', a, ex, hg, h, Q, hQ => by
    unfold codeOk at hok
    split at hok <;> try (cases hok;done)
    all_goals try contradiction
    rename_i heq
    injection heq with e1 e2 e3 e4
    subst e1 e2
    simp only [Bool.and_eq_true,beq_iff_eq] at hok
    obtain ⟨rfl,hok⟩:=hok
    simp only [aexec] at h
    obtain ⟨s1,hs1⟩:=bn_some' h
    refine wpL_one ?_
    split at hok
    · rename_i hd
      subst hd
      simp only [Bool.and_eq_true] at hok
      exact draw_rel hm hok.1 hC hg (runD_of_runOps hok.2 hs1) (fun c' a' hg' hE=>region_end hs1 h hg' (fun c2 a2 hg2 hE2=>hQ c2 a2 hg2 (hE.evo.trans hE2)))
    · rename_i hd
      have hd:d=false:=by cases d <;> simp_all
      subst hd
      exact wp_region_list (runOps_rel hC hok hg hs1 (fun c' a' hg' hE=>region_end hs1 h hg' (fun c2 a2 hg2 hE2=>hQ c2 a2 hg2 (hE.evo.trans hE2))))
  | .draw xs ts ks, cs, hok, c, s, s', a, ex, hg, h, Q, hQ => by
    unfold codeOk at hok
    split at hok <;> try (cases hok;done)
    all_goals try contradiction
    rename_i heq
    injection heq with e1 e2 e3
    subst e1
    simp only [Bool.and_eq_true] at hok
    obtain ⟨rfl,hok⟩:=hok
    simp only [aexec] at h
    obtain ⟨s1,hs1⟩:=bn_some' h
    exact wpL_one (draw_rel hm hok hC hg hs1 (fun c' a' hg' hE=>region_end hs1 h hg' (fun c2 a2 hg2 hE2=>hQ c2 a2 hg2 (hE.evo.trans hE2))))
  | .seq x y, cs, hok, c, s, s', a, ex, hg, h, Q, hQ => by
    cases cs with
    | nil=>simp [codeOk] at hok
    | cons cd l =>
      simp only [codeOk,Bool.and_eq_true] at hok
      simp only [aexec] at h
      obtain ⟨⟨ex1,s1⟩,h1,h2⟩:=Option.bind_eq_some_iff.1 h
      refine of_wpL_one (aexec_rel hm hC x hok.1 hg h1 (fun c' a' hg' hE => ?_))
      cases ex1 with
      | normal =>
        simp only [thenK] at h2
        exact aexec_rel hm hC y hok.2 hg' h2 (fun c2 a2 hg2 hE2=>hQ c2 a2 hg2 (hE.trans hE2))
      | exit id =>
        simp only [thenK,Option.some.injEq,Prod.mk.injEq] at h2
        obtain ⟨rfl,rfl⟩:=h2
        exact hQ c' a' hg' hE
      | ret =>
        simp only [thenK,Option.some.injEq,Prod.mk.injEq] at h2
        obtain ⟨rfl,rfl⟩:=h2
        exact hQ c' a' hg' hE
  | .cond x u v, cs, hok, c, s, s', a, ex, hg, h, Q, hQ => by
    unfold codeOk at hok
    split at hok <;> try (cases hok;done)
    all_goals try contradiction
    rename_i heq
    injection heq with e1 e2 e3
    subst e1 e2 e3
    simp only [Bool.and_eq_true] at hok
    obtain ⟨⟨hx,hu⟩,hv⟩:=hok
    simp only [aexec] at h
    split at h
    rotate_left
    · cases h
    rename_i b hb
    have hval:=(rhoA P hg.F).1 _ _ hx
    rw [hb] at hval
    refine wpL_one (wp_cond (relV_bool hval) ?_)
    split at h
    · rename_i hbt
      subst hbt
      exact wp_of_wpL (aexec_rel hm hC u hu (know_rel hg hb) h hQ)
    · rename_i hbf
      have:b=false:=by cases b <;> simp_all
      subst this
      exact wp_of_wpL (aexec_rel hm hC v hv (know_rel hg hb) h hQ)
  | .block id x, cs, hok, c, s, s', a, ex, hg, h, Q, hQ => by
    unfold codeOk at hok
    split at hok <;> try (cases hok;done)
    all_goals try contradiction
    rename_i heq
    injection heq with e1 e2
    subst e1 e2
    simp only [Bool.and_eq_true,beq_iff_eq] at hok
    obtain ⟨rfl,hx⟩:=hok
    simp only [aexec,bb] at h
    obtain ⟨⟨ex1,s1⟩,h1,h2⟩:=Option.bind_eq_some_iff.1 h
    refine wpL_one (wp_block (wp_of_wpL (aexec_rel hm hC x hx hg h1 (fun c' a' hg' hE => ?_))))
    cases ex1 with
    | normal =>
      simp only [blockK,Option.some.injEq,Prod.mk.injEq] at h2
      obtain ⟨rfl,rfl⟩:=h2
      exact hQ c' a' hg' hE
    | exit i =>
      simp only [blockK] at h2
      simp only [toExit,Exit.inBlock]
      split at h2
      · rename_i e
        rw [if_pos e]
        simp only [Option.some.injEq,Prod.mk.injEq] at h2
        obtain ⟨rfl,rfl⟩:=h2
        exact hQ c' a' hg' hE
      · rename_i e
        rw [if_neg e]
        simp only [Option.some.injEq,Prod.mk.injEq] at h2
        obtain ⟨rfl,rfl⟩:=h2
        exact hQ c' a' hg' hE
    | ret =>
      simp only [blockK,Option.some.injEq,Prod.mk.injEq] at h2
      obtain ⟨rfl,rfl⟩:=h2
      exact hQ c' a' hg' hE
  | .loop x, cs, hok, c, s, s', a, ex, hg, h, Q, hQ => by
    unfold codeOk at hok
    split at hok <;> try (cases hok;done)
    all_goals try contradiction
    rename_i heq
    injection heq with e1
    subst e1
    simp only [aexec] at h
    refine wpL_one (wp_loop_n (fun m a w=>∃ c1 s1,Good Γ c1 s1 a n∧c1.w=w∧Evo c c1∧loopN (fun s=>aexec C N x s) m s1=some (ex,s')) (fun m a1 w1 hR => ?_) N a c.w ⟨c,s,hg,rfl,Evo.refl c,h⟩)
    obtain ⟨c1,s1,hg1,rfl,hE1,hl⟩:=hR
    cases m with
    | zero=>simp [loopN] at hl
    | succ m =>
      simp only [loopN] at hl
      obtain ⟨⟨ex1,s2⟩,h1,h2⟩:=Option.bind_eq_some_iff.1 hl
      refine wp_of_wpL (aexec_rel hm hC x hok hg1 h1 (fun c' a' hg' hE => ?_))
      cases ex1 with
      | normal =>
        simp only [thenK] at h2
        exact ⟨m,by omega,c',s2,hg',rfl,hE1.trans hE,h2⟩
      | exit id =>
        simp only [thenK,Option.some.injEq,Prod.mk.injEq] at h2
        obtain ⟨rfl,rfl⟩:=h2
        exact hQ c' a' hg' (hE1.trans hE)
      | ret =>
        simp only [thenK,Option.some.injEq,Prod.mk.injEq] at h2
        obtain ⟨rfl,rfl⟩:=h2
        exact hQ c' a' hg' (hE1.trans hE)
  | .exit id, cs, hok, c, s, s', a, ex, hg, h, Q, hQ => by
    unfold codeOk at hok
    split at hok <;> try (cases hok;done)
    all_goals try contradiction
    rename_i heq
    injection heq with e1
    subst e1
    have hok:id=_:=beq_iff_eq.1 hok
    subst hok
    simp only [aexec,Option.some.injEq,Prod.mk.injEq] at h
    obtain ⟨rfl,rfl⟩:=h
    exact wp_exit (hQ c a hg (Evo.refl c))
  | .ret, cs, hok, c, s, s', a, ex, hg, h, Q, hQ => by
    unfold codeOk at hok
    split at hok <;> try (cases hok;done)
    all_goals try contradiction
    simp only [aexec,Option.some.injEq,Prod.mk.injEq] at h
    obtain ⟨rfl,rfl⟩:=h
    exact wp_ret (hQ c a hg (Evo.refl c))
  | .keep ts ks x, cs, hok, c, s, s', a, ex, hg, h, Q, hQ => by
    simp only [codeOk] at hok
    simp only [aexec] at h
    obtain ⟨s1,h1,h2⟩:=Option.bind_eq_some_iff.1 h
    obtain ⟨c',hw,hg',hE⟩:=keep_rel hg h1
    have:=aexec_rel hm hC x hok hg' h2 (fun c2 a2 hg2 hE2=>hQ c2 a2 hg2 (hE.trans hE2))
    rw [hw] at this
    exact this
  | .scope x, cs, hok, c, s, s', a, ex, hg, h, Q, hQ => by
    unfold codeOk at hok
    cases hok
theorem step_gOk (hC:∀ f args g r g',C f args g=some (r,g')→noLocals args=true→gOk g→gOk g') {x:LOper} {o:Op} (hok:opOk P x.op o=true) {s s':St} (hg:gOk s.g) (h:stepOp C x s=some s'):gOk s'.g:=by
 obtain ⟨v,hv,h1⟩:=step_inv h
 rcases h1 with ⟨hon,he⟩ | ⟨hoff,rfl,h1,h2⟩
 ·exact (gOk_op hC hok hg he :)
 ·rw [h2];exact hg
theorem runOps_gOk (hC:∀ f args g r g',C f args g=some (r,g')→noLocals args=true→gOk g→gOk g'):∀ {xs:List LOper} {s s':St},(∀ x ∈ xs,∃ o,opOk P x.op o=true)→gOk s.g→runOps C xs s=some s'→gOk s'.g
  | [],s,s',_,hg,h=>by simp only [runOps,Option.some.injEq] at h;subst h;exact hg
  | x :: xs, s, s', hx, hg, h => by
    simp only [runOps] at h
    obtain ⟨s1,h1,h2⟩:=Option.bind_eq_some_iff.1 h
    obtain ⟨o,ho⟩:=hx x (by simp)
    exact runOps_gOk hC (fun y hy=>hx y (by simp [hy])) (step_gOk hC ho hg h1) h2
theorem runD_gOk (hC:∀ f args g r g',C f args g=some (r,g')→noLocals args=true→gOk g→gOk g'):∀ {xs done:List LOper} {s s':St},(∀ x ∈ xs,∃ o,opOk P x.op o=true)→gOk s.g→runD C done xs s=some s'→gOk s'.g
  | [],done,s,s',_,hg,h=>by simp only [runD,Option.some.injEq] at h;subst h;exact hg
  | x :: xs, done, s, s', hx, hg, h => by
    simp only [runD,stepD] at h
    obtain ⟨s1,h1,h2⟩:=Option.bind_eq_some_iff.1 h
    obtain ⟨s0,h0,h1⟩:=Option.bind_eq_some_iff.1 h1
    unfold againK at h1
    split at h1
    rotate_left
    · cases h1
    simp only [Option.some.injEq] at h1
    subst h1
    obtain ⟨o,ho⟩:=hx x (by simp)
    exact runD_gOk hC (fun y hy=>hx y (by simp [hy])) (step_gOk hC ho hg h0) h2
theorem opersOk_all {ops:Array Oper}:∀ {xs:List LOper} {os:List Oper},opersOk P n ops xs os=true→∀ x ∈ xs,∃ o,opOk P x.op o=true
  | [],_,_,x,hx=>by simp at hx
  | y::xs,[],h,x,hx=>by simp [opersOk] at h
  | y :: xs, o :: os, h, x, hx => by
    simp only [opersOk,Bool.and_eq_true] at h
    rcases List.mem_cons.1 hx with rfl | hx
    · simp only [operOk,Bool.and_eq_true] at h
      exact ⟨o.op,h.1.1.1.1⟩
    · exact opersOk_all h.2 x hx
theorem drawOk_all {ops:Array Oper} {xs:List LOper} (h:drawOk P n ops xs=true):∀ x ∈ xs,∃ o,opOk P x.op o=true:=fun x hx=>by
 obtain ⟨p,hp,rfl⟩:=atP_mem hx
 obtain ⟨o,_,ho⟩:=(drawFacts h).all p hp
 simp only [operOk,Bool.and_eq_true] at ho
 exact ⟨o.op,ho.1.1.1⟩
theorem keep_gOk {s s':St} {ts ks:List Nat} (h:s.keep ts ks=some s') (hg:gOk s.g):gOk s'.g:=by
 unfold St.keep at h
 simp only at h
 split at h
 ·cases h
 ·simp only [Option.some.injEq] at h;subst h;exact hg
theorem bn_gOk {x:Option St} {ts ks:List Nat} {ex:Ex} {s':St} (h:bn x ts ks=some (ex,s')) (hx:∀ s,x=some s→gOk s.g):gOk s'.g:=by
 obtain ⟨s,rfl⟩:=bn_some' h
 simp only [bn,Option.bind_some,bn'] at h
 obtain ⟨s1,h1,h2⟩:=Option.bind_eq_some_iff.1 h
 simp only [Option.some.injEq,Prod.mk.injEq] at h2
 obtain ⟨rfl,rfl⟩:=h2
 exact keep_gOk h1 (hx s rfl)
theorem know_g (s:St) (x:LOpd) (b:Bool):(s.know x b).g=s.g:=by cases x <;> rfl
theorem aexec_gOk (hC : ∀ f args g r g', C f args g = some (r, g') → noLocals args = true → gOk g → gOk g') : ∀ (code : LCode) {cs : List Code}, codeOk P n code cs = true → ∀ {s s' : St} {ex : Ex}, gOk s.g → aexec C N code s = some (ex, s') → gOk s'.g
  | .stuck,cs,hok,s,s',ex,hg,h=>by simp [aexec] at h
  | .skip, cs, hok, s, s', ex, hg, h => by
    simp only [aexec,Option.some.injEq,Prod.mk.injEq] at h
    rw [← h.2];exact hg
  | .region xs d ts ks, cs, hok, s, s', ex, hg, h => by
    unfold codeOk at hok
    split at hok <;> try (cases hok;done)
    all_goals try contradiction
    rename_i heq
    injection heq with e1 e2 e3 e4
    subst e1 e2
    simp only [Bool.and_eq_true,beq_iff_eq] at hok
    simp only [aexec] at h
    refine bn_gOk h (fun s1 hs1=>runOps_gOk (P:=P) hC ?_ hg hs1)
    split at hok
    · exact drawOk_all (by simp only [Bool.and_eq_true] at hok;exact hok.2.1)
    · exact opersOk_all hok.2
  | .draw xs ts ks, cs, hok, s, s', ex, hg, h => by
    unfold codeOk at hok
    split at hok <;> try (cases hok;done)
    all_goals try contradiction
    rename_i heq
    injection heq with e1 e2 e3
    subst e1
    simp only [Bool.and_eq_true] at hok
    simp only [aexec] at h
    exact bn_gOk h (fun s1 hs1=>runD_gOk hC (drawOk_all hok.2) hg hs1)
  | .seq x y, cs, hok, s, s', ex, hg, h => by
    cases cs with
    | nil=>simp [codeOk] at hok
    | cons cd l =>
      simp only [codeOk,Bool.and_eq_true] at hok
      simp only [aexec] at h
      obtain ⟨⟨ex1,s1⟩,h1,h2⟩:=Option.bind_eq_some_iff.1 h
      have hg1:=aexec_gOk hC x hok.1 hg h1
      cases ex1 with
      | normal=>exact aexec_gOk hC y hok.2 hg1 h2
      | exit id =>
        simp only [thenK,Option.some.injEq,Prod.mk.injEq] at h2
        rw [← h2.2];exact hg1
      | ret =>
        simp only [thenK,Option.some.injEq,Prod.mk.injEq] at h2
        rw [← h2.2];exact hg1
  | .cond x u v, cs, hok, s, s', ex, hg, h => by
    unfold codeOk at hok
    split at hok <;> try (cases hok;done)
    all_goals try contradiction
    rename_i heq
    injection heq with e1 e2 e3
    subst e1 e2 e3
    simp only [Bool.and_eq_true] at hok
    simp only [aexec] at h
    split at h
    rotate_left
    · cases h
    split at h
    · exact aexec_gOk hC u hok.1.2 (by rw [know_g];exact hg) h
    · exact aexec_gOk hC v hok.2 (by rw [know_g];exact hg) h
  | .block id x, cs, hok, s, s', ex, hg, h => by
    unfold codeOk at hok
    split at hok <;> try (cases hok;done)
    all_goals try contradiction
    rename_i heq
    injection heq with e1 e2
    subst e1 e2
    simp only [Bool.and_eq_true,beq_iff_eq] at hok
    simp only [aexec,bb] at h
    obtain ⟨⟨ex1,s1⟩,h1,h2⟩:=Option.bind_eq_some_iff.1 h
    have hg1:=aexec_gOk hC x hok.2 hg h1
    cases ex1 with
    | exit i =>
      simp only [blockK] at h2
      split at h2 <;> (simp only [Option.some.injEq,Prod.mk.injEq] at h2;rw [← h2.2];exact hg1)
    | _ =>
      simp only [blockK,Option.some.injEq,Prod.mk.injEq] at h2
      rw [← h2.2];exact hg1
  | .loop x, cs, hok, s, s', ex, hg, h => by
    unfold codeOk at hok
    split at hok <;> try (cases hok;done)
    all_goals try contradiction
    rename_i heq
    injection heq with e1
    subst e1
    simp only [aexec] at h
    have key:∀ m (s1:St),gOk s1.g→loopN (fun s=>aexec C N x s) m s1=some (ex,s')→gOk s'.g:=by
      intro m
      induction m with
      | zero=>intro s1 _ h;simp [loopN] at h
      | succ m ih =>
        intro s1 hg1 hl
        simp only [loopN] at hl
        obtain ⟨⟨ex1,s2⟩,h1,h2⟩:=Option.bind_eq_some_iff.1 hl
        have hg2:=aexec_gOk hC x hok hg1 h1
        cases ex1 with
        | normal=>exact ih s2 hg2 h2
        | _ =>
          simp only [thenK,Option.some.injEq,Prod.mk.injEq] at h2
          rw [← h2.2];exact hg2
    exact key N s hg h
  | .exit id, cs, hok, s, s', ex, hg, h => by
    simp only [aexec,Option.some.injEq,Prod.mk.injEq] at h
    rw [← h.2];exact hg
  | .ret, cs, hok, s, s', ex, hg, h => by
    simp only [aexec,Option.some.injEq,Prod.mk.injEq] at h
    rw [← h.2];exact hg
  | .keep ts ks x, cs, hok, s, s', ex, hg, h => by
    simp only [codeOk] at hok
    simp only [aexec] at h
    obtain ⟨s1,h1,h2⟩:=Option.bind_eq_some_iff.1 h
    exact aexec_gOk hC x hok (keep_gOk h1 hg) h2
  | .scope x, cs, hok, s, s', ex, hg, h => by
    unfold codeOk at hok
    cases hok
end
end Go.TA
namespace Go.TA
def resOk (P:Program):List LRes→List ResultVar→Bool
 | [],[]=>true
 | .tmp t::l,.tmp t'::r=>t==t' && resOk P l r
 | .cell t sz agg::l,.cell t' ty::r=>t==t' && szOk P ty sz agg && resOk P l r
 | _,_=>false
def fnOk (P:Program) (F:LFunc) (fn:Func) (body:Code):Bool:=resOk P F.results fn.results.toList && codeOk P (max F.nparams fn.ntmps) F.body (items body)
def SoundAt (P : Program) (Γ : Ground) (f : Nat) (args : List AV) (g : List AObj) (r : AV) (g' : List AObj) : Prop :=
  calleeOk P f=true∧gOk g'∧noLocal r=true ∧
    ∀ (c : Cx) (vs : List Value), c.l = [] → c.g = g → RelH Γ c → args.length = vs.length → (∀ j (h : j < args.length) (h' : j < vs.length), RelV c (args[j]) (vs[j])) →
      Calls P f vs.toArray c.w (fun e w'=>∃ v,e = .returned v∧Ans Γ c [] g' r v w')
def PrimOk (P:Program) (Γ : Ground) (f:Nat) (p:Calls'→List AV→List AObj→Option (AV × List AObj)):Prop :=
 ∀ C,SoundC P Γ C→∀ args g r g',p C args g=some (r,g')→noLocals args=true→gOk g→SoundAt P Γ f args g r g'
def FnSound (P:Program) (f:Nat) (F:LFunc):Prop:=calleeOk P f=true∧∃ fn body,P.funcs[f]? = some fn∧fn.body=some body∧fnOk P F fn body=true
def TOk (P:Program) (Γ : Ground) (T:Nat→Option LFn):Prop:=∀ f,match T f with
 | some (.code F)=>FnSound P f F
 | some (.prim p)=>PrimOk P Γ f p
 | none=>True
section
variable {P:Program} {Γ : Ground} {C:Calls'} {n N:Nat} {c:Cx} {s:St} {a:Act}
def rvOf (tmps:Array Value):ResultVar→Sem Value
 | .tmp t=>pure (tmps.getD t undef)
 | .cell p t=>do loadVar t (← asAddr (tmps.getD p undef))
theorem res_rel (hg:Good Γ c s a n):∀ {rs:List LRes} {vars:List ResultVar} {vs:List AV},resOk P rs vars=true→allM (result1 C s) rs=some vs →
    ∃ us:List Value,(vars.mapM (rvOf a.tmps)).run P c.w = .ok us c.w∧vs.length=us.length∧∀ j (h:j<vs.length) (h':j<us.length),RelV c (vs[j]) (us[j])
  | [], [], vs, _, h => by
    simp only [allM,Option.some.injEq] at h
    subst h
    exact ⟨[],by simp,rfl,by simp⟩
  | [],_::_,vs,h,_=>by simp [resOk] at h
  | .tmp _::_,[],vs,h,_=>by simp [resOk] at h
  | .cell .. :: _,[],vs,h,_=>by simp [resOk] at h
  | .tmp _::_,.cell .. :: _,vs,h,_=>by simp [resOk] at h
  | .cell .. :: _,.tmp _::_,vs,h,_=>by simp [resOk] at h
  | .tmp t :: rs, .tmp t' :: vars, vs, hok, h => by
    simp only [resOk,Bool.and_eq_true,beq_iff_eq] at hok
    obtain ⟨rfl,hok⟩:=hok
    simp only [allM] at h
    obtain ⟨v,hv,h⟩:=bk_eq h
    obtain ⟨vs',hvs,h⟩:=bk_eq h
    simp only [Option.some.injEq] at h
    subst h
    simp only [result1,Option.some.injEq] at hv
    subst hv
    obtain ⟨us,h1,h2,h3⟩:=res_rel hg hok hvs
    have e:(rvOf a.tmps (.tmp t)).run P c.w = .ok (a.tmps.getD t undef) c.w:=rfl
    refine ⟨a.tmps.getD t undef::us,by simp [List.mapM_cons,e,h1],by simp [h2],fun j h h' => ?_⟩
    cases j with
    | zero=>exact hg.F t
    | succ j=>exact h3 j (by simpa using h) (by simpa using h')
  | .cell t sz agg :: rs, .cell t' ty :: vars, vs, hok, h => by
    simp only [resOk,Bool.and_eq_true,beq_iff_eq] at hok
    obtain ⟨⟨rfl,hsz⟩,hok⟩:=hok
    simp only [allM] at h
    obtain ⟨v,hv,h⟩:=bk_eq h
    obtain ⟨vs',hvs,h⟩:=bk_eq h
    simp only [Option.some.injEq] at h
    subst h
    simp only [result1] at hv
    obtain ⟨⟨v',s'⟩,hev,hv⟩:=bk_eq hv
    simp only [Option.some.injEq] at hv
    subst hv
    obtain ⟨ad,u,hu,hrun,_,hr⟩:=load_rel (P:=P) hg.l hg.g hg.H hsz (x:=.t t) (hg.F t) hev
    obtain ⟨us,h1,h2,h3⟩:=res_rel hg hok hvs
    have e:(rvOf a.tmps (.cell t ty)).run P c.w = .ok u c.w:=by
      simp only [rvOf,hu,asAddr,Sem.run_bind]
      simpa using hrun
    refine ⟨u::us,by simp [List.mapM_cons,e,h1],by simp [h2],fun j h h' => ?_⟩
    cases j with
    | zero=>exact hr
    | succ j=>exact h3 j (by simpa using h) (by simpa using h')
def oneOrAll:List Value→Value
 | [u]=>u
 | us => .tuple us.toArray
theorem results_rel (hg:Good Γ c s a n) {fn:Func} {rs:List LRes} {vs:List AV} (hok:resOk P rs fn.results.toList=true) (h:allM (result1 C s) rs=some vs) :
  ∃ us:List Value,(results fn a.tmps).run P c.w = .ok (oneOrAll us) c.w∧vs.length=us.length∧∀ j (h:j<vs.length) (h':j<us.length),RelV c (vs[j]) (us[j]):=by
 obtain ⟨us,h1,h2,h3⟩:=res_rel hg hok h
 refine ⟨us, ?_,h2,h3⟩
 have e:results fn a.tmps=(do let vs ← fn.results.mapM (rvOf a.tmps);pure (if h:vs.size=1 then vs[0] else .tuple vs)):=rfl
 rw [e,Array.mapM_eq_mapM_toList]
 simp only [Sem.run_bind,Sem.run_map,h1,Result.andThen_ok,map_eq_pure_bind]
 match us with
 | []=>rfl
 | [u]=>rfl
 | u::v::us=>simp [oneOrAll]
theorem enter_rel {args : List AV} {vs : List Value} (hl : args.length = vs.length) (h : ∀ j (h : j < args.length) (h' : j < vs.length), RelV c (args[j]) (vs[j])) (m : Nat) (g : List AObj) :
    RelF c (enterSt args g) { tmps:=vs.toArray++Array.replicate m undef,defers:=[] }:=by
  intro t
  have key:∀ (l:List AV) (k t:Nat),lk ((List.range' k l.length).zip l) (k+t)=l[t]? := by
    intro l
    induction l with
    | nil=>intro k t;rfl
    | cons a l ih =>
      intro k t
      simp only [List.length_cons,List.range'_succ,List.zip_cons_cons,lk]
      cases t with
      | zero=>simp
      | succ t =>
        have:(k==k+(t+1))=false:=by simp
        simp only [this,List.getElem?_cons_succ]
        have:=ih (k+1) t
        rw [show k+1+t=k+(t+1) by omega] at this
        exact this
  have e:(enterSt args g).get t=orBot args[t]? := by
    simp only [enterSt,St.get,List.range_eq_range']
    have:=key args 0 t
    rw [Nat.zero_add] at this
    rw [this]
  rw [e]
  by_cases ht:t<args.length
  · have ht':t<vs.length:=by omega
    rw [List.getElem?_eq_getElem ht]
    have:=h t ht ht'
    simpa [orBot,Array.getElem?_append,ht'] using this
  · rw [List.getElem?_eq_none (by omega)]
    exact .bot _
end
end Go.TA
namespace Go.TA
section
variable {P:Program} {Γ : Ground} {C:Calls'} {n N:Nat} {c:Cx} {s:St} {a:Act}
theorem body_good {args:List AV} {vs:List Value} (hl:args.length=vs.length) (h:∀ j (h:j<args.length) (h':j<vs.length),RelV c (args[j]) (vs[j])) (hH:RelH Γ c) (hcl:c.l=[]) (hgo:gOk c.g) {np nt:Nat} (hp:args.length=np) :
  Good Γ c (enterSt args c.g) { tmps:=vs.toArray++Array.replicate (nt - vs.toArray.size) undef,defers:=[] } (max np nt) where
 l:=hcl.symm
 g:=rfl
 H:=hH
 F:=enter_rel hl h _ _
 G:=hgo
 N:=by simp;omega
 D:=rfl
theorem one_rel {vs:List AV} {us:List Value} (hl:vs.length=us.length) (h:∀ j (h:j<vs.length) (h':j<us.length),RelV c (vs[j]) (us[j])):RelV c (oneTup vs) (oneOrAll us):=by
 match vs,us,hl,h with
 | [],[],hl,h=>exact .tuple [] [] rfl (by simp)
 | [v],[u],hl,h=>exact h 0 (by simp) (by simp)
 | v::v'::vs,u::u'::us,hl,h=>exact .tuple _ _ hl h
theorem tupleOf_rel {ps:List PV} {us:List Value} (hl:ps.length=us.length) (h:∀ j (h:j<ps.length) (h':j<us.length),RelP c.w c.N (ps[j]) (us[j])):RelV c (tupleOf ps) (oneOrAll us):=by
 match ps,us,hl,h with
 | [],[],hl,h=>exact .tuple [] [] rfl (by simp)
 | [v],[u],hl,h=>exact .p _ _ (h 0 (by simp) (by simp))
 | v::v'::vs,u::u'::us,hl,h=>exact relP_tuple_rel hl h
theorem one_noLocal {vs:List AV} (h:noLocals vs=true):noLocal (oneTup vs)=true:=by
 match vs,h with
 | [],_=>rfl
 | [v],h=>simpa [noLocals,oneTup] using h
 | v::v'::vs,h=>simpa [noLocal,oneTup] using h
theorem tupleOf_noLocal (ps:List PV):noLocal (tupleOf ps)=true:=by
 match ps with
 | []=>rfl
 | [v]=>rfl
 | v::v'::vs=>simp only [tupleOf,noLocal];exact noLocals_p _
theorem ret_inv {F:LFunc} {x:Option (Ex × St)} {r:AV} {g':List AObj} (h:br C F x=some (r,g')):∃ ex s',x=some (ex,s')∧(ex = .normal∨ex = .ret)∧resultsOf C F s'=some r∧g'=s'.g:=by
 unfold br at h
 obtain ⟨⟨ex,s'⟩,hx,h⟩:=Option.bind_eq_some_iff.1 h
 refine ⟨ex,s',hx, ?_⟩
 cases ex <;> simp only [retK,rr,Option.map_eq_some_iff,reduceCtorEq] at h
 all_goals
  obtain ⟨r',hr,h⟩:=h
  simp only [Prod.mk.injEq] at h
  obtain ⟨rfl,rfl⟩:=h
  simp [hr]
theorem post_ret {fn:Func} {R:Ending→World→Prop} {ex:Ex} (he:ex = .normal∨ex = .ret) {a:Act} {w:World} {v:Value} (hd:a.defers=[]) (hr:(results fn a.tmps).run P w = .ok v w) (hR:R (.returned v) w):bodyPost P fn R (toExit ex) a w:=by
 rcases he with rfl | rfl <;> exact ⟨hd,v,hr,hR⟩
theorem code_sound (hm:P.follows .mixedOrders=true) (hC:SoundC P Γ C) {f:Nat} {F:LFunc} (hF:FnSound P f F) {args:List AV} {g:List AObj} {r:AV} {g':List AObj} (h:runFn C N F args g=some (r,g')) (hno:noLocals args=true) (hgo:gOk g):SoundAt P Γ f args g r g':=by
 obtain ⟨hcal,fn,body,hfn,hbody,hok⟩:=hF
 simp only [fnOk,Bool.and_eq_true] at hok
 obtain ⟨hres,hcode⟩:=hok
 have hCg:∀ f args g r g',C f args g=some (r,g')→noLocals args=true→gOk g→gOk g':=fun f args g r g' h1 h2 h3=>(hC f args g r g' h1 h2 h3).2.1
 unfold runFn at h
 split at h
 rotate_left
 ·cases h
 rename_i hlen
 split at h
 ·rename_i hpure
  split at h
  rotate_left
  ·cases h
  rename_i hargs
  obtain ⟨⟨r1,g1⟩,hbr,h⟩:=Option.map_eq_some_iff.1 h
  simp only [Prod.mk.injEq] at h
  obtain ⟨rfl,rfl⟩:=h
  obtain ⟨ex,s',hex,hee,hr,_⟩:=ret_inv hbr
  unfold resultsOf at hr
  obtain ⟨vs',hvs,hr⟩:=bk_eq hr
  rw [if_pos hpure] at hr
  obtain ⟨ps,hps,hr⟩:=bk_eq hr
  simp only [Option.some.injEq] at hr
  subst hr
  refine ⟨hcal,hgo,tupleOf_noLocal ps,fun c vs hl hg hH hlv hrel => ?_⟩
  let X:Nat→Prop:=fun x=>c.X x∨c.Own x
  have hH0:=relH_alone hH X (fun b hb=>hb)
  have hN0:∀ b,c.N b→¬ X b:=fun b hb h=>h.elim hb.1 hb.2
  have hrel0:∀ j (h:j<args.length) (h':j<vs.length),RelV (c.alone X) (args[j]) (vs[j]):=fun j h h'=>relV_alone hN0 (List.all_eq_true.1 hargs _ (List.getElem_mem h)) (hrel j h h')
  refine calls_of_wp hfn hbody ?_
  have hg0:=body_good (c:=c.alone X) (nt:=fn.ntmps) hlv hrel0 hH0 rfl (fun o h=>by simp [Cx.alone] at h) hlen
  refine wp_of_wpL (aexec_rel hm hC F.body hcode hg0 hex (fun c' a' hg' hE => ?_))
  obtain ⟨us,hrun,hl1,hl2⟩:=results_rel (C:=C) hg' hres hvs
  refine post_ret hee hg'.D hrun ⟨_,rfl, ?_⟩
  obtain ⟨p1,p2⟩:=allM_get hps
  have hbel:Go.RowKit.Below c.w.heap.size c.w c'.w:=⟨hE.os,hE.tape,hE.output,hE.size,fun k hk=>hE.keep k hk (alone_own X k)⟩
  refine ⟨{ c with w:=c'.w },hl,hg,rfl,evolve_below hbel hH.lt,hH.below hbel,tupleOf_rel (by omega) (fun j h1 h2 => ?_)⟩
  have hv:=view_rel hg'.l hg'.g hg'.H 8 (p2 j (by omega) h1) (hl2 j (by omega) h2)
  exact hv.mono fun b hb hlt=>⟨by
   have hx:¬ X b:=by simpa [Cx.NX,hE.X,Cx.alone] using hb
   exact ⟨fun h=>hx (.inl h),fun h=>hx (.inr h)⟩,hlt,rfl⟩
 ·rename_i hpure
  obtain ⟨ex,s',hex,hee,hr,rfl⟩:=ret_inv h
  unfold resultsOf at hr
  obtain ⟨vs',hvs,hr⟩:=bk_eq hr
  rw [if_neg hpure] at hr
  split at hr
  rotate_left
  ·cases hr
  rename_i hnl
  simp only [Option.some.injEq] at hr
  subst hr
  have hgo':gOk s'.g:=aexec_gOk hCg F.body hcode (s:=enterSt args g) hgo hex
  have hnr:=one_noLocal hnl
  refine ⟨hcal,hgo',hnr,fun c vs hl hg hH hlv hrel => ?_⟩
  refine calls_of_wp hfn hbody ?_
  subst hg
  have hg0:=body_good (nt:=fn.ntmps) hlv hrel hH hl hgo hlen
  refine wp_of_wpL (aexec_rel hm hC F.body hcode hg0 hex (fun c' a' hg' hE => ?_))
  obtain ⟨us,hrun,hl1,hl2⟩:=results_rel (C:=C) hg' hres hvs
  refine post_ret hee hg'.D hrun ⟨_,rfl, ?_⟩
  have hs:∀ k o,lk ([]:List (Nat × AObj)) k=some o→lk c'.l k=some o:=fun k o h=>by simp [lk] at h
  refine ⟨c'.drop [],rfl,hg'.g.symm,rfl,(hE.trans evo_drop).evolve hl,relH_drop hg'.H hs (by rw [← hg'.g];exact hgo') (fun e h=>by simp at h), ?_⟩
  exact relV_drop hs (one_rel hl1 hl2) (noLocal_mentions _ hnr)
def fnSoundB (P : Program) (f : Nat) (F : LFunc) : Bool := calleeOk P f && match P.funcs[f]? with
  | some fn => (match fn.body with
    | some b=>fnOk P F fn b
    | none=>false)
  | none=>false
theorem fnSound_of {f:Nat} {F:LFunc} (h:fnSoundB P f F=true):FnSound P f F:=by
 unfold fnSoundB at h
 simp only [Bool.and_eq_true] at h
 refine ⟨h.1, ?_⟩
 have h:=h.2
 split at h
 ·rename_i fn hfn
  split at h
  ·rename_i b hb
   exact ⟨fn,b,hfn,hb,h⟩
  ·cases h
 ·cases h
theorem acall_sound (hm:P.follows .mixedOrders=true) {T:Nat→Option LFn} (hT:TOk P Γ T):∀ n,SoundC P Γ (acall T n)
  | 0=>fun f args g r g' h=>by simp [acall] at h
  | n + 1 => fun f args g r g' h hno hgo => by
    have hC:=acall_sound hm hT n
    have ht:=hT f
    simp only [acall] at h
    cases e:T f with
    | none=>rw [e] at h;simp [acallK] at h
    | some x =>
      rw [e] at h ht
      cases x with
      | code F=>exact code_sound hm hC ht h hno hgo
      | prim p=>exact ht _ hC args g r g' h hno hgo
end
end Go.TA


end
section
/- From what a statement reads to the machine, and back. -/
namespace Go.TA
inductive Sh where
 | bool
 | int (k:IntKind)
 | str
 | sl (e:Nat)
 deriving DecidableEq
def flat? : List (Option (List Sh))→Option (List Sh)
 | []=>some []
 | some a::l=>(flat? l).map (a ++ ·)
 | none::_=>none
def shOf (P : Program) : Nat → TypeId → Option (List Sh)
  | 0,_=>none
  | d + 1, t => match P.underlying t with
    | some .bool=>some [.bool]
    | some (.int k)=>some [.int k]
    | some .string=>some [.str]
    | some (.slice e)=>some [.sl e]
    | some (.struct fs)=>flat? (fs.toList.map fun f=>shOf P d f.type)
    | _=>none
def closedB (P:Program) (D:Nat) (gs:List TypeId):Bool:=gs.all fun t=>t<P.types.size && (shOf P D t).isSome && match P.underlying t with
 | some .bool | some (.int _) | some .string=>true
 | some (.slice e)=>gs.contains e
 | some (.struct fs)=>fs.toList.all fun f=>gs.contains f.type
 | _=>false
mutual
def okV (tb : Nat → Option (List Sh)) : Sh → PV → Prop
  | .bool,.bool _=>True
  | .int k,.int k' n=>k'=k∧(Lit.int k n).wf=true
  | .str,.str _=>True
  | .sl e, .list xs => match tb e with
    | some shs=>okVss tb shs xs
    | none=>False
  | _,_=>False
def okVs (tb:Nat→Option (List Sh)):List Sh→List PV→Prop
 | [],[]=>True
 | s::l,v::r=>okV tb s v∧okVs tb l r
 | _,_=>False
def okVss (tb:Nat→Option (List Sh)) (shs:List Sh):List (List PV)→Prop
 | []=>True
 | x::r=>okVs tb shs x∧okVss tb shs r
end
mutual
def PV.bulk:PV→Nat
 | .str s=>s.length+1
 | .list xs=>bulkLL xs+1
 | .agg cs=>bulkL cs+1
 | _=>1
def bulkL:List PV→Nat
 | []=>0
 | a::l=>PV.bulk a+bulkL l
def bulkLL:List (List PV)→Nat
 | []=>0
 | a::l=>bulkL a+bulkLL l
end
structure Bulk {H:Type} (B:DataW H→Nat) (BA:List (DataW H)→Nat):Prop where
 str:∀ bs,B (.lit (.string bs))=bs.length+1
 lit:∀ l,1≤B (.lit l)
 nil:1≤B .nil
 slice:∀ a b,B (.slice a b)=BA a+BA b+1
 agg:∀ a,B (.agg a)=BA a+1
 nilA:BA []=0
 consA:∀ d r,BA (d::r)=B d+BA r
def RelL (w:World) (N:Nat→Prop):List PV→List Value→Prop
 | [],[]=>True
 | p::l,v::r=>RelP w N p v∧v.oneCell'=true∧RelL w N l r
 | _,_=>False
section
variable {w:World} {N:Nat→Prop}
theorem RelL.len:∀ {l:List PV} {r:List Value},RelL w N l r→l.length=r.length
 | [],[],_=>rfl
 | _::_,_::_,⟨_,_,h⟩=>by simp [RelL.len h]
 | [],_::_,h=>h.elim
 | _::_,[],h=>h.elim
theorem RelL.get:∀ {l:List PV} {r:List Value},RelL w N l r→∀ j (h:j<l.length) (h':j<r.length),RelP w N (l[j]) (r[j])∧(r[j]).oneCell'=true
  | [],[],_,j,h,_=>by simp at h
  | p :: l, v :: r, ⟨a, b, h⟩, j, h1, h2 => by
    cases j with
    | zero=>exact ⟨a,b⟩
    | succ j=>exact RelL.get h j (by simpa using h1) (by simpa using h2)
  | [],_::_,h,_,_,_=>h.elim
  | _::_,[],h,_,_,_=>h.elim
theorem RelL.append:∀ {l l':List PV} {r r':List Value},RelL w N l r→RelL w N l' r'→RelL w N (l++l') (r++r')
 | [],_,[],_,_,h'=>h'
 | p::l,_,v::r,_,⟨a,b,h⟩,h'=>⟨a,b,RelL.append h h'⟩
 | [],_,_::_,_,h,_=>h.elim
 | _::_,_,[],_,h,_=>h.elim
theorem RelL.agg {l:List PV} {r:List Value} (h:RelL w N l r):RelP w N (.agg l) (.agg r.toArray):=by
 refine .agg l r h.len (fun v hv => ?_) (fun j h1 h2=>(h.get j h1 h2).1)
 obtain ⟨j,hj,rfl⟩:=List.getElem_of_mem hv
 exact (h.get j (by rw [h.len];exact hj) hj).2
end
theorem okVs_append {tb:Nat→Option (List Sh)}:∀ {a b:List Sh} {x y:List PV},okVs tb a x→okVs tb b y→okVs tb (a++b) (x++y)
 | [],_,[],_,_,h=>h
 | s::a,_,v::x,_,h,h'=>by simp only [okVs] at h;exact ⟨h.1,okVs_append h.2 h'⟩
 | [],_,_::_,_,h,_=>by simp [okVs] at h
 | _::_,_,[],_,h,_=>by simp [okVs] at h
theorem bulkL_append:∀ (a b:List PV),bulkL (a++b)=bulkL a+bulkL b
 | [],b=>by simp [bulkL]
 | x::a,b=>by simp only [List.cons_append,bulkL,bulkL_append a b];omega
theorem okVss_of {tb:Nat→Option (List Sh)} {shs:List Sh}:∀ {xs:List (List PV)},(∀ i (h:i<xs.length),okVs tb shs (xs[i]))→okVss tb shs xs
 | [],_=>trivial
 | x::r,h=>⟨h 0 (by simp),okVss_of (fun i hi=>h (i+1) (by simpa using hi))⟩
theorem exists_list {α : Type} {p:Nat → α → Prop}:∀ {n:Nat},(∀ i,i<n→∃ x,p i x)→∃ l:List α,l.length=n∧∀ i (h:i<l.length),p i (l[i])
  | 0,_=>⟨[],rfl,by simp⟩
  | n + 1, h => by
    obtain ⟨l,h1,h2⟩:=exists_list (n:=n) (fun i hi=>h i (by omega))
    obtain ⟨x,hx⟩:=h n (by omega)
    refine ⟨l++[x],by simp [h1],fun i hi => ?_⟩
    by_cases e:i<l.length
    · rw [List.getElem_append_left e];exact h2 i e
    · have:i=n:=by simp at hi;omega
      subst this
      rw [List.getElem_append_right (by omega)]
      simpa using hx
section
variable {H:Type} {enc:TypeId × Value→H} {P:Program} {W:World} {base:Nat} {spare:Nat→Bool} {held:Bool} {B:DataW H→Nat} {BA:List (DataW H)→Nat} {D0:Nat} {gs:List TypeId}
abbrev Any:Nat→Prop:=fun _=>True
theorem closed_in (h:closedB P D0 gs=true) {t:TypeId} (ht:t ∈ gs):t<P.types.size∧(shOf P D0 t).isSome=true∧(match P.underlying t with
 | some .bool | some (.int _) | some .string=>true
 | some (.slice e)=>gs.contains e
 | some (.struct fs)=>fs.toList.all fun f=>gs.contains f.type
 | _=>false)=true:=by
 simp only [closedB,List.all_eq_true,Bool.and_eq_true,decide_eq_true_eq] at h
 exact ⟨(h t ht).1.1,(h t ht).1.2,(h t ht).2⟩
def Told (P:Program) (W:World) (D0:Nat) (B:DataW H→Nat) (shs:List Sh) (cs:List Value) (d:DataW H):Prop:=∃ pvs,okVs (shOf P D0) shs pvs∧RelL W Any pvs cs∧bulkL pvs≤B d
theorem told_fields (hb : Bulk B BA) : ∀ (fs : List Field) (o : Nat) (cs : List Value) (oshs : List (Option (List Sh))) (ds : List (DataW H)) {shs : List Sh}, flat? oshs = some shs → oshs.length = fs.length → ds.length = fs.length →
    (∀ (j:Nat) (f:Field),fs[j]? = some f→f.offset=o+((fs.take j).map fun f=>P.cellsOf f.type).sum)→cs.length=o+(fs.map fun f=>P.cellsOf f.type).sum →
    (∀ (j:Nat) (f:Field) (s:List Sh) (d:DataW H),fs[j]? = some f→oshs[j]? = some (some s)→ds[j]? = some d→Told P W D0 B s ((cs.drop f.offset).take (P.cellsOf f.type)) d) →
    ∃ pvs,okVs (shOf P D0) shs pvs∧RelL W Any pvs (cs.drop o)∧bulkL pvs≤BA ds
  | [], o, cs, oshs, ds, shs, hf, hl1, hl2, hoff, hlen, hall => by
    have:oshs=[]:=List.eq_nil_of_length_eq_zero hl1
    subst this
    have:ds=[]:=List.eq_nil_of_length_eq_zero hl2
    subst this
    simp only [flat?,Option.some.injEq] at hf
    subst hf
    refine ⟨[],trivial, ?_,by simp [bulkL]⟩
    have:cs.drop o=[]:=List.drop_eq_nil_of_le (by simp at hlen;omega)
    rw [this];trivial
  | f :: fs, o, cs, oshs, ds, shs, hf, hl1, hl2, hoff, hlen, hall => by
    match oshs,ds,hl1,hl2 with
    | [],_,h,_=>simp at h
    | _::_,[],_,h=>simp at h
    | none::_,_::_,_,_=>simp [flat?] at hf
    | some s :: oshs, d :: ds, hl1, hl2 =>
      simp only [flat?,Option.map_eq_some_iff] at hf
      obtain ⟨shs',hf,rfl⟩:=hf
      have h0:f.offset=o:=by simpa using hoff 0 f rfl
      obtain ⟨p,p1,p2,p3⟩:=hall 0 f s d rfl rfl rfl
      rw [h0] at p2
      simp only [List.map_cons,List.sum_cons] at hlen
      obtain ⟨q,q1,q2,q3⟩:=told_fields hb fs (o+P.cellsOf f.type) cs oshs ds hf (by simpa using hl1) (by simpa using hl2) (fun j g hg=>by
        have:=hoff (j+1) g (by simpa using hg)
        simp only [List.take_succ_cons,List.map_cons,List.sum_cons] at this
        omega) (by omega) (fun j g s' d' hg hs hd=>hall (j+1) g s' d' (by simpa using hg) (by simpa using hs) (by simpa using hd))
      refine ⟨p++q,okVs_append p1 q1, ?_,by rw [bulkL_append,hb.consA];omega⟩
      have:=p2.append q2
      have e:(cs.drop o).take (P.cellsOf f.type)++cs.drop (o+P.cellsOf f.type)=cs.drop o:=by
        rw [← List.drop_drop];exact List.take_append_drop _ _
      rw [e] at this
      exact this
theorem cells_get {a:Addr} {n:Nat} {cs:List Value} (h:W.cells? base a n=some cs):cs.length=n∧∀ i (hi:i<cs.length),W.cell? (a.add i)=some (cs[i]):=by
 unfold World.cells? at h
 split at h
 ·have hl:cs.length=n:=by simpa using mapM_some_length h
  refine ⟨hl,fun i hi => ?_⟩
  have hi':i<n:=by omega
  have:=mapM_some_get h i i (by simp [hi'])
  rw [this,List.getElem?_eq_getElem hi]
 ·cases h
theorem spot_none {a:Addr} {v:Value} (h:W.cell? a=some v):a.spot=none:=by
 unfold World.cell? at h
 split at h
 ·split at h
  ·cases h
  ·rename_i hs;cases e:a.spot with
   | none=>rfl
   | some s=>rw [e] at hs;simp at hs
 ·cases h
theorem bulk_elems (hb:Bulk B BA):∀ (ds:List (DataW H)) (xs:List (List PV)),xs.length=ds.length→(∀ i (h:i<xs.length) (h':i<ds.length),bulkL (xs[i])≤B (ds[i]))→bulkLL xs≤BA ds
  | [],[],_,_=>by simp [bulkLL]
  | [],_::_,h,_=>by simp at h
  | _::_,[],h,_=>by simp at h
  | d :: ds, x :: xs, hl, h => by
    have h0:=h 0 (by simp) (by simp)
    have ih:=bulk_elems hb ds xs (by simpa using hl) (fun i h1 h2=>h (i+1) (by simpa using h1) (by simpa using h2))
    simp only [bulkLL,hb.consA]
    simp only [List.getElem_cons_zero] at h0
    omega
theorem trod_told (K : Kids P (· < P.types.size)) (hz : ∀ t e, t < P.types.size → P.underlying t = some (.slice e) → 0 < P.cellsOf e) (hb : Bulk B BA) (hc : closedB P D0 gs = true) :
    ∀ (n:Nat) (t:TypeId) (cs:List Value) (x:DataW H × List MemPlace) (D:Nat) (shs:List Sh),t ∈ gs→DataW.trod enc P W base spare held n t cs=some x→shOf P D t=some shs→Told P W D0 B shs cs x.1
  | 0,t,cs,x,D,shs,_,h,_=>by simp [DataW.trod] at h
  | n+1,t,cs,x,0,shs,_,_,h=>by simp [shOf] at h
  | n + 1, t, cs, x, D + 1, shs, hg, h, hs => by
    obtain ⟨hlt,_,hkind⟩:=closed_in hc hg
    simp only [shOf] at hs
    split at hs
    · rename_i hu
      simp only [Option.some.injEq] at hs
      subst hs
      obtain ⟨b,rfl,rfl⟩:=DataW.trod_bool hu h
      exact ⟨[.bool b],⟨trivial,trivial⟩,⟨.bool b,rfl,trivial⟩,hb.lit _⟩
    · rename_i k hu
      simp only [Option.some.injEq] at hs
      subst hs
      obtain ⟨m,rfl,rfl,hw⟩:=DataW.trod_int hu h
      exact ⟨[.int k m],⟨⟨rfl,hw⟩,trivial⟩,⟨.int k m,rfl,trivial⟩,hb.lit _⟩
    · rename_i hu
      simp only [Option.some.injEq] at hs
      subst hs
      obtain ⟨s,rfl,rfl,hw⟩:=DataW.trod_string hu h
      exact ⟨[.str s.data.toList],⟨trivial,trivial⟩,⟨.str s.data.toList,rfl,trivial⟩,by simp [bulkL,PV.bulk,hb.str]⟩
    · rename_i e hu
      simp only [Option.some.injEq] at hs
      subst hs
      rw [hu] at hkind
      have he:e ∈ gs:=by simpa using hkind
      obtain ⟨helt,hes,_⟩:=closed_in hc he
      obtain ⟨es,hes⟩:=Option.isSome_iff_exists.1 hes
      rcases DataW.trod_slice hu h with ⟨rfl,rfl⟩ | ⟨a,len,cap,elems,rest,m,hm,rfl,rfl,hba,hlc,hcap,hel,hget,_⟩
      · refine ⟨[.list []],⟨?_,trivial⟩,⟨.none none 0 (by simp [maxLen]),rfl,trivial⟩, ?_⟩
        · simp only [okV,hes];trivial
        · have:=hb.nil;simpa [bulkL,PV.bulk,bulkLL] using this
      · obtain rfl:n=m:=by omega
        have each:∀ i,i<len→∃ q:List PV × List Value,okVs (shOf P D0) es q.1∧RelL W Any q.1 q.2∧W.cells? base (a.add (i*P.cellsOf e)) (P.cellsOf e)=some q.2∧∀ y,elems[i]? = some y→bulkL q.1≤B y.1:=by
          intro i hi
          have hi':i<elems.length:=by omega
          have hgi:=hget i hi
          rw [List.getElem?_eq_getElem hi'] at hgi
          obtain ⟨ci,hci,hti⟩:=Option.bind_eq_some_iff.1 hgi
          obtain ⟨p,p1,p2,p3⟩:=trod_told K hz hb hc n e ci _ D0 es he hti hes
          refine ⟨(p,ci),p1,p2,hci,fun y hy => ?_⟩
          rw [List.getElem?_eq_getElem hi'] at hy
          simp only [Option.some.injEq] at hy
          rw [← hy];exact p3
        obtain ⟨qs,hql,hqs⟩:=exists_list each
        have hcz:0<P.cellsOf e:=hz t e hlt hu
        refine ⟨[.list (qs.map (·.1))],⟨?_,trivial⟩,⟨?_,rfl,trivial⟩, ?_⟩
        · simp only [okV,hes]
          refine okVss_of (fun i hi => ?_)
          simp only [List.getElem_map]
          exact (hqs i (by simpa using hi)).1
        · rcases Nat.eq_zero_or_pos len with h0 | h0
          · have:qs=[]:=List.eq_nil_of_length_eq_zero (by omega)
            subst this
            subst h0
            exact .none (some a) cap hcap
          · -- its block
            have hspot:a.spot=none:=by
              obtain ⟨_,_,hc0,_⟩:=hqs 0 (by omega)
              obtain ⟨g1,g2⟩:=cells_get hc0
              have:=g2 0 (by omega)
              simp only [Nat.zero_mul,Addr.add,if_true] at this
              exact spot_none this
            obtain ⟨b,off,sp⟩:=a
            simp only at hspot
            subst hspot
            have hcell:∀ i j,(hi:i<qs.length)→(hj:j<P.cellsOf e)→∃ v,((qs[i]).2)[j]? = some v∧v.oneCell'=true∧W.cell? ⟨b,off+(i*P.cellsOf e+j),none⟩=some v:=by
              intro i j hi hj
              obtain ⟨_,h2,h3,_⟩:=hqs i hi
              obtain ⟨g1,g2⟩:=cells_get h3
              have hj':j<((qs[i]).2).length:=by omega
              refine ⟨((qs[i]).2)[j],List.getElem?_eq_getElem hj',(h2.get j (by rw [h2.len];exact hj') hj').2, ?_⟩
              have:=g2 j hj'
              rw [add_at,add_at] at this
              rw [← this,Nat.add_assoc]
            have e0:len=(qs.map (·.1)).length:=by simp [hql]
            rw [e0]
            have hbs:b<W.heap.size:=by
              obtain ⟨v,_,_,hv⟩:=hcell 0 0 (by omega) hcz
              unfold World.cell? at hv
              split at hv
              · rename_i hb';exact (Array.getElem?_eq_some_iff.1 hb').1
              · cases hv
            refine .list _ b off cap (P.cellsOf e) (fun i j=>match qs[i]? with | some q=>(match q.2[j]? with | some v=>if v.oneCell'=true then v else .bool true | none => .bool true) | none => .bool true) trivial hbs (by simp;omega) hcap (fun i hi => ?_) (fun i j hi hj => ?_) (fun i j => ?_) (fun i j hi hj => ?_)
            · simp only [List.getElem_map]
              have hi':i<qs.length:=by simpa using hi
              obtain ⟨_,h2,h3,_⟩:=hqs i hi'
              rw [h2.len,(cells_get h3).1]
            · have hi':i<qs.length:=by simpa using hi
              obtain ⟨v,v1,v2,v3⟩:=hcell i j hi' hj
              simp only [List.getElem?_eq_getElem hi',v1,v2,if_true]
              exact v3
            · split
              · split
                · split
                  · assumption
                  · rfl
                · rfl
              · rfl
            · have hi':i<qs.length:=by simpa using hi
              simp only [List.getElem_map] at hj ⊢
              obtain ⟨_,h2,h3,_⟩:=hqs i hi'
              have hj':j<((qs[i]).2).length:=by rw [← h2.len];exact hj
              have hr:=h2.get j hj hj'
              simp only [List.getElem?_eq_getElem hi',List.getElem?_eq_getElem hj',hr.2,if_true]
              exact hr.1
        · simp only [bulkL,PV.bulk,hb.slice]
          have:=bulk_elems hb (elems.map (·.1)) (qs.map (·.1)) (by simp;omega) (fun i h1 h2=>by
            simp only [List.getElem_map]
            have h2':i<elems.length:=by simpa using h2
            exact (hqs i (by simpa using h1)).2.2.2 _ (List.getElem?_eq_getElem h2'))
          omega
    · rename_i fs hu
      rw [hu] at hkind
      simp only [List.all_eq_true] at hkind
      obtain ⟨xs,m,hm,rfl,hlen,hxl,hget⟩:=DataW.trod_struct hu h
      obtain rfl:n=m:=by omega
      obtain ⟨k1,k2,k3⟩:=K.struct hlt hu
      have:=told_fields (P:=P) (W:=W) (D0:=D0) hb fs.toList 0 cs (fs.toList.map fun f=>shOf P D f.type) (xs.map (·.1)) hs (by simp) (by simp [hxl]) (fun j f hf=>by
        have:=k3 j f hf
        omega) (by rw [hlen,k2];omega) (fun j f s d hf hsj hd=>by
          have hfa:fs[j]? = some f:=by simpa using hf
          have hgj:=hget j f hfa
          have hjx:j<xs.length:=by
            have:=(Array.getElem?_eq_some_iff.1 hfa).1
            omega
          rw [List.getElem?_eq_getElem hjx] at hgj
          rw [List.getElem?_map,List.getElem?_eq_getElem hjx] at hd
          simp only [Option.map_some,Option.some.injEq] at hd
          subst hd
          rw [List.getElem?_map,hf] at hsj
          simp only [Option.map_some,Option.some.injEq] at hsj
          exact trod_told K hz hb hc n f.type _ _ D s (by simpa using hkind f (List.mem_of_getElem? hf)) hgj hsj)
      obtain ⟨p,p1,p2,p3⟩:=this
      refine ⟨p,p1,by simpa using p2, ?_⟩
      simp only [hb.agg]
      omega
    · cases hs
end
end Go.TA
namespace Go.TA
def aggT (P:Program) (t:TypeId):Bool:=match P.underlying t with
 | some (.struct _)=>true
 | _=>false
def argOf (agg:Bool) (pvs:List PV):PV:=if agg then .agg pvs else pvs.getD 0 .nilp
def okArgs (P:Program) (D0:Nat):List TypeId→List (List PV)→Prop
 | [],[]=>True
 | t::ts,p::ps=>(∃ shs,shOf P D0 t=some shs∧okVs (shOf P D0) shs p)∧okArgs P D0 ts ps
 | _,_=>False
def argsOf (P:Program):List TypeId→List (List PV)→List PV
 | t::ts,p::ps=>argOf (aggT P t) p::argsOf P ts ps
 | _,_=>[]
section
variable {H:Type} {enc:TypeId × Value→H} {P:Program} {W W':World} {base:Nat} {spare:Nat→Bool} {held:Bool} {B:DataW H→Nat} {BA:List (DataW H)→Nat} {D0:Nat} {gs:List TypeId}
theorem sh_one {t:TypeId} {D:Nat} {shs:List Sh} (h:shOf P D t=some shs) (ha:aggT P t=false):shs.length=1:=by
  cases D with
  | zero=>simp [shOf] at h
  | succ D =>
    simp only [shOf] at h
    split at h
    all_goals first | (simp only [Option.some.injEq] at h;subst h;rfl) | (simp [aggT, *] at ha;done) | cases h
theorem cells_one (hc:closedB P D0 gs=true) {t:TypeId} (ht:t ∈ gs) (ha:aggT P t=false) {v:Value} {r:Reach} {b:Nat} (hv:Value.okWide P W r b t v):v.cells.toList=[v]:=by
 obtain ⟨_,_,hk⟩:=closed_in hc ht
 cases v <;> try rfl
 rename_i cs
 unfold aggT at ha
 split at ha
 ·cases ha
 split at hk <;> rename_i hu <;> simp_all [Value.okWide,Cell.okWide,Cell.ok]
theorem agg_form {t:TypeId} (ha:aggT P t=true) {v:Value} {r:Reach} {b:Nat} (hv:Value.okWide P W r b t v):∃ cs:List Value,v = .agg cs.toArray∧v.cells.toList=cs:=by
 unfold aggT at ha
 split at ha
 ·rename_i fs hu
  simp only [Value.okWide,hu] at hv
  obtain ⟨cs,rfl,_⟩:=hv
  exact ⟨cs.toList,by simp,rfl⟩
 ·cases ha
theorem args_rel (K : Kids P (· < P.types.size)) (hz : ∀ t e, t < P.types.size → P.underlying t = some (.slice e) → 0 < P.cellsOf e) (hb : Bulk B BA) (hc : closedB P D0 gs = true) :
    ∀ {ts:List TypeId} {vs:List Value} {ds:List (DataW H)} {ps:List MemPlace},DataW.TrodAll enc P W base spare held ts vs ds ps→(∀ t ∈ ts,t ∈ gs)→(∀ (j:Nat) t v,ts[j]? = some t→vs[j]? = some v→∃ r b,Value.okWide P W r b t v) →
    ∃ pss,okArgs P D0 ts pss∧bulkLL pss≤BA ds∧(argsOf P ts pss).length=vs.length∧∀ j (h:j<(argsOf P ts pss).length) (h':j<vs.length),RelP W Any ((argsOf P ts pss)[j]) (vs[j])
  | [],[],[],_,_,_,_=>⟨[],trivial,by simp [bulkLL],rfl,by simp [argsOf]⟩
  | t :: ts, v :: vs, d :: ds, _, ⟨p, q, ⟨n, hn⟩, h2, _⟩, hg, hw => by
    obtain ⟨pss,q1,q2,q3,q4⟩:=args_rel K hz hb hc h2 (fun t ht=>hg t (by simp [ht])) (fun j t v h1 h2=>hw (j+1) t v (by simpa using h1) (by simpa using h2))
    have ht:=hg t (by simp)
    obtain ⟨_,hs,_⟩:=closed_in hc ht
    obtain ⟨shs,hs⟩:=Option.isSome_iff_exists.1 hs
    obtain ⟨pvs,p1,p2,p3⟩:=trod_told K hz hb hc n t _ _ D0 shs ht hn hs
    obtain ⟨r,b,hov⟩:=hw 0 t v rfl rfl
    refine ⟨pvs::pss,⟨⟨shs,hs,p1⟩,q1⟩,by simp only [bulkLL,hb.consA];simp only at p3;omega,by simp [argsOf,q3],fun j h h' => ?_⟩
    cases j with
    | succ j=>exact q4 j (by simpa [argsOf] using h) (by simpa using h')
    | zero =>
      simp only [argsOf,List.getElem_cons_zero]
      cases ha:aggT P t with
      | true =>
        obtain ⟨cs,rfl,hcs⟩:=agg_form ha hov
        rw [hcs] at p2
        simpa [argOf] using p2.agg
      | false =>
        have hl:=sh_one hs ha
        rw [cells_one hc ht ha hov] at p2
        have:=p2.get 0 (by rw [p2.len];simp) (by simp)
        simp only [List.getElem_cons_zero] at this
        have hp:0<pvs.length:=by rw [p2.len];simp
        simp only [argOf,Bool.false_eq_true,if_false,getD_lt PV.nilp hp]
        exact this.1
theorem carry_all:∀ {ts:List TypeId} {vs:List Value} {ds:List (DataW H)} {ps:List MemPlace},DataW.TrodAll enc P W base spare held ts vs ds ps→(∀ p ∈ ps,W.sameAt W' p)→DataW.TrodAll enc P W' base spare held ts vs ds ps
 | [],[],[],_,h,_=>h
 | _::_,_::_,_::_,_,⟨p,q,⟨n,hn⟩,h2,e⟩,hs=>⟨p,q,⟨n,DataW.trod_carry n _ _ _ hn (fun x hx=>hs x (by rw [e];exact List.mem_append_left _ hx))⟩,carry_all h2 (fun x hx=>hs x (by rw [e];exact List.mem_append_right _ hx)),e⟩
theorem trod_len:∀ {ts:List TypeId} {vs:List Value} {ds:List (DataW H)} {ps:List MemPlace},DataW.TrodAll enc P W base spare held ts vs ds ps→ds.length=ts.length
 | [],[],[],_,_=>rfl
 | _::_,_::_,_::_,_,⟨_,_,_,h,_⟩=>by simp [trod_len h]
theorem same_below (h:Go.RowKit.Below W.heap.size W W') {p:MemPlace} (hp:p.block<W.heap.size):W.sameAt W' p:=by
 cases p with
 | cell b off=>exact World.cell?_of_block (a:=⟨b,off,none⟩) (h.block b hp)
 | map b=>exact h.block b hp
theorem law_post (K:Kids P (· < P.types.size)) (hz:∀ t e,t<P.types.size→P.underlying t=some (.slice e)→0<P.cellsOf e) {f:Func} {s:ChangeSpec} {apart fresh handsOn:Bool} {args:Array Value} {ds gs:List (DataW H)} {before:List MemPlace}
  (hW:DataW.Whole enc P f.params.toList s.vars apart W args.toList ds gs before) (hv:s.vars=[]) {tb:TypeId} (hr:f.resultTypes = #[tb]) (hu:P.underlying tb=some .bool) (hp:∀ t ∈ f.params.toList,t<P.types.size)
  (hspec:s.fn H ds = { results:=[.lit (.bool true)],args:=ds }) (hB:Go.RowKit.Below W.heap.size W W'):s.post enc P f apart fresh handsOn false W args (.bool true) W':=by
 have hW':=hW
 obtain ⟨p,q,h1,h2,rfl,h4,h5⟩:=hW
 rw [hv] at h2
 obtain ⟨rfl,rfl⟩:=Go.ChangeShapes.trodVars_none h2
 have hlt:=h1.lt
 have hold:∀ x ∈ p,(fun b=>decide (b<W.heap.size)) x.block=true:=fun x hx=>by simpa using hlt x hx
 refine ⟨ds,[],p++[],[],p,[],hW', ?_, ?_, ?_,hB.frame _,fun h=>by cases h⟩
 ·rw [hr,List.append_nil,hspec]
  exact ⟨[],[],⟨1,by simp [DataW.trod,hu,Value.cells]⟩,rfl,rfl⟩
 ·rw [List.append_nil,hspec]
  exact (carry_all h1 (fun x hx=>same_below hB (hlt x hx))).respare K hz hp hold
 ·rw [hv,List.append_nil,hspec]
  exact rfl
def Γ0:Ground:=⟨0,fun _=>True,fun _ _=>Nat.zero_le _,fun _ _ _ _ _=>trivial⟩
def Cx.zero (W:World):Cx:=⟨fun _=>False,fun _ _=>none,[],[],W⟩
theorem relH_zero {Γ : Ground} (W:World) (hW : Γ.holds W):RelH Γ (Cx.zero W) where
 ground:=hW
 objs z k ob hob:=by cases z <;> simp [Cx.obj,Cx.zero,lk] at hob
 inj z k z' k' b h:=by simp [Cx.zero] at h
 live z k b h:=by simp [Cx.zero] at h
 xlt b hb:=hb.elim
theorem law_calls_at {Γ : Ground} (hW : Γ.holds W) (hm:P.follows .mixedOrders=true) {T:Nat→Option LFn} (hT:TOk P Γ T) {n f:Nat} {ps:List PV} {g':List AObj} (h:acall T n f (ps.map .p) []=some (.p (.bool true),g')) {args:Array Value}
  (hl:ps.length=args.size) (hr:∀ j (h:j<ps.length) (h':j<args.toList.length),RelP W Any (ps[j]) (args.toList[j])):Calls P f args W fun e W'=>e = .returned (.bool true)∧Go.RowKit.Below W.heap.size W W':=by
 obtain ⟨_,_,_,h4⟩:=acall_sound hm hT n f _ [] _ _ h (noLocals_p ps) (fun o h=>by simp at h)
 have hN:∀ b,(Cx.zero W).N b:=fun b=>⟨fun h=>h,fun ⟨z,k,h⟩=>by simp [Cx.zero] at h⟩
 have:=h4 (Cx.zero W) args.toList rfl rfl (relH_zero W hW) (by simpa using hl) (fun j h h'=>by
  simp only [List.getElem_map]
  exact .p _ _ ((hr j (by simpa using h) h').mono fun b _ hb=>⟨hN b,hb,rfl⟩))
 rw [Array.toArray_toList] at this
 refine Calls.mono this (fun e w' he => ?_)
 obtain ⟨v,rfl,c',_,_,rfl,hE,_,hv⟩:=he
 exact ⟨by rw [relV_bool hv],hE.os,hE.tape,hE.output,hE.size,fun k hk=>hE.keep k hk (fun ⟨z,k,h⟩=>by simp [Cx.zero] at h)⟩
end
def RowOk (P:Program) (Γ : Ground) (e:Nat × LFn):Prop:=match e.2 with
 | .code F=>FnSound P e.1 F
 | .prim p=>PrimOk P Γ e.1 p
theorem tOk_of {P:Program} {Γ : Ground} {tab:List (Nat × LFn)} (h:∀ e ∈ tab,RowOk P Γ e):TOk P Γ (fun k=>lk tab k):=fun f=>by
  change match lk tab f with
    | some (.code F)=>FnSound P f F
    | some (.prim p)=>PrimOk P Γ f p
    | none=>True
  cases e:lk tab f with
  | none=>trivial
  | some x =>
    have:=h (f,x) (lk_mem e)
    cases x <;> exact this
end Go.TA


end
section
/- Values of the machine, read as data. -/
namespace Go.TA
section
variable {tb:Nat→Option (List Sh)}
theorem dec_str {l:List Sh} {ps:List PV} (h:okVs tb (.str::l) ps):∃ s r,ps = .str s::r∧okVs tb l r:=by
  cases ps with
  | nil=>simp [okVs] at h
  | cons p r =>
    simp only [okVs] at h
    cases p <;> simp [okV] at h
    exact ⟨_,r,rfl,h⟩
theorem dec_int {k:IntKind} {l:List Sh} {ps:List PV} (h:okVs tb (.int k::l) ps):∃ n r,ps = .int k n::r∧(Lit.int k n).wf=true∧okVs tb l r:=by
  cases ps with
  | nil=>simp [okVs] at h
  | cons p r =>
    simp only [okVs] at h
    cases p <;> simp [okV] at h
    obtain ⟨⟨rfl,hw⟩,hr⟩:=h
    exact ⟨_,r,rfl,hw,hr⟩
theorem dec_list {e:Nat} {l:List Sh} {ps:List PV} {es:List Sh} (ht:tb e=some es) (h:okVs tb (.sl e::l) ps):∃ xs r,ps = .list xs::r∧okVss tb es xs∧okVs tb l r:=by
  cases ps with
  | nil=>simp [okVs] at h
  | cons p r =>
    simp only [okVs] at h
    cases p <;> simp [okV,ht] at h
    exact ⟨_,r,rfl,h.1,h.2⟩
theorem dec_nil {ps:List PV} (h:okVs tb [] ps):ps=[]:=by
 cases ps with
 | nil=>rfl
 | cons p r=>simp [okVs] at h
def i64ok (n:Int):Prop := -9223372036854775808≤n∧n≤9223372036854775807
theorem wf_i64 {n:Int} (h:(Lit.int .i64 n).wf=true):i64ok n:=by
 simpa [Lit.wf,IntKind.min,IntKind.max,IntKind.signed,IntKind.bits,i64ok] using h
theorem dec_attrs:∀ {xs:List (List PV)},okVss tb [.str,.str] xs→∃ l:List Attr,xs=l.map Attr.pv
  | [],_=>⟨[],rfl⟩
  | x :: xs, h => by
    simp only [okVss] at h
    obtain ⟨l,rfl⟩:=dec_attrs h.2
    obtain ⟨a,r1,rfl,h1⟩:=dec_str h.1
    obtain ⟨b,r2,rfl,h2⟩:=dec_str h1
    obtain rfl:=dec_nil h2
    exact ⟨⟨a,b⟩::l,rfl⟩
def opSh (a:Nat):List Sh:=[.int .i64,.int .i64,.int .i64,.int .i64,.str,.str,.str,.str,.sl a]
def GOp.ok (x:GOp):Prop:=i64ok x.kind∧i64ok x.node∧i64ok x.up∧i64ok x.before
theorem dec_op {a:Nat} (ha:tb a=some [.str,.str]) {ps:List PV} (h:okVs tb (opSh a) ps):∃ x:GOp,ps=x.pv∧x.ok:=by
 unfold opSh at h
 obtain ⟨k,r1,rfl,w1,h1⟩:=dec_int h
 obtain ⟨n,r2,rfl,w2,h2⟩:=dec_int h1
 obtain ⟨u,r3,rfl,w3,h3⟩:=dec_int h2
 obtain ⟨b,r4,rfl,w4,h4⟩:=dec_int h3
 obtain ⟨s1,r5,rfl,h5⟩:=dec_str h4
 obtain ⟨s2,r6,rfl,h6⟩:=dec_str h5
 obtain ⟨s3,r7,rfl,h7⟩:=dec_str h6
 obtain ⟨s4,r8,rfl,h8⟩:=dec_str h7
 obtain ⟨xs,r9,rfl,hx,h9⟩:=dec_list ha h8
 obtain rfl:=dec_nil h9
 obtain ⟨l,rfl⟩:=dec_attrs hx
 exact ⟨⟨k,n,u,b,s1,s2,s3,s4,l⟩,rfl,wf_i64 w1,wf_i64 w2,wf_i64 w3,wf_i64 w4⟩
theorem dec_ops {a:Nat} (ha:tb a=some [.str,.str]):∀ {xs:List (List PV)},okVss tb (opSh a) xs→∃ l:List GOp,xs=l.map GOp.pv∧∀ x ∈ l,x.ok
  | [],_=>⟨[],rfl,by simp⟩
  | x :: xs, h => by
    simp only [okVss] at h
    obtain ⟨l,rfl,hl⟩:=dec_ops ha h.2
    obtain ⟨y,rfl,hy⟩:=dec_op ha h.1
    exact ⟨y::l,rfl,by simpa using ⟨hy,hl⟩⟩
theorem bulk_attrs:∀ (l:List Attr),(∀ a ∈ l,a.value.length+a.name.length+2≤bulkLL (l.map Attr.pv))∧l.length≤bulkLL (l.map Attr.pv)
  | []=>by simp [bulkLL]
  | a :: l => by
    obtain ⟨h1,h2⟩:=bulk_attrs l
    simp only [List.map_cons,bulkLL,Attr.pv,bulkL,PV.bulk,List.length_cons]
    refine ⟨fun b hb => ?_,by omega⟩
    rcases List.mem_cons.1 hb with rfl | hb
    · omega
    · have:=h1 b hb;omega
theorem bulk_op (x:GOp):bulkL x.pv=8+x.tag.length+x.key.length+x.name.length+x.text.length+bulkLL (x.attrs.map Attr.pv)+1:=by
 simp only [GOp.pv,attrsPV,bulkL,PV.bulk];omega
end
end Go.TA


end
section
/- Rows, as Lean has them. -/
namespace Go.TA
structure GRow where
 id:Int
 up:Int
 tag:Bs
 key:Bs
 text:Bs
 attrs:List Attr
 deriving DecidableEq
def GRow.pv (x:GRow):List PV:=[.int .i64 x.id,.int .i64 x.up,.str x.tag,.str x.key,.str x.text,attrsPV x.attrs]
def rowSh (a:Nat):List Sh:=[.int .i64,.int .i64,.str,.str,.str,.sl a]
def GRow.ok (x:GRow):Prop:=i64ok x.id∧i64ok x.up
section
variable {tb:Nat→Option (List Sh)}
theorem dec_row {a:Nat} (ha:tb a=some [.str,.str]) {ps:List PV} (h:okVs tb (rowSh a) ps):∃ x:GRow,ps=x.pv∧x.ok:=by
 unfold rowSh at h
 obtain ⟨k,r1,rfl,w1,h1⟩:=dec_int h
 obtain ⟨n,r2,rfl,w2,h2⟩:=dec_int h1
 obtain ⟨s1,r5,rfl,h5⟩:=dec_str h2
 obtain ⟨s2,r6,rfl,h6⟩:=dec_str h5
 obtain ⟨s3,r7,rfl,h7⟩:=dec_str h6
 obtain ⟨xs,r9,rfl,hx,h9⟩:=dec_list ha h7
 obtain rfl:=dec_nil h9
 obtain ⟨l,rfl⟩:=dec_attrs hx
 exact ⟨⟨k,n,s1,s2,s3,l⟩,rfl,wf_i64 w1,wf_i64 w2⟩
theorem dec_rows {a:Nat} (ha:tb a=some [.str,.str]):∀ {xs:List (List PV)},okVss tb (rowSh a) xs→∃ l:List GRow,xs=l.map GRow.pv∧∀ x ∈ l,x.ok
  | [],_=>⟨[],rfl,by simp⟩
  | x :: xs, h => by
    simp only [okVss] at h
    obtain ⟨l,rfl,hl⟩:=dec_rows ha h.2
    obtain ⟨y,rfl,hy⟩:=dec_row ha h.1
    exact ⟨y::l,rfl,by simpa using ⟨hy,hl⟩⟩
end
def smallAttrs (l:List Attr):Prop:=∀ a ∈ l,a.value.length+a.name.length≤1048576
structure GRow.small (n:Nat) (x:GRow):Prop where
 attrs:x.attrs.length<n
 small:smallAttrs x.attrs
 text:x.text.length+x.key.length+x.tag.length≤1048576
structure Rows.small (n:Nat) (l:List GRow):Prop where
 len:l.length<n
 row:∀ x ∈ l,x.small n
structure GRow.mid (n:Nat) (x:GRow):Prop where
 attrs:x.attrs.length<n
 small:smallAttrs x.attrs
structure Rows.mid (n:Nat) (l:List GRow):Prop where
 len:l.length<n
 row:∀ x ∈ l,x.mid n
theorem Rows.small.mid {n:Nat} {l:List GRow} (h:Rows.small n l):Rows.mid n l:=⟨h.len,fun x hx=>⟨(h.row x hx).attrs,(h.row x hx).small⟩⟩
theorem bulk_row (x:GRow):bulkL x.pv=5+x.tag.length+x.key.length+x.text.length+bulkLL (x.attrs.map Attr.pv)+1:=by
 simp only [GRow.pv,attrsPV,bulkL,PV.bulk];omega
theorem small_row {n:Nat} {x:GRow} (h:bulkL x.pv≤n) (hn:n≤1048576):x.small n:=by
 rw [bulk_row] at h
 obtain ⟨h1,h2⟩:=bulk_attrs x.attrs
 exact ⟨by omega,fun a ha=>by have:=h1 a ha;omega,by omega⟩
theorem bulk_rows:∀ (l:List GRow),(∀ x ∈ l,bulkL x.pv≤bulkLL (l.map GRow.pv))∧l.length≤bulkLL (l.map GRow.pv)
  | []=>by simp [bulkLL]
  | a :: l => by
    obtain ⟨h1,h2⟩:=bulk_rows l
    have:=bulk_row a
    simp only [List.map_cons,bulkLL,List.length_cons]
    refine ⟨fun b hb => ?_,by omega⟩
    rcases List.mem_cons.1 hb with rfl | hb
    · omega
    · have:=h1 b hb;omega
theorem small_rows {n:Nat} {l:List GRow} (h:bulkLL (l.map GRow.pv)<n) (hn:n≤1048577):Rows.small n l:=by
 obtain ⟨h1,h2⟩:=bulk_rows l
 refine ⟨by omega,fun x hx => ?_⟩
 have h3:=h1 x hx
 have h4:=small_row (n:=n - 1) (x:=x) (by omega) (by omega)
 exact ⟨by have:=h4.attrs;omega,h4.small,h4.text⟩
end Go.TA


end
section
/- Rows of numbers; what is found among rows; whether attributes are the same. Plain. -/
namespace Go.TA
def intsPV (l:List Int):List (List PV):=l.map fun i=>[PV.int .i64 i]
theorem intsPV_len (l:List Int):(intsPV l).length=l.length:=by simp [intsPV]
theorem intsPV_snoc (l:List Int) (i:Int):intsPV l++[[PV.int .i64 i]]=intsPV (l++[i]):=by simp [intsPV]
theorem intsPV_get {l:List Int} {i:Nat} {v:Int} (h:l[i]? = some v):(intsPV l).getD i []=[PV.int .i64 v]:=by
 unfold intsPV;rw [List.getD_eq_getElem?_getD,List.getElem?_map,h];rfl
def findAt (l:List GRow) (id:Int):Option Nat:=l.findIdx? (fun x=>x.id==id)
def idAt (o:Option Nat):Int:=match o with
 | some k=>k
 | none => -1
def sameRow (x y:GRow):Bool:=decide (x.tag=y.tag∧x.key=y.key∧x.text=y.text∧x.attrs=y.attrs)
def goneF (b:List GRow) (x:GRow):List Int:=match findAt b x.id with
 | some _=>[]
 | none=>[x.id]
def turnedF (a:List GRow) (y:GRow):List Int:=match findAt a y.id with
 | some k=>(match a[k]? with | some x=>if sameRow x y=true then [] else [y.id] | none=>[])
 | none=>[]
def rowAV (x:GRow):AV:=.p (.agg x.pv)
def fmStep (es:List (PV × AV)) (x:GRow):List (PV × AV):=if (mlk 1 es (.int .i64 x.id)).isSome=true then es else mput 1 es (.int .i64 x.id) (rowAV x)
def fm (l:List GRow):List (PV × AV):=l.foldl fmStep []
def keysOk (es:List (PV × AV)):Prop:=∀ e ∈ es,∃ n,e.1 = .int .i64 n
def MapIs (es:List (PV × AV)) (l:List GRow):Prop:=keysOk es∧∀ id,mlk 1 es (.int .i64 id)=(l.find? fun x=>x.id==id).map rowAV
end Go.TA


end
section
/- The handles above a row. Plain. -/
namespace Go.TA
def upAt (l:List GRow) (x:Nat):Nat:=((l[x - 1]?).map (fun r=>r.up.toNat)).getD 0
def standTo (l:List GRow) (i:Nat):Prop:=∀ (j:Nat) x,j<i→l[j]? = some x→0≤x.up∧x.up≤j
def anc (l:List GRow):Nat→Nat→List Nat
 | 0,_=>[]
 | _+1,0=>[]
 | f+1,x+1=>(x+1)::anc l f (upAt l (x+1))
def chain (l:List GRow) (x:Nat):List Nat:=anc l x x
theorem chain_zero (l:List GRow):chain l 0=[]:=rfl
theorem upAt_le {l:List GRow} {i x:Nat} (h:standTo l i) (hx:x<i) (hl:x<l.length):upAt l (x+1)≤x:=by
 obtain ⟨r,hr⟩:=get_some hl
 have:=h x r hx hr
 simp [upAt,hr]
 omega
theorem anc_fuel {l : List GRow} {i : Nat} (h : standTo l i) (hi : i ≤ l.length) : ∀ (x f : Nat), x ≤ i → x ≤ f → anc l f x = anc l x x := by
  intro x
  induction x using Nat.strongRecOn with
  | _ x ih =>
    intro f hx hf
    cases x with
    | zero=>cases f <;> rfl
    | succ x =>
      cases f with
      | zero=>omega
      | succ f =>
        simp only [anc]
        have hu:=upAt_le h (x:=x) (by omega) (by omega)
        rw [ih _ (by omega) f (by omega) (by omega),ih _ (by omega) x (by omega) (by omega)]
theorem chain_succ {l:List GRow} {i x:Nat} (h:standTo l i) (hi:i≤l.length) (hx:x<i):chain l (x+1)=(x+1)::chain l (upAt l (x+1)):=by
 have hu:=upAt_le h hx (by omega)
 unfold chain
 simp only [anc]
 rw [anc_fuel h hi _ x (by omega) hu]
theorem chain_pos {l:List GRow}:∀ {f x:Nat} {y:Nat},y ∈ anc l f x→0<y
  | 0,_,_,h=>by simp [anc] at h
  | f+1,0,_,h=>by simp [anc] at h
  | f + 1, x + 1, y, h => by
    simp only [anc,List.mem_cons] at h
    rcases h with rfl | h
    · omega
    · exact chain_pos h
theorem chain_le {l : List GRow} {i : Nat} (h : standTo l i) (hi : i ≤ l.length) : ∀ (x : Nat), x ≤ i → ∀ y ∈ chain l x, y ≤ x := by
  intro x
  induction x using Nat.strongRecOn with
  | _ x ih =>
    intro hx y hy
    cases x with
    | zero=>simp [chain_zero] at hy
    | succ x =>
      rw [chain_succ h hi hx] at hy
      have hu:=upAt_le h (x:=x) (by omega) (by omega)
      rcases List.mem_cons.1 hy with rfl | hy
      · omega
      · have:=ih _ (by omega) (by omega) y hy
        omega
theorem standTo.mono {l:List GRow} {i j:Nat} (h:standTo l i) (hij:j≤i):standTo l j:=fun k x hk hx=>h k x (by omega) hx
def aboveB (l:List GRow) (x:Nat) (h:Int):Bool:=(chain l x).any fun y=>(y:Int)==h
def rowOkB (l:List GRow) (i:Nat) (x:GRow):Bool:=if i=0 then x.up==0 else decide (1≤x.up) && aboveB l i x.up
def formedFrom (l:List GRow):Nat→List GRow→Bool
 | _,[]=>true
 | i,x::r=>rowOkB l i x && formedFrom l (i+1) r
def formedB (l:List GRow):Bool:=formedFrom l 0 l
theorem row_stands {l:List GRow} {i:Nat} {x:GRow} (h:standTo l i) (hi:i≤l.length) (hx:l[i]? = some x) (hr:rowOkB l i x=true):standTo l (i+1):=by
 intro j y hj hy
 by_cases e:j=i
 ·subst e
  rw [hx] at hy
  cases hy
  unfold rowOkB at hr
  split at hr
  ·rename_i h0
   subst h0
   have:x.up=0:=by simpa using hr
   omega
  ·simp only [Bool.and_eq_true,decide_eq_true_eq,aboveB,List.any_eq_true,beq_iff_eq] at hr
   obtain ⟨h1,y,hy,he⟩:=hr
   have:=chain_le h hi j (Nat.le_refl _) y hy
   omega
 ·exact h j y (by omega) hy
theorem standTo_zero (l:List GRow):standTo l 0:=fun j x hj=>by omega
theorem above_up {l:List GRow} {x:Nat} {h:Int} (ha:aboveB l x h=true):0<h:=by
 simp only [aboveB,List.any_eq_true,beq_iff_eq] at ha
 obtain ⟨y,hy,he⟩:=ha
 have:=chain_pos hy
 omega
theorem formed_drop {l:List GRow}:∀ {i:Nat},formedFrom l i (l.drop i)=true→∀ (j:Nat) x,i≤j→l[j]? = some x→rowOkB l j x=true:=by
  intro i h j x hij hj
  obtain ⟨d,rfl⟩:∃ d,j=i+d:=⟨j - i,by omega⟩
  induction d generalizing i with
  | zero =>
    have e:l.drop i=x::l.drop (i+1):=by rw [List.drop_eq_getElem?_toList_append];simp at hj;rw [hj];rfl
    rw [e] at h
    simp only [formedFrom,Bool.and_eq_true] at h
    simpa using h.1
  | succ d ih =>
    have hlt:i<l.length:=by
      have:=(List.getElem?_eq_some_iff.1 hj).1
      omega
    obtain ⟨y,hy⟩:=get_some hlt
    have e:l.drop i=y::l.drop (i+1):=by rw [List.drop_eq_getElem?_toList_append,hy];rfl
    rw [e] at h
    simp only [formedFrom,Bool.and_eq_true] at h
    have:=ih h.2 (by omega) (by rw [← hj];congr 1;omega)
    rw [show i+(d+1)=i+1+d by omega]
    exact this
theorem formed_stands {l:List GRow} (h:formedB l=true):standTo l l.length:=by
  have hr:=formed_drop (i:=0) (by simpa [formedB] using h)
  have key:∀ i,i≤l.length→standTo l i:=by
    intro i
    induction i with
    | zero=>intro _;exact standTo_zero l
    | succ i ih =>
      intro hi
      obtain ⟨x,hx⟩:=get_some (show i<l.length by omega)
      exact row_stands (ih (by omega)) (by omega) hx (hr i x (by omega) hx)
  exact key _ (Nat.le_refl _)
end Go.TA


end
section
/- The machine's memory: its nodes, and their kids' rows. Plain. -/
namespace Go.TA
structure MNode where
 live:Bool
 up:Int
 tag:Bs
 key:Bs
 text:Bs
 attrs:List Attr
def nodeAV (s:MNode) (k:AV):List AV:=[.p (.bool s.live),.p (.int .i64 s.up),k,.p (.str s.tag),.p (.str s.key),.p (.str s.text),.p (.list (s.attrs.map Attr.pv))]
def rowsAV (N:Nat) (st:Nat→MNode) (av:Nat→AV):List (List AV):=(List.range N).map fun h=>nodeAV (st h) (av h)
def upd {α : Type} (f:Nat → α) (h:Nat) (v : α):Nat → α := fun k=>if k=h then v else f k
theorem upd_at {α : Type} (f:Nat → α) (h:Nat) (v : α):upd f h v h=v:=by simp [upd]
theorem upd_ne {α : Type} {f:Nat → α} {h k:Nat} {v : α} (hk:k≠h):upd f h v k=f k:=by simp [upd,hk]
section
variable {N:Nat} {st:Nat→MNode} {av:Nat→AV}
end
def refOf:AV→Option Nat
 | .own true k _=>some k
 | _=>none
inductive KRep (rest:List AObj):AV→List Int→Prop
 | none:KRep rest .nils []
 | own {r:Nat} {ks:List Int}:rest[r]? = some (.pcells 1 (intsPV ks))→KRep rest (.own true (r+1+1) ks.length) ks
 | list {ks:List Int}:KRep rest (.p (.list (intsPV ks))) ks
structure MOk (N:Nat) (av:Nat→AV) (kd:Nat→List Int) (rest:List AObj):Prop where
 kids:∀ h,h<N→KRep rest (av h) (kd h)
 disj:∀ h h',h<N→h'<N→h≠h'→refOf (av h)=none∨refOf (av h)≠refOf (av h')
def machG (N:Nat) (st:Nat→MNode) (av:Nat→AV) (rest:List AObj):List AObj:=.cells 7 (rowsAV N st av) :: .cells 1 [[.own true 0 N]]::rest
section
variable {N:Nat} {st:Nat→MNode} {av:Nat→AV} {kd:Nat→List Int} {rest:List AObj}
theorem KRep.inv {a:AV} {ks:List Int} (h:KRep rest a ks):(a = .nils∧ks=[])∨(∃ r,a = .own true (r+1+1) ks.length∧rest[r]? = some (.pcells 1 (intsPV ks)))∨a = .p (.list (intsPV ks)):=by
 cases h with
 | none=>exact .inl ⟨rfl,rfl⟩
 | own h=>exact .inr (.inl ⟨_,rfl,h⟩)
 | list=>exact .inr (.inr rfl)
theorem KRep.more {a:AV} {ks:List Int} (h:KRep rest a ks) (r:List AObj):KRep (rest++r) a ks:=by
 cases h with
 | none=>exact .none
 | own h=>exact .own (by rw [List.getElem?_append_left (List.getElem?_eq_some_iff.1 h).1];exact h)
 | list=>exact .list
theorem KRep.set {a:AV} {ks:List Int} (h:KRep rest a ks) {r:Nat} {o:AObj} (hr:refOf a≠some (r+1+1)):KRep (rest.set r o) a ks:=by
  cases h with
  | none=>exact .none
  | own h =>
    refine .own ?_
    rw [List.getElem?_set,if_neg (fun e=>hr (by rw [e];rfl))]
    exact h
  | list=>exact .list
theorem KRep.ref_lt {a:AV} {ks:List Int} (h:KRep rest a ks) {k:Nat} (hk:refOf a=some k):k<rest.length+1+1:=by
  cases h with
  | none=>cases hk
  | own h =>
    simp only [refOf,Option.some.injEq] at hk
    have:=(List.getElem?_eq_some_iff.1 h).1
    omega
  | list=>cases hk
theorem MOk.push (h : MOk N av kd rest) : MOk (N + 1) (upd av N .nils) (upd kd N []) rest where
  kids k hk:=by
    by_cases e:k=N
    · subst e;rw [upd_at,upd_at];exact .none
    · rw [upd_ne e,upd_ne e];exact h.kids k (by omega)
  disj k k' hk hk' hne:=by
    by_cases e:k=N
    · subst e;left;rw [upd_at];rfl
    · rw [upd_ne e]
      by_cases e':k'=N
      · subst e'
        rw [upd_at]
        cases hr:refOf (av k) with
        | none=>exact .inl rfl
        | some q=>exact .inr (by simp [refOf])
      · rw [upd_ne e'];exact h.disj k k' (by omega) (by omega) hne
theorem MOk.fresh (h : MOk N av kd rest) {u : Nat} (hu : u < N) (ks : List Int) : MOk N (upd av u (.own true (rest.length + 1 + 1) ks.length)) (upd kd u ks) (rest ++ [.pcells 1 (intsPV ks)]) where
  kids k hk:=by
    by_cases e:k=u
    · subst e;rw [upd_at,upd_at];exact .own (by simp)
    · rw [upd_ne e,upd_ne e];exact (h.kids k hk).more _
  disj k k' hk hk' hne:=by
    by_cases e:k=u
    · subst e
      rw [upd_at,upd_ne (fun e=>hne e.symm)]
      right
      intro he
      have:=(h.kids k' hk').ref_lt (k:=rest.length+1+1) he.symm
      omega
    · rw [upd_ne e]
      by_cases e':k'=u
      · subst e'
        rw [upd_at]
        cases hr:refOf (av k) with
        | none=>exact .inl rfl
        | some q =>
          right
          have:=(h.kids k hk).ref_lt hr
          simp only [refOf,ne_eq,Option.some.injEq]
          omega
      · rw [upd_ne e'];exact h.disj k k' hk hk' hne
theorem MOk.turn (h : MOk N av kd rest) {u r : Nat} (hu : u < N) (hr : av u = .own true (r + 1 + 1) (kd u).length) (hrl : r < rest.length) (ks : List Int) : MOk N (upd av u (.own true (r + 1 + 1) ks.length)) (upd kd u ks) (rest.set r (.pcells 1 (intsPV ks))) where
  kids k hk:=by
    by_cases e:k=u
    · subst e;rw [upd_at,upd_at];exact .own (by simp [List.getElem?_set,hrl])
    · rw [upd_ne e,upd_ne e]
      refine (h.kids k hk).set ?_
      rcases h.disj k u hk hu e with h1 | h1
      · rw [h1];simp
      · rw [hr] at h1;exact h1
  disj k k' hk hk' hne:=by
    have e0:∀ ks:List Int,refOf (AV.own true (r+1+1) ks.length)=refOf (av u):=fun ks=>by rw [hr];rfl
    by_cases e:k=u
    · subst e
      rw [upd_at,upd_ne (fun e=>hne e.symm),e0]
      exact h.disj k k' hk hk' hne
    · rw [upd_ne e]
      by_cases e':k'=u
      · subst e'
        rw [upd_at,e0]
        exact h.disj k k' hk hk' hne
      · rw [upd_ne e'];exact h.disj k k' hk hk' hne
theorem MOk.fix (h : MOk N av kd rest) {u : Nat} (hu : u < N) (ks : List Int) : MOk N (upd av u (.p (.list (intsPV ks)))) (upd kd u ks) rest where
  kids k hk:=by
    by_cases e:k=u
    · subst e;rw [upd_at,upd_at];exact .list
    · rw [upd_ne e,upd_ne e];exact h.kids k hk
  disj k k' hk hk' hne:=by
    by_cases e:k=u
    · subst e;left;rw [upd_at];rfl
    · rw [upd_ne e]
      by_cases e':k'=u
      · subst e'
        rw [upd_at]
        cases hr:refOf (av k) with
        | none=>exact .inl rfl
        | some q=>exact .inr (by simp [refOf])
      · rw [upd_ne e'];exact h.disj k k' hk hk' hne
end
structure Fr (N:Nat) (av:Nat→AV) (rest:List AObj) (N':Nat) (av':Nat→AV) (rest':List AObj):Prop where
 len:rest.length≤rest'.length
 keep:∀ j,j<rest.length→(∀ h,h<N→refOf (av h)≠some (j+1+1))→rest'[j]? = rest[j]?
 refs:∀ h,h<N'→∀ j,refOf (av' h)=some (j+1+1)→j<rest.length→∃ h0,h0<N∧refOf (av h0)=some (j+1+1)
theorem Fr.refl (N:Nat) (av:Nat→AV) (rest:List AObj):Fr N av rest N av rest:=⟨Nat.le_refl _,fun _ _ _=>rfl,fun h hh j hj _=>⟨h,hh,hj⟩⟩
theorem Fr.trans {N N' N'':Nat} {av av' av'':Nat→AV} {rest rest' rest'':List AObj} (h1:Fr N av rest N' av' rest') (h2:Fr N' av' rest' N'' av'' rest''):Fr N av rest N'' av'' rest'' where
 len:=Nat.le_trans h1.len h2.len
 keep j hj hn:=by
  rw [h2.keep j (Nat.lt_of_lt_of_le hj h1.len) (fun h hh e=>by
   obtain ⟨h0,hh0,e0⟩:=h1.refs h hh j e hj
   exact hn h0 hh0 e0)]
  exact h1.keep j hj hn
 refs h hh j hj hl:=by
  obtain ⟨h1',hh1,e1⟩:=h2.refs h hh j hj (Nat.lt_of_lt_of_le hl h1.len)
  exact h1.refs h1' hh1 j e1 hl
theorem Fr.more (N:Nat) (av:Nat→AV) (rest more:List AObj):Fr N av rest N av (rest++more):=⟨by simp,fun j hj _=>List.getElem?_append_left hj,fun h hh j hj _=>⟨h,hh,hj⟩⟩
theorem Fr.push (N:Nat) (av:Nat→AV) (rest:List AObj):Fr N av rest (N+1) (upd av N .nils) rest:=⟨Nat.le_refl _,fun _ _ _=>rfl,fun h hh j hj _=>by
 by_cases e:h=N
 ·subst e;rw [upd_at] at hj;cases hj
 ·rw [upd_ne e] at hj;exact ⟨h,by omega,hj⟩⟩
def holder:MNode:=⟨true, -1,[],[],[],[]⟩
def nodeOf (x:GRow):MNode:=⟨true,x.up,x.tag,x.key,x.text,x.attrs⟩
def st0 (l:List GRow):Nat→MNode
 | 0=>holder
 | h+1=>((l[h]?).map nodeOf).getD holder
def kd0 (l:List GRow) (i:Nat) (h:Nat):List Int:=((List.range i).filter fun k=>((l[k]?).map (fun x=>x.up==(h:Int))).getD false).map fun (k:Nat)=>(k:Int)+1
theorem kd0_zero (l:List GRow) (h:Nat):kd0 l 0 h=[]:=rfl
theorem kd0_succ {l:List GRow} {i:Nat} {x:GRow} (hx:l[i]? = some x) (h:Nat):kd0 l (i+1) h=if x.up=(h:Int) then kd0 l i h++[(i:Int)+1] else kd0 l i h:=by
 simp only [kd0,List.range_succ,List.filter_append,List.map_append,List.filter_cons,List.filter_nil,hx,Option.map_some,Option.getD_some]
 by_cases e:x.up=(h:Int)
 ·simp [e]
 ·simp [e]
theorem kd0_new {l:List GRow} {i h:Nat} (hs:standTo l i) (hh:i<h):kd0 l i h=[]:=by
  unfold kd0
  rw [List.map_eq_nil_iff,List.filter_eq_nil_iff]
  intro k hk
  have hk:=List.mem_range.1 hk
  cases hx:l[k]? with
  | none=>simp
  | some x =>
    have:=hs k x hk hx
    simp
    omega
end Go.TA


end
section
/- Rows that stand as a tree's do: where what is below a handle ends; kids in their order. Plain. -/
namespace Go.TA
def sound (l:List GRow):Prop:=standTo l l.length∧∀ (j:Nat) x,l[j]? = some x→(j=0∧x.up=0)∨(0<j∧∃ y ∈ chain l j,(y:Int)=x.up)
theorem formed_sound {l:List GRow} (h:formedB l=true):sound l:=by
 refine ⟨formed_stands h,fun j x hx => ?_⟩
 have hr:=formed_drop (i:=0) (by simpa [formedB] using h) j x (by omega) hx
 unfold rowOkB at hr
 split at hr
 ·rename_i h0;exact .inl ⟨h0,by simpa using hr⟩
 ·rename_i h0
  simp only [Bool.and_eq_true,decide_eq_true_eq,aboveB,List.any_eq_true,beq_iff_eq] at hr
  exact .inr ⟨by omega,hr.2⟩
def endOf (l:List GRow) (h:Nat):Nat:=h+(l.drop h).findIdx (fun x=>decide (x.up<(h:Int)))
section
variable {l:List GRow}
theorem endOf_le {h:Nat} (hh:h≤l.length):h≤endOf l h∧endOf l h≤l.length:=by
 unfold endOf
 have:=List.findIdx_le_length (xs:=l.drop h) (p:=fun x=>decide (x.up<(h:Int)))
 rw [List.length_drop] at this
 omega
theorem endOf_in {h j:Nat} {x:GRow} (h1:h≤j) (h2:j<endOf l h) (hx:l[j]? = some x):(h:Int)≤x.up:=by
 unfold endOf at h2
 have hlt:j<l.length:=(List.getElem?_eq_some_iff.1 hx).1
 have:=List.not_of_lt_findIdx (xs:=l.drop h) (p:=fun x=>decide (x.up<(h:Int))) (i:=j - h) (by omega)
 simp only [List.getElem_drop,decide_eq_false_iff_not] at this
 have e:l[h+(j - h)]'(by omega)=x:=by
  have:l[h+(j - h)]? = some x:=by rw [← hx];congr 1;omega
  exact (List.getElem?_eq_some_iff.1 this).2
 rw [e] at this
 simpa using this
theorem endOf_at {h:Nat} {x:GRow} (hh:h≤l.length) (hx:l[endOf l h]? = some x):x.up<(h:Int):=by
 have hlt:endOf l h<l.length:=(List.getElem?_eq_some_iff.1 hx).1
 unfold endOf at hlt hx
 have:=List.findIdx_getElem (xs:=l.drop h) (p:=fun x=>decide (x.up<(h:Int))) (w:=by rw [List.length_drop];omega)
 simp only [List.getElem_drop,decide_eq_true_eq] at this
 have e:=(List.getElem?_eq_some_iff.1 hx).2
 rw [e] at this
 exact this
theorem up_of (hs:sound l) {j:Nat} {x:GRow} (hx:l[j]? = some x):x.up=(upAt l (j+1):Int):=by
 have:=hs.1 j x (List.getElem?_eq_some_iff.1 hx).1 hx
 simp [upAt,hx]
 omega
theorem chain_below (hs:sound l) {m:Nat} (hm:m<l.length):∀ j,m+1≤j→j≤endOf l (m+1)→∀ y ∈ chain l j,y<m+1→y ∈ chain l (upAt l (m+1)):=by
  intro j
  induction j using Nat.strongRecOn with
  | _ j ih =>
    intro h1 h2 y hy hlt
    have hle:=(endOf_le (l:=l) (h:=m+1) (by omega)).2
    obtain ⟨j,rfl⟩:∃ k,j=k+1:=⟨j - 1,by omega⟩
    by_cases e:j=m
    · subst e
      rw [chain_succ hs.1 (Nat.le_refl _) (by omega)] at hy
      rcases List.mem_cons.1 hy with rfl | hy
      · omega
      · exact hy
    · obtain ⟨x,hx⟩:=get_some (show j<l.length by omega)
      have hup:=endOf_in (h:=m+1) (by omega) (by omega) hx
      have hu:=up_of hs hx
      have hule:=upAt_le hs.1 (show j<l.length by omega) (by omega)
      rw [chain_succ hs.1 (Nat.le_refl _) (by omega)] at hy
      rcases List.mem_cons.1 hy with rfl | hy
      · omega
      · exact ih _ (by omega) (by omega) (by omega) y hy hlt
theorem kid_next (hs : sound l) {h cur : Nat} (h1 : h ≤ cur) (h2 : cur < endOf l h) (hcur : cur = h ∨ ∃ m, h ≤ m ∧ m < cur ∧ cur = endOf l (m + 1) ∧ upAt l (m + 1) = h) (hh : h ≤ l.length) : ∃ x, l[cur]? = some x ∧ x.up = (h : Int) := by
  have hle:=(endOf_le (l:=l) hh).2
  obtain ⟨x,hx⟩:=get_some (show cur<l.length by omega)
  refine ⟨x,hx, ?_⟩
  have hup:=endOf_in h1 h2 hx
  rcases hs.2 cur x hx with ⟨h0,h3⟩ | ⟨h0,y,hy,hyu⟩
  · omega
  · have hyle:=chain_le hs.1 (Nat.le_refl _) cur (by omega) y hy
    rcases hcur with rfl | ⟨m,m1,m2,m3,m4⟩
    · omega
    · have hm:m<l.length:=by omega
      have hat:x.up<((m+1:Nat):Int):=by
        rw [m3] at hx
        exact endOf_at (by omega) hx
      have:=chain_below hs hm cur (by omega) (by omega) y hy (by omega)
      rw [m4] at this
      have:=chain_le hs.1 (Nat.le_refl _) h hh y this
      omega
theorem end_mono {h cur:Nat} (h1:h≤cur) (h2:cur<endOf l h) (hh:h≤l.length):endOf l (cur+1)≤endOf l h:=by
 have he:=endOf_le (l:=l) hh
 have he2:=endOf_le (l:=l) (h:=cur+1) (by omega)
 rcases Nat.lt_or_ge (endOf l h) (endOf l (cur+1)) with hlt | hge
 ·obtain ⟨x,hx⟩:=get_some (show endOf l h<l.length by omega)
  have a1:=endOf_at hh hx
  have a2:=endOf_in (h:=cur+1) (by omega) hlt hx
  omega
 ·exact hge
def named:List GRow→Nat→List GRow
 | [],_=>[]
 | x::r,i => { x with id:=(i:Int)+1 }::named r (i+1)
def outPV (l:List GRow) (j:Nat):List (List PV):=((named l 0).take j).map GRow.pv
end
end Go.TA


end
