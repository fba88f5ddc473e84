/- Part 6 of 14 of a proof; joined from LibF, Road, Dec, DataR, Ints, Chain, Mach, Pre. Rows that stand as a tree's do: where what is below a handle ends; kids in their order. Plain. -/
import Derived.Test.YtbgbmdjfogohnaaGreatDoorPd5
import Derived.ReadAgain
import Derived.ChangeArms
import Derived.ChangeSame
import Derived.ChangeBears
import Derived.ChangeShapes
import Derived.Test.YtbgbmdjfogohnaaGreatDoorPd1
set_option linter.unusedSimpArgs false
set_option linter.unusedVariables false
set_option linter.defProp false
set_option maxRecDepth 100000
set_option maxHeartbeats 8000000
section
/- Code, functions and the whole table are sound. -/
namespace Go.TA
structure Evo (c c':Cx):Prop where
 X:c'.X=c.X
 size:c.w.heap.size≤c'.w.heap.size
 tape:c'.w.tape=c.w.tape
 os:c'.w.os=c.w.os
 output:c'.w.output=c.w.output
 keep:∀ b,b<c.w.heap.size→¬ c.Own b→c'.w.heap[b]? = c.w.heap[b]?
 fresh:∀ b,c'.Own b→c.Own b∨c.w.heap.size≤b
 objs:∀ k o,c.obj true k=some o→∃ o',c'.obj true k=some o'∧∀ m',o'.cnt=some m'→∃ m,o.cnt=some m∧m≤m'∧o'.isMap=o.isMap ∧
  (m=m'→c'.μ true k=c.μ true k∧o'.sz=o.sz∧∀ b cs e,c.μ true k=some b→c.w.heap[b]? = some (.cells cs e (0,0))→∃ cs',c'.w.heap[b]? = some (.cells cs' e (0,0))∧cs'.size=cs.size)
section
variable {c c' c'':Cx}
theorem Evolve.evo (h:Evolve c c'):Evo c c':=⟨h.X,h.size,h.tape,h.os,h.output,h.keep,h.fresh,fun k o=>h.objs true k o⟩
theorem Evo.refl (c:Cx):Evo c c:=(Evolve.refl c).evo
theorem Evo.trans (h:Evo c c') (h':Evo c' c''):Evo c c'' where
 X:=h'.X.trans h.X
 size:=Nat.le_trans h.size h'.size
 tape:=h'.tape.trans h.tape
 os:=h'.os.trans h.os
 output:=h'.output.trans h.output
 keep b hb hn:=by
  have h1:¬ c'.Own b:=fun ho=>by
   rcases h.fresh b ho with h2 | h2
   ·exact hn h2
   ·omega
  exact (h'.keep b (Nat.lt_of_lt_of_le hb h.size) h1).trans (h.keep b hb hn)
 fresh b ho:=by
  rcases h'.fresh b ho with h1 | h1
  ·exact h.fresh b h1
  ·exact .inr (Nat.le_trans h.size h1)
 objs k o ho:=by
  obtain ⟨o1,h1,H1⟩:=h.objs k o ho
  obtain ⟨o2,h2,H2⟩:=h'.objs k o1 h1
  refine ⟨o2,h2,fun m2 hm2 => ?_⟩
  obtain ⟨m1,hm1,hle1,hk1,s1⟩:=H2 m2 hm2
  obtain ⟨m0,hm0,hle0,hk0,s0⟩:=H1 m1 hm1
  refine ⟨m0,hm0,Nat.le_trans hle0 hle1,hk1.trans hk0,fun e => ?_⟩
  obtain ⟨a1,a2,a3⟩:=s1 (by omega)
  obtain ⟨b1,b2,b3⟩:=s0 (by omega)
  refine ⟨a1.trans b1,a2.trans b2,fun b cs e hb hh => ?_⟩
  obtain ⟨cs1,x1,x2⟩:=b3 b cs e hb hh
  obtain ⟨cs2,y1,y2⟩:=a3 b cs1 e (b1.trans hb) x1
  exact ⟨cs2,y1,y2.trans x2⟩
theorem Evo.evolve (h:Evo c c') (hl:c.l=[]):Evolve c c':=⟨h.X,h.size,h.tape,h.os,h.output,h.keep,h.fresh,fun z k o ho=>by
 cases z
 ·simp [Cx.obj,hl,lk] at ho
 ·exact h.objs k o ho⟩
def Cx.drop (c:Cx) (l':List (Nat × AObj)):Cx:=⟨c.X,fun z k=>if z then c.μ true k else if (lk l' k).isSome then c.μ false k else none,l',c.g,c.w⟩
variable {l':List (Nat × AObj)} {Γ : b1c}
theorem g8n (b:Nat) (h:c.N b):(c.drop l').N b:=⟨h.1,fun ⟨z,k,hk⟩=>by
 cases z
 ·simp only [Cx.drop,Bool.false_eq_true,if_false] at hk
  split at hk
  ·exact h.2 ⟨false,k,hk⟩
  ·cases hk
 ·exact h.2 ⟨true,k,hk⟩⟩
theorem c7l {pv:PV} {v:Value} (h:RelP c.w c.N pv v):RelP (c.drop l').w (c.drop l').N pv v:=h.mono fun b hb hlt=>⟨g8n b hb,hlt,rfl⟩
theorem c8e : ∀ {α : Type} (l : List (Nat × α)) (k : Nat), (l.map (·.1)).contains k = (lk l k).isSome
  | _,[],k=>rfl
  | _, (a, v) :: l, k => by
    simp only [List.map_cons,List.contains_cons,lk]
    cases e:(a==k)
    · have:(k==a)=false:=by
        have:=beq_eq_false_iff_ne.1 e
        exact beq_eq_false_iff_ne.2 (Ne.symm this)
      simp only [this,Bool.false_or]
      exact c8e l k
    · have:a=k:=beq_iff_eq.1 e
      subst this
      simp
theorem b6x (k:Nat):(c.drop l').obj true k=c.obj true k:=by simp [Cx.obj,Cx.drop]
theorem c1s (hs:∀ k o,lk l' k=some o→lk c.l k=some o) {k:Nat} (hk:(lk l' k).isSome=true):(c.drop l').obj false k=c.obj false k:=by
 obtain ⟨o,ho⟩:=Option.isSome_iff_exists.1 hk
 simp [Cx.obj,Cx.drop,ho,hs k o ho]
theorem c3v {k:Nat} (hk:(lk l' k).isSome=true):(c.drop l').μ false k=c.μ false k:=by simp [Cx.drop,hk]
theorem c8r (hs:∀ k o,lk l' k=some o→lk c.l k=some o) {z:Bool} {k:Nat} (h:(z || (l'.map (·.1)).contains k)=true):(c.drop l').obj z k=c.obj z k∧(c.drop l').μ z k=c.μ z k:=by
 cases z
 ·simp only [Bool.false_or,c8e] at h
  exact ⟨c1s hs h,c3v h⟩
 ·exact ⟨b6x k,rfl⟩
theorem b3r {ks:List Nat}:∀ {l:List AV},b2z ks l=false→∀ j (h:j<l.length),mentions ks (l[j])=false
  | [],_,j,h=>by simp at h
  | a :: l, hm, j, h => by
    simp only [b2z,Bool.or_eq_false_iff] at hm
    cases j with
    | zero=>exact hm.1
    | succ j=>exact b3r hm.2 j (by simpa using h)
theorem c1q {ks:List Nat}:∀ {l:List (List AV)},c0z ks l=false→∀ j (h:j<l.length),b2z ks (l[j])=false
  | [],_,j,h=>by simp at h
  | a :: l, hm, j, h => by
    simp only [c0z,Bool.or_eq_false_iff] at hm
    cases j with
    | zero=>exact hm.1
    | succ j=>exact c1q hm.2 j (by simpa using h)
theorem b9w (hs:∀ k o,lk l' k=some o→lk c.l k=some o) {av:AV} {v:Value} (h:RelV c av v):mentions (l'.map (·.1)) av=false→RelV (c.drop l') av v:=by
  induction h with
  | bot v=>intro _;exact .bot v
  | p pv v hp=>intro _;exact .p _ _ (c7l hp)
  | rop cs b off f hN hb hc h1 hr=>intro _;exact .rop cs b off f (g8n b hN) hb hc h1 (fun j hj=>c7l (hr j hj))
  | ptr z k sz n i j a hp =>
    intro hn
    simp only [mentions,Bool.not_eq_false'] at hn
    obtain ⟨e1,e2⟩:=c8r hs hn
    obtain ⟨ob,ho,H⟩:=hp
    exact .ptr _ _ _ _ _ _ _ ⟨ob,e1.trans ho,fun m hm=>⟨(H m hm).1,fun e=>by obtain ⟨b,hb,ha⟩:=(H m hm).2 e;exact ⟨b,e2.trans hb,ha⟩⟩⟩
  | own z k n A cap hp =>
    intro hn
    simp only [mentions,Bool.not_eq_false'] at hn
    obtain ⟨e1,e2⟩:=c8r hs hn
    obtain ⟨ob,ho,H⟩:=hp
    refine .own _ _ _ _ _ ⟨ob,e1.trans ho,fun m hm=>⟨(H m hm).1,fun e => ?_⟩⟩
    rcases (H m hm).2 e with ⟨x1,x2⟩ | ⟨b,cs,e,x1,x2⟩
    · exact .inl ⟨e2.trans x1,x2⟩
    · exact .inr ⟨b,cs,e,e2.trans x1,x2⟩
  | nils=>intro _;exact .nils
  | lit xs b cap sz f hN hb hc hm hl hcell h1 hr ih =>
    intro hn
    simp only [mentions] at hn
    exact .lit xs b cap sz f (g8n b hN) hb hc hm hl hcell h1 (fun i j hi hj=>ih i j hi hj (b3r (c1q hn i hi) j hj))
  | map z k r hp =>
    intro hn
    simp only [mentions,Bool.not_eq_false'] at hn
    obtain ⟨e1,e2⟩:=c8r hs hn
    obtain ⟨ob,ho,H⟩:=hp
    exact .map _ _ _ ⟨ob,e1.trans ho,fun m hm=>⟨(H m hm).1,by obtain ⟨b,hb,ha⟩:=(H m hm).2;exact ⟨b,e2.trans hb,ha⟩⟩⟩
  | func f cs vs hl hr ih =>
    intro hn
    simp only [mentions] at hn
    exact .func f cs vs hl (fun j h h'=>ih j h h' (b3r hn j h))
  | bound f cs vs hl hr ih =>
    intro hn
    simp only [mentions] at hn
    exact .bound f cs vs hl (fun j h h'=>ih j h h' (b3r hn j h))
  | agg cs vs hl h1 hr ih =>
    intro hn
    simp only [mentions] at hn
    exact .agg cs vs hl h1 (fun j h h'=>ih j h h' (b3r hn j h))
  | tuple cs vs hl hr ih =>
    intro hn
    simp only [mentions] at hn
    exact .tuple cs vs hl (fun j h h'=>ih j h h' (b3r hn j h))
mutual
theorem b4p (ks:List Nat):∀ {a:AV},noLocal a=true→mentions ks a=false
 | .bot,_=>rfl
 | .p _,_=>rfl
 | .rop _,_=>rfl
 | .ptr z ..,h=>by simp only [noLocal] at h;subst h;rfl
 | .own z ..,h=>by simp only [noLocal] at h;subst h;rfl
 | .nils,_=>rfl
 | .lit _,h=>by simp [noLocal] at h
 | .map z _,h=>by simp only [noLocal] at h;subst h;rfl
 | .func _ cs,h=>by simp only [noLocal] at h;simpa [mentions] using b2j ks h
 | .bound _ cs,h=>by simp only [noLocal] at h;simpa [mentions] using b2j ks h
 | .agg cs,h=>by simp only [noLocal] at h;simpa [mentions] using b2j ks h
 | .tuple cs,h=>by simp only [noLocal] at h;simpa [mentions] using b2j ks h
theorem b2j (ks:List Nat):∀ {l:List AV},b0n l=true→b2z ks l=false
  | [],_=>rfl
  | a :: l, h => by
    simp only [b0n,Bool.and_eq_true] at h
    simp [b2z,b4p ks h.1,b2j ks h.2]
end
theorem d4u (ks:List Nat) {o:AObj} (h:b2t o=true):o.mentions ks=false:=by
  cases o with
  | cells sz xs =>
    simp only [b2t,List.all_eq_true] at h
    simp only [AObj.mentions,List.any_eq_false,Bool.not_eq_true]
    exact fun x hx=>b2j ks (h x hx)
  | map es =>
    simp only [b2t,List.all_eq_true] at h
    simp only [AObj.mentions,List.any_eq_false,Bool.not_eq_true]
    exact fun x hx=>b4p ks (h x hx)
  | _=>rfl
theorem c7n (hs:∀ k o,lk l' k=some o→lk c.l k=some o) {z:Bool} {k:Nat} {ob:AObj} (hμ : (c.drop l').μ z k=c.μ z k) (h:b1v c z k ob) (hn:ob.mentions (l'.map (·.1))=false):b1v (c.drop l') z k ob:=by
  have row:∀ (m:Option Nat) (sz:Nat) (xs:List (List AV)),(∀ r ∈ xs,b2z (l'.map (·.1)) r=false)→b3q c m sz xs→b3q (c.drop l') m sz xs:=fun m sz xs hx hr=>by
    obtain ⟨h0,h1⟩:=hr
    refine ⟨h0,h1.imp id ?_⟩
    rintro ⟨b,cs,e,hb,hh,hs',hv⟩
    refine ⟨b,cs,e,hb,hh,hs',fun i j hi hj => ?_⟩
    obtain ⟨v,v1,v2,v3⟩:=hv i j hi hj
    exact ⟨v,v1,v2,b9w hs v3 (b3r (hx _ (List.getElem_mem hi)) j hj)⟩
  cases ob with
  | dead=>trivial
  | siter a b=>trivial
  | pcells sz xs =>
    simp only [b1v,hμ] at h ⊢
    refine row _ _ _ (fun r hr => ?_) h
    simp only [lift,List.mem_map] at hr
    obtain ⟨p,_,rfl⟩:=hr
    exact b2j _ (b5w p)
  | cells sz xs =>
    simp only [b1v,hμ] at h ⊢
    simp only [AObj.mentions,List.any_eq_false,Bool.not_eq_true] at hn
    exact row _ _ _ hn h
  | map es =>
    simp only [b1v,hμ] at h ⊢
    obtain ⟨b,es',clock,hb,hh,hs',hv⟩:=h
    refine ⟨b,es',clock,hb,hh,hs',fun i h1 h2 => ?_⟩
    obtain ⟨x1,x2,x3⟩:=hv i h1 h2
    simp only [AObj.mentions,List.any_eq_false,Bool.not_eq_true] at hn
    exact ⟨x1,c7l x2,b9w hs x3 (hn _ (List.getElem_mem h1))⟩
theorem g7l:∀ {α : Type} {l:List (Nat × α)} {k:Nat} {o : α},lk l k=some o→(k,o) ∈ l
  | _,[],k,o,h=>by simp [lk] at h
  | _, (a, v) :: l, k, o, h => by
    simp only [lk] at h
    split at h
    · rename_i e
      have:a=k:=beq_iff_eq.1 e
      subst this
      simp only [Option.some.injEq] at h
      subst h
      simp
    · exact List.mem_cons_of_mem _ (g7l h)
theorem c7o (hH : RelH Γ c) (hs : ∀ k o, lk l' k = some o → lk c.l k = some o) (hg : gOk c.g) (hm : ∀ e ∈ l', e.2.mentions (l'.map (·.1)) = false) : RelH Γ (c.drop l') where
  ground:=hH.ground
  objs z k ob hob:=by
    cases z
    · have hk:lk l' k=some ob:=by simpa [Cx.obj,Cx.drop] using hob
      refine c7n hs (c3v (by rw [hk];rfl)) (hH.objs false k ob ?_) (hm _ (g7l hk))
      simpa [Cx.obj] using hs k ob hk
    · rw [b6x] at hob
      refine c7n hs rfl (hH.objs true k ob hob) (d4u _ (hg ob ?_))
      simp only [Cx.obj,if_true] at hob
      exact List.mem_of_getElem? hob
  inj z k z' k' b h1 h2 := by
    have sub:∀ z k,(c.drop l').μ z k=some b→c.μ z k=some b:=fun z k h=>by
      cases z
      · simp only [Cx.drop,Bool.false_eq_true,if_false] at h
        split at h
        · exact h
        · cases h
      · exact h
    exact hH.inj _ _ _ _ _ (sub _ _ h1) (sub _ _ h2)
  live z k b h:=by
    cases z
    · simp only [Cx.drop,Bool.false_eq_true,if_false] at h
      split at h
      rotate_left
      · cases h
      rename_i hk
      obtain ⟨x1,x2,x3,ob,x4,x5⟩:=hH.live _ _ _ h
      exact ⟨x1,x2,x3,ob,(c1s hs hk).trans x4,x5⟩
    · obtain ⟨x1,x2,x3,ob,x4,x5⟩:=hH.live true k b h
      exact ⟨x1,x2,x3,ob,(b6x k).trans x4,x5⟩
  xlt:=hH.xlt
theorem d3g:Evo c (c.drop l') where
 X:=rfl
 size:=Nat.le_refl _
 tape:=rfl
 os:=rfl
 output:=rfl
 keep _ _ _:=rfl
 fresh b ho:=by
  obtain ⟨z,k,h⟩:=ho
  cases z
  ·simp only [Cx.drop,Bool.false_eq_true,if_false] at h
   split at h
   ·exact .inl ⟨false,k,h⟩
   ·cases h
  ·exact .inl ⟨true,k,h⟩
 objs k o ho:=⟨o,(b6x k).trans ho,fun m hm=>⟨m,hm,Nat.le_refl _,rfl,fun _=>⟨rfl,rfl,fun b cs e _ hh=>⟨cs,hh,rfl⟩⟩⟩⟩
theorem d2q {l : List (Nat × AObj)} : ∀ {ks : List Nat} {k : Nat} {o : AObj}, lk (c4v l ks) k = some o → lk l k = some o
  | [],k,o,h=>by simp [c4v,lk] at h
  | a :: ks, k, o, h => by
    simp only [c4v] at h
    split at h
    · rename_i v hv
      simp only [lk] at h
      split at h
      · rename_i e
        have:a=k:=beq_iff_eq.1 e
        subst this
        rw [← h];exact hv
      · exact d2q h
    · exact d2q h
theorem g0r {s:St}:∀ (ts:List Nat) (t:Nat),lk (ts.map fun t=>(t,s.get t)) t=if t ∈ ts then some (s.get t) else none
  | [],t=>rfl
  | a :: ts, t => by
    simp only [List.map_cons,lk]
    cases e:(a==t)
    · have:t≠a:=fun h=>by subst h;simp at e
      simp [g0r ts t,this]
    · have:a=t:=beq_iff_eq.1 e
      subst this
      simp
variable {s s':St} {a:Act} {n:Nat}
theorem g0u (hg:Good Γ c s a n) {ts ks:List Nat} (h:s.keep ts ks=some s'):∃ c',c'.w=c.w∧Good Γ c' s' a n∧Evo c c':=by
 unfold St.keep at h
 simp only at h
 split at h
 ·cases h
 rename_i hm
 simp only [Option.some.injEq] at h
 subst h
 simp only [Bool.or_eq_true,not_or,Bool.not_eq_true,List.any_eq_false] at hm
 obtain ⟨hm1,hm2⟩:=hm
 have hs:∀ k o,lk (c4v s.l ks) k=some o→lk c.l k=some o:=fun k o hk=>by rw [← hg.l];exact d2q hk
 refine ⟨c.drop (c4v s.l ks),rfl,⟨rfl,hg.g,c7o hg.H hs (by rw [← hg.g];exact hg.G) (fun e he=>by simpa using hm2 e he),fun t => ?_,hg.G,hg.N,hg.D⟩,d3g⟩
 show RelV _ (c3d (lk (ts.map fun t=>(t,s.get t)) t)) _
 rw [g0r]
 split
 ·rename_i ht
  show RelV _ (s.get t) _
  exact b9w hs (hg.F t) (by simpa using hm1 (t,s.get t) (List.mem_map.2 ⟨t,ht,rfl⟩))
 ·exact .bot _
end
end Go.TA
namespace Go.TA
def items:Code→List Code
 | .seq a b=>items a++items b
 | .skip=>[]
 | .label _=>[]
 | c=>[c]
def wpL (P:Program) (Q:Exit→Act→World→Prop):List Code→Act→World→Prop
 | [],a,w=>Q .normal a w
 | c::l,a,w=>c.wp P (Exit.then (wpL P Q l) Q) a w
section
variable {P:Program} {Q:Exit→Act→World→Prop}
theorem g5m {K K':Act→World→Prop} {e:Exit} {a:Act} {w:World} (h:Exit.then K Q e a w) (hK:e = .normal→K a w→K' a w):Exit.then K' Q e a w:=by
 cases e <;> simp only [Exit.then] at h ⊢ <;> first | exact hK rfl h | exact h
theorem c9x:∀ {l r:List Code} {a:Act} {w:World},wpL P Q (l++r) a w→wpL P (Exit.then (wpL P Q r) Q) l a w
  | [],r,a,w,h=>h
  | c :: l, r, a, w, h => by
    simp only [List.cons_append,wpL] at h ⊢
    refine wp_mono h (fun e a' w' he => ?_)
    cases e <;> simp only [Exit.then] at he ⊢ <;> first | exact c9x he | exact he
theorem b3s:∀ {c:Code} {Q:Exit→Act→World→Prop} {a:Act} {w:World},wpL P Q (items c) a w→c.wp P Q a w
  | .seq x y, Q, a, w, h => by
    have h1:=b3s (c9x (by simpa [items] using h))
    refine wp_seq (wp_mono h1 (fun e a' w' he=>g5m he (fun _ h=>b3s h)))
  | .skip,Q,a,w,h=>wp_skip h
  | .label _,Q,a,w,h=>wp_label h
  | .region ..,Q,a,w,h=>wp_mono h (fun e a' w' he=>by cases e <;> exact he)
  | .cond ..,Q,a,w,h=>wp_mono h (fun e a' w' he=>by cases e <;> exact he)
  | .block ..,Q,a,w,h=>wp_mono h (fun e a' w' he=>by cases e <;> exact he)
  | .loop ..,Q,a,w,h=>wp_mono h (fun e a' w' he=>by cases e <;> exact he)
  | .exit ..,Q,a,w,h=>wp_mono h (fun e a' w' he=>by cases e <;> exact he)
  | .goto ..,Q,a,w,h=>wp_mono h (fun e a' w' he=>by cases e <;> exact he)
  | .ret,Q,a,w,h=>wp_mono h (fun e a' w' he=>by cases e <;> exact he)
  | .scope ..,Q,a,w,h=>wp_mono h (fun e a' w' he=>by cases e <;> exact he)
  | .rangeFunc ..,Q,a,w,h=>wp_mono h (fun e a' w' he=>by cases e <;> exact he)
  | .refuse ..,Q,a,w,h=>wp_mono h (fun e a' w' he=>by cases e <;> exact he)
end
end Go.TA
namespace Go.TA
def d2j:List b1f→Bool
 | []=>true
 | x::l=>x.again.isEmpty && d2j l
def b2p (P:Program) (n:Nat):b1g→List Code→Bool
 | .skip,[]=>true
 | .region xs d _ _,[.region _ ops d']=>d==d' && (if d then d0x P n ops xs && d2j xs else b9a P n ops xs ops.toList)
 | .draw xs _ _,[.region _ ops d']=>d' && d0x P n ops xs
 | .seq a b,c::l=>b2p P n a [c] && b2p P n b l
 | .cond x a b,[.cond y c d]=>b2g x y && b2p P n a (items c) && b2p P n b (items d)
 | .block id a,[.block id' c]=>id==id' && b2p P n a (items c)
 | .loop a,[.loop c]=>b2p P n a (items c)
 | .exit id,.exit id'::_=>id==id'
 | .ret,.ret::_=>true
 | .keep _ _ c,l=>b2p P n c l
 | .stuck,_=>true
 | _,_=>false
def c7b:Ex→Exit
 | .normal => .normal
 | .exit id => .exit id
 | .ret => .ret
section
variable {P:Program} {Γ : b1c} {C:b0k} {n N:Nat}
theorem c1o:∀ {xs done:List b1f} {s s':St},d2j xs=true→b5m C xs s=some s'→runD C done xs s=some s'
  | [],done,s,s',_,h=>h
  | x :: xs, done, s, s', hn, h => by
    simp only [d2j,Bool.and_eq_true,List.isEmpty_iff] at hn
    simp only [b5m] at h
    obtain ⟨s1,h1,h2⟩:=Option.bind_eq_some_iff.1 h
    simp only [runD,g1y,h1,Option.bind_some,d6s,hn.1,List.all_nil,if_true]
    exact c1o hn.2 h2
theorem c6u {Q:Exit→Act→World→Prop} {c:Code} {a:Act} {w:World} (h:c.wp P Q a w):wpL P Q [c] a w:=wp_mono h (fun e a' w' he=>by cases e <;> exact he)
theorem d0p {Q:Exit→Act→World→Prop} {c:Code} {a:Act} {w:World} (h:wpL P Q [c] a w):c.wp P Q a w:=wp_mono h (fun e a' w' he=>by cases e <;> exact he)
theorem g4w {c : Code} {Q : Exit → Act → World → Prop} (R : Nat → Act → World → Prop) (round : ∀ m a w, R m a w → c.wp P (Exit.then (fun a' w' => ∃ m', m' < m ∧ R m' a' w') Q) a w) :
    ∀ (m:Nat) (a:Act) (w:World),R m a w→(Code.loop c).wp P Q a w:=by
  intro m a w hR b k cs
  have key:∀ m a w,R m a w→∃ e a' w',Q e a' w'∧Arrives P (lone (b.at a (.code c :: .inLoop c::k)) cs w) b k cs e a' w':=by
    intro m
    induction m using Nat.strongRecOn with
    | _ m ih =>
      intro a w hI
      obtain ⟨e,a₁,w₁,hq,harr⟩:=round m a w hI b (.inLoop c::k) cs
      cases e with
      | normal =>
        obtain ⟨m',hlt,hI₁⟩:=hq
        obtain ⟨e₂,a₂,w₂,hq₂,harr₂⟩:=ih m' hlt a₁ w₁ hI₁
        exact ⟨e₂,a₂,w₂,hq₂,.of_steps (Steps.trans harr (.one step_inLoop)) harr₂⟩
      | exit id=>exact ⟨_,a₁,w₁,hq,.pass (x:=.inLoop c) rfl (fun _ _ => .inl (by simp)) harr⟩
      | goto l=>exact ⟨_,a₁,w₁,hq,.pass (x:=.inLoop c) rfl (fun _ _ => .inl (by simp)) harr⟩
      | ret=>exact ⟨_,a₁,w₁,hq,.pass (x:=.inLoop c) rfl (fun _ _ => .inl (by simp)) harr⟩
      | panic ch=>exact ⟨_,a₁,w₁,hq,.pass (x:=.inLoop c) rfl (fun _ _ => .inl (by simp)) harr⟩
      | outgrown=>exact ⟨_,a₁,w₁,hq,.pass (x:=.inLoop c) rfl (fun _ _ => .inl (by simp)) harr⟩
  obtain ⟨e,a',w',hq,harr⟩:=key m a w hR
  exact ⟨e,a',w',hq,.of_steps (.one step_loop) harr⟩
theorem g0t {c:Cx} {s:St} {a:Act} (hg:Good Γ c s a n) {x:LOpd} {b:Bool} (h:s.arg x = .p (.bool b)):Good Γ c (s.know x b) a n:=by
 cases x with
 | t m=>exact hg.known h
 | _=>exact hg
theorem c4r {c:Cx} {s s':St} {a:Act} {ts ks:List Nat} {ex:Ex} {x:Option St} (hx:x=some s) (h:bn x ts ks=some (ex,s')) (hg:Good Γ c s a n) {Q:Exit→Act→World→Prop} (hQ:∀ c' a',Good Γ c' s' a' n→Evo c c'→Q (c7b ex) a' c'.w):Q .normal a c.w:=by
 subst hx
 simp only [bn,Option.bind_some,bn'] at h
 obtain ⟨s1,h1,h2⟩:=Option.bind_eq_some_iff.1 h
 simp only [Option.some.injEq,Prod.mk.injEq] at h2
 obtain ⟨rfl,rfl⟩:=h2
 obtain ⟨c',hw,hg',hE⟩:=g0u hg h1
 have:=hQ c' a hg' hE
 rw [hw] at this
 exact this
theorem d3s {x:Option St} {ts ks:List Nat} {r:Ex × St} (h:bn x ts ks=some r):∃ s,x=some s:=by
 cases x with
 | none=>simp [bn] at h
 | some s=>exact ⟨s,rfl⟩
theorem b3l (hm : P.follows .mixedOrders = true) (hC : b7q P Γ C) : ∀ (code : b1g) {cs : List Code}, b2p P n code cs = true → ∀ {c : Cx} {s s' : St} {a : Act} {ex : Ex}, Good Γ c s a n → b0r C N code s = some (ex, s') →
    ∀ {Q:Exit→Act→World→Prop},(∀ c' a',Good Γ c' s' a' n→Evo c c'→Q (c7b ex) a' c'.w)→wpL P Q cs a c.w
  | .stuck,cs,hok,c,s,s',a,ex,hg,h,Q,hQ=>by simp [b0r] at h
  | .skip, cs, hok, c, s, s', a, ex, hg, h, Q, hQ => by
    cases cs with
    | cons _ _=>simp [b2p] at hok
    | nil =>
      simp only [b0r,Option.some.injEq,Prod.mk.injEq] at h
      obtain ⟨rfl,rfl⟩:=h
      exact hQ c a hg (Evo.refl c)
  | .region xs d ts ks, cs, hok, c, s, s', a, ex, hg, h, Q, hQ => by
    unfold b2p at hok
    split at hok <;> try (cases hok;done)
    all_goals try contradiction
    rename_i heq
    injection heq with e1 e2 e3 e4
    subst e1 e2
    simp only [Bool.and_eq_true,beq_iff_eq] at hok
    obtain ⟨rfl,hok⟩:=hok
    simp only [b0r] at h
    obtain ⟨s1,hs1⟩:=d3s h
    refine c6u ?_
    split at hok
    · rename_i hd
      subst hd
      simp only [Bool.and_eq_true] at hok
      exact g1e hm hok.1 hC hg (c1o hok.2 hs1) (fun c' a' hg' hE=>c4r hs1 h hg' (fun c2 a2 hg2 hE2=>hQ c2 a2 hg2 (hE.evo.trans hE2)))
    · rename_i hd
      have hd:d=false:=by cases d <;> simp_all
      subst hd
      exact wp_region_list (d0c hC hok hg hs1 (fun c' a' hg' hE=>c4r hs1 h hg' (fun c2 a2 hg2 hE2=>hQ c2 a2 hg2 (hE.evo.trans hE2))))
  | .draw xs ts ks, cs, hok, c, s, s', a, ex, hg, h, Q, hQ => by
    unfold b2p at hok
    split at hok <;> try (cases hok;done)
    all_goals try contradiction
    rename_i heq
    injection heq with e1 e2 e3
    subst e1
    simp only [Bool.and_eq_true] at hok
    obtain ⟨rfl,hok⟩:=hok
    simp only [b0r] at h
    obtain ⟨s1,hs1⟩:=d3s h
    exact c6u (g1e hm hok hC hg hs1 (fun c' a' hg' hE=>c4r hs1 h hg' (fun c2 a2 hg2 hE2=>hQ c2 a2 hg2 (hE.evo.trans hE2))))
  | .seq x y, cs, hok, c, s, s', a, ex, hg, h, Q, hQ => by
    cases cs with
    | nil=>simp [b2p] at hok
    | cons cd l =>
      simp only [b2p,Bool.and_eq_true] at hok
      simp only [b0r] at h
      obtain ⟨⟨ex1,s1⟩,h1,h2⟩:=Option.bind_eq_some_iff.1 h
      refine d0p (b3l hm hC x hok.1 hg h1 (fun c' a' hg' hE => ?_))
      cases ex1 with
      | normal =>
        simp only [c1y] at h2
        exact b3l hm hC y hok.2 hg' h2 (fun c2 a2 hg2 hE2=>hQ c2 a2 hg2 (hE.trans hE2))
      | exit id =>
        simp only [c1y,Option.some.injEq,Prod.mk.injEq] at h2
        obtain ⟨rfl,rfl⟩:=h2
        exact hQ c' a' hg' hE
      | ret =>
        simp only [c1y,Option.some.injEq,Prod.mk.injEq] at h2
        obtain ⟨rfl,rfl⟩:=h2
        exact hQ c' a' hg' hE
  | .cond x u v, cs, hok, c, s, s', a, ex, hg, h, Q, hQ => by
    unfold b2p at hok
    split at hok <;> try (cases hok;done)
    all_goals try contradiction
    rename_i heq
    injection heq with e1 e2 e3
    subst e1 e2 e3
    simp only [Bool.and_eq_true] at hok
    obtain ⟨⟨hx,hu⟩,hv⟩:=hok
    simp only [b0r] at h
    split at h
    rotate_left
    · cases h
    rename_i b hb
    have hval:=(rhoA P hg.F).1 _ _ hx
    rw [hb] at hval
    refine c6u (wp_cond (b8e hval) ?_)
    split at h
    · rename_i hbt
      subst hbt
      exact b3s (b3l hm hC u hu (g0t hg hb) h hQ)
    · rename_i hbf
      have:b=false:=by cases b <;> simp_all
      subst this
      exact b3s (b3l hm hC v hv (g0t hg hb) h hQ)
  | .block id x, cs, hok, c, s, s', a, ex, hg, h, Q, hQ => by
    unfold b2p at hok
    split at hok <;> try (cases hok;done)
    all_goals try contradiction
    rename_i heq
    injection heq with e1 e2
    subst e1 e2
    simp only [Bool.and_eq_true,beq_iff_eq] at hok
    obtain ⟨rfl,hx⟩:=hok
    simp only [b0r,bb] at h
    obtain ⟨⟨ex1,s1⟩,h1,h2⟩:=Option.bind_eq_some_iff.1 h
    refine c6u (wp_block (b3s (b3l hm hC x hx hg h1 (fun c' a' hg' hE => ?_))))
    cases ex1 with
    | normal =>
      simp only [d1h,Option.some.injEq,Prod.mk.injEq] at h2
      obtain ⟨rfl,rfl⟩:=h2
      exact hQ c' a' hg' hE
    | exit i =>
      simp only [d1h] at h2
      simp only [c7b,Exit.inBlock]
      split at h2
      · rename_i e
        rw [if_pos e]
        simp only [Option.some.injEq,Prod.mk.injEq] at h2
        obtain ⟨rfl,rfl⟩:=h2
        exact hQ c' a' hg' hE
      · rename_i e
        rw [if_neg e]
        simp only [Option.some.injEq,Prod.mk.injEq] at h2
        obtain ⟨rfl,rfl⟩:=h2
        exact hQ c' a' hg' hE
    | ret =>
      simp only [d1h,Option.some.injEq,Prod.mk.injEq] at h2
      obtain ⟨rfl,rfl⟩:=h2
      exact hQ c' a' hg' hE
  | .loop x, cs, hok, c, s, s', a, ex, hg, h, Q, hQ => by
    unfold b2p at hok
    split at hok <;> try (cases hok;done)
    all_goals try contradiction
    rename_i heq
    injection heq with e1
    subst e1
    simp only [b0r] at h
    refine c6u (g4w (fun m a w=>∃ c1 s1,Good Γ c1 s1 a n∧c1.w=w∧Evo c c1∧d2p (fun s=>b0r C N x s) m s1=some (ex,s')) (fun m a1 w1 hR => ?_) N a c.w ⟨c,s,hg,rfl,Evo.refl c,h⟩)
    obtain ⟨c1,s1,hg1,rfl,hE1,hl⟩:=hR
    cases m with
    | zero=>simp [d2p] at hl
    | succ m =>
      simp only [d2p] at hl
      obtain ⟨⟨ex1,s2⟩,h1,h2⟩:=Option.bind_eq_some_iff.1 hl
      refine b3s (b3l hm hC x hok hg1 h1 (fun c' a' hg' hE => ?_))
      cases ex1 with
      | normal =>
        simp only [c1y] at h2
        exact ⟨m,by omega,c',s2,hg',rfl,hE1.trans hE,h2⟩
      | exit id =>
        simp only [c1y,Option.some.injEq,Prod.mk.injEq] at h2
        obtain ⟨rfl,rfl⟩:=h2
        exact hQ c' a' hg' (hE1.trans hE)
      | ret =>
        simp only [c1y,Option.some.injEq,Prod.mk.injEq] at h2
        obtain ⟨rfl,rfl⟩:=h2
        exact hQ c' a' hg' (hE1.trans hE)
  | .exit id, cs, hok, c, s, s', a, ex, hg, h, Q, hQ => by
    unfold b2p at hok
    split at hok <;> try (cases hok;done)
    all_goals try contradiction
    rename_i heq
    injection heq with e1
    subst e1
    have hok:id=_:=beq_iff_eq.1 hok
    subst hok
    simp only [b0r,Option.some.injEq,Prod.mk.injEq] at h
    obtain ⟨rfl,rfl⟩:=h
    exact wp_exit (hQ c a hg (Evo.refl c))
  | .ret, cs, hok, c, s, s', a, ex, hg, h, Q, hQ => by
    unfold b2p at hok
    split at hok <;> try (cases hok;done)
    all_goals try contradiction
    simp only [b0r,Option.some.injEq,Prod.mk.injEq] at h
    obtain ⟨rfl,rfl⟩:=h
    exact wp_ret (hQ c a hg (Evo.refl c))
  | .keep ts ks x, cs, hok, c, s, s', a, ex, hg, h, Q, hQ => by
    simp only [b2p] at hok
    simp only [b0r] at h
    obtain ⟨s1,h1,h2⟩:=Option.bind_eq_some_iff.1 h
    obtain ⟨c',hw,hg',hE⟩:=g0u hg h1
    have:=b3l hm hC x hok hg' h2 (fun c2 a2 hg2 hE2=>hQ c2 a2 hg2 (hE.trans hE2))
    rw [hw] at this
    exact this
  | .scope x, cs, hok, c, s, s', a, ex, hg, h, Q, hQ => by
    unfold b2p at hok
    cases hok
theorem d9x (hC:∀ f args g r g',C f args g=some (r,g')→b0n args=true→gOk g→gOk g') {x:b1f} {o:Op} (hok:opOk P x.op o=true) {s s':St} (hg:gOk s.g) (h:b2y C x s=some s'):gOk s'.g:=by
 obtain ⟨v,hv,h1⟩:=c2v h
 rcases h1 with ⟨hon,he⟩ | ⟨hoff,rfl,h1,h2⟩
 ·exact (gOk_op hC hok hg he :)
 ·rw [h2];exact hg
theorem d0d (hC:∀ f args g r g',C f args g=some (r,g')→b0n args=true→gOk g→gOk g'):∀ {xs:List b1f} {s s':St},(∀ x ∈ xs,∃ o,opOk P x.op o=true)→gOk s.g→b5m C xs s=some s'→gOk s'.g
  | [],s,s',_,hg,h=>by simp only [b5m,Option.some.injEq] at h;subst h;exact hg
  | x :: xs, s, s', hx, hg, h => by
    simp only [b5m] at h
    obtain ⟨s1,h1,h2⟩:=Option.bind_eq_some_iff.1 h
    obtain ⟨o,ho⟩:=hx x (by simp)
    exact d0d hC (fun y hy=>hx y (by simp [hy])) (d9x hC ho hg h1) h2
theorem g0a (hC:∀ f args g r g',C f args g=some (r,g')→b0n args=true→gOk g→gOk g'):∀ {xs done:List b1f} {s s':St},(∀ x ∈ xs,∃ o,opOk P x.op o=true)→gOk s.g→runD C done xs s=some s'→gOk s'.g
  | [],done,s,s',_,hg,h=>by simp only [runD,Option.some.injEq] at h;subst h;exact hg
  | x :: xs, done, s, s', hx, hg, h => by
    simp only [runD,g1y] at h
    obtain ⟨s1,h1,h2⟩:=Option.bind_eq_some_iff.1 h
    obtain ⟨s0,h0,h1⟩:=Option.bind_eq_some_iff.1 h1
    unfold d6s at h1
    split at h1
    rotate_left
    · cases h1
    simp only [Option.some.injEq] at h1
    subst h1
    obtain ⟨o,ho⟩:=hx x (by simp)
    exact g0a hC (fun y hy=>hx y (by simp [hy])) (d9x hC ho hg h0) h2
theorem c7s {ops:Array Oper}:∀ {xs:List b1f} {os:List Oper},b9a P n ops xs os=true→∀ x ∈ xs,∃ o,opOk P x.op o=true
  | [],_,_,x,hx=>by simp at hx
  | y::xs,[],h,x,hx=>by simp [b9a] at h
  | y :: xs, o :: os, h, x, hx => by
    simp only [b9a,Bool.and_eq_true] at h
    rcases List.mem_cons.1 hx with rfl | hx
    · simp only [c5n,Bool.and_eq_true] at h
      exact ⟨o.op,h.1.1.1.1⟩
    · exact c7s h.2 x hx
theorem d0w {ops:Array Oper} {xs:List b1f} (h:d0x P n ops xs=true):∀ x ∈ xs,∃ o,opOk P x.op o=true:=fun x hx=>by
 obtain ⟨p,hp,rfl⟩:=h7v hx
 obtain ⟨o,_,ho⟩:=(d6b h).all p hp
 simp only [c5n,Bool.and_eq_true] at ho
 exact ⟨o.op,ho.1.1.1⟩
theorem g0v {s s':St} {ts ks:List Nat} (h:s.keep ts ks=some s') (hg:gOk s.g):gOk s'.g:=by
 unfold St.keep at h
 simp only at h
 split at h
 ·cases h
 ·simp only [Option.some.injEq] at h;subst h;exact hg
theorem h4x {x:Option St} {ts ks:List Nat} {ex:Ex} {s':St} (h:bn x ts ks=some (ex,s')) (hx:∀ s,x=some s→gOk s.g):gOk s'.g:=by
 obtain ⟨s,rfl⟩:=d3s h
 simp only [bn,Option.bind_some,bn'] at h
 obtain ⟨s1,h1,h2⟩:=Option.bind_eq_some_iff.1 h
 simp only [Option.some.injEq,Prod.mk.injEq] at h2
 obtain ⟨rfl,rfl⟩:=h2
 exact g0v h1 (hx s rfl)
theorem h4p (s:St) (x:LOpd) (b:Bool):(s.know x b).g=s.g:=by cases x <;> rfl
theorem b5k (hC : ∀ f args g r g', C f args g = some (r, g') → b0n args = true → gOk g → gOk g') : ∀ (code : b1g) {cs : List Code}, b2p P n code cs = true → ∀ {s s' : St} {ex : Ex}, gOk s.g → b0r C N code s = some (ex, s') → gOk s'.g
  | .stuck,cs,hok,s,s',ex,hg,h=>by simp [b0r] at h
  | .skip, cs, hok, s, s', ex, hg, h => by
    simp only [b0r,Option.some.injEq,Prod.mk.injEq] at h
    rw [← h.2];exact hg
  | .region xs d ts ks, cs, hok, s, s', ex, hg, h => by
    unfold b2p at hok
    split at hok <;> try (cases hok;done)
    all_goals try contradiction
    rename_i heq
    injection heq with e1 e2 e3 e4
    subst e1 e2
    simp only [Bool.and_eq_true,beq_iff_eq] at hok
    simp only [b0r] at h
    refine h4x h (fun s1 hs1=>d0d (P:=P) hC ?_ hg hs1)
    split at hok
    · exact d0w (by simp only [Bool.and_eq_true] at hok;exact hok.2.1)
    · exact c7s hok.2
  | .draw xs ts ks, cs, hok, s, s', ex, hg, h => by
    unfold b2p at hok
    split at hok <;> try (cases hok;done)
    all_goals try contradiction
    rename_i heq
    injection heq with e1 e2 e3
    subst e1
    simp only [Bool.and_eq_true] at hok
    simp only [b0r] at h
    exact h4x h (fun s1 hs1=>g0a hC (d0w hok.2) hg hs1)
  | .seq x y, cs, hok, s, s', ex, hg, h => by
    cases cs with
    | nil=>simp [b2p] at hok
    | cons cd l =>
      simp only [b2p,Bool.and_eq_true] at hok
      simp only [b0r] at h
      obtain ⟨⟨ex1,s1⟩,h1,h2⟩:=Option.bind_eq_some_iff.1 h
      have hg1:=b5k hC x hok.1 hg h1
      cases ex1 with
      | normal=>exact b5k hC y hok.2 hg1 h2
      | exit id =>
        simp only [c1y,Option.some.injEq,Prod.mk.injEq] at h2
        rw [← h2.2];exact hg1
      | ret =>
        simp only [c1y,Option.some.injEq,Prod.mk.injEq] at h2
        rw [← h2.2];exact hg1
  | .cond x u v, cs, hok, s, s', ex, hg, h => by
    unfold b2p at hok
    split at hok <;> try (cases hok;done)
    all_goals try contradiction
    rename_i heq
    injection heq with e1 e2 e3
    subst e1 e2 e3
    simp only [Bool.and_eq_true] at hok
    simp only [b0r] at h
    split at h
    rotate_left
    · cases h
    split at h
    · exact b5k hC u hok.1.2 (by rw [h4p];exact hg) h
    · exact b5k hC v hok.2 (by rw [h4p];exact hg) h
  | .block id x, cs, hok, s, s', ex, hg, h => by
    unfold b2p at hok
    split at hok <;> try (cases hok;done)
    all_goals try contradiction
    rename_i heq
    injection heq with e1 e2
    subst e1 e2
    simp only [Bool.and_eq_true,beq_iff_eq] at hok
    simp only [b0r,bb] at h
    obtain ⟨⟨ex1,s1⟩,h1,h2⟩:=Option.bind_eq_some_iff.1 h
    have hg1:=b5k hC x hok.2 hg h1
    cases ex1 with
    | exit i =>
      simp only [d1h] at h2
      split at h2 <;> (simp only [Option.some.injEq,Prod.mk.injEq] at h2;rw [← h2.2];exact hg1)
    | _ =>
      simp only [d1h,Option.some.injEq,Prod.mk.injEq] at h2
      rw [← h2.2];exact hg1
  | .loop x, cs, hok, s, s', ex, hg, h => by
    unfold b2p at hok
    split at hok <;> try (cases hok;done)
    all_goals try contradiction
    rename_i heq
    injection heq with e1
    subst e1
    simp only [b0r] at h
    have key:∀ m (s1:St),gOk s1.g→d2p (fun s=>b0r C N x s) m s1=some (ex,s')→gOk s'.g:=by
      intro m
      induction m with
      | zero=>intro s1 _ h;simp [d2p] at h
      | succ m ih =>
        intro s1 hg1 hl
        simp only [d2p] at hl
        obtain ⟨⟨ex1,s2⟩,h1,h2⟩:=Option.bind_eq_some_iff.1 hl
        have hg2:=b5k hC x hok hg1 h1
        cases ex1 with
        | normal=>exact ih s2 hg2 h2
        | _ =>
          simp only [c1y,Option.some.injEq,Prod.mk.injEq] at h2
          rw [← h2.2];exact hg2
    exact key N s hg h
  | .exit id, cs, hok, s, s', ex, hg, h => by
    simp only [b0r,Option.some.injEq,Prod.mk.injEq] at h
    rw [← h.2];exact hg
  | .ret, cs, hok, s, s', ex, hg, h => by
    simp only [b0r,Option.some.injEq,Prod.mk.injEq] at h
    rw [← h.2];exact hg
  | .keep ts ks x, cs, hok, s, s', ex, hg, h => by
    simp only [b2p] at hok
    simp only [b0r] at h
    obtain ⟨s1,h1,h2⟩:=Option.bind_eq_some_iff.1 h
    exact b5k hC x hok (g0v h1 hg) h2
  | .scope x, cs, hok, s, s', ex, hg, h => by
    unfold b2p at hok
    cases hok
end
end Go.TA
namespace Go.TA
def b9q (P:Program):List LRes→List ResultVar→Bool
 | [],[]=>true
 | .tmp t::l,.tmp t'::r=>t==t' && b9q P l r
 | .cell t sz agg::l,.cell t' ty::r=>t==t' && szOk P ty sz agg && b9q P l r
 | _,_=>false
def fnOk (P:Program) (F:b0u) (fn:Func) (body:Code):Bool:=b9q P F.results fn.results.toList && b2p P (max F.nparams fn.ntmps) F.body (items body)
def d9n (P : Program) (Γ : b1c) (f : Nat) (args : List AV) (g : List AObj) (r : AV) (g' : List AObj) : Prop :=
  b4q P f=true∧gOk g'∧noLocal r=true ∧
    ∀ (c : Cx) (vs : List Value), c.l = [] → c.g = g → RelH Γ c → args.length = vs.length → (∀ j (h : j < args.length) (h' : j < vs.length), RelV c (args[j]) (vs[j])) →
      Calls P f vs.toArray c.w (fun e w'=>∃ v,e = .returned v∧Ans Γ c [] g' r v w')
def b5n (P:Program) (Γ : b1c) (f:Nat) (p:b0k→List AV→List AObj→Option (AV × List AObj)):Prop :=
 ∀ C,b7q P Γ C→∀ args g r g',p C args g=some (r,g')→b0n args=true→gOk g→d9n P Γ f args g r g'
def c9h (P:Program) (f:Nat) (F:b0u):Prop:=b4q P f=true∧∃ fn body,P.funcs[f]? = some fn∧fn.body=some body∧fnOk P F fn body=true
def TOk (P:Program) (Γ : b1c) (T:Nat→Option LFn):Prop:=∀ f,match T f with
 | some (.code F)=>c9h P f F
 | some (.prim p)=>b5n P Γ f p
 | none=>True
section
variable {P:Program} {Γ : b1c} {C:b0k} {n N:Nat} {c:Cx} {s:St} {a:Act}
def rvOf (tmps:Array Value):ResultVar→Sem Value
 | .tmp t=>pure (tmps.getD t undef)
 | .cell p t=>do loadVar t (← asAddr (tmps.getD p undef))
theorem d7s (hg:Good Γ c s a n):∀ {rs:List LRes} {vars:List ResultVar} {vs:List AV},b9q P rs vars=true→allM (c2e C s) rs=some vs →
    ∃ us:List Value,(vars.mapM (rvOf a.tmps)).run P c.w = .ok us c.w∧vs.length=us.length∧∀ j (h:j<vs.length) (h':j<us.length),RelV c (vs[j]) (us[j])
  | [], [], vs, _, h => by
    simp only [allM,Option.some.injEq] at h
    subst h
    exact ⟨[],by simp,rfl,by simp⟩
  | [],_::_,vs,h,_=>by simp [b9q] at h
  | .tmp _::_,[],vs,h,_=>by simp [b9q] at h
  | .cell .. :: _,[],vs,h,_=>by simp [b9q] at h
  | .tmp _::_,.cell .. :: _,vs,h,_=>by simp [b9q] at h
  | .cell .. :: _,.tmp _::_,vs,h,_=>by simp [b9q] at h
  | .tmp t :: rs, .tmp t' :: vars, vs, hok, h => by
    simp only [b9q,Bool.and_eq_true,beq_iff_eq] at hok
    obtain ⟨rfl,hok⟩:=hok
    simp only [allM] at h
    obtain ⟨v,hv,h⟩:=b0o h
    obtain ⟨vs',hvs,h⟩:=b0o h
    simp only [Option.some.injEq] at h
    subst h
    simp only [c2e,Option.some.injEq] at hv
    subst hv
    obtain ⟨us,h1,h2,h3⟩:=d7s hg hok hvs
    have e:(rvOf a.tmps (.tmp t)).run P c.w = .ok (a.tmps.getD t undef) c.w:=rfl
    refine ⟨a.tmps.getD t undef::us,by simp [List.mapM_cons,e,h1],by simp [h2],fun j h h' => ?_⟩
    cases j with
    | zero=>exact hg.F t
    | succ j=>exact h3 j (by simpa using h) (by simpa using h')
  | .cell t sz agg :: rs, .cell t' ty :: vars, vs, hok, h => by
    simp only [b9q,Bool.and_eq_true,beq_iff_eq] at hok
    obtain ⟨⟨rfl,hsz⟩,hok⟩:=hok
    simp only [allM] at h
    obtain ⟨v,hv,h⟩:=b0o h
    obtain ⟨vs',hvs,h⟩:=b0o h
    simp only [Option.some.injEq] at h
    subst h
    simp only [c2e] at hv
    obtain ⟨⟨v',s'⟩,hev,hv⟩:=b0o hv
    simp only [Option.some.injEq] at hv
    subst hv
    obtain ⟨ad,u,hu,hrun,_,hr⟩:=g0q (P:=P) hg.l hg.g hg.H hsz (x:=.t t) (hg.F t) hev
    obtain ⟨us,h1,h2,h3⟩:=d7s hg hok hvs
    have e:(rvOf a.tmps (.cell t ty)).run P c.w = .ok u c.w:=by
      simp only [rvOf,hu,asAddr,Sem.run_bind]
      simpa using hrun
    refine ⟨u::us,by simp [List.mapM_cons,e,h1],by simp [h2],fun j h h' => ?_⟩
    cases j with
    | zero=>exact hr
    | succ j=>exact h3 j (by simpa using h) (by simpa using h')
def c6n:List Value→Value
 | [u]=>u
 | us => .tuple us.toArray
theorem c2d (hg:Good Γ c s a n) {fn:Func} {rs:List LRes} {vs:List AV} (hok:b9q P rs fn.results.toList=true) (h:allM (c2e C s) rs=some vs) :
  ∃ us:List Value,(results fn a.tmps).run P c.w = .ok (c6n us) c.w∧vs.length=us.length∧∀ j (h:j<vs.length) (h':j<us.length),RelV c (vs[j]) (us[j]):=by
 obtain ⟨us,h1,h2,h3⟩:=d7s hg hok h
 refine ⟨us, ?_,h2,h3⟩
 have e:results fn a.tmps=(do let vs ← fn.results.mapM (rvOf a.tmps);pure (if h:vs.size=1 then vs[0] else .tuple vs)):=rfl
 rw [e,Array.mapM_eq_mapM_toList]
 simp only [Sem.run_bind,Sem.run_map,h1,Result.andThen_ok,map_eq_pure_bind]
 match us with
 | []=>rfl
 | [u]=>rfl
 | u::v::us=>simp [c6n]
theorem g8j {args : List AV} {vs : List Value} (hl : args.length = vs.length) (h : ∀ j (h : j < args.length) (h' : j < vs.length), RelV c (args[j]) (vs[j])) (m : Nat) (g : List AObj) :
    RelF c (b3w args g) { tmps:=vs.toArray++Array.replicate m undef,defers:=[] }:=by
  intro t
  have key:∀ (l:List AV) (k t:Nat),lk ((List.range' k l.length).zip l) (k+t)=l[t]? := by
    intro l
    induction l with
    | nil=>intro k t;rfl
    | cons a l ih =>
      intro k t
      simp only [List.length_cons,List.range'_succ,List.zip_cons_cons,lk]
      cases t with
      | zero=>simp
      | succ t =>
        have:(k==k+(t+1))=false:=by simp
        simp only [this,List.getElem?_cons_succ]
        have:=ih (k+1) t
        rw [show k+1+t=k+(t+1) by omega] at this
        exact this
  have e:(b3w args g).get t=c3d args[t]? := by
    simp only [b3w,St.get,List.range_eq_range']
    have:=key args 0 t
    rw [Nat.zero_add] at this
    rw [this]
  rw [e]
  by_cases ht:t<args.length
  · have ht':t<vs.length:=by omega
    rw [List.getElem?_eq_getElem ht]
    have:=h t ht ht'
    simpa [c3d,Array.getElem?_append,ht'] using this
  · rw [List.getElem?_eq_none (by omega)]
    exact .bot _
end
end Go.TA
namespace Go.TA
section
variable {P:Program} {Γ : b1c} {C:b0k} {n N:Nat} {c:Cx} {s:St} {a:Act}
theorem c4f {args:List AV} {vs:List Value} (hl:args.length=vs.length) (h:∀ j (h:j<args.length) (h':j<vs.length),RelV c (args[j]) (vs[j])) (hH:RelH Γ c) (hcl:c.l=[]) (hgo:gOk c.g) {np nt:Nat} (hp:args.length=np) :
  Good Γ c (b3w args c.g) { tmps:=vs.toArray++Array.replicate (nt - vs.toArray.size) undef,defers:=[] } (max np nt) where
 l:=hcl.symm
 g:=rfl
 H:=hH
 F:=g8j hl h _ _
 G:=hgo
 N:=by simp;omega
 D:=rfl
theorem h5v {vs:List AV} {us:List Value} (hl:vs.length=us.length) (h:∀ j (h:j<vs.length) (h':j<us.length),RelV c (vs[j]) (us[j])):RelV c (c5o vs) (c6n us):=by
 match vs,us,hl,h with
 | [],[],hl,h=>exact .tuple [] [] rfl (by simp)
 | [v],[u],hl,h=>exact h 0 (by simp) (by simp)
 | v::v'::vs,u::u'::us,hl,h=>exact .tuple _ _ hl h
theorem d7g {ps:List PV} {us:List Value} (hl:ps.length=us.length) (h:∀ j (h:j<ps.length) (h':j<us.length),RelP c.w c.N (ps[j]) (us[j])):RelV c (c1x ps) (c6n us):=by
 match ps,us,hl,h with
 | [],[],hl,h=>exact .tuple [] [] rfl (by simp)
 | [v],[u],hl,h=>exact .p _ _ (h 0 (by simp) (by simp))
 | v::v'::vs,u::u'::us,hl,h=>exact c1p hl h
theorem d8b {vs:List AV} (h:b0n vs=true):noLocal (c5o vs)=true:=by
 match vs,h with
 | [],_=>rfl
 | [v],h=>simpa [b0n,c5o] using h
 | v::v'::vs,h=>simpa [noLocal,c5o] using h
theorem c6y (ps:List PV):noLocal (c1x ps)=true:=by
 match ps with
 | []=>rfl
 | [v]=>rfl
 | v::v'::vs=>simp only [c1x,noLocal];exact b5w _
theorem g6c {F:b0u} {x:Option (Ex × St)} {r:AV} {g':List AObj} (h:br C F x=some (r,g')):∃ ex s',x=some (ex,s')∧(ex = .normal∨ex = .ret)∧b7i C F s'=some r∧g'=s'.g:=by
 unfold br at h
 obtain ⟨⟨ex,s'⟩,hx,h⟩:=Option.bind_eq_some_iff.1 h
 refine ⟨ex,s',hx, ?_⟩
 cases ex <;> simp only [retK,rr,Option.map_eq_some_iff,reduceCtorEq] at h
 all_goals
  obtain ⟨r',hr,h⟩:=h
  simp only [Prod.mk.injEq] at h
  obtain ⟨rfl,rfl⟩:=h
  simp [hr]
theorem g0g {fn:Func} {R:Ending→World→Prop} {ex:Ex} (he:ex = .normal∨ex = .ret) {a:Act} {w:World} {v:Value} (hd:a.defers=[]) (hr:(results fn a.tmps).run P w = .ok v w) (hR:R (.returned v) w):bodyPost P fn R (c7b ex) a w:=by
 rcases he with rfl | rfl <;> exact ⟨hd,v,hr,hR⟩
theorem g3y (hm:P.follows .mixedOrders=true) (hC:b7q P Γ C) {f:Nat} {F:b0u} (hF:c9h P f F) {args:List AV} {g:List AObj} {r:AV} {g':List AObj} (h:d4h C N F args g=some (r,g')) (hno:b0n args=true) (hgo:gOk g):d9n P Γ f args g r g':=by
 obtain ⟨hcal,fn,body,hfn,hbody,hok⟩:=hF
 simp only [fnOk,Bool.and_eq_true] at hok
 obtain ⟨hres,hcode⟩:=hok
 have hCg:∀ f args g r g',C f args g=some (r,g')→b0n args=true→gOk g→gOk g':=fun f args g r g' h1 h2 h3=>(hC f args g r g' h1 h2 h3).2.1
 unfold d4h at h
 split at h
 rotate_left
 ·cases h
 rename_i hlen
 split at h
 ·rename_i hpure
  split at h
  rotate_left
  ·cases h
  rename_i hargs
  obtain ⟨⟨r1,g1⟩,hbr,h⟩:=Option.map_eq_some_iff.1 h
  simp only [Prod.mk.injEq] at h
  obtain ⟨rfl,rfl⟩:=h
  obtain ⟨ex,s',hex,hee,hr,_⟩:=g6c hbr
  unfold b7i at hr
  obtain ⟨vs',hvs,hr⟩:=b0o hr
  rw [if_pos hpure] at hr
  obtain ⟨ps,hps,hr⟩:=b0o hr
  simp only [Option.some.injEq] at hr
  subst hr
  refine ⟨hcal,hgo,c6y ps,fun c vs hl hg hH hlv hrel => ?_⟩
  let X:Nat→Prop:=fun x=>c.X x∨c.Own x
  have hH0:=d0g hH X (fun b hb=>hb)
  have hN0:∀ b,c.N b→¬ X b:=fun b hb h=>h.elim hb.1 hb.2
  have hrel0:∀ j (h:j<args.length) (h':j<vs.length),RelV (c.alone X) (args[j]) (vs[j]):=fun j h h'=>d0f hN0 (List.all_eq_true.1 hargs _ (List.getElem_mem h)) (hrel j h h')
  refine calls_of_wp hfn hbody ?_
  have hg0:=c4f (c:=c.alone X) (nt:=fn.ntmps) hlv hrel0 hH0 rfl (fun o h=>by simp [Cx.alone] at h) hlen
  refine b3s (b3l hm hC F.body hcode hg0 hex (fun c' a' hg' hE => ?_))
  obtain ⟨us,hrun,hl1,hl2⟩:=c2d (C:=C) hg' hres hvs
  refine g0g hee hg'.D hrun ⟨_,rfl, ?_⟩
  obtain ⟨p1,p2⟩:=b6y hps
  have hbel:Go.RowKit.Below c.w.heap.size c.w c'.w:=⟨hE.os,hE.tape,hE.output,hE.size,fun k hk=>hE.keep k hk (c4h X k)⟩
  refine ⟨{ c with w:=c'.w },hl,hg,rfl,b4d hbel hH.lt,hH.below hbel,d7g (by omega) (fun j h1 h2 => ?_)⟩
  have hv:=c2t hg'.l hg'.g hg'.H 8 (p2 j (by omega) h1) (hl2 j (by omega) h2)
  exact hv.mono fun b hb hlt=>⟨by
   have hx:¬ X b:=by simpa [Cx.NX,hE.X,Cx.alone] using hb
   exact ⟨fun h=>hx (.inl h),fun h=>hx (.inr h)⟩,hlt,rfl⟩
 ·rename_i hpure
  obtain ⟨ex,s',hex,hee,hr,rfl⟩:=g6c h
  unfold b7i at hr
  obtain ⟨vs',hvs,hr⟩:=b0o hr
  rw [if_neg hpure] at hr
  split at hr
  rotate_left
  ·cases hr
  rename_i hnl
  simp only [Option.some.injEq] at hr
  subst hr
  have hgo':gOk s'.g:=b5k hCg F.body hcode (s:=b3w args g) hgo hex
  have hnr:=d8b hnl
  refine ⟨hcal,hgo',hnr,fun c vs hl hg hH hlv hrel => ?_⟩
  refine calls_of_wp hfn hbody ?_
  subst hg
  have hg0:=c4f (nt:=fn.ntmps) hlv hrel hH hl hgo hlen
  refine b3s (b3l hm hC F.body hcode hg0 hex (fun c' a' hg' hE => ?_))
  obtain ⟨us,hrun,hl1,hl2⟩:=c2d (C:=C) hg' hres hvs
  refine g0g hee hg'.D hrun ⟨_,rfl, ?_⟩
  have hs:∀ k o,lk ([]:List (Nat × AObj)) k=some o→lk c'.l k=some o:=fun k o h=>by simp [lk] at h
  refine ⟨c'.drop [],rfl,hg'.g.symm,rfl,(hE.trans d3g).evolve hl,c7o hg'.H hs (by rw [← hg'.g];exact hgo') (fun e h=>by simp at h), ?_⟩
  exact b9w hs (h5v hl1 hl2) (b4p _ hnr)
def b0f (P : Program) (f : Nat) (F : b0u) : Bool := b4q P f && match P.funcs[f]? with
  | some fn => (match fn.body with
    | some b=>fnOk P F fn b
    | none=>false)
  | none=>false
theorem b0d {f:Nat} {F:b0u} (h:b0f P f F=true):c9h P f F:=by
 unfold b0f at h
 simp only [Bool.and_eq_true] at h
 refine ⟨h.1, ?_⟩
 have h:=h.2
 split at h
 ·rename_i fn hfn
  split at h
  ·rename_i b hb
   exact ⟨fn,b,hfn,hb,h⟩
  ·cases h
 ·cases h
theorem c9e (hm:P.follows .mixedOrders=true) {T:Nat→Option LFn} (hT:TOk P Γ T):∀ n,b7q P Γ (b0g T n)
  | 0=>fun f args g r g' h=>by simp [b0g] at h
  | n + 1 => fun f args g r g' h hno hgo => by
    have hC:=c9e hm hT n
    have ht:=hT f
    simp only [b0g] at h
    cases e:T f with
    | none=>rw [e] at h;simp [h4y] at h
    | some x =>
      rw [e] at h ht
      cases x with
      | code F=>exact g3y hm hC ht h hno hgo
      | prim p=>exact ht _ hC args g r g' h hno hgo
end
end Go.TA


end
section
/- From what a statement reads to the machine, and back. -/
namespace Go.TA
inductive Sh where
 | bool
 | int (k:IntKind)
 | str
 | sl (e:Nat)
 deriving DecidableEq
def g3d : List (Option (List Sh))→Option (List Sh)
 | []=>some []
 | some a::l=>(g3d l).map (a ++ ·)
 | none::_=>none
def shOf (P : Program) : Nat → TypeId → Option (List Sh)
  | 0,_=>none
  | d + 1, t => match P.underlying t with
    | some .bool=>some [.bool]
    | some (.int k)=>some [.int k]
    | some .string=>some [.str]
    | some (.slice e)=>some [.sl e]
    | some (.struct fs)=>g3d (fs.toList.map fun f=>shOf P d f.type)
    | _=>none
def c5e (P:Program) (D:Nat) (gs:List TypeId):Bool:=gs.all fun t=>t<P.types.size && (shOf P D t).isSome && match P.underlying t with
 | some .bool | some (.int _) | some .string=>true
 | some (.slice e)=>gs.contains e
 | some (.struct fs)=>fs.toList.all fun f=>gs.contains f.type
 | _=>false
mutual
def okV (tb : Nat → Option (List Sh)) : Sh → PV → Prop
  | .bool,.bool _=>True
  | .int k,.int k' n=>k'=k∧(Lit.int k n).wf=true
  | .str,.str _=>True
  | .sl e, .list xs => match tb e with
    | some shs=>c9m tb shs xs
    | none=>False
  | _,_=>False
def okVs (tb:Nat→Option (List Sh)):List Sh→List PV→Prop
 | [],[]=>True
 | s::l,v::r=>okV tb s v∧okVs tb l r
 | _,_=>False
def c9m (tb:Nat→Option (List Sh)) (shs:List Sh):List (List PV)→Prop
 | []=>True
 | x::r=>okVs tb shs x∧c9m tb shs r
end
mutual
def PV.bulk:PV→Nat
 | .str s=>s.length+1
 | .list xs=>b3g xs+1
 | .agg cs=>b5y cs+1
 | _=>1
def b5y:List PV→Nat
 | []=>0
 | a::l=>PV.bulk a+b5y l
def b3g:List (List PV)→Nat
 | []=>0
 | a::l=>b5y a+b3g l
end
structure Bulk {H:Type} (B:DataW H→Nat) (BA:List (DataW H)→Nat):Prop where
 str:∀ bs,B (.lit (.string bs))=bs.length+1
 lit:∀ l,1≤B (.lit l)
 nil:1≤B .nil
 slice:∀ a b,B (.slice a b)=BA a+BA b+1
 agg:∀ a,B (.agg a)=BA a+1
 nilA:BA []=0
 consA:∀ d r,BA (d::r)=B d+BA r
def RelL (w:World) (N:Nat→Prop):List PV→List Value→Prop
 | [],[]=>True
 | p::l,v::r=>RelP w N p v∧v.oneCell'=true∧RelL w N l r
 | _,_=>False
section
variable {w:World} {N:Nat→Prop}
theorem RelL.len:∀ {l:List PV} {r:List Value},RelL w N l r→l.length=r.length
 | [],[],_=>rfl
 | _::_,_::_,⟨_,_,h⟩=>by simp [RelL.len h]
 | [],_::_,h=>h.elim
 | _::_,[],h=>h.elim
theorem RelL.get:∀ {l:List PV} {r:List Value},RelL w N l r→∀ j (h:j<l.length) (h':j<r.length),RelP w N (l[j]) (r[j])∧(r[j]).oneCell'=true
  | [],[],_,j,h,_=>by simp at h
  | p :: l, v :: r, ⟨a, b, h⟩, j, h1, h2 => by
    cases j with
    | zero=>exact ⟨a,b⟩
    | succ j=>exact RelL.get h j (by simpa using h1) (by simpa using h2)
  | [],_::_,h,_,_,_=>h.elim
  | _::_,[],h,_,_,_=>h.elim
theorem RelL.append:∀ {l l':List PV} {r r':List Value},RelL w N l r→RelL w N l' r'→RelL w N (l++l') (r++r')
 | [],_,[],_,_,h'=>h'
 | p::l,_,v::r,_,⟨a,b,h⟩,h'=>⟨a,b,RelL.append h h'⟩
 | [],_,_::_,_,h,_=>h.elim
 | _::_,_,[],_,h,_=>h.elim
theorem RelL.agg {l:List PV} {r:List Value} (h:RelL w N l r):RelP w N (.agg l) (.agg r.toArray):=by
 refine .agg l r h.len (fun v hv => ?_) (fun j h1 h2=>(h.get j h1 h2).1)
 obtain ⟨j,hj,rfl⟩:=List.getElem_of_mem hv
 exact (h.get j (by rw [h.len];exact hj) hj).2
end
theorem c7w {tb:Nat→Option (List Sh)}:∀ {a b:List Sh} {x y:List PV},okVs tb a x→okVs tb b y→okVs tb (a++b) (x++y)
 | [],_,[],_,_,h=>h
 | s::a,_,v::x,_,h,h'=>by simp only [okVs] at h;exact ⟨h.1,c7w h.2 h'⟩
 | [],_,_::_,_,h,_=>by simp [okVs] at h
 | _::_,_,[],_,h,_=>by simp [okVs] at h
theorem c5y:∀ (a b:List PV),b5y (a++b)=b5y a+b5y b
 | [],b=>by simp [b5y]
 | x::a,b=>by simp only [List.cons_append,b5y,c5y a b];omega
theorem g0l {tb:Nat→Option (List Sh)} {shs:List Sh}:∀ {xs:List (List PV)},(∀ i (h:i<xs.length),okVs tb shs (xs[i]))→c9m tb shs xs
 | [],_=>trivial
 | x::r,h=>⟨h 0 (by simp),g0l (fun i hi=>h (i+1) (by simpa using hi))⟩
theorem c8q {α : Type} {p:Nat → α → Prop}:∀ {n:Nat},(∀ i,i<n→∃ x,p i x)→∃ l:List α,l.length=n∧∀ i (h:i<l.length),p i (l[i])
  | 0,_=>⟨[],rfl,by simp⟩
  | n + 1, h => by
    obtain ⟨l,h1,h2⟩:=c8q (n:=n) (fun i hi=>h i (by omega))
    obtain ⟨x,hx⟩:=h n (by omega)
    refine ⟨l++[x],by simp [h1],fun i hi => ?_⟩
    by_cases e:i<l.length
    · rw [List.getElem_append_left e];exact h2 i e
    · have:i=n:=by simp at hi;omega
      subst this
      rw [List.getElem_append_right (by omega)]
      simpa using hx
section
variable {H:Type} {enc:TypeId × Value→H} {P:Program} {W:World} {base:Nat} {spare:Nat→Bool} {held:Bool} {B:DataW H→Nat} {BA:List (DataW H)→Nat} {D0:Nat} {gs:List TypeId}
abbrev Any:Nat→Prop:=fun _=>True
theorem c3y (h:c5e P D0 gs=true) {t:TypeId} (ht:t ∈ gs):t<P.types.size∧(shOf P D0 t).isSome=true∧(match P.underlying t with
 | some .bool | some (.int _) | some .string=>true
 | some (.slice e)=>gs.contains e
 | some (.struct fs)=>fs.toList.all fun f=>gs.contains f.type
 | _=>false)=true:=by
 simp only [c5e,List.all_eq_true,Bool.and_eq_true,decide_eq_true_eq] at h
 exact ⟨(h t ht).1.1,(h t ht).1.2,(h t ht).2⟩
def Told (P:Program) (W:World) (D0:Nat) (B:DataW H→Nat) (shs:List Sh) (cs:List Value) (d:DataW H):Prop:=∃ pvs,okVs (shOf P D0) shs pvs∧RelL W Any pvs cs∧b5y pvs≤B d
theorem c7a (hb : Bulk B BA) : ∀ (fs : List Field) (o : Nat) (cs : List Value) (oshs : List (Option (List Sh))) (ds : List (DataW H)) {shs : List Sh}, g3d oshs = some shs → oshs.length = fs.length → ds.length = fs.length →
    (∀ (j:Nat) (f:Field),fs[j]? = some f→f.offset=o+((fs.take j).map fun f=>P.cellsOf f.type).sum)→cs.length=o+(fs.map fun f=>P.cellsOf f.type).sum →
    (∀ (j:Nat) (f:Field) (s:List Sh) (d:DataW H),fs[j]? = some f→oshs[j]? = some (some s)→ds[j]? = some d→Told P W D0 B s ((cs.drop f.offset).take (P.cellsOf f.type)) d) →
    ∃ pvs,okVs (shOf P D0) shs pvs∧RelL W Any pvs (cs.drop o)∧b5y pvs≤BA ds
  | [], o, cs, oshs, ds, shs, hf, hl1, hl2, hoff, hlen, hall => by
    have:oshs=[]:=List.eq_nil_of_length_eq_zero hl1
    subst this
    have:ds=[]:=List.eq_nil_of_length_eq_zero hl2
    subst this
    simp only [g3d,Option.some.injEq] at hf
    subst hf
    refine ⟨[],trivial, ?_,by simp [b5y]⟩
    have:cs.drop o=[]:=List.drop_eq_nil_of_le (by simp at hlen;omega)
    rw [this];trivial
  | f :: fs, o, cs, oshs, ds, shs, hf, hl1, hl2, hoff, hlen, hall => by
    match oshs,ds,hl1,hl2 with
    | [],_,h,_=>simp at h
    | _::_,[],_,h=>simp at h
    | none::_,_::_,_,_=>simp [g3d] at hf
    | some s :: oshs, d :: ds, hl1, hl2 =>
      simp only [g3d,Option.map_eq_some_iff] at hf
      obtain ⟨shs',hf,rfl⟩:=hf
      have h0:f.offset=o:=by simpa using hoff 0 f rfl
      obtain ⟨p,p1,p2,p3⟩:=hall 0 f s d rfl rfl rfl
      rw [h0] at p2
      simp only [List.map_cons,List.sum_cons] at hlen
      obtain ⟨q,q1,q2,q3⟩:=c7a hb fs (o+P.cellsOf f.type) cs oshs ds hf (by simpa using hl1) (by simpa using hl2) (fun j g hg=>by
        have:=hoff (j+1) g (by simpa using hg)
        simp only [List.take_succ_cons,List.map_cons,List.sum_cons] at this
        omega) (by omega) (fun j g s' d' hg hs hd=>hall (j+1) g s' d' (by simpa using hg) (by simpa using hs) (by simpa using hd))
      refine ⟨p++q,c7w p1 q1, ?_,by rw [c5y,hb.consA];omega⟩
      have:=p2.append q2
      have e:(cs.drop o).take (P.cellsOf f.type)++cs.drop (o+P.cellsOf f.type)=cs.drop o:=by
        rw [← List.drop_drop];exact List.take_append_drop _ _
      rw [e] at this
      exact this
theorem c8x {a:Addr} {n:Nat} {cs:List Value} (h:W.cells? base a n=some cs):cs.length=n∧∀ i (hi:i<cs.length),W.cell? (a.add i)=some (cs[i]):=by
 unfold World.cells? at h
 split at h
 ·have hl:cs.length=n:=by simpa using mapM_some_length h
  refine ⟨hl,fun i hi => ?_⟩
  have hi':i<n:=by omega
  have:=mapM_some_get h i i (by simp [hi'])
  rw [this,List.getElem?_eq_getElem hi]
 ·cases h
theorem g5p {a:Addr} {v:Value} (h:W.cell? a=some v):a.spot=none:=by
 unfold World.cell? at h
 split at h
 ·split at h
  ·cases h
  ·rename_i hs;cases e:a.spot with
   | none=>rfl
   | some s=>rw [e] at hs;simp at hs
 ·cases h
theorem d1f (hb:Bulk B BA):∀ (ds:List (DataW H)) (xs:List (List PV)),xs.length=ds.length→(∀ i (h:i<xs.length) (h':i<ds.length),b5y (xs[i])≤B (ds[i]))→b3g xs≤BA ds
  | [],[],_,_=>by simp [b3g]
  | [],_::_,h,_=>by simp at h
  | _::_,[],h,_=>by simp at h
  | d :: ds, x :: xs, hl, h => by
    have h0:=h 0 (by simp) (by simp)
    have ih:=d1f hb ds xs (by simpa using hl) (fun i h1 h2=>h (i+1) (by simpa using h1) (by simpa using h2))
    simp only [b3g,hb.consA]
    simp only [List.getElem_cons_zero] at h0
    omega
theorem c6z (K : Kids P (· < P.types.size)) (hz : ∀ t e, t < P.types.size → P.underlying t = some (.slice e) → 0 < P.cellsOf e) (hb : Bulk B BA) (hc : c5e P D0 gs = true) :
    ∀ (n:Nat) (t:TypeId) (cs:List Value) (x:DataW H × List MemPlace) (D:Nat) (shs:List Sh),t ∈ gs→DataW.trod enc P W base spare held n t cs=some x→shOf P D t=some shs→Told P W D0 B shs cs x.1
  | 0,t,cs,x,D,shs,_,h,_=>by simp [DataW.trod] at h
  | n+1,t,cs,x,0,shs,_,_,h=>by simp [shOf] at h
  | n + 1, t, cs, x, D + 1, shs, hg, h, hs => by
    obtain ⟨hlt,_,hkind⟩:=c3y hc hg
    simp only [shOf] at hs
    split at hs
    · rename_i hu
      simp only [Option.some.injEq] at hs
      subst hs
      obtain ⟨b,rfl,rfl⟩:=DataW.trod_bool hu h
      exact ⟨[.bool b],⟨trivial,trivial⟩,⟨.bool b,rfl,trivial⟩,hb.lit _⟩
    · rename_i k hu
      simp only [Option.some.injEq] at hs
      subst hs
      obtain ⟨m,rfl,rfl,hw⟩:=DataW.trod_int hu h
      exact ⟨[.int k m],⟨⟨rfl,hw⟩,trivial⟩,⟨.int k m,rfl,trivial⟩,hb.lit _⟩
    · rename_i hu
      simp only [Option.some.injEq] at hs
      subst hs
      obtain ⟨s,rfl,rfl,hw⟩:=DataW.trod_string hu h
      exact ⟨[.str s.data.toList],⟨trivial,trivial⟩,⟨.str s.data.toList,rfl,trivial⟩,by simp [b5y,PV.bulk,hb.str]⟩
    · rename_i e hu
      simp only [Option.some.injEq] at hs
      subst hs
      rw [hu] at hkind
      have he:e ∈ gs:=by simpa using hkind
      obtain ⟨helt,hes,_⟩:=c3y hc he
      obtain ⟨es,hes⟩:=Option.isSome_iff_exists.1 hes
      rcases DataW.trod_slice hu h with ⟨rfl,rfl⟩ | ⟨a,len,cap,elems,rest,m,hm,rfl,rfl,hba,hlc,hcap,hel,hget,_⟩
      · refine ⟨[.list []],⟨?_,trivial⟩,⟨.none none 0 (by simp [maxLen]),rfl,trivial⟩, ?_⟩
        · simp only [okV,hes];trivial
        · have:=hb.nil;simpa [b5y,PV.bulk,b3g] using this
      · obtain rfl:n=m:=by omega
        have each:∀ i,i<len→∃ q:List PV × List Value,okVs (shOf P D0) es q.1∧RelL W Any q.1 q.2∧W.cells? base (a.add (i*P.cellsOf e)) (P.cellsOf e)=some q.2∧∀ y,elems[i]? = some y→b5y q.1≤B y.1:=by
          intro i hi
          have hi':i<elems.length:=by omega
          have hgi:=hget i hi
          rw [List.getElem?_eq_getElem hi'] at hgi
          obtain ⟨ci,hci,hti⟩:=Option.bind_eq_some_iff.1 hgi
          obtain ⟨p,p1,p2,p3⟩:=c6z K hz hb hc n e ci _ D0 es he hti hes
          refine ⟨(p,ci),p1,p2,hci,fun y hy => ?_⟩
          rw [List.getElem?_eq_getElem hi'] at hy
          simp only [Option.some.injEq] at hy
          rw [← hy];exact p3
        obtain ⟨qs,hql,hqs⟩:=c8q each
        have hcz:0<P.cellsOf e:=hz t e hlt hu
        refine ⟨[.list (qs.map (·.1))],⟨?_,trivial⟩,⟨?_,rfl,trivial⟩, ?_⟩
        · simp only [okV,hes]
          refine g0l (fun i hi => ?_)
          simp only [List.getElem_map]
          exact (hqs i (by simpa using hi)).1
        · rcases Nat.eq_zero_or_pos len with h0 | h0
          · have:qs=[]:=List.eq_nil_of_length_eq_zero (by omega)
            subst this
            subst h0
            exact .none (some a) cap hcap
          · -- its block
            have hspot:a.spot=none:=by
              obtain ⟨_,_,hc0,_⟩:=hqs 0 (by omega)
              obtain ⟨g1,g2⟩:=c8x hc0
              have:=g2 0 (by omega)
              simp only [Nat.zero_mul,Addr.add,if_true] at this
              exact g5p this
            obtain ⟨b,off,sp⟩:=a
            simp only at hspot
            subst hspot
            have hcell:∀ i j,(hi:i<qs.length)→(hj:j<P.cellsOf e)→∃ v,((qs[i]).2)[j]? = some v∧v.oneCell'=true∧W.cell? ⟨b,off+(i*P.cellsOf e+j),none⟩=some v:=by
              intro i j hi hj
              obtain ⟨_,h2,h3,_⟩:=hqs i hi
              obtain ⟨g1,g2⟩:=c8x h3
              have hj':j<((qs[i]).2).length:=by omega
              refine ⟨((qs[i]).2)[j],List.getElem?_eq_getElem hj',(h2.get j (by rw [h2.len];exact hj') hj').2, ?_⟩
              have:=g2 j hj'
              rw [c0s,c0s] at this
              rw [← this,Nat.add_assoc]
            have e0:len=(qs.map (·.1)).length:=by simp [hql]
            rw [e0]
            have hbs:b<W.heap.size:=by
              obtain ⟨v,_,_,hv⟩:=hcell 0 0 (by omega) hcz
              unfold World.cell? at hv
              split at hv
              · rename_i hb';exact (Array.getElem?_eq_some_iff.1 hb').1
              · cases hv
            refine .list _ b off cap (P.cellsOf e) (fun i j=>match qs[i]? with | some q=>(match q.2[j]? with | some v=>if v.oneCell'=true then v else .bool true | none => .bool true) | none => .bool true) trivial hbs (by simp;omega) hcap (fun i hi => ?_) (fun i j hi hj => ?_) (fun i j => ?_) (fun i j hi hj => ?_)
            · simp only [List.getElem_map]
              have hi':i<qs.length:=by simpa using hi
              obtain ⟨_,h2,h3,_⟩:=hqs i hi'
              rw [h2.len,(c8x h3).1]
            · have hi':i<qs.length:=by simpa using hi
              obtain ⟨v,v1,v2,v3⟩:=hcell i j hi' hj
              simp only [List.getElem?_eq_getElem hi',v1,v2,if_true]
              exact v3
            · split
              · split
                · split
                  · assumption
                  · rfl
                · rfl
              · rfl
            · have hi':i<qs.length:=by simpa using hi
              simp only [List.getElem_map] at hj ⊢
              obtain ⟨_,h2,h3,_⟩:=hqs i hi'
              have hj':j<((qs[i]).2).length:=by rw [← h2.len];exact hj
              have hr:=h2.get j hj hj'
              simp only [List.getElem?_eq_getElem hi',List.getElem?_eq_getElem hj',hr.2,if_true]
              exact hr.1
        · simp only [b5y,PV.bulk,hb.slice]
          have:=d1f hb (elems.map (·.1)) (qs.map (·.1)) (by simp;omega) (fun i h1 h2=>by
            simp only [List.getElem_map]
            have h2':i<elems.length:=by simpa using h2
            exact (hqs i (by simpa using h1)).2.2.2 _ (List.getElem?_eq_getElem h2'))
          omega
    · rename_i fs hu
      rw [hu] at hkind
      simp only [List.all_eq_true] at hkind
      obtain ⟨xs,m,hm,rfl,hlen,hxl,hget⟩:=DataW.trod_struct hu h
      obtain rfl:n=m:=by omega
      obtain ⟨k1,k2,k3⟩:=K.struct hlt hu
      have:=c7a (P:=P) (W:=W) (D0:=D0) hb fs.toList 0 cs (fs.toList.map fun f=>shOf P D f.type) (xs.map (·.1)) hs (by simp) (by simp [hxl]) (fun j f hf=>by
        have:=k3 j f hf
        omega) (by rw [hlen,k2];omega) (fun j f s d hf hsj hd=>by
          have hfa:fs[j]? = some f:=by simpa using hf
          have hgj:=hget j f hfa
          have hjx:j<xs.length:=by
            have:=(Array.getElem?_eq_some_iff.1 hfa).1
            omega
          rw [List.getElem?_eq_getElem hjx] at hgj
          rw [List.getElem?_map,List.getElem?_eq_getElem hjx] at hd
          simp only [Option.map_some,Option.some.injEq] at hd
          subst hd
          rw [List.getElem?_map,hf] at hsj
          simp only [Option.map_some,Option.some.injEq] at hsj
          exact c6z K hz hb hc n f.type _ _ D s (by simpa using hkind f (List.mem_of_getElem? hf)) hgj hsj)
      obtain ⟨p,p1,p2,p3⟩:=this
      refine ⟨p,p1,by simpa using p2, ?_⟩
      simp only [hb.agg]
      omega
    · cases hs
end
end Go.TA
namespace Go.TA
def aggT (P:Program) (t:TypeId):Bool:=match P.underlying t with
 | some (.struct _)=>true
 | _=>false
def h3t (agg:Bool) (pvs:List PV):PV:=if agg then .agg pvs else pvs.getD 0 .nilp
def h4o (P:Program) (D0:Nat):List TypeId→List (List PV)→Prop
 | [],[]=>True
 | t::ts,p::ps=>(∃ shs,shOf P D0 t=some shs∧okVs (shOf P D0) shs p)∧h4o P D0 ts ps
 | _,_=>False
def c1t (P:Program):List TypeId→List (List PV)→List PV
 | t::ts,p::ps=>h3t (aggT P t) p::c1t P ts ps
 | _,_=>[]
section
variable {H:Type} {enc:TypeId × Value→H} {P:Program} {W W':World} {base:Nat} {spare:Nat→Bool} {held:Bool} {B:DataW H→Nat} {BA:List (DataW H)→Nat} {D0:Nat} {gs:List TypeId}
theorem h8f {t:TypeId} {D:Nat} {shs:List Sh} (h:shOf P D t=some shs) (ha:aggT P t=false):shs.length=1:=by
  cases D with
  | zero=>simp [shOf] at h
  | succ D =>
    simp only [shOf] at h
    split at h
    all_goals first | (simp only [Option.some.injEq] at h;subst h;rfl) | (simp [aggT, *] at ha;done) | cases h
theorem g9e (hc:c5e P D0 gs=true) {t:TypeId} (ht:t ∈ gs) (ha:aggT P t=false) {v:Value} {r:Reach} {b:Nat} (hv:Value.okWide P W r b t v):v.cells.toList=[v]:=by
 obtain ⟨_,_,hk⟩:=c3y hc ht
 cases v <;> try rfl
 rename_i cs
 unfold aggT at ha
 split at ha
 ·cases ha
 split at hk <;> rename_i hu <;> simp_all [Value.okWide,Cell.okWide,Cell.ok]
theorem h3x {t:TypeId} (ha:aggT P t=true) {v:Value} {r:Reach} {b:Nat} (hv:Value.okWide P W r b t v):∃ cs:List Value,v = .agg cs.toArray∧v.cells.toList=cs:=by
 unfold aggT at ha
 split at ha
 ·rename_i fs hu
  simp only [Value.okWide,hu] at hv
  obtain ⟨cs,rfl,_⟩:=hv
  exact ⟨cs.toList,by simp,rfl⟩
 ·cases ha
theorem g1p (K : Kids P (· < P.types.size)) (hz : ∀ t e, t < P.types.size → P.underlying t = some (.slice e) → 0 < P.cellsOf e) (hb : Bulk B BA) (hc : c5e P D0 gs = true) :
    ∀ {ts:List TypeId} {vs:List Value} {ds:List (DataW H)} {ps:List MemPlace},DataW.TrodAll enc P W base spare held ts vs ds ps→(∀ t ∈ ts,t ∈ gs)→(∀ (j:Nat) t v,ts[j]? = some t→vs[j]? = some v→∃ r b,Value.okWide P W r b t v) →
    ∃ pss,h4o P D0 ts pss∧b3g pss≤BA ds∧(c1t P ts pss).length=vs.length∧∀ j (h:j<(c1t P ts pss).length) (h':j<vs.length),RelP W Any ((c1t P ts pss)[j]) (vs[j])
  | [],[],[],_,_,_,_=>⟨[],trivial,by simp [b3g],rfl,by simp [c1t]⟩
  | t :: ts, v :: vs, d :: ds, _, ⟨p, q, ⟨n, hn⟩, h2, _⟩, hg, hw => by
    obtain ⟨pss,q1,q2,q3,q4⟩:=g1p K hz hb hc h2 (fun t ht=>hg t (by simp [ht])) (fun j t v h1 h2=>hw (j+1) t v (by simpa using h1) (by simpa using h2))
    have ht:=hg t (by simp)
    obtain ⟨_,hs,_⟩:=c3y hc ht
    obtain ⟨shs,hs⟩:=Option.isSome_iff_exists.1 hs
    obtain ⟨pvs,p1,p2,p3⟩:=c6z K hz hb hc n t _ _ D0 shs ht hn hs
    obtain ⟨r,b,hov⟩:=hw 0 t v rfl rfl
    refine ⟨pvs::pss,⟨⟨shs,hs,p1⟩,q1⟩,by simp only [b3g,hb.consA];simp only at p3;omega,by simp [c1t,q3],fun j h h' => ?_⟩
    cases j with
    | succ j=>exact q4 j (by simpa [c1t] using h) (by simpa using h')
    | zero =>
      simp only [c1t,List.getElem_cons_zero]
      cases ha:aggT P t with
      | true =>
        obtain ⟨cs,rfl,hcs⟩:=h3x ha hov
        rw [hcs] at p2
        simpa [h3t] using p2.agg
      | false =>
        have hl:=h8f hs ha
        rw [g9e hc ht ha hov] at p2
        have:=p2.get 0 (by rw [p2.len];simp) (by simp)
        simp only [List.getElem_cons_zero] at this
        have hp:0<pvs.length:=by rw [p2.len];simp
        simp only [h3t,Bool.false_eq_true,if_false,b3v PV.nilp hp]
        exact this.1
theorem d6m:∀ {ts:List TypeId} {vs:List Value} {ds:List (DataW H)} {ps:List MemPlace},DataW.TrodAll enc P W base spare held ts vs ds ps→(∀ p ∈ ps,W.sameAt W' p)→DataW.TrodAll enc P W' base spare held ts vs ds ps
 | [],[],[],_,h,_=>h
 | _::_,_::_,_::_,_,⟨p,q,⟨n,hn⟩,h2,e⟩,hs=>⟨p,q,⟨n,DataW.trod_carry n _ _ _ hn (fun x hx=>hs x (by rw [e];exact List.mem_append_left _ hx))⟩,d6m h2 (fun x hx=>hs x (by rw [e];exact List.mem_append_right _ hx)),e⟩
theorem d9u:∀ {ts:List TypeId} {vs:List Value} {ds:List (DataW H)} {ps:List MemPlace},DataW.TrodAll enc P W base spare held ts vs ds ps→ds.length=ts.length
 | [],[],[],_,_=>rfl
 | _::_,_::_,_::_,_,⟨_,_,_,h,_⟩=>by simp [d9u h]
theorem g2c (h:Go.RowKit.Below W.heap.size W W') {p:MemPlace} (hp:p.block<W.heap.size):W.sameAt W' p:=by
 cases p with
 | cell b off=>exact World.cell?_of_block (a:=⟨b,off,none⟩) (h.block b hp)
 | map b=>exact h.block b hp
theorem h2k (K:Kids P (· < P.types.size)) (hz:∀ t e,t<P.types.size→P.underlying t=some (.slice e)→0<P.cellsOf e) {f:Func} {s:ChangeSpec} {apart fresh handsOn:Bool} {args:Array Value} {ds gs:List (DataW H)} {before:List MemPlace}
  (hW:DataW.Whole enc P f.params.toList s.vars apart W args.toList ds gs before) (hv:s.vars=[]) {tb:TypeId} (hr:f.resultTypes = #[tb]) (hu:P.underlying tb=some .bool) (hp:∀ t ∈ f.params.toList,t<P.types.size)
  (hspec:s.fn H ds = { results:=[.lit (.bool true)],args:=ds }) (hB:Go.RowKit.Below W.heap.size W W'):s.post enc P f apart fresh handsOn false W args (.bool true) W':=by
 have hW':=hW
 obtain ⟨p,q,h1,h2,rfl,h4,h5⟩:=hW
 rw [hv] at h2
 obtain ⟨rfl,rfl⟩:=Go.ChangeShapes.trodVars_none h2
 have hlt:=h1.lt
 have hold:∀ x ∈ p,(fun b=>decide (b<W.heap.size)) x.block=true:=fun x hx=>by simpa using hlt x hx
 refine ⟨ds,[],p++[],[],p,[],hW', ?_, ?_, ?_,hB.frame _,fun h=>by cases h⟩
 ·rw [hr,List.append_nil,hspec]
  exact ⟨[],[],⟨1,by simp [DataW.trod,hu,Value.cells]⟩,rfl,rfl⟩
 ·rw [List.append_nil,hspec]
  exact (d6m h1 (fun x hx=>g2c hB (hlt x hx))).respare K hz hp hold
 ·rw [hv,List.append_nil,hspec]
  exact rfl
def Γ0:b1c:=⟨0,fun _=>True,fun _ _=>Nat.zero_le _,fun _ _ _ _ _=>trivial⟩
def Cx.zero (W:World):Cx:=⟨fun _=>False,fun _ _=>none,[],[],W⟩
theorem g6h {Γ : b1c} (W:World) (hW : Γ.holds W):RelH Γ (Cx.zero W) where
 ground:=hW
 objs z k ob hob:=by cases z <;> simp [Cx.obj,Cx.zero,lk] at hob
 inj z k z' k' b h:=by simp [Cx.zero] at h
 live z k b h:=by simp [Cx.zero] at h
 xlt b hb:=hb.elim
theorem d5i {Γ : b1c} (hW : Γ.holds W) (hm:P.follows .mixedOrders=true) {T:Nat→Option LFn} (hT:TOk P Γ T) {n f:Nat} {ps:List PV} {g':List AObj} (h:b0g T n f (ps.map .p) []=some (.p (.bool true),g')) {args:Array Value}
  (hl:ps.length=args.size) (hr:∀ j (h:j<ps.length) (h':j<args.toList.length),RelP W Any (ps[j]) (args.toList[j])):Calls P f args W fun e W'=>e = .returned (.bool true)∧Go.RowKit.Below W.heap.size W W':=by
 obtain ⟨_,_,_,h4⟩:=c9e hm hT n f _ [] _ _ h (b5w ps) (fun o h=>by simp at h)
 have hN:∀ b,(Cx.zero W).N b:=fun b=>⟨fun h=>h,fun ⟨z,k,h⟩=>by simp [Cx.zero] at h⟩
 have:=h4 (Cx.zero W) args.toList rfl rfl (g6h W hW) (by simpa using hl) (fun j h h'=>by
  simp only [List.getElem_map]
  exact .p _ _ ((hr j (by simpa using h) h').mono fun b _ hb=>⟨hN b,hb,rfl⟩))
 rw [Array.toArray_toList] at this
 refine Calls.mono this (fun e w' he => ?_)
 obtain ⟨v,rfl,c',_,_,rfl,hE,_,hv⟩:=he
 exact ⟨by rw [b8e hv],hE.os,hE.tape,hE.output,hE.size,fun k hk=>hE.keep k hk (fun ⟨z,k,h⟩=>by simp [Cx.zero] at h)⟩
end
def h9s (P:Program) (Γ : b1c) (e:Nat × LFn):Prop:=match e.2 with
 | .code F=>c9h P e.1 F
 | .prim p=>b5n P Γ e.1 p
theorem h8e {P:Program} {Γ : b1c} {tab:List (Nat × LFn)} (h:∀ e ∈ tab,h9s P Γ e):TOk P Γ (fun k=>lk tab k):=fun f=>by
  change match lk tab f with
    | some (.code F)=>c9h P f F
    | some (.prim p)=>b5n P Γ f p
    | none=>True
  cases e:lk tab f with
  | none=>trivial
  | some x =>
    have:=h (f,x) (g7l e)
    cases x <;> exact this
end Go.TA


end
section
/- Values of the machine, read as data. -/
namespace Go.TA
section
variable {tb:Nat→Option (List Sh)}
theorem b9k {l:List Sh} {ps:List PV} (h:okVs tb (.str::l) ps):∃ s r,ps = .str s::r∧okVs tb l r:=by
  cases ps with
  | nil=>simp [okVs] at h
  | cons p r =>
    simp only [okVs] at h
    cases p <;> simp [okV] at h
    exact ⟨_,r,rfl,h⟩
theorem c5d {k:IntKind} {l:List Sh} {ps:List PV} (h:okVs tb (.int k::l) ps):∃ n r,ps = .int k n::r∧(Lit.int k n).wf=true∧okVs tb l r:=by
  cases ps with
  | nil=>simp [okVs] at h
  | cons p r =>
    simp only [okVs] at h
    cases p <;> simp [okV] at h
    obtain ⟨⟨rfl,hw⟩,hr⟩:=h
    exact ⟨_,r,rfl,hw,hr⟩
theorem c6s {e:Nat} {l:List Sh} {ps:List PV} {es:List Sh} (ht:tb e=some es) (h:okVs tb (.sl e::l) ps):∃ xs r,ps = .list xs::r∧c9m tb es xs∧okVs tb l r:=by
  cases ps with
  | nil=>simp [okVs] at h
  | cons p r =>
    simp only [okVs] at h
    cases p <;> simp [okV,ht] at h
    exact ⟨_,r,rfl,h.1,h.2⟩
theorem c8t {ps:List PV} (h:okVs tb [] ps):ps=[]:=by
 cases ps with
 | nil=>rfl
 | cons p r=>simp [okVs] at h
def d5n (n:Int):Prop := -9223372036854775808≤n∧n≤9223372036854775807
theorem c9y {n:Int} (h:(Lit.int .i64 n).wf=true):d5n n:=by
 simpa [Lit.wf,IntKind.min,IntKind.max,IntKind.signed,IntKind.bits,d5n] using h
theorem c8u:∀ {xs:List (List PV)},c9m tb [.str,.str] xs→∃ l:List Attr,xs=l.map Attr.pv
  | [],_=>⟨[],rfl⟩
  | x :: xs, h => by
    simp only [c9m] at h
    obtain ⟨l,rfl⟩:=c8u h.2
    obtain ⟨a,r1,rfl,h1⟩:=b9k h.1
    obtain ⟨b,r2,rfl,h2⟩:=b9k h1
    obtain rfl:=c8t h2
    exact ⟨⟨a,b⟩::l,rfl⟩
def opSh (a:Nat):List Sh:=[.int .i64,.int .i64,.int .i64,.int .i64,.str,.str,.str,.str,.sl a]
def GOp.ok (x:GOp):Prop:=d5n x.kind∧d5n x.node∧d5n x.up∧d5n x.before
theorem h9d {a:Nat} (ha:tb a=some [.str,.str]) {ps:List PV} (h:okVs tb (opSh a) ps):∃ x:GOp,ps=x.pv∧x.ok:=by
 unfold opSh at h
 obtain ⟨k,r1,rfl,w1,h1⟩:=c5d h
 obtain ⟨n,r2,rfl,w2,h2⟩:=c5d h1
 obtain ⟨u,r3,rfl,w3,h3⟩:=c5d h2
 obtain ⟨b,r4,rfl,w4,h4⟩:=c5d h3
 obtain ⟨s1,r5,rfl,h5⟩:=b9k h4
 obtain ⟨s2,r6,rfl,h6⟩:=b9k h5
 obtain ⟨s3,r7,rfl,h7⟩:=b9k h6
 obtain ⟨s4,r8,rfl,h8⟩:=b9k h7
 obtain ⟨xs,r9,rfl,hx,h9⟩:=c6s ha h8
 obtain rfl:=c8t h9
 obtain ⟨l,rfl⟩:=c8u hx
 exact ⟨⟨k,n,u,b,s1,s2,s3,s4,l⟩,rfl,c9y w1,c9y w2,c9y w3,c9y w4⟩
theorem g9b {a:Nat} (ha:tb a=some [.str,.str]):∀ {xs:List (List PV)},c9m tb (opSh a) xs→∃ l:List GOp,xs=l.map GOp.pv∧∀ x ∈ l,x.ok
  | [],_=>⟨[],rfl,by simp⟩
  | x :: xs, h => by
    simp only [c9m] at h
    obtain ⟨l,rfl,hl⟩:=g9b ha h.2
    obtain ⟨y,rfl,hy⟩:=h9d ha h.1
    exact ⟨y::l,rfl,by simpa using ⟨hy,hl⟩⟩
theorem c5f:∀ (l:List Attr),(∀ a ∈ l,a.value.length+a.name.length+2≤b3g (l.map Attr.pv))∧l.length≤b3g (l.map Attr.pv)
  | []=>by simp [b3g]
  | a :: l => by
    obtain ⟨h1,h2⟩:=c5f l
    simp only [List.map_cons,b3g,Attr.pv,b5y,PV.bulk,List.length_cons]
    refine ⟨fun b hb => ?_,by omega⟩
    rcases List.mem_cons.1 hb with rfl | hb
    · omega
    · have:=h1 b hb;omega
theorem g9i (x:GOp):b5y x.pv=8+x.tag.length+x.key.length+x.name.length+x.text.length+b3g (x.attrs.map Attr.pv)+1:=by
 simp only [GOp.pv,b0b,b5y,PV.bulk];omega
end
end Go.TA


end
section
/- Rows, as Lean has them. -/
namespace Go.TA
structure GRow where
 id:Int
 up:Int
 tag:Bs
 key:Bs
 text:Bs
 attrs:List Attr
 deriving DecidableEq
def GRow.pv (x:GRow):List PV:=[.int .i64 x.id,.int .i64 x.up,.str x.tag,.str x.key,.str x.text,b0b x.attrs]
def h0y (a:Nat):List Sh:=[.int .i64,.int .i64,.str,.str,.str,.sl a]
def GRow.ok (x:GRow):Prop:=d5n x.id∧d5n x.up
section
variable {tb:Nat→Option (List Sh)}
theorem h7c {a:Nat} (ha:tb a=some [.str,.str]) {ps:List PV} (h:okVs tb (h0y a) ps):∃ x:GRow,ps=x.pv∧x.ok:=by
 unfold h0y at h
 obtain ⟨k,r1,rfl,w1,h1⟩:=c5d h
 obtain ⟨n,r2,rfl,w2,h2⟩:=c5d h1
 obtain ⟨s1,r5,rfl,h5⟩:=b9k h2
 obtain ⟨s2,r6,rfl,h6⟩:=b9k h5
 obtain ⟨s3,r7,rfl,h7⟩:=b9k h6
 obtain ⟨xs,r9,rfl,hx,h9⟩:=c6s ha h7
 obtain rfl:=c8t h9
 obtain ⟨l,rfl⟩:=c8u hx
 exact ⟨⟨k,n,s1,s2,s3,l⟩,rfl,c9y w1,c9y w2⟩
theorem g1g {a:Nat} (ha:tb a=some [.str,.str]):∀ {xs:List (List PV)},c9m tb (h0y a) xs→∃ l:List GRow,xs=l.map GRow.pv∧∀ x ∈ l,x.ok
  | [],_=>⟨[],rfl,by simp⟩
  | x :: xs, h => by
    simp only [c9m] at h
    obtain ⟨l,rfl,hl⟩:=g1g ha h.2
    obtain ⟨y,rfl,hy⟩:=h7c ha h.1
    exact ⟨y::l,rfl,by simpa using ⟨hy,hl⟩⟩
end
def b2x (l:List Attr):Prop:=∀ a ∈ l,a.value.length+a.name.length≤1048576
structure GRow.small (n:Nat) (x:GRow):Prop where
 attrs:x.attrs.length<n
 small:b2x x.attrs
 text:x.text.length+x.key.length+x.tag.length≤1048576
structure Rows.small (n:Nat) (l:List GRow):Prop where
 len:l.length<n
 row:∀ x ∈ l,x.small n
structure GRow.mid (n:Nat) (x:GRow):Prop where
 attrs:x.attrs.length<n
 small:b2x x.attrs
structure Rows.mid (n:Nat) (l:List GRow):Prop where
 len:l.length<n
 row:∀ x ∈ l,x.mid n
theorem Rows.small.mid {n:Nat} {l:List GRow} (h:Rows.small n l):Rows.mid n l:=⟨h.len,fun x hx=>⟨(h.row x hx).attrs,(h.row x hx).small⟩⟩
theorem g1m (x:GRow):b5y x.pv=5+x.tag.length+x.key.length+x.text.length+b3g (x.attrs.map Attr.pv)+1:=by
 simp only [GRow.pv,b0b,b5y,PV.bulk];omega
theorem g5q {n:Nat} {x:GRow} (h:b5y x.pv≤n) (hn:n≤1048576):x.small n:=by
 rw [g1m] at h
 obtain ⟨h1,h2⟩:=c5f x.attrs
 exact ⟨by omega,fun a ha=>by have:=h1 a ha;omega,by omega⟩
theorem d6n:∀ (l:List GRow),(∀ x ∈ l,b5y x.pv≤b3g (l.map GRow.pv))∧l.length≤b3g (l.map GRow.pv)
  | []=>by simp [b3g]
  | a :: l => by
    obtain ⟨h1,h2⟩:=d6n l
    have:=g1m a
    simp only [List.map_cons,b3g,List.length_cons]
    refine ⟨fun b hb => ?_,by omega⟩
    rcases List.mem_cons.1 hb with rfl | hb
    · omega
    · have:=h1 b hb;omega
theorem g2a {n:Nat} {l:List GRow} (h:b3g (l.map GRow.pv)<n) (hn:n≤1048577):Rows.small n l:=by
 obtain ⟨h1,h2⟩:=d6n l
 refine ⟨by omega,fun x hx => ?_⟩
 have h3:=h1 x hx
 have h4:=g5q (n:=n - 1) (x:=x) (by omega) (by omega)
 exact ⟨by have:=h4.attrs;omega,h4.small,h4.text⟩
end Go.TA


end
section
/- Rows of numbers; what is found among rows; whether attributes are the same. Plain. -/
namespace Go.TA
def b0p (l:List Int):List (List PV):=l.map fun i=>[PV.int .i64 i]
theorem b3c (l:List Int):(b0p l).length=l.length:=by simp [b0p]
theorem d8p (l:List Int) (i:Int):b0p l++[[PV.int .i64 i]]=b0p (l++[i]):=by simp [b0p]
theorem b7b {l:List Int} {i:Nat} {v:Int} (h:l[i]? = some v):(b0p l).getD i []=[PV.int .i64 v]:=by
 unfold b0p;rw [List.getD_eq_getElem?_getD,List.getElem?_map,h];rfl
def h4s (l:List GRow) (id:Int):Option Nat:=l.findIdx? (fun x=>x.id==id)
def idAt (o:Option Nat):Int:=match o with
 | some k=>k
 | none => -1
def h5d (x y:GRow):Bool:=decide (x.tag=y.tag∧x.key=y.key∧x.text=y.text∧x.attrs=y.attrs)
def j2s (b:List GRow) (x:GRow):List Int:=match h4s b x.id with
 | some _=>[]
 | none=>[x.id]
def h9y (a:List GRow) (y:GRow):List Int:=match h4s a y.id with
 | some k=>(match a[k]? with | some x=>if h5d x y=true then [] else [y.id] | none=>[])
 | none=>[]
def h8h (x:GRow):AV:=.p (.agg x.pv)
def h8x (es:List (PV × AV)) (x:GRow):List (PV × AV):=if (mlk 1 es (.int .i64 x.id)).isSome=true then es else mput 1 es (.int .i64 x.id) (h8h x)
def fm (l:List GRow):List (PV × AV):=l.foldl h8x []
def h8v (es:List (PV × AV)):Prop:=∀ e ∈ es,∃ n,e.1 = .int .i64 n
def j2t (es:List (PV × AV)) (l:List GRow):Prop:=h8v es∧∀ id,mlk 1 es (.int .i64 id)=(l.find? fun x=>x.id==id).map h8h
end Go.TA


end
section
/- The handles above a row. Plain. -/
namespace Go.TA
def upAt (l:List GRow) (x:Nat):Nat:=((l[x - 1]?).map (fun r=>r.up.toNat)).getD 0
def b1k (l:List GRow) (i:Nat):Prop:=∀ (j:Nat) x,j<i→l[j]? = some x→0≤x.up∧x.up≤j
def anc (l:List GRow):Nat→Nat→List Nat
 | 0,_=>[]
 | _+1,0=>[]
 | f+1,x+1=>(x+1)::anc l f (upAt l (x+1))
def b3n (l:List GRow) (x:Nat):List Nat:=anc l x x
theorem b4k (l:List GRow):b3n l 0=[]:=rfl
theorem b5q {l:List GRow} {i x:Nat} (h:b1k l i) (hx:x<i) (hl:x<l.length):upAt l (x+1)≤x:=by
 obtain ⟨r,hr⟩:=b0t hl
 have:=h x r hx hr
 simp [upAt,hr]
 omega
theorem h3u {l : List GRow} {i : Nat} (h : b1k l i) (hi : i ≤ l.length) : ∀ (x f : Nat), x ≤ i → x ≤ f → anc l f x = anc l x x := by
  intro x
  induction x using Nat.strongRecOn with
  | _ x ih =>
    intro f hx hf
    cases x with
    | zero=>cases f <;> rfl
    | succ x =>
      cases f with
      | zero=>omega
      | succ f =>
        simp only [anc]
        have hu:=b5q h (x:=x) (by omega) (by omega)
        rw [ih _ (by omega) f (by omega) (by omega),ih _ (by omega) x (by omega) (by omega)]
theorem b3k {l:List GRow} {i x:Nat} (h:b1k l i) (hi:i≤l.length) (hx:x<i):b3n l (x+1)=(x+1)::b3n l (upAt l (x+1)):=by
 have hu:=b5q h hx (by omega)
 unfold b3n
 simp only [anc]
 rw [h3u h hi _ x (by omega) hu]
theorem c8w {l:List GRow}:∀ {f x:Nat} {y:Nat},y ∈ anc l f x→0<y
  | 0,_,_,h=>by simp [anc] at h
  | f+1,0,_,h=>by simp [anc] at h
  | f + 1, x + 1, y, h => by
    simp only [anc,List.mem_cons] at h
    rcases h with rfl | h
    · omega
    · exact c8w h
theorem d3r {l : List GRow} {i : Nat} (h : b1k l i) (hi : i ≤ l.length) : ∀ (x : Nat), x ≤ i → ∀ y ∈ b3n l x, y ≤ x := by
  intro x
  induction x using Nat.strongRecOn with
  | _ x ih =>
    intro hx y hy
    cases x with
    | zero=>simp [b4k] at hy
    | succ x =>
      rw [b3k h hi hx] at hy
      have hu:=b5q h (x:=x) (by omega) (by omega)
      rcases List.mem_cons.1 hy with rfl | hy
      · omega
      · have:=ih _ (by omega) (by omega) y hy
        omega
theorem b1k.mono {l:List GRow} {i j:Nat} (h:b1k l i) (hij:j≤i):b1k l j:=fun k x hk hx=>h k x (by omega) hx
def b3m (l:List GRow) (x:Nat) (h:Int):Bool:=(b3n l x).any fun y=>(y:Int)==h
def b3h (l:List GRow) (i:Nat) (x:GRow):Bool:=if i=0 then x.up==0 else decide (1≤x.up) && b3m l i x.up
def b1q (l:List GRow):Nat→List GRow→Bool
 | _,[]=>true
 | i,x::r=>b3h l i x && b1q l (i+1) r
def b4c (l:List GRow):Bool:=b1q l 0 l
theorem b8d {l:List GRow} {i:Nat} {x:GRow} (h:b1k l i) (hi:i≤l.length) (hx:l[i]? = some x) (hr:b3h l i x=true):b1k l (i+1):=by
 intro j y hj hy
 by_cases e:j=i
 ·subst e
  rw [hx] at hy
  cases hy
  unfold b3h at hr
  split at hr
  ·rename_i h0
   subst h0
   have:x.up=0:=by simpa using hr
   omega
  ·simp only [Bool.and_eq_true,decide_eq_true_eq,b3m,List.any_eq_true,beq_iff_eq] at hr
   obtain ⟨h1,y,hy,he⟩:=hr
   have:=d3r h hi j (Nat.le_refl _) y hy
   omega
 ·exact h j y (by omega) hy
theorem b9t (l:List GRow):b1k l 0:=fun j x hj=>by omega
theorem h3y {l:List GRow} {x:Nat} {h:Int} (ha:b3m l x h=true):0<h:=by
 simp only [b3m,List.any_eq_true,beq_iff_eq] at ha
 obtain ⟨y,hy,he⟩:=ha
 have:=c8w hy
 omega
theorem c8l {l:List GRow}:∀ {i:Nat},b1q l i (l.drop i)=true→∀ (j:Nat) x,i≤j→l[j]? = some x→b3h l j x=true:=by
  intro i h j x hij hj
  obtain ⟨d,rfl⟩:∃ d,j=i+d:=⟨j - i,by omega⟩
  induction d generalizing i with
  | zero =>
    have e:l.drop i=x::l.drop (i+1):=by rw [List.drop_eq_getElem?_toList_append];simp at hj;rw [hj];rfl
    rw [e] at h
    simp only [b1q,Bool.and_eq_true] at h
    simpa using h.1
  | succ d ih =>
    have hlt:i<l.length:=by
      have:=(List.getElem?_eq_some_iff.1 hj).1
      omega
    obtain ⟨y,hy⟩:=b0t hlt
    have e:l.drop i=y::l.drop (i+1):=by rw [List.drop_eq_getElem?_toList_append,hy];rfl
    rw [e] at h
    simp only [b1q,Bool.and_eq_true] at h
    have:=ih h.2 (by omega) (by rw [← hj];congr 1;omega)
    rw [show i+(d+1)=i+1+d by omega]
    exact this
theorem b9h {l:List GRow} (h:b4c l=true):b1k l l.length:=by
  have hr:=c8l (i:=0) (by simpa [b4c] using h)
  have key:∀ i,i≤l.length→b1k l i:=by
    intro i
    induction i with
    | zero=>intro _;exact b9t l
    | succ i ih =>
      intro hi
      obtain ⟨x,hx⟩:=b0t (show i<l.length by omega)
      exact b8d (ih (by omega)) (by omega) hx (hr i x (by omega) hx)
  exact key _ (Nat.le_refl _)
end Go.TA


end
section
/- The machine's memory: its nodes, and their kids' rows. Plain. -/
namespace Go.TA
structure b3o where
 live:Bool
 up:Int
 tag:Bs
 key:Bs
 text:Bs
 attrs:List Attr
def b1t (s:b3o) (k:AV):List AV:=[.p (.bool s.live),.p (.int .i64 s.up),k,.p (.str s.tag),.p (.str s.key),.p (.str s.text),.p (.list (s.attrs.map Attr.pv))]
def b0x (N:Nat) (st:Nat→b3o) (av:Nat→AV):List (List AV):=(List.range N).map fun h=>b1t (st h) (av h)
def upd {α : Type} (f:Nat → α) (h:Nat) (v : α):Nat → α := fun k=>if k=h then v else f k
theorem b0l {α : Type} (f:Nat → α) (h:Nat) (v : α):upd f h v h=v:=by simp [upd]
theorem b0i {α : Type} {f:Nat → α} {h k:Nat} {v : α} (hk:k≠h):upd f h v k=f k:=by simp [upd,hk]
section
variable {N:Nat} {st:Nat→b3o} {av:Nat→AV}
theorem b2i:(b0x N st av).length=N:=by simp [b0x]
theorem b1y {h:Nat} (hh:h<N):(b0x N st av).getD h []=b1t (st h) (av h):=by
 rw [List.getD_eq_getElem?_getD,b0x,List.getElem?_map,List.getElem?_range hh];rfl
theorem c7g (s:b3o) (a:AV):b0x N st av++[b1t s a]=b0x (N+1) (upd st N s) (upd av N a):=by
 simp only [b0x,List.range_succ,List.map_append,List.map_cons,List.map_nil,b0l]
 congr 1
 apply List.map_congr_left
 intro h hh
 have:h≠N:=by have:=List.mem_range.1 hh;omega
 simp [upd,this]
theorem b5s {h:Nat} (hh:h<N) (s:b3o) (a:AV):(b0x N st av).set h (b1t s a)=b0x N (upd st h s) (upd av h a):=by
 apply List.ext_getElem
 ·simp [b0x]
 ·intro k h1 h2
  rw [List.getElem_set]
  simp only [b0x,List.getElem_map,List.getElem_range]
  by_cases e:h=k
  ·subst e;simp [upd]
  ·rw [if_neg e]
   have e':k≠h:=fun e'=>e e'.symm
   simp [upd,e']
theorem b3p {st':Nat→b3o} {av':Nat→AV} (h:∀ k,k<N→st k=st' k∧av k=av' k):b0x N st av=b0x N st' av':=by
 unfold b0x
 apply List.map_congr_left
 intro k hk
 obtain ⟨h1,h2⟩:=h k (List.mem_range.1 hk)
 rw [h1,h2]
end
def b2o:AV→Option Nat
 | .own true k _=>some k
 | _=>none
inductive KRep (rest:List AObj):AV→List Int→Prop
 | none:KRep rest .nils []
 | own {r:Nat} {ks:List Int}:rest[r]? = some (.pcells 1 (b0p ks))→KRep rest (.own true (r+1+1) ks.length) ks
 | list {ks:List Int}:KRep rest (.p (.list (b0p ks))) ks
structure MOk (N:Nat) (av:Nat→AV) (kd:Nat→List Int) (rest:List AObj):Prop where
 kids:∀ h,h<N→KRep rest (av h) (kd h)
 disj:∀ h h',h<N→h'<N→h≠h'→b2o (av h)=none∨b2o (av h)≠b2o (av h')
def b0m (N:Nat) (st:Nat→b3o) (av:Nat→AV) (rest:List AObj):List AObj:=.cells 7 (b0x N st av) :: .cells 1 [[.own true 0 N]]::rest
section
variable {N:Nat} {st:Nat→b3o} {av:Nat→AV} {kd:Nat→List Int} {rest:List AObj}
theorem KRep.inv {a:AV} {ks:List Int} (h:KRep rest a ks):(a = .nils∧ks=[])∨(∃ r,a = .own true (r+1+1) ks.length∧rest[r]? = some (.pcells 1 (b0p ks)))∨a = .p (.list (b0p ks)):=by
 cases h with
 | none=>exact .inl ⟨rfl,rfl⟩
 | own h=>exact .inr (.inl ⟨_,rfl,h⟩)
 | list=>exact .inr (.inr rfl)
theorem KRep.more {a:AV} {ks:List Int} (h:KRep rest a ks) (r:List AObj):KRep (rest++r) a ks:=by
 cases h with
 | none=>exact .none
 | own h=>exact .own (by rw [List.getElem?_append_left (List.getElem?_eq_some_iff.1 h).1];exact h)
 | list=>exact .list
theorem KRep.set {a:AV} {ks:List Int} (h:KRep rest a ks) {r:Nat} {o:AObj} (hr:b2o a≠some (r+1+1)):KRep (rest.set r o) a ks:=by
  cases h with
  | none=>exact .none
  | own h =>
    refine .own ?_
    rw [List.getElem?_set,if_neg (fun e=>hr (by rw [e];rfl))]
    exact h
  | list=>exact .list
theorem KRep.ref_lt {a:AV} {ks:List Int} (h:KRep rest a ks) {k:Nat} (hk:b2o a=some k):k<rest.length+1+1:=by
  cases h with
  | none=>cases hk
  | own h =>
    simp only [b2o,Option.some.injEq] at hk
    have:=(List.getElem?_eq_some_iff.1 h).1
    omega
  | list=>cases hk
theorem MOk.push (h : MOk N av kd rest) : MOk (N + 1) (upd av N .nils) (upd kd N []) rest where
  kids k hk:=by
    by_cases e:k=N
    · subst e;rw [b0l,b0l];exact .none
    · rw [b0i e,b0i e];exact h.kids k (by omega)
  disj k k' hk hk' hne:=by
    by_cases e:k=N
    · subst e;left;rw [b0l];rfl
    · rw [b0i e]
      by_cases e':k'=N
      · subst e'
        rw [b0l]
        cases hr:b2o (av k) with
        | none=>exact .inl rfl
        | some q=>exact .inr (by simp [b2o])
      · rw [b0i e'];exact h.disj k k' (by omega) (by omega) hne
theorem MOk.fresh (h : MOk N av kd rest) {u : Nat} (hu : u < N) (ks : List Int) : MOk N (upd av u (.own true (rest.length + 1 + 1) ks.length)) (upd kd u ks) (rest ++ [.pcells 1 (b0p ks)]) where
  kids k hk:=by
    by_cases e:k=u
    · subst e;rw [b0l,b0l];exact .own (by simp)
    · rw [b0i e,b0i e];exact (h.kids k hk).more _
  disj k k' hk hk' hne:=by
    by_cases e:k=u
    · subst e
      rw [b0l,b0i (fun e=>hne e.symm)]
      right
      intro he
      have:=(h.kids k' hk').ref_lt (k:=rest.length+1+1) he.symm
      omega
    · rw [b0i e]
      by_cases e':k'=u
      · subst e'
        rw [b0l]
        cases hr:b2o (av k) with
        | none=>exact .inl rfl
        | some q =>
          right
          have:=(h.kids k hk).ref_lt hr
          simp only [b2o,ne_eq,Option.some.injEq]
          omega
      · rw [b0i e'];exact h.disj k k' hk hk' hne
theorem MOk.turn (h : MOk N av kd rest) {u r : Nat} (hu : u < N) (hr : av u = .own true (r + 1 + 1) (kd u).length) (hrl : r < rest.length) (ks : List Int) : MOk N (upd av u (.own true (r + 1 + 1) ks.length)) (upd kd u ks) (rest.set r (.pcells 1 (b0p ks))) where
  kids k hk:=by
    by_cases e:k=u
    · subst e;rw [b0l,b0l];exact .own (by simp [List.getElem?_set,hrl])
    · rw [b0i e,b0i e]
      refine (h.kids k hk).set ?_
      rcases h.disj k u hk hu e with h1 | h1
      · rw [h1];simp
      · rw [hr] at h1;exact h1
  disj k k' hk hk' hne:=by
    have e0:∀ ks:List Int,b2o (AV.own true (r+1+1) ks.length)=b2o (av u):=fun ks=>by rw [hr];rfl
    by_cases e:k=u
    · subst e
      rw [b0l,b0i (fun e=>hne e.symm),e0]
      exact h.disj k k' hk hk' hne
    · rw [b0i e]
      by_cases e':k'=u
      · subst e'
        rw [b0l,e0]
        exact h.disj k k' hk hk' hne
      · rw [b0i e'];exact h.disj k k' hk hk' hne
theorem MOk.fix (h : MOk N av kd rest) {u : Nat} (hu : u < N) (ks : List Int) : MOk N (upd av u (.p (.list (b0p ks)))) (upd kd u ks) rest where
  kids k hk:=by
    by_cases e:k=u
    · subst e;rw [b0l,b0l];exact .list
    · rw [b0i e,b0i e];exact h.kids k hk
  disj k k' hk hk' hne:=by
    by_cases e:k=u
    · subst e;left;rw [b0l];rfl
    · rw [b0i e]
      by_cases e':k'=u
      · subst e'
        rw [b0l]
        cases hr:b2o (av k) with
        | none=>exact .inl rfl
        | some q=>exact .inr (by simp [b2o])
      · rw [b0i e'];exact h.disj k k' hk hk' hne
end
structure Fr (N:Nat) (av:Nat→AV) (rest:List AObj) (N':Nat) (av':Nat→AV) (rest':List AObj):Prop where
 len:rest.length≤rest'.length
 keep:∀ j,j<rest.length→(∀ h,h<N→b2o (av h)≠some (j+1+1))→rest'[j]? = rest[j]?
 refs:∀ h,h<N'→∀ j,b2o (av' h)=some (j+1+1)→j<rest.length→∃ h0,h0<N∧b2o (av h0)=some (j+1+1)
theorem Fr.refl (N:Nat) (av:Nat→AV) (rest:List AObj):Fr N av rest N av rest:=⟨Nat.le_refl _,fun _ _ _=>rfl,fun h hh j hj _=>⟨h,hh,hj⟩⟩
theorem Fr.trans {N N' N'':Nat} {av av' av'':Nat→AV} {rest rest' rest'':List AObj} (h1:Fr N av rest N' av' rest') (h2:Fr N' av' rest' N'' av'' rest''):Fr N av rest N'' av'' rest'' where
 len:=Nat.le_trans h1.len h2.len
 keep j hj hn:=by
  rw [h2.keep j (Nat.lt_of_lt_of_le hj h1.len) (fun h hh e=>by
   obtain ⟨h0,hh0,e0⟩:=h1.refs h hh j e hj
   exact hn h0 hh0 e0)]
  exact h1.keep j hj hn
 refs h hh j hj hl:=by
  obtain ⟨h1',hh1,e1⟩:=h2.refs h hh j hj (Nat.lt_of_lt_of_le hl h1.len)
  exact h1.refs h1' hh1 j e1 hl
theorem Fr.more (N:Nat) (av:Nat→AV) (rest more:List AObj):Fr N av rest N av (rest++more):=⟨by simp,fun j hj _=>List.getElem?_append_left hj,fun h hh j hj _=>⟨h,hh,hj⟩⟩
theorem Fr.push (N:Nat) (av:Nat→AV) (rest:List AObj):Fr N av rest (N+1) (upd av N .nils) rest:=⟨Nat.le_refl _,fun _ _ _=>rfl,fun h hh j hj _=>by
 by_cases e:h=N
 ·subst e;rw [b0l] at hj;cases hj
 ·rw [b0i e] at hj;exact ⟨h,by omega,hj⟩⟩
def b6i:b3o:=⟨true, -1,[],[],[],[]⟩
def b8j (x:GRow):b3o:=⟨true,x.up,x.tag,x.key,x.text,x.attrs⟩
def st0 (l:List GRow):Nat→b3o
 | 0=>b6i
 | h+1=>((l[h]?).map b8j).getD b6i
def kd0 (l:List GRow) (i:Nat) (h:Nat):List Int:=((List.range i).filter fun k=>((l[k]?).map (fun x=>x.up==(h:Int))).getD false).map fun (k:Nat)=>(k:Int)+1
theorem h2n (l:List GRow) (h:Nat):kd0 l 0 h=[]:=rfl
theorem g0w {l:List GRow} {i:Nat} {x:GRow} (hx:l[i]? = some x) (h:Nat):kd0 l (i+1) h=if x.up=(h:Int) then kd0 l i h++[(i:Int)+1] else kd0 l i h:=by
 simp only [kd0,List.range_succ,List.filter_append,List.map_append,List.filter_cons,List.filter_nil,hx,Option.map_some,Option.getD_some]
 by_cases e:x.up=(h:Int)
 ·simp [e]
 ·simp [e]
theorem g7r {l:List GRow} {i h:Nat} (hs:b1k l i) (hh:i<h):kd0 l i h=[]:=by
  unfold kd0
  rw [List.map_eq_nil_iff,List.filter_eq_nil_iff]
  intro k hk
  have hk:=List.mem_range.1 hk
  cases hx:l[k]? with
  | none=>simp
  | some x =>
    have:=hs k x hk hx
    simp
    omega
end Go.TA


end
section
/- Rows that stand as a tree's do: where what is below a handle ends; kids in their order. Plain. -/
namespace Go.TA
def c4o (l:List GRow):Prop:=b1k l l.length∧∀ (j:Nat) x,l[j]? = some x→(j=0∧x.up=0)∨(0<j∧∃ y ∈ b3n l j,(y:Int)=x.up)
theorem c5u {l:List GRow} (h:b4c l=true):c4o l:=by
 refine ⟨b9h h,fun j x hx => ?_⟩
 have hr:=c8l (i:=0) (by simpa [b4c] using h) j x (by omega) hx
 unfold b3h at hr
 split at hr
 ·rename_i h0;exact .inl ⟨h0,by simpa using hr⟩
 ·rename_i h0
  simp only [Bool.and_eq_true,decide_eq_true_eq,b3m,List.any_eq_true,beq_iff_eq] at hr
  exact .inr ⟨by omega,hr.2⟩
def b5x (l:List GRow) (h:Nat):Nat:=h+(l.drop h).findIdx (fun x=>decide (x.up<(h:Int)))
section
variable {l:List GRow}
theorem b9j {h:Nat} (hh:h≤l.length):h≤b5x l h∧b5x l h≤l.length:=by
 unfold b5x
 have:=List.findIdx_le_length (xs:=l.drop h) (p:=fun x=>decide (x.up<(h:Int)))
 rw [List.length_drop] at this
 omega
theorem d3j {h j:Nat} {x:GRow} (h1:h≤j) (h2:j<b5x l h) (hx:l[j]? = some x):(h:Int)≤x.up:=by
 unfold b5x at h2
 have hlt:j<l.length:=(List.getElem?_eq_some_iff.1 hx).1
 have:=List.not_of_lt_findIdx (xs:=l.drop h) (p:=fun x=>decide (x.up<(h:Int))) (i:=j - h) (by omega)
 simp only [List.getElem_drop,decide_eq_false_iff_not] at this
 have e:l[h+(j - h)]'(by omega)=x:=by
  have:l[h+(j - h)]? = some x:=by rw [← hx];congr 1;omega
  exact (List.getElem?_eq_some_iff.1 this).2
 rw [e] at this
 simpa using this
theorem c6q {h:Nat} {x:GRow} (hh:h≤l.length) (hx:l[b5x l h]? = some x):x.up<(h:Int):=by
 have hlt:b5x l h<l.length:=(List.getElem?_eq_some_iff.1 hx).1
 unfold b5x at hlt hx
 have:=List.findIdx_getElem (xs:=l.drop h) (p:=fun x=>decide (x.up<(h:Int))) (w:=by rw [List.length_drop];omega)
 simp only [List.getElem_drop,decide_eq_true_eq] at this
 have e:=(List.getElem?_eq_some_iff.1 hx).2
 rw [e] at this
 exact this
theorem h9w (hs:c4o l) {j:Nat} {x:GRow} (hx:l[j]? = some x):x.up=(upAt l (j+1):Int):=by
 have:=hs.1 j x (List.getElem?_eq_some_iff.1 hx).1 hx
 simp [upAt,hx]
 omega
theorem d9h (hs:c4o l) {m:Nat} (hm:m<l.length):∀ j,m+1≤j→j≤b5x l (m+1)→∀ y ∈ b3n l j,y<m+1→y ∈ b3n l (upAt l (m+1)):=by
  intro j
  induction j using Nat.strongRecOn with
  | _ j ih =>
    intro h1 h2 y hy hlt
    have hle:=(b9j (l:=l) (h:=m+1) (by omega)).2
    obtain ⟨j,rfl⟩:∃ k,j=k+1:=⟨j - 1,by omega⟩
    by_cases e:j=m
    · subst e
      rw [b3k hs.1 (Nat.le_refl _) (by omega)] at hy
      rcases List.mem_cons.1 hy with rfl | hy
      · omega
      · exact hy
    · obtain ⟨x,hx⟩:=b0t (show j<l.length by omega)
      have hup:=d3j (h:=m+1) (by omega) (by omega) hx
      have hu:=h9w hs hx
      have hule:=b5q hs.1 (show j<l.length by omega) (by omega)
      rw [b3k hs.1 (Nat.le_refl _) (by omega)] at hy
      rcases List.mem_cons.1 hy with rfl | hy
      · omega
      · exact ih _ (by omega) (by omega) (by omega) y hy hlt
theorem h2m (hs : c4o l) {h cur : Nat} (h1 : h ≤ cur) (h2 : cur < b5x l h) (hcur : cur = h ∨ ∃ m, h ≤ m ∧ m < cur ∧ cur = b5x l (m + 1) ∧ upAt l (m + 1) = h) (hh : h ≤ l.length) : ∃ x, l[cur]? = some x ∧ x.up = (h : Int) := by
  have hle:=(b9j (l:=l) hh).2
  obtain ⟨x,hx⟩:=b0t (show cur<l.length by omega)
  refine ⟨x,hx, ?_⟩
  have hup:=d3j h1 h2 hx
  rcases hs.2 cur x hx with ⟨h0,h3⟩ | ⟨h0,y,hy,hyu⟩
  · omega
  · have hyle:=d3r hs.1 (Nat.le_refl _) cur (by omega) y hy
    rcases hcur with rfl | ⟨m,m1,m2,m3,m4⟩
    · omega
    · have hm:m<l.length:=by omega
      have hat:x.up<((m+1:Nat):Int):=by
        rw [m3] at hx
        exact c6q (by omega) hx
      have:=d9h hs hm cur (by omega) (by omega) y hy (by omega)
      rw [m4] at this
      have:=d3r hs.1 (Nat.le_refl _) h hh y this
      omega
theorem h2x {h cur:Nat} (h1:h≤cur) (h2:cur<b5x l h) (hh:h≤l.length):b5x l (cur+1)≤b5x l h:=by
 have he:=b9j (l:=l) hh
 have he2:=b9j (l:=l) (h:=cur+1) (by omega)
 rcases Nat.lt_or_ge (b5x l h) (b5x l (cur+1)) with hlt | hge
 ·obtain ⟨x,hx⟩:=b0t (show b5x l h<l.length by omega)
  have a1:=c6q hh hx
  have a2:=d3j (h:=cur+1) (by omega) hlt hx
  omega
 ·exact hge
def h8o:List GRow→Nat→List GRow
 | [],_=>[]
 | x::r,i => { x with id:=(i:Int)+1 }::h8o r (i+1)
def j2r (l:List GRow) (j:Nat):List (List PV):=((h8o l 0).take j).map GRow.pv
end
end Go.TA


end
