/- Part 6 of 16 of a proof; joined from LibF, Road, Dec, DataR, Ints, Chain, Mach, Pre. Rows that stand as a tree's do: where what is below a handle ends; kids in their order. Plain. -/
import Derived.Test.YtnjblmbobmbgkaaGreatDoorCa5
import Derived.ReadAgain
import Derived.ChangeArms
import Derived.ChangeSame
import Derived.ChangeBears
import Derived.ChangeShapes
import Derived.Test.YtnjblmbobmbgkaaGreatDoorCa1
set_option linter.unusedSimpArgs false
set_option linter.unusedVariables false
set_option linter.defProp false
set_option maxRecDepth 100000
set_option maxHeartbeats 8000000
section
/- Code, functions and the whole table are sound. -/
namespace Go.TA
structure Evo (c c':Cx):Prop where
 X:c'.X=c.X
 size:c.w.heap.size≤c'.w.heap.size
 tape:c'.w.tape=c.w.tape
 os:c'.w.os=c.w.os
 output:c'.w.output=c.w.output
 keep:∀ b,b<c.w.heap.size→¬ c.Own b→c'.w.heap[b]? = c.w.heap[b]?
 fresh:∀ b,c'.Own b→c.Own b∨c.w.heap.size≤b
 objs:∀ k o,c.obj true k=some o→∃ o',c'.obj true k=some o'∧∀ m',o'.cnt=some m'→∃ m,o.cnt=some m∧m≤m'∧o'.isMap=o.isMap ∧
  (m=m'→c'.μ true k=c.μ true k∧o'.sz=o.sz∧∀ b cs e,c.μ true k=some b→c.w.heap[b]? = some (.cells cs e (0,0))→∃ cs',c'.w.heap[b]? = some (.cells cs' e (0,0))∧cs'.size=cs.size)
section
variable {c c' c'':Cx}
theorem Evolve.evo (h:Evolve c c'):Evo c c':=⟨h.X,h.size,h.tape,h.os,h.output,h.keep,h.fresh,fun k o=>h.objs true k o⟩
theorem Evo.refl (c:Cx):Evo c c:=(Evolve.refl c).evo
theorem Evo.trans (h:Evo c c') (h':Evo c' c''):Evo c c'' where
 X:=h'.X.trans h.X
 size:=Nat.le_trans h.size h'.size
 tape:=h'.tape.trans h.tape
 os:=h'.os.trans h.os
 output:=h'.output.trans h.output
 keep b hb hn:=by
  have h1:¬ c'.Own b:=fun ho=>by
   rcases h.fresh b ho with h2 | h2
   ·exact hn h2
   ·omega
  exact (h'.keep b (Nat.lt_of_lt_of_le hb h.size) h1).trans (h.keep b hb hn)
 fresh b ho:=by
  rcases h'.fresh b ho with h1 | h1
  ·exact h.fresh b h1
  ·exact .inr (Nat.le_trans h.size h1)
 objs k o ho:=by
  obtain ⟨o1,h1,H1⟩:=h.objs k o ho
  obtain ⟨o2,h2,H2⟩:=h'.objs k o1 h1
  refine ⟨o2,h2,fun m2 hm2 => ?_⟩
  obtain ⟨m1,hm1,hle1,hk1,s1⟩:=H2 m2 hm2
  obtain ⟨m0,hm0,hle0,hk0,s0⟩:=H1 m1 hm1
  refine ⟨m0,hm0,Nat.le_trans hle0 hle1,hk1.trans hk0,fun e => ?_⟩
  obtain ⟨a1,a2,a3⟩:=s1 (by omega)
  obtain ⟨b1,b2,b3⟩:=s0 (by omega)
  refine ⟨a1.trans b1,a2.trans b2,fun b cs e hb hh => ?_⟩
  obtain ⟨cs1,x1,x2⟩:=b3 b cs e hb hh
  obtain ⟨cs2,y1,y2⟩:=a3 b cs1 e (b1.trans hb) x1
  exact ⟨cs2,y1,y2.trans x2⟩
theorem Evo.evolve (h:Evo c c') (hl:c.l=[]):Evolve c c':=⟨h.X,h.size,h.tape,h.os,h.output,h.keep,h.fresh,fun z k o ho=>by
 cases z
 ·simp [Cx.obj,hl,lk] at ho
 ·exact h.objs k o ho⟩
def Cx.drop (c:Cx) (l':List (Nat × AObj)):Cx:=⟨c.X,fun z k=>if z then c.μ true k else if (lk l' k).isSome then c.μ false k else none,l',c.g,c.w⟩
variable {l':List (Nat × AObj)} {Γ : b1e}
theorem h3a (b:Nat) (h:c.N b):(c.drop l').N b:=⟨h.1,fun ⟨z,k,hk⟩=>by
 cases z
 ·simp only [Cx.drop,Bool.false_eq_true,if_false] at hk
  split at hk
  ·exact h.2 ⟨false,k,hk⟩
  ·cases hk
 ·exact h.2 ⟨true,k,hk⟩⟩
theorem c8u {pv:PV} {v:Value} (h:RelP c.w c.N pv v):RelP (c.drop l').w (c.drop l').N pv v:=h.mono fun b hb hlt=>⟨h3a b hb,hlt,rfl⟩
theorem c9k : ∀ {α : Type} (l : List (Nat × α)) (k : Nat), (l.map (·.1)).contains k = (lk l k).isSome
  | _,[],k=>rfl
  | _, (a, v) :: l, k => by
    simp only [List.map_cons,List.contains_cons,lk]
    cases e:(a==k)
    · have:(k==a)=false:=by
        have:=beq_eq_false_iff_ne.1 e
        exact beq_eq_false_iff_ne.2 (Ne.symm this)
      simp only [this,Bool.false_or]
      exact c9k l k
    · have:a=k:=beq_iff_eq.1 e
      subst this
      simp
theorem b7r (k:Nat):(c.drop l').obj true k=c.obj true k:=by simp [Cx.obj,Cx.drop]
theorem c2j (hs:∀ k o,lk l' k=some o→lk c.l k=some o) {k:Nat} (hk:(lk l' k).isSome=true):(c.drop l').obj false k=c.obj false k:=by
 obtain ⟨o,ho⟩:=Option.isSome_iff_exists.1 hk
 simp [Cx.obj,Cx.drop,ho,hs k o ho]
theorem c4t {k:Nat} (hk:(lk l' k).isSome=true):(c.drop l').μ false k=c.μ false k:=by simp [Cx.drop,hk]
theorem d0a (hs:∀ k o,lk l' k=some o→lk c.l k=some o) {z:Bool} {k:Nat} (h:(z || (l'.map (·.1)).contains k)=true):(c.drop l').obj z k=c.obj z k∧(c.drop l').μ z k=c.μ z k:=by
 cases z
 ·simp only [Bool.false_or,c9k] at h
  exact ⟨c2j hs h,c4t h⟩
 ·exact ⟨b7r k,rfl⟩
theorem b4v {ks:List Nat}:∀ {l:List AV},b3d ks l=false→∀ j (h:j<l.length),mentions ks (l[j])=false
  | [],_,j,h=>by simp at h
  | a :: l, hm, j, h => by
    simp only [b3d,Bool.or_eq_false_iff] at hm
    cases j with
    | zero=>exact hm.1
    | succ j=>exact b4v hm.2 j (by simpa using h)
theorem c2h {ks:List Nat}:∀ {l:List (List AV)},c1r ks l=false→∀ j (h:j<l.length),b3d ks (l[j])=false
  | [],_,j,h=>by simp at h
  | a :: l, hm, j, h => by
    simp only [c1r,Bool.or_eq_false_iff] at hm
    cases j with
    | zero=>exact hm.1
    | succ j=>exact c2h hm.2 j (by simpa using h)
theorem c0m (hs:∀ k o,lk l' k=some o→lk c.l k=some o) {av:AV} {v:Value} (h:RelV c av v):mentions (l'.map (·.1)) av=false→RelV (c.drop l') av v:=by
  induction h with
  | bot v=>intro _;exact .bot v
  | p pv v hp=>intro _;exact .p _ _ (c8u hp)
  | rop cs b off f hN hb hc h1 hr=>intro _;exact .rop cs b off f (h3a b hN) hb hc h1 (fun j hj=>c8u (hr j hj))
  | ptr z k sz n i j a hp =>
    intro hn
    simp only [mentions,Bool.not_eq_false'] at hn
    obtain ⟨e1,e2⟩:=d0a hs hn
    obtain ⟨ob,ho,H⟩:=hp
    exact .ptr _ _ _ _ _ _ _ ⟨ob,e1.trans ho,fun m hm=>⟨(H m hm).1,fun e=>by obtain ⟨b,hb,ha⟩:=(H m hm).2 e;exact ⟨b,e2.trans hb,ha⟩⟩⟩
  | own z k n A cap hp =>
    intro hn
    simp only [mentions,Bool.not_eq_false'] at hn
    obtain ⟨e1,e2⟩:=d0a hs hn
    obtain ⟨ob,ho,H⟩:=hp
    refine .own _ _ _ _ _ ⟨ob,e1.trans ho,fun m hm=>⟨(H m hm).1,fun e => ?_⟩⟩
    rcases (H m hm).2 e with ⟨x1,x2⟩ | ⟨b,cs,e,x1,x2⟩
    · exact .inl ⟨e2.trans x1,x2⟩
    · exact .inr ⟨b,cs,e,e2.trans x1,x2⟩
  | nils=>intro _;exact .nils
  | lit xs b cap sz f hN hb hc hm hl hcell h1 hr ih =>
    intro hn
    simp only [mentions] at hn
    exact .lit xs b cap sz f (h3a b hN) hb hc hm hl hcell h1 (fun i j hi hj=>ih i j hi hj (b4v (c2h hn i hi) j hj))
  | map z k r hp =>
    intro hn
    simp only [mentions,Bool.not_eq_false'] at hn
    obtain ⟨e1,e2⟩:=d0a hs hn
    obtain ⟨ob,ho,H⟩:=hp
    exact .map _ _ _ ⟨ob,e1.trans ho,fun m hm=>⟨(H m hm).1,by obtain ⟨b,hb,ha⟩:=(H m hm).2;exact ⟨b,e2.trans hb,ha⟩⟩⟩
  | func f cs vs hl hr ih =>
    intro hn
    simp only [mentions] at hn
    exact .func f cs vs hl (fun j h h'=>ih j h h' (b4v hn j h))
  | agg cs vs hl h1 hr ih =>
    intro hn
    simp only [mentions] at hn
    exact .agg cs vs hl h1 (fun j h h'=>ih j h h' (b4v hn j h))
  | tuple cs vs hl hr ih =>
    intro hn
    simp only [mentions] at hn
    exact .tuple cs vs hl (fun j h h'=>ih j h h' (b4v hn j h))
mutual
theorem b5e (ks:List Nat):∀ {a:AV},noLocal a=true→mentions ks a=false
 | .bot,_=>rfl
 | .p _,_=>rfl
 | .rop _,_=>rfl
 | .ptr z ..,h=>by simp only [noLocal] at h;subst h;rfl
 | .own z ..,h=>by simp only [noLocal] at h;subst h;rfl
 | .nils,_=>rfl
 | .lit _,h=>by simp [noLocal] at h
 | .map z _,h=>by simp only [noLocal] at h;subst h;rfl
 | .func _ cs,h=>by simp only [noLocal] at h;simpa [mentions] using b3g ks h
 | .agg cs,h=>by simp only [noLocal] at h;simpa [mentions] using b3g ks h
 | .tuple cs,h=>by simp only [noLocal] at h;simpa [mentions] using b3g ks h
theorem b3g (ks:List Nat):∀ {l:List AV},b0p l=true→b3d ks l=false
  | [],_=>rfl
  | a :: l, h => by
    simp only [b0p,Bool.and_eq_true] at h
    simp [b3d,b5e ks h.1,b3g ks h.2]
end
theorem d6x (ks:List Nat) {o:AObj} (h:b3b o=true):o.mentions ks=false:=by
  cases o with
  | cells sz xs =>
    simp only [b3b,List.all_eq_true] at h
    simp only [AObj.mentions,List.any_eq_false,Bool.not_eq_true]
    exact fun x hx=>b3g ks (h x hx)
  | map es =>
    simp only [b3b,List.all_eq_true] at h
    simp only [AObj.mentions,List.any_eq_false,Bool.not_eq_true]
    exact fun x hx=>b5e ks (h x hx)
  | _=>rfl
theorem c8w (hs:∀ k o,lk l' k=some o→lk c.l k=some o) {z:Bool} {k:Nat} {ob:AObj} (hμ : (c.drop l').μ z k=c.μ z k) (h:b2e c z k ob) (hn:ob.mentions (l'.map (·.1))=false):b2e (c.drop l') z k ob:=by
  have row:∀ (m:Option Nat) (sz:Nat) (xs:List (List AV)),(∀ r ∈ xs,b3d (l'.map (·.1)) r=false)→b3z c m sz xs→b3z (c.drop l') m sz xs:=fun m sz xs hx hr=>by
    obtain ⟨h0,h1⟩:=hr
    refine ⟨h0,h1.imp id ?_⟩
    rintro ⟨b,cs,e,hb,hh,hs',hv⟩
    refine ⟨b,cs,e,hb,hh,hs',fun i j hi hj => ?_⟩
    obtain ⟨v,v1,v2,v3⟩:=hv i j hi hj
    exact ⟨v,v1,v2,c0m hs v3 (b4v (hx _ (List.getElem_mem hi)) j hj)⟩
  cases ob with
  | dead=>trivial
  | siter a b=>trivial
  | pcells sz xs =>
    simp only [b2e,hμ] at h ⊢
    refine row _ _ _ (fun r hr => ?_) h
    simp only [lift,List.mem_map] at hr
    obtain ⟨p,_,rfl⟩:=hr
    exact b3g _ (b6s p)
  | cells sz xs =>
    simp only [b2e,hμ] at h ⊢
    simp only [AObj.mentions,List.any_eq_false,Bool.not_eq_true] at hn
    exact row _ _ _ hn h
  | map es =>
    simp only [b2e,hμ] at h ⊢
    obtain ⟨b,es',clock,hb,hh,hs',hv⟩:=h
    refine ⟨b,es',clock,hb,hh,hs',fun i h1 h2 => ?_⟩
    obtain ⟨x1,x2,x3⟩:=hv i h1 h2
    simp only [AObj.mentions,List.any_eq_false,Bool.not_eq_true] at hn
    exact ⟨x1,c8u x2,c0m hs x3 (hn _ (List.getElem_mem h1))⟩
theorem h2a:∀ {α : Type} {l:List (Nat × α)} {k:Nat} {o : α},lk l k=some o→(k,o) ∈ l
  | _,[],k,o,h=>by simp [lk] at h
  | _, (a, v) :: l, k, o, h => by
    simp only [lk] at h
    split at h
    · rename_i e
      have:a=k:=beq_iff_eq.1 e
      subst this
      simp only [Option.some.injEq] at h
      subst h
      simp
    · exact List.mem_cons_of_mem _ (h2a h)
theorem c8x (hH : RelH Γ c) (hs : ∀ k o, lk l' k = some o → lk c.l k = some o) (hg : gOk c.g) (hm : ∀ e ∈ l', e.2.mentions (l'.map (·.1)) = false) : RelH Γ (c.drop l') where
  ground:=hH.ground
  objs z k ob hob:=by
    cases z
    · have hk:lk l' k=some ob:=by simpa [Cx.obj,Cx.drop] using hob
      refine c8w hs (c4t (by rw [hk];rfl)) (hH.objs false k ob ?_) (hm _ (h2a hk))
      simpa [Cx.obj] using hs k ob hk
    · rw [b7r] at hob
      refine c8w hs rfl (hH.objs true k ob hob) (d6x _ (hg ob ?_))
      simp only [Cx.obj,if_true] at hob
      exact List.mem_of_getElem? hob
  inj z k z' k' b h1 h2 := by
    have sub:∀ z k,(c.drop l').μ z k=some b→c.μ z k=some b:=fun z k h=>by
      cases z
      · simp only [Cx.drop,Bool.false_eq_true,if_false] at h
        split at h
        · exact h
        · cases h
      · exact h
    exact hH.inj _ _ _ _ _ (sub _ _ h1) (sub _ _ h2)
  live z k b h:=by
    cases z
    · simp only [Cx.drop,Bool.false_eq_true,if_false] at h
      split at h
      rotate_left
      · cases h
      rename_i hk
      obtain ⟨x1,x2,x3,ob,x4,x5⟩:=hH.live _ _ _ h
      exact ⟨x1,x2,x3,ob,(c2j hs hk).trans x4,x5⟩
    · obtain ⟨x1,x2,x3,ob,x4,x5⟩:=hH.live true k b h
      exact ⟨x1,x2,x3,ob,(b7r k).trans x4,x5⟩
  xlt:=hH.xlt
theorem d4x:Evo c (c.drop l') where
 X:=rfl
 size:=Nat.le_refl _
 tape:=rfl
 os:=rfl
 output:=rfl
 keep _ _ _:=rfl
 fresh b ho:=by
  obtain ⟨z,k,h⟩:=ho
  cases z
  ·simp only [Cx.drop,Bool.false_eq_true,if_false] at h
   split at h
   ·exact .inl ⟨false,k,h⟩
   ·cases h
  ·exact .inl ⟨true,k,h⟩
 objs k o ho:=⟨o,(b7r k).trans ho,fun m hm=>⟨m,hm,Nat.le_refl _,rfl,fun _=>⟨rfl,rfl,fun b cs e _ hh=>⟨cs,hh,rfl⟩⟩⟩⟩
theorem d4k {l : List (Nat × AObj)} : ∀ {ks : List Nat} {k : Nat} {o : AObj}, lk (c5x l ks) k = some o → lk l k = some o
  | [],k,o,h=>by simp [c5x,lk] at h
  | a :: ks, k, o, h => by
    simp only [c5x] at h
    split at h
    · rename_i v hv
      simp only [lk] at h
      split at h
      · rename_i e
        have:a=k:=beq_iff_eq.1 e
        subst this
        rw [← h];exact hv
      · exact d4k h
    · exact d4k h
theorem g3n {s:St}:∀ (ts:List Nat) (t:Nat),lk (ts.map fun t=>(t,s.get t)) t=if t ∈ ts then some (s.get t) else none
  | [],t=>rfl
  | a :: ts, t => by
    simp only [List.map_cons,lk]
    cases e:(a==t)
    · have:t≠a:=fun h=>by subst h;simp at e
      simp [g3n ts t,this]
    · have:a=t:=beq_iff_eq.1 e
      subst this
      simp
variable {s s':St} {a:Act} {n:Nat}
theorem g3s (hg:Good Γ c s a n) {ts ks:List Nat} (h:s.keep ts ks=some s'):∃ c',c'.w=c.w∧Good Γ c' s' a n∧Evo c c':=by
 unfold St.keep at h
 simp only at h
 split at h
 ·cases h
 rename_i hm
 simp only [Option.some.injEq] at h
 subst h
 simp only [Bool.or_eq_true,not_or,Bool.not_eq_true,List.any_eq_false] at hm
 obtain ⟨hm1,hm2⟩:=hm
 have hs:∀ k o,lk (c5x s.l ks) k=some o→lk c.l k=some o:=fun k o hk=>by rw [← hg.l];exact d4k hk
 refine ⟨c.drop (c5x s.l ks),rfl,⟨rfl,hg.g,c8x hg.H hs (by rw [← hg.g];exact hg.G) (fun e he=>by simpa using hm2 e he),fun t => ?_,hg.G,hg.N,hg.D⟩,d4x⟩
 show RelV _ (c4c (lk (ts.map fun t=>(t,s.get t)) t)) _
 rw [g3n]
 split
 ·rename_i ht
  show RelV _ (s.get t) _
  exact c0m hs (hg.F t) (by simpa using hm1 (t,s.get t) (List.mem_map.2 ⟨t,ht,rfl⟩))
 ·exact .bot _
end
end Go.TA
namespace Go.TA
def c0e:Code→List Code
 | .seq a b=>c0e a++c0e b
 | .skip=>[]
 | .label _=>[]
 | c=>[c]
def wpL (P:Program) (Q:Exit→Act→World→Prop):List Code→Act→World→Prop
 | [],a,w=>Q .normal a w
 | c::l,a,w=>c.wp P (Exit.then (wpL P Q l) Q) a w
section
variable {P:Program} {Q:Exit→Act→World→Prop}
theorem g9p {K K':Act→World→Prop} {e:Exit} {a:Act} {w:World} (h:Exit.then K Q e a w) (hK:e = .normal→K a w→K' a w):Exit.then K' Q e a w:=by
 cases e <;> simp only [Exit.then] at h ⊢ <;> first | exact hK rfl h | exact h
theorem d1g:∀ {l r:List Code} {a:Act} {w:World},wpL P Q (l++r) a w→wpL P (Exit.then (wpL P Q r) Q) l a w
  | [],r,a,w,h=>h
  | c :: l, r, a, w, h => by
    simp only [List.cons_append,wpL] at h ⊢
    refine wp_mono h (fun e a' w' he => ?_)
    cases e <;> simp only [Exit.then] at he ⊢ <;> first | exact d1g he | exact he
theorem b4d:∀ {c:Code} {Q:Exit→Act→World→Prop} {a:Act} {w:World},wpL P Q (c0e c) a w→c.wp P Q a w
  | .seq x y, Q, a, w, h => by
    have h1:=b4d (d1g (by simpa [c0e] using h))
    refine wp_seq (wp_mono h1 (fun e a' w' he=>g9p he (fun _ h=>b4d h)))
  | .skip,Q,a,w,h=>wp_skip h
  | .label _,Q,a,w,h=>wp_label h
  | .region ..,Q,a,w,h=>wp_mono h (fun e a' w' he=>by cases e <;> exact he)
  | .cond ..,Q,a,w,h=>wp_mono h (fun e a' w' he=>by cases e <;> exact he)
  | .block ..,Q,a,w,h=>wp_mono h (fun e a' w' he=>by cases e <;> exact he)
  | .loop ..,Q,a,w,h=>wp_mono h (fun e a' w' he=>by cases e <;> exact he)
  | .exit ..,Q,a,w,h=>wp_mono h (fun e a' w' he=>by cases e <;> exact he)
  | .goto ..,Q,a,w,h=>wp_mono h (fun e a' w' he=>by cases e <;> exact he)
  | .ret,Q,a,w,h=>wp_mono h (fun e a' w' he=>by cases e <;> exact he)
  | .scope ..,Q,a,w,h=>wp_mono h (fun e a' w' he=>by cases e <;> exact he)
  | .rangeFunc ..,Q,a,w,h=>wp_mono h (fun e a' w' he=>by cases e <;> exact he)
  | .refuse ..,Q,a,w,h=>wp_mono h (fun e a' w' he=>by cases e <;> exact he)
end
end Go.TA
namespace Go.TA
def d4c:List b1h→Bool
 | []=>true
 | x::l=>x.again.isEmpty && d4c l
def b2x (P:Program) (n:Nat):b1a→List Code→Bool
 | .skip,[]=>true
 | .region xs d _ _,[.region _ ops d']=>d==d' && (if d then d2n P n ops xs && d4c xs else b9m P n ops xs ops.toList)
 | .draw xs _ _,[.region _ ops d']=>d' && d2n P n ops xs
 | .seq a b,c::l=>b2x P n a [c] && b2x P n b l
 | .cond x a b,[.cond y c d]=>b2q x y && b2x P n a (c0e c) && b2x P n b (c0e d)
 | .block id a,[.block id' c]=>id==id' && b2x P n a (c0e c)
 | .loop a,[.loop c]=>b2x P n a (c0e c)
 | .exit id,.exit id'::_=>id==id'
 | .ret,.ret::_=>true
 | .keep _ _ c,l=>b2x P n c l
 | .stuck,_=>true
 | _,_=>false
def c8j:Ex→Exit
 | .normal => .normal
 | .exit id => .exit id
 | .ret => .ret
section
variable {P:Program} {Γ : b1e} {C:b0n} {n N:Nat}
theorem c2f:∀ {xs done:List b1h} {s s':St},d4c xs=true→b6h C xs s=some s'→runD C done xs s=some s'
  | [],done,s,s',_,h=>h
  | x :: xs, done, s, s', hn, h => by
    simp only [d4c,Bool.and_eq_true,List.isEmpty_iff] at hn
    simp only [b6h] at h
    obtain ⟨s1,h1,h2⟩:=Option.bind_eq_some_iff.1 h
    simp only [runD,g5h,h1,Option.bind_some,d9b,hn.1,List.all_nil,if_true]
    exact c2f hn.2 h2
theorem c8b {Q:Exit→Act→World→Prop} {c:Code} {a:Act} {w:World} (h:c.wp P Q a w):wpL P Q [c] a w:=wp_mono h (fun e a' w' he=>by cases e <;> exact he)
theorem d2d {Q:Exit→Act→World→Prop} {c:Code} {a:Act} {w:World} (h:wpL P Q [c] a w):c.wp P Q a w:=wp_mono h (fun e a' w' he=>by cases e <;> exact he)
theorem g8z {c : Code} {Q : Exit → Act → World → Prop} (R : Nat → Act → World → Prop) (round : ∀ m a w, R m a w → c.wp P (Exit.then (fun a' w' => ∃ m', m' < m ∧ R m' a' w') Q) a w) :
    ∀ (m:Nat) (a:Act) (w:World),R m a w→(Code.loop c).wp P Q a w:=by
  intro m a w hR b k cs
  have key:∀ m a w,R m a w→∃ e a' w',Q e a' w'∧Arrives P (lone (b.at a (.code c :: .inLoop c::k)) cs w) b k cs e a' w':=by
    intro m
    induction m using Nat.strongRecOn with
    | _ m ih =>
      intro a w hI
      obtain ⟨e,a₁,w₁,hq,harr⟩:=round m a w hI b (.inLoop c::k) cs
      cases e with
      | normal =>
        obtain ⟨m',hlt,hI₁⟩:=hq
        obtain ⟨e₂,a₂,w₂,hq₂,harr₂⟩:=ih m' hlt a₁ w₁ hI₁
        exact ⟨e₂,a₂,w₂,hq₂,.of_steps (Steps.trans harr (.one step_inLoop)) harr₂⟩
      | exit id=>exact ⟨_,a₁,w₁,hq,.pass (x:=.inLoop c) rfl (fun _ _ => .inl (by simp)) harr⟩
      | goto l=>exact ⟨_,a₁,w₁,hq,.pass (x:=.inLoop c) rfl (fun _ _ => .inl (by simp)) harr⟩
      | ret=>exact ⟨_,a₁,w₁,hq,.pass (x:=.inLoop c) rfl (fun _ _ => .inl (by simp)) harr⟩
      | panic ch=>exact ⟨_,a₁,w₁,hq,.pass (x:=.inLoop c) rfl (fun _ _ => .inl (by simp)) harr⟩
      | outgrown=>exact ⟨_,a₁,w₁,hq,.pass (x:=.inLoop c) rfl (fun _ _ => .inl (by simp)) harr⟩
  obtain ⟨e,a',w',hq,harr⟩:=key m a w hR
  exact ⟨e,a',w',hq,.of_steps (.one step_loop) harr⟩
theorem g3p {c:Cx} {s:St} {a:Act} (hg:Good Γ c s a n) {x:LOpd} {b:Bool} (h:s.arg x = .p (.bool b)):Good Γ c (s.know x b) a n:=by
 cases x with
 | t m=>exact hg.known h
 | _=>exact hg
theorem c5t {c:Cx} {s s':St} {a:Act} {ts ks:List Nat} {ex:Ex} {x:Option St} (hx:x=some s) (h:bn x ts ks=some (ex,s')) (hg:Good Γ c s a n) {Q:Exit→Act→World→Prop} (hQ:∀ c' a',Good Γ c' s' a' n→Evo c c'→Q (c8j ex) a' c'.w):Q .normal a c.w:=by
 subst hx
 simp only [bn,Option.bind_some,bn'] at h
 obtain ⟨s1,h1,h2⟩:=Option.bind_eq_some_iff.1 h
 simp only [Option.some.injEq,Prod.mk.injEq] at h2
 obtain ⟨rfl,rfl⟩:=h2
 obtain ⟨c',hw,hg',hE⟩:=g3s hg h1
 have:=hQ c' a hg' hE
 rw [hw] at this
 exact this
theorem d5k {x:Option St} {ts ks:List Nat} {r:Ex × St} (h:bn x ts ks=some r):∃ s,x=some s:=by
 cases x with
 | none=>simp [bn] at h
 | some s=>exact ⟨s,rfl⟩
theorem b3v (hm : P.follows .mixedOrders = true) (hC : b8h P Γ C) : ∀ (code : b1a) {cs : List Code}, b2x P n code cs = true → ∀ {c : Cx} {s s' : St} {a : Act} {ex : Ex}, Good Γ c s a n → b0t C N code s = some (ex, s') →
    ∀ {Q:Exit→Act→World→Prop},(∀ c' a',Good Γ c' s' a' n→Evo c c'→Q (c8j ex) a' c'.w)→wpL P Q cs a c.w
  | .stuck,cs,hok,c,s,s',a,ex,hg,h,Q,hQ=>by simp [b0t] at h
  | .skip, cs, hok, c, s, s', a, ex, hg, h, Q, hQ => by
    cases cs with
    | cons _ _=>simp [b2x] at hok
    | nil =>
      simp only [b0t,Option.some.injEq,Prod.mk.injEq] at h
      obtain ⟨rfl,rfl⟩:=h
      exact hQ c a hg (Evo.refl c)
  | .region xs d ts ks, cs, hok, c, s, s', a, ex, hg, h, Q, hQ => by
    unfold b2x at hok
    split at hok <;> try (cases hok;done)
    all_goals try contradiction
    rename_i heq
    injection heq with e1 e2 e3 e4
    subst e1 e2
    simp only [Bool.and_eq_true,beq_iff_eq] at hok
    obtain ⟨rfl,hok⟩:=hok
    simp only [b0t] at h
    obtain ⟨s1,hs1⟩:=d5k h
    refine c8b ?_
    split at hok
    · rename_i hd
      subst hd
      simp only [Bool.and_eq_true] at hok
      exact g4g hm hok.1 hC hg (c2f hok.2 hs1) (fun c' a' hg' hE=>c5t hs1 h hg' (fun c2 a2 hg2 hE2=>hQ c2 a2 hg2 (hE.evo.trans hE2)))
    · rename_i hd
      have hd:d=false:=by cases d <;> simp_all
      subst hd
      exact wp_region_list (d1p hC hok hg hs1 (fun c' a' hg' hE=>c5t hs1 h hg' (fun c2 a2 hg2 hE2=>hQ c2 a2 hg2 (hE.evo.trans hE2))))
  | .draw xs ts ks, cs, hok, c, s, s', a, ex, hg, h, Q, hQ => by
    unfold b2x at hok
    split at hok <;> try (cases hok;done)
    all_goals try contradiction
    rename_i heq
    injection heq with e1 e2 e3
    subst e1
    simp only [Bool.and_eq_true] at hok
    obtain ⟨rfl,hok⟩:=hok
    simp only [b0t] at h
    obtain ⟨s1,hs1⟩:=d5k h
    exact c8b (g4g hm hok hC hg hs1 (fun c' a' hg' hE=>c5t hs1 h hg' (fun c2 a2 hg2 hE2=>hQ c2 a2 hg2 (hE.evo.trans hE2))))
  | .seq x y, cs, hok, c, s, s', a, ex, hg, h, Q, hQ => by
    cases cs with
    | nil=>simp [b2x] at hok
    | cons cd l =>
      simp only [b2x,Bool.and_eq_true] at hok
      simp only [b0t] at h
      obtain ⟨⟨ex1,s1⟩,h1,h2⟩:=Option.bind_eq_some_iff.1 h
      refine d2d (b3v hm hC x hok.1 hg h1 (fun c' a' hg' hE => ?_))
      cases ex1 with
      | normal =>
        simp only [c2p] at h2
        exact b3v hm hC y hok.2 hg' h2 (fun c2 a2 hg2 hE2=>hQ c2 a2 hg2 (hE.trans hE2))
      | exit id =>
        simp only [c2p,Option.some.injEq,Prod.mk.injEq] at h2
        obtain ⟨rfl,rfl⟩:=h2
        exact hQ c' a' hg' hE
      | ret =>
        simp only [c2p,Option.some.injEq,Prod.mk.injEq] at h2
        obtain ⟨rfl,rfl⟩:=h2
        exact hQ c' a' hg' hE
  | .cond x u v, cs, hok, c, s, s', a, ex, hg, h, Q, hQ => by
    unfold b2x at hok
    split at hok <;> try (cases hok;done)
    all_goals try contradiction
    rename_i heq
    injection heq with e1 e2 e3
    subst e1 e2 e3
    simp only [Bool.and_eq_true] at hok
    obtain ⟨⟨hx,hu⟩,hv⟩:=hok
    simp only [b0t] at h
    split at h
    rotate_left
    · cases h
    rename_i b hb
    have hval:=(rhoA P hg.F).1 _ _ hx
    rw [hb] at hval
    refine c8b (wp_cond (b8w hval) ?_)
    split at h
    · rename_i hbt
      subst hbt
      exact b4d (b3v hm hC u hu (g3p hg hb) h hQ)
    · rename_i hbf
      have:b=false:=by cases b <;> simp_all
      subst this
      exact b4d (b3v hm hC v hv (g3p hg hb) h hQ)
  | .block id x, cs, hok, c, s, s', a, ex, hg, h, Q, hQ => by
    unfold b2x at hok
    split at hok <;> try (cases hok;done)
    all_goals try contradiction
    rename_i heq
    injection heq with e1 e2
    subst e1 e2
    simp only [Bool.and_eq_true,beq_iff_eq] at hok
    obtain ⟨rfl,hx⟩:=hok
    simp only [b0t,bb] at h
    obtain ⟨⟨ex1,s1⟩,h1,h2⟩:=Option.bind_eq_some_iff.1 h
    refine c8b (wp_block (b4d (b3v hm hC x hx hg h1 (fun c' a' hg' hE => ?_))))
    cases ex1 with
    | normal =>
      simp only [d2y,Option.some.injEq,Prod.mk.injEq] at h2
      obtain ⟨rfl,rfl⟩:=h2
      exact hQ c' a' hg' hE
    | exit i =>
      simp only [d2y] at h2
      simp only [c8j,Exit.inBlock]
      split at h2
      · rename_i e
        rw [if_pos e]
        simp only [Option.some.injEq,Prod.mk.injEq] at h2
        obtain ⟨rfl,rfl⟩:=h2
        exact hQ c' a' hg' hE
      · rename_i e
        rw [if_neg e]
        simp only [Option.some.injEq,Prod.mk.injEq] at h2
        obtain ⟨rfl,rfl⟩:=h2
        exact hQ c' a' hg' hE
    | ret =>
      simp only [d2y,Option.some.injEq,Prod.mk.injEq] at h2
      obtain ⟨rfl,rfl⟩:=h2
      exact hQ c' a' hg' hE
  | .loop x, cs, hok, c, s, s', a, ex, hg, h, Q, hQ => by
    unfold b2x at hok
    split at hok <;> try (cases hok;done)
    all_goals try contradiction
    rename_i heq
    injection heq with e1
    subst e1
    simp only [b0t] at h
    refine c8b (g8z (fun m a w=>∃ c1 s1,Good Γ c1 s1 a n∧c1.w=w∧Evo c c1∧d4j (fun s=>b0t C N x s) m s1=some (ex,s')) (fun m a1 w1 hR => ?_) N a c.w ⟨c,s,hg,rfl,Evo.refl c,h⟩)
    obtain ⟨c1,s1,hg1,rfl,hE1,hl⟩:=hR
    cases m with
    | zero=>simp [d4j] at hl
    | succ m =>
      simp only [d4j] at hl
      obtain ⟨⟨ex1,s2⟩,h1,h2⟩:=Option.bind_eq_some_iff.1 hl
      refine b4d (b3v hm hC x hok hg1 h1 (fun c' a' hg' hE => ?_))
      cases ex1 with
      | normal =>
        simp only [c2p] at h2
        exact ⟨m,by omega,c',s2,hg',rfl,hE1.trans hE,h2⟩
      | exit id =>
        simp only [c2p,Option.some.injEq,Prod.mk.injEq] at h2
        obtain ⟨rfl,rfl⟩:=h2
        exact hQ c' a' hg' (hE1.trans hE)
      | ret =>
        simp only [c2p,Option.some.injEq,Prod.mk.injEq] at h2
        obtain ⟨rfl,rfl⟩:=h2
        exact hQ c' a' hg' (hE1.trans hE)
  | .exit id, cs, hok, c, s, s', a, ex, hg, h, Q, hQ => by
    unfold b2x at hok
    split at hok <;> try (cases hok;done)
    all_goals try contradiction
    rename_i heq
    injection heq with e1
    subst e1
    have hok:id=_:=beq_iff_eq.1 hok
    subst hok
    simp only [b0t,Option.some.injEq,Prod.mk.injEq] at h
    obtain ⟨rfl,rfl⟩:=h
    exact wp_exit (hQ c a hg (Evo.refl c))
  | .ret, cs, hok, c, s, s', a, ex, hg, h, Q, hQ => by
    unfold b2x at hok
    split at hok <;> try (cases hok;done)
    all_goals try contradiction
    simp only [b0t,Option.some.injEq,Prod.mk.injEq] at h
    obtain ⟨rfl,rfl⟩:=h
    exact wp_ret (hQ c a hg (Evo.refl c))
  | .keep ts ks x, cs, hok, c, s, s', a, ex, hg, h, Q, hQ => by
    simp only [b2x] at hok
    simp only [b0t] at h
    obtain ⟨s1,h1,h2⟩:=Option.bind_eq_some_iff.1 h
    obtain ⟨c',hw,hg',hE⟩:=g3s hg h1
    have:=b3v hm hC x hok hg' h2 (fun c2 a2 hg2 hE2=>hQ c2 a2 hg2 (hE.trans hE2))
    rw [hw] at this
    exact this
  | .scope x, cs, hok, c, s, s', a, ex, hg, h, Q, hQ => by
    unfold b2x at hok
    cases hok
theorem g2s (hC:∀ f args g r g',C f args g=some (r,g')→b0p args=true→gOk g→gOk g') {x:b1h} {o:Op} (hok:opOk P x.op o=true) {s s':St} (hg:gOk s.g) (h:b3h C x s=some s'):gOk s'.g:=by
 obtain ⟨v,hv,h1⟩:=c3s h
 rcases h1 with ⟨hon,he⟩ | ⟨hoff,rfl,h1,h2⟩
 ·exact (gOk_op hC hok hg he :)
 ·rw [h2];exact hg
theorem d1q (hC:∀ f args g r g',C f args g=some (r,g')→b0p args=true→gOk g→gOk g'):∀ {xs:List b1h} {s s':St},(∀ x ∈ xs,∃ o,opOk P x.op o=true)→gOk s.g→b6h C xs s=some s'→gOk s'.g
  | [],s,s',_,hg,h=>by simp only [b6h,Option.some.injEq] at h;subst h;exact hg
  | x :: xs, s, s', hx, hg, h => by
    simp only [b6h] at h
    obtain ⟨s1,h1,h2⟩:=Option.bind_eq_some_iff.1 h
    obtain ⟨o,ho⟩:=hx x (by simp)
    exact d1q hC (fun y hy=>hx y (by simp [hy])) (g2s hC ho hg h1) h2
theorem g2x (hC:∀ f args g r g',C f args g=some (r,g')→b0p args=true→gOk g→gOk g'):∀ {xs done:List b1h} {s s':St},(∀ x ∈ xs,∃ o,opOk P x.op o=true)→gOk s.g→runD C done xs s=some s'→gOk s'.g
  | [],done,s,s',_,hg,h=>by simp only [runD,Option.some.injEq] at h;subst h;exact hg
  | x :: xs, done, s, s', hx, hg, h => by
    simp only [runD,g5h] at h
    obtain ⟨s1,h1,h2⟩:=Option.bind_eq_some_iff.1 h
    obtain ⟨s0,h0,h1⟩:=Option.bind_eq_some_iff.1 h1
    unfold d9b at h1
    split at h1
    rotate_left
    · cases h1
    simp only [Option.some.injEq] at h1
    subst h1
    obtain ⟨o,ho⟩:=hx x (by simp)
    exact g2x hC (fun y hy=>hx y (by simp [hy])) (g2s hC ho hg h0) h2
theorem c9a {ops:Array Oper}:∀ {xs:List b1h} {os:List Oper},b9m P n ops xs os=true→∀ x ∈ xs,∃ o,opOk P x.op o=true
  | [],_,_,x,hx=>by simp at hx
  | y::xs,[],h,x,hx=>by simp [b9m] at h
  | y :: xs, o :: os, h, x, hx => by
    simp only [b9m,Bool.and_eq_true] at h
    rcases List.mem_cons.1 hx with rfl | hx
    · simp only [c6s,Bool.and_eq_true] at h
      exact ⟨o.op,h.1.1.1.1⟩
    · exact c9a h.2 x hx
theorem d2m {ops:Array Oper} {xs:List b1h} (h:d2n P n ops xs=true):∀ x ∈ xs,∃ o,opOk P x.op o=true:=fun x hx=>by
 obtain ⟨p,hp,rfl⟩:=j2i hx
 obtain ⟨o,_,ho⟩:=(d8d h).all p hp
 simp only [c6s,Bool.and_eq_true] at ho
 exact ⟨o.op,ho.1.1.1⟩
theorem g3t {s s':St} {ts ks:List Nat} (h:s.keep ts ks=some s') (hg:gOk s.g):gOk s'.g:=by
 unfold St.keep at h
 simp only at h
 split at h
 ·cases h
 ·simp only [Option.some.injEq] at h;subst h;exact hg
theorem h9k {x:Option St} {ts ks:List Nat} {ex:Ex} {s':St} (h:bn x ts ks=some (ex,s')) (hx:∀ s,x=some s→gOk s.g):gOk s'.g:=by
 obtain ⟨s,rfl⟩:=d5k h
 simp only [bn,Option.bind_some,bn'] at h
 obtain ⟨s1,h1,h2⟩:=Option.bind_eq_some_iff.1 h
 simp only [Option.some.injEq,Prod.mk.injEq] at h2
 obtain ⟨rfl,rfl⟩:=h2
 exact g3t h1 (hx s rfl)
theorem h9e (s:St) (x:LOpd) (b:Bool):(s.know x b).g=s.g:=by cases x <;> rfl
theorem b6f (hC : ∀ f args g r g', C f args g = some (r, g') → b0p args = true → gOk g → gOk g') : ∀ (code : b1a) {cs : List Code}, b2x P n code cs = true → ∀ {s s' : St} {ex : Ex}, gOk s.g → b0t C N code s = some (ex, s') → gOk s'.g
  | .stuck,cs,hok,s,s',ex,hg,h=>by simp [b0t] at h
  | .skip, cs, hok, s, s', ex, hg, h => by
    simp only [b0t,Option.some.injEq,Prod.mk.injEq] at h
    rw [← h.2];exact hg
  | .region xs d ts ks, cs, hok, s, s', ex, hg, h => by
    unfold b2x at hok
    split at hok <;> try (cases hok;done)
    all_goals try contradiction
    rename_i heq
    injection heq with e1 e2 e3 e4
    subst e1 e2
    simp only [Bool.and_eq_true,beq_iff_eq] at hok
    simp only [b0t] at h
    refine h9k h (fun s1 hs1=>d1q (P:=P) hC ?_ hg hs1)
    split at hok
    · exact d2m (by simp only [Bool.and_eq_true] at hok;exact hok.2.1)
    · exact c9a hok.2
  | .draw xs ts ks, cs, hok, s, s', ex, hg, h => by
    unfold b2x at hok
    split at hok <;> try (cases hok;done)
    all_goals try contradiction
    rename_i heq
    injection heq with e1 e2 e3
    subst e1
    simp only [Bool.and_eq_true] at hok
    simp only [b0t] at h
    exact h9k h (fun s1 hs1=>g2x hC (d2m hok.2) hg hs1)
  | .seq x y, cs, hok, s, s', ex, hg, h => by
    cases cs with
    | nil=>simp [b2x] at hok
    | cons cd l =>
      simp only [b2x,Bool.and_eq_true] at hok
      simp only [b0t] at h
      obtain ⟨⟨ex1,s1⟩,h1,h2⟩:=Option.bind_eq_some_iff.1 h
      have hg1:=b6f hC x hok.1 hg h1
      cases ex1 with
      | normal=>exact b6f hC y hok.2 hg1 h2
      | exit id =>
        simp only [c2p,Option.some.injEq,Prod.mk.injEq] at h2
        rw [← h2.2];exact hg1
      | ret =>
        simp only [c2p,Option.some.injEq,Prod.mk.injEq] at h2
        rw [← h2.2];exact hg1
  | .cond x u v, cs, hok, s, s', ex, hg, h => by
    unfold b2x at hok
    split at hok <;> try (cases hok;done)
    all_goals try contradiction
    rename_i heq
    injection heq with e1 e2 e3
    subst e1 e2 e3
    simp only [Bool.and_eq_true] at hok
    simp only [b0t] at h
    split at h
    rotate_left
    · cases h
    split at h
    · exact b6f hC u hok.1.2 (by rw [h9e];exact hg) h
    · exact b6f hC v hok.2 (by rw [h9e];exact hg) h
  | .block id x, cs, hok, s, s', ex, hg, h => by
    unfold b2x at hok
    split at hok <;> try (cases hok;done)
    all_goals try contradiction
    rename_i heq
    injection heq with e1 e2
    subst e1 e2
    simp only [Bool.and_eq_true,beq_iff_eq] at hok
    simp only [b0t,bb] at h
    obtain ⟨⟨ex1,s1⟩,h1,h2⟩:=Option.bind_eq_some_iff.1 h
    have hg1:=b6f hC x hok.2 hg h1
    cases ex1 with
    | exit i =>
      simp only [d2y] at h2
      split at h2 <;> (simp only [Option.some.injEq,Prod.mk.injEq] at h2;rw [← h2.2];exact hg1)
    | _ =>
      simp only [d2y,Option.some.injEq,Prod.mk.injEq] at h2
      rw [← h2.2];exact hg1
  | .loop x, cs, hok, s, s', ex, hg, h => by
    unfold b2x at hok
    split at hok <;> try (cases hok;done)
    all_goals try contradiction
    rename_i heq
    injection heq with e1
    subst e1
    simp only [b0t] at h
    have key:∀ m (s1:St),gOk s1.g→d4j (fun s=>b0t C N x s) m s1=some (ex,s')→gOk s'.g:=by
      intro m
      induction m with
      | zero=>intro s1 _ h;simp [d4j] at h
      | succ m ih =>
        intro s1 hg1 hl
        simp only [d4j] at hl
        obtain ⟨⟨ex1,s2⟩,h1,h2⟩:=Option.bind_eq_some_iff.1 hl
        have hg2:=b6f hC x hok hg1 h1
        cases ex1 with
        | normal=>exact ih s2 hg2 h2
        | _ =>
          simp only [c2p,Option.some.injEq,Prod.mk.injEq] at h2
          rw [← h2.2];exact hg2
    exact key N s hg h
  | .exit id, cs, hok, s, s', ex, hg, h => by
    simp only [b0t,Option.some.injEq,Prod.mk.injEq] at h
    rw [← h.2];exact hg
  | .ret, cs, hok, s, s', ex, hg, h => by
    simp only [b0t,Option.some.injEq,Prod.mk.injEq] at h
    rw [← h.2];exact hg
  | .keep ts ks x, cs, hok, s, s', ex, hg, h => by
    simp only [b2x] at hok
    simp only [b0t] at h
    obtain ⟨s1,h1,h2⟩:=Option.bind_eq_some_iff.1 h
    exact b6f hC x hok (g3t h1 hg) h2
  | .scope x, cs, hok, s, s', ex, hg, h => by
    unfold b2x at hok
    cases hok
end
end Go.TA
namespace Go.TA
def c0d (P:Program):List LRes→List ResultVar→Bool
 | [],[]=>true
 | .tmp t::l,.tmp t'::r=>t==t' && c0d P l r
 | .cell t sz agg::l,.cell t' ty::r=>t==t' && szOk P ty sz agg && c0d P l r
 | _,_=>false
def fnOk (P:Program) (F:b0w) (fn:Func) (body:Code):Bool:=c0d P F.results fn.results.toList && b2x P (max F.nparams fn.ntmps) F.body (c0e body)
def g2e (P : Program) (Γ : b1e) (f : Nat) (args : List AV) (g : List AObj) (r : AV) (g' : List AObj) : Prop :=
  b5h P f=true∧gOk g'∧noLocal r=true ∧
    ∀ (c : Cx) (vs : List Value), c.l = [] → c.g = g → RelH Γ c → args.length = vs.length → (∀ j (h : j < args.length) (h' : j < vs.length), RelV c (args[j]) (vs[j])) →
      Calls P f vs.toArray c.w (fun e w'=>∃ v,e = .returned v∧Ans Γ c [] g' r v w')
def b6j (P:Program) (Γ : b1e) (f:Nat) (p:b0n→List AV→List AObj→Option (AV × List AObj)):Prop :=
 ∀ C,b8h P Γ C→∀ args g r g',p C args g=some (r,g')→b0p args=true→gOk g→g2e P Γ f args g r g'
def d0q (P:Program) (f:Nat) (F:b0w):Prop:=b5h P f=true∧∃ fn body,P.funcs[f]? = some fn∧fn.body=some body∧fnOk P F fn body=true
def TOk (P:Program) (Γ : b1e) (T:Nat→Option LFn):Prop:=∀ f,match T f with
 | some (.code F)=>d0q P f F
 | some (.prim p)=>b6j P Γ f p
 | none=>True
section
variable {P:Program} {Γ : b1e} {C:b0n} {n N:Nat} {c:Cx} {s:St} {a:Act}
def rvOf (tmps:Array Value):ResultVar→Sem Value
 | .tmp t=>pure (tmps.getD t undef)
 | .cell p t=>do loadVar t (← asAddr (tmps.getD p undef))
theorem g0h (hg:Good Γ c s a n):∀ {rs:List LRes} {vars:List ResultVar} {vs:List AV},c0d P rs vars=true→allM (c2x C s) rs=some vs →
    ∃ us:List Value,(vars.mapM (rvOf a.tmps)).run P c.w = .ok us c.w∧vs.length=us.length∧∀ j (h:j<vs.length) (h':j<us.length),RelV c (vs[j]) (us[j])
  | [], [], vs, _, h => by
    simp only [allM,Option.some.injEq] at h
    subst h
    exact ⟨[],by simp,rfl,by simp⟩
  | [],_::_,vs,h,_=>by simp [c0d] at h
  | .tmp _::_,[],vs,h,_=>by simp [c0d] at h
  | .cell .. :: _,[],vs,h,_=>by simp [c0d] at h
  | .tmp _::_,.cell .. :: _,vs,h,_=>by simp [c0d] at h
  | .cell .. :: _,.tmp _::_,vs,h,_=>by simp [c0d] at h
  | .tmp t :: rs, .tmp t' :: vars, vs, hok, h => by
    simp only [c0d,Bool.and_eq_true,beq_iff_eq] at hok
    obtain ⟨rfl,hok⟩:=hok
    simp only [allM] at h
    obtain ⟨v,hv,h⟩:=b0q h
    obtain ⟨vs',hvs,h⟩:=b0q h
    simp only [Option.some.injEq] at h
    subst h
    simp only [c2x,Option.some.injEq] at hv
    subst hv
    obtain ⟨us,h1,h2,h3⟩:=g0h hg hok hvs
    have e:(rvOf a.tmps (.tmp t)).run P c.w = .ok (a.tmps.getD t undef) c.w:=rfl
    refine ⟨a.tmps.getD t undef::us,by simp [List.mapM_cons,e,h1],by simp [h2],fun j h h' => ?_⟩
    cases j with
    | zero=>exact hg.F t
    | succ j=>exact h3 j (by simpa using h) (by simpa using h')
  | .cell t sz agg :: rs, .cell t' ty :: vars, vs, hok, h => by
    simp only [c0d,Bool.and_eq_true,beq_iff_eq] at hok
    obtain ⟨⟨rfl,hsz⟩,hok⟩:=hok
    simp only [allM] at h
    obtain ⟨v,hv,h⟩:=b0q h
    obtain ⟨vs',hvs,h⟩:=b0q h
    simp only [Option.some.injEq] at h
    subst h
    simp only [c2x] at hv
    obtain ⟨⟨v',s'⟩,hev,hv⟩:=b0q hv
    simp only [Option.some.injEq] at hv
    subst hv
    obtain ⟨ad,u,hu,hrun,_,hr⟩:=g3m (P:=P) hg.l hg.g hg.H hsz (x:=.t t) (hg.F t) hev
    obtain ⟨us,h1,h2,h3⟩:=g0h hg hok hvs
    have e:(rvOf a.tmps (.cell t ty)).run P c.w = .ok u c.w:=by
      simp only [rvOf,hu,asAddr,Sem.run_bind]
      simpa using hrun
    refine ⟨u::us,by simp [List.mapM_cons,e,h1],by simp [h2],fun j h h' => ?_⟩
    cases j with
    | zero=>exact hr
    | succ j=>exact h3 j (by simpa using h) (by simpa using h')
def c7u:List Value→Value
 | [u]=>u
 | us => .tuple us.toArray
theorem c2w (hg:Good Γ c s a n) {fn:Func} {rs:List LRes} {vs:List AV} (hok:c0d P rs fn.results.toList=true) (h:allM (c2x C s) rs=some vs) :
  ∃ us:List Value,(results fn a.tmps).run P c.w = .ok (c7u us) c.w∧vs.length=us.length∧∀ j (h:j<vs.length) (h':j<us.length),RelV c (vs[j]) (us[j]):=by
 obtain ⟨us,h1,h2,h3⟩:=g0h hg hok h
 refine ⟨us, ?_,h2,h3⟩
 have e:results fn a.tmps=(do let vs ← fn.results.mapM (rvOf a.tmps);pure (if h:vs.size=1 then vs[0] else .tuple vs)):=rfl
 rw [e,Array.mapM_eq_mapM_toList]
 simp only [Sem.run_bind,Sem.run_map,h1,Result.andThen_ok,map_eq_pure_bind]
 match us with
 | []=>rfl
 | [u]=>rfl
 | u::v::us=>simp [c7u]
theorem h2x {args : List AV} {vs : List Value} (hl : args.length = vs.length) (h : ∀ j (h : j < args.length) (h' : j < vs.length), RelV c (args[j]) (vs[j])) (m : Nat) (g : List AObj) :
    RelF c (b4b args g) { tmps:=vs.toArray++Array.replicate m undef,defers:=[] }:=by
  intro t
  have key:∀ (l:List AV) (k t:Nat),lk ((List.range' k l.length).zip l) (k+t)=l[t]? := by
    intro l
    induction l with
    | nil=>intro k t;rfl
    | cons a l ih =>
      intro k t
      simp only [List.length_cons,List.range'_succ,List.zip_cons_cons,lk]
      cases t with
      | zero=>simp
      | succ t =>
        have:(k==k+(t+1))=false:=by simp
        simp only [this,List.getElem?_cons_succ]
        have:=ih (k+1) t
        rw [show k+1+t=k+(t+1) by omega] at this
        exact this
  have e:(b4b args g).get t=c4c args[t]? := by
    simp only [b4b,St.get,List.range_eq_range']
    have:=key args 0 t
    rw [Nat.zero_add] at this
    rw [this]
  rw [e]
  by_cases ht:t<args.length
  · have ht':t<vs.length:=by omega
    rw [List.getElem?_eq_getElem ht]
    have:=h t ht ht'
    simpa [c4c,Array.getElem?_append,ht'] using this
  · rw [List.getElem?_eq_none (by omega)]
    exact .bot _
end
end Go.TA
namespace Go.TA
section
variable {P:Program} {Γ : b1e} {C:b0n} {n N:Nat} {c:Cx} {s:St} {a:Act}
theorem c5d {args:List AV} {vs:List Value} (hl:args.length=vs.length) (h:∀ j (h:j<args.length) (h':j<vs.length),RelV c (args[j]) (vs[j])) (hH:RelH Γ c) (hcl:c.l=[]) (hgo:gOk c.g) {np nt:Nat} (hp:args.length=np) :
  Good Γ c (b4b args c.g) { tmps:=vs.toArray++Array.replicate (nt - vs.toArray.size) undef,defers:=[] } (max np nt) where
 l:=hcl.symm
 g:=rfl
 H:=hH
 F:=h2x hl h _ _
 G:=hgo
 N:=by simp;omega
 D:=rfl
theorem j0m {vs:List AV} {us:List Value} (hl:vs.length=us.length) (h:∀ j (h:j<vs.length) (h':j<us.length),RelV c (vs[j]) (us[j])):RelV c (c6t vs) (c7u us):=by
 match vs,us,hl,h with
 | [],[],hl,h=>exact .tuple [] [] rfl (by simp)
 | [v],[u],hl,h=>exact h 0 (by simp) (by simp)
 | v::v'::vs,u::u'::us,hl,h=>exact .tuple _ _ hl h
theorem d9t {ps:List PV} {us:List Value} (hl:ps.length=us.length) (h:∀ j (h:j<ps.length) (h':j<us.length),RelP c.w c.N (ps[j]) (us[j])):RelV c (c2o ps) (c7u us):=by
 match ps,us,hl,h with
 | [],[],hl,h=>exact .tuple [] [] rfl (by simp)
 | [v],[u],hl,h=>exact .p _ _ (h 0 (by simp) (by simp))
 | v::v'::vs,u::u'::us,hl,h=>exact c2g hl h
theorem g0s {vs:List AV} (h:b0p vs=true):noLocal (c6t vs)=true:=by
 match vs,h with
 | [],_=>rfl
 | [v],h=>simpa [b0p,c6t] using h
 | v::v'::vs,h=>simpa [noLocal,c6t] using h
theorem c8g (ps:List PV):noLocal (c2o ps)=true:=by
 match ps with
 | []=>rfl
 | [v]=>rfl
 | v::v'::vs=>simp only [c2o,noLocal];exact b6s _
theorem h0i {F:b0w} {x:Option (Ex × St)} {r:AV} {g':List AObj} (h:br C F x=some (r,g')):∃ ex s',x=some (ex,s')∧(ex = .normal∨ex = .ret)∧b8c C F s'=some r∧g'=s'.g:=by
 unfold br at h
 obtain ⟨⟨ex,s'⟩,hx,h⟩:=Option.bind_eq_some_iff.1 h
 refine ⟨ex,s',hx, ?_⟩
 cases ex <;> simp only [retK,rr,Option.map_eq_some_iff,reduceCtorEq] at h
 all_goals
  obtain ⟨r',hr,h⟩:=h
  simp only [Prod.mk.injEq] at h
  obtain ⟨rfl,rfl⟩:=h
  simp [hr]
theorem g3e {fn:Func} {R:Ending→World→Prop} {ex:Ex} (he:ex = .normal∨ex = .ret) {a:Act} {w:World} {v:Value} (hd:a.defers=[]) (hr:(results fn a.tmps).run P w = .ok v w) (hR:R (.returned v) w):bodyPost P fn R (c8j ex) a w:=by
 rcases he with rfl | rfl <;> exact ⟨hd,v,hr,hR⟩
theorem g7t (hm:P.follows .mixedOrders=true) (hC:b8h P Γ C) {f:Nat} {F:b0w} (hF:d0q P f F) {args:List AV} {g:List AObj} {r:AV} {g':List AObj} (h:d6g C N F args g=some (r,g')) (hno:b0p args=true) (hgo:gOk g):g2e P Γ f args g r g':=by
 obtain ⟨hcal,fn,body,hfn,hbody,hok⟩:=hF
 simp only [fnOk,Bool.and_eq_true] at hok
 obtain ⟨hres,hcode⟩:=hok
 have hCg:∀ f args g r g',C f args g=some (r,g')→b0p args=true→gOk g→gOk g':=fun f args g r g' h1 h2 h3=>(hC f args g r g' h1 h2 h3).2.1
 unfold d6g at h
 split at h
 rotate_left
 ·cases h
 rename_i hlen
 split at h
 ·rename_i hpure
  split at h
  rotate_left
  ·cases h
  rename_i hargs
  obtain ⟨⟨r1,g1⟩,hbr,h⟩:=Option.map_eq_some_iff.1 h
  simp only [Prod.mk.injEq] at h
  obtain ⟨rfl,rfl⟩:=h
  obtain ⟨ex,s',hex,hee,hr,_⟩:=h0i hbr
  unfold b8c at hr
  obtain ⟨vs',hvs,hr⟩:=b0q hr
  rw [if_pos hpure] at hr
  obtain ⟨ps,hps,hr⟩:=b0q hr
  simp only [Option.some.injEq] at hr
  subst hr
  refine ⟨hcal,hgo,c8g ps,fun c vs hl hg hH hlv hrel => ?_⟩
  let X:Nat→Prop:=fun x=>c.X x∨c.Own x
  have hH0:=d1w hH X (fun b hb=>hb)
  have hN0:∀ b,c.N b→¬ X b:=fun b hb h=>h.elim hb.1 hb.2
  have hrel0:∀ j (h:j<args.length) (h':j<vs.length),RelV (c.alone X) (args[j]) (vs[j]):=fun j h h'=>d1v hN0 (List.all_eq_true.1 hargs _ (List.getElem_mem h)) (hrel j h h')
  refine calls_of_wp hfn hbody ?_
  have hg0:=c5d (c:=c.alone X) (nt:=fn.ntmps) hlv hrel0 hH0 rfl (fun o h=>by simp [Cx.alone] at h) hlen
  refine b4d (b3v hm hC F.body hcode hg0 hex (fun c' a' hg' hE => ?_))
  obtain ⟨us,hrun,hl1,hl2⟩:=c2w (C:=C) hg' hres hvs
  refine g3e hee hg'.D hrun ⟨_,rfl, ?_⟩
  obtain ⟨p1,p2⟩:=b7s hps
  have hbel:Go.RowKit.Below c.w.heap.size c.w c'.w:=⟨hE.os,hE.tape,hE.output,hE.size,fun k hk=>hE.keep k hk (c5f X k)⟩
  refine ⟨{ c with w:=c'.w },hl,hg,rfl,b4s hbel hH.lt,hH.below hbel,d9t (by omega) (fun j h1 h2 => ?_)⟩
  have hv:=c3p hg'.l hg'.g hg'.H 8 (p2 j (by omega) h1) (hl2 j (by omega) h2)
  exact hv.mono fun b hb hlt=>⟨by
   have hx:¬ X b:=by simpa [Cx.NX,hE.X,Cx.alone] using hb
   exact ⟨fun h=>hx (.inl h),fun h=>hx (.inr h)⟩,hlt,rfl⟩
 ·rename_i hpure
  obtain ⟨ex,s',hex,hee,hr,rfl⟩:=h0i h
  unfold b8c at hr
  obtain ⟨vs',hvs,hr⟩:=b0q hr
  rw [if_neg hpure] at hr
  split at hr
  rotate_left
  ·cases hr
  rename_i hnl
  simp only [Option.some.injEq] at hr
  subst hr
  have hgo':gOk s'.g:=b6f hCg F.body hcode (s:=b4b args g) hgo hex
  have hnr:=g0s hnl
  refine ⟨hcal,hgo',hnr,fun c vs hl hg hH hlv hrel => ?_⟩
  refine calls_of_wp hfn hbody ?_
  subst hg
  have hg0:=c5d (nt:=fn.ntmps) hlv hrel hH hl hgo hlen
  refine b4d (b3v hm hC F.body hcode hg0 hex (fun c' a' hg' hE => ?_))
  obtain ⟨us,hrun,hl1,hl2⟩:=c2w (C:=C) hg' hres hvs
  refine g3e hee hg'.D hrun ⟨_,rfl, ?_⟩
  have hs:∀ k o,lk ([]:List (Nat × AObj)) k=some o→lk c'.l k=some o:=fun k o h=>by simp [lk] at h
  refine ⟨c'.drop [],rfl,hg'.g.symm,rfl,(hE.trans d4x).evolve hl,c8x hg'.H hs (by rw [← hg'.g];exact hgo') (fun e h=>by simp at h), ?_⟩
  exact c0m hs (j0m hl1 hl2) (b5e _ hnr)
def b0e (P : Program) (f : Nat) (F : b0w) : Bool := b5h P f && match P.funcs[f]? with
  | some fn => (match fn.body with
    | some b=>fnOk P F fn b
    | none=>false)
  | none=>false
theorem b0c {f:Nat} {F:b0w} (h:b0e P f F=true):d0q P f F:=by
 unfold b0e at h
 simp only [Bool.and_eq_true] at h
 refine ⟨h.1, ?_⟩
 have h:=h.2
 split at h
 ·rename_i fn hfn
  split at h
  ·rename_i b hb
   exact ⟨fn,b,hfn,hb,h⟩
  ·cases h
 ·cases h
theorem d0n (hm:P.follows .mixedOrders=true) {T:Nat→Option LFn} (hT:TOk P Γ T):∀ n,b8h P Γ (b0f T n)
  | 0=>fun f args g r g' h=>by simp [b0f] at h
  | n + 1 => fun f args g r g' h hno hgo => by
    have hC:=d0n hm hT n
    have ht:=hT f
    simp only [b0f] at h
    cases e:T f with
    | none=>rw [e] at h;simp [h9n] at h
    | some x =>
      rw [e] at h ht
      cases x with
      | code F=>exact g7t hm hC ht h hno hgo
      | prim p=>exact ht _ hC args g r g' h hno hgo
end
end Go.TA


end
section
/- From what a statement reads to the machine, and back. -/
namespace Go.TA
inductive Sh where
 | bool
 | int (k:IntKind)
 | str
 | sl (e:Nat)
 deriving DecidableEq
def g6u : List (Option (List Sh))→Option (List Sh)
 | []=>some []
 | some a::l=>(g6u l).map (a ++ ·)
 | none::_=>none
def shOf (P : Program) : Nat → TypeId → Option (List Sh)
  | 0,_=>none
  | d + 1, t => match P.underlying t with
    | some .bool=>some [.bool]
    | some (.int k)=>some [.int k]
    | some .string=>some [.str]
    | some (.slice e)=>some [.sl e]
    | some (.struct fs)=>g6u (fs.toList.map fun f=>shOf P d f.type)
    | _=>none
def c6i (P:Program) (D:Nat) (gs:List TypeId):Bool:=gs.all fun t=>t<P.types.size && (shOf P D t).isSome && match P.underlying t with
 | some .bool | some (.int _) | some .string=>true
 | some (.slice e)=>gs.contains e
 | some (.struct fs)=>fs.toList.all fun f=>gs.contains f.type
 | _=>false
mutual
def okV (tb : Nat → Option (List Sh)) : Sh → PV → Prop
  | .bool,.bool _=>True
  | .int k,.int k' n=>k'=k∧(Lit.int k n).wf=true
  | .str,.str _=>True
  | .sl e, .list xs => match tb e with
    | some shs=>c7m tb shs xs
    | none=>False
  | _,_=>False
def okVs (tb:Nat→Option (List Sh)):List Sh→List PV→Prop
 | [],[]=>True
 | s::l,v::r=>okV tb s v∧okVs tb l r
 | _,_=>False
def c7m (tb:Nat→Option (List Sh)) (shs:List Sh):List (List PV)→Prop
 | []=>True
 | x::r=>okVs tb shs x∧c7m tb shs r
end
mutual
def PV.bulk:PV→Nat
 | .str s=>s.length+1
 | .list xs=>b3e xs+1
 | .agg cs=>b6g cs+1
 | _=>1
def b6g:List PV→Nat
 | []=>0
 | a::l=>PV.bulk a+b6g l
def b3e:List (List PV)→Nat
 | []=>0
 | a::l=>b6g a+b3e l
end
structure Bulk {H:Type} (B:DataW H→Nat) (BA:List (DataW H)→Nat):Prop where
 str:∀ bs,B (.lit (.string bs))=bs.length+1
 lit:∀ l,1≤B (.lit l)
 nil:1≤B .nil
 slice:∀ a b,B (.slice a b)=BA a+BA b+1
 agg:∀ a,B (.agg a)=BA a+1
 nilA:BA []=0
 consA:∀ d r,BA (d::r)=B d+BA r
def RelL (w:World) (N:Nat→Prop):List PV→List Value→Prop
 | [],[]=>True
 | p::l,v::r=>RelP w N p v∧v.oneCell'=true∧RelL w N l r
 | _,_=>False
section
variable {w:World} {N:Nat→Prop}
theorem RelL.len:∀ {l:List PV} {r:List Value},RelL w N l r→l.length=r.length
 | [],[],_=>rfl
 | _::_,_::_,⟨_,_,h⟩=>by simp [RelL.len h]
 | [],_::_,h=>h.elim
 | _::_,[],h=>h.elim
theorem RelL.get:∀ {l:List PV} {r:List Value},RelL w N l r→∀ j (h:j<l.length) (h':j<r.length),RelP w N (l[j]) (r[j])∧(r[j]).oneCell'=true
  | [],[],_,j,h,_=>by simp at h
  | p :: l, v :: r, ⟨a, b, h⟩, j, h1, h2 => by
    cases j with
    | zero=>exact ⟨a,b⟩
    | succ j=>exact RelL.get h j (by simpa using h1) (by simpa using h2)
  | [],_::_,h,_,_,_=>h.elim
  | _::_,[],h,_,_,_=>h.elim
theorem RelL.append:∀ {l l':List PV} {r r':List Value},RelL w N l r→RelL w N l' r'→RelL w N (l++l') (r++r')
 | [],_,[],_,_,h'=>h'
 | p::l,_,v::r,_,⟨a,b,h⟩,h'=>⟨a,b,RelL.append h h'⟩
 | [],_,_::_,_,h,_=>h.elim
 | _::_,_,[],_,h,_=>h.elim
theorem RelL.agg {l:List PV} {r:List Value} (h:RelL w N l r):RelP w N (.agg l) (.agg r.toArray):=by
 refine .agg l r h.len (fun v hv => ?_) (fun j h1 h2=>(h.get j h1 h2).1)
 obtain ⟨j,hj,rfl⟩:=List.getElem_of_mem hv
 exact (h.get j (by rw [h.len];exact hj) hj).2
end
theorem c9e {tb:Nat→Option (List Sh)}:∀ {a b:List Sh} {x y:List PV},okVs tb a x→okVs tb b y→okVs tb (a++b) (x++y)
 | [],_,[],_,_,h=>h
 | s::a,_,v::x,_,h,h'=>by simp only [okVs] at h;exact ⟨h.1,c9e h.2 h'⟩
 | [],_,_::_,_,h,_=>by simp [okVs] at h
 | _::_,_,[],_,h,_=>by simp [okVs] at h
theorem c7d:∀ (a b:List PV),b6g (a++b)=b6g a+b6g b
 | [],b=>by simp [b6g]
 | x::a,b=>by simp only [List.cons_append,b6g,c7d a b];omega
theorem g3j {tb:Nat→Option (List Sh)} {shs:List Sh}:∀ {xs:List (List PV)},(∀ i (h:i<xs.length),okVs tb shs (xs[i]))→c7m tb shs xs
 | [],_=>trivial
 | x::r,h=>⟨h 0 (by simp),g3j (fun i hi=>h (i+1) (by simpa using hi))⟩
theorem c9z {α : Type} {p:Nat → α → Prop}:∀ {n:Nat},(∀ i,i<n→∃ x,p i x)→∃ l:List α,l.length=n∧∀ i (h:i<l.length),p i (l[i])
  | 0,_=>⟨[],rfl,by simp⟩
  | n + 1, h => by
    obtain ⟨l,h1,h2⟩:=c9z (n:=n) (fun i hi=>h i (by omega))
    obtain ⟨x,hx⟩:=h n (by omega)
    refine ⟨l++[x],by simp [h1],fun i hi => ?_⟩
    by_cases e:i<l.length
    · rw [List.getElem_append_left e];exact h2 i e
    · have:i=n:=by simp at hi;omega
      subst this
      rw [List.getElem_append_right (by omega)]
      simpa using hx
section
variable {H:Type} {enc:TypeId × Value→H} {P:Program} {W:World} {base:Nat} {spare:Nat→Bool} {held:Bool} {B:DataW H→Nat} {BA:List (DataW H)→Nat} {D0:Nat} {gs:List TypeId}
abbrev Any:Nat→Prop:=fun _=>True
theorem c4w (h:c6i P D0 gs=true) {t:TypeId} (ht:t ∈ gs):t<P.types.size∧(shOf P D0 t).isSome=true∧(match P.underlying t with
 | some .bool | some (.int _) | some .string=>true
 | some (.slice e)=>gs.contains e
 | some (.struct fs)=>fs.toList.all fun f=>gs.contains f.type
 | _=>false)=true:=by
 simp only [c6i,List.all_eq_true,Bool.and_eq_true,decide_eq_true_eq] at h
 exact ⟨(h t ht).1.1,(h t ht).1.2,(h t ht).2⟩
def Told (P:Program) (W:World) (D0:Nat) (B:DataW H→Nat) (shs:List Sh) (cs:List Value) (d:DataW H):Prop:=∃ pvs,okVs (shOf P D0) shs pvs∧RelL W Any pvs cs∧b6g pvs≤B d
theorem c8i (hb : Bulk B BA) : ∀ (fs : List Field) (o : Nat) (cs : List Value) (oshs : List (Option (List Sh))) (ds : List (DataW H)) {shs : List Sh}, g6u oshs = some shs → oshs.length = fs.length → ds.length = fs.length →
    (∀ (j:Nat) (f:Field),fs[j]? = some f→f.offset=o+((fs.take j).map fun f=>P.cellsOf f.type).sum)→cs.length=o+(fs.map fun f=>P.cellsOf f.type).sum →
    (∀ (j:Nat) (f:Field) (s:List Sh) (d:DataW H),fs[j]? = some f→oshs[j]? = some (some s)→ds[j]? = some d→Told P W D0 B s ((cs.drop f.offset).take (P.cellsOf f.type)) d) →
    ∃ pvs,okVs (shOf P D0) shs pvs∧RelL W Any pvs (cs.drop o)∧b6g pvs≤BA ds
  | [], o, cs, oshs, ds, shs, hf, hl1, hl2, hoff, hlen, hall => by
    have:oshs=[]:=List.eq_nil_of_length_eq_zero hl1
    subst this
    have:ds=[]:=List.eq_nil_of_length_eq_zero hl2
    subst this
    simp only [g6u,Option.some.injEq] at hf
    subst hf
    refine ⟨[],trivial, ?_,by simp [b6g]⟩
    have:cs.drop o=[]:=List.drop_eq_nil_of_le (by simp at hlen;omega)
    rw [this];trivial
  | f :: fs, o, cs, oshs, ds, shs, hf, hl1, hl2, hoff, hlen, hall => by
    match oshs,ds,hl1,hl2 with
    | [],_,h,_=>simp at h
    | _::_,[],_,h=>simp at h
    | none::_,_::_,_,_=>simp [g6u] at hf
    | some s :: oshs, d :: ds, hl1, hl2 =>
      simp only [g6u,Option.map_eq_some_iff] at hf
      obtain ⟨shs',hf,rfl⟩:=hf
      have h0:f.offset=o:=by simpa using hoff 0 f rfl
      obtain ⟨p,p1,p2,p3⟩:=hall 0 f s d rfl rfl rfl
      rw [h0] at p2
      simp only [List.map_cons,List.sum_cons] at hlen
      obtain ⟨q,q1,q2,q3⟩:=c8i hb fs (o+P.cellsOf f.type) cs oshs ds hf (by simpa using hl1) (by simpa using hl2) (fun j g hg=>by
        have:=hoff (j+1) g (by simpa using hg)
        simp only [List.take_succ_cons,List.map_cons,List.sum_cons] at this
        omega) (by omega) (fun j g s' d' hg hs hd=>hall (j+1) g s' d' (by simpa using hg) (by simpa using hs) (by simpa using hd))
      refine ⟨p++q,c9e p1 q1, ?_,by rw [c7d,hb.consA];omega⟩
      have:=p2.append q2
      have e:(cs.drop o).take (P.cellsOf f.type)++cs.drop (o+P.cellsOf f.type)=cs.drop o:=by
        rw [← List.drop_drop];exact List.take_append_drop _ _
      rw [e] at this
      exact this
theorem d0f {a:Addr} {n:Nat} {cs:List Value} (h:W.cells? base a n=some cs):cs.length=n∧∀ i (hi:i<cs.length),W.cell? (a.add i)=some (cs[i]):=by
 unfold World.cells? at h
 split at h
 ·have hl:cs.length=n:=by simpa using mapM_some_length h
  refine ⟨hl,fun i hi => ?_⟩
  have hi':i<n:=by omega
  have:=mapM_some_get h i i (by simp [hi'])
  rw [this,List.getElem?_eq_getElem hi]
 ·cases h
theorem g9u {a:Addr} {v:Value} (h:W.cell? a=some v):a.spot=none:=by
 unfold World.cell? at h
 split at h
 ·split at h
  ·cases h
  ·rename_i hs;cases e:a.spot with
   | none=>rfl
   | some s=>rw [e] at hs;simp at hs
 ·cases h
theorem d2w (hb:Bulk B BA):∀ (ds:List (DataW H)) (xs:List (List PV)),xs.length=ds.length→(∀ i (h:i<xs.length) (h':i<ds.length),b6g (xs[i])≤B (ds[i]))→b3e xs≤BA ds
  | [],[],_,_=>by simp [b3e]
  | [],_::_,h,_=>by simp at h
  | _::_,[],h,_=>by simp at h
  | d :: ds, x :: xs, hl, h => by
    have h0:=h 0 (by simp) (by simp)
    have ih:=d2w hb ds xs (by simpa using hl) (fun i h1 h2=>h (i+1) (by simpa using h1) (by simpa using h2))
    simp only [b3e,hb.consA]
    simp only [List.getElem_cons_zero] at h0
    omega
theorem c8h (K : Kids P (· < P.types.size)) (hz : ∀ t e, t < P.types.size → P.underlying t = some (.slice e) → 0 < P.cellsOf e) (hb : Bulk B BA) (hc : c6i P D0 gs = true) :
    ∀ (n:Nat) (t:TypeId) (cs:List Value) (x:DataW H × List MemPlace) (D:Nat) (shs:List Sh),t ∈ gs→DataW.trod enc P W base spare held n t cs=some x→shOf P D t=some shs→Told P W D0 B shs cs x.1
  | 0,t,cs,x,D,shs,_,h,_=>by simp [DataW.trod] at h
  | n+1,t,cs,x,0,shs,_,_,h=>by simp [shOf] at h
  | n + 1, t, cs, x, D + 1, shs, hg, h, hs => by
    obtain ⟨hlt,_,hkind⟩:=c4w hc hg
    simp only [shOf] at hs
    split at hs
    · rename_i hu
      simp only [Option.some.injEq] at hs
      subst hs
      obtain ⟨b,rfl,rfl⟩:=DataW.trod_bool hu h
      exact ⟨[.bool b],⟨trivial,trivial⟩,⟨.bool b,rfl,trivial⟩,hb.lit _⟩
    · rename_i k hu
      simp only [Option.some.injEq] at hs
      subst hs
      obtain ⟨m,rfl,rfl,hw⟩:=DataW.trod_int hu h
      exact ⟨[.int k m],⟨⟨rfl,hw⟩,trivial⟩,⟨.int k m,rfl,trivial⟩,hb.lit _⟩
    · rename_i hu
      simp only [Option.some.injEq] at hs
      subst hs
      obtain ⟨s,rfl,rfl,hw⟩:=DataW.trod_string hu h
      exact ⟨[.str s.data.toList],⟨trivial,trivial⟩,⟨.str s.data.toList,rfl,trivial⟩,by simp [b6g,PV.bulk,hb.str]⟩
    · rename_i e hu
      simp only [Option.some.injEq] at hs
      subst hs
      rw [hu] at hkind
      have he:e ∈ gs:=by simpa using hkind
      obtain ⟨helt,hes,_⟩:=c4w hc he
      obtain ⟨es,hes⟩:=Option.isSome_iff_exists.1 hes
      rcases DataW.trod_slice hu h with ⟨rfl,rfl⟩ | ⟨a,len,cap,elems,rest,m,hm,rfl,rfl,hba,hlc,hcap,hel,hget,_⟩
      · refine ⟨[.list []],⟨?_,trivial⟩,⟨.none none 0 (by simp [maxLen]),rfl,trivial⟩, ?_⟩
        · simp only [okV,hes];trivial
        · have:=hb.nil;simpa [b6g,PV.bulk,b3e] using this
      · obtain rfl:n=m:=by omega
        have each:∀ i,i<len→∃ q:List PV × List Value,okVs (shOf P D0) es q.1∧RelL W Any q.1 q.2∧W.cells? base (a.add (i*P.cellsOf e)) (P.cellsOf e)=some q.2∧∀ y,elems[i]? = some y→b6g q.1≤B y.1:=by
          intro i hi
          have hi':i<elems.length:=by omega
          have hgi:=hget i hi
          rw [List.getElem?_eq_getElem hi'] at hgi
          obtain ⟨ci,hci,hti⟩:=Option.bind_eq_some_iff.1 hgi
          obtain ⟨p,p1,p2,p3⟩:=c8h K hz hb hc n e ci _ D0 es he hti hes
          refine ⟨(p,ci),p1,p2,hci,fun y hy => ?_⟩
          rw [List.getElem?_eq_getElem hi'] at hy
          simp only [Option.some.injEq] at hy
          rw [← hy];exact p3
        obtain ⟨qs,hql,hqs⟩:=c9z each
        have hcz:0<P.cellsOf e:=hz t e hlt hu
        refine ⟨[.list (qs.map (·.1))],⟨?_,trivial⟩,⟨?_,rfl,trivial⟩, ?_⟩
        · simp only [okV,hes]
          refine g3j (fun i hi => ?_)
          simp only [List.getElem_map]
          exact (hqs i (by simpa using hi)).1
        · rcases Nat.eq_zero_or_pos len with h0 | h0
          · have:qs=[]:=List.eq_nil_of_length_eq_zero (by omega)
            subst this
            subst h0
            exact .none (some a) cap hcap
          · -- its block
            have hspot:a.spot=none:=by
              obtain ⟨_,_,hc0,_⟩:=hqs 0 (by omega)
              obtain ⟨g1,g2⟩:=d0f hc0
              have:=g2 0 (by omega)
              simp only [Nat.zero_mul,Addr.add,if_true] at this
              exact g9u this
            obtain ⟨b,off,sp⟩:=a
            simp only at hspot
            subst hspot
            have hcell:∀ i j,(hi:i<qs.length)→(hj:j<P.cellsOf e)→∃ v,((qs[i]).2)[j]? = some v∧v.oneCell'=true∧W.cell? ⟨b,off+(i*P.cellsOf e+j),none⟩=some v:=by
              intro i j hi hj
              obtain ⟨_,h2,h3,_⟩:=hqs i hi
              obtain ⟨g1,g2⟩:=d0f h3
              have hj':j<((qs[i]).2).length:=by omega
              refine ⟨((qs[i]).2)[j],List.getElem?_eq_getElem hj',(h2.get j (by rw [h2.len];exact hj') hj').2, ?_⟩
              have:=g2 j hj'
              rw [c1j,c1j] at this
              rw [← this,Nat.add_assoc]
            have e0:len=(qs.map (·.1)).length:=by simp [hql]
            rw [e0]
            have hbs:b<W.heap.size:=by
              obtain ⟨v,_,_,hv⟩:=hcell 0 0 (by omega) hcz
              unfold World.cell? at hv
              split at hv
              · rename_i hb';exact (Array.getElem?_eq_some_iff.1 hb').1
              · cases hv
            refine .list _ b off cap (P.cellsOf e) (fun i j=>match qs[i]? with | some q=>(match q.2[j]? with | some v=>if v.oneCell'=true then v else .bool true | none => .bool true) | none => .bool true) trivial hbs (by simp;omega) hcap (fun i hi => ?_) (fun i j hi hj => ?_) (fun i j => ?_) (fun i j hi hj => ?_)
            · simp only [List.getElem_map]
              have hi':i<qs.length:=by simpa using hi
              obtain ⟨_,h2,h3,_⟩:=hqs i hi'
              rw [h2.len,(d0f h3).1]
            · have hi':i<qs.length:=by simpa using hi
              obtain ⟨v,v1,v2,v3⟩:=hcell i j hi' hj
              simp only [List.getElem?_eq_getElem hi',v1,v2,if_true]
              exact v3
            · split
              · split
                · split
                  · assumption
                  · rfl
                · rfl
              · rfl
            · have hi':i<qs.length:=by simpa using hi
              simp only [List.getElem_map] at hj ⊢
              obtain ⟨_,h2,h3,_⟩:=hqs i hi'
              have hj':j<((qs[i]).2).length:=by rw [← h2.len];exact hj
              have hr:=h2.get j hj hj'
              simp only [List.getElem?_eq_getElem hi',List.getElem?_eq_getElem hj',hr.2,if_true]
              exact hr.1
        · simp only [b6g,PV.bulk,hb.slice]
          have:=d2w hb (elems.map (·.1)) (qs.map (·.1)) (by simp;omega) (fun i h1 h2=>by
            simp only [List.getElem_map]
            have h2':i<elems.length:=by simpa using h2
            exact (hqs i (by simpa using h1)).2.2.2 _ (List.getElem?_eq_getElem h2'))
          omega
    · rename_i fs hu
      rw [hu] at hkind
      simp only [List.all_eq_true] at hkind
      obtain ⟨xs,m,hm,rfl,hlen,hxl,hget⟩:=DataW.trod_struct hu h
      obtain rfl:n=m:=by omega
      obtain ⟨k1,k2,k3⟩:=K.struct hlt hu
      have:=c8i (P:=P) (W:=W) (D0:=D0) hb fs.toList 0 cs (fs.toList.map fun f=>shOf P D f.type) (xs.map (·.1)) hs (by simp) (by simp [hxl]) (fun j f hf=>by
        have:=k3 j f hf
        omega) (by rw [hlen,k2];omega) (fun j f s d hf hsj hd=>by
          have hfa:fs[j]? = some f:=by simpa using hf
          have hgj:=hget j f hfa
          have hjx:j<xs.length:=by
            have:=(Array.getElem?_eq_some_iff.1 hfa).1
            omega
          rw [List.getElem?_eq_getElem hjx] at hgj
          rw [List.getElem?_map,List.getElem?_eq_getElem hjx] at hd
          simp only [Option.map_some,Option.some.injEq] at hd
          subst hd
          rw [List.getElem?_map,hf] at hsj
          simp only [Option.map_some,Option.some.injEq] at hsj
          exact c8h K hz hb hc n f.type _ _ D s (by simpa using hkind f (List.mem_of_getElem? hf)) hgj hsj)
      obtain ⟨p,p1,p2,p3⟩:=this
      refine ⟨p,p1,by simpa using p2, ?_⟩
      simp only [hb.agg]
      omega
    · cases hs
end
end Go.TA
namespace Go.TA
def aggT (P:Program) (t:TypeId):Bool:=match P.underlying t with
 | some (.struct _)=>true
 | _=>false
def h8k (agg:Bool) (pvs:List PV):PV:=if agg then .agg pvs else pvs.getD 0 .nilp
def h9d (P:Program) (D0:Nat):List TypeId→List (List PV)→Prop
 | [],[]=>True
 | t::ts,p::ps=>(∃ shs,shOf P D0 t=some shs∧okVs (shOf P D0) shs p)∧h9d P D0 ts ps
 | _,_=>False
def c2k (P:Program):List TypeId→List (List PV)→List PV
 | t::ts,p::ps=>h8k (aggT P t) p::c2k P ts ps
 | _,_=>[]
section
variable {H:Type} {enc:TypeId × Value→H} {P:Program} {W W':World} {base:Nat} {spare:Nat→Bool} {held:Bool} {B:DataW H→Nat} {BA:List (DataW H)→Nat} {D0:Nat} {gs:List TypeId}
theorem j2r {t:TypeId} {D:Nat} {shs:List Sh} (h:shOf P D t=some shs) (ha:aggT P t=false):shs.length=1:=by
  cases D with
  | zero=>simp [shOf] at h
  | succ D =>
    simp only [shOf] at h
    split at h
    all_goals first | (simp only [Option.some.injEq] at h;subst h;rfl) | (simp [aggT, *] at ha;done) | cases h
theorem h3u (hc:c6i P D0 gs=true) {t:TypeId} (ht:t ∈ gs) (ha:aggT P t=false) {v:Value} {r:Reach} {b:Nat} (hv:Value.okWide P W r b t v):v.cells.toList=[v]:=by
 obtain ⟨_,_,hk⟩:=c4w hc ht
 cases v <;> try rfl
 rename_i cs
 unfold aggT at ha
 split at ha
 ·cases ha
 split at hk <;> rename_i hu <;> simp_all [Value.okWide,Cell.okWide,Cell.ok]
theorem h8n {t:TypeId} (ha:aggT P t=true) {v:Value} {r:Reach} {b:Nat} (hv:Value.okWide P W r b t v):∃ cs:List Value,v = .agg cs.toArray∧v.cells.toList=cs:=by
 unfold aggT at ha
 split at ha
 ·rename_i fs hu
  simp only [Value.okWide,hu] at hv
  obtain ⟨cs,rfl,_⟩:=hv
  exact ⟨cs.toList,by simp,rfl⟩
 ·cases ha
theorem g4u (K : Kids P (· < P.types.size)) (hz : ∀ t e, t < P.types.size → P.underlying t = some (.slice e) → 0 < P.cellsOf e) (hb : Bulk B BA) (hc : c6i P D0 gs = true) :
    ∀ {ts:List TypeId} {vs:List Value} {ds:List (DataW H)} {ps:List MemPlace},DataW.TrodAll enc P W base spare held ts vs ds ps→(∀ t ∈ ts,t ∈ gs)→(∀ (j:Nat) t v,ts[j]? = some t→vs[j]? = some v→∃ r b,Value.okWide P W r b t v) →
    ∃ pss,h9d P D0 ts pss∧b3e pss≤BA ds∧(c2k P ts pss).length=vs.length∧∀ j (h:j<(c2k P ts pss).length) (h':j<vs.length),RelP W Any ((c2k P ts pss)[j]) (vs[j])
  | [],[],[],_,_,_,_=>⟨[],trivial,by simp [b3e],rfl,by simp [c2k]⟩
  | t :: ts, v :: vs, d :: ds, _, ⟨p, q, ⟨n, hn⟩, h2, _⟩, hg, hw => by
    obtain ⟨pss,q1,q2,q3,q4⟩:=g4u K hz hb hc h2 (fun t ht=>hg t (by simp [ht])) (fun j t v h1 h2=>hw (j+1) t v (by simpa using h1) (by simpa using h2))
    have ht:=hg t (by simp)
    obtain ⟨_,hs,_⟩:=c4w hc ht
    obtain ⟨shs,hs⟩:=Option.isSome_iff_exists.1 hs
    obtain ⟨pvs,p1,p2,p3⟩:=c8h K hz hb hc n t _ _ D0 shs ht hn hs
    obtain ⟨r,b,hov⟩:=hw 0 t v rfl rfl
    refine ⟨pvs::pss,⟨⟨shs,hs,p1⟩,q1⟩,by simp only [b3e,hb.consA];simp only at p3;omega,by simp [c2k,q3],fun j h h' => ?_⟩
    cases j with
    | succ j=>exact q4 j (by simpa [c2k] using h) (by simpa using h')
    | zero =>
      simp only [c2k,List.getElem_cons_zero]
      cases ha:aggT P t with
      | true =>
        obtain ⟨cs,rfl,hcs⟩:=h8n ha hov
        rw [hcs] at p2
        simpa [h8k] using p2.agg
      | false =>
        have hl:=j2r hs ha
        rw [h3u hc ht ha hov] at p2
        have:=p2.get 0 (by rw [p2.len];simp) (by simp)
        simp only [List.getElem_cons_zero] at this
        have hp:0<pvs.length:=by rw [p2.len];simp
        simp only [h8k,Bool.false_eq_true,if_false,b4g PV.nilp hp]
        exact this.1
theorem d8t:∀ {ts:List TypeId} {vs:List Value} {ds:List (DataW H)} {ps:List MemPlace},DataW.TrodAll enc P W base spare held ts vs ds ps→(∀ p ∈ ps,W.sameAt W' p)→DataW.TrodAll enc P W' base spare held ts vs ds ps
 | [],[],[],_,h,_=>h
 | _::_,_::_,_::_,_,⟨p,q,⟨n,hn⟩,h2,e⟩,hs=>⟨p,q,⟨n,DataW.trod_carry n _ _ _ hn (fun x hx=>hs x (by rw [e];exact List.mem_append_left _ hx))⟩,d8t h2 (fun x hx=>hs x (by rw [e];exact List.mem_append_right _ hx)),e⟩
theorem g2m:∀ {ts:List TypeId} {vs:List Value} {ds:List (DataW H)} {ps:List MemPlace},DataW.TrodAll enc P W base spare held ts vs ds ps→ds.length=ts.length
 | [],[],[],_,_=>rfl
 | _::_,_::_,_::_,_,⟨_,_,_,h,_⟩=>by simp [g2m h]
theorem g5m (h:Go.RowKit.Below W.heap.size W W') {p:MemPlace} (hp:p.block<W.heap.size):W.sameAt W' p:=by
 cases p with
 | cell b off=>exact World.cell?_of_block (a:=⟨b,off,none⟩) (h.block b hp)
 | map b=>exact h.block b hp
theorem h7b (K:Kids P (· < P.types.size)) (hz:∀ t e,t<P.types.size→P.underlying t=some (.slice e)→0<P.cellsOf e) {f:Func} {s:ChangeSpec} {apart fresh handsOn:Bool} {args:Array Value} {ds gs:List (DataW H)} {before:List MemPlace}
  (hW:DataW.Whole enc P f.params.toList s.vars apart W args.toList ds gs before) (hv:s.vars=[]) {tb:TypeId} (hr:f.resultTypes = #[tb]) (hu:P.underlying tb=some .bool) (hp:∀ t ∈ f.params.toList,t<P.types.size)
  (hspec:s.fn H ds = { results:=[.lit (.bool true)],args:=ds }) (hB:Go.RowKit.Below W.heap.size W W'):s.post enc P f apart fresh handsOn false W args (.bool true) W':=by
 have hW':=hW
 obtain ⟨p,q,h1,h2,rfl,h4,h5⟩:=hW
 rw [hv] at h2
 obtain ⟨rfl,rfl⟩:=Go.ChangeShapes.trodVars_none h2
 have hlt:=h1.lt
 have hold:∀ x ∈ p,(fun b=>decide (b<W.heap.size)) x.block=true:=fun x hx=>by simpa using hlt x hx
 refine ⟨ds,[],p++[],[],p,[],hW', ?_, ?_, ?_,hB.frame _,fun h=>by cases h⟩
 ·rw [hr,List.append_nil,hspec]
  exact ⟨[],[],⟨1,by simp [DataW.trod,hu,Value.cells]⟩,rfl,rfl⟩
 ·rw [List.append_nil,hspec]
  exact (d8t h1 (fun x hx=>g5m hB (hlt x hx))).respare K hz hp hold
 ·rw [hv,List.append_nil,hspec]
  exact rfl
def Γ0:b1e:=⟨0,fun _=>True,fun _ _=>Nat.zero_le _,fun _ _ _ _ _=>trivial⟩
def Cx.zero (W:World):Cx:=⟨fun _=>False,fun _ _=>none,[],[],W⟩
theorem h0l {Γ : b1e} (W:World) (hW : Γ.holds W):RelH Γ (Cx.zero W) where
 ground:=hW
 objs z k ob hob:=by cases z <;> simp [Cx.obj,Cx.zero,lk] at hob
 inj z k z' k' b h:=by simp [Cx.zero] at h
 live z k b h:=by simp [Cx.zero] at h
 xlt b hb:=hb.elim
theorem d7j {Γ : b1e} (hW : Γ.holds W) (hm:P.follows .mixedOrders=true) {T:Nat→Option LFn} (hT:TOk P Γ T) {n f:Nat} {ps:List PV} {g':List AObj} (h:b0f T n f (ps.map .p) []=some (.p (.bool true),g')) {args:Array Value}
  (hl:ps.length=args.size) (hr:∀ j (h:j<ps.length) (h':j<args.toList.length),RelP W Any (ps[j]) (args.toList[j])):Calls P f args W fun e W'=>e = .returned (.bool true)∧Go.RowKit.Below W.heap.size W W':=by
 obtain ⟨_,_,_,h4⟩:=d0n hm hT n f _ [] _ _ h (b6s ps) (fun o h=>by simp at h)
 have hN:∀ b,(Cx.zero W).N b:=fun b=>⟨fun h=>h,fun ⟨z,k,h⟩=>by simp [Cx.zero] at h⟩
 have:=h4 (Cx.zero W) args.toList rfl rfl (h0l W hW) (by simpa using hl) (fun j h h'=>by
  simp only [List.getElem_map]
  exact .p _ _ ((hr j (by simpa using h) h').mono fun b _ hb=>⟨hN b,hb,rfl⟩))
 rw [Array.toArray_toList] at this
 refine Calls.mono this (fun e w' he => ?_)
 obtain ⟨v,rfl,c',_,_,rfl,hE,_,hv⟩:=he
 exact ⟨by rw [b8w hv],hE.os,hE.tape,hE.output,hE.size,fun k hk=>hE.keep k hk (fun ⟨z,k,h⟩=>by simp [Cx.zero] at h)⟩
end
def j4e (P:Program) (Γ : b1e) (e:Nat × LFn):Prop:=match e.2 with
 | .code F=>d0q P e.1 F
 | .prim p=>b6j P Γ e.1 p
theorem j2q {P:Program} {Γ : b1e} {tab:List (Nat × LFn)} (h:∀ e ∈ tab,j4e P Γ e):TOk P Γ (fun k=>lk tab k):=fun f=>by
  change match lk tab f with
    | some (.code F)=>d0q P f F
    | some (.prim p)=>b6j P Γ f p
    | none=>True
  cases e:lk tab f with
  | none=>trivial
  | some x =>
    have:=h (f,x) (h2a e)
    cases x <;> exact this
end Go.TA


end
section
/- Values of the machine, read as data. -/
namespace Go.TA
section
variable {tb:Nat→Option (List Sh)}
theorem b9u {l:List Sh} {ps:List PV} (h:okVs tb (.str::l) ps):∃ s r,ps = .str s::r∧okVs tb l r:=by
  cases ps with
  | nil=>simp [okVs] at h
  | cons p r =>
    simp only [okVs] at h
    cases p <;> simp [okV] at h
    exact ⟨_,r,rfl,h⟩
theorem c6h {k:IntKind} {l:List Sh} {ps:List PV} (h:okVs tb (.int k::l) ps):∃ n r,ps = .int k n::r∧(Lit.int k n).wf=true∧okVs tb l r:=by
  cases ps with
  | nil=>simp [okVs] at h
  | cons p r =>
    simp only [okVs] at h
    cases p <;> simp [okV] at h
    obtain ⟨⟨rfl,hw⟩,hr⟩:=h
    exact ⟨_,r,rfl,hw,hr⟩
theorem c4v {e:Nat} {l:List Sh} {ps:List PV} {es:List Sh} (ht:tb e=some es) (h:okVs tb (.sl e::l) ps):∃ xs r,ps = .list xs::r∧c7m tb es xs∧okVs tb l r:=by
  cases ps with
  | nil=>simp [okVs] at h
  | cons p r =>
    simp only [okVs] at h
    cases p <;> simp [okV,ht] at h
    exact ⟨_,r,rfl,h.1,h.2⟩
theorem c6g {ps:List PV} (h:okVs tb [] ps):ps=[]:=by
 cases ps with
 | nil=>rfl
 | cons p r=>simp [okVs] at h
def d7p (n:Int):Prop := -9223372036854775808≤n∧n≤9223372036854775807
theorem d1h {n:Int} (h:(Lit.int .i64 n).wf=true):d7p n:=by
 simpa [Lit.wf,IntKind.min,IntKind.max,IntKind.signed,IntKind.bits,d7p] using h
theorem d0c:∀ {xs:List (List PV)},c7m tb [.str,.str] xs→∃ l:List Attr,xs=l.map Attr.pv
  | [],_=>⟨[],rfl⟩
  | x :: xs, h => by
    simp only [c7m] at h
    obtain ⟨l,rfl⟩:=d0c h.2
    obtain ⟨a,r1,rfl,h1⟩:=b9u h.1
    obtain ⟨b,r2,rfl,h2⟩:=b9u h1
    obtain rfl:=c6g h2
    exact ⟨⟨a,b⟩::l,rfl⟩
def opSh (a:Nat):List Sh:=[.int .i64,.int .i64,.int .i64,.int .i64,.str,.str,.str,.str,.sl a]
def GOp.ok (x:GOp):Prop:=d7p x.kind∧d7p x.node∧d7p x.up∧d7p x.before
theorem j3p {a:Nat} (ha:tb a=some [.str,.str]) {ps:List PV} (h:okVs tb (opSh a) ps):∃ x:GOp,ps=x.pv∧x.ok:=by
 unfold opSh at h
 obtain ⟨k,r1,rfl,w1,h1⟩:=c6h h
 obtain ⟨n,r2,rfl,w2,h2⟩:=c6h h1
 obtain ⟨u,r3,rfl,w3,h3⟩:=c6h h2
 obtain ⟨b,r4,rfl,w4,h4⟩:=c6h h3
 obtain ⟨s1,r5,rfl,h5⟩:=b9u h4
 obtain ⟨s2,r6,rfl,h6⟩:=b9u h5
 obtain ⟨s3,r7,rfl,h7⟩:=b9u h6
 obtain ⟨s4,r8,rfl,h8⟩:=b9u h7
 obtain ⟨xs,r9,rfl,hx,h9⟩:=c4v ha h8
 obtain rfl:=c6g h9
 obtain ⟨l,rfl⟩:=d0c hx
 exact ⟨⟨k,n,u,b,s1,s2,s3,s4,l⟩,rfl,d1h w1,d1h w2,d1h w3,d1h w4⟩
theorem h3q {a:Nat} (ha:tb a=some [.str,.str]):∀ {xs:List (List PV)},c7m tb (opSh a) xs→∃ l:List GOp,xs=l.map GOp.pv∧∀ x ∈ l,x.ok
  | [],_=>⟨[],rfl,by simp⟩
  | x :: xs, h => by
    simp only [c7m] at h
    obtain ⟨l,rfl,hl⟩:=h3q ha h.2
    obtain ⟨y,rfl,hy⟩:=j3p ha h.1
    exact ⟨y::l,rfl,by simpa using ⟨hy,hl⟩⟩
theorem c6j:∀ (l:List Attr),(∀ a ∈ l,a.value.length+a.name.length+2≤b3e (l.map Attr.pv))∧l.length≤b3e (l.map Attr.pv)
  | []=>by simp [b3e]
  | a :: l => by
    obtain ⟨h1,h2⟩:=c6j l
    simp only [List.map_cons,b3e,Attr.pv,b6g,PV.bulk,List.length_cons]
    refine ⟨fun b hb => ?_,by omega⟩
    rcases List.mem_cons.1 hb with rfl | hb
    · omega
    · have:=h1 b hb;omega
theorem h3y (x:GOp):b6g x.pv=8+x.tag.length+x.key.length+x.name.length+x.text.length+b3e (x.attrs.map Attr.pv)+1:=by
 simp only [GOp.pv,b0b,b6g,PV.bulk];omega
end
end Go.TA


end
section
/- Rows, as Lean has them. -/
namespace Go.TA
structure GRow where
 id:Int
 up:Int
 tag:Bs
 key:Bs
 text:Bs
 attrs:List Attr
 deriving DecidableEq
def GRow.pv (x:GRow):List PV:=[.int .i64 x.id,.int .i64 x.up,.str x.tag,.str x.key,.str x.text,b0b x.attrs]
def h5z (a:Nat):List Sh:=[.int .i64,.int .i64,.str,.str,.str,.sl a]
def GRow.ok (x:GRow):Prop:=d7p x.id∧d7p x.up
section
variable {tb:Nat→Option (List Sh)}
theorem j1q {a:Nat} (ha:tb a=some [.str,.str]) {ps:List PV} (h:okVs tb (h5z a) ps):∃ x:GRow,ps=x.pv∧x.ok:=by
 unfold h5z at h
 obtain ⟨k,r1,rfl,w1,h1⟩:=c6h h
 obtain ⟨n,r2,rfl,w2,h2⟩:=c6h h1
 obtain ⟨s1,r5,rfl,h5⟩:=b9u h2
 obtain ⟨s2,r6,rfl,h6⟩:=b9u h5
 obtain ⟨s3,r7,rfl,h7⟩:=b9u h6
 obtain ⟨xs,r9,rfl,hx,h9⟩:=c4v ha h7
 obtain rfl:=c6g h9
 obtain ⟨l,rfl⟩:=d0c hx
 exact ⟨⟨k,n,s1,s2,s3,l⟩,rfl,d1h w1,d1h w2⟩
theorem g4j {a:Nat} (ha:tb a=some [.str,.str]):∀ {xs:List (List PV)},c7m tb (h5z a) xs→∃ l:List GRow,xs=l.map GRow.pv∧∀ x ∈ l,x.ok
  | [],_=>⟨[],rfl,by simp⟩
  | x :: xs, h => by
    simp only [c7m] at h
    obtain ⟨l,rfl,hl⟩:=g4j ha h.2
    obtain ⟨y,rfl,hy⟩:=j1q ha h.1
    exact ⟨y::l,rfl,by simpa using ⟨hy,hl⟩⟩
end
def b1u (l:List Attr):Prop:=∀ a ∈ l,a.value.length+a.name.length≤1048576
structure GRow.small (n:Nat) (x:GRow):Prop where
 attrs:x.attrs.length<n
 small:b1u x.attrs
 text:x.text.length+x.key.length+x.tag.length≤1048576
structure Rows.small (n:Nat) (l:List GRow):Prop where
 len:l.length<n
 row:∀ x ∈ l,x.small n
structure GRow.mid (n:Nat) (x:GRow):Prop where
 attrs:x.attrs.length<n
 small:b1u x.attrs
structure Rows.mid (n:Nat) (l:List GRow):Prop where
 len:l.length<n
 row:∀ x ∈ l,x.mid n
theorem Rows.small.mid {n:Nat} {l:List GRow} (h:Rows.small n l):Rows.mid n l:=⟨h.len,fun x hx=>⟨(h.row x hx).attrs,(h.row x hx).small⟩⟩
theorem g4q (x:GRow):b6g x.pv=5+x.tag.length+x.key.length+x.text.length+b3e (x.attrs.map Attr.pv)+1:=by
 simp only [GRow.pv,b0b,b6g,PV.bulk];omega
theorem g9v {n:Nat} {x:GRow} (h:b6g x.pv≤n) (hn:n≤1048576):x.small n:=by
 rw [g4q] at h
 obtain ⟨h1,h2⟩:=c6j x.attrs
 exact ⟨by omega,fun a ha=>by have:=h1 a ha;omega,by omega⟩
theorem d8u:∀ (l:List GRow),(∀ x ∈ l,b6g x.pv≤b3e (l.map GRow.pv))∧l.length≤b3e (l.map GRow.pv)
  | []=>by simp [b3e]
  | a :: l => by
    obtain ⟨h1,h2⟩:=d8u l
    have:=g4q a
    simp only [List.map_cons,b3e,List.length_cons]
    refine ⟨fun b hb => ?_,by omega⟩
    rcases List.mem_cons.1 hb with rfl | hb
    · omega
    · have:=h1 b hb;omega
theorem g5j {n:Nat} {l:List GRow} (h:b3e (l.map GRow.pv)<n) (hn:n≤1048577):Rows.small n l:=by
 obtain ⟨h1,h2⟩:=d8u l
 refine ⟨by omega,fun x hx => ?_⟩
 have h3:=h1 x hx
 have h4:=g9v (n:=n - 1) (x:=x) (by omega) (by omega)
 exact ⟨by have:=h4.attrs;omega,h4.small,h4.text⟩
end Go.TA


end
section
/- Rows of numbers; what is found among rows; whether attributes are the same. Plain. -/
namespace Go.TA
def b0j (l:List Int):List (List PV):=l.map fun i=>[PV.int .i64 i]
theorem b0v (l:List Int):(b0j l).length=l.length:=by simp [b0j]
theorem b4a (l:List Int) (i:Int):b0j l++[[PV.int .i64 i]]=b0j (l++[i]):=by simp [b0j]
theorem b4e {l:List Int} {i:Nat} {v:Int} (h:l[i]? = some v):(b0j l).getD i []=[PV.int .i64 v]:=by
 unfold b0j;rw [List.getD_eq_getElem?_getD,List.getElem?_map,h];rfl
def h9g (l:List GRow) (id:Int):Option Nat:=l.findIdx? (fun x=>x.id==id)
def idAt (o:Option Nat):Int:=match o with
 | some k=>k
 | none => -1
def h9v (x y:GRow):Bool:=decide (x.tag=y.tag∧x.key=y.key∧x.text=y.text∧x.attrs=y.attrs)
def j5x (b:List GRow) (x:GRow):List Int:=match h9g b x.id with
 | some _=>[]
 | none=>[x.id]
def j4j (a:List GRow) (y:GRow):List Int:=match h9g a y.id with
 | some k=>(match a[k]? with | some x=>if h9v x y=true then [] else [y.id] | none=>[])
 | none=>[]
def j2u (x:GRow):AV:=.p (.agg x.pv)
def j3l (es:List (PV × AV)) (x:GRow):List (PV × AV):=if (mlk 1 es (.int .i64 x.id)).isSome=true then es else mput 1 es (.int .i64 x.id) (j2u x)
def fm (l:List GRow):List (PV × AV):=l.foldl j3l []
def j3i (es:List (PV × AV)):Prop:=∀ e ∈ es,∃ n,e.1 = .int .i64 n
def j5y (es:List (PV × AV)) (l:List GRow):Prop:=j3i es∧∀ id,mlk 1 es (.int .i64 id)=(l.find? fun x=>x.id==id).map j2u
end Go.TA


end
section
/- The handles above a row. Plain. -/
namespace Go.TA
def upAt (l:List GRow) (x:Nat):Nat:=((l[x - 1]?).map (fun r=>r.up.toNat)).getD 0
def b1r (l:List GRow) (i:Nat):Prop:=∀ (j:Nat) x,j<i→l[j]? = some x→0≤x.up∧x.up≤j
def anc (l:List GRow):Nat→Nat→List Nat
 | 0,_=>[]
 | _+1,0=>[]
 | f+1,x+1=>(x+1)::anc l f (upAt l (x+1))
def b3o (l:List GRow) (x:Nat):List Nat:=anc l x x
theorem b4x (l:List GRow):b3o l 0=[]:=rfl
theorem b5w {l:List GRow} {i x:Nat} (h:b1r l i) (hx:x<i) (hl:x<l.length):upAt l (x+1)≤x:=by
 obtain ⟨r,hr⟩:=b0m hl
 have:=h x r hx hr
 simp [upAt,hr]
 omega
theorem h8l {l : List GRow} {i : Nat} (h : b1r l i) (hi : i ≤ l.length) : ∀ (x f : Nat), x ≤ i → x ≤ f → anc l f x = anc l x x := by
  intro x
  induction x using Nat.strongRecOn with
  | _ x ih =>
    intro f hx hf
    cases x with
    | zero=>cases f <;> rfl
    | succ x =>
      cases f with
      | zero=>omega
      | succ f =>
        simp only [anc]
        have hu:=b5w h (x:=x) (by omega) (by omega)
        rw [ih _ (by omega) f (by omega) (by omega),ih _ (by omega) x (by omega) (by omega)]
theorem b3l {l:List GRow} {i x:Nat} (h:b1r l i) (hi:i≤l.length) (hx:x<i):b3o l (x+1)=(x+1)::b3o l (upAt l (x+1)):=by
 have hu:=b5w h hx (by omega)
 unfold b3o
 simp only [anc]
 rw [h8l h hi _ x (by omega) hu]
theorem c4z {l:List GRow}:∀ {f x:Nat} {y:Nat},y ∈ anc l f x→0<y
  | 0,_,_,h=>by simp [anc] at h
  | f+1,0,_,h=>by simp [anc] at h
  | f + 1, x + 1, y, h => by
    simp only [anc,List.mem_cons] at h
    rcases h with rfl | h
    · omega
    · exact c4z h
theorem c8a {l : List GRow} {i : Nat} (h : b1r l i) (hi : i ≤ l.length) : ∀ (x : Nat), x ≤ i → ∀ y ∈ b3o l x, y ≤ x := by
  intro x
  induction x using Nat.strongRecOn with
  | _ x ih =>
    intro hx y hy
    cases x with
    | zero=>simp [b4x] at hy
    | succ x =>
      rw [b3l h hi hx] at hy
      have hu:=b5w h (x:=x) (by omega) (by omega)
      rcases List.mem_cons.1 hy with rfl | hy
      · omega
      · have:=ih _ (by omega) (by omega) y hy
        omega
theorem b1r.mono {l:List GRow} {i j:Nat} (h:b1r l i) (hij:j≤i):b1r l j:=fun k x hk hx=>h k x (by omega) hx
def b3s (l:List GRow) (x:Nat) (h:Int):Bool:=(b3o l x).any fun y=>(y:Int)==h
def b3q (l:List GRow) (i:Nat) (x:GRow):Bool:=if i=0 then x.up==0 else decide (1≤x.up) && b3s l i x.up
def b1l (l:List GRow):Nat→List GRow→Bool
 | _,[]=>true
 | i,x::r=>b3q l i x && b1l l (i+1) r
def b4h (l:List GRow):Bool:=b1l l 0 l
theorem b8v {l:List GRow} {i:Nat} {x:GRow} (h:b1r l i) (hi:i≤l.length) (hx:l[i]? = some x) (hr:b3q l i x=true):b1r l (i+1):=by
 intro j y hj hy
 by_cases e:j=i
 ·subst e
  rw [hx] at hy
  cases hy
  unfold b3q at hr
  split at hr
  ·rename_i h0
   subst h0
   have:x.up=0:=by simpa using hr
   omega
  ·simp only [Bool.and_eq_true,decide_eq_true_eq,b3s,List.any_eq_true,beq_iff_eq] at hr
   obtain ⟨h1,y,hy,he⟩:=hr
   have:=c8a h hi j (Nat.le_refl _) y hy
   omega
 ·exact h j y (by omega) hy
theorem c0j (l:List GRow):b1r l 0:=fun j x hj=>by omega
theorem h8o {l:List GRow} {x:Nat} {h:Int} (ha:b3s l x h=true):0<h:=by
 simp only [b3s,List.any_eq_true,beq_iff_eq] at ha
 obtain ⟨y,hy,he⟩:=ha
 have:=c4z hy
 omega
theorem c9s {l:List GRow}:∀ {i:Nat},b1l l i (l.drop i)=true→∀ (j:Nat) x,i≤j→l[j]? = some x→b3q l j x=true:=by
  intro i h j x hij hj
  obtain ⟨d,rfl⟩:∃ d,j=i+d:=⟨j - i,by omega⟩
  induction d generalizing i with
  | zero =>
    have e:l.drop i=x::l.drop (i+1):=by rw [List.drop_eq_getElem?_toList_append];simp at hj;rw [hj];rfl
    rw [e] at h
    simp only [b1l,Bool.and_eq_true] at h
    simpa using h.1
  | succ d ih =>
    have hlt:i<l.length:=by
      have:=(List.getElem?_eq_some_iff.1 hj).1
      omega
    obtain ⟨y,hy⟩:=b0m hlt
    have e:l.drop i=y::l.drop (i+1):=by rw [List.drop_eq_getElem?_toList_append,hy];rfl
    rw [e] at h
    simp only [b1l,Bool.and_eq_true] at h
    have:=ih h.2 (by omega) (by rw [← hj];congr 1;omega)
    rw [show i+(d+1)=i+1+d by omega]
    exact this
theorem b9q {l:List GRow} (h:b4h l=true):b1r l l.length:=by
  have hr:=c9s (i:=0) (by simpa [b4h] using h)
  have key:∀ i,i≤l.length→b1r l i:=by
    intro i
    induction i with
    | zero=>intro _;exact c0j l
    | succ i ih =>
      intro hi
      obtain ⟨x,hx⟩:=b0m (show i<l.length by omega)
      exact b8v (ih (by omega)) (by omega) hx (hr i x (by omega) hx)
  exact key _ (Nat.le_refl _)
end Go.TA


end
section
/- The machine's memory: its nodes, and their kids' rows. Plain. -/
namespace Go.TA
structure b3p where
 live:Bool
 up:Int
 tag:Bs
 key:Bs
 text:Bs
 attrs:List Attr
def b1s (s:b3p) (k:AV):List AV:=[.p (.bool s.live),.p (.int .i64 s.up),k,.p (.str s.tag),.p (.str s.key),.p (.str s.text),.p (.list (s.attrs.map Attr.pv))]
def b0z (N:Nat) (st:Nat→b3p) (av:Nat→AV):List (List AV):=(List.range N).map fun h=>b1s (st h) (av h)
def upd {α : Type} (f:Nat → α) (h:Nat) (v : α):Nat → α := fun k=>if k=h then v else f k
theorem b0l {α : Type} (f:Nat → α) (h:Nat) (v : α):upd f h v h=v:=by simp [upd]
theorem b0k {α : Type} {f:Nat → α} {h k:Nat} {v : α} (hk:k≠h):upd f h v k=f k:=by simp [upd,hk]
section
variable {N:Nat} {st:Nat→b3p} {av:Nat→AV}
theorem b1y:(b0z N st av).length=N:=by simp [b0z]
theorem b1w {h:Nat} (hh:h<N):(b0z N st av).getD h []=b1s (st h) (av h):=by
 rw [List.getD_eq_getElem?_getD,b0z,List.getElem?_map,List.getElem?_range hh];rfl
theorem c8s (s:b3p) (a:AV):b0z N st av++[b1s s a]=b0z (N+1) (upd st N s) (upd av N a):=by
 simp only [b0z,List.range_succ,List.map_append,List.map_cons,List.map_nil,b0l]
 congr 1
 apply List.map_congr_left
 intro h hh
 have:h≠N:=by have:=List.mem_range.1 hh;omega
 simp [upd,this]
theorem b6o {h:Nat} (hh:h<N) (s:b3p) (a:AV):(b0z N st av).set h (b1s s a)=b0z N (upd st h s) (upd av h a):=by
 apply List.ext_getElem
 ·simp [b0z]
 ·intro k h1 h2
  rw [List.getElem_set]
  simp only [b0z,List.getElem_map,List.getElem_range]
  by_cases e:h=k
  ·subst e;simp [upd]
  ·rw [if_neg e]
   have e':k≠h:=fun e'=>e e'.symm
   simp [upd,e']
theorem b3w {st':Nat→b3p} {av':Nat→AV} (h:∀ k,k<N→st k=st' k∧av k=av' k):b0z N st av=b0z N st' av':=by
 unfold b0z
 apply List.map_congr_left
 intro k hk
 obtain ⟨h1,h2⟩:=h k (List.mem_range.1 hk)
 rw [h1,h2]
end
def b1z:AV→Option Nat
 | .own true k _=>some k
 | _=>none
inductive KRep (rest:List AObj):AV→List Int→Prop
 | none:KRep rest .nils []
 | own {r:Nat} {ks:List Int}:rest[r]? = some (.pcells 1 (b0j ks))→KRep rest (.own true (r+1+1) ks.length) ks
 | list {ks:List Int}:KRep rest (.p (.list (b0j ks))) ks
structure MOk (N:Nat) (av:Nat→AV) (kd:Nat→List Int) (rest:List AObj):Prop where
 kids:∀ h,h<N→KRep rest (av h) (kd h)
 disj:∀ h h',h<N→h'<N→h≠h'→b1z (av h)=none∨b1z (av h)≠b1z (av h')
def b0o (N:Nat) (st:Nat→b3p) (av:Nat→AV) (rest:List AObj):List AObj:=.cells 7 (b0z N st av) :: .cells 1 [[.own true 0 N]]::rest
section
variable {N:Nat} {st:Nat→b3p} {av:Nat→AV} {kd:Nat→List Int} {rest:List AObj}
theorem KRep.inv {a:AV} {ks:List Int} (h:KRep rest a ks):(a = .nils∧ks=[])∨(∃ r,a = .own true (r+1+1) ks.length∧rest[r]? = some (.pcells 1 (b0j ks)))∨a = .p (.list (b0j ks)):=by
 cases h with
 | none=>exact .inl ⟨rfl,rfl⟩
 | own h=>exact .inr (.inl ⟨_,rfl,h⟩)
 | list=>exact .inr (.inr rfl)
theorem KRep.more {a:AV} {ks:List Int} (h:KRep rest a ks) (r:List AObj):KRep (rest++r) a ks:=by
 cases h with
 | none=>exact .none
 | own h=>exact .own (by rw [List.getElem?_append_left (List.getElem?_eq_some_iff.1 h).1];exact h)
 | list=>exact .list
theorem KRep.set {a:AV} {ks:List Int} (h:KRep rest a ks) {r:Nat} {o:AObj} (hr:b1z a≠some (r+1+1)):KRep (rest.set r o) a ks:=by
  cases h with
  | none=>exact .none
  | own h =>
    refine .own ?_
    rw [List.getElem?_set,if_neg (fun e=>hr (by rw [e];rfl))]
    exact h
  | list=>exact .list
theorem KRep.ref_lt {a:AV} {ks:List Int} (h:KRep rest a ks) {k:Nat} (hk:b1z a=some k):k<rest.length+1+1:=by
  cases h with
  | none=>cases hk
  | own h =>
    simp only [b1z,Option.some.injEq] at hk
    have:=(List.getElem?_eq_some_iff.1 h).1
    omega
  | list=>cases hk
theorem MOk.push (h : MOk N av kd rest) : MOk (N + 1) (upd av N .nils) (upd kd N []) rest where
  kids k hk:=by
    by_cases e:k=N
    · subst e;rw [b0l,b0l];exact .none
    · rw [b0k e,b0k e];exact h.kids k (by omega)
  disj k k' hk hk' hne:=by
    by_cases e:k=N
    · subst e;left;rw [b0l];rfl
    · rw [b0k e]
      by_cases e':k'=N
      · subst e'
        rw [b0l]
        cases hr:b1z (av k) with
        | none=>exact .inl rfl
        | some q=>exact .inr (by simp [b1z])
      · rw [b0k e'];exact h.disj k k' (by omega) (by omega) hne
theorem MOk.fresh (h : MOk N av kd rest) {u : Nat} (hu : u < N) (ks : List Int) : MOk N (upd av u (.own true (rest.length + 1 + 1) ks.length)) (upd kd u ks) (rest ++ [.pcells 1 (b0j ks)]) where
  kids k hk:=by
    by_cases e:k=u
    · subst e;rw [b0l,b0l];exact .own (by simp)
    · rw [b0k e,b0k e];exact (h.kids k hk).more _
  disj k k' hk hk' hne:=by
    by_cases e:k=u
    · subst e
      rw [b0l,b0k (fun e=>hne e.symm)]
      right
      intro he
      have:=(h.kids k' hk').ref_lt (k:=rest.length+1+1) he.symm
      omega
    · rw [b0k e]
      by_cases e':k'=u
      · subst e'
        rw [b0l]
        cases hr:b1z (av k) with
        | none=>exact .inl rfl
        | some q =>
          right
          have:=(h.kids k hk).ref_lt hr
          simp only [b1z,ne_eq,Option.some.injEq]
          omega
      · rw [b0k e'];exact h.disj k k' hk hk' hne
theorem MOk.turn (h : MOk N av kd rest) {u r : Nat} (hu : u < N) (hr : av u = .own true (r + 1 + 1) (kd u).length) (hrl : r < rest.length) (ks : List Int) : MOk N (upd av u (.own true (r + 1 + 1) ks.length)) (upd kd u ks) (rest.set r (.pcells 1 (b0j ks))) where
  kids k hk:=by
    by_cases e:k=u
    · subst e;rw [b0l,b0l];exact .own (by simp [List.getElem?_set,hrl])
    · rw [b0k e,b0k e]
      refine (h.kids k hk).set ?_
      rcases h.disj k u hk hu e with h1 | h1
      · rw [h1];simp
      · rw [hr] at h1;exact h1
  disj k k' hk hk' hne:=by
    have e0:∀ ks:List Int,b1z (AV.own true (r+1+1) ks.length)=b1z (av u):=fun ks=>by rw [hr];rfl
    by_cases e:k=u
    · subst e
      rw [b0l,b0k (fun e=>hne e.symm),e0]
      exact h.disj k k' hk hk' hne
    · rw [b0k e]
      by_cases e':k'=u
      · subst e'
        rw [b0l,e0]
        exact h.disj k k' hk hk' hne
      · rw [b0k e'];exact h.disj k k' hk hk' hne
theorem MOk.fix (h : MOk N av kd rest) {u : Nat} (hu : u < N) (ks : List Int) : MOk N (upd av u (.p (.list (b0j ks)))) (upd kd u ks) rest where
  kids k hk:=by
    by_cases e:k=u
    · subst e;rw [b0l,b0l];exact .list
    · rw [b0k e,b0k e];exact h.kids k hk
  disj k k' hk hk' hne:=by
    by_cases e:k=u
    · subst e;left;rw [b0l];rfl
    · rw [b0k e]
      by_cases e':k'=u
      · subst e'
        rw [b0l]
        cases hr:b1z (av k) with
        | none=>exact .inl rfl
        | some q=>exact .inr (by simp [b1z])
      · rw [b0k e'];exact h.disj k k' hk hk' hne
end
structure Fr (N:Nat) (av:Nat→AV) (rest:List AObj) (N':Nat) (av':Nat→AV) (rest':List AObj):Prop where
 len:rest.length≤rest'.length
 keep:∀ j,j<rest.length→(∀ h,h<N→b1z (av h)≠some (j+1+1))→rest'[j]? = rest[j]?
 refs:∀ h,h<N'→∀ j,b1z (av' h)=some (j+1+1)→j<rest.length→∃ h0,h0<N∧b1z (av h0)=some (j+1+1)
theorem Fr.refl (N:Nat) (av:Nat→AV) (rest:List AObj):Fr N av rest N av rest:=⟨Nat.le_refl _,fun _ _ _=>rfl,fun h hh j hj _=>⟨h,hh,hj⟩⟩
theorem Fr.trans {N N' N'':Nat} {av av' av'':Nat→AV} {rest rest' rest'':List AObj} (h1:Fr N av rest N' av' rest') (h2:Fr N' av' rest' N'' av'' rest''):Fr N av rest N'' av'' rest'' where
 len:=Nat.le_trans h1.len h2.len
 keep j hj hn:=by
  rw [h2.keep j (Nat.lt_of_lt_of_le hj h1.len) (fun h hh e=>by
   obtain ⟨h0,hh0,e0⟩:=h1.refs h hh j e hj
   exact hn h0 hh0 e0)]
  exact h1.keep j hj hn
 refs h hh j hj hl:=by
  obtain ⟨h1',hh1,e1⟩:=h2.refs h hh j hj (Nat.lt_of_lt_of_le hl h1.len)
  exact h1.refs h1' hh1 j e1 hl
theorem Fr.more (N:Nat) (av:Nat→AV) (rest more:List AObj):Fr N av rest N av (rest++more):=⟨by simp,fun j hj _=>List.getElem?_append_left hj,fun h hh j hj _=>⟨h,hh,hj⟩⟩
theorem Fr.push (N:Nat) (av:Nat→AV) (rest:List AObj):Fr N av rest (N+1) (upd av N .nils) rest:=⟨Nat.le_refl _,fun _ _ _=>rfl,fun h hh j hj _=>by
 by_cases e:h=N
 ·subst e;rw [b0l] at hj;cases hj
 ·rw [b0k e] at hj;exact ⟨h,by omega,hj⟩⟩
def b7c:b3p:=⟨true, -1,[],[],[],[]⟩
def b5o (x:GRow):b3p:=⟨true,x.up,x.tag,x.key,x.text,x.attrs⟩
def st0 (l:List GRow):Nat→b3p
 | 0=>b7c
 | h+1=>((l[h]?).map b5o).getD b7c
def kd0 (l:List GRow) (i:Nat) (h:Nat):List Int:=((List.range i).filter fun k=>((l[k]?).map (fun x=>x.up==(h:Int))).getD false).map fun (k:Nat)=>(k:Int)+1
theorem h7f (l:List GRow) (h:Nat):kd0 l 0 h=[]:=rfl
theorem c1t {l:List GRow} {i:Nat} {x:GRow} (hx:l[i]? = some x) (h:Nat):kd0 l (i+1) h=if x.up=(h:Int) then kd0 l i h++[(i:Int)+1] else kd0 l i h:=by
 simp only [kd0,List.range_succ,List.filter_append,List.map_append,List.filter_cons,List.filter_nil,hx,Option.map_some,Option.getD_some]
 by_cases e:x.up=(h:Int)
 ·simp [e]
 ·simp [e]
theorem h2i {l:List GRow} {i h:Nat} (hs:b1r l i) (hh:i<h):kd0 l i h=[]:=by
  unfold kd0
  rw [List.map_eq_nil_iff,List.filter_eq_nil_iff]
  intro k hk
  have hk:=List.mem_range.1 hk
  cases hx:l[k]? with
  | none=>simp
  | some x =>
    have:=hs k x hk hx
    simp
    omega
end Go.TA


end
section
/- Rows that stand as a tree's do: where what is below a handle ends; kids in their order. Plain. -/
namespace Go.TA
def b5x (l:List GRow):Prop:=b1r l l.length∧∀ (j:Nat) x,l[j]? = some x→(j=0∧x.up=0)∨(0<j∧∃ y ∈ b3o l j,(y:Int)=x.up)
theorem b3x {l:List GRow} (h:b4h l=true):b5x l:=by
 refine ⟨b9q h,fun j x hx => ?_⟩
 have hr:=c9s (i:=0) (by simpa [b4h] using h) j x (by omega) hx
 unfold b3q at hr
 split at hr
 ·rename_i h0;exact .inl ⟨h0,by simpa using hr⟩
 ·rename_i h0
  simp only [Bool.and_eq_true,decide_eq_true_eq,b3s,List.any_eq_true,beq_iff_eq] at hr
  exact .inr ⟨by omega,hr.2⟩
def b2l (l:List GRow) (h:Nat):Nat:=h+(l.drop h).findIdx (fun x=>decide (x.up<(h:Int)))
section
variable {l:List GRow}
theorem b4k {h:Nat} (hh:h≤l.length):h≤b2l l h∧b2l l h≤l.length:=by
 unfold b2l
 have:=List.findIdx_le_length (xs:=l.drop h) (p:=fun x=>decide (x.up<(h:Int)))
 rw [List.length_drop] at this
 omega
theorem c7y {h j:Nat} {x:GRow} (h1:h≤j) (h2:j<b2l l h) (hx:l[j]? = some x):(h:Int)≤x.up:=by
 unfold b2l at h2
 have hlt:j<l.length:=(List.getElem?_eq_some_iff.1 hx).1
 have:=List.not_of_lt_findIdx (xs:=l.drop h) (p:=fun x=>decide (x.up<(h:Int))) (i:=j - h) (by omega)
 simp only [List.getElem_drop,decide_eq_false_iff_not] at this
 have e:l[h+(j - h)]'(by omega)=x:=by
  have:l[h+(j - h)]? = some x:=by rw [← hx];congr 1;omega
  exact (List.getElem?_eq_some_iff.1 this).2
 rw [e] at this
 simpa using this
theorem b9t {h:Nat} {x:GRow} (hh:h≤l.length) (hx:l[b2l l h]? = some x):x.up<(h:Int):=by
 have hlt:b2l l h<l.length:=(List.getElem?_eq_some_iff.1 hx).1
 unfold b2l at hlt hx
 have:=List.findIdx_getElem (xs:=l.drop h) (p:=fun x=>decide (x.up<(h:Int))) (w:=by rw [List.length_drop];omega)
 simp only [List.getElem_drop,decide_eq_true_eq] at this
 have e:=(List.getElem?_eq_some_iff.1 hx).2
 rw [e] at this
 exact this
theorem h9q (hs:b5x l) {j:Nat} {x:GRow} (hx:l[j]? = some x):x.up=(upAt l (j+1):Int):=by
 have:=hs.1 j x (List.getElem?_eq_some_iff.1 hx).1 hx
 simp [upAt,hx]
 omega
theorem g1y (hs:b5x l) {m:Nat} (hm:m<l.length):∀ j,m+1≤j→j≤b2l l (m+1)→∀ y ∈ b3o l j,y<m+1→y ∈ b3o l (upAt l (m+1)):=by
  intro j
  induction j using Nat.strongRecOn with
  | _ j ih =>
    intro h1 h2 y hy hlt
    have hle:=(b4k (l:=l) (h:=m+1) (by omega)).2
    obtain ⟨j,rfl⟩:∃ k,j=k+1:=⟨j - 1,by omega⟩
    by_cases e:j=m
    · subst e
      rw [b3l hs.1 (Nat.le_refl _) (by omega)] at hy
      rcases List.mem_cons.1 hy with rfl | hy
      · omega
      · exact hy
    · obtain ⟨x,hx⟩:=b0m (show j<l.length by omega)
      have hup:=c7y (h:=m+1) (by omega) (by omega) hx
      have hu:=h9q hs hx
      have hule:=b5w hs.1 (show j<l.length by omega) (by omega)
      rw [b3l hs.1 (Nat.le_refl _) (by omega)] at hy
      rcases List.mem_cons.1 hy with rfl | hy
      · omega
      · exact ih _ (by omega) (by omega) (by omega) y hy hlt
theorem d8r (hs : b5x l) {h : Nat} (hh : h ≤ l.length) : ∀ j, b2l l h + 1 ≤ j → j ≤ l.length → ∀ y ∈ b3o l j, ¬ (h ≤ y ∧ y ≤ b2l l h) := by
  intro j
  induction j using Nat.strongRecOn with
  | _ j ih =>
    intro h1 h2 y hy hc
    obtain ⟨j,rfl⟩:∃ k,j=k+1:=⟨j - 1,by omega⟩
    obtain ⟨x,hx⟩:=b0m (show j<l.length by omega)
    have hu:=h9q hs hx
    have hule:=b5w hs.1 (show j<l.length by omega) (by omega)
    rw [b3l hs.1 (Nat.le_refl _) (by omega)] at hy
    rcases List.mem_cons.1 hy with rfl | hy
    · omega
    have hyle:=c8a hs.1 (Nat.le_refl _) _ (by omega:upAt l (j+1)≤l.length) y hy
    by_cases e:j=b2l l h
    · subst e
      have:=b9t hh hx
      omega
    · by_cases e2:b2l l h+1≤upAt l (j+1)
      · exact ih _ (by omega) e2 (by omega) y hy hc
      · rcases hs.2 j x hx with ⟨h0,_⟩ | ⟨_,z,hz,hzu⟩
        · omega
        · have hz':z=upAt l (j+1):=by omega
          have:=ih j (by omega) (by omega) (by omega) z hz
          omega
theorem g6l {i k:Nat} (hik:i≤k) (h:Nat):∃ r,kd0 l k h=kd0 l i h++r:=by
  obtain ⟨d,rfl⟩:∃ d,k=i+d:=⟨k - i,by omega⟩
  induction d with
  | zero=>exact ⟨[],by simp⟩
  | succ d ih =>
    obtain ⟨r,hr⟩:=ih (by omega)
    by_cases hlt:i+d<l.length
    · obtain ⟨x,hx⟩:=b0m hlt
      rw [show i+(d+1)=i+d+1 by omega,c1t hx,hr]
      split
      · exact ⟨r++[_],by rw [List.append_assoc]⟩
      · exact ⟨r,rfl⟩
    · refine ⟨r, ?_⟩
      rw [← hr]
      have:l[i+d]? = none:=List.getElem?_eq_none (by omega)
      simp [kd0,show i+(d+1)=i+d+1 by omega,List.range_succ,List.filter_append,this]
theorem g3v {i:Nat} (h:Nat):∀ (d:Nat),(∀ (j:Nat) x,i≤j→j<i+d→l[j]? = some x→x.up≠(h:Int))→kd0 l (i+d) h=kd0 l i h:=by
  intro d
  induction d with
  | zero=>intro _;rfl
  | succ d ih =>
    intro hn
    rw [← ih (fun j x h1 h2=>hn j x h1 (by omega))]
    rw [show i+(d+1)=i+d+1 by omega]
    cases hx:l[i+d]? with
    | none=>simp [kd0,List.range_succ,List.filter_append,hx]
    | some x=>rw [c1t hx,if_neg (hn (i+d) x (by omega) (by omega) hx)]
theorem g3q (hs : b5x l) {h cur : Nat} (h1 : h ≤ cur) (h2 : cur < b2l l h) (hcur : cur = h ∨ ∃ m, h ≤ m ∧ m < cur ∧ cur = b2l l (m + 1) ∧ upAt l (m + 1) = h) (hh : h ≤ l.length) : ∃ x, l[cur]? = some x ∧ x.up = (h : Int) := by
  have hle:=(b4k (l:=l) hh).2
  obtain ⟨x,hx⟩:=b0m (show cur<l.length by omega)
  refine ⟨x,hx, ?_⟩
  have hup:=c7y h1 h2 hx
  rcases hs.2 cur x hx with ⟨h0,h3⟩ | ⟨h0,y,hy,hyu⟩
  · omega
  · have hyle:=c8a hs.1 (Nat.le_refl _) cur (by omega) y hy
    rcases hcur with rfl | ⟨m,m1,m2,m3,m4⟩
    · omega
    · have hm:m<l.length:=by omega
      have hat:x.up<((m+1:Nat):Int):=by
        rw [m3] at hx
        exact b9t (by omega) hx
      have:=g1y hs hm cur (by omega) (by omega) y hy (by omega)
      rw [m4] at this
      have:=c8a hs.1 (Nat.le_refl _) h hh y this
      omega
theorem h7e (hs:b5x l) {h cur:Nat} {x:GRow} (hx:l[cur]? = some x) (hu:x.up=(h:Int)):(kd0 l l.length h)[(kd0 l cur h).length]? = some ((cur:Int)+1)∧kd0 l (b2l l (cur+1)) h=kd0 l cur h++[(cur:Int)+1]:=by
 have hlt:cur<l.length:=(List.getElem?_eq_some_iff.1 hx).1
 have h1:kd0 l (cur+1) h=kd0 l cur h++[(cur:Int)+1]:=by rw [c1t hx,if_pos hu]
 have hst:=hs.1 cur x hlt hx
 have he:=b4k (l:=l) (h:=cur+1) (by omega)
 refine ⟨?_, ?_⟩
 ·obtain ⟨r,hr⟩:=g6l (l:=l) (show cur+1≤l.length by omega) h
  rw [hr,h1,List.append_assoc,List.getElem?_append_right (Nat.le_refl _),Nat.sub_self]
  rfl
 ·rw [← h1]
  have:=g3v (l:=l) (i:=cur+1) h (b2l l (cur+1) - (cur+1)) (fun j x h2 h3 hj=>by
   have:=c7y (h:=cur+1) h2 (by omega) hj
   omega)
  rw [← this]
  congr 1
  omega
theorem h7d (hs : b5x l) {h : Nat} (hh : h ≤ l.length) : kd0 l (b2l l h) h = kd0 l l.length h := by
  have he:=b4k (l:=l) hh
  have:=g3v (l:=l) (i:=b2l l h) h (l.length - b2l l h) (fun j x h1 h2 hj hu=>by
    have hlt:j<l.length:=(List.getElem?_eq_some_iff.1 hj).1
    have hstand:=hs.1 j x hlt hj
    by_cases e:j=b2l l h
    · subst e
      have:=b9t hh hj
      omega
    · rcases hs.2 j x hj with ⟨h0,_⟩ | ⟨_,y,hy,hyu⟩
      · omega
      · have:=d8r hs hh j (by omega) (by omega) y hy
        omega)
  rw [← this]
  congr 1
  omega
theorem g4e {h cur:Nat} (h1:h≤cur) (h2:cur<b2l l h) (hh:h≤l.length):b2l l (cur+1)≤b2l l h:=by
 have he:=b4k (l:=l) hh
 have he2:=b4k (l:=l) (h:=cur+1) (by omega)
 rcases Nat.lt_or_ge (b2l l h) (b2l l (cur+1)) with hlt | hge
 ·obtain ⟨x,hx⟩:=b0m (show b2l l h<l.length by omega)
  have a1:=b9t hh hx
  have a2:=c7y (h:=cur+1) (by omega) hlt hx
  omega
 ·exact hge
theorem h7p (hs:b5x l):b2l l 0=l.length:=by
 have he:=b4k (l:=l) (h:=0) (by omega)
 rcases Nat.lt_or_ge (b2l l 0) l.length with hlt | hge
 ·obtain ⟨x,hx⟩:=b0m hlt
  have a1:=b9t (h:=0) (by omega) hx
  have:=hs.1 _ x hlt hx
  omega
 ·omega
def c3g:List GRow→Nat→List GRow
 | [],_=>[]
 | x::r,i => { x with id:=(i:Int)+1 }::c3g r (i+1)
theorem c0x:∀ (l:List GRow) (i:Nat),(c3g l i).length=l.length
 | [],_=>rfl
 | x::r,i=>by simp [c3g,c0x r]
theorem d7b:∀ (l:List GRow) (i k:Nat),(c3g l i)[k]? = (l[k]?).map fun x => { x with id:=((i+k:Nat):Int)+1 }
  | [],_,_=>by simp [c3g]
  | x::r,i,0=>by simp [c3g]
  | x :: r, i, k + 1 => by
    simp only [c3g,List.getElem?_cons_succ,d7b r (i+1) k]
    congr 1
    funext y
    rw [show i+1+k=i+(k+1) by omega]
def b7o (l:List GRow) (j:Nat):List (List PV):=((c3g l 0).take j).map GRow.pv
theorem d6w {j:Nat} (hj:j≤l.length):(b7o l j).length=j:=by simp [b7o,c0x];omega
theorem g5v {j:Nat} {x:GRow} (hx:l[j]? = some x):b7o l j++[GRow.pv { x with id:=(j:Int)+1 }]=b7o l (j+1):=by
 unfold b7o
 have:(c3g l 0)[j]? = some { x with id:=(j:Int)+1 }:=by rw [d7b,hx];simp
 rw [List.take_add_one,this]
 simp
theorem g5u:b7o l 0=[]:=rfl
theorem j0w (i h:Nat):(kd0 l i h).length≤i:=by
 unfold kd0
 rw [List.length_map]
 have:=List.length_filter_le (fun k=>((l[k]?).map (fun x=>x.up==(h:Int))).getD false) (List.range i)
 simpa using this
end
end Go.TA


end
