/- Part 8 of 10 of a proof; joined from Prims, PrimW, PrimX, InsAttr, PrimD, DidsTab, DidsDLink, DChain. Putting and taking out, store by store. Plain. -/
import Derived.Test.YtbgbmdjfogohnaaDi6
import Derived.Lib.Bytealg
import Derived.Laws.IdiomCopy
import Derived.Deep.Upon
import Derived.Test.YtbgbmdjfogohnaaProg
import Derived.Shelf.Spec.SlicesInsert
import Derived.Shelf.Spec.SlicesInsertGrow
import Derived.Test.YtbgbmdjfogohnaaDi7
import Derived.KernelRfl
import Derived.Test.YtbgbmdjfogohnaaShelfinternalstringsliteIndexByte
import Derived.Test.YtbgbmdjfogohnaaShelfstringsIndexByte
import Derived.Test.YtbgbmdjfogohnaaDi1
set_option linter.unusedSimpArgs false
set_option linter.unusedVariables false
set_option linter.defProp false
set_option maxRecDepth 100000
set_option maxHeartbeats 8000000
section
/- Functions of the library, told at once. -/
namespace Go.TA
def pIndexByte (C:Calls'):List AV→List AObj→Option (AV × List AObj)
 | [.p (.str s),.p (.int .u8 c)],g=>some (.p (.int .i64 (Lib.indexByte s c.toNat.toUInt8)),g)
 | _,_=>none
section
variable {P:Program} {Γ : Ground} {f:Nat}
theorem prim_still {f:Nat} (hcal:calleeOk P f=true) {args:List AV} {g:List AObj} {r:AV} (hg:gOk g) (hr:noLocal r=true)
  (h:∀ (c:Cx) (vs:List Value),args.length=vs.length→(∀ j (h:j<args.length) (h':j<vs.length),RelV c (args[j]) (vs[j]))→∃ v,RelV c r v∧Calls P f vs.toArray c.w (fun e w'=>e = .returned v∧w'=c.w)):SoundAt P Γ f args g r g:=by
 refine ⟨hcal,hg,hr,fun c vs hl hgc hH hlen hrel => ?_⟩
 obtain ⟨v,hv,hc⟩:=h c vs hlen hrel
 refine Calls.mono hc (fun e w' he => ?_)
 obtain ⟨rfl,rfl⟩:=he
 exact ⟨v,rfl,c,hl,hgc,rfl,Evolve.refl c,hH,hv⟩
theorem pIndexByte_ok (hcal:calleeOk P f=true) (h:∀ (s:ByteArray) (c:Int) (w:World),Calls P f #[.string s,.int .u8 c] w fun e w'=>e = .returned (.int .i64 (Lib.indexByte s.data.toList c.toNat.toUInt8))∧w'=w):PrimOk P Γ f pIndexByte:=by
  intro C hC args g r g' hp hno hgo
  unfold pIndexByte at hp
  split at hp
  · rename_i s b
    simp only [Option.some.injEq,Prod.mk.injEq] at hp
    obtain ⟨rfl,rfl⟩:=hp
    refine prim_still hcal hgo rfl (fun c vs hl hr => ?_)
    match vs,hl with
    | [u, v], _ =>
      have e1:=relV_str (hr 0 (by simp) (by simp))
      have e2:=relV_int (hr 1 (by simp) (by simp))
      simp only [List.getElem_cons_zero,List.getElem_cons_succ] at e1 e2
      subst e1 e2
      refine ⟨_,rInt _ _, ?_⟩
      have:=h ⟨s.toArray⟩ b c.w
      simpa using this
  · cases hp
def pClone (sz:Nat) (C:Calls'):List AV→List AObj→Option (AV × List AObj)
 | [.p (.list xs)],g=>if xs.length*4096≤140737488355328∧(xs.all fun x=>x.length==sz)=true then some (.own true g.length xs.length,g++[.pcells sz xs]) else none
 | _,_=>none
def cloneHead:LCode:=.region [{ dst:=some 2,op:=.move (.c (.list [])) }] false [0] []
def cloneTest:LOper:={ dst:=some 3,op:=.move (.t 0) }
def cloneNil (sz:Nat):LCode:=.seq (.region [{ dst:=some 2,op:=.nilown true 0 sz }] false [2] []) .ret
def cloneBody (sz bytes:Nat):LCode:=.seq (.region [{ dst:=some 5,op:=.rowOwn true 5 sz [] },{ dst:=some 6,op:=.move (.t 0) },{ dst:=some 7,op:=.append true 9 sz bytes (.t 5) (.t 6) },{ dst:=some 2,op:=.move (.t 7) }] false [2] []) .ret
def cloneEqB (P:Program) (o:Oper):Bool:=match o.op with
 | .binOp .eql t (.tmp 3) (.const (.slice none 0 0)) _=>eqOk P t .sl && o.dst==some 4 && o.guard.isNone
 | _=>false
def cloneItems (P : Program) (sz bytes : Nat) (l : List Code) : Bool := match l with
  | [.region i0 o0 false, .region _ o1 false, .cond (.tmp 4) a b, .region i3 o3 false, .ret] =>
    codeOk P 8 cloneHead [.region i0 o0 false] && (match o1.toList with
      | [x,y]=>operOk P 8 o1 cloneTest x && cloneEqB P y
      | _=>false) && codeOk P 8 (cloneNil sz) (items a) && (items b).isEmpty && codeOk P 8 (cloneBody sz bytes) [.region i3 o3 false,.ret]
  | _=>false
def cloneB (P : Program) (f sz bytes : Nat) : Bool := calleeOk P f && bytes ≤ 4096 && sz != 0 && match P.funcs[f]? with
  | some fn => (match fn.body with
    | some b=>fn.ntmps==8 && resOk P [.tmp 2] fn.results.toList && cloneItems P sz bytes (items b)
    | none=>false)
  | none=>false
theorem aexec_head {C:Calls'} {N:Nat} {a:AV} {g:List AObj} {fr:List (Nat × AV)} (h:mentions [] a=false) (hl:lk fr 0=some a):aexec C N cloneHead ⟨fr,[],g⟩=some (.normal,⟨[(0,a)],[],g⟩):=by
 simp [cloneHead,aexec,runOps,stepOp,be,evalOp,putK,opt',St.set,St.arg,bn,bn',St.keep,St.get,lk,orBot,hl,pickL,h]
theorem aexec_nil {C:Calls'} {N sz:Nat} {s:St}:aexec C N (cloneNil sz) s=some (.ret,⟨[(2,.own true s.g.length 0)],[],s.g++[.pcells sz []]⟩):=by
 simp [cloneNil,aexec,runOps,stepOp,be,evalOp,putK,opt',St.set,St.arg,bn,bn',St.keep,St.get,lk,orBot,pickL,thenK,mentions,St.newObj,bk]
theorem aexec_body {C:Calls'} {N sz bytes:Nat} {xs:List (List PV)} {fr:List (Nat × AV)} {g:List AObj} (h0:lk fr 0=some (.p (.list xs))) (hb:bytes≤4096) (hn:xs.length*4096≤140737488355328) (h3:(xs.all fun y=>y.length==sz)=true) :
  aexec C N (cloneBody sz bytes) ⟨fr,[],g⟩=some (.ret,⟨[(2,.own true g.length xs.length)],[],g++[.pcells sz xs]⟩):=by
 have h1:xs.length*bytes≤140737488355328:=Nat.le_trans (Nat.mul_le_mul_left _ hb) hn
 have h2:xs.length≤140737488355328:=by omega
 have h4:∀ x,x ∈ xs→x.length=sz:=by simpa using h3
 simp [cloneBody,aexec,runOps,stepOp,be,evalOp,putK,opt',St.set,St.arg,St.get,lk,cellsAll,sameLen,okFor,St.newObj,objOf,puress,h0,orBot,St.obj,St.putObj,appendTo,asLit,h1,h2,bk,bn,bn',St.keep,pickL,thenK,mentions]
 rw [if_pos h4]
 simp [putK,opt',St.set,lk,mentions]
 rfl
theorem list_len {c:Cx} {xs:List (List PV)} {v:Value} (h:RelP c.w c.N (.list xs) v):∃ A cap,v = .slice A xs.length cap:=by
 cases h with
 | none A cap h=>exact ⟨A,cap,rfl⟩
 | list xs b off cap sz f h1 h2 h3 h4 h5 h6 h7 h8=>exact ⟨_,cap,rfl⟩
theorem pClone_ok (hm : P.follows .mixedOrders = true) {sz bytes : Nat} (hB : cloneB P f sz bytes = true) : PrimOk P Γ f (pClone sz) := by
  intro C hC args g r g' hp hno hgo
  unfold pClone at hp
  split at hp
  rotate_left
  · cases hp
  rename_i xs
  split at hp
  rotate_left
  · cases hp
  rename_i hcond
  obtain ⟨hn,hsz⟩:=hcond
  simp only [Option.some.injEq,Prod.mk.injEq] at hp
  obtain ⟨rfl,rfl⟩:=hp
  simp only [cloneB,Bool.and_eq_true,decide_eq_true_eq,bne_iff_ne,ne_eq] at hB
  obtain ⟨⟨⟨hcal,hbytes⟩,hsz0⟩,hB⟩:=hB
  split at hB
  rotate_left
  · cases hB
  rename_i fn hfn
  split at hB
  rotate_left
  · cases hB
  rename_i body hbody
  simp only [Bool.and_eq_true,beq_iff_eq] at hB
  obtain ⟨⟨hnt,hres⟩,hit⟩:=hB
  unfold cloneItems at hit
  split at hit
  rotate_left
  · cases hit
  rename_i i0 o0 i1 o1 ca cb i3 o3 hitems
  simp only [Bool.and_eq_true,List.isEmpty_iff] at hit
  obtain ⟨⟨⟨⟨hc0,hc1⟩,hc2⟩,hcb⟩,hc3⟩:=hit
  split at hc1
  rotate_left
  · cases hc1
  rename_i x y hxy
  simp only [Bool.and_eq_true] at hc1
  obtain ⟨hx,hy⟩:=hc1
  have hgo':gOk (g++[.pcells sz xs]):=by
    intro ob hob
    exact gOk_new (s:=⟨[],[],g⟩) (z:=true) (k:=0) (k':=g.length) (s':=⟨[],[],g++[.pcells sz xs]⟩) hgo rfl (fun _=>rfl) ob hob
  refine ⟨hcal,hgo',rfl,fun c vs hl hgc hH hlen hrel => ?_⟩
  match vs,hlen with
  | [v],_=>
  subst hgc
  refine calls_of_wp hfn hbody ?_
  have hg0:=body_good (c:=c) (args:=[.p (.list xs)]) (vs:=[v]) (np:=1) (nt:=fn.ntmps) rfl hrel hH hl hgo rfl
  rw [hnt] at hg0 ⊢
  have hmax:max 1 8=8:=rfl
  rw [hmax] at hg0
  refine wp_of_wpL ?_
  rw [hitems]
  have fin:∀ {c':Cx} {s':St} {a':Act},Good Γ c' s' a' 8→Evo c c'→s'.get 2 = .own true c.g.length xs.length→s'.g=c.g++[.pcells sz xs]→bodyPost P fn (fun e w'=>∃ v,e = .returned v∧Ans Γ c [] (c.g++[.pcells sz xs]) (.own true c.g.length xs.length) v w') .ret a' c'.w:=by
    intro c' s' a' hg' hE hav hsg
    obtain ⟨us,hrun,hl1,hl2⟩:=results_rel (C:=C) (vs:=[s'.get 2]) hg' hres rfl
    refine ⟨hg'.D,_,hrun,_,rfl, ?_⟩
    match us,hl1 with
    | [u],_=>
    have hu:RelV c' (.own true c.g.length xs.length) u:=by rw [← hav];exact hl2 0 (by simp) (by simp)
    have hs:∀ k o,lk ([]:List (Nat × AObj)) k=some o→lk c'.l k=some o:=fun k o h=>by simp [lk] at h
    have hgs:c'.g=c.g++[.pcells sz xs]:=by rw [← hg'.g,hsg]
    refine ⟨c'.drop [],rfl,hgs,rfl,(hE.trans evo_drop).evolve hl,relH_drop hg'.H hs (by rw [hgs];exact hgo') (fun e h=>by simp at h), ?_⟩
    exact relV_drop hs hu (noLocal_mentions _ rfl)
  have hent:enterSt [.p (.list xs)] c.g=⟨[(0,.p (.list xs))],[],c.g⟩:=rfl
  rw [hent] at hg0
  have h0:=aexec_rel (C:=C) (N:=9) hm hC cloneHead hc0 hg0 (aexec_head (a:=.p (.list xs)) rfl rfl) (Q:=Exit.then (wpL P (bodyPost P fn fun e w'=>∃ v,e = .returned v∧Ans Γ c [] (c.g++[.pcells sz xs]) (.own true c.g.length xs.length) v w') [.region i1 o1 false,.cond (.tmp 4) ca cb,.region i3 o3 false,.ret]) (bodyPost P fn fun e w'=>∃ v,e = .returned v∧Ans Γ c [] (c.g++[.pcells sz xs]) (.own true c.g.length xs.length) v w')) (fun c1 a1 hg1 hE1 => ?_)
  · exact of_wpL_one h0
  simp only [toExit,Exit.then]
  show (Code.region i1 o1 false).wp P _ a1 c1.w
  refine wp_region_list ?_
  rw [hxy]
  have hs1:stepOp C cloneTest ⟨[(0,.p (.list xs))],[],c.g⟩=some ⟨[(3,.p (.list xs)),(0,.p (.list xs))],[],c.g⟩:=rfl
  have hg1':Good Γ c1 ⟨[(0,.p (.list xs))],[],c.g⟩ a1 8:=hg1
  have st:=step_rel (Q:=Exit.then (wpL P (bodyPost P fn fun e w'=>∃ v,e = .returned v∧Ans Γ c [] (c.g++[.pcells sz xs]) (.own true c.g.length xs.length) v w') [.cond (.tmp 4) ca cb,.region i3 o3 false,.ret]) (bodyPost P fn fun e w'=>∃ v,e = .returned v∧Ans Γ c [] (c.g++[.pcells sz xs]) (.own true c.g.length xs.length) v w'))
    (K:=wpList P o1 (Exit.then (wpL P (bodyPost P fn fun e w'=>∃ v,e = .returned v∧Ans Γ c [] (c.g++[.pcells sz xs]) (.own true c.g.length xs.length) v w') [.cond (.tmp 4) ca cb,.region i3 o3 false,.ret]) (bodyPost P fn fun e w'=>∃ v,e = .returned v∧Ans Γ c [] (c.g++[.pcells sz xs]) (.own true c.g.length xs.length) v w')) [y]) hC hg1' hx hs1 (fun c2 a2 hg2 hE2 => ?_)
  · unfold wpList
    split
    · rename_i hw;rw [if_pos hw] at st;exact .inl st
    · rename_i hw;rw [if_neg hw] at st;exact st
  unfold cloneEqB at hy
  split at hy
  rotate_left
  · cases hy
  rename_i t t' hop
  simp only [Bool.and_eq_true,beq_iff_eq,Option.isNone_iff_eq_none] at hy
  obtain ⟨⟨heq,hdst⟩,hguard⟩:=hy
  have h3v:=hg2.F 3
  have:(⟨[(3,.p (.list xs)),(0,.p (.list xs))],[],c.g⟩:St).get 3 = .p (.list xs):=rfl
  rw [this] at h3v
  obtain ⟨A,cap,hval⟩:=list_len (relV_p h3v)
  have ht:=(tells_nil (P:=P) (w:=c2.w) (t:=t) (k:=.sl) heq (.inl ⟨rfl,A,xs.length,cap,rfl,rfl⟩) (.tmp 3) (.const (.slice none 0 0))).1
  have hdo:Does P a2.eval y c2.w (Ans Γ c2 [] c.g (.p (.bool A.isNone))):=by
    have e3:a2.eval (.tmp 3) = .slice A xs.length cap:=hval
    refine Does.value (v:=.bool A.isNone) (w':=c2.w) ?_ ⟨c2,hg2.l.symm,hg2.g.symm,rfl,Evolve.refl c2,hg2.H,rBool _⟩
    obtain ⟨z1,z2,z3⟩:=ht
    have e4:a2.eval (.const (.slice none 0 0)) = .slice none 0 0:=rfl
    simp only [execOp,hop,e3,e4,Sem.run_bind,z3,Result.andThen_ok,z1]
    rfl
  have hw:Region.wanted y (yielded o1 a2.tmps)=true:=by simp [Region.wanted,hguard]
  unfold wpList
  rw [if_pos hw]
  refine .inl (Does.wp hdo (fun v' w' hR => ?_))
  obtain ⟨c3,p1,p2,rfl,hE3,hH3,hv3⟩:=hR
  have hg3:=good_put hg2 (s':=⟨[(3,.p (.list xs)),(0,.p (.list xs))],[],c.g⟩) (dst:=some 4) hE3 hH3 p1 p2 rfl hg2.G rfl hv3
  rw [hdst]
  simp only [wpList,Exit.then]
  have hg3':Good Γ c3 ⟨[(4,.p (.bool A.isNone)),(3,.p (.list xs)),(0,.p (.list xs))],[],c.g⟩ (a2.put (some 4) v') 8:=hg3
  have hEvo:Evo c c3:=hE1.trans (hE2.trans hE3).evo
  have h4v:=hg3'.F 4
  have:(⟨[(4,.p (.bool A.isNone)),(3,.p (.list xs)),(0,.p (.list xs))],[],c.g⟩:St).get 4 = .p (.bool A.isNone):=rfl
  rw [this] at h4v
  show (Code.cond (.tmp 4) ca cb).wp P _ _ c3.w
  refine wp_cond (t:=A.isNone) (relV_bool h4v) ?_
  cases hA:A.isNone with
  | true =>
    simp only [if_true]
    have hx0:xs=[]:=by
      obtain ⟨A',cap',e,_,_,hpos⟩:=relP_list (relV_p h3v)
      rcases Nat.eq_zero_or_pos xs.length with h0 | h0
      · exact List.eq_nil_of_length_eq_zero h0
      · obtain ⟨b,off,sz',f',e',_⟩:=hpos h0
        rw [hval] at e
        injection e with e1 e2 e3
        rw [e1,e'] at hA
        cases hA
    subst hx0
    refine wp_of_wpL (aexec_rel (C:=C) (N:=9) hm hC (cloneNil sz) hc2 hg3' aexec_nil (fun c4 a4 hg4 hE4 => ?_))
    simp only [toExit,Exit.then]
    exact fin hg4 (hEvo.trans hE4) rfl rfl
  | false =>
    simp only [Bool.false_eq_true,if_false]
    refine wp_of_wpL ?_
    rw [hcb]
    show wpL P (bodyPost P fn fun e w'=>∃ v,e = .returned v∧Ans Γ c [] (c.g++[.pcells sz xs]) (.own true c.g.length xs.length) v w') [.region i3 o3 false,.ret] _ c3.w
    refine aexec_rel (C:=C) (N:=9) hm hC (cloneBody sz bytes) hc3 hg3' (aexec_body rfl hbytes hn hsz) (fun c4 a4 hg4 hE4 => ?_)
    exact fin hg4 (hEvo.trans hE4) rfl rfl
end
end Go.TA


end
section
/- What the walk of slices.Insert asks of copying, at elements of several cells. -/
namespace Go.TA
variable {P:Program}
theorem run_copy_k (w:World) (dT sT ty elem:TypeId) (k b o dLen dCap:Nat) (a:Addr) (sLen sCap:Nat) (cs:List Value)
    (hu:P.underlying dT=some (.slice elem)) (hs:(P.info? elem).map (·.size)=some k) (hn:cs.length=Nat.min sLen dLen*k)
    (hsrc:∀ j v,cs[j]? = some v→w.cell? (a.add j)=some v) (hc:∀ j,j<cs.length→(w.cell? ⟨b,o+j,none⟩).isSome=true) (hf:∀ j,j<cs.length→w.frozen? ⟨b,o+j,none⟩=false) (h1:∀ v ∈ cs,v.oneCell'=true) :
    (Builtin.copy_ #[dT,sT] ty #[.slice (some ⟨b,o,none⟩) dLen dCap,.slice (some a) sLen sCap]).run P w = .ok (goInt (Nat.min sLen dLen)) (w.setCells b o cs):=by
  have hl:=run_loadCells_list (P:=P) w a cs hsrc
  have hst:=run_storeCells_cells (P:=P) b o cs 0 w (by simpa using hc) (by simpa using hf) h1
  cases hq:P.info? elem with
  | none=>simp [hq] at hs
  | some i =>
    have hi:i.size=k:=by simpa [hq] using hs
    simp [Builtin.copy_,run_underlying hu,Builtin.lenOf,Builtin.firstCells,sizeOf,typeInfo,hq,hi, ← hn,hl,hst]
end Go.TA


end
section
/- slices.Insert on a row of one's own, told at once. -/
namespace Go.TA
structure Only (w w':World) (k:Option Nat):Prop where
 size:w.heap.size≤w'.heap.size
 tape:w'.tape=w.tape
 os:w'.os=w.os
 output:w'.output=w.output
 keep:∀ b,b<w.heap.size→k≠some b→w'.heap[b]? = w.heap[b]?
theorem Only.refl (w:World) (k:Option Nat):Only w w k:=⟨Nat.le_refl _,rfl,rfl,rfl,fun _ _ _=>rfl⟩
theorem Only.drew {w w':World} {k:Option Nat} (h:Only w w' k):Only w w'.drew k:=⟨h.size,h.tape,h.os,h.output,h.keep⟩
theorem Only.alloc {w w':World} {k:Option Nat} (h:Only w w' k) (o:Obj):Only w (w'.alloc o) k :=
 ⟨by have:=h.size;simp;omega,h.tape,h.os,h.output,fun b hb hne=>by
  rw [← h.keep b hb hne]
  have:=h.size
  simp only [World.alloc]
  rw [Array.getElem?_push_lt (by omega)]
  simp⟩
theorem heap_setCell_other {w:World} {b b' o:Nat} {v:Value} (h:b'≠b):(w.setCell ⟨b,o,none⟩ v).heap[b']? = w.heap[b']? := by
 simp only [World.setCell,Array.getElem?_modify]
 rw [if_neg (fun e=>h e.symm)]
theorem Only.cells {w : World} {k : Option Nat} {b : Nat} (hb : k = some b ∨ w.heap.size ≤ b) : ∀ (vs : List Value) (o : Nat) {w' : World}, Only w w' k → Only w (w'.setCells b o vs) k
  | [],_,_,h=>h
  | v :: r, o, w', h => Only.cells hb r (o + 1) ⟨by simpa using h.size, h.tape, h.os, h.output, fun b' hb' hne => by
      rw [heap_setCell_other (fun e=>by
        subst e
        rcases hb with e | e
        · exact hne e
        · omega)]
      exact h.keep b' hb' hne⟩
theorem heap_lt_setCells (b:Nat):∀ (vs:List Value) (o:Nat) (w:World),(w.setCells b o vs).heap.size=w.heap.size
 | [],_,_=>rfl
 | v::r,o,w=>by rw [World.setCells,heap_lt_setCells b r];simp
section
variable {cs vs:List Value} {a:Nat}
theorem us_get (ha:a≤cs.length) (j:Nat):(cs.take a++vs++cs.drop a)[j]? = if j<a then cs[j]? else if j<a+vs.length then vs[j - a]? else cs[j - vs.length]? := by
 have hl:(cs.take a).length=a:=by rw [List.length_take];omega
 split
 ·rw [List.append_assoc,List.getElem?_append_left (by omega),List.getElem?_take,if_pos (by omega)]
 ·split
  ·rw [List.append_assoc,List.getElem?_append_right (by omega),List.getElem?_append_left (by omega),hl]
  ·rw [List.getElem?_append_right (by rw [List.length_append];omega),List.getElem?_drop,List.length_append,hl]
   congr 1
   omega
theorem shift_cells {w:World} {b:Nat} (ha:a≤cs.length) (hcs:∀ j v,cs[j]? = some v→w.cell? ⟨b,j,none⟩=some v) (hsp:∀ j,j<cs.length+vs.length→(w.cell? ⟨b,j,none⟩).isSome=true) (j:Nat) (v:Value) (h:(cs.take a++vs++cs.drop a)[j]? = some v) :
  ((w.setCells b (a+vs.length) (cs.drop a)).setCells b a vs).cell? ⟨b,j,none⟩=some v:=by
 rw [us_get ha] at h
 have hdl:(cs.drop a).length=cs.length - a:=List.length_drop
 have hsp1:∀ q,q<vs.length→((w.setCells b (a+vs.length) (cs.drop a)).cell? ⟨b,a+q,none⟩).isSome=true:=fun q hq=>by
  rw [World.cell?_setCells_out b _ _ _ _ (fun _ _=>by show a+q<a+vs.length∨_;omega)]
  exact hsp _ (by omega)
 split at h
 ·rw [World.cell?_setCells_out b _ _ _ _ (fun _ _=>by show j<a∨_;omega),World.cell?_setCells_out b _ _ _ _ (fun _ _=>by show j<a+vs.length∨_;omega)]
  exact hcs j v h
 ·split at h
  ·have:=World.cell?_setCells_in b vs a _ hsp1 (j - a) (by omega)
   rw [show a+(j - a)=j by omega] at this
   rw [this, ← h,List.getElem?_eq_getElem]
  ·have hj:j - vs.length<cs.length:=(List.getElem?_eq_some_iff.1 h).1
   rw [World.cell?_setCells_out b _ _ _ _ (fun _ _=>by show _∨a+vs.length≤j;omega)]
   have:=World.cell?_setCells_in b (cs.drop a) (a+vs.length) w (fun q hq=>hsp _ (by omega)) (j - (a+vs.length)) (by omega)
   rw [show a+vs.length+(j - (a+vs.length))=j by omega] at this
   rw [this, ← h, ← List.getElem?_eq_getElem,List.getElem?_drop]
   congr 1
   omega
theorem grow_cells {w w' : World} {b : Nat} (ha : a ≤ cs.length) (hcs : ∀ j v, (cs.take a)[j]? = some v → w.cell? ⟨b, j, none⟩ = some v) (hsp : ∀ j, j < cs.length + vs.length → (w.cell? ⟨b, j, none⟩).isSome = true) (hw : ∀ x, w'.cell? x = (w.setCells b a vs).cell? x) (j : Nat) (v : Value) (h : (cs.take a ++ vs ++ cs.drop a)[j]? = some v) :
    (w'.setCells b (a+vs.length) (cs.drop a)).cell? ⟨b,j,none⟩=some v:=by
  rw [us_get ha] at h
  have hdl:(cs.drop a).length=cs.length - a:=List.length_drop
  split at h
  · rw [World.cell?_setCells_out b _ _ _ _ (fun _ _=>by show j<a+vs.length∨_;omega),hw,World.cell?_setCells_out b _ _ _ _ (fun _ _=>by show j<a∨_;omega)]
    exact hcs j v (by rw [List.getElem?_take,if_pos (by omega)];exact h)
  · split at h
    · rw [World.cell?_setCells_out b _ _ _ _ (fun _ _=>by show j<a+vs.length∨_;omega),hw]
      have:=World.cell?_setCells_in b vs a w (fun q hq=>hsp _ (by omega)) (j - a) (by omega)
      rw [show a+(j - a)=j by omega] at this
      rw [this, ← h,List.getElem?_eq_getElem]
    · have hj:j - vs.length<cs.length:=(List.getElem?_eq_some_iff.1 h).1
      have:=World.cell?_setCells_in b (cs.drop a) (a+vs.length) w' (fun q hq=>by
        rw [hw,World.cell?_setCells_out b _ _ _ _ (fun _ _=>by show _∨a+vs.length≤a+vs.length+q;omega)]
        exact hsp _ (by omega)) (j - (a+vs.length)) (by omega)
      rw [show a+vs.length+(j - (a+vs.length))=j by omega] at this
      rw [this, ← h, ← List.getElem?_eq_getElem,List.getElem?_drop]
      congr 1
      omega
theorem end_cells {w:World} {b:Nat} (hcs:∀ j v,cs[j]? = some v→w.cell? ⟨b,j,none⟩=some v) (hsp:∀ j,j<cs.length+vs.length→(w.cell? ⟨b,j,none⟩).isSome=true) (j:Nat) (v:Value) (h:(cs.take cs.length++vs++cs.drop cs.length)[j]? = some v) :
  (w.setCells b cs.length vs).cell? ⟨b,j,none⟩=some v:=by
 have h1:=shift_cells (Nat.le_refl cs.length) hcs hsp j v h
 rw [List.drop_length] at h1
 exact h1
end
theorem run_overlaps_own {P : Program} (w : World) (tS tR e : TypeId) (ht : P.underlying tS = some (.slice e)) (size : Nat) (hz : ∀ w, (Go.sizeOf e).run P w = .ok size w)
    (a b:Addr) (la ca lb cb:Nat) (hne:a.block≠b.block) (tA tB:TypeId) (kA kB:Nat)
    (hsa:w.shape? a.block=some (tA,kA)) (hsb:w.shape? b.block=some (tB,kB)) (hkA:kA≠0)
    (hfb:w.frozen? b=false) (hfe:w.frozen? { block:=b.block,off:=kB }=false) :
    (Extern.SlicesOverlaps.overlaps #[tS,tS] #[tR] #[.slice (some a) la ca,.slice (some b) lb cb]).run P w = .ok (.bool false) w:=by
  have hnb:(a.block != b.block)=true:=by simpa using hne
  have hnb':(a.block==b.block)=false:=by simpa using hne
  change Sem.run P (α := Value) (do
    let some t:=(#[tS,tS]:Array TypeId)[0]? | stuck "slices.overlaps: no parameter types"
    let .slice elem ← underlying t | stuck "slices.overlaps: slice type expected"
    let size ← sizeOf elem
    match (some a:Option Addr),(some b:Option Addr) with
    | some a, some b =>
      if la=0∨lb=0∨size=0 then pure (Value.bool false)
      else if a.block != b.block && (← frozen a) && (← frozen b) then unsupported .addressObserved
      else do
        if a.block != b.block then do
          noView a;noView b
          if ← mayBeOne a b then return Value.bool ((← choose (.extern "sameAddr.stringBytes" 2))==1)
        pure (Value.bool (a.block==b.block && a.off<b.off+lb*size && b.off<a.off+la*size))
    | _,_=>pure (Value.bool false)) w=_
  by_cases h0:la=0∨lb=0∨size=0
  · simp [run_underlying ht,hz,h0]
  · cases kA with
    | zero=>exact absurd rfl hkA
    | succ kA =>
      cases hfa:w.frozen? a <;> cases hfc:w.frozen? { block:=a.block,off:=kA+1 } <;>
      simp [run_underlying ht,hz,h0,hnb,hnb',frozen,noView,viewAt,mayBeOne,stringish,shape,Sem.run,hsa,hsb,hfb,hfe,hfa,hfc]
theorem shape_of_cell {w:World} {b j:Nat} {v:Value} (h:w.cell? ⟨b,j,none⟩=some v):∃ t k,w.shape? b=some (t,k)∧k≠0:=by
  unfold World.cell? at h
  cases hq:w.heap[b]? with
  | none=>simp [hq] at h
  | some o =>
    cases o with
    | cells c e fr =>
      simp only [hq] at h
      have:=(Array.getElem?_eq_some_iff.1 (by simpa using h)).1
      exact ⟨e,c.size,by simp [World.shape?,hq],by omega⟩
    | _=>simp [hq] at h
section
variable {P:Program} {Γ : Ground} {c:Cx} {f:Nat}
theorem kill_list (hH : RelH Γ c) {z : Bool} {k : Nat} {ob : AObj} (hob : c.obj z k = some ob) {w' : World} (ho : Only c.w w' (c.μ z k)) {b cap sz : Nat} (hb : c.μ z k = some b ∨ c.w.heap.size ≤ b) (hbw : b < w'.heap.size) {xs : List (List PV)} {us : List Value} (hc : xs.length ≤ cap) (hcm : cap ≤ maxLen)
    (hR:RowsRel c sz (lift xs) us) (hcell:∀ j v,us[j]? = some v→w'.cell? ⟨b,j,none⟩=some v) :
    Evolve c (c.set z k .dead none w')∧RelH Γ (c.set z k .dead none w')∧RelV (c.set z k .dead none w') (.p (.list xs)) (.slice (some ⟨b,0,none⟩) xs.length cap):=by
  obtain ⟨hE,hH'⟩:=hH.set .dead none hob ho.size ho.tape ho.os ho.output ho.keep (fun b hb=>by cases hb) (fun m hm=>by simp [AObj.cnt] at hm) (fun _=>trivial)
  refine ⟨hE,hH', ?_⟩
  have hNX:¬ c.X b:=by
    rcases hb with h | h
    · exact (hH.live z k b h).2.2.1
    · exact fun hx=>by have:=hH.xlt b hx;omega
  have hN:(c.set z k .dead none w').N b:=⟨hNX,fun ⟨z',k',h'⟩=>by
    simp only [Cx.set] at h'
    split at h'
    · cases h'
    · rename_i hne
      rcases hb with h | h
      · exact hne (hH.inj _ _ _ _ _ h' h)
      · have:=(hH.live z' k' b h').1
        omega⟩
  have hl1:∀ i (h:i<xs.length),(xs[i]).length=sz:=fun i h=>by simpa [lift] using hR.1 i (by simpa [lift] using h)
  have hv':∀ i j (hi:i<xs.length) (hj:j<sz),∃ v,us[i*sz+j]? = some v∧v.oneCell'=true∧RelP c.w c.N (xs[i][j]'(by rw [hl1 i hi];exact hj)) v:=fun i j hi hj=>by
    obtain ⟨v,v1,v2,v3⟩:=hR.2.2 i j (by simpa [lift] using hi) (by simpa [lift,hl1 i hi] using hj)
    refine ⟨v,v1,v2, ?_⟩
    simp only [lift,List.getElem_map] at v3
    exact relV_p v3
  refine .p _ _ (.list xs b 0 cap sz (fun i j=>match us[i*sz+j]? with | some v=>if v.oneCell'=true then v else .bool true | none => .bool true) hN hbw hc hcm hl1 (fun i j hi hj => ?_) (fun i j => ?_) (fun i j hi hj => ?_))
  · obtain ⟨v,v1,v2,v3⟩:=hv' i j hi hj
    simp only [v1,v2,if_true,Nat.zero_add]
    exact hcell _ _ v1
  · split
    · split
      · assumption
      · rfl
    · rfl
  · obtain ⟨v,v1,v2,v3⟩:=hv' i j hi (by rw [hl1 i hi] at hj;exact hj)
    simp only [v1,v2,if_true]
    exact hE.relP v3
theorem RowsRel.head {sz:Nat} {xs:List (List AV)} {a:List Value} (h:RowsRel c sz xs a) (i:Nat):RowsRel c sz (xs.take i) (a.take (i*sz)):=by
 refine ⟨fun q hq => ?_, ?_,fun q j hq hj => ?_⟩
 ·rw [List.getElem_take];exact h.1 _ _
 ·rw [List.length_take,List.length_take,Nat.min_def,Nat.min_def]
  have h2:=h.2.1
  split <;> split
  ·exact Nat.le_refl _
  ·rename_i h3 h4
   have:=Nat.mul_le_mul_right sz h3
   omega
  ·rename_i h3 h4
   exact Nat.mul_le_mul_right sz (by omega)
  ·exact h2
 ·rw [List.length_take] at hq
  have hj':j<(xs[q]'(by omega)).length:=by rw [List.getElem_take] at hj;exact hj
  obtain ⟨v,v1,v2,v3⟩:=h.2.2 q j (by omega) hj'
  refine ⟨v, ?_,v2,by simp only [List.getElem_take];exact v3⟩
  rw [List.getElem?_take,if_pos (row_lt (by omega) (by rw [h.1 q (by omega)] at hj';exact hj'))]
  exact v1
theorem RowsRel.tail {sz:Nat} {xs:List (List AV)} {a:List Value} (h:RowsRel c sz xs a) (i:Nat):RowsRel c sz (xs.drop i) (a.drop (i*sz)):=by
 refine ⟨fun q hq => ?_, ?_,fun q j hq hj => ?_⟩
 ·rw [List.getElem_drop];exact h.1 _ _
 ·rw [List.length_drop,List.length_drop,Nat.sub_mul]
  have:=h.2.1
  omega
 ·rw [List.length_drop] at hq
  have hj':j<(xs[i+q]'(by omega)).length:=by rw [List.getElem_drop] at hj;exact hj
  obtain ⟨v,v1,v2,v3⟩:=h.2.2 (i+q) j (by omega) hj'
  refine ⟨v, ?_,v2,by simp only [List.getElem_drop];exact v3⟩
  rw [List.getElem?_drop, ← v1]
  congr 1
  rw [Nat.add_mul]
  omega
theorem RowsRel.ones {sz:Nat} {xs:List (List AV)} {a:List Value} (h:RowsRel c sz xs a) (h0:0<sz) (v:Value) (hv:v ∈ a.take (xs.length*sz)):v.oneCell'=true:=by
 obtain ⟨j,hj⟩:=List.getElem?_of_mem hv
 rw [List.getElem?_take] at hj
 split at hj
 ·rename_i hlt
  have h1:j / sz<xs.length:=by rw [Nat.div_lt_iff_lt_mul h0];exact hlt
  obtain ⟨u,u1,u2,u3⟩:=h.2.2 (j / sz) (j % sz) h1 (by rw [h.1 _ h1];exact Nat.mod_lt _ h0)
  rw [Nat.mul_comm,Nat.div_add_mod,hj] at u1
  cases u1
  exact u2
 ·cases hj
theorem lift_append (a b:List (List PV)):lift (a++b)=lift a++lift b:=by simp [lift]
theorem lift_take (a:List (List PV)) (i:Nat):lift (a.take i)=(lift a).take i:=by simp [lift]
theorem lift_drop (a:List (List PV)) (i:Nat):lift (a.drop i)=(lift a).drop i:=by simp [lift]
theorem lift_length (a:List (List PV)):(lift a).length=a.length:=by simp [lift]
def InsSpec (P : Program) (f sz : Nat) : Prop := ∀ (A : Option Addr) (n cp i vb voff m vc : Nat) (cs vs : List Value) (w : World), i ≤ n → 0 < m → n ≤ cp → cp ≤ maxLen → (n + m) * 4096 ≤ 140737488355328 → cs.length = n * sz → vs.length = m * sz → (∀ v ∈ cs, v.oneCell' = true) → (∀ v ∈ vs, v.oneCell' = true) →
  ((A=none∧n=0∧cp=0)∨∃ (b:Nat) (arr:Array Value) (e:TypeId),A=some ⟨b,0,none⟩∧vb≠b∧w.heap[b]? = some (.cells arr e (0,0))∧arr.size=cp*sz∧∀ (j:Nat) (v:Value),cs[j]? = some v→arr[j]? = some v) →
  (∀ (j:Nat) (v:Value),vs[j]? = some v→w.cell? ⟨vb,voff+j,none⟩=some v) →
  Calls P f #[.slice A n cp,.int .i64 i,.slice (some ⟨vb,voff,none⟩) m vc] w fun e w'=>∃ B cap,e = .returned (.slice (some ⟨B,0,none⟩) (n+m) cap)∧n+m≤cap∧cap≤maxLen∧((∃ a,A=some a∧a.block=B)∨w.heap.size≤B)∧B<w'.heap.size∧Only w w' (A.map (·.block)) ∧
    ∀ (j:Nat) (v:Value),(cs.take (i*sz)++vs++cs.drop (i*sz))[j]? = some v→w'.cell? ⟨B,j,none⟩=some v
def pInsert (sz : Nat) (C : Calls') : List AV → List AObj → Option (AV × List AObj)
  | [.own true k n, .p (.int .i64 i), .p (.list vs)], g => match g[k]? with
    | some (.pcells s xs)=>if s=sz∧xs.length=n∧(vs.all fun v=>v.length==sz)=true∧0<vs.length∧0≤i∧i≤n∧(n+vs.length)*4096≤140737488355328 then some (.p (.list (xs.take i.toNat++vs++xs.drop i.toNat)),g.set k .dead) else none
    | _=>none
  | _,_=>none
theorem gOk_dead {g:List AObj} (h:gOk g) (k:Nat):gOk (g.set k .dead):=by
 intro ob hob
 rcases List.mem_or_eq_of_mem_set hob with h1 | h1
 ·exact h ob h1
 ·subst h1;rfl
theorem pInsert_ok {sz : Nat} (hcal : calleeOk P f = true) (h0 : 0 < sz) (hI : InsSpec P f sz) : PrimOk P Γ f (pInsert sz) := by
  intro C hC args g r g' hp hno hgo
  unfold pInsert at hp
  split at hp
  rotate_left
  · cases hp
  rename_i k n i vs
  split at hp
  rotate_left
  · cases hp
  rename_i s2 xs hg1
  split at hp
  rotate_left
  · cases hp
  rename_i hcond
  obtain ⟨rfl,rfl,hall,hm,hi0,hin,hbig⟩:=hcond
  simp only [Option.some.injEq,Prod.mk.injEq] at hp
  obtain ⟨rfl,rfl⟩:=hp
  refine ⟨hcal,gOk_dead hgo k,rfl,fun c us hl hgc hH hlen hrel => ?_⟩
  match us,hlen with
  | [u1,u2,u3],_=>
  subst hgc
  have r1:=hrel 0 (by simp) (by simp)
  have e2:=relV_int (hrel 1 (by simp) (by simp))
  have r3:=hrel 2 (by simp) (by simp)
  simp only [List.getElem_cons_zero,List.getElem_cons_succ] at r1 e2 r3
  subst e2
  have ho1:c.obj true k=some (.pcells s2 xs):=hg1
  obtain ⟨A,cap,rfl,hrow⟩:=row_now r1 ho1 rfl
  have hl2:(lift vs).length=vs.length:=by simp [lift]
  have hall':∀ i (h:i<(lift vs).length),((lift vs)[i]).length=s2:=fun i h=>by
    have:=all_len hall i (by simpa [lift] using h)
    simpa [lift] using this
  obtain ⟨b2,off2,cap2,f2,rfl,hN2,h6,h7,h8⟩:∃ (b2 off2 cap2:Nat) (f2:Nat→Nat→Value),u3 = .slice (some ⟨b2,off2,none⟩) vs.length cap2∧c.N b2∧(∀ i j,i<vs.length→j<s2→c.w.cell? ⟨b2,off2+(i*s2+j),none⟩=some (f2 i j))∧(∀ i j,(f2 i j).oneCell'=true) ∧
      (∀ i j (hi:i<(lift vs).length) (hj:j<((lift vs)[i]).length),RelV c ((lift vs)[i][j]) (f2 i j)):=by
    obtain ⟨A3,cap3,rfl,_,_,q3⟩:=relP_list (relV_p r3)
    obtain ⟨b,off,sz',f,rfl,h1,h2,h5,h6,h7,h8⟩:=q3 hm
    have e1:sz'=s2:=by rw [← h5 0 (by omega)];have:=hall' 0 (by omega);simpa [lift] using this
    subst e1
    refine ⟨b,off,cap3,f,rfl,h1,h6,h7,fun i j hi hj => ?_⟩
    simp only [lift,List.getElem_map] at hj ⊢
    exact .p _ _ (h8 i j (by simpa [lift] using hi) (by simpa using hj))
  have hV2:(laid vs.length s2 f2).length=vs.length*s2:=by simp [laid]
  have hRv:RowsRel c s2 (lift vs) (laid vs.length s2 f2):=⟨hall',by rw [hl2,hV2];exact Nat.le_refl _,fun i j hi hj=>⟨f2 i j,laid_get (by omega) (by rw [hall' i hi] at hj;exact hj),h7 i j,h8 i j hi hj⟩⟩
  have one2:∀ v ∈ laid vs.length s2 f2,v.oneCell'=true:=fun v hv=>by
    simp only [laid,List.mem_map] at hv
    obtain ⟨q,_,rfl⟩:=hv
    exact h7 _ _
  have hV:∀ (j:Nat) (v:Value),(laid vs.length s2 f2)[j]? = some v→c.w.cell? ⟨b2,off2+j,none⟩=some v:=fun j v hj=>by
    have hlt:j<vs.length*s2:=by rw [← hV2];exact (List.getElem?_eq_some_iff.1 hj).1
    simp only [laid,List.getElem?_map] at hj
    rw [List.getElem?_range hlt] at hj
    simp only [Option.map_some,Option.some.injEq] at hj
    subst hj
    have:=h6 (j / s2) (j % s2) (by rw [Nat.div_lt_iff_lt_mul h0];exact hlt) (Nat.mod_lt _ h0)
    rw [Nat.mul_comm,Nat.div_add_mod] at this
    exact this
  have fin:∀ (A:Option Addr) (cs:List Value),cs.length=xs.length*s2→RowsRel c s2 (lift xs) cs→A.map (·.block)=c.μ true k→Calls P f #[.slice A xs.length cap,.int .i64 (i.toNat:Nat),.slice (some ⟨b2,off2,none⟩) vs.length cap2] c.w (fun e w'=>∃ B cap,e = .returned (.slice (some ⟨B,0,none⟩) (xs.length+vs.length) cap)∧xs.length+vs.length≤cap∧cap≤maxLen∧((∃ a,A=some a∧a.block=B)∨c.w.heap.size≤B)∧B<w'.heap.size∧Only c.w w' (A.map (·.block)) ∧
    ∀ j v,(cs.take (i.toNat*s2)++laid vs.length s2 f2++cs.drop (i.toNat*s2))[j]? = some v→w'.cell? ⟨B,j,none⟩=some v) →
    Calls P f #[.slice A xs.length cap,.int .i64 i,.slice (some ⟨b2,off2,none⟩) vs.length cap2] c.w (fun e w'=>∃ v,e = .returned v∧Ans Γ c [] (c.g.set k .dead) (.p (.list (xs.take i.toNat++vs++xs.drop i.toNat))) v w'):=by
    intro A cs hcl hR hA hc
    have hii:((i.toNat:Nat):Int)=i:=by omega
    rw [hii] at hc
    refine Calls.mono hc (fun e w' he => ?_)
    obtain ⟨B,cap',rfl,q1,q2,q3,q4,q5,q6⟩:=he
    have hlen:(xs.take i.toNat++vs++xs.drop i.toNat).length=xs.length+vs.length:=by
      simp only [List.length_append,List.length_take,List.length_drop]
      omega
    have hmul:i.toNat*s2≤xs.length*s2:=Nat.mul_le_mul_right _ (by omega)
    have hall:RowsRel c s2 (lift (xs.take i.toNat++vs++xs.drop i.toNat)) (cs.take (i.toNat*s2)++laid vs.length s2 f2++cs.drop (i.toNat*s2)):=by
      rw [lift_append,lift_append,lift_take,lift_drop]
      have a1:(cs.take (i.toNat*s2)).length=((lift xs).take i.toNat).length*s2:=by
        rw [List.length_take,List.length_take,lift_length,hcl,Nat.min_eq_left hmul,Nat.min_eq_left (by omega)]
      refine RowsRel.append (RowsRel.append (hR.head _) a1 hRv) ?_ (hR.tail _)
      rw [List.length_append,List.length_append,Nat.add_mul,a1,hV2,hl2]
    have hb:c.μ true k=some B∨c.w.heap.size≤B:=by
      rcases q3 with ⟨a,e,rfl⟩ | h
      · rw [← hA,e];exact .inl rfl
      · exact .inr h
    obtain ⟨t1,t2,t3⟩:=kill_list hH ho1 (by rw [← hA];exact q5) hb q4 (by rw [hlen];exact q1) q2 hall q6
    rw [hlen] at t3
    exact ⟨_,rfl,c.set true k .dead none w',by simpa [Cx.set] using hl,by simp [Cx.set],rfl,t1,t2,t3⟩
  rcases hrow with ⟨q0,h0',rfl,rfl⟩ | ⟨b,arr,e,q1,rfl,q3,q4,q5,q6⟩
  · have hx:xs=[]:=List.eq_nil_of_length_eq_zero h0'
    subst hx
    refine fin none [] (by simp) ⟨by simp [lift],by simp [lift],fun i j hi=>by simp [lift] at hi⟩ (by rw [q0];rfl) ?_
    exact hI none 0 0 i.toNat b2 off2 vs.length cap2 [] _ c.w (by simp at hin;omega) hm (Nat.le_refl _) (by simp [maxLen]) hbig (by simp) hV2 (by simp) one2 (.inl ⟨rfl,rfl,rfl⟩) hV
  · have hR1:RelRow c (c.μ true k) s2 (lift xs):=hH.objs true k _ ho1
    rw [q1] at hR1
    obtain ⟨arr',e',hh,hrows⟩:=relRow_rows hR1
    rw [q5] at hh
    cases hh
    have hlx:(lift xs).length=xs.length:=by simp [lift]
    have hCl:(arr.toList.take (xs.length*s2)).length=xs.length*s2:=by
      have:=hrows.2.1
      rw [hlx] at this
      rw [List.length_take]
      omega
    have hRx:=hrows.take
    rw [hlx] at hRx
    have one1:=hrows.ones h0
    rw [hlx] at one1
    refine fin (some ⟨b,0,none⟩) (arr.toList.take (xs.length*s2)) hCl hRx (by rw [q1];rfl) ?_
    exact hI _ xs.length cap i.toNat b2 off2 vs.length cap2 _ _ c.w (by omega) hm q3 q4 hbig hCl hV2 one1 one2 (.inr ⟨b,arr,_,rfl,fun e=>by
      subst e
      exact hN2.2 ⟨true,k,q1⟩,q5,by simpa [AObj.sz] using q6,fun j v hj=>by
      rw [List.getElem?_take] at hj
      split at hj
      · simpa using hj
      · cases hj⟩) hV
def thaw : AV → List AObj → Option (AV × List AObj)
  | .nils,g=>some (.p (.list []),g)
  | .own true k n, g => match g[k]? with
    | some (.pcells _ xs)=>if xs.length=n then some (.p (.list xs),g.set k .dead) else none
    | _=>none
  | v,g=>some (v,g)
def pCloneT (sz:Nat) (C:Calls'):List AV→List AObj→Option (AV × List AObj)
 | [a],g=>bk (thaw a g) fun x=>pClone sz C [x.1] x.2
 | _,_=>none
theorem pCloneT_ok {sz:Nat} (h:PrimOk P Γ f (pClone sz)):PrimOk P Γ f (pCloneT sz):=by
 intro C hC args g r g' hp hno hgo
 unfold pCloneT at hp
 split at hp
 rotate_left
 ·cases hp
 rename_i a
 obtain ⟨⟨a',g1⟩,h1,h2⟩:=bk_eq hp
 unfold thaw at h1
 split at h1
 ·simp only [Option.some.injEq,Prod.mk.injEq] at h1
  obtain ⟨rfl,rfl⟩:=h1
  obtain ⟨q1,q2,q3,q4⟩:=h C hC _ _ r g' h2 rfl hgo
  refine ⟨q1,q2,q3,fun c vs hl hg hH hlen hrel=>q4 c vs hl hg hH hlen (fun j hj h' => ?_)⟩
  have hj0:j=0:=by simp at hj;omega
  subst hj0
  have hr:=hrel 0 (by simp) h'
  simp only [List.getElem_cons_zero] at hr ⊢
  generalize vs[0]=v at hr
  cases hr
  exact .p _ _ (.none none 0 (by simp [maxLen]))
 ·rename_i k n
  split at h1
  rotate_left
  ·cases h1
  rename_i s xs hob
  split at h1
  rotate_left
  ·cases h1
  rename_i hn
  simp only [Option.some.injEq,Prod.mk.injEq] at h1
  obtain ⟨rfl,rfl⟩:=h1
  subst hn
  obtain ⟨q1,q2,q3,q4⟩:=h C hC _ _ r g' h2 rfl (gOk_dead hgo k)
  refine ⟨q1,q2,q3,fun c vs hl hg hH hlen hrel => ?_⟩
  subst hg
  have hob1:c.obj true k=some (.pcells s xs):=hob
  have h0:0<vs.length:=by rw [← hlen];simp
  have hr:=hrel 0 (by simp) h0
  simp only [List.getElem_cons_zero] at hr
  obtain ⟨t1,t2,t3⟩:=freeze_rel hH hob1 hr
  refine Calls.mono (q4 (c.set true k .dead none c.w) vs (by simpa [Cx.set] using hl) (by simp [Cx.set]) t2 hlen (fun j hj h' => ?_)) (fun e w' he => ?_)
  ·have hj0:j=0:=by simp at hj;omega
   subst hj0
   exact .p _ _ t3
  ·obtain ⟨v,rfl,c',e1,e2,e3,hE,hH',hv⟩:=he
   exact ⟨v,rfl,c',e1,e2,e3,t1.trans hE,hH',hv⟩
 ·simp only [Option.some.injEq,Prod.mk.injEq] at h1
  obtain ⟨rfl,rfl⟩:=h1
  exact h C hC _ _ r g' h2 hno hgo
end
end Go.TA


end
section
/- slices.Insert at api.Attr: its roads, and what it is. -/
namespace Go.TA.Try
open Go.Shelf Go.RowKit Go.Lib Go.Proofs
def zeroA:Value:=.agg #[.string ⟨#[]⟩,.string ⟨#[]⟩]
set_option maxHeartbeats 4000000 in
set_option maxRecDepth 100000 in
theorem ins_shiftA (b n c i vb voff m vc : Nat) (cs vs : List Value) (w : World) (hi : i < n) (hm : 0 < m) (hroom : n + m ≤ c) (hc63 : c ≤ 9223372036854775807) (hvb : vb ≠ b)
    (hcl:cs.length=n*2) (hvl:vs.length=m*2)
    (hcs:∀ j v,cs[j]? = some v→w.cell? ⟨b,j,none⟩=some v) (hsp:∀ j,j<(n+m)*2→(w.cell? ⟨b,j,none⟩).isSome=true) (hfz:∀ j,j<(n+m)*2→w.frozen? ⟨b,j,none⟩=false)
    (hvs:∀ j v,vs[j]? = some v→w.cell? ⟨vb,voff+j,none⟩=some v) (h1c:∀ v ∈ cs,v.oneCell'=true) (h1v:∀ v ∈ vs,v.oneCell'=true)
    (tA tB:TypeId) (kA kB:Nat) (hsa:w.shape? vb=some (tA,kA)) (hsb:w.shape? b=some (tB,kB)) (hkA:kA≠0) (hfb:∀ j,w.frozen? ⟨b,j,none⟩=false) :
    Calls Go.Proofs.Try.prog 62 #[.slice (some ⟨b,0,none⟩) n c,.int .i64 i,.slice (some ⟨vb,voff,none⟩) m vc] w fun e w'=>
      e = .returned (.slice (some ⟨b,0,none⟩) (n+m) c)∧w'=(w.drew.setCells b ((i+m)*2) (cs.drop (i*2))).setCells b (i*2) vs:=by
  have mixed:Go.Proofs.Try.prog.follows .mixedOrders=true:=by kernel_rfl
  have hz1:¬ ((m:Int)=0):=by omega
  have hz2:¬ ((i:Int)=(n:Int)):=by omega
  have hov:∀ lb cb,(callFunc 81 #[.slice (some ⟨vb,voff,none⟩) m vc,.slice (some ⟨b,(i+m)*2,none⟩) lb cb]).run Go.Proofs.Try.prog w = .ok (.value (.bool false)) w:=fun lb cb=>by
    rw [run_callFunc_extern Try.func81 (by kernel_rfl) (by kernel_rfl) (by kernel_rfl) (e:=Extern.SlicesOverlaps.overlaps #[29,29] #[4]) (by kernel_rfl),
      run_overlaps_own w 29 4 51 Try.underlying29 2 (fun w=>by kernel_rfl) ⟨vb,voff,none⟩ ⟨b,(i+m)*2,none⟩ m vc lb cb hvb tA tB kA kB hsa hsb hkA (hfb _) (hfb _)]
    rfl
  have hsz:(Go.Proofs.Try.prog.info? 51).map (·.size)=some 2:=by kernel_rfl
  have hw1:IntKind.i64.wrap ((i:Int)+(m:Int))=(i:Int)+(m:Int):=by rw [IntKind.wrap_i64];omega
  have hb1:(0:Int)≤(i:Int)+(m:Int):=by omega
  have hin:i≤n:=by omega
  have htn:((i:Int)+(m:Int)).toNat=i+m:=by omega
  have hb2:¬ (c=i+m):=by omega
  have hb3:(i:Int)≤(n:Int)+(m:Int):=by omega
  have hb4:¬ (c=i):=by omega
  have hdl:(cs.drop (i*2)).length=(n - i)*2:=by rw [List.length_drop];omega
  have hcp1:∀ ty dc sc,(Builtin.copy_ #[29,29] ty #[.slice (some ⟨b,(i+m)*2,none⟩) (n+m - (i+m)) dc,.slice (some ⟨b,i*2,none⟩) (n+m - i) sc]).run Go.Proofs.Try.prog w.drew = .ok (goInt (Nat.min (n+m - i) (n+m - (i+m)))) (w.drew.setCells b ((i+m)*2) (cs.drop (i*2))):=fun ty dc sc=>
    run_copy_k w.drew _ _ ty 51 2 b ((i+m)*2) (n+m - (i+m)) dc ⟨b,i*2,none⟩ (n+m - i) sc (cs.drop (i*2)) Try.underlying29 hsz (by rw [hdl];simp only [Nat.min_def];split <;> omega)
      (fun j v hj=>by rw [Addr.add_lit];exact hcs (i*2+j) v (by rwa [List.getElem?_drop] at hj))
      (fun j hj=>hsp _ (by omega)) (fun j hj=>hfz _ (by omega)) (fun v hv=>h1c v (List.mem_of_mem_drop hv))
  obtain ⟨W1,hW1⟩:∃ W1,W1=w.drew.setCells b ((i+m)*2) (cs.drop (i*2)):=⟨_,rfl⟩
  have hsp1:∀ k,k<(n+m)*2→(W1.cell? ⟨b,k,none⟩).isSome=true:=fun k hk=>by
    rw [hW1]
    exact isSome_setCells b (cs.drop (i*2)) ((i+m)*2) w.drew (fun j hj=>hsp ((i+m)*2+j) (by rw [hdl] at hj;omega)) k (hsp k hk)
  have hcp2:∀ (W:World),(∀ x,W.cell? x=W1.cell? x)→(∀ x,W.frozen? x=W1.frozen? x)→∀ ty dc,(Builtin.copy_ #[29,29] ty #[.slice (some ⟨b,i*2,none⟩) (n+m - i) dc,.slice (some ⟨vb,voff,none⟩) m vc]).run Go.Proofs.Try.prog W = .ok (goInt (Nat.min m (n+m - i))) (W.setCells b (i*2) vs):=fun W hWc hWf ty dc=>
    run_copy_k W _ _ ty 51 2 b (i*2) (n+m - i) dc ⟨vb,voff,none⟩ m vc vs Try.underlying29 hsz (by rw [hvl];simp only [Nat.min_def];split <;> omega)
      (fun j v hj=>by
        rw [Addr.add_lit,hWc,hW1,World.cell?_setCells_out b _ _ _ _ (fun h _=>absurd h hvb)]
        exact hvs j v hj)
      (fun j hj=>by rw [hWc];exact hsp1 _ (by omega)) (fun j hj=>by rw [hWf,hW1,World.frozen?_setCells];exact hfz _ (by omega)) h1v
  rw [← hW1] at hcp1
  go_enter Try.func62,Try.ntmps62
  go_wp2_with (simp only [hov])
  go_region_law_o (refine step_copy_runI rfl _ _ 29 29 rfl _ _ (by simp [Act.eval,Act.put]) (by simp [Act.eval,Act.put]) (hcp1 _ _ _) ?_)
  go_wp2_with (at_builtin;refine wpList_copy_runI _ rfl _ _ 29 29 rfl _ _ rfl rfl (hcp2 _ (fun _=>rfl) (fun _=>rfl) _ _) ?_)
  go_ret
  first | exact ⟨rfl,rfl⟩ | exact ⟨rfl,by rw [hW1]⟩
set_option maxHeartbeats 4000000 in
set_option maxRecDepth 100000 in
theorem ins_end_roomA (b n c vb voff m vc:Nat) (vs:List Value) (w:World) (hm:0<m) (hroom:n+m≤c) (hc63:c≤9223372036854775807) (hvl:vs.length=m*2)
  (hsp:∀ j,j<m*2→(w.cell? ⟨b,n*2+j,none⟩).isSome=true) (hfz:∀ j,j<m*2→w.frozen? ⟨b,n*2+j,none⟩=false)
  (hvs:∀ j v,vs[j]? = some v→w.cell? ⟨vb,voff+j,none⟩=some v) (h1v:∀ v ∈ vs,v.oneCell'=true) :
  Calls Go.Proofs.Try.prog 62 #[.slice (some ⟨b,0,none⟩) n c,.int .i64 n,.slice (some ⟨vb,voff,none⟩) m vc] w fun e w'=>
   e = .returned (.slice (some ⟨b,0,none⟩) (n+m) c)∧w'=w.setCells b (n*2) vs:=by
 have mixed:Go.Proofs.Try.prog.follows .mixedOrders=true:=by kernel_rfl
 have hz1:¬ ((m:Int)=0):=by omega
 obtain ⟨i0,hi0,hs0⟩:∃ i,Go.Proofs.Try.prog.info? 51=some i∧i.size=2:=⟨_,rfl,rfl⟩
 have hsrc:Src Go.Proofs.Try.prog i0.size 29 (.slice (some ⟨vb,voff,none⟩) m vc) m vs w:=Src.ofSlice w Try.underlying29 ⟨vb,voff,none⟩ m vc vs (by rw [hs0];omega) (fun j u hj=>by rw [Addr.add_lit];exact hvs j u hj) h1v
 go_enter Try.func62,Try.ntmps62
 go_wp2_with (at_builtin;refine wpList_append_room_src _ rfl _ _ 29 29 rfl 51 i0 Try.underlying29 hi0 b 0 n c rfl _ rfl m vs hsrc hroom (by rw [hs0,Nat.zero_add,hvl];first | exact hsp | simpa using hsp) (by rw [hs0,Nat.zero_add,hvl];first | exact hfz | simpa using hfz) ?_)
 go_ret
 first | exact ⟨rfl,rfl⟩ | exact ⟨rfl,by rw [hs0,Nat.zero_add]⟩ | exact ⟨rfl,by rw [hs0,Nat.zero_add,Nat.mul_one]⟩
set_option maxHeartbeats 4000000 in
set_option maxRecDepth 100000 in
theorem ins_end_growA (base:Option Addr) (n c vb voff m vc:Nat) (cs vs:List Value) (w:World) (hm:0<m) (hnc:n≤c) (hroom:c<n+m) (hbig:(n+m)*32≤140737488355328)
    (hcl:cs.length=n*2) (hvl:vs.length=m*2) (hnil:base=none→n=0)
    (hcs:∀ a,base=some a→∀ j v,cs[j]? = some v→w.cell? (a.add j)=some v)
    (hvs:∀ j v,vs[j]? = some v→w.cell? ⟨vb,voff+j,none⟩=some v) (h1v:∀ v ∈ vs,v.oneCell'=true) :
    Calls Go.Proofs.Try.prog 62 #[.slice base n c,.int .i64 n,.slice (some ⟨vb,voff,none⟩) m vc] w fun e w'=>
      e = .returned (.slice (some ⟨w.heap.size,0,none⟩) (n+m) (grownCap w (n+m) c 51)) ∧
      w'=w.drew.alloc (.cells ((cs++vs).toArray++Builtin.zeroCells zeroA.cells (grownCap w (n+m) c 51 - (n+m))) 51):=by
  have mixed:Go.Proofs.Try.prog.follows .mixedOrders=true:=by kernel_rfl
  have hz1:¬ ((m:Int)=0):=by omega
  obtain ⟨i0,hi0,hs0,hz0,hb0⟩:∃ i,Go.Proofs.Try.prog.info? 51=some i∧i.size=2∧i.zero=some zeroA∧i.bytes=32:=⟨_,rfl,rfl,rfl,rfl⟩
  have hsrc:Src Go.Proofs.Try.prog i0.size 29 (.slice (some ⟨vb,voff,none⟩) m vc) m vs w:=Src.ofSlice w Try.underlying29 ⟨vb,voff,none⟩ m vc vs (by rw [hs0];omega) (fun j u hj=>by rw [Addr.add_lit];exact hvs j u hj) h1v
  have hold:(Builtin.firstCells i0.size n (.slice base n c)).run Go.Proofs.Try.prog w.drew = .ok cs.toArray w.drew:=by
    rw [hs0]
    cases base with
    | none =>
      have h0:=hnil rfl
      subst h0
      have hc0:cs=[]:=List.length_eq_zero_iff.1 (by simpa using hcl)
      rw [hc0]
      exact run_firstCells_none w.drew 2 0 0 c
    | some a=>exact run_firstCells_some w.drew 2 n a n c cs (by omega) (fun j v hj=>hcs a rfl j v hj)
  have hrun:∀ ty,(Builtin.append_ #[29,29] ty #[.slice base n c,.slice (some ⟨vb,voff,none⟩) m vc]).run Go.Proofs.Try.prog w=_:=fun ty=>
    run_append_grow_src w 29 29 ty 51 i0 zeroA Try.underlying29 hi0 hz0 base n c cs hold _ m vs hsrc hroom (by omega) (by rw [hb0];exact growslice_fits hroom hbig)
  go_enter Try.func62,Try.ntmps62
  cases base with
  | none =>
    have h0:=hnil rfl
    subst h0
    go_wp2_with (at_builtin;refine Lib.wpList_append_run _ rfl _ _ _ _ rfl _ _ rfl rfl _ _ (hrun _) ?_)
    go_ret
    exact ⟨rfl,rfl⟩
  | some a =>
    obtain ⟨ab,ao,asp⟩:=a
    go_wp2_with (at_builtin;refine Lib.wpList_append_run _ rfl _ _ _ _ rfl _ _ rfl rfl _ _ (hrun _) ?_)
    all_goals (go_ret;exact ⟨rfl,rfl⟩)
set_option maxHeartbeats 4000000 in
set_option maxRecDepth 100000 in
theorem ins_growA (b n c i vb voff m vc : Nat) (cs vs : List Value) (w : World) (hi : i < n) (hm : 0 < m) (hnc : n ≤ c) (hroom : c < n + m) (hbig : (n + m) * 32 ≤ 140737488355328)
    (hcl:cs.length=n*2) (hvl:vs.length=m*2)
    (hcs:∀ j v,cs[j]? = some v→w.cell? ⟨b,j,none⟩=some v)
    (hvs:∀ j v,vs[j]? = some v→w.cell? ⟨vb,voff+j,none⟩=some v) (h1c:∀ v ∈ cs,v.oneCell'=true) (h1v:∀ v ∈ vs,v.oneCell'=true) :
    Calls Go.Proofs.Try.prog 62 #[.slice (some ⟨b,0,none⟩) n c,.int .i64 i,.slice (some ⟨vb,voff,none⟩) m vc] w fun e w'=>
      e = .returned (.slice (some ⟨w.heap.size,0,none⟩) (n+m) (grownCap w (n+m) c 51)) ∧
      w'=(((w.alloc (.cells ((cs.take (i*2)).toArray++Builtin.zeroCells zeroA.cells (n+m - i)++Builtin.zeroCells zeroA.cells (grownCap w (n+m) c 51 - (n+m))) 51)).drew.setCells w.heap.size (i*2) vs).drew).setCells w.heap.size ((i+m)*2) (cs.drop (i*2)):=by
  have mixed:Go.Proofs.Try.prog.follows .mixedOrders=true:=by kernel_rfl
  obtain ⟨i0,hi0,hzs,hz0,hzb⟩:∃ i,Go.Proofs.Try.prog.info? 51=some i∧i.size=2∧i.zero=some zeroA∧i.bytes=32:=⟨_,rfl,rfl,rfl,rfl⟩
  have hz1:¬ ((m:Int)=0):=by omega
  have hz2:¬ ((i:Int)=(n:Int)):=by omega
  have hz3:(c:Int)<(n:Int)+(m:Int):=by omega
  have hsz:(Go.Proofs.Try.prog.info? 51).map (·.size)=some 2:=by kernel_rfl
  have hbw:b<w.heap.size:=block_lt_of_cell (hcs 0 _ (List.getElem?_eq_getElem (by omega)))
  have hvw:vb<w.heap.size:=block_lt_of_cell (hvs 0 _ (List.getElem?_eq_getElem (by omega)))
  have hkk:(n:Int)+(m:Int) - (i:Int)=((n+m - i:Nat):Int):=by omega
  have hik:i+(n+m - i)=n+m:=by omega
  have hold:(Builtin.firstCells i0.size i (.slice (some ⟨b,0,none⟩) i c)).run Go.Proofs.Try.prog w.drew = .ok (cs.take (i*2)).toArray w.drew:=by
    rw [hzs]
    exact run_firstCells_some w.drew 2 i ⟨b,0,none⟩ i c (cs.take (i*2)) (by rw [List.length_take];omega) (fun j v hj=>by
      rw [Addr.add_lit,Nat.zero_add]
      rw [List.getElem?_take] at hj
      split at hj
      · exact hcs j v hj
      · cases hj)
  have hrz:∀ ty,(Builtin.append_ #[29,3] ty #[.slice (some ⟨b,0,none⟩) i c,.int .i64 ((n:Int)+(m:Int) - (i:Int))]).run Go.Proofs.Try.prog w =
      .ok (.slice (some ⟨w.heap.size,0,none⟩) (n+m) (grownCap w (n+m) c 51)) (w.drew.alloc (.cells ((cs.take (i*2)).toArray++Builtin.zeroCells zeroA.cells (n+m - i)++Builtin.zeroCells zeroA.cells (grownCap w (n+m) c 51 - (n+m))) 51)):=fun ty=>by
    have h:=Lib.run_append_grow_zeros w 29 3 ty 51 i0 zeroA .i64 .i64 Try.underlying29 Try.underlying3 hi0 hz0 (some ⟨b,0,none⟩) i c (cs.take (i*2)) hold (n+m - i) (by omega) (by omega) (by omega) (by omega) (by rw [hzb];omega) (by rw [hzb,hik];exact growslice_fits hroom hbig)
    rw [hik] at h
    rw [hkk]
    exact h
  obtain ⟨G,hG⟩:∃ G,G=grownCap w (n+m) c 51:=⟨_,rfl⟩
  obtain ⟨ROW,hROW⟩:∃ ROW:Array Value,ROW=(cs.take (i*2)).toArray++Builtin.zeroCells zeroA.cells (n+m - i)++Builtin.zeroCells zeroA.cells (G - (n+m)):=⟨_,rfl⟩
  rw [← hG] at hrz ⊢
  rw [← hROW] at hrz ⊢
  have hRl:(n+m)*2≤ROW.size:=by
    rw [hROW]
    simp [Builtin.zeroCells,Value.cells,zeroA]
    omega
  obtain ⟨W1,hW1⟩:∃ W1,W1=w.drew.alloc (.cells ROW 51):=⟨_,rfl⟩
  rw [← hW1] at hrz
  have hN:∀ j,j<(n+m)*2→(W1.cell? ⟨w.heap.size,j,none⟩).isSome=true:=fun j hj=>by
    rw [hW1,World.cell?_alloc_at (w:=w.drew) ROW _ w.heap.size j rfl,Array.getElem?_eq_getElem (by omega)];rfl
  have hNf:∀ j,W1.frozen? ⟨w.heap.size,j,none⟩=false:=fun j=>by rw [hW1];exact World.frozen?_alloc_at (w:=w.drew) ROW _ w.heap.size j rfl
  have hOb:∀ j v,w.cell? ⟨b,j,none⟩=some v→W1.cell? ⟨b,j,none⟩=some v:=fun j v h=>by rw [hW1,World.cell?_alloc_past (w:=w.drew) _ b j hbw];exact h
  have hOv:∀ j v,w.cell? ⟨vb,voff+j,none⟩=some v→W1.cell? ⟨vb,voff+j,none⟩=some v:=fun j v h=>by rw [hW1,World.cell?_alloc_past (w:=w.drew) _ vb (voff+j) hvw];exact h
  have hcpA:∀ (W:World),(∀ x,W.cell? x=W1.cell? x)→(∀ x,W.frozen? x=W1.frozen? x)→∀ ty dc,(Builtin.copy_ #[29,29] ty #[.slice (some ⟨w.heap.size,i*2,none⟩) (n+m - i) dc,.slice (some ⟨vb,voff,none⟩) m vc]).run Go.Proofs.Try.prog W = .ok (goInt (Nat.min m (n+m - i))) (W.setCells w.heap.size (i*2) vs):=fun W hWc hWf ty dc=>
    run_copy_k W _ _ ty 51 2 w.heap.size (i*2) (n+m - i) dc ⟨vb,voff,none⟩ m vc vs Try.underlying29 hsz (by rw [hvl];simp only [Nat.min_def];split <;> omega)
      (fun j v hj=>by rw [Addr.add_lit,hWc];exact hOv _ v (hvs j v hj))
      (fun j hj=>by rw [hWc];exact hN _ (by omega)) (fun j hj=>by rw [hWf];exact hNf _) h1v
  have hGn:n+m≤G:=by rw [hG];exact grownCap_ge w _ _ _
  have hG63:G≤9223372036854775807:=by
    have:=grownCap_le_maxLen w (n+m) c 51 (by unfold maxLen;omega)
    rw [← hG] at this
    unfold maxLen at this
    omega
  have hGi:¬ (G=i):=by omega
  have hGim:¬ (G=i+m):=by omega
  have hci:¬ (c=i):=by omega
  have hbN:b≠w.heap.size:=by omega
  have hdl:(cs.drop (i*2)).length=(n - i)*2:=by rw [List.length_drop];omega
  have hcpB:∀ (W:World),(∀ x,W.cell? x=(W1.setCells w.heap.size (i*2) vs).cell? x)→(∀ x,W.frozen? x=(W1.setCells w.heap.size (i*2) vs).frozen? x)→∀ ty dc sc,(Builtin.copy_ #[29,29] ty #[.slice (some ⟨w.heap.size,(i+m)*2,none⟩) (n+m - (i+m)) dc,.slice (some ⟨b,i*2,none⟩) (n - i) sc]).run Go.Proofs.Try.prog W = .ok (goInt (Nat.min (n - i) (n+m - (i+m)))) (W.setCells w.heap.size ((i+m)*2) (cs.drop (i*2))):=fun W hWc hWf ty dc sc=>
    run_copy_k W _ _ ty 51 2 w.heap.size ((i+m)*2) (n+m - (i+m)) dc ⟨b,i*2,none⟩ (n - i) sc (cs.drop (i*2)) Try.underlying29 hsz (by rw [hdl];simp only [Nat.min_def];split <;> omega)
      (fun j v hj=>by
        rw [Addr.add_lit,hWc,World.cell?_setCells_out _ _ _ _ _ (fun h _=>absurd h hbN)]
        exact hOb _ v (hcs (i*2+j) v (by rwa [List.getElem?_drop] at hj)))
      (fun j hj=>by rw [hWc];exact isSome_setCells _ vs (i*2) W1 (fun t ht=>hN _ (by omega)) _ (hN _ (by omega)))
      (fun j hj=>by rw [hWf,World.frozen?_setCells];exact hNf _) (fun v hv=>h1c v (List.mem_of_mem_drop hv))
  subst hW1
  have hE1:∀ x,((w.alloc (.cells ROW 51)).drew).cell? x=(w.drew.alloc (.cells ROW 51)).cell? x:=fun x=>rfl
  have hE2:∀ x,((w.alloc (.cells ROW 51)).drew).frozen? x=(w.drew.alloc (.cells ROW 51)).frozen? x:=fun x=>rfl
  have hF1:∀ x,(((w.alloc (.cells ROW 51)).drew.setCells w.heap.size (i*2) vs).drew).cell? x=((w.drew.alloc (.cells ROW 51)).setCells w.heap.size (i*2) vs).cell? x:=fun x=>rfl
  have hF2:∀ x,(((w.alloc (.cells ROW 51)).drew.setCells w.heap.size (i*2) vs).drew).frozen? x=((w.drew.alloc (.cells ROW 51)).setCells w.heap.size (i*2) vs).frozen? x:=fun x=>rfl
  have hw1:IntKind.i64.wrap ((i:Int)+(m:Int))=(i:Int)+(m:Int):=by rw [IntKind.wrap_i64];omega
  have hb1:(0:Int)≤(i:Int)+(m:Int):=by omega
  have hin:i≤n:=by omega
  have htn:((i:Int)+(m:Int)).toNat=i+m:=by omega
  have hb3:(i:Int)≤(n:Int):=by omega
  clear hkk hik hold hROW hG hRl
  go_enter Try.func62,Try.ntmps62
  go_wp2_with (first
    | (at_builtin;refine Lib.wpList_append_run _ rfl _ _ _ _ rfl _ _ rfl rfl _ _ (hrz _) ?_)
    | (at_builtin;refine wpList_copy_runI _ rfl _ _ 29 29 rfl _ _ rfl rfl (hcpA _ hE1 hE2 _ _) ?_)
    | (at_builtin;refine wpList_copy_runI _ rfl _ _ 29 29 rfl _ _ rfl rfl (hcpB _ (fun _=>rfl) (fun _=>rfl) _ _ _) ?_))
  go_region_law_o (refine step_copy_runI rfl _ _ 29 29 rfl (.slice (some ⟨w.heap.size,(i+m)*2,none⟩) (n+m - (i+m)) (G - (i+m))) (.slice (some ⟨b,i*2,none⟩) (n - i) (c - i)) (by simp [Act.eval,Act.put]) (by simp [Act.eval,Act.put]) (hcpB _ hF1 hF2 3 (G - (i+m)) (c - i)) ?_)
  go_wp2
  go_ret
  exact ⟨rfl,rfl⟩
theorem ins_specA : InsSpec Go.Proofs.Try.prog 62 2 := by
  unfold InsSpec
  intro A n cp i vb voff m vc cs vs w hi hm hnc hcm hbig hcl hvl h1c h1v hA hV
  have hvs:∀ j v,vs[j]? = some v→w.cell? ⟨vb,voff+j,none⟩=some v:=hV
  obtain ⟨tA,kA,hsa,hkA⟩:=shape_of_cell (hvs 0 _ (List.getElem?_eq_getElem (by omega)))
  have hmax:maxLen=9223372036854775807:=by decide
  by_cases hroom:n+m≤cp
  · rcases hA with ⟨h1,h2,h3⟩ | ⟨b,arr,e,rfl,hvb,hh,hsz,hcc⟩
    · omega
    have hcs:∀ j v,cs[j]? = some v→w.cell? ⟨b,j,none⟩=some v:=fun j v h=>(cell_of_row w b j arr e (0,0) hh).trans (hcc j v h)
    have hbw:b<w.heap.size:=(Array.getElem?_eq_some_iff.1 hh).1
    have hsp:∀ j,j<(n+m)*2→(w.cell? ⟨b,j,none⟩).isSome=true:=fun j hj=>by rw [cell_of_row w b j arr e (0,0) hh,Array.getElem?_eq_getElem (by omega)];rfl
    have hfz:∀ j,w.frozen? ⟨b,j,none⟩=false:=fun j=>by simp [World.frozen?,hh]
    by_cases hin:i<n
    · refine Calls.mono (ins_shiftA b n cp i vb voff m vc cs vs w hin hm hroom (by omega) hvb hcl hvl hcs hsp (fun j _=>hfz j) hvs h1c h1v tA e kA arr.size hsa (by simp [World.shape?,hh]) hkA hfz) (fun e' w' he => ?_)
      obtain ⟨rfl,rfl⟩:=he
      refine ⟨b,cp,rfl,hroom,hcm,.inl ⟨_,rfl,rfl⟩,by rw [heap_lt_setCells,heap_lt_setCells];exact hbw,Only.cells (.inl rfl) _ _ (Only.cells (.inl rfl) _ _ (Only.refl w _).drew),fun j v hj => ?_⟩
      have:=shift_cells (a:=i*2) (w:=w.drew) (b:=b) (by omega) hcs (fun j hj=>hsp j (by omega)) j v hj
      rw [hvl,show i*2+m*2=(i+m)*2 by omega] at this
      exact this
    · have hin:i=n:=by omega
      subst hin
      refine Calls.mono (ins_end_roomA b i cp vb voff m vc vs w hm hroom (by omega) hvl (fun j hj=>hsp _ (by omega)) (fun j _=>hfz _) hvs h1v) (fun e' w' he => ?_)
      obtain ⟨rfl,rfl⟩:=he
      refine ⟨b,cp,rfl,hroom,hcm,.inl ⟨_,rfl,rfl⟩,by rw [heap_lt_setCells];exact hbw,Only.cells (.inl rfl) _ _ (Only.refl w _),fun j v hj => ?_⟩
      rw [← hcl] at hj ⊢
      exact end_cells hcs (fun j hj=>hsp j (by omega)) j v hj
  · have hge:=grownCap_ge w (n+m) cp 51
    have hcm2:=grownCap_le_maxLen w (n+m) cp 51 (by omega)
    by_cases hin:i<n
    · rcases hA with ⟨h1,h2,h3⟩ | ⟨b,arr,e,rfl,hvb,hh,hsz,hcc⟩
      · omega
      have hcs:∀ j v,cs[j]? = some v→w.cell? ⟨b,j,none⟩=some v:=fun j v h=>(cell_of_row w b j arr e (0,0) hh).trans (hcc j v h)
      refine Calls.mono (ins_growA b n cp i vb voff m vc cs vs w hin hm hnc (by omega) (by omega) hcl hvl hcs hvs h1c h1v) (fun e' w' he => ?_)
      obtain ⟨rfl,rfl⟩:=he
      generalize grownCap w (n+m) cp 51=G at *
      obtain ⟨ROW,hROW⟩:∃ ROW:Array Value,ROW=(cs.take (i*2)).toArray++Builtin.zeroCells zeroA.cells (n+m - i)++Builtin.zeroCells zeroA.cells (G - (n+m)):=⟨_,rfl⟩
      have hRl:(n+m)*2≤ROW.size:=by
        rw [hROW]
        simp [Builtin.zeroCells,Value.cells,zeroA]
        omega
      have hRt:∀ j v,(cs.take (i*2))[j]? = some v→ROW[j]? = some v:=fun j v hj=>by
        have hlt:=(List.getElem?_eq_some_iff.1 hj).1
        rw [hROW,Array.getElem?_append_left (by simp at hlt ⊢;omega),Array.getElem?_append_left (by simpa using hlt)]
        simpa using hj
      rw [← hROW]
      have hN:∀ j,(w.alloc (.cells ROW 51)).drew.cell? ⟨w.heap.size,j,none⟩=ROW[j]? := fun j=>World.cell?_alloc_at (w:=w) ROW _ w.heap.size j rfl
      refine ⟨w.heap.size,G,rfl,hge,hcm2,.inr (Nat.le_refl _),by rw [heap_lt_setCells];show w.heap.size<(World.setCells _ _ _ _).heap.size;rw [heap_lt_setCells];show w.heap.size<(w.alloc _).heap.size;simp,Only.cells (.inr (Nat.le_refl _)) _ _ (Only.cells (.inr (Nat.le_refl _)) _ _ ((Only.refl w _).alloc _).drew).drew,fun j v hj => ?_⟩
      have:=grow_cells (a:=i*2) (vs:=vs) (w:=(w.alloc (.cells ROW 51)).drew) (w':=((w.alloc (.cells ROW 51)).drew.setCells w.heap.size (i*2) vs).drew) (b:=w.heap.size) (by omega) (fun j v hj=>(hN j).trans (hRt j v hj)) (fun j hj=>by rw [hN,Array.getElem?_eq_getElem (by omega)];rfl) (fun _=>rfl) j v hj
      rw [hvl,show i*2+m*2=(i+m)*2 by omega] at this
      exact this
    · have hin:i=n:=by omega
      subst hin
      have hnil:A=none→i=0:=fun h=>by
        rcases hA with ⟨_,h2,_⟩ | ⟨b,arr,e,h2,_⟩
        · exact h2
        · rw [h2] at h;cases h
      have hcsA:∀ a,A=some a→∀ j v,cs[j]? = some v→w.cell? (a.add j)=some v:=by
        intro a ha j v hj
        rcases hA with ⟨h,_⟩ | ⟨b,arr,e,h,hvb,hh,hsz,hcc⟩
        · rw [h] at ha;cases ha
        · rw [h] at ha;cases ha
          rw [Addr.add_lit,Nat.zero_add]
          exact (cell_of_row w b j arr e (0,0) hh).trans (hcc j v hj)
      refine Calls.mono (ins_end_growA A i cp vb voff m vc cs vs w hm hnc (by omega) (by omega) hcl hvl hnil hcsA hvs h1v) (fun e' w' he => ?_)
      obtain ⟨rfl,rfl⟩:=he
      generalize grownCap w (i+m) cp 51=G at *
      refine ⟨w.heap.size,G,rfl,hge,hcm2,.inr (Nat.le_refl _),by show w.heap.size<(w.drew.alloc _).heap.size;simp,((Only.refl w _).drew).alloc _,fun j v hj => ?_⟩
      rw [← hcl,List.take_length,List.drop_length,List.append_nil] at hj
      have hlt:=(List.getElem?_eq_some_iff.1 hj).1
      rw [World.cell?_alloc_at (w:=w.drew) _ _ w.heap.size j rfl,Array.getElem?_append_left (by simpa using hlt)]
      simpa using hj
end Go.TA.Try


end
section
/- slices.DeleteFunc on a row of one's own, told at once: its text up to the last two lines as lowered code, the rest by hand. -/
namespace Go.TA
def delLoop1 : LCode :=
  (.seq (.region [
    { dst:=some 16,op:=.move (.t 6),ix:=0 },
    { dst:=some 17,op:=.move (.t 0),ix:=1 },
    { dst:=some 18,op:=.len 1 (.t 17),ix:=2 },
    { dst:=some 19,op:=.bin .lss (.t 16) (.t 18),ix:=3 }] false [0,1,5,6,19] []) (.seq (.cond (.t 19) (.keep [0,1,5,6] [] .skip) (.keep [0,5] [] (.exit 0))) (.keep [0,1,5,6] [] (.seq (.block 1 (.seq (.region [
    { dst:=some 22,op:=.move (.t 0),ix:=0 },
    { dst:=some 23,op:=.move (.t 6),ix:=1 },
    { dst:=some 24,op:=.indexAddr 1 (.t 22) (.t 23),ix:=2 },
    { dst:=some 25,op:=.load 1 false (.t 24),ix:=3 },
    { dst:=some 7,op:=.move (.t 25),ix:=4 }] false [0,1,5,6,7] []) (.seq (.region [
    { dst:=some 26,op:=.move (.t 1),ix:=0 },
    { dst:=some 27,op:=.move (.t 7),ix:=1 },
    { dst:=some 28,op:=.callv (.t 26) [(.t 27,.as)],ix:=2 },
    { dst:=some 29,op:=.un .not (.t 28),ix:=3 }] false [0,1,5,6,7,29] []) (.seq (.cond (.t 29) (.seq (.region [
    { dst:=some 30,op:=.move (.t 0),ix:=0 },
    { dst:=some 31,op:=.move (.t 5),ix:=1 },
    { dst:=some 32,op:=.move (.t 7),ix:=2 },
    { dst:=some 33,op:=.indexAddr 1 (.t 30) (.t 31),ix:=3 },
    { dst:=none,op:=.store 1 false (.t 33) (.t 32),ix:=4 }] false [0,1,5,6] []) (.seq (.region [
    { dst:=some 34,op:=.move (.t 5),ix:=0 },
    { dst:=some 35,op:=.bin .add (.t 34) (.c (.int .i64 1)),ix:=1 },
    { dst:=some 5,op:=.move (.t 35),ix:=2 }] false [0,1,5,6] []) (.keep [0,1,5,6] [] .skip))) (.keep [0,1,5,6] [] .skip)) (.keep [0,1,5,6] [] .skip))))) (.keep [0,1,5,6] [] (.seq (.region [
    { dst:=some 20,op:=.move (.t 6),ix:=0 },
    { dst:=some 21,op:=.bin .add (.t 20) (.c (.int .i64 1)),ix:=1 },
    { dst:=some 6,op:=.move (.t 21),ix:=2 }] false [0,1,5,6] []) (.keep [0,1,5,6] [] .skip)))))))
def delLoop2 : LCode :=
  (.seq (.region [
    { dst:=some 16,op:=.move (.t 6),ix:=0 },
    { dst:=some 17,op:=.move (.t 0),ix:=1 },
    { dst:=some 18,op:=.len 1 (.t 17),ix:=2 },
    { dst:=some 19,op:=.bin .lss (.t 16) (.t 18),ix:=3 }] false [0,1,5,6,19] []) (.seq (.cond (.t 19) (.keep [0,1,5,6] [] .skip) (.keep [0,5] [] (.exit 0))) (.keep [0,1,5,6] [] (.seq (.block 1 (.seq (.region [
    { dst:=some 22,op:=.move (.t 0),ix:=0 },
    { dst:=some 23,op:=.move (.t 6),ix:=1 },
    { dst:=some 24,op:=.indexAddr 2 (.t 22) (.t 23),ix:=2 },
    { dst:=some 25,op:=.load 2 true (.t 24),ix:=3 },
    { dst:=some 7,op:=.alloc false 7 [.p (.str []),.p (.str [])] [],ix:=4 },
    { dst:=none,op:=.store 2 true (.t 7) (.t 25),ix:=5 }] false [0,1,5,6,7] [7]) (.seq (.region [
    { dst:=some 26,op:=.move (.t 1),ix:=0 },
    { dst:=some 27,op:=.load 2 true (.t 7),ix:=1 },
    { dst:=some 28,op:=.callv (.t 26) [(.t 27,.as)],ix:=2 },
    { dst:=some 29,op:=.un .not (.t 28),ix:=3 }] false [0,1,5,6,7,29] [7]) (.seq (.cond (.t 29) (.seq (.region [
    { dst:=some 30,op:=.move (.t 0),ix:=0 },
    { dst:=some 31,op:=.move (.t 5),ix:=1 },
    { dst:=some 32,op:=.load 2 true (.t 7),ix:=2 },
    { dst:=some 33,op:=.indexAddr 2 (.t 30) (.t 31),ix:=3 },
    { dst:=none,op:=.store 2 true (.t 33) (.t 32),ix:=4 }] false [0,1,5,6] []) (.seq (.region [
    { dst:=some 34,op:=.move (.t 5),ix:=0 },
    { dst:=some 35,op:=.bin .add (.t 34) (.c (.int .i64 1)),ix:=1 },
    { dst:=some 5,op:=.move (.t 35),ix:=2 }] false [0,1,5,6] []) (.keep [0,1,5,6] [] .skip))) (.keep [0,1,5,6] [] .skip)) (.keep [0,1,5,6] [] .skip))))) (.keep [0,1,5,6] [] (.seq (.region [
    { dst:=some 20,op:=.move (.t 6),ix:=0 },
    { dst:=some 21,op:=.bin .add (.t 20) (.c (.int .i64 1)),ix:=1 },
    { dst:=some 6,op:=.move (.t 21),ix:=2 }] false [0,1,5,6] []) (.keep [0,1,5,6] [] .skip)))))))
def delHead (fi : Nat) (L : LCode) : LCode :=
  (.seq (.region [
    { dst:=some 4,op:=.move (.c (.list [])),ix:=0 }] false [0,1] []) (.seq (.region [
    { dst:=some 8,op:=.move (.t 0),ix:=0 },
    { dst:=some 9,op:=.move (.t 1),ix:=1 },
    { dst:=some 10,op:=.call fi [(.t 8,.as),(.t 9,.as)],ix:=2 },
    { dst:=some 5,op:=.move (.t 10),ix:=3 }] false [0,1,5] []) (.seq (.region [
    { dst:=some 11,op:=.move (.t 5),ix:=0 },
    { dst:=some 12,op:=.eq .i false (.t 11) (.c (.int .i64 (-1))),ix:=1 }] false [0,1,5,12] []) (.seq (.cond (.t 12) (.seq (.region [
    { dst:=some 13,op:=.move (.t 0),ix:=0 },
    { dst:=some 4,op:=.move (.t 13),ix:=1 }] false [4] []) (.keep [4] [] .ret)) (.keep [0,1,5] [] .skip)) (.keep [0,1,5] [] (.seq (.region [
    { dst:=some 14,op:=.move (.t 5),ix:=0 },
    { dst:=some 15,op:=.bin .add (.t 14) (.c (.int .i64 1)),ix:=1 },
    { dst:=some 6,op:=.move (.t 15),ix:=2 }] false [0,1,5,6] []) (.seq (.block 0 (.seq (.keep [0,1,5,6] [] (.loop L)) (.keep [0,5] [] .skip))) (.keep [0,5] [] .skip))))))))
def delOut (sz : Nat) : Ex × St → Option (AV × List AObj)
  | (.ret, ⟨fr, [], g⟩) => match (⟨fr, [], g⟩ : St).get 4 with
    | .own true k n => match g[k]? with
      | some (.pcells s xs)=>if s=sz∧xs.length=n then some (.p (.list xs),g.set k .dead) else none
      | _=>none
    | _=>none
  | (.normal, ⟨fr, [], g⟩) => match (⟨fr, [], g⟩ : St).get 0, (⟨fr, [], g⟩ : St).get 5 with
    | .own true k n, .p (.int .i64 i) => match g[k]? with
      | some (.pcells s xs)=>if s=sz∧xs.length=n∧0≤i∧i<n then some (.p (.list (xs.take i.toNat)),g.set k .dead) else none
      | _=>none
    | _,_=>none
  | _=>none
def pDelete (fi:Nat) (L:LCode) (sz:Nat) (C:Calls'):List AV→List AObj→Option (AV × List AObj)
 | [.own true k n,fv],g=>(aexec C (n+2) (delHead fi L) (enterSt [.own true k n,fv] g)).bind (delOut sz)
 | _,_=>none
def isMv (o:Oper) (d n:Nat):Bool:=o.guard.isNone && o.dst==some d && match o.op with
 | .move (.tmp m)=>m==n
 | .assign (.tmp m)=>m==n
 | _=>false
def isCut (P:Program) (sz:Nat) (o:Oper) (d x i:Nat):Bool:=o.guard.isNone && o.dst==some d && match o.op with
 | .slice t (.tmp y) (some (.tmp j)) none none=>y==x && j==i && (match P.underlying t with | some (.slice e)=>tsize P e==some sz | _=>false)
 | _=>false
def isTop (P:Program) (sz:Nat) (o:Oper) (d x i:Nat):Bool:=o.guard.isNone && o.dst==some d && match o.op with
 | .slice t (.tmp y) none (some (.tmp j)) none=>y==x && j==i && (match P.underlying t with | some (.slice e)=>tsize P e==some sz | _=>false)
 | _=>false
def isClear (P : Program) (sz : Nat) (o : Oper) (x : Nat) : Bool := o.guard.isNone && o.dst == none && match o.op with
  | .call { callee := .builtin .clear, args, argTypes } => (match args.toList, argTypes.toList with
    | [.tmp y], [t] => y == x && (match P.underlying t with
      | some (.slice e) => (match (P.info? e).bind (·.zero) with
        | some z=>z.cells.size==sz && z.cells.toList.all (·.oneCell')
        | none=>false)
      | _=>false)
    | _,_=>false)
  | _=>false
def delTail (P : Program) (sz : Nat) : List Code → Bool
  | [.region _ o4 false, .region _ o5 false, .ret] => (match o4.toList with
    | [a,b,c,d]=>isMv a 36 0 && isMv b 37 5 && isCut P sz c 38 36 37 && isClear P sz d 38
    | _=>false) && (match o5.toList with
    | [a,b,c,d]=>isMv a 39 0 && isMv b 40 5 && isTop P sz c 41 39 40 && isMv d 4 41
    | _=>false)
  | _=>false
def delItems (P:Program) (fi:Nat) (L:LCode) (sz:Nat) (l:List Code):Bool:=codeOk P 42 (delHead fi L) (l.take 6) && delTail P sz (l.drop 6)
def delB (P : Program) (f fi : Nat) (L : LCode) (sz : Nat) : Bool := calleeOk P f && sz != 0 && match P.funcs[f]? with
  | some fn => (match fn.body with
    | some b=>fn.ntmps==42 && resOk P [.tmp 4] fn.results.toList && delItems P fi L sz (items b)
    | none=>false)
  | none=>false
section
variable {P:Program} {Γ : Ground} {f:Nat}
theorem wpL_join {Q:Exit→Act→World→Prop}:∀ {l r:List Code} {a:Act} {w:World},wpL P (Exit.then (wpL P Q r) Q) l a w→wpL P Q (l++r) a w
  | [],r,a,w,h=>h
  | c :: l, r, a, w, h => by
    simp only [List.cons_append,wpL] at h ⊢
    refine wp_mono h (fun e a' w' he => ?_)
    cases e <;> simp only [Exit.then] at he ⊢ <;> first | exact wpL_join he | exact he
theorem wpList_step {ops:Array Oper} {rest:List Oper} {o:Oper} {a:Act} {w w':World} {v:Value} {Q:Exit→Act→World→Prop} (hg:o.guard.isNone=true) (hr:(execOp a.eval o).run P w = .ok (.value v) w') (h:wpList P ops Q rest (a.put o.dst v) w'):wpList P ops Q (o::rest) a w:=by
 have hw:Region.wanted o (yielded ops a.tmps)=true:=by
  have:o.guard=none:=by simpa using hg
  simp [Region.wanted,this]
 unfold wpList
 rw [if_pos hw]
 exact .inl (Does.wp (Does.value (R:=fun v' w''=>v'=v∧w''=w') hr ⟨rfl,rfl⟩) (fun v' w'' hR=>by
  obtain ⟨rfl,rfl⟩:=hR
  exact h))
theorem run_mv {o:Oper} {d n:Nat} (h:isMv o d n=true) (a:Act) (w:World):o.guard.isNone=true∧o.dst=some d∧(execOp a.eval o).run P w = .ok (.value (a.eval (.tmp n))) w:=by
 simp only [isMv,Bool.and_eq_true,beq_iff_eq] at h
 obtain ⟨⟨h1,h2⟩,h3⟩:=h
 refine ⟨h1,h2, ?_⟩
 split at h3 <;> rename_i ho <;> first | (cases h3;done) | skip
 all_goals
  simp only [beq_iff_eq] at h3
  subst h3
  simp only [execOp,ho]
  rfl
theorem run_cut {sz:Nat} {o:Oper} {d x i:Nat} (h:isCut P sz o d x i=true) (a:Act) (w:World) {b n cp m:Nat} (hx:a.eval (.tmp x) = .slice (some ⟨b,0,none⟩) n cp) (hi:a.eval (.tmp i) = .int .i64 m) (hm:m<n) (hn:n≤cp) :
  o.guard.isNone=true∧o.dst=some d∧(execOp a.eval o).run P w = .ok (.value (.slice (some ⟨b,m*sz,none⟩) (n - m) (cp - m))) w:=by
 simp only [isCut,Bool.and_eq_true,beq_iff_eq] at h
 obtain ⟨⟨h1,h2⟩,h3⟩:=h
 refine ⟨h1,h2, ?_⟩
 split at h3
 rotate_left
 ·cases h3
 rename_i t y j ho
 simp only [Bool.and_eq_true,beq_iff_eq] at h3
 obtain ⟨⟨rfl,rfl⟩,h3⟩:=h3
 split at h3
 rotate_left
 ·cases h3
 rename_i e he
 simp only [beq_iff_eq] at h3
 have hne:¬ (cp=m):=by omega
 have hsz:∀ w,(sizeOf e).run P w = .ok sz w:=fun w=>by
  cases hq:P.info? e with
  | none=>simp [tsize,hq] at h3
  | some q=>simp [tsize,hq] at h3;simp [sizeOf,typeInfo,hq,h3]
 have hle:(m:Int)≤(n:Int):=by omega
 simp [execOp,ho,hx,hi,Instr.sliceAt,Instr.slice,run_underlying he,Instr.sliceBounds,Instr.sliceBound,asIntOf,hle,hsz,hne,Addr.add_lit]
 first | done | (intro h;omega)
theorem run_top {sz:Nat} {o:Oper} {d x i:Nat} (h:isTop P sz o d x i=true) (a:Act) (w:World) {b n cp m:Nat} (hx:a.eval (.tmp x) = .slice (some ⟨b,0,none⟩) n cp) (hi:a.eval (.tmp i) = .int .i64 m) (hm:m<n) (hn:n≤cp) :
  o.guard.isNone=true∧o.dst=some d∧(execOp a.eval o).run P w = .ok (.value (.slice (some ⟨b,0,none⟩) m cp)) w:=by
 simp only [isTop,Bool.and_eq_true,beq_iff_eq] at h
 obtain ⟨⟨h1,h2⟩,h3⟩:=h
 refine ⟨h1,h2, ?_⟩
 split at h3
 rotate_left
 ·cases h3
 rename_i t y j ho
 simp only [Bool.and_eq_true,beq_iff_eq] at h3
 obtain ⟨⟨rfl,rfl⟩,h3⟩:=h3
 split at h3
 rotate_left
 ·cases h3
 rename_i e he
 simp only [beq_iff_eq] at h3
 have hne:¬ (cp=0):=by omega
 have hsz:∀ w,(sizeOf e).run P w = .ok sz w:=fun w=>by
  cases hq:P.info? e with
  | none=>simp [tsize,hq] at h3
  | some q=>simp [tsize,hq] at h3;simp [sizeOf,typeInfo,hq,h3]
 have hle:(m:Int)≤(cp:Int):=by omega
 simp [execOp,ho,hx,hi,Instr.sliceAt,Instr.slice,run_underlying he,Instr.sliceBounds,Instr.sliceBound,asIntOf,hle,hsz,hne,Addr.add_lit]
 first | done | (intro h;omega)
theorem run_clear_k (w:World) (t e ty:TypeId) (z:Value) (ht:P.underlying t=some (.slice e)) (hv:∀ w,(zeroValue e).run P w = .ok z w) (h1:∀ v ∈ z.cells.toList,v.oneCell'=true) (b o n c:Nat) (hn:0<n)
  (hc:∀ j,j<n*z.cells.size→(w.cell? ⟨b,o+j,none⟩).isSome=true) (hf:∀ j,j<n*z.cells.size→w.frozen? ⟨b,o+j,none⟩=false) :
  (Builtin.clear_ #[t] ty #[.slice (some ⟨b,o,none⟩) n c]).run P w = .ok (.tuple #[]) (w.setCells b o (Builtin.zeroCells z.cells n).toList):=by
 have hl:(Builtin.zeroCells z.cells n).toList.length=n*z.cells.size:=by rw [Array.length_toList,size_zeroCells]
 have hst:=run_storeCells_cells (P:=P) b o (Builtin.zeroCells z.cells n).toList 0 w (by rw [hl];simpa using hc) (by rw [hl];simpa using hf) (by
  intro v hv'
  refine h1 v ?_
  simp only [Builtin.zeroCells,Array.toList_map,List.mem_map,Array.toList_range,List.mem_range] at hv'
  obtain ⟨i,hi,rfl⟩:=hv'
  have h0:0<z.cells.size:=Nat.pos_of_ne_zero (fun e=>by rw [e] at hi;omega)
  rw [getElem!_pos z.cells _ (Nat.mod_lt _ h0)]
  exact Array.getElem_mem_toList _)
 simp only [Nat.add_zero] at hst
 obtain ⟨m,rfl⟩:∃ m,n=m+1:=⟨n - 1,by omega⟩
 simp [Builtin.clear_,run_underlying ht,hv,hst]
theorem run_clearOp {sz:Nat} {o:Oper} {x:Nat} (h:isClear P sz o x=true) (a:Act) (w:World) {b off n cp:Nat} (hx:a.eval (.tmp x) = .slice (some ⟨b,off,none⟩) n cp) (hn:0<n)
  (hc:∀ j,j<n*sz→(w.cell? ⟨b,off+j,none⟩).isSome=true) (hf:∀ j,w.frozen? ⟨b,j,none⟩=false) :
  o.guard.isNone=true∧o.dst=none∧∃ zs:List Value,zs.length=n*sz∧(execOp a.eval o).run P w = .ok (.value (.tuple #[])) (w.setCells b off zs):=by
 simp only [isClear,Bool.and_eq_true,beq_iff_eq] at h
 obtain ⟨⟨h1,h2⟩,h3⟩:=h
 refine ⟨h1,h2, ?_⟩
 split at h3
 rotate_left
 ·cases h3
 rename_i args ats ho
 split at h3
 rotate_left
 ·cases h3
 rename_i y t hargs hats
 simp only [Bool.and_eq_true,beq_iff_eq] at h3
 obtain ⟨rfl,h3⟩:=h3
 split at h3
 rotate_left
 ·cases h3
 rename_i e he
 split at h3
 rotate_left
 ·cases h3
 rename_i z hz
 simp only [Bool.and_eq_true,beq_iff_eq,List.all_eq_true] at h3
 obtain ⟨rfl,h1c⟩:=h3
 have hv:∀ w,(zeroValue e).run P w = .ok z w:=fun w=>by
  obtain ⟨q,hq,hqz⟩:=Option.bind_eq_some_iff.1 hz
  simp [zeroValue,typeInfo,hq,hqz]
 have hrun:=run_clear_k w t e o.type z he hv h1c b off n cp hn hc (fun j _=>hf _)
 refine ⟨_,by rw [Array.length_toList,size_zeroCells], ?_⟩
 have ha:args = #[.tmp y]:=by rw [← Array.toArray_toList (xs:=args),hargs]
 have ht:ats = #[t]:=by rw [← Array.toArray_toList (xs:=ats),hats]
 subst ha
 subst ht
 simp [execOp,ho,resolve,invoke,builtin,hx,hrun,Result.andThen]
theorem putSize (a:Act) (d:Option Nat) (v:Value):(a.put d v).tmps.size=a.tmps.size:=by cases d <;> simp [Act.put]
theorem putEval {a:Act} {d n:Nat} {v:Value} (h:d<a.tmps.size):(a.put (some d) v).eval (.tmp n)=if n=d then v else a.eval (.tmp n):=by
 by_cases e:n=d
 ·subst e
  simp [Act.put,Act.eval,h]
 ·have e':¬ d=n:=fun h=>e h.symm
  simp [Act.put,Act.eval,e,e',Array.getElem?_setIfInBounds]
theorem putDefers (a:Act) (d:Option Nat) (v:Value):(a.put d v).defers=a.defers:=by cases d <;> rfl
theorem pDelete_ok (hm : P.follows .mixedOrders = true) {fi : Nat} {L : LCode} {sz : Nat} (hB : delB P f fi L sz = true) : PrimOk P Γ f (pDelete fi L sz) := by
  intro C hC args g r g' hp hno hgo
  unfold pDelete at hp
  split at hp
  rotate_left
  · cases hp
  rename_i k n fv
  obtain ⟨⟨ex,s1⟩,hex,hout⟩:=Option.bind_eq_some_iff.1 hp
  simp only [delB,Bool.and_eq_true,bne_iff_ne,ne_eq] at hB
  obtain ⟨⟨hcal,hsz0⟩,hB⟩:=hB
  split at hB
  rotate_left
  · cases hB
  rename_i fn hfn
  split at hB
  rotate_left
  · cases hB
  rename_i body hbody
  simp only [Bool.and_eq_true,beq_iff_eq,delItems] at hB
  obtain ⟨⟨hnt,hres⟩,hhead,htail⟩:=hB
  have hitems:items body=(items body).take 6++(items body).drop 6:=(List.take_append_drop 6 _).symm
  generalize (items body).take 6=is1 at *
  generalize (items body).drop 6=is2 at *
  have hCg:∀ f args g r g',C f args g=some (r,g')→noLocals args=true→gOk g→gOk g':=fun f args g r g' h1 h2 h3=>(hC f args g r g' h1 h2 h3).2.1
  have hgo1:gOk s1.g:=aexec_gOk hCg _ hhead (s:=enterSt [.own true k n,fv] g) hgo hex
  obtain ⟨fr,l1,g1⟩:=s1
  have hr:l1=[]∧∃ xs k',r = .p (.list xs)∧g'=g1.set k' .dead:=by
    unfold delOut at hout
    split at hout <;> (try (cases hout;done)) <;> (rename_i heq;simp only [Prod.mk.injEq,St.mk.injEq] at heq;obtain ⟨_,rfl,rfl,rfl⟩:=heq) <;> (split at hout <;> (try (cases hout;done))) <;> (split at hout <;> (try (cases hout;done))) <;> (split at hout <;> (try (cases hout;done))) <;> (simp only [Option.some.injEq,Prod.mk.injEq] at hout;exact ⟨rfl,_,_,hout.1.symm,hout.2.symm⟩)
  obtain ⟨rfl,ys,k',rfl,rfl⟩:=hr
  refine ⟨hcal,gOk_dead hgo1 k',rfl,fun c vs hl hgc hH hlen hrel => ?_⟩
  subst hgc
  refine calls_of_wp hfn hbody ?_
  have hg0:=body_good (c:=c) (args:=[.own true k n,fv]) (vs:=vs) (np:=2) (nt:=fn.ntmps) hlen hrel hH hl hgo rfl
  rw [hnt] at hg0 ⊢
  have hmax:max 2 42=42:=rfl
  rw [hmax] at hg0
  refine wp_of_wpL ?_
  rw [hitems]
  refine wpL_join (aexec_rel (C:=C) (N:=n+2) hm hC _ hhead hg0 hex (fun c1 a1 hg1 hE1 => ?_))
  have fin:∀ (a2:Act) (c2:Cx),a2.defers=[]→c2.l=[]→c2.g=g1.set k' .dead→Evo c c2→RelH Γ c2→(∃ u,a2.tmps.getD 4 undef=u∧RelV c2 (.p (.list ys)) u)→bodyPost P fn (fun e w'=>∃ v,e = .returned v∧Ans Γ c [] (g1.set k' .dead) (.p (.list ys)) v w') .ret a2 c2.w:=by
    intro a2 c2 hd hl2 hg2 hE hH2 ⟨u,hu,hv⟩
    refine ⟨hd,u, ?_,u,rfl,c2,hl2,hg2,rfl,hE.evolve hl,hH2,hv⟩
    have e:results fn a2.tmps=(do let vs ← fn.results.mapM (rvOf a2.tmps);pure (if h:vs.size=1 then vs[0] else .tuple vs)):=rfl
    have hrs:fn.results.toList=[.tmp 4]:=by
      cases h:fn.results.toList with
      | nil=>rw [h] at hres;simp [resOk] at hres
      | cons x l =>
        rw [h] at hres
        cases x with
        | tmp t =>
          simp only [resOk,Bool.and_eq_true,beq_iff_eq] at hres
          cases l with
          | nil=>rw [← hres.1]
          | cons y l=>simp [resOk] at hres
        | cell a b=>simp [resOk] at hres
    rw [e,Array.mapM_eq_mapM_toList,hrs]
    simp only [List.mapM_cons,List.mapM_nil,rvOf,hu]
    rfl
  cases ex with
  | exit id=>cases hout
  | ret =>
    simp only [delOut] at hout
    split at hout
    rotate_left
    · cases hout
    rename_i k2 n2 hav
    split at hout
    rotate_left
    · cases hout
    rename_i s xs hob
    split at hout
    rotate_left
    · cases hout
    rename_i hc
    obtain ⟨rfl,rfl⟩:=hc
    simp only [Option.some.injEq,Prod.mk.injEq,AV.p.injEq,PV.list.injEq] at hout
    obtain ⟨rfl,hset⟩:=hout
    have hob1:c1.obj true k2=some (.pcells s xs):=by
      have:c1.g=g1:=hg1.g.symm
      simp [Cx.obj,this,hob]
    have h4:=hg1.F 4
    rw [hav] at h4
    obtain ⟨t1,t2,t3⟩:=freeze_rel hg1.H hob1 h4
    refine fin a1 (c1.set true k2 .dead none c1.w) hg1.D ?_ ?_ (hE1.trans t1.evo) t2 ⟨_,rfl,.p _ _ t3⟩
    · have:c1.l=[]:=hg1.l.symm
      simpa [Cx.set] using this
    · have:c1.g=g1:=hg1.g.symm
      simp [Cx.set,this,hset]
  | normal =>
    simp only [delOut] at hout
    split at hout
    rotate_left
    · cases hout
    rename_i k2 n2 i hav0 hav5
    split at hout
    rotate_left
    · cases hout
    rename_i s xs hob
    split at hout
    rotate_left
    · cases hout
    rename_i hc
    obtain ⟨rfl,rfl,hi0,hin⟩:=hc
    simp only [Option.some.injEq,Prod.mk.injEq,AV.p.injEq,PV.list.injEq] at hout
    obtain ⟨rfl,hset⟩:=hout
    have hg1g:c1.g=g1:=hg1.g.symm
    have hob1:c1.obj true k2=some (.pcells s xs):=by simp [Cx.obj,hg1g,hob]
    have h0:=hg1.F 0
    rw [hav0] at h0
    have h5:=hg1.F 5
    rw [hav5] at h5
    have h5:=relV_int h5
    obtain ⟨A,cap,hv0,hrow⟩:=row_now h0 hob1 rfl
    rcases hrow with ⟨_,hn0,_⟩ | ⟨b,arr,e,q1,rfl,q3,q4,q5,q6⟩
    · omega
    simp only [AObj.sz] at q6
    have hR1:RelRow c1 (c1.μ true k2) s (lift xs):=hg1.H.objs true k2 _ hob1
    rw [q1] at hR1
    obtain ⟨arr',e',hh,hrows⟩:=relRow_rows hR1
    rw [q5] at hh
    cases hh
    obtain ⟨m,rfl⟩:∃ m:Nat,i=m:=⟨i.toNat,by omega⟩
    have hmn:m<xs.length:=by omega
    simp only [Int.toNat_natCast] at *
    unfold delTail at htail
    split at htail
    rotate_left
    · cases htail
    rename_i i4 o4 i5 o5
    simp only [Bool.and_eq_true] at htail
    obtain ⟨ht4,ht5⟩:=htail
    split at ht4
    rotate_left
    · cases ht4
    rename_i x0 x1 x2 x3 ho4
    split at ht5
    rotate_left
    · cases ht5
    rename_i y0 y1 y2 y3 ho5
    simp only [Bool.and_eq_true] at ht4 ht5
    obtain ⟨⟨⟨hx0,hx1⟩,hx2⟩,hx3⟩:=ht4
    obtain ⟨⟨⟨hy0,hy1⟩,hy2⟩,hy3⟩:=ht5
    simp only [toExit,Exit.then]
    have hN:=hg1.N
    have E0:a1.eval (.tmp 0) = .slice (some ⟨b,0,none⟩) xs.length cap:=hv0
    have E5:a1.eval (.tmp 5) = .int .i64 m:=h5
    have hfz:∀ j,c1.w.frozen? ⟨b,j,none⟩=false:=fun j=>by simp [World.frozen?,q5]
    have hmul:(xs.length - m)*s+m*s=xs.length*s:=by rw [← Nat.add_mul];congr 1;omega
    have hcap:xs.length*s≤arr.size:=by rw [q6];exact Nat.mul_le_mul_right _ q3
    show (Code.region i4 o4 false).wp P _ a1 c1.w
    refine wp_region_list ?_
    rw [ho4]
    obtain ⟨gd,dd,rr⟩:=run_mv (P:=P) hx0 a1 c1.w
    refine wpList_step gd rr ?_
    rw [dd,E0]
    obtain ⟨gd,dd,rr⟩:=run_mv (P:=P) hx1 (a1.put (some 36) (.slice (some ⟨b,0,none⟩) xs.length cap)) c1.w
    refine wpList_step gd rr ?_
    rw [dd,putEval (by omega),if_neg (by decide),E5]
    obtain ⟨gd,dd,rr⟩:=run_cut hx2 ((a1.put (some 36) (.slice (some ⟨b,0,none⟩) xs.length cap)).put (some 37) (.int .i64 m)) c1.w (b:=b) (n:=xs.length) (cp:=cap) (m:=m) (by rw [putEval (by rw [putSize];omega),if_neg (by decide),putEval (by omega),if_pos rfl]) (by rw [putEval (by rw [putSize];omega),if_pos rfl]) hmn q3
    refine wpList_step gd rr ?_
    rw [dd]
    obtain ⟨gd,dd,zs,hzl,rr⟩:=run_clearOp hx3 (((a1.put (some 36) (.slice (some ⟨b,0,none⟩) xs.length cap)).put (some 37) (.int .i64 m)).put (some 38) (.slice (some ⟨b,m*s,none⟩) (xs.length - m) (cap - m))) c1.w (b:=b) (off:=m*s) (n:=xs.length - m) (cp:=cap - m) (by rw [putEval (by rw [putSize,putSize];omega),if_pos rfl]) (by omega) (fun j hj=>by
      rw [cell_of_row c1.w b _ arr _ (0,0) q5,Array.getElem?_eq_getElem (by omega)];rfl) hfz
    refine wpList_step gd rr ?_
    rw [dd]
    simp only [wpList,Exit.then]
    have hw1:∃ w1,w1=c1.w.setCells b (m*s) zs:=⟨_,rfl⟩
    obtain ⟨w1,hw1⟩:=hw1
    rw [← hw1]
    have hA:∃ a5:Act,a5=((((a1.put (some 36) (.slice (some ⟨b,0,none⟩) xs.length cap)).put (some 37) (.int .i64 m)).put (some 38) (.slice (some ⟨b,m*s,none⟩) (xs.length - m) (cap - m))).put none (.tuple #[])):=⟨_,rfl⟩
    obtain ⟨a5,hA⟩:=hA
    rw [← hA]
    have F0:a5.eval (.tmp 0) = .slice (some ⟨b,0,none⟩) xs.length cap:=by
      rw [hA]
      show (Act.put _ (some 38) _).eval _=_
      rw [putEval (by simp only [putSize];omega),if_neg (by decide),putEval (by simp only [putSize];omega),if_neg (by decide),putEval (by omega),if_neg (by decide),E0]
    have F5:a5.eval (.tmp 5) = .int .i64 m:=by
      rw [hA]
      show (Act.put _ (some 38) _).eval _=_
      rw [putEval (by simp only [putSize];omega),if_neg (by decide),putEval (by simp only [putSize];omega),if_neg (by decide),putEval (by omega),if_neg (by decide),E5]
    have FN:a5.tmps.size=42:=by rw [hA];simp only [putSize];omega
    have FD:a5.defers=[]:=by rw [hA];simp only [putDefers];exact hg1.D
    show (Code.region i5 o5 false).wp P _ a5 w1
    refine wp_region_list ?_
    rw [ho5]
    obtain ⟨gd,dd,rr⟩:=run_mv (P:=P) hy0 a5 w1
    refine wpList_step gd rr ?_
    rw [dd,F0]
    obtain ⟨gd,dd,rr⟩:=run_mv (P:=P) hy1 (a5.put (some 39) (.slice (some ⟨b,0,none⟩) xs.length cap)) w1
    refine wpList_step gd rr ?_
    rw [dd,putEval (by omega),if_neg (by decide),F5]
    obtain ⟨gd,dd,rr⟩:=run_top hy2 ((a5.put (some 39) (.slice (some ⟨b,0,none⟩) xs.length cap)).put (some 40) (.int .i64 m)) w1 (b:=b) (n:=xs.length) (cp:=cap) (m:=m) (by rw [putEval (by rw [putSize];omega),if_neg (by decide),putEval (by omega),if_pos rfl]) (by rw [putEval (by rw [putSize];omega),if_pos rfl]) hmn q3
    refine wpList_step gd rr ?_
    rw [dd]
    obtain ⟨gd,dd,rr⟩:=run_mv (P:=P) hy3 (((a5.put (some 39) (.slice (some ⟨b,0,none⟩) xs.length cap)).put (some 40) (.int .i64 m)).put (some 41) (.slice (some ⟨b,0,none⟩) m cap)) w1
    refine wpList_step gd rr ?_
    rw [dd,putEval (by simp only [putSize];omega),if_pos rfl]
    simp only [wpList,Exit.then]
    refine wp_ret ?_
    have hml:(xs.take m).length=m:=by rw [List.length_take];omega
    have hbw:b<c1.w.heap.size:=(Array.getElem?_eq_some_iff.1 q5).1
    obtain ⟨t1,t2,t3⟩:=kill_list hg1.H hob1 (w':=w1) (by rw [hw1,q1];exact Only.cells (.inl rfl) _ _ (Only.refl _ _)) (b:=b) (cap:=cap) (.inl q1) (by rw [hw1,heap_lt_setCells];exact hbw) (xs:=xs.take m) (by omega) q4 (by rw [lift_take];exact hrows.head m) (fun j v hj=>by
      have hj':j<m*s:=by
        have:=(List.getElem?_eq_some_iff.1 hj).1
        rw [List.length_take] at this
        omega
      rw [hw1,World.cell?_setCells_out b _ _ _ _ (fun _ _=>by show j<m*s∨_;omega),cell_of_row c1.w b _ arr _ (0,0) q5]
      rw [List.getElem?_take,if_pos hj'] at hj
      simpa using hj)
    rw [hml] at t3
    refine fin _ (c1.set true k2 .dead none w1) (by simp only [putDefers];exact FD) ?_ ?_ (hE1.trans t1.evo) t2 ⟨_,rfl, ?_⟩
    · have:c1.l=[]:=hg1.l.symm
      simpa [Cx.set] using this
    · simp [Cx.set,hg1g,hset]
    · have e4:(Act.put (((a5.put (some 39) (.slice (some ⟨b,0,none⟩) xs.length cap)).put (some 40) (.int .i64 m)).put (some 41) (.slice (some ⟨b,0,none⟩) m cap)) (some 4) (.slice (some ⟨b,0,none⟩) m cap)).eval (.tmp 4) = .slice (some ⟨b,0,none⟩) m cap:=by rw [putEval (by simp only [putSize];omega),if_pos rfl]
      have e5:∀ a:Act,a.eval (.tmp 4)=a.tmps.getD 4 undef:=fun _=>rfl
      rw [← e5,e4]
      exact t3
end
end Go.TA


end
section
/- The table of functions, and that it is sound. -/
namespace Go.TA.Try
theorem mixed:Go.Proofs.Try.prog.follows .mixedOrders=true:=by kernel_rfl
def tab:List (Nat × LFn):=[(3,.code F3),
 (5,.code F5),
 (6,.code F6),
 (7,.code F7),
 (8,.code F8),
 (9,.code F9),
 (10,.code F10),
 (12,.code F12),
 (13,.code F13),
 (14,.code F14),
 (15,.code F15),
 (19,.code F19),
 (20,.code F20),
 (21,.code F21),
 (22,.code F22),
 (23,.code F23),
 (24,.code F24),
 (25,.code F25),
 (26,.code F26),
 (27,.code F27),
 (28,.code F28),
 (29,.code F29),
 (32,.code F32),
 (33,.code F33),
 (34,.code F34),
 (35,.prim (pCloneT 2)),
 (36,.code F36),
 (37,.code F37),
 (38,.code F38),
 (39,.code F39),
 (40,.code F40),
 (41,.code F41),
 (44,.code F44),
 (45,.code F45),
 (46,.code F46),
 (47,.code F47),
 (56,.code F56),
 (57,.code F57),
 (61,.code F61),
 (62,.prim (pInsert 2)),
 (63,.prim (pDelete 83 delLoop2 2)),
 (64,.code F64),
 (68,.code F68),
 (69,.prim (pIndexByte)),
 (83,.code F83)]
def T (k:Nat):Option LFn:=lk tab k
theorem T3:T 3=some (.code F3):=rfl
theorem T5:T 5=some (.code F5):=rfl
theorem T7:T 7=some (.code F7):=rfl
theorem T8:T 8=some (.code F8):=rfl
theorem T9:T 9=some (.code F9):=rfl
theorem T10:T 10=some (.code F10):=rfl
theorem T12:T 12=some (.code F12):=rfl
theorem T13:T 13=some (.code F13):=rfl
theorem T14:T 14=some (.code F14):=rfl
theorem T15:T 15=some (.code F15):=rfl
theorem T20:T 20=some (.code F20):=rfl
theorem T21:T 21=some (.code F21):=rfl
theorem T22:T 22=some (.code F22):=rfl
theorem T23:T 23=some (.code F23):=rfl
theorem T24:T 24=some (.code F24):=rfl
theorem T25:T 25=some (.code F25):=rfl
theorem T26:T 26=some (.code F26):=rfl
theorem T27:T 27=some (.code F27):=rfl
theorem T28:T 28=some (.code F28):=rfl
theorem T29:T 29=some (.code F29):=rfl
theorem T32:T 32=some (.code F32):=rfl
theorem T33:T 33=some (.code F33):=rfl
theorem T34:T 34=some (.code F34):=rfl
theorem T35:T 35=some (.prim (pCloneT 2)):=rfl
theorem T36:T 36=some (.code F36):=rfl
theorem T37:T 37=some (.code F37):=rfl
theorem T38:T 38=some (.code F38):=rfl
theorem T39:T 39=some (.code F39):=rfl
theorem T40:T 40=some (.code F40):=rfl
theorem T41:T 41=some (.code F41):=rfl
theorem T45:T 45=some (.code F45):=rfl
theorem T46:T 46=some (.code F46):=rfl
theorem T47:T 47=some (.code F47):=rfl
theorem T56:T 56=some (.code F56):=rfl
theorem T57:T 57=some (.code F57):=rfl
theorem T61:T 61=some (.code F61):=rfl
theorem T62:T 62=some (.prim (pInsert 2)):=rfl
theorem T63:T 63=some (.prim (pDelete 83 delLoop2 2)):=rfl
theorem T64:T 64=some (.code F64):=rfl
theorem T68:T 68=some (.code F68):=rfl
theorem T69:T 69=some (.prim (pIndexByte)):=rfl
theorem T83:T 83=some (.code F83):=rfl
theorem prim35 {Γ : Ground}:PrimOk Go.Proofs.Try.prog Γ 35 (pCloneT 2):=pCloneT_ok (pClone_ok mixed (sz:=2) (bytes:=32) (by decide +kernel))
theorem prim62 {Γ : Ground}:PrimOk Go.Proofs.Try.prog Γ 62 (pInsert 2):=pInsert_ok (by decide +kernel) (by decide) ins_specA
theorem prim63 {Γ : Ground}:PrimOk Go.Proofs.Try.prog Γ 63 (pDelete 83 delLoop2 2):=pDelete_ok mixed (by decide +kernel)
theorem prim69 {Γ : Ground}:PrimOk Go.Proofs.Try.prog Γ 69 (pIndexByte):=pIndexByte_ok (by decide +kernel) Go.Proofs.Try.strings_IndexByte
theorem tab_ok {Γ : Ground}:∀ e ∈ tab,RowOk Go.Proofs.Try.prog Γ e:=by
 unfold tab
 refine List.forall_mem_cons.2 ⟨fnSound_of ok3, ?_⟩
 refine List.forall_mem_cons.2 ⟨fnSound_of ok5, ?_⟩
 refine List.forall_mem_cons.2 ⟨fnSound_of ok6, ?_⟩
 refine List.forall_mem_cons.2 ⟨fnSound_of ok7, ?_⟩
 refine List.forall_mem_cons.2 ⟨fnSound_of ok8, ?_⟩
 refine List.forall_mem_cons.2 ⟨fnSound_of ok9, ?_⟩
 refine List.forall_mem_cons.2 ⟨fnSound_of ok10, ?_⟩
 refine List.forall_mem_cons.2 ⟨fnSound_of ok12, ?_⟩
 refine List.forall_mem_cons.2 ⟨fnSound_of ok13, ?_⟩
 refine List.forall_mem_cons.2 ⟨fnSound_of ok14, ?_⟩
 refine List.forall_mem_cons.2 ⟨fnSound_of ok15, ?_⟩
 refine List.forall_mem_cons.2 ⟨fnSound_of ok19, ?_⟩
 refine List.forall_mem_cons.2 ⟨fnSound_of ok20, ?_⟩
 refine List.forall_mem_cons.2 ⟨fnSound_of ok21, ?_⟩
 refine List.forall_mem_cons.2 ⟨fnSound_of ok22, ?_⟩
 refine List.forall_mem_cons.2 ⟨fnSound_of ok23, ?_⟩
 refine List.forall_mem_cons.2 ⟨fnSound_of ok24, ?_⟩
 refine List.forall_mem_cons.2 ⟨fnSound_of ok25, ?_⟩
 refine List.forall_mem_cons.2 ⟨fnSound_of ok26, ?_⟩
 refine List.forall_mem_cons.2 ⟨fnSound_of ok27, ?_⟩
 refine List.forall_mem_cons.2 ⟨fnSound_of ok28, ?_⟩
 refine List.forall_mem_cons.2 ⟨fnSound_of ok29, ?_⟩
 refine List.forall_mem_cons.2 ⟨fnSound_of ok32, ?_⟩
 refine List.forall_mem_cons.2 ⟨fnSound_of ok33, ?_⟩
 refine List.forall_mem_cons.2 ⟨fnSound_of ok34, ?_⟩
 refine List.forall_mem_cons.2 ⟨prim35, ?_⟩
 refine List.forall_mem_cons.2 ⟨fnSound_of ok36, ?_⟩
 refine List.forall_mem_cons.2 ⟨fnSound_of ok37, ?_⟩
 refine List.forall_mem_cons.2 ⟨fnSound_of ok38, ?_⟩
 refine List.forall_mem_cons.2 ⟨fnSound_of ok39, ?_⟩
 refine List.forall_mem_cons.2 ⟨fnSound_of ok40, ?_⟩
 refine List.forall_mem_cons.2 ⟨fnSound_of ok41, ?_⟩
 refine List.forall_mem_cons.2 ⟨fnSound_of ok44, ?_⟩
 refine List.forall_mem_cons.2 ⟨fnSound_of ok45, ?_⟩
 refine List.forall_mem_cons.2 ⟨fnSound_of ok46, ?_⟩
 refine List.forall_mem_cons.2 ⟨fnSound_of ok47, ?_⟩
 refine List.forall_mem_cons.2 ⟨fnSound_of ok56, ?_⟩
 refine List.forall_mem_cons.2 ⟨fnSound_of ok57, ?_⟩
 refine List.forall_mem_cons.2 ⟨fnSound_of ok61, ?_⟩
 refine List.forall_mem_cons.2 ⟨prim62, ?_⟩
 refine List.forall_mem_cons.2 ⟨prim63, ?_⟩
 refine List.forall_mem_cons.2 ⟨fnSound_of ok64, ?_⟩
 refine List.forall_mem_cons.2 ⟨fnSound_of ok68, ?_⟩
 refine List.forall_mem_cons.2 ⟨prim69, ?_⟩
 refine List.forall_mem_cons.2 ⟨fnSound_of ok83, ?_⟩
 simp
theorem T_ok:TOk Go.Proofs.Try.prog Γ0 T:=tOk_of tab_ok
end Go.TA.Try


end
section
/- The links of a document's items, walked. -/
namespace Go.TA.Try
section
variable {L:List Nat} {st:Nat→MNode} {nx:Int} {it nd:Nat→Nat} {I:Nat→LK} {pd pm:Nat} {g:List AObj}
theorem up_run (hD:DocAt L st nx it nd I pd pm g) {c:Nat} (hc:c ∈ L) (n:Nat):acall T (n+1) 25 [IP it c] g=some (iAV it (I c).u,g):=by
 obtain ⟨o,ho,hr⟩:=hD.items c hc
 obtain ⟨r0,r1,r2,r3,r4,r5⟩:=item_rd hr
 rw [acall_code T25,run_code rfl rfl]
 simp -implicitDefEqProofs (disch:=omega) only [Rx,simprocAttr,F25,ho,r1,iAVe]
theorem first_run (hD:DocAt L st nx it nd I pd pm g) {c:Nat} (hc:c ∈ L) (n:Nat):acall T (n+1) 26 [IP it c] g=some (iAV it (I c).f,g):=by
 obtain ⟨o,ho,hr⟩:=hD.items c hc
 obtain ⟨r0,r1,r2,r3,r4,r5⟩:=item_rd hr
 rw [acall_code T26,run_code rfl rfl]
 simp -implicitDefEqProofs (disch:=omega) only [Rx,simprocAttr,F26,ho,r2,iAVe]
theorem last_run (hD:DocAt L st nx it nd I pd pm g) {c:Nat} (hc:c ∈ L) (n:Nat):acall T (n+1) 27 [IP it c] g=some (iAV it (I c).l,g):=by
 obtain ⟨o,ho,hr⟩:=hD.items c hc
 obtain ⟨r0,r1,r2,r3,r4,r5⟩:=item_rd hr
 rw [acall_code T27,run_code rfl rfl]
 simp -implicitDefEqProofs (disch:=omega) only [Rx,simprocAttr,F27,ho,r3,iAVe]
theorem prev_run (hD:DocAt L st nx it nd I pd pm g) {c:Nat} (hc:c ∈ L) (n:Nat):acall T (n+1) 28 [IP it c] g=some (iAV it (I c).p,g):=by
 obtain ⟨o,ho,hr⟩:=hD.items c hc
 obtain ⟨r0,r1,r2,r3,r4,r5⟩:=item_rd hr
 rw [acall_code T28,run_code rfl rfl]
 simp -implicitDefEqProofs (disch:=omega) only [Rx,simprocAttr,F28,ho,r4,iAVe]
theorem next_run (hD:DocAt L st nx it nd I pd pm g) {c:Nat} (hc:c ∈ L) (n:Nat):acall T (n+1) 29 [IP it c] g=some (iAV it (I c).n,g):=by
 obtain ⟨o,ho,hr⟩:=hD.items c hc
 obtain ⟨r0,r1,r2,r3,r4,r5⟩:=item_rd hr
 rw [acall_code T29,run_code rfl rfl]
 simp -implicitDefEqProofs (disch:=omega) only [Rx,simprocAttr,F29,ho,r5,iAVe]
theorem mark_run (hD:DocAt L st nx it nd I pd pm g) {c:Nat} (hc:c ∈ L) (n:Nat):acall T (n+1) 41 [IP it c] g=some (.p (.int .i64 c),g):=by
 obtain ⟨o,ho,hr⟩:=hD.items c hc
 obtain ⟨r0,r1,r2,r3,r4,r5⟩:=item_rd hr
 rw [acall_code T41,run_code rfl rfl]
 simp -implicitDefEqProofs (disch:=omega) only [Rx,simprocAttr,F41,ho,r0]
theorem make_run (id:Int) (g:List AObj) (n:Nat):acall T (n+1) 20 [.p (.int .i64 id)] g=some (.ptr true g.length 6 1 0 0,g++[.pcells 6 [[.int .i64 id,.nilp,.nilp,.nilp,.nilp,.nilp]]]):=by
 rw [acall_code T20,run_code rfl rfl]
 simp -implicitDefEqProofs (disch:=omega) only [Rx,simprocAttr,F20]
end
section
variable {R:Nat} {S:MS} {nx:Int} {it nd:Nat→Nat} {I:Nat→LK} {pd pm:Nat} {g:List AObj}
theorem under_loop (hS : S.Ok R) (hI : LinkOk S I) (hD : DocAt (liveL S) S.st nx it nd I pd pm g) {t : Nat} (ht : t ∈ liveL S) (n : Nat) (N : Nat) (hN : R + 3 < N) (h : Nat) (hh : h ∈ liveL S) :
    aexec (acall T n) N (.loop B57x0) ⟨[(0,IP it h),(1,IP it t)],[],g⟩=some (if underB S (h:Int) (t:Int)=true then (.ret,⟨[(4,.p (.bool true))],[],g⟩) else (.exit 0,⟨[],[],g⟩)):=by
  obtain ⟨r,hr1,hr2⟩:=hS.rank
  have hhN:=(mem_liveL.1 hh).1
  have key:=loop_inv (C:=acall T n) (N:=N) (B:=B57x0) (σ := Option Nat) (S:=fun y=>⟨[(0,iAV it y),(1,IP it t)],[],g⟩)
    (I:=fun y=>(∀ c,y=some c→c ∈ liveL S)∧(Below S (t:Int) (h:Int)↔∃ c:Nat,y=some c∧Below S (t:Int) (c:Int))) (μ := fun y=>match y with | none=>0 | some c=>r c+1)
    (Q:=fun z=>z=(if underB S (h:Int) (t:Int)=true then (.ret,⟨[(4,.p (.bool true))],[],g⟩) else (.exit 0,⟨[],[],g⟩))) ?_ (some h) ⟨fun c e=>by cases e;exact hh,⟨fun b=>⟨h,rfl,b⟩,fun ⟨c,e,b⟩=>by cases e;exact b⟩⟩ (by
      have:=hr1 h hhN
      simp only
      omega)
  · obtain ⟨z,hz,rfl⟩:=key
    exact hz
  rintro y ⟨hy,hb⟩
  cases y with
  | none =>
    right
    have hf:¬ Below S (t:Int) (h:Int):=fun z=>by obtain ⟨c,e,_⟩:=hb.1 z;cases e
    refine ⟨_, ?_, ?_,rfl⟩
    · rw [if_neg (fun z=>hf (underB_iff.1 z))]
      simp -implicitDefEqProofs (disch:=omega) only [Rx,simprocAttr,B57x0,iAVs]
    · rw [if_neg (fun z=>hf (underB_iff.1 z))];simp
  | some c =>
    have hc:=hy c rfl
    have hcN:=(mem_liveL.1 hc).1
    have oc:=hD.one hc [] []
    simp only [St.one,St.obj,if_true] at oc
    have hb':Below S (t:Int) (h:Int)↔Below S (t:Int) (c:Int):=⟨fun z=>by obtain ⟨d,e,b⟩:=hb.1 z;cases e;exact b,fun z=>hb.2 ⟨c,rfl,z⟩⟩
    by_cases e:c=t
    · subst e
      right
      have hf:Below S (c:Int) (h:Int):=hb'.2 .here
      refine ⟨_, ?_, ?_,rfl⟩
      · rw [if_pos (underB_iff.2 hf)]
        simp -implicitDefEqProofs (disch:=omega) only [Rx,simprocAttr,B57x0,iAVs,oc]
      · rw [if_pos (underB_iff.2 hf)];simp
    · left
      have hne:(it c==it t)=false:=by
        simp only [beq_eq_false_iff_ne,ne_eq]
        exact fun e2=>e (hD.itInj c hc t ht e2)
      obtain ⟨o,ho,hr⟩:=hD.items c hc
      obtain ⟨r0,r1,r2,r3,r4,r5⟩:=item_rd hr
      have ot:=hD.one ht [] []
      simp only [St.one,St.obj,if_true] at ot
      rw [ho] at oc
      refine ⟨(I c).u, ?_,⟨fun d hd => ?_, ?_⟩, ?_⟩
      · simp -implicitDefEqProofs (disch:=omega) only [Rx,simprocAttr,B57x0,iAVs,iAVe,oc,ot,hne,ho,r1]
      · rw [hI.up c hc] at hd
        rcases hS.up c hcN with h1 | ⟨p,h1,h2,h3,_⟩
        · rw [upN_none hS hcN (by omega)] at hd;cases hd
        · rw [upN_some hS hcN h2] at hd
          cases hd
          exact mem_liveL.2 ⟨h1,h3⟩
      · rw [hb',below_iff (by omega) (by omega),hI.up c hc]
        rcases hS.up c hcN with h1 | ⟨p,h1,h2,h3,_⟩
        · rw [upN_none hS hcN (by omega)]
          have:upOf S (c:Int) = -1:=h1
          rw [this]
          exact ⟨fun z=>absurd z (below_neg (by omega)),fun ⟨d,e,_⟩=>by cases e⟩
        · rw [upN_some hS hcN h2]
          have:upOf S (c:Int)=(p:Int):=h2
          rw [this]
          exact ⟨fun z=>⟨p,rfl,z⟩,fun ⟨d,e,z⟩=>by cases e;exact z⟩
      · rw [hI.up c hc]
        rcases hS.up c hcN with h1 | ⟨p,h1,h2,h3,_⟩
        · rw [upN_none hS hcN (by omega)]
          simp only;omega
        · rw [upN_some hS hcN h2]
          have:=hr2 c p hcN h2
          simp only;omega
theorem under_run (hS:S.Ok R) (hI:LinkOk S I) (hD:DocAt (liveL S) S.st nx it nd I pd pm g) {h t:Nat} (hh:h ∈ liveL S) (ht:t ∈ liveL S) {n:Nat} (hn:R+3<n):acall T (n+1) 57 [IP it h,IP it t] g=some (.p (.bool (underB S h t)),g):=by
 rw [acall_code T57,run_code rfl rfl]
 have hl:=under_loop hS hI hD ht n n hn h hh
 by_cases hb:Below S (t:Int) (h:Int)
 ·have e:underB S h t=true:=by simp [underB,hb]
  rw [if_pos e] at hl
  simp -implicitDefEqProofs (disch:=omega) only [Rx,simprocAttr,F57,hl,e]
 ·have e:underB S h t=false:=by simp [underB,hb]
  rw [if_neg (by rw [e];simp)] at hl
  simp -implicitDefEqProofs (disch:=omega) only [Rx,simprocAttr,F57,hl,e]
end
end Go.TA.Try


end
section
/- Putting and taking out, store by store. Plain. -/
namespace Go.TA
def placeC (I : Nat → LK) (x y : Nat) (b : Option Nat) : Nat → LK :=
  let I1:=upd I y { I y with u:=some x }
  let I2:=upd I1 y { I1 y with n:=b }
  let I3:=upd I2 y { I2 y with p:=aheadI I x b }
  let I4:=match b with
    | none=>upd I3 x { I3 x with l:=some y }
    | some k=>upd I3 k { I3 k with p:=some y }
  match aheadI I x b with
    | none=>upd I4 x { I4 x with f:=some y }
    | some a=>upd I4 a { I4 a with n:=some y }
theorem placeC_eq {I : Nat → LK} {x y : Nat} {b : Option Nat} (hxy : x ≠ y) (hby : b ≠ some y) (hay : aheadI I x b ≠ some y) : placeC I x y b = placeI I x y b := by
  have hyx:y≠x:=fun e=>hxy e.symm
  funext k
  unfold placeC placeI
  cases h:aheadI I x b with
  | none =>
    cases b with
    | none =>
      by_cases e1:k=y
      · subst e1;simp [upd,hyx]
      · by_cases e2:k=x
        · subst e2;simp [upd,e1]
        · simp [upd,e1,e2]
    | some c =>
      have hcy:c≠y:=fun e=>hby (by rw [e])
      by_cases e1:k=y
      · subst e1
        have:k≠c:=fun e=>hcy e.symm
        simp [upd,hyx,this]
      · by_cases e2:k=x
        · subst e2
          by_cases e3:k=c
          · subst e3;simp [upd,e1]
          · have:c≠k:=fun e=>e3 e.symm
            simp [upd,e1,e3,this]
        · by_cases e3:k=c
          · subst e3;simp [upd,e1,e2]
          · have:c≠k:=fun e=>e3 e.symm
            simp [upd,e1,e2,e3,this]
  | some a =>
    have hay':a≠y:=fun e=>hay (by rw [h,e])
    cases b with
    | none =>
      by_cases e1:k=y
      · subst e1
        have:k≠a:=fun e=>hay' e.symm
        simp [upd,hyx,this]
      · by_cases e2:k=x
        · subst e2
          by_cases e4:k=a
          · subst e4;simp [upd,e1]
          · have:a≠k:=fun e=>e4 e.symm
            simp [upd,e1,e4,this]
        · by_cases e4:k=a
          · subst e4;simp [upd,e1,e2]
          · have:a≠k:=fun e=>e4 e.symm
            simp [upd,e1,e2,e4,this]
    | some c =>
      have hcy:c≠y:=fun e=>hby (by rw [e])
      by_cases e1:k=y
      · subst e1
        have:k≠c:=fun e=>hcy e.symm
        have h2:k≠a:=fun e=>hay' e.symm
        simp [upd,hyx,this,h2]
      · by_cases e3:k=c
        · subst e3
          by_cases e4:k=a
          · subst e4;simp [upd,e1]
          · have:a≠k:=fun e=>e4 e.symm
            simp [upd,e1,e4,this]
        · have q3:c≠k:=fun e=>e3 e.symm
          by_cases e4:k=a
          · subst e4;simp [upd,e1,e3,q3]
          · have:a≠k:=fun e=>e4 e.symm
            simp [upd,e1,e3,e4,this,q3]
def dropC (I : Nat → LK) (x u : Nat) : Nat → LK :=
  let I1:=match (I x).p with
    | none=>upd I u { I u with f:=(I x).n }
    | some a=>upd I a { I a with n:=(I x).n }
  let I2:=match (I x).n with
    | none=>upd I1 u { I1 u with l:=(I x).p }
    | some c=>upd I1 c { I1 c with p:=(I x).p }
  let I3:=upd I2 x { I2 x with u:=none }
  let I4:=upd I3 x { I3 x with p:=none }
  upd I4 x { I4 x with n:=none }
theorem dropC_eq {I : Nat → LK} {x u : Nat} (hu : (I x).u = some u) (hux : u ≠ x) (hp : (I x).p ≠ some x) (hn : (I x).n ≠ some x) : dropC I x u = dropI I x := by
  have hxu:x≠u:=fun e=>hux e.symm
  funext k
  unfold dropC dropI
  rw [hu]
  cases h1:(I x).p with
  | none =>
    cases h2:(I x).n with
    | none =>
      by_cases e1:k=x
      · subst e1;simp [upd,hxu]
      · by_cases e2:k=u
        · subst e2;simp [upd,e1]
        · have:u≠k:=fun e=>e2 e.symm
          simp [upd,e1,e2,this]
    | some c =>
      have hcx:c≠x:=fun e=>hn (by rw [h2,e])
      by_cases e1:k=x
      · subst e1
        have:k≠c:=fun e=>hcx e.symm
        simp [upd,hxu,this]
      · by_cases e2:k=u
        · subst e2
          by_cases e3:k=c
          · subst e3;simp [upd,e1]
          · have:c≠k:=fun e=>e3 e.symm
            simp [upd,e1,e3,this]
        · have q2:u≠k:=fun e=>e2 e.symm
          by_cases e3:k=c
          · subst e3;simp [upd,e1,e2,q2]
          · have:c≠k:=fun e=>e3 e.symm
            simp [upd,e1,e2,e3,this,q2]
  | some a =>
    have hax:a≠x:=fun e=>hp (by rw [h1,e])
    cases h2:(I x).n with
    | none =>
      by_cases e1:k=x
      · subst e1
        have:k≠a:=fun e=>hax e.symm
        simp [upd,hxu,this]
      · by_cases e2:k=u
        · subst e2
          by_cases e4:k=a
          · subst e4;simp [upd,e1]
          · have:a≠k:=fun e=>e4 e.symm
            simp [upd,e1,e4,this]
        · have q2:u≠k:=fun e=>e2 e.symm
          by_cases e4:k=a
          · subst e4;simp [upd,e1,e2,q2]
          · have:a≠k:=fun e=>e4 e.symm
            simp [upd,e1,e2,e4,this,q2]
    | some c =>
      have hcx:c≠x:=fun e=>hn (by rw [h2,e])
      by_cases e1:k=x
      · subst e1
        have:k≠c:=fun e=>hcx e.symm
        have h4:k≠a:=fun e=>hax e.symm
        simp [upd,hxu,this,h4]
      · by_cases e3:k=c
        · subst e3
          by_cases e4:k=a
          · subst e4;simp [upd,e1]
          · have:a≠k:=fun e=>e4 e.symm
            simp [upd,e1,e4,this]
        · have q3:c≠k:=fun e=>e3 e.symm
          by_cases e4:k=a
          · subst e4;simp [upd,e1,e3,q3]
          · have:a≠k:=fun e=>e4 e.symm
            simp [upd,e1,e3,e4,this,q3]
theorem item_at {L:List Nat} {st:Nat→MNode} {nx:Int} {it nd:Nat→Nat} {I:Nat→LK} {pd pm:Nat} {g:List AObj} (hD:DocAt L st nx it nd I pd pm g) {c:Nat} (hc:c ∈ L) (x:LK) (hx:I c=x):∃ o,g[it c]? = some o ∧
  o.rd 1 1 0 0 6 false=some (.p (.int .i64 c))∧o.rd 1 1 0 1 6 false=some (iAV it x.u)∧o.rd 1 1 0 2 6 false=some (iAV it x.f)∧o.rd 1 1 0 3 6 false=some (iAV it x.l)∧o.rd 1 1 0 4 6 false=some (iAV it x.p)∧o.rd 1 1 0 5 6 false=some (iAV it x.n):=by
 subst hx
 obtain ⟨o,ho,hr⟩:=hD.items c hc
 exact ⟨o,ho,item_rd hr⟩
end Go.TA


end
