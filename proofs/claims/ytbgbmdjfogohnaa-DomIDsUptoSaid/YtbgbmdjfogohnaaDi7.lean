/- Part 7 of 10 of a proof; joined from RMem, AttrsDef, DocDef, LinkL, DocMem, DocAt, DidsLow0. Functions of the program, lowered: each is held against the program's own text by the kernel. -/
import Derived.Test.YtbgbmdjfogohnaaDi6
import Derived.Test.YtbgbmdjfogohnaaDi1
import Derived.Test.YtbgbmdjfogohnaaProg
set_option linter.unusedSimpArgs false
set_option linter.unusedVariables false
set_option linter.defProp false
set_option maxRecDepth 100000
set_option maxHeartbeats 8000000
section
/- The document's answer in memory: its living nodes in a row. Plain. -/
namespace Go.TA
def RowRep (sz:Nat) (xs:List (List AV)) (o:AObj):Prop:=o = .cells sz xs∨∃ ps:List (List PV),o = .pcells sz ps∧xs=ps.map (fun c=>c.map AV.p)
theorem pures_some {c:List AV} {ps:List PV} (h:pures c=some ps):c=ps.map AV.p:=by
  induction c generalizing ps with
  | nil=>simp [pures] at h;subst h;rfl
  | cons a c ih =>
    cases a <;> simp [pures] at h
    obtain ⟨qs,h1,rfl⟩:=h
    rw [ih h1];rfl
theorem map_getD (ps:List (List PV)) (i:Nat):(ps.map (fun c=>c.map AV.p)).getD i []=(ps.getD i []).map AV.p:=by
 simp only [List.getD_eq_getElem?_getD,List.getElem?_map]
 cases ps[i]? <;> rfl
theorem map_getD1 {c:List PV} {j:Nat} (hj:j<c.length):(c.map AV.p).getD j .bot = .p (c.getD j .nilp):=by
 simp only [List.getD_eq_getElem?_getD,List.getElem?_map,List.getElem?_eq_getElem hj];rfl
theorem over_one {α : Type} (v : α) (l:List α) {j:Nat} (hj:j<l.length):over j [v] l=l.set j v:=by
 unfold over
 split
 ·rename_i h
  obtain ⟨rfl,h2⟩:=h
  match l,h2 with
  | [a],_=>rfl
 ·rw [List.set_eq_take_append_cons_drop,if_pos hj];simp
section
variable {sz:Nat} {xs:List (List AV)} {o:AObj} (h:RowRep sz xs o)
include h
theorem RowRep.rd1 {n:Nat} (hn:xs.length=n) {i j:Nat} {c:List AV} (hi:i<n) (hc:xs.getD i []=c) (hl:c.length=sz) (hj:j+1≤sz):o.rd 1 n i j sz false=some (c.getD j .bot):=by
 rcases h with rfl | ⟨ps,rfl,rfl⟩
 ·rw [AObj.rd,if_pos ⟨rfl,hn,hi,hj⟩,hc];simp
 ·rw [List.length_map] at hn
  rw [map_getD] at hc
  rw [AObj.rd,if_pos ⟨rfl,hn,hi,hj⟩]
  subst hc
  rw [List.length_map] at hl
  rw [map_getD1 (by omega)]
  simp
theorem RowRep.wr1 {n : Nat} (hn : xs.length = n) {i j : Nat} {c : List AV} (hi : i < n) (hc : xs.getD i [] = c) (hl : c.length = sz) (hj : j + 1 ≤ sz) (v : AV) : ∃ o', o.wr n i j sz [v] = some o' ∧ RowRep sz (xs.set i (c.set j v)) o' := by
  rcases h with rfl | ⟨ps,rfl,rfl⟩
  · refine ⟨_,by rw [AObj.wr,if_pos ⟨rfl,hn,hi,hj⟩],.inl ?_⟩
    rw [hc,over_one v c (by omega)]
  · rw [List.length_map] at hn
    rw [map_getD] at hc
    have hpl:(ps.getD i []).length=sz:=by rw [← hl, ← hc,List.length_map]
    rw [AObj.wr,if_pos ⟨rfl,hn,hi,hj⟩]
    cases hp:pures [v] with
    | none =>
      refine ⟨_,rfl,.inl ?_⟩
      rw [over_one v _ (by rw [List.length_map];omega),hc]
    | some qs =>
      have:=pures_some hp
      match qs,this with
      | [w], e =>
        simp only [List.map_cons,List.map_nil,List.cons.injEq,and_true] at e
        subst e
        refine ⟨_,rfl,.inr ⟨_,rfl, ?_⟩⟩
        rw [over_one w _ (by omega),List.map_set,List.map_set,hc]
end
theorem RowRep.nil (sz:Nat):RowRep sz [] (.pcells sz []):=.inr ⟨[],rfl,rfl⟩
def liveL (S:MS):List Nat:=(List.range S.N).filter fun h=>(S.st h).live
theorem mem_liveL {S:MS} {h:Nat}:h ∈ liveL S↔h<S.N∧(S.st h).live=true:=by simp [liveL]
theorem liveL_nodup (S:MS):(liveL S).Nodup:=List.nodup_range.filter _
theorem live_liveL {S:MS} {h:Int} (hl:liveB S h=true):∃ c:Nat,h=(c:Int)∧c ∈ liveL S:=by
 obtain ⟨c,h1,h2,h3⟩:=live_nat hl
 exact ⟨c,h1,mem_liveL.2 ⟨h2,h3⟩⟩
theorem liveB_iff {S : MS} {c : Nat} : liveB S (c : Int) = true ↔ c ∈ liveL S := by
  rw [mem_liveL]
  exact ⟨fun h => by obtain ⟨d, h1, h2, h3⟩ := live_nat h; have : d = c := by omega
                     subst this;exact ⟨h2,h3⟩,fun h=>live_mk h.1 h.2⟩
def posL (L:List Nat) (id:Int):Int:=if L.findIdx (fun h:Nat=>(h:Int)==id)<L.length then (L.findIdx (fun h:Nat=>(h:Int)==id):Int) else -1
def nAV (h:Nat) (s:MNode) (k:AV):List AV:=[.p (.int .i64 h),.p (.int .i64 s.up),k,.p (.str s.tag),.p (.str s.key),.p (.str s.text),.p (.list (s.attrs.map Attr.pv))]
def rowsD (L:List Nat) (st:Nat→MNode) (av:Nat→AV):List (List AV):=L.map fun h=>nAV h (st h) (av h)
section
variable {L:List Nat} {st:Nat→MNode} {av:Nat→AV}
end
inductive KG (g:List AObj):AV→List Int→Prop
 | none:KG g .nils []
 | own {r:Nat} {ks:List Int}:g[r]? = some (.pcells 1 (intsPV ks))→KG g (.own true r ks.length) ks
 | list {ks:List Int}:KG g (.p (.list (intsPV ks))) ks
theorem KG.keep {g g':List AObj} {a:AV} {ks:List Int} (h:KG g a ks) (hg:∀ r,refOf a=some r→g'[r]? = g[r]?):KG g' a ks:=by
 cases h with
 | none=>exact .none
 | own h=>exact .own (by rw [hg _ rfl];exact h)
 | list=>exact .list
theorem KG.ref_lt {g:List AObj} {a:AV} {ks:List Int} (h:KG g a ks) {r:Nat} (hr:refOf a=some r):r<g.length:=by
  cases h with
  | none=>cases hr
  | own h =>
    simp only [refOf,Option.some.injEq] at hr
    subst hr
    exact (List.getElem?_eq_some_iff.1 h).1
  | list=>cases hr
theorem KG.noLocal {g:List AObj} {a:AV} {ks:List Int} (h:KG g a ks):noLocal a=true:=by
 cases h <;> simp [Go.TA.noLocal]
abbrev DP (p:Nat):AV:=.ptr true p 2 1 0 0
structure DC (L:List Nat) (st:Nat→MNode) (nx:Int) (av:Nat→AV) (p q:Nat) (g:List AObj):Prop where
 obj:g[p]? = some (.cells 2 [[.own true q L.length,.p (.int .i64 nx)]])
 row:∃ o,g[q]? = some o∧RowRep 7 (rowsD L st av) o
 pq:p≠q
 nodup:L.Nodup
structure DM (L:List Nat) (st:Nat→MNode) (kd:Nat→List Int) (nx:Int) (av:Nat→AV) (p q:Nat) (g:List AObj):Prop where
 core:DC L st nx av p q g
 kids:∀ h,h ∈ L→KG g (av h) (kd h)
 away:∀ h,h ∈ L→refOf (av h)≠some p∧refOf (av h)≠some q
 disj:∀ h h',h ∈ L→h' ∈ L→h≠h'→refOf (av h)=none∨refOf (av h)≠refOf (av h')
structure DFr (L:List Nat) (av:Nat→AV) (p q:Nat) (g:List AObj) (L':List Nat) (av':Nat→AV) (q':Nat) (g':List AObj):Prop where
 len:g.length≤g'.length
 keep:∀ j,j<g.length→j≠p→j≠q→(∀ h,h ∈ L→refOf (av h)≠some j)→g'[j]? = g[j]?
 row:q'=q∨g.length≤q'
 refs:∀ h,h ∈ L'→∀ j,refOf (av' h)=some j→j<g.length→∃ h0,h0 ∈ L∧refOf (av h0)=some j
theorem DFr.refl (L:List Nat) (av:Nat→AV) (p q:Nat) (g:List AObj):DFr L av p q g L av q g:=⟨Nat.le_refl _,fun _ _ _ _ _=>rfl,.inl rfl,fun h hh j hj _=>⟨h,hh,hj⟩⟩
theorem DFr.trans {L L' L'':List Nat} {av av' av'':Nat→AV} {p q q' q'':Nat} {g g' g'':List AObj} (h1:DFr L av p q g L' av' q' g') (h2:DFr L' av' p q' g' L'' av'' q'' g''):DFr L av p q g L'' av'' q'' g'' where
 len:=Nat.le_trans h1.len h2.len
 keep j hj hp hq hn:=by
  rw [h2.keep j (Nat.lt_of_lt_of_le hj h1.len) hp (by rcases h1.row with e | e <;> omega) (fun h hh e=>by
   obtain ⟨h0,hh0,e0⟩:=h1.refs h hh j e hj
   exact hn h0 hh0 e0)]
  exact h1.keep j hj hp hq hn
 row:=by
  rcases h1.row with e | e <;> rcases h2.row with e2 | e2
  ·exact .inl (e2.trans e)
  ·exact .inr (Nat.le_trans h1.len e2)
  ·exact .inr (by omega)
  ·exact .inr (Nat.le_trans h1.len e2)
 refs h hh j hj hl:=by
  obtain ⟨h1',hh1,e1⟩:=h2.refs h hh j hj (Nat.lt_of_lt_of_le hl h1.len)
  exact h1.refs h1' hh1 j e1 hl
section
variable {L:List Nat} {st:Nat→MNode} {kd:Nat→List Int} {nx:Int} {av:Nat→AV} {p q:Nat} {g:List AObj}
def killG (g:List AObj):AV→List AObj
 | .own true r _=>g.set r .dead
 | _=>g
theorem DC.set (h:DC L st nx av p q g) {st':Nat→MNode} {av':Nat→AV} {o':AObj} (hr:RowRep 7 (rowsD L st' av') o'):DC L st' nx av' p q (g.set q o') where
 obj:=by rw [List.getElem?_set,if_neg (fun e=>h.pq e.symm)];exact h.obj
 row:=by
  obtain ⟨o,ho,_⟩:=h.row
  exact ⟨o',by rw [List.getElem?_set,if_pos rfl,if_pos (List.getElem?_eq_some_iff.1 ho).1],hr⟩
 pq:=h.pq
 nodup:=h.nodup
theorem DC.more (h:DC L st nx av p q g) (r:List AObj):DC L st nx av p q (g++r) where
 obj:=by rw [List.getElem?_append_left (List.getElem?_eq_some_iff.1 h.obj).1];exact h.obj
 row:=by
  obtain ⟨o,h1,h2⟩:=h.row
  exact ⟨o,by rw [List.getElem?_append_left (List.getElem?_eq_some_iff.1 h1).1];exact h1,h2⟩
 pq:=h.pq
 nodup:=h.nodup
theorem DM.node (h:DM L st kd nx av p q g) (st':Nat→MNode) {o':AObj} (hr:RowRep 7 (rowsD L st' av) o'):DM L st' kd nx av p q (g.set q o') where
 core:=h.core.set hr
 kids k hk:=(h.kids k hk).keep fun r hr=>by rw [List.getElem?_set,if_neg (fun e=>(h.away k hk).2 (by rw [e];exact hr))]
 away:=h.away
 disj:=h.disj
theorem DFr.node (o':AObj):DFr L av p q g L av q (g.set q o') where
 len:=by rw [List.length_set];exact Nat.le_refl _
 keep j hj hp hq hn:=by rw [List.getElem?_set,if_neg (fun e=>hq e.symm)]
 row:=.inl rfl
 refs k hk j hj _:=⟨k,hk,hj⟩
end
theorem KG.frz {g:List AObj} {a:AV} {ks:List Int} (h:KG g a ks) (fr:List (Nat × AV)) (l:List (Nat × AObj)):Go.TA.frz ⟨fr,l,g⟩ a=some (.list (intsPV ks),⟨fr,l,killG g a⟩):=by
 cases h with
 | none=>rfl
 | own h=>simp only [Go.TA.frz,St.obj,if_true,h,intsPV_len,St.putObj,killG]
 | list=>rfl
def inL (l:List Int) (h b:Int):List Int:=(l.flatMap fun k=>if k=b then [h,k] else [k])++if b=0 then [h] else []
end Go.TA


end
section
/- Which names may be, and what is wrong with attributes. Plain. -/
namespace Go.TA
def smallB (c:UInt8):Bool:=decide ((97:Int)≤c.toNat) && decide ((c.toNat:Int)≤122)
def digitB (c:UInt8):Bool:=decide ((48:Int)≤c.toNat) && decide ((c.toNat:Int)≤57)
def innerB (more:Bool) (c:UInt8):Bool:=smallB c || (digitB c || (((c.toNat:Int)==45) || (more && (((c.toNat:Int)==58) || ((c.toNat:Int)==46)))))
def namedB (more:Bool) (s:Bs):Bool:=match s with
 | []=>false
 | c::r=>decide (s.length≤32) && smallB c && r.all (innerB more)
theorem drop_cons {α : Type} {l:List α} {i:Nat} {x : α} (h:l[i]? = some x):l.drop i=x::l.drop (i+1):=by rw [List.drop_eq_getElem?_toList_append,h];rfl
def cmpB:Bs→Bs→Int
 | [],[]=>0
 | [],_::_ => -1
 | _::_,[]=>1
 | a::x,b::y=>if (a.toNat:Int)<b.toNat then -1 else if (b.toNat:Int)<a.toNat then 1 else cmpB x y
theorem cmpB_less : ∀ {x y : Bs}, x ≠ y → (0 < cmpB x y ↔ (strLess x y || x == y) = false)
  | [],[],h=>absurd rfl h
  | [],b::y,h=>by simp [cmpB,strLess]
  | a::x,[],h=>by simp [cmpB,strLess]
  | a :: x, b :: y, h => by
    have e1:(a<b)=((a.toNat:Int)<b.toNat):=by rw [UInt8.lt_iff_toNat_lt];simp
    simp only [cmpB,strLess]
    by_cases h1:(a.toNat:Int)<b.toNat
    · simp [h1,e1]
    · by_cases h2:(b.toNat:Int)<a.toNat
      · have hne:a≠b:=fun e=>by subst e;omega
        have hne':¬ (a::x=b::y):=fun e=>hne (by injection e)
        simp [h1,h2,e1,hne]
      · have he:a=b:=UInt8.toNat_inj.1 (by omega)
        subst he
        have hxy:x≠y:=fun e=>h (by rw [e])
        have:=cmpB_less hxy
        simp only [h1,if_false,this,e1]
        simp [h1]
def attrErr (p : List Attr) (i : Nat) (a : Attr) : Int :=
  if i=64 then 12 else if namedB true a.name=false then 8 else if 65536<(a.value.length:Int) then 3 else match p with
    | []=>0
    | b::_=>if b.name=a.name then 10 else if 0<cmpB b.name a.name then 9 else 0
def attrsChk:List Attr→Nat→List Attr→Int × Int
 | _,_,[]=>(0,0)
 | p,i,a::l=>if attrErr p i a=0 then attrsChk [a] (i+1) l else (i,attrErr p i a)
def attrsErr (l:List Attr):Int:=(attrsChk [] 0 l).2
def prevOf (l:List Attr):Nat→List Attr
 | 0=>[]
 | i+1=>(l[i]?).toList
theorem chk_step {l:List Attr} {i:Nat} {a:Attr} (h:l[i]? = some a):attrsChk (prevOf l i) i (l.drop i)=if attrErr (prevOf l i) i a=0 then attrsChk (prevOf l (i+1)) (i+1) (l.drop (i+1)) else ((i:Int),attrErr (prevOf l i) i a):=by
 have e:prevOf l (i+1)=[a]:=by simp [prevOf,h]
 rw [drop_cons h,e]
 simp only [attrsChk]
def chkOut (r:Int × Int):Ex × St:=if r.2=0 then (.exit 0,⟨[],[],[]⟩) else (.ret,⟨[(2,.p (.int .i64 r.1)),(3,.p (.int .i64 r.2))],[],[]⟩)
end Go.TA


end
section
/- What is done with a document, whichever text does it. Plain. -/
namespace Go.TA
theorem nodup_sub {α : Type} [BEq α] [LawfulBEq α]:∀ {l m:List α},l.Nodup→(∀ x ∈ l,x ∈ m)→l.length≤m.length
  | [],m,_,_=>by simp
  | a :: l, m, hn, h => by
    rw [List.nodup_cons] at hn
    have:=nodup_sub (l:=l) (m:=m.erase a) hn.2 (fun x hx=>by
      have hne:x≠a:=fun e=>hn.1 (e ▸ hx)
      exact (List.mem_erase_of_ne hne).2 (h x (by simp [hx])))
    rw [List.length_erase_of_mem (h a (by simp))] at this
    have hp:0<m.length:=List.length_pos_of_mem (h a (by simp))
    rw [List.length_cons];omega
section
variable {R:Nat} {S:MS}
theorem kd_len (hS:S.Ok R) {u:Nat} (hu:u<S.N):(S.kd u).length≤(liveL S).length:=by
 have:=nodup_sub (m:=(liveL S).map fun c:Nat=>(c:Int)) (hS.nodup u hu) (fun k hk=>by
  obtain ⟨c,rfl,hc,hl,_⟩:=hS.kids u hu k hk
  exact List.mem_map.2 ⟨c,mem_liveL.2 ⟨hc,hl⟩,rfl⟩)
 rwa [List.length_map] at this
theorem zero_kid (hS:S.Ok R) {u:Nat} (hu:u<S.N):(0:Int) ∉ S.kd u:=fun h=>by
 obtain ⟨c,e,_,_,h2⟩:=hS.kids u hu _ h
 have:c=0:=by omega
 subst this
 have:=hS.top.2
 omega
theorem liveL_congr {S':MS} (hN:S.N=S'.N) (h:∀ k,(S.st k).live=(S'.st k).live):liveL S=liveL S':=by
 unfold liveL
 rw [hN]
 congr 1
 funext k
 exact h k
end
noncomputable def insertD (S:MS) (id up b:Int):Int × MS :=
 if fitE S id≠0 then (fitE S id,S)
 else if (liveB S up && liveB S b)=false then (13,S)
 else if 0≤upOf S id then (15,S)
 else if underB S up id=true then (17,S)
 else if b≠0∧upOf S b≠up then (18,S)
 else (0,placeM S id.toNat up.toNat b)
def moveD (S:MS) (id b:Int):Int × MS :=
 if fitE S id≠0 then (fitE S id,S)
 else if liveB S b=false then (13,S)
 else if upOf S id<0 then (16,S)
 else if b=id∨(b≠0∧upOf S b≠upOf S id) then (18,S)
 else (0,placeM (takeM S id.toNat) id.toNat (upOf S id).toNat b)
theorem fit_live {S:MS} {id:Int} (h:¬ fitE S id≠0):∃ c:Nat,id=(c:Int)∧c ∈ liveL S∧0<c:=by
 unfold fitE at h
 split at h
 ·omega
 ·split at h
  ·rename_i h0 hl
   obtain ⟨c,rfl,hc⟩:=live_liveL hl
   exact ⟨c,rfl,hc,by omega⟩
  ·omega
noncomputable def removeD (S:MS) (id:Int):Int × MS:=if fitE S id≠0 then (fitE S id,S) else (0,endM (takeM S id.toNat) id)
theorem below_same {S S':MS} {t:Int} (h:∀ y:Int,y≠t→upOf S' y=upOf S y) (y:Int):Below S t y↔Below S' t y:=by
  constructor
  · intro hb
    induction hb with
    | here=>exact .here
    | @up y h1 h2 ih =>
      by_cases e:y=t
      · subst e;exact .here
      · exact .up h1 (by rw [h y e];exact ih)
  · intro hb
    induction hb with
    | here=>exact .here
    | @up y h1 h2 ih =>
      by_cases e:y=t
      · subst e;exact .here
      · exact .up h1 (by rw [← h y e];exact ih)
theorem take_below {S:MS} {c:Nat} (hc:0<c) (y:Int):Below S (c:Int) y↔Below (takeM S c) (c:Int) y:=by
 refine below_same (fun z hz => ?_) y
 unfold takeM
 split
 ·rfl
 ·have:z.toNat≠c:=by omega
  simp only [upOf]
  rw [upd_ne this]
theorem liveL_end {S:MS} {c:Nat} (hc:0<c):liveL (endM (takeM S c) (c:Int))=(liveL S).filter fun h:Nat => !(underB S (h:Int) (c:Int)):=by
 classical
 unfold liveL
 rw [List.filter_filter,show (endM (takeM S c) (c:Int)).N=S.N from takeM_N S c]
 congr 1
 funext h
 simp only [endM]
 by_cases hb:Below (takeM S c) (c:Int) (h:Int)
 ·rw [if_pos hb,underB_iff.2 ((take_below hc _).2 hb)];rfl
 ·have:underB S (h:Int) (c:Int)=false:=by
   cases e:underB S (h:Int) (c:Int) with
   | false=>rfl
   | true=>exact absurd ((take_below hc _).1 (underB_iff.1 e)) hb
  rw [if_neg hb,takeM_live,this];simp
theorem end_kept {S:MS} {c:Nat} (hc:0<c):∀ k ∈ (liveL S).filter fun h:Nat => !(underB S (h:Int) (c:Int)),S.st k=(endM (takeM S c) (c:Int)).st k∧(takeM S c).kd k=(endM (takeM S c) (c:Int)).kd k:=by
 classical
 intro k hk
 have hu:=(List.mem_filter.1 hk).2
 simp only [Bool.not_eq_true'] at hu
 have hb:¬ Below (takeM S c) (c:Int) (k:Int):=fun h=>by
  rw [underB_iff.2 ((take_below hc _).2 h)] at hu;cases hu
 have hne:k≠c:=fun e=>by subst e;exact hb .here
 simp only [endM,if_neg hb,and_true]
 unfold takeM
 split
 ·rfl
 ·simp only;rw [upd_ne hne]
def nodeM (S:MS) (h:Nat) (s:MNode):MS:=⟨S.N,upd S.st h s,S.kd⟩
theorem liveL_node {S:MS} {h:Nat} {s:MNode} (hs:s.live=(S.st h).live):liveL (nodeM S h s)=liveL S:=liveL_congr rfl (fun k=>by
 simp only [nodeM]
 by_cases e:k=h
 ·subst e;rw [upd_at,hs]
 ·rw [upd_ne e])
def setD (S:MS) (id:Int) (name v:Bs):Int × MS :=
 if fitE S id≠0 then (fitE S id,S) else if namedB true name=false then (8,S) else if 65536<(v.length:Int) then (3,S)
 else if 64<((withA (S.st id.toNat).attrs name v).length:Int) then (12,S) else (0,setM S id.toNat (withA (S.st id.toNat).attrs name v))
def delD (S:MS) (id:Int) (name:Bs):Int × MS :=
 if fitE S id≠0 then (fitE S id,S)
 else if (withoutA (S.st id.toNat).attrs name).length<(S.st id.toNat).attrs.length then (0,setM S id.toNat (withoutA (S.st id.toNat).attrs name)) else (8,S)
def textD (S:MS) (id:Int) (s:Bs):Int × MS :=
 if fitE S id≠0 then (fitE S id,S) else if 65536<(s.length:Int) then (3,S) else (0,textM S id.toNat s)
def createErr (N:Nat) (x:GOp):Int:=if namedB false x.tag=false then 7 else if 65536<(x.key.length:Int)∨65536<(x.text.length:Int) then 3 else if attrsErr x.attrs≠0 then attrsErr x.attrs else if 4294967295<(N:Int) then 21 else 0
theorem liveL_create (S:MS) (x:GOp):liveL (S.create x)=liveL S++[S.N]:=by
 unfold liveL
 simp only [MS.create,List.range_succ,List.filter_append,List.filter_cons,List.filter_nil,upd_at,if_true]
 congr 1
 refine List.filter_congr fun k hk => ?_
 have:=List.mem_range.1 hk
 rw [upd_ne (by omega)]
noncomputable def doD (S:MS) (x:GOp):Int × Int × MS :=
 if x.kind=1 then (if createErr S.N x=0 then ((S.N:Int),0,S.create x) else (0,createErr S.N x,S))
 else if x.kind=2 then (0,insertD S x.node x.up x.before)
 else if x.kind=3 then (0,moveD S x.node x.before)
 else if x.kind=4 then (0,removeD S x.node)
 else if x.kind=5 then (0,setD S x.node x.name x.text)
 else if x.kind=6 then (0,delD S x.node x.name)
 else if x.kind=7 then (0,textD S x.node x.text)
 else (0,0,S)
end Go.TA


end
section
/- A row of those below one, as links tell it: the first, the last, who stands ahead and who behind. Plain. -/
namespace Go.TA
structure Linked (l:List Nat) (fst lst:Option Nat) (prv nxt:Nat→Option Nat):Prop where
 first:fst=l[0]?
 last:lst=if l.length=0 then none else l[l.length - 1]?
 prev:∀ (i k:Nat),l[i]? = some k→prv k=if i=0 then none else l[i - 1]?
 next:∀ (i k:Nat),l[i]? = some k→nxt k=l[i+1]?
theorem Linked.nil (prv nxt:Nat→Option Nat):Linked [] none none prv nxt:=⟨rfl,rfl,fun i k h=>by simp at h,fun i k h=>by simp at h⟩
theorem Linked.ext {l:List Nat} {fst lst:Option Nat} {prv nxt prv' nxt':Nat→Option Nat} (h:Linked l fst lst prv nxt) (hp:∀ k ∈ l,prv' k=prv k) (hn:∀ k ∈ l,nxt' k=nxt k):Linked l fst lst prv' nxt' :=
 ⟨h.first,h.last,fun i k e=>by rw [hp k (List.mem_of_getElem? e)];exact h.prev i k e,fun i k e=>by rw [hn k (List.mem_of_getElem? e)];exact h.next i k e⟩
def insAt (l:List Nat) (p h:Nat):List Nat:=l.take p++h::l.drop p
theorem insAt_len {l:List Nat} {p h:Nat} (hp:p≤l.length):(insAt l p h).length=l.length+1:=by
 simp only [insAt,List.length_append,List.length_take,List.length_cons,List.length_drop];omega
theorem insAt_lt {l:List Nat} {p h i:Nat} (hi:i<p) (hp:p≤l.length):(insAt l p h)[i]? = l[i]? := by
 unfold insAt
 rw [List.getElem?_append_left (by simp;omega),List.getElem?_take,if_pos hi]
theorem insAt_at {l:List Nat} {p h:Nat} (hp:p≤l.length):(insAt l p h)[p]? = some h:=by
 unfold insAt
 have:(l.take p).length=p:=by simp;omega
 rw [List.getElem?_append_right (by omega),this,Nat.sub_self];rfl
theorem insAt_gt {l:List Nat} {p h i:Nat} (hi:p<i) (hp:p≤l.length):(insAt l p h)[i]? = l[i - 1]? := by
 unfold insAt
 have:(l.take p).length=p:=by simp;omega
 rw [List.getElem?_append_right (by omega),this]
 obtain ⟨j,rfl⟩:∃ j,i=p+j+1:=⟨i - p - 1,by omega⟩
 rw [show p+j+1 - p=j+1 by omega,List.getElem?_cons_succ,List.getElem?_drop]
 rfl
theorem get_inj_of {l:List Nat} (hn:l.Nodup) {i j k:Nat} (hi:l[i]? = some k) (hj:l[j]? = some k):i=j :=
 (List.getElem?_inj (List.getElem?_eq_some_iff.1 hi).1 hn).1 (hi.trans hj.symm)
theorem Linked.insert {l : List Nat} {fst lst : Option Nat} {prv nxt prv' nxt' : Nat → Option Nat} (hl : Linked l fst lst prv nxt) (hn : l.Nodup) {p h : Nat} (hp : p ≤ l.length) (hh : h ∉ l)
    (h1:prv' h=if p=0 then none else l[p - 1]?) (h2:nxt' h=l[p]?) (h3:∀ k,l[p]? = some k→prv' k=some h) (h4:∀ k,k≠h→l[p]? ≠ some k→prv' k=prv k)
    (h5:∀ k,p≠0→l[p - 1]? = some k→nxt' k=some h) (h6:∀ k,k≠h→(p=0∨l[p - 1]? ≠ some k)→nxt' k=nxt k) :
    Linked (insAt l p h) (if p=0 then some h else fst) (if p=l.length then some h else lst) prv' nxt':=by
  have hlen:=insAt_len (h:=h) hp
  refine ⟨?_, ?_,fun i k hi => ?_,fun i k hi => ?_⟩
  · by_cases e:p=0
    · subst e;rw [if_pos rfl,insAt_at hp]
    · rw [if_neg e,insAt_lt (by omega) hp,hl.first]
  · rw [hlen,if_neg (show ¬ l.length+1=0 by omega),Nat.add_sub_cancel]
    by_cases e:p=l.length
    · rw [if_pos e, ← e,insAt_at (by omega)]
    · rw [if_neg e,insAt_gt (by omega) hp,hl.last,if_neg (show ¬ l.length=0 by omega)]
  · by_cases c1:i<p
    · rw [insAt_lt c1 hp] at hi
      have hk:k≠h:=fun q=>hh (q ▸ List.mem_of_getElem? hi)
      rw [h4 k hk (fun q=>by have:=get_inj_of hn hi q;omega),hl.prev i k hi]
      by_cases e:i=0
      · rw [if_pos e,if_pos e]
      · rw [if_neg e,if_neg e,insAt_lt (by omega) hp]
    · by_cases c2:i=p
      · subst c2
        rw [insAt_at hp] at hi
        simp only [Option.some.injEq] at hi
        subst hi
        rw [h1]
        by_cases e:i=0
        · rw [if_pos e,if_pos e]
        · rw [if_neg e,if_neg e,insAt_lt (by omega) hp]
      · rw [insAt_gt (by omega) hp] at hi
        have hk:k≠h:=fun q=>hh (q ▸ List.mem_of_getElem? hi)
        rw [if_neg (show ¬ i=0 by omega)]
        by_cases c3:i=p+1
        · subst c3
          rw [Nat.add_sub_cancel,insAt_at hp]
          exact h3 k (by simpa using hi)
        · rw [h4 k hk (fun q=>by have:=get_inj_of hn hi q;omega),hl.prev _ k hi,if_neg (show ¬ i - 1=0 by omega),insAt_gt (by omega) hp]
  · by_cases c1:i<p
    · rw [insAt_lt c1 hp] at hi
      have hk:k≠h:=fun q=>hh (q ▸ List.mem_of_getElem? hi)
      by_cases c2:i+1=p
      · rw [c2,insAt_at hp]
        exact h5 k (by omega) (by rw [← c2];simpa using hi)
      · rw [insAt_lt (by omega) hp,h6 k hk (.inr fun q=>by have:=get_inj_of hn hi q;omega),hl.next i k hi]
    · by_cases c2:i=p
      · subst c2
        rw [insAt_at hp] at hi
        simp only [Option.some.injEq] at hi
        subst hi
        rw [h2,insAt_gt (by omega) hp,Nat.add_sub_cancel]
      · rw [insAt_gt (by omega) hp] at hi
        have hk:k≠h:=fun q=>hh (q ▸ List.mem_of_getElem? hi)
        rw [insAt_gt (by omega) hp,h6 k hk (by
          by_cases e:p=0
          · exact .inl e
          · exact .inr fun q=>by have:=get_inj_of hn hi q;omega),hl.next _ k hi]
        congr 1
        omega
def remAt (l:List Nat) (p:Nat):List Nat:=l.take p++l.drop (p+1)
theorem remAt_len {l:List Nat} {p:Nat} (hp:p<l.length):(remAt l p).length+1=l.length:=by
 simp only [remAt,List.length_append,List.length_take,List.length_drop];omega
theorem remAt_lt {l:List Nat} {p i:Nat} (hi:i<p) (hp:p<l.length):(remAt l p)[i]? = l[i]? := by
 unfold remAt
 rw [List.getElem?_append_left (by simp;omega),List.getElem?_take,if_pos hi]
theorem remAt_ge {l:List Nat} {p i:Nat} (hi:p≤i) (hp:p<l.length):(remAt l p)[i]? = l[i+1]? := by
 unfold remAt
 have:(l.take p).length=p:=by simp;omega
 rw [List.getElem?_append_right (by omega),this,List.getElem?_drop]
 congr 1;omega
theorem Linked.remove {l : List Nat} {fst lst : Option Nat} {prv nxt prv' nxt' : Nat → Option Nat} (hl : Linked l fst lst prv nxt) (hn : l.Nodup) {p h : Nat} (hh : l[p]? = some h)
    (h3:∀ k,l[p+1]? = some k→prv' k=prv h) (h4:∀ k,k≠h→l[p+1]? ≠ some k→prv' k=prv k)
    (h5:∀ k,p≠0→l[p - 1]? = some k→nxt' k=nxt h) (h6:∀ k,k≠h→(p=0∨l[p - 1]? ≠ some k)→nxt' k=nxt k) :
    Linked (remAt l p) (if p=0 then nxt h else fst) (if p+1=l.length then prv h else lst) prv' nxt':=by
  have hp:=(List.getElem?_eq_some_iff.1 hh).1
  have hlen:=remAt_len hp
  have hnx:=hl.next p h hh
  have hpv:=hl.prev p h hh
  refine ⟨?_, ?_,fun i k hi => ?_,fun i k hi => ?_⟩
  · by_cases e:p=0
    · subst e;rw [if_pos rfl,remAt_ge (Nat.le_refl _) hp,hnx]
    · rw [if_neg e,remAt_lt (by omega) hp,hl.first]
  · by_cases e:p+1=l.length
    · rw [if_pos e,hpv]
      by_cases e0:p=0
      · rw [if_pos e0,if_pos (show (remAt l p).length=0 by omega)]
      · rw [if_neg e0,if_neg (show ¬ (remAt l p).length=0 by omega),remAt_lt (by omega) hp]
        congr 1;omega
    · rw [if_neg e,hl.last,if_neg (show ¬ l.length=0 by omega),if_neg (show ¬ (remAt l p).length=0 by omega),remAt_ge (by omega) hp]
      congr 1;omega
  · by_cases c1:i<p
    · rw [remAt_lt c1 hp] at hi
      have hk:k≠h:=fun q=>by subst q;have:=get_inj_of hn hi hh;omega
      rw [h4 k hk (fun q=>by have:=get_inj_of hn hi q;omega),hl.prev i k hi]
      by_cases e:i=0
      · rw [if_pos e,if_pos e]
      · rw [if_neg e,if_neg e,remAt_lt (by omega) hp]
    · rw [remAt_ge (by omega) hp] at hi
      have hk:k≠h:=fun q=>by subst q;have:=get_inj_of hn hi hh;omega
      by_cases c2:i=p
      · subst c2
        rw [h3 k hi,hpv]
        by_cases e:i=0
        · rw [if_pos e,if_pos e]
        · rw [if_neg e,if_neg e,remAt_lt (by omega) hp]
      · rw [h4 k hk (fun q=>by have:=get_inj_of hn hi q;omega),hl.prev _ k hi,if_neg (show ¬ i+1=0 by omega),if_neg (show ¬ i=0 by omega),remAt_ge (by omega) hp]
        congr 1;omega
  · by_cases c1:i<p
    · rw [remAt_lt c1 hp] at hi
      have hk:k≠h:=fun q=>by subst q;have:=get_inj_of hn hi hh;omega
      by_cases c2:i+1=p
      · rw [remAt_ge (by omega) hp,h5 k (by omega) (by rw [← c2];simpa using hi),hnx, ← c2]
      · rw [remAt_lt (by omega) hp,h6 k hk (.inr fun q=>by have:=get_inj_of hn hi q;omega),hl.next i k hi]
    · rw [remAt_ge (by omega) hp] at hi
      have hk:k≠h:=fun q=>by subst q;have:=get_inj_of hn hi hh;omega
      rw [remAt_ge (by omega) hp,h6 k hk (by
        by_cases e:p=0
        · exact .inl e
        · exact .inr fun q=>by have:=get_inj_of hn hi q;omega),hl.next _ k hi]
end Go.TA


end
section
/- A document in memory: its map, its nodes, their items, and how these are linked. Plain. -/
namespace Go.TA
structure LK where
 u:Option Nat
 f:Option Nat
 l:Option Nat
 p:Option Nat
 n:Option Nat
theorem LK.ext' {a b:LK} (h1:a.u=b.u) (h2:a.f=b.f) (h3:a.l=b.l) (h4:a.p=b.p) (h5:a.n=b.n):a=b:=by
 cases a;cases b;simp only at h1 h2 h3 h4 h5;subst h1 h2 h3 h4 h5;rfl
def kidsN (S:MS) (c:Nat):List Nat:=(S.kd c).map Int.toNat
def upN (S:MS) (c:Nat):Option Nat:=if (S.st c).up<0 then none else some (S.st c).up.toNat
structure LinkOk (S:MS) (I:Nat→LK):Prop where
 up:∀ c ∈ liveL S,(I c).u=upN S c
 kids:∀ c ∈ liveL S,Linked (kidsN S c) (I c).f (I c).l (fun k=>(I k).p) (fun k=>(I k).n)
 loose:∀ c ∈ liveL S,(S.st c).up<0→(I c).p=none∧(I c).n=none
section
variable {R:Nat} {S:MS} (hS:S.Ok R)
include hS
theorem mem_kidsN {p k:Nat} (hp:p<S.N):k ∈ kidsN S p↔(k:Int) ∈ S.kd p:=by
 unfold kidsN
 rw [List.mem_map]
 constructor
 ·rintro ⟨a,ha,rfl⟩
  obtain ⟨c,rfl,_⟩:=hS.kids p hp a ha
  simpa using ha
 ·exact fun h=>⟨_,h,by simp⟩
theorem kidsN_kd {p:Nat} (hp:p<S.N):S.kd p=(kidsN S p).map fun k:Nat=>(k:Int):=by
 unfold kidsN
 rw [List.map_map]
 conv=>lhs;rw [← List.map_id (S.kd p)]
 refine List.map_congr_left fun a ha => ?_
 obtain ⟨c,rfl,_⟩:=hS.kids p hp a ha
 simp
theorem kidsN_nodup {p:Nat} (hp:p<S.N):(kidsN S p).Nodup:=by
 have h:=hS.nodup p hp
 rw [kidsN_kd hS hp] at h
 exact List.Pairwise.of_map (fun k:Nat=>(k:Int)) (fun a b hab e=>hab (by rw [e])) h
theorem kidsN_up {p k:Nat} (hp:p<S.N) (h:k ∈ kidsN S p):k ∈ liveL S∧(S.st k).up=(p:Int):=by
 rw [mem_kidsN hS hp] at h
 obtain ⟨c,e,h1,h2,h3⟩:=hS.kids p hp _ h
 have:c=k:=by omega
 subst this
 exact ⟨mem_liveL.2 ⟨h1,h2⟩,h3⟩
theorem upN_some {c:Nat} (hc:c<S.N) {p:Nat} (h:(S.st c).up=(p:Int)):upN S c=some p:=by
 have _:=hS
 unfold upN
 rw [if_neg (by omega),h];simp
theorem upN_none {c:Nat} (hc:c<S.N) (h:(S.st c).up<0):upN S c=none:=by
 have _:=hS
 unfold upN
 rw [if_pos h]
end
def aheadI (I:Nat→LK) (x:Nat):Option Nat→Option Nat
 | none=>(I x).l
 | some b=>(I b).p
def placeI (I:Nat→LK) (x y:Nat) (b:Option Nat) (k:Nat):LK :=
 if k=y then ⟨some x,(I y).f,(I y).l,aheadI I x b,b⟩
 else ⟨(I k).u,if k=x∧aheadI I x b=none then some y else (I k).f,if k=x∧b=none then some y else (I k).l,if b=some k then some y else (I k).p,if aheadI I x b=some k then some y else (I k).n⟩
def dropI (I:Nat→LK) (x:Nat) (k:Nat):LK :=
 if k=x then ⟨none,(I x).f,(I x).l,none,none⟩
 else ⟨(I k).u,if (I x).u=some k∧(I x).p=none then (I x).n else (I k).f,if (I x).u=some k∧(I x).n=none then (I x).p else (I k).l,if (I x).n=some k then (I x).p else (I k).p,if (I x).p=some k then (I x).n else (I k).n⟩
theorem liveL_place (S:MS) (h u:Nat) (b:Int):liveL (placeM S h u b)=liveL S:=by
 unfold liveL placeM
 refine List.filter_congr fun k _ => ?_
 by_cases e:k=h
 ·subst e;simp [upd]
 ·simp [upd,e]
theorem liveL_take (S:MS) (h:Nat):liveL (takeM S h)=liveL S:=by
 unfold liveL
 rw [takeM_N]
 refine List.filter_congr fun k _ => ?_
 rw [takeM_live]
theorem insI_insAt {l:List Int} {ln:List Nat} (hl:l=ln.map fun k:Nat=>(k:Int)) (h:Nat) (b:Int):(insI l (h:Int) b).map Int.toNat=insAt ln (if b=0 then l.length else l.idxOf b) h:=by
 subst hl
 unfold insI insAt
 simp only [List.map_append,List.map_cons,Int.toNat_natCast, ← List.map_take, ← List.map_drop,List.map_map]
 have:(Int.toNat ∘ fun k:Nat=>(k:Int))=id:=by funext k;simp
 rw [this]
 simp
theorem place_at {R:Nat} {S:MS} (hS:S.Ok R) {u:Nat} (hu:u<S.N) {b:Nat} (hb:b=0∨(b:Int) ∈ S.kd u) (hz:(0:Int) ∉ S.kd u):(kidsN S u)[if (b:Int)=0 then (S.kd u).length else (S.kd u).idxOf (b:Int)]? = if b=0 then none else some b:=by
 by_cases e:b=0
 ·subst e
  have:(kidsN S u).length=(S.kd u).length:=by simp [kidsN]
  simp [kidsN]
 ·have hm:(b:Int) ∈ S.kd u:=by rcases hb with h | h;exact absurd h e;exact h
  rw [if_neg (by omega),if_neg e]
  have hi:=List.idxOf_lt_length_iff.2 hm
  unfold kidsN
  rw [List.getElem?_map,List.getElem?_eq_getElem hi,List.getElem_idxOf hi]
  simp
section
variable {R:Nat} {S:MS} {I:Nat→LK}
theorem ahead_at (hS:S.Ok R) (hI:LinkOk S I) {u:Nat} (hu:u ∈ liveL S) {p:Nat} (hp:p≤(kidsN S u).length):aheadI I u ((kidsN S u)[p]?)=if p=0 then none else (kidsN S u)[p - 1]? := by
  have hl:=hI.kids u hu
  cases h:(kidsN S u)[p]? with
  | none =>
    have:p=(kidsN S u).length:=by have:=List.getElem?_eq_none_iff.1 h;omega
    rw [aheadI,hl.last,this]
  | some b=>rw [aheadI,hl.prev p b h]
theorem LinkOk.place (hS : S.Ok R) (hI : LinkOk S I) {x y : Nat} (hx : x ∈ liveL S) (hy : y ∈ liveL S) (hxy : x ≠ y) (hyu : (S.st y).up < 0) {p : Nat} (hp : p ≤ (kidsN S x).length) {S' : MS} (hN : S'.N = S.N) (hL : liveL S' = liveL S) (hst : ∀ k, (S'.st k).up = if k = y then (x : Int) else (S.st k).up) (hkd : ∀ k ∈ liveL S, kidsN S' k = if k = x then insAt (kidsN S x) p y else kidsN S k) : LinkOk S' (placeI I x y (kidsN S x)[p]?) := by
  have hxN:=(mem_liveL.1 hx).1
  have hah:=ahead_at hS hI hx hp
  have hlx:=hI.kids x hx
  have hyk:∀ q ∈ liveL S,y ∉ kidsN S q:=fun q hq hm=>by
    have:=(kidsN_up hS (mem_liveL.1 hq).1 hm).2
    omega
  have hbk:∀ k,(kidsN S x)[p]? = some k→k ∈ kidsN S x:=fun k hk=>List.mem_of_getElem? hk
  have hak:∀ k,aheadI I x (kidsN S x)[p]? = some k→k ∈ kidsN S x:=fun k hk=>by
    rw [hah] at hk
    split at hk
    · cases hk
    · exact List.mem_of_getElem? hk
  have hby:(kidsN S x)[p]? ≠ some y:=fun e=>hyk x hx (hbk y e)
  have hay:aheadI I x (kidsN S x)[p]? ≠ some y:=fun e=>hyk x hx (hak y e)
  have hnone:aheadI I x (kidsN S x)[p]? = none↔p=0:=by
    rw [hah]
    constructor
    · intro h
      split at h
      · assumption
      · have:=List.getElem?_eq_none_iff.1 h;omega
    · intro h;rw [if_pos h]
  have hlast:(kidsN S x)[p]? = none↔p=(kidsN S x).length:=by
    rw [List.getElem?_eq_none_iff];omega
  have pk:∀ k,k≠y→(placeI I x y (kidsN S x)[p]? k).p=if (kidsN S x)[p]? = some k then some y else (I k).p:=fun k hk=>by rw [placeI,if_neg hk]
  have nk:∀ k,k≠y→(placeI I x y (kidsN S x)[p]? k).n=if aheadI I x (kidsN S x)[p]? = some k then some y else (I k).n:=fun k hk=>by rw [placeI,if_neg hk]
  refine ⟨fun c hc => ?_,fun c hc => ?_,fun c hc h0 => ?_⟩
  · rw [hL] at hc
    have hcN:=(mem_liveL.1 hc).1
    unfold upN
    rw [hst]
    by_cases e:c=y
    · subst e
      rw [placeI,if_pos rfl,if_pos rfl,if_neg (by omega)];simp
    · rw [placeI,if_neg e,if_neg e]
      exact hI.up c hc
  · rw [hL] at hc
    rw [hkd c hc]
    by_cases e:c=x
    · subst e
      rw [if_pos rfl]
      have key:=hlx.insert (kidsN_nodup hS hxN) (prv':=fun k=>(placeI I c y (kidsN S c)[p]? k).p) (nxt':=fun k=>(placeI I c y (kidsN S c)[p]? k).n) (h:=y) hp (hyk c hx)
        (by rw [← hah]; simp [placeI]) (by simp [placeI]) (fun k hk => by
          rw [pk k (fun e=>hby (e ▸ hk)),if_pos hk]) (fun k hk hne=>by rw [pk k hk,if_neg hne]) (fun k hp0 hk=>by
          have hk':aheadI I c (kidsN S c)[p]? = some k:=by rw [hah,if_neg hp0];exact hk
          rw [nk k (fun e=>hay (e ▸ hk')),if_pos hk']) (fun k hk hne=>by
          rw [nk k hk,if_neg]
          rw [hah]
          rcases hne with h | h
          · rw [if_pos h];simp
          · split
            · simp
            · exact h)
      have ef:(placeI I c y (kidsN S c)[p]? c).f=if p=0 then some y else (I c).f:=by
        rw [placeI,if_neg hxy]
        simp only [true_and,hnone]
      have el:(placeI I c y (kidsN S c)[p]? c).l=if p=(kidsN S c).length then some y else (I c).l:=by
        rw [placeI,if_neg hxy]
        simp only [true_and,hlast]
      rw [ef,el]
      exact key
    · rw [if_neg e]
      have hcN:=(mem_liveL.1 hc).1
      have hd:∀ k ∈ kidsN S c,k ∉ kidsN S x:=fun k hk hk'=>by
        have h1:=(kidsN_up hS hcN hk).2
        have h2:=(kidsN_up hS hxN hk').2
        omega
      have hext:=(hI.kids c hc).ext (prv':=fun k=>(placeI I x y (kidsN S x)[p]? k).p) (nxt':=fun k=>(placeI I x y (kidsN S x)[p]? k).n) (fun k hk=>by
          rw [pk k (fun e=>hyk c hc (e ▸ hk)),if_neg (fun e=>hd k hk (hbk k e))]) (fun k hk=>by
          rw [nk k (fun e=>hyk c hc (e ▸ hk)),if_neg (fun e=>hd k hk (hak k e))])
      have ef:(placeI I x y (kidsN S x)[p]? c).f=(I c).f:=by
        unfold placeI
        by_cases e2:c=y
        · rw [if_pos e2,e2]
        · rw [if_neg e2];simp [e]
      have el:(placeI I x y (kidsN S x)[p]? c).l=(I c).l:=by
        unfold placeI
        by_cases e2:c=y
        · rw [if_pos e2,e2]
        · rw [if_neg e2];simp [e]
      rw [ef,el]
      exact hext
  · rw [hL] at hc
    rw [hst] at h0
    by_cases e:c=y
    · rw [if_pos e] at h0;omega
    · rw [if_neg e] at h0
      obtain ⟨h1,h2⟩:=hI.loose c hc h0
      have hcx:c ∉ kidsN S x:=fun hm=>by
        have:=(kidsN_up hS hxN hm).2
        omega
      rw [pk c e,nk c e,if_neg (fun e=>hcx (hbk c e)),if_neg (fun e=>hcx (hak c e))]
      exact ⟨h1,h2⟩
theorem LinkOk.take (hS : S.Ok R) (hI : LinkOk S I) {x u : Nat} (hx : x ∈ liveL S) (hxu : (S.st x).up = (u : Int)) {p : Nat} (hp : (kidsN S u)[p]? = some x) {S' : MS} (hL : liveL S' = liveL S) (hst : ∀ k, (S'.st k).up = if k = x then -1 else (S.st k).up) (hkd : ∀ k ∈ liveL S, kidsN S' k = if k = u then remAt (kidsN S u) p else kidsN S k) : LinkOk S' (dropI I x) := by
  have hxN:=(mem_liveL.1 hx).1
  obtain ⟨huN,hul,_⟩:=hS.up_lt hxN hxu
  have hu:u ∈ liveL S:=mem_liveL.2 ⟨huN,hul⟩
  have hlu:=hI.kids u hu
  have hn:=kidsN_nodup hS huN
  have hxk:x ∈ kidsN S u:=List.mem_of_getElem? hp
  have hIu:(I x).u=some u:=by rw [hI.up x hx,upN_some hS hxN hxu]
  have hpv:=hlu.prev p x hp
  have hnx:=hlu.next p x hp
  have hpl:=(List.getElem?_eq_some_iff.1 hp).1
  have hux:u≠x:=fun e=>by
    obtain ⟨r,_,hr⟩:=hS.rank
    have:=hr x u hxN hxu
    subst e;omega
  have hpvk:∀ k,(I x).p=some k→k ∈ kidsN S u∧k≠x:=fun k hk=>by
    rw [hpv] at hk
    split at hk
    · cases hk
    · refine ⟨List.mem_of_getElem? hk,fun e => ?_⟩
      subst e
      have:=get_inj_of hn hk hp
      omega
  have hnxk:∀ k,(I x).n=some k→k ∈ kidsN S u∧k≠x:=fun k hk=>by
    rw [hnx] at hk
    refine ⟨List.mem_of_getElem? hk,fun e => ?_⟩
    subst e
    have:=get_inj_of hn hk hp
    omega
  have hp0:(I x).p=none↔p=0:=by
    rw [hpv]
    constructor
    · intro h
      split at h
      · assumption
      · have:=List.getElem?_eq_none_iff.1 h;omega
    · intro h;rw [if_pos h]
  have hn0:(I x).n=none↔p+1=(kidsN S u).length:=by
    rw [hnx,List.getElem?_eq_none_iff];omega
  have pk:∀ k,k≠x→(dropI I x k).p=if (I x).n=some k then (I x).p else (I k).p:=fun k hk=>by rw [dropI,if_neg hk]
  have nk:∀ k,k≠x→(dropI I x k).n=if (I x).p=some k then (I x).n else (I k).n:=fun k hk=>by rw [dropI,if_neg hk]
  refine ⟨fun c hc => ?_,fun c hc => ?_,fun c hc h0 => ?_⟩
  · rw [hL] at hc
    unfold upN
    rw [hst]
    by_cases e:c=x
    · rw [dropI,if_pos e,if_pos e,if_pos (by omega)]
    · rw [dropI,if_neg e,if_neg e]
      exact hI.up c hc
  · rw [hL] at hc
    have hcN:=(mem_liveL.1 hc).1
    rw [hkd c hc]
    by_cases e:c=u
    · subst e
      rw [if_pos rfl]
      have key:=hlu.remove hn (prv':=fun k=>(dropI I x k).p) (nxt':=fun k=>(dropI I x k).n) hp (fun k hk=>by
          have hk':(I x).n=some k:=hnx.trans hk
          have h2:=(hnxk k hk').2
          show (dropI I x k).p=(I x).p
          rw [pk k h2,if_pos hk']) (fun k hk hne=>by
          show (dropI I x k).p=(I k).p
          rw [pk k hk,if_neg (fun e=>hne (hnx.symm.trans e))]) (fun k h0 hk=>by
          have hk':(I x).p=some k:=by
            rw [hpv,if_neg h0];exact hk
          have h2:=(hpvk k hk').2
          show (dropI I x k).n=(I x).n
          rw [nk k h2,if_pos hk']) (fun k hk hne=>by
          show (dropI I x k).n=(I k).n
          rw [nk k hk,if_neg]
          rw [hpv]
          rcases hne with h | h
          · rw [if_pos h];simp
          · split
            · simp
            · exact h)
      have ef:(dropI I x c).f=if p=0 then (I x).n else (I c).f:=by
        rw [dropI,if_neg hux]
        simp only [hIu,true_and,hp0]
      have el:(dropI I x c).l=if p+1=(kidsN S c).length then (I x).p else (I c).l:=by
        rw [dropI,if_neg hux]
        simp only [hIu,true_and,hn0]
      rw [ef,el]
      exact key
    · rw [if_neg e]
      have hd:∀ k ∈ kidsN S c,k ∉ kidsN S u:=fun k hk hk'=>by
        have h1:=(kidsN_up hS hcN hk).2
        have h2:=(kidsN_up hS huN hk').2
        omega
      have hxc:∀ k ∈ kidsN S c,k≠x:=fun k hk e=>hd k hk (e ▸ hxk)
      have hext:=(hI.kids c hc).ext (prv':=fun k=>(dropI I x k).p) (nxt':=fun k=>(dropI I x k).n) (fun k hk=>by
          rw [pk k (hxc k hk),if_neg (fun e=>hd k hk (hnxk k e).1)]) (fun k hk=>by
          rw [nk k (hxc k hk),if_neg (fun e=>hd k hk (hpvk k e).1)])
      have hue:(I x).u≠some c:=by rw [hIu];simpa using fun h=>e h.symm
      have ef:(dropI I x c).f=(I c).f:=by
        unfold dropI
        by_cases e2:c=x
        · rw [if_pos e2,e2]
        · rw [if_neg e2];simp [hue]
      have el:(dropI I x c).l=(I c).l:=by
        unfold dropI
        by_cases e2:c=x
        · rw [if_pos e2,e2]
        · rw [if_neg e2];simp [hue]
      rw [ef,el]
      exact hext
  · rw [hL] at hc
    rw [hst] at h0
    by_cases e:c=x
    · rw [dropI,if_pos e];exact ⟨rfl,rfl⟩
    · rw [if_neg e] at h0
      obtain ⟨h1,h2⟩:=hI.loose c hc h0
      have hcu:c ∉ kidsN S u:=fun hm=>by
        have:=(kidsN_up hS huN hm).2
        omega
      rw [pk c e,nk c e,if_neg (fun e=>hcu (hnxk c e).1),if_neg (fun e=>hcu (hpvk c e).1)]
      exact ⟨h1,h2⟩
theorem LinkOk.create (hS:S.Ok R) (hI:LinkOk S I) (x:GOp):LinkOk (S.create x) (upd I S.N ⟨none,none,none,none,none⟩):=by
 have hne:∀ c ∈ liveL S,c≠S.N:=fun c hc=>by have:=(mem_liveL.1 hc).1;omega
 have hcase:∀ c ∈ liveL (S.create x),c=S.N∨c ∈ liveL S:=fun c hc=>by
  obtain ⟨h1,h2⟩:=mem_liveL.1 hc
  by_cases e:c=S.N
  ·exact .inl e
  ·refine .inr (mem_liveL.2 ⟨by simp only [MS.create] at h1;omega, ?_⟩)
   simp only [MS.create] at h2
   rw [upd_ne e] at h2;exact h2
 refine ⟨fun c hc => ?_,fun c hc => ?_,fun c hc h0 => ?_⟩
 ·rcases hcase c hc with rfl | h
  ·rw [upd_at]
   simp [upN,MS.create,upd_at]
  ·rw [upd_ne (hne c h)]
   have h2:(S.create x).st c=S.st c:=by simp only [MS.create];rw [upd_ne (hne c h)]
   have:upN (S.create x) c=upN S c:=by simp only [upN,h2]
   rw [this];exact hI.up c h
 ·rcases hcase c hc with rfl | h
  ·rw [upd_at]
   have:kidsN (S.create x) S.N=[]:=by simp [kidsN,MS.create,upd_at]
   rw [this]
   exact Linked.nil _ _
  ·rw [upd_ne (hne c h)]
   have:kidsN (S.create x) c=kidsN S c:=by simp only [kidsN,MS.create];rw [upd_ne (hne c h)]
   rw [this]
   refine (hI.kids c h).ext (fun k hk => ?_) (fun k hk => ?_)
   ·rw [upd_ne (hne k (kidsN_up hS (mem_liveL.1 h).1 hk).1)]
   ·rw [upd_ne (hne k (kidsN_up hS (mem_liveL.1 h).1 hk).1)]
 ·rcases hcase c hc with rfl | h
  ·rw [upd_at];exact ⟨rfl,rfl⟩
  ·rw [upd_ne (hne c h)]
   refine hI.loose c h ?_
   simp only [MS.create] at h0
   rw [upd_ne (hne c h)] at h0;exact h0
theorem LinkOk.less (hI:LinkOk S I) {S':MS} (hL:∀ k ∈ liveL S',k ∈ liveL S) (hst:∀ k ∈ liveL S',(S'.st k).up=(S.st k).up) (hkd:∀ k ∈ liveL S',S'.kd k=S.kd k):LinkOk S' I:=by
 refine ⟨fun c hc => ?_,fun c hc => ?_,fun c hc h0 => ?_⟩
 ·rw [hI.up c (hL c hc)]
  unfold upN
  rw [hst c hc]
 ·have:kidsN S' c=kidsN S c:=by simp only [kidsN];rw [hkd c hc]
  rw [this];exact hI.kids c (hL c hc)
 ·rw [hst c hc] at h0
  exact hI.loose c (hL c hc) h0
end
end Go.TA


end
section
/- Where a document lies in memory, and what is written there. Plain. -/
namespace Go.TA
structure GFr (g:List AObj) (O:Nat→Prop) (g':List AObj) (O':Nat→Prop):Prop where
 len:g.length≤g'.length
 keep:∀ j,j<g.length→¬ O j→g'[j]? = g[j]?
 refs:∀ j,O' j→j<g.length→O j
theorem GFr.refl (g:List AObj) (O:Nat→Prop):GFr g O g O:=⟨Nat.le_refl _,fun _ _ _=>rfl,fun _ h _=>h⟩
theorem GFr.trans {g g' g'':List AObj} {O O' O'':Nat→Prop} (h1:GFr g O g' O') (h2:GFr g' O' g'' O''):GFr g O g'' O'' where
 len:=Nat.le_trans h1.len h2.len
 keep j hj hn:=by
  rw [h2.keep j (Nat.lt_of_lt_of_le hj h1.len) (fun h=>hn (h1.refs j h hj))]
  exact h1.keep j hj hn
 refs j hj hl:=h1.refs j (h2.refs j hj (Nat.lt_of_lt_of_le hl h1.len)) hl
def iAV (it:Nat→Nat):Option Nat→AV
 | none => .p .nilp
 | some k => .ptr true (it k) 6 1 0 0
theorem noLocal_iAV (it:Nat→Nat) (x:Option Nat):noLocal (iAV it x)=true:=by cases x <;> rfl
theorem cells_iAV (it:Nat→Nat) (x:Option Nat):(iAV it x).cells=some [iAV it x]:=by cases x <;> rfl
theorem iAVe:(∀ it x,noLocal (iAV it x)=true)∧(∀ it x,(iAV it x).cells=some [iAV it x])∧(∀ ks it x,mentions ks (iAV it x)=false) :=
 ⟨noLocal_iAV,cells_iAV,fun ks it x=>by cases x <;> simp [iAV,mentions]⟩
theorem iAVs:(∀ it,iAV it none = .p .nilp)∧(∀ it k,iAV it (some k) = .ptr true (it k) 6 1 0 0):=⟨fun _=>rfl,fun _ _=>rfl⟩
abbrev IP (it:Nat→Nat) (c:Nat):AV:=.ptr true (it c) 6 1 0 0
abbrev NP (nd:Nat→Nat) (c:Nat):AV:=.ptr true (nd c) 5 1 0 0
def itemC (it:Nat→Nat) (c:Nat) (x:LK):List AV:=[.p (.int .i64 c),iAV it x.u,iAV it x.f,iAV it x.l,iAV it x.p,iAV it x.n]
def nodeC (it:Nat→Nat) (c:Nat) (s:MNode):List AV:=[IP it c,.p (.str s.tag),.p (.str s.key),.p (.str s.text),.p (.list (s.attrs.map Attr.pv))]
def Items (L:List Nat) (it:Nat→Nat) (I:Nat→LK) (g:List AObj):Prop:=∀ c ∈ L,∃ o,g[it c]? = some o∧RowRep 6 [itemC it c (I c)] o
def InjOn (L:List Nat) (f:Nat→Nat):Prop:=∀ c ∈ L,∀ d ∈ L,f c=f d→c=d
section
variable {L:List Nat} {it:Nat→Nat} {I:Nat→LK} {g:List AObj}
theorem item_rd {c:Nat} {x:LK} {o:AObj} (h:RowRep 6 [itemC it c x] o) :
  o.rd 1 1 0 0 6 false=some (.p (.int .i64 c))∧o.rd 1 1 0 1 6 false=some (iAV it x.u)∧o.rd 1 1 0 2 6 false=some (iAV it x.f)∧o.rd 1 1 0 3 6 false=some (iAV it x.l)∧o.rd 1 1 0 4 6 false=some (iAV it x.p)∧o.rd 1 1 0 5 6 false=some (iAV it x.n) :=
 ⟨h.rd1 (n:=1) (i:=0) (j:=0) rfl (by omega) rfl rfl (by omega),h.rd1 (n:=1) (i:=0) (j:=1) rfl (by omega) rfl rfl (by omega),h.rd1 (n:=1) (i:=0) (j:=2) rfl (by omega) rfl rfl (by omega),h.rd1 (n:=1) (i:=0) (j:=3) rfl (by omega) rfl rfl (by omega),h.rd1 (n:=1) (i:=0) (j:=4) rfl (by omega) rfl rfl (by omega),h.rd1 (n:=1) (i:=0) (j:=5) rfl (by omega) rfl rfl (by omega)⟩
theorem Items.wr (h:Items L it I g) (hj:InjOn L it) {c:Nat} (hc:c ∈ L) {j:Nat} (hj6:j+1≤6) {x:LK} (v:Option Nat) (hx:(itemC it c (I c)).set j (iAV it v)=itemC it c x) :
  ∃ o o',g[it c]? = some o∧RowRep 6 [itemC it c (I c)] o∧o.wr 1 0 j 6 [iAV it v]=some o'∧Items L it (upd I c x) (g.set (it c) o'):=by
 obtain ⟨o,ho,hr⟩:=h c hc
 obtain ⟨o',hw,hr'⟩:=hr.wr1 (n:=1) (i:=0) (j:=j) (c:=itemC it c (I c)) rfl (by omega) rfl rfl hj6 (iAV it v)
 refine ⟨o,o',ho,hr,hw,fun d hd => ?_⟩
 by_cases e:d=c
 ·subst e
  refine ⟨o',by rw [List.getElem?_set,if_pos rfl,if_pos (List.getElem?_eq_some_iff.1 ho).1], ?_⟩
  rw [upd_at, ← hx];exact hr'
 ·obtain ⟨od,hod,hrd⟩:=h d hd
  refine ⟨od, ?_, ?_⟩
  ·rw [List.getElem?_set,if_neg (fun e2=>e (hj c hc d hd e2).symm)];exact hod
  ·rw [upd_ne e];exact hrd
end
abbrev DocP (pd:Nat):AV:=.ptr true pd 2 1 0 0
def mapD (L:List Nat) (nd:Nat→Nat):List (PV × AV):=L.map fun c:Nat=>(.int .i64 (c:Int),NP nd c)
structure DocAt (L:List Nat) (st:Nat→MNode) (nx:Int) (it nd:Nat→Nat) (I:Nat→LK) (pd pm:Nat) (g:List AObj):Prop where
 doc:g[pd]? = some (.cells 2 [[.map true pm,.p (.int .i64 nx)]])
 map:g[pm]? = some (.map (mapD L nd))
 nodes:∀ c ∈ L,g[nd c]? = some (.cells 5 [nodeC it c (st c)])
 items:Items L it I g
 itInj:InjOn L it
 ndInj:InjOn L nd
 itNd:∀ c ∈ L,∀ d ∈ L,it c≠nd d
 itP:∀ c ∈ L,it c≠pd∧it c≠pm
 ndP:∀ c ∈ L,nd c≠pd∧nd c≠pm
 pp:pd≠pm
def DocOwn (L:List Nat) (it nd:Nat→Nat) (pd pm:Nat) (j:Nat):Prop:=j=pd∨j=pm∨∃ c ∈ L,j=it c∨j=nd c
section
variable {L:List Nat} {st:Nat→MNode} {nx:Int} {it nd:Nat→Nat} {I:Nat→LK} {pd pm:Nat} {g:List AObj}
theorem DocAt.own_lt (h:DocAt L st nx it nd I pd pm g) {j:Nat} (hj:DocOwn L it nd pd pm j):j<g.length:=by
 rcases hj with rfl | rfl | ⟨c,hc,rfl | rfl⟩
 ·exact (List.getElem?_eq_some_iff.1 h.doc).1
 ·exact (List.getElem?_eq_some_iff.1 h.map).1
 ·obtain ⟨o,ho,_⟩:=h.items c hc
  exact (List.getElem?_eq_some_iff.1 ho).1
 ·exact (List.getElem?_eq_some_iff.1 (h.nodes c hc)).1
theorem DocAt.keep (h:DocAt L st nx it nd I pd pm g) {g':List AObj} (hg:∀ j,DocOwn L it nd pd pm j→g'[j]? = g[j]?):DocAt L st nx it nd I pd pm g' where
 doc:=by rw [hg _ (.inl rfl)];exact h.doc
 map:=by rw [hg _ (.inr (.inl rfl))];exact h.map
 nodes c hc:=by rw [hg _ (.inr (.inr ⟨c,hc,.inr rfl⟩))];exact h.nodes c hc
 items c hc:=by rw [hg _ (.inr (.inr ⟨c,hc,.inl rfl⟩))];exact h.items c hc
 itInj:=h.itInj
 ndInj:=h.ndInj
 itNd:=h.itNd
 itP:=h.itP
 ndP:=h.ndP
 pp:=h.pp
theorem DocAt.more (h:DocAt L st nx it nd I pd pm g) (r:List AObj):DocAt L st nx it nd I pd pm (g++r) :=
 h.keep fun j hj=>List.getElem?_append_left (h.own_lt hj)
theorem DocAt.link (h:DocAt L st nx it nd I pd pm g) {c:Nat} (hc:c ∈ L) {j:Nat} (hj6:j+1≤6) (x:LK) (v:Option Nat) (hx:(itemC it c (I c)).set j (iAV it v)=itemC it c x) :
  ∃ o o' g',g[it c]? = some o∧RowRep 6 [itemC it c (I c)] o∧o.wr 1 0 j 6 [iAV it v]=some o'∧g.set (it c) o'=g'∧DocAt L st nx it nd (upd I c x) pd pm g'∧GFr g (DocOwn L it nd pd pm) g' (DocOwn L it nd pd pm):=by
 obtain ⟨o,o',h1,h2,h3,h4⟩:=h.items.wr h.itInj hc hj6 v hx
 refine ⟨o,o',_,h1,h2,h3,rfl,⟨?_, ?_,fun d hd => ?_,h4,h.itInj,h.ndInj,h.itNd,h.itP,h.ndP,h.pp⟩,⟨by simp,fun j hj hn => ?_,fun j hj _=>hj⟩⟩
 ·rw [List.getElem?_set,if_neg (h.itP c hc).1];exact h.doc
 ·rw [List.getElem?_set,if_neg (h.itP c hc).2];exact h.map
 ·rw [List.getElem?_set,if_neg (h.itNd c hc d hd)];exact h.nodes d hd
 ·rw [List.getElem?_set,if_neg (fun e=>hn (.inr (.inr ⟨c,hc,.inl e.symm⟩)))]
theorem RowRep.one {sz:Nat} {c:List AV} {o:AObj} (h:RowRep sz [c] o) {g:List AObj} {k:Nat} (ho:g[k]? = some o) (fr:List (Nat × AV)) (l:List (Nat × AObj)):St.one ⟨fr,l,g⟩ true k=true:=by
 rcases h with rfl | ⟨ps,rfl,e⟩
 ·simp [St.one,St.obj,ho]
 ·match ps,e with
  | [p],_=>simp [St.one,St.obj,ho]
  | [],e=>simp at e
  | _::_::_,e=>simp at e
theorem DocAt.one (h:DocAt L st nx it nd I pd pm g) {c:Nat} (hc:c ∈ L) (fr:List (Nat × AV)) (l:List (Nat × AObj)):St.one ⟨fr,l,g⟩ true (it c)=true:=by
 obtain ⟨o,ho,hr⟩:=h.items c hc
 exact hr.one ho fr l
theorem DocAt.node (h:DocAt L st nx it nd I pd pm g) {c:Nat} (hc:c ∈ L) (s:MNode):DocAt L (upd st c s) nx it nd I pd pm (g.set (nd c) (.cells 5 [nodeC it c s])) where
 doc:=by rw [List.getElem?_set,if_neg (h.ndP c hc).1];exact h.doc
 map:=by rw [List.getElem?_set,if_neg (h.ndP c hc).2];exact h.map
 nodes d hd:=by
  by_cases e:d=c
  ·subst e
   rw [List.getElem?_set,if_pos rfl,if_pos (List.getElem?_eq_some_iff.1 (h.nodes d hd)).1,upd_at]
  ·rw [List.getElem?_set,if_neg (fun e2=>e (h.ndInj c hc d hd e2).symm),upd_ne e];exact h.nodes d hd
 items d hd:=by
  rw [List.getElem?_set,if_neg (fun e=>h.itNd d hd c hc e.symm)];exact h.items d hd
 itInj:=h.itInj
 ndInj:=h.ndInj
 itNd:=h.itNd
 itP:=h.itP
 ndP:=h.ndP
 pp:=h.pp
theorem DocAt.st_congr (h:DocAt L st nx it nd I pd pm g) {st':Nat→MNode} (hs:∀ c ∈ L,nodeC it c (st' c)=nodeC it c (st c)) {I':Nat→LK} (hI:∀ c ∈ L,I' c=I c):DocAt L st' nx it nd I' pd pm g where
 doc:=h.doc
 map:=h.map
 nodes c hc:=by rw [hs c hc];exact h.nodes c hc
 items c hc:=by rw [hI c hc];exact h.items c hc
 itInj:=h.itInj
 ndInj:=h.ndInj
 itNd:=h.itNd
 itP:=h.itP
 ndP:=h.ndP
 pp:=h.pp
end
theorem mlk_mapD (L : List Nat) (nd : Nat → Nat) (id : Int) : mlk 1 (mapD L nd) (.int .i64 id) = if id.toNat ∈ L ∧ 0 ≤ id then some (NP nd id.toNat) else none := by
  induction L with
  | nil=>simp [mapD,mlk]
  | cons c L ih =>
    have e:mapD (c::L) nd=(.int .i64 c,NP nd c)::mapD L nd:=rfl
    rw [e,mlk]
    simp only [scalarEqK,if_true,Option.some.injEq,beq_iff_eq]
    by_cases h:(c:Int)=id
    · subst h;simp
    · rw [if_neg h,ih]
      have:¬ id.toNat=c∨¬ 0≤id:=by omega
      by_cases h2:id.toNat ∈ L∧0≤id
      · rw [if_pos h2,if_pos ⟨List.mem_cons_of_mem _ h2.1,h2.2⟩]
      · rw [if_neg h2,if_neg]
        rintro ⟨h3,h4⟩
        rcases List.mem_cons.1 h3 with h5 | h5
        · omega
        · exact h2 ⟨h5,h4⟩
theorem mapD_keys (L:List Nat) (nd:Nat→Nat) (id:Int):(mapD L nd).all (fun e=>(scalarEqK 1 e.1 (.int .i64 id)).isSome)=true:=by
 simp [mapD,scalarEqK]
theorem mput_mapD {L:List Nat} {nd:Nat→Nat} {c:Nat} (h:c ∉ L) (q:Nat):mput 1 (mapD L nd) (.int .i64 c) (.ptr true q 5 1 0 0)=mapD (L++[c]) (upd nd c q):=by
  have:∀ L:List Nat,c ∉ L→mput 1 (mapD L nd) (.int .i64 c) (.ptr true q 5 1 0 0)=mapD L nd++[(.int .i64 c,.ptr true q 5 1 0 0)]:=by
    intro L
    induction L with
    | nil=>intro _;rfl
    | cons d L ih =>
      intro h
      simp only [List.mem_cons,not_or] at h
      have e:mapD (d::L) nd=(.int .i64 d,NP nd d)::mapD L nd:=rfl
      rw [e,mput]
      simp only [scalarEqK,if_true,Option.some.injEq,beq_iff_eq]
      rw [if_neg (by omega),ih h.2];rfl
  rw [this L h]
  unfold mapD
  rw [List.map_append]
  congr 1
  · refine List.map_congr_left fun d hd => ?_
    have hne:d≠c:=fun e=>by subst e;exact h hd
    simp only [NP,upd_ne hne]
  · simp [upd_at]
theorem mdel_mapD {L:List Nat} (hn:L.Nodup) (nd:Nat→Nat) (c:Nat):mdel 1 (mapD L nd) (.int .i64 c)=mapD (L.filter fun k => !(k==c)) nd:=by
  induction L with
  | nil=>rfl
  | cons d L ih =>
    rw [List.nodup_cons] at hn
    have e:mapD (d::L) nd=(.int .i64 d,NP nd d)::mapD L nd:=rfl
    rw [e,mdel]
    simp only [scalarEqK,if_true,Option.some.injEq,beq_iff_eq]
    by_cases h:d=c
    · subst h
      rw [if_pos rfl,List.filter_cons,if_neg (by simp),List.filter_eq_self.2]
      intro k hk
      have:k≠d:=fun e=>hn.1 (e ▸ hk)
      simpa using this
    · rw [if_neg (by omega),List.filter_cons,if_pos (by simpa using h),ih hn.2];rfl
end Go.TA


end
section
/- Functions of the program, lowered: each is held against the program's own text by the kernel. -/
namespace Go.TA.Try
def B3x0:LCode :=
 (.seq (rN [
 oN 33 (.bin .lss (.t 32) (.t 31)) 0] [1,5,6,31,32,33]) (.seq (.cond (.t 33) (kS [1,5,6,31,32]) (kB [5,6] (.exit 0))) (kB [1,5,6,31,32] (.seq (.block 1 (.seq (rN [
 oM 34 32 0,oM 7 34 1] [1,5,6,7,31,32]) (.seq (rN [
 oM 36 5 0,oM 37 1 1,oM 38 7 2,oN 39 (.indexAddr 9 (.t 37) (.t 38)) 3,oN 40 (.load 9 true (.t 39)) 4,oN 41 (.call 8 [(.t 36,.as),(.t 40,.as)]) 5,oM 35 41 6,oN 42 (.extract (.t 35) 0) 7,oN 43 (.extract (.t 35) 1) 8,oM 8 42 9,oM 9 43 10] [1,5,6,7,8,9,31,32]) (.seq (rN [
 oM 44 1 0,oM 45 7 1,oN 46 (.indexAddr 9 (.t 44) (.t 45)) 2,oN 47 (fA 0 46) 3,oN 48 (lD 47) 4,oN 49 (.eq .i false (.t 48) (iC 1)) 5,oM 50 49 6,oG 51 (.move (.t 9)) 50 true 7,oG 52 (.eq .i false (.t 51) (iC 0)) 50 true 8,oN 53 (.pick (.t 50) (.t 52) (.c (.bool false))) 9] [1,5,6,7,8,9,31,32,53]) (.seq (.cond (.t 53) (.seq (rN [
 oM 54 8 0,oM 55 6 1,oN 56 (.bin .add (.t 55) (iC 1)) 2,oN 57 (.eq .i true (.t 54) (.t 56)) 3] [1,5,7,8,9,31,32,57]) (.seq (.cond (.t 57) (.seq (rN [
 oN 4 (.move (.c (.bool false))) 0] [4]) (kB [4] .ret)) (kS [1,5,7,8,9,31,32])) (kB [1,5,7,8,9,31,32] (.seq (rN [
 oM 58 8 0,oM 6 58 1] [1,5,6,7,9,31,32]) (kS [1,5,6,7,9,31,32]))))) (kS [1,5,6,7,9,31,32])) (kB [1,5,6,7,9,31,32] (.seq (rN [
 oM 60 5 0,oM 61 1 1,oM 62 7 2,oN 63 (.indexAddr 9 (.t 61) (.t 62)) 3,oN 64 (fA 1 63) 4,oN 65 (lD 64) 5,oN 66 (.call 9 [(.t 60,.as),(.t 65,.as)]) 6,oM 59 66 7,oN 67 (.extract (.t 59) 0) 8,oN 68 (.extract (.t 59) 1) 9,oN 10 (.alloc false 10 [.p (.int .i64 0),.p (.int .i64 0),.p (.int .i64 0),.p (.int .i64 0),.p (.int .i64 0)] []) 10,⟨none,.store 5 true (.t 10) (.t 67),none,11,[]⟩,oM 11 68 12] [1,5,6,7,9,11,31,32]) (.seq (rN [
 oM 69 1 0,oM 70 7 1,oN 71 (.indexAddr 9 (.t 69) (.t 70)) 2,oN 72 (fA 0 71) 3,oN 73 (lD 72) 4,oN 74 (.eq .i false (.t 73) (iC 4)) 5,oM 75 74 6,oG 76 (.move (.t 9)) 75 true 7,oG 77 (.eq .i false (.t 76) (iC 0)) 75 true 8,oN 78 (.pick (.t 75) (.t 77) (.c (.bool false))) 9,oM 79 78 10,oG 80 (.move (.t 11)) 79 true 11,oN 81 (.pick (.t 79) (.t 80) (.c (.bool false))) 12] [1,5,6,31,32,81]) (.seq (.cond (.t 81) (.seq (rN [
 oN 4 (.move (.c (.bool false))) 0] [4]) (kB [4] .ret)) (kS [1,5,6,31,32])) (kS [1,5,6,31,32])))))))))) (kB [1,5,6,31,32] (.seq (rN [
 oN 82 (.bin .add (.t 32) (iC 1)) 0,oM 32 82 1] [1,5,6,31,32]) (kS [1,5,6,31,32])))))))
def F3:LFunc:={ nparams:=2,results:=[.tmp 4],pure:=true,body :=
 (.seq (rN [
 oN 4 (.move (.c (.bool false))) 0] [0,1]) (.seq (rN [
 oM 14 1 0,oN 15 (.pcall 5 [(.t 14,.as),(.c (.int .i64 150),.as)]) 1,oN 16 (.un .not (.t 15)) 2,oM 17 16 3,oG 18 (.move (.t 0)) 17 false 4,oG 19 (.bin .lss (.t 18) (iC 1)) 17 false 5,oN 20 (.pick (.t 17) (.c (.bool true)) (.t 19)) 6,oM 21 20 7,oG 22 (.move (.t 0)) 21 false 8,oG 23 (.bin .gtr (.t 22) (iC 4294967296)) 21 false 9,oN 24 (.pick (.t 21) (.c (.bool true)) (.t 23)) 10] [0,1,24]) (.seq (.cond (.t 24) (.seq (rN [
 oN 25 (.pcall 6 []) 0,oM 4 25 1] [4]) (kB [4] .ret)) (kS [0,1])) (kB [0,1] (.seq (rN [
 oM 26 0 0,oN 27 (.call 7 [(.t 26,.as)]) 1,oM 5 27 2] [0,1,5]) (.seq (rN [
 oM 28 0 0,oN 29 (.bin .sub (.t 28) (iC 1)) 1,oM 6 29 2] [1,5,6]) (.seq (rN [
 oM 30 1 0,oN 31 (.len 1 (.t 30)) 1,oN 32 (.move (iC 0)) 2] [1,5,6,31,32]) (.seq (.block 0 (.seq (kB [1,5,6,31,32] (.loop B3x0)) (kS [5,6]))) (kB [5,6] (.seq (rN [
 oM 84 5 0,oM 85 6 1,oN 86 (.bin .add (.t 85) (iC 1)) 2,oN 87 (.call 9 [(.t 84,.as),(.t 86,.as)]) 3,oM 83 87 4,oN 88 (.extract (.t 83) 0) 5,oN 89 (.extract (.t 83) 1) 6,oN 12 (.alloc false 12 [.p (.int .i64 0),.p (.int .i64 0),.p (.int .i64 0),.p (.int .i64 0),.p (.int .i64 0)] []) 7,⟨none,.store 5 true (.t 12) (.t 88),none,8,[]⟩,oM 13 89 9] [5,6,13]) (.seq (rN [
 oM 90 13 0,oN 91 (.un .not (.t 90)) 1,oM 92 91 2,oG 93 (.move (.t 5)) 92 true 3,oG 94 (.call 10 [(.t 93,.as)]) 92 true 4,oG 95 (.move (.t 6)) 92 true 5,oG 96 (.bin .add (.t 95) (iC 1)) 92 true 6,oG 97 (.eq .i false (.t 94) (.t 96)) 92 true 7,oN 98 (.pick (.t 92) (.t 97) (.c (.bool false))) 8,oM 99 98 9,oG 100 (.pcall 6 []) 99 true 10,oN 101 (.pick (.t 99) (.t 100) (.c (.bool false))) 11,oM 4 101 12] [4]) (kB [4] .ret)))))))))))) }
theorem ok3:fnSoundB Go.Proofs.Try.prog 3 F3=true:=by decide +kernel
def B5x1:LCode :=
 (.seq (.region [
 oN 48 (.bin .lss (.t 47) (.t 46)) 0] false [0,5,7,11,12,46,47,48] [7]) (.seq (.cond (.t 48) (.keep [0,5,7,11,12,46,47] [7] .skip) (kB [0,5,11,12] (.exit 2))) (.keep [0,5,7,11,12,46,47] [7] (.seq (.block 3 (.seq (.region [
 oM 49 47 0,oM 8 49 1] false [0,5,7,8,11,12,46,47] [7]) (.seq (.region [
 oM 50 5 0,oN 51 (fA 8 7) 1,oN 52 (lD 51) 2,oM 53 8 3,oN 54 (.indexAddr 2 (.t 52) (.t 53)) 4,oN 55 (fA 1 54) 5,oN 56 (lD 55) 6,oN 57 (.len 0 (.t 56)) 7,oN 58 (fA 8 7) 8,oN 59 (lD 58) 9,oM 60 8 10,oN 61 (.indexAddr 2 (.t 59) (.t 60)) 11,oN 62 (fA 0 61) 12,oN 63 (lD 62) 13,oN 64 (.len 0 (.t 63)) 14,oN 65 (.bin .add (.t 57) (.t 64)) 15,oN 66 (.bin .quo (.t 65) (iC 4096)) 16,oN 67 (.bin .sub (.t 50) (.t 66)) 17,oM 5 67 18] true [0,5,7,11,12,46,47] [7]) (.keep [0,5,7,11,12,46,47] [7] .skip)))) (.keep [0,5,7,11,12,46,47] [7] (.seq (.region [
 oN 68 (.bin .add (.t 47) (iC 1)) 0,oM 47 68 1] false [0,5,7,11,12,46,47] [7]) (.keep [0,5,7,11,12,46,47] [7] .skip)))))))
def B5x0:LCode :=
 (.seq (rN [
 oN 13 (.bin .lss (.t 12) (.t 11)) 0] [0,5,11,12,13]) (.seq (.cond (.t 13) (kS [0,5,11,12]) (kB [5] (.exit 0))) (kB [0,5,11,12] (.seq (.block 1 (.seq (rN [
 oM 14 12 0,oM 6 14 1] [0,5,6,11,12]) (.seq (.region [
 oM 15 0 0,oM 16 6 1,oN 17 (.indexAddr 9 (.t 15) (.t 16)) 2,oN 18 (.load 9 true (.t 17)) 3,oN 7 (.alloc false 7 [.p (.int .i64 0),.p (.int .i64 0),.p (.int .i64 0),.p (.int .i64 0),.p (.str []),.p (.str []),.p (.str []),.p (.str []),.p (.list [])] []) 4,⟨none,.store 9 true (.t 7) (.t 18),none,5,[]⟩] false [0,5,7,11,12] [7]) (.seq (.region [
 oM 19 5 0,oN 20 (.bin .sub (.t 19) (iC 1)) 1,oN 21 (fA 8 7) 2,oN 22 (lD 21) 3,oN 23 (.len 1 (.t 22)) 4,oN 24 (.bin .sub (.t 20) (.t 23)) 5,oN 25 (fA 7 7) 6,oN 26 (lD 25) 7,oN 27 (.len 0 (.t 26)) 8,oN 28 (fA 5 7) 9,oN 29 (lD 28) 10,oN 30 (.len 0 (.t 29)) 11,oN 31 (.bin .add (.t 27) (.t 30)) 12,oN 32 (fA 4 7) 13,oN 33 (lD 32) 14,oN 34 (.len 0 (.t 33)) 15,oN 35 (.bin .add (.t 31) (.t 34)) 16,oN 36 (fA 6 7) 17,oN 37 (lD 36) 18,oN 38 (.len 0 (.t 37)) 19,oN 39 (.bin .add (.t 35) (.t 38)) 20,oN 40 (.bin .quo (.t 39) (iC 4096)) 21,oN 41 (.bin .sub (.t 24) (.t 40)) 22,oM 5 41 23] false [0,5,7,11,12] [7]) (.seq (.region [
 oM 42 5 0,oN 43 (.bin .lss (.t 42) (iC 0)) 1] false [0,5,7,11,12,43] [7]) (.seq (.cond (.t 43) (.seq (rN [
 oN 4 (.move (.c (.bool false))) 0] [4]) (kB [4] .ret)) (.keep [0,5,7,11,12] [7] .skip)) (.keep [0,5,7,11,12] [7] (.seq (.region [
 oN 44 (fA 8 7) 0,oN 45 (lD 44) 1,oN 46 (.len 1 (.t 45)) 2,oN 47 (.move (iC 0)) 3] false [0,5,7,11,12,46,47] [7]) (.seq (.block 2 (.seq (.keep [0,5,7,11,12,46,47] [7] (.loop B5x1)) (kS [0,5,11,12]))) (kS [0,5,11,12])))))))))) (kB [0,5,11,12] (.seq (rN [
 oN 69 (.bin .add (.t 12) (iC 1)) 0,oM 12 69 1] [0,5,11,12]) (kS [0,5,11,12])))))))
def F5:LFunc:={ nparams:=2,results:=[.tmp 4],pure:=true,body :=
 (.seq (rN [
 oN 4 (.move (.c (.bool false))) 0] [0,1]) (.seq (rN [
 oM 9 1 0,oM 5 9 1] [0,5]) (.seq (rN [
 oM 10 0 0,oN 11 (.len 1 (.t 10)) 1,oN 12 (.move (iC 0)) 2] [0,5,11,12]) (.seq (.block 0 (.seq (kB [0,5,11,12] (.loop B5x0)) (kS [5]))) (kB [5] (.seq (rN [
 oM 70 5 0,oN 71 (.bin .geq (.t 70) (iC 0)) 1,oM 4 71 2] [4]) (kB [4] .ret))))))) }
theorem ok5:fnSoundB Go.Proofs.Try.prog 5 F5=true:=by decide +kernel
def F6:LFunc:={ nparams:=0,results:=[.tmp 0],pure:=true,body :=
 (.seq (rN [
 oN 0 (.move (.c (.bool false))) 0] []) (.seq (rN [
 oN 9 (.call 7 [(.c (.int .i64 5),.as)]) 0,oM 1 9 1] [1]) (.seq (rN [
 oM 11 1 0,oN 12 (.call 12 [(.t 11,.as),(.c (.str [112]),.as),(.c (.str []),.as),(.c (.str []),.as),(.c (.list []),.as)]) 1,oM 10 12 2,oN 13 (.extract (.t 10) 0) 3,oN 14 (.extract (.t 10) 1) 4,oM 2 13 5,oM 3 14 6] [1,2,3]) (.seq (rN [
 oM 16 1 0,oN 17 (.build [.p (.str []),.p (.str [])] [(0,1,.c (.str [97])),(1,1,.c (.str [49]))]) 1,oN 18 (.row 2 [.t 17]) 2,oN 19 (.call 12 [(.t 16,.as),(.c (.str [98]),.as),(.c (.str [107]),.as),(.c (.str [120]),.as),(.t 18,.freeze)]) 3,oM 15 19 4,oN 20 (.extract (.t 15) 0) 5,oN 21 (.extract (.t 15) 1) 6,oM 4 20 7,oM 5 21 8] [1,2,3,4,5]) (.seq (rN [
 oM 22 1 0,oM 23 2 1,oN 24 (.call 13 [(.t 22,.as),(.t 23,.as),(.c (.int .i64 0),.as),(.c (.int .i64 0),.as)]) 2,oM 6 24 3] [1,2,3,4,5,6]) (.seq (rN [
 oM 25 1 0,oM 26 4 1,oM 27 2 2,oN 28 (.call 13 [(.t 25,.as),(.t 26,.as),(.t 27,.as),(.c (.int .i64 0),.as)]) 3,oM 7 28 4] [1,2,3,4,5,6,7]) (.seq (rN [
 oM 29 1 0,oN 30 (.call 19 [(.t 29,.as)]) 1,oM 8 30 2] [1,2,3,4,5,6,7,8]) (.seq (rN [
 oM 31 3 0,oN 32 (.eq .i false (.t 31) (iC 0)) 1,oM 33 32 2,oG 34 (.move (.t 5)) 33 true 3,oG 35 (.eq .i false (.t 34) (iC 0)) 33 true 4,oN 36 (.pick (.t 33) (.t 35) (.c (.bool false))) 5,oM 37 36 6,oG 38 (.move (.t 6)) 37 true 7,oG 39 (.eq .i false (.t 38) (iC 0)) 37 true 8,oN 40 (.pick (.t 37) (.t 39) (.c (.bool false))) 9,oM 41 40 10,oG 42 (.move (.t 7)) 41 true 11,oG 43 (.eq .i false (.t 42) (iC 0)) 41 true 12,oN 44 (.pick (.t 41) (.t 43) (.c (.bool false))) 13,oM 45 44 14,oG 46 (.move (.t 2)) 45 true 15,oG 47 (.eq .i false (.t 46) (iC 5)) 45 true 16,oN 48 (.pick (.t 45) (.t 47) (.c (.bool false))) 17,oM 49 48 18,oG 50 (.move (.t 4)) 49 true 19,oG 51 (.eq .i false (.t 50) (iC 6)) 49 true 20,oN 52 (.pick (.t 49) (.t 51) (.c (.bool false))) 21,oM 53 52 22,oG 54 (.move (.t 8)) 53 true 23,oG 55 (.len 1 (.t 54)) 53 true 24,oG 56 (.eq .i false (.t 55) (iC 2)) 53 true 25,oN 57 (.pick (.t 53) (.t 56) (.c (.bool false))) 26,oM 58 57 27,oG 59 (.move (.t 8)) 58 true 28,oG 60 (.indexAddr 6 (.t 59) (iC 1)) 58 true 29,oG 61 (fA 0 60) 58 true 30,oG 62 (lD 61) 58 true 31,oG 63 (.eq .i false (.t 62) (iC 6)) 58 true 32,oN 64 (.pick (.t 58) (.t 63) (.c (.bool false))) 33,oM 65 64 34,oG 66 (.move (.t 8)) 65 true 35,oG 67 (.indexAddr 6 (.t 66) (iC 1)) 65 true 36,oG 68 (fA 1 67) 65 true 37,oG 69 (lD 68) 65 true 38,oG 70 (.eq .i false (.t 69) (iC 1)) 65 true 39,oN 71 (.pick (.t 65) (.t 70) (.c (.bool false))) 40,oM 72 71 41,oG 73 (.move (.t 8)) 72 true 42,oG 74 (.indexAddr 6 (.t 73) (iC 1)) 72 true 43,oG 75 (fA 3 74) 72 true 44,oG 76 (lD 75) 72 true 45,oG 77 (.eq .s false (.t 76) (.c (.str [107]))) 72 true 46,oN 78 (.pick (.t 72) (.t 77) (.c (.bool false))) 47,oM 79 78 48,oG 80 (.move (.t 1)) 79 true 49,oG 81 (.call 10 [(.t 80,.as)]) 79 true 50,oG 82 (.eq .i false (.t 81) (iC 7)) 79 true 51,oN 83 (.pick (.t 79) (.t 82) (.c (.bool false))) 52,oM 0 83 53] [0]) (kB [0] .ret))))))))) }
theorem ok6:fnSoundB Go.Proofs.Try.prog 6 F6=true:=by decide +kernel
def F7:LFunc:={ nparams:=1,results:=[.tmp 2],pure:=false,body :=
 (.seq (rN [
 oN 2 (.move (.c (.nilp))) 0] [0]) (.seq (rN [
 oM 3 0 0,oN 4 (.bin .lss (.t 3) (iC 1)) 1,oM 5 4 2,oG 6 (.move (.t 0)) 5 false 3,oG 7 (.bin .gtr (.t 6) (iC 4294967296)) 5 false 4,oN 8 (.pick (.t 5) (.c (.bool true)) (.t 7)) 5] [0,8]) (.seq (.cond (.t 8) (.seq (rN [
 oN 2 (.move (.c (.nilp))) 0] [2]) (kB [2] .ret)) (kS [0])) (kB [0] (.seq (rN [
 oN 9 (.makeMap true 9) 0,oN 10 (.call 20 [(.c (.int .i64 0),.as)]) 1,oN 11 (.build [.p (.nilp),.p (.str []),.p (.str []),.p (.str []),.p (.list [])] [(0,1,.t 10)]) 2,oN 12 (.box true 12 (.t 11)) 3,⟨none,.mapUpdate 1 (.t 9) (iC 0) (.t 12),none,4,[]⟩,oM 13 9 5,oM 14 0 6,oN 15 (.build [.p (.nilm),.p (.int .i64 0)] [(0,1,.t 13),(1,1,.t 14)]) 7,oN 16 (.box true 16 (.t 15)) 8,oM 2 16 9] [2]) (kB [2] .ret)))))) }
theorem ok7:fnSoundB Go.Proofs.Try.prog 7 F7=true:=by decide +kernel
def F8:LFunc:={ nparams:=2,results:=[.tmp 4,.tmp 5],pure:=false,body :=
 (.seq (.region [
 oN 3 (.box false 3 (.t 1)) 0,oN 4 (.move (iC 0)) 1,oN 5 (.move (iC 0)) 2] false [0,3] [3]) (.seq (.region [
 oN 6 (.move (iC 0)) 0] false [0,3,6] [3]) (.seq (.region [
 oN 9 (fA 0 3) 0,oN 10 (lD 9) 1] false [0,3,6,10] [3]) (.seq (.block 0 (.seq (.region [
 oN 12 (.eq .i false (.t 10) (iC 1)) 0,oM 11 12 1] false [0,3,6,10,11] [3]) (.seq (.cond (.t 11) (.seq (rN [
 oM 14 0 0,oN 15 (fA 4 3) 1,oN 16 (lD 15) 2,oN 17 (fA 5 3) 3,oN 18 (lD 17) 4,oN 19 (fA 7 3) 5,oN 20 (lD 19) 6,oN 21 (fA 8 3) 7,oN 22 (lD 21) 8,oN 23 (.call 12 [(.t 14,.as),(.t 16,.as),(.t 18,.as),(.t 20,.as),(.t 22,.as)]) 9,oM 13 23 10,oN 24 (.extract (.t 13) 0) 11,oN 25 (.extract (.t 13) 1) 12,oM 7 24 13,oM 8 25 14] [7,8]) (.seq (rN [
 oM 26 7 0,oM 27 8 1,oM 4 26 2,oM 5 27 3] [4,5]) (kB [4,5] .ret))) (.seq (.region [
 oN 29 (.eq .i false (.t 10) (iC 2)) 0,oM 28 29 1] false [0,3,6,10,28] [3]) (.seq (.cond (.t 28) (.seq (rN [
 oM 30 0 0,oN 31 (fA 1 3) 1,oN 32 (lD 31) 2,oN 33 (fA 2 3) 3,oN 34 (lD 33) 4,oN 35 (fA 3 3) 5,oN 36 (lD 35) 6,oN 37 (.call 13 [(.t 30,.as),(.t 32,.as),(.t 34,.as),(.t 36,.as)]) 7,oM 6 37 8] [6]) (kS [6])) (.seq (.region [
 oN 39 (.eq .i false (.t 10) (iC 3)) 0,oM 38 39 1] false [0,3,6,10,38] [3]) (.seq (.cond (.t 38) (.seq (rN [
 oM 40 0 0,oN 41 (fA 1 3) 1,oN 42 (lD 41) 2,oN 43 (fA 3 3) 3,oN 44 (lD 43) 4,oN 45 (.call 14 [(.t 40,.as),(.t 42,.as),(.t 44,.as)]) 5,oM 6 45 6] [6]) (kS [6])) (.seq (.region [
 oN 47 (.eq .i false (.t 10) (iC 4)) 0,oM 46 47 1] false [0,3,6,10,46] [3]) (.seq (.cond (.t 46) (.seq (rN [
 oM 48 0 0,oN 49 (fA 1 3) 1,oN 50 (lD 49) 2,oN 51 (.call 15 [(.t 48,.as),(.t 50,.as)]) 3,oM 6 51 4] [6]) (kS [6])) (.seq (.region [
 oN 53 (.eq .i false (.t 10) (iC 5)) 0,oM 52 53 1] false [0,3,6,10,52] [3]) (.seq (.cond (.t 52) (.seq (rN [
 oM 54 0 0,oN 55 (fA 1 3) 1,oN 56 (lD 55) 2,oN 57 (fA 6 3) 3,oN 58 (lD 57) 4,oN 59 (fA 7 3) 5,oN 60 (lD 59) 6,oN 61 (.call 21 [(.t 54,.as),(.t 56,.as),(.t 58,.as),(.t 60,.as)]) 7,oM 6 61 8] [6]) (kS [6])) (.seq (.region [
 oN 63 (.eq .i false (.t 10) (iC 6)) 0,oM 62 63 1] false [0,3,6,10,62] [3]) (.seq (.cond (.t 62) (.seq (rN [
 oM 64 0 0,oN 65 (fA 1 3) 1,oN 66 (lD 65) 2,oN 67 (fA 6 3) 3,oN 68 (lD 67) 4,oN 69 (.call 22 [(.t 64,.as),(.t 66,.as),(.t 68,.as)]) 5,oM 6 69 6] [6]) (kS [6])) (.seq (.region [
 oN 71 (.eq .i false (.t 10) (iC 7)) 0,oM 70 71 1] false [0,3,6,70] [3]) (.seq (.cond (.t 70) (.seq (rN [
 oM 72 0 0,oN 73 (fA 1 3) 1,oN 74 (lD 73) 2,oN 75 (fA 7 3) 3,oN 76 (lD 75) 4,oN 77 (.call 23 [(.t 72,.as),(.t 74,.as),(.t 76,.as)]) 5,oM 6 77 6] [6]) (kS [6])) (kS [6])) (kS [6])))) (kS [6])))) (kS [6])))) (kS [6])))) (kS [6])))) (kS [6])))) (kS [6])))) (kB [6] (.seq (rN [
 oM 78 6 0,oN 4 (.move (iC 0)) 1,oM 5 78 2] [4,5]) (kB [4,5] .ret))))))) }
theorem ok8:fnSoundB Go.Proofs.Try.prog 8 F8=true:=by decide +kernel
def F9:LFunc:={ nparams:=2,results:=[.cell 4 5 true,.tmp 5],pure:=false,body :=
 (.seq (.region [
 oN 4 (.alloc false 4 [.p (.int .i64 0),.p (.int .i64 0),.p (.int .i64 0),.p (.int .i64 0),.p (.int .i64 0)] []) 0,oN 5 (.move (.c (.bool false))) 1] false [0,1,4] [4]) (.seq (.region [
 oM 7 0 0,oN 8 (.eq .ptr false (.t 7) (.c (.nilp))) 1,oM 9 8 2,oG 10 (.move (.t 0)) 9 false 3,oG 11 (.nilCheck (.t 10)) 9 false 4,oG 12 (fA 0 11) 9 false 5,oG 13 (lD 12) 9 false 6,oG 14 (.move (.t 1)) 9 false 7,oG 15 (.lookup 1 (.nilp) false (.t 13) (.t 14)) 9 false 8,oG 16 (.eq .ptr false (.t 15) (.c (.nilp))) 9 false 9,oN 17 (.pick (.t 9) (.c (.bool true)) (.t 16)) 10] false [0,1,4,17] [4]) (.seq (.cond (.t 17) (.seq (.region [
 oN 18 (.build [.p (.int .i64 0),.p (.int .i64 0),.p (.int .i64 0),.p (.int .i64 0),.p (.int .i64 0)] []) 0,⟨none,.store 5 true (.t 4) (.t 18),none,1,[]⟩,oN 5 (.move (.c (.bool false))) 2] false [4,5] [4]) (.keep [4,5] [4] .ret)) (.keep [0,1,4] [4] .skip)) (.keep [0,1,4] [4] (.seq (.region [
 oM 19 0 0,oN 20 (.nilCheck (.t 19)) 1,oN 21 (fA 0 20) 2,oN 22 (lD 21) 3,oM 23 1 4,oN 24 (.lookup 1 (.nilp) false (.t 22) (.t 23)) 5,oM 6 24 6] false [4,6] [4]) (.seq (.draw [
 oM 25 6 0,oN 26 (.nilCheck (.t 25)) 1,oN 27 (fA 0 26) 2,oN 28 (lD 27) 3,oM 31 6 6,oN 32 (.nilCheck (.t 31)) 7,oN 33 (fA 0 32) 8,oN 34 (lD 33) 9,oM 37 6 12,oN 38 (.nilCheck (.t 37)) 13,oN 39 (fA 0 38) 14,oN 40 (lD 39) 15,oM 43 6 18,oN 44 (.nilCheck (.t 43)) 19,oN 45 (fA 0 44) 20,oN 46 (lD 45) 21,oM 49 6 24,oN 50 (.nilCheck (.t 49)) 25,oN 51 (fA 0 50) 26,oN 52 (lD 51) 27,⟨some 29,.call 25 [(.t 28,.as)],none,4,[9,15,21,27]⟩,⟨some 30,.call 24 [(.t 29,.as)],none,5,[9,15,21,27]⟩,⟨some 35,.call 26 [(.t 34,.as)],none,10,[15,21,27]⟩,⟨some 36,.call 24 [(.t 35,.as)],none,11,[15,21,27]⟩,⟨some 41,.call 27 [(.t 40,.as)],none,16,[21,27]⟩,⟨some 42,.call 24 [(.t 41,.as)],none,17,[21,27]⟩,⟨some 47,.call 28 [(.t 46,.as)],none,22,[27]⟩,⟨some 48,.call 24 [(.t 47,.as)],none,23,[27]⟩,oN 53 (.call 29 [(.t 52,.as)]) 28,oN 54 (.call 24 [(.t 53,.as)]) 29,oN 55 (.build [.p (.int .i64 0),.p (.int .i64 0),.p (.int .i64 0),.p (.int .i64 0),.p (.int .i64 0)] [(0,1,.t 30),(1,1,.t 36),(2,1,.t 42),(3,1,.t 48),(4,1,.t 54)]) 30,⟨none,.store 5 true (.t 4) (.t 55),none,31,[]⟩,oN 5 (.move (.c (.bool true))) 32] [4,5] [4]) (.keep [4,5] [4] .ret))))))) }
theorem ok9:fnSoundB Go.Proofs.Try.prog 9 F9=true:=by decide +kernel
def F10:LFunc:={ nparams:=1,results:=[.tmp 2],pure:=false,body :=
 (.seq (rN [
 oN 2 (.move (iC 0)) 0] [0]) (.seq (rN [
 oM 3 0 0,oN 4 (.eq .ptr false (.t 3) (.c (.nilp))) 1] [0,4]) (.seq (.cond (.t 4) (.seq (rN [
 oN 2 (.move (iC 0)) 0] [2]) (kB [2] .ret)) (kS [0])) (kB [0] (.seq (rN [
 oM 5 0 0,oN 6 (.nilCheck (.t 5)) 1,oN 7 (fA 1 6) 2,oN 8 (lD 7) 3,oM 2 8 4] [2]) (kB [2] .ret)))))) }
theorem ok10:fnSoundB Go.Proofs.Try.prog 10 F10=true:=by decide +kernel
def F12:LFunc:={ nparams:=5,results:=[.tmp 10,.tmp 11],pure:=false,body :=
 (.seq (rN [
 oN 10 (.move (iC 0)) 0,oN 11 (.move (iC 0)) 1] [0,1,2,3,4]) (.seq (.block 0 (.seq (rN [
 oM 16 0 0,oN 17 (.eq .ptr false (.t 16) (.c (.nilp))) 1,oM 15 17 2] [0,1,2,3,4,15]) (.seq (.cond (.t 15) (.seq (rN [
 oN 10 (.move (iC 0)) 0,oN 11 (.move (iC 1)) 1] [10,11]) (kB [10,11] .ret)) (.seq (rN [
 oM 19 1 0,oN 20 (.pcall 32 [(.t 19,.as)]) 1,oN 21 (.un .not (.t 20)) 2,oM 18 21 3] [0,1,2,3,4,18]) (.seq (.cond (.t 18) (.seq (rN [
 oN 10 (.move (iC 0)) 0,oN 11 (.move (iC 7)) 1] [10,11]) (kB [10,11] .ret)) (.seq (rN [
 oM 23 2 0,oN 24 (.pcall 33 [(.t 23,.as)]) 1,oN 25 (.un .not (.t 24)) 2,oM 26 25 3,oG 27 (.move (.t 3)) 26 false 4,oG 28 (.pcall 33 [(.t 27,.as)]) 26 false 5,oG 29 (.un .not (.t 28)) 26 false 6,oN 30 (.pick (.t 26) (.c (.bool true)) (.t 29)) 7,oM 22 30 8] [0,1,2,3,4,22]) (.seq (.cond (.t 22) (.seq (rN [
 oN 10 (.move (iC 0)) 0,oN 11 (.move (iC 3)) 1] [10,11]) (kB [10,11] .ret)) (kS [0,1,2,3,4])) (kS [0,1,2,3,4])))) (kS [0,1,2,3,4])))) (kS [0,1,2,3,4])))) (kB [0,1,2,3,4] (.seq (rN [
 oM 32 4 0,oN 33 (.pcall 34 [(.t 32,.as)]) 1,oM 31 33 2,oN 34 (.extract (.t 31) 0) 3,oN 35 (.extract (.t 31) 1) 4,oM 12 34 5,oM 13 35 6] [0,1,2,3,4,13]) (.seq (rN [
 oM 36 13 0,oN 37 (.eq .i true (.t 36) (iC 0)) 1] [0,1,2,3,4,13,37]) (.seq (.cond (.t 37) (.seq (rN [
 oM 38 13 0,oN 10 (.move (iC 0)) 1,oM 11 38 2] [10,11]) (kB [10,11] .ret)) (kS [0,1,2,3,4])) (kB [0,1,2,3,4] (.seq (rN [
 oM 39 0 0,oN 40 (.nilCheck (.t 39)) 1,oN 41 (fA 1 40) 2,oN 42 (lD 41) 3,oN 43 (.bin .gtr (.t 42) (iC 4294967295)) 4] [0,1,2,3,4,43]) (.seq (.cond (.t 43) (.seq (rN [
 oN 10 (.move (iC 0)) 0,oN 11 (.move (iC 21)) 1] [10,11]) (kB [10,11] .ret)) (kS [0,1,2,3,4])) (kB [0,1,2,3,4] (.seq (rN [
 oM 44 0 0,oN 45 (.nilCheck (.t 44)) 1,oN 46 (fA 1 45) 2,oN 47 (lD 46) 3,oM 14 47 4] [0,1,2,3,4,14]) (.seq (rN [
 oM 48 0 0,oN 49 (.nilCheck (.t 48)) 1,oN 50 (fA 1 49) 2,oN 51 (lD 50) 3,oN 52 (.bin .add (.t 51) (iC 1)) 4,oN 53 (.nilCheck (.t 48)) 5,oN 54 (fA 1 53) 6,⟨none,.store 1 false (.t 54) (.t 52),none,7,[]⟩] [0,1,2,3,4,14]) (.seq (.draw [
 oM 55 0 0,oN 56 (.nilCheck (.t 55)) 1,oN 57 (fA 0 56) 2,oN 58 (lD 57) 3,oM 59 14 4,oM 60 14 5,oM 62 1 7,oM 63 2 8,oM 64 3 9,oM 65 4 10,⟨some 61,.call 20 [(.t 60,.as)],none,6,[3]⟩,oN 66 (.pcall 35 [(.t 65,.as)]) 11,oN 67 (.build [.p (.nilp),.p (.str []),.p (.str []),.p (.str []),.p (.list [])] [(0,1,.t 61),(1,1,.t 62),(2,1,.t 63),(3,1,.t 64),(4,1,.t 66)]) 12,⟨some 68,.box true 68 (.t 67),none,13,[3]⟩,⟨none,.mapUpdate 1 (.t 58) (.t 59) (.t 68),none,14,[]⟩] [14] []) (.seq (rN [
 oM 69 14 0,oM 10 69 1,oN 11 (.move (iC 0)) 2] [10,11]) (kB [10,11] .ret))))))))))))))) }
theorem ok12:fnSoundB Go.Proofs.Try.prog 12 F12=true:=by decide +kernel
def F13:LFunc:={ nparams:=4,results:=[.tmp 8],pure:=false,body :=
 (.seq (rN [
 oN 8 (.move (iC 0)) 0] [0,1,2,3]) (.seq (rN [
 oM 14 0 0,oM 15 1 1,oN 16 (.call 36 [(.t 14,.as),(.t 15,.as)]) 2,oM 13 16 3,oN 17 (.extract (.t 13) 0) 4,oN 18 (.extract (.t 13) 1) 5,oM 9 17 6,oM 10 18 7] [0,2,3,9,10]) (.seq (rN [
 oM 19 10 0,oN 20 (.eq .i true (.t 19) (iC 0)) 1] [0,2,3,9,10,20]) (.seq (.cond (.t 20) (.seq (rN [
 oM 21 10 0,oM 8 21 1] [8]) (kB [8] .ret)) (kS [0,2,3,9])) (kB [0,2,3,9] (.seq (rN [
 oM 23 0 0,oM 24 3 1,oN 25 (.call 37 [(.t 23,.as),(.t 24,.as)]) 2,oM 22 25 3,oN 26 (.extract (.t 22) 0) 4,oN 27 (.extract (.t 22) 1) 5,oM 11 26 6,oM 10 27 7] [0,2,9,10,11]) (.seq (rN [
 oM 28 0 0,oN 29 (.nilCheck (.t 28)) 1,oN 30 (fA 0 29) 2,oN 31 (lD 30) 3,oM 32 2 4,oN 33 (.lookup 1 (.nilp) false (.t 31) (.t 32)) 5,oM 12 33 6] [9,10,11,12]) (.seq (rN [
 oM 34 10 0,oN 35 (.eq .i true (.t 34) (iC 0)) 1,oM 36 35 2,oG 37 (.move (.t 12)) 36 false 3,oG 38 (.eq .ptr false (.t 37) (.c (.nilp))) 36 false 4,oN 39 (.pick (.t 36) (.c (.bool true)) (.t 38)) 5] [9,11,12,39]) (.seq (.cond (.t 39) (.seq (rN [
 oN 8 (.move (iC 13)) 0] [8]) (kB [8] .ret)) (kS [9,11,12])) (kB [9,11,12] (.seq (.draw [
 oM 40 12 0,oN 41 (.nilCheck (.t 40)) 1,oN 42 (fA 0 41) 2,oN 43 (lD 42) 3,oM 44 9 4,oN 45 (.nilCheck (.t 44)) 5,oN 46 (fA 0 45) 6,oN 47 (lD 46) 7,oM 48 11 8,oN 49 (.call 38 [(.t 43,.as),(.t 47,.as),(.t 48,.as)]) 9,oM 8 49 10] [8] []) (kB [8] .ret)))))))))))) }
theorem ok13:fnSoundB Go.Proofs.Try.prog 13 F13=true:=by decide +kernel
def F14:LFunc:={ nparams:=3,results:=[.tmp 6],pure:=false,body :=
 (.seq (rN [
 oN 6 (.move (iC 0)) 0] [0,1,2]) (.seq (rN [
 oM 12 0 0,oM 13 1 1,oN 14 (.call 36 [(.t 12,.as),(.t 13,.as)]) 2,oM 11 14 3,oN 15 (.extract (.t 11) 0) 4,oN 16 (.extract (.t 11) 1) 5,oM 7 15 6,oM 8 16 7] [0,2,7,8]) (.seq (rN [
 oM 17 8 0,oN 18 (.eq .i true (.t 17) (iC 0)) 1] [0,2,7,8,18]) (.seq (.cond (.t 18) (.seq (rN [
 oM 19 8 0,oM 6 19 1] [6]) (kB [6] .ret)) (kS [0,2,7])) (kB [0,2,7] (.seq (rN [
 oM 21 0 0,oM 22 2 1,oN 23 (.call 37 [(.t 21,.as),(.t 22,.as)]) 2,oM 20 23 3,oN 24 (.extract (.t 20) 0) 4,oN 25 (.extract (.t 20) 1) 5,oM 9 24 6,oM 8 25 7] [7,8,9]) (.seq (rN [
 oM 26 7 0,oN 27 (.nilCheck (.t 26)) 1,oN 28 (fA 0 27) 2,oN 29 (lD 28) 3,oN 30 (.call 25 [(.t 29,.as)]) 4,oM 10 30 5] [7,8,9,10]) (.seq (.block 0 (.seq (rN [
 oM 32 8 0,oN 33 (.eq .i true (.t 32) (iC 0)) 1,oM 31 33 2] [7,9,10,31]) (.seq (.cond (.t 31) (.seq (rN [
 oN 6 (.move (iC 13)) 0] [6]) (kB [6] .ret)) (.seq (rN [
 oM 35 10 0,oN 36 (.eq .ptr false (.t 35) (.c (.nilp))) 1,oM 34 36 2] [7,9,10,34]) (.seq (.cond (.t 34) (.seq (rN [
 oN 6 (.move (iC 16)) 0] [6]) (kB [6] .ret)) (.seq (rN [
 oM 38 9 0,oN 39 (.eq .ptr true (.t 38) (.c (.nilp))) 1,oM 40 39 2,oG 41 (.move (.t 9)) 40 true 3,oG 42 (.move (.t 7)) 40 true 4,oG 43 (.nilCheck (.t 42)) 40 true 5,oG 44 (fA 0 43) 40 true 6,oG 45 (lD 44) 40 true 7,oG 46 (.eq .ptr false (.t 41) (.t 45)) 40 true 8,oG 47 (.move (.t 46)) 40 true 9,oG 48 (.move (.t 9)) 47 false 10,oG 49 (.call 25 [(.t 48,.as)]) 47 false 11,oG 50 (.move (.t 10)) 47 false 12,oG 51 (.eq .ptr true (.t 49) (.t 50)) 47 false 13,oG 52 (.pick (.t 47) (.c (.bool true)) (.t 51)) 40 true 14,oN 53 (.pick (.t 40) (.t 52) (.c (.bool false))) 15,oM 37 53 16] [7,9,10,37]) (.seq (.cond (.t 37) (.seq (rN [
 oN 6 (.move (iC 18)) 0] [6]) (kB [6] .ret)) (kS [7,9,10])) (kS [7,9,10])))) (kS [7,9,10])))) (kS [7,9,10])))) (kB [7,9,10] (.seq (rN [
 oM 54 7 0,oN 55 (.nilCheck (.t 54)) 1,oN 56 (fA 0 55) 2,oN 57 (lD 56) 3,oN 58 (.call 39 [(.t 57,.as)]) 4] [7,9,10]) (.seq (rN [
 oM 59 10 0,oM 60 7 1,oN 61 (.nilCheck (.t 60)) 2,oN 62 (fA 0 61) 3,oN 63 (lD 62) 4,oM 64 9 5,oN 65 (.call 38 [(.t 59,.as),(.t 63,.as),(.t 64,.as)]) 6,oM 6 65 7] [6]) (kB [6] .ret)))))))))))) }
theorem ok14:fnSoundB Go.Proofs.Try.prog 14 F14=true:=by decide +kernel
def F15:LFunc:={ nparams:=2,results:=[.tmp 4],pure:=false,body :=
 (.seq (rN [
 oN 2 (.box true 2 (.t 0)) 0,oN 4 (.move (iC 0)) 1] [1,2]) (.seq (rN [
 oN 9 (lD 2) 0,oM 10 1 1,oN 11 (.call 36 [(.t 9,.as),(.t 10,.as)]) 2,oM 8 11 3,oN 12 (.extract (.t 8) 0) 4,oN 13 (.extract (.t 8) 1) 5,oM 5 12 6,oM 6 13 7] [2,5,6]) (.seq (rN [
 oM 14 6 0,oN 15 (.eq .i true (.t 14) (iC 0)) 1] [2,5,6,15]) (.seq (.cond (.t 15) (.seq (rN [
 oM 16 6 0,oM 4 16 1] [4]) (kB [4] .ret)) (kS [2,5])) (kB [2,5] (.seq (rN [
 oM 17 5 0,oN 18 (.nilCheck (.t 17)) 1,oN 19 (fA 0 18) 2,oN 20 (lD 19) 3,oN 21 (.call 39 [(.t 20,.as)]) 4] [2,5]) (.seq (rN [
 oN 7 (.alloc true 7 [.p (.nilf)] []) 0] [2,5,7]) (.seq (rN [
 oN 22 (.makeFunc 40 [.t 2,.t 7]) 0,⟨none,.store 1 false (.t 7) (.t 22),none,1,[]⟩] [5,7]) (.seq (.draw [
 oN 23 (lD 7) 0,oM 24 5 1,oN 25 (.nilCheck (.t 24)) 2,oN 26 (fA 0 25) 3,oN 27 (lD 26) 4,oN 28 (.callv (.t 23) [(.t 27,.as)]) 5] [] []) (.seq (rN [
 oN 4 (.move (iC 0)) 0] [4]) (kB [4] .ret))))))))))) }
theorem ok15:fnSoundB Go.Proofs.Try.prog 15 F15=true:=by decide +kernel
def F19:LFunc:={ nparams:=1,results:=[.tmp 2],pure:=false,body :=
 (.seq (rN [
 oN 1 (.box true 1 (.t 0)) 0,oN 2 (.move (.c (.list []))) 1] [1]) (.seq (rN [
 oN 3 (.alloc true 3 [.p (.list [])] [(0,1000,6)]) 0] [1,3]) (.seq (rN [
 oN 5 (lD 1) 0,oN 6 (.eq .ptr false (.t 5) (.c (.nilp))) 1] [1,3,6]) (.seq (.cond (.t 6) (.seq (rN [
 oN 7 (lD 3) 0,oM 2 7 1] [2]) (kB [2] .ret)) (kS [1,3])) (kB [1,3] (.seq (rN [
 oN 4 (.alloc true 4 [.p (.nilf)] []) 0] [1,3,4]) (.seq (rN [
 oN 8 (.makeFunc 44 [.t 1,.t 3,.t 4]) 0,⟨none,.store 1 false (.t 4) (.t 8),none,1,[]⟩] [1,3,4]) (.seq (.draw [
 oN 9 (lD 4) 0,oN 10 (lD 1) 1,oN 11 (.nilCheck (.t 10)) 2,oN 12 (fA 0 11) 3,oN 13 (lD 12) 4,oN 14 (.lookup 1 (.nilp) false (.t 13) (iC 0)) 5,oN 15 (.nilCheck (.t 14)) 6,oN 16 (fA 0 15) 7,oN 17 (lD 16) 8,oN 18 (.callv (.t 9) [(.t 17,.as),(.c (.int .i64 0),.as)]) 9] [3] []) (.seq (rN [
 oN 19 (lD 3) 0,oM 2 19 1] [2]) (kB [2] .ret)))))))))) }
theorem ok19:fnSoundB Go.Proofs.Try.prog 19 F19=true:=by decide +kernel
def F20:LFunc:={ nparams:=1,results:=[.tmp 2],pure:=false,body :=
 (.seq (rN [
 oN 2 (.move (.c (.nilp))) 0] [0]) (.seq (rN [
 oM 3 0 0,oN 4 (.build [.p (.int .i64 0),.p (.nilp),.p (.nilp),.p (.nilp),.p (.nilp),.p (.nilp)] [(0,1,.t 3)]) 1,oN 5 (.box true 5 (.t 4)) 2,oM 2 5 3] [2]) (kB [2] .ret))) }
theorem ok20:fnSoundB Go.Proofs.Try.prog 20 F20=true:=by decide +kernel
def F21:LFunc:={ nparams:=4,results:=[.tmp 8],pure:=false,body :=
 (.seq (rN [
 oN 8 (.move (iC 0)) 0] [0,1,2,3]) (.seq (rN [
 oM 13 0 0,oM 14 1 1,oN 15 (.call 36 [(.t 13,.as),(.t 14,.as)]) 2,oM 12 15 3,oN 16 (.extract (.t 12) 0) 4,oN 17 (.extract (.t 12) 1) 5,oM 9 16 6,oM 10 17 7] [2,3,9,10]) (.seq (.block 0 (.seq (rN [
 oM 19 10 0,oN 20 (.eq .i true (.t 19) (iC 0)) 1,oM 18 20 2] [2,3,9,10,18]) (.seq (.cond (.t 18) (.seq (rN [
 oM 21 10 0,oM 8 21 1] [8]) (kB [8] .ret)) (.seq (rN [
 oM 23 2 0,oN 24 (.pcall 45 [(.t 23,.as)]) 1,oN 25 (.un .not (.t 24)) 2,oM 22 25 3] [2,3,9,22]) (.seq (.cond (.t 22) (.seq (rN [
 oN 8 (.move (iC 8)) 0] [8]) (kB [8] .ret)) (.seq (rN [
 oM 27 3 0,oN 28 (.pcall 33 [(.t 27,.as)]) 1,oN 29 (.un .not (.t 28)) 2,oM 26 29 3] [2,3,9,26]) (.seq (.cond (.t 26) (.seq (rN [
 oN 8 (.move (iC 3)) 0] [8]) (kB [8] .ret)) (kS [2,3,9])) (kS [2,3,9])))) (kS [2,3,9])))) (kS [2,3,9])))) (kB [2,3,9] (.seq (rN [
 oM 30 9 0,oN 31 (.nilCheck (.t 30)) 1,oN 32 (fA 4 31) 2,oN 33 (lD 32) 3,oM 34 2 4,oM 35 3 5,oN 36 (.pcall 46 [(.t 33,.as),(.t 34,.as),(.t 35,.as)]) 6,oM 11 36 7] [9,11]) (.seq (rN [
 oM 37 11 0,oN 38 (.len 1 (.t 37)) 1,oN 39 (.bin .gtr (.t 38) (iC 64)) 2] [9,11,39]) (.seq (.cond (.t 39) (.seq (rN [
 oN 8 (.move (iC 12)) 0] [8]) (kB [8] .ret)) (kS [9,11])) (kB [9,11] (.seq (rN [
 oM 40 9 0,oM 41 11 1,oN 42 (.nilCheck (.t 40)) 2,oN 43 (fA 4 42) 3,⟨none,.store 1 false (.t 43) (.t 41),none,4,[]⟩] []) (.seq (rN [
 oN 8 (.move (iC 0)) 0] [8]) (kB [8] .ret))))))))))) }
theorem ok21:fnSoundB Go.Proofs.Try.prog 21 F21=true:=by decide +kernel
def F22:LFunc:={ nparams:=3,results:=[.tmp 6],pure:=false,body :=
 (.seq (rN [
 oN 6 (.move (iC 0)) 0] [0,1,2]) (.seq (rN [
 oM 12 0 0,oM 13 1 1,oN 14 (.call 36 [(.t 12,.as),(.t 13,.as)]) 2,oM 11 14 3,oN 15 (.extract (.t 11) 0) 4,oN 16 (.extract (.t 11) 1) 5,oM 7 15 6,oM 8 16 7] [2,7,8]) (.seq (rN [
 oM 17 8 0,oN 18 (.eq .i true (.t 17) (iC 0)) 1] [2,7,8,18]) (.seq (.cond (.t 18) (.seq (rN [
 oM 19 8 0,oM 6 19 1] [6]) (kB [6] .ret)) (kS [2,7])) (kB [2,7] (.seq (rN [
 oM 21 7 0,oN 22 (.nilCheck (.t 21)) 1,oN 23 (fA 4 22) 2,oN 24 (lD 23) 3,oM 25 2 4,oN 26 (.pcall 47 [(.t 24,.as),(.t 25,.as)]) 5,oM 20 26 6,oN 27 (.extract (.t 20) 0) 7,oN 28 (.extract (.t 20) 1) 8,oM 9 27 9,oM 10 28 10] [7,9,10]) (.seq (rN [
 oM 29 10 0,oN 30 (.un .not (.t 29)) 1] [7,9,30]) (.seq (.cond (.t 30) (.seq (rN [
 oN 6 (.move (iC 8)) 0] [6]) (kB [6] .ret)) (kS [7,9])) (kB [7,9] (.seq (rN [
 oM 31 7 0,oM 32 9 1,oN 33 (.nilCheck (.t 31)) 2,oN 34 (fA 4 33) 3,⟨none,.store 1 false (.t 34) (.t 32),none,4,[]⟩] []) (.seq (rN [
 oN 6 (.move (iC 0)) 0] [6]) (kB [6] .ret)))))))))))) }
theorem ok22:fnSoundB Go.Proofs.Try.prog 22 F22=true:=by decide +kernel
def F23:LFunc:={ nparams:=3,results:=[.tmp 6],pure:=false,body :=
 (.seq (rN [
 oN 6 (.move (iC 0)) 0] [0,1,2]) (.seq (rN [
 oM 10 0 0,oM 11 1 1,oN 12 (.call 36 [(.t 10,.as),(.t 11,.as)]) 2,oM 9 12 3,oN 13 (.extract (.t 9) 0) 4,oN 14 (.extract (.t 9) 1) 5,oM 7 13 6,oM 8 14 7] [2,7,8]) (.seq (.block 0 (.seq (rN [
 oM 16 8 0,oN 17 (.eq .i true (.t 16) (iC 0)) 1,oM 15 17 2] [2,7,8,15]) (.seq (.cond (.t 15) (.seq (rN [
 oM 18 8 0,oM 6 18 1] [6]) (kB [6] .ret)) (.seq (rN [
 oM 20 2 0,oN 21 (.pcall 33 [(.t 20,.as)]) 1,oN 22 (.un .not (.t 21)) 2,oM 19 22 3] [2,7,19]) (.seq (.cond (.t 19) (.seq (rN [
 oN 6 (.move (iC 3)) 0] [6]) (kB [6] .ret)) (kS [2,7])) (kS [2,7])))) (kS [2,7])))) (kB [2,7] (.seq (rN [
 oM 23 7 0,oM 24 2 1,oN 25 (.nilCheck (.t 23)) 2,oN 26 (fA 3 25) 3,⟨none,.store 1 false (.t 26) (.t 24),none,4,[]⟩] []) (.seq (rN [
 oN 6 (.move (iC 0)) 0] [6]) (kB [6] .ret))))))) }
theorem ok23:fnSoundB Go.Proofs.Try.prog 23 F23=true:=by decide +kernel
def F24:LFunc:={ nparams:=1,results:=[.tmp 2],pure:=false,body :=
 (.seq (rN [
 oN 2 (.move (iC 0)) 0] [0]) (.seq (rN [
 oM 3 0 0,oN 4 (.eq .ptr false (.t 3) (.c (.nilp))) 1] [0,4]) (.seq (.cond (.t 4) (.seq (rN [
 oN 2 (.move (iC (-1))) 0] [2]) (kB [2] .ret)) (kS [0])) (kB [0] (.seq (rN [
 oM 5 0 0,oN 6 (.call 41 [(.t 5,.as)]) 1,oM 2 6 2] [2]) (kB [2] .ret)))))) }
theorem ok24:fnSoundB Go.Proofs.Try.prog 24 F24=true:=by decide +kernel
def F25:LFunc:={ nparams:=1,results:=[.tmp 2],pure:=false,body :=
 (.seq (rN [
 oN 2 (.move (.c (.nilp))) 0] [0]) (.seq (rN [
 oM 3 0 0,oN 4 (.eq .ptr false (.t 3) (.c (.nilp))) 1] [0,4]) (.seq (.cond (.t 4) (.seq (rN [
 oN 2 (.move (.c (.nilp))) 0] [2]) (kB [2] .ret)) (kS [0])) (kB [0] (.seq (rN [
 oM 5 0 0,oN 6 (.nilCheck (.t 5)) 1,oN 7 (fA 1 6) 2,oN 8 (lD 7) 3,oM 2 8 4] [2]) (kB [2] .ret)))))) }
theorem ok25:fnSoundB Go.Proofs.Try.prog 25 F25=true:=by decide +kernel
def F26:LFunc:={ nparams:=1,results:=[.tmp 2],pure:=false,body :=
 (.seq (rN [
 oN 2 (.move (.c (.nilp))) 0] [0]) (.seq (rN [
 oM 3 0 0,oN 4 (.eq .ptr false (.t 3) (.c (.nilp))) 1] [0,4]) (.seq (.cond (.t 4) (.seq (rN [
 oN 2 (.move (.c (.nilp))) 0] [2]) (kB [2] .ret)) (kS [0])) (kB [0] (.seq (rN [
 oM 5 0 0,oN 6 (.nilCheck (.t 5)) 1,oN 7 (fA 2 6) 2,oN 8 (lD 7) 3,oM 2 8 4] [2]) (kB [2] .ret)))))) }
theorem ok26:fnSoundB Go.Proofs.Try.prog 26 F26=true:=by decide +kernel
def F27:LFunc:={ nparams:=1,results:=[.tmp 2],pure:=false,body :=
 (.seq (rN [
 oN 2 (.move (.c (.nilp))) 0] [0]) (.seq (rN [
 oM 3 0 0,oN 4 (.eq .ptr false (.t 3) (.c (.nilp))) 1] [0,4]) (.seq (.cond (.t 4) (.seq (rN [
 oN 2 (.move (.c (.nilp))) 0] [2]) (kB [2] .ret)) (kS [0])) (kB [0] (.seq (rN [
 oM 5 0 0,oN 6 (.nilCheck (.t 5)) 1,oN 7 (fA 3 6) 2,oN 8 (lD 7) 3,oM 2 8 4] [2]) (kB [2] .ret)))))) }
theorem ok27:fnSoundB Go.Proofs.Try.prog 27 F27=true:=by decide +kernel
def F28:LFunc:={ nparams:=1,results:=[.tmp 2],pure:=false,body :=
 (.seq (rN [
 oN 2 (.move (.c (.nilp))) 0] [0]) (.seq (rN [
 oM 3 0 0,oN 4 (.eq .ptr false (.t 3) (.c (.nilp))) 1] [0,4]) (.seq (.cond (.t 4) (.seq (rN [
 oN 2 (.move (.c (.nilp))) 0] [2]) (kB [2] .ret)) (kS [0])) (kB [0] (.seq (rN [
 oM 5 0 0,oN 6 (.nilCheck (.t 5)) 1,oN 7 (fA 4 6) 2,oN 8 (lD 7) 3,oM 2 8 4] [2]) (kB [2] .ret)))))) }
theorem ok28:fnSoundB Go.Proofs.Try.prog 28 F28=true:=by decide +kernel
def F29:LFunc:={ nparams:=1,results:=[.tmp 2],pure:=false,body :=
 (.seq (rN [
 oN 2 (.move (.c (.nilp))) 0] [0]) (.seq (rN [
 oM 3 0 0,oN 4 (.eq .ptr false (.t 3) (.c (.nilp))) 1] [0,4]) (.seq (.cond (.t 4) (.seq (rN [
 oN 2 (.move (.c (.nilp))) 0] [2]) (kB [2] .ret)) (kS [0])) (kB [0] (.seq (rN [
 oM 5 0 0,oN 6 (.nilCheck (.t 5)) 1,oN 7 (fA 5 6) 2,oN 8 (lD 7) 3,oM 2 8 4] [2]) (kB [2] .ret)))))) }
theorem ok29:fnSoundB Go.Proofs.Try.prog 29 F29=true:=by decide +kernel
def F32:LFunc:={ nparams:=1,results:=[.tmp 2],pure:=true,body :=
 (.seq (rN [
 oN 2 (.move (.c (.bool false))) 0] [0]) (.seq (rN [
 oM 3 0 0,oN 4 (.pcall 56 [(.t 3,.as),(.c (.str [45]),.as)]) 1,oM 2 4 2] [2]) (kB [2] .ret))) }
theorem ok32:fnSoundB Go.Proofs.Try.prog 32 F32=true:=by decide +kernel
def F33:LFunc:={ nparams:=1,results:=[.tmp 2],pure:=true,body :=
 (.seq (rN [
 oN 2 (.move (.c (.bool false))) 0] [0]) (.seq (rN [
 oM 3 0 0,oN 4 (.len 0 (.t 3)) 1,oN 5 (.bin .leq (.t 4) (iC 65536)) 2,oM 2 5 3] [2]) (kB [2] .ret))) }
theorem ok33:fnSoundB Go.Proofs.Try.prog 33 F33=true:=by decide +kernel
def B34x0:LCode :=
 (.seq (rN [
 oN 10 (.bin .lss (.t 9) (.t 8)) 0] [0,7,8,9,10]) (.seq (.cond (.t 10) (kS [0,7,8,9]) (kB [] (.exit 0))) (kB [0,7,8,9] (.seq (.block 1 (.seq (.region [
 oM 11 9 0,oN 12 (.indexAddr 2 (.t 7) (.t 9)) 1,oN 13 (.load 2 true (.t 12)) 2,oN 5 (.alloc false 5 [.p (.str []),.p (.str [])] []) 3,oM 4 11 4,⟨none,.store 2 true (.t 5) (.t 13),none,5,[]⟩] false [0,4,5,7,8,9] [5]) (.seq (.region [
 oN 6 (.move (iC 0)) 0] false [0,4,5,6,7,8,9] [5]) (.seq (.block 2 (.seq (.region [
 oM 15 4 0,oN 16 (.eq .i false (.t 15) (iC 64)) 1,oM 14 16 2] false [0,4,5,6,7,8,9,14] [5]) (.seq (.cond (.t 14) (.seq (rN [
 oN 6 (.move (iC 12)) 0] [0,4,6,7,8,9]) (kS [0,4,6,7,8,9])) (.seq (.region [
 oN 18 (fA 0 5) 0,oN 19 (lD 18) 1,oN 20 (.pcall 45 [(.t 19,.as)]) 2,oN 21 (.un .not (.t 20)) 3,oM 17 21 4] false [0,4,5,6,7,8,9,17] [5]) (.seq (.cond (.t 17) (.seq (rN [
 oN 6 (.move (iC 8)) 0] [0,4,6,7,8,9]) (kS [0,4,6,7,8,9])) (.seq (.region [
 oN 23 (fA 1 5) 0,oN 24 (lD 23) 1,oN 25 (.pcall 33 [(.t 24,.as)]) 2,oN 26 (.un .not (.t 25)) 3,oM 22 26 4] false [0,4,5,6,7,8,9,22] [5]) (.seq (.cond (.t 22) (.seq (rN [
 oN 6 (.move (iC 3)) 0] [0,4,6,7,8,9]) (kS [0,4,6,7,8,9])) (.seq (.region [
 oM 28 4 0,oN 29 (.bin .gtr (.t 28) (iC 0)) 1,oM 30 29 2,oG 31 (.move (.t 0)) 30 true 3,oG 32 (.move (.t 4)) 30 true 4,oG 33 (.bin .sub (.t 32) (iC 1)) 30 true 5,oG 34 (.indexAddr 2 (.t 31) (.t 33)) 30 true 6,oG 35 (fA 0 34) 30 true 7,oG 36 (lD 35) 30 true 8,oG 37 (fA 0 5) 30 true 9,oG 38 (lD 37) 30 true 10,oG 39 (.eq .s false (.t 36) (.t 38)) 30 true 11,oN 40 (.pick (.t 30) (.t 39) (.c (.bool false))) 12,oM 27 40 13] true [0,4,5,6,7,8,9,27] [5]) (.seq (.cond (.t 27) (.seq (rN [
 oN 6 (.move (iC 10)) 0] [0,4,6,7,8,9]) (kS [0,4,6,7,8,9])) (.seq (.region [
 oM 42 4 0,oN 43 (.bin .gtr (.t 42) (iC 0)) 1,oM 44 43 2,oG 45 (.move (.t 0)) 44 true 3,oG 46 (.move (.t 4)) 44 true 4,oG 47 (.bin .sub (.t 46) (iC 1)) 44 true 5,oG 48 (.indexAddr 2 (.t 45) (.t 47)) 44 true 6,oG 49 (fA 0 48) 44 true 7,oG 50 (lD 49) 44 true 8,oG 51 (fA 0 5) 44 true 9,oG 52 (lD 51) 44 true 10,oG 53 (.bin .gtr (.t 50) (.t 52)) 44 true 11,oN 54 (.pick (.t 44) (.t 53) (.c (.bool false))) 12,oM 41 54 13] true [0,4,6,7,8,9,41] []) (.seq (.cond (.t 41) (.seq (rN [
 oN 6 (.move (iC 9)) 0] [0,4,6,7,8,9]) (kS [0,4,6,7,8,9])) (kS [0,4,6,7,8,9])) (kS [0,4,6,7,8,9])))) (kS [0,4,6,7,8,9])))) (kS [0,4,6,7,8,9])))) (kS [0,4,6,7,8,9])))) (kS [0,4,6,7,8,9])))) (kB [0,4,6,7,8,9] (.seq (rN [
 oM 55 6 0,oN 56 (.eq .i true (.t 55) (iC 0)) 1] [0,4,6,7,8,9,56]) (.seq (.cond (.t 56) (.seq (rN [
 oM 57 4 0,oM 58 6 1,oM 2 57 2,oM 3 58 3] [2,3]) (kB [2,3] .ret)) (kS [0,7,8,9])) (kS [0,7,8,9])))))))) (kB [0,7,8,9] (.seq (rN [
 oN 59 (.bin .add (.t 9) (iC 1)) 0,oM 9 59 1] [0,7,8,9]) (kS [0,7,8,9])))))))
def F34:LFunc:={ nparams:=1,results:=[.tmp 2,.tmp 3],pure:=true,body :=
 (.seq (rN [
 oN 2 (.move (iC 0)) 0,oN 3 (.move (iC 0)) 1] [0]) (.seq (rN [
 oM 7 0 0,oN 8 (.len 1 (.t 7)) 1,oN 9 (.move (iC 0)) 2] [0,7,8,9]) (.seq (.block 0 (.seq (kB [0,7,8,9] (.loop B34x0)) (kS []))) (kB [] (.seq (rN [
 oN 2 (.move (iC 0)) 0,oN 3 (.move (iC 0)) 1] [2,3]) (kB [2,3] .ret)))))) }
theorem ok34:fnSoundB Go.Proofs.Try.prog 34 F34=true:=by decide +kernel
def F36:LFunc:={ nparams:=2,results:=[.tmp 4,.tmp 5],pure:=false,body :=
 (.seq (rN [
 oN 4 (.move (.c (.nilp))) 0,oN 5 (.move (iC 0)) 1] [0,1]) (.seq (.block 0 (.seq (rN [
 oM 8 0 0,oN 9 (.eq .ptr false (.t 8) (.c (.nilp))) 1,oM 7 9 2] [0,1,7]) (.seq (.cond (.t 7) (.seq (rN [
 oN 4 (.move (.c (.nilp))) 0,oN 5 (.move (iC 1)) 1] [4,5]) (kB [4,5] .ret)) (.seq (rN [
 oM 11 1 0,oN 12 (.eq .i false (.t 11) (iC 0)) 1,oM 10 12 2] [0,1,10]) (.seq (.cond (.t 10) (.seq (rN [
 oN 4 (.move (.c (.nilp))) 0,oN 5 (.move (iC 14)) 1] [4,5]) (kB [4,5] .ret)) (kS [0,1])) (kS [0,1])))) (kS [0,1])))) (kB [0,1] (.seq (rN [
 oM 13 0 0,oN 14 (.nilCheck (.t 13)) 1,oN 15 (fA 0 14) 2,oN 16 (lD 15) 3,oM 17 1 4,oN 18 (.lookup 1 (.nilp) false (.t 16) (.t 17)) 5,oM 6 18 6] [6]) (.seq (rN [
 oM 19 6 0,oN 20 (.eq .ptr false (.t 19) (.c (.nilp))) 1] [6,20]) (.seq (.cond (.t 20) (.seq (rN [
 oN 4 (.move (.c (.nilp))) 0,oN 5 (.move (iC 13)) 1] [4,5]) (kB [4,5] .ret)) (kS [6])) (kB [6] (.seq (rN [
 oM 21 6 0,oM 4 21 1,oN 5 (.move (iC 0)) 2] [4,5]) (kB [4,5] .ret))))))))) }
theorem ok36:fnSoundB Go.Proofs.Try.prog 36 F36=true:=by decide +kernel
def F37:LFunc:={ nparams:=2,results:=[.tmp 4,.tmp 5],pure:=false,body :=
 (.seq (rN [
 oN 4 (.move (.c (.nilp))) 0,oN 5 (.move (iC 0)) 1] [0,1]) (.seq (rN [
 oM 8 1 0,oN 9 (.eq .i false (.t 8) (iC 0)) 1] [0,1,9]) (.seq (.cond (.t 9) (.seq (rN [
 oN 4 (.move (.c (.nilp))) 0,oN 5 (.move (iC 0)) 1] [4,5]) (kB [4,5] .ret)) (kS [0,1])) (kB [0,1] (.seq (rN [
 oM 11 0 0,oM 12 1 1,oN 13 (.call 36 [(.t 11,.as),(.t 12,.as)]) 2,oM 10 13 3,oN 14 (.extract (.t 10) 0) 4,oN 15 (.extract (.t 10) 1) 5,oM 6 14 6,oM 7 15 7] [6,7]) (.seq (rN [
 oM 16 7 0,oN 17 (.eq .i true (.t 16) (iC 0)) 1] [6,7,17]) (.seq (.cond (.t 17) (.seq (rN [
 oM 18 7 0,oN 4 (.move (.c (.nilp))) 1,oM 5 18 2] [4,5]) (kB [4,5] .ret)) (kS [6])) (kB [6] (.seq (rN [
 oM 19 6 0,oN 20 (.nilCheck (.t 19)) 1,oN 21 (fA 0 20) 2,oN 22 (lD 21) 3,oM 4 22 4,oN 5 (.move (iC 0)) 5] [4,5]) (kB [4,5] .ret)))))))))) }
theorem ok37:fnSoundB Go.Proofs.Try.prog 37 F37=true:=by decide +kernel
def F38:LFunc:={ nparams:=3,results:=[.tmp 6],pure:=false,body :=
 (.seq (rN [
 oN 6 (.move (iC 0)) 0] [0,1,2]) (.seq (.block 0 (.seq (rN [
 oM 8 0 0,oN 9 (.eq .ptr false (.t 8) (.c (.nilp))) 1,oM 10 9 2,oG 11 (.move (.t 1)) 10 false 3,oG 12 (.eq .ptr false (.t 11) (.c (.nilp))) 10 false 4,oN 13 (.pick (.t 10) (.c (.bool true)) (.t 12)) 5,oM 7 13 6] [0,1,2,7]) (.seq (.cond (.t 7) (.seq (rN [
 oN 6 (.move (iC 1)) 0] [6]) (kB [6] .ret)) (.seq (rN [
 oM 15 1 0,oN 16 (.nilCheck (.t 15)) 1,oN 17 (fA 1 16) 2,oN 18 (lD 17) 3,oN 19 (.eq .ptr true (.t 18) (.c (.nilp))) 4,oM 14 19 5] [0,1,2,14]) (.seq (.cond (.t 14) (.seq (rN [
 oN 6 (.move (iC 15)) 0] [6]) (kB [6] .ret)) (.seq (rN [
 oM 21 0 0,oM 22 1 1,oN 23 (.call 57 [(.t 21,.as),(.t 22,.as)]) 2,oM 20 23 3] [0,1,2,20]) (.seq (.cond (.t 20) (.seq (rN [
 oN 6 (.move (iC 17)) 0] [6]) (kB [6] .ret)) (.seq (rN [
 oM 25 2 0,oN 26 (.eq .ptr true (.t 25) (.c (.nilp))) 1,oM 27 26 2,oG 28 (.move (.t 2)) 27 true 3,oG 29 (.nilCheck (.t 28)) 27 true 4,oG 30 (fA 1 29) 27 true 5,oG 31 (lD 30) 27 true 6,oG 32 (.move (.t 0)) 27 true 7,oG 33 (.eq .ptr true (.t 31) (.t 32)) 27 true 8,oN 34 (.pick (.t 27) (.t 33) (.c (.bool false))) 9,oM 24 34 10] [0,1,2,24]) (.seq (.cond (.t 24) (.seq (rN [
 oN 6 (.move (iC 18)) 0] [6]) (kB [6] .ret)) (kS [0,1,2])) (kS [0,1,2])))) (kS [0,1,2])))) (kS [0,1,2])))) (kS [0,1,2])))) (kB [0,1,2] (.seq (rN [
 oM 35 1 0,oM 36 1 1,oM 37 0 2,oM 38 2 3,oN 39 (.nilCheck (.t 35)) 4,oN 40 (fA 1 39) 5,⟨none,.store 1 false (.t 40) (.t 37),none,6,[]⟩,oN 41 (.nilCheck (.t 36)) 7,oN 42 (fA 5 41) 8,⟨none,.store 1 false (.t 42) (.t 38),none,9,[]⟩] [0,1,2]) (.seq (rN [
 oM 43 2 0,oN 44 (.eq .ptr false (.t 43) (.c (.nilp))) 1] [0,1,2,44]) (.seq (.cond (.t 44) (.seq (rN [
 oM 45 1 0,oM 46 0 1,oN 47 (.nilCheck (.t 46)) 2,oN 48 (fA 3 47) 3,oN 49 (lD 48) 4,oN 50 (.nilCheck (.t 45)) 5,oN 51 (fA 4 50) 6,⟨none,.store 1 false (.t 51) (.t 49),none,7,[]⟩] [0,1]) (.seq (rN [
 oM 52 0 0,oM 53 1 1,oN 54 (.nilCheck (.t 52)) 2,oN 55 (fA 3 54) 3,⟨none,.store 1 false (.t 55) (.t 53),none,4,[]⟩] [0,1]) (kS [0,1]))) (.seq (rN [
 oM 56 1 0,oM 57 2 1,oN 58 (.nilCheck (.t 57)) 2,oN 59 (fA 4 58) 3,oN 60 (lD 59) 4,oN 61 (.nilCheck (.t 56)) 5,oN 62 (fA 4 61) 6,⟨none,.store 1 false (.t 62) (.t 60),none,7,[]⟩] [0,1,2]) (.seq (rN [
 oM 63 2 0,oM 64 1 1,oN 65 (.nilCheck (.t 63)) 2,oN 66 (fA 4 65) 3,⟨none,.store 1 false (.t 66) (.t 64),none,4,[]⟩] [0,1]) (kS [0,1])))) (kB [0,1] (.seq (rN [
 oM 67 1 0,oN 68 (.nilCheck (.t 67)) 1,oN 69 (fA 4 68) 2,oN 70 (lD 69) 3,oN 71 (.eq .ptr false (.t 70) (.c (.nilp))) 4] [0,1,71]) (.seq (.cond (.t 71) (.seq (rN [
 oM 72 0 0,oM 73 1 1,oN 74 (.nilCheck (.t 72)) 2,oN 75 (fA 2 74) 3,⟨none,.store 1 false (.t 75) (.t 73),none,4,[]⟩] []) (kS [])) (.seq (rN [
 oM 76 1 0,oN 77 (.nilCheck (.t 76)) 1,oN 78 (fA 4 77) 2,oN 79 (lD 78) 3,oM 80 1 4,oN 81 (.nilCheck (.t 79)) 5,oN 82 (fA 5 81) 6,⟨none,.store 1 false (.t 82) (.t 80),none,7,[]⟩] []) (kS []))) (kB [] (.seq (rN [
 oN 6 (.move (iC 0)) 0] [6]) (kB [6] .ret)))))))))))) }
theorem ok38:fnSoundB Go.Proofs.Try.prog 38 F38=true:=by decide +kernel
def F39:LFunc:={ nparams:=1,results:=[.tmp 2],pure:=false,body :=
 (.seq (rN [
 oN 2 (.move (iC 0)) 0] [0]) (.seq (.block 0 (.seq (rN [
 oM 4 0 0,oN 5 (.eq .ptr false (.t 4) (.c (.nilp))) 1,oM 3 5 2] [0,3]) (.seq (.cond (.t 3) (.seq (rN [
 oN 2 (.move (iC 1)) 0] [2]) (kB [2] .ret)) (.seq (rN [
 oM 7 0 0,oN 8 (.nilCheck (.t 7)) 1,oN 9 (fA 1 8) 2,oN 10 (lD 9) 3,oN 11 (.eq .ptr false (.t 10) (.c (.nilp))) 4,oM 6 11 5] [0,6]) (.seq (.cond (.t 6) (.seq (rN [
 oN 2 (.move (iC 16)) 0] [2]) (kB [2] .ret)) (kS [0])) (kS [0])))) (kS [0])))) (kB [0] (.seq (rN [
 oM 12 0 0,oN 13 (.nilCheck (.t 12)) 1,oN 14 (fA 4 13) 2,oN 15 (lD 14) 3,oN 16 (.eq .ptr false (.t 15) (.c (.nilp))) 4] [0,16]) (.seq (.cond (.t 16) (.seq (.draw [
 oM 17 0 0,oN 18 (.nilCheck (.t 17)) 1,oN 19 (fA 1 18) 2,oN 20 (lD 19) 3,oM 21 0 4,oN 22 (.nilCheck (.t 21)) 5,oN 23 (fA 5 22) 6,oN 24 (lD 23) 7,oN 25 (.nilCheck (.t 20)) 8,oN 26 (fA 2 25) 9,⟨none,.store 1 false (.t 26) (.t 24),none,10,[]⟩] [0] []) (kS [0])) (.seq (.draw [
 oM 27 0 0,oN 28 (.nilCheck (.t 27)) 1,oN 29 (fA 4 28) 2,oN 30 (lD 29) 3,oM 31 0 4,oN 32 (.nilCheck (.t 31)) 5,oN 33 (fA 5 32) 6,oN 34 (lD 33) 7,oN 35 (.nilCheck (.t 30)) 8,oN 36 (fA 5 35) 9,⟨none,.store 1 false (.t 36) (.t 34),none,10,[]⟩] [0] []) (kS [0]))) (kB [0] (.seq (rN [
 oM 37 0 0,oN 38 (.nilCheck (.t 37)) 1,oN 39 (fA 5 38) 2,oN 40 (lD 39) 3,oN 41 (.eq .ptr false (.t 40) (.c (.nilp))) 4] [0,41]) (.seq (.cond (.t 41) (.seq (.draw [
 oM 42 0 0,oN 43 (.nilCheck (.t 42)) 1,oN 44 (fA 1 43) 2,oN 45 (lD 44) 3,oM 46 0 4,oN 47 (.nilCheck (.t 46)) 5,oN 48 (fA 4 47) 6,oN 49 (lD 48) 7,oN 50 (.nilCheck (.t 45)) 8,oN 51 (fA 3 50) 9,⟨none,.store 1 false (.t 51) (.t 49),none,10,[]⟩] [0] []) (kS [0])) (.seq (.draw [
 oM 52 0 0,oN 53 (.nilCheck (.t 52)) 1,oN 54 (fA 5 53) 2,oN 55 (lD 54) 3,oM 56 0 4,oN 57 (.nilCheck (.t 56)) 5,oN 58 (fA 4 57) 6,oN 59 (lD 58) 7,oN 60 (.nilCheck (.t 55)) 8,oN 61 (fA 4 60) 9,⟨none,.store 1 false (.t 61) (.t 59),none,10,[]⟩] [0] []) (kS [0]))) (kB [0] (.seq (rN [
 oM 62 0 0,oM 63 0 1,oM 64 0 2,oN 65 (.nilCheck (.t 62)) 3,oN 66 (fA 1 65) 4,⟨none,.store 1 false (.t 66) (.c (.nilp)),none,5,[]⟩,oN 67 (.nilCheck (.t 63)) 6,oN 68 (fA 4 67) 7,⟨none,.store 1 false (.t 68) (.c (.nilp)),none,8,[]⟩,oN 69 (.nilCheck (.t 64)) 9,oN 70 (fA 5 69) 10,⟨none,.store 1 false (.t 70) (.c (.nilp)),none,11,[]⟩] []) (.seq (rN [
 oN 2 (.move (iC 0)) 0] [2]) (kB [2] .ret)))))))))))) }
theorem ok39:fnSoundB Go.Proofs.Try.prog 39 F39=true:=by decide +kernel
def B40x0:LCode :=
 (.seq (rN [
 oM 13 4 0,oN 14 (.eq .ptr true (.t 13) (.c (.nilp))) 1] [2,4,14]) (.seq (.cond (.t 14) (kS [2,4]) (kB [] (.exit 0))) (kB [2,4] (.seq (.block 1 (.seq (rN [
 oN 17 (lD 2) 0,oM 18 4 1,oN 19 (.callv (.t 17) [(.t 18,.as)]) 2] [2,4]) (kS [2,4]))) (kB [2,4] (.seq (rN [
 oM 15 4 0,oN 16 (.call 29 [(.t 15,.as)]) 1,oM 4 16 2] [2,4]) (kS [2,4])))))))
def F40:LFunc:={ nparams:=3,results:=[],pure:=false,body :=
 (.seq (.draw [
 oN 5 (lD 1) 0,oN 6 (.nilCheck (.t 5)) 1,oN 7 (fA 0 6) 2,oN 8 (lD 7) 3,oM 9 0 4,⟨some 10,.call 41 [(.t 9,.as)],none,5,[0,3]⟩,⟨none,.delete 1 (.t 8) (.t 10),none,6,[]⟩] [0,2] []) (.seq (rN [
 oM 11 0 0,oN 12 (.call 26 [(.t 11,.as)]) 1,oM 4 12 2] [2,4]) (.seq (.block 0 (.seq (kB [2,4] (.loop B40x0)) (kS []))) (kS [])))) }
theorem ok40:fnSoundB Go.Proofs.Try.prog 40 F40=true:=by decide +kernel
def F41:LFunc:={ nparams:=1,results:=[.tmp 2],pure:=false,body :=
 (.seq (rN [
 oN 2 (.move (iC 0)) 0] [0]) (.seq (rN [
 oM 3 0 0,oN 4 (.eq .ptr false (.t 3) (.c (.nilp))) 1] [0,4]) (.seq (.cond (.t 4) (.seq (rN [
 oN 2 (.move (iC 0)) 0] [2]) (kB [2] .ret)) (kS [0])) (kB [0] (.seq (rN [
 oM 5 0 0,oN 6 (.nilCheck (.t 5)) 1,oN 7 (fA 0 6) 2,oN 8 (lD 7) 3,oM 2 8 4] [2]) (kB [2] .ret)))))) }
theorem ok41:fnSoundB Go.Proofs.Try.prog 41 F41=true:=by decide +kernel
def B44x0:LCode :=
 (.seq (rN [
 oM 11 7 0,oN 12 (.eq .ptr true (.t 11) (.c (.nilp))) 1] [1,2,3,4,7,12]) (.seq (.cond (.t 12) (kS [1,2,3,4,7]) (kB [] (.exit 0))) (kB [1,2,3,4,7] (.seq (.block 1 (.seq (.draw [
 oN 15 (lD 2) 0,oN 16 (.nilCheck (.t 15)) 1,oN 17 (fA 0 16) 2,oN 18 (lD 17) 3,oM 19 7 4,⟨some 20,.call 41 [(.t 19,.as)],none,5,[0,3]⟩,oN 21 (.lookup 1 (.nilp) false (.t 18) (.t 20)) 6,oM 8 21 7] [1,2,3,4,7,8] []) (.seq (.draw [
 oN 22 (lD 3) 0,oM 23 7 1,oM 25 1 3,oM 26 8 4,oN 27 (.nilCheck (.t 26)) 5,oN 28 (fA 1 27) 6,oN 29 (lD 28) 7,oM 30 8 8,oN 31 (.nilCheck (.t 30)) 9,oN 32 (fA 2 31) 10,oN 33 (lD 32) 11,oM 34 8 12,oN 35 (.nilCheck (.t 34)) 13,oN 36 (fA 3 35) 14,oN 37 (lD 36) 15,oM 38 8 16,oN 39 (.nilCheck (.t 38)) 17,oN 40 (fA 4 39) 18,oN 41 (lD 40) 19,⟨some 24,.call 41 [(.t 23,.as)],none,2,[0,7,11,15,19]⟩,oN 42 (.pcall 35 [(.t 41,.as)]) 20,oN 43 (.build [.p (.int .i64 0),.p (.int .i64 0),.p (.str []),.p (.str []),.p (.str []),.p (.list [])] [(0,1,.t 24),(1,1,.t 25),(2,1,.t 29),(3,1,.t 33),(4,1,.t 37),(5,1,.t 42)]) 21,oN 44 (.row 6 [.t 43]) 22,oN 45 (.append true 1000 6 88 (.t 22) (.t 44)) 23,⟨none,.store 1 false (.t 3) (.t 45),none,24,[]⟩] [1,2,3,4,7] []) (.seq (rN [
 oN 46 (lD 4) 0,oM 47 7 1,oN 48 (lD 3) 2,oN 49 (.len 1 (.t 48)) 3,oN 50 (.callv (.t 46) [(.t 47,.as),(.t 49,.as)]) 4] [1,2,3,4,7]) (kS [1,2,3,4,7]))))) (kB [1,2,3,4,7] (.seq (rN [
 oM 13 7 0,oN 14 (.call 29 [(.t 13,.as)]) 1,oM 7 14 2] [1,2,3,4,7]) (kS [1,2,3,4,7])))))))
def F44:LFunc:={ nparams:=5,results:=[],pure:=false,body :=
 (.seq (rN [
 oM 9 0 0,oN 10 (.call 26 [(.t 9,.as)]) 1,oM 7 10 2] [1,2,3,4,7]) (.seq (.block 0 (.seq (kB [1,2,3,4,7] (.loop B44x0)) (kS []))) (kS []))) }
theorem ok44:fnSoundB Go.Proofs.Try.prog 44 F44=true:=by decide +kernel
def F45:LFunc:={ nparams:=1,results:=[.tmp 2],pure:=true,body :=
 (.seq (rN [
 oN 2 (.move (.c (.bool false))) 0] [0]) (.seq (rN [
 oM 3 0 0,oN 4 (.pcall 56 [(.t 3,.as),(.c (.str [45,58,46]),.as)]) 1,oM 2 4 2] [2]) (kB [2] .ret))) }
theorem ok45:fnSoundB Go.Proofs.Try.prog 45 F45=true:=by decide +kernel
def F46:LFunc:={ nparams:=3,results:=[.tmp 6],pure:=true,body :=
 (.seq (rN [
 oN 6 (.move (.c (.list []))) 0] [0,1,2]) (.seq (rN [
 oM 11 0 0,oM 12 1 1,oN 13 (.pcall 61 [(.t 11,.as),(.t 12,.as)]) 2,oM 10 13 3,oN 14 (.extract (.t 10) 0) 4,oN 15 (.extract (.t 10) 1) 5,oM 7 14 6,oM 8 15 7] [0,1,2,7,8]) (.seq (rN [
 oM 16 0 0,oN 17 (.call 35 [(.t 16,.as)]) 1,oM 9 17 2] [1,2,7,8,9]) (.seq (rN [
 oM 18 8 0] [1,2,7,9,18]) (.seq (.cond (.t 18) (.seq (rN [
 oM 19 9 0,oM 20 7 1,oM 21 2 2,oN 22 (.indexAddr 2 (.t 19) (.t 20)) 3,oN 23 (fA 1 22) 4,⟨none,.store 1 false (.t 23) (.t 21),none,5,[]⟩] [9]) (.seq (rN [
 oM 24 9 0,oM 6 24 1] [6]) (kB [6] .ret))) (kS [1,2,7,9])) (kB [1,2,7,9] (.seq (rN [
 oM 25 9 0,oM 26 7 1,oM 27 1 2,oM 28 2 3,oN 29 (.build [.p (.str []),.p (.str [])] [(0,1,.t 27),(1,1,.t 28)]) 4,oN 30 (.row 2 [.t 29]) 5,oN 31 (.call 62 [(.t 25,.as),(.t 26,.as),(.t 30,.freeze)]) 6,oM 6 31 7] [6]) (kB [6] .ret)))))))) }
theorem ok46:fnSoundB Go.Proofs.Try.prog 46 F46=true:=by decide +kernel
def F47:LFunc:={ nparams:=2,results:=[.tmp 4,.tmp 5],pure:=true,body :=
 (.seq (rN [
 oN 3 (.box true 3 (.t 1)) 0,oN 4 (.move (.c (.list []))) 1,oN 5 (.move (.c (.bool false))) 2] [0,3]) (.seq (rN [
 oM 7 0 0,oN 8 (.call 35 [(.t 7,.as)]) 1,oN 9 (.makeFunc 64 [.t 3]) 2,oN 10 (.call 63 [(.t 8,.as),(.t 9,.as)]) 3,oM 6 10 4] [0,6]) (.seq (rN [
 oM 11 6 0,oM 12 6 1,oN 13 (.len 1 (.t 12)) 2,oM 14 0 3,oN 15 (.len 1 (.t 14)) 4,oN 16 (.bin .lss (.t 13) (.t 15)) 5,oM 4 11 6,oM 5 16 7] [4,5]) (kB [4,5] .ret)))) }
theorem ok47:fnSoundB Go.Proofs.Try.prog 47 F47=true:=by decide +kernel
def B56x0:LCode :=
 (.seq (rN [
 oN 23 (.bin .lss (.t 22) (.t 21)) 0] [0,1,21,22,23]) (.seq (.cond (.t 23) (kS [0,1,21,22]) (kB [] (.exit 0))) (kB [0,1,21,22] (.seq (.block 1 (.seq (rN [
 oM 24 22 0,oM 5 24 1] [0,1,5,21,22]) (.seq (rN [
 oM 25 0 0,oM 26 5 1,oN 27 (.index (.t 25) (.t 26)) 2,oM 6 27 3] [0,1,6,21,22]) (.seq (rN [
 oM 28 6 0,oN 29 (.pcall 68 [(.t 28,.as)]) 1,oN 30 (.un .not (.t 29)) 2,oM 31 30 3,oG 32 (.move (.t 6)) 31 true 4,oG 33 (.bin .lss (.t 32) (.c (.int .u8 48))) 31 true 5,oG 34 (.move (.t 33)) 31 true 6,oG 35 (.move (.t 6)) 34 false 7,oG 36 (.bin .gtr (.t 35) (.c (.int .u8 57))) 34 false 8,oG 37 (.pick (.t 34) (.c (.bool true)) (.t 36)) 31 true 9,oN 38 (.pick (.t 31) (.t 37) (.c (.bool false))) 10,oM 39 38 11,oG 40 (.move (.t 1)) 39 true 12,oG 41 (.move (.t 6)) 39 true 13,oG 42 (.pcall 69 [(.t 40,.as),(.t 41,.as)]) 39 true 14,oG 43 (.bin .lss (.t 42) (iC 0)) 39 true 15,oN 44 (.pick (.t 39) (.t 43) (.c (.bool false))) 16] [0,1,21,22,44]) (.seq (.cond (.t 44) (.seq (rN [
 oN 4 (.move (.c (.bool false))) 0] [4]) (kB [4] .ret)) (kS [0,1,21,22])) (kS [0,1,21,22])))))) (kB [0,1,21,22] (.seq (rN [
 oN 45 (.bin .add (.t 22) (iC 1)) 0,oM 22 45 1] [0,1,21,22]) (kS [0,1,21,22])))))))
def F56:LFunc:={ nparams:=2,results:=[.tmp 4],pure:=true,body :=
 (.seq (rN [
 oN 4 (.move (.c (.bool false))) 0] [0,1]) (.seq (rN [
 oM 7 0 0,oN 8 (.eq .s false (.t 7) (.c (.str []))) 1,oM 9 8 2,oG 10 (.move (.t 0)) 9 false 3,oG 11 (.len 0 (.t 10)) 9 false 4,oG 12 (.bin .gtr (.t 11) (iC 32)) 9 false 5,oN 13 (.pick (.t 9) (.c (.bool true)) (.t 12)) 6,oM 14 13 7,oG 15 (.move (.t 0)) 14 false 8,oG 16 (.index (.t 15) (iC 0)) 14 false 9,oG 17 (.pcall 68 [(.t 16,.as)]) 14 false 10,oG 18 (.un .not (.t 17)) 14 false 11,oN 19 (.pick (.t 14) (.c (.bool true)) (.t 18)) 12] [0,1,19]) (.seq (.cond (.t 19) (.seq (rN [
 oN 4 (.move (.c (.bool false))) 0] [4]) (kB [4] .ret)) (kS [0,1])) (kB [0,1] (.seq (rN [
 oM 20 0 0,oN 21 (.len 0 (.t 20)) 1,oN 22 (.move (iC 0)) 2] [0,1,21,22]) (.seq (.block 0 (.seq (kB [0,1,21,22] (.loop B56x0)) (kS []))) (kB [] (.seq (rN [
 oN 4 (.move (.c (.bool true))) 0] [4]) (kB [4] .ret))))))))) }
theorem ok56:fnSoundB Go.Proofs.Try.prog 56 F56=true:=by decide +kernel
def B57x0:LCode :=
 (.seq (rN [
 oM 7 0 0,oN 8 (.eq .ptr true (.t 7) (.c (.nilp))) 1] [0,1,8]) (.seq (.cond (.t 8) (kS [0,1]) (kB [] (.exit 0))) (kB [0,1] (.seq (.block 1 (.seq (rN [
 oM 13 0 0,oM 14 1 1,oN 15 (.eq .ptr false (.t 13) (.t 14)) 2] [0,1,15]) (.seq (.cond (.t 15) (.seq (rN [
 oN 4 (.move (.c (.bool true))) 0] [4]) (kB [4] .ret)) (kS [0,1])) (kS [0,1])))) (kB [0,1] (.seq (rN [
 oM 9 0 0,oN 10 (.nilCheck (.t 9)) 1,oN 11 (fA 1 10) 2,oN 12 (lD 11) 3,oM 0 12 4] [0,1]) (kS [0,1])))))))
def F57:LFunc:={ nparams:=2,results:=[.tmp 4],pure:=false,body :=
 (.seq (rN [
 oN 4 (.move (.c (.bool false))) 0] [0,1]) (.seq (rN [
 oM 5 1 0,oN 6 (.eq .ptr false (.t 5) (.c (.nilp))) 1] [0,1,6]) (.seq (.cond (.t 6) (.seq (rN [
 oN 4 (.move (.c (.bool false))) 0] [4]) (kB [4] .ret)) (kS [0,1])) (kB [0,1] (.seq (.block 0 (.seq (kB [0,1] (.loop B57x0)) (kS []))) (kB [] (.seq (rN [
 oN 4 (.move (.c (.bool false))) 0] [4]) (kB [4] .ret)))))))) }
theorem ok57:fnSoundB Go.Proofs.Try.prog 57 F57=true:=by decide +kernel
def B61x0:LCode :=
 (.seq (rN [
 oN 14 (.bin .lss (.t 13) (.t 12)) 0] [0,1,6,11,12,13,14]) (.seq (.cond (.t 14) (kS [0,1,6,11,12,13]) (kB [6] (.exit 0))) (kB [0,1,6,11,12,13] (.seq (.block 1 (.seq (.region [
 oM 15 13 0,oN 16 (.indexAddr 2 (.t 11) (.t 13)) 1,oN 17 (.load 2 true (.t 16)) 2,oN 8 (.alloc false 8 [.p (.str []),.p (.str [])] []) 3,oM 7 15 4,⟨none,.store 2 true (.t 8) (.t 17),none,5,[]⟩] false [0,1,6,7,8,11,12,13] [8]) (.seq (.block 2 (.seq (.block 5 (.seq (.block 4 (.seq (.block 3 (.seq (.region [
 oN 19 (fA 0 8) 0,oN 20 (lD 19) 1,oM 21 1 2,oN 22 (.eq .s false (.t 20) (.t 21)) 3,oM 18 22 4] false [0,1,6,7,8,11,12,13,18] [8]) (.seq (.cond (.t 18) (kB [7] (.exit 3)) (.keep [0,1,6,7,8,11,12,13] [8] .skip)) (.keep [0,1,6,7,8,11,12,13] [8] (.seq (.region [
 oM 24 6 0,oM 25 0 1,oN 26 (.len 1 (.t 25)) 2,oN 27 (.bin .lss (.t 24) (.t 26)) 3,oM 23 27 4] false [0,1,6,7,8,11,12,13,23] [8]) (.seq (.cond (.t 23) (kB [0,1,6,11,12,13] (.exit 4)) (.keep [0,1,6,7,8,11,12,13] [8] .skip)) (.keep [0,1,6,7,8,11,12,13] [8] (.seq (rN [
 oN 29 (fA 0 8) 0,oN 30 (lD 29) 1,oM 31 1 2,oN 32 (.bin .lss (.t 30) (.t 31)) 3,oM 28 32 4] [0,1,6,7,11,12,13,28]) (.seq (.cond (.t 28) (kB [0,1,6,11,12,13] (.exit 5)) (kS [0,1,7,11,12,13])) (kB [0,1,7,11,12,13] (.exit 2))))))))))) (kB [7] (.seq (rN [
 oM 33 7 0,oM 4 33 1,oN 5 (.move (.c (.bool true))) 2] [4,5]) (.seq (kB [4,5] .ret) (kB [0,1,7,11,12,13] (.exit 2))))))) (kS [0,1,6,11,12,13]))) (.seq (kB [0,1,6,11,12,13] (.exit 1)) (kB [0,1,7,11,12,13] (.exit 2))))) (kB [0,1,7,11,12,13] (.seq (rN [
 oM 34 7 0,oM 6 34 1] [0,1,6,11,12,13]) (kS [0,1,6,11,12,13])))))) (kB [0,1,6,11,12,13] (.seq (rN [
 oN 35 (.bin .add (.t 13) (iC 1)) 0,oM 13 35 1] [0,1,6,11,12,13]) (kS [0,1,6,11,12,13])))))))
def F61:LFunc:={ nparams:=2,results:=[.tmp 4,.tmp 5],pure:=true,body :=
 (.seq (rN [
 oN 4 (.move (iC 0)) 0,oN 5 (.move (.c (.bool false))) 1] [0,1]) (.seq (rN [
 oM 9 0 0,oN 10 (.len 1 (.t 9)) 1,oM 6 10 2] [0,1,6]) (.seq (rN [
 oM 11 0 0,oN 12 (.len 1 (.t 11)) 1,oN 13 (.move (iC 0)) 2] [0,1,6,11,12,13]) (.seq (.block 0 (.seq (kB [0,1,6,11,12,13] (.loop B61x0)) (kS [6]))) (kB [6] (.seq (rN [
 oM 36 6 0,oM 4 36 1,oN 5 (.move (.c (.bool false))) 2] [4,5]) (kB [4,5] .ret))))))) }
theorem ok61:fnSoundB Go.Proofs.Try.prog 61 F61=true:=by decide +kernel
def F64:LFunc:={ nparams:=2,results:=[.tmp 3],pure:=false,body :=
 (.seq (.region [
 oN 2 (.box false 2 (.t 0)) 0,oN 3 (.move (.c (.bool false))) 1] false [1,2] [2]) (.seq (rN [
 oN 4 (fA 0 2) 0,oN 5 (lD 4) 1,oN 6 (lD 1) 2,oN 7 (.eq .s false (.t 5) (.t 6)) 3,oM 3 7 4] [3]) (kB [3] .ret))) }
theorem ok64:fnSoundB Go.Proofs.Try.prog 64 F64=true:=by decide +kernel
def F68:LFunc:={ nparams:=1,results:=[.tmp 2],pure:=true,body :=
 (.seq (rN [
 oN 2 (.move (.c (.bool false))) 0] [0]) (.seq (rN [
 oM 3 0 0,oN 4 (.bin .geq (.t 3) (.c (.int .u8 97))) 1,oM 5 4 2,oG 6 (.move (.t 0)) 5 true 3,oG 7 (.bin .leq (.t 6) (.c (.int .u8 122))) 5 true 4,oN 8 (.pick (.t 5) (.t 7) (.c (.bool false))) 5,oM 2 8 6] [2]) (kB [2] .ret))) }
theorem ok68:fnSoundB Go.Proofs.Try.prog 68 F68=true:=by decide +kernel
def B83x0:LCode :=
 (.seq (rN [
 oN 9 (.bin .lss (.t 8) (.t 7)) 0] [0,1,7,8,9]) (.seq (.cond (.t 9) (kS [0,1,7,8]) (kB [] (.exit 0))) (kB [0,1,7,8] (.seq (.block 1 (.seq (rN [
 oM 10 8 0,oM 5 10 1] [0,1,5,7,8]) (.seq (rN [
 oM 11 1 0,oM 12 0 1,oM 13 5 2,oN 14 (.indexAddr 2 (.t 12) (.t 13)) 3,oN 15 (.load 2 true (.t 14)) 4,oN 16 (.callv (.t 11) [(.t 15,.as)]) 5] [0,1,5,7,8,16]) (.seq (.cond (.t 16) (.seq (rN [
 oM 17 5 0,oM 4 17 1] [4]) (kB [4] .ret)) (kS [0,1,7,8])) (kS [0,1,7,8]))))) (kB [0,1,7,8] (.seq (rN [
 oN 18 (.bin .add (.t 8) (iC 1)) 0,oM 8 18 1] [0,1,7,8]) (kS [0,1,7,8])))))))
def F83:LFunc:={ nparams:=2,results:=[.tmp 4],pure:=false,body :=
 (.seq (rN [
 oN 4 (.move (iC 0)) 0] [0,1]) (.seq (rN [
 oM 6 0 0,oN 7 (.len 1 (.t 6)) 1,oN 8 (.move (iC 0)) 2] [0,1,7,8]) (.seq (.block 0 (.seq (kB [0,1,7,8] (.loop B83x0)) (kS []))) (kB [] (.seq (rN [
 oN 4 (.move (iC (-1))) 0] [4]) (kB [4] .ret)))))) }
theorem ok83:fnSoundB Go.Proofs.Try.prog 83 F83=true:=by decide +kernel
end Go.TA.Try


end
