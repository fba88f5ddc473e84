/- Part 2 of 15 of a proof; joined from LibB. What its values say of memory; the first operations are sound. -/
import Derived.Test.YtbgbmdjfogohnaaGreatDoorIr1
import Derived.Below
import Derived.Laws.AppendOwn
import Derived.Laws.Rows
import Derived.Laws.Strings
import Derived.Laws.Entries
import Derived.WalkKit
import Derived.Laws.StructEq
import Derived.ChangeKeysEq
import Derived.Laws.Concat
import Derived.Laws.Strings2
import Derived.Laws.Cells
import Derived.Laws.BytesArg
set_option linter.unusedSimpArgs false
set_option linter.unusedVariables false
set_option linter.defProp false
set_option maxRecDepth 100000
set_option maxHeartbeats 8000000
section
/- What its values say of memory; the first operations are sound. -/
namespace Go.TA
structure Ground where
 B:Nat
 holds:World→Prop
 lt:∀ w,holds w→B≤w.heap.size
 keep:∀ w w',holds w→(∀ b,b<B→w'.heap[b]? = w.heap[b]?)→w.heap.size≤w'.heap.size→holds w'
structure Cx where
 X:Nat→Prop
 μ : Bool→Nat→Option Nat
 l:List (Nat × AObj)
 g:List AObj
 w:World
def Cx.obj (c:Cx) (z:Bool) (k:Nat):Option AObj:=if z then c.g[k]? else lk c.l k
def Cx.Own (c:Cx) (b:Nat):Prop:=∃ z k,c.μ z k=some b
def Cx.N (c:Cx) (b:Nat):Prop:=¬ c.X b∧¬ c.Own b
def AObj.cnt:AObj→Option Nat
 | .dead=>none
 | .pcells _ xs=>some xs.length
 | .cells _ xs=>some xs.length
 | .map _=>some 0
 | .siter _ _=>some 0
def AObj.isMap:AObj→Bool
 | .map _=>true
 | _=>false
def AObj.sz:AObj→Nat
 | .pcells s _=>s
 | .cells s _=>s
 | _=>0
inductive RelP (w:World) (N:Nat→Prop):PV→Value→Prop
 | bool (b:Bool):RelP w N (.bool b) (.bool b)
 | int (k:IntKind) (n:Int):RelP w N (.int k n) (.int k n)
 | str (s:List UInt8):RelP w N (.str s) (.string ⟨s.toArray⟩)
 | nilp:RelP w N .nilp (.pointer none)
 | nilm:RelP w N .nilm (.map none)
 | nilf:RelP w N .nilf .nilFunc
 | nili:RelP w N .nili .nilIface
 | none (A:Option Addr) (cap:Nat):cap≤maxLen→RelP w N (.list []) (.slice A 0 cap)
 | list (xs:List (List PV)) (b off cap sz:Nat) (f:Nat→Nat→Value):N b→b<w.heap.size→xs.length≤cap→cap≤maxLen→(∀ i (h:i<xs.length),(xs[i]).length=sz) →
   (∀ i j,i<xs.length→j<sz→w.cell? ⟨b,off+(i*sz+j),.none⟩=some (f i j))→(∀ i j,(f i j).oneCell'=true) →
   (∀ i j (hi:i<xs.length) (hj:j<(xs[i]).length),RelP w N (xs[i][j]) (f i j))→RelP w N (.list xs) (.slice (some ⟨b,off,.none⟩) xs.length cap)
 | agg (cs:List PV) (vs:List Value):cs.length=vs.length→(∀ v ∈ vs,v.oneCell'=true)→(∀ j (h:j<cs.length) (h':j<vs.length),RelP w N (cs[j]) (vs[j]))→RelP w N (.agg cs) (.agg vs.toArray)
def Cx.Row (c : Cx) (z : Bool) (k n : Nat) (A : Option Addr) (cap : Nat) : Prop :=
  ∃ o, c.obj z k = some o ∧ ∀ m, o.cnt = some m → n ≤ m ∧ (n = m → (c.μ z k = none ∧ n = 0 ∧ A = none ∧ cap = 0) ∨
    ∃ b cs e,c.μ z k=some b∧A=some ⟨b,0,none⟩∧n≤cap∧cap≤maxLen∧c.w.heap[b]? = some (.cells cs e (0,0))∧cs.size=cap*o.sz)
def Cx.Place (c:Cx) (z:Bool) (k sz n i j:Nat) (a:Addr):Prop :=
 ∃ o,c.obj z k=some o∧∀ m,o.cnt=some m→n≤m∧(n=m→∃ b,c.μ z k=some b∧a=⟨b,i*sz+j,none⟩)
def Cx.Map (c:Cx) (z:Bool) (k:Nat) (v:Value):Prop :=
 ∃ o,c.obj z k=some o∧∀ m,o.cnt=some m→o.isMap=true∧∃ b,c.μ z k=some b∧v = .map (some b)
inductive RelV (c:Cx):AV→Value→Prop
 | bot (v:Value):RelV c .bot v
 | p (pv:PV) (v:Value):RelP c.w c.N pv v→RelV c (.p pv) v
 | rop (cs:List PV) (b off:Nat) (f:Nat→Value):c.N b→b<c.w.heap.size→(∀ j,j<cs.length→c.w.cell? ⟨b,off+j,none⟩=some (f j))→(∀ j,(f j).oneCell'=true) →
   (∀ j (h:j<cs.length),RelP c.w c.N (cs[j]) (f j))→RelV c (.rop cs) (.pointer (some ⟨b,off,none⟩))
 | ptr (z:Bool) (k sz n i j:Nat) (a:Addr):c.Place z k sz n i j a→RelV c (.ptr z k sz n i j) (.pointer (some a))
 | own (z:Bool) (k n:Nat) (A:Option Addr) (cap:Nat):c.Row z k n A cap→RelV c (.own z k n) (.slice A n cap)
 | nils:RelV c .nils (.slice none 0 0)
 | lit (xs:List (List AV)) (b cap sz:Nat) (f:Nat→Nat→Value):c.N b→b<c.w.heap.size→xs.length≤cap→cap≤maxLen→(∀ i (h:i<xs.length),(xs[i]).length=sz) →
   (∀ i j,i<xs.length→j<sz→c.w.cell? ⟨b,i*sz+j,none⟩=some (f i j))→(∀ i j,(f i j).oneCell'=true) →
   (∀ i j (hi:i<xs.length) (hj:j<(xs[i]).length),RelV c (xs[i][j]) (f i j))→RelV c (.lit xs) (.slice (some ⟨b,0,none⟩) xs.length cap)
 | map (z:Bool) (k:Nat) (r:Option Nat):c.Map z k (.map r)→RelV c (.map z k) (.map r)
 | func (f:Nat) (cs:List AV) (vs:List Value):cs.length=vs.length→(∀ j (h:j<cs.length) (h':j<vs.length),RelV c (cs[j]) (vs[j]))→RelV c (.func f cs) (.func (.func f) #[] vs.toArray)
 | agg (cs:List AV) (vs:List Value):cs.length=vs.length→(∀ v ∈ vs,v.oneCell'=true)→(∀ j (h:j<cs.length) (h':j<vs.length),RelV c (cs[j]) (vs[j]))→RelV c (.agg cs) (.agg vs.toArray)
 | tuple (cs:List AV) (vs:List Value):cs.length=vs.length→(∀ j (h:j<cs.length) (h':j<vs.length),RelV c (cs[j]) (vs[j]))→RelV c (.tuple cs) (.tuple vs.toArray)
 | bound (f:Nat) (cs:List AV) (vs:List Value):cs.length=vs.length→(∀ j (h:j<cs.length) (h':j<vs.length),RelV c (cs[j]) (vs[j]))→RelV c (.bound f cs) (.func (.func f) vs.toArray #[])
def RelRow (c : Cx) (m : Option Nat) (sz : Nat) (xs : List (List AV)) : Prop :=
  (∀ i (h:i<xs.length),(xs[i]).length=sz)∧((m=none∧xs=[])∨∃ b cs e,m=some b∧c.w.heap[b]? = some (.cells cs e (0,0))∧xs.length*sz≤cs.size ∧
    ∀ i j (hi:i<xs.length) (hj:j<(xs[i]).length),∃ v,cs[i*sz+j]? = some v∧v.oneCell'=true∧RelV c (xs[i][j]) v)
def isKey:PV→Bool
 | .bool _ | .int _ _ | .str _=>true
 | _=>false
def Stamps (es:List MapEntry) (clock:Nat):Prop:=(∀ x ∈ es,x.born<clock)∧(es.map (·.born)).Nodup
def RelMap (c : Cx) (m : Option Nat) (es : List (PV × AV)) : Prop :=
  ∃ b es' clock, m = some b ∧ c.w.heap[b]? = some (.map es' clock) ∧ (es'.size = es.length ∧ Stamps es'.toList clock) ∧
    (∀ i (h:i<es.length) (h':i<es'.size),isKey (es[i]).1=true∧RelP c.w c.N (es[i]).1 (es'[i]).key∧RelV c (es[i]).2 (es'[i]).val)
def lift (xs:List (List PV)):List (List AV):=xs.map fun r=>r.map AV.p
def RelObj (c:Cx) (z:Bool) (k:Nat):AObj→Prop
 | .dead=>True
 | .pcells sz xs=>RelRow c (c.μ z k) sz (lift xs)
 | .cells sz xs=>RelRow c (c.μ z k) sz xs
 | .map es=>RelMap c (c.μ z k) es
 | .siter _ _=>True
structure RelH (Γ : Ground) (c:Cx):Prop where
 ground : Γ.holds c.w
 objs:∀ z k o,c.obj z k=some o→RelObj c z k o
 inj:∀ z k z' k' b,c.μ z k=some b→c.μ z' k'=some b→z=z'∧k=k'
 live:∀ z k b,c.μ z k=some b→b<c.w.heap.size ∧ Γ.B≤b∧¬ c.X b∧∃ o,c.obj z k=some o∧o.cnt≠none
 xlt:∀ b,c.X b→b<c.w.heap.size
structure Evolve (c c':Cx):Prop where
 X:c'.X=c.X
 size:c.w.heap.size≤c'.w.heap.size
 tape:c'.w.tape=c.w.tape
 os:c'.w.os=c.w.os
 output:c'.w.output=c.w.output
 keep:∀ b,b<c.w.heap.size→¬ c.Own b→c'.w.heap[b]? = c.w.heap[b]?
 fresh:∀ b,c'.Own b→c.Own b∨c.w.heap.size≤b
 objs:∀ z k o,c.obj z k=some o→∃ o',c'.obj z k=some o'∧∀ m',o'.cnt=some m'→∃ m,o.cnt=some m∧m≤m'∧o'.isMap=o.isMap ∧
  (m=m'→c'.μ z k=c.μ z k∧o'.sz=o.sz∧∀ b cs e,c.μ z k=some b→c.w.heap[b]? = some (.cells cs e (0,0))→∃ cs',c'.w.heap[b]? = some (.cells cs' e (0,0))∧cs'.size=cs.size)
theorem RelP.mono {w w':World} {N N':Nat→Prop} (H:∀ b,N b→b<w.heap.size→N' b∧b<w'.heap.size∧w'.heap[b]? = w.heap[b]?) {pv:PV} {v:Value} (h:RelP w N pv v):RelP w' N' pv v:=by
  induction h with
  | bool b=>exact .bool b
  | int k n=>exact .int k n
  | str s=>exact .str s
  | nilp=>exact .nilp
  | nilm=>exact .nilm
  | nilf=>exact .nilf
  | nili=>exact .nili
  | none A cap h=>exact .none A cap h
  | list xs b off cap sz f hN hb hc hm hl hcell h1 hr ih =>
    obtain ⟨a1,a2,a3⟩:=H b hN hb
    exact .list xs b off cap sz f a1 a2 hc hm hl (fun i j hi hj=>(World.cell?_of_block (a:=⟨b,off+(i*sz+j),.none⟩) a3).trans (hcell i j hi hj)) h1 ih
  | agg cs vs hl h1 hr ih=>exact .agg cs vs hl h1 ih
section
variable {c c':Cx}
theorem Evolve.N (h:Evolve c c') (b:Nat) (hN:c.N b) (hb:b<c.w.heap.size):c'.N b∧b<c'.w.heap.size∧c'.w.heap[b]? = c.w.heap[b]? := by
 refine ⟨⟨by rw [h.X];exact hN.1,fun ho => ?_⟩,Nat.lt_of_lt_of_le hb h.size,h.keep b hb hN.2⟩
 rcases h.fresh b ho with h1 | h1
 ·exact hN.2 h1
 ·omega
theorem Evolve.cell (h:Evolve c c') {b o:Nat} (hN:c.N b) (hb:b<c.w.heap.size):c'.w.cell? ⟨b,o,none⟩=c.w.cell? ⟨b,o,none⟩ :=
 World.cell?_of_block (a:=⟨b,o,none⟩) (h.N b hN hb).2.2
theorem Evolve.relP (h:Evolve c c') {pv:PV} {v:Value} (hr:RelP c.w c.N pv v):RelP c'.w c'.N pv v:=hr.mono h.N
theorem Evolve.relV (h:Evolve c c') {av:AV} {v:Value} (hr:RelV c av v):RelV c' av v:=by
  induction hr with
  | bot v=>exact .bot v
  | p pv v hp=>exact .p pv v (h.relP hp)
  | rop cs b off f hN hb hc h1 hr =>
    obtain ⟨a1,a2,a3⟩:=h.N b hN hb
    exact .rop cs b off f a1 a2 (fun j hj=>(h.cell hN hb).trans (hc j hj)) h1 (fun j hj=>h.relP (hr j hj))
  | ptr z k sz n i j a hp =>
    obtain ⟨o,ho,H⟩:=hp
    obtain ⟨o',ho',H'⟩:=h.objs z k o ho
    refine .ptr z k sz n i j a ⟨o',ho',fun m' hm' => ?_⟩
    obtain ⟨m,hm,hle,_,hsame⟩:=H' m' hm'
    obtain ⟨h1,h2⟩:=H m hm
    refine ⟨by omega,fun e => ?_⟩
    have e1:n=m:=by omega
    have e2:m=m':=by omega
    obtain ⟨b,hb,ha⟩:=h2 e1
    exact ⟨b,(hsame e2).1.trans hb,ha⟩
  | own z k n A cap hp =>
    obtain ⟨o,ho,H⟩:=hp
    obtain ⟨o',ho',H'⟩:=h.objs z k o ho
    refine .own z k n A cap ⟨o',ho',fun m' hm' => ?_⟩
    obtain ⟨m,hm,hle,_,hsame⟩:=H' m' hm'
    obtain ⟨h1,h2⟩:=H m hm
    refine ⟨by omega,fun e => ?_⟩
    have e1:n=m:=by omega
    have e2:m=m':=by omega
    obtain ⟨s1,s2,s3⟩:=hsame e2
    rcases h2 e1 with ⟨x1,x2,x3,x4⟩ | ⟨b,cs,e,x1,x2,x3,x4,x5,x6⟩
    · exact .inl ⟨s1.trans x1,x2,x3,x4⟩
    · obtain ⟨cs',y1,y2⟩:=s3 b cs e x1 x5
      exact .inr ⟨b,cs',e,s1.trans x1,x2,x3,x4,y1,by rw [y2,x6,s2]⟩
  | nils=>exact .nils
  | lit xs b cap sz f hN hb hc hm hl hcell h1 hr ih =>
    obtain ⟨a1,a2,a3⟩:=h.N b hN hb
    exact .lit xs b cap sz f a1 a2 hc hm hl (fun i j hi hj=>(h.cell hN hb).trans (hcell i j hi hj)) h1 ih
  | map z k v hp =>
    obtain ⟨o,ho,H⟩:=hp
    obtain ⟨o',ho',H'⟩:=h.objs z k o ho
    refine .map z k v ⟨o',ho',fun m' hm' => ?_⟩
    obtain ⟨m,hm,hle,hk,hsame⟩:=H' m' hm'
    obtain ⟨hi,b,hb,hv⟩:=H m hm
    have e:m=m':=by
      rw [hi] at hk
      cases o <;> simp [AObj.isMap] at hi
      cases o' <;> simp [AObj.isMap] at hk
      simp [AObj.cnt] at hm hm'
      omega
    exact ⟨hk.trans hi,b,(hsame e).1.trans hb,hv⟩
  | func f cs vs hl hr ih=>exact .func f cs vs hl ih
  | bound f cs vs hl hr ih=>exact .bound f cs vs hl ih
  | agg cs vs hl h1 hr ih=>exact .agg cs vs hl h1 ih
  | tuple cs vs hl hr ih=>exact .tuple cs vs hl ih
theorem Evolve.refl (c:Cx):Evolve c c :=
 ⟨rfl,Nat.le_refl _,rfl,rfl,rfl,fun _ _ _=>rfl,fun _ h => .inl h,fun z k o h=>⟨o,h,fun m hm=>⟨m,hm,Nat.le_refl _,rfl,fun _=>⟨rfl,rfl,fun b cs e _ hh=>⟨cs,hh,rfl⟩⟩⟩⟩⟩
theorem Evolve.trans {c'':Cx} (h:Evolve c c') (h':Evolve c' c''):Evolve c c'' where
 X:=h'.X.trans h.X
 size:=Nat.le_trans h.size h'.size
 tape:=h'.tape.trans h.tape
 os:=h'.os.trans h.os
 output:=h'.output.trans h.output
 keep b hb hn:=by
  have h1:¬ c'.Own b:=fun ho=>by
   rcases h.fresh b ho with h2 | h2
   ·exact hn h2
   ·omega
  exact (h'.keep b (Nat.lt_of_lt_of_le hb h.size) h1).trans (h.keep b hb hn)
 fresh b ho:=by
  rcases h'.fresh b ho with h1 | h1
  ·exact h.fresh b h1
  ·exact .inr (Nat.le_trans h.size h1)
 objs z k o ho:=by
  obtain ⟨o1,h1,H1⟩:=h.objs z k o ho
  obtain ⟨o2,h2,H2⟩:=h'.objs z k o1 h1
  refine ⟨o2,h2,fun m2 hm2 => ?_⟩
  obtain ⟨m1,hm1,hle1,hk1,s1⟩:=H2 m2 hm2
  obtain ⟨m0,hm0,hle0,hk0,s0⟩:=H1 m1 hm1
  refine ⟨m0,hm0,Nat.le_trans hle0 hle1,hk1.trans hk0,fun e => ?_⟩
  obtain ⟨a1,a2,a3⟩:=s1 (by omega)
  obtain ⟨b1,b2,b3⟩:=s0 (by omega)
  refine ⟨a1.trans b1,a2.trans b2,fun b cs e hb hh => ?_⟩
  obtain ⟨cs1,x1,x2⟩:=b3 b cs e hb hh
  obtain ⟨cs2,y1,y2⟩:=a3 b cs1 e (b1.trans hb) x1
  exact ⟨cs2,y1,y2.trans x2⟩
theorem RelRow.mono (h:Evolve c c') {m:Option Nat} (hh:∀ b,m=some b→c'.w.heap[b]? = c.w.heap[b]?) {sz:Nat} {xs:List (List AV)} (hr:RelRow c m sz xs):RelRow c' m sz xs:=by
 obtain ⟨h0,h1⟩:=hr
 refine ⟨h0, ?_⟩
 rcases h1 with h1 | ⟨b,cs,e,hm,hb,hs,hv⟩
 ·exact .inl h1
 ·refine .inr ⟨b,cs,e,hm,(hh b hm).trans hb,hs,fun i j hi hj => ?_⟩
  obtain ⟨v,v1,v2,v3⟩:=hv i j hi hj
  exact ⟨v,v1,v2,h.relV v3⟩
theorem RelMap.mono (h:Evolve c c') {m:Option Nat} (hh:∀ b,m=some b→c'.w.heap[b]? = c.w.heap[b]?) {es:List (PV × AV)} (hr:RelMap c m es):RelMap c' m es:=by
 obtain ⟨b,es',clock,hm,hb,hs,hv⟩:=hr
 exact ⟨b,es',clock,hm,(hh b hm).trans hb,hs,fun i h1 h2=>⟨(hv i h1 h2).1,h.relP (hv i h1 h2).2.1,h.relV (hv i h1 h2).2.2⟩⟩
theorem RelObj.mono (h:Evolve c c') {z:Bool} {k:Nat} (hμ : c'.μ z k=c.μ z k) (hh:∀ b,c.μ z k=some b→c'.w.heap[b]? = c.w.heap[b]?) {o:AObj} (hr:RelObj c z k o):RelObj c' z k o:=by
 cases o with
 | dead=>trivial
 | pcells sz xs=>simp only [RelObj,hμ] at hr ⊢;exact hr.mono h hh
 | cells sz xs=>simp only [RelObj,hμ] at hr ⊢;exact hr.mono h hh
 | map es=>simp only [RelObj,hμ] at hr ⊢;exact RelMap.mono h hh hr
 | siter s p=>trivial
variable {Γ : Ground}
theorem RelH.step (h:RelH Γ c) (hE:Evolve c c') (hobjs:∀ z k o,c'.obj z k=some o→(c.obj z k=some o∧c'.μ z k=c.μ z k∧∀ b,c.μ z k=some b→c'.w.heap[b]? = c.w.heap[b]?)∨RelObj c' z k o)
  (hinj:∀ z k z' k' b,c'.μ z k=some b→c'.μ z' k'=some b→z=z'∧k=k') (hlive:∀ z k b,c'.μ z k=some b→b<c'.w.heap.size ∧ Γ.B≤b∧¬ c'.X b∧∃ o,c'.obj z k=some o∧o.cnt≠none):RelH Γ c' where
 ground := Γ.keep _ _ h.ground (fun b hb=>hE.keep b (Nat.lt_of_lt_of_le hb (Γ.lt _ h.ground)) (fun ⟨z,k,ho⟩=>by have:=(h.live z k b ho).2.1;omega)) hE.size
 objs z k o ho:=by
  rcases hobjs z k o ho with ⟨h1,h2,h3⟩ | h1
  ·exact (h.objs z k o h1).mono hE h2 h3
  ·exact h1
 inj:=hinj
 live:=hlive
 xlt b hb:=Nat.lt_of_lt_of_le (h.xlt b (hE.X ▸ hb)) hE.size
theorem evolve_below {w':World} (hb:Go.RowKit.Below c.w.heap.size c.w w') (hlt:∀ b,c.Own b→b<c.w.heap.size):Evolve c { c with w:=w' } :=
 ⟨rfl,hb.size,hb.tape,hb.os,hb.output,fun b h _=>hb.block b h,fun _ h => .inl h,fun z k o h=>⟨o,h,fun m hm=>⟨m,hm,Nat.le_refl _,rfl,fun _=>⟨rfl,rfl,fun b cs e hμ hh=>⟨cs,(hb.block b (hlt b ⟨z,k,hμ⟩)).trans hh,rfl⟩⟩⟩⟩⟩
theorem RelH.lt (h:RelH Γ c) (b:Nat) (ho:c.Own b):b<c.w.heap.size:=by
 obtain ⟨z,k,hk⟩:=ho
 exact (h.live z k b hk).1
theorem RelH.below (h:RelH Γ c) {w':World} (hb:Go.RowKit.Below c.w.heap.size c.w w'):RelH Γ { c with w:=w' } :=
 h.step (evolve_below hb h.lt) (fun z k o ho => .inl ⟨ho,rfl,fun b hμ => hb.block b (h.lt b ⟨z,k,hμ⟩)⟩) h.inj (fun z k b hμ => by
  obtain ⟨h1,h2,h3,h4⟩:=h.live z k b hμ
  exact ⟨Nat.lt_of_lt_of_le h1 hb.size,h2,h3,h4⟩)
def Cx.add (c:Cx) (z:Bool) (k:Nat) (o:AObj) (m:Option Nat) (w':World):Cx :=
 ⟨c.X,fun z' k'=>if z'=z∧k'=k then m else c.μ z' k',if z then c.l else (k,o)::c.l,if z then c.g++[o] else c.g,w'⟩
def Cx.Free (c:Cx) (z:Bool) (k:Nat):Prop:=if z then k=c.g.length else lk c.l k=none
theorem Cx.Free.none {z:Bool} {k:Nat} (h:c.Free z k):c.obj z k=none:=by
 unfold Cx.Free at h
 unfold Cx.obj
 cases z
 ·simpa using h
 ·simp at h;subst h;simp
theorem Cx.obj_add {z : Bool} {k : Nat} {o : AObj} {m : Option Nat} {w' : World} (h : c.Free z k) (z' : Bool) (k' : Nat) : (c.add z k o m w').obj z' k' = if z' = z ∧ k' = k then some o else c.obj z' k' := by
  unfold Cx.obj Cx.add Cx.Free at *
  cases z <;> cases z' <;> simp at h ⊢
  · simp only [lk]
    by_cases e:k=k'
    · subst e;simp
    · rw [if_neg (fun h=>e h.symm)]
      have:(k==k')=false:=by simpa using e
      simp [this]
  · subst h
    by_cases e:k'=c.g.length
    · subst e;simp
    · rw [if_neg e,List.getElem?_append]
      split
      · rfl
      · rename_i hlt
        rw [List.getElem?_eq_none (l:=c.g) (by omega),List.getElem?_eq_none (by simp only [List.length_singleton];omega)]
theorem RelH.noμ (h:RelH Γ c) {z:Bool} {k:Nat} (hf:c.Free z k):c.μ z k=none:=by
  cases hm:c.μ z k with
  | none=>rfl
  | some b =>
    obtain ⟨_,_,_,o,ho,_⟩:=h.live z k b hm
    rw [hf.none] at ho
    cases ho
theorem evolve_add {z:Bool} {k:Nat} (o:AObj) (m:Option Nat) {w':World} (hf:c.Free z k) (hμ : c.μ z k=none) (hb:Go.RowKit.Below c.w.heap.size c.w w') (hlt:∀ b,c.Own b→b<c.w.heap.size) (hm:∀ b,m=some b→c.w.heap.size≤b):Evolve c (c.add z k o m w') where
 X:=rfl
 size:=hb.size
 tape:=hb.tape
 os:=hb.os
 output:=hb.output
 keep b h _:=hb.block b h
 fresh b ho:=by
  obtain ⟨z',k',h'⟩:=ho
  simp only [Cx.add] at h'
  split at h'
  ·exact .inr (hm b h')
  ·exact .inl ⟨z',k',h'⟩
 objs z' k' o' ho:=by
  have hne:¬ (z'=z∧k'=k):=fun ⟨e1,e2⟩=>by subst e1;subst e2;rw [hf.none] at ho;cases ho
  refine ⟨o',by rw [Cx.obj_add hf,if_neg hne];exact ho,fun m' hm'=>⟨m',hm',Nat.le_refl _,rfl,fun _=>⟨by simp [Cx.add,hne],rfl,fun b cs e hμ' hh=>⟨cs,(hb.block b (hlt b ⟨z',k',hμ'⟩)).trans hh,rfl⟩⟩⟩⟩
theorem RelH.add (h:RelH Γ c) {z:Bool} {k:Nat} (o:AObj) (m:Option Nat) {w':World} (hf:c.Free z k) (hb:Go.RowKit.Below c.w.heap.size c.w w') (hm:∀ b,m=some b→c.w.heap.size≤b∧b<w'.heap.size∧¬ c.X b) (ha:m≠none→o.cnt≠none)
  (hr:RelObj (c.add z k o m w') z k o):Evolve c (c.add z k o m w')∧RelH Γ (c.add z k o m w'):=by
 have hE:=evolve_add o m hf (h.noμ hf) hb h.lt (fun b e=>(hm b e).1)
 refine ⟨hE,h.step hE (fun z' k' o' ho => ?_) (fun z1 k1 z2 k2 b h1 h2 => ?_) (fun z' k' b h1 => ?_)⟩
 ·rw [Cx.obj_add hf] at ho
  split at ho
  ·rename_i e
   obtain ⟨rfl,rfl⟩:=e
   cases ho
   exact .inr hr
  ·rename_i e
   exact .inl ⟨ho,by simp [Cx.add,e],fun b hμ => hb.block b (h.lt b ⟨z',k',hμ⟩)⟩
 ·simp only [Cx.add] at h1 h2
  split at h1 <;> split at h2
  ·rename_i e1 e2;exact ⟨e1.1.trans e2.1.symm,e1.2.trans e2.2.symm⟩
  ·have a:=(hm b h1).1
   have b':=(h.live _ _ _ h2).1
   omega
  ·have a:=(hm b h2).1
   have b':=(h.live _ _ _ h1).1
   omega
  ·exact h.inj _ _ _ _ _ h1 h2
 ·have hg := Γ.lt _ h.ground
  simp only [Cx.add] at h1
  split at h1
  ·rename_i e
   obtain ⟨rfl,rfl⟩:=e
   obtain ⟨x1,x2,x3⟩:=hm b h1
   exact ⟨x2,by omega,x3,o,by rw [Cx.obj_add hf,if_pos ⟨rfl,rfl⟩],ha (by rw [h1];simp)⟩
  ·rename_i e
   obtain ⟨x1,x2,x3,o',x4,x5⟩:=h.live _ _ _ h1
   exact ⟨Nat.lt_of_lt_of_le x1 hb.size,x2,x3,o',by rw [Cx.obj_add hf,if_neg e];exact x4,x5⟩
def Cx.set (c:Cx) (z:Bool) (k:Nat) (o:AObj) (m:Option Nat) (w':World):Cx :=
 ⟨c.X,fun z' k'=>if z'=z∧k'=k then m else c.μ z' k',if z then c.l else up c.l k o,if z then c.g.set k o else c.g,w'⟩
theorem lk_up {α : Type} (l : List (Nat × α)) (k : Nat) (x : α) (k' : Nat) (h : lk l k ≠ none) : lk (up l k x) k' = if k' = k then some x else lk l k' := by
  induction l with
  | nil=>simp [lk] at h
  | cons a l ih =>
    obtain ⟨a,v⟩:=a
    simp only [up,lk] at h ⊢
    cases e:(a==k)
    · simp only [e] at h
      simp only [lk]
      cases e':(a==k')
      · simp only;exact ih h
      · have:k'≠k:=fun e2=>by subst e2;rw [e] at e';cases e'
        simp [this]
    · have:a=k:=by simpa using e
      subst this
      simp only [lk]
      cases e':(a==k')
      · have:k'≠a:=fun e2=>by subst e2;simp at e'
        simp [this]
      · have:k'=a:=by have:=beq_iff_eq.1 e';exact this.symm
        simp [this]
theorem Cx.obj_set {z:Bool} {k:Nat} {o:AObj} {m:Option Nat} {w':World} (h:c.obj z k≠none) (z':Bool) (k':Nat):(c.set z k o m w').obj z' k'=if z'=z∧k'=k then some o else c.obj z' k':=by
 unfold Cx.obj Cx.set at *
 cases z <;> cases z' <;> simp at h ⊢
 ·rw [lk_up _ _ _ _ (by simpa using h)]
 ·rw [List.getElem?_set]
  split
  ·rename_i e
   subst e
   simp [h]
  ·rename_i e
   rw [if_neg (fun e'=>e e'.symm)]
def Follows (o o':AObj) (same:Prop):Prop:=∀ m',o'.cnt=some m'→∃ m,o.cnt=some m∧m≤m'∧o'.isMap=o.isMap∧(m=m'→same∧o'.sz=o.sz)
theorem evolve_set {z : Bool} {k : Nat} {o : AObj} (o' : AObj) (m : Option Nat) {w' : World} (ho : c.obj z k = some o)
    (hs:c.w.heap.size≤w'.heap.size) (ht:w'.tape=c.w.tape) (hos:w'.os=c.w.os) (hout:w'.output=c.w.output) (hk:∀ b,b<c.w.heap.size→c.μ z k≠some b→w'.heap[b]? = c.w.heap[b]?)
    (hinj:∀ z' k' b,c.μ z' k'=some b→c.μ z k=some b→z'=z∧k'=k) (hlt:∀ b,c.Own b→b<c.w.heap.size)
    (hm:∀ b,m=some b→c.μ z k=some b∨c.w.heap.size≤b)
    (hf:Follows o o' (m=c.μ z k∧∀ b cs e,c.μ z k=some b→c.w.heap[b]? = some (.cells cs e (0,0))→∃ cs',w'.heap[b]? = some (.cells cs' e (0,0))∧cs'.size=cs.size)):Evolve c (c.set z k o' m w') where
  X:=rfl
  size:=hs
  tape:=ht
  os:=hos
  output:=hout
  keep b h hn:=hk b h (fun e=>hn ⟨z,k,e⟩)
  fresh b ho:=by
    obtain ⟨z',k',h'⟩:=ho
    simp only [Cx.set] at h'
    split at h'
    · rcases hm b h' with h1 | h1
      · exact .inl ⟨z,k,h1⟩
      · exact .inr h1
    · exact .inl ⟨z',k',h'⟩
  objs z' k' o1 ho1:=by
    have hne:c.obj z k≠none:=by rw [ho];simp
    rw [Cx.obj_set hne]
    by_cases e:z'=z∧k'=k
    · obtain ⟨rfl,rfl⟩:=e
      rw [ho] at ho1
      cases ho1
      refine ⟨o',by simp,fun m' hm' => ?_⟩
      obtain ⟨m0,a1,a2,a3,a4⟩:=hf m' hm'
      exact ⟨m0,a1,a2,a3,fun e=>by
        obtain ⟨⟨x1,x2⟩,x3⟩:=a4 e
        exact ⟨by simp [Cx.set,x1],x3,x2⟩⟩
    · rw [if_neg e]
      refine ⟨o1,ho1,fun m' hm'=>⟨m',hm',Nat.le_refl _,rfl,fun _=>⟨by simp [Cx.set,e],rfl,fun b cs e' hμ hh=>⟨cs, ?_,rfl⟩⟩⟩⟩
      exact (hk b (hlt b ⟨z',k',hμ⟩) (fun e2=>e (hinj z' k' b hμ e2))).trans hh
theorem RelH.set (h : RelH Γ c) {z : Bool} {k : Nat} {o : AObj} (o' : AObj) (m : Option Nat) {w' : World} (ho : c.obj z k = some o)
    (hs:c.w.heap.size≤w'.heap.size) (ht:w'.tape=c.w.tape) (hos:w'.os=c.w.os) (hout:w'.output=c.w.output) (hk:∀ b,b<c.w.heap.size→c.μ z k≠some b→w'.heap[b]? = c.w.heap[b]?)
    (hm:∀ b,m=some b→(c.μ z k=some b∨c.w.heap.size≤b∧b<w'.heap.size∧¬ c.X b)∧o'.cnt≠none)
    (hf:Follows o o' (m=c.μ z k∧∀ b cs e,c.μ z k=some b→c.w.heap[b]? = some (.cells cs e (0,0))→∃ cs',w'.heap[b]? = some (.cells cs' e (0,0))∧cs'.size=cs.size))
    (hr:Evolve c (c.set z k o' m w')→RelObj (c.set z k o' m w') z k o'):Evolve c (c.set z k o' m w')∧RelH Γ (c.set z k o' m w'):=by
  have hE:=evolve_set o' m ho hs ht hos hout hk (fun z' k' b h1 h2=>h.inj _ _ _ _ _ h1 h2) h.lt (fun b e=>(hm b e).1.imp id (·.1)) hf
  have hne:c.obj z k≠none:=by rw [ho];simp
  refine ⟨hE,h.step hE (fun z' k' o1 ho1 => ?_) (fun z1 k1 z2 k2 b h1 h2 => ?_) (fun z' k' b h1 => ?_)⟩
  · rw [Cx.obj_set hne] at ho1
    split at ho1
    · rename_i e
      obtain ⟨rfl,rfl⟩:=e
      cases ho1
      exact .inr (hr hE)
    · rename_i e
      exact .inl ⟨ho1,by simp [Cx.set,e],fun b hμ => hk b (h.lt b ⟨z',k',hμ⟩) (fun e2=>e (h.inj _ _ _ _ _ hμ e2))⟩
  · simp only [Cx.set] at h1 h2
    split at h1 <;> split at h2
    · rename_i e1 e2;exact ⟨e1.1.trans e2.1.symm,e1.2.trans e2.2.symm⟩
    · rename_i e1 e2
      rcases (hm b h1).1 with x | ⟨x,_⟩
      · exact absurd (h.inj _ _ _ _ _ h2 x) e2
      · have:=(h.live _ _ _ h2).1;omega
    · rename_i e1 e2
      rcases (hm b h2).1 with x | ⟨x,_⟩
      · exact absurd (h.inj _ _ _ _ _ h1 x) e1
      · have:=(h.live _ _ _ h1).1;omega
    · exact h.inj _ _ _ _ _ h1 h2
  · have hg := Γ.lt _ h.ground
    simp only [Cx.set] at h1
    split at h1
    · rename_i e
      obtain ⟨rfl,rfl⟩:=e
      obtain ⟨x,y⟩:=hm b h1
      have ho':(c.set z' k' o' m w').obj z' k'=some o':=by rw [Cx.obj_set hne,if_pos ⟨rfl,rfl⟩]
      rcases x with x | ⟨x1,x2,x3⟩
      · obtain ⟨y1,y2,y3,_⟩:=h.live _ _ _ x
        exact ⟨Nat.lt_of_lt_of_le y1 hs,y2,y3,o',ho',y⟩
      · exact ⟨x2,by omega,x3,o',ho',y⟩
    · rename_i e
      obtain ⟨x1,x2,x3,o1,x4,x5⟩:=h.live _ _ _ h1
      exact ⟨Nat.lt_of_lt_of_le x1 hs,x2,x3,o1,by rw [Cx.obj_set hne,if_neg e];exact x4,x5⟩
end
end Go.TA
namespace Go.TA
def Does (P:Program) (ρ : Operand→Value) (o:Oper) (w:World) (R:Value→World→Prop):Prop :=
 match (execOp ρ o).run P w with
 | .ok (.value v) w'=>R v w'
 | .ok .skip w'=>R undef w'
 | .ok (.enter f args) w'=>Calls P f args w' (fun e w''=>∃ v,e = .returned v∧R v w'')
 | _=>False
theorem Does.value {P:Program} {ρ : Operand→Value} {o:Oper} {w w':World} {v:Value} {R:Value→World→Prop} (h:(execOp ρ o).run P w = .ok (.value v) w') (hR:R v w'):Does P ρ o w R:=by
 unfold Does;rw [h];exact hR
theorem Does.skip {P:Program} {ρ : Operand→Value} {o:Oper} {w w':World} {R:Value→World→Prop} (h:(execOp ρ o).run P w = .ok .skip w') (hR:R undef w'):Does P ρ o w R:=by
 unfold Does;rw [h];exact hR
theorem Does.wp {P:Program} {o:Oper} {a:Act} {w:World} {R:Value→World→Prop} {K:Act→World→Prop} {Q:Exit→Act→World→Prop} (h:Does P a.eval o w R) (hK:∀ v w',R v w'→K (a.put o.dst v) w'):o.wp P a w K Q:=by
  unfold Does at h
  unfold Oper.wp
  cases hr:(execOp a.eval o).run P w with
  | halt x w'=>rw [hr] at h;exact h.elim
  | ok n w' =>
    rw [hr] at h
    cases n <;> simp only [Oper.upon] at h ⊢ <;> first | exact h.elim | exact hK _ _ h | skip
    exact Calls.mono h (fun e w'' he=>by obtain ⟨v,rfl,hv⟩:=he;exact hK _ _ hv)
def Ans (Γ : Ground) (c:Cx) (l:List (Nat × AObj)) (g:List AObj) (av:AV) (v:Value) (w':World):Prop :=
 ∃ c':Cx,c'.l=l∧c'.g=g∧c'.w=w'∧Evolve c c'∧RelH Γ c'∧RelV c' av v
section
variable {P:Program} {Γ : Ground} {c:Cx} {s:St} {ρ : Operand→Value} {o:Oper}
theorem ans_same (hH:RelH Γ c) {av:AV} {v:Value} (hv:RelV c av v):Ans Γ c c.l c.g av v c.w:=⟨c,rfl,rfl,rfl,Evolve.refl c,hH,hv⟩
theorem ans_below (hH:RelH Γ c) {w':World} (hb:Go.RowKit.Below c.w.heap.size c.w w') {av:AV} {v:Value} (hv:RelV { c with w:=w' } av v):Ans Γ c c.l c.g av v w' :=
 ⟨{ c with w:=w' },rfl,rfl,rfl,evolve_below hb hH.lt,hH.below hb,hv⟩
theorem relP_int {w:World} {N:Nat→Prop} {k:IntKind} {n:Int} {v:Value} (h:RelP w N (.int k n) v):v = .int k n:=by cases h;rfl
theorem relP_bool {w:World} {N:Nat→Prop} {b:Bool} {v:Value} (h:RelP w N (.bool b) v):v = .bool b:=by cases h;rfl
theorem relP_str {w:World} {N:Nat→Prop} {b:List UInt8} {v:Value} (h:RelP w N (.str b) v):v = .string ⟨b.toArray⟩:=by cases h;rfl
theorem relV_int {k:IntKind} {n:Int} {v:Value} (h:RelV c (.p (.int k n)) v):v = .int k n:=by cases h with | p _ _ h=>exact relP_int h
theorem relV_bool {b:Bool} {v:Value} (h:RelV c (.p (.bool b)) v):v = .bool b:=by cases h with | p _ _ h=>exact relP_bool h
theorem relV_str {b:List UInt8} {v:Value} (h:RelV c (.p (.str b)) v):v = .string ⟨b.toArray⟩:=by cases h with | p _ _ h=>exact relP_str h
theorem rInt (k:IntKind) (n:Int):RelV c (.p (.int k n)) (.int k n):=.p _ _ (.int k n)
theorem rBool (b:Bool):RelV c (.p (.bool b)) (.bool b):=.p _ _ (.bool b)
theorem rStr (b:List UInt8):RelV c (.p (.str b)) (.string ⟨b.toArray⟩):=.p _ _ (.str b)
theorem rUndef:RelV c (.tuple []) undef:=.tuple [] [] rfl (fun j h=>by simp at h)
theorem rUndef_inv {l:List AV} {v:Value} (h:RelV c (.tuple l) v):∃ vs:List Value,v = .tuple vs.toArray∧l.length=vs.length∧∀ j (h:j<l.length) (h':j<vs.length),RelV c (l[j]) (vs[j]):=by
 cases h with | tuple _ vs hl h=>exact ⟨vs,rfl,hl,h⟩
theorem constOk_rel {w : World} {N : Nat → Prop} {a : PV} {v : Value} (h : constOk a v = true) : RelP w N a v ∧ v.oneCell' = true := by
  cases a <;> cases v <;> simp [constOk] at h
  · subst h;exact ⟨.bool _,rfl⟩
  · obtain ⟨rfl,rfl⟩:=h;exact ⟨.int _ _,rfl⟩
  · rename_i s b
    obtain ⟨⟨b⟩⟩:=b
    simp at h
    subst h
    exact ⟨.str _,rfl⟩
  · rename_i a
    cases a with
    | none=>exact ⟨.nilp,rfl⟩
    | some a=>simp [constOk] at h
  · rename_i a
    cases a with
    | none=>exact ⟨.nilm,rfl⟩
    | some a=>simp [constOk] at h
  · exact ⟨.nilf,rfl⟩
  · exact ⟨.nili,rfl⟩
  · rename_i xs A n m
    cases xs with
    | nil =>
      cases A with
      | some _=>simp [constOk] at h
      | none =>
        cases n <;> cases m <;> simp [constOk] at h
        exact ⟨.none none 0 (by simp [maxLen]),rfl⟩
    | cons _ _=>simp [constOk] at h
theorem constsOk_rel {w:World} {N:Nat→Prop}:∀ {cs:List PV} {vs:List Value},constsOk cs vs=true→cs.length=vs.length∧(∀ v ∈ vs,v.oneCell'=true)∧∀ j (h:j<cs.length) (h':j<vs.length),RelP w N (cs[j]) (vs[j])
  | [],[],_=>⟨rfl,by simp,by simp⟩
  | [],_::_,h=>by simp [constsOk] at h
  | _::_,[],h=>by simp [constsOk] at h
  | a :: l, b :: r, h => by
    simp only [constsOk,Bool.and_eq_true] at h
    obtain ⟨h1,h2⟩:=h
    obtain ⟨x1,x2⟩:=constOk_rel (w:=w) (N:=N) h1
    obtain ⟨y1,y2,y3⟩:=constsOk_rel (w:=w) (N:=N) h2
    refine ⟨by simp [y1],by simpa [x2] using y2,fun j h h' => ?_⟩
    cases j with
    | zero=>exact x1
    | succ j=>exact y3 j (by simpa using h) (by simpa using h')
theorem const1_rel {w:World} {N:Nat→Prop} {a:PV} {v:Value} (h:const1 a v=true):RelP w N a v:=by
 unfold const1 at h
 split at h
 ·rename_i cs vs
  obtain ⟨h1,h2,h3⟩:=constsOk_rel (w:=w) (N:=N) h
  have:=RelP.agg (w:=w) (N:=N) cs vs.toList h1 h2 h3
  simpa using this
 ·exact (constOk_rel h).1
def RelF (c:Cx) (s:St) (a:Act):Prop:=∀ t,RelV c (s.get t) (a.tmps.getD t undef)
theorem opd_rel (P:Program) {a:Act} (hF:RelF c s a) {x:LOpd} {y:Operand} (h:opdOk x y=true):RelV c (s.arg x) (a.eval y):=by
 cases x <;> cases y <;> simp [opdOk] at h
 ·subst h;exact hF _
 ·exact .p _ _ (const1_rel h)
 ·subst h;exact .func _ [] [] rfl (by simp)
def RelA (c:Cx) (s:St) (ρ : Operand→Value):Prop:=∀ x y,opdOk x y=true→RelV c (s.arg x) (ρ y)
theorem opds_rel (hρ : RelA c s ρ):∀ {l:List LOpd} {r:List Operand},opdsOk l r=true→l.length=r.length∧∀ j (h:j<l.length) (h':j<r.length),RelV c (s.arg (l[j])) (ρ (r[j]))
  | [],[],_=>⟨rfl,by simp⟩
  | [],_::_,h=>by simp [opdsOk] at h
  | _::_,[],h=>by simp [opdsOk] at h
  | a :: l, b :: r, h => by
    simp only [opdsOk,Bool.and_eq_true] at h
    obtain ⟨h1,h2⟩:=h
    obtain ⟨y1,y3⟩:=opds_rel hρ h2
    refine ⟨by simp [y1],fun j h h' => ?_⟩
    cases j with
    | zero=>exact hρ _ _ h1
    | succ j=>exact y3 j (by simpa using h) (by simpa using h')
theorem asInt_some {av:AV} {k:IntKind} {n:Int} (h:asInt av=some (k,n)):av = .p (.int k n):=by
 unfold asInt at h
 split at h
 ·simp at h;obtain ⟨rfl,rfl⟩:=h;rfl
 ·simp at h
theorem bk_eq {α β : Type} {x:Option α} {f : α → Option β} {b : β} (h:bk x f=some b):∃ a,x=some a∧f a=some b:=by
 unfold bk at h
 cases x with
 | none=>simp at h
 | some a=>exact ⟨a,rfl,h⟩
theorem does_move (hl:s.l=c.l) (hg:s.g=c.g) (hH:RelH Γ c) (hρ : RelA c s ρ) {x:LOpd} (hok:ok_move x o.op=true) {C:Calls'} {av:AV} {s':St} (h:evalOp C s (.move x)=some (av,s')) :
  Does P ρ o c.w (Ans Γ c s'.l s'.g av):=by
 simp only [evalOp,Option.some.injEq,Prod.mk.injEq] at h
 obtain ⟨rfl,rfl⟩:=h
 cases ho:o.op <;> rw [ho] at hok <;> simp [ok_move] at hok
 all_goals
  refine Does.value (v := ρ _) (w':=c.w) (by simp only [execOp,ho];rfl) ?_
  rw [hl,hg]
  exact ans_same hH (hρ _ _ hok)
theorem does_pick (hl:s.l=c.l) (hg:s.g=c.g) (hH:RelH Γ c) (hρ : RelA c s ρ) {x y z:LOpd} (hok:ok_pick x y z o.op=true) {C:Calls'} {av:AV} {s':St} (h:evalOp C s (.pick x y z)=some (av,s')) :
  Does P ρ o c.w (Ans Γ c s'.l s'.g av):=by
 simp only [evalOp] at h
 split at h <;> simp only [Option.some.injEq,Prod.mk.injEq,reduceCtorEq] at h
 rename_i b hb
 obtain ⟨rfl,rfl⟩:=h
 cases ho:o.op <;> rw [ho] at hok <;> simp [ok_pick] at hok
 obtain ⟨⟨h1,h2⟩,h3⟩:=hok
 have e1:=hρ _ _ h1
 rw [hb] at e1
 have e1:=relV_bool e1
 refine Does.value (w':=c.w) (by simp only [execOp,ho,e1];simp [asBool];rfl) ?_
 rw [hl,hg]
 refine ans_same hH ?_
 cases b
 ·simpa using hρ _ _ h3
 ·simpa using hρ _ _ h2
theorem does_un (hl:s.l=c.l) (hg:s.g=c.g) (hH:RelH Γ c) (hρ : RelA c s ρ) {op:UnOp} {x:LOpd} (hok:ok_un op x o.op=true) {C:Calls'} {av:AV} {s':St} (h:evalOp C s (.un op x)=some (av,s')) :
  Does P ρ o c.w (Ans Γ c s'.l s'.g av):=by
 simp only [evalOp] at h
 obtain ⟨v,hv,h⟩:=bk_eq h
 simp only [Option.some.injEq,Prod.mk.injEq] at h
 obtain ⟨rfl,rfl⟩:=h
 cases ho:o.op <;> rw [ho] at hok <;> simp [ok_un] at hok
 obtain ⟨rfl,h1⟩:=hok
 have e1:=hρ _ _ h1
 unfold una at hv
 split at hv <;> simp only [Option.some.injEq,reduceCtorEq] at hv
 ·rename_i b hx
  subst hv
  rw [hx] at e1
  have e1:=relV_bool e1
  refine Does.value (v:=.bool (!b)) (w':=c.w) (by simp [execOp,ho,e1,Op.unary]) ?_
  rw [hl,hg]
  exact ans_same hH (rBool _)
 ·rename_i k n hx
  subst hv
  rw [hx] at e1
  have e1:=relV_int e1
  refine Does.value (v:=.int k (k.wrap (0 - n))) (w':=c.w) (by simp [execOp,ho,e1,Op.unary,Op.intArith]) ?_
  rw [hl,hg]
  exact ans_same hH (rInt _ _)
theorem does_toInt (hl:s.l=c.l) (hg:s.g=c.g) (hH:RelH Γ c) (hρ : RelA c s ρ) {k:IntKind} {x:LOpd} (hok:ok_toInt P k x o.op=true) {C:Calls'} {av:AV} {s':St} (h:evalOp C s (.toInt k x)=some (av,s')) :
  Does P ρ o c.w (Ans Γ c s'.l s'.g av):=by
 simp only [evalOp] at h
 obtain ⟨⟨k',n⟩,hv,h⟩:=bk_eq h
 simp only [Option.some.injEq,Prod.mk.injEq] at h
 obtain ⟨rfl,rfl⟩:=h
 cases ho:o.op <;> rw [ho] at hok <;> simp [ok_toInt] at hok
 obtain ⟨h1,h2⟩:=hok
 split at h2
 ·rename_i j1 j2 hs hd
  simp at h2
  subst h2
  have e1:=hρ _ _ h1
  rw [asInt_some hv] at e1
  have e1:=relV_int e1
  refine Does.value (v:=.int k (k.wrap n)) (w':=c.w) (by simp [execOp,ho,e1,convert,run_underlying hs,run_underlying hd,Conv.intToInt]) ?_
  rw [hl,hg]
  exact ans_same hH (rInt _ _)
 ·simp at h2
end
end Go.TA
namespace Go.TA
section
variable {P:Program} {Γ : Ground} {c:Cx} {s:St} {ρ : Operand→Value} {o:Oper}
theorem relV_rop {cs:List PV} {v:Value} (h:RelV c (.rop cs) v):∃ (b off:Nat) (f:Nat→Value),v = .pointer (some ⟨b,off,none⟩)∧c.N b∧b<c.w.heap.size∧(∀ j,j<cs.length→c.w.cell? ⟨b,off+j,none⟩=some (f j))∧(∀ j,(f j).oneCell'=true)∧∀ j (h:j<cs.length),RelP c.w c.N (cs[j]) (f j):=by
 cases h with | rop _ b off f h1 h2 h3 h4 h5=>exact ⟨b,off,f,rfl,h1,h2,h3,h4,h5⟩
theorem relV_ptr {z:Bool} {k sz n i j:Nat} {v:Value} (h:RelV c (.ptr z k sz n i j) v):∃ a,v = .pointer (some a)∧c.Place z k sz n i j a:=by
 cases h with | ptr _ _ _ _ _ _ a h=>exact ⟨a,rfl,h⟩
theorem does_nilCheck (hl:s.l=c.l) (hg:s.g=c.g) (hH:RelH Γ c) (hρ : RelA c s ρ) {x:LOpd} (hok:ok_nilCheck x o.op=true) {C:Calls'} {av:AV} {s':St} (h:evalOp C s (.nilCheck x)=some (av,s')) :
  Does P ρ o c.w (Ans Γ c s'.l s'.g av):=by
 simp only [evalOp] at h
 cases ho:o.op <;> rw [ho] at hok <;> simp [ok_nilCheck] at hok
 rename_i y
 have e1:=hρ _ _ hok
 split at h <;> simp only [Option.some.injEq,Prod.mk.injEq,reduceCtorEq] at h
 all_goals
  rename_i hx
  obtain ⟨rfl,rfl⟩:=h
  rw [hx] at e1
  obtain ⟨a,ha⟩:∃ a, ρ y=Value.pointer (some a):=by
   generalize ρ y=v at e1
   cases e1 <;> exact ⟨_,rfl⟩
  refine Does.value (v:=.pointer (some a)) (w':=c.w) (by simp only [execOp,ho,ha];rfl) ?_
  rw [hl,hg]
  rw [ha] at e1
  exact ans_same hH e1
theorem does_extract (hl:s.l=c.l) (hg:s.g=c.g) (hH:RelH Γ c) (hρ : RelA c s ρ) {x:LOpd} {ix:Nat} (hok:ok_extract x ix o.op=true) {C:Calls'} {av:AV} {s':St} (h:evalOp C s (.extract x ix)=some (av,s')) :
  Does P ρ o c.w (Ans Γ c s'.l s'.g av):=by
 simp only [evalOp] at h
 cases ho:o.op <;> rw [ho] at hok <;> simp [ok_extract] at hok
 obtain ⟨h1,rfl⟩:=hok
 have e1:=hρ _ _ h1
 split at h
 ·rename_i vs hx
  rw [hx] at e1
  obtain ⟨us,hu,hlen,hr⟩:=rUndef_inv e1
  split at h
  ·rename_i hlt
   simp only [Option.some.injEq,Prod.mk.injEq] at h
   obtain ⟨rfl,rfl⟩:=h
   have hlt':ix<us.length:=by omega
   refine Does.value (v:=us[ix]) (w':=c.w) (by simp [execOp,ho,hu,Instr.extract,hlt']) ?_
   rw [hl,hg]
   refine ans_same hH ?_
   rw [List.getD_eq_getElem?_getD,List.getElem?_eq_getElem hlt]
   exact hr ix hlt hlt'
  ·simp at h
 ·simp at h
theorem does_makeFunc (hl:s.l=c.l) (hg:s.g=c.g) (hH:RelH Γ c) (hρ : RelA c s ρ) {f:Nat} {caps:List LOpd} (hok:ok_makeFunc f caps o.op=true) {C:Calls'} {av:AV} {s':St} (h:evalOp C s (.makeFunc f caps)=some (av,s')) :
  Does P ρ o c.w (Ans Γ c s'.l s'.g av):=by
 simp only [evalOp,Option.some.injEq,Prod.mk.injEq] at h
 obtain ⟨rfl,rfl⟩:=h
 cases ho:o.op <;> rw [ho] at hok <;> try (simp [ok_makeFunc] at hok;done)
 rename_i fn first captured
 cases fn <;> try (simp [ok_makeFunc] at hok;done)
 rename_i f'
 simp only [ok_makeFunc,Bool.and_eq_true,beq_iff_eq] at hok
 obtain ⟨⟨h0,rfl⟩,h2⟩:=hok
 have h0:first = #[]:=Array.eq_empty_of_size_eq_zero h0
 subst h0
 obtain ⟨hlen,hr⟩:=opds_rel hρ h2
 refine Does.value (v:=.func (.func f) #[] (captured.map ρ)) (w':=c.w) (by simp [execOp,ho,Instr.makeFunc]) ?_
 rw [hl,hg]
 refine ans_same hH ?_
 have e:captured.map ρ = (captured.toList.map ρ).toArray:=by rw [← Array.toList_map]
 rw [e]
 refine .func _ _ _ (by simp [hlen]) (fun j h h' => ?_)
 have:=hr j (by simpa using h) (by simpa using h')
 simpa using this
theorem does_makeBound (hl:s.l=c.l) (hg:s.g=c.g) (hH:RelH Γ c) (hρ : RelA c s ρ) {f:Nat} {fs:List LOpd} (hok:ok_makeBound f fs o.op=true) {C:Calls'} {av:AV} {s':St} (h:evalOp C s (.makeBound f fs)=some (av,s')) :
  Does P ρ o c.w (Ans Γ c s'.l s'.g av):=by
 simp only [evalOp,Option.some.injEq,Prod.mk.injEq] at h
 obtain ⟨rfl,rfl⟩:=h
 cases ho:o.op <;> rw [ho] at hok <;> try (simp [ok_makeBound] at hok;done)
 rename_i fn first captured
 cases fn <;> try (simp [ok_makeBound] at hok;done)
 rename_i f'
 simp only [ok_makeBound,Bool.and_eq_true,beq_iff_eq] at hok
 obtain ⟨⟨h0,rfl⟩,h2⟩:=hok
 have h0:captured = #[]:=Array.eq_empty_of_size_eq_zero h0
 subst h0
 obtain ⟨hlen,hr⟩:=opds_rel hρ h2
 refine Does.value (v:=.func (.func f) (first.map ρ) #[]) (w':=c.w) (by simp [execOp,ho,Instr.makeFunc]) ?_
 rw [hl,hg]
 refine ans_same hH ?_
 have e:first.map ρ = (first.toList.map ρ).toArray:=by rw [← Array.toList_map]
 rw [e]
 refine .bound _ _ _ (by simp [hlen]) (fun j h h' => ?_)
 have:=hr j (by simpa using h) (by simpa using h')
 simpa using this
end
end Go.TA
namespace Go.TA
section
variable {P:Program} {Γ : Ground} {c:Cx} {s:St} {ρ : Operand→Value} {o:Oper}
theorem bytesLess_eq:∀ (x y:List UInt8),Op.bytesLess x y=strLess x y
 | [],[]=>rfl
 | _::_,[]=>rfl
 | [],_::_=>rfl
 | a::x,b::y=>by simp [Op.bytesLess,strLess,bytesLess_eq x y]
theorem mk_toList (x:List UInt8):(⟨x.toArray⟩:ByteArray).toList=x:=by rw [ByteArray.toList_eq]
theorem run_binI {w:World} {op:BinOp} {t:TypeId} {k:IntKind} {a b:Int} {v:PV} (h:binI op k a b=some v) (ho:op ≠ .eql∧op ≠ .neq∧op ≠ .shl∧op ≠ .shr) :
  ∃ u,(binOp op t (.int k a) (.int k b)).run P w = .ok u w∧RelV c (.p v) u:=by
 obtain ⟨h1,h2,h3,h4⟩:=ho
 cases op <;> simp [binI] at h h1 h2 h3 h4
 case quo=>obtain ⟨hb,rfl⟩:=h;exact ⟨.int k (k.wrap (a.tdiv b)),by simp [binOp_quo,Op.intDiv,hb],rInt _ _⟩
 case rem=>obtain ⟨hb,rfl⟩:=h;exact ⟨.int k (a.tmod b),by simp [binOp_rem,Op.intDiv,hb],rInt _ _⟩
 case add=>subst h;exact ⟨.int k (k.wrap (a+b)),by simp [binOp_add,Op.intArith],rInt _ _⟩
 case sub=>subst h;exact ⟨.int k (k.wrap (a - b)),by simp [binOp_sub,Op.intArith],rInt _ _⟩
 case mul=>subst h;exact ⟨.int k (k.wrap (a*b)),by simp [binOp_mul,Op.intArith],rInt _ _⟩
 case and=>subst h;exact ⟨.int k (k.wrap (BitVec.ofInt k.bits a &&& BitVec.ofInt k.bits b).toNat),by simp [binOp_and,Op.intBits],by simpa using rInt _ _⟩
 case or=>subst h;exact ⟨.int k (k.wrap (BitVec.ofInt k.bits a ||| BitVec.ofInt k.bits b).toNat),by simp [binOp_or,Op.intBits],by simpa using rInt _ _⟩
 case xor=>subst h;exact ⟨.int k (k.wrap (BitVec.ofInt k.bits a ^^^ BitVec.ofInt k.bits b).toNat),by simp [binOp_xor,Op.intBits],by simpa using rInt _ _⟩
 case lss=>subst h;exact ⟨.bool (a<b),by simp [binOp_lss],rBool _⟩
 case leq=>subst h;exact ⟨.bool (a≤b),by simp [binOp_leq],rBool _⟩
 case gtr=>subst h;exact ⟨.bool (a > b),by simp [binOp_gtr],rBool _⟩
 case geq=>subst h;exact ⟨.bool (a ≥ b),by simp [binOp_geq],rBool _⟩
theorem run_binS {w:World} {op:BinOp} {t:TypeId} {a b:List UInt8} {v:PV} (h:binS op a b=some v) (ho:op ≠ .eql∧op ≠ .neq∧op ≠ .shl∧op ≠ .shr) :
  ∃ u,(binOp op t (.string ⟨a.toArray⟩) (.string ⟨b.toArray⟩)).run P w = .ok u w∧RelV c (.p v) u:=by
 obtain ⟨h1,h2,h3,h4⟩:=ho
 cases op <;> simp [binS] at h h1 h2 h3 h4
 case add=>
  obtain ⟨hb,rfl⟩:=h
  refine ⟨.string (⟨a.toArray⟩++⟨b.toArray⟩), ?_, ?_⟩
  ·have:=run_string_add_sum (P:=P) w ⟨a.toArray⟩ ⟨b.toArray⟩ (by simp [ByteArray.size];omega)
   simpa [binOp] using this
  ·rw [ByteArray.mk_append_mk];exact rStr _
 case lss=>subst h;exact ⟨.bool (strLess a b),by simp [binOp,Op.stringOp,mk_toList,bytesLess_eq],rBool _⟩
 case leq=>subst h;exact ⟨.bool (strLess a b || a==b),by simp [binOp,Op.stringOp,mk_toList,bytesLess_eq],rBool _⟩
 case gtr=>subst h;exact ⟨.bool (!(strLess a b || a==b)),by simp [binOp,Op.stringOp,mk_toList,bytesLess_eq],by simpa using rBool _⟩
 case geq=>subst h;exact ⟨.bool (!strLess a b),by simp [binOp,Op.stringOp,mk_toList,bytesLess_eq],rBool _⟩
end
end Go.TA
namespace Go.TA
section
variable {P:Program} {Γ : Ground} {c:Cx} {s:St} {ρ : Operand→Value} {o:Oper}
theorem run_shift {w:World} {t:TypeId} {k yk:IntKind} {a b:Int} (hb:¬ b<0):(binOp .shl t (.int k a) (.int yk b)).run P w = .ok (.int k (k.wrap (a*2 ^ (min b.toNat k.bits)))) w∧(binOp .shr t (.int k a) (.int yk b)).run P w = .ok (.int k (a.fdiv (2 ^ (min b.toNat k.bits)))) w:=by
 constructor
 ·simp [binOp_shl,Op.shift,hb]
 ·simp [binOp_shr,Op.shift,hb]
theorem run_bin {w : World} {op : BinOp} {t : TypeId} {x y av : AV} {u v : Value} (h : bin op x y = some av) (hx : RelV c x u) (hy : RelV c y v) : op ≠ .eql ∧ op ≠ .neq ∧ ∃ r, (binOp op t u v).run P w = .ok r w ∧ RelV c av r := by
  unfold bin at h
  split at h
  · simp at h
  · simp at h
  · split at h
    · split at h
      · simp at h
      · rename_i hb
        simp only [Option.some.injEq] at h
        subst h
        rw [relV_int hx,relV_int hy]
        exact ⟨by simp,by simp,_,(run_shift hb).1,rInt _ _⟩
    · simp at h
  · split at h
    · split at h
      · simp at h
      · rename_i hb
        simp only [Option.some.injEq] at h
        subst h
        rw [relV_int hx,relV_int hy]
        exact ⟨by simp,by simp,_,(run_shift hb).2,rInt _ _⟩
    · simp at h
  · rename_i h1 h2 h3 h4
    refine ⟨fun e=>h1 e,fun e=>h2 e, ?_⟩
    split at h
    · split at h
      · rename_i hk
        subst hk
        obtain ⟨r,hr,rfl⟩:=Option.map_eq_some_iff.1 h
        rw [relV_int hx,relV_int hy]
        exact run_binI hr ⟨fun e=>h1 e,fun e=>h2 e,fun e=>h3 e,fun e=>h4 e⟩
      · simp at h
    · obtain ⟨r,hr,rfl⟩:=Option.map_eq_some_iff.1 h
      rw [relV_str hx,relV_str hy]
      exact run_binS hr ⟨fun e=>h1 e,fun e=>h2 e,fun e=>h3 e,fun e=>h4 e⟩
    · simp at h
theorem eqGuard_other {op:BinOp} {t:TypeId} {x y:Operand} {u v:Value} (h:op ≠ .eql∧op ≠ .neq):eqGuard op t x y u v=pure ():=by
 cases op <;> simp at h <;> rfl
theorem does_bin (hl:s.l=c.l) (hg:s.g=c.g) (hH:RelH Γ c) (hρ : RelA c s ρ) {op:BinOp} {x y:LOpd} (hok:ok_bin op x y o.op=true) {C:Calls'} {av:AV} {s':St} (h:evalOp C s (.bin op x y)=some (av,s')) :
  Does P ρ o c.w (Ans Γ c s'.l s'.g av):=by
 simp only [evalOp] at h
 obtain ⟨v,hv,h⟩:=bk_eq h
 simp only [Option.some.injEq,Prod.mk.injEq] at h
 obtain ⟨rfl,rfl⟩:=h
 cases ho:o.op <;> rw [ho] at hok <;> simp [ok_bin] at hok
 rename_i op' t x' y' t'
 obtain ⟨⟨rfl,h1⟩,h2⟩:=hok
 obtain ⟨n1,n2,r,hr,hrel⟩:=run_bin (P:=P) (w:=c.w) (t:=t) hv (hρ _ _ h1) (hρ _ _ h2)
 refine Does.value (v:=r) (w':=c.w) (by simp [execOp,ho,eqGuard_other ⟨n1,n2⟩,hr]) ?_
 rw [hl,hg]
 exact ans_same hH hrel
theorem scalarK_rel {w:World} {N:Nat→Prop} {k:Nat} {a b:PV} {u v:Value} {r:Bool} {t:TypeId} (ht:kindT P t k=true) (h:scalarEqK k a b=some r) (ha:RelP w N a u) (hb:RelP w N b v) (d:Nat) :
  (Op.equalIn (d+1) t u v).run P w = .ok r w∧u.oneCell'=true∧v.oneCell'=true:=by
 unfold scalarEqK at h
 split at h
 ·simp only [Option.some.injEq] at h
  subst h
  rw [relP_bool ha,relP_bool hb]
  have:P.underlying t=some .bool:=by
   unfold kindT at ht
   split at ht <;> simp_all
  exact ⟨by simp [Op.equalIn,run_underlying this],rfl,rfl⟩
 ·split at h <;> simp only [Option.some.injEq,reduceCtorEq] at h
  rename_i hk
  subst hk
  subst h
  rw [relP_int ha,relP_int hb]
  have:∃ k',P.underlying t=some (.int k'):=by
   unfold kindT at ht
   split at ht <;> simp_all
  obtain ⟨k',this⟩:=this
  exact ⟨by simp [Op.equalIn,run_underlying this],rfl,rfl⟩
 ·simp only [Option.some.injEq] at h
  subst h
  rw [relP_str ha,relP_str hb]
  have:P.underlying t=some .string:=by
   unfold kindT at ht
   split at ht <;> simp_all
  exact ⟨by simp [run_equalIn_string _ d t _ _ this,mk_toList],rfl,rfl⟩
 ·simp at h
theorem run_scalar {w:World} {N:Nat→Prop} {k:Nat} {a b:PV} {u v:Value} {r:Bool} {t:TypeId} {x y:Operand} (ht:kindT P t k=true) (h:scalarEqK k a b=some r) (ha:RelP w N a u) (hb:RelP w N b v) :
  (binOp .eql t u v).run P w = .ok (.bool r) w∧(binOp .neq t u v).run P w = .ok (.bool !r) w∧(∀ op,eqGuard op t x y u v=pure ()):=by
 have h0:=scalarK_rel (P:=P) ht h ha hb 9999
 unfold scalarEqK at h
 split at h
 ·rw [relP_bool ha,relP_bool hb] at h0 ⊢
  exact ⟨by simp [binOp,Op.equal,Op.maxDepth,h0.1],by simp [binOp,Op.equal,Op.maxDepth,h0.1],fun op=>by cases op <;> rfl⟩
 ·split at h <;> simp only [Option.some.injEq,reduceCtorEq] at h
  rename_i hk
  subst hk
  subst h
  rw [relP_int ha,relP_int hb]
  exact ⟨by simp [binOp_eql],by simp [binOp_neq,bne],fun op=>by cases op <;> rfl⟩
 ·simp only [Option.some.injEq] at h
  subst h
  rw [relP_str ha,relP_str hb]
  exact ⟨by simp [binOp,Op.stringOp,mk_toList],by simp [binOp,Op.stringOp,mk_toList],fun op=>by cases op <;> rfl⟩
 ·simp at h
end
end Go.TA
namespace Go.TA
section
variable {P:Program} {Γ : Ground} {c:Cx} {s:St} {ρ : Operand→Value} {o:Oper}
theorem equal_of {w:World} {t:TypeId} {u v:Value} {r:Bool} (h:∀ d,(Op.equalIn (d+1) t u v).run P w = .ok r w):(Op.equal t u v).run P w = .ok r w:=h 9999
theorem run_sameAddr_other {w:World} {b1 b2 o1 o2:Nat} {c1 c2:Array Value} {e1 e2:TypeId} (h1:w.heap[b1]? = some (.cells c1 e1 (0,0))) (h2:w.heap[b2]? = some (.cells c2 e2 (0,0))) (hne:b1≠b2) :
  (sameAddr ⟨b1,o1,none⟩ ⟨b2,o2,none⟩).run P w = .ok false w:=by
 have f1:∀ o,w.frozen? ⟨b1,o,none⟩=false:=fun o=>by simp [World.frozen?,h1]
 have f2:∀ o,w.frozen? ⟨b2,o,none⟩=false:=fun o=>by simp [World.frozen?,h2]
 have s1:w.shape? b1=some (e1,c1.size):=by simp [World.shape?,h1]
 have s2:w.shape? b2=some (e2,c2.size):=by simp [World.shape?,h2]
 simp [sameAddr,hne,f1,f2,noView,viewAt,s1,s2,mayBeOne,stringish]
theorem one_row (hH:RelH Γ c) (hl:s.l=c.l) (hg:s.g=c.g) {z:Bool} {k:Nat} (h:s.one z k=true):∃ o b cs e,c.obj z k=some o∧o.cnt=some 1∧c.μ z k=some b∧c.w.heap[b]? = some (.cells cs e (0,0)):=by
 have hobj:s.obj z k=c.obj z k:=by unfold St.obj Cx.obj;rw [hl,hg]
 unfold St.one at h
 rw [hobj] at h
 split at h
 ·rename_i sz x hx
  have hr:=hH.objs z k _ hx
  obtain ⟨_,hr⟩:=hr
  rcases hr with ⟨_,hr⟩ | ⟨b,cs,e,h1,h2,_⟩
  ·simp [lift] at hr
  ·exact ⟨_,b,cs,e,hx,rfl,h1,h2⟩
 ·rename_i sz x hx
  have hr:=hH.objs z k _ hx
  obtain ⟨_,hr⟩:=hr
  rcases hr with ⟨_,hr⟩ | ⟨b,cs,e,h1,h2,_⟩
  ·simp at hr
  ·exact ⟨_,b,cs,e,hx,rfl,h1,h2⟩
 ·simp at h
theorem run_ptrEq (hH : RelH Γ c) (hl : s.l = c.l) (hg : s.g = c.g) {t : TypeId} {x y : AV} {u v : Value} {r : Bool} (ht : eqOk P t .ptr = true) (h : ptrEq s x y = some r) (hx : RelV c x u) (hy : RelV c y v) :
    (Op.equal t u v).run P c.w = .ok r c.w∧(∃ a b,u = .pointer a∧v = .pointer b):=by
  simp only [eqOk] at ht
  split at ht
  rotate_left
  · cases ht
  rename_i e he
  split at ht
  rotate_left
  · cases ht
  rename_i n hn
  have hz:n≠0:=by simpa using ht
  obtain ⟨i,hi,hin⟩:=Option.map_eq_some_iff.1 hn
  have hnil:∀ {v:Value},RelV c (.p .nilp) v→v = .pointer none:=fun h=>by cases h with | p _ _ h=>cases h;rfl
  unfold ptrEq at h
  split at h
  · simp only [Option.some.injEq] at h;subst h
    rw [hnil hx,hnil hy]
    exact ⟨equal_of fun d=>by simp [Op.equalIn,run_underlying he],_,_,rfl,rfl⟩
  · simp only [Option.some.injEq] at h;subst h
    obtain ⟨b,off,f,rfl,_⟩:=relV_rop hy
    rw [hnil hx]
    exact ⟨equal_of fun d=>by simp [Op.equalIn,run_underlying he],_,_,rfl,rfl⟩
  · simp only [Option.some.injEq] at h;subst h
    obtain ⟨a,rfl,_⟩:=relV_ptr hy
    rw [hnil hx]
    exact ⟨equal_of fun d=>by simp [Op.equalIn,run_underlying he],_,_,rfl,rfl⟩
  · simp only [Option.some.injEq] at h;subst h
    obtain ⟨b,off,f,rfl,_⟩:=relV_rop hx
    rw [hnil hy]
    exact ⟨equal_of fun d=>by simp [Op.equalIn,run_underlying he],_,_,rfl,rfl⟩
  · simp only [Option.some.injEq] at h;subst h
    obtain ⟨a,rfl,_⟩:=relV_ptr hx
    rw [hnil hy]
    exact ⟨equal_of fun d=>by simp [Op.equalIn,run_underlying he],_,_,rfl,rfl⟩
  · rename_i z k sz n1 i1 j1 z' k' sz' n2 i2 j2
    split at h
    rotate_left
    · cases h
    rename_i hc
    obtain ⟨rfl,rfl,rfl,rfl,rfl,rfl,o1,o2⟩:=hc
    simp only [Option.some.injEq] at h
    subst h
    obtain ⟨a,rfl,oa,ha,Ha⟩:=relV_ptr hx
    obtain ⟨a',rfl,oa',ha',Ha'⟩:=relV_ptr hy
    obtain ⟨p1,b1,cs1,e1,q1,q2,q3,q4⟩:=one_row hH hl hg o1
    obtain ⟨p2,b2,cs2,e2,r1,r2,r3,r4⟩:=one_row hH hl hg o2
    rw [q1] at ha;cases ha
    rw [r1] at ha';cases ha'
    obtain ⟨_,Ha⟩:=Ha 1 q2
    obtain ⟨_,Ha'⟩:=Ha' 1 r2
    obtain ⟨x1,x2,rfl⟩:=Ha rfl
    obtain ⟨y1,y2,rfl⟩:=Ha' rfl
    rw [q3] at x2;cases x2
    rw [r3] at y2;cases y2
    refine ⟨?_,_,_,rfl,rfl⟩
    by_cases hb:b1=b2
    · subst hb
      obtain ⟨rfl,rfl⟩:=hH.inj _ _ _ _ _ q3 r3
      exact equal_of fun d=>by simp [Op.equalIn,run_underlying he,sizeOf,typeInfo,hi,hin,hz,sameAddr]
    · have hne:(z==z' && k==k')=false:=by
        cases hh:(z==z' && k==k')
        · rfl
        · simp at hh
          obtain ⟨rfl,rfl⟩:=hh
          rw [q3] at r3;cases r3;exact absurd rfl hb
      rw [hne]
      have:=run_sameAddr_other (P:=P) (o1:=0) (o2:=0) q4 r4 hb
      exact equal_of fun d=>by simp [Op.equalIn,run_underlying he,sizeOf,typeInfo,hi,hin,hz,this]
  · cases h
theorem part_one {w:World} {t:TypeId} {k:Nat} (ht:kindT P t k=true) {vs:Array Value} {j:Nat} {v:Value} (hv:vs[j]? = some v):(part t vs j).run P w = .ok v w:=by
 have:∃ d,P.underlying t=some d∧(∀ fs,d ≠ .struct fs)∧∀ n e,d ≠ .array n e:=by
  unfold kindT at ht
  split at ht <;> first | exact ⟨_, ‹_›,by simp,by simp⟩ | cases ht
 obtain ⟨d,hd,h1,h2⟩:=this
 have hag:(isAgg t).run P w = .ok false w:=by
  simp only [isAgg,Sem.run_bind,run_underlying hd,Result.andThen_ok]
  cases d <;> first | rfl | exact absurd rfl (h1 _) | exact absurd rfl (h2 _ _)
 simp [part,hag,hv]
theorem run_items {w : World} {N : Nat → Prop} {us vs : List Value} {as bs : List PV} (hu : as.length = us.length) (hv : bs.length = vs.length) (ha : ∀ j (h : j < as.length) (h' : j < us.length), RelP w N (as[j]) (us[j])) (hb : ∀ j (h : j < bs.length) (h' : j < vs.length), RelP w N (bs[j]) (vs[j])) (d : Nat) {e : TypeId} {k : Nat} (h2 : kindT P e k = true) :
    ∀ (m:Nat) (j:Nat) (r:Bool),cellsEq (List.replicate m k) (as.drop j) (bs.drop j)=some r→(Op.eqItems (d+1) e 1 us.toArray vs.toArray (List.range' j m)).run P w = .ok r w
  | 0, j, r, hr => by
    cases e1:as.drop j <;> cases e2:bs.drop j <;> rw [e1,e2] at hr <;> simp [cellsEq] at hr
    subst hr
    simp [Op.eqItems]
  | m + 1, j, r, hr => by
    rw [List.replicate_succ] at hr
    cases e1:as.drop j with
    | nil=>rw [e1] at hr;simp [cellsEq] at hr
    | cons a al =>
      cases e2:bs.drop j with
      | nil=>rw [e1,e2] at hr;simp [cellsEq] at hr
      | cons b bl =>
        have ja:j<as.length:=by
          rcases Nat.lt_or_ge j as.length with h | h
          · exact h
          · rw [List.drop_eq_nil_of_le h] at e1;cases e1
        have jb:j<bs.length:=by
          rcases Nat.lt_or_ge j bs.length with h | h
          · exact h
          · rw [List.drop_eq_nil_of_le h] at e2;cases e2
        rw [List.drop_eq_getElem_cons ja,List.drop_eq_getElem_cons jb] at hr
        simp only [cellsEq] at hr
        split at hr
        · rename_i x y hx hy
          simp only [Option.some.injEq] at hr
          subst hr
          have ra:=ha j ja (by omega)
          have rb:=hb j jb (by omega)
          have hs:=(scalarK_rel (P:=P) h2 hx ra rb d).1
          have ih:=run_items hu hv ha hb d h2 m (j+1) y hy
          have p1:=part_one (P:=P) (w:=w) h2 (vs:=us.toArray) (j:=j) (v:=us[j]'(by omega)) (by simp [show j<us.length by omega])
          have p2:=part_one (P:=P) (w:=w) h2 (vs:=vs.toArray) (j:=j) (v:=vs[j]'(by omega)) (by simp [show j<vs.length by omega])
          rw [List.range'_succ]
          cases x <;> simp [Op.eqItems,p1,p2,hs,ih]
        · cases hr
theorem run_fields {w : World} {N : Nat → Prop} {us vs : List Value} {as bs : List PV} (hu : as.length = us.length) (hv : bs.length = vs.length) (ha : ∀ j (h : j < as.length) (h' : j < us.length), RelP w N (as[j]) (us[j])) (hb : ∀ j (h : j < bs.length) (h' : j < vs.length), RelP w N (bs[j]) (vs[j])) (d : Nat) :
    ∀ (fs:List Field) (ks:List Nat) (j:Nat) (r:Bool),flatFields P fs j ks=true→cellsEq ks (as.drop j) (bs.drop j)=some r→(Op.eqFields (d+1) us.toArray vs.toArray fs).run P w = .ok r w
  | [], ks, j, r, hf, hr => by
    cases ks with
    | cons _ _=>simp [flatFields] at hf
    | nil =>
      cases e1:as.drop j <;> cases e2:bs.drop j <;> rw [e1,e2] at hr <;> simp [cellsEq] at hr
      subst hr
      simp [Op.eqFields]
  | f::fs,[],j,r,hf,hr=>by simp [flatFields] at hf
  | f :: fs, k :: ks, j, r, hf, hr => by
    simp only [flatFields,Bool.and_eq_true,bne_iff_ne,ne_eq,beq_iff_eq] at hf
    obtain ⟨⟨⟨h1,h2⟩,rfl⟩,h4⟩:=hf
    cases e1:as.drop f.offset with
    | nil=>rw [e1] at hr;simp [cellsEq] at hr
    | cons a al =>
      cases e2:bs.drop f.offset with
      | nil=>rw [e1,e2] at hr;simp [cellsEq] at hr
      | cons b bl =>
        have ja:f.offset<as.length:=by
          rcases Nat.lt_or_ge f.offset as.length with h | h
          · exact h
          · rw [List.drop_eq_nil_of_le h] at e1;cases e1
        have jb:f.offset<bs.length:=by
          rcases Nat.lt_or_ge f.offset bs.length with h | h
          · exact h
          · rw [List.drop_eq_nil_of_le h] at e2;cases e2
        rw [List.drop_eq_getElem_cons ja] at e1
        rw [List.drop_eq_getElem_cons jb] at e2
        simp only [List.cons.injEq] at e1 e2
        obtain ⟨a1,a2⟩:=e1
        obtain ⟨b1,b2⟩:=e2
        rw [List.drop_eq_getElem_cons ja,List.drop_eq_getElem_cons jb] at hr
        simp only [cellsEq] at hr
        split at hr
        · rename_i x y hx hy
          simp only [Option.some.injEq] at hr
          subst hr
          have ra:=ha f.offset ja (by omega)
          have rb:=hb f.offset jb (by omega)
          have hs:=(scalarK_rel (P:=P) h2 hx ra rb d).1
          have ih:=run_fields hu hv ha hb d fs ks (f.offset+1) y h4 hy
          have p1:=part_one (P:=P) (w:=w) h2 (vs:=us.toArray) (j:=f.offset) (v:=us[f.offset]'(by omega)) (by simp [show f.offset<us.length by omega])
          have p2:=part_one (P:=P) (w:=w) h2 (vs:=vs.toArray) (j:=f.offset) (v:=vs[f.offset]'(by omega)) (by simp [show f.offset<vs.length by omega])
          cases x <;> simp [Op.eqFields,h1,p1,p2,hs,ih]
        · cases hr
end
end Go.TA
namespace Go.TA
section
variable {P:Program} {Γ : Ground} {c:Cx} {s:St} {ρ : Operand→Value} {o:Oper}
theorem relP_agg {w:World} {N:Nat→Prop} {cs:List PV} {v:Value} (h:RelP w N (.agg cs) v):∃ vs:List Value,v = .agg vs.toArray∧cs.length=vs.length∧(∀ u ∈ vs,u.oneCell'=true)∧∀ j (h:j<cs.length) (h':j<vs.length),RelP w N (cs[j]) (vs[j]):=by
 cases h with | agg _ vs h1 h2 h3=>exact ⟨vs,rfl,h1,h2,h3⟩
theorem relV_p {pv:PV} {v:Value} (h:RelV c (.p pv) v):RelP c.w c.N pv v:=by cases h with | p _ _ h=>exact h
def Tells (P:Program) (w:World) (t:TypeId) (u v:Value) (r:Bool) (x y:Operand):Prop :=
 (binOp .eql t u v).run P w = .ok (.bool r) w∧(binOp .neq t u v).run P w = .ok (.bool !r) w∧∀ op,(eqGuard op t x y u v).run P w = .ok () w
theorem tells_ptr {w:World} {t:TypeId} {a b:Option Addr} {r:Bool} {x y:Operand} (h:(Op.equal t (.pointer a) (.pointer b)).run P w = .ok r w):Tells P w t (.pointer a) (.pointer b) r x y :=
 ⟨by simp [binOp,h],by simp [binOp,h],fun op=>by cases op <;> rfl⟩
theorem nilC_eval {k:TK} {y:LOpd} {y':Operand} (h:isNilC k y=true) (ho:opdOk y y'=true) (a:Act):a.eval y'=(match k with | .sl => .slice none 0 0 | .mp => .map none | _ => .nilFunc):=by
 unfold isNilC at h
 split at h
 all_goals first | (cases h;done) | skip
 all_goals
  cases y' <;> simp [opdOk] at ho
  rename_i v
  cases v <;> simp [const1,constOk] at ho
 ·rename_i A n m
  cases A <;> cases n <;> cases m <;> simp [constOk] at ho
  rfl
 ·rename_i r
  cases r <;> simp [constOk] at ho
  rfl
 ·rfl
def NilOf (k:TK) (u:Value) (r:Bool):Prop:=(k = .sl∧∃ A n m,u = .slice A n m∧A.isNone=r)∨(k = .mp∧∃ m,u = .map m∧m.isNone=r)∨(k = .fn∧((u = .nilFunc∧r=true)∨∃ f a b,u = .func f a b∧r=false))
theorem run_isNil (hl : s.l = c.l) (hg : s.g = c.g) {k : TK} {x : AV} {u : Value} {r : Bool} (h : isNil s k x = some r) (hx : RelV c x u) : NilOf k u r := by
  have hobj:∀ z k,s.obj z k=c.obj z k:=fun z k=>by unfold St.obj Cx.obj;rw [hl,hg]
  unfold isNil at h
  split at h
  · simp only [Option.some.injEq] at h;subst h
    have:=relV_p hx;cases this;exact .inr (.inl ⟨rfl,_,rfl,rfl⟩)
  · simp only [Option.some.injEq] at h;subst h
    have:=relV_p hx;cases this;exact .inr (.inr ⟨rfl,.inl ⟨rfl,rfl⟩⟩)
  · simp only [Option.some.injEq] at h;subst h
    cases hx;exact .inl ⟨rfl,_,_,_,rfl,rfl⟩
  · simp only [Option.some.injEq] at h;subst h
    have:=relV_p hx
    cases this with
    | list xs b off cap sz f h1 h2 h3 h4 h5 h6 h7 h8=>exact .inl ⟨rfl,_,_,_,rfl,rfl⟩
  · simp only [Option.some.injEq] at h;subst h
    cases hx;exact .inr (.inr ⟨rfl,.inr ⟨_,_,_,rfl,rfl⟩⟩)
  · split at h
    · rename_i z kk es he
      simp only [Option.some.injEq] at h;subst h
      cases hx with
      | map _ _ _ hm =>
        obtain ⟨o,ho,Ho⟩:=hm
        rw [hobj] at he
        rw [he] at ho
        cases ho
        obtain ⟨_,b,hb,e⟩:=Ho 0 rfl
        injection e with e
        subst e
        exact .inr (.inl ⟨rfl,_,rfl,rfl⟩)
    · cases h
  · simp only [Option.some.injEq] at h;subst h
    cases hx;exact .inr (.inr ⟨rfl,.inr ⟨_,_,_,rfl,rfl⟩⟩)
  · cases h
theorem tells_nil {w:World} {t:TypeId} {k:TK} {u:Value} {r:Bool} (ht:eqOk P t k=true) (h:NilOf k u r) (x y:Operand) :
  Tells P w t u (match k with | .sl => .slice none 0 0 | .mp => .map none | _ => .nilFunc) r x y∧Tells P w t (match k with | .sl => .slice none 0 0 | .mp => .map none | _ => .nilFunc) u r x y:=by
 rcases h with ⟨rfl,A,n,m,rfl,rfl⟩ | ⟨rfl,m,rfl,rfl⟩ | ⟨rfl,h⟩
 ·simp only [eqOk] at ht
  split at ht
  rotate_left
  ·cases ht
  rename_i e he
  have e1:∀ w,(Op.equal t (.slice A n m) (.slice none 0 0)).run P w = .ok A.isNone w:=fun w=>equal_of fun d=>by cases A <;> simp [Op.equalIn,run_underlying he]
  have e2:∀ w,(Op.equal t (.slice none 0 0) (.slice A n m)).run P w = .ok A.isNone w:=fun w=>equal_of fun d=>by cases A <;> simp [Op.equalIn,run_underlying he]
  exact ⟨⟨by simp [binOp,e1],by simp [binOp,e1],fun op=>by cases op <;> rfl⟩,⟨by simp [binOp,e2],by simp [binOp,e2],fun op=>by cases op <;> rfl⟩⟩
 ·simp only [eqOk] at ht
  split at ht
  rotate_left
  ·cases ht
  rename_i k' e he
  have e1:∀ w,(Op.equal t (.map m) (.map none)).run P w = .ok m.isNone w:=fun w=>equal_of fun d=>by cases m <;> simp [Op.equalIn,run_underlying he]
  have e2:∀ w,(Op.equal t (.map none) (.map m)).run P w = .ok m.isNone w:=fun w=>equal_of fun d=>by cases m <;> simp [Op.equalIn,run_underlying he]
  exact ⟨⟨by simp [binOp,e1],by simp [binOp,e1],fun op=>by cases op <;> rfl⟩,⟨by simp [binOp,e2],by simp [binOp,e2],fun op=>by cases op <;> rfl⟩⟩
 ·simp only [eqOk] at ht
  split at ht
  rotate_left
  ·cases ht
  rename_i ps rs va he
  rcases h with ⟨rfl,rfl⟩ | ⟨f,a,b,rfl,rfl⟩
  ·have e1:∀ w,(Op.equal t .nilFunc .nilFunc).run P w = .ok true w:=fun w=>equal_of fun d=>by simp [Op.equalIn,run_underlying he]
   exact ⟨⟨by simp [binOp,e1],by simp [binOp,e1],fun op=>by cases op <;> rfl⟩,⟨by simp [binOp,e1],by simp [binOp,e1],fun op=>by cases op <;> rfl⟩⟩
  ·have e1:∀ w,(Op.equal t (.func f a b) .nilFunc).run P w = .ok false w:=fun w=>equal_of fun d=>by simp [Op.equalIn,run_underlying he]
   have e2:∀ w,(Op.equal t .nilFunc (.func f a b)).run P w = .ok false w:=fun w=>equal_of fun d=>by simp [Op.equalIn,run_underlying he]
   exact ⟨⟨by simp [binOp,e1],by simp [binOp,e1],fun op=>by cases op <;> rfl⟩,⟨by simp [binOp,e2],by simp [binOp,e2],fun op=>by cases op <;> rfl⟩⟩
def RhoA (c:Cx) (s:St) (ρ : Operand→Value):Prop:=RelA c s ρ ∧ ∀ v, ρ (.const v)=v
theorem nilC_rho {k:TK} {y:LOpd} {y':Operand} (h:isNilC k y=true) (ho:opdOk y y'=true) (hρ : ∀ v, ρ (.const v)=v) : ρ y'=(match k with | .sl => .slice none 0 0 | .mp => .map none | _ => .nilFunc):=by
 have:=nilC_eval h ho ⟨#[],[]⟩
 cases y' with
 | const v=>rw [hρ];exact this
 | tmp t=>cases y <;> simp [opdOk] at ho;simp [isNilC] at h
 | global g=>cases y <;> simp [opdOk] at ho
 | func f=>cases y <;> simp [opdOk] at ho;simp [isNilC] at h
theorem does_eq (hl : s.l = c.l) (hg : s.g = c.g) (hH : RelH Γ c) (hρ : RhoA c s ρ) {k : TK} {neg : Bool} {x y : LOpd} (hok : ok_eq P k neg x y o.op = true) {C : Calls'} {av : AV} {s' : St} (h : evalOp C s (.eq k neg x y) = some (av, s')) :
    Does P ρ o c.w (Ans Γ c s'.l s'.g av):=by
  simp only [evalOp] at h
  obtain ⟨r,hv,h⟩:=bk_eq h
  simp only [Option.some.injEq,Prod.mk.injEq] at h
  obtain ⟨rfl,rfl⟩:=h
  cases ho:o.op <;> rw [ho] at hok <;> simp [ok_eq] at hok
  rename_i op' t x' y' t'
  obtain ⟨⟨⟨rfl,h1⟩,h2⟩,h3⟩:=hok
  have r1:=hρ.1 _ _ h1
  have r2:=hρ.1 _ _ h2
  have main : Tells P c.w t (ρ x') (ρ y') r x' y' := by
    cases k with
    | b =>
      simp only [avEq] at hv
      split at hv
      · rename_i a b ea eb
        rw [ea] at r1;rw [eb] at r2
        obtain ⟨z1,z2,z3⟩:=run_scalar (P:=P) (w:=c.w) (x:=x') (y:=y') h3 hv (relV_p r1) (relV_p r2)
        exact ⟨z1,z2,fun op=>by rw [z3 op];rfl⟩
      · cases hv
    | i =>
      simp only [avEq] at hv
      split at hv
      · rename_i a b ea eb
        rw [ea] at r1;rw [eb] at r2
        obtain ⟨z1,z2,z3⟩:=run_scalar (P:=P) (w:=c.w) (x:=x') (y:=y') h3 hv (relV_p r1) (relV_p r2)
        exact ⟨z1,z2,fun op=>by rw [z3 op];rfl⟩
      · cases hv
    | s =>
      simp only [avEq] at hv
      split at hv
      · rename_i a b ea eb
        rw [ea] at r1;rw [eb] at r2
        obtain ⟨z1,z2,z3⟩:=run_scalar (P:=P) (w:=c.w) (x:=x') (y:=y') h3 hv (relV_p r1) (relV_p r2)
        exact ⟨z1,z2,fun op=>by rw [z3 op];rfl⟩
      · cases hv
    | ptr =>
      simp only [avEq] at hv
      obtain ⟨q1,a,b,ea,eb⟩:=run_ptrEq hH hl hg h3 hv r1 r2
      rw [ea,eb] at q1 ⊢
      exact tells_ptr q1
    | st ks =>
      simp only [avEq] at hv
      split at hv
      · rename_i a b ea eb
        rw [ea] at r1;rw [eb] at r2
        obtain ⟨us,eu,lu,_,ru⟩:=relP_agg (relV_p r1)
        obtain ⟨vs,ev,lv,_,rv⟩:=relP_agg (relV_p r2)
        simp only [eqOk] at h3
        split at h3
        · rename_i fs hfs
          simp only [Bool.and_eq_true,Bool.not_eq_eq_eq_not,Bool.not_true] at h3
          obtain ⟨⟨f1,f2⟩,f3⟩:=h3
          have hfo:P.fieldsOf t=fs:=by simp [Program.fieldsOf,hfs]
          have hfs':P.underlying t=some (.struct (P.fieldsOf t)):=by rw [hfo];exact hfs
          have e1:∀ d,(Op.equalIn (d+2) t (.agg us.toArray) (.agg vs.toArray)).run P c.w = .ok r c.w:=fun d=>by
            rw [run_equalIn_struct c.w (d+1) t _ _ hfs' f2,hfo]
            exact run_fields lu lv ru rv d fs.toList ks 0 r f1 (by simpa using hv)
          have e2:=e1 9998
          rw [eu,ev]
          refine ⟨?_, ?_,fun op=>run_eqGuard_agg _ op t x' y' _ _ f3⟩
          · rw [run_eql_struct]
            show ((Op.equalIn (9998+2) t _ _).run P c.w).andThen _=_
            rw [e2];rfl
          · rw [run_neq_struct]
            show ((Op.equalIn (9998+2) t _ _).run P c.w).andThen _=_
            rw [e2];rfl
        · rename_i n e hfs
          simp only [Bool.and_eq_true,Bool.not_eq_eq_eq_not,Bool.not_true,beq_iff_eq] at h3
          obtain ⟨⟨⟨⟨f1,f2⟩,f4⟩,f5⟩,f3⟩:=h3
          obtain ⟨i,hi⟩:=Option.isSome_iff_exists.1 f4
          have e1:∀ d,(Op.equalIn (d+2) t (.agg us.toArray) (.agg vs.toArray)).run P c.w = .ok r c.w:=fun d=>by
            rw [run_equalIn_array c.w (d+1) us.toArray vs.toArray hfs hi,f5,List.range_eq_range']
            exact run_items lu lv ru rv d f1 n 0 r (by rw [← f2];simpa using hv)
          have e2:=e1 9998
          rw [eu,ev]
          refine ⟨?_, ?_,fun op=>run_eqGuard_agg _ op t x' y' _ _ f3⟩
          · rw [run_eql_struct]
            show ((Op.equalIn (9998+2) t _ _).run P c.w).andThen _=_
            rw [e2];rfl
          · rw [run_neq_struct]
            show ((Op.equalIn (9998+2) t _ _).run P c.w).andThen _=_
            rw [e2];rfl
        · cases h3
      · cases hv
    | sl =>
      simp only [avEq] at hv
      split at hv
      · rename_i hn
        rw [nilC_rho hn h2 hρ.2]
        exact (tells_nil h3 (run_isNil hl hg hv r1) x' y').1
      · split at hv
        · rename_i hn
          rw [nilC_rho hn h1 hρ.2]
          exact (tells_nil h3 (run_isNil hl hg hv r2) x' y').2
        · cases hv
    | mp =>
      simp only [avEq] at hv
      split at hv
      · rename_i hn
        rw [nilC_rho hn h2 hρ.2]
        exact (tells_nil h3 (run_isNil hl hg hv r1) x' y').1
      · split at hv
        · rename_i hn
          rw [nilC_rho hn h1 hρ.2]
          exact (tells_nil h3 (run_isNil hl hg hv r2) x' y').2
        · cases hv
    | fn =>
      simp only [avEq] at hv
      split at hv
      · rename_i hn
        rw [nilC_rho hn h2 hρ.2]
        exact (tells_nil h3 (run_isNil hl hg hv r1) x' y').1
      · split at hv
        · rename_i hn
          rw [nilC_rho hn h1 hρ.2]
          exact (tells_nil h3 (run_isNil hl hg hv r2) x' y').2
        · cases hv
  obtain ⟨m1,m2,m3⟩:=main
  cases neg
  · refine Does.value (v:=.bool r) (w':=c.w) (by simp [execOp,ho,m3,m1]) ?_
    rw [hl,hg]
    exact ans_same hH (rBool _)
  · refine Does.value (v:=.bool (!r)) (w':=c.w) (by simp [execOp,ho,m3,m2]) ?_
    rw [hl,hg]
    exact ans_same hH (rBool _)
end
end Go.TA
namespace Go.TA
section
variable {P:Program} {Γ : Ground} {c:Cx} {s:St} {ρ : Operand→Value} {o:Oper}
theorem obj_eq (hl:s.l=c.l) (hg:s.g=c.g) (z:Bool) (k:Nat):s.obj z k=c.obj z k:=by unfold St.obj Cx.obj;rw [hl,hg]
theorem tsize_run {t:TypeId} {n:Nat} (h:tsize P t=some n) (w:World):(sizeOf t).run P w = .ok n w:=by
 obtain ⟨i,hi,rfl⟩:=Option.map_eq_some_iff.1 h
 simp [sizeOf,typeInfo,hi]
theorem add_at (b off n:Nat):(⟨b,off,none⟩:Addr).add n=⟨b,off+n,none⟩:=Addr.add_lit b off n
theorem rop_drop {cs:List PV} {v:Value} (h:RelV c (.rop cs) v) (n:Nat) (hn:n≤cs.length):∃ a,v = .pointer (some a)∧RelV c (.rop (cs.drop n)) (.pointer (some (a.add n))):=by
 obtain ⟨b,off,f,rfl,h1,h2,h3,h4,h5⟩:=relV_rop h
 refine ⟨_,rfl, ?_⟩
 rw [add_at]
 refine .rop _ b (off+n) (fun j=>f (n+j)) h1 h2 (fun j hj => ?_) (fun j=>h4 _) (fun j hj => ?_)
 ·rw [List.length_drop] at hj
  rw [Nat.add_assoc]
  exact h3 (n+j) (by omega)
 ·rw [List.length_drop] at hj
  rw [List.getElem_drop]
  exact h5 (n+j) (by omega)
theorem ptr_add {z:Bool} {k sz n i j m:Nat} {v:Value} (h:RelV c (.ptr z k sz n i j) v):∃ a,v = .pointer (some a)∧RelV c (.ptr z k sz n i (j+m)) (.pointer (some (a.add m))):=by
 obtain ⟨a,rfl,ob,ho,H⟩:=relV_ptr h
 refine ⟨a,rfl,.ptr _ _ _ _ _ _ _ ⟨ob,ho,fun m' hm' => ?_⟩⟩
 obtain ⟨h1,h2⟩:=H m' hm'
 refine ⟨h1,fun e => ?_⟩
 obtain ⟨b,hb,rfl⟩:=h2 e
 exact ⟨b,hb,by rw [add_at,Nat.add_assoc]⟩
theorem does_fieldAddr (hl:s.l=c.l) (hg:s.g=c.g) (hH:RelH Γ c) (hρ : RelA c s ρ) {off:Nat} {x:LOpd} (hok:ok_fieldAddr P off x o.op=true) {C:Calls'} {av:AV} {s':St} (h:evalOp C s (.fieldAddr off x)=some (av,s')) :
  Does P ρ o c.w (Ans Γ c s'.l s'.g av):=by
 simp only [evalOp] at h
 cases ho:o.op <;> rw [ho] at hok <;> simp [ok_fieldAddr] at hok
 rename_i t x' f
 obtain ⟨h1,h2⟩:=hok
 have r:=hρ _ _ h2
 split at h1
 rotate_left
 ·cases h1
 rename_i fs hfs
 split at h1
 rotate_left
 ·cases h1
 rename_i fd hfd
 simp only [Bool.and_eq_true,beq_iff_eq] at h1
 obtain ⟨rfl,h1⟩:=h1
 split at h1
 rotate_left
 ·cases h1
 rename_i n hn
 have hz:n≠0:=by simpa using h1
 have key:∀ a, ρ x' = .pointer (some a)→(execOp ρ o).run P c.w = .ok (.value (.pointer (some (a.add fd.offset)))) c.w:=fun a ha=>by
  simp [execOp,ho,ha,Instr.fieldAt,run_underlying hfs,hfd,Instr.sureAddr,fieldPlace,tsize_run hn,hz]
 split at h
 ·rename_i cs hx
  rw [hx] at r
  split at h
  ·rename_i hle
   simp only [Option.some.injEq,Prod.mk.injEq] at h
   obtain ⟨rfl,rfl⟩:=h
   obtain ⟨a,ha,hr⟩:=rop_drop r _ hle
   refine Does.value (key a ha) ?_
   rw [hl,hg]
   exact ans_same hH hr
  ·cases h
 ·rename_i z k sz n' i j hx
  rw [hx] at r
  simp only [Option.some.injEq,Prod.mk.injEq] at h
  obtain ⟨rfl,rfl⟩:=h
  obtain ⟨a,ha,hr⟩:=ptr_add (m:=fd.offset) r
  refine Does.value (key a ha) ?_
  rw [hl,hg]
  exact ans_same hH hr
 ·cases h
theorem does_indexArr (hl:s.l=c.l) (hg:s.g=c.g) (hH:RelH Γ c) (hρ : RelA c s ρ) {len sz:Nat} {x i:LOpd} (hok:ok_indexArr P len sz x i o.op=true) {C:Calls'} {av:AV} {s':St} (h:evalOp C s (.indexArr len sz x i)=some (av,s')) :
  Does P ρ o c.w (Ans Γ c s'.l s'.g av):=by
 simp only [evalOp] at h
 obtain ⟨⟨k,n⟩,hv,h⟩:=bk_eq h
 cases ho:o.op <;> rw [ho] at hok <;> simp [ok_indexArr] at hok
 rename_i t x' i'
 obtain ⟨⟨h1,h2⟩,h3⟩:=hok
 split at h1
 rotate_left
 ·cases h1
 rename_i m e ht
 simp only [Bool.and_eq_true,beq_iff_eq,bne_iff_ne,ne_eq] at h1
 obtain ⟨⟨rfl,hsz⟩,hz⟩:=h1
 have ri:=hρ _ _ h3
 rw [asInt_some hv] at ri
 have ri:=relV_int ri
 have r:=hρ _ _ h2
 split at h
 rotate_left
 ·cases h
 rename_i hin
 have key:∀ a, ρ x' = .pointer (some a)→(execOp ρ o).run P c.w = .ok (.value (.pointer (some (a.add (n.toNat*sz))))) c.w:=fun a ha=>by
  simp [execOp,ho,ha,ri,Instr.indexAt,asIntOf,run_underlying ht,Instr.sureAddr,hin,tsize_run hsz]
 split at h
 ·rename_i cs hx
  rw [hx] at r
  split at h
  ·rename_i hle
   simp only [Option.some.injEq,Prod.mk.injEq] at h
   obtain ⟨rfl,rfl⟩:=h
   obtain ⟨a,ha,hr⟩:=rop_drop r _ hle
   refine Does.value (key a ha) ?_
   rw [hl,hg]
   exact ans_same hH hr
  ·cases h
 ·rename_i z k sz2 n' i j hx
  rw [hx] at r
  simp only [Option.some.injEq,Prod.mk.injEq] at h
  obtain ⟨rfl,rfl⟩:=h
  obtain ⟨a,ha,hr⟩:=ptr_add (m:=n.toNat*sz) r
  refine Does.value (key a ha) ?_
  rw [hl,hg]
  exact ans_same hH hr
 ·cases h
theorem relP_list {w:World} {N:Nat→Prop} {xs:List (List PV)} {v:Value} (h:RelP w N (.list xs) v):∃ A cap,v = .slice A xs.length cap∧xs.length≤cap∧cap≤maxLen∧(0<xs.length→∃ (b off sz:Nat) (f:Nat→Nat→Value),A=some ⟨b,off,none⟩∧N b∧b<w.heap.size∧(∀ i (h:i<xs.length),(xs[i]).length=sz) ∧
   (∀ i j,i<xs.length→j<sz→w.cell? ⟨b,off+(i*sz+j),none⟩=some (f i j))∧(∀ i j,(f i j).oneCell'=true)∧∀ i j (hi:i<xs.length) (hj:j<(xs[i]).length),RelP w N (xs[i][j]) (f i j)):=by
 cases h with
 | none A cap h=>exact ⟨A,cap,rfl,Nat.zero_le _,h,fun h=>by simp at h⟩
 | list _ b off cap sz f h1 h2 h3 h4 h5 h6 h7 h8=>exact ⟨_,cap,rfl,h3,h4,fun _=>⟨b,off,sz,f,rfl,h1,h2,h5,h6,h7,h8⟩⟩
theorem getD_lt {α : Type} {l:List α} {i:Nat} (d : α) (h:i<l.length):l.getD i d=l[i]:=by simp [h]
theorem row_now {z:Bool} {k n:Nat} {v:Value} {ob:AObj} (h:RelV c (.own z k n) v) (ho:c.obj z k=some ob) (hn:ob.cnt=some n):∃ A cap,v = .slice A n cap∧((c.μ z k=none∧n=0∧A=none∧cap=0)∨∃ b cs e,c.μ z k=some b∧A=some ⟨b,0,none⟩∧n≤cap∧cap≤maxLen∧c.w.heap[b]? = some (.cells cs e (0,0))∧cs.size=cap*ob.sz):=by
  cases h with
  | own _ _ _ A cap hr =>
    obtain ⟨o',ho',H⟩:=hr
    rw [ho] at ho'
    cases ho'
    exact ⟨A,cap,rfl,(H n hn).2 rfl⟩
theorem pures_map0:∀ {cs:List AV} {ps:List PV},pures cs=some ps→cs=ps.map .p
  | [],ps,h=>by simp [pures] at h;subst h;rfl
  | a :: l, ps, h => by
    cases a <;> simp only [pures] at h <;> try (cases h;done)
    obtain ⟨q,hq,rfl⟩:=Option.map_eq_some_iff.1 h
    rw [pures_map0 hq]
    rfl
theorem puress_lift0 : ∀ {xs : List (List AV)} {ps : List (List PV)}, puress xs = some ps → xs = lift ps
  | [],ps,h=>by simp [puress] at h;subst h;rfl
  | c :: l, ps, h => by
    simp only [puress] at h
    cases hc:pures c with
    | none=>simp [hc] at h
    | some c' =>
      cases hl:puress l with
      | none=>simp [hc,hl] at h
      | some l' =>
        simp only [hc,hl,Option.some.injEq] at h
        subst h
        rw [pures_map0 hc,puress_lift0 hl]
        rfl
theorem lit_list {xs:List (List PV)} {v:Value} (h:RelV c (.lit (lift xs)) v):RelP c.w c.N (.list xs) v:=by
  generalize hy:lift xs=ys at h
  cases h with
  | lit _ b cap sz f h1 h2 h3 h4 h5 h6 h7 h8 =>
    subst hy
    have hl:(lift xs).length=xs.length:=by simp [lift]
    rw [hl]
    rw [hl] at h3 h6
    refine .list xs b 0 cap sz f h1 h2 h3 h4 (fun i hi => ?_) (fun i j hi hj=>by rw [Nat.zero_add];exact h6 i j hi hj) h7 (fun i j hi hj => ?_)
    · have:=h5 i (by omega)
      simpa [lift] using this
    · have:=h8 i j (by omega) (by simpa [lift] using hj)
      simp only [lift,List.getElem_map] at this
      exact relV_p this
theorem does_indexAddr (hl : s.l = c.l) (hg : s.g = c.g) (hH : RelH Γ c) (hρ : RelA c s ρ) {sz : Nat} {x i : LOpd} (hok : ok_indexAddr P sz x i o.op = true) {C : Calls'} {av : AV} {s' : St} (h : evalOp C s (.indexAddr sz x i) = some (av, s')) :
    Does P ρ o c.w (Ans Γ c s'.l s'.g av):=by
  simp only [evalOp] at h
  obtain ⟨⟨k,n⟩,hv,h⟩:=bk_eq h
  cases ho:o.op <;> rw [ho] at hok <;> simp [ok_indexAddr] at hok
  rename_i t x' i'
  obtain ⟨⟨h1,h2⟩,h3⟩:=hok
  split at h1
  rotate_left
  · cases h1
  rename_i e ht
  simp only [Bool.and_eq_true,beq_iff_eq,bne_iff_ne,ne_eq] at h1
  obtain ⟨hsz,hz⟩:=h1
  have ri:=hρ _ _ h3
  rw [asInt_some hv] at ri
  have ri:=relV_int ri
  have r:=hρ _ _ h2
  have key:∀ a (m cap:Nat), ρ x' = .slice (some a) m cap→0≤n→n<m→(execOp ρ o).run P c.w = .ok (.value (.pointer (some (a.add (n.toNat*sz))))) c.w:=fun a m cap ha h0 h1=>by
    simp [execOp,ho,ha,ri,Instr.indexAt,asIntOf,run_underlying ht,h0,h1,tsize_run hsz]
  have lst:∀ xs:List (List PV),RelP c.w c.N (.list xs) (ρ x')→(if 0≤n∧n<xs.length∧(xs.getD n.toNat []).length=sz then some (AV.rop (xs.getD n.toNat []),s) else none)=some (av,s')→Does P ρ o c.w (Ans Γ c s'.l s'.g av):=by
    intro xs r h
    split at h
    rotate_left
    · cases h
    rename_i hc
    obtain ⟨h0,hlt,hel⟩:=hc
    simp only [Option.some.injEq,Prod.mk.injEq] at h
    obtain ⟨rfl,rfl⟩:=h
    obtain ⟨A,cap,ha,hcap,hcm,hr⟩:=relP_list r
    have hi:n.toNat<xs.length:=by omega
    obtain ⟨b,off,sz',f,rfl,g1,g2,g3,g4,g5,g6⟩:=hr (by omega)
    rw [getD_lt _ hi] at hel ⊢
    have e1:sz'=sz:=by rw [← g3 _ hi];exact hel
    subst e1
    refine Does.value (key _ _ _ ha h0 hlt) ?_
    rw [hl,hg]
    refine ans_same hH ?_
    rw [add_at]
    refine .rop _ b _ (fun j=>f n.toNat j) g1 g2 (fun j hj => ?_) (fun j=>g5 _ _) (fun j hj=>g6 n.toNat j hi hj)
    rw [Nat.add_assoc]
    exact g4 n.toNat j hi (by rw [← g3 _ hi];exact hj)
  split at h
  · rename_i xs hx
    rw [hx] at r
    exact lst xs (relV_p r) h
  · rename_i z k m hx
    rw [hx] at r
    obtain ⟨ob,hob,h⟩:=bk_eq h
    rw [obj_eq hl hg] at hob
    have fin:ob.cnt=some m→ob.sz=sz→0≤n∧n<(m:Int)→(av,s')=(AV.ptr z k sz m n.toNat 0,s)→Does P ρ o c.w (Ans Γ c s'.l s'.g av):=fun hcnt hosz hin e=>by
      cases e
      obtain ⟨A,cap,ha,hrow⟩:=row_now r hob hcnt
      rcases hrow with ⟨_,h0,_⟩ | ⟨b,cs,e,q1,rfl,q3,q4,q5,q6⟩
      · omega
      · refine Does.value (key _ _ _ ha hin.1 hin.2) ?_
        rw [hl,hg]
        refine ans_same hH (.ptr _ _ _ _ _ _ _ ⟨ob,hob,fun m' hm' => ?_⟩)
        rw [hcnt] at hm'
        cases hm'
        exact ⟨Nat.le_refl _,fun _=>⟨b,q1,by rw [add_at];simp⟩⟩
    unfold idxAt at h
    split at h
    · split at h
      · rename_i hc
        obtain ⟨c1,c2,c3,c4⟩:=hc
        simp only [Option.some.injEq] at h
        exact fin (by simp [AObj.cnt,c2]) c1 ⟨c3,c4⟩ h.symm
      · cases h
    · split at h
      · rename_i hc
        obtain ⟨c1,c2,c3,c4⟩:=hc
        simp only [Option.some.injEq] at h
        exact fin (by simp [AObj.cnt,c2]) c1 ⟨c3,c4⟩ h.symm
      · cases h
    · cases h
  · rename_i xs hx
    rw [hx] at r
    split at h
    · rename_i ps hp
      rw [puress_lift0 hp] at r
      exact lst ps (lit_list r) h
    · cases h
  · cases h
theorem does_index (hl:s.l=c.l) (hg:s.g=c.g) (hH:RelH Γ c) (hρ : RelA c s ρ) {x i:LOpd} (hok:ok_index P x i o.op=true) {C:Calls'} {av:AV} {s':St} (h:evalOp C s (.index x i)=some (av,s')) :
  Does P ρ o c.w (Ans Γ c s'.l s'.g av):=by
 simp only [evalOp] at h
 obtain ⟨⟨k,n⟩,hv,h⟩:=bk_eq h
 cases ho:o.op <;> rw [ho] at hok <;> simp [ok_index] at hok
 rename_i t x' i'
 obtain ⟨⟨h1,h2⟩,h3⟩:=hok
 split at h1
 rotate_left
 ·cases h1
 rename_i ht
 have ri:=hρ _ _ h3
 rw [asInt_some hv] at ri
 have ri:=relV_int ri
 have r:=hρ _ _ h2
 split at h
 rotate_left
 ·cases h
 rename_i b hx
 rw [hx] at r
 have r:=relV_str r
 split at h
 rotate_left
 ·cases h
 rename_i hin
 simp only [Option.some.injEq,Prod.mk.injEq] at h
 obtain ⟨rfl,rfl⟩:=h
 have hlt:n.toNat<b.length:=by omega
 have hb:(⟨b.toArray⟩:ByteArray)[n.toNat]? = some b[n.toNat]:=by
  rw [ByteArray.getElem?_lt' _ _ (by simpa [ByteArray.size] using hlt)]
  rfl
 refine Does.value (v:=.int .u8 (b[n.toNat]).toNat) (w':=c.w) (by simp [execOp,ho,ri,r,Instr.index,asIntOf,run_underlying ht,hin.1,hb]) ?_
 rw [hl,hg,getD_lt _ hlt]
 exact ans_same hH (rInt _ _)
end
end Go.TA
namespace Go.TA
section
variable {P:Program} {Γ : Ground} {c:Cx} {s:St} {ρ : Operand→Value} {o:Oper}
theorem isAgg_run {t:TypeId} {agg:Bool} (h:aggOk P t agg=true) (w:World):(isAgg t).run P w = .ok agg w:=by
 unfold aggOk at h
 split at h
 ·rename_i fs he;simp [isAgg,run_underlying he,h]
 ·rename_i n e he;simp [isAgg,run_underlying he,h]
 ·rename_i d h1 h2 he
  simp only [isAgg,Sem.run_bind,run_underlying he,Result.andThen_ok]
  have:agg=false:=by simpa using h
  subst this
  cases d <;> first | rfl | exact absurd rfl (h1 _) | exact absurd rfl (h2 _ _)
 ·cases h
theorem sub_get {α : Type} {l:List α} {j sz k:Nat} (h:j+sz≤l.length) (hk:k<sz):(sub j sz l).length=sz∧∀ (h':k<(sub j sz l).length),(sub j sz l)[k]=l[j+k]:=by
 unfold sub
 split
 ·rename_i e
  obtain ⟨rfl,rfl⟩:=e
  exact ⟨rfl,fun h'=>by simp⟩
 ·exact ⟨by simp;omega,fun h'=>by simp⟩
theorem sub_length {α : Type} {l:List α} {j sz:Nat} (h:j+sz≤l.length):(sub j sz l).length=sz:=by
 unfold sub
 split
 ·rename_i e;exact e.2.symm
 ·simp;omega
theorem pures_map:∀ {cs:List AV} {ps:List PV},pures cs=some ps→cs=ps.map .p
  | [],ps,h=>by simp [pures] at h;subst h;rfl
  | a :: l, ps, h => by
    cases a <;> simp [pures] at h
    obtain ⟨r,hr,rfl⟩:=h
    rw [pures_map hr]
    rfl
theorem ofCells_rel {cs:List AV} {vs:List Value} (hl:cs.length=vs.length) (h1:∀ v ∈ vs,v.oneCell'=true) (hr:∀ j (h:j<cs.length) (h':j<vs.length),RelV c (cs[j]) (vs[j])):RelV c (ofCells cs) (.agg vs.toArray):=by
 unfold ofCells
 split
 ·rename_i ps hp
  have e:=pures_map hp
  subst e
  refine .p _ _ (.agg _ _ (by simpa using hl) h1 (fun j h h' => ?_))
  have:=hr j (by simpa using h) h'
  simp only [List.getElem_map] at this
  exact relV_p this
 ·exact .agg _ _ hl h1 hr
theorem relV_agg {cs:List AV} {v:Value} (h:RelV c (.agg cs) v):∃ vs:List Value,v = .agg vs.toArray∧cs.length=vs.length∧(∀ u ∈ vs,u.oneCell'=true)∧∀ j (h:j<cs.length) (h':j<vs.length),RelV c (cs[j]) (vs[j]):=by
 cases h with | agg _ vs h1 h2 h3=>exact ⟨vs,rfl,h1,h2,h3⟩
theorem part_run {t:TypeId} {sz off:Nat} {agg:Bool} (h:szOk P t sz agg=true) {w:World} {vs:List Value} (hle:off+sz≤vs.length):(part t vs.toArray off).run P w = .ok (if agg then .agg ((vs.drop off).take sz).toArray else vs.getD off undef) w:=by
 simp only [szOk,Bool.and_eq_true,beq_iff_eq,Bool.or_eq_true] at h
 obtain ⟨⟨h1,h2⟩,h3⟩:=h
 cases agg
 ·have h3:sz=1:=by simpa using h3
  subst h3
  have:off<vs.length:=by omega
  simp [part,isAgg_run h2,this]
 ·simp [part,isAgg_run h2,tsize_run h1,List.take_drop]
theorem does_field (hl:s.l=c.l) (hg:s.g=c.g) (hH:RelH Γ c) (hρ : RelA c s ρ) {off sz:Nat} {agg:Bool} {x:LOpd} (hok:ok_field P off sz agg x o.op=true) {C:Calls'} {av:AV} {s':St} (h:evalOp C s (.field off sz agg x)=some (av,s')) :
  Does P ρ o c.w (Ans Γ c s'.l s'.g av):=by
 simp only [evalOp] at h
 cases ho:o.op <;> rw [ho] at hok <;> simp [ok_field] at hok
 rename_i t x' f
 obtain ⟨h1,h2⟩:=hok
 have r:=hρ _ _ h2
 split at h1
 rotate_left
 ·cases h1
 rename_i fs hfs
 split at h1
 rotate_left
 ·cases h1
 rename_i fd hfd
 simp only [Bool.and_eq_true,beq_iff_eq] at h1
 obtain ⟨rfl,hsz⟩:=h1
 have one:agg=false→sz=1:=fun e=>by
  subst e
  simp only [szOk,Bool.and_eq_true,Bool.or_eq_true,beq_iff_eq] at hsz
  simpa using hsz.2
 have key:∀ (cs:List AV) (vs:List Value), ρ x' = .agg vs.toArray→cs.length=vs.length→(∀ u ∈ vs,u.oneCell'=true)→(∀ j (h:j<cs.length) (h':j<vs.length),RelV c (cs[j]) (vs[j]))→fd.offset+sz≤cs.length →
   Does P ρ o c.w (Ans Γ c s.l s.g (if agg then ofCells (sub fd.offset sz cs) else cs.getD fd.offset .bot)):=fun cs vs hv hlen h1 hr hle=>by
  refine Does.value (v:=_) (w':=c.w) (by simp only [execOp,ho,hv];simp [Instr.field,run_underlying hfs,hfd,asAgg,part_run (P:=P) (w:=c.w) hsz (vs:=vs) (off:=fd.offset) (by omega)];rfl) ?_
  rw [hl,hg]
  refine ans_same hH ?_
  cases agg
  ·have:=one rfl
   subst this
   simp only [Bool.false_eq_true,if_false]
   rw [getD_lt _ (by omega)]
   simp only [List.getElem?_eq_getElem (show fd.offset<vs.length by omega),Option.getD_some]
   exact hr _ _ _
  ·simp only [if_true]
   refine ofCells_rel (by rw [sub_length hle];simp;omega) (fun v hv=>h1 v (List.mem_of_mem_drop (List.mem_of_mem_take hv))) (fun j h h' => ?_)
   rw [sub_length hle] at h
   rw [(sub_get hle h).2]
   simp only [List.getElem_take,List.getElem_drop]
   exact hr _ _ _
 split at h
 ·rename_i cs hx
  rw [hx] at r
  obtain ⟨vs,hv,hlen,h1,hr⟩:=relP_agg (relV_p r)
  split at h
  rotate_left
  ·cases h
  rename_i hle
  simp only [Option.some.injEq,Prod.mk.injEq] at h
  obtain ⟨rfl,rfl⟩:=h
  refine Does.value (v:=_) (w':=c.w) (by simp only [execOp,ho,hv];simp [Instr.field,run_underlying hfs,hfd,asAgg,part_run (P:=P) (w:=c.w) hsz (vs:=vs) (off:=fd.offset) (by omega)];rfl) ?_
  rw [hl,hg]
  refine ans_same hH (.p _ _ ?_)
  cases agg
  ·have:=one rfl
   subst this
   simp only [Bool.false_eq_true,if_false]
   rw [getD_lt _ (by omega)]
   simp only [List.getElem?_eq_getElem (show fd.offset<vs.length by omega),Option.getD_some]
   exact hr _ _ _
  ·simp only [if_true]
   refine .agg _ _ (by rw [sub_length hle];simp;omega) (fun v hv=>h1 v (List.mem_of_mem_drop (List.mem_of_mem_take hv))) (fun j h h' => ?_)
   rw [sub_length hle] at h
   rw [(sub_get hle h).2]
   simp only [List.getElem_take,List.getElem_drop]
   exact hr _ _ _
 ·rename_i cs hx
  rw [hx] at r
  obtain ⟨vs,hv,hlen,h1,hr⟩:=relV_agg r
  split at h
  rotate_left
  ·cases h
  rename_i hle
  simp only [Option.some.injEq,Prod.mk.injEq] at h
  obtain ⟨rfl,rfl⟩:=h
  exact key cs vs hv hlen h1 hr hle
 ·cases h
theorem does_min (hl:s.l=c.l) (hg:s.g=c.g) (hH:RelH Γ c) (hρ : RelA c s ρ) {x y:LOpd} (hok:ok_minI x y o.op=true) {C:Calls'} {av:AV} {s':St} (h:evalOp C s (.minI x y)=some (av,s')) :
    Does P ρ o c.w (Ans Γ c s'.l s'.g av):=by
  simp only [evalOp] at h
  split at h
  rotate_left
  · cases h
  rename_i k a k' b ha hb
  simp only [Option.some.injEq,Prod.mk.injEq] at h
  obtain ⟨rfl,rfl⟩:=h
  cases ho:o.op <;> rw [ho] at hok <;> try (simp [ok_minI] at hok;done)
  rename_i cl
  obtain ⟨cal,args,argTypes⟩:=cl
  cases cal <;> try (simp [ok_minI] at hok;done)
  rename_i bi
  cases bi <;> try (simp [ok_minI] at hok;done)
  simp only [ok_minI] at hok
  obtain ⟨hlen,hr⟩:=opds_rel hρ hok
  obtain ⟨args⟩:=args
  match args,hlen with
  | [p, q], _ =>
    have r1:=hr 0 (by simp) (by simp)
    have r2:=hr 1 (by simp) (by simp)
    simp only [List.getElem_cons_zero,List.getElem_cons_succ] at r1 r2
    rw [ha] at r1;rw [hb] at r2
    have r1:=relV_int r1
    have r2:=relV_int r2
    refine Does.value (v:=.int k (if b<a then b else a)) (w':=c.w) (by simp [execOp,ho,resolve,invoke,builtin,Builtin.min_,Builtin.min2,r1,r2]) ?_
    rw [hl,hg]
    exact ans_same hH (rInt _ _)
theorem does_max (hl:s.l=c.l) (hg:s.g=c.g) (hH:RelH Γ c) (hρ : RelA c s ρ) {x y:LOpd} (hok:ok_maxI x y o.op=true) {C:Calls'} {av:AV} {s':St} (h:evalOp C s (.maxI x y)=some (av,s')) :
    Does P ρ o c.w (Ans Γ c s'.l s'.g av):=by
  simp only [evalOp] at h
  split at h
  rotate_left
  · cases h
  rename_i k a k' b ha hb
  simp only [Option.some.injEq,Prod.mk.injEq] at h
  obtain ⟨rfl,rfl⟩:=h
  cases ho:o.op <;> rw [ho] at hok <;> try (simp [ok_maxI] at hok;done)
  rename_i cl
  obtain ⟨cal,args,argTypes⟩:=cl
  cases cal <;> try (simp [ok_maxI] at hok;done)
  rename_i bi
  cases bi <;> try (simp [ok_maxI] at hok;done)
  simp only [ok_maxI] at hok
  obtain ⟨hlen,hr⟩:=opds_rel hρ hok
  obtain ⟨args⟩:=args
  match args,hlen with
  | [p, q], _ =>
    have r1:=hr 0 (by simp) (by simp)
    have r2:=hr 1 (by simp) (by simp)
    simp only [List.getElem_cons_zero,List.getElem_cons_succ] at r1 r2
    rw [ha] at r1;rw [hb] at r2
    have r1:=relV_int r1
    have r2:=relV_int r2
    refine Does.value (v:=.int k (if b > a then b else a)) (w':=c.w) (by simp [execOp,ho,resolve,invoke,builtin,Builtin.max_,Builtin.max2,r1,r2]) ?_
    rw [hl,hg]
    exact ans_same hH (rInt _ _)
end
end Go.TA
namespace Go.TA
section
variable {P:Program} {Γ : Ground} {c:Cx} {s:St} {ρ : Operand→Value} {o:Oper}
theorem relV_slicelike {x:AV} {v:Value} {n:Nat} (h:(∃ xs,x = .p (.list xs)∧xs.length=n)∨(∃ xs,x = .lit xs∧xs.length=n)∨(∃ z k,x = .own z k n)∨(x = .nils∧n=0)) (hr:RelV c x v):∃ A cap,v = .slice A n cap:=by
 rcases h with ⟨xs,rfl,rfl⟩ | ⟨xs,rfl,rfl⟩ | ⟨z,k,rfl⟩ | ⟨rfl,rfl⟩
 ·obtain ⟨A,cap,h,_⟩:=relP_list (relV_p hr);exact ⟨A,cap,h⟩
 ·cases hr;exact ⟨_,_,rfl⟩
 ·cases hr;exact ⟨_,_,rfl⟩
 ·cases hr;exact ⟨_,_,rfl⟩
theorem relP_nilm {w:World} {N:Nat→Prop} {v:Value} (h:RelP w N .nilm v):v = .map none:=by cases h;rfl
theorem relV_map {z:Bool} {k:Nat} {v:Value} (h:RelV c (.map z k) v):∃ r,v = .map r∧c.Map z k (.map r):=by
 cases h with | map _ _ r hm=>exact ⟨r,rfl,hm⟩
theorem does_len (hl : s.l = c.l) (hg : s.g = c.g) (hH : RelH Γ c) (hρ : RelA c s ρ) {k : Nat} {x : LOpd} (hok : ok_len P k x o.op = true) {C : Calls'} {av : AV} {s' : St} (h : evalOp C s (.len k x) = some (av, s')) :
    Does P ρ o c.w (Ans Γ c s'.l s'.g av):=by
  cases ho:o.op <;> rw [ho] at hok <;> try (simp [ok_len] at hok;done)
  rename_i cl
  obtain ⟨cal,args,argTypes⟩:=cl
  cases cal <;> try (simp [ok_len] at hok;done)
  rename_i bi
  cases bi <;> try (simp [ok_len] at hok;done)
  simp only [ok_len,Bool.and_eq_true] at hok
  obtain ⟨h1,h2⟩:=hok
  obtain ⟨hlen,hr⟩:=opds_rel hρ h2
  obtain ⟨args⟩:=args
  match args,hlen with
  | [p], _ =>
    have r1:=hr 0 (by simp) (by simp)
    simp only [List.getElem_cons_zero] at r1
    split at h1
    rotate_left
    · cases h1
    rename_i t ht
    split at h1
    · rename_i hu
      have hk:k=0:=by simpa using h1
      subst hk
      simp only [evalOp] at h
      split at h
      rotate_left
      · cases h
      rename_i b hb
      simp only [Option.some.injEq,Prod.mk.injEq] at h
      obtain ⟨rfl,rfl⟩:=h
      rw [hb] at r1
      have r1:=relV_str r1
      have hsz:(⟨b.toArray⟩:ByteArray).size=b.length:=rfl
      refine Does.value (v:=.int .i64 b.length) (w':=c.w) (by simp [execOp,ho,resolve,invoke,builtin,Builtin.len_,ht,run_underlying hu,r1,goInt,hsz]) ?_
      rw [hl,hg]
      exact ans_same hH (rInt _ _)
    · rename_i e hu
      have hk:k=1:=by simpa using h1
      subst hk
      have key:∀ n:Nat,((∃ xs,s.arg x = .p (.list xs)∧xs.length=n)∨(∃ xs,s.arg x = .lit xs∧xs.length=n)∨(∃ z k,s.arg x = .own z k n)∨(s.arg x = .nils∧n=0))→Does P ρ o c.w (Ans Γ c s.l s.g (.p (.int .i64 n))):=fun n hn=>by
        obtain ⟨A,cap,hv⟩:=relV_slicelike hn r1
        refine Does.value (v:=.int .i64 n) (w':=c.w) (by simp [execOp,ho,resolve,invoke,builtin,Builtin.len_,ht,run_underlying hu,hv,goInt]) ?_
        rw [hl,hg]
        exact ans_same hH (rInt _ _)
      simp only [evalOp] at h
      split at h <;> simp only [Option.some.injEq,Prod.mk.injEq,reduceCtorEq] at h
      · rename_i xs hx;obtain ⟨rfl,rfl⟩:=h;exact key _ (.inl ⟨xs,hx,rfl⟩)
      · rename_i xs hx;obtain ⟨rfl,rfl⟩:=h;exact key _ (.inr (.inl ⟨xs,hx,rfl⟩))
      · rename_i z k n hx;obtain ⟨rfl,rfl⟩:=h;exact key _ (.inr (.inr (.inl ⟨z,k,hx⟩)))
      · rename_i hx;obtain ⟨rfl,rfl⟩:=h;exact key 0 (.inr (.inr (.inr ⟨hx,rfl⟩)))
    · rename_i kt e hu
      have hk:k=2:=by simpa using h1
      subst hk
      simp only [evalOp] at h
      split at h
      · rename_i hx
        simp only [Option.some.injEq,Prod.mk.injEq] at h
        obtain ⟨rfl,rfl⟩:=h
        rw [hx] at r1
        have:=relP_nilm (relV_p r1)
        refine Does.value (v:=.int .i64 0) (w':=c.w) (by simp [execOp,ho,resolve,invoke,builtin,Builtin.len_,ht,run_underlying hu,this,goInt]) ?_
        rw [hl,hg]
        exact ans_same hH (rInt _ _)
      · rename_i z kk hx
        split at h
        rotate_left
        · cases h
        rename_i es he
        simp only [Option.some.injEq,Prod.mk.injEq] at h
        obtain ⟨rfl,rfl⟩:=h
        rw [hx] at r1
        rw [obj_eq hl hg] at he
        obtain ⟨r,hv0,ob,hob,H⟩:=relV_map r1
        rw [he] at hob;cases hob
        obtain ⟨_,b,hb,hv⟩:=H 0 rfl
        rw [hv] at hv0
        obtain ⟨b',es',clock,q1,q2,q3,q4⟩:=hH.objs z kk _ he
        rw [hb] at q1;cases q1
        refine Does.value (v:=.int .i64 es.length) (w':=c.w) (by simp [execOp,ho,resolve,invoke,builtin,Builtin.len_,ht,run_underlying hu,hv0,goInt,getObj,Sem.run,q2,q3]) ?_
        rw [hl,hg]
        exact ans_same hH (rInt _ _)
      · cases h
    · cases h1
end
end Go.TA
namespace Go.TA
section
variable {P:Program} {Γ : Ground} {c:Cx} {s:St} {ρ : Operand→Value} {o:Oper}
theorem row_read {b bs sz i j:Nat} {xs:List (List AV)} (h:RelRow c (some b) bs xs) (hi:i<xs.length) (hj:j+sz≤bs):(xs[i]).length=bs∧∃ f:Nat→Value,(∀ q,q<sz→c.w.cell? ⟨b,i*bs+j+q,none⟩=some (f q))∧(∀ q,q<sz→(f q).oneCell'=true)∧∀ q (hq:q<sz) (h':j+q<(xs[i]).length),RelV c (xs[i][j+q]) (f q):=by
 obtain ⟨h0,h1⟩:=h
 rcases h1 with ⟨h1,_⟩ | ⟨b',cs,e,hb,hh,hs,hv⟩
 ·cases h1
 ·cases hb
  refine ⟨h0 i hi,fun q=>(cs[i*bs+j+q]?).getD undef,fun q hq => ?_,fun q hq => ?_,fun q hq h' => ?_⟩
  ·obtain ⟨v,v1,v2,v3⟩:=hv i (j+q) hi (by rw [h0 i hi];omega)
   rw [← Nat.add_assoc] at v1
   simp only [cell_of_row c.w b _ cs e (0,0) hh,v1,Option.getD_some]
  ·obtain ⟨v,v1,v2,v3⟩:=hv i (j+q) hi (by rw [h0 i hi];omega)
   rw [← Nat.add_assoc] at v1
   simp only [v1,Option.getD_some]
   exact v2
  ·obtain ⟨v,v1,v2,v3⟩:=hv i (j+q) hi (by rw [h0 i hi];omega)
   rw [← Nat.add_assoc] at v1
   simp only [v1,Option.getD_some]
   exact v3
theorem load_run {t:TypeId} {sz:Nat} {agg:Bool} (h:szOk P t sz agg=true) {w:World} {b off:Nat} {f:Nat→Value} (hc:∀ q,q<sz→w.cell? ⟨b,off+q,none⟩=some (f q)) :
  (Instr.loadAt t (.pointer (some ⟨b,off,none⟩))).run P w = .ok (if agg then .agg ((List.range sz).map f).toArray else f 0) w:=by
 simp only [szOk,Bool.and_eq_true,beq_iff_eq,Bool.or_eq_true] at h
 obtain ⟨⟨h1,h2⟩,h3⟩:=h
 cases agg
 ·have h3:sz=1:=by simpa using h3
  subst h3
  have:=hc 0 (by omega)
  simp only [Nat.add_zero] at this
  simp [Instr.loadAt,Instr.sureAddr,loadVar,isAgg_run h2,this]
 ·have:=run_loadCells (P:=P) w ⟨b,off,none⟩ sz f (fun q hq=>by rw [add_at];exact hc q hq)
  simp [Instr.loadAt,Instr.sureAddr,loadVar,isAgg_run h2,tsize_run h1,this]
theorem szOk_one {t:TypeId} {sz:Nat} (h:szOk P t sz false=true):sz=1:=by
 simp only [szOk,Bool.and_eq_true,beq_iff_eq,Bool.or_eq_true] at h
 simpa using h.2
theorem loadVar_run {t:TypeId} {sz:Nat} {agg:Bool} (h:szOk P t sz agg=true) {w:World} {b off:Nat} {f:Nat→Value} (hc:∀ q,q<sz→w.cell? ⟨b,off+q,none⟩=some (f q)) :
  (loadVar t ⟨b,off,none⟩).run P w = .ok (if agg then .agg ((List.range sz).map f).toArray else f 0) w:=by
 have:=load_run h hc
 simpa [Instr.loadAt,Instr.sureAddr] using this
theorem load_rel (hl : s.l = c.l) (hg : s.g = c.g) (hH : RelH Γ c) {sz : Nat} {agg : Bool} {x : LOpd} {t : TypeId} (h1 : szOk P t sz agg = true) {u : Value} (r : RelV c (s.arg x) u) {C : Calls'} {av : AV} {s' : St} (h : evalOp C s (.load sz agg x) = some (av, s')) :
    ∃ a v,u = .pointer (some a)∧(loadVar t a).run P c.w = .ok v c.w∧s'=s∧RelV c av v:=by
  simp only [evalOp] at h
  have fin:∀ (b off:Nat) (f:Nat→Value),u = .pointer (some ⟨b,off,none⟩)→(∀ q,q<sz→c.w.cell? ⟨b,off+q,none⟩=some (f q))→s'=s→RelV c av (if agg then .agg ((List.range sz).map f).toArray else f 0)→∃ a v,u = .pointer (some a)∧(loadVar t a).run P c.w = .ok v c.w∧s'=s∧RelV c av v:=fun b off f hy hc e hv=>
    ⟨_,_,hy,loadVar_run h1 hc,e,hv⟩
  split at h
  · rename_i cs hx
    rw [hx] at r
    obtain ⟨v,hv,h⟩:=bk_eq h
    simp only [Option.some.injEq,Prod.mk.injEq] at h
    obtain ⟨rfl,rfl⟩:=h
    obtain ⟨b,off,f,hy,g1,g2,g3,g4,g5⟩:=relV_rop r
    cases agg
    · have:=szOk_one h1
      subst this
      simp only [ropRd] at hv
      cases cs with
      | nil=>simp at hv
      | cons a l =>
        simp only [Option.some.injEq] at hv
        subst hv
        refine fin b off f hy (fun q hq=>g3 q (by simp;omega)) rfl ?_
        exact .p _ _ (g5 0 (by simp))
    · simp only [ropRd] at hv
      split at hv
      rotate_left
      · cases hv
      rename_i hle
      simp only [Option.some.injEq] at hv
      subst hv
      refine fin b off f hy (fun q hq=>g3 q (by omega)) rfl ?_
      simp only [if_true]
      refine .p _ _ (.agg _ _ (by rw [sub_length (by omega)];simp) (fun v hv=>by obtain ⟨q,_,rfl⟩:=List.mem_map.1 hv;exact g4 q) (fun q hq hq' => ?_))
      have hq2:q<sz:=by simpa using hq'
      rw [(sub_get (by omega) hq2).2]
      simp only [List.getElem_map,List.getElem_range,Nat.zero_add]
      exact g5 q (by omega)
  · rename_i z k bs n i j hx
    rw [hx] at r
    obtain ⟨ob,hob,h⟩:=bk_eq h
    obtain ⟨v,hv,h⟩:=bk_eq h
    simp only [Option.some.injEq,Prod.mk.injEq] at h
    obtain ⟨rfl,rfl⟩:=h
    rw [obj_eq hl hg] at hob
    obtain ⟨a,hy,ob',hob',H⟩:=relV_ptr r
    rw [hob] at hob'
    cases hob'
    have hR:=hH.objs z k ob hob
    cases ob with
    | pcells b' xs =>
      simp only [AObj.rd] at hv
      split at hv
      rotate_left
      · cases hv
      rename_i hc
      obtain ⟨rfl,c2,c3,c4⟩:=hc
      simp only [Option.some.injEq] at hv
      subst hv
      obtain ⟨_,H2⟩:=H n (by simp [AObj.cnt,c2])
      obtain ⟨b,hb,rfl⟩:=H2 rfl
      simp only [RelObj,hb] at hR
      have hi:i<xs.length:=by omega
      have hi':i<(lift xs).length:=by simpa [lift] using hi
      obtain ⟨el,f,f1,f2,f3⟩:=row_read hR hi' (sz:=sz) (j:=j) c4
      have el':(xs[i]).length=b':=by simpa [lift] using el
      refine fin b (i*b'+j) f hy f1 rfl ?_
      rw [getD_lt _ hi]
      have f4:∀ q (hq:q<sz) (h':j+q<(xs[i]).length),RelP c.w c.N (xs[i][j+q]) (f q):=fun q hq h'=>by
        have:=f3 q hq (by rw [el];omega)
        simp only [lift,List.getElem_map] at this
        exact relV_p this
      cases agg
      · have:=szOk_one h1
        subst this
        simp only [Bool.false_eq_true,if_false]
        rw [getD_lt _ (by omega)]
        exact .p _ _ (f4 0 (by omega) (by omega))
      · simp only [if_true]
        refine .p _ _ (.agg _ _ (by rw [sub_length (by omega)];simp) (fun v hv=>by obtain ⟨q,hq,rfl⟩:=List.mem_map.1 hv;exact f2 q (by simpa using hq)) (fun q hq hq' => ?_))
        have hq2:q<sz:=by simpa using hq'
        rw [(sub_get (by omega) hq2).2]
        simp only [List.getElem_map,List.getElem_range]
        exact f4 q hq2 (by omega)
    | cells b' xs =>
      simp only [AObj.rd] at hv
      split at hv
      rotate_left
      · cases hv
      rename_i hc
      obtain ⟨rfl,c2,c3,c4⟩:=hc
      simp only [Option.some.injEq] at hv
      subst hv
      obtain ⟨_,H2⟩:=H n (by simp [AObj.cnt,c2])
      obtain ⟨b,hb,rfl⟩:=H2 rfl
      simp only [RelObj,hb] at hR
      have hi:i<xs.length:=by omega
      obtain ⟨el,f,f1,f2,f3⟩:=row_read hR hi (sz:=sz) (j:=j) c4
      refine fin b (i*b'+j) f hy f1 rfl ?_
      rw [getD_lt _ hi]
      cases agg
      · have:=szOk_one h1
        subst this
        simp only [Bool.false_eq_true,if_false]
        rw [getD_lt _ (by omega)]
        exact f3 0 (by omega) (by omega)
      · simp only [if_true]
        refine ofCells_rel (by rw [sub_length (by omega)];simp) (fun v hv=>by obtain ⟨q,hq,rfl⟩:=List.mem_map.1 hv;exact f2 q (by simpa using hq)) (fun q hq hq' => ?_)
        have hq2:q<sz:=by simpa using hq'
        rw [(sub_get (by omega) hq2).2]
        simp only [List.getElem_map,List.getElem_range]
        exact f3 q hq2 (by omega)
    | dead=>simp [AObj.rd] at hv
    | map es=>simp [AObj.rd] at hv
    | siter a b=>simp [AObj.rd] at hv
  · cases h
theorem does_load (hl:s.l=c.l) (hg:s.g=c.g) (hH:RelH Γ c) (hρ : RelA c s ρ) {sz:Nat} {agg:Bool} {x:LOpd} (hok:ok_load P sz agg x o.op=true) {C:Calls'} {av:AV} {s':St} (h:evalOp C s (.load sz agg x)=some (av,s')) :
  Does P ρ o c.w (Ans Γ c s'.l s'.g av):=by
 cases ho:o.op <;> rw [ho] at hok <;> simp [ok_load] at hok
 rename_i t y
 obtain ⟨h1,h2⟩:=hok
 obtain ⟨a,v,hy,hrun,rfl,hv⟩:=load_rel hl hg hH h1 (hρ _ _ h2) h
 refine Does.value (v:=v) (w':=c.w) (by simp [execOp,ho,hy,Instr.loadAt,Instr.sureAddr,hrun]) ?_
 rw [hl,hg]
 exact ans_same hH hv
end
end Go.TA


end
