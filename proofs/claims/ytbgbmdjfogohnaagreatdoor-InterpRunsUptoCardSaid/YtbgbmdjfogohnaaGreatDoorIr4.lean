/- Part 4 of 15 of a proof; joined from LibD. The last operations, and calls, are sound. -/
import Derived.Test.YtbgbmdjfogohnaaGreatDoorIr3
import Derived.Deep.AppendSrc
import Derived.MapKept
set_option linter.unusedSimpArgs false
set_option linter.unusedVariables false
set_option linter.defProp false
set_option maxRecDepth 100000
set_option maxHeartbeats 8000000
section
/- The last operations, and calls, are sound. -/
namespace Go.TA
section
variable {P:Program} {Γ : Ground} {c:Cx} {s:St} {ρ : Operand→Value} {o:Oper}
theorem RowsRel.more {sz:Nat} {xs:List (List AV)} {a:List Value} (h:RowsRel c sz xs a) (r:List Value):RowsRel c sz xs (a++r):=by
 refine ⟨h.1,by rw [List.length_append];have:=h.2.1;omega,fun i j hi hj => ?_⟩
 obtain ⟨v,v1,v2,v3⟩:=h.2.2 i j hi hj
 refine ⟨v, ?_,v2,v3⟩
 rw [List.getElem?_append_left (List.getElem?_eq_some_iff.1 v1).1]
 exact v1
theorem row_lt {i j n sz:Nat} (hi:i<n) (hj:j<sz):i*sz+j<n*sz:=by
 have:=Nat.mul_le_mul_right sz (show i+1≤n from hi)
 rw [Nat.succ_mul] at this
 omega
theorem RowsRel.take {sz:Nat} {xs:List (List AV)} {a:List Value} (h:RowsRel c sz xs a):RowsRel c sz xs (a.take (xs.length*sz)):=by
 refine ⟨h.1,by rw [List.length_take];have:=h.2.1;omega,fun i j hi hj => ?_⟩
 obtain ⟨v,v1,v2,v3⟩:=h.2.2 i j hi hj
 refine ⟨v, ?_,v2,v3⟩
 rw [List.getElem?_take,if_pos (row_lt hi (by rw [h.1 i hi] at hj;exact hj))]
 exact v1
theorem RowsRel.append {sz : Nat} {xs ys : List (List AV)} {a b : List Value} (h : RowsRel c sz xs a) (hl : a.length = xs.length * sz) (h' : RowsRel c sz ys b) : RowsRel c sz (xs ++ ys) (a ++ b) := by
  refine ⟨fun i hi => ?_,by simp only [List.length_append,Nat.add_mul];have:=h'.2.1;omega,fun i j hi hj => ?_⟩
  · rw [List.getElem_append]
    split
    · exact h.1 _ _
    · exact h'.1 _ _
  · by_cases e:i<xs.length
    · have ex:(xs++ys)[i]=xs[i]:=List.getElem_append_left e
      rw [ex] at hj
      obtain ⟨v,v1,v2,v3⟩:=h.2.2 i j e hj
      refine ⟨v, ?_,v2, ?_⟩
      · rw [List.getElem?_append_left (List.getElem?_eq_some_iff.1 v1).1]
        exact v1
      · simp only [ex]
        exact v3
    · have ex:(xs++ys)[i]=ys[i - xs.length]'(by simp at hi;omega):=List.getElem_append_right (by omega)
      rw [ex] at hj
      obtain ⟨v,v1,v2,v3⟩:=h'.2.2 (i - xs.length) j (by simp at hi;omega) hj
      refine ⟨v, ?_,v2, ?_⟩
      · have em:i*sz=xs.length*sz+(i - xs.length)*sz:=by rw [← Nat.add_mul];congr 1;omega
        rw [List.getElem?_append_right (by rw [hl];omega), ← v1]
        congr 1
        rw [hl]
        omega
      · simp only [ex]
        exact v3
theorem RowsRel.mono {c':Cx} (hE:Evolve c c') {sz:Nat} {xs:List (List AV)} {a:List Value} (h:RowsRel c sz xs a):RowsRel c' sz xs a :=
 ⟨h.1,h.2.1,fun i j hi hj=>by obtain ⟨v,v1,v2,v3⟩:=h.2.2 i j hi hj;exact ⟨v,v1,v2,hE.relV v3⟩⟩
theorem append_rel (hH : RelH Γ c) {z : Bool} {k n sz bytes : Nat} {ob ob' : AObj} {xs ys : List (List AV)} {v x : Value} {t u e ty : TypeId} {i : TypeInfo} {zv : Value} {news : List Value} (hob : c.obj z k = some ob) (hcnt : ob.cnt = some n) (hm : ob.isMap = false) (hm' : ob'.isMap = false) (hs : ob'.sz = sz) (hs0 : ob.sz = sz) (hcnt' : ob'.cnt = some (n + ys.length))
    (hR:RelRow c (c.μ z k) sz xs) (hn:xs.length=n) (hro:∀ c'':Cx,RelRow c'' (c''.μ z k) sz (xs++ys)→RelObj c'' z k ob') (hv:RelV c (.own z k n) v)
    (ht:P.underlying t=some (.slice e)) (hi:P.info? e=some i) (hz:i.zero=some zv) (hsz:i.size=sz) (hby:i.bytes=bytes) (hzs:zv.cells.size=sz)
    (hsrc:Src P sz u x ys.length news c.w) (hy:RowsRel c sz ys news) (hb1:(n+ys.length)*bytes≤140737488355328) (hb2:n+ys.length≤140737488355328) :
    ∃ v' w' m',(Builtin.append_ #[t,u] ty #[v,x]).run P c.w = .ok v' w'∧Evolve c (c.set z k ob' m' w')∧RelH Γ (c.set z k ob' m' w')∧RelV (c.set z k ob' m' w') (.own z k (n+ys.length)) v':=by
  subst hsz
  subst hby
  have hne:c.obj z k≠none:=by rw [hob];simp
  have hobs:∀ m' w',(c.set z k ob' m' w').obj z k=some ob':=fun m' w'=>by rw [Cx.obj_set hne,if_pos ⟨rfl,rfl⟩]
  have hμs:∀ m' w',(c.set z k ob' m' w').μ z k=m':=fun m' w'=>by simp [Cx.set]
  obtain ⟨A,cap,rfl,hrow⟩:=row_now hv hob hcnt
  have hnl:news.length=ys.length*i.size:=hsrc.newsLen
  have grow:∀ (olds:List Value) (base:Option Addr),(Builtin.firstCells i.size n (.slice base n cap)).run P c.w.drew = .ok olds.toArray c.w.drew→RowsRel c i.size xs olds→olds.length=n*i.size→cap<n+ys.length→n≤cap →
      ∃ v' w' m',(Builtin.append_ #[t,u] ty #[.slice base n cap,x]).run P c.w = .ok v' w'∧Evolve c (c.set z k ob' m' w')∧RelH Γ (c.set z k ob' m' w')∧RelV (c.set z k ob' m' w') (.own z k (n+ys.length)) v':=by
    intro olds base hold hxr hol hcap hncap
    have hr:=run_append_grow_src (P:=P) c.w t u ty e i zv ht hi hz base n cap olds hold x ys.length news hsrc hcap (by omega) (growslice_fits hcap hb1)
    have hge:=grownCap_ge c.w (n+ys.length) cap e
    have hcm:=grownCap_le_maxLen c.w (n+ys.length) cap e (by simp [maxLen];omega)
    generalize grownCap c.w (n+ys.length) cap e=cap' at *
    have hb:=below_drew_alloc c.w (.cells ((olds++news).toArray++Builtin.zeroCells zv.cells (cap' - (n+ys.length))) e)
    have hnew:=heap_alloc_new c.w.drew (.cells ((olds++news).toArray++Builtin.zeroCells zv.cells (cap' - (n+ys.length))) e)
    have hlt:=size_alloc c.w.drew (.cells ((olds++news).toArray++Builtin.zeroCells zv.cells (cap' - (n+ys.length))) e)
    have hsize:((olds++news).toArray++Builtin.zeroCells zv.cells (cap' - (n+ys.length))).size=cap'*i.size:=by
      rw [Array.size_append,size_zeroCells,hzs,List.size_toArray,List.length_append,hol,hnl, ← Nat.add_mul, ← Nat.add_mul]
      congr 1
      omega
    have hlist:((olds++news).toArray++Builtin.zeroCells zv.cells (cap' - (n+ys.length))).toList=olds++news++(Builtin.zeroCells zv.cells (cap' - (n+ys.length))).toList:=by simp
    generalize ((olds++news).toArray++Builtin.zeroCells zv.cells (cap' - (n+ys.length)))=arr at *
    obtain ⟨hE,hH'⟩:=hH.set ob' (some c.w.heap.size) (w':=c.w.drew.alloc (.cells arr e)) hob hb.size hb.tape hb.os hb.output (fun b hb' _=>hb.block b hb') (fun b hb'=>by
      cases hb'
      exact ⟨.inr ⟨Nat.le_refl _,hlt,hH.new.1⟩,by rw [hcnt'];simp⟩) (fun m' hm2=>by
      rw [hcnt'] at hm2
      cases hm2
      exact ⟨n,hcnt,by omega,by rw [hm,hm'],fun e=>by omega⟩) (fun hE=>by
      refine hro _ ?_
      rw [hμs]
      have hrr:=((hxr.append (by rw [hol,hn]) hy).more (Builtin.zeroCells zv.cells (cap' - (n+ys.length))).toList).mono hE
      rw [← hlist] at hrr
      exact ⟨hrr.1,.inr ⟨_,arr,e,rfl,hnew,by simpa using hrr.2.1,fun a b ha hb=>by simpa using hrr.2.2 a b ha hb⟩⟩)
    refine ⟨_,_,some c.w.heap.size,hr,hE,hH',.own _ _ _ _ _ ⟨ob',hobs _ _,fun m' hm2 => ?_⟩⟩
    rw [hcnt'] at hm2
    cases hm2
    exact ⟨Nat.le_refl _,fun _ => .inr ⟨_,arr,e,hμs _ _,rfl,hge,hcm,hnew,by rw [hsize,hs]⟩⟩
  rcases hrow with ⟨q0,h0,rfl,rfl⟩ | ⟨b,cs,e',q1,rfl,q3,q4,q5,q6⟩
  · have hx0:xs=[]:=List.eq_nil_of_length_eq_zero (hn.trans h0)
    subst hx0
    by_cases hy0:ys.length=0
    · have hys:ys=[]:=List.eq_nil_of_length_eq_zero hy0
      subst hys
      have hnews:news=[]:=List.eq_nil_of_length_eq_zero (by simpa using hnl)
      subst hnews
      subst h0
      obtain ⟨hE,hH'⟩:=hH.set ob' none (w':=c.w) hob (Nat.le_refl _) rfl rfl rfl (fun _ _ _=>rfl) (fun b hb=>by cases hb) (fun m' hm2=>by
        rw [hcnt'] at hm2
        cases hm2
        exact ⟨0,hcnt,Nat.le_refl _,by rw [hm,hm'],fun _=>⟨⟨q0.symm,fun b cs e h=>by rw [q0] at h;cases h⟩,by rw [hs,hs0]⟩⟩) (fun hE=>by
        refine hro _ ?_
        rw [hμs]
        exact ⟨by simp,.inl ⟨rfl,rfl⟩⟩)
      refine ⟨.slice none 0 0,c.w,none, ?_,hE,hH',.own _ _ _ _ _ ⟨ob',hobs _ _,fun m' hm2 => ?_⟩⟩
      · have hc:=hsrc.cells
        have hl:=hsrc.len
        simp only [List.length_nil] at hc hl
        rcases hsrc.kind with ⟨e2,hk⟩ | hk <;> simp [Builtin.append_,run_underlying ht,run_underlying hk,sizeOf,typeInfo,hi,hl,hc]
      · rw [hcnt'] at hm2
        cases hm2
        exact ⟨Nat.le_refl _,fun _ => .inl ⟨hμs _ _,rfl,rfl,rfl⟩⟩
    · subst h0
      exact grow [] none (by simp [Builtin.firstCells]) ⟨by simp,by simp,fun i j hi=>by simp at hi⟩ (by simp) (by omega) (Nat.le_refl _)
  · rw [q1] at hR
    obtain ⟨cs2,e2,hh,hrows⟩:=relRow_rows hR
    rw [q5] at hh
    cases hh
    have htake:=hrows.take
    rw [hn] at htake
    have hlen:(cs.toList.take (n*i.size)).length=n*i.size:=by
      have:=hrows.2.1
      rw [hn] at this
      rw [List.length_take]
      omega
    by_cases hroom:n+ys.length≤cap
    · have hfit:n*i.size+0+news.length≤cs.size:=by
        rw [hnl,q6,hs0,Nat.add_zero, ← Nat.add_mul]
        exact Nat.mul_le_mul_right _ hroom
      have hst:=run_storeCells_at P b (n*i.size) e' news 0 cs c.w q5 hfit hsrc.one
      simp only [Nat.add_zero] at hst hfit
      have hset:=setRow_heap c.w b cs (cs.toList.take (n*i.size)++news++cs.toList.drop (n*i.size+news.length)).toArray e' (0,0) q5
      have hsize:(cs.toList.take (n*i.size)++news++cs.toList.drop (n*i.size+news.length)).toArray.size=cs.size:=by
        simp only [List.size_toArray,List.length_append,List.length_take,List.length_drop,Array.length_toList]
        omega
      have hrr:RowsRel c i.size (xs++ys) (cs.toList.take (n*i.size)++news++cs.toList.drop (n*i.size+news.length)):=(htake.append (by rw [hlen,hn]) hy).more _
      generalize (cs.toList.take (n*i.size)++news++cs.toList.drop (n*i.size+news.length))=arr at *
      obtain ⟨hE,hH'⟩:=hH.set ob' (some b) (w':=c.w.setRow b arr.toArray) hob (by simp) rfl rfl rfl (fun b' _ hne=>setRow_other c.w b b' _ (fun e=>hne (by rw [q1,e]))) (fun b' e3=>⟨.inl (by cases e3;exact q1),by rw [hcnt'];simp⟩) (fun m' hm2=>by
        rw [hcnt'] at hm2
        cases hm2
        exact ⟨n,hcnt,by omega,by rw [hm,hm'],fun e=>⟨⟨q1.symm,fun b' cs1 e1 h1 h2=>by
          rw [q1] at h1
          cases h1
          rw [q5] at h2
          cases h2
          exact ⟨arr.toArray,hset,hsize⟩⟩,by rw [hs,hs0]⟩⟩) (fun hE=>by
        refine hro _ ?_
        rw [hμs]
        have hrr:=hrr.mono hE
        exact ⟨hrr.1,.inr ⟨b,arr.toArray,e',rfl,hset,by simpa using hrr.2.1,fun a b ha hb=>by simpa using hrr.2.2 a b ha hb⟩⟩)
      refine ⟨.slice (some ⟨b,0,none⟩) (n+ys.length) cap,_,some b, ?_,hE,hH',.own _ _ _ _ _ ⟨ob',hobs _ _,fun m' hm2 => ?_⟩⟩
      · have hc:=hsrc.cells
        have hl:=hsrc.len
        rcases hsrc.kind with ⟨e2,hk⟩ | hk <;> simp [Builtin.append_,run_underlying ht,run_underlying hk,sizeOf,typeInfo,hi,hl,hc,hroom,Addr.add_lit,hst]
      · rw [hcnt'] at hm2
        cases hm2
        exact ⟨Nat.le_refl _,fun _ => .inr ⟨b,arr.toArray,e',hμs _ _,rfl,hroom,q4,hset,by rw [hsize,q6,hs,hs0]⟩⟩
    · refine grow (cs.toList.take (n*i.size)) (some ⟨b,0,none⟩) ?_ htake hlen (by omega) q3
      refine run_firstCells_some c.w.drew i.size n ⟨b,0,none⟩ n cap _ hlen (fun j v hj => ?_)
      rw [List.getElem?_take] at hj
      split at hj
      · rw [add_at,Nat.zero_add]
        refine (cell_of_row c.w.drew b j cs e' (0,0) q5).trans ?_
        simpa using hj
      · cases hj
end
end Go.TA
namespace Go.TA
section
variable {P:Program} {Γ : Ground} {c:Cx} {s:St} {ρ : Operand→Value} {o:Oper}
abbrev SrcK (P:Program) (u:TypeId):Prop:=(∃ e',P.underlying u=some (.slice e'))∨P.underlying u=some .string
theorem src_slice {w:World} {sz:Nat} {u:TypeId} (hk:SrcK P u) (a:Addr) (n cp:Nat) (news:List Value) (hl:news.length=n*sz) (hnews:∀ j v,news[j]? = some v→w.cell? (a.add j)=some v)
  (h1:∀ v ∈ news,v.oneCell'=true):Src P sz u (.slice (some a) n cp) n news w :=
 ⟨hk,fun _=>rfl,run_firstCells_some w sz n a n cp news hl hnews,run_firstCells_some w.drew sz n a n cp news hl hnews,hl,h1⟩
theorem src_nil {w:World} {sz:Nat} {u:TypeId} (hk:SrcK P u) (A:Option Addr) (cp:Nat):Src P sz u (.slice A 0 cp) 0 [] w:=by
 cases A with
 | some a=>exact src_slice hk a 0 cp [] (by simp) (by simp) (by simp)
 | none=>exact ⟨hk,fun _=>rfl,run_firstCells_none w sz 0 0 cp,run_firstCells_none w.drew sz 0 0 cp,by simp,by simp⟩
def laid (m sz:Nat) (f:Nat→Nat→Value):List Value:=(List.range (m*sz)).map fun q=>f (q / sz) (q % sz)
theorem laid_get {m sz:Nat} {f:Nat→Nat→Value} {i j:Nat} (hi:i<m) (hj:j<sz):(laid m sz f)[i*sz+j]? = some (f i j):=by
 have h:=row_lt (n:=m) hi hj
 have e1:(i*sz+j) / sz=i:=by rw [Nat.mul_comm,Nat.mul_add_div (by omega),Nat.div_eq_of_lt hj,Nat.add_zero]
 have e2:(i*sz+j) % sz=j:=by rw [Nat.mul_comm,Nat.mul_add_mod,Nat.mod_eq_of_lt hj]
 simp [laid,h,e1,e2]
theorem src_rows {w:World} {sz:Nat} {u:TypeId} (hk:SrcK P u) (h0:0<sz) {b off m cp:Nat} {f:Nat→Nat→Value} (hcell:∀ i j,i<m→j<sz→w.cell? ⟨b,off+(i*sz+j),none⟩=some (f i j)) (h1:∀ i j,(f i j).oneCell'=true) :
  Src P sz u (.slice (some ⟨b,off,none⟩) m cp) m (laid m sz f) w :=
 src_slice hk _ m cp _ (by simp [laid]) (fun j v hj=>by
  simp only [laid,List.getElem?_map] at hj
  have hlt:j<m*sz:=by
   have:=(List.getElem?_eq_some_iff.1 (Option.map_eq_some_iff.1 hj).choose_spec.1).1
   simpa using this
  rw [List.getElem?_range hlt] at hj
  simp only [Option.map_some,Option.some.injEq] at hj
  subst hj
  rw [add_at]
  have:=hcell (j / sz) (j % sz) (by rw [Nat.div_lt_iff_lt_mul h0];exact hlt) (Nat.mod_lt _ h0)
  rw [← this]
  congr 2
  rw [Nat.mul_comm,Nat.div_add_mod]) (fun v hv=>by
  simp only [laid,List.mem_map] at hv
  obtain ⟨q,_,rfl⟩:=hv
  exact h1 _ _)
inductive News (sz:Nat):AV→List (List AV)→Prop
 | lit (ys:List (List AV)):(∀ i (h:i<ys.length),(ys[i]).length=sz)→News sz (.lit ys) ys
 | list (ps:List (List PV)):(∀ i (h:i<ps.length),(ps[i]).length=sz)→News sz (.p (.list ps)) (lift ps)
 | str (bs:List UInt8):sz=1→News sz (.p (.str bs)) (lift (bs.map fun b=>[PV.int .u8 b.toNat]))
theorem news_rel {sz : Nat} {av : AV} {ys : List (List AV)} {x : Value} {u : TypeId} (hn : News sz av ys) (h0 : 0 < sz) (hk : SrcK P u) (hr : RelV c av x) : ∃ news, Src P sz u x ys.length news c.w ∧ RowsRel c sz ys news := by
  cases hn with
  | lit _ hl =>
    cases hr with
    | lit _ b cap sz' f h1 h2 h3 h4 h5 h6 h7 h8 =>
      by_cases he:ys.length=0
      · have e:ys=[]:=List.eq_nil_of_length_eq_zero he
        subst e
        exact ⟨[],src_nil hk _ _,by simp,by simp,fun i j hi=>by simp at hi⟩
      · have e1:sz'=sz:=by rw [← h5 0 (by omega),hl 0 (by omega)]
        subst e1
        refine ⟨laid ys.length sz' f,src_rows (off:=0) hk h0 (fun i j hi hj=>by rw [Nat.zero_add];exact h6 i j hi hj) h7,h5,by simp [laid],fun i j hi hj=>⟨f i j,laid_get hi (by rw [h5 i hi] at hj;exact hj),h7 i j,h8 i j hi hj⟩⟩
  | list ps hl =>
    obtain ⟨A,cap,rfl,q1,q2,q3⟩:=relP_list (relV_p hr)
    have hlen:(lift ps).length=ps.length:=by simp [lift]
    rw [hlen]
    by_cases he:ps.length=0
    · have e:ps=[]:=List.eq_nil_of_length_eq_zero he
      subst e
      exact ⟨[],src_nil hk _ _,by simp [lift],by simp [lift],fun i j hi=>by simp [lift] at hi⟩
    · obtain ⟨b,off,sz',f,rfl,h1,h2,h5,h6,h7,h8⟩:=q3 (by omega)
      have e1:sz'=sz:=by rw [← h5 0 (by omega),hl 0 (by omega)]
      subst e1
      refine ⟨laid ps.length sz' f,src_rows hk h0 h6 h7,fun i hi=>by simpa [lift] using h5 i (by simpa [lift] using hi),by simp [laid,lift],fun i j hi hj => ?_⟩
      have hi':i<ps.length:=by simpa [lift] using hi
      have hj':j<(ps[i]).length:=by simpa [lift] using hj
      refine ⟨f i j,laid_get hi' (by rw [h5 i hi'] at hj';exact hj'),h7 i j, ?_⟩
      simp only [lift,List.getElem_map]
      exact .p _ _ (h8 i j hi' hj')
  | str bs h1 =>
    subst h1
    have:=relV_str hr
    subst this
    have hsz:(⟨bs.toArray⟩:ByteArray).size=bs.length:=rfl
    have hbl:(byteCells ⟨bs.toArray⟩).length=bs.length:=by rw [byteCells_length,hsz]
    refine ⟨byteCells ⟨bs.toArray⟩, ?_, ?_⟩
    · have hf:∀ w',(Builtin.firstCells 1 bs.length (.string ⟨bs.toArray⟩)).run P w' = .ok (byteCells ⟨bs.toArray⟩).toArray w':=fun w'=>by
        have:=firstCells_string (P:=P) ⟨bs.toArray⟩ w'
        rwa [hsz] at this
      have hl:(lift (bs.map fun b=>[PV.int .u8 b.toNat])).length=bs.length:=by simp [lift]
      rw [hl]
      exact ⟨hk,fun _=>rfl,hf _,hf _,by rw [hbl,Nat.mul_one],fun u hu=>by
        obtain ⟨_,_,rfl⟩:=List.mem_map.1 hu
        rfl⟩
    · refine ⟨fun i hi=>by simp [lift],by rw [hbl];simp [lift],fun i j hi hj => ?_⟩
      have hi':i<bs.length:=by simpa [lift] using hi
      have hj':j=0:=by simpa [lift] using hj
      subst hj'
      refine ⟨.int .u8 (bs[i]).toNat,by simp [byteCells,hi'],rfl, ?_⟩
      simp only [lift,List.getElem_map,List.getElem_cons_zero]
      exact rInt _ _
theorem own_news (hH : RelH Γ c) {z : Bool} {k sz n bsz : Nat} {xs : List (List PV)} {v : Value} {u : TypeId} (hob : c.obj z k = some (.pcells bsz xs)) (hn : xs.length = n) (hl : ∀ i (h : i < (lift xs).length), ((lift xs)[i]).length = sz) (h0 : 0 < sz) (hk : SrcK P u) (hr : RelV c (.own z k n) v) :
    ∃ news,Src P sz u v (lift xs).length news c.w∧RowsRel c sz (lift xs) news:=by
  have hll:(lift xs).length=n:=by simpa [lift] using hn
  have hR:RelRow c (c.μ z k) bsz (lift xs):=hH.objs z k _ hob
  obtain ⟨A,cap,rfl,hrow⟩:=row_now hr hob (show AObj.cnt (.pcells bsz xs)=some n by simp [AObj.cnt,hn])
  rcases hrow with ⟨_,e,rfl,rfl⟩ | ⟨b,cs,e,q1,rfl,q3,q4,q5,q6⟩
  · have e':lift xs=[]:=List.eq_nil_of_length_eq_zero (by omega)
    rw [e',e]
    exact ⟨[],src_nil hk _ _,by simp,by simp,fun i j hi=>by simp at hi⟩
  · rw [q1] at hR
    obtain ⟨hl0,hR⟩:=hR
    rcases hR with ⟨hR,_⟩ | ⟨b',cs',e',hb',hh,hs,hv⟩
    · cases hR
    · cases hb'
      let f:Nat→Nat→Value:=fun i j=>match cs'[i*sz+j]? with | some v=>if v.oneCell'=true then v else .bool true | none => .bool true
      have hsz:∀ i,i<(lift xs).length→bsz=sz:=fun i h=>by rw [← hl0 i h,hl i h]
      have hf:∀ i j (hi:i<(lift xs).length) (hj:j<((lift xs)[i]).length),∃ v,cs'[i*sz+j]? = some v∧v.oneCell'=true∧RelV c ((lift xs)[i][j]) v:=fun i j hi hj=>by
        have:=hv i j hi hj
        rwa [hsz i hi] at this
      have h7:∀ i j,(f i j).oneCell'=true:=fun i j=>by
        simp only [f]
        split
        · split
          · assumption
          · rfl
        · rfl
      rw [← hll]
      refine ⟨laid (lift xs).length sz f,src_rows (off:=0) hk h0 (fun i j hi hj => ?_) h7,hl,by simp [laid],fun i j hi hj => ?_⟩
      · obtain ⟨v,v1,v2,v3⟩:=hf i j hi (by rw [hl i hi];exact hj)
        simp only [f,v1,v2,if_true,Nat.zero_add]
        exact (cell_of_row c.w b _ cs' e' (0,0) hh).trans v1
      · obtain ⟨v,v1,v2,v3⟩:=hf i j hi hj
        refine ⟨f i j,laid_get hi (by rw [hl i hi] at hj;exact hj),h7 i j, ?_⟩
        simp only [f,v1,v2,if_true]
        exact v3
theorem asLit_news (hl : s.l = c.l) (hg : s.g = c.g) (hH : RelH Γ c) {sz : Nat} {av : AV} {ys : List (List AV)} {x : Value} {u : TypeId} (hn : News sz (asLit s av) ys) (h0 : 0 < sz) (hk : SrcK P u) (hr : RelV c av x) : ∃ news, Src P sz u x ys.length news c.w ∧ RowsRel c sz ys news := by
  cases av with
  | own z k n =>
    simp only [asLit] at hn
    split at hn
    · rename_i b xs hob
      split at hn
      · rename_i e
        rw [obj_eq hl hg] at hob
        cases hn with
        | list _ hlen=>exact own_news hH hob e (fun i hi=>by simpa [lift] using hlen i (by simpa [lift] using hi)) h0 hk hr
      · cases hn
    · cases hn
  | _=>exact news_rel hn h0 hk hr
theorem all_len {α : Type} {sz:Nat} {ys:List (List α)} (h:(ys.all fun y=>y.length==sz)=true) (i:Nat) (hi:i<ys.length):(ys[i]).length=sz:=by
 have:=List.all_eq_true.1 h ys[i] (List.getElem_mem _)
 simpa using this
theorem appendTo_rel {z : Bool} {k n sz bytes : Nat} {ob : AObj} {y av : AV} {s' : St} (h : appendTo s z k n sz bytes ob y = some (av, s')) (hR : RelObj c z k ob) : ∃ xs ys ob', News sz y ys ∧ RelRow c (c.μ z k) sz xs ∧ xs.length = n ∧ ob.cnt = some n ∧ ob.isMap = false ∧ ob.sz = sz ∧
    ob'.cnt=some (n+ys.length)∧ob'.isMap=false∧ob'.sz=sz∧(∀ c'':Cx,RelRow c'' (c''.μ z k) sz (xs++ys)→RelObj c'' z k ob')∧(n+ys.length)*bytes≤140737488355328∧n+ys.length≤140737488355328∧av = .own z k (n+ys.length)∧s'=s.putObj z k ob':=by
  cases ob with
  | pcells b xs =>
    simp only [appendTo] at h
    split at h
    rotate_left
    · cases h
    rename_i hc
    obtain ⟨rfl,hn⟩:=hc
    have hlx:(lift xs).length=n:=by simpa [lift] using hn
    split at h
    · rename_i ys
      split at h
      rotate_left
      · cases h
      rename_i hc
      obtain ⟨c1,c2,c3⟩:=hc
      have hx:(List.map (fun c=>List.map AV.p c) xs)=lift xs:=rfl
      split at h
      · rename_i ps hp
        simp only [Option.some.injEq,Prod.mk.injEq] at h
        obtain ⟨rfl,rfl⟩:=h
        have e:=puress_lift hp
        have hlen:ps.length=ys.length:=by rw [e];simp [lift]
        refine ⟨lift xs,ys,.pcells b (xs++ps),.lit ys (all_len c3),hR,hlx,by simp [AObj.cnt,hn],rfl,rfl,by simp [AObj.cnt,hn,hlen],rfl,rfl,fun c'' h => ?_,c1,c2,by rw [List.length_append,hn,hlen],rfl⟩
        rw [e] at h
        simp only [RelObj]
        simpa [lift] using h
      · split at h
        rotate_left
        · cases h
        simp only [Option.some.injEq,Prod.mk.injEq] at h
        obtain ⟨rfl,rfl⟩:=h
        refine ⟨lift xs,ys,.cells b (lift xs++ys),.lit ys (all_len c3),hR,hlx,by simp [AObj.cnt,hn],rfl,rfl,by simp [AObj.cnt,hlx],rfl,rfl,fun c'' h=>h,c1,c2,by rw [hx,List.length_append,hlx],rfl⟩
    · rename_i ps
      split at h
      rotate_left
      · cases h
      rename_i hc
      obtain ⟨c1,c2,c3⟩:=hc
      simp only [Option.some.injEq,Prod.mk.injEq] at h
      obtain ⟨rfl,rfl⟩:=h
      have hlen:(lift ps).length=ps.length:=by simp [lift]
      refine ⟨lift xs,lift ps,.pcells b (xs++ps),.list ps (all_len c3),hR,hlx,by simp [AObj.cnt,hn],rfl,rfl,by simp [AObj.cnt,hn,hlen],rfl,rfl,fun c'' h => ?_,by rw [hlen];exact c1,by rw [hlen];exact c2,by rw [List.length_append,hn,hlen],rfl⟩
      simp only [RelObj]
      simpa [lift] using h
    · rename_i bs
      split at h
      rotate_left
      · cases h
      rename_i hc
      obtain ⟨c1,c2,c3⟩:=hc
      simp only [Option.some.injEq,Prod.mk.injEq] at h
      obtain ⟨rfl,rfl⟩:=h
      have hlen:(lift (bs.map fun b=>[PV.int .u8 b.toNat])).length=bs.length:=by simp [lift]
      refine ⟨lift xs,lift (bs.map fun b=>[PV.int .u8 b.toNat]),.pcells b (xs++bs.map fun b=>[PV.int .u8 b.toNat]),.str bs c3,hR,hlx,by simp [AObj.cnt,hn],rfl,rfl,by simp [AObj.cnt,hn,hlen],rfl,rfl,fun c'' h => ?_,by rw [hlen];exact c1,by rw [hlen];exact c2,by rw [List.length_append,hn,hlen,List.length_map],rfl⟩
      simp only [RelObj]
      simpa [lift] using h
    · cases h
  | cells b xs =>
    simp only [appendTo] at h
    split at h
    rotate_left
    · cases h
    rename_i hc
    obtain ⟨rfl,hn⟩:=hc
    split at h
    · rename_i ys
      split at h
      rotate_left
      · cases h
      rename_i hc
      obtain ⟨c1,c2,c3,c4⟩:=hc
      simp only [Option.some.injEq,Prod.mk.injEq] at h
      obtain ⟨rfl,rfl⟩:=h
      exact ⟨xs,ys,.cells b (xs++ys),.lit ys (all_len c3),hR,hn,by simp [AObj.cnt,hn],rfl,rfl,by simp [AObj.cnt,hn],rfl,rfl,fun c'' h=>h,c1,c2,by rw [List.length_append,hn],rfl⟩
    · cases h
  | dead=>simp [appendTo] at h
  | map es=>simp [appendTo] at h
  | siter a b=>simp [appendTo] at h
end
end Go.TA
namespace Go.TA
section
variable {P:Program} {Γ : Ground} {c:Cx} {s:St} {ρ : Operand→Value} {o:Oper}
theorem does_append (hl : s.l = c.l) (hg : s.g = c.g) (hH : RelH Γ c) (hρ : RelA c s ρ) {z : Bool} {k sz bytes : Nat} {x y : LOpd} (hok : ok_append P z k sz bytes x y o.op = true) {C : Calls'} {av : AV} {s' : St} (h : evalOp C s (.append z k sz bytes x y) = some (av, s')) :
    Does P ρ o c.w (Ans Γ c s'.l s'.g av):=by
  cases ho:o.op <;> rw [ho] at hok <;> try (simp [ok_append] at hok;done)
  rename_i cl
  obtain ⟨cal,args,argTypes⟩:=cl
  cases cal <;> try (simp [ok_append] at hok;done)
  rename_i bi
  cases bi <;> try (simp [ok_append] at hok;done)
  simp only [ok_append,Bool.and_eq_true] at hok
  obtain ⟨h1,h2⟩:=hok
  obtain ⟨hlen,hr⟩:=opds_rel hρ h2
  obtain ⟨args⟩:=args
  obtain ⟨argTypes⟩:=argTypes
  match args,hlen with
  | [p, q], _ =>
    have r1:=hr 0 (by simp) (by simp)
    have r2:=hr 1 (by simp) (by simp)
    simp only [List.getElem_cons_zero,List.getElem_cons_succ] at r1 r2
    split at h1
    rotate_left
    · cases h1
    rename_i t u heq
    simp only at heq
    subst heq
    split at h1
    rotate_left
    · cases h1
    rename_i e hu
    simp only [Bool.and_eq_true,beq_iff_eq,bne_iff_ne,ne_eq] at h1
    obtain ⟨⟨⟨⟨g1,g2⟩,g3⟩,g4⟩,g5⟩:=h1
    obtain ⟨i,hi,hsz⟩:=Option.map_eq_some_iff.1 g1
    obtain ⟨i',hi',hby⟩:=Option.map_eq_some_iff.1 g2
    rw [hi] at hi'
    cases hi'
    split at g4
    rotate_left
    · cases g4
    rename_i vs hz
    unfold tzero at hz
    rw [hi,Option.bind_some] at hz
    obtain ⟨zv,hzv,rfl⟩:=Option.map_eq_some_iff.1 hz
    have hzs:zv.cells.size=sz:=by simpa using g4
    have hk:SrcK P u:=by
      split at g5
      · rename_i e' hk;exact .inl ⟨e',hk⟩
      · rename_i hk;exact .inr hk
      · cases g5
    have key:∀ (z:Bool) (c1:Cx) (s1:St) (k1 n:Nat) (ob:AObj),s1.l=c1.l→s1.g=c1.g→c1.w=c.w→Evolve c c1→RelH Γ c1→c1.obj z k1=some ob→RelV c1 (.own z k1 n) (ρ p)→appendTo s1 z k1 n sz bytes ob (asLit s (s.arg y))=some (av,s')→Does P ρ o c.w (Ans Γ c s'.l s'.g av):=by
      intro z c1 s1 k1 n ob hl1 hg1 hw1 hE1 hH1 hob hv ha
      obtain ⟨xs,ys,ob',a1,a2,a3,a4,a5,a6,a7,a8,a9,a10,a11,a12,rfl,rfl⟩:=appendTo_rel ha (hH1.objs z k1 ob hob)
      obtain ⟨news,b1,b2⟩:=asLit_news hl hg hH a1 (by omega) hk r2
      rw [← hw1] at b1
      have b2:=b2.mono hE1
      obtain ⟨v',w',m',d1,d2,d3,d4⟩:=append_rel (ty:=o.type) hH1 hob a4 a5 a8 a9 a6 a7 a2 a3 a10 hv hu hi hzv hsz hby hzs b1 b2 a11 a12
      rw [hw1] at d1
      refine Does.value (v:=v') (w':=w') (by simp [execOp,ho,resolve,invoke,builtin,d1]) ⟨_,put_l hl1,put_g hg1,rfl,hE1.trans d2,d3,d4⟩
    simp only [evalOp] at h
    split at h
    · rename_i z' k' n hx
      rw [hx] at r1
      obtain ⟨ob,hob,h⟩:=bk_eq h
      rw [obj_eq hl hg] at hob
      exact key z' c s k' n ob hl hg rfl (Evolve.refl c) hH hob r1 h
    · rename_i hx
      rw [hx] at r1
      obtain ⟨⟨k',s1⟩,hn,h⟩:=bk_eq h
      have hnil : ρ p = .slice none 0 0:=by
        generalize ρ p=v at r1
        cases r1
        rfl
      obtain ⟨n1,n2,n3,hE,hH',hr⟩:=new_nil hl hg hH hn
      rw [← hnil] at hr
      obtain ⟨hf,_⟩:=newObj_cx hl hg hn none c.w
      exact key z _ s1 k' 0 (.pcells sz []) n1.symm n2.symm rfl hE hH' (by rw [Cx.obj_add hf,if_pos ⟨rfl,rfl⟩]) hr h
    · cases h
end
end Go.TA
namespace Go.TA
section
variable {P:Program} {Γ : Ground} {c:Cx} {s:St} {ρ : Operand→Value} {o:Oper}
theorem RowsRel.drop {sz:Nat} {xs:List (List AV)} {a:List Value} (h:RowsRel c sz xs a) (m:Nat):RowsRel c sz (xs.drop m) (a.drop (m*sz)):=by
 refine ⟨fun i hi=>by rw [List.getElem_drop];exact h.1 _ _, ?_,fun i j hi hj => ?_⟩
 ·rw [List.length_drop,List.length_drop,Nat.sub_mul]
  have:=h.2.1
  omega
 ·rw [List.getElem_drop] at hj
  obtain ⟨v,v1,v2,v3⟩:=h.2.2 (m+i) j (by rw [List.length_drop] at hi;omega) hj
  refine ⟨v, ?_,v2, ?_⟩
  ·rw [List.getElem?_drop, ← v1]
   congr 1
   rw [Nat.add_mul]
   omega
  ·simp only [List.getElem_drop]
   exact v3
theorem does_copy (hl : s.l = c.l) (hg : s.g = c.g) (hH : RelH Γ c) (hρ : RelA c s ρ) {sz : Nat} {x y : LOpd} (hok : ok_copy P sz x y o.op = true) {C : Calls'} {av : AV} {s' : St} (h : evalOp C s (.copy sz x y) = some (av, s')) :
    Does P ρ o c.w (Ans Γ c s'.l s'.g av):=by
  cases ho:o.op <;> rw [ho] at hok <;> try (simp [ok_copy] at hok;done)
  rename_i cl
  obtain ⟨cal,args,argTypes⟩:=cl
  cases cal <;> try (simp [ok_copy] at hok;done)
  rename_i bi
  cases bi <;> try (simp [ok_copy] at hok;done)
  simp only [ok_copy,Bool.and_eq_true] at hok
  obtain ⟨h1,h2⟩:=hok
  obtain ⟨hlen,hr⟩:=opds_rel hρ h2
  obtain ⟨args⟩:=args
  obtain ⟨argTypes⟩:=argTypes
  match args,hlen with
  | [p, q], _ =>
    have r1:=hr 0 (by simp) (by simp)
    have r2:=hr 1 (by simp) (by simp)
    simp only [List.getElem_cons_zero,List.getElem_cons_succ] at r1 r2
    split at h1
    rotate_left
    · cases h1
    rename_i t u heq
    simp only at heq
    subst heq
    split at h1
    rotate_left
    · cases h1
    rename_i e e' hu hu'
    simp only [Bool.and_eq_true,beq_iff_eq,bne_iff_ne,ne_eq] at h1
    obtain ⟨g1,g2⟩:=h1
    simp only [evalOp] at h
    split at h
    rotate_left
    · cases h
    rename_i z k n ys hx hy
    rw [hx] at r1
    rw [hy] at r2
    obtain ⟨ob,hob,h⟩:=bk_eq h
    rw [obj_eq hl hg] at hob
    split at h
    rotate_left
    · cases h
    rename_i b xs
    split at h
    rotate_left
    · cases h
    rename_i hc
    obtain ⟨e1,e2,c3⟩:=hc
    simp only [Option.some.injEq,Prod.mk.injEq] at h
    obtain ⟨rfl,rfl⟩:=h
    subst e1
    subst e2
    have hys:=all_len c3
    generalize hm:min ys.length xs.length=m
    have hm1:m≤ys.length:=by omega
    have hm2:m≤xs.length:=by omega
    obtain ⟨A2,cap2,hv2,q1,q2,q3⟩:=relP_list (relV_p r2)
    obtain ⟨A,cap,hv1,hrow⟩:=row_now r1 hob rfl
    have hlx:(ys.take m++xs.drop m).length=xs.length:=by simp;omega
    have hne:c.obj z k≠none:=by rw [hob];simp
    have hnews:∃ news:List Value,(Builtin.firstCells b m (ρ q)).run P c.w = .ok news.toArray c.w∧news.length=m*b∧RowsRel c b (lift (ys.take m)) news∧∀ u ∈ news,u.oneCell'=true:=by
      rw [hv2]
      by_cases h0:m=0
      · subst h0
        refine ⟨[], ?_,by simp,⟨by simp [lift],by simp [lift],fun i j hi=>by simp [lift] at hi⟩,by simp⟩
        cases A2 with
        | none=>exact run_firstCells_none c.w b 0 _ _
        | some a=>exact run_firstCells_some c.w b 0 a _ _ [] (by simp) (by simp)
      · obtain ⟨bb,off,sz',f,rfl,d1,d2,d3,d4,d5,d6⟩:=q3 (by omega)
        have e1:sz'=b:=by rw [← d3 0 (by omega),hys 0 (by omega)]
        subst e1
        have hs:=src_rows (P:=P) (u:=t) (m:=m) (cp:=cap2) (.inl ⟨e,hu⟩) (by omega) (fun i j hi hj=>d4 i j (by omega) hj) d5
        refine ⟨laid m sz' f, ?_,hs.newsLen,⟨fun i hi => ?_,by simp [laid,lift];exact Nat.mul_le_mul_right _ (by omega),fun i j hi hj => ?_⟩,hs.one⟩
        · have hc:=hs.cells
          simpa [Builtin.firstCells] using hc
        · simp only [lift,List.getElem_map,List.length_map,List.getElem_take]
          exact d3 _ _
        · have hi':i<m:=by simp [lift] at hi;omega
          have hj':j<(ys[i]).length:=by simpa [lift] using hj
          refine ⟨f i j,laid_get hi' (by rw [d3 i (by omega)] at hj';exact hj'),d5 i j, ?_⟩
          simp only [lift,List.getElem_map,List.getElem_take]
          exact .p _ _ (d6 i j (by omega) hj')
    obtain ⟨news,f1,f2,f3,f4⟩:=hnews
    have hmin:(min ys.length xs.length:Nat)=m:=hm
    rcases hrow with ⟨w0,w1,rfl,rfl⟩ | ⟨bb,cs,e'',w1,rfl,w3,w4,w5,w6⟩
    · have hm0:m=0:=by omega
      subst hm0
      obtain ⟨hE,hH'⟩:=hH.set (.pcells b (ys.take 0++xs.drop 0)) none (w':=c.w) hob (Nat.le_refl _) rfl rfl rfl (fun _ _ _=>rfl) (fun b hb=>by cases hb) (fun m' hm2=>by
        simp only [AObj.cnt,hlx] at hm2
        exact ⟨m',hm2,Nat.le_refl _,rfl,fun _=>⟨⟨w0.symm,fun b cs e h=>by rw [w0] at h;cases h⟩,rfl⟩⟩) (fun hE=>by
        have:xs=[]:=List.eq_nil_of_length_eq_zero w1
        subst this
        simp only [RelObj]
        refine ⟨by simp [lift],.inl ⟨by simp [Cx.set],by simp [lift]⟩⟩)
      refine Does.value (v:=.int .i64 (0:Nat)) (w':=c.w) ?_ ⟨_,put_l hl,put_g hg,rfl,hE,hH',rInt _ _⟩
      rw [w1] at hv1 hm
      simp [execOp,ho,resolve,invoke,builtin,Builtin.copy_,run_underlying hu,hv1,hv2,Builtin.lenOf,tsize_run g1,goInt]
      rw [hv2] at f1
      simp [f1]
    · have hR:=hH.objs z k _ hob
      simp only [RelObj,w1] at hR
      obtain ⟨cs2,e2,hh,hrows⟩:=relRow_rows hR
      rw [w5] at hh
      cases hh
      have hfit:0+0+news.length≤cs.size:=by
        rw [f2,w6]
        simp only [Nat.zero_add]
        exact Nat.mul_le_mul_right _ (by omega)
      have hst:=run_storeCells_at P bb 0 e'' news 0 cs c.w w5 hfit f4
      simp only [Nat.add_zero,Nat.zero_add,List.take_zero,List.nil_append] at hst hfit
      have hrr:RowsRel c b (lift (ys.take m++xs.drop m)) (news++cs.toList.drop news.length):=by
        have hd:=hrows.drop m
        have e1:(lift xs).drop m=lift (xs.drop m):=by simp [lift]
        have e2:lift (ys.take m++xs.drop m)=lift (ys.take m)++lift (xs.drop m):=by simp [lift]
        rw [e1] at hd
        rw [e2,f2]
        have e3:(lift (ys.take m)).length=m:=by simp [lift];omega
        exact f3.append (by rw [f2,e3]) hd
      obtain ⟨hE,hH'⟩:=write_rows (xs':=lift (ys.take m++xs.drop m)) (bs:=b) (ob':=.pcells b (ys.take m++xs.drop m)) (cs':=(news++cs.toList.drop news.length).toArray) hH hob w1 w5 (by simp;omega) (by simp only [AObj.cnt,hlx]) (by simp [AObj.cnt]) rfl rfl (fun c'' h=>h) (by simpa using hrr)
      refine Does.value (v:=.int .i64 (m:Nat)) (w':=c.w.setRow bb (news++cs.toList.drop news.length).toArray) ?_ ⟨_,put_l hl,put_g hg,rfl,hE,hH',rInt _ _⟩
      rw [hv2] at f1
      have hm':Nat.min ys.length xs.length=m:=hm
      simp [execOp,ho,resolve,invoke,builtin,Builtin.copy_,run_underlying hu,hv1,hv2,Builtin.lenOf,tsize_run g1,goInt,hm',f1,hst]
end
end Go.TA
namespace Go.TA
section
variable {P:Program} {Γ : Ground} {c:Cx} {s:St} {ρ : Operand→Value} {o:Oper}
theorem sameNow_rel {w:World} {N:Nat→Prop} {kk:Nat} {t:TypeId} {d:TypeDesc} {a k:PV} {va vk:Value} {b:Bool} (hk:kindT P t kk=true) (hu:P.underlying t=some d) (h:scalarEqK kk a k=some b) (ha:RelP w N a va) (hkey:RelP w N k vk):Instr.sameNow d vk va=some b:=by
 unfold kindT at hk
 rw [hu] at hk
 unfold scalarEqK at h
 split at h
 ·simp only [Option.some.injEq] at h
  subst h
  have e1:=relP_bool ha
  have e2:=relP_bool hkey
  subst e1
  subst e2
  cases d <;> simp at hk
  simp [Instr.sameNow,Bool.beq_comm]
 ·rename_i k1 x1 k2 x2
  split at h
  rotate_left
  ·cases h
  rename_i e
  subst e
  simp only [Option.some.injEq] at h
  subst h
  have e1:=relP_int ha
  have e2:=relP_int hkey
  subst e1
  subst e2
  cases d <;> simp at hk
  simp [Instr.sameNow,BEq.comm]
 ·rename_i x1 x2
  simp only [Option.some.injEq] at h
  subst h
  have e1:=relP_str ha
  have e2:=relP_str hkey
  subst e1
  subst e2
  cases d <;> simp at hk
  simp only [Instr.sameNow,Option.some.injEq]
  show (x2.toArray==x1.toArray)=(x1==x2)
  rw [Bool.eq_iff_iff]
  simp
  exact eq_comm
 ·cases h
def midx (kk:Nat):List (PV × AV)→PV→Option Nat
 | [],_=>none
 | (a,_)::l,k=>if scalarEqK kk a k=some true then some 0 else (midx kk l k).map (· + 1)
theorem mlk_idx (kk:Nat) (k:PV):∀ es:List (PV × AV),mlk kk es k=((midx kk es k).bind fun i=>es[i]?).map (·.2)
  | []=>rfl
  | (a, v) :: l => by
    simp only [mlk,midx]
    split
    · rfl
    · rw [mlk_idx kk k l]
      cases midx kk l k <;> simp
theorem mput_idx (kk:Nat) (k:PV) (x:AV):∀ es:List (PV × AV),mput kk es k x=match midx kk es k with
    | some i=>es.set i (k,x)
    | none=>es++[(k,x)]
  | []=>rfl
  | (a, v) :: l => by
    simp only [mput,midx]
    split
    · rfl
    · rw [mput_idx kk k x l]
      cases midx kk l k <;> simp
theorem mdel_idx (kk:Nat) (k:PV):∀ es:List (PV × AV),mdel kk es k=match midx kk es k with
    | some i=>es.eraseIdx i
    | none=>es
  | []=>rfl
  | (a, v) :: l => by
    simp only [mdel,midx]
    split
    · rfl
    · rw [mdel_idx kk k l]
      cases midx kk l k <;> simp
def EntRel (c:Cx) (es:List (PV × AV)) (es':List MapEntry):Prop:=es'.length=es.length∧∀ i (h:i<es.length) (h':i<es'.length),isKey (es[i]).1=true∧RelP c.w c.N (es[i]).1 (es'[i]).key∧RelV c (es[i]).2 (es'[i]).val
theorem findNow_rel {kk : Nat} {t : TypeId} {d : TypeDesc} {k : PV} {vk : Value} (hk : kindT P t kk = true) (hu : P.underlying t = some d) (hkey : RelP c.w c.N k vk) : ∀ {es : List (PV × AV)} {es' : List MapEntry} (j : Nat), EntRel c es es' → (es.all fun e => (scalarEqK kk e.1 k).isSome) = true →
    Instr.findNow d vk es' j=some ((midx kk es k).bind fun i=>(es'[i]?).map fun e=>(i+j,e.val))∧∀ i,midx kk es k=some i→i<es.length∧∃ h:i<es.length,scalarEqK kk (es[i]).1 k=some true
  | [],[],j,_,_=>⟨rfl,fun i h=>by simp [midx] at h⟩
  | [],_::_,_,h,_=>by have:=h.1;simp at this
  | _::_,[],_,h,_=>by have:=h.1;simp at this
  | (a, v) :: l, e :: r, j, h, hall => by
    simp only [List.all_cons,Bool.and_eq_true] at hall
    obtain ⟨b,hb⟩:=Option.isSome_iff_exists.1 hall.1
    have h0:=h.2 0 (by simp) (by simp)
    simp only [List.getElem_cons_zero] at h0
    have hs:=sameNow_rel hk hu hb h0.2.1 hkey
    have hrest:EntRel c l r:=⟨by have:=h.1;simpa using this,fun i x y=>h.2 (i+1) (by simpa using x) (by simpa using y)⟩
    obtain ⟨r1,r2⟩:=findNow_rel hk hu hkey (j+1) hrest hall.2
    cases b
    · refine ⟨?_,fun i hi => ?_⟩
      · simp only [Instr.findNow,hs,midx,hb,r1]
        simp
        cases midx kk l k with
        | none=>simp
        | some i =>
          simp
          cases r[i]? with
          | none=>simp
          | some e=>simp;omega
      · simp only [midx,hb] at hi
        simp at hi
        obtain ⟨i',hi',rfl⟩:=hi
        obtain ⟨q1,q2,q3⟩:=r2 i' hi'
        exact ⟨by simpa using q1,by simpa using q1,by simpa using q3⟩
    · refine ⟨?_,fun i hi => ?_⟩
      · simp [Instr.findNow,hs,midx,hb]
      · simp [midx,hb] at hi
        subst hi
        exact ⟨by simp,by simp,by simpa using hb⟩
theorem checkKey_run' {kk:Nat} {t:TypeId} (hk:kindT P t kk=true) (e:Bool) (v:Value) (w:World) (n:Nat):(Instr.checkKey e (n+1) t v).run P w = .ok () w:=by
 unfold kindT at hk
 split at hk
 all_goals first
  | (cases hk;done)
  | (rename_i hu;simp [Instr.checkKey,run_underlying hu])
theorem checkKey_run {kk:Nat} {t:TypeId} (hk:kindT P t kk=true) (e:Bool) (v:Value) (w:World):(Instr.checkKey e 10000 t v).run P w = .ok () w:=checkKey_run' hk e v w 9999
end
end Go.TA
namespace Go.TA
section
variable {P:Program} {Γ : Ground} {c:Cx} {s:St} {ρ : Operand→Value} {o:Oper}
theorem findKey_rel {kk:Nat} {t:TypeId} {k:PV} {vk:Value} (hk:kindT P t kk=true) (hkey:RelP c.w c.N k vk) {es:List (PV × AV)} {es':List MapEntry} (h:EntRel c es es') (hall:(es.all fun e=>(scalarEqK kk e.1 k).isSome)=true) :
  (Instr.findKey t vk es').run P c.w = .ok ((midx kk es k).bind fun i=>(es'[i]?).map fun e=>(i,e.val)) c.w∧∀ i,midx kk es k=some i→∃ h:i<es.length,scalarEqK kk (es[i]).1 k=some true:=by
 have hu:∃ d,P.underlying t=some d:=by
  unfold kindT at hk
  split at hk
  ·rename_i h;exact ⟨_,h⟩
  ·rename_i h;exact ⟨_,h⟩
  ·rename_i h;exact ⟨_,h⟩
  ·cases hk
 obtain ⟨d,hu⟩:=hu
 obtain ⟨r1,r2⟩:=findNow_rel hk hu hkey 0 h hall
 refine ⟨?_,fun i hi=>(r2 i hi).2⟩
 simp only [Nat.add_zero] at r1
 simp [Instr.findKey,run_underlying hu,r1]
theorem does_lookup (hl : s.l = c.l) (hg : s.g = c.g) (hH : RelH Γ c) (hρ : RelA c s ρ) {kk : Nat} {zero : PV} {ok : Bool} {x y : LOpd} (hok : ok_lookup P kk zero ok x y o.op = true) {C : Calls'} {av : AV} {s' : St} (h : evalOp C s (.lookup kk zero ok x y) = some (av, s')) :
    Does P ρ o c.w (Ans Γ c s'.l s'.g av):=by
  cases ho:o.op <;> rw [ho] at hok <;> simp [ok_lookup] at hok
  rename_i t x' y' ok'
  obtain ⟨⟨⟨rfl,h1⟩,h2⟩,h3⟩:=hok
  have r1:=hρ _ _ h2
  have r2:=hρ _ _ h3
  split at h1
  rotate_left
  · cases h1
  rename_i kt et hu
  simp only [Bool.and_eq_true] at h1
  obtain ⟨g1,g2⟩:=h1
  split at g2
  rotate_left
  · cases g2
  rename_i zv hz
  have hzr:(zeroValue et).run P c.w = .ok zv c.w:=by
    obtain ⟨i,hi,hz⟩:=Option.bind_eq_some_iff.1 hz
    simp [zeroValue,typeInfo,hi,hz]
  simp only [evalOp] at h
  split at h
  rotate_left
  · cases h
  rename_i k hy
  rw [hy] at r2
  have hkey:=relV_p r2
  obtain ⟨es,hes,h⟩:=bk_eq h
  split at h
  rotate_left
  · cases h
  rename_i hall
  simp only [Option.some.injEq,Prod.mk.injEq] at h
  obtain ⟨rfl,rfl⟩:=h
  have hmap:∃ es':List MapEntry,EntRel c es es'∧((ρ x' = .map none∧es'=[])∨∃ b clock, ρ x' = .map (some b)∧c.w.heap[b]? = some (.map es'.toArray clock)):=by
    split at hes
    · rename_i hx
      simp only [Option.some.injEq] at hes
      subst hes
      rw [hx] at r1
      exact ⟨[],⟨rfl,fun i h=>by simp at h⟩,.inl ⟨relP_nilm (relV_p r1),rfl⟩⟩
    · rename_i z k' hx
      rw [hx] at r1
      split at hes
      rotate_left
      · cases hes
      rename_i es1 hob
      simp only [Option.some.injEq] at hes
      subst hes
      rw [obj_eq hl hg] at hob
      obtain ⟨r,hv0,ob,hob',H⟩:=relV_map r1
      rw [hob] at hob';cases hob'
      obtain ⟨_,b,hb,hv⟩:=H 0 rfl
      rw [hv] at hv0
      obtain ⟨b',es',clock,q1,q2,q3,q4⟩:=hH.objs z k' _ hob
      rw [hb] at q1;cases q1
      exact ⟨es'.toList,⟨by simpa using q3.1,fun i x y=>by simpa using q4 i x (by simpa using y)⟩,.inr ⟨b,clock,hv0,by simpa using q2⟩⟩
    · cases hes
  obtain ⟨es',he,hm⟩:=hmap
  obtain ⟨f1,f2⟩:=findKey_rel (P:=P) g1 hkey he hall
  have hck:=fun e=>checkKey_run (P:=P) g1 e (ρ y') c.w
  have hval:∃ v b,((midx kk es k).bind fun i=>(es'[i]?).map fun e=>(i,e.val)).elim (zv,false) (fun r=>(r.2,true))=(v,b)∧RelV c ((mlk kk es k).getD (.p zero)) v∧(mlk kk es k).isSome=b:=by
    rw [mlk_idx]
    cases hi:midx kk es k with
    | none=>exact ⟨zv,false,rfl,.p _ _ (const1_rel g2),rfl⟩
    | some i =>
      obtain ⟨hlt,_⟩:=f2 i hi
      have hlt':i<es'.length:=by rw [he.1];exact hlt
      refine ⟨(es'[i]).val,true,by simp [hlt'], ?_,by simp [hlt]⟩
      simp [hlt]
      exact (he.2 i hlt hlt').2.2
  obtain ⟨v,b,e1,e2,e3⟩:=hval
  have hrun:(execOp ρ o).run P c.w = .ok (.value (if ok=true then .tuple #[v,.bool b] else v)) c.w:=by
    rcases hm with ⟨hx,rfl⟩ | ⟨bb,clock,hx,hh⟩
    · cases hf:(midx kk es k).bind fun i=>(([]:List MapEntry)[i]?).map fun e=>(i,e.val) with
      | none =>
        rw [hf] at f1 e1
        simp at e1
        obtain ⟨rfl,rfl⟩:=e1
        simp [execOp,ho,Instr.lookup,run_underlying hu,hx,hck,f1,hzr]
      | some r =>
        rw [hf] at f1 e1
        simp at e1
        obtain ⟨rfl,rfl⟩:=e1
        simp [execOp,ho,Instr.lookup,run_underlying hu,hx,hck,f1]
    · cases hf:(midx kk es k).bind fun i=>(es'[i]?).map fun e=>(i,e.val) with
      | none =>
        rw [hf] at f1 e1
        simp at e1
        obtain ⟨rfl,rfl⟩:=e1
        simp [execOp,ho,Instr.lookup,run_underlying hu,hx,MapKept.run_getObj_map hh,hck,f1,hzr]
      | some r =>
        rw [hf] at f1 e1
        simp at e1
        obtain ⟨rfl,rfl⟩:=e1
        simp [execOp,ho,Instr.lookup,run_underlying hu,hx,MapKept.run_getObj_map hh,hck,f1]
  refine Does.value hrun ?_
  rw [hl,hg]
  refine ans_same hH ?_
  cases ok
  · simpa using e2
  · simp only [if_true]
    rw [e3]
    refine .tuple [_,_] [v,.bool b] rfl (fun j h h' => ?_)
    match j,h with
    | 0,_=>exact e2
    | 1,_=>exact rBool _
end
end Go.TA
namespace Go.TA
section
variable {P:Program} {Γ : Ground} {c:Cx} {s:St} {ρ : Operand→Value} {o:Oper}
theorem Stamps.erase {es:List MapEntry} {clock:Nat} (h:Stamps es clock) (i:Nat):Stamps (es.eraseIdx i) clock :=
 ⟨fun x hx=>h.1 x (List.mem_of_mem_eraseIdx hx),(List.Sublist.map _ (List.eraseIdx_sublist es i)).nodup h.2⟩
theorem Stamps.push {es:List MapEntry} {clock:Nat} (h:Stamps es clock) {e:MapEntry} (he:e.born=clock):Stamps (es++[e]) (clock+1):=by
 refine ⟨fun x hx => ?_, ?_⟩
 ·rcases List.mem_append.1 hx with h1 | h1
  ·have:=h.1 x h1;omega
  ·simp at h1;subst h1;omega
 ·rw [List.map_append,List.nodup_append]
  refine ⟨h.2,by simp,fun a ha b hb => ?_⟩
  obtain ⟨x,hx,rfl⟩:=List.mem_map.1 ha
  have:=h.1 x hx
  simp at hb
  omega
theorem Stamps.same {es es':List MapEntry} {clock:Nat} (h:Stamps es clock) (he:es'.map (·.born)=es.map (·.born)):Stamps es' clock:=by
 refine ⟨fun x hx => ?_,by rw [he];exact h.2⟩
 have:x.born ∈ es.map (·.born):=by rw [← he];exact List.mem_map.2 ⟨x,hx,rfl⟩
 obtain ⟨y,hy,e⟩:=List.mem_map.1 this
 have:=h.1 y hy
 omega
theorem write_map (hH:RelH Γ c) {z:Bool} {k b clock clock':Nat} {es es2:List (PV × AV)} {a:Array MapEntry} {es':List MapEntry} (hob:c.obj z k=some (.map es)) (hb:c.μ z k=some b) (hh:c.w.heap[b]? = some (.map a clock)) (hr:EntRel c es2 es') (hst:Stamps es' clock') :
  let w':={ c.w with heap:=c.w.heap.setIfInBounds b (.map es'.toArray clock') }
  Evolve c (c.set z k (.map es2) (some b) w')∧RelH Γ (c.set z k (.map es2) (some b) w'):=by
 intro w'
 have hlt:b<c.w.heap.size:=(Array.getElem?_eq_some_iff.1 hh).1
 have hset:w'.heap[b]? = some (.map es'.toArray clock'):=by simp [w',hlt]
 refine hH.set (.map es2) (some b) hob (by simp [w']) rfl rfl rfl (fun b' _ hne => ?_) (fun b' e'=>⟨.inl (by cases e';exact hb),by simp [AObj.cnt]⟩) (fun m' hm' => ?_) (fun hE => ?_)
 ·have:b≠b':=fun e=>hne (by rw [hb,e])
  simp [w',Array.getElem?_setIfInBounds,this]
 ·simp only [AObj.cnt,Option.some.injEq] at hm'
  subst hm'
  refine ⟨0,rfl,Nat.le_refl _,rfl,fun _=>⟨⟨hb.symm,fun b' cs1 e1 h1 h2 => ?_⟩,rfl⟩⟩
  rw [hb] at h1
  cases h1
  rw [hh] at h2
  cases h2
 ·have hμ : (c.set z k (.map es2) (some b) w').μ z k=some b:=by simp [Cx.set]
  simp only [RelObj,hμ]
  refine ⟨b,es'.toArray,clock',rfl,hset,⟨by simpa using hr.1,by simpa using hst⟩,fun i h1 h2 => ?_⟩
  obtain ⟨x1,x2,x3⟩:=hr.2 i h1 (by simpa using h2)
  simp only [List.getElem_toArray]
  exact ⟨x1,hE.relP x2,hE.relV x3⟩
theorem map_now {z:Bool} {k:Nat} {es:List (PV × AV)} {v:Value} (hH:RelH Γ c) (hob:c.obj z k=some (.map es)) (r:RelV c (.map z k) v):∃ b a clock,v = .map (some b)∧c.μ z k=some b∧c.w.heap[b]? = some (.map a clock)∧EntRel c es a.toList∧Stamps a.toList clock:=by
 obtain ⟨r,hv0,ob,hob',H⟩:=relV_map r
 rw [hob] at hob';cases hob'
 obtain ⟨_,b,hb,hv⟩:=H 0 rfl
 obtain ⟨b',es',clock,q1,q2,q3,q4⟩:=hH.objs z k _ hob
 rw [hb] at q1;cases q1
 exact ⟨b,es',clock,hv0.trans hv,hb,q2,⟨by simpa using q3.1,fun i x y=>by simpa using q4 i x (by simpa using y)⟩,q3.2⟩
theorem key_is {kk:Nat} {a k:PV} {b:Bool} (h:scalarEqK kk a k=some b):isKey k=true:=by
 unfold scalarEqK at h
 split at h <;> first | rfl | cases h
theorem does_delete (hl : s.l = c.l) (hg : s.g = c.g) (hH : RelH Γ c) (hρ : RelA c s ρ) {kk : Nat} {x y : LOpd} (hok : ok_delete P kk x y o.op = true) {C : Calls'} {av : AV} {s' : St} (h : evalOp C s (.delete kk x y) = some (av, s')) :
    Does P ρ o c.w (Ans Γ c s'.l s'.g av):=by
  cases ho:o.op <;> rw [ho] at hok <;> try (simp [ok_delete] at hok;done)
  rename_i cl
  obtain ⟨cal,args,argTypes⟩:=cl
  cases cal <;> try (simp [ok_delete] at hok;done)
  rename_i bi
  cases bi <;> try (simp [ok_delete] at hok;done)
  simp only [ok_delete,Bool.and_eq_true] at hok
  obtain ⟨h1,h2⟩:=hok
  obtain ⟨hlen,hr⟩:=opds_rel hρ h2
  obtain ⟨args⟩:=args
  match args,hlen with
  | [p, q], _ =>
    have r1:=hr 0 (by simp) (by simp)
    have r2:=hr 1 (by simp) (by simp)
    simp only [List.getElem_cons_zero,List.getElem_cons_succ] at r1 r2
    split at h1
    rotate_left
    · cases h1
    rename_i t ht
    split at h1
    rotate_left
    · cases h1
    rename_i kt et hu
    simp only [evalOp] at h
    split at h
    rotate_left
    · cases h
    rename_i z k key hx hy
    split at h
    rotate_left
    · cases h
    rename_i es hob
    split at h
    rotate_left
    · cases h
    rename_i hall
    simp only [Option.some.injEq,Prod.mk.injEq] at h
    obtain ⟨rfl,rfl⟩:=h
    rw [hx] at r1
    rw [hy] at r2
    rw [obj_eq hl hg] at hob
    have hkey:=relV_p r2
    obtain ⟨b,a,clock,hv,hb,hh,he,hst⟩:=map_now hH hob r1
    obtain ⟨f1,f2⟩:=findKey_rel (P:=P) h1 hkey he hall
    have hck:=fun e=>checkKey_run (P:=P) h1 e (ρ q) c.w
    rw [mdel_idx]
    cases hi:midx kk es key with
    | none =>
      rw [hi] at f1
      simp only [Option.bind_none] at f1
      obtain ⟨hE,hH'⟩:=write_map (clock':=clock) hH hob hb hh he hst
      simp only at hE hH' ⊢
      refine Does.value (v:=undef) (by simp [execOp,ho,resolve,invoke,builtin,Builtin.delete_,ht,run_underlying hu,hv,MapKept.run_getObj_map hh,hck,f1,MapKept.run_setObj_map _ hh];exact ⟨rfl,rfl⟩) ⟨_,put_l hl,put_g hg,rfl,hE,hH',rUndef⟩
    | some i =>
      obtain ⟨hlt,_⟩:=f2 i hi
      have hlt':i<a.toList.length:=by rw [he.1];exact hlt
      rw [hi] at f1
      simp only [Option.bind_some,List.getElem?_eq_getElem hlt',Option.map_some] at f1
      have he2:EntRel c (es.eraseIdx i) (a.toList.eraseIdx i):=by
        refine ⟨by rw [List.length_eraseIdx,List.length_eraseIdx,he.1],fun j x y => ?_⟩
        rw [List.getElem_eraseIdx,List.getElem_eraseIdx]
        split
        · exact he.2 _ _ _
        · exact he.2 _ _ _
      obtain ⟨hE,hH'⟩:=write_map (clock':=clock) hH hob hb hh he2 (hst.erase i)
      have hsz:i<a.size:=by simpa using hlt'
      have e3:(a.toList.eraseIdx i).toArray=a.eraseIdxIfInBounds i:=by
        rw [Array.eraseIdxIfInBounds,dif_pos hsz]
        apply Array.ext'
        simp
      rw [e3] at hE hH'
      simp only at hE hH' ⊢
      refine Does.value (v:=undef) (by simp [execOp,ho,resolve,invoke,builtin,Builtin.delete_,ht,run_underlying hu,hv,MapKept.run_getObj_map hh,hck,f1,MapKept.run_setObj_map _ hh];exact ⟨rfl,rfl⟩) ⟨_,put_l hl,put_g hg,rfl,hE,hH',rUndef⟩
end
end Go.TA
namespace Go.TA
section
variable {P:Program} {Γ : Ground} {c:Cx} {s:St} {ρ : Operand→Value} {o:Oper}
theorem sameBits_rel {w:World} {N:Nat→Prop} {kk:Nat} {a k:PV} {va vk:Value} (n:Nat) (h:scalarEqK kk a k=some true) (ha:RelP w N a va) (hk:RelP w N k vk):Instr.sameBits n va vk=true:=by
 unfold scalarEqK at h
 split at h
 ·simp at h
  subst h
  rw [relP_bool ha,relP_bool hk]
  simp [Instr.sameBits]
 ·split at h
  rotate_left
  ·cases h
  rename_i e
  subst e
  simp at h
  subst h
  rw [relP_int ha,relP_int hk]
  simp [Instr.sameBits]
 ·simp at h
  subst h
  rw [relP_str ha,relP_str hk]
  simp only [Instr.sameBits]
  show (_==_)=true
  rename_i x1 x2 
  show (_:List UInt8).toArray==(_:List UInt8).toArray
  simp
 ·cases h
theorem stays_run {w:World} {kk:Nat} {a k:PV} {va vk:Value} {N:Nat→Prop} (h:scalarEqK kk a k=some true) (ha:RelP w N a va) (hk:RelP w N k vk) (w':World):(Instr.keyThatStays va vk).run P w' = .ok vk w':=by
 unfold Instr.keyThatStays
 rw [if_pos (sameBits_rel _ h ha hk)]
 rfl
theorem mapUpdate_rel (hl : s.l = c.l) (hg : s.g = c.g) (hH : RelH Γ c) {kk : Nat} {t kt et : TypeId} {m key v : Value} {z : Bool} {k : Nat} {kp : PV} {av : AV} {es : List (PV × AV)} (hu : P.underlying t = some (.map kt et)) (hkt : kindT P kt kk = true) (hob : c.obj z k = some (.map es)) (hm : RelV c (.map z k) m)
    (hkey:RelP c.w c.N kp key) (hv:RelV c av v) (hall:(es.all fun e=>(scalarEqK kk e.1 kp).isSome)=true) (hself:(scalarEqK kk kp kp).isSome=true) :
    ∃ b w',(Instr.mapUpdate t m key v).run P c.w = .ok () w'∧Evolve c (c.set z k (.map (mput kk es kp av)) (some b) w')∧RelH Γ (c.set z k (.map (mput kk es kp av)) (some b) w'):=by
  obtain ⟨b,a,clock,rfl,hb,hh,he,hsta⟩:=map_now hH hob hm
  obtain ⟨f1,f2⟩:=findKey_rel (P:=P) hkt hkey he hall
  have hck:=fun e=>checkKey_run (P:=P) hkt e key c.w
  obtain ⟨bb,hbb⟩:=Option.isSome_iff_exists.1 hself
  have hik:=key_is hbb
  rw [mput_idx]
  cases hi:midx kk es kp with
  | none =>
    rw [hi] at f1
    simp only [Option.bind_none] at f1
    have he2:EntRel c (es++[(kp,av)]) (a.push { key,val:=v,born:=clock }).toList:=by
      refine ⟨by simp;simpa using he.1,fun j x y => ?_⟩
      have hl':a.toList.length=es.length:=he.1
      by_cases e:j<es.length
      · have y':j<a.toList.length:=by omega
        have:=he.2 j e y'
        simp only [Array.toList_push]
        rw [List.getElem_append_left e,List.getElem_append_left y']
        exact this
      · have ej:j=es.length:=by simp at x;omega
        subst ej
        simp only [Array.toList_push]
        rw [List.getElem_append_right (Nat.le_refl _),List.getElem_append_right (by omega)]
        simp [hl']
        exact ⟨hik,hkey,hv⟩
    obtain ⟨hE,hH'⟩:=write_map (clock':=clock+1) hH hob hb hh he2 (by rw [Array.toList_push];exact hsta.push rfl)
    rw [Array.toArray_toList] at hE hH'
    exact ⟨b,_,by simp [Instr.mapUpdate,run_underlying hu,MapKept.run_getObj_map hh,hck,f1,MapKept.run_setObj_map _ hh],hE,hH'⟩
  | some i =>
    obtain ⟨hlt,hsame⟩:=f2 i hi
    have hlt':i<a.toList.length:=by rw [he.1];exact hlt
    have hsz:i<a.size:=by simpa using hlt'
    rw [hi] at f1
    simp only [Option.bind_some,List.getElem?_eq_getElem hlt',Option.map_some] at f1
    have hst:=stays_run (P:=P) hsame (he.2 i hlt hlt').2.1 hkey c.w
    have he2:EntRel c (es.set i (kp,av)) (a.modify i fun e => { e with key,val:=v }).toList:=by
      refine ⟨by simp;simpa using he.1,fun j x y => ?_⟩
      have hl':a.toList.length=es.length:=he.1
      have x':j<es.length:=by simpa using x
      have y':j<a.toList.length:=by omega
      have:=he.2 j x' y'
      rw [List.getElem_set]
      simp only [Array.getElem_toList,Array.getElem_modify]
      by_cases e:i=j
      · subst e
        simp
        exact ⟨hik,hkey,hv⟩
      · simp [e]
        simpa using this
    obtain ⟨hE,hH'⟩:=write_map (clock':=clock) hH hob hb hh he2 (hsta.same (by
      apply List.ext_getElem
      · simp
      · intro j h1 h2
        simp only [List.getElem_map,Array.getElem_toList,Array.getElem_modify]
        split <;> rfl))
    rw [Array.toArray_toList] at hE hH'
    have hst2:(Instr.keyThatStays (a[i]).key key).run P c.w = .ok key c.w:=by simpa using hst
    exact ⟨b,_,by simp [Instr.mapUpdate,run_underlying hu,MapKept.run_getObj_map hh,hck,f1,hsz,hst2,MapKept.run_setObj_map _ hh],hE,hH'⟩
theorem does_mapUpdate (hl:s.l=c.l) (hg:s.g=c.g) (hH:RelH Γ c) (hρ : RelA c s ρ) {kk:Nat} {x y u:LOpd} (hok:ok_mapUpdate P kk x y u o.op=true) {C:Calls'} {av:AV} {s':St} (h:evalOp C s (.mapUpdate kk x y u)=some (av,s')) :
  Does P ρ o c.w (Ans Γ c s'.l s'.g av):=by
 simp only [evalOp] at h
 split at h
 rotate_left
 ·cases h
 rename_i z k key hx hy
 split at h
 rotate_left
 ·cases h
 rename_i es hob
 split at h
 rotate_left
 ·cases h
 rename_i hc
 obtain ⟨c1,c2,_⟩:=hc
 simp only [Option.some.injEq,Prod.mk.injEq] at h
 obtain ⟨rfl,rfl⟩:=h
 rw [obj_eq hl hg] at hob
 cases ho:o.op <;> rw [ho] at hok <;> simp [ok_mapUpdate] at hok
 all_goals
  obtain ⟨⟨⟨h1,h2⟩,h3⟩,h4⟩:=hok
  have r1:=hρ _ _ h2
  have r2:=hρ _ _ h3
  have r3:=hρ _ _ h4
  rw [hx] at r1
  rw [hy] at r2
  split at h1
  rotate_left
  ·cases h1
  rename_i kt et hu
  obtain ⟨b,w',hrun,hE,hH'⟩:=mapUpdate_rel (P:=P) hl hg hH hu h1 hob r1 (relV_p r2) r3 c1 c2
  exact Does.skip (w':=w') (by simp [execOp,ho,hrun]) ⟨_,put_l hl,put_g hg,rfl,hE,hH',rUndef⟩
end
end Go.TA
namespace Go.TA
section
variable {P:Program} {Γ : Ground} {c:Cx} {s:St} {ρ : Operand→Value} {o:Oper}
theorem allM_get {α β : Type} {f : α → Option β}:∀ {l:List α} {r:List β},allM f l=some r→l.length=r.length∧∀ i (h:i<l.length) (h':i<r.length),f (l[i])=some (r[i])
  | [],r,h=>by simp [allM] at h;subst h;exact ⟨rfl,by simp⟩
  | a :: l, r, h => by
    simp only [allM] at h
    obtain ⟨b,hb,h⟩:=bk_eq h
    obtain ⟨q,hq,h⟩:=bk_eq h
    simp only [Option.some.injEq] at h
    subst h
    obtain ⟨x1,x2⟩:=allM_get hq
    refine ⟨by simp [x1],fun i h h' => ?_⟩
    cases i with
    | zero=>exact hb
    | succ i=>exact x2 i (by simpa using h) (by simpa using h')
abbrev Cx.NX (c:Cx) (b:Nat):Prop:=¬ c.X b
theorem relP_NX {pv:PV} {v:Value} (h:RelP c.w c.N pv v):RelP c.w c.NX pv v:=h.mono fun b hb hlt=>⟨hb.1,hlt,rfl⟩
theorem row_NX (hH : RelH Γ c) {z : Bool} {k sz n : Nat} {ob : AObj} {xs : List (List AV)} {ps : List (List PV)} {v : Value} (hob : c.obj z k = some ob) (hcnt : ob.cnt = some n) (hn : xs.length = n) (hR : RelRow c (c.μ z k) sz xs) (hr : RelV c (.own z k n) v)
    (hl:xs.length=ps.length) (hel:∀ i (h:i<xs.length) (h':i<ps.length),(xs[i]).length=(ps[i]).length∧∀ j (hj:j<(xs[i]).length) (hj':j<(ps[i]).length) u,RelV c (xs[i][j]) u→RelP c.w c.NX (ps[i][j]) u):RelP c.w c.NX (.list ps) v:=by
  obtain ⟨A,cap,rfl,hrow⟩:=row_now hr hob hcnt
  rcases hrow with ⟨_,h0,rfl,rfl⟩ | ⟨b,cs,e,q1,rfl,q3,q4,q5,q6⟩
  · have:ps=[]:=List.eq_nil_of_length_eq_zero (by omega)
    subst this
    rw [h0]
    exact .none none 0 (by simp [maxLen])
  · rw [q1] at hR
    have hlive:=hH.live z k b q1
    obtain ⟨hl0,hR⟩:=hR
    rcases hR with ⟨hR,_⟩ | ⟨b',cs',e',hb',hh,hs,hv⟩
    · cases hR
    · cases hb'
      have hl1:∀ i (h:i<ps.length),(ps[i]).length=sz:=fun i h=>by rw [← (hel i (by omega) h).1];exact hl0 i (by omega)
      have e1:n=ps.length:=by omega
      rw [e1]
      refine .list ps b 0 cap sz (fun i j=>match cs'[i*sz+j]? with | some v=>if v.oneCell'=true then v else .bool true | none => .bool true) hlive.2.2.1 hlive.1 (by omega) q4 hl1 (fun i j hi hj => ?_) (fun i j => ?_) (fun i j hi hj => ?_)
      · obtain ⟨v,v1,v2,v3⟩:=hv i j (by omega) (by rw [hl0 i (by omega)];exact hj)
        simp only [v1,v2,if_true,Nat.zero_add]
        exact (cell_of_row c.w b _ cs' e' (0,0) hh).trans v1
      · split
        · split
          · assumption
          · rfl
        · rfl
      · obtain ⟨v,v1,v2,v3⟩:=hv i j (by omega) (by rw [(hel i (by omega) hi).1];exact hj)
        simp only [v1,v2,if_true]
        exact (hel i (by omega) hi).2 j _ hj v v3
theorem relV_p_of {pv:PV} {v:Value} (h:RelV c (.p pv) v):RelP c.w c.NX pv v:=relP_NX (relV_p h)
theorem view_p (d:Nat) (v pv:PV) (h:view s (d+1) (.p v)=some pv):v=pv:=by simpa [view] using h
theorem view_rel (hl : s.l = c.l) (hg : s.g = c.g) (hH : RelH Γ c) : ∀ (d : Nat) {av : AV} {pv : PV} {v : Value}, view s d av = some pv → RelV c av v → RelP c.w c.NX pv v
  | 0,av,pv,v,h,_=>by simp [view] at h
  | d + 1, av, pv, v, h, hr => by
    have ih:=fun {av pv v}=>view_rel hl hg hH d (av:=av) (pv:=pv) (v:=v)
    have two:∀ {xs:List (List AV)} {ps:List (List PV)},allM (allM (view s d)) xs=some ps→xs.length=ps.length∧∀ i (h:i<xs.length) (h':i<ps.length),(xs[i]).length=(ps[i]).length∧∀ j (hj:j<(xs[i]).length) (hj':j<(ps[i]).length) u,RelV c (xs[i][j]) u→RelP c.w c.NX (ps[i][j]) u:=fun hx=>by
      obtain ⟨a1,a2⟩:=allM_get hx
      refine ⟨a1,fun i h h' => ?_⟩
      obtain ⟨b1,b2⟩:=allM_get (a2 i h h')
      exact ⟨b1,fun j hj hj' u hu=>ih (b2 j hj hj') hu⟩
    cases av with
    | p v'=>rw [← view_p d v' pv h];exact relV_p_of hr
    | nils=>simp [view] at h;subst h;cases hr;exact .none none 0 (by simp [maxLen])
    | agg cs =>
      simp only [view,Option.map_eq_some_iff] at h
      obtain ⟨ps,hps,rfl⟩:=h
      obtain ⟨a1,a2⟩:=allM_get hps
      obtain ⟨vs,rfl,b1,b2,b3⟩:=relV_agg hr
      exact .agg ps vs (by omega) b2 (fun j h h'=>ih (a2 j (by omega) h) (b3 j (by omega) h'))
    | lit xs =>
      simp only [view,Option.map_eq_some_iff] at h
      obtain ⟨ps,hps,rfl⟩:=h
      obtain ⟨a1,a2⟩:=two hps
      cases hr with
      | lit _ b cap sz f h1 h2 h3 h4 h5 h6 h7 h8 =>
        rw [a1]
        refine .list ps b 0 cap sz f h1.1 h2 (by omega) h4 (fun i hi=>by rw [← (a2 i (by omega) hi).1];exact h5 i (by omega)) (fun i j hi hj=>by rw [Nat.zero_add];exact h6 i j (by omega) hj) h7 (fun i j hi hj => ?_)
        exact (a2 i (by omega) hi).2 j (by rw [(a2 i (by omega) hi).1];exact hj) hj _ (h8 i j (by omega) (by rw [(a2 i (by omega) hi).1];exact hj))
    | own z k n =>
      simp only [view] at h
      split at h
      · rename_i b xs hob
        split at h
        rotate_left
        · cases h
        rename_i hn
        simp only [Option.some.injEq] at h
        subst h
        rw [obj_eq hl hg] at hob
        have hR:=hH.objs z k _ hob
        refine row_NX hH hob (by simp [AObj.cnt,hn]) (xs:=lift xs) (by simpa [lift] using hn) hR hr (by simp [lift]) (fun i h h'=>⟨by simp [lift],fun j hj hj' u hu => ?_⟩)
        simp only [lift,List.getElem_map] at hu
        exact relV_p_of hu
      · rename_i b xs hob
        split at h
        rotate_left
        · cases h
        rename_i hn
        simp only [Option.map_eq_some_iff] at h
        obtain ⟨ps,hps,rfl⟩:=h
        obtain ⟨a1,a2⟩:=two hps
        rw [obj_eq hl hg] at hob
        have hR:=hH.objs z k _ hob
        exact row_NX hH hob (by simp [AObj.cnt,hn]) (xs:=xs) hn hR hr a1 a2
      · cases h
    | _=>simp [view] at h
end
end Go.TA
namespace Go.TA
def noLocalObj:AObj→Bool
 | .cells _ xs=>xs.all noLocals
 | .map es=>es.all fun e=>noLocal e.2
 | _=>true
def gOk (g:List AObj):Prop:=∀ o ∈ g,noLocalObj o=true
section
variable {P:Program} {Γ : Ground} {c:Cx} {s:St} {ρ : Operand→Value} {o:Oper}
def Cx.down (c:Cx):Cx:=⟨fun b=>c.X b∨∃ k,c.μ false k=some b,fun z k=>if z then c.μ true k else none,[],c.g,c.w⟩
theorem down_own (b:Nat):c.down.Own b↔∃ k,c.μ true k=some b:=by
 constructor
 ·rintro ⟨z,k,h⟩
  cases z
  ·simp [Cx.down] at h
  ·exact ⟨k,by simpa [Cx.down] using h⟩
 ·rintro ⟨k,h⟩
  exact ⟨true,k,by simpa [Cx.down] using h⟩
theorem down_N (b:Nat):c.down.N b↔c.N b:=by
 unfold Cx.N
 rw [down_own]
 simp only [Cx.down,Cx.Own]
 constructor
 ·rintro ⟨h1,h2⟩
  refine ⟨fun h=>h1 (.inl h), ?_⟩
  rintro ⟨z,k,h⟩
  cases z
  ·exact h1 (.inr ⟨k,h⟩)
  ·exact h2 ⟨k,h⟩
 ·rintro ⟨h1,h2⟩
  refine ⟨?_,fun ⟨k,h⟩=>h2 ⟨true,k,h⟩⟩
  rintro (h | ⟨k,h⟩)
  ·exact h1 h
  ·exact h2 ⟨false,k,h⟩
theorem down_obj (k:Nat):c.down.obj true k=c.obj true k:=by simp [Cx.obj,Cx.down]
theorem relP_down {pv:PV} {v:Value} (h:RelP c.w c.N pv v):RelP c.down.w c.down.N pv v:=h.mono fun b hb hlt=>⟨(down_N b).2 hb,hlt,rfl⟩
theorem noLocals_get:∀ {l:List AV},noLocals l=true→∀ j (h:j<l.length),noLocal (l[j])=true
  | [],_,j,h=>by simp at h
  | a :: l, hn, j, h => by
    simp only [noLocals,Bool.and_eq_true] at hn
    cases j with
    | zero=>exact hn.1
    | succ j=>exact noLocals_get hn.2 j (by simpa using h)
theorem relV_down {av:AV} {v:Value} (h:RelV c av v):noLocal av=true→RelV c.down av v:=by
  induction h with
  | bot v=>intro _;exact .bot v
  | p pv v hp=>intro _;exact .p _ _ (relP_down hp)
  | rop cs b off f hN hb hc h1 hr=>intro _;exact .rop cs b off f ((down_N b).2 hN) hb hc h1 (fun j hj=>relP_down (hr j hj))
  | ptr z k sz n i j a hp =>
    intro hn
    simp only [noLocal] at hn
    subst hn
    obtain ⟨ob,ho,H⟩:=hp
    exact .ptr _ _ _ _ _ _ _ ⟨ob,by rw [down_obj];exact ho,fun m hm=>⟨(H m hm).1,fun e=>by obtain ⟨b,hb,ha⟩:=(H m hm).2 e;exact ⟨b,by simpa [Cx.down] using hb,ha⟩⟩⟩
  | own z k n A cap hp =>
    intro hn
    simp only [noLocal] at hn
    subst hn
    obtain ⟨ob,ho,H⟩:=hp
    refine .own _ _ _ _ _ ⟨ob,by rw [down_obj];exact ho,fun m hm=>⟨(H m hm).1,fun e => ?_⟩⟩
    rcases (H m hm).2 e with ⟨x1,x2⟩ | ⟨b,cs,e,x1,x2⟩
    · exact .inl ⟨by simpa [Cx.down] using x1,x2⟩
    · exact .inr ⟨b,cs,e,by simpa [Cx.down] using x1,x2⟩
  | nils=>intro _;exact .nils
  | lit xs b cap sz f hN hb hc hm hl hcell h1 hr ih=>intro hn;simp [noLocal] at hn
  | map z k r hp =>
    intro hn
    simp only [noLocal] at hn
    subst hn
    obtain ⟨ob,ho,H⟩:=hp
    exact .map _ _ _ ⟨ob,by rw [down_obj];exact ho,fun m hm=>⟨(H m hm).1,by obtain ⟨b,hb,ha⟩:=(H m hm).2;exact ⟨b,by simpa [Cx.down] using hb,ha⟩⟩⟩
  | func f cs vs hl hr ih =>
    intro hn
    simp only [noLocal] at hn
    exact .func f cs vs hl (fun j h h'=>ih j h h' (noLocals_get hn j h))
  | bound f cs vs hl hr ih =>
    intro hn
    simp only [noLocal] at hn
    exact .bound f cs vs hl (fun j h h'=>ih j h h' (noLocals_get hn j h))
  | agg cs vs hl h1 hr ih =>
    intro hn
    simp only [noLocal] at hn
    exact .agg cs vs hl h1 (fun j h h'=>ih j h h' (noLocals_get hn j h))
  | tuple cs vs hl hr ih =>
    intro hn
    simp only [noLocal] at hn
    exact .tuple cs vs hl (fun j h h'=>ih j h h' (noLocals_get hn j h))
theorem noLocals_p:∀ p:List PV,noLocals (p.map .p)=true
 | []=>rfl
 | a::l=>by simp [noLocals,noLocal,noLocals_p l]
theorem relObj_down {k:Nat} {ob:AObj} (h:RelObj c true k ob) (hn:noLocalObj ob=true):RelObj c.down true k ob:=by
  have hμ : c.down.μ true k=c.μ true k:=by simp [Cx.down]
  have row:∀ (m:Option Nat) (sz:Nat) (xs:List (List AV)),(∀ r ∈ xs,noLocals r=true)→RelRow c m sz xs→RelRow c.down m sz xs:=fun m sz xs hx hr=>by
    obtain ⟨h0,h1⟩:=hr
    refine ⟨h0,h1.imp id ?_⟩
    rintro ⟨b,cs,e,hb,hh,hs,hv⟩
    refine ⟨b,cs,e,hb,hh,hs,fun i j hi hj => ?_⟩
    obtain ⟨v,v1,v2,v3⟩:=hv i j hi hj
    exact ⟨v,v1,v2,relV_down v3 (noLocals_get (hx _ (List.getElem_mem hi)) j hj)⟩
  cases ob with
  | dead=>trivial
  | siter a b=>trivial
  | pcells sz xs =>
    simp only [RelObj,hμ] at h ⊢
    refine row _ _ _ (fun r hr => ?_) h
    simp only [lift,List.mem_map] at hr
    obtain ⟨p,_,rfl⟩:=hr
    exact noLocals_p p
  | cells sz xs =>
    simp only [RelObj,hμ] at h ⊢
    exact row _ _ _ (fun r hr=>by simp only [noLocalObj,List.all_eq_true] at hn;exact hn r hr) h
  | map es =>
    simp only [RelObj,hμ] at h ⊢
    obtain ⟨b,es',clock,hb,hh,hs,hv⟩:=h
    refine ⟨b,es',clock,hb,hh,hs,fun i h1 h2 => ?_⟩
    obtain ⟨x1,x2,x3⟩:=hv i h1 h2
    simp only [noLocalObj,List.all_eq_true] at hn
    exact ⟨x1,relP_down x2,relV_down x3 (hn _ (List.getElem_mem h1))⟩
theorem down_obj_false (k:Nat):c.down.obj false k=none:=by simp [Cx.obj,Cx.down,lk]
theorem relH_down (hH : RelH Γ c) (hg : gOk c.g) : RelH Γ c.down where
  ground:=hH.ground
  objs z k ob hob:=by
    cases z
    · rw [down_obj_false] at hob;cases hob
    · rw [down_obj] at hob
      refine relObj_down (hH.objs true k ob hob) (hg ob ?_)
      simp only [Cx.obj,if_true] at hob
      exact List.mem_of_getElem? hob
  inj z k z' k' b h1 h2 := by
    cases z
    · simp [Cx.down] at h1
    · cases z'
      · simp [Cx.down] at h2
      · simp only [Cx.down,if_true] at h1 h2
        exact hH.inj _ _ _ _ _ h1 h2
  live z k b h:=by
    cases z
    · simp [Cx.down] at h
    · simp only [Cx.down,if_true] at h
      obtain ⟨x1,x2,x3,ob,x4,x5⟩:=hH.live _ _ _ h
      refine ⟨x1,x2, ?_,ob,by rw [down_obj];exact x4,x5⟩
      rintro (hx | ⟨k',hk'⟩)
      · exact x3 hx
      · have:=(hH.inj _ _ _ _ _ h hk').1
        cases this
  xlt b hb:=by
    rcases hb with hb | ⟨k,hk⟩
    · exact hH.xlt b hb
    · exact hH.lt b ⟨false,k,hk⟩
def Cx.up (c d:Cx):Cx:=⟨c.X,fun z k=>if z then d.μ true k else c.μ false k,c.l,d.g,d.w⟩
section
variable {d:Cx}
theorem up_Own (b:Nat):(c.up d).Own b↔(∃ k,d.μ true k=some b)∨∃ k,c.μ false k=some b:=by
 constructor
 ·rintro ⟨z,k,h⟩
  cases z
  ·exact .inr ⟨k,by simpa [Cx.up] using h⟩
  ·exact .inl ⟨k,by simpa [Cx.up] using h⟩
 ·rintro (⟨k,h⟩ | ⟨k,h⟩)
  ·exact ⟨true,k,by simpa [Cx.up] using h⟩
  ·exact ⟨false,k,by simpa [Cx.up] using h⟩
theorem noμ_local (hl:d.l=[]) (hd:RelH Γ d) (k:Nat):d.μ false k=none:=by
  cases h:d.μ false k with
  | none=>rfl
  | some b =>
    obtain ⟨_,_,_,ob,ho,_⟩:=hd.live _ _ _ h
    simp [Cx.obj,hl,lk] at ho
theorem up_N (hl:d.l=[]) (hd:RelH Γ d) (hE:Evolve c.down d) (b:Nat):(c.up d).N b↔d.N b:=by
 unfold Cx.N
 rw [up_Own,hE.X]
 simp only [Cx.down,Cx.up]
 constructor
 ·rintro ⟨h1,h2⟩
  refine ⟨?_, ?_⟩
  ·rintro (h | h)
   ·exact h1 h
   ·exact h2 (.inr h)
  ·rintro ⟨z,k,h⟩
   cases z
   ·rw [noμ_local hl hd] at h;cases h
   ·exact h2 (.inl ⟨k,h⟩)
 ·rintro ⟨h1,h2⟩
  refine ⟨fun h=>h1 (.inl h), ?_⟩
  rintro (⟨k,h⟩ | h)
  ·exact h2 ⟨true,k,h⟩
  ·exact h1 (.inr h)
theorem up_obj_true (k:Nat):(c.up d).obj true k=d.obj true k:=by simp [Cx.obj,Cx.up]
theorem up_obj_false (k:Nat):(c.up d).obj false k=c.obj false k:=by simp [Cx.obj,Cx.up]
theorem nolocal_obj (hl:d.l=[]) (k:Nat):d.obj false k=none:=by simp [Cx.obj,hl,lk]
theorem relP_up (hl:d.l=[]) (hd:RelH Γ d) (hE:Evolve c.down d) {pv:PV} {v:Value} (h:RelP d.w d.N pv v):RelP (c.up d).w (c.up d).N pv v:=h.mono fun b hb hlt=>⟨(up_N hl hd hE b).2 hb,hlt,rfl⟩
theorem relV_up (hl:d.l=[]) (hd:RelH Γ d) (hE:Evolve c.down d) {av:AV} {v:Value} (h:RelV d av v):RelV (c.up d) av v:=by
  induction h with
  | bot v=>exact .bot v
  | p pv v hp=>exact .p _ _ (relP_up hl hd hE hp)
  | rop cs b off f hN hb hc h1 hr=>exact .rop cs b off f ((up_N hl hd hE b).2 hN) hb hc h1 (fun j hj=>relP_up hl hd hE (hr j hj))
  | ptr z k sz n i j a hp =>
    obtain ⟨ob,ho,H⟩:=hp
    cases z
    · rw [nolocal_obj hl] at ho;cases ho
    · exact .ptr _ _ _ _ _ _ _ ⟨ob,by rw [up_obj_true];exact ho,fun m hm=>⟨(H m hm).1,fun e=>by obtain ⟨b,hb,ha⟩:=(H m hm).2 e;exact ⟨b,by simpa [Cx.up] using hb,ha⟩⟩⟩
  | own z k n A cap hp =>
    obtain ⟨ob,ho,H⟩:=hp
    cases z
    · rw [nolocal_obj hl] at ho;cases ho
    · refine .own _ _ _ _ _ ⟨ob,by rw [up_obj_true];exact ho,fun m hm=>⟨(H m hm).1,fun e => ?_⟩⟩
      rcases (H m hm).2 e with ⟨x1,x2⟩ | ⟨b,cs,e,x1,x2⟩
      · exact .inl ⟨by simpa [Cx.up] using x1,x2⟩
      · exact .inr ⟨b,cs,e,by simpa [Cx.up] using x1,x2⟩
  | nils=>exact .nils
  | lit xs b cap sz f hN hb hc hm hl' hcell h1 hr ih=>exact .lit xs b cap sz f ((up_N hl hd hE b).2 hN) hb hc hm hl' hcell h1 ih
  | map z k r hp =>
    obtain ⟨ob,ho,H⟩:=hp
    cases z
    · rw [nolocal_obj hl] at ho;cases ho
    · exact .map _ _ _ ⟨ob,by rw [up_obj_true];exact ho,fun m hm=>⟨(H m hm).1,by obtain ⟨b,hb,ha⟩:=(H m hm).2;exact ⟨b,by simpa [Cx.up] using hb,ha⟩⟩⟩
  | func f cs vs hl' hr ih=>exact .func f cs vs hl' ih
  | bound f cs vs hl' hr ih=>exact .bound f cs vs hl' ih
  | agg cs vs hl' h1 hr ih=>exact .agg cs vs hl' h1 ih
  | tuple cs vs hl' hr ih=>exact .tuple cs vs hl' ih
theorem evolve_up (hH : RelH Γ c) (hl : d.l = []) (hd : RelH Γ d) (hE : Evolve c.down d) : Evolve c (c.up d) where
  X:=rfl
  size:=hE.size
  tape:=hE.tape
  os:=hE.os
  output:=hE.output
  keep b h hn:=hE.keep b h (fun ho=>hn (by obtain ⟨k,hk⟩:=(down_own b).1 ho;exact ⟨true,k,hk⟩))
  fresh b ho := by
    rcases (up_Own b).1 ho with ⟨k,hk⟩ | ⟨k,hk⟩
    · rcases hE.fresh b ⟨true,k,hk⟩ with h | h
      · obtain ⟨k',hk'⟩:=(down_own b).1 h
        exact .inl ⟨true,k',hk'⟩
      · exact .inr h
    · exact .inl ⟨false,k,hk⟩
  objs z k ob hob:=by
    cases z
    · refine ⟨ob,by rw [up_obj_false];exact hob,fun m hm=>⟨m,hm,Nat.le_refl _,rfl,fun _=>⟨by simp [Cx.up],rfl,fun b cs e h1 h2=>⟨cs, ?_,rfl⟩⟩⟩⟩
      refine (hE.keep b (hH.lt b ⟨false,k,h1⟩) (fun ho => ?_)).trans h2
      obtain ⟨k',hk'⟩:=(down_own b).1 ho
      have:=(hH.inj _ _ _ _ _ h1 hk').1
      cases this
    · obtain ⟨ob',ho',H⟩:=hE.objs true k ob (by rw [down_obj];exact hob)
      refine ⟨ob',by rw [up_obj_true];exact ho',fun m' hm' => ?_⟩
      obtain ⟨m,a1,a2,a3,a4⟩:=H m' hm'
      refine ⟨m,a1,a2,a3,fun e => ?_⟩
      obtain ⟨x1,x2,x3⟩:=a4 e
      exact ⟨by simpa [Cx.up,Cx.down] using x1,x2,fun b cs e h1 h2=>x3 b cs e (by simpa [Cx.down] using h1) h2⟩
theorem relObj_up (hl:d.l=[]) (hd:RelH Γ d) (hE:Evolve c.down d) {k:Nat} {ob:AObj} (h:RelObj d true k ob):RelObj (c.up d) true k ob:=by
  have hμ : (c.up d).μ true k=d.μ true k:=by simp [Cx.up]
  have row:∀ (m:Option Nat) (sz:Nat) (xs:List (List AV)),RelRow d m sz xs→RelRow (c.up d) m sz xs:=fun m sz xs hr=>by
    obtain ⟨h0,h1⟩:=hr
    refine ⟨h0,h1.imp id ?_⟩
    rintro ⟨b,cs,e,hb,hh,hs,hv⟩
    refine ⟨b,cs,e,hb,hh,hs,fun i j hi hj => ?_⟩
    obtain ⟨v,v1,v2,v3⟩:=hv i j hi hj
    exact ⟨v,v1,v2,relV_up hl hd hE v3⟩
  cases ob with
  | dead=>trivial
  | siter a b=>trivial
  | pcells sz xs=>simp only [RelObj,hμ] at h ⊢;exact row _ _ _ h
  | cells sz xs=>simp only [RelObj,hμ] at h ⊢;exact row _ _ _ h
  | map es =>
    simp only [RelObj,hμ] at h ⊢
    obtain ⟨b,es',clock,hb,hh,hs,hv⟩:=h
    refine ⟨b,es',clock,hb,hh,hs,fun i h1 h2 => ?_⟩
    obtain ⟨x1,x2,x3⟩:=hv i h1 h2
    exact ⟨x1,relP_up hl hd hE x2,relV_up hl hd hE x3⟩
theorem relH_up (hH:RelH Γ c) (hl:d.l=[]) (hd:RelH Γ d) (hE:Evolve c.down d):RelH Γ (c.up d) where
  ground:=hd.ground
  objs z k ob hob:=by
    cases z
    · rw [up_obj_false] at hob
      refine (hH.objs false k ob hob).mono (evolve_up hH hl hd hE) (by simp [Cx.up]) (fun b hb => ?_)
      refine hE.keep b (hH.lt b ⟨false,k,hb⟩) (fun ho => ?_)
      obtain ⟨k',hk'⟩:=(down_own b).1 ho
      have:=(hH.inj _ _ _ _ _ hb hk').1
      cases this
    · rw [up_obj_true] at hob
      exact relObj_up hl hd hE (hd.objs true k ob hob)
  inj z k z' k' b h1 h2 := by
    have mixed:∀ k k',d.μ true k=some b→c.μ false k'=some b→False:=fun k k' a1 a2=>by
      obtain ⟨_,_,x3,_⟩:=hd.live _ _ _ a1
      rw [hE.X] at x3
      exact x3 (.inr ⟨k',a2⟩)
    cases z <;> cases z' <;> simp only [Cx.up,if_true,Bool.false_eq_true,if_false] at h1 h2
    · exact hH.inj _ _ _ _ _ h1 h2
    · exact (mixed _ _ h2 h1).elim
    · exact (mixed _ _ h1 h2).elim
    · exact hd.inj _ _ _ _ _ h1 h2
  live z k b h:=by
    cases z
    · simp only [Cx.up,Bool.false_eq_true,if_false] at h
      obtain ⟨x1,x2,x3,ob,x4,x5⟩:=hH.live _ _ _ h
      exact ⟨Nat.lt_of_lt_of_le x1 hE.size,x2,x3,ob,by rw [up_obj_false];exact x4,x5⟩
    · simp only [Cx.up,if_true] at h
      obtain ⟨x1,x2,x3,ob,x4,x5⟩:=hd.live _ _ _ h
      exact ⟨x1,x2,fun hx=>x3 (by rw [hE.X];exact .inl hx),ob,by rw [up_obj_true];exact x4,x5⟩
  xlt b hb:=Nat.lt_of_lt_of_le (hH.xlt b hb) hE.size
end
end
end Go.TA
namespace Go.TA
def SoundC (P : Program) (Γ : Ground) (C : Calls') : Prop :=
  ∀ f args g r g', C f args g = some (r, g') → noLocals args = true → gOk g →
    calleeOk P f=true∧gOk g'∧noLocal r=true ∧
    ∀ (c : Cx) (vs : List Value), c.l = [] → c.g = g → RelH Γ c → args.length = vs.length → (∀ j (h : j < args.length) (h' : j < vs.length), RelV c (args[j]) (vs[j])) →
      Calls P f vs.toArray c.w (fun e w'=>∃ v,e = .returned v∧Ans Γ c [] g' r v w')
section
variable {P:Program} {Γ : Ground} {c:Cx} {s:St} {ρ : Operand→Value} {o:Oper}
theorem view_emp {fr : List (Nat × AV)} : ∀ (d : Nat) {av : AV} {pv : PV} {v : Value}, view ⟨fr, [], []⟩ d av = some pv → RelV c av v → RelP c.w c.N pv v
  | 0,av,pv,v,h,_=>by simp [view] at h
  | d + 1, av, pv, v, h, hr => by
    have ih:=fun {av pv v}=>view_emp (fr:=fr) d (av:=av) (pv:=pv) (v:=v)
    have two:∀ {xs:List (List AV)} {ps:List (List PV)},allM (allM (view ⟨fr,[],[]⟩ d)) xs=some ps→xs.length=ps.length∧∀ i (h:i<xs.length) (h':i<ps.length),(xs[i]).length=(ps[i]).length∧∀ j (hj:j<(xs[i]).length) (hj':j<(ps[i]).length) u,RelV c (xs[i][j]) u→RelP c.w c.N (ps[i][j]) u:=fun hx=>by
      obtain ⟨a1,a2⟩:=allM_get hx
      refine ⟨a1,fun i h h' => ?_⟩
      obtain ⟨b1,b2⟩:=allM_get (a2 i h h')
      exact ⟨b1,fun j hj hj' u hu=>ih (b2 j hj hj') hu⟩
    cases av with
    | p v'=>rw [← view_p d v' pv h];exact relV_p hr
    | nils=>simp [view] at h;subst h;cases hr;exact .none none 0 (by simp [maxLen])
    | agg cs =>
      simp only [view,Option.map_eq_some_iff] at h
      obtain ⟨ps,hps,rfl⟩:=h
      obtain ⟨a1,a2⟩:=allM_get hps
      obtain ⟨vs,rfl,b1,b2,b3⟩:=relV_agg hr
      exact .agg ps vs (by omega) b2 (fun j h h'=>ih (a2 j (by omega) h) (b3 j (by omega) h'))
    | lit xs =>
      simp only [view,Option.map_eq_some_iff] at h
      obtain ⟨ps,hps,rfl⟩:=h
      obtain ⟨a1,a2⟩:=two hps
      cases hr with
      | lit _ b cap sz f h1 h2 h3 h4 h5 h6 h7 h8 =>
        rw [a1]
        refine .list ps b 0 cap sz f h1 h2 (by omega) h4 (fun i hi=>by rw [← (a2 i (by omega) hi).1];exact h5 i (by omega)) (fun i j hi hj=>by rw [Nat.zero_add];exact h6 i j (by omega) hj) h7 (fun i j hi hj => ?_)
        exact (a2 i (by omega) hi).2 j (by rw [(a2 i (by omega) hi).1];exact hj) hj _ (h8 i j (by omega) (by rw [(a2 i (by omega) hi).1];exact hj))
    | own z k n=>cases z <;> simp [view,St.obj,lk] at h
    | _=>simp [view] at h
theorem frz_rel (hl:s.l=c.l) (hg:s.g=c.g) (hH:RelH Γ c) {av:AV} {p:PV} {s1:St} {v:Value} (h:frz s av=some (p,s1)) (hr:RelV c av v) :
  ∃ c1:Cx,c1.w=c.w∧c1.l=s1.l∧c1.g=s1.g∧s1.fr=s.fr∧Evolve c c1∧RelH Γ c1∧RelP c1.w c1.N p v:=by
 unfold frz at h
 split at h
 ·rename_i z k n
  split at h
  rotate_left
  ·cases h
  rename_i b xs hob
  split at h
  rotate_left
  ·cases h
  rename_i hn
  simp only [Option.some.injEq,Prod.mk.injEq] at h
  obtain ⟨rfl,rfl⟩:=h
  rw [obj_eq hl hg] at hob
  subst hn
  obtain ⟨a1,a2,a3⟩:=freeze_rel hH hob hr
  refine ⟨c.set z k .dead none c.w,rfl,put_l hl,put_g hg, ?_,a1,a2,a3⟩
  unfold St.putObj;cases z <;> rfl
 ·obtain ⟨v',hv',h⟩:=Option.map_eq_some_iff.1 h
  simp only [Prod.mk.injEq] at h
  obtain ⟨rfl,rfl⟩:=h
  exact ⟨c,rfl,hl.symm,hg.symm,rfl,Evolve.refl c,hH,view_emp 8 hv' hr⟩
def ArgRel (c:Cx) (b:Bool) (a:AV) (v:Value):Prop:=RelV c a v∨(b=true∧∃ p,a = .p p∧RelP c.w c.NX p v)
theorem nilSlice_rho (hk:∀ v, ρ (.const v)=v) {y:Operand} (h:isNilSlice y=true) : ρ y = .slice none 0 0:=by
 unfold isNilSlice at h
 split at h
 ·exact hk _
 ·cases h
theorem hand_rel (hk : ∀ v, ρ (.const v) = v) : ∀ {l : List (LOpd × How)} {r : List Operand} {s : St} {c : Cx}, s.l = c.l → s.g = c.g → RelH Γ c → RelA c s ρ → argsOk l r = true → ∀ {as : List AV} {s' : St} {b : Bool}, hand s l = some (as, s', b) →
    ∃ c1:Cx,c1.w=c.w∧c1.l=s'.l∧c1.g=s'.g∧s'.fr=s.fr∧Evolve c c1∧RelH Γ c1∧as.length=r.length∧∀ j (h:j<as.length) (h':j<r.length),ArgRel c1 b (as[j]) (ρ (r[j]))
  | [], r, s, c, hl, hg, hH, hρ, hok, as, s', b, h => by
    cases r with
    | cons _ _=>simp [argsOk] at hok
    | nil =>
      simp only [hand,Option.some.injEq,Prod.mk.injEq] at h
      obtain ⟨rfl,rfl,rfl⟩:=h
      exact ⟨c,rfl,hl.symm,hg.symm,rfl,Evolve.refl c,hH,rfl,by simp⟩
  | (x,how)::l,[],s,c,hl,hg,hH,hρ,hok,as,s',b,h=>by cases how <;> simp [argsOk] at hok
  | (x, how) :: l, y :: r, s, c, hl, hg, hH, hρ, hok, as, s', b, h => by
    have hop:opdOk x y=true∧argsOk l r=true:=by
      cases how <;> simp [argsOk] at hok <;> simp [hok]
    obtain ⟨hx,hrest⟩:=hop
    have hv:=hρ x y hx
    have next:∀ {s1:St} {c0:Cx} {as':List AV} {s':St} {b:Bool},c0.w=c.w→s1.l=c0.l→s1.g=c0.g→s1.fr=s.fr→Evolve c c0→RelH Γ c0→hand s1 l=some (as',s',b) →
        ∃ c1:Cx,c1.w=c.w∧c1.l=s'.l∧c1.g=s'.g∧s'.fr=s.fr∧Evolve c0 c1∧RelH Γ c1∧as'.length=r.length∧∀ j (h:j<as'.length) (h':j<r.length),ArgRel c1 b (as'[j]) (ρ (r[j])):=by
      intro s1 c0 as' s' b hw hl1 hg1 hf1 hE hH1 hh
      have hρ1:RelA c0 s1 ρ := fun x y hxy=>by
        have:s1.arg x=s.arg x:=by cases x <;> simp [St.arg,St.get,hf1]
        rw [this]
        exact hE.relV (hρ x y hxy)
      obtain ⟨c1,q1,q2,q3,q4,q5,q6,q7,q8⟩:=hand_rel hk hl1 hg1 hH1 hρ1 hrest hh
      exact ⟨c1,q1.trans hw,q2,q3,q4.trans hf1,q5,q6,q7,q8⟩
    have cons:∀ {c1:Cx} {a:AV} {as':List AV} {b:Bool},ArgRel c1 b a (ρ y)→as'.length=r.length→(∀ j (h:j<as'.length) (h':j<r.length),ArgRel c1 b (as'[j]) (ρ (r[j]))) →
        (a::as').length=(y::r).length∧∀ j (h:j<(a::as').length) (h':j<(y::r).length),ArgRel c1 b ((a::as')[j]) (ρ ((y::r)[j])):=by
      intro c1 a as' b h0 hlen hall
      refine ⟨by simp [hlen],fun j h h' => ?_⟩
      cases j with
      | zero=>exact h0
      | succ j=>exact hall j (by simpa using h) (by simpa using h')
    cases how with
    | as =>
      simp only [hand] at h
      obtain ⟨⟨as',s1,b1⟩,hh,h⟩:=bk_eq h
      simp only [Option.some.injEq,Prod.mk.injEq] at h
      obtain ⟨rfl,rfl,rfl⟩:=h
      obtain ⟨c1,q1,q2,q3,q4,q5,q6,q7,q8⟩:=next rfl hl hg rfl (Evolve.refl c) hH hh
      obtain ⟨z1,z2⟩:=cons (.inl (q5.relV hv)) q7 q8
      exact ⟨c1,q1,q2,q3,q4,q5,q6,z1,z2⟩
    | freeze =>
      simp only [hand] at h
      obtain ⟨⟨p,s0⟩,hf,h⟩:=bk_eq h
      obtain ⟨⟨as',s1,b1⟩,hh,h⟩:=bk_eq h
      simp only [Option.some.injEq,Prod.mk.injEq] at h
      obtain ⟨rfl,rfl,rfl⟩:=h
      obtain ⟨c0,p1,p2,p3,p4,p5,p6,p7⟩:=frz_rel hl hg hH hf hv
      obtain ⟨c1,q1,q2,q3,q4,q5,q6,q7,q8⟩:=next p1 p2.symm p3.symm p4 p5 p6 hh
      obtain ⟨z1,z2⟩:=cons (.inl (.p _ _ (q5.relP p7))) q7 q8
      exact ⟨c1,q1,q2,q3,q4,p5.trans q5,q6,z1,z2⟩
    | look =>
      simp only [hand] at h
      obtain ⟨p,hp,h⟩:=bk_eq h
      obtain ⟨⟨as',s1,b1⟩,hh,h⟩:=bk_eq h
      simp only [Option.some.injEq,Prod.mk.injEq] at h
      obtain ⟨rfl,rfl,rfl⟩:=h
      obtain ⟨c1,q1,q2,q3,q4,q5,q6,q7,q8⟩:=next rfl hl hg rfl (Evolve.refl c) hH hh
      have hp':=view_rel hl hg hH 8 hp hv
      have hp1:RelP c1.w c1.NX p (ρ y):=hp'.mono fun b hb hlt=>⟨by simp only [Cx.NX,q5.X];exact hb,Nat.lt_of_lt_of_le hlt q5.size,by rw [q1]⟩
      obtain ⟨z1,z2⟩:=cons (b:=true) (.inr ⟨rfl,p,rfl,hp1⟩) q7 (fun j h h'=>(q8 j h h').imp id (fun ⟨_,x⟩=>⟨rfl,x⟩))
      exact ⟨c1,q1,q2,q3,q4,q5,q6,z1,z2⟩
    | fresh sz =>
      have hnil:isNilSlice y=true:=by simp [argsOk] at hok;exact hok.1.1
      have hy:=nilSlice_rho hk hnil
      simp only [hand] at h
      split at h
      rotate_left
      · cases h
      obtain ⟨⟨as',s1,b1⟩,hh,h⟩:=bk_eq h
      simp only [Option.some.injEq,Prod.mk.injEq] at h
      obtain ⟨rfl,rfl,rfl⟩:=h
      obtain ⟨n1,n2,n3,n4,n5,n6⟩:=new_nil (z:=true) (k:=0) (sz:=sz) hl hg hH rfl
      obtain ⟨c1,q1,q2,q3,q4,q5,q6,q7,q8⟩:=next (s1:=⟨s.fr,s.l,s.g++[.pcells sz []]⟩) (c0:=c.add true s.g.length (.pcells sz []) none c.w) rfl n1.symm n2.symm rfl n4 n5 hh
      obtain ⟨z1,z2⟩:=cons (.inl (q5.relV (by rw [hy];exact n6))) q7 q8
      exact ⟨c1,q1,q2,q3,q4,n4.trans q5,q6,z1,z2⟩
theorem run_call {f:Nat} (h:calleeOk P f=true) (w:World) (args:Array Value) (caps:Array Value):(invoke (.fn (.func f) caps) args).run P w = .ok (.enter f (args++caps)) w:=by
 unfold calleeOk at h
 split at h
 ·rename_i fn hf
  simp only [Bool.and_eq_true,bne_iff_ne,ne_eq] at h
  have hb:fn.body≠none:=by intro hbb;rw [hbb] at h;simp at h
  simp [invoke,callFunc,Sem.run_bind,run_program,hf,h.1,hb]
 ·cases h
theorem func_rho (hρ : RelA c s ρ) (f:Nat) : ρ (.func f) = .func (.func f) #[] #[]:=by
  have h:=hρ (.f f) (.func f) (by simp [opdOk])
  simp only [St.arg] at h
  generalize ρ (.func f)=v at h
  cases h with
  | func _ _ vs hl _ =>
    have:vs=[]:=List.eq_nil_of_length_eq_zero hl.symm
    subst this;rfl
theorem ans_up (hH:RelH Γ c) {c1:Cx} (hE1:Evolve c c1) (hH1:RelH Γ c1) {g':List AObj} {r:AV} {v:Value} {w':World} (h:Ans Γ c1.down [] g' r v w'):Ans Γ c c1.l g' r v w':=by
 obtain ⟨d,hl,hg,hw,hE,hd,hr⟩:=h
 exact ⟨c1.up d,rfl,hg,hw,hE1.trans (evolve_up hH1 hl hd hE),relH_up hH1 hl hd hE,relV_up hl hd hE hr⟩
theorem argRel_false {a:AV} {v:Value} (h:ArgRel c false a v):RelV c a v:=h.resolve_right (by simp)
theorem does_call {C:Calls'} (hC:SoundC P Γ C) (hl:s.l=c.l) (hg:s.g=c.g) (hH:RelH Γ c) (hρ : RhoA c s ρ) {f:Nat} {l:List (LOpd × How)} (hok:ok_call f l o.op=true) {av:AV} {s':St} (h:evalOp C s (.call f l)=some (av,s'))
  (hgo':∀ {as:List AV} {s1:St} {b:Bool},hand s l=some (as,s1,b)→gOk s1.g):Does P ρ o c.w (Ans Γ c s'.l s'.g av):=by
 cases ho:o.op <;> rw [ho] at hok <;> try (simp [ok_call] at hok;done)
 rename_i cl
 obtain ⟨callee,args,argTypes⟩:=cl
 cases callee <;> try (simp [ok_call] at hok;done)
 rename_i fo
 cases fo <;> try (simp [ok_call] at hok;done)
 rename_i f'
 simp only [ok_call,Bool.and_eq_true,beq_iff_eq] at hok
 obtain ⟨rfl,hargs⟩:=hok
 simp only [evalOp] at h
 obtain ⟨⟨as,s1,b⟩,hh,h⟩:=bk_eq h
 simp only at h
 split at h
 rotate_left
 ·cases h
 rename_i hcond
 obtain ⟨rfl,hno⟩:=hcond
 obtain ⟨⟨r,g'⟩,hc,h⟩:=bk_eq h
 simp only [Option.some.injEq,Prod.mk.injEq] at h
 obtain ⟨rfl,rfl⟩:=h
 obtain ⟨c1,q1,q2,q3,q4,q5,q6,q7,q8⟩:=hand_rel hρ.2 hl hg hH hρ.1 hargs hh
 obtain ⟨z1,z2,z3,z4⟩:=hC _ _ _ _ _ hc hno (hgo' hh)
 have hfn:=func_rho hρ.1 f
 have hrun:(execOp ρ o).run P c.w = .ok (.enter f (args.map ρ)) c.w:=by
  have:=run_call z1 c.w (args.map ρ) #[]
  simp only [Array.append_empty] at this
  simp [execOp,ho,resolve,hfn,Deferred.ofValue,this]
 unfold Does
 rw [hrun]
 have e:args.map ρ = (args.toList.map ρ).toArray:=by rw [← Array.toList_map]
 simp only
 rw [e, ← q1]
 have:=z4 c1.down (args.toList.map ρ) rfl q3 (relH_down q6 (by rw [q3];exact hgo' hh)) (by simp [q7]) (fun j h h'=>by
  refine relV_down ?_ (noLocals_get hno j h)
  have:=argRel_false (q8 j h (by simpa using h'))
  simpa using this)
 refine Calls.mono this (fun e w' he => ?_)
 obtain ⟨v,rfl,ha⟩:=he
 refine ⟨v,rfl, ?_⟩
 have:=ans_up hH q5 q6 ha
 rw [q2] at this
 exact this
theorem does_callv {C : Calls'} (hC : SoundC P Γ C) (hl : s.l = c.l) (hg : s.g = c.g) (hH : RelH Γ c) (hρ : RhoA c s ρ) {x : LOpd} {l : List (LOpd × How)} (hok : ok_callv x l o.op = true) {av : AV} {s' : St} (h : evalOp C s (.callv x l) = some (av, s'))
    (hgo':∀ {as:List AV} {s1:St} {b:Bool},hand s l=some (as,s1,b)→gOk s1.g):Does P ρ o c.w (Ans Γ c s'.l s'.g av):=by
  cases ho:o.op <;> rw [ho] at hok <;> try (simp [ok_callv] at hok;done)
  rename_i cl
  obtain ⟨callee,args,argTypes⟩:=cl
  cases callee <;> try (simp [ok_callv] at hok;done)
  rename_i fo
  simp only [ok_callv,Bool.and_eq_true] at hok
  obtain ⟨hfo,hargs⟩:=hok
  simp only [evalOp] at h
  split at h
  · rename_i f caps hx
    obtain ⟨⟨as,s1,b⟩,hh,h⟩:=bk_eq h
    simp only at h
    split at h
    rotate_left
    · cases h
    rename_i hcond
    obtain ⟨rfl,hno⟩:=hcond
    obtain ⟨⟨r,g'⟩,hc,h⟩:=bk_eq h
    simp only [Option.some.injEq,Prod.mk.injEq] at h
    obtain ⟨rfl,rfl⟩:=h
    obtain ⟨c1,q1,q2,q3,q4,q5,q6,q7,q8⟩:=hand_rel hρ.2 hl hg hH hρ.1 hargs hh
    obtain ⟨z1,z2,z3,z4⟩:=hC _ _ _ _ _ hc hno (hgo' hh)
    have hfn:=hρ.1 _ _ hfo
    rw [hx] at hfn
    obtain ⟨us,hfn,hul,hur⟩:∃ us:List Value, ρ fo = .func (.func f) #[] us.toArray∧caps.length=us.length∧∀ j (h:j<caps.length) (h':j<us.length),RelV c (caps[j]) (us[j]):=by
      generalize ρ fo=v at hfn
      cases hfn with
      | func _ _ us hl hr=>exact ⟨us,rfl,hl,hr⟩
    have hrun:(execOp ρ o).run P c.w = .ok (.enter f (args.map ρ ++ us.toArray)) c.w:=by
      have:=run_call z1 c.w (args.map ρ) us.toArray
      simp [execOp,ho,resolve,hfn,Deferred.ofValue,this]
    unfold Does
    rw [hrun]
    have e:args.map ρ ++ us.toArray=(args.toList.map ρ ++ us).toArray:=by
      apply Array.toList_inj.1;simp
    simp only
    rw [e, ← q1]
    have:=z4 c1.down (args.toList.map ρ ++ us) rfl q3 (relH_down q6 (by rw [q3];exact hgo' hh)) (by simp [q7,hul]) (fun j h h'=>by
      refine relV_down ?_ (noLocals_get hno j h)
      by_cases hj:j<as.length
      · have:=argRel_false (q8 j hj (by omega))
        rw [List.getElem_append_left hj,List.getElem_append_left (by rw [List.length_map];omega)]
        simpa using this
      · have hj':j - as.length<caps.length:=by simp at h;omega
        have:=q5.relV (hur (j - as.length) hj' (by omega))
        rw [List.getElem_append_right (by omega),List.getElem_append_right (by rw [List.length_map];omega)]
        simpa [q7] using this)
    refine Calls.mono this (fun e w' he => ?_)
    obtain ⟨v,rfl,ha⟩:=he
    refine ⟨v,rfl, ?_⟩
    have:=ans_up hH q5 q6 ha
    rw [q2] at this
    exact this
  · rename_i f fs hx
    obtain ⟨⟨as,s1,b⟩,hh,h⟩:=bk_eq h
    simp only at h
    split at h
    rotate_left
    · cases h
    rename_i hcond
    obtain ⟨rfl,hno⟩:=hcond
    obtain ⟨⟨r,g'⟩,hc,h⟩:=bk_eq h
    simp only [Option.some.injEq,Prod.mk.injEq] at h
    obtain ⟨rfl,rfl⟩:=h
    obtain ⟨c1,q1,q2,q3,q4,q5,q6,q7,q8⟩:=hand_rel hρ.2 hl hg hH hρ.1 hargs hh
    obtain ⟨z1,z2,z3,z4⟩:=hC _ _ _ _ _ hc hno (hgo' hh)
    have hfn:=hρ.1 _ _ hfo
    rw [hx] at hfn
    obtain ⟨us,hfn,hul,hur⟩:∃ us:List Value, ρ fo = .func (.func f) us.toArray #[]∧fs.length=us.length∧∀ j (h:j<fs.length) (h':j<us.length),RelV c (fs[j]) (us[j]):=by
      generalize ρ fo=v at hfn
      cases hfn with
      | bound _ _ us hl hr=>exact ⟨us,rfl,hl,hr⟩
    have hrun:(execOp ρ o).run P c.w = .ok (.enter f (us.toArray++args.map ρ)) c.w:=by
      have:=run_call z1 c.w (us.toArray++args.map ρ) #[]
      simp [execOp,ho,resolve,hfn,Deferred.ofValue,this]
    unfold Does
    rw [hrun]
    have e:us.toArray++args.map ρ = (us++args.toList.map ρ).toArray:=by
      apply Array.toList_inj.1;simp
    simp only
    rw [e, ← q1]
    have:=z4 c1.down (us++args.toList.map ρ) rfl q3 (relH_down q6 (by rw [q3];exact hgo' hh)) (by simp [q7,hul]) (fun j h h'=>by
      refine relV_down ?_ (noLocals_get hno j h)
      by_cases hj:j<fs.length
      · have:=q5.relV (hur j hj (by omega))
        rw [List.getElem_append_left hj,List.getElem_append_left (by omega)]
        exact this
      · have hj':j - fs.length<as.length:=by simp at h;omega
        have:=argRel_false (q8 (j - fs.length) hj' (by omega))
        rw [List.getElem_append_right (by omega),List.getElem_append_right (by omega)]
        simpa [hul] using this)
    refine Calls.mono this (fun e w' he => ?_)
    obtain ⟨v,rfl,ha⟩:=he
    refine ⟨v,rfl, ?_⟩
    have:=ans_up hH q5 q6 ha
    rw [q2] at this
    exact this
  · cases h
def Cx.alone (c:Cx) (X:Nat→Prop):Cx:=⟨X,fun _ _=>none,[],[],c.w⟩
theorem alone_own (X:Nat→Prop) (b:Nat):¬ (c.alone X).Own b:=by
 rintro ⟨z,k,h⟩
 simp [Cx.alone] at h
theorem relH_alone (hH:RelH Γ c) (X:Nat→Prop) (hX:∀ b,X b→c.X b∨c.Own b):RelH Γ (c.alone X) where
 ground:=hH.ground
 objs z k ob hob:=by cases z <;> simp [Cx.obj,Cx.alone,lk] at hob
 inj z k z' k' b h:=by simp [Cx.alone] at h
 live z k b h:=by simp [Cx.alone] at h
 xlt b hb:=by
  rcases hX b hb with h | h
  ·exact hH.xlt b h
  ·exact hH.lt b h
theorem relV_alone {X:Nat→Prop} (hX:∀ b,c.N b→¬ X b) {a:AV} (hp:pureArg a=true) {v:Value} (h:RelV c a v):RelV (c.alone X) a v:=by
  have hN:∀ b,c.N b→(c.alone X).N b:=fun b hb=>⟨hX b hb,alone_own X b⟩
  have hP:∀ {p:PV} {u:Value},RelP c.w c.N p u→RelP (c.alone X).w (c.alone X).N p u:=fun h=>h.mono fun b hb hlt=>⟨hN b hb,hlt,rfl⟩
  cases h with
  | p pv v h=>exact .p _ _ (hP h)
  | rop cs b off f h1 h2 h3 h4 h5=>exact .rop cs b off f (hN b h1) h2 h3 h4 (fun j hj=>hP (h5 j hj))
  | func f cs vs hl hr =>
    cases cs with
    | nil=>exact .func f [] vs hl (fun j h=>by simp at h)
    | cons _ _=>simp [pureArg] at hp
  | _=>simp [pureArg] at hp
theorem pure_noLocals:∀ {l:List AV},l.all pureArg=true→noLocals l=true
  | [],_=>rfl
  | a :: l, h => by
    simp only [List.all_cons,Bool.and_eq_true] at h
    simp only [noLocals,Bool.and_eq_true]
    refine ⟨?_,pure_noLocals h.2⟩
    cases a <;> simp [pureArg] at h <;> try rfl
    rename_i f cs
    cases cs with
    | nil=>rfl
    | cons _ _=>simp [pureArg] at h
theorem flat_any {w w':World} {N N':Nat→Prop} {p:PV} {v:Value} (hf:flat p=true) (h:RelP w N p v):RelP w' N' p v:=by
 cases h with
 | bool b=>exact .bool b
 | int k n=>exact .int k n
 | str s=>exact .str s
 | nilp=>exact .nilp
 | nilm=>exact .nilm
 | nilf=>exact .nilf
 | nili=>exact .nili
 | _=>simp [flat] at hf
theorem relP_tuple_rel {ps:List PV} {vs:List Value} (hl:ps.length=vs.length) (h:∀ j (h:j<ps.length) (h':j<vs.length),RelP c.w c.N (ps[j]) (vs[j])):RelV c (.tuple (ps.map .p)) (.tuple vs.toArray) :=
 .tuple _ _ (by simp [hl]) (fun j h1 h2=>by simp only [List.getElem_map];exact .p _ _ (h j (by simpa using h1) h2))
theorem viewT_rel {d:Cx} (hd:RelH Γ d) {fr:List (Nat × AV)} (hl:d.l=[]) {r r':AV} {v:Value} (h:viewT ⟨fr,[],d.g⟩ r=some r') (hr:RelV d r v) {c':Cx} (b:Bool) (hb:b=true→allFlat r'=true)
    (hP:∀ {p:PV} {u:Value},RelP d.w d.NX p u→(b=true→flat p=true)→RelP c'.w c'.N p u):RelV c' r' v:=by
  cases r with
  | tuple vs =>
    simp only [viewT,Option.map_eq_some_iff] at h
    obtain ⟨ps,hps,rfl⟩:=h
    obtain ⟨us,rfl,hl',hr'⟩:=rUndef_inv hr
    obtain ⟨a1,a2⟩:=allM_get hps
    refine relP_tuple_rel (by omega) (fun j h1 h2=>hP (view_rel hl.symm rfl hd 8 (a2 j (by omega) h1) (hr' j (by omega) h2)) (fun e => ?_))
    have:=hb e
    simp only [allFlat,List.all_map,List.all_eq_true] at this
    exact this _ (List.getElem_mem h1)
  | _ =>
    simp only [viewT,Option.map_eq_some_iff] at h
    obtain ⟨p,hp,rfl⟩:=h
    exact .p _ _ (hP (view_rel hl.symm rfl hd 8 hp hr) (fun e=>by simpa [allFlat] using hb e))
theorem does_pcall {C:Calls'} (hC:SoundC P Γ C) (hl:s.l=c.l) (hg:s.g=c.g) (hH:RelH Γ c) (hρ : RhoA c s ρ) {f:Nat} {l:List (LOpd × How)} (hok:ok_pcall f l o.op=true) {av:AV} {s':St} (h:evalOp C s (.pcall f l)=some (av,s')) :
  Does P ρ o c.w (Ans Γ c s'.l s'.g av):=by
 cases ho:o.op <;> rw [ho] at hok <;> try (simp [ok_pcall] at hok;done)
 rename_i cl
 obtain ⟨callee,args,argTypes⟩:=cl
 cases callee <;> try (simp [ok_pcall] at hok;done)
 rename_i fo
 cases fo <;> try (simp [ok_pcall] at hok;done)
 rename_i f'
 simp only [ok_pcall,Bool.and_eq_true,beq_iff_eq] at hok
 obtain ⟨rfl,hargs⟩:=hok
 simp only [evalOp] at h
 obtain ⟨⟨as,s1,b⟩,hh,h⟩:=bk_eq h
 simp only at h
 split at h
 rotate_left
 ·cases h
 rename_i hpure
 obtain ⟨⟨r,g'⟩,hc,h⟩:=bk_eq h
 obtain ⟨r',hv,h⟩:=bk_eq h
 split at h
 rotate_left
 ·cases h
 rename_i hflat
 simp only [Option.some.injEq,Prod.mk.injEq] at h
 obtain ⟨rfl,rfl⟩:=h
 obtain ⟨c1,q1,q2,q3,q4,q5,q6,q7,q8⟩:=hand_rel hρ.2 hl hg hH hρ.1 hargs hh
 obtain ⟨z1,z2,z3,z4⟩:=hC _ _ _ _ _ hc (pure_noLocals hpure) (fun o h=>by simp at h)
 have hfn:=func_rho hρ.1 f
 have hrun:(execOp ρ o).run P c.w = .ok (.enter f (args.map ρ)) c.w:=by
  have:=run_call z1 c.w (args.map ρ) #[]
  simp only [Array.append_empty] at this
  simp [execOp,ho,resolve,hfn,Deferred.ofValue,this]
 unfold Does
 rw [hrun]
 have e:args.map ρ = (args.toList.map ρ).toArray:=by rw [← Array.toList_map]
 simp only
 rw [e, ← q1]
 let X:Nat→Prop:=fun x=>c1.X x∨(b=false∧c1.Own x)
 have hX:∀ x,X x→c1.X x∨c1.Own x:=fun x hx=>hx.imp id (·.2)
 have hXN:∀ x,c1.N x→¬ X x:=fun x hx h=>h.elim hx.1 (fun h=>hx.2 h.2)
 have:=z4 (c1.alone X) (args.toList.map ρ) rfl rfl (relH_alone q6 X hX) (by simp [q7]) (fun j h h'=>by
  have hpj:pureArg (as[j])=true:=List.all_eq_true.1 hpure _ (List.getElem_mem h)
  have hj:=q8 j h (by simpa using h')
  simp only [List.getElem_map,Array.getElem_toList] at hj ⊢
  rcases hj with hj | ⟨rfl,p,hp,hj⟩
  ·exact relV_alone hXN hpj hj
  ·rw [hp]
   exact .p _ _ (hj.mono fun x hx hlt=>⟨⟨fun h=>h.elim hx (fun h=>by cases h.1),alone_own X x⟩,hlt,rfl⟩))
 refine Calls.mono this (fun e w' he => ?_)
 obtain ⟨v,rfl,d,d1,d2,d3,d4,d5,d6⟩:=he
 refine ⟨v,rfl, ?_⟩
 have hbel:Go.RowKit.Below c1.w.heap.size c1.w w':=by
  subst d3
  exact ⟨d4.os,d4.tape,d4.output,d4.size,fun k hk=>d4.keep k hk (alone_own X k)⟩
 refine ⟨{ c1 with w:=w' },q2,q3,rfl,q5.trans (evolve_below hbel q6.lt),q6.below hbel, ?_⟩
 subst d2
 refine viewT_rel d5 d1 hv d6 b hflat (fun {p u} hp hf => ?_)
 subst d3
 cases b with
 | true=>exact flat_any (hf rfl) hp
 | false=>exact hp.mono fun x hx hlt=>⟨by
   have hx':¬ X x:=by simpa [Cx.NX,d4.X,Cx.alone] using hx
   exact ⟨fun h=>hx' (.inl h),fun h=>hx' (.inr ⟨rfl,h⟩)⟩,hlt,rfl⟩
end
end Go.TA


end
