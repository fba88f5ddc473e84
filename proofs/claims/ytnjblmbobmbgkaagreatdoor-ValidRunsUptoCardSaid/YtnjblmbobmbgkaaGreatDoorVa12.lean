/- Part 12 of 15 of a proof; joined from VrsRNew, MBelow, MRowsP, VrsBoth, VrsPlainEq, VrsRRead, VrsRef13, VrsFormed, VrsAttrsP, VrsAlone, VrsTree, VrsMOps1, VrsMOps2, VrsMDel. slices.DeleteFunc on a row of numbers that was cloned: the numbers that are another one. -/
import Derived.Test.YtnjblmbobmbgkaaGreatDoorVa1
import Derived.Test.YtnjblmbobmbgkaaGreatDoorVa11
import Derived.Test.YtnjblmbobmbgkaaGreatDoorVa6
import Derived.Test.YtnjblmbobmbgkaaGreatDoorVa7
import Derived.Test.YtnjblmbobmbgkaaGreatDoorVa10
set_option linter.unusedSimpArgs false
set_option linter.unusedVariables false
section
/- The document's answer, of rows. -/
set_option maxRecDepth 100000
set_option maxHeartbeats 8000000
namespace Go.TA
structure Behind (g0:List AObj) (L:List Nat) (av:Nat→AV) (g:List AObj):Prop where
 len:g0.length≤g.length
 keep:∀ j,j<g0.length→g[j]? = g0[j]?
 refs:∀ h,h ∈ L→∀ r,refOf (av h)=some r→g0.length≤r
theorem DM.grow {L : List Nat} {st : Nat → MNode} {kd : Nat → List Int} {nx : Int} {av : Nat → AV} {p q : Nat} {g : List AObj} (h : DM L st kd nx av p q g) {c r : Nat} (hc : c ∈ L) (ha : av c = .own true r (kd c).length) (k : Int) {o' : AObj} (hr : RowRep 7 (rowsD L st (upd av c (.own true r ((kd c).length + 1)))) o') : DM L st (upd kd c (kd c ++ [k])) nx (upd av c (.own true r ((kd c).length + 1))) p q ((g.set r (.pcells 1 (intsPV (kd c ++ [k])))).set q o') := by
  have hro:refOf (av c)=some r:=by rw [ha];rfl
  have hrp:=(h.away c hc).1
  have hrq:=(h.away c hc).2
  rw [hro] at hrp hrq
  simp only [ne_eq,Option.some.injEq] at hrp hrq
  have hrl:=(h.kids c hc).ref_lt hro
  obtain ⟨o,ho,_⟩:=h.core.row
  have hql:=(List.getElem?_eq_some_iff.1 ho).1
  have hrn:∀ n,refOf (.own true r n)=some r:=fun n=>rfl
  refine ⟨⟨?_,⟨o', ?_,hr⟩,h.core.pq,h.core.nodup⟩,fun y hy => ?_,fun y hy => ?_,fun y y' hy hy' hne => ?_⟩
  · rw [List.getElem?_set,if_neg (fun e=>h.core.pq e.symm),List.getElem?_set,if_neg hrp];exact h.core.obj
  · rw [List.getElem?_set,if_pos rfl,if_pos (by rw [List.length_set];exact hql)]
  · by_cases e:y=c
    · subst e
      rw [upd_at,upd_at]
      have:=KG.own (g:=(g.set r (.pcells 1 (intsPV (kd y++[k])))).set q o') (r:=r) (ks:=kd y++[k]) (by rw [List.getElem?_set,if_neg (fun e=>hrq e.symm),List.getElem?_set,if_pos rfl,if_pos hrl])
      simpa using this
    · rw [upd_ne e,upd_ne e]
      refine (h.kids y hy).keep fun r' hr' => ?_
      rw [List.getElem?_set,if_neg (fun e=>(h.away y hy).2 (by rw [e];exact hr')),List.getElem?_set,if_neg]
      intro e2
      rcases h.disj y c hy hc e with h1 | h1
      · rw [h1] at hr';cases hr'
      · exact h1 (by rw [hr',hro,e2])
  · by_cases e:y=c
    · subst e;rw [upd_at,hrn];simp [hrp,hrq]
    · rw [upd_ne e];exact h.away y hy
  · have e0:∀ n,refOf (.own true r n)=refOf (av c):=fun n=>by rw [hro];rfl
    by_cases e:y=c
    · subst e
      rw [upd_at,upd_ne (fun e=>hne e.symm),e0]
      exact h.disj y y' hy hy' hne
    · rw [upd_ne e]
      by_cases e':y'=c
      · subst e'
        rw [upd_at,e0]
        exact h.disj y y' hy hy' hne
      · rw [upd_ne e'];exact h.disj y y' hy hy' hne
theorem DM.first {L : List Nat} {st : Nat → MNode} {kd : Nat → List Int} {nx : Int} {av : Nat → AV} {p q : Nat} {g : List AObj} (h : DM L st kd nx av p q g) {c : Nat} (hc : c ∈ L) (k : Int) {o' : AObj} (hr : RowRep 7 (rowsD L st (upd av c (.own true g.length 1))) o') : DM L st (upd kd c [k]) nx (upd av c (.own true g.length 1)) p q ((g ++ [AObj.pcells 1 (intsPV [k])]).set q o') := by
  obtain ⟨o,ho,_⟩:=h.core.row
  have hql:=(List.getElem?_eq_some_iff.1 ho).1
  have hpl:=(List.getElem?_eq_some_iff.1 h.core.obj).1
  have hrn:refOf (.own true g.length 1)=some g.length:=rfl
  refine ⟨⟨?_,⟨o', ?_,hr⟩,h.core.pq,h.core.nodup⟩,fun y hy => ?_,fun y hy => ?_,fun y y' hy hy' hne => ?_⟩
  · rw [List.getElem?_set,if_neg (fun e=>h.core.pq e.symm),List.getElem?_append_left hpl];exact h.core.obj
  · rw [List.getElem?_set,if_pos rfl,if_pos (by rw [List.length_append];omega)]
  · by_cases e:y=c
    · subst e
      rw [upd_at,upd_at]
      exact KG.own (ks:=[k]) (by rw [List.getElem?_set,if_neg (by omega)];simp)
    · rw [upd_ne e,upd_ne e]
      refine (h.kids y hy).keep fun r' hr' => ?_
      have:=(h.kids y hy).ref_lt hr'
      rw [List.getElem?_set,if_neg (fun e=>(h.away y hy).2 (by rw [e];exact hr')),List.getElem?_append_left this]
  · by_cases e:y=c
    · subst e;rw [upd_at,hrn];simp;omega
    · rw [upd_ne e];exact h.away y hy
  · by_cases e:y=c
    · subst e
      rw [upd_at,upd_ne (fun e=>hne e.symm),hrn]
      cases hr:refOf (av y') with
      | none=>exact .inr (by simp)
      | some r =>
        right
        have:=(h.kids y' hy').ref_lt hr
        simp only [ne_eq,Option.some.injEq];omega
    · rw [upd_ne e]
      by_cases e':y'=c
      · subst e'
        rw [upd_at,hrn]
        cases hr:refOf (av y) with
        | none=>exact .inl rfl
        | some r =>
          right
          have:=(h.kids y hy).ref_lt hr
          simp only [ne_eq,Option.some.injEq];omega
      · rw [upd_ne e'];exact h.disj y y' hy hy' hne
namespace Tryz
def newD (l:List GRow) (p i:Nat) (g:List AObj):St:=⟨[(0,.p (.list (l.map GRow.pv))),(3,DP p),(8,.p (.int .i64 l.length)),(9,.p (.int .i64 i))],[],g⟩
theorem newD_loop {C : Calls'} {N : Nat} (l : List GRow) (hl : l.length ≤ 1048576) (hs : standTo l l.length) (hN : l.length < N) (g0 : List AObj) (av0 : Nat → AV) (g1 : List AObj) (p q : Nat) (hD0 : DM (List.range 1) (st0 l) (kd0 l 0) 1 av0 p q g1) (hav0 : ∀ h, h ∈ List.range 1 → ∀ ks, av0 h ≠ .p ks) (hB0 : Behind g0 (List.range 1) av0 g1) (hp : g0.length ≤ p) (hq : g0.length ≤ q) :
    ∃ r,aexec C N (.loop B19x0) (newD l p 0 g1)=some r∧∃ av g,r=(.exit 0,⟨[(0,.p (.list (l.map GRow.pv))),(3,DP p)],[],g⟩)∧DM (List.range (l.length+1)) (st0 l) (kd0 l l.length) 1 av p q g∧Behind g0 (List.range (l.length+1)) av g:=by
  refine loop_inv (σ := Nat × (Nat→AV) × List AObj) (S:=fun s=>newD l p s.1 s.2.2) (I:=fun s=>s.1≤l.length∧DM (List.range (s.1+1)) (st0 l) (kd0 l s.1) 1 s.2.1 p q s.2.2∧(∀ h,h ∈ List.range (s.1+1)→∀ ks,s.2.1 h ≠ .p ks)∧Behind g0 (List.range (s.1+1)) s.2.1 s.2.2) (μ := fun s=>l.length - s.1)
    (Q:=fun r=>∃ av g,r=(.exit 0,⟨[(0,.p (.list (l.map GRow.pv))),(3,DP p)],[],g⟩)∧DM (List.range (l.length+1)) (st0 l) (kd0 l l.length) 1 av p q g∧Behind g0 (List.range (l.length+1)) av g) ?_ (0,av0,g1) ⟨by omega,hD0,hav0,hB0⟩ (by simp only;omega)
  rintro ⟨i,av,g⟩ ⟨h1,hD,h3,hB⟩
  simp only at h1 hD h3 hB ⊢
  by_cases hi:i<l.length
  · left
    obtain ⟨x,hx⟩:=get_some hi
    have hu:=hs i x hi hx
    obtain ⟨u,hue⟩:∃ u:Nat,x.up=(u:Int):=⟨x.up.toNat,by omega⟩
    have hg:=getD_map (f:=GRow.pv) hx
    have k1:(i:Int)<(l.length:Int):=by omega
    have hst:st0 l (i+1)=nodeOf x:=by simp [st0,hx]
    obtain ⟨o,ho,hrep⟩:=hD.core.row
    have hob:=hD.core.obj
    have hrl:(List.range (i+1)).length=i+1:=by simp
    rw [hrl] at hob
    have hNL:i+1 ∉ List.range (i+1):=by simp
    obtain ⟨o1,happ,hr1⟩:=hrep.app (n:=i+1) (bytes:=112) (by rw [rowsD_len,hrl]) (by omega) (c:=nAV (i+1) (nodeOf x) .nils) rfl rfl
    rw [rowsD_push hNL] at hr1
    have hD1:=hD.push hNL (nodeOf x) 1 hr1
    rw [hrl] at hD1
    have hD2:DM (List.range (i+1+1)) (st0 l) (upd (kd0 l i) (i+1) []) 1 (upd av (i+1) .nils) p q ((g.set q o1).set p (.cells 2 [[.own true q (i+1+1),.p (.int .i64 1)]])):=by
      rw [List.range_succ]
      refine hD1.congr fun k hk=>⟨?_,rfl⟩
      by_cases e:k=i+1
      · subst e;rw [upd_at,hst]
      · rw [upd_ne e]
    have hB2:Behind g0 (List.range (i+1+1)) (upd av (i+1) .nils) ((g.set q o1).set p (.cells 2 [[.own true q (i+1+1),.p (.int .i64 1)]])):=by
      refine ⟨by simpa using hB.len,fun j hj => ?_,fun h hh r hr => ?_⟩
      · rw [List.getElem?_set,if_neg (by omega),List.getElem?_set,if_neg (by omega)];exact hB.keep j hj
      · by_cases e:h=i+1
        · subst e;rw [upd_at] at hr;cases hr
        · rw [upd_ne e] at hr
          exact hB.refs h (by have:=List.mem_range.1 hh;exact List.mem_range.2 (by omega)) r hr
    have h32:∀ h,h ∈ List.range (i+1+1)→∀ ks,upd av (i+1) .nils h ≠ .p ks:=fun h hh ks=>by
      by_cases e:h=i+1
      · subst e;rw [upd_at];simp
      · rw [upd_ne e];exact h3 h (by have:=List.mem_range.1 hh;exact List.mem_range.2 (by omega)) ks
    have hpl:=(List.getElem?_eq_some_iff.1 hob).1
    have hob1:(g.set q o1)[p]? = some (.cells 2 [[.own true q (i+1),.p (.int .i64 1)]]):=by
      rw [List.getElem?_set,if_neg (fun e=>hD.core.pq e.symm)];exact hob
    generalize hG:g.set q o1=G at hD2 hB2 hob1
    generalize hG2:G.set p (.cells 2 [[.own true q (i+1+1),.p (.int .i64 1)]])=G2 at hD2 hB2
    generalize hav2:upd av (i+1) .nils=av2 at hD2 hB2 h32
    have hrl2:(List.range (i+1+1)).length=i+1+1:=by simp
    obtain ⟨o2,ho2,hrep2⟩:=hD2.core.row
    have hob2:=hD2.core.obj
    rw [hrl2] at hob2
    have hix2:=fun s i=>hrep2.idx (by rw [rowsD_len,hrl2]) s true q i
    have hul:u<i+1+1:=by omega
    have huL:u ∈ List.range (i+1+1):=List.mem_range.2 hul
    have hiu:(List.range (i+1+1))[u]? = some u:=List.getElem?_range hul
    have ku:(u:Int)<((i+1+1:Nat):Int):=by omega
    have rdu:=rd_node hrep2 hiu (j:=2) (by omega)
    rw [hrl2] at rdu
    simp only [nAV] at rdu
    have hK:=hD2.kids u huL
    have hkd:∀ h,h ∈ List.range (i+1+1)→upd (upd (kd0 l i) (i+1) []) u (upd (kd0 l i) (i+1) [] u++[(i:Int)+1]) h=kd0 l (i+1) h:=by
      intro h hh
      have hnew:upd (kd0 l i) (i+1) [] h=kd0 l i h:=by
        by_cases e:h=i+1
        · subst e;rw [upd_at,kd0_new (hs.mono (by omega)) (by omega)]
        · rw [upd_ne e]
      rw [kd0_succ hx,hue]
      by_cases e:h=u
      · subst e
        rw [upd_at,hnew,if_pos rfl]
      · rw [upd_ne e,hnew,if_neg (by omega)]
    have hkl:(upd (kd0 l i) (i+1) [] u).length≤1048576:=by
      by_cases e:u=i+1
      · rw [e,upd_at];simp
      · rw [upd_ne e]
        simp only [kd0,List.length_map]
        have:=List.length_filter_le (fun k=>((l[k]?).map (fun x=>x.up==(u:Int))).getD false) (List.range i)
        simp only [List.length_range] at this
        omega
    generalize hkd2:upd (kd0 l i) (i+1) []=kd2 at hD2 hK hkd hkl
    have hwr:=fun a=>wr_node hrep2 hiu (j:=2) (by omega) a
    have hql:=(List.getElem?_eq_some_iff.1 ho2).1
    have hp2:=(List.getElem?_eq_some_iff.1 hob2).1
    simp only [nAV,nodeOf,hue] at happ
    have c1:((i+1:Nat):Int)=(i:Int)+1:=by omega
    rw [c1] at happ
    rcases hK.inv with ⟨hav,hk0⟩ | ⟨r,hav,hr⟩ | hav
    · rw [hav] at rdu
      obtain ⟨o3,hw,hr3⟩:=hwr (.own true G2.length 1)
      rw [rows_kids List.nodup_range hiu] at hr3
      rw [hrl2] at hw
      have hD3:=hD2.first huL ((i:Int)+1) hr3
      refine ⟨(i+1,upd av2 u (.own true G2.length 1),(G2++[AObj.pcells 1 (intsPV [(i:Int)+1])]).set q o3), ?_,⟨by simp only;omega,hD3.congr fun h hh=>⟨rfl,by rw [← hkd h hh,hk0];rfl⟩,fun h hh ks => ?_, ?_,fun j hj => ?_,fun h hh r hr => ?_⟩,by simp only;omega⟩
      · have hlast:(G2++[AObj.pcells 1 []])[G2.length]? = some (.pcells 1 []):=by simp
        have hset:∀ X,(G2++[AObj.pcells 1 []]).set G2.length X=G2++[X]:=fun X=>by simp [List.set_append]
        have hob3:∀ X,(G2++[X])[p]? = some (.cells 2 [[.own true q (i+1+1),.p (.int .i64 1)]]):=fun X=>by rw [List.getElem?_append_left hp2];exact hob2
        have ho3:∀ X,(G2++[X])[q]? = some o2:=fun X=>by rw [List.getElem?_append_left hql];exact ho2
        have ei:intsPV [(i:Int)+1]=[[.int .i64 ((i:Int)+1)]]:=rfl
        rw [ei]
        simp only [newD]
        simp -implicitDefEqProofs (disch:=omega) only [Rx,simprocAttr,B19x0,k1,hg,GRow.pv,attrsPV,hob,ho,happ,hG,hob1,hG2,hob2,ho2,hix2,hue,rdu,hset,hob3,ho3,hw]
      · by_cases e:h=u
        · subst e;simp [upd]
        · simp only;rw [upd_ne e];exact h32 h hh ks
      · have:=hB2.len;simp;omega
      · have:=hB2.len
        simp only
        rw [List.getElem?_set,if_neg (by omega),List.getElem?_append_left (by omega)];exact hB2.keep j hj
      · simp only at hr
        by_cases e:h=u
        · subst e
          rw [upd_at] at hr
          simp only [refOf,Option.some.injEq] at hr
          have:=hB2.len;omega
        · rw [upd_ne e] at hr;exact hB2.refs h hh r hr
    · rw [hav] at rdu
      obtain ⟨o3,hw,hr3⟩:=hwr (.own true r ((kd2 u).length+1))
      rw [rows_kids List.nodup_range hiu] at hr3
      rw [hrl2] at hw
      have hD3:=hD2.grow huL hav ((i:Int)+1) hr3
      have hro:refOf (av2 u)=some r:=by rw [hav];rfl
      have hrb:=hB2.refs u huL r hro
      refine ⟨(i+1,upd av2 u (.own true r ((kd2 u).length+1)),(G2.set r (.pcells 1 (intsPV (kd2 u++[(i:Int)+1])))).set q o3), ?_,⟨by simp only;omega,hD3.congr fun h hh=>⟨rfl,by rw [← hkd h hh]⟩,fun h hh ks => ?_, ?_,fun j hj => ?_,fun h hh r' hr' => ?_⟩,by simp only;omega⟩
      · have hrp:=(hD2.away u huL).1
        have hrq:=(hD2.away u huL).2
        rw [hro] at hrp hrq
        simp only [ne_eq,Option.some.injEq] at hrp hrq
        have hob3:∀ X,(G2.set r X)[p]? = some (.cells 2 [[.own true q (i+1+1),.p (.int .i64 1)]]):=fun X=>by rw [List.getElem?_set,if_neg hrp];exact hob2
        have ho3:∀ X,(G2.set r X)[q]? = some o2:=fun X=>by rw [List.getElem?_set,if_neg hrq];exact ho2
        have il:=intsPV_len (kd2 u)
        have os:=intsPV_snoc (kd2 u) ((i:Int)+1)
        have ol:(intsPV (kd2 u++[(i:Int)+1])).length=(kd2 u).length+1:=by rw [intsPV_len];simp
        generalize kd2 u++[(i:Int)+1]=ks2 at os ol
        simp only [newD]
        simp -implicitDefEqProofs (disch:=omega) only [Rx,simprocAttr,B19x0,k1,hg,GRow.pv,attrsPV,hob,ho,happ,hG,hob1,hG2,hob2,ho2,hix2,hue,rdu,hr,il,os,ol,hob3,ho3,hw]
      · by_cases e:h=u
        · subst e;simp [upd]
        · simp only;rw [upd_ne e];exact h32 h hh ks
      · have:=hB2.len;simp;omega
      · have:=hB2.len
        simp only
        rw [List.getElem?_set,if_neg (by omega),List.getElem?_set,if_neg (by omega)];exact hB2.keep j hj
      · simp only at hr'
        by_cases e:h=u
        · subst e
          rw [upd_at] at hr'
          simp only [refOf,Option.some.injEq] at hr'
          omega
        · rw [upd_ne e] at hr';exact hB2.refs h hh r' hr'
    · exact absurd hav (h32 u huL _)
  · right
    obtain rfl:i=l.length:=by omega
    have k1:¬ (l.length:Int)<(l.length:Int):=by omega
    refine ⟨_, ?_, ?_,av,g,rfl,hD,hB⟩
    · simp only [newD]
      simp -implicitDefEqProofs (disch:=omega) only [Rx,simprocAttr,B19x0,k1]
    · simp
theorem new20_run (nx:Int) (g:List AObj) (n:Nat):acall T (n+1) 49 [.p (.int .i64 nx)] g=some (DP (g.length+1),g++[.cells 7 [nAV 0 holder .nils]]++[.cells 2 [[.own true g.length 1,.p (.int .i64 nx)]]]):=by
 rw [acall_code T49,run_code rfl rfl]
 have e:(g++[AObj.cells 7 [nAV 0 holder .nils]]).length=g.length+1:=by simp
 simp only [nAV,holder,List.map_nil,Int.natCast_zero] at e ⊢
 simp -implicitDefEqProofs (disch:=omega) only [Rx,simprocAttr,F49,e]
theorem S0_live (l:List GRow):liveL (S0 l)=List.range (l.length+1):=by
  unfold liveL
  refine List.filter_eq_self.2 fun c hc => ?_
  have hc:=List.mem_range.1 hc
  simp only [S0] at hc ⊢
  cases c with
  | zero=>rfl
  | succ j =>
    obtain ⟨x,hx⟩:=get_some (show j<l.length by omega)
    simp [st0,hx,nodeOf]
theorem newR_run (l:List GRow) (hl:l.length≤1048576) (hs:standTo l l.length) (g:List AObj) {n:Nat} (hn:l.length<n) :
  ∃ av g',acall T (n+2) 19 [.p (.list (l.map GRow.pv))] g=some (DP (g.length+1),g')∧DM (liveL (S0 l)) (S0 l).st (S0 l).kd (S0 l).N av (g.length+1) g.length g'∧Behind g (liveL (S0 l)) av g':=by
 have hn20:=new20_run 1 g n
 have hr1:List.range 1=[0]:=rfl
 have hD0:DM (List.range 1) (st0 l) (kd0 l 0) 1 (fun _ => .nils) (g.length+1) g.length (g++[.cells 7 [nAV 0 holder .nils]]++[.cells 2 [[.own true g.length 1,.p (.int .i64 1)]]]):=by
  refine ⟨⟨?_,⟨.cells 7 [nAV 0 holder .nils], ?_,.inl rfl⟩,by omega,List.nodup_range⟩,fun h hh => ?_,fun h hh=>by simp [refOf],fun h h' hh hh' hne => .inl rfl⟩
  ·rw [List.getElem?_append_right (by simp)];simp
  ·rw [List.append_assoc,List.getElem?_append_right (Nat.le_refl _)];simp
  ·exact .none
 have hB0:Behind g (List.range 1) (fun _ => .nils) (g++[.cells 7 [nAV 0 holder .nils]]++[.cells 2 [[.own true g.length 1,.p (.int .i64 1)]]]):=⟨by simp <;> omega,fun j hj=>by rw [List.append_assoc,List.getElem?_append_left hj],fun h hh r hr=>by cases hr⟩
 obtain ⟨r,hr,av,g2,rfl,hD,hB⟩:=newD_loop (C:=acall T (n+1)) (N:=n+1) l hl hs (by omega) g _ _ (g.length+1) g.length hD0 (fun h hh ks=>by simp) hB0 (by omega) (by omega)
 have hpl:=(List.getElem?_eq_some_iff.1 hD.core.obj).1
 have hob:=hD.core.obj
 have hll:(List.range (l.length+1)).length=l.length+1:=by simp
 rw [hll] at hob
 refine ⟨av,g2.set (g.length+1) (.cells 2 [[.own true g.length (l.length+1),.p (.int .i64 ((l.length:Int)+1))]]), ?_, ?_, ?_⟩
 ·generalize g++[AObj.cells 7 [nAV 0 holder .nils]]++[.cells 2 [[.own true g.length 1,.p (.int .i64 1)]]]=g1 at hn20 hr
  have ll:(l.map GRow.pv).length=l.length:=by simp
  simp only [newD,Int.natCast_zero] at hr
  rw [acall_code T19,run_code rfl rfl]
  simp -implicitDefEqProofs (disch:=omega) only [Rx,simprocAttr,F19,hn20,hr,hob,ll]
 ·rw [S0_live]
  have hne:=hD.core.pq
  refine ⟨⟨?_, ?_,hne,hD.core.nodup⟩,fun h hh=>(hD.kids h hh).keep fun r hr => ?_,hD.away,hD.disj⟩
  ·rw [List.getElem?_set,if_pos rfl,if_pos hpl,hll];simp [S0]
  ·obtain ⟨o,h1,h2⟩:=hD.core.row
   exact ⟨o,by rw [List.getElem?_set,if_neg hne];exact h1,h2⟩
  ·rw [List.getElem?_set,if_neg (fun e=>(hD.away h hh).1 (by rw [e];exact hr))]
 ·rw [S0_live]
  refine ⟨by simpa using hB.len,fun j hj => ?_,hB.refs⟩
  rw [List.getElem?_set,if_neg (by omega)];exact hB.keep j hj
end Tryz
end Go.TA


end
section
/- The rows of all below a node. Plain. -/
namespace Go.TA
def rowM (S:MS) (k up:Int):GRow:=⟨k,up,(S.st k.toNat).tag,(S.st k.toNat).key,(S.st k.toNat).text,(S.st k.toNat).attrs⟩
def belowM (S:MS):Nat→List GRow→Int→Int→List GRow
 | 0,out,_,_=>out
 | d+1,out,h,up=>(S.kd h.toNat).foldl (fun out k=>belowM S d (out++[rowM S k up]) k ((out.length:Int)+1)) out
def stepM (S:MS) (d:Nat) (up:Int) (out:List GRow) (k:Int):List GRow:=belowM S d (out++[rowM S k up]) k ((out.length:Int)+1)
def outI (S:MS) (d:Nat) (out:List GRow) (h:Nat) (up:Int) (i:Nat):List GRow:=((S.kd h).take i).foldl (stepM S d up) out
theorem outI_zero (S:MS) (d:Nat) (out:List GRow) (h:Nat) (up:Int):outI S d out h up 0=out:=rfl
theorem outI_succ {S:MS} {d:Nat} {out:List GRow} {h:Nat} {up:Int} {i:Nat} {k:Int} (hk:(S.kd h)[i]? = some k):outI S d out h up (i+1)=belowM S d (outI S d out h up i++[rowM S k up]) k (((outI S d out h up i).length:Int)+1):=by
 unfold outI
 rw [List.take_add_one,hk,List.foldl_append]
 rfl
theorem outI_all (S:MS) (d:Nat) (out:List GRow) (h:Nat) (up:Int):outI S d out h up (S.kd h).length=belowM S (d+1) out (h:Int) up:=by
 unfold outI
 rw [List.take_length,belowM,Int.toNat_natCast]
 rfl
structure PreO (S:MS) (out:List GRow) (h:Nat):Prop where
 nodup:(out.map GRow.id).Nodup
 rng:∀ x ∈ out,∃ c:Nat,x.id=(c:Int)∧c<S.N
 away:∀ x ∈ out,∀ c:Nat,x.id=(c:Int)→c≠h→¬ Below S (h:Int) (c:Int)
structure PostO (S:MS) (out:List GRow) (h:Nat) (out':List GRow):Prop where
 nodup:(out'.map GRow.id).Nodup
 rng:∀ x ∈ out',∃ c:Nat,x.id=(c:Int)∧c<S.N
 more:∃ more,out'=out++more∧∀ x ∈ more,∃ c:Nat,x.id=(c:Int)∧c<S.N∧c≠h∧Below S (h:Int) (c:Int)
theorem PostO.len {S:MS} {out out':List GRow} {h:Nat} (p:PostO S out h out'):out'.length≤S.N:=by
 have:=nodup_len S.N (out'.map GRow.id) p.nodup (fun k hk=>by
  obtain ⟨x,hx,rfl⟩:=List.mem_map.1 hk
  exact p.rng x hx)
 rwa [List.length_map] at this
section
variable {R:Nat} {S:MS} (hS:S.Ok R)
include hS
theorem kid_strict {h c:Nat} (hc:c<S.N) (hu:(S.st c).up=(h:Int)):c≠h:=by
 obtain ⟨r,_,hr⟩:=hS.rank
 have:=hr c h hc hu
 intro e;subst e;omega
theorem kid_pre {out : List GRow} {h i : Nat} {out1 : List GRow} {c : Nat} (up : Int) (hh : h < S.N) (hp : PreO S out h) (h1 : PostO S out h out1) (hm : ∀ more, out1 = out ++ more → ∀ x ∈ more, ∃ j, j < i ∧ ∃ k, (S.kd h)[j]? = some k ∧ Below S k x.id) (hk : (S.kd h)[i]? = some (c : Int)) (hc : c < S.N) (hu : (S.st c).up = (h : Int)) : PreO S (out1 ++ [rowM S (c : Int) up]) c := by
  have hkm:=List.mem_of_getElem? hk
  obtain ⟨more,hmore,hmo⟩:=h1.more
  have hst:=kid_strict hS hc hu
  have hmm:=hm more hmore
  have hkb:∀ y:Int,Below S (c:Int) y→Below S (h:Int) y:=fun y hb=>kid_below hS hh hkm hb
  have hap:∀ x ∈ more,¬ Below S (c:Int) x.id:=fun x hx hb=>by
    obtain ⟨j,hj,k,hk',hb'⟩:=hmm x hx
    have:=kids_apart hS hh hkm (List.mem_of_getElem? hk') hb hb'
    subst this
    have hjl:=(List.getElem?_eq_some_iff.1 hk').1
    have:=(List.getElem?_inj hjl (hS.nodup h hh)).1 (hk'.trans hk.symm)
    omega
  refine ⟨?_, ?_, ?_⟩
  · rw [List.map_append,List.nodup_append]
    refine ⟨h1.nodup,by simp,fun a ha b hb => ?_⟩
    simp only [List.map_cons,List.map_nil,List.mem_singleton,rowM] at hb
    subst hb
    obtain ⟨x,hx,rfl⟩:=List.mem_map.1 ha
    intro e
    rw [hmore] at hx
    rcases List.mem_append.1 hx with hx | hx
    · exact hp.away x hx c e hst (hkb _ .here)
    · exact hap x hx (by rw [e];exact .here)
  · intro x hx
    rcases List.mem_append.1 hx with hx | hx
    · exact h1.rng x hx
    · simp at hx;subst hx;exact ⟨c,rfl,hc⟩
  · intro x hx y hy hne hb
    rcases List.mem_append.1 hx with hx | hx
    · rw [hmore] at hx
      rcases List.mem_append.1 hx with hx | hx
      · refine hp.away x hx y hy (fun e => ?_) (hkb _ hb)
        subst e
        obtain ⟨r,_,hr⟩:=hS.rank
        have:=below_rank hS hr hb y rfl hh
        have:=hr c y hc hu
        omega
      · exact hap x hx (by rw [hy];exact hb)
    · simp at hx
      subst hx
      simp only [rowM] at hy
      omega
theorem post_of {out : List GRow} {d h i : Nat} {up : Int} (hh : h < S.N) (hp : PreO S out h) (hi : i < (S.kd h).length)
    (ih:PostO S out h (outI S d out h up i)∧∀ more,outI S d out h up i=out++more→∀ x ∈ more,∃ j,j<i∧∃ k,(S.kd h)[j]? = some k∧Below S k x.id)
    (hb:∀ (out:List GRow) (c:Nat) (up:Int),c<S.N→PreO S out c→PostO S out c (belowM S d out (c:Int) up)) :
    PostO S out h (outI S d out h up (i+1))∧∀ more,outI S d out h up (i+1)=out++more→∀ x ∈ more,∃ j,j<i+1∧∃ k,(S.kd h)[j]? = some k∧Below S k x.id:=by
  obtain ⟨h1,h2⟩:=ih
  obtain ⟨k,hk⟩:∃ k,(S.kd h)[i]? = some k:=⟨_,List.getElem?_eq_getElem (by omega)⟩
  have hkm:=List.mem_of_getElem? hk
  obtain ⟨c,rfl,hc,_,hu⟩:=hS.kids h hh k hkm
  have hpre:=kid_pre hS up hh hp h1 h2 hk hc hu
  have hpost:=hb _ c (((outI S d out h up i).length:Int)+1) hc hpre
  rw [← outI_succ hk] at hpost
  obtain ⟨more1,e1,m1⟩:=h1.more
  obtain ⟨more2,e2,m2⟩:=hpost.more
  have e3:outI S d out h up (i+1)=out++(more1++[rowM S (c:Int) up]++more2):=by rw [e2,e1];simp
  have hstr:=kid_strict hS hc hu
  refine ⟨⟨hpost.nodup,hpost.rng,_,e3,fun x hx => ?_⟩,fun more hm x hx => ?_⟩
  · rcases List.mem_append.1 hx with hx | hx
    · rcases List.mem_append.1 hx with hx | hx
      · exact m1 x hx
      · simp at hx;subst hx
        exact ⟨c,rfl,hc,hstr,kid_below hS hh hkm .here⟩
    · obtain ⟨y,hy,hyN,_,hyb⟩:=m2 x hx
      refine ⟨y,hy,hyN,fun e => ?_,kid_below hS hh hkm hyb⟩
      subst e
      obtain ⟨r,_,hr⟩:=hS.rank
      have:=below_rank hS hr hyb y rfl hh
      have:=hr c y hc hu
      omega
  · have:more=more1++[rowM S (c:Int) up]++more2:=by
      rw [e3] at hm
      exact (List.append_cancel_left hm).symm
    subst this
    rcases List.mem_append.1 hx with hx | hx
    · rcases List.mem_append.1 hx with hx | hx
      · obtain ⟨j,hj,r⟩:=h2 more1 e1 x hx
        exact ⟨j,by omega,r⟩
      · simp at hx;subst hx
        exact ⟨i,by omega,_,hk,.here⟩
    · obtain ⟨y,hy,_,_,hyb⟩:=m2 x hx
      exact ⟨i,by omega,_,hk,by rw [hy];exact hyb⟩
theorem post_zero {out:List GRow} {d h:Nat} {up:Int} (hp:PreO S out h):PostO S out h (outI S d out h up 0)∧∀ more,outI S d out h up 0=out++more→∀ x ∈ more,∃ j,j<0∧∃ k,(S.kd h)[j]? = some k∧Below S k x.id:=by
 have _:=hS
 refine ⟨⟨hp.nodup,hp.rng,[],by simp [outI_zero],by simp⟩,fun more hm x hx => ?_⟩
 rw [outI_zero] at hm
 have:more=[]:=by simpa using hm
 subst this;simp at hx
theorem below_post:∀ (d:Nat) (out:List GRow) (h:Nat) (up:Int),h<S.N→PreO S out h→PostO S out h (belowM S d out (h:Int) up)
  | 0,out,h,up,hh,hp=>⟨hp.nodup,hp.rng,[],by simp [belowM],by simp⟩
  | d + 1, out, h, up, hh, hp => by
    rw [← outI_all]
    have key:∀ i,i≤(S.kd h).length→PostO S out h (outI S d out h up i)∧∀ more,outI S d out h up i=out++more→∀ x ∈ more,∃ j,j<i∧∃ k,(S.kd h)[j]? = some k∧Below S k x.id:=by
      intro i
      induction i with
      | zero=>exact fun _=>post_zero hS hp
      | succ i ih=>exact fun hi=>post_of hS hh hp (by omega) (ih (by omega)) (fun out c up hc hp=>below_post d out c up hc hp)
    exact (key _ (Nat.le_refl _)).1
theorem post_all {out:List GRow} {d h:Nat} {up:Int} (hh:h<S.N) (hp:PreO S out h):∀ i,i≤(S.kd h).length→PostO S out h (outI S d out h up i)∧∀ more,outI S d out h up i=out++more→∀ x ∈ more,∃ j,j<i∧∃ k,(S.kd h)[j]? = some k∧Below S k x.id:=by
 intro i
 induction i with
 | zero=>exact fun _=>post_zero hS hp
 | succ i ih=>exact fun hi=>post_of hS hh hp (by omega) (ih (by omega)) (fun out c up hc hp=>below_post hS d out c up hc hp)
end
end Go.TA


end
section
/- A machine's rows, and its loose nodes. Plain. -/
namespace Go.TA
def rowsM (S:MS) (R:Nat):List GRow:=belowM S (R+1) [] 0 0
theorem pre_nil {S:MS}:PreO S [] 0:=⟨by simp,by simp,by simp⟩
theorem rowsM_len {R:Nat} {S:MS} (hS:S.Ok R) (R':Nat):(rowsM S R').length≤S.N:=(below_post hS (R'+1) [] 0 0 hS.pos pre_nil).len
def looseM (S:MS):List Int:=((liveL S).filter fun h:Nat => !(h==0) && decide ((S.st h).up<0)).map fun h:Nat=>(h:Int)
end Go.TA


end
section
/- A machine and the document's answer beside each other in memory. Plain. -/
namespace Go.TA
structure Both (S:MS) (g:List AObj) (av:Nat→AV) (rest:List AObj) (avD:Nat→AV) (p q:Nat):Prop where
 is:g=machG S.N S.st av rest
 mok:MOk S.N av S.kd rest
 dm:DM (liveL S) S.st S.kd S.N avD p q g
 p2:2≤p
 q2:2≤q
 refs2:∀ h,h ∈ liveL S→∀ r,refOf (avD h)=some r→2≤r
 apart:∀ h,h<S.N→∀ r,refOf (av h)=some r→r≠p∧r≠q∧∀ h',h' ∈ liveL S→refOf (avD h')≠some r
theorem DM.onto {L:List Nat} {st:Nat→MNode} {kd:Nat→List Int} {nx:Int} {av:Nat→AV} {p q:Nat} {g g':List AObj} (h:DM L st kd nx av p q g) (hp:g'[p]? = g[p]?) (hq:g'[q]? = g[q]?) (hr:∀ k,k ∈ L→∀ r,refOf (av k)=some r→g'[r]? = g[r]?):DM L st kd nx av p q g' where
 core:=⟨by rw [hp];exact h.core.obj,by rw [hq];exact h.core.row,h.core.pq,h.core.nodup⟩
 kids k hk:=(h.kids k hk).keep fun r e=>hr k hk r e
 away:=h.away
 disj:=h.disj
theorem DM.p_lt {L:List Nat} {st:Nat→MNode} {kd:Nat→List Int} {nx:Int} {av:Nat→AV} {p q:Nat} {g:List AObj} (h:DM L st kd nx av p q g):p<g.length:=(List.getElem?_eq_some_iff.1 h.core.obj).1
theorem DM.q_lt {L:List Nat} {st:Nat→MNode} {kd:Nat→List Int} {nx:Int} {av:Nat→AV} {p q:Nat} {g:List AObj} (h:DM L st kd nx av p q g):q<g.length:=by
 obtain ⟨o,ho,_⟩:=h.core.row
 exact (List.getElem?_eq_some_iff.1 ho).1
theorem mach_of {A B:AObj} {g:List AObj} (h0:g[0]? = some A) (h1:g[1]? = some B):g=A::B::g.drop 2:=by
  match g,h0,h1 with
  | a :: b :: r, h0, h1 =>
    simp only [List.getElem?_cons_zero,List.getElem?_cons_succ,Option.some.injEq] at h0 h1
    simp [h0,h1]
theorem Both.step {S S' : MS} {g : List AObj} {av : Nat → AV} {rest : List AObj} {avD : Nat → AV} {p q : Nat} (h : Both S g av rest avD p q) {av' : Nat → AV} {rest' : List AObj} (hf : Fr S.N av rest S'.N av' rest') (hm : MOk S'.N av' S'.kd rest') {avD' : Nat → AV} {q' : Nat} {g' : List AObj} (hd : DM (liveL S') S'.st S'.kd S'.N avD' p q' g') (hfd : DFr (liveL S) avD p q (machG S'.N S'.st av' rest') (liveL S') avD' q' g') :
    ∃ rest2,Both S' g' av' rest2 avD' p q':=by
  have hg:g.length=rest.length+2:=by rw [h.is];simp [machG]
  have hlen:(machG S'.N S'.st av' rest').length=rest'.length+2:=by simp [machG]
  have hlr:=hf.len
  have hap:∀ k,k<S'.N→∀ r,refOf (av' k)=some r→r≠p∧r≠q∧(∀ h',h' ∈ liveL S→refOf (avD h')≠some r)∧r<rest'.length+2:=fun k hk r hr=>by
    have hlt:=(hm.kids k hk).ref_lt hr
    have h2:2≤r:=by
      rcases (hm.kids k hk).inv with ⟨e,_⟩ | ⟨i,e,_⟩ | e
      · rw [e] at hr;cases hr
      · rw [e] at hr;simp only [refOf,Option.some.injEq] at hr;omega
      · rw [e] at hr;cases hr
    obtain ⟨i,rfl⟩:∃ i,r=i+1+1:=⟨r - 2,by omega⟩
    by_cases hi:i<rest.length
    · obtain ⟨k0,hk0,e0⟩:=hf.refs k hk i hr hi
      obtain ⟨a1,a2,a3⟩:=h.apart k0 hk0 _ e0
      exact ⟨a1,a2,a3,by omega⟩
    · have hp:=h.dm.p_lt
      have hq:=h.dm.q_lt
      refine ⟨by omega,by omega,fun h' hh' e => ?_,by omega⟩
      have:=(h.dm.kids h' hh').ref_lt e
      omega
  have keep:∀ j,j<rest'.length+2→j≠p→j≠q→(∀ h',h' ∈ liveL S→refOf (avD h')≠some j)→g'[j]? = (machG S'.N S'.st av' rest')[j]? := fun j hj=>hfd.keep j (by omega)
  have hp2:=h.p2
  have hq2:=h.q2
  have e0:g'[0]? = some (.cells 7 (rowsAV S'.N S'.st av')):=by
    rw [keep 0 (by omega) (by omega) (by omega) fun h' hh' e=>by have:=h.refs2 h' hh' 0 e;omega];rfl
  have e1:g'[1]? = some (.cells 1 [[.own true 0 S'.N]]):=by
    rw [keep 1 (by omega) (by omega) (by omega) fun h' hh' e=>by have:=h.refs2 h' hh' 1 e;omega];rfl
  have his:=mach_of e0 e1
  refine ⟨g'.drop 2,his,⟨fun k hk => ?_,hm.disj⟩,hd,h.p2, ?_,fun k hk r hr => ?_,fun k hk r hr => ?_⟩
  · rcases (hm.kids k hk).inv with ⟨e,e2⟩ | ⟨i,e,hi⟩ | e
    · rw [e,e2];exact .none
    · have hr:refOf (av' k)=some (i+1+1):=by rw [e];rfl
      obtain ⟨a1,a2,a3,a4⟩:=hap k hk _ hr
      rw [e]
      refine .own ?_
      rw [List.getElem?_drop,show 2+i=i+1+1 by omega,keep _ a4 a1 a2 a3]
      simpa [machG] using hi
    · rw [e];exact .list
  · rcases hfd.row with e | e
    · omega
    · omega
  · by_cases hlt:r<(machG S'.N S'.st av' rest').length
    · obtain ⟨k0,hk0,e⟩:=hfd.refs k hk r hr hlt
      exact h.refs2 k0 hk0 r e
    · omega
  · obtain ⟨a1,a2,a3,a4⟩:=hap k hk r hr
    refine ⟨a1, ?_,fun h' hh' e => ?_⟩
    · rcases hfd.row with e | e <;> omega
    · by_cases hlt:r<(machG S'.N S'.st av' rest').length
      · obtain ⟨k0,hk0,e2⟩:=hfd.refs h' hh' r e hlt
        exact a3 k0 hk0 e2
      · omega
theorem Both.more {S:MS} {g:List AObj} {av:Nat→AV} {rest:List AObj} {avD:Nat→AV} {p q:Nat} (h:Both S g av rest avD p q) (X:List AObj):Both S (g++X) av (rest++X) avD p q where
 is:=by rw [h.is];simp [machG]
 mok:=⟨fun k hk=>(h.mok.kids k hk).more _,h.mok.disj⟩
 dm:=h.dm.onto (List.getElem?_append_left h.dm.p_lt) (List.getElem?_append_left h.dm.q_lt) fun k hk r hr=>List.getElem?_append_left ((h.dm.kids k hk).ref_lt hr)
 p2:=h.p2
 q2:=h.q2
 refs2:=h.refs2
 apart:=h.apart
end Go.TA


end
section
/- Rows, and numbers, held against themselves. -/
set_option maxRecDepth 100000
set_option maxHeartbeats 8000000
namespace Go.TA.Tryz
theorem attrsEq_run (l:List Attr) (hl:l.length≤4194304) (g:List AObj) {n:Nat} (hn:l.length<n):acall T (n+1) 60 [.p (.list (l.map Attr.pv)),.p (.list (l.map Attr.pv))] g=some (.p (.bool true),g):=by
 have ll:(l.map Attr.pv).length=l.length:=by simp
 have hl:=loop_rule' (C:=acall T n) (N:=n) (B:=B60x0) (σ := Nat) (S:=fun i=>⟨[(0,.p (.list (l.map Attr.pv))),(1,.p (.list (l.map Attr.pv))),(12,.p (.int .i64 l.length)),(13,.p (.int .i64 i))],[],[]⟩) (I:=fun i=>i≤l.length) (μ := fun i=>l.length - i) (Φ := fun i=>(.exit 0,⟨[],[],[]⟩)) ?_ 0 (by omega) (by omega)
 ·rw [acall_code T60,run_pure rfl rfl rfl]
  simp only [Int.natCast_zero] at hl
  simp -implicitDefEqProofs (disch:=omega) only [Rx,simprocAttr,F60,hl,ll]
 intro i hi
 by_cases h:i<l.length
 ·left
  obtain ⟨x,hx⟩:=get_some h
  have hg:=getD_map (f:=Attr.pv) hx
  have k1:(i:Int)<(l.length:Int):=by omega
  refine ⟨i+1, ?_,by omega,by omega,rfl⟩
  simp -implicitDefEqProofs (disch:=omega) only [Rx,simprocAttr,B60x0,k1,ll,hg,Attr.pv,Bool.and_self]
 ·right
  obtain rfl:i=l.length:=by omega
  have k1:¬ (l.length:Int)<(l.length:Int):=by omega
  refine ⟨?_,by simp⟩
  simp -implicitDefEqProofs (disch:=omega) only [Rx,simprocAttr,B60x0,k1]
theorem shapesEq_run (l:List GRow) (hl:l.length≤8589934592) (ha:∀ x ∈ l,x.attrs.length≤4194304) (g:List AObj) {n:Nat} (hn:l.length<n) (hn2:4194304<n):acall T (n+2) 34 [.p (.list (l.map GRow.pv)),.p (.list (l.map GRow.pv))] g=some (.p (.bool true),g):=by
 have ll:(l.map GRow.pv).length=l.length:=by simp
 have hl:=loop_rule' (C:=acall T (n+1)) (N:=n+1) (B:=B34x0) (σ := Nat) (S:=fun i=>⟨[(0,.p (.list (l.map GRow.pv))),(1,.p (.list (l.map GRow.pv))),(14,.p (.int .i64 l.length)),(15,.p (.int .i64 i))],[],[]⟩) (I:=fun i=>i≤l.length) (μ := fun i=>l.length - i) (Φ := fun i=>(.exit 0,⟨[],[],[]⟩)) ?_ 0 (by omega) (by omega)
 ·rw [acall_code T34,run_pure rfl rfl rfl]
  simp only [Int.natCast_zero] at hl
  simp -implicitDefEqProofs (disch:=omega) only [Rx,simprocAttr,F34,hl,ll]
 intro i hi
 by_cases h:i<l.length
 ·left
  obtain ⟨x,hx⟩:=get_some h
  have hg:=getD_map (f:=GRow.pv) hx
  have k1:(i:Int)<(l.length:Int):=by omega
  have hat:=fun g=>attrsEq_run x.attrs (ha x (List.mem_of_getElem? hx)) g (n:=n) (by have:=ha x (List.mem_of_getElem? hx);omega)
  refine ⟨i+1, ?_,by omega,by omega,rfl⟩
  simp -implicitDefEqProofs (disch:=omega) only [Rx,simprocAttr,B34x0,k1,ll,hg,GRow.pv,attrsPV,hat]
 ·right
  obtain rfl:i=l.length:=by omega
  have k1:¬ (l.length:Int)<(l.length:Int):=by omega
  refine ⟨?_,by simp⟩
  simp -implicitDefEqProofs (disch:=omega) only [Rx,simprocAttr,B34x0,k1]
theorem rowsEq_run (l:List GRow) (hl:l.length≤8589934592) (ha:∀ x ∈ l,x.attrs.length≤4194304) (g:List AObj) {n:Nat} (hn:l.length<n) (hn2:4194304<n):acall T (n+3) 21 [.p (.list (l.map GRow.pv)),.p (.list (l.map GRow.pv))] g=some (.p (.bool true),g):=by
 have ll:(l.map GRow.pv).length=l.length:=by simp
 have hsh:=fun g=>shapesEq_run l hl ha g (n:=n) hn hn2
 have hl:=loop_rule' (C:=acall T (n+2)) (N:=n+2) (B:=B21x0) (σ := Nat) (S:=fun i=>⟨[(0,.p (.list (l.map GRow.pv))),(1,.p (.list (l.map GRow.pv))),(12,.p (.int .i64 l.length)),(13,.p (.int .i64 i))],[],[]⟩) (I:=fun i=>i≤l.length) (μ := fun i=>l.length - i) (Φ := fun i=>(.exit 0,⟨[(0,.p (.list (l.map GRow.pv))),(1,.p (.list (l.map GRow.pv)))],[],[]⟩)) ?_ 0 (by omega) (by omega)
 ·rw [acall_code T21,run_pure rfl rfl rfl]
  simp only [Int.natCast_zero] at hl
  simp -implicitDefEqProofs (disch:=omega) only [Rx,simprocAttr,F21,hl,ll,hsh]
 intro i hi
 by_cases h:i<l.length
 ·left
  obtain ⟨x,hx⟩:=get_some h
  have hg:=getD_map (f:=GRow.pv) hx
  have k1:(i:Int)<(l.length:Int):=by omega
  refine ⟨i+1, ?_,by omega,by omega,rfl⟩
  simp -implicitDefEqProofs (disch:=omega) only [Rx,simprocAttr,B21x0,k1,ll,hg,GRow.pv]
 ·right
  obtain rfl:i=l.length:=by omega
  have k1:¬ (l.length:Int)<(l.length:Int):=by omega
  refine ⟨?_,by simp⟩
  simp -implicitDefEqProofs (disch:=omega) only [Rx,simprocAttr,B21x0,k1]
end Go.TA.Tryz


end
section
/- The document's answer: its rows, its loose nodes. -/
set_option maxRecDepth 100000
set_option maxHeartbeats 8000000
namespace Go.TA
namespace Tryz
section
variable {R:Nat} {S:MS} {nx:Int} {av:Nat→AV} {p q:Nat} {g:List AObj}
theorem bel_body (hS : S.Ok R) (hN : S.N ≤ 8589934592) (hD : DM (liveL S) S.st S.kd nx av p q g) (hL : (liveL S).length ≤ 4194304) (m : Nat) (hm : (liveL S).length + 1 < m) (d h : Nat) (up : Int) (out : List GRow) (hh : h ∈ liveL S) (hp : PreO S out h) (hol : out.length ≤ S.N)
    (ih:∀ c:Nat,c ∈ liveL S→(S.st c).up=(h:Int)→∀ (out:List GRow) (up:Int),out.length≤S.N→PreO S out c→acall T m 50 [DP p,.own true g.length out.length,.p (.int .i64 c),.p (.int .i64 up)] (g++[.pcells 6 (out.map GRow.pv)])=some (.own true g.length (belowM S d out (c:Int) up).length,g++[.pcells 6 ((belowM S d out (c:Int) up).map GRow.pv)])) :
    acall T (m+1) 50 [DP p,.own true g.length out.length,.p (.int .i64 h),.p (.int .i64 up)] (g++[.pcells 6 (out.map GRow.pv)])=some (.own true g.length (belowM S (d+1) out (h:Int) up).length,g++[.pcells 6 ((belowM S (d+1) out (h:Int) up).map GRow.pv)]):=by
  have hhN:=(mem_liveL.1 hh).1
  have hK:=hD.kids h hh
  have hkl:=kd_len hS hhN
  have hDX:=fun X=>hD.core.more [X]
  obtain ⟨o,ho,hrep⟩:=hD.core.row
  have hpl:=(List.getElem?_eq_some_iff.1 hD.core.obj).1
  have hql:=(List.getElem?_eq_some_iff.1 ho).1
  have hob:∀ X,(g++[X])[p]? = some (.cells 2 [[.own true q (liveL S).length,.p (.int .i64 nx)]]):=fun X=>by rw [List.getElem?_append_left hpl];exact hD.core.obj
  have hoX:∀ X,(g++[X])[q]? = some o:=fun X=>by rw [List.getElem?_append_left hql];exact ho
  have hlast:∀ X,(g++[X])[g.length]? = some X:=fun X=>by simp
  have hsetX:∀ X Y,(g++[X]).set g.length Y=g++[Y]:=fun X Y=>by simp [List.set_append]
  have hix:=fun s i=>hrep.idx rowsD_len s true q i
  have hatX:=fun X id=>at_run (hDX X) hL id (n:=m - 1) (by omega)
  rw [show m - 1+1=m by omega] at hatX
  have il:=intsPV_len (S.kd h)
  obtain ⟨ih0,hph,hih⟩:=posL_in hh
  have lh:=(List.getElem?_eq_some_iff.1 hih).1
  have kh:(ih0:Int)<((liveL S).length:Int):=by omega
  have rdh:=rd_node hrep hih (j:=2) (by omega)
  simp only [nAV] at rdh
  have hath:=fun X=>hatX X (h:Int)
  simp only [hph] at hath
  have hinv:=post_all hS (d:=d) (up:=up) hhN hp
  have hloop:aexec (acall T m) m (.loop B50x0) ⟨[(0,DP p),(1,.own true g.length out.length),(3,.p (.int .i64 up)),(9,av h),(23,.p (.int .i64 (S.kd h).length)),(24,.p (.int .i64 0))],[],g++[.pcells 6 (out.map GRow.pv)]⟩=some (.exit 0,⟨[(1,.own true g.length (belowM S (d+1) out (h:Int) up).length)],[],g++[.pcells 6 ((belowM S (d+1) out (h:Int) up).map GRow.pv)]⟩):=by
    have key:=loop_inv (C:=acall T m) (N:=m) (B:=B50x0) (σ := Nat) (S:=fun i=>⟨[(0,DP p),(1,.own true g.length (outI S d out h up i).length),(3,.p (.int .i64 up)),(9,av h),(23,.p (.int .i64 (S.kd h).length)),(24,.p (.int .i64 i))],[],g++[.pcells 6 ((outI S d out h up i).map GRow.pv)]⟩)
      (I:=fun i=>i≤(S.kd h).length) (μ := fun i=>(S.kd h).length - i) (Q:=fun z=>z=(.exit 0,⟨[(1,.own true g.length (belowM S (d+1) out (h:Int) up).length)],[],g++[.pcells 6 ((belowM S (d+1) out (h:Int) up).map GRow.pv)]⟩)) ?_ 0 (by omega) (by omega)
    · obtain ⟨z,hz,rfl⟩:=key
      rw [outI_zero] at hz
      exact hz
    intro i hi
    by_cases hil:i<(S.kd h).length
    · left
      obtain ⟨k,hk⟩:∃ k,(S.kd h)[i]? = some k:=⟨_,List.getElem?_eq_getElem hil⟩
      have hkm:=List.mem_of_getElem? hk
      obtain ⟨c,rfl,hc,hcl,hcu⟩:=hS.kids h hhN k hkm
      have hcL:c ∈ liveL S:=mem_liveL.2 ⟨hc,hcl⟩
      obtain ⟨hpo,hpm⟩:=hinv i hi
      have hpre:=kid_pre hS up hhN hp hpo hpm hk hc hcu
      have hol1:=hpo.len
      have ho1:=outI_succ (S:=S) (d:=d) (out:=out) (up:=up) hk
      have hol2:(outI S d out h up i++[rowM S (c:Int) up]).length≤S.N:=by
        have:=nodup_len S.N _ hpre.nodup (fun k hk=>by
          obtain ⟨x,hx,rfl⟩:=List.mem_map.1 hk
          exact hpre.rng x hx)
        rwa [List.length_map] at this
      have ihc:=ih c hcL hcu _ (((outI S d out h up i).length:Int)+1) hol2 hpre
      rw [← ho1] at ihc
      refine ⟨i+1, ?_,by omega,by omega⟩
      generalize outI S d out h up i=o1 at hol1 hol2 ihc ⊢
      generalize outI S d out h up (i+1)=o2 at ihc ⊢
      have k2:(i:Int)<((S.kd h).length:Int):=by omega
      have hg:=intsPV_get hk
      obtain ⟨ic,hpc,hic⟩:=posL_in hcL
      have lc:=(List.getElem?_eq_some_iff.1 hic).1
      have kc:(ic:Int)<((liveL S).length:Int):=by omega
      have hatc:=fun X=>hatX X (c:Int)
      simp only [hpc] at hatc
      have rdA:=hrep.rdA rowsD_len lc (rowsD_get hic) rfl
      have os:o1.map GRow.pv++[[.int .i64 (c:Int),.int .i64 up,.str (S.st c).tag,.str (S.st c).key,.str (S.st c).text,.list ((S.st c).attrs.map Attr.pv)]]=(o1++[rowM S (c:Int) up]).map GRow.pv:=by
        rw [List.map_append];rfl
      have ol1:(o1.map GRow.pv).length=o1.length:=by simp
      have ol2:(o1++[rowM S (c:Int) up]).length=o1.length+1:=by simp
      rw [ol2] at ihc
      have ol3:((o1++[rowM S (c:Int) up]).map GRow.pv).length=o1.length+1:=by simp
      generalize o1++[rowM S (c:Int) up]=o3 at os ihc ol3
      have hKc:=hD.kids c hcL
      rcases hK.inv with ⟨_,hk0⟩ | ⟨r,hav,hr⟩ | hav
      · rw [hk0] at hil;simp at hil
      · have hrl:=(List.getElem?_eq_some_iff.1 hr).1
        have hrX:∀ X,(g++[X])[r]? = some (.pcells 1 (intsPV (S.kd h))):=fun X=>by rw [List.getElem?_append_left hrl];exact hr
        rcases hKc.inv with ⟨hav2,_⟩ | ⟨r2,hav2,_⟩ | hav2
        all_goals
          simp only [nAV,hav2] at rdA
          simp only [hav]
          simp -implicitDefEqProofs (disch:=omega) only [Rx,simprocAttr,sameG_self,B50x0,k2,hg,il,hob,hoX,hrX,hlast,hsetX,hix,hatc,rdA,ofCells,PV.sameLL_self,os,ol1,ol3,ihc]
      · rcases hKc.inv with ⟨hav2,_⟩ | ⟨r2,hav2,_⟩ | hav2
        all_goals
          simp only [nAV,hav2] at rdA
          simp only [hav]
          simp -implicitDefEqProofs (disch:=omega) only [Rx,simprocAttr,sameG_self,B50x0,k2,hg,il,hob,hoX,hlast,hsetX,hix,hatc,rdA,ofCells,PV.sameLL_self,os,ol1,ol3,ihc]
    · right
      obtain rfl:i=(S.kd h).length:=by omega
      have k2:¬ ((S.kd h).length:Int)<((S.kd h).length:Int):=by omega
      refine ⟨_, ?_, ?_,rfl⟩
      · rw [outI_all]
        generalize belowM S (d+1) out (h:Int) up=o1
        rcases hK.inv with ⟨hav,_⟩ | ⟨r,hav,_⟩ | hav
        all_goals
          simp only [hav]
          simp -implicitDefEqProofs (disch:=omega) only [Rx,simprocAttr,B50x0,k2]
      · simp
  rw [acall_code T50,run_code rfl rfl]
  generalize belowM S (d+1) out (h:Int) up=o2 at hloop ⊢
  rcases hK.inv with ⟨hav,hk0⟩ | ⟨r,hav,hr⟩ | hav
  · simp only [hk0,hav,List.length_nil,Int.natCast_zero] at hloop rdh
    simp -implicitDefEqProofs (disch:=omega) only [Rx,simprocAttr,F50,hob,hoX,hix,hath,rdh,hloop]
  · have hrl:=(List.getElem?_eq_some_iff.1 hr).1
    have hrX:∀ X,(g++[X])[r]? = some (.pcells 1 (intsPV (S.kd h))):=fun X=>by rw [List.getElem?_append_left hrl];exact hr
    simp only [hav] at hloop rdh
    simp -implicitDefEqProofs (disch:=omega) only [Rx,simprocAttr,F50,hob,hoX,hix,hath,rdh,hloop]
  · simp only [hav] at hloop rdh
    simp -implicitDefEqProofs (disch:=omega) only [Rx,simprocAttr,F50,hob,hoX,hix,hath,rdh,hloop,il]
theorem bel_gen (hS:S.Ok R) (hN:S.N≤8589934592) (hD:DM (liveL S) S.st S.kd nx av p q g) (hL:(liveL S).length≤4194304) {r:Nat→Nat} (hr1:∀ c,c<S.N→r c≤R) (hr2:∀ c p:Nat,c<S.N→(S.st c).up=(p:Int)→r p<r c) (n:Nat) (hn:(liveL S).length+1<n) :
    ∀ (d h : Nat) (up : Int) (out : List GRow), h ∈ liveL S → R ≤ r h + d → out.length ≤ S.N → PreO S out h →
      acall T (n+d+1) 50 [DP p,.own true g.length out.length,.p (.int .i64 h),.p (.int .i64 up)] (g++[.pcells 6 (out.map GRow.pv)])=some (.own true g.length (belowM S (d+1) out (h:Int) up).length,g++[.pcells 6 ((belowM S (d+1) out (h:Int) up).map GRow.pv)]):=by
  intro d
  induction d with
  | zero =>
    intro h up out hh hR hol hp
    exact bel_body hS hN hD hL n hn 0 h up out hh hp hol (fun c hc hcu=>by
      have:=hr1 c (mem_liveL.1 hc).1
      have:=hr2 c h (mem_liveL.1 hc).1 hcu
      omega)
  | succ d ih =>
    intro h up out hh hR hol hp
    exact bel_body hS hN hD hL (n+d+1) (by omega) (d+1) h up out hh hp hol (fun c hc hcu out up hol hp=>by
      have:=hr2 c h (mem_liveL.1 hc).1 hcu
      exact ih c up out hc (by omega) hol hp)
theorem Read_run (hS:S.Ok R) (hN:S.N≤8589934592) (hD:DM (liveL S) S.st S.kd nx av p q g) (hL:(liveL S).length≤4194304) {n:Nat} (hn:(liveL S).length+1<n) :
  acall T (n+R+2) 22 [DP p] g=some (.own true g.length (rowsM S R).length,g++[.pcells 6 ((rowsM S R).map GRow.pv)]):=by
 obtain ⟨r,hr1,hr2⟩:=hS.rank
 have h0:(0:Nat) ∈ liveL S:=mem_liveL.2 ⟨hS.pos,hS.top.1⟩
 have hr:=bel_gen hS hN hD hL hr1 hr2 n hn R 0 0 [] h0 (by omega) (by simp) pre_nil
 simp only [Int.natCast_zero,List.map_nil,List.length_nil] at hr
 rw [acall_code T22,run_code rfl rfl]
 unfold rowsM
 generalize belowM S (R+1) [] 0 0=o at hr ⊢
 simp -implicitDefEqProofs (disch:=omega) only [Rx,simprocAttr,F22,hr]
end
end Tryz
end Go.TA


end
section
/- Rows that stand as a tree's do: the document's answer. -/
set_option maxRecDepth 100000
set_option maxHeartbeats 8000000
namespace Go.TA.Tryz
def rowsPV (l:List GRow):AV:=.p (.list (l.map GRow.pv))
def aboveOut (r:Bool):Ex × St:=if r=true then (.ret,⟨[(6,.p (.bool true))],[],[]⟩) else (.exit 0,⟨[],[],[]⟩)
theorem up_val {l:List GRow} {i x:Nat} (h:standTo l i) (hi:i≤l.length) (hx:x<i):∃ r,l[x]? = some r∧r.up=(upAt l (x+1):Int):=by
 obtain ⟨r,hr⟩:=get_some (show x<l.length by omega)
 refine ⟨r,hr, ?_⟩
 have:=h x r hx hr
 simp [upAt,hr]
 omega
theorem above_loop {n N : Nat} (l : List GRow) (h : Int) (i : Nat) (hs : standTo l i) (hi : i ≤ l.length) (hl : l.length ≤ 1048576) (hN : i < N) :
    aexec (acall T n) N (.loop B62x0) ⟨[(0,.p (.list (l.map GRow.pv))),(2,.p (.int .i64 h)),(7,.p (.int .i64 (i:Int)))],[],[]⟩=some (aboveOut (aboveB l i h)):=by
  refine loop_rule' (C:=acall T n) (N:=N) (B:=B62x0) (σ := Nat) (S:=fun x=>⟨[(0,.p (.list (l.map GRow.pv))),(2,.p (.int .i64 h)),(7,.p (.int .i64 x))],[],[]⟩) (I:=fun x=>x≤i) (μ := fun x=>x)
    (Φ := fun x=>aboveOut (aboveB l x h)) ?_ i (Nat.le_refl _) hN
  intro x hx
  cases x with
  | zero =>
    refine .inr ⟨?_,by simp [aboveB,chain_zero,aboveOut]⟩
    have e:aboveOut (aboveB l 0 h)=(.exit 0,⟨[],[],[]⟩):=by simp [aboveB,chain_zero,aboveOut]
    rw [e]
    simp -implicitDefEqProofs (disch:=omega) only [Rx,simprocAttr,B62x0,Int.natCast_zero]
  | succ x =>
    obtain ⟨r,hr,hu⟩:=up_val hs hi (show x<i by omega)
    have hg:=getD_map (f:=GRow.pv) hr
    have k1:(0:Int)<(x:Int)+1:=by omega
    have k2:(x:Int)<(l.length:Int):=by omega
    have hc:=chain_succ hs hi (show x<i by omega)
    by_cases he:((x:Int)+1)=h
    · have e:aboveB l (x+1) h=true:=by
        simp only [aboveB,hc,List.any_cons,Bool.or_eq_true,beq_iff_eq]
        left;push_cast;exact he
      have he':((x:Int)+1==h)=true:=by simpa using he
      refine .inr ⟨?_,by rw [e];simp [aboveOut]⟩
      rw [e]
      simp -implicitDefEqProofs (disch:=omega) only [Rx,simprocAttr,B62x0,k1,he',aboveOut]
    · have e:aboveB l (x+1) h=aboveB l (upAt l (x+1)) h:=by
        simp only [aboveB,hc,List.any_cons]
        have:(((x+1:Nat):Int)==h)=false:=by simp;omega
        rw [this,Bool.false_or]
      have he':((x:Int)+1==h)=false:=by simpa using he
      have hle:=upAt_le hs (show x<i by omega) (by omega)
      refine .inl ⟨upAt l (x+1), ?_,by omega,by omega,by rw [e]⟩
      simp -implicitDefEqProofs (disch:=omega) only [Rx,simprocAttr,B62x0,k1,k2,he',hg,GRow.pv,hu]
theorem above_run (l:List GRow) (h:Int) (i:Nat) (hs:standTo l i) (hi:i≤l.length) (hl:l.length≤1048576) (g:List AObj) {n:Nat} (hn:i<n) :
    acall T (n+1) 62 [.p (.list (l.map GRow.pv)),.p (.int .i64 i),.p (.int .i64 h)] g=some (.p (.bool (aboveB l i h)),g):=by
  rw [acall_code T62,run_pure rfl rfl rfl]
  have hloop:=above_loop (n:=n) (N:=n) l h i hs hi hl hn
  cases hb:aboveB l i h with
  | true =>
    rw [hb] at hloop
    simp only [aboveOut,if_true] at hloop
    simp -implicitDefEqProofs (disch:=omega) only [Rx,simprocAttr,F62,hloop]
  | false =>
    rw [hb] at hloop
    simp only [aboveOut,Bool.false_eq_true,if_false] at hloop
    simp -implicitDefEqProofs (disch:=omega) only [Rx,simprocAttr,F62,hloop]
theorem depth_loop {n N:Nat} (l:List GRow) (i:Nat) (hs:standTo l i) (hi:i≤l.length) (hl:l.length≤1048576) (hN:i<N) :
    aexec (acall T n) N (.loop B39x0) ⟨[(0,.p (.list (l.map GRow.pv))),(1,.p (.int .i64 (i:Int))),(5,.p (.int .i64 ((0:Nat):Int)))],[],[]⟩=some (.exit 0,⟨[(5,.p (.int .i64 ((chain l i).length:Int)))],[],[]⟩):=by
  have:=loop_rule' (C:=acall T n) (N:=N) (B:=B39x0) (σ := Nat × Nat) (S:=fun s=>⟨[(0,.p (.list (l.map GRow.pv))),(1,.p (.int .i64 s.1)),(5,.p (.int .i64 s.2))],[],[]⟩) (I:=fun s=>s.1≤i∧s.2+s.1≤i) (μ := fun s=>s.1)
    (Φ := fun s=>(.exit 0,⟨[(5,.p (.int .i64 ((s.2+(chain l s.1).length:Nat):Int)))],[],[]⟩)) ?_ (i,0) ⟨Nat.le_refl _,by simp⟩ hN
  · simpa using this
  rintro ⟨x,d⟩ ⟨hx,hd⟩
  simp only at hx hd ⊢
  cases x with
  | zero =>
    refine .inr ⟨?_,by simp⟩
    simp only [chain_zero,List.length_nil,Nat.add_zero]
    simp -implicitDefEqProofs (disch:=omega) only [Rx,simprocAttr,B39x0,Int.natCast_zero]
  | succ x =>
    obtain ⟨r,hr,hu⟩:=up_val hs hi (show x<i by omega)
    have hg:=getD_map (f:=GRow.pv) hr
    have k1:(0:Int)<(x:Int)+1:=by omega
    have k2:(x:Int)<(l.length:Int):=by omega
    have hc:=chain_succ hs hi (show x<i by omega)
    have hle:=upAt_le hs (show x<i by omega) (by omega)
    refine .inl ⟨(upAt l (x+1),d+1), ?_,⟨by omega,by simp only;omega⟩,by simp only;omega, ?_⟩
    · simp -implicitDefEqProofs (disch:=omega) only [Rx,simprocAttr,B39x0,k1,k2,hg,GRow.pv,hu]
    · rw [hc,List.length_cons];congr 6;simp only;omega
theorem depth_run (l:List GRow) (i:Nat) (hs:standTo l i) (hi:i≤l.length) (hl:l.length≤1048576) (g:List AObj) {n:Nat} (hn:i<n) :
  acall T (n+1) 39 [.p (.list (l.map GRow.pv)),.p (.int .i64 i)] g=some (.p (.int .i64 (chain l i).length),g):=by
 rw [acall_code T39,run_pure rfl rfl rfl]
 have hloop:=depth_loop (n:=n) (N:=n) l i hs hi hl hn
 simp only [Int.natCast_zero] at hloop
 simp -implicitDefEqProofs (disch:=omega) only [Rx,simprocAttr,F39,hloop]
def formOut (k:Nat) (r:Bool):Ex × St:=if r=true then (.exit 0,⟨[],[],[]⟩) else (.ret,⟨[(k,.p (.bool false))],[],[]⟩)
theorem form13_loop {n N : Nat} (l : List GRow) (hl : l.length ≤ 1048576) (hN : l.length < N) (hn : l.length < n) :
    aexec (acall T (n+1)) N (.loop B38x0) ⟨[(0,.p (.list (l.map GRow.pv))),(5,.p (.int .i64 l.length)),(6,.p (.int .i64 ((0:Nat):Int)))],[],[]⟩=some (formOut 2 (formedB l)):=by
  have:=loop_rule' (C:=acall T (n+1)) (N:=N) (B:=B38x0) (σ := Nat) (S:=fun i=>⟨[(0,.p (.list (l.map GRow.pv))),(5,.p (.int .i64 l.length)),(6,.p (.int .i64 i))],[],[]⟩) (I:=fun i=>i≤l.length∧standTo l i) (μ := fun i=>l.length - i)
    (Φ := fun i=>formOut 2 (formedFrom l i (l.drop i))) ?_ 0 ⟨by omega,standTo_zero l⟩ (by omega)
  · simpa [formedB] using this
  rintro i ⟨hi,hs⟩
  by_cases h:i<l.length
  · have k1:(i:Int)<(l.length:Int):=by omega
    obtain ⟨x,hx⟩:=get_some h
    have hg:=getD_map (f:=GRow.pv) hx
    have hd:l.drop i=x::l.drop (i+1):=by rw [List.drop_eq_getElem?_toList_append,hx];rfl
    rw [hd]
    have bad:rowOkB l i x=false→formOut 2 (formedFrom l i (x::l.drop (i+1)))=(.ret,⟨[(2,.p (.bool false))],[],[]⟩):=fun h=>by simp [formedFrom,h,formOut]
    have good:rowOkB l i x=true→formOut 2 (formedFrom l i (x::l.drop (i+1)))=formOut 2 (formedFrom l (i+1) (l.drop (i+1))):=fun h=>by simp [formedFrom,h]
    cases i with
    | zero =>
      by_cases hu:x.up=0
      · have hr:rowOkB l 0 x=true:=by simp [rowOkB,hu]
        refine .inl ⟨1, ?_,⟨by omega,row_stands hs (by omega) hx hr⟩,by omega,good hr⟩
        have hu':(x.up==0)=true:=by simp [hu]
        simp only [Int.natCast_zero,Int.natCast_one] at k1 ⊢
        have hg0:(l.map GRow.pv).getD 0 []=x.pv:=hg
        have e0:Int.toNat 0=0:=rfl
        simp -implicitDefEqProofs (disch:=omega) only [Rx,simprocAttr,B38x0,k1,hg0,e0,GRow.pv,hu']
      · have hr:rowOkB l 0 x=false:=by simp [rowOkB,hu]
        refine .inr ?_
        rw [bad hr]
        refine ⟨?_,by simp⟩
        have hu':(x.up==0)=false:=by simp [hu]
        simp only [Int.natCast_zero,Int.natCast_one] at k1 ⊢
        have hg0:(l.map GRow.pv).getD 0 []=x.pv:=hg
        have e0:Int.toNat 0=0:=rfl
        simp -implicitDefEqProofs (disch:=omega) only [Rx,simprocAttr,B38x0,k1,hg0,e0,GRow.pv,hu']
    | succ j =>
      have k0:((j:Int)+1==0)=false:=by simp;omega
      have k3:(0:Int)<(j:Int)+1:=by omega
      have k5:((j:Int)+1).toNat=j+1:=by omega
      simp only [Int.natCast_add,Int.natCast_one] at k1
      by_cases hu:x.up<1
      · have hr:rowOkB l (j+1) x=false:=by simp [rowOkB];intro h;omega
        refine .inr ?_
        rw [bad hr]
        refine ⟨?_,by simp⟩
        simp -implicitDefEqProofs (disch:=omega) only [Rx,simprocAttr,B38x0,k0,k1,k3,k5,hg,GRow.pv,hu]
      · have hab:=above_run (n:=n) l x.up (j+1) hs (by omega) hl [] (by omega)
        simp only [Int.natCast_add,Int.natCast_one] at hab
        cases hb:aboveB l (j+1) x.up with
        | true =>
          have hr:rowOkB l (j+1) x=true:=by simp [rowOkB,hb];omega
          refine .inl ⟨j+1+1, ?_,⟨by omega,row_stands hs (by omega) hx hr⟩,by omega,good hr⟩
          simp -implicitDefEqProofs (disch:=omega) only [Rx,simprocAttr,B38x0,k0,k1,k3,k5,hg,GRow.pv,hu,hab,hb]
        | false =>
          have hr:rowOkB l (j+1) x=false:=by simp [rowOkB,hb]
          refine .inr ?_
          rw [bad hr]
          refine ⟨?_,by simp⟩
          simp -implicitDefEqProofs (disch:=omega) only [Rx,simprocAttr,B38x0,k0,k1,k3,k5,hg,GRow.pv,hu,hab,hb]
  · have k1:¬ (i:Int)<(l.length:Int):=by omega
    have e:l.drop i=[]:=List.drop_eq_nil_of_le (by omega)
    refine .inr ⟨?_,by rw [e];simp [formedFrom,formOut]⟩
    rw [e]
    simp -implicitDefEqProofs (disch:=omega) only [Rx,simprocAttr,B38x0,k1,formedFrom,formOut]
theorem form13_run (l:List GRow) (hl:l.length≤1048576) (g:List AObj) {n:Nat} (hn:l.length<n):acall T (n+2) 38 [.p (.list (l.map GRow.pv))] g=some (.p (.bool (formedB l)),g):=by
  rw [acall_code T38,run_pure rfl rfl rfl]
  have hloop:=form13_loop (n:=n) (N:=n+1) l hl (by omega) hn
  simp only [Int.natCast_zero] at hloop
  cases hb:formedB l with
  | true =>
    rw [hb] at hloop
    simp only [formOut,if_true] at hloop
    simp -implicitDefEqProofs (disch:=omega) only [Rx,simprocAttr,F38,hloop]
  | false =>
    rw [hb] at hloop
    simp only [formOut,Bool.false_eq_true,if_false] at hloop
    simp -implicitDefEqProofs (disch:=omega) only [Rx,simprocAttr,F38,hloop]
end Go.TA.Tryz


end
section
/- Rows that stand as a tree's do, and are not too deep: the program. -/
set_option maxRecDepth 100000
set_option maxHeartbeats 8000000
namespace Go.TA.Tryz
def stopAt (l:List GRow) (h:Nat) (u:Int):Int:=if aboveB l h u=true then u else 0
def formS (l:List GRow) (i:Nat) (x:GRow) (h:Int):St:=⟨[(0,.p (.list (l.map GRow.pv))),(3,.p (.int .i64 i)),(4,.ptr false 4 6 1 0 0),(5,.p (.int .i64 h)),(6,.p (.list (l.map GRow.pv))),(7,.p (.int .i64 l.length)),(8,.p (.int .i64 i))],[(4,.pcells 6 [x.pv])],[]⟩
theorem formP_inner {n N : Nat} (l : List GRow) (i : Nat) (x : GRow) (hs : standTo l i) (hi : i ≤ l.length) (hl : l.length ≤ 1048576) (hN : i < N) :
    aexec (acall T n) N (.loop B94x1) (formS l i x i)=some (.exit 2,formS l i x (stopAt l i x.up)):=by
  refine loop_rule' (C:=acall T n) (N:=N) (B:=B94x1) (σ := Nat) (S:=fun h=>formS l i x h) (I:=fun h=>h≤i) (μ := fun h=>h)
    (Φ := fun h=>(.exit 2,formS l i x (stopAt l h x.up))) ?_ i (Nat.le_refl _) hN
  intro h hh
  cases h with
  | zero =>
    refine .inr ⟨?_,by simp⟩
    have e:stopAt l 0 x.up=0:=by simp [stopAt,aboveB,chain_zero]
    rw [e]
    simp -implicitDefEqProofs (disch:=omega) only [Rx,simprocAttr,B94x1,formS,GRow.pv,Int.natCast_zero]
  | succ h =>
    obtain ⟨r,hr,hu⟩:=up_val hs hi (show h<i by omega)
    have hg:=getD_map (f:=GRow.pv) hr
    have k2:(h:Int)<(l.length:Int):=by omega
    have k0:((h:Int)+1==0)=false:=by simp;omega
    have hc:=chain_succ hs hi (show h<i by omega)
    cases he:((h:Int)+1==x.up) with
    | true =>
      have he':(h:Int)+1=x.up:=by simpa using he
      have e:stopAt l (h+1) x.up=(h:Int)+1:=by
        have:aboveB l (h+1) x.up=true:=by
          simp only [aboveB,hc,List.any_cons,Bool.or_eq_true,beq_iff_eq]
          left;push_cast;exact he'
        simp [stopAt,this,he']
      refine .inr ⟨?_,by simp⟩
      rw [e]
      simp -implicitDefEqProofs (disch:=omega) only [Rx,simprocAttr,B94x1,formS,GRow.pv,k0,he]
    | false =>
      have e:stopAt l (h+1) x.up=stopAt l (upAt l (h+1)) x.up:=by
        have:aboveB l (h+1) x.up=aboveB l (upAt l (h+1)) x.up:=by
          simp only [aboveB,hc,List.any_cons]
          have:(((h+1:Nat):Int)==x.up)=false:=by simpa using he
          rw [this,Bool.false_or]
        simp only [stopAt,this]
      have hle:=upAt_le hs (show h<i by omega) (by omega)
      refine .inl ⟨upAt l (h+1), ?_,by omega,by omega,by rw [e]⟩
      simp -implicitDefEqProofs (disch:=omega) only [Rx,simprocAttr,B94x1,formS,GRow.pv,k0,k2,he,hg,hu]
theorem formP_loop {n N : Nat} (l : List GRow) (hl : l.length ≤ 1048576) (hN : l.length < N) :
    aexec (acall T n) N (.loop B94x0) ⟨[(0,.p (.list (l.map GRow.pv))),(6,.p (.list (l.map GRow.pv))),(7,.p (.int .i64 l.length)),(8,.p (.int .i64 ((0:Nat):Int)))],[],[]⟩=some (formOut 2 (formedB l)):=by
  have:=loop_rule' (C:=acall T n) (N:=N) (B:=B94x0) (σ := Nat) (S:=fun i=>⟨[(0,.p (.list (l.map GRow.pv))),(6,.p (.list (l.map GRow.pv))),(7,.p (.int .i64 l.length)),(8,.p (.int .i64 i))],[],[]⟩) (I:=fun i=>i≤l.length∧standTo l i) (μ := fun i=>l.length - i)
    (Φ := fun i=>formOut 2 (formedFrom l i (l.drop i))) ?_ 0 ⟨by omega,standTo_zero l⟩ (by omega)
  · simpa [formedB] using this
  rintro i ⟨hi,hs⟩
  by_cases h:i<l.length
  · have k1:(i:Int)<(l.length:Int):=by omega
    obtain ⟨x,hx⟩:=get_some h
    have hg:=getD_map (f:=GRow.pv) hx
    have hd:l.drop i=x::l.drop (i+1):=by rw [List.drop_eq_getElem?_toList_append,hx];rfl
    rw [hd]
    have bad:rowOkB l i x=false→formOut 2 (formedFrom l i (x::l.drop (i+1)))=(.ret,⟨[(2,.p (.bool false))],[],[]⟩):=fun h=>by simp [formedFrom,h,formOut]
    have good:rowOkB l i x=true→formOut 2 (formedFrom l i (x::l.drop (i+1)))=formOut 2 (formedFrom l (i+1) (l.drop (i+1))):=fun h=>by simp [formedFrom,h]
    have hin:=formP_inner (n:=n) (N:=N) l i x hs hi hl (by omega)
    simp only [formS,GRow.pv] at hin
    cases hab:aboveB l i x.up with
    | true =>
      have hpos:=above_up hab
      have hi0:i≠0:=fun e=>by subst e;simp [aboveB,chain_zero] at hab
      have hr:rowOkB l i x=true:=by simp [rowOkB,hi0,hab];omega
      refine .inl ⟨i+1, ?_,⟨by omega,row_stands hs (by omega) hx hr⟩,by omega,good hr⟩
      simp only [stopAt,hab,if_true] at hin
      have k3:(x.up==0)=false:=by simp;omega
      have k4:((i:Int)==0)=false:=by simp;omega
      simp -implicitDefEqProofs (disch:=omega) only [Rx,simprocAttr,B94x0,k1,hg,GRow.pv,hin,k3,k4]
    | false =>
      simp only [stopAt,hab,Bool.false_eq_true,if_false] at hin
      by_cases hu:x.up=0
      · have k3:(0==x.up)=true:=by simp [hu]
        by_cases hi0:i=0
        · have hr:rowOkB l i x=true:=by simp [rowOkB,hi0,hu]
          refine .inl ⟨i+1, ?_,⟨by omega,row_stands hs (by omega) hx hr⟩,by omega,good hr⟩
          have k4:((i:Int)==0)=true:=by simp [hi0]
          simp -implicitDefEqProofs (disch:=omega) only [Rx,simprocAttr,B94x0,k1,hg,GRow.pv,hin,k3,k4]
        · have hr:rowOkB l i x=false:=by simp [rowOkB,hi0,hab]
          refine .inr ?_
          rw [bad hr]
          refine ⟨?_,by simp⟩
          have k4:((i:Int)==0)=false:=by simp;omega
          have k6:((true:Bool)==false)=false:=rfl
          simp -implicitDefEqProofs (disch:=omega) only [Rx,simprocAttr,B94x0,k1,hg,GRow.pv,hin,k3,k4,k6]
      · have k3:(0==x.up)=false:=by simp;omega
        have hr:rowOkB l i x=false:=by
          simp only [rowOkB,hab,Bool.and_false]
          split
          · simpa using hu
          · rfl
        refine .inr ?_
        rw [bad hr]
        refine ⟨?_,by simp⟩
        simp -implicitDefEqProofs (disch:=omega) only [Rx,simprocAttr,B94x0,k1,hg,GRow.pv,hin,k3]
  · have k1:¬ (i:Int)<(l.length:Int):=by omega
    have e:l.drop i=[]:=List.drop_eq_nil_of_le (by omega)
    refine .inr ⟨?_,by rw [e];simp [formedFrom,formOut]⟩
    rw [e]
    simp -implicitDefEqProofs (disch:=omega) only [Rx,simprocAttr,B94x0,k1,formedFrom,formOut]
theorem formP_run (l:List GRow) (hl:l.length≤1048576) (g:List AObj) {n:Nat} (hn:l.length<n):acall T (n+1) 94 [.p (.list (l.map GRow.pv))] g=some (.p (.bool (formedB l)),g):=by
  rw [acall_code T94,run_pure rfl rfl rfl]
  have hloop:=formP_loop (n:=n) (N:=n) l hl hn
  simp only [Int.natCast_zero] at hloop
  cases hb:formedB l with
  | true =>
    rw [hb] at hloop
    simp only [formOut,if_true] at hloop
    simp -implicitDefEqProofs (disch:=omega) only [Rx,simprocAttr,F94,hloop]
  | false =>
    rw [hb] at hloop
    simp only [formOut,Bool.false_eq_true,if_false] at hloop
    simp -implicitDefEqProofs (disch:=omega) only [Rx,simprocAttr,F94,hloop]
def depths (l:List GRow) (i:Nat):List (List PV):=(List.range (l.length+1)).map fun h=>[.int .i64 (if h≤i then ((chain l h).length:Int) else 0)]
theorem depths_len (l:List GRow) (i:Nat):(depths l i).length=l.length+1:=by simp [depths]
theorem depths_get (l:List GRow) {i h:Nat} (hh:h≤l.length):(depths l i).getD h []=[.int .i64 (if h≤i then ((chain l h).length:Int) else 0)]:=by
 rw [List.getD_eq_getElem?_getD,depths,List.getElem?_map,List.getElem?_range (by omega)]
 rfl
theorem depths_set (l:List GRow) {i:Nat} (hi:i<l.length):(depths l i).set (i+1) [.int .i64 ((chain l (i+1)).length:Int)]=depths l (i+1):=by
 apply List.ext_getElem
 ·simp [depths]
 ·intro k h1 h2
  rw [List.getElem_set]
  simp only [depths,List.getElem_map,List.getElem_range]
  by_cases e:i+1=k
  ·subst e;simp
  ·rw [if_neg e]
   have:(k≤i)↔(k≤i+1):=by omega
   simp only [this]
theorem depths_zero (l:List GRow):List.replicate (l.length+1) [PV.int .i64 0]=depths l 0:=by
 apply List.ext_getElem
 ·simp [depths]
 ·intro k h1 h2
  simp only [List.getElem_replicate,depths,List.getElem_map,List.getElem_range]
  by_cases e:k≤0
  ·obtain rfl:k=0:=by omega
   simp [chain_zero]
  ·simp [e]
def shallow (l:List GRow):Prop:=∀ i,i<l.length→(chain l (i+1)).length≤64
end Go.TA.Tryz


end
section
/- What is wrong with attributes: the program. -/
set_option maxRecDepth 100000
set_option maxHeartbeats 8000000
namespace Go.TA.Tryz
theorem ap_loop {n N : Nat} (l : List Attr) (hN : l.length < N) :
    aexec (acall T (n+36)) N (.loop B71x0) ⟨[(0,.p (.list (l.map Attr.pv))),(7,.p (.list (l.map Attr.pv))),(8,.p (.int .i64 l.length)),(9,.p (.int .i64 ((0:Nat):Int)))],[],[]⟩=some (chkOut (attrsChk [] 0 l)):=by
  refine loop_rule' (C:=acall T (n+36)) (N:=N) (B:=B71x0) (σ := Nat) (S:=fun i=>⟨[(0,.p (.list (l.map Attr.pv))),(7,.p (.list (l.map Attr.pv))),(8,.p (.int .i64 l.length)),(9,.p (.int .i64 i))],[],[]⟩) (I:=fun i=>i≤l.length∧i≤64) (μ := fun i=>l.length - i)
    (Φ := fun i=>chkOut (attrsChk (prevOf l i) i (l.drop i))) ?_ 0 ⟨by omega,by omega⟩ (by omega)
  rintro i ⟨hi,hi64⟩
  by_cases h:i<l.length
  · have k1 : (i : Int) < (l.length : Int) := by omega
    obtain ⟨a,ha⟩:=get_some h
    have ga:=getD_map (f:=Attr.pv) ha
    rw [chk_step ha]
    have bad:∀ e:Int,attrErr (prevOf l i) i a=e→e≠0→aexec (acall T (n+36)) N B71x0 ⟨[(0,.p (.list (l.map Attr.pv))),(7,.p (.list (l.map Attr.pv))),(8,.p (.int .i64 l.length)),(9,.p (.int .i64 i))],[],[]⟩=some (.ret,⟨[(2,.p (.int .i64 i)),(3,.p (.int .i64 e))],[],[]⟩) →
        (∃ s',aexec (acall T (n+36)) N B71x0 ⟨[(0,.p (.list (l.map Attr.pv))),(7,.p (.list (l.map Attr.pv))),(8,.p (.int .i64 l.length)),(9,.p (.int .i64 i))],[],[]⟩=some (.normal,(fun (i:Nat)=>(⟨[(0,.p (.list (l.map Attr.pv))),(7,.p (.list (l.map Attr.pv))),(8,.p (.int .i64 l.length)),(9,.p (.int .i64 i))],[],[]⟩:St)) s')∧(s'≤l.length∧s'≤64)∧l.length - s'<l.length - i∧chkOut (if attrErr (prevOf l i) i a=0 then attrsChk (prevOf l (i+1)) (i+1) (l.drop (i+1)) else ((i:Int),attrErr (prevOf l i) i a))=chkOut (attrsChk (prevOf l s') s' (l.drop s'))) ∨
        (aexec (acall T (n+36)) N B71x0 ⟨[(0,.p (.list (l.map Attr.pv))),(7,.p (.list (l.map Attr.pv))),(8,.p (.int .i64 l.length)),(9,.p (.int .i64 i))],[],[]⟩=some (chkOut (if attrErr (prevOf l i) i a=0 then attrsChk (prevOf l (i+1)) (i+1) (l.drop (i+1)) else ((i:Int),attrErr (prevOf l i) i a)))∧(chkOut (if attrErr (prevOf l i) i a=0 then attrsChk (prevOf l (i+1)) (i+1) (l.drop (i+1)) else ((i:Int),attrErr (prevOf l i) i a))).1 ≠ .normal):=fun e he h0 hr=>by
      refine .inr ?_
      rw [he,if_neg h0]
      simp only [chkOut,h0,if_false]
      exact ⟨hr,by simp⟩
    by_cases h64:i=64
    · refine bad 12 (by simp [attrErr,h64]) (by decide) ?_
      have k2:((i:Int)==64)=true:=by simp;omega
      simp -implicitDefEqProofs (disch:=omega) only [Rx,simprocAttr,B71x0,k1,k2,ga,Attr.pv]
    have k2:((i:Int)==64)=false:=by simp;omega
    cases hnm:namedB true a.name with
    | false =>
      refine bad 8 (by simp [attrErr,h64,hnm]) (by decide) ?_
      simp -implicitDefEqProofs (disch:=omega) only [Rx,simprocAttr,B71x0,k1,k2,ga,Attr.pv,name_run,hnm]
    | true=>
    by_cases hlong:(a.value.length:Int)≤65536
    rotate_left
    · refine bad 3 (by simp [attrErr,h64,hnm];omega) (by decide) ?_
      simp -implicitDefEqProofs (disch:=omega) only [Rx,simprocAttr,B71x0,k1,k2,ga,Attr.pv,name_run,hnm,fits_run,hlong]
    have hlong':¬ (65536<(a.value.length:Int)):=by omega
    cases i with
    | zero =>
      have e:attrErr (prevOf l 0) 0 a=0:=by simp [attrErr,hnm,hlong',prevOf]
      rw [e,if_pos rfl]
      refine .inl ⟨1, ?_,⟨by omega,by omega⟩,by omega,rfl⟩
      simp only [Int.natCast_zero,Int.natCast_one] at k1 k2 ⊢
      have k3:(0:Int)<(l.length:Int):=k1
      have ga0:(l.map Attr.pv).getD 0 []=Attr.pv a:=ga
      have e0:Int.toNat 0=0:=rfl
      simp -implicitDefEqProofs (disch:=omega) only [Rx,simprocAttr,B71x0,k3,ga0,e0,Attr.pv,name_run,hnm,fits_run,hlong]
    | succ j =>
      obtain ⟨b,hb⟩:=get_some (show j<l.length by omega)
      have gb:=getD_map (f:=Attr.pv) hb
      have ep:prevOf l (j+1)=[b]:=by simp [prevOf,hb]
      have k3:(0:Int)<(j:Int)+1:=by omega
      have k4:(j:Int)<(l.length:Int):=by omega
      simp only [Int.natCast_add,Int.natCast_one] at k1 k2
      have k5:((j:Int)+1).toNat=j+1:=by omega
      by_cases heq:b.name=a.name
      · refine bad 10 (by simp [attrErr,h64,hnm,hlong',ep,heq]) (by decide) ?_
        have heq':(b.name==a.name)=true:=by simpa using heq
        simp -implicitDefEqProofs (disch:=omega) only [Rx,simprocAttr,B71x0,k1,k2,k3,k4,k5,ga,gb,Attr.pv,name_run,hnm,fits_run,hlong,heq']
      · have heq':(b.name==a.name)=false:=by simpa using heq
        have hcmp:=cmpB_less heq
        by_cases hgt:0<cmpB b.name a.name
        · refine bad 9 (by simp [attrErr,h64,hnm,hlong',ep,heq,hgt]) (by decide) ?_
          have hl:strLess b.name a.name=false:=by have:=hcmp.1 hgt;rw [heq',Bool.or_false] at this;exact this
          simp -implicitDefEqProofs (disch:=omega) only [Rx,simprocAttr,B71x0,k1,k2,k3,k4,k5,ga,gb,Attr.pv,name_run,hnm,fits_run,hlong,heq',binS,hl]
        · have e:attrErr (prevOf l (j+1)) (j+1) a=0:=by simp [attrErr,h64,hnm,hlong',ep,heq,hgt]
          have hl:strLess b.name a.name=true:=by
            cases h:strLess b.name a.name
            · exact absurd (hcmp.2 (by rw [h,heq'];rfl)) hgt
            · rfl
          rw [e,if_pos rfl]
          refine .inl ⟨j+1+1, ?_,⟨by omega,by omega⟩,by omega,rfl⟩
          simp -implicitDefEqProofs (disch:=omega) only [Rx,simprocAttr,B71x0,k1,k2,k3,k4,k5,ga,gb,Attr.pv,name_run,hnm,fits_run,hlong,heq',binS,hl]
  · have k1:¬ (i:Int)<(l.length:Int):=by omega
    have e:l.drop i=[]:=List.drop_eq_nil_of_le (by omega)
    refine .inr ⟨?_,by rw [e];simp [attrsChk,chkOut]⟩
    rw [e]
    simp -implicitDefEqProofs (disch:=omega) only [Rx,simprocAttr,B71x0,k1,attrsChk,chkOut]
theorem ap_run (l : List Attr) (g : List AObj) {n : Nat} (hl : l.length < n + 36) : acall T (n + 37) 71 [.p (.list (l.map Attr.pv))] g = some (.tuple [.p (.int .i64 (attrsChk [] 0 l).1), .p (.int .i64 (attrsErr l))], g) := by
  rw [acall_code T71,run_pure rfl rfl rfl]
  have hloop:=ap_loop (n:=n) (N:=n+36) l hl
  simp only [Int.natCast_zero] at hloop
  unfold attrsErr
  have h1:(attrsChk [] 0 l).2=0→(attrsChk [] 0 l).1=0:=by
    have key:∀ (p:List Attr) (i:Nat) (l:List Attr),(attrsChk p i l).2=0→(attrsChk p i l).1=0:=by
      intro p i l
      induction l generalizing p i with
      | nil=>simp [attrsChk]
      | cons a l ih =>
        simp only [attrsChk]
        split
        · exact ih _ _
        · rename_i h;intro h';exact absurd h' h
    exact key [] 0 l
  generalize attrsChk [] 0 l=r at hloop h1
  obtain ⟨x,e⟩:=r
  simp only [chkOut] at hloop h1 ⊢
  by_cases h:e=0
  · rw [if_pos h] at hloop
    rw [h1 h,h]
    simp -implicitDefEqProofs (disch:=omega) only [Rx,simprocAttr,F71,hloop]
  · rw [if_neg h] at hloop
    simp -implicitDefEqProofs (disch:=omega) only [Rx,simprocAttr,F71,hloop]
end Go.TA.Tryz


end
section
/- What is wrong with a node alone. -/
set_option maxRecDepth 100000
set_option maxHeartbeats 8000000
namespace Go.TA.Tryz
def aloneErr (x:GRow):Int:=if namedB false x.tag=false then 7 else if 65536<(x.key.length:Int) then 3 else if 65536<(x.text.length:Int) then 3 else attrsErr x.attrs
def nodeCells (x:GRow) (ks:List (List PV)):List PV:=[.str x.tag,.str x.key,.str x.text,.list (x.attrs.map Attr.pv),.list ks]
theorem alone_run (x:GRow) (ks:List (List PV)) (hs:smallAttrs x.attrs) (g:List AObj) {n:Nat} (hl:x.attrs.length<n) (hn:1048576<n) :
    acall T (n+37) 40 [.p (.agg (nodeCells x ks))] g=some (.p (.int .i64 (aloneErr x)),g):=by
  rw [acall_code T40,run_pure rfl rfl rfl]
  have ha:=fun g=>a09_run x.attrs hs g (n:=n) (by omega) hn
  cases h1:namedB false x.tag with
  | false =>
    have e:aloneErr x=7:=by simp [aloneErr,h1]
    rw [e]
    simp -implicitDefEqProofs (disch:=omega) only [Rx,simprocAttr,F40,nodeCells,named02_run,h1]
  | true=>
  by_cases h2:65536<(x.key.length:Int)
  · have e:aloneErr x=3:=by simp [aloneErr,h1,h2]
    rw [e]
    simp -implicitDefEqProofs (disch:=omega) only [Rx,simprocAttr,F40,nodeCells,named02_run,h1,h2]
  by_cases h3:65536<(x.text.length:Int)
  · have e:aloneErr x=3:=by simp [aloneErr,h1,h2,h3]
    rw [e]
    simp -implicitDefEqProofs (disch:=omega) only [Rx,simprocAttr,F40,nodeCells,named02_run,h1,h2,h3]
  have e:aloneErr x=attrsErr x.attrs:=by simp [aloneErr,h1,h2,h3]
  rw [e]
  simp -implicitDefEqProofs (disch:=omega) only [Rx,simprocAttr,F40,nodeCells,named02_run,h1,h2,h3,ha]
theorem wrong_run (x:GRow) (ks:List (List PV)) (g:List AObj) {n:Nat} (hl:x.attrs.length<n) :
    acall T (n+38) 130 [.p (.agg (nodeCells x ks))] g=some (.p (.int .i64 (aloneErr x)),g):=by
  rw [acall_code T130,run_pure rfl rfl rfl]
  have ha:=fun g=>ap_run x.attrs g (n:=n) (by omega)
  cases h1:namedB false x.tag with
  | false =>
    have e:aloneErr x=7:=by simp [aloneErr,h1]
    rw [e]
    simp -implicitDefEqProofs (disch:=omega) only [Rx,simprocAttr,F130,nodeCells,tag_run,h1]
  | true=>
  by_cases h2:(x.key.length:Int)≤65536
  rotate_left
  · have e:aloneErr x=3:=by simp [aloneErr,h1];omega
    rw [e]
    simp -implicitDefEqProofs (disch:=omega) only [Rx,simprocAttr,F130,nodeCells,tag_run,h1,fits_run,h2]
  by_cases h3:(x.text.length:Int)≤65536
  rotate_left
  · have e:aloneErr x=3:=by simp [aloneErr,h1];omega
    rw [e]
    simp -implicitDefEqProofs (disch:=omega) only [Rx,simprocAttr,F130,nodeCells,tag_run,h1,fits_run,h2,h3]
  have e:aloneErr x=attrsErr x.attrs:=by
    have h2':¬ 65536<(x.key.length:Int):=by omega
    have h3':¬ 65536<(x.text.length:Int):=by omega
    simp [aloneErr,h1,h2',h3']
  rw [e]
  simp -implicitDefEqProofs (disch:=omega) only [Rx,simprocAttr,F130,nodeCells,tag_run,h1,fits_run,h2,h3,ha]
end Go.TA.Tryz


end
section
/- The tree of rows, as the program builds it. -/
set_option maxRecDepth 100000
set_option maxHeartbeats 8000000
namespace Go.TA.Tryz
theorem attrs_two (l:List Attr):((l.map Attr.pv).all fun x=>x.length==2)=true:=by simp [List.all_eq_true,Attr.pv]
theorem attrs_same:∀ (l:List Attr),PV.sameLL (l.map Attr.pv) (l.map Attr.pv)=true
 | []=>rfl
 | a::l=>by simp [PV.sameLL,PV.sameL,PV.same,Attr.pv,attrs_same l]
theorem cloneA_run (l:List Attr) (h:l.length≤1048577) (g:List AObj) (n:Nat):acall T (n+1) 37 [.p (.list (l.map Attr.pv))] g=some (.own true g.length l.length,g++[.pcells 2 (l.map Attr.pv)]):=by
 rw [acall_prim T37]
 have h2:=attrs_two l
 have h3:l.length*4096≤140737488355328:=by omega
 simp only [pCloneT,thaw,bk_some,pClone,h2,List.length_map,h3,and_self,if_true]
mutual
inductive BT (l:List GRow):Nat→Nat→List PV→Prop
 | mk {a b:Nat} {x:GRow} {ks:List (List PV)}:l[a]? = some x→BTs l a b ks→BT l a b (nodeCells x ks)
inductive BTs (l:List GRow):Nat→Nat→List (List PV)→Prop
 | nil {a:Nat}:BTs l a (a+1) []
 | snoc {a m b:Nat} {ks:List (List PV)} {k:List PV} {y:GRow}:BTs l a m ks→l[m]? = some y→y.up=(a:Int)+1→BT l m b k→BTs l a b (ks++[k])
end
mutual
theorem BT.lt {l:List GRow} {a b:Nat} {p:List PV}:BT l a b p→a<b∧b≤l.length
  | .mk hx h => by
    have:=BTs.lt h (List.getElem?_eq_some_iff.1 hx).1
    omega
theorem BTs.lt {l:List GRow} {a b:Nat} {ks:List (List PV)}:BTs l a b ks→a<l.length→a+1≤b∧b≤l.length∧ks.length+a+1≤b
  | .nil,ha=>⟨Nat.le_refl _,ha,by simp⟩
  | .snoc h _ _ h2, ha => by
    have h3:=BTs.lt h ha
    have h4:=BT.lt h2
    simp only [List.length_append,List.length_singleton]
    omega
end
theorem BT.len {l:List GRow} {a b:Nat} {p:List PV} (h:BT l a b p):p.length=5:=by
 cases h with
 | mk _ _=>rfl
theorem BTs.at {l:List GRow} {a b:Nat} {ks:List (List PV)} (h:BTs l a b ks):∀ (i:Nat) k,ks[i]? = some k→∃ m m' y,BTs l a m (ks.take i)∧l[m]? = some y∧y.up=(a:Int)+1∧BT l m m' k∧BTs l a m' (ks.take (i+1))∧m'≤b:=by
  match h with
  | .nil=>intro i k hk;simp at hk
  | .snoc (m := m) (ks := ks0) (k := k0) (y := y) h1 hy hu h2 =>
    intro i k hk
    by_cases hi:i<ks0.length
    · rw [List.getElem?_append_left hi] at hk
      obtain ⟨m1,m2,y1,q1,q2,q3,q4,q5,q6⟩:=BTs.at h1 i k hk
      have:=BT.lt h2
      refine ⟨m1,m2,y1, ?_,q2,q3,q4, ?_,by omega⟩
      · rw [List.take_append_of_le_length (by omega)];exact q1
      · rw [List.take_append_of_le_length (by omega)];exact q5
    · have hlt:=(List.getElem?_eq_some_iff.1 hk).1
      simp only [List.length_append,List.length_singleton] at hlt
      obtain rfl:i=ks0.length:=by omega
      rw [List.getElem?_append_right (Nat.le_refl _),Nat.sub_self] at hk
      simp only [List.getElem?_cons_zero,Option.some.injEq] at hk
      subst hk
      refine ⟨m,b,y, ?_,hy,hu,h2, ?_,Nat.le_refl _⟩
      · rw [List.take_append_of_le_length (Nat.le_refl _),List.take_length];exact h1
      · rw [List.take_of_length_le (by simp)];exact .snoc h1 hy hu h2
mutual
theorem BT.uniq {l:List GRow} {a b b':Nat} {p p':List PV}:BT l a b p→BT l a b' p'→p=p'→b=b'
  | .mk hx h, .mk hx' h', e => by
    simp only [nodeCells,List.cons.injEq,PV.list.injEq,and_true] at e
    exact BTs.uniq h h' e.2.2.2.2
theorem BTs.uniq {l:List GRow} {a b b':Nat} {ks ks':List (List PV)}:BTs l a b ks→BTs l a b' ks'→ks=ks'→b=b'
  | .nil,.nil,_=>rfl
  | .nil,.snoc _ _ _ _,e=>by simp at e
  | .snoc _ _ _ _,.nil,e=>by simp at e
  | .snoc h1 _ _ h2, .snoc h1' _ _ h2', e => by
    obtain ⟨e1,e2⟩:=List.append_inj' e rfl
    have e3:=BTs.uniq h1 h1' e1
    subst e3
    exact BT.uniq h2 h2' (by simpa using e2)
end
def kidsC (ks:List (List PV)):AV:=match ks with
 | [] => .nils
 | _::_ => .own true 0 ks.length
theorem kidsC_m (r:List Nat) (ks:List (List PV)):mentions r (kidsC ks)=false:=by cases ks <;> simp [kidsC,mentions]
def kidsG (ks:List (List PV)):List AObj:=match ks with
 | []=>[]
 | _::_=>[.pcells 5 ks]
def buildL (x:GRow) (ks:List (List PV)):List (Nat × AObj):=[(4,.pcells 5 [[.str [],.str [],.str [],.list [],.list []]]),(7,.cells 5 [[.p (.str x.tag),.p (.str x.key),.p (.str x.text),.p (.list (x.attrs.map Attr.pv)),kidsC ks]]),(1000,.pcells 5 [])]
def buildS (l:List GRow) (a:Nat) (x:GRow) (nx:Nat) (ks:List (List PV)):St:=⟨[(0,.p (.list (l.map GRow.pv))),(1,.p (.int .i64 a)),(4,.ptr false 4 5 1 0 0),(7,.ptr false 7 5 1 0 0),(8,.p (.int .i64 nx))],buildL x ks,kidsG ks⟩
def buildQ (l:List GRow) (a:Nat) (x:GRow) (r:Ex × St):Prop:=∃ nx ks,BTs l a nx ks∧(∀ y,l[nx]? = some y→y.up≠(a:Int)+1)∧r=(.exit 0,⟨[(4,.ptr false 4 5 1 0 0),(7,.ptr false 7 5 1 0 0),(8,.p (.int .i64 nx))],buildL x ks,kidsG ks⟩)
end Go.TA.Tryz


end
section
/- What a machine's functions look at: does a node live, is it below another one. -/
set_option maxRecDepth 100000
set_option maxHeartbeats 8000000
namespace Go.TA.Tryz
abbrev MP:AV:=.ptr true 1 1 1 0 0
theorem lives_run (S:MS) (av:Nat→AV) (rest:List AObj) (h:Int) (n:Nat):acall T (n+1) 72 [MP,.p (.int .i64 h)] (machG S.N S.st av rest)=some (.p (.bool (liveB S h)),machG S.N S.st av rest):=by
 rw [acall_code T72,run_code rfl rfl]
 have len1:(rowsAV S.N S.st av).length=S.N:=rowsAV_len
 by_cases h0:0≤h
 rotate_left
 ·have e:liveB S h=false:=by simp [liveB,h0]
  rw [e]
  simp only [machG]
  simp -implicitDefEqProofs (disch:=omega) only [Rx,simprocAttr,F72,h0]
 obtain ⟨c,rfl⟩:=Int.eq_ofNat_of_zero_le h0
 by_cases h1:(c:Int)<(S.N:Int)
 rotate_left
 ·have e:liveB S (c:Int)=false:=by simp only [liveB,h1,decide_false,Bool.false_and,Bool.and_false]
  rw [e]
  simp only [machG]
  simp -implicitDefEqProofs (disch:=omega) only [Rx,simprocAttr,F72,h0,h1]
 ·have hgn:(rowsAV S.N S.st av).getD c []=nodeAV (S.st c) (av c):=rowsAV_get (by omega)
  have e:liveB S (c:Int)=(S.st c).live:=by simp only [liveB,h0,h1,decide_true,Bool.true_and,Int.toNat_natCast]
  rw [e]
  simp only [machG,nodeAV] at hgn ⊢
  simp -implicitDefEqProofs (disch:=omega) only [Rx,simprocAttr,F72,h0,h1,len1,hgn]
theorem fit_run (S:MS) (av:Nat→AV) (rest:List AObj) (h:Int) (n:Nat):acall T (n+2) 44 [MP,.p (.int .i64 h)] (machG S.N S.st av rest)=some (.p (.int .i64 (fitE S h)),machG S.N S.st av rest):=by
 rw [acall_code T44,run_code rfl rfl]
 have hl:=lives_run S av rest h n
 by_cases h0:h=0
 ·have e:(h==0)=true:=by simpa using h0
  simp -implicitDefEqProofs (disch:=omega) only [Rx,simprocAttr,F44,fitE,h0]
 have e:(h==0)=false:=by simpa using h0
 cases hv:liveB S h
 ·rw [hv] at hl
  simp -implicitDefEqProofs (disch:=omega) only [Rx,simprocAttr,F44,fitE,h0,e,hl,hv]
 ·rw [hv] at hl
  simp -implicitDefEqProofs (disch:=omega) only [Rx,simprocAttr,F44,fitE,h0,e,hl,hv]
theorem under_loop {R : Nat} {S : MS} (hS : S.Ok R) (av : Nat → AV) (rest : List AObj) (t : Nat) (C : Calls') (N : Nat) (hN : R + 3 < N) (h : Nat) (hh : h < S.N) :
    aexec C N (.loop B73x0) ⟨[(0,MP),(1,.p (.int .i64 h)),(2,.p (.int .i64 t))],[],machG S.N S.st av rest⟩=some (if underB S (h:Int) (t:Int)=true then (.ret,⟨[(6,.p (.bool true))],[],machG S.N S.st av rest⟩) else (.exit 0,⟨[],[],machG S.N S.st av rest⟩)):=by
  obtain ⟨r,hr1,hr2⟩:=hS.rank
  have len1:(rowsAV S.N S.st av).length=S.N:=rowsAV_len
  have key:=loop_inv (C:=C) (N:=N) (B:=B73x0) (σ := Int) (S:=fun y=>⟨[(0,MP),(1,.p (.int .i64 y)),(2,.p (.int .i64 t))],[],machG S.N S.st av rest⟩)
    (I:=fun y=>(y = -1∨∃ c:Nat,y=(c:Int)∧c<S.N)∧(Below S (t:Int) (h:Int)↔Below S (t:Int) y)) (μ := fun y=>if y<0 then 0 else r y.toNat+1)
    (Q:=fun q=>q=(if underB S (h:Int) (t:Int)=true then (.ret,⟨[(6,.p (.bool true))],[],machG S.N S.st av rest⟩) else (.exit 0,⟨[],[],machG S.N S.st av rest⟩))) ?_ (h:Int) ⟨.inr ⟨h,rfl,hh⟩,Iff.rfl⟩ (by
      have:=hr1 h hh
      simp only [Int.toNat_natCast]
      split <;> omega)
  · obtain ⟨q,hq,rfl⟩:=key
    exact hq
  rintro y ⟨hy,hb⟩
  rcases hy with rfl | ⟨c,rfl,hc⟩
  · right
    have hf:¬ Below S (t:Int) (h:Int):=fun q=>below_neg (by omega) (hb.1 q)
    refine ⟨_, ?_, ?_,rfl⟩
    · rw [if_neg (fun q=>hf (underB_iff.1 q))]
      simp -implicitDefEqProofs (disch:=omega) only [Rx,simprocAttr,B73x0]
    · rw [if_neg (fun q=>hf (underB_iff.1 q))];simp
  by_cases e:c=t
  · subst e
    right
    have hf:Below S (c:Int) (h:Int):=hb.2 .here
    refine ⟨_, ?_, ?_,rfl⟩
    · rw [if_pos (underB_iff.2 hf)]
      have k0:(0:Int)≤(c:Int):=by omega
      simp -implicitDefEqProofs (disch:=omega) only [Rx,simprocAttr,B73x0,k0]
    · rw [if_pos (underB_iff.2 hf)];simp
  · left
    have e1:((c:Int)==(t:Int))=false:=by simp;omega
    have k0:(0:Int)≤(c:Int):=by omega
    have k1:(c:Int)<(S.N:Int):=by omega
    have hgn:(rowsAV S.N S.st av).getD c []=nodeAV (S.st c) (av c):=rowsAV_get hc
    refine ⟨(S.st c).up, ?_,⟨?_, ?_⟩, ?_⟩
    · simp only [machG,nodeAV] at hgn ⊢
      simp -implicitDefEqProofs (disch:=omega) only [Rx,simprocAttr,B73x0,k0,k1,e1,len1,hgn]
    · rcases hS.up c hc with h1 | ⟨p,h1,h2,_⟩
      · exact .inl h1
      · exact .inr ⟨p,h2,h1⟩
    · rw [hb,below_iff (by omega) (by omega)];rfl
    · have e2:¬ (c:Int)<0:=by omega
      simp only [Int.toNat_natCast,e2,if_false]
      rcases hS.up c hc with h1 | ⟨p,h1,h2,_⟩
      · rw [h1];simp
      · have:=hr2 c p hc h2
        rw [h2,Int.toNat_natCast]
        split <;> omega
theorem under_run {R:Nat} {S:MS} (hS:S.Ok R) (av:Nat→AV) (rest:List AObj) (t h:Nat) (hh:h<S.N) {n:Nat} (hn:R+3<n):acall T (n+1) 73 [MP,.p (.int .i64 h),.p (.int .i64 t)] (machG S.N S.st av rest)=some (.p (.bool (underB S h t)),machG S.N S.st av rest):=by
 rw [acall_code T73,run_code rfl rfl]
 have hl:=under_loop hS av rest t (acall T n) n hn h hh
 by_cases hb:Below S (t:Int) (h:Int)
 ·have e:underB S h t=true:=by simp [underB,hb]
  rw [if_pos e] at hl
  simp -implicitDefEqProofs (disch:=omega) only [Rx,simprocAttr,F73,hl,e]
 ·have e:underB S h t=false:=by simp [underB,hb]
  rw [if_neg (by rw [e];simp)] at hl
  simp -implicitDefEqProofs (disch:=omega) only [Rx,simprocAttr,F73,hl,e]
end Go.TA.Tryz


end
section
/- A node is put below another one; a node is taken out. -/
set_option maxRecDepth 100000
set_option maxHeartbeats 8000000
namespace Go.TA.Tryz
theorem ints_one (l:List Int):((intsPV l).all fun x=>x.length==1)=true:=by simp [List.all_eq_true,intsPV]
def killed (rest:List AObj):AV→List AObj
 | .own true (r+2) _=>rest.set r .dead
 | _=>rest
theorem killed_len (rest:List AObj) (a:AV):(killed rest a).length=rest.length:=by
 unfold killed;split <;> simp
theorem KRep.killed {rest:List AObj} {a a':AV} {ks':List Int} (h:KRep rest a' ks') (h2:refOf a'=none∨refOf a'≠refOf a):KRep (killed rest a) a' ks':=by
 unfold Go.TA.Tryz.killed
 split
 ·rename_i r m
  refine h.set ?_
  rcases h2 with h2 | h2
  ·rw [h2];simp
  ·exact h2
 ·exact h
theorem cloneI_run {rest:List AObj} {a:AV} {ks:List Int} (hK:KRep rest a ks) (hl:ks.length≤4194304) (A B:AObj) (n:Nat):acall T (n+1) 76 [a] (A::B::rest)=some (.own true (rest.length+1+1) ks.length,A::B::(killed rest a++[.pcells 1 (intsPV ks)])):=by
 rw [acall_prim T76]
 have h2:=ints_one ks
 have h4:=intsPV_len ks
 have h3:ks.length*4096≤140737488355328:=by omega
 rcases hK.inv with ⟨rfl,rfl⟩ | ⟨r,rfl,hr⟩ | rfl
 ·simp [pCloneT,thaw,bk_some,pClone,intsPV,killed]
 ·have hr':(A::B::rest)[r+1+1]? = some (.pcells 1 (intsPV ks)):=by simpa using hr
  simp only [pCloneT,thaw,hr',h4,if_true,bk_some,pClone,h2,h3,and_self,killed,List.set_cons_succ,List.length_cons,List.length_set,List.cons_append]
 ·simp only [pCloneT,thaw,h4,bk_some,pClone,h2,h3,and_self,killed,if_true,List.length_cons,List.cons_append]
theorem insertI_run (X:List AObj) (ks:List Int) (at':Nat) (h:Int) (hat:at'≤ks.length) (hl:ks.length≤4194304) (A B:AObj) (n:Nat):acall T (n+1) 106 [.own true (X.length+1+1) ks.length,.p (.int .i64 at'),.p (.list [[.int .i64 h]])] (A::B::(X++[.pcells 1 (intsPV ks)]))=some (.p (.list (intsPV (ks.take at'++h::ks.drop at'))),A::B::(X++[.dead])):=by
 rw [acall_prim T106]
 have hr':(A::B::(X++[.pcells 1 (intsPV ks)]))[X.length+1+1]? = some (.pcells 1 (intsPV ks)):=by simp
 have h4:=intsPV_len ks
 have h5:(ks.length+1)*4096≤140737488355328:=by omega
 have h6:(at':Int)≤(ks.length:Int):=by omega
 have e1:(intsPV ks).take at'++[[PV.int .i64 h]]++(intsPV ks).drop at'=intsPV (ks.take at'++h::ks.drop at'):=by
  simp [intsPV,List.map_take,List.map_drop]
 have e2:(X++[AObj.pcells 1 (intsPV ks)]).set X.length .dead=X++[.dead]:=by simp [List.set_append]
 simp only [pInsert,hr',h4,true_and,List.all_cons,List.all_nil,List.length_cons,List.length_nil,Bool.and_true,beq_self_eq_true,Nat.zero_add,Nat.lt_irrefl,Nat.zero_lt_one,h5,h6,Int.natCast_nonneg,Int.toNat_natCast,and_self,if_true,List.set_cons_succ,e2]
 rw [← e1]
theorem indexI_run (l:List Int) (v:Int) (hv:v ∈ l) (hl:l.length≤4194304) (g:List AObj) {n:Nat} (hn:l.length<n):acall T (n+1) 105 [.p (.list (intsPV l)),.p (.int .i64 v)] g=some (.p (.int .i64 (l.idxOf v)),g):=by
 have hlt:=List.idxOf_lt_length_iff.2 hv
 have il:=intsPV_len l
 have key:=loop_inv (C:=acall T n) (N:=n) (B:=B105x0) (σ := Nat) (S:=fun i=>⟨[(0,.p (.list (intsPV l))),(1,.p (.int .i64 v)),(7,.p (.int .i64 l.length)),(8,.p (.int .i64 i))],[],[]⟩)
  (I:=fun i=>i≤l.idxOf v) (μ := fun i=>l.length - i) (Q:=fun q=>q=(.ret,⟨[(4,.p (.int .i64 (l.idxOf v)))],[],[]⟩)) ?_ 0 (by omega) (by omega)
 ·obtain ⟨q,hq,rfl⟩:=key
  simp only [Int.natCast_zero] at hq
  rw [acall_code T105,run_pure rfl rfl rfl]
  simp -implicitDefEqProofs (disch:=omega) only [Rx,simprocAttr,F105,hq,il]
 intro i hi
 have hil:i<l.length:=by omega
 have k1:(i:Int)<(l.length:Int):=by omega
 have hg:=intsPV_get (List.getElem?_eq_getElem hil)
 by_cases e:i=l.idxOf v
 ·right
  have hx:l[i]=v:=by subst e;exact List.getElem_idxOf hlt
  refine ⟨_, ?_, ?_,rfl⟩
  ·have e1:(v==l[i])=true:=by simp [hx]
   rw [← e]
   simp -implicitDefEqProofs (disch:=omega) only [Rx,simprocAttr,B105x0,k1,hg,e1,il]
  ·simp
 ·left
  have hx:(v==l[i])=false:=by
   have h9:=List.not_of_lt_findIdx (xs:=l) (p:=fun x=>x==v) (i:=i) (by unfold List.idxOf at hi e;omega)
   have h10:¬ v=l[i]:=fun hq=>by rw [← hq] at h9;simp at h9
   simpa using h10
  refine ⟨i+1, ?_,by omega,by omega⟩
  simp -implicitDefEqProofs (disch:=omega) only [Rx,simprocAttr,B105x0,k1,hg,hx,il]
theorem MOk.fixed {N:Nat} {av:Nat→AV} {kd:Nat→List Int} {rest:List AObj} (h:MOk N av kd rest) {u:Nat} (hu:u<N) (ks:List Int) (more:List AObj):MOk N (upd av u (.p (.list (intsPV ks)))) (upd kd u ks) (killed rest (av u)++more) where
 kids k hk:=by
  by_cases e:k=u
  ·subst e;rw [upd_at,upd_at];exact .list
  ·rw [upd_ne e,upd_ne e]
   refine KRep.more (Go.TA.Tryz.KRep.killed (h.kids k hk) ?_) _
   exact h.disj k u hk hu e
 disj:=(h.fix hu ks).disj
theorem Fr.fixed {N:Nat} {av:Nat→AV} {rest:List AObj} {u:Nat} (hu:u<N) (ks:List (List PV)) (more:List AObj):Fr N av rest N (upd av u (.p (.list ks))) (killed rest (av u)++more) where
 len:=by rw [List.length_append,killed_len];omega
 keep j hj hn:=by
  rw [List.getElem?_append_left (by rw [killed_len];exact hj)]
  have:=hn u hu
  unfold killed
  split
  ·rename_i r m e
   rw [e] at this
   simp only [refOf,ne_eq,Option.some.injEq] at this
   rw [List.getElem?_set,if_neg (by omega)]
  ·rfl
 refs h hh j hj _:=by
  by_cases e:h=u
  ·subst e;rw [upd_at] at hj;cases hj
  ·rw [upd_ne e] at hj;exact ⟨h,hh,hj⟩
theorem place_run {R:Nat} {S:MS} (hS:S.Ok R) (hN:S.N≤4194304) (av:Nat→AV) (rest:List AObj) (hM:MOk S.N av S.kd rest) (h u:Nat) (b:Int) (hh:h<S.N) (hu:u<S.N) (hb:b=0∨b ∈ S.kd u) {n:Nat} (hn:S.N<n) :
  ∃ av' rest',acall T (n+2) 74 [MP,.p (.int .i64 h),.p (.int .i64 u),.p (.int .i64 b)] (machG S.N S.st av rest)=some (.tuple [],machG S.N (placeM S h u b).st av' rest')∧MOk S.N av' (placeM S h u b).kd rest'∧Fr S.N av rest S.N av' rest':=by
 have hK:=hM.kids u hu
 have hkl:=hS.kids_len hu
 have len1:∀ st av,(rowsAV S.N st av).length=S.N:=fun _ _=>rowsAV_len
 have hgu:(rowsAV S.N S.st av).getD u []=nodeAV (S.st u) (av u):=rowsAV_get hu
 have k1:(u:Int)<(S.N:Int):=by omega
 have k2:(h:Int)<(S.N:Int):=by omega
 generalize hat:(if b=0 then (S.kd u).length else (S.kd u).idxOf b)=at'
 have hatl:at'≤(S.kd u).length:=by
  rw [← hat]
  split
  ·exact Nat.le_refl _
  ·exact List.idxOf_le_length
 have hins:=fun A B=>insertI_run (killed rest (av u)) (S.kd u) at' (h:Int) hatl (by omega) A B n
 have hcl:=fun A B=>cloneI_run hK (by omega) A B n
 rw [killed_len] at hins
 have il:=intsPV_len (S.kd u)
 have hres:insI (S.kd u) (h:Int) b=(S.kd u).take at'++(h:Int)::(S.kd u).drop at':=by rw [← hat];rfl
 refine ⟨upd av u (.p (.list (intsPV (insI (S.kd u) (h:Int) b)))),killed rest (av u)++[.dead], ?_,by exact Go.TA.Tryz.MOk.fixed hM hu (insI (S.kd u) (h:Int) b) [.dead],Go.TA.Tryz.Fr.fixed hu _ _⟩
 rw [hres]
 generalize hres2:(S.kd u).take at'++(h:Int)::(S.kd u).drop at'=ks' at hins
 have hset1:(rowsAV S.N S.st av).set u [.p (.bool (S.st u).live),.p (.int .i64 (S.st u).up),.p (.list (intsPV ks')),.p (.str (S.st u).tag),.p (.str (S.st u).key),.p (.str (S.st u).text),.p (.list ((S.st u).attrs.map Attr.pv))]=rowsAV S.N S.st (upd av u (.p (.list (intsPV ks')))):=by
  have:=rowsAV_set (N:=S.N) (st:=S.st) (av:=av) hu (S.st u) (.p (.list (intsPV ks')))
  simp only [nodeAV] at this
  rw [this]
  refine rowsAV_congr fun k hk=>⟨?_,rfl⟩
  by_cases e:k=u
  ·subst e;rw [upd_at]
  ·rw [upd_ne e]
 have hgh:(rowsAV S.N S.st (upd av u (.p (.list (intsPV ks'))))).getD h []=nodeAV (S.st h) (upd av u (.p (.list (intsPV ks'))) h):=rowsAV_get hh
 generalize hah:upd av u (.p (.list (intsPV ks'))) h=ah at hgh
 have hset2:(rowsAV S.N S.st (upd av u (.p (.list (intsPV ks'))))).set h [.p (.bool (S.st h).live),.p (.int .i64 u),ah,.p (.str (S.st h).tag),.p (.str (S.st h).key),.p (.str (S.st h).text),.p (.list ((S.st h).attrs.map Attr.pv))]=rowsAV S.N (placeM S h u b).st (upd av u (.p (.list (intsPV ks')))):=by
  have:=rowsAV_set (N:=S.N) (st:=S.st) (av:=upd av u (.p (.list (intsPV ks')))) hh { S.st h with up:=(u:Int) } ah
  simp only [nodeAV] at this
  rw [this]
  refine rowsAV_congr fun k hk=>⟨rfl, ?_⟩
  by_cases e:k=h
  ·subst e;rw [upd_at,hah]
  ·rw [upd_ne e]
 rw [acall_code T74,run_code rfl rfl]
 simp only [nodeAV] at hgu hgh
 by_cases hb0:b=0
 ·have eb:(b==0)=true:=by simpa using hb0
  have eb2:(b != 0)=false:=by simp [hb0]
  rw [if_pos hb0] at hat
  subst hat
  rcases hK.inv with ⟨hav,hk0⟩ | ⟨r,hav,hr⟩ | hav
  ·rw [hav] at hcl hins hgu
   simp only [hk0,List.length_nil,Int.natCast_zero] at hcl hins
   simp only [machG,hav]
   simp -implicitDefEqProofs (disch:=omega) only [Rx,simprocAttr,F74,k1,k2,len1,hgu,hgh,hset1,hset2,hcl,hins,eb]
  ·rw [hav] at hcl hins hgu
   simp only [machG,hav]
   simp -implicitDefEqProofs (disch:=omega) only [Rx,simprocAttr,F74,k1,k2,len1,hgu,hgh,hset1,hset2,hcl,hins,eb]
  ·rw [hav] at hcl hins hgu
   simp only [machG,hav]
   simp -implicitDefEqProofs (disch:=omega) only [Rx,simprocAttr,F74,k1,k2,len1,hgu,hgh,hset1,hset2,hcl,hins,il,eb]
 ·have eb:(b==0)=false:=by simpa using hb0
  have eb2:(b != 0)=true:=by simp [hb0]
  have hbm:b ∈ S.kd u:=by rcases hb with h1 | h1;exact absurd h1 hb0;exact h1
  have hix:=fun g=>indexI_run (S.kd u) b hbm (by omega) g (n:=n) (by omega)
  rw [if_neg hb0] at hat
  rw [hat] at hix
  rcases hK.inv with ⟨hav,hk0⟩ | ⟨r,hav,hr⟩ | hav
  ·rw [hk0] at hbm;simp at hbm
  ·rw [hav] at hcl hins hgu
   simp only [machG,hav]
   simp -implicitDefEqProofs (disch:=omega) only [Rx,simprocAttr,F74,k1,k2,len1,hgu,hgh,hset1,hset2,hcl,hins,hix,il,eb,hr]
  ·rw [hav] at hcl hins hgu
   simp only [machG,hav]
   simp -implicitDefEqProofs (disch:=omega) only [Rx,simprocAttr,F74,k1,k2,len1,hgu,hgh,hset1,hset2,hcl,hins,hix,il,eb]
end Go.TA.Tryz


end
section
/- slices.DeleteFunc on a row of numbers that was cloned: the numbers that are another one. -/
set_option maxRecDepth 100000
set_option maxHeartbeats 8000000
namespace Go.TA.Tryz
def notH (h:Int) (x:Int):Bool := !(x==h)
theorem filter_step {α : Type} {p : α → Bool} {l:List α} {j:Nat} {x : α} (hx:l[j]? = some x):(l.take (j+1)).filter p=(l.take j).filter p++(if p x=true then [x] else []):=by
 rw [List.take_add_one,hx]
 simp only [List.filter_append,Option.toList_some,List.filter_cons,List.filter_nil]
theorem filter_none {α : Type} {p : α → Bool} {l:List α} (h:∀ x ∈ l,p x=true):l.filter p=l:=List.filter_eq_self.2 h
structure Going {α : Type} (p : α → Bool) (l:List α) (j i:Nat) (cur:List α):Prop where
 len:cur.length=l.length
 lt:i≤j
 have':cur.take i=(l.take j).filter p
 come:cur.drop j=l.drop j
theorem Going.il {α : Type} {p : α → Bool} {l:List α} {j i:Nat} {cur:List α} (h:Going p l j i cur) (hj:j≤l.length):i=((l.take j).filter p).length:=by
 rw [← h.have',List.length_take,h.len]
 have:=h.lt
 omega
theorem Going.at {α : Type} {p : α → Bool} {l:List α} {j i:Nat} {cur:List α} (h:Going p l j i cur):cur[j]? = l[j]? := by
 have:=congrArg (·[0]?) h.come
 simpa [List.getElem?_drop] using this
theorem Going.skip {α : Type} {p : α → Bool} {l:List α} {j i:Nat} {cur:List α} (h:Going p l j i cur) {x : α} (hx:l[j]? = some x) (hp:p x=false):Going p l (j+1) i cur:=by
 refine ⟨h.len,by have:=h.lt;omega, ?_, ?_⟩
 ·rw [filter_step hx,h.have',hp];simp
 ·have:=congrArg (List.drop 1) h.come
  simpa [List.drop_drop,Nat.add_comm] using this
theorem Going.take {α : Type} {p : α → Bool} {l:List α} {j i:Nat} {cur:List α} (h:Going p l j i cur) {x : α} (hx:l[j]? = some x) (hp:p x=true):Going p l (j+1) (i+1) (cur.set i x):=by
 have hj:j<l.length:=(List.getElem?_eq_some_iff.1 hx).1
 have hlt:=h.lt
 refine ⟨by rw [List.length_set];exact h.len,by omega, ?_, ?_⟩
 ·rw [filter_step hx,hp,if_pos rfl, ← h.have',List.take_add_one,List.getElem?_set]
  have:i<cur.length:=by rw [h.len];omega
  rw [if_pos rfl,if_pos this]
  simp [List.take_set_of_le]
 ·have:=congrArg (List.drop 1) h.come
  rw [List.drop_drop,List.drop_drop] at this
  rw [List.drop_set_of_lt (by omega)]
  exact this
section
variable {h:Int} {kb k:Nat}
theorem clo_run (x:Int) (g:List AObj) (hkb:g[kb]? = some (.pcells 1 [[.int .i64 h]])) (n:Nat):acall T (n+1) 77 [.p (.int .i64 x),.ptr true kb 1 1 0 0] g=some (.p (.bool (x==h)),g):=by
 rw [acall_code T77,run_code rfl rfl]
 have e0:Int.toNat 0=0:=rfl
 simp -implicitDefEqProofs (disch:=omega) only [Rx,simprocAttr,F77,hkb]
theorem findI_run (ks : List Int) (g : List AObj) (hk : g[k]? = some (.pcells 1 (intsPV ks))) (hkb : g[kb]? = some (.pcells 1 [[.int .i64 h]])) (hl : ks.length ≤ 4194304) {n : Nat} (hn : ks.length + 1 < n) :
    acall T (n+2) 107 [.own true k ks.length,.func 77 [.ptr true kb 1 1 0 0]] g=some (.p (.int .i64 (if ks.findIdx (· == h)<ks.length then (ks.findIdx (· == h):Int) else -1)),g):=by
  have il:=intsPV_len ks
  have key:=loop_inv (C:=acall T (n+1)) (N:=n+1) (B:=B107x0) (σ := Nat) (S:=fun i=>⟨[(0,.own true k ks.length),(1,.func 77 [.ptr true kb 1 1 0 0]),(7,.p (.int .i64 ks.length)),(8,.p (.int .i64 i))],[],g⟩)
    (I:=fun i=>i≤ks.length∧i≤ks.findIdx (· == h)) (μ := fun i=>ks.length - i) (Q:=fun q=>q=if ks.findIdx (· == h)<ks.length then (.ret,⟨[(4,.p (.int .i64 (ks.findIdx (· == h))))],[],g⟩) else (.exit 0,⟨[],[],g⟩)) ?_ 0 ⟨by omega,by omega⟩ (by omega)
  · obtain ⟨q,hq,rfl⟩:=key
    simp only [Int.natCast_zero] at hq
    rw [acall_code T107,run_code rfl rfl]
    by_cases hc:ks.findIdx (· == h)<ks.length
    · rw [if_pos hc] at hq
      rw [if_pos hc]
      simp -implicitDefEqProofs (disch:=omega) only [Rx,simprocAttr,F107,hq]
    · rw [if_neg hc] at hq
      rw [if_neg hc]
      simp -implicitDefEqProofs (disch:=omega) only [Rx,simprocAttr,F107,hq]
  rintro i ⟨h1,h2⟩
  by_cases hi:i<ks.length
  · have k1:(i:Int)<(ks.length:Int):=by omega
    have hg:=intsPV_get (List.getElem?_eq_getElem hi)
    have hc:=clo_run (h:=h) ks[i] g hkb n
    by_cases e:i=ks.findIdx (· == h)
    · right
      have hp:(ks[i]==h)=true:=by
        have:=List.findIdx_getElem (xs:=ks) (p:=(· == h)) (w:=by omega)
        subst e;exact this
      rw [hp] at hc
      refine ⟨_, ?_, ?_,rfl⟩
      · rw [if_pos (by omega), ← e]
        simp -implicitDefEqProofs (disch:=omega) only [Rx,simprocAttr,B107x0,k1,hg,hk,hc,il]
      · rw [if_pos (by omega)];simp
    · left
      have hp:(ks[i]==h)=false:=by
        have:=List.not_of_lt_findIdx (xs:=ks) (p:=(· == h)) (i:=i) (by omega)
        simpa using this
      rw [hp] at hc
      refine ⟨i+1, ?_,⟨by omega,by omega⟩,by omega⟩
      simp -implicitDefEqProofs (disch:=omega) only [Rx,simprocAttr,B107x0,k1,hg,hk,hc,il]
  · right
    obtain rfl:i=ks.length:=by omega
    have k1:¬ (ks.length:Int)<(ks.length:Int):=by omega
    refine ⟨_, ?_, ?_,rfl⟩
    · rw [if_neg (by omega)]
      simp -implicitDefEqProofs (disch:=omega) only [Rx,simprocAttr,B107x0,k1]
    · rw [if_neg (by omega)];simp
theorem delI_loop (ks:List Int) (g:List AObj) (hk:k<g.length) (hkb:g[kb]? = some (.pcells 1 [[.int .i64 h]])) (hne:k≠kb) (hl:ks.length≤4194304) (n N:Nat) (hN:ks.length<N) (j0 i0:Nat) (h0:Going (notH h) ks j0 i0 ks) (hj0:j0≤ks.length) :
    ∃ cur i,aexec (acall T (n+1)) N (.loop delLoop1) ⟨[(0,.own true k ks.length),(1,.func 77 [.ptr true kb 1 1 0 0]),(5,.p (.int .i64 i0)),(6,.p (.int .i64 j0))],[],g.set k (.pcells 1 (intsPV ks))⟩=some (.exit 0,⟨[(0,.own true k ks.length),(5,.p (.int .i64 (i:Nat)))],[],g.set k (.pcells 1 (intsPV cur))⟩)∧Going (notH h) ks ks.length i cur:=by
  have key:=loop_inv (C:=acall T (n+1)) (N:=N) (B:=delLoop1) (σ := Nat × Nat × List Int) (S:=fun s=>⟨[(0,.own true k ks.length),(1,.func 77 [.ptr true kb 1 1 0 0]),(5,.p (.int .i64 s.1)),(6,.p (.int .i64 s.2.1))],[],g.set k (.pcells 1 (intsPV s.2.2))⟩)
    (I:=fun s=>s.2.1≤ks.length∧Going (notH h) ks s.2.1 s.1 s.2.2) (μ := fun s=>ks.length - s.2.1) (Q:=fun q=>∃ cur i,q=(.exit 0,⟨[(0,.own true k ks.length),(5,.p (.int .i64 (i:Nat)))],[],g.set k (.pcells 1 (intsPV cur))⟩)∧Going (notH h) ks ks.length i cur) ?_ (i0,j0,ks) ⟨hj0,h0⟩ (by simp only;omega)
  · obtain ⟨q,hq,cur,i,rfl,hg⟩:=key
    exact ⟨cur,i,hq,hg⟩
  rintro ⟨i,j,cur⟩ ⟨h1,h2⟩
  simp only at h1 h2 ⊢
  have hgk:(g.set k (.pcells 1 (intsPV cur)))[k]? = some (.pcells 1 (intsPV cur)):=by rw [List.getElem?_set,if_pos rfl,if_pos hk]
  have hgb:(g.set k (.pcells 1 (intsPV cur)))[kb]? = some (.pcells 1 [[.int .i64 h]]):=by rw [List.getElem?_set,if_neg hne];exact hkb
  have hss:∀ o o':AObj,(g.set k o).set k o'=g.set k o':=fun o o'=>by simp
  have il:=intsPV_len cur
  rw [h2.len] at il
  have hlt:=h2.lt
  by_cases hj:j<ks.length
  · left
    obtain ⟨x,hx⟩:∃ x,ks[j]? = some x:=⟨_,List.getElem?_eq_getElem hj⟩
    have k1:(j:Int)<(ks.length:Int):=by omega
    have k2:(i:Int)<(ks.length:Int):=by omega
    have hg:=intsPV_get (h2.at.trans hx)
    have hc:=clo_run (h:=h) x (g.set k (.pcells 1 (intsPV cur))) hgb n
    cases hp:(x==h) with
    | true =>
      rw [hp] at hc
      refine ⟨(i,j+1,cur), ?_,⟨by simp only;omega,h2.skip hx (by simp [notH,hp])⟩,by simp only;omega⟩
      simp -implicitDefEqProofs (disch:=omega) only [Rx,simprocAttr,delLoop1,k1,hg,hgk,hc,il]
    | false =>
      rw [hp] at hc
      have hset:(intsPV cur).set i [.int .i64 x]=intsPV (cur.set i x):=by simp [intsPV,List.map_set]
      have hgi:=intsPV_get (List.getElem?_eq_getElem (show i<cur.length by rw [h2.len];omega))
      refine ⟨(i+1,j+1,cur.set i x), ?_,⟨by simp only;omega,h2.take hx (by simp [notH,hp])⟩,by simp only;omega⟩
      simp -implicitDefEqProofs (disch:=omega) only [Rx,simprocAttr,delLoop1,k1,k2,hg,hgi,hgk,hc,il,hset,hss]
  · right
    obtain rfl:j=ks.length:=by omega
    have k1:¬ (ks.length:Int)<(ks.length:Int):=by omega
    refine ⟨_, ?_, ?_,cur,i,rfl,h2⟩
    · simp -implicitDefEqProofs (disch:=omega) only [Rx,simprocAttr,delLoop1,k1]
    · simp
theorem delI_run (ks : List Int) (g : List AObj) (hk : g[k]? = some (.pcells 1 (intsPV ks))) (hkb : g[kb]? = some (.pcells 1 [[.int .i64 h]])) (hne : k ≠ kb) (hl : ks.length ≤ 4194304) {n : Nat} (hn : ks.length + 1 < n) :
    acall T (n+3) 75 [.own true k ks.length,.func 77 [.ptr true kb 1 1 0 0]] g=some (.p (.list (intsPV (ks.filter (notH h)))),g.set k .dead):=by
  rw [acall_prim T75]
  have hf:=findI_run ks g hk hkb hl hn
  have il:=intsPV_len ks
  have hkl:k<g.length:=(List.getElem?_eq_some_iff.1 hk).1
  unfold pDelete
  simp only
  by_cases hc:ks.findIdx (· == h)<ks.length
  · rw [if_pos hc] at hf
    generalize hi:ks.findIdx (· == h)=i0 at hc hf
    have hpre:∀ m,m<i0→∀ x,ks[m]? = some x→notH h x=true:=fun m hm x hx=>by
      have hml:m<ks.length:=(List.getElem?_eq_some_iff.1 hx).1
      have:=List.not_of_lt_findIdx (xs:=ks) (p:=(· == h)) (i:=m) (by omega)
      rw [(List.getElem?_eq_some_iff.1 hx).2] at this
      simpa [notH] using this
    have hat:ks[i0]? = some h:=by
      have:=List.findIdx_getElem (xs:=ks) (p:=(· == h)) (w:=by omega)
      subst hi
      rw [List.getElem?_eq_getElem hc]
      simpa using this
    have hgo:Going (notH h) ks (i0+1) i0 ks:=by
      have h1:Going (notH h) ks i0 i0 ks:=by
        refine ⟨rfl,Nat.le_refl _, ?_,rfl⟩
        rw [filter_none]
        intro x hx
        obtain ⟨m,hm,rfl⟩:=List.getElem_of_mem hx
        rw [List.length_take] at hm
        refine hpre m (by omega) _ ?_
        rw [List.getElem_take,List.getElem?_eq_getElem]
      exact h1.skip hat (by simp [notH])
    obtain ⟨cur,i,hloop,hend⟩:=delI_loop (h:=h) (kb:=kb) ks g hkl hkb hne hl (n+1) (ks.length+2) (by omega) (i0+1) i0 hgo (by omega)
    have hself:g.set k (.pcells 1 (intsPV ks))=g:=by
      apply List.ext_getElem?
      intro m
      rw [List.getElem?_set]
      by_cases e:k=m
      · subst e;rw [if_pos rfl,if_pos hkl,hk]
      · rw [if_neg e]
    rw [hself] at hloop
    have e1:((i0:Int) == -1)=false:=by simp
    have hilt:=hend.il (Nat.le_refl _)
    have hihave:=hend.have'
    rw [List.take_length] at hilt hihave
    have hlt2:i<ks.length:=by
      rw [hilt]
      exact List.length_filter_lt_length_iff_exists.2 ⟨h,List.mem_of_getElem? hat,by simp [notH]⟩
    have hrun:aexec (acall T (n+2)) (ks.length+2) (delHead 107 delLoop1) (enterSt [.own true k ks.length,.func 77 [.ptr true kb 1 1 0 0]] g)=some (.normal,⟨[(0,.own true k ks.length),(5,.p (.int .i64 (i:Nat)))],[],g.set k (.pcells 1 (intsPV cur))⟩):=by
      simp only [Int.natCast_add,Int.natCast_one] at hloop
      simp -implicitDefEqProofs (disch:=omega) only [Rx,simprocAttr,delHead,hf,hloop,e1]
    rw [hrun]
    have hgk:(g.set k (.pcells 1 (intsPV cur)))[k]? = some (.pcells 1 (intsPV cur)):=by rw [List.getElem?_set,if_pos rfl,if_pos hkl]
    have il2:(intsPV cur).length=ks.length:=by rw [intsPV_len,hend.len]
    have hi2:(i:Int)<(ks.length:Int):=by omega
    have ht:(intsPV cur).take i=intsPV (ks.filter (notH h)):=by rw [← hihave];simp [intsPV,List.map_take]
    simp [Option.bind_some,delOut,St.get,lk,orBot,hgk,il2,hi2,ht]
  · rw [if_neg hc] at hf
    have hall:ks.filter (notH h)=ks:=filter_none fun x hx=>by
      have h1:¬ ks.findIdx (· == h)<ks.length:=hc
      rw [List.findIdx_lt_length] at h1
      cases hq:(x==h) with
      | false=>simp [notH,hq]
      | true=>exact absurd ⟨x,hx,hq⟩ h1
    have hrun:aexec (acall T (n+2)) (ks.length+2) (delHead 107 delLoop1) (enterSt [.own true k ks.length,.func 77 [.ptr true kb 1 1 0 0]] g)=some (.ret,⟨[(4,.own true k ks.length)],[],g⟩):=by
      simp -implicitDefEqProofs (disch:=omega) only [Rx,simprocAttr,delHead,hf]
    rw [hrun,hall]
    simp [delOut,St.get,lk,orBot,hk,il]
end
end Go.TA.Tryz


end
