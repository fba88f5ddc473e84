/- Part 13 of 15 of a proof; joined from PrsTree, PrsMOps1, PrsMLoose, PrsMOps2, PrsMDel, PrsMTake, PrsMEnd, PrsMAttr, PrsMDelA, OpsData, PrsOpsUsed, PrsOpsNone3, PrsOpsNone5, PrsOpsNone7, PrsOpsNone, PrsOpsSame, PrsOps25, PrsOpsPA. What is wrong with an operation: the program. -/
import Derived.Test.YtnjblmbobmbgkaaGreatDoorPr1
import Derived.Test.YtnjblmbobmbgkaaGreatDoorPr12
import Derived.Test.YtnjblmbobmbgkaaGreatDoorPr7
import Derived.Test.YtnjblmbobmbgkaaGreatDoorPr11
set_option linter.unusedSimpArgs false
set_option linter.unusedVariables false
section
/- The tree of rows, as the program builds it. -/
set_option maxRecDepth 100000
set_option maxHeartbeats 8000000
namespace Go.TA.Tryz
theorem attrs_two (l:List Attr):((l.map Attr.pv).all fun x=>x.length==2)=true:=by simp [List.all_eq_true,Attr.pv]
theorem attrs_same:∀ (l:List Attr),PV.sameLL (l.map Attr.pv) (l.map Attr.pv)=true
 | []=>rfl
 | a::l=>by simp [PV.sameLL,PV.sameL,PV.same,Attr.pv,attrs_same l]
theorem cloneA_run (l:List Attr) (h:l.length≤1048577) (g:List AObj) (n:Nat):acall T (n+1) 37 [.p (.list (l.map Attr.pv))] g=some (.own true g.length l.length,g++[.pcells 2 (l.map Attr.pv)]):=by
 rw [acall_prim T37]
 have h2:=attrs_two l
 have h3:l.length*4096≤140737488355328:=by omega
 simp only [pCloneT,thaw,bk_some,pClone,h2,List.length_map,h3,and_self,if_true]
mutual
inductive BT (l:List GRow):Nat→Nat→List PV→Prop
 | mk {a b:Nat} {x:GRow} {ks:List (List PV)}:l[a]? = some x→BTs l a b ks→BT l a b (nodeCells x ks)
inductive BTs (l:List GRow):Nat→Nat→List (List PV)→Prop
 | nil {a:Nat}:BTs l a (a+1) []
 | snoc {a m b:Nat} {ks:List (List PV)} {k:List PV} {y:GRow}:BTs l a m ks→l[m]? = some y→y.up=(a:Int)+1→BT l m b k→BTs l a b (ks++[k])
end
mutual
theorem BT.lt {l:List GRow} {a b:Nat} {p:List PV}:BT l a b p→a<b∧b≤l.length
  | .mk hx h => by
    have:=BTs.lt h (List.getElem?_eq_some_iff.1 hx).1
    omega
theorem BTs.lt {l:List GRow} {a b:Nat} {ks:List (List PV)}:BTs l a b ks→a<l.length→a+1≤b∧b≤l.length∧ks.length+a+1≤b
  | .nil,ha=>⟨Nat.le_refl _,ha,by simp⟩
  | .snoc h _ _ h2, ha => by
    have h3:=BTs.lt h ha
    have h4:=BT.lt h2
    simp only [List.length_append,List.length_singleton]
    omega
end
theorem BT.len {l:List GRow} {a b:Nat} {p:List PV} (h:BT l a b p):p.length=5:=by
 cases h with
 | mk _ _=>rfl
theorem BTs.at {l:List GRow} {a b:Nat} {ks:List (List PV)} (h:BTs l a b ks):∀ (i:Nat) k,ks[i]? = some k→∃ m m' y,BTs l a m (ks.take i)∧l[m]? = some y∧y.up=(a:Int)+1∧BT l m m' k∧BTs l a m' (ks.take (i+1))∧m'≤b:=by
  match h with
  | .nil=>intro i k hk;simp at hk
  | .snoc (m := m) (ks := ks0) (k := k0) (y := y) h1 hy hu h2 =>
    intro i k hk
    by_cases hi:i<ks0.length
    · rw [List.getElem?_append_left hi] at hk
      obtain ⟨m1,m2,y1,q1,q2,q3,q4,q5,q6⟩:=BTs.at h1 i k hk
      have:=BT.lt h2
      refine ⟨m1,m2,y1, ?_,q2,q3,q4, ?_,by omega⟩
      · rw [List.take_append_of_le_length (by omega)];exact q1
      · rw [List.take_append_of_le_length (by omega)];exact q5
    · have hlt:=(List.getElem?_eq_some_iff.1 hk).1
      simp only [List.length_append,List.length_singleton] at hlt
      obtain rfl:i=ks0.length:=by omega
      rw [List.getElem?_append_right (Nat.le_refl _),Nat.sub_self] at hk
      simp only [List.getElem?_cons_zero,Option.some.injEq] at hk
      subst hk
      refine ⟨m,b,y, ?_,hy,hu,h2, ?_,Nat.le_refl _⟩
      · rw [List.take_append_of_le_length (Nat.le_refl _),List.take_length];exact h1
      · rw [List.take_of_length_le (by simp)];exact .snoc h1 hy hu h2
mutual
theorem BT.uniq {l:List GRow} {a b b':Nat} {p p':List PV}:BT l a b p→BT l a b' p'→p=p'→b=b'
  | .mk hx h, .mk hx' h', e => by
    simp only [nodeCells,List.cons.injEq,PV.list.injEq,and_true] at e
    exact BTs.uniq h h' e.2.2.2.2
theorem BTs.uniq {l:List GRow} {a b b':Nat} {ks ks':List (List PV)}:BTs l a b ks→BTs l a b' ks'→ks=ks'→b=b'
  | .nil,.nil,_=>rfl
  | .nil,.snoc _ _ _ _,e=>by simp at e
  | .snoc _ _ _ _,.nil,e=>by simp at e
  | .snoc h1 _ _ h2, .snoc h1' _ _ h2', e => by
    obtain ⟨e1,e2⟩:=List.append_inj' e rfl
    have e3:=BTs.uniq h1 h1' e1
    subst e3
    exact BT.uniq h2 h2' (by simpa using e2)
end
def kidsC (ks:List (List PV)):AV:=match ks with
 | [] => .nils
 | _::_ => .own true 0 ks.length
theorem kidsC_m (r:List Nat) (ks:List (List PV)):mentions r (kidsC ks)=false:=by cases ks <;> simp [kidsC,mentions]
def kidsG (ks:List (List PV)):List AObj:=match ks with
 | []=>[]
 | _::_=>[.pcells 5 ks]
def buildL (x:GRow) (ks:List (List PV)):List (Nat × AObj):=[(4,.pcells 5 [[.str [],.str [],.str [],.list [],.list []]]),(7,.cells 5 [[.p (.str x.tag),.p (.str x.key),.p (.str x.text),.p (.list (x.attrs.map Attr.pv)),kidsC ks]]),(1000,.pcells 5 [])]
def buildS (l:List GRow) (a:Nat) (x:GRow) (nx:Nat) (ks:List (List PV)):St:=⟨[(0,.p (.list (l.map GRow.pv))),(1,.p (.int .i64 a)),(4,.ptr false 4 5 1 0 0),(7,.ptr false 7 5 1 0 0),(8,.p (.int .i64 nx))],buildL x ks,kidsG ks⟩
def buildQ (l:List GRow) (a:Nat) (x:GRow) (r:Ex × St):Prop:=∃ nx ks,BTs l a nx ks∧(∀ y,l[nx]? = some y→y.up≠(a:Int)+1)∧r=(.exit 0,⟨[(4,.ptr false 4 5 1 0 0),(7,.ptr false 7 5 1 0 0),(8,.p (.int .i64 nx))],buildL x ks,kidsG ks⟩)
theorem build_loop {n N : Nat} (l : List GRow) (hl : l.length ≤ 1048576) (a : Nat) (x : GRow) (hx : l[a]? = some x) (hN : l.length - a < N)
    (ih:∀ m,a<m→m<l.length→∃ b p,BT l m b p∧∀ g,acall T n 97 [.p (.list (l.map GRow.pv)),.p (.int .i64 m)] g=some (.tuple [.p (.agg p),.p (.int .i64 b)],g)) :
    ∃ r,aexec (acall T n) N (.loop B97x0) (buildS l a x (a+1) [])=some r∧buildQ l a x r:=by
  have ha:a<l.length:=(List.getElem?_eq_some_iff.1 hx).1
  refine loop_inv (σ := Nat × List (List PV)) (S:=fun s=>buildS l a x s.1 s.2) (I:=fun s=>BTs l a s.1 s.2) (μ := fun s=>l.length - s.1) (Q:=buildQ l a x) ?_ (a+1,[]) .nil (by simp only;omega)
  rintro ⟨nx,ks⟩ hI
  simp only at hI ⊢
  have hlt:=hI.lt ha
  by_cases h:nx<l.length
  · obtain ⟨y,hy⟩:=get_some h
    have hg:=getD_map (f:=GRow.pv) hy
    have k1:(nx:Int)<(l.length:Int):=by omega
    cases hu:(y.up==(a:Int)+1) with
    | true =>
      obtain ⟨b,p,hbt,hrun⟩:=ih nx (by omega) h
      have hr:=hrun []
      have hp:=hbt.len
      have hb:=hbt.lt
      have hu':y.up=(a:Int)+1:=by simpa using hu
      left
      refine ⟨(b,ks++[p]), ?_,.snoc hI hy hu' hbt,by simp only;omega⟩
      obtain ⟨c1,c2,c3,c4,c5,rfl⟩:∃ c1 c2 c3 c4 c5,p=[c1,c2,c3,c4,c5]:=by
        match p,hp with
        | [c1,c2,c3,c4,c5],_=>exact ⟨c1,c2,c3,c4,c5,rfl⟩
      cases ks with
      | nil =>
        simp only [buildS,buildL,kidsC,kidsG,List.nil_append]
        simp -implicitDefEqProofs (disch:=omega) only [Rx,simprocAttr,B97x0,k1,hg,GRow.pv,hu,hr]
      | cons k0 ks0 =>
        have hkl:(k0::ks0).length+1≤1048576:=by omega
        simp only [buildS,buildL,kidsC,kidsG,List.cons_append,List.length_cons,List.length_append,List.length_nil] at hkl ⊢
        simp -implicitDefEqProofs (disch:=omega) only [Rx,simprocAttr,B97x0,k1,hg,GRow.pv,hu,hr,List.length_append]
    | false =>
      right
      have hu':¬ y.up=(a:Int)+1:=by simpa using hu
      refine ⟨_, ?_, ?_,nx,ks,hI,fun z hz=>by rw [hy] at hz;cases hz;exact hu',rfl⟩
      · simp only [buildS,buildL]
        simp -implicitDefEqProofs (disch:=omega) only [Rx,simprocAttr,B97x0,k1,hg,GRow.pv,hu,kidsC_m]
      · simp
  · right
    have k1:¬ (nx:Int)<(l.length:Int):=by omega
    refine ⟨_, ?_, ?_,nx,ks,hI,fun z hz => ?_,rfl⟩
    · simp only [buildS,buildL]
      simp -implicitDefEqProofs (disch:=omega) only [Rx,simprocAttr,B97x0,k1,kidsC_m]
    · simp
    · have:=(List.getElem?_eq_some_iff.1 hz).1
      omega
theorem build_run (l:List GRow) (hl:l.length≤1048576) (hal:∀ x ∈ l,x.attrs.length≤1048577):∀ (d a n:Nat),a<l.length→l.length - a≤d→∃ b p,BT l a b p∧(∀ y,l[b]? = some y→y.up≠(a:Int)+1)∧∀ g,acall T (n+d+3) 97 [.p (.list (l.map GRow.pv)),.p (.int .i64 a)] g=some (.tuple [.p (.agg p),.p (.int .i64 b)],g):=by
  intro d
  induction d with
  | zero=>intro a n ha hd;omega
  | succ d ih =>
    intro a n ha hd
    obtain ⟨x,hx⟩:=get_some ha
    have hg:=getD_map (f:=GRow.pv) hx
    have k1:(a:Int)<(l.length:Int):=by omega
    obtain ⟨r,hr,nx,ks,hbt,hlast,rfl⟩:=build_loop (n:=n+d+3) (N:=n+d+3) l hl a x hx (by omega) (fun m h1 h2=>by
      obtain ⟨b,p,q1,_,q3⟩:=ih m n h2 (by omega)
      exact ⟨b,p,q1,q3⟩)
    refine ⟨nx,nodeCells x ks,.mk hx hbt,hlast,fun g => ?_⟩
    rw [show n+(d+1)+3=n+d+3+1 by omega,acall_code T97,run_pure rfl rfl rfl]
    have hcl:=fun g=>cloneA_run x.attrs (hal x (List.mem_of_getElem? hx)) g (n+d+2)
    cases ks with
    | nil =>
      simp only [buildS,buildL,kidsC,kidsG,Int.natCast_add,Int.natCast_one] at hr
      simp only [nodeCells]
      simp -implicitDefEqProofs (disch:=omega) only [Rx,simprocAttr,F97,k1,hg,GRow.pv,attrsPV,hcl,hr,attrs_same]
    | cons k0 ks0 =>
      simp only [buildS,buildL,kidsC,kidsG,Int.natCast_add,Int.natCast_one] at hr
      simp only [nodeCells]
      simp -implicitDefEqProofs (disch:=omega) only [Rx,simprocAttr,F97,k1,hg,GRow.pv,attrsPV,hcl,hr,attrs_same]
end Go.TA.Tryz


end
section
/- What a machine's functions look at: does a node live, is it below another one. -/
set_option maxRecDepth 100000
set_option maxHeartbeats 8000000
namespace Go.TA.Tryz
abbrev MP:AV:=.ptr true 1 1 1 0 0
theorem lives_run (S:MS) (av:Nat→AV) (rest:List AObj) (h:Int) (n:Nat):acall T (n+1) 72 [MP,.p (.int .i64 h)] (machG S.N S.st av rest)=some (.p (.bool (liveB S h)),machG S.N S.st av rest):=by
 rw [acall_code T72,run_code rfl rfl]
 have len1:(rowsAV S.N S.st av).length=S.N:=rowsAV_len
 by_cases h0:0≤h
 rotate_left
 ·have e:liveB S h=false:=by simp [liveB,h0]
  rw [e]
  simp only [machG]
  simp -implicitDefEqProofs (disch:=omega) only [Rx,simprocAttr,F72,h0]
 obtain ⟨c,rfl⟩:=Int.eq_ofNat_of_zero_le h0
 by_cases h1:(c:Int)<(S.N:Int)
 rotate_left
 ·have e:liveB S (c:Int)=false:=by simp only [liveB,h1,decide_false,Bool.false_and,Bool.and_false]
  rw [e]
  simp only [machG]
  simp -implicitDefEqProofs (disch:=omega) only [Rx,simprocAttr,F72,h0,h1]
 ·have hgn:(rowsAV S.N S.st av).getD c []=nodeAV (S.st c) (av c):=rowsAV_get (by omega)
  have e:liveB S (c:Int)=(S.st c).live:=by simp only [liveB,h0,h1,decide_true,Bool.true_and,Int.toNat_natCast]
  rw [e]
  simp only [machG,nodeAV] at hgn ⊢
  simp -implicitDefEqProofs (disch:=omega) only [Rx,simprocAttr,F72,h0,h1,len1,hgn]
theorem fit_run (S:MS) (av:Nat→AV) (rest:List AObj) (h:Int) (n:Nat):acall T (n+2) 44 [MP,.p (.int .i64 h)] (machG S.N S.st av rest)=some (.p (.int .i64 (fitE S h)),machG S.N S.st av rest):=by
 rw [acall_code T44,run_code rfl rfl]
 have hl:=lives_run S av rest h n
 by_cases h0:h=0
 ·have e:(h==0)=true:=by simpa using h0
  simp -implicitDefEqProofs (disch:=omega) only [Rx,simprocAttr,F44,fitE,h0]
 have e:(h==0)=false:=by simpa using h0
 cases hv:liveB S h
 ·rw [hv] at hl
  simp -implicitDefEqProofs (disch:=omega) only [Rx,simprocAttr,F44,fitE,h0,e,hl,hv]
 ·rw [hv] at hl
  simp -implicitDefEqProofs (disch:=omega) only [Rx,simprocAttr,F44,fitE,h0,e,hl,hv]
theorem under_loop {R : Nat} {S : MS} (hS : S.Ok R) (av : Nat → AV) (rest : List AObj) (t : Nat) (C : Calls') (N : Nat) (hN : R + 3 < N) (h : Nat) (hh : h < S.N) :
    aexec C N (.loop B73x0) ⟨[(0,MP),(1,.p (.int .i64 h)),(2,.p (.int .i64 t))],[],machG S.N S.st av rest⟩=some (if underB S (h:Int) (t:Int)=true then (.ret,⟨[(6,.p (.bool true))],[],machG S.N S.st av rest⟩) else (.exit 0,⟨[],[],machG S.N S.st av rest⟩)):=by
  obtain ⟨r,hr1,hr2⟩:=hS.rank
  have len1:(rowsAV S.N S.st av).length=S.N:=rowsAV_len
  have key:=loop_inv (C:=C) (N:=N) (B:=B73x0) (σ := Int) (S:=fun y=>⟨[(0,MP),(1,.p (.int .i64 y)),(2,.p (.int .i64 t))],[],machG S.N S.st av rest⟩)
    (I:=fun y=>(y = -1∨∃ c:Nat,y=(c:Int)∧c<S.N)∧(Below S (t:Int) (h:Int)↔Below S (t:Int) y)) (μ := fun y=>if y<0 then 0 else r y.toNat+1)
    (Q:=fun q=>q=(if underB S (h:Int) (t:Int)=true then (.ret,⟨[(6,.p (.bool true))],[],machG S.N S.st av rest⟩) else (.exit 0,⟨[],[],machG S.N S.st av rest⟩))) ?_ (h:Int) ⟨.inr ⟨h,rfl,hh⟩,Iff.rfl⟩ (by
      have:=hr1 h hh
      simp only [Int.toNat_natCast]
      split <;> omega)
  · obtain ⟨q,hq,rfl⟩:=key
    exact hq
  rintro y ⟨hy,hb⟩
  rcases hy with rfl | ⟨c,rfl,hc⟩
  · right
    have hf:¬ Below S (t:Int) (h:Int):=fun q=>below_neg (by omega) (hb.1 q)
    refine ⟨_, ?_, ?_,rfl⟩
    · rw [if_neg (fun q=>hf (underB_iff.1 q))]
      simp -implicitDefEqProofs (disch:=omega) only [Rx,simprocAttr,B73x0]
    · rw [if_neg (fun q=>hf (underB_iff.1 q))];simp
  by_cases e:c=t
  · subst e
    right
    have hf:Below S (c:Int) (h:Int):=hb.2 .here
    refine ⟨_, ?_, ?_,rfl⟩
    · rw [if_pos (underB_iff.2 hf)]
      have k0:(0:Int)≤(c:Int):=by omega
      simp -implicitDefEqProofs (disch:=omega) only [Rx,simprocAttr,B73x0,k0]
    · rw [if_pos (underB_iff.2 hf)];simp
  · left
    have e1:((c:Int)==(t:Int))=false:=by simp;omega
    have k0:(0:Int)≤(c:Int):=by omega
    have k1:(c:Int)<(S.N:Int):=by omega
    have hgn:(rowsAV S.N S.st av).getD c []=nodeAV (S.st c) (av c):=rowsAV_get hc
    refine ⟨(S.st c).up, ?_,⟨?_, ?_⟩, ?_⟩
    · simp only [machG,nodeAV] at hgn ⊢
      simp -implicitDefEqProofs (disch:=omega) only [Rx,simprocAttr,B73x0,k0,k1,e1,len1,hgn]
    · rcases hS.up c hc with h1 | ⟨p,h1,h2,_⟩
      · exact .inl h1
      · exact .inr ⟨p,h2,h1⟩
    · rw [hb,below_iff (by omega) (by omega)];rfl
    · have e2:¬ (c:Int)<0:=by omega
      simp only [Int.toNat_natCast,e2,if_false]
      rcases hS.up c hc with h1 | ⟨p,h1,h2,_⟩
      · rw [h1];simp
      · have:=hr2 c p hc h2
        rw [h2,Int.toNat_natCast]
        split <;> omega
theorem under_run {R:Nat} {S:MS} (hS:S.Ok R) (av:Nat→AV) (rest:List AObj) (t h:Nat) (hh:h<S.N) {n:Nat} (hn:R+3<n):acall T (n+1) 73 [MP,.p (.int .i64 h),.p (.int .i64 t)] (machG S.N S.st av rest)=some (.p (.bool (underB S h t)),machG S.N S.st av rest):=by
 rw [acall_code T73,run_code rfl rfl]
 have hl:=under_loop hS av rest t (acall T n) n hn h hh
 by_cases hb:Below S (t:Int) (h:Int)
 ·have e:underB S h t=true:=by simp [underB,hb]
  rw [if_pos e] at hl
  simp -implicitDefEqProofs (disch:=omega) only [Rx,simprocAttr,F73,hl,e]
 ·have e:underB S h t=false:=by simp [underB,hb]
  rw [if_neg (by rw [e];simp)] at hl
  simp -implicitDefEqProofs (disch:=omega) only [Rx,simprocAttr,F73,hl,e]
end Go.TA.Tryz


end
section
/- The machine's loose tops, read. -/
set_option maxRecDepth 100000
set_option maxHeartbeats 8000000
namespace Go.TA.Tryz
def looB (S:MS) (h:Nat):Bool:=(S.st h).live && (!(h==0) && decide ((S.st h).up<0))
theorem looseM_all (S:MS):looseM S=((List.range S.N).filter (looB S)).map fun h:Nat=>(h:Int):=by
 unfold looseM liveL
 rw [List.filter_filter]
 congr 1
 apply List.filter_congr
 intro h _
 simp [looB,Bool.and_comm]
theorem looseM_len (S:MS):(looseM S).length≤S.N:=by
 have h1:=liveL_len S
 have h2:=List.length_filter_le (fun h:Nat => !(h==0) && decide ((S.st h).up<0)) (liveL S)
 simp only [looseM,List.length_map]
 omega
theorem loose_run (S : MS) (hN : S.N ≤ 4194304) (av : Nat → AV) (rest : List AObj) (hM : MOk S.N av S.kd rest) {n : Nat} (hn : S.N < n) :
    acall T (n+1) 17 [MP] (machG S.N S.st av rest)=some (.own true (rest.length+1+1) (looseM S).length,machG S.N S.st av (rest++[.pcells 1 (intsPV (looseM S))])):=by
  have len1:(rowsAV S.N S.st av).length=S.N:=rowsAV_len
  have hlast:∀ X:AObj,(rest++[X])[rest.length]? = some X:=fun X=>by simp
  have hsetX:∀ X Y:AObj,(rest++[X]).set rest.length Y=rest++[Y]:=fun X Y=>by simp [List.set_append]
  rw [looseM_all]
  generalize hacc:(fun i:Nat=>((List.range i).filter (looB S)).map fun h:Nat=>(h:Int))=acc
  have hal:∀ i,i≤S.N→(acc i).length≤4194304:=fun i hi=>by
    rw [← hacc];simp only [List.length_map]
    have h3:=List.length_filter_le (looB S) (List.range i)
    rw [List.length_range] at h3
    omega
  have key:=loop_inv (C:=acall T n) (N:=n) (B:=B17x0) (σ := Nat) (S:=fun i=>⟨[(3,.own true (rest.length+1+1) (acc i).length),(12,.own true 0 S.N),(13,.p (.int .i64 S.N)),(14,.p (.int .i64 i))],[],machG S.N S.st av (rest++[.pcells 1 (intsPV (acc i))])⟩)
    (I:=fun i=>i≤S.N) (μ := fun i=>S.N - i) (Q:=fun r=>r=(.exit 0,⟨[(3,.own true (rest.length+1+1) (acc S.N).length)],[],machG S.N S.st av (rest++[.pcells 1 (intsPV (acc S.N))])⟩)) ?_ 0 (by omega) (by omega)
  · obtain ⟨r,hr,rfl⟩:=key
    have e0:acc 0=[]:=by rw [← hacc];simp
    have e1:acc S.N=((List.range S.N).filter (looB S)).map fun h:Nat=>(h:Int):=by rw [← hacc]
    rw [e0,e1] at hr
    generalize ((List.range S.N).filter (looB S)).map (fun h:Nat=>(h:Int))=l1 at hr ⊢
    simp only [List.length_nil,Int.natCast_zero,show intsPV []=[] from rfl] at hr
    rw [acall_code T17,run_code rfl rfl]
    simp only [machG] at hr ⊢
    simp -implicitDefEqProofs (disch:=omega) only [Rx,simprocAttr,F17,hr]
  intro i hi
  by_cases h1:i<S.N
  · left
    have k1:(i:Int)<(S.N:Int):=by omega
    have hg:(rowsAV S.N S.st av).getD i []=nodeAV (S.st i) (av i):=rowsAV_get h1
    have hs:acc (i+1)=acc i++if looB S i=true then [(i:Int)] else []:=by
      rw [← hacc]
      simp only
      rw [List.range_succ,List.filter_append,List.map_append]
      congr 1
      simp only [List.filter_cons,List.filter_nil]
      split <;> rfl
    have hll:=hal i hi
    have il:=intsPV_len (acc i)
    refine ⟨i+1, ?_,by omega,by omega⟩
    rw [hs]
    simp only [nodeAV] at hg
    by_cases e0:i=0
    · subst e0
      have ep:looB S 0=false:=by simp [looB]
      rw [ep]
      simp only [Bool.false_eq_true,if_false,List.append_nil]
      have e1:¬ (0:Int)<((0:Nat):Int):=by omega
      have k1':(0:Int)<(S.N:Int):=by omega
      generalize acc 0=a0 at hll il
      rcases (hM.kids 0 h1).inv with ⟨hav,_⟩ | ⟨r,hav,_⟩ | hav
      all_goals
        simp only [hav] at hg
        simp only [machG] at ⊢
        simp -implicitDefEqProofs (disch:=omega) only [Rx,simprocAttr,B17x0,k1',hg,len1,Int.natCast_zero,Int.zero_add]
    · have e1:(0:Int)<(i:Int):=by omega
      have e2:(i==0)=false:=by simpa using e0
      cases hlv:(S.st i).live with
      | false =>
        have ep:looB S i=false:=by simp [looB,hlv]
        rw [ep]
        simp only [Bool.false_eq_true,if_false,List.append_nil]
        rw [hlv] at hg
        generalize acc i=a0 at hll il
        rcases (hM.kids i h1).inv with ⟨hav,_⟩ | ⟨r,hav,_⟩ | hav
        all_goals
          simp only [hav] at hg
          simp only [machG] at ⊢
          simp -implicitDefEqProofs (disch:=omega) only [Rx,simprocAttr,B17x0,k1,hg,len1,e1]
      | true =>
        rw [hlv] at hg
        by_cases eu:(S.st i).up<0
        · have ep:looB S i=true:=by simp [looB,hlv,eu,e0]
          rw [ep,if_pos rfl]
          have os1:=intsPV_snoc (acc i) (i:Int)
          have ol1:(intsPV (acc i++[(i:Int)])).length=(acc i).length+1:=by rw [intsPV_len,List.length_append];rfl
          have ol3:(acc i++[(i:Int)]).length=(acc i).length+1:=by rw [List.length_append];rfl
          rw [ol3]
          generalize acc i++[(i:Int)]=acc1 at os1 ol1
          generalize acc i=a0 at hll il os1 ol1
          rcases (hM.kids i h1).inv with ⟨hav,_⟩ | ⟨r,hav,_⟩ | hav
          all_goals
            simp only [hav] at hg
            simp only [machG] at ⊢
            simp -implicitDefEqProofs (disch:=omega) only [Rx,simprocAttr,B17x0,k1,hg,len1,e1,eu,hlast,hsetX,il,os1,ol1]
        · have ep:looB S i=false:=by simp [looB,eu]
          rw [ep]
          simp only [Bool.false_eq_true,if_false,List.append_nil]
          generalize acc i=a0 at hll il
          rcases (hM.kids i h1).inv with ⟨hav,_⟩ | ⟨r,hav,_⟩ | hav
          all_goals
            simp only [hav] at hg
            simp only [machG] at ⊢
            simp -implicitDefEqProofs (disch:=omega) only [Rx,simprocAttr,B17x0,k1,hg,len1,e1,eu]
  · right
    obtain rfl:i=S.N:=by omega
    have k1:¬ (S.N:Int)<(S.N:Int):=by omega
    refine ⟨_, ?_, ?_,rfl⟩
    · simp -implicitDefEqProofs (disch:=omega) only [Rx,simprocAttr,B17x0,k1]
    · simp
end Go.TA.Tryz


end
section
/- A node is put below another one; a node is taken out. -/
set_option maxRecDepth 100000
set_option maxHeartbeats 8000000
namespace Go.TA.Tryz
theorem ints_one (l:List Int):((intsPV l).all fun x=>x.length==1)=true:=by simp [List.all_eq_true,intsPV]
def killed (rest:List AObj):AV→List AObj
 | .own true (r+2) _=>rest.set r .dead
 | _=>rest
theorem killed_len (rest:List AObj) (a:AV):(killed rest a).length=rest.length:=by
 unfold killed;split <;> simp
theorem KRep.killed {rest:List AObj} {a a':AV} {ks':List Int} (h:KRep rest a' ks') (h2:refOf a'=none∨refOf a'≠refOf a):KRep (killed rest a) a' ks':=by
 unfold Go.TA.Tryz.killed
 split
 ·rename_i r m
  refine h.set ?_
  rcases h2 with h2 | h2
  ·rw [h2];simp
  ·exact h2
 ·exact h
theorem cloneI_run {rest:List AObj} {a:AV} {ks:List Int} (hK:KRep rest a ks) (hl:ks.length≤4194304) (A B:AObj) (n:Nat):acall T (n+1) 76 [a] (A::B::rest)=some (.own true (rest.length+1+1) ks.length,A::B::(killed rest a++[.pcells 1 (intsPV ks)])):=by
 rw [acall_prim T76]
 have h2:=ints_one ks
 have h4:=intsPV_len ks
 have h3:ks.length*4096≤140737488355328:=by omega
 rcases hK.inv with ⟨rfl,rfl⟩ | ⟨r,rfl,hr⟩ | rfl
 ·simp [pCloneT,thaw,bk_some,pClone,intsPV,killed]
 ·have hr':(A::B::rest)[r+1+1]? = some (.pcells 1 (intsPV ks)):=by simpa using hr
  simp only [pCloneT,thaw,hr',h4,if_true,bk_some,pClone,h2,h3,and_self,killed,List.set_cons_succ,List.length_cons,List.length_set,List.cons_append]
 ·simp only [pCloneT,thaw,h4,bk_some,pClone,h2,h3,and_self,killed,if_true,List.length_cons,List.cons_append]
theorem insertI_run (X:List AObj) (ks:List Int) (at':Nat) (h:Int) (hat:at'≤ks.length) (hl:ks.length≤4194304) (A B:AObj) (n:Nat):acall T (n+1) 106 [.own true (X.length+1+1) ks.length,.p (.int .i64 at'),.p (.list [[.int .i64 h]])] (A::B::(X++[.pcells 1 (intsPV ks)]))=some (.p (.list (intsPV (ks.take at'++h::ks.drop at'))),A::B::(X++[.dead])):=by
 rw [acall_prim T106]
 have hr':(A::B::(X++[.pcells 1 (intsPV ks)]))[X.length+1+1]? = some (.pcells 1 (intsPV ks)):=by simp
 have h4:=intsPV_len ks
 have h5:(ks.length+1)*4096≤140737488355328:=by omega
 have h6:(at':Int)≤(ks.length:Int):=by omega
 have e1:(intsPV ks).take at'++[[PV.int .i64 h]]++(intsPV ks).drop at'=intsPV (ks.take at'++h::ks.drop at'):=by
  simp [intsPV,List.map_take,List.map_drop]
 have e2:(X++[AObj.pcells 1 (intsPV ks)]).set X.length .dead=X++[.dead]:=by simp [List.set_append]
 simp only [pInsert,hr',h4,true_and,List.all_cons,List.all_nil,List.length_cons,List.length_nil,Bool.and_true,beq_self_eq_true,Nat.zero_add,Nat.lt_irrefl,Nat.zero_lt_one,h5,h6,Int.natCast_nonneg,Int.toNat_natCast,and_self,if_true,List.set_cons_succ,e2]
 rw [← e1]
theorem indexI_run (l:List Int) (v:Int) (hv:v ∈ l) (hl:l.length≤4194304) (g:List AObj) {n:Nat} (hn:l.length<n):acall T (n+1) 105 [.p (.list (intsPV l)),.p (.int .i64 v)] g=some (.p (.int .i64 (l.idxOf v)),g):=by
 have hlt:=List.idxOf_lt_length_iff.2 hv
 have il:=intsPV_len l
 have key:=loop_inv (C:=acall T n) (N:=n) (B:=B105x0) (σ := Nat) (S:=fun i=>⟨[(0,.p (.list (intsPV l))),(1,.p (.int .i64 v)),(7,.p (.int .i64 l.length)),(8,.p (.int .i64 i))],[],[]⟩)
  (I:=fun i=>i≤l.idxOf v) (μ := fun i=>l.length - i) (Q:=fun q=>q=(.ret,⟨[(4,.p (.int .i64 (l.idxOf v)))],[],[]⟩)) ?_ 0 (by omega) (by omega)
 ·obtain ⟨q,hq,rfl⟩:=key
  simp only [Int.natCast_zero] at hq
  rw [acall_code T105,run_pure rfl rfl rfl]
  simp -implicitDefEqProofs (disch:=omega) only [Rx,simprocAttr,F105,hq,il]
 intro i hi
 have hil:i<l.length:=by omega
 have k1:(i:Int)<(l.length:Int):=by omega
 have hg:=intsPV_get (List.getElem?_eq_getElem hil)
 by_cases e:i=l.idxOf v
 ·right
  have hx:l[i]=v:=by subst e;exact List.getElem_idxOf hlt
  refine ⟨_, ?_, ?_,rfl⟩
  ·have e1:(v==l[i])=true:=by simp [hx]
   rw [← e]
   simp -implicitDefEqProofs (disch:=omega) only [Rx,simprocAttr,B105x0,k1,hg,e1,il]
  ·simp
 ·left
  have hx:(v==l[i])=false:=by
   have h9:=List.not_of_lt_findIdx (xs:=l) (p:=fun x=>x==v) (i:=i) (by unfold List.idxOf at hi e;omega)
   have h10:¬ v=l[i]:=fun hq=>by rw [← hq] at h9;simp at h9
   simpa using h10
  refine ⟨i+1, ?_,by omega,by omega⟩
  simp -implicitDefEqProofs (disch:=omega) only [Rx,simprocAttr,B105x0,k1,hg,hx,il]
theorem MOk.fixed {N:Nat} {av:Nat→AV} {kd:Nat→List Int} {rest:List AObj} (h:MOk N av kd rest) {u:Nat} (hu:u<N) (ks:List Int) (more:List AObj):MOk N (upd av u (.p (.list (intsPV ks)))) (upd kd u ks) (killed rest (av u)++more) where
 kids k hk:=by
  by_cases e:k=u
  ·subst e;rw [upd_at,upd_at];exact .list
  ·rw [upd_ne e,upd_ne e]
   refine KRep.more (Go.TA.Tryz.KRep.killed (h.kids k hk) ?_) _
   exact h.disj k u hk hu e
 disj:=(h.fix hu ks).disj
theorem Fr.fixed {N:Nat} {av:Nat→AV} {rest:List AObj} {u:Nat} (hu:u<N) (ks:List (List PV)) (more:List AObj):Fr N av rest N (upd av u (.p (.list ks))) (killed rest (av u)++more) where
 len:=by rw [List.length_append,killed_len];omega
 keep j hj hn:=by
  rw [List.getElem?_append_left (by rw [killed_len];exact hj)]
  have:=hn u hu
  unfold killed
  split
  ·rename_i r m e
   rw [e] at this
   simp only [refOf,ne_eq,Option.some.injEq] at this
   rw [List.getElem?_set,if_neg (by omega)]
  ·rfl
 refs h hh j hj _:=by
  by_cases e:h=u
  ·subst e;rw [upd_at] at hj;cases hj
  ·rw [upd_ne e] at hj;exact ⟨h,hh,hj⟩
theorem place_run {R:Nat} {S:MS} (hS:S.Ok R) (hN:S.N≤4194304) (av:Nat→AV) (rest:List AObj) (hM:MOk S.N av S.kd rest) (h u:Nat) (b:Int) (hh:h<S.N) (hu:u<S.N) (hb:b=0∨b ∈ S.kd u) {n:Nat} (hn:S.N<n) :
  ∃ av' rest',acall T (n+2) 74 [MP,.p (.int .i64 h),.p (.int .i64 u),.p (.int .i64 b)] (machG S.N S.st av rest)=some (.tuple [],machG S.N (placeM S h u b).st av' rest')∧MOk S.N av' (placeM S h u b).kd rest'∧Fr S.N av rest S.N av' rest':=by
 have hK:=hM.kids u hu
 have hkl:=hS.kids_len hu
 have len1:∀ st av,(rowsAV S.N st av).length=S.N:=fun _ _=>rowsAV_len
 have hgu:(rowsAV S.N S.st av).getD u []=nodeAV (S.st u) (av u):=rowsAV_get hu
 have k1:(u:Int)<(S.N:Int):=by omega
 have k2:(h:Int)<(S.N:Int):=by omega
 generalize hat:(if b=0 then (S.kd u).length else (S.kd u).idxOf b)=at'
 have hatl:at'≤(S.kd u).length:=by
  rw [← hat]
  split
  ·exact Nat.le_refl _
  ·exact List.idxOf_le_length
 have hins:=fun A B=>insertI_run (killed rest (av u)) (S.kd u) at' (h:Int) hatl (by omega) A B n
 have hcl:=fun A B=>cloneI_run hK (by omega) A B n
 rw [killed_len] at hins
 have il:=intsPV_len (S.kd u)
 have hres:insI (S.kd u) (h:Int) b=(S.kd u).take at'++(h:Int)::(S.kd u).drop at':=by rw [← hat];rfl
 refine ⟨upd av u (.p (.list (intsPV (insI (S.kd u) (h:Int) b)))),killed rest (av u)++[.dead], ?_,by exact Go.TA.Tryz.MOk.fixed hM hu (insI (S.kd u) (h:Int) b) [.dead],Go.TA.Tryz.Fr.fixed hu _ _⟩
 rw [hres]
 generalize hres2:(S.kd u).take at'++(h:Int)::(S.kd u).drop at'=ks' at hins
 have hset1:(rowsAV S.N S.st av).set u [.p (.bool (S.st u).live),.p (.int .i64 (S.st u).up),.p (.list (intsPV ks')),.p (.str (S.st u).tag),.p (.str (S.st u).key),.p (.str (S.st u).text),.p (.list ((S.st u).attrs.map Attr.pv))]=rowsAV S.N S.st (upd av u (.p (.list (intsPV ks')))):=by
  have:=rowsAV_set (N:=S.N) (st:=S.st) (av:=av) hu (S.st u) (.p (.list (intsPV ks')))
  simp only [nodeAV] at this
  rw [this]
  refine rowsAV_congr fun k hk=>⟨?_,rfl⟩
  by_cases e:k=u
  ·subst e;rw [upd_at]
  ·rw [upd_ne e]
 have hgh:(rowsAV S.N S.st (upd av u (.p (.list (intsPV ks'))))).getD h []=nodeAV (S.st h) (upd av u (.p (.list (intsPV ks'))) h):=rowsAV_get hh
 generalize hah:upd av u (.p (.list (intsPV ks'))) h=ah at hgh
 have hset2:(rowsAV S.N S.st (upd av u (.p (.list (intsPV ks'))))).set h [.p (.bool (S.st h).live),.p (.int .i64 u),ah,.p (.str (S.st h).tag),.p (.str (S.st h).key),.p (.str (S.st h).text),.p (.list ((S.st h).attrs.map Attr.pv))]=rowsAV S.N (placeM S h u b).st (upd av u (.p (.list (intsPV ks')))):=by
  have:=rowsAV_set (N:=S.N) (st:=S.st) (av:=upd av u (.p (.list (intsPV ks')))) hh { S.st h with up:=(u:Int) } ah
  simp only [nodeAV] at this
  rw [this]
  refine rowsAV_congr fun k hk=>⟨rfl, ?_⟩
  by_cases e:k=h
  ·subst e;rw [upd_at,hah]
  ·rw [upd_ne e]
 rw [acall_code T74,run_code rfl rfl]
 simp only [nodeAV] at hgu hgh
 by_cases hb0:b=0
 ·have eb:(b==0)=true:=by simpa using hb0
  have eb2:(b != 0)=false:=by simp [hb0]
  rw [if_pos hb0] at hat
  subst hat
  rcases hK.inv with ⟨hav,hk0⟩ | ⟨r,hav,hr⟩ | hav
  ·rw [hav] at hcl hins hgu
   simp only [hk0,List.length_nil,Int.natCast_zero] at hcl hins
   simp only [machG,hav]
   simp -implicitDefEqProofs (disch:=omega) only [Rx,simprocAttr,F74,k1,k2,len1,hgu,hgh,hset1,hset2,hcl,hins,eb]
  ·rw [hav] at hcl hins hgu
   simp only [machG,hav]
   simp -implicitDefEqProofs (disch:=omega) only [Rx,simprocAttr,F74,k1,k2,len1,hgu,hgh,hset1,hset2,hcl,hins,eb]
  ·rw [hav] at hcl hins hgu
   simp only [machG,hav]
   simp -implicitDefEqProofs (disch:=omega) only [Rx,simprocAttr,F74,k1,k2,len1,hgu,hgh,hset1,hset2,hcl,hins,il,eb]
 ·have eb:(b==0)=false:=by simpa using hb0
  have eb2:(b != 0)=true:=by simp [hb0]
  have hbm:b ∈ S.kd u:=by rcases hb with h1 | h1;exact absurd h1 hb0;exact h1
  have hix:=fun g=>indexI_run (S.kd u) b hbm (by omega) g (n:=n) (by omega)
  rw [if_neg hb0] at hat
  rw [hat] at hix
  rcases hK.inv with ⟨hav,hk0⟩ | ⟨r,hav,hr⟩ | hav
  ·rw [hk0] at hbm;simp at hbm
  ·rw [hav] at hcl hins hgu
   simp only [machG,hav]
   simp -implicitDefEqProofs (disch:=omega) only [Rx,simprocAttr,F74,k1,k2,len1,hgu,hgh,hset1,hset2,hcl,hins,hix,il,eb,hr]
  ·rw [hav] at hcl hins hgu
   simp only [machG,hav]
   simp -implicitDefEqProofs (disch:=omega) only [Rx,simprocAttr,F74,k1,k2,len1,hgu,hgh,hset1,hset2,hcl,hins,hix,il,eb]
end Go.TA.Tryz


end
section
/- slices.DeleteFunc on a row of numbers that was cloned: the numbers that are another one. -/
set_option maxRecDepth 100000
set_option maxHeartbeats 8000000
namespace Go.TA.Tryz
def notH (h:Int) (x:Int):Bool := !(x==h)
theorem filter_step {α : Type} {p : α → Bool} {l:List α} {j:Nat} {x : α} (hx:l[j]? = some x):(l.take (j+1)).filter p=(l.take j).filter p++(if p x=true then [x] else []):=by
 rw [List.take_add_one,hx]
 simp only [List.filter_append,Option.toList_some,List.filter_cons,List.filter_nil]
theorem filter_none {α : Type} {p : α → Bool} {l:List α} (h:∀ x ∈ l,p x=true):l.filter p=l:=List.filter_eq_self.2 h
structure Going {α : Type} (p : α → Bool) (l:List α) (j i:Nat) (cur:List α):Prop where
 len:cur.length=l.length
 lt:i≤j
 have':cur.take i=(l.take j).filter p
 come:cur.drop j=l.drop j
theorem Going.il {α : Type} {p : α → Bool} {l:List α} {j i:Nat} {cur:List α} (h:Going p l j i cur) (hj:j≤l.length):i=((l.take j).filter p).length:=by
 rw [← h.have',List.length_take,h.len]
 have:=h.lt
 omega
theorem Going.at {α : Type} {p : α → Bool} {l:List α} {j i:Nat} {cur:List α} (h:Going p l j i cur):cur[j]? = l[j]? := by
 have:=congrArg (·[0]?) h.come
 simpa [List.getElem?_drop] using this
theorem Going.skip {α : Type} {p : α → Bool} {l:List α} {j i:Nat} {cur:List α} (h:Going p l j i cur) {x : α} (hx:l[j]? = some x) (hp:p x=false):Going p l (j+1) i cur:=by
 refine ⟨h.len,by have:=h.lt;omega, ?_, ?_⟩
 ·rw [filter_step hx,h.have',hp];simp
 ·have:=congrArg (List.drop 1) h.come
  simpa [List.drop_drop,Nat.add_comm] using this
theorem Going.take {α : Type} {p : α → Bool} {l:List α} {j i:Nat} {cur:List α} (h:Going p l j i cur) {x : α} (hx:l[j]? = some x) (hp:p x=true):Going p l (j+1) (i+1) (cur.set i x):=by
 have hj:j<l.length:=(List.getElem?_eq_some_iff.1 hx).1
 have hlt:=h.lt
 refine ⟨by rw [List.length_set];exact h.len,by omega, ?_, ?_⟩
 ·rw [filter_step hx,hp,if_pos rfl, ← h.have',List.take_add_one,List.getElem?_set]
  have:i<cur.length:=by rw [h.len];omega
  rw [if_pos rfl,if_pos this]
  simp [List.take_set_of_le]
 ·have:=congrArg (List.drop 1) h.come
  rw [List.drop_drop,List.drop_drop] at this
  rw [List.drop_set_of_lt (by omega)]
  exact this
section
variable {h:Int} {kb k:Nat}
theorem clo_run (x:Int) (g:List AObj) (hkb:g[kb]? = some (.pcells 1 [[.int .i64 h]])) (n:Nat):acall T (n+1) 77 [.p (.int .i64 x),.ptr true kb 1 1 0 0] g=some (.p (.bool (x==h)),g):=by
 rw [acall_code T77,run_code rfl rfl]
 have e0:Int.toNat 0=0:=rfl
 simp -implicitDefEqProofs (disch:=omega) only [Rx,simprocAttr,F77,hkb]
theorem findI_run (ks : List Int) (g : List AObj) (hk : g[k]? = some (.pcells 1 (intsPV ks))) (hkb : g[kb]? = some (.pcells 1 [[.int .i64 h]])) (hl : ks.length ≤ 4194304) {n : Nat} (hn : ks.length + 1 < n) :
    acall T (n+2) 107 [.own true k ks.length,.func 77 [.ptr true kb 1 1 0 0]] g=some (.p (.int .i64 (if ks.findIdx (· == h)<ks.length then (ks.findIdx (· == h):Int) else -1)),g):=by
  have il:=intsPV_len ks
  have key:=loop_inv (C:=acall T (n+1)) (N:=n+1) (B:=B107x0) (σ := Nat) (S:=fun i=>⟨[(0,.own true k ks.length),(1,.func 77 [.ptr true kb 1 1 0 0]),(7,.p (.int .i64 ks.length)),(8,.p (.int .i64 i))],[],g⟩)
    (I:=fun i=>i≤ks.length∧i≤ks.findIdx (· == h)) (μ := fun i=>ks.length - i) (Q:=fun q=>q=if ks.findIdx (· == h)<ks.length then (.ret,⟨[(4,.p (.int .i64 (ks.findIdx (· == h))))],[],g⟩) else (.exit 0,⟨[],[],g⟩)) ?_ 0 ⟨by omega,by omega⟩ (by omega)
  · obtain ⟨q,hq,rfl⟩:=key
    simp only [Int.natCast_zero] at hq
    rw [acall_code T107,run_code rfl rfl]
    by_cases hc:ks.findIdx (· == h)<ks.length
    · rw [if_pos hc] at hq
      rw [if_pos hc]
      simp -implicitDefEqProofs (disch:=omega) only [Rx,simprocAttr,F107,hq]
    · rw [if_neg hc] at hq
      rw [if_neg hc]
      simp -implicitDefEqProofs (disch:=omega) only [Rx,simprocAttr,F107,hq]
  rintro i ⟨h1,h2⟩
  by_cases hi:i<ks.length
  · have k1:(i:Int)<(ks.length:Int):=by omega
    have hg:=intsPV_get (List.getElem?_eq_getElem hi)
    have hc:=clo_run (h:=h) ks[i] g hkb n
    by_cases e:i=ks.findIdx (· == h)
    · right
      have hp:(ks[i]==h)=true:=by
        have:=List.findIdx_getElem (xs:=ks) (p:=(· == h)) (w:=by omega)
        subst e;exact this
      rw [hp] at hc
      refine ⟨_, ?_, ?_,rfl⟩
      · rw [if_pos (by omega), ← e]
        simp -implicitDefEqProofs (disch:=omega) only [Rx,simprocAttr,B107x0,k1,hg,hk,hc,il]
      · rw [if_pos (by omega)];simp
    · left
      have hp:(ks[i]==h)=false:=by
        have:=List.not_of_lt_findIdx (xs:=ks) (p:=(· == h)) (i:=i) (by omega)
        simpa using this
      rw [hp] at hc
      refine ⟨i+1, ?_,⟨by omega,by omega⟩,by omega⟩
      simp -implicitDefEqProofs (disch:=omega) only [Rx,simprocAttr,B107x0,k1,hg,hk,hc,il]
  · right
    obtain rfl:i=ks.length:=by omega
    have k1:¬ (ks.length:Int)<(ks.length:Int):=by omega
    refine ⟨_, ?_, ?_,rfl⟩
    · rw [if_neg (by omega)]
      simp -implicitDefEqProofs (disch:=omega) only [Rx,simprocAttr,B107x0,k1]
    · rw [if_neg (by omega)];simp
theorem delI_loop (ks:List Int) (g:List AObj) (hk:k<g.length) (hkb:g[kb]? = some (.pcells 1 [[.int .i64 h]])) (hne:k≠kb) (hl:ks.length≤4194304) (n N:Nat) (hN:ks.length<N) (j0 i0:Nat) (h0:Going (notH h) ks j0 i0 ks) (hj0:j0≤ks.length) :
    ∃ cur i,aexec (acall T (n+1)) N (.loop delLoop1) ⟨[(0,.own true k ks.length),(1,.func 77 [.ptr true kb 1 1 0 0]),(5,.p (.int .i64 i0)),(6,.p (.int .i64 j0))],[],g.set k (.pcells 1 (intsPV ks))⟩=some (.exit 0,⟨[(0,.own true k ks.length),(5,.p (.int .i64 (i:Nat)))],[],g.set k (.pcells 1 (intsPV cur))⟩)∧Going (notH h) ks ks.length i cur:=by
  have key:=loop_inv (C:=acall T (n+1)) (N:=N) (B:=delLoop1) (σ := Nat × Nat × List Int) (S:=fun s=>⟨[(0,.own true k ks.length),(1,.func 77 [.ptr true kb 1 1 0 0]),(5,.p (.int .i64 s.1)),(6,.p (.int .i64 s.2.1))],[],g.set k (.pcells 1 (intsPV s.2.2))⟩)
    (I:=fun s=>s.2.1≤ks.length∧Going (notH h) ks s.2.1 s.1 s.2.2) (μ := fun s=>ks.length - s.2.1) (Q:=fun q=>∃ cur i,q=(.exit 0,⟨[(0,.own true k ks.length),(5,.p (.int .i64 (i:Nat)))],[],g.set k (.pcells 1 (intsPV cur))⟩)∧Going (notH h) ks ks.length i cur) ?_ (i0,j0,ks) ⟨hj0,h0⟩ (by simp only;omega)
  · obtain ⟨q,hq,cur,i,rfl,hg⟩:=key
    exact ⟨cur,i,hq,hg⟩
  rintro ⟨i,j,cur⟩ ⟨h1,h2⟩
  simp only at h1 h2 ⊢
  have hgk:(g.set k (.pcells 1 (intsPV cur)))[k]? = some (.pcells 1 (intsPV cur)):=by rw [List.getElem?_set,if_pos rfl,if_pos hk]
  have hgb:(g.set k (.pcells 1 (intsPV cur)))[kb]? = some (.pcells 1 [[.int .i64 h]]):=by rw [List.getElem?_set,if_neg hne];exact hkb
  have hss:∀ o o':AObj,(g.set k o).set k o'=g.set k o':=fun o o'=>by simp
  have il:=intsPV_len cur
  rw [h2.len] at il
  have hlt:=h2.lt
  by_cases hj:j<ks.length
  · left
    obtain ⟨x,hx⟩:∃ x,ks[j]? = some x:=⟨_,List.getElem?_eq_getElem hj⟩
    have k1:(j:Int)<(ks.length:Int):=by omega
    have k2:(i:Int)<(ks.length:Int):=by omega
    have hg:=intsPV_get (h2.at.trans hx)
    have hc:=clo_run (h:=h) x (g.set k (.pcells 1 (intsPV cur))) hgb n
    cases hp:(x==h) with
    | true =>
      rw [hp] at hc
      refine ⟨(i,j+1,cur), ?_,⟨by simp only;omega,h2.skip hx (by simp [notH,hp])⟩,by simp only;omega⟩
      simp -implicitDefEqProofs (disch:=omega) only [Rx,simprocAttr,delLoop1,k1,hg,hgk,hc,il]
    | false =>
      rw [hp] at hc
      have hset:(intsPV cur).set i [.int .i64 x]=intsPV (cur.set i x):=by simp [intsPV,List.map_set]
      have hgi:=intsPV_get (List.getElem?_eq_getElem (show i<cur.length by rw [h2.len];omega))
      refine ⟨(i+1,j+1,cur.set i x), ?_,⟨by simp only;omega,h2.take hx (by simp [notH,hp])⟩,by simp only;omega⟩
      simp -implicitDefEqProofs (disch:=omega) only [Rx,simprocAttr,delLoop1,k1,k2,hg,hgi,hgk,hc,il,hset,hss]
  · right
    obtain rfl:j=ks.length:=by omega
    have k1:¬ (ks.length:Int)<(ks.length:Int):=by omega
    refine ⟨_, ?_, ?_,cur,i,rfl,h2⟩
    · simp -implicitDefEqProofs (disch:=omega) only [Rx,simprocAttr,delLoop1,k1]
    · simp
theorem delI_run (ks : List Int) (g : List AObj) (hk : g[k]? = some (.pcells 1 (intsPV ks))) (hkb : g[kb]? = some (.pcells 1 [[.int .i64 h]])) (hne : k ≠ kb) (hl : ks.length ≤ 4194304) {n : Nat} (hn : ks.length + 1 < n) :
    acall T (n+3) 75 [.own true k ks.length,.func 77 [.ptr true kb 1 1 0 0]] g=some (.p (.list (intsPV (ks.filter (notH h)))),g.set k .dead):=by
  rw [acall_prim T75]
  have hf:=findI_run ks g hk hkb hl hn
  have il:=intsPV_len ks
  have hkl:k<g.length:=(List.getElem?_eq_some_iff.1 hk).1
  unfold pDelete
  simp only
  by_cases hc:ks.findIdx (· == h)<ks.length
  · rw [if_pos hc] at hf
    generalize hi:ks.findIdx (· == h)=i0 at hc hf
    have hpre:∀ m,m<i0→∀ x,ks[m]? = some x→notH h x=true:=fun m hm x hx=>by
      have hml:m<ks.length:=(List.getElem?_eq_some_iff.1 hx).1
      have:=List.not_of_lt_findIdx (xs:=ks) (p:=(· == h)) (i:=m) (by omega)
      rw [(List.getElem?_eq_some_iff.1 hx).2] at this
      simpa [notH] using this
    have hat:ks[i0]? = some h:=by
      have:=List.findIdx_getElem (xs:=ks) (p:=(· == h)) (w:=by omega)
      subst hi
      rw [List.getElem?_eq_getElem hc]
      simpa using this
    have hgo:Going (notH h) ks (i0+1) i0 ks:=by
      have h1:Going (notH h) ks i0 i0 ks:=by
        refine ⟨rfl,Nat.le_refl _, ?_,rfl⟩
        rw [filter_none]
        intro x hx
        obtain ⟨m,hm,rfl⟩:=List.getElem_of_mem hx
        rw [List.length_take] at hm
        refine hpre m (by omega) _ ?_
        rw [List.getElem_take,List.getElem?_eq_getElem]
      exact h1.skip hat (by simp [notH])
    obtain ⟨cur,i,hloop,hend⟩:=delI_loop (h:=h) (kb:=kb) ks g hkl hkb hne hl (n+1) (ks.length+2) (by omega) (i0+1) i0 hgo (by omega)
    have hself:g.set k (.pcells 1 (intsPV ks))=g:=by
      apply List.ext_getElem?
      intro m
      rw [List.getElem?_set]
      by_cases e:k=m
      · subst e;rw [if_pos rfl,if_pos hkl,hk]
      · rw [if_neg e]
    rw [hself] at hloop
    have e1:((i0:Int) == -1)=false:=by simp
    have hilt:=hend.il (Nat.le_refl _)
    have hihave:=hend.have'
    rw [List.take_length] at hilt hihave
    have hlt2:i<ks.length:=by
      rw [hilt]
      exact List.length_filter_lt_length_iff_exists.2 ⟨h,List.mem_of_getElem? hat,by simp [notH]⟩
    have hrun:aexec (acall T (n+2)) (ks.length+2) (delHead 107 delLoop1) (enterSt [.own true k ks.length,.func 77 [.ptr true kb 1 1 0 0]] g)=some (.normal,⟨[(0,.own true k ks.length),(5,.p (.int .i64 (i:Nat)))],[],g.set k (.pcells 1 (intsPV cur))⟩):=by
      simp only [Int.natCast_add,Int.natCast_one] at hloop
      simp -implicitDefEqProofs (disch:=omega) only [Rx,simprocAttr,delHead,hf,hloop,e1]
    rw [hrun]
    have hgk:(g.set k (.pcells 1 (intsPV cur)))[k]? = some (.pcells 1 (intsPV cur)):=by rw [List.getElem?_set,if_pos rfl,if_pos hkl]
    have il2:(intsPV cur).length=ks.length:=by rw [intsPV_len,hend.len]
    have hi2:(i:Int)<(ks.length:Int):=by omega
    have ht:(intsPV cur).take i=intsPV (ks.filter (notH h)):=by rw [← hihave];simp [intsPV,List.map_take]
    simp [Option.bind_some,delOut,St.get,lk,orBot,hgk,il2,hi2,ht]
  · rw [if_neg hc] at hf
    have hall:ks.filter (notH h)=ks:=filter_none fun x hx=>by
      have h1:¬ ks.findIdx (· == h)<ks.length:=hc
      rw [List.findIdx_lt_length] at h1
      cases hq:(x==h) with
      | false=>simp [notH,hq]
      | true=>exact absurd ⟨x,hx,hq⟩ h1
    have hrun:aexec (acall T (n+2)) (ks.length+2) (delHead 107 delLoop1) (enterSt [.own true k ks.length,.func 77 [.ptr true kb 1 1 0 0]] g)=some (.ret,⟨[(4,.own true k ks.length)],[],g⟩):=by
      simp -implicitDefEqProofs (disch:=omega) only [Rx,simprocAttr,delHead,hf]
    rw [hrun,hall]
    simp [delOut,St.get,lk,orBot,hk,il]
end
end Go.TA.Tryz


end
section
/- A node is taken out. -/
set_option maxRecDepth 100000
set_option maxHeartbeats 8000000
namespace Go.TA.Tryz
theorem killed_at {rest:List AObj} {o:AObj} {a:AV} {ks:List Int} (hK:KRep rest a ks):(killed (rest++[o]) a)[rest.length]? = some o:=by
 rcases hK.inv with ⟨rfl,_⟩ | ⟨r,rfl,hr⟩ | rfl
 ·simp [killed]
 ·have:=(List.getElem?_eq_some_iff.1 hr).1
  simp only [killed]
  rw [List.getElem?_set,if_neg (by omega)]
  simp
 ·simp [killed]
theorem take_run {R:Nat} {S:MS} (hS:S.Ok R) (hN:S.N≤4194304) (av:Nat→AV) (rest:List AObj) (hM:MOk S.N av S.kd rest) (h:Nat) (hh:h<S.N) {n:Nat} (hn:S.N+1<n) :
  ∃ av' rest',acall T (n+4) 45 [MP,.p (.int .i64 h)] (machG S.N S.st av rest)=some (.tuple [],machG S.N (takeM S h).st av' rest')∧MOk S.N av' (takeM S h).kd rest'∧Fr S.N av rest S.N av' rest':=by
 have len1:∀ st av,(rowsAV S.N st av).length=S.N:=fun _ _=>rowsAV_len
 have hgh:(rowsAV S.N S.st av).getD h []=nodeAV (S.st h) (av h):=rowsAV_get hh
 have k2:(h:Int)<(S.N:Int):=by omega
 have hM':MOk S.N av S.kd (rest++[.pcells 1 [[.int .i64 h]]]):=⟨fun k hk=>(hM.kids k hk).more _,hM.disj⟩
 have hbx:(rest++[AObj.pcells 1 [[.int .i64 h]]])[rest.length]? = some (.pcells 1 [[.int .i64 h]]):=by simp
 have e0:Int.toNat 0=0:=rfl
 by_cases hup:(S.st h).up<0
 ·have e:takeM S h=S:=by simp [takeM,hup]
  rw [e]
  refine ⟨av,_, ?_,hM',Fr.more _ _ _ _⟩
  rw [acall_code T45,run_code rfl rfl]
  simp only [machG,nodeAV] at hgh ⊢
  simp -implicitDefEqProofs (disch:=omega) only [Rx,simprocAttr,F45,k2,len1,hgh,hup,hbx]
 obtain ⟨u,hu,hu1,hu2,hu3⟩:=hS.up_nat hh (by omega)
 have hK:=hM'.kids u hu1
 have hkl:=hS.kids_len hu1
 have k1:(u:Int)<(S.N:Int):=by omega
 have hgu:(rowsAV S.N S.st av).getD u []=nodeAV (S.st u) (av u):=rowsAV_get hu1
 have hcl:=fun A B=>cloneI_run hK (by omega) A B (n+2)
 have hb2:=killed_at (o:=.pcells 1 [[.int .i64 h]]) (hM.kids u hu1)
 have hXl:=killed_len (rest++[AObj.pcells 1 [[.int .i64 h]]]) (av u)
 simp only [List.length_append,List.length_cons,List.length_nil,Nat.zero_add] at hcl hXl
 have hfix:=Go.TA.Tryz.MOk.fixed hM' hu1 ((S.kd u).filter (notH h)) [.dead]
 have hfr:=(Fr.more S.N av rest [.pcells 1 [[.int .i64 h]]]).trans (Go.TA.Tryz.Fr.fixed hu1 (intsPV ((S.kd u).filter (notH h))) [.dead])
 generalize hX:killed (rest++[AObj.pcells 1 [[.int .i64 h]]]) (av u)=X at hcl hb2 hXl hfix hfr
 have hdel:∀ A B,acall T (n+3) 75 [.own true (rest.length+1+1+1) (S.kd u).length,.func 77 [.ptr true (rest.length+1+1) 1 1 0 0]] (A::B::(X++[.pcells 1 (intsPV (S.kd u))]))=some (.p (.list (intsPV ((S.kd u).filter (notH h)))),A::B::(X++[.dead])):=by
  intro A B
  have h1:(A::B::(X++[.pcells 1 (intsPV (S.kd u))]))[rest.length+1+1+1]? = some (.pcells 1 (intsPV (S.kd u))):=by
   simp only [List.getElem?_cons_succ]
   rw [← hXl];simp
  have h2:(A::B::(X++[.pcells 1 (intsPV (S.kd u))]))[rest.length+1+1]? = some (.pcells 1 [[.int .i64 h]]):=by
   simp only [List.getElem?_cons_succ]
   rw [List.getElem?_append_left (by omega)];exact hb2
  have:=delI_run (S.kd u) _ h1 h2 (by omega) (by omega) (n:=n) (by omega)
  rw [this]
  have e2:(X++[AObj.pcells 1 (intsPV (S.kd u))]).set (rest.length+1) .dead=X++[.dead]:=by rw [← hXl];simp [List.set_append]
  simp only [List.set_cons_succ,e2]
 have hb3:(X++[AObj.dead])[rest.length]? = some (.pcells 1 [[.int .i64 h]]):=by rw [List.getElem?_append_left (by omega)];exact hb2
 have htk:takeM S h=⟨S.N,upd S.st h { S.st h with up := -1 },upd S.kd u ((S.kd u).filter (notH h))⟩:=by
  unfold takeM
  rw [if_neg hup,hu,Int.toNat_natCast]
  rfl
 rw [htk]
 refine ⟨upd av u (.p (.list (intsPV ((S.kd u).filter (notH h))))),X++[.dead], ?_,hfix,hfr⟩
 generalize (S.kd u).filter (notH (h:Int))=ks' at hdel
 have hset1:(rowsAV S.N S.st av).set u [.p (.bool (S.st u).live),.p (.int .i64 (S.st u).up),.p (.list (intsPV ks')),.p (.str (S.st u).tag),.p (.str (S.st u).key),.p (.str (S.st u).text),.p (.list ((S.st u).attrs.map Attr.pv))]=rowsAV S.N S.st (upd av u (.p (.list (intsPV ks')))):=by
  have:=rowsAV_set (N:=S.N) (st:=S.st) (av:=av) hu1 (S.st u) (.p (.list (intsPV ks')))
  simp only [nodeAV] at this
  rw [this]
  refine rowsAV_congr fun k hk=>⟨?_,rfl⟩
  by_cases e:k=u
  ·subst e;rw [upd_at]
  ·rw [upd_ne e]
 have hgh2:(rowsAV S.N S.st (upd av u (.p (.list (intsPV ks'))))).getD h []=nodeAV (S.st h) (upd av u (.p (.list (intsPV ks'))) h):=rowsAV_get hh
 generalize hah:upd av u (.p (.list (intsPV ks'))) h=ah at hgh2
 have hset2:(rowsAV S.N S.st (upd av u (.p (.list (intsPV ks'))))).set h [.p (.bool (S.st h).live),.p (.int .i64 (-1)),ah,.p (.str (S.st h).tag),.p (.str (S.st h).key),.p (.str (S.st h).text),.p (.list ((S.st h).attrs.map Attr.pv))]=rowsAV S.N (upd S.st h { S.st h with up := -1 }) (upd av u (.p (.list (intsPV ks')))):=by
  have:=rowsAV_set (N:=S.N) (st:=S.st) (av:=upd av u (.p (.list (intsPV ks')))) hh { S.st h with up := -1 } ah
  simp only [nodeAV] at this
  rw [this]
  refine rowsAV_congr fun k hk=>⟨rfl, ?_⟩
  by_cases e:k=h
  ·subst e;rw [upd_at,hah]
  ·rw [upd_ne e]
 have k0:¬ (u:Int)<0:=by omega
 rw [acall_code T45,run_code rfl rfl]
 simp only [nodeAV,hu] at hgh hgu hgh2
 rcases hK.inv with ⟨hav,hk0⟩ | ⟨r,hav,hr⟩ | hav
 all_goals
  rw [hav] at hcl hgu
  simp only [machG]
  simp -implicitDefEqProofs (disch:=omega) only [Rx,simprocAttr,F45,k0,k1,k2,len1,hgh,hgu,hgh2,hset1,hset2,hcl,hdel,hbx,hb3]
end Go.TA.Tryz


end
section
/- A node ends, and all below it. -/
set_option maxRecDepth 100000
set_option maxHeartbeats 8000000
namespace Go.TA.Tryz
open Classical in
noncomputable def stD (S:MS) (D:Nat→Prop) (y:Nat):MNode:=if D y then deadN else S.st y
open Classical in
noncomputable def avD (av:Nat→AV) (D:Nat→Prop) (y:Nat):AV:=if D y then .nils else av y
def DK (S:MS) (D:Nat→Prop) (h i:Nat) (y:Nat):Prop:=D y∨∃ j,j<i∧∃ k,(S.kd h)[j]? = some k∧Below S k (y:Int)
theorem DK_zero (S:MS) (D:Nat→Prop) (h:Nat):DK S D h 0=D:=by
 funext y
 simp [DK]
theorem DK_succ {S : MS} {D : Nat → Prop} {h i : Nat} {k : Int} (hk : (S.kd h)[i]? = some k) : DK S D h (i + 1) = fun y => DK S D h i y ∨ Below S k (y : Int) := by
  funext y
  simp only [DK,eq_iff_iff]
  constructor
  · rintro (h1 | ⟨j,h1,k',h2,h3⟩)
    · exact .inl (.inl h1)
    · by_cases e:j=i
      · subst e
        rw [hk] at h2
        simp only [Option.some.injEq] at h2
        subst h2
        exact .inr h3
      · exact .inl (.inr ⟨j,by omega,k',h2,h3⟩)
  · rintro ((h1 | ⟨j,h1,h2⟩) | h1)
    · exact .inl h1
    · exact .inr ⟨j,by omega,h2⟩
    · exact .inr ⟨i,by omega,k,hk,h1⟩
theorem end_body {R : Nat} {S : MS} (hS : S.Ok R) (hN : S.N ≤ 4194304) (av : Nat → AV) (rest : List AObj) (hM : MOk S.N av S.kd rest) (n : Nat) (hn : S.N < n) (h : Nat) (D : Nat → Prop) (hh : h < S.N) (hD : ∀ y : Nat, y < S.N → Below S (h : Int) (y : Int) → ¬ D y)
    (ih:∀ (c:Nat),c<S.N→(S.st c).up=(h:Int)→∀ (D:Nat→Prop),(∀ y:Nat,y<S.N→Below S (c:Int) (y:Int)→¬ D y) →
      acall T n 46 [MP,.p (.int .i64 c)] (machG S.N (stD S D) (avD av D) rest)=some (.tuple [],machG S.N (stD S fun y=>D y∨Below S (c:Int) (y:Int)) (avD av fun y=>D y∨Below S (c:Int) (y:Int)) rest)) :
    acall T (n+1) 46 [MP,.p (.int .i64 h)] (machG S.N (stD S D) (avD av D) rest)=some (.tuple [],machG S.N (stD S fun y=>D y∨Below S (h:Int) (y:Int)) (avD av fun y=>D y∨Below S (h:Int) (y:Int)) rest):=by
  classical
  have hK:=hM.kids h hh
  have hkl:=hS.kids_len hh
  have len1:∀ st av,(rowsAV S.N st av).length=S.N:=fun _ _=>rowsAV_len
  have k1:(h:Int)<(S.N:Int):=by omega
  have hgh:(rowsAV S.N (stD S D) (avD av D)).getD h []=nodeAV (S.st h) (av h):=by
    rw [rowsAV_get hh]
    have:=hD h hh .here
    simp [stD,avD,this]
  have il:=intsPV_len (S.kd h)
  have hloop:aexec (acall T n) n (.loop B46x0) ⟨[(0,MP),(1,.p (.int .i64 h)),(13,av h),(14,.p (.int .i64 (S.kd h).length)),(15,.p (.int .i64 0))],[],machG S.N (stD S D) (avD av D) rest⟩=some (.exit 0,⟨[(0,MP),(1,.p (.int .i64 h))],[],machG S.N (stD S (DK S D h (S.kd h).length)) (avD av (DK S D h (S.kd h).length)) rest⟩):=by
    have key:=loop_inv (C:=acall T n) (N:=n) (B:=B46x0) (σ := Nat) (S:=fun i=>⟨[(0,MP),(1,.p (.int .i64 h)),(13,av h),(14,.p (.int .i64 (S.kd h).length)),(15,.p (.int .i64 i))],[],machG S.N (stD S (DK S D h i)) (avD av (DK S D h i)) rest⟩)
      (I:=fun i=>i≤(S.kd h).length) (μ := fun i=>(S.kd h).length - i) (Q:=fun q=>q=(.exit 0,⟨[(0,MP),(1,.p (.int .i64 h))],[],machG S.N (stD S (DK S D h (S.kd h).length)) (avD av (DK S D h (S.kd h).length)) rest⟩)) ?_ 0 (by omega) (by omega)
    · obtain ⟨q,hq,rfl⟩:=key
      rw [DK_zero] at hq
      exact hq
    intro i hi
    by_cases hil:i<(S.kd h).length
    · left
      obtain ⟨k,hk⟩:∃ k,(S.kd h)[i]? = some k:=⟨_,List.getElem?_eq_getElem hil⟩
      have hkm:=List.mem_of_getElem? hk
      obtain ⟨c,rfl,hc,_,hcu⟩:=hS.kids h hh k hkm
      have ihc:=ih c hc hcu (DK S D h i) (fun y hy hb hd=>by
        rcases hd with hd | ⟨j,hj,k',hk',hb'⟩
        · exact hD y hy (kid_below hS hh hkm hb) hd
        · have:=kids_apart hS hh hkm (List.mem_of_getElem? hk') hb hb'
          subst this
          have hjl:=(List.getElem?_eq_some_iff.1 hk').1
          have:=(List.getElem?_inj hjl (hS.nodup h hh)).1 (hk'.trans hk.symm)
          omega)
      rw [← DK_succ hk] at ihc
      have k2:(i:Int)<((S.kd h).length:Int):=by omega
      have hg:=intsPV_get hk
      refine ⟨i+1, ?_,by omega,by omega⟩
      generalize stD S (DK S D h i)=st1 at ihc
      generalize avD av (DK S D h i)=av1 at ihc
      rcases hK.inv with ⟨_,hk0⟩ | ⟨q,hav,hq⟩ | hav
      · rw [hk0] at hil;simp at hil
      · simp only [machG,hav] at ihc ⊢
        simp -implicitDefEqProofs (disch:=omega) only [Rx,simprocAttr,B46x0,k2,hg,il,hq,ihc]
      · simp only [machG,hav] at ihc ⊢
        simp -implicitDefEqProofs (disch:=omega) only [Rx,simprocAttr,B46x0,k2,hg,il,ihc]
    · right
      obtain rfl:i=(S.kd h).length:=by omega
      have k2:¬ ((S.kd h).length:Int)<((S.kd h).length:Int):=by omega
      refine ⟨_, ?_, ?_,rfl⟩
      · rcases hK.inv with ⟨hav,_⟩ | ⟨q,hav,hq⟩ | hav
        all_goals
          simp only [hav]
          simp -implicitDefEqProofs (disch:=omega) only [Rx,simprocAttr,B46x0,k2]
      · simp
  have hset:(rowsAV S.N (stD S (DK S D h (S.kd h).length)) (avD av (DK S D h (S.kd h).length))).set h [.p (.bool false),.p (.int .i64 (-1)),.nils,.p (.str []),.p (.str []),.p (.str []),.p (.list [])]=rowsAV S.N (stD S fun y=>D y∨Below S (h:Int) (y:Int)) (avD av fun y=>D y∨Below S (h:Int) (y:Int)):=by
    have:=rowsAV_set (N:=S.N) (st:=stD S (DK S D h (S.kd h).length)) (av:=avD av (DK S D h (S.kd h).length)) hh deadN .nils
    simp only [nodeAV,deadN,List.map_nil] at this
    rw [this]
    have hiff:∀ y:Nat,y<S.N→y≠h→(DK S D h (S.kd h).length y↔(D y∨Below S (h:Int) (y:Int))):=fun y hy hne=>by
      constructor
      · rintro (h1 | ⟨j,_,k,hk,hb⟩)
        · exact .inl h1
        · exact .inr (kid_below hS hh (List.mem_of_getElem? hk) hb)
      · rintro (h1 | h1)
        · exact .inl h1
        · obtain ⟨k,hk,hb⟩:=below_kid hS h1 y rfl hy hne
          obtain ⟨j,hj,hjk⟩:=List.getElem_of_mem hk
          exact .inr ⟨j,hj,k,by rw [List.getElem?_eq_getElem hj,hjk],hb⟩
    refine rowsAV_congr fun y hy => ?_
    by_cases e:y=h
    · subst e
      have hb:D y∨Below S (y:Int) (y:Int):=.inr .here
      rw [upd_at,upd_at]
      simp [stD,avD,hb,deadN]
    · rw [upd_ne e,upd_ne e]
      have:=hiff y hy e
      by_cases q:D y∨Below S (h:Int) (y:Int)
      · simp only [stD,avD,if_pos q,if_pos (this.2 q),and_self]
      · simp only [stD,avD,if_neg q,if_neg (fun z=>q (this.1 z)),and_self]
  rw [acall_code T46,run_code rfl rfl]
  simp only [nodeAV] at hgh
  generalize stD S (DK S D h (S.kd h).length)=st2 at hloop hset
  generalize avD av (DK S D h (S.kd h).length)=av2 at hloop hset
  have hg2:(rowsAV S.N st2 av2).getD h []=nodeAV (st2 h) (av2 h):=rowsAV_get hh
  simp only [nodeAV] at hg2
  rcases hK.inv with ⟨hav,hk0⟩ | ⟨q,hav,hq⟩ | hav
  · simp only [hk0,List.length_nil,Int.natCast_zero] at hloop
    simp only [machG,hav] at hloop hgh ⊢
    simp -implicitDefEqProofs (disch:=omega) only [Rx,simprocAttr,F46,k1,len1,hgh,hg2,hloop,hset]
  · simp only [machG,hav] at hloop hgh ⊢
    simp -implicitDefEqProofs (disch:=omega) only [Rx,simprocAttr,F46,k1,len1,hgh,hg2,hloop,hset]
  · simp only [machG,hav] at hloop hgh ⊢
    simp -implicitDefEqProofs (disch:=omega) only [Rx,simprocAttr,F46,k1,len1,hgh,hg2,il,hloop,hset]
theorem end_gen {R:Nat} {S:MS} (hS:S.Ok R) (hN:S.N≤4194304) (av:Nat→AV) (rest:List AObj) (hM:MOk S.N av S.kd rest) {r:Nat→Nat} (hr1:∀ c,c<S.N→r c≤R) (hr2:∀ c p:Nat,c<S.N→(S.st c).up=(p:Int)→r p<r c) (n:Nat) (hn:S.N<n) :
    ∀ (d h : Nat) (D : Nat → Prop), h < S.N → R ≤ r h + d → (∀ y : Nat, y < S.N → Below S (h : Int) (y : Int) → ¬ D y) →
      acall T (n+d+1) 46 [MP,.p (.int .i64 h)] (machG S.N (stD S D) (avD av D) rest)=some (.tuple [],machG S.N (stD S fun y=>D y∨Below S (h:Int) (y:Int)) (avD av fun y=>D y∨Below S (h:Int) (y:Int)) rest):=by
  intro d
  induction d with
  | zero =>
    intro h D hh hR hD
    exact end_body hS hN av rest hM n hn h D hh hD (fun c hc hcu=>by
      have:=hr1 c hc
      have:=hr2 c h hc hcu
      omega)
  | succ d ih =>
    intro h D hh hR hD
    exact end_body hS hN av rest hM (n+d+1) (by omega) h D hh hD (fun c hc hcu D hD=>by
      have:=hr2 c h hc hcu
      exact ih c D hc (by omega) hD)
theorem end_run {R : Nat} {S : MS} (hS : S.Ok R) (hN : S.N ≤ 4194304) (av : Nat → AV) (rest : List AObj) (hM : MOk S.N av S.kd rest) (h : Nat) (hh : h < S.N) {n : Nat} (hn : S.N < n) :
    ∃ av',acall T (n+R+1) 46 [MP,.p (.int .i64 h)] (machG S.N S.st av rest)=some (.tuple [],machG S.N (endM S (h:Int)).st av' rest)∧MOk S.N av' (endM S (h:Int)).kd rest∧Fr S.N av rest S.N av' rest:=by
  classical
  obtain ⟨r,hr1,hr2⟩:=hS.rank
  have key:=end_gen hS hN av rest hM hr1 hr2 n hn R h (fun _=>False) hh (by omega) (fun y _ _ h=>h)
  have e1:stD S (fun _=>False)=S.st:=by funext y;simp [stD]
  have e2:avD av (fun _=>False)=av:=by funext y;simp [avD]
  have e3:(stD S fun y=>False∨Below S (h:Int) (y:Int))=(endM S (h:Int)).st:=by funext y;simp [stD,endM]
  rw [e1,e2,e3] at key
  refine ⟨_,key,⟨fun y hy => ?_,fun y y' hy hy' hne => ?_⟩,⟨Nat.le_refl _,fun _ _ _=>rfl,fun y hy j hj _ => ?_⟩⟩
  rotate_left 2
  · by_cases e:Below S (h:Int) (y:Int)
    · simp only [avD,e,or_true,if_true] at hj;cases hj
    · simp only [avD,e,or_false,if_false] at hj;exact ⟨y,hy,hj⟩
  · by_cases e:Below S (h:Int) (y:Int)
    · simp only [avD,endM,e,or_true,if_true];exact .none
    · simp only [avD,endM,e,or_false,if_false];exact hM.kids y hy
  · by_cases e:Below S (h:Int) (y:Int)
    · left;simp only [avD,e,or_true,if_true];rfl
    · by_cases e':Below S (h:Int) (y':Int)
      · simp only [avD,e,e',or_false,or_true,if_false,if_true]
        cases hq:refOf (av y) with
        | none=>exact .inl rfl
        | some q=>exact .inr (by simp [refOf])
      · simp only [avD,e,e',or_false,if_false]
        exact hM.disj y y' hy hy' hne
end Go.TA.Tryz


end
section
/- attrs.With, attrs.Without. -/
set_option maxRecDepth 100000
set_option maxHeartbeats 8000000
namespace Go.TA.Tryz
def toAt (l:List Attr) (name:Bs) (i:Nat):Int:=if posAt l name<i then (posAt l name:Int) else (l.length:Int)
theorem find_run (l : List Attr) (name : Bs) (hl : l.length ≤ 1048577) (g : List AObj) {n : Nat} (hn : l.length < n) :
    acall T (n+1) 108 [.p (.list (l.map Attr.pv)),.p (.str name)] g=some (.tuple [.p (.int .i64 (if fstAt l name<l.length then (fstAt l name:Int) else (posAt l name:Int))),.p (.bool (decide (fstAt l name<l.length)))],g):=by
  have hpl:posAt l name≤l.length:=List.findIdx_le_length
  have key:=loop_inv (C:=acall T n) (N:=n) (B:=B108x0) (σ := Nat) (S:=fun i=>⟨[(0,.p (.list (l.map Attr.pv))),(1,.p (.str name)),(6,.p (.int .i64 (toAt l name i))),(11,.p (.list (l.map Attr.pv))),(12,.p (.int .i64 l.length)),(13,.p (.int .i64 i))],[],[]⟩)
    (I:=fun i=>i≤l.length∧i≤fstAt l name) (μ := fun i=>l.length - i) (Q:=fun q=>q=if fstAt l name<l.length then (.ret,⟨[(4,.p (.int .i64 (fstAt l name))),(5,.p (.bool true))],[],[]⟩) else (.exit 0,⟨[(6,.p (.int .i64 (posAt l name)))],[],[]⟩)) ?_ 0 ⟨by omega,by omega⟩ (by omega)
  · obtain ⟨q,hq,rfl⟩:=key
    have e0:toAt l name 0=(l.length:Int):=by simp [toAt]
    simp only [Int.natCast_zero,e0] at hq
    rw [acall_code T108,run_pure rfl rfl rfl]
    by_cases hc:fstAt l name<l.length
    · rw [if_pos hc] at hq
      rw [if_pos hc]
      have ed:decide (fstAt l name<l.length)=true:=by simpa using hc
      simp -implicitDefEqProofs (disch:=omega) only [Rx,simprocAttr,F108,hq,ed]
    · rw [if_neg hc] at hq
      rw [if_neg hc]
      have ed:decide (fstAt l name<l.length)=false:=by simpa using hc
      simp -implicitDefEqProofs (disch:=omega) only [Rx,simprocAttr,F108,hq,ed]
  rintro i ⟨h1,h2⟩
  by_cases hi:i<l.length
  · have k1 : (i : Int) < (l.length : Int) := by omega
    have hx:=List.getElem?_eq_getElem hi
    have hg:=getD_map (f:=Attr.pv) hx
    generalize hxa:l[i]=a at hx hg
    by_cases e:i=fstAt l name
    · right
      have hp:(a.name==name)=true:=by
        have:=List.findIdx_getElem (xs:=l) (p:=fun a=>a.name==name) (w:=by unfold fstAt at e;omega)
        simp only [fstAt] at e
        subst e;rw [hxa] at this;exact this
      refine ⟨_, ?_, ?_,rfl⟩
      · rw [if_pos (by omega), ← e]
        simp -implicitDefEqProofs (disch:=omega) only [Rx,simprocAttr,B108x0,k1,hg,Attr.pv,hp]
      · rw [if_pos (by omega)];simp
    · left
      have hp:(a.name==name)=false:=by
        have:=List.not_of_lt_findIdx (xs:=l) (p:=fun a=>a.name==name) (i:=i) (by unfold fstAt at e h2;omega)
        rw [hxa] at this
        simpa using this
      refine ⟨i+1, ?_,⟨by omega,by omega⟩,by omega⟩
      by_cases hlt:posAt l name<i
      · have e1:toAt l name i=(posAt l name:Int):=by simp [toAt,hlt]
        have e2:toAt l name (i+1)=(posAt l name:Int):=by rw [toAt,if_pos (by omega)]
        have k2:(posAt l name:Int)<(l.length:Int):=by omega
        rw [e1,e2]
        simp -implicitDefEqProofs (disch:=omega) only [Rx,simprocAttr,B108x0,k1,k2,hg,Attr.pv,hp]
      · have e1:toAt l name i=(l.length:Int):=by simp [toAt,hlt]
        have k2:¬ (l.length:Int)<(l.length:Int):=by omega
        cases hs:strLess a.name name with
        | true =>
          have hne:posAt l name≠i:=fun e=>by
            have:=List.findIdx_getElem (xs:=l) (p:=fun a => !(strLess a.name name)) (w:=by unfold posAt at e;omega)
            simp only [posAt] at e
            subst e;rw [hxa,hs] at this;simp at this
          have e2:toAt l name (i+1)=(l.length:Int):=by rw [toAt,if_neg (by omega)]
          rw [e1,e2]
          simp -implicitDefEqProofs (disch:=omega) only [Rx,simprocAttr,B108x0,k1,k2,hg,Attr.pv,hp,hs,binS]
        | false =>
          have hpi:posAt l name=i:=by
            have h3:¬ i<posAt l name:=fun h=>by
              have:=List.not_of_lt_findIdx (xs:=l) (p:=fun a:Attr => !(strLess a.name name)) (i:=i) (by unfold posAt at h;exact h)
              rw [hxa,hs] at this
              simp at this
            omega
          have e2:toAt l name (i+1)=(i:Int):=by rw [toAt,if_pos (by omega),hpi]
          rw [e1,e2]
          simp -implicitDefEqProofs (disch:=omega) only [Rx,simprocAttr,B108x0,k1,k2,hg,Attr.pv,hp,hs,binS]
  · right
    obtain rfl:i=l.length:=by omega
    have k1:¬ (l.length:Int)<(l.length:Int):=by omega
    have e1:toAt l name l.length=(posAt l name:Int):=by
      unfold toAt
      split
      · rfl
      · omega
    refine ⟨_, ?_, ?_,rfl⟩
    · rw [if_neg (by omega),e1]
      simp -implicitDefEqProofs (disch:=omega) only [Rx,simprocAttr,B108x0,k1]
    · rw [if_neg (by omega)];simp
theorem insertA_run (l:List Attr) (at':Nat) (a:Attr) (hat:at'≤l.length) (hl:l.length≤1048577) (n:Nat):acall T (n+1) 109 [.own true 0 l.length,.p (.int .i64 at'),.p (.list [a.pv])] [.pcells 2 (l.map Attr.pv)]=some (.p (.list ((l.take at'++a::l.drop at').map Attr.pv)),[.dead]):=by
 rw [acall_prim T109]
 have h5:(l.length+1)*4096≤140737488355328:=by omega
 have h6:(at':Int)≤(l.length:Int):=by omega
 have h7:(a.pv.length==2)=true:=rfl
 simp [pInsert,h7,h5,h6,List.map_take,List.map_drop]
theorem with_run (l:List Attr) (name v:Bs) (hl:l.length≤1048577) (g:List AObj) {n:Nat} (hn:l.length<n) :
  acall T (n+2) 78 [.p (.list (l.map Attr.pv)),.p (.str name),.p (.str v)] g=some (.p (.list ((withA l name v).map Attr.pv)),g):=by
 have hf:=find_run l name hl [] hn
 have hcl:=cloneA_run l hl [] n
 have hpl:posAt l name≤l.length:=List.findIdx_le_length
 have hin:=insertA_run l (posAt l name) ⟨name,v⟩ hpl hl n
 rw [acall_code T78,run_pure rfl rfl rfl]
 have ml:(l.map Attr.pv).length=l.length:=by simp
 simp only [List.length_nil,List.nil_append] at hcl
 by_cases hc:fstAt l name<l.length
 ·have ed:decide (fstAt l name<l.length)=true:=by simpa using hc
  rw [if_pos hc,ed] at hf
  have ew:(withA l name v).map Attr.pv=(l.map Attr.pv).set (fstAt l name) [.str name,.str v]:=by rw [withA,if_pos hc,List.map_set];rfl
  rw [ew]
  have hx:=List.getElem?_eq_getElem hc
  have hp:(l[fstAt l name]).name=name:=by
   have h9:((l[fstAt l name]).name==name)=true:=List.findIdx_getElem (xs:=l) (p:=fun a:Attr=>a.name==name) (w:=by unfold fstAt at hc;exact hc)
   exact beq_iff_eq.1 h9
  have hg:=getD_map (f:=Attr.pv) hx
  simp only [Attr.pv,hp] at hg
  have k2:(fstAt l name:Int)<(l.length:Int):=by omega
  generalize fstAt l name=i at *
  have sl:((l.map Attr.pv).set i [.str name,.str v]).length=l.length:=by simp
  simp -implicitDefEqProofs (disch:=omega) only [Rx,simprocAttr,F78,hf,hcl,hg,k2,ml,sl]
 ·have ed:decide (fstAt l name<l.length)=false:=by simpa using hc
  rw [if_neg hc,ed] at hf
  have ew:withA l name v=l.take (posAt l name)++⟨name,v⟩::l.drop (posAt l name):=by rw [withA,if_neg hc]
  rw [ew]
  generalize l.take (posAt l name)++(⟨name,v⟩:Attr)::l.drop (posAt l name)=l' at hin
  simp only [Attr.pv] at hin
  simp -implicitDefEqProofs (disch:=omega) only [Rx,simprocAttr,F78,hf,hcl,hin]
end Go.TA.Tryz


end
section
/- slices.DeleteFunc on a row of attributes that was cloned; attrs.Without. -/
set_option maxRecDepth 100000
set_option maxHeartbeats 8000000
namespace Go.TA.Tryz
theorem attrs_len (l:List Attr):(l.map Attr.pv).length=l.length:=by simp
section
variable {h:Bs} {kb k:Nat}
theorem cloA_run (x:Attr) (g:List AObj) (hkb:g[kb]? = some (.pcells 1 [[.str h]])) (n:Nat):acall T (n+1) 111 [.p (.agg x.pv),.ptr true kb 1 1 0 0] g=some (.p (.bool (x.name==h)),g):=by
 rw [acall_code T111,run_code rfl rfl]
 have e0:Int.toNat 0=0:=rfl
 simp -implicitDefEqProofs (disch:=omega) only [Rx,simprocAttr,F111,Attr.pv,hkb]
theorem findA_run (ks : List Attr) (g : List AObj) (hk : g[k]? = some (.pcells 2 (ks.map Attr.pv))) (hkb : g[kb]? = some (.pcells 1 [[.str h]])) (hl : ks.length ≤ 1048577) {n : Nat} (hn : ks.length + 1 < n) :
    acall T (n+2) 127 [.own true k ks.length,.func 111 [.ptr true kb 1 1 0 0]] g=some (.p (.int .i64 (if ks.findIdx (fun a=>a.name==h)<ks.length then (ks.findIdx (fun a=>a.name==h):Int) else -1)),g):=by
  have il:=attrs_len ks
  have key:=loop_inv (C:=acall T (n+1)) (N:=n+1) (B:=B127x0) (σ := Nat) (S:=fun i=>⟨[(0,.own true k ks.length),(1,.func 111 [.ptr true kb 1 1 0 0]),(7,.p (.int .i64 ks.length)),(8,.p (.int .i64 i))],[],g⟩)
    (I:=fun i=>i≤ks.length∧i≤ks.findIdx (fun a=>a.name==h)) (μ := fun i=>ks.length - i) (Q:=fun q=>q=if ks.findIdx (fun a=>a.name==h)<ks.length then (.ret,⟨[(4,.p (.int .i64 (ks.findIdx (fun a=>a.name==h))))],[],g⟩) else (.exit 0,⟨[],[],g⟩)) ?_ 0 ⟨by omega,by omega⟩ (by omega)
  · obtain ⟨q,hq,rfl⟩:=key
    simp only [Int.natCast_zero] at hq
    rw [acall_code T127,run_code rfl rfl]
    by_cases hc:ks.findIdx (fun a=>a.name==h)<ks.length
    · rw [if_pos hc] at hq
      rw [if_pos hc]
      simp -implicitDefEqProofs (disch:=omega) only [Rx,simprocAttr,F127,hq]
    · rw [if_neg hc] at hq
      rw [if_neg hc]
      simp -implicitDefEqProofs (disch:=omega) only [Rx,simprocAttr,F127,hq]
  rintro i ⟨h1,h2⟩
  by_cases hi:i<ks.length
  · have k1:(i:Int)<(ks.length:Int):=by omega
    have hg:=getD_map (f:=Attr.pv) (List.getElem?_eq_getElem hi)
    have hc:=cloA_run (h:=h) ks[i] g hkb n
    simp only [Attr.pv] at hg hc
    by_cases e:i=ks.findIdx (fun a=>a.name==h)
    · right
      have hp:((ks[i]).name==h)=true:=by
        have:=List.findIdx_getElem (xs:=ks) (p:=(fun a=>a.name==h)) (w:=by omega)
        subst e;exact this
      rw [hp] at hc
      refine ⟨_, ?_, ?_,rfl⟩
      · rw [if_pos (by omega), ← e]
        simp -implicitDefEqProofs (disch:=omega) only [Rx,simprocAttr,B127x0,k1,hg,hk,hc,il]
      · rw [if_pos (by omega)];simp
    · left
      have hp:((ks[i]).name==h)=false:=by
        have:=List.not_of_lt_findIdx (xs:=ks) (p:=(fun a=>a.name==h)) (i:=i) (by omega)
        simpa using this
      rw [hp] at hc
      refine ⟨i+1, ?_,⟨by omega,by omega⟩,by omega⟩
      simp -implicitDefEqProofs (disch:=omega) only [Rx,simprocAttr,B127x0,k1,hg,hk,hc,il]
  · right
    obtain rfl:i=ks.length:=by omega
    have k1:¬ (ks.length:Int)<(ks.length:Int):=by omega
    refine ⟨_, ?_, ?_,rfl⟩
    · rw [if_neg (by omega)]
      simp -implicitDefEqProofs (disch:=omega) only [Rx,simprocAttr,B127x0,k1]
    · rw [if_neg (by omega)];simp
theorem delA_loop (ks:List Attr) (g:List AObj) (hk:k<g.length) (hkb:g[kb]? = some (.pcells 1 [[.str h]])) (hne:k≠kb) (hl:ks.length≤1048577) (n N:Nat) (hN:ks.length<N) (j0 i0:Nat) (h0:Going (notN h) ks j0 i0 ks) (hj0:j0≤ks.length) :
    ∃ cur i,aexec (acall T (n+1)) N (.loop delLoop2) ⟨[(0,.own true k ks.length),(1,.func 111 [.ptr true kb 1 1 0 0]),(5,.p (.int .i64 i0)),(6,.p (.int .i64 j0))],[],g.set k (.pcells 2 (ks.map Attr.pv))⟩=some (.exit 0,⟨[(0,.own true k ks.length),(5,.p (.int .i64 (i:Nat)))],[],g.set k (.pcells 2 (cur.map Attr.pv))⟩)∧Going (notN h) ks ks.length i cur:=by
  have key:=loop_inv (C:=acall T (n+1)) (N:=N) (B:=delLoop2) (σ := Nat × Nat × List Attr) (S:=fun s=>⟨[(0,.own true k ks.length),(1,.func 111 [.ptr true kb 1 1 0 0]),(5,.p (.int .i64 s.1)),(6,.p (.int .i64 s.2.1))],[],g.set k (.pcells 2 (s.2.2.map Attr.pv))⟩)
    (I:=fun s=>s.2.1≤ks.length∧Going (notN h) ks s.2.1 s.1 s.2.2) (μ := fun s=>ks.length - s.2.1) (Q:=fun q=>∃ cur i,q=(.exit 0,⟨[(0,.own true k ks.length),(5,.p (.int .i64 (i:Nat)))],[],g.set k (.pcells 2 (cur.map Attr.pv))⟩)∧Going (notN h) ks ks.length i cur) ?_ (i0,j0,ks) ⟨hj0,h0⟩ (by simp only;omega)
  · obtain ⟨q,hq,cur,i,rfl,hg⟩:=key
    exact ⟨cur,i,hq,hg⟩
  rintro ⟨i,j,cur⟩ ⟨h1,h2⟩
  simp only at h1 h2 ⊢
  have hgk:(g.set k (.pcells 2 (cur.map Attr.pv)))[k]? = some (.pcells 2 (cur.map Attr.pv)):=by rw [List.getElem?_set,if_pos rfl,if_pos hk]
  have hgb:(g.set k (.pcells 2 (cur.map Attr.pv)))[kb]? = some (.pcells 1 [[.str h]]):=by rw [List.getElem?_set,if_neg hne];exact hkb
  have hss:∀ o o':AObj,(g.set k o).set k o'=g.set k o':=fun o o'=>by simp
  have il:=attrs_len cur
  rw [h2.len] at il
  have hlt:=h2.lt
  by_cases hj:j<ks.length
  · left
    obtain ⟨x,hx⟩:∃ x,ks[j]? = some x:=⟨_,List.getElem?_eq_getElem hj⟩
    have k1:(j:Int)<(ks.length:Int):=by omega
    have k2:(i:Int)<(ks.length:Int):=by omega
    have hg:=getD_map (f:=Attr.pv) (h2.at.trans hx)
    have hc:=cloA_run (h:=h) x (g.set k (.pcells 2 (cur.map Attr.pv))) hgb n
    simp only [Attr.pv] at hg hc
    cases hp:(x.name==h) with
    | true =>
      rw [hp] at hc
      refine ⟨(i,j+1,cur), ?_,⟨by simp only;omega,h2.skip hx (by simp [notN,hp])⟩,by simp only;omega⟩
      simp -implicitDefEqProofs (disch:=omega) only [Rx,simprocAttr,delLoop2,k1,hg,hgk,hc,il]
    | false =>
      rw [hp] at hc
      have hset:(cur.map Attr.pv).set i [.str x.name,.str x.value]=(cur.set i x).map Attr.pv:=by simp [List.map_set,Attr.pv]
      have hgi:=getD_map (f:=Attr.pv) (List.getElem?_eq_getElem (show i<cur.length by rw [h2.len];omega))
      simp only [Attr.pv] at hgi
      refine ⟨(i+1,j+1,cur.set i x), ?_,⟨by simp only;omega,h2.take hx (by simp [notN,hp])⟩,by simp only;omega⟩
      simp -implicitDefEqProofs (disch:=omega) only [Rx,simprocAttr,delLoop2,k1,k2,hg,hgi,hgk,hc,il,hset,hss]
  · right
    obtain rfl:j=ks.length:=by omega
    have k1:¬ (ks.length:Int)<(ks.length:Int):=by omega
    refine ⟨_, ?_, ?_,cur,i,rfl,h2⟩
    · simp -implicitDefEqProofs (disch:=omega) only [Rx,simprocAttr,delLoop2,k1]
    · simp
theorem delA_run (ks : List Attr) (g : List AObj) (hk : g[k]? = some (.pcells 2 (ks.map Attr.pv))) (hkb : g[kb]? = some (.pcells 1 [[.str h]])) (hne : k ≠ kb) (hl : ks.length ≤ 1048577) {n : Nat} (hn : ks.length + 1 < n) :
    acall T (n+3) 110 [.own true k ks.length,.func 111 [.ptr true kb 1 1 0 0]] g=some (.p (.list ((ks.filter (notN h)).map Attr.pv)),g.set k .dead):=by
  rw [acall_prim T110]
  have hf:=findA_run ks g hk hkb hl hn
  have il:=attrs_len ks
  have hkl:k<g.length:=(List.getElem?_eq_some_iff.1 hk).1
  unfold pDelete
  simp only
  by_cases hc:ks.findIdx (fun a=>a.name==h)<ks.length
  · rw [if_pos hc] at hf
    generalize hi:ks.findIdx (fun a=>a.name==h)=i0 at hc hf
    have hpre:∀ m,m<i0→∀ x,ks[m]? = some x→notN h x=true:=fun m hm x hx=>by
      have hml:m<ks.length:=(List.getElem?_eq_some_iff.1 hx).1
      have:=List.not_of_lt_findIdx (xs:=ks) (p:=(fun a=>a.name==h)) (i:=m) (by omega)
      rw [(List.getElem?_eq_some_iff.1 hx).2] at this
      simpa [notN] using this
    obtain ⟨a,hat,hah⟩:∃ a,ks[i0]? = some a∧(a.name==h)=true:=by
      have h9:=List.findIdx_getElem (xs:=ks) (p:=(fun a=>a.name==h)) (w:=by omega)
      subst hi
      exact ⟨_,List.getElem?_eq_getElem hc,h9⟩
    have hgo:Going (notN h) ks (i0+1) i0 ks:=by
      have h1:Going (notN h) ks i0 i0 ks:=by
        refine ⟨rfl,Nat.le_refl _, ?_,rfl⟩
        rw [filter_none]
        intro x hx
        obtain ⟨m,hm,rfl⟩:=List.getElem_of_mem hx
        rw [List.length_take] at hm
        refine hpre m (by omega) _ ?_
        rw [List.getElem_take,List.getElem?_eq_getElem]
      exact h1.skip hat (by simp [notN,hah])
    obtain ⟨cur,i,hloop,hend⟩:=delA_loop (h:=h) (kb:=kb) ks g hkl hkb hne hl (n+1) (ks.length+2) (by omega) (i0+1) i0 hgo (by omega)
    have hself:g.set k (.pcells 2 (ks.map Attr.pv))=g:=by
      apply List.ext_getElem?
      intro m
      rw [List.getElem?_set]
      by_cases e:k=m
      · subst e;rw [if_pos rfl,if_pos hkl,hk]
      · rw [if_neg e]
    rw [hself] at hloop
    have e1:((i0:Int) == -1)=false:=by simp
    have hilt:=hend.il (Nat.le_refl _)
    have hihave:=hend.have'
    rw [List.take_length] at hilt hihave
    have hlt2:i<ks.length:=by
      rw [hilt]
      exact List.length_filter_lt_length_iff_exists.2 ⟨a,List.mem_of_getElem? hat,by simp [notN,hah]⟩
    have hrun:aexec (acall T (n+2)) (ks.length+2) (delHead 127 delLoop2) (enterSt [.own true k ks.length,.func 111 [.ptr true kb 1 1 0 0]] g)=some (.normal,⟨[(0,.own true k ks.length),(5,.p (.int .i64 (i:Nat)))],[],g.set k (.pcells 2 (cur.map Attr.pv))⟩):=by
      simp only [Int.natCast_add,Int.natCast_one] at hloop
      simp -implicitDefEqProofs (disch:=omega) only [Rx,simprocAttr,delHead,hf,hloop,e1]
    rw [hrun]
    have hgk:(g.set k (.pcells 2 (cur.map Attr.pv)))[k]? = some (.pcells 2 (cur.map Attr.pv)):=by rw [List.getElem?_set,if_pos rfl,if_pos hkl]
    have il2:(cur.map Attr.pv).length=ks.length:=by rw [attrs_len,hend.len]
    have hi2:(i:Int)<(ks.length:Int):=by omega
    have ht:(cur.map Attr.pv).take i=(ks.filter (notN h)).map Attr.pv:=by rw [← hihave];simp [List.map_take]
    simp [Option.bind_some,delOut,St.get,lk,orBot,hgk,il2,hi2,ht]
  · rw [if_neg hc] at hf
    have hall:ks.filter (notN h)=ks:=filter_none fun x hx=>by
      have h1:¬ ks.findIdx (fun a=>a.name==h)<ks.length:=hc
      rw [List.findIdx_lt_length] at h1
      cases hq:(x.name==h) with
      | false=>simp [notN,hq]
      | true=>exact absurd ⟨x,hx,hq⟩ h1
    have hrun:aexec (acall T (n+2)) (ks.length+2) (delHead 127 delLoop2) (enterSt [.own true k ks.length,.func 111 [.ptr true kb 1 1 0 0]] g)=some (.ret,⟨[(4,.own true k ks.length)],[],g⟩):=by
      simp -implicitDefEqProofs (disch:=omega) only [Rx,simprocAttr,delHead,hf]
    rw [hrun,hall]
    simp [delOut,St.get,lk,orBot,hk,il]
end
theorem without_run (l:List Attr) (name:Bs) (hl:l.length≤1048577) (g:List AObj) {n:Nat} (hn:l.length+1<n) :
  acall T (n+4) 79 [.p (.list (l.map Attr.pv)),.p (.str name)] g=some (.tuple [.p (.list ((withoutA l name).map Attr.pv)),.p (.bool (decide ((withoutA l name).length<l.length)))],g):=by
 have hcl:=cloneA_run l hl [.pcells 1 [[.str name]]] (n+2)
 have hd:=delA_run (h:=name) (kb:=0) (k:=1) l [.pcells 1 [[.str name]],.pcells 2 (l.map Attr.pv)] rfl rfl (by omega) hl hn
 rw [acall_code T79,run_pure rfl rfl rfl]
 have wl:((withoutA l name).map Attr.pv).length=(withoutA l name).length:=by simp
 have ml:(l.map Attr.pv).length=l.length:=by simp
 unfold withoutA at wl ⊢
 generalize l.filter (notN name)=l' at hd wl ⊢
 simp only [List.length_singleton,List.cons_append,List.nil_append] at hcl
 by_cases hlt:l'.length<l.length
 ·have hlt':(l'.length:Int)<(l.length:Int):=by omega
  have ed:decide (l'.length<l.length)=true:=by simpa using hlt
  rw [ed]
  simp -implicitDefEqProofs (disch:=omega) only [Rx,simprocAttr,F79,hcl,hd,wl,ml,hlt']
 ·have hlt':¬ (l'.length:Int)<(l.length:Int):=by omega
  have ed:decide (l'.length<l.length)=false:=by simpa using hlt
  rw [ed]
  simp -implicitDefEqProofs (disch:=omega) only [Rx,simprocAttr,F79,hcl,hd,wl,ml,hlt']
end Go.TA.Tryz


end
section
/- What fields an operation's kind does not use: what they are. Plain. -/
set_option maxRecDepth 100000
set_option maxHeartbeats 8000000
namespace Go.TA
def nzI (n:Int):Bool := !(n==0)
def nzS (s:Bs):Bool := !(s==[])
def nzA (l:List Attr):Bool:=decide (0<(l.length:Int))
def none1 (x:GOp):Bool:=nzI x.node || (nzI x.up || (nzI x.before || (nzS x.name)))
def none2 (x:GOp):Bool:=nzS x.tag || (nzS x.key || (nzA x.attrs || (nzS x.name || (nzS x.text))))
def none3 (x:GOp):Bool:=nzS x.tag || (nzS x.key || (nzA x.attrs || (nzI x.up || (nzS x.name || (nzS x.text)))))
def none4 (x:GOp):Bool:=nzS x.tag || (nzS x.key || (nzA x.attrs || (nzI x.up || (nzI x.before || (nzS x.name || (nzS x.text))))))
def none5 (x:GOp):Bool:=nzS x.tag || (nzS x.key || (nzA x.attrs || (nzI x.up || (nzI x.before))))
def none6 (x:GOp):Bool:=nzS x.tag || (nzS x.key || (nzA x.attrs || (nzI x.up || (nzI x.before || (nzS x.text)))))
def none7 (x:GOp):Bool:=nzS x.tag || (nzS x.key || (nzA x.attrs || (nzI x.up || (nzI x.before || (nzS x.name)))))
def noneB (x:GOp):Bool:=if x.kind=1 then none1 x else if x.kind=2 then none2 x else if x.kind=3 then none3 x else if x.kind=4 then none4 x else if x.kind=5 then none5 x else if x.kind=6 then none6 x else if x.kind=7 then none7 x else false
def used1 (x:GOp):GOp:=⟨x.kind,0,0,0,x.tag,x.key,[],x.text,x.attrs⟩
def used2 (x:GOp):GOp:=⟨x.kind,x.node,x.up,x.before,[],[],[],[],[]⟩
def used3 (x:GOp):GOp:=⟨x.kind,x.node,0,x.before,[],[],[],[],[]⟩
def used4 (x:GOp):GOp:=⟨x.kind,x.node,0,0,[],[],[],[],[]⟩
def used5 (x:GOp):GOp:=⟨x.kind,x.node,0,0,[],[],x.name,x.text,[]⟩
def used6 (x:GOp):GOp:=⟨x.kind,x.node,0,0,[],[],x.name,[],[]⟩
def used7 (x:GOp):GOp:=⟨x.kind,x.node,0,0,[],[],[],x.text,[]⟩
def usedOp (x:GOp):GOp:=if x.kind=1 then used1 x else if x.kind=2 then used2 x else if x.kind=3 then used3 x else if x.kind=4 then used4 x else if x.kind=5 then used5 x else if x.kind=6 then used6 x else if x.kind=7 then used7 x else x
end Go.TA


end
section
/- An operation with the fields alone that its kind uses. -/
set_option maxRecDepth 100000
set_option maxHeartbeats 8000000
namespace Go.TA.Tryz
theorem used1_run (x:GOp) (hk:x.kind=1) (g:List AObj) (n:Nat):acall T (n+1) 67 [.p (.agg x.pv)] g=some (.p (.agg (used1 x).pv),g):=by
 rw [acall_code T67,run_pure rfl rfl rfl]
 simp -implicitDefEqProofs (disch:=omega) only [Rx,simprocAttr,F67,GOp.pv,attrsPV,used1,hk,attrs_same]
theorem used2_run (x:GOp) (hk:x.kind=2) (g:List AObj) (n:Nat):acall T (n+1) 67 [.p (.agg x.pv)] g=some (.p (.agg (used2 x).pv),g):=by
 rw [acall_code T67,run_pure rfl rfl rfl]
 simp -implicitDefEqProofs (disch:=omega) only [Rx,simprocAttr,F67,GOp.pv,attrsPV,used2,hk]
theorem used3_run (x:GOp) (hk:x.kind=3) (g:List AObj) (n:Nat):acall T (n+1) 67 [.p (.agg x.pv)] g=some (.p (.agg (used3 x).pv),g):=by
 rw [acall_code T67,run_pure rfl rfl rfl]
 simp -implicitDefEqProofs (disch:=omega) only [Rx,simprocAttr,F67,GOp.pv,attrsPV,used3,hk]
theorem used4_run (x:GOp) (hk:x.kind=4) (g:List AObj) (n:Nat):acall T (n+1) 67 [.p (.agg x.pv)] g=some (.p (.agg (used4 x).pv),g):=by
 rw [acall_code T67,run_pure rfl rfl rfl]
 simp -implicitDefEqProofs (disch:=omega) only [Rx,simprocAttr,F67,GOp.pv,attrsPV,used4,hk]
theorem used5_run (x:GOp) (hk:x.kind=5) (g:List AObj) (n:Nat):acall T (n+1) 67 [.p (.agg x.pv)] g=some (.p (.agg (used5 x).pv),g):=by
 rw [acall_code T67,run_pure rfl rfl rfl]
 simp -implicitDefEqProofs (disch:=omega) only [Rx,simprocAttr,F67,GOp.pv,attrsPV,used5,hk]
theorem used6_run (x:GOp) (hk:x.kind=6) (g:List AObj) (n:Nat):acall T (n+1) 67 [.p (.agg x.pv)] g=some (.p (.agg (used6 x).pv),g):=by
 rw [acall_code T67,run_pure rfl rfl rfl]
 simp -implicitDefEqProofs (disch:=omega) only [Rx,simprocAttr,F67,GOp.pv,attrsPV,used6,hk]
theorem used7_run (x:GOp) (hk:x.kind=7) (g:List AObj) (n:Nat):acall T (n+1) 67 [.p (.agg x.pv)] g=some (.p (.agg (used7 x).pv),g):=by
 rw [acall_code T67,run_pure rfl rfl rfl]
 simp -implicitDefEqProofs (disch:=omega) only [Rx,simprocAttr,F67,GOp.pv,attrsPV,used7,hk]
theorem used_run (x:GOp) (h1:1≤x.kind) (h7:x.kind≤7) (g:List AObj) (n:Nat):acall T (n+1) 67 [.p (.agg x.pv)] g=some (.p (.agg (usedOp x).pv),g):=by
 by_cases k1:x.kind=1
 ·rw [used1_run x k1];simp [usedOp,k1]
 by_cases k2:x.kind=2
 ·rw [used2_run x k2];simp [usedOp,k2]
 by_cases k3:x.kind=3
 ·rw [used3_run x k3];simp [usedOp,k3]
 by_cases k4:x.kind=4
 ·rw [used4_run x k4];simp [usedOp,k4]
 by_cases k5:x.kind=5
 ·rw [used5_run x k5];simp [usedOp,k5]
 by_cases k6:x.kind=6
 ·rw [used6_run x k6];simp [usedOp,k6]
 by_cases k7:x.kind=7
 ·rw [used7_run x k7];simp [usedOp,k7]
 omega
end Go.TA.Tryz


end
section
/- Does an operation have a field that its kind does not use? The document's answer. -/
set_option maxRecDepth 100000
set_option maxHeartbeats 8000000
namespace Go.TA.Tryz
theorem none1_run (x:GOp) (hk:x.kind=1) (g:List AObj) (n:Nat):acall T (n+1) 82 [.p (.agg x.pv)] g=some (.p (.bool (none1 x)),g):=by
 rw [acall_code T82,run_pure rfl rfl rfl]
 simp only [none1,nzI,nzS,nzA]
 cases h0:(x.node==0)
 ·simp -implicitDefEqProofs (disch:=omega) only [Rx,simprocAttr,F82,GOp.pv,attrsPV,hk,h0]
 cases h1:(x.up==0)
 ·simp -implicitDefEqProofs (disch:=omega) only [Rx,simprocAttr,F82,GOp.pv,attrsPV,hk,h0,h1]
 cases h2:(x.before==0)
 ·simp -implicitDefEqProofs (disch:=omega) only [Rx,simprocAttr,F82,GOp.pv,attrsPV,hk,h0,h1,h2]
 cases h3:(x.name==[])
 ·simp -implicitDefEqProofs (disch:=omega) only [Rx,simprocAttr,F82,GOp.pv,attrsPV,hk,h0,h1,h2,h3]
 simp -implicitDefEqProofs (disch:=omega) only [Rx,simprocAttr,F82,GOp.pv,attrsPV,hk,h0,h1,h2,h3]
theorem none2_run (x:GOp) (hk:x.kind=2) (g:List AObj) (n:Nat):acall T (n+1) 82 [.p (.agg x.pv)] g=some (.p (.bool (none2 x)),g):=by
 rw [acall_code T82,run_pure rfl rfl rfl]
 simp only [none2,nzI,nzS,nzA]
 cases h0:(x.tag==[])
 ·simp -implicitDefEqProofs (disch:=omega) only [Rx,simprocAttr,F82,GOp.pv,attrsPV,hk,h0]
 cases h1:(x.key==[])
 ·simp -implicitDefEqProofs (disch:=omega) only [Rx,simprocAttr,F82,GOp.pv,attrsPV,hk,h0,h1]
 by_cases h2:0<(x.attrs.length:Int)
 ·simp -implicitDefEqProofs (disch:=omega) only [Rx,simprocAttr,F82,GOp.pv,attrsPV,hk,h0,h1,h2]
 cases h3:(x.name==[])
 ·simp -implicitDefEqProofs (disch:=omega) only [Rx,simprocAttr,F82,GOp.pv,attrsPV,hk,h0,h1,h2,h3]
 cases h4:(x.text==[])
 ·simp -implicitDefEqProofs (disch:=omega) only [Rx,simprocAttr,F82,GOp.pv,attrsPV,hk,h0,h1,h2,h3,h4]
 simp -implicitDefEqProofs (disch:=omega) only [Rx,simprocAttr,F82,GOp.pv,attrsPV,hk,h0,h1,h2,h3,h4]
theorem none3_run (x:GOp) (hk:x.kind=3) (g:List AObj) (n:Nat):acall T (n+1) 82 [.p (.agg x.pv)] g=some (.p (.bool (none3 x)),g):=by
 rw [acall_code T82,run_pure rfl rfl rfl]
 simp only [none3,nzI,nzS,nzA]
 cases h0:(x.tag==[])
 ·simp -implicitDefEqProofs (disch:=omega) only [Rx,simprocAttr,F82,GOp.pv,attrsPV,hk,h0]
 cases h1:(x.key==[])
 ·simp -implicitDefEqProofs (disch:=omega) only [Rx,simprocAttr,F82,GOp.pv,attrsPV,hk,h0,h1]
 by_cases h2:0<(x.attrs.length:Int)
 ·simp -implicitDefEqProofs (disch:=omega) only [Rx,simprocAttr,F82,GOp.pv,attrsPV,hk,h0,h1,h2]
 cases h3:(x.up==0)
 ·simp -implicitDefEqProofs (disch:=omega) only [Rx,simprocAttr,F82,GOp.pv,attrsPV,hk,h0,h1,h2,h3]
 cases h4:(x.name==[])
 ·simp -implicitDefEqProofs (disch:=omega) only [Rx,simprocAttr,F82,GOp.pv,attrsPV,hk,h0,h1,h2,h3,h4]
 cases h5:(x.text==[])
 ·simp -implicitDefEqProofs (disch:=omega) only [Rx,simprocAttr,F82,GOp.pv,attrsPV,hk,h0,h1,h2,h3,h4,h5]
 simp -implicitDefEqProofs (disch:=omega) only [Rx,simprocAttr,F82,GOp.pv,attrsPV,hk,h0,h1,h2,h3,h4,h5]
end Go.TA.Tryz


end
section
/- Does an operation have a field that its kind does not use? The document's answer. -/
set_option maxRecDepth 100000
set_option maxHeartbeats 8000000
namespace Go.TA.Tryz
theorem none4_run (x:GOp) (hk:x.kind=4) (g:List AObj) (n:Nat):acall T (n+1) 82 [.p (.agg x.pv)] g=some (.p (.bool (none4 x)),g):=by
 rw [acall_code T82,run_pure rfl rfl rfl]
 simp only [none4,nzI,nzS,nzA]
 cases h0:(x.tag==[])
 ·simp -implicitDefEqProofs (disch:=omega) only [Rx,simprocAttr,F82,GOp.pv,attrsPV,hk,h0]
 cases h1:(x.key==[])
 ·simp -implicitDefEqProofs (disch:=omega) only [Rx,simprocAttr,F82,GOp.pv,attrsPV,hk,h0,h1]
 by_cases h2:0<(x.attrs.length:Int)
 ·simp -implicitDefEqProofs (disch:=omega) only [Rx,simprocAttr,F82,GOp.pv,attrsPV,hk,h0,h1,h2]
 cases h3:(x.up==0)
 ·simp -implicitDefEqProofs (disch:=omega) only [Rx,simprocAttr,F82,GOp.pv,attrsPV,hk,h0,h1,h2,h3]
 cases h4:(x.before==0)
 ·simp -implicitDefEqProofs (disch:=omega) only [Rx,simprocAttr,F82,GOp.pv,attrsPV,hk,h0,h1,h2,h3,h4]
 cases h5:(x.name==[])
 ·simp -implicitDefEqProofs (disch:=omega) only [Rx,simprocAttr,F82,GOp.pv,attrsPV,hk,h0,h1,h2,h3,h4,h5]
 cases h6:(x.text==[])
 ·simp -implicitDefEqProofs (disch:=omega) only [Rx,simprocAttr,F82,GOp.pv,attrsPV,hk,h0,h1,h2,h3,h4,h5,h6]
 simp -implicitDefEqProofs (disch:=omega) only [Rx,simprocAttr,F82,GOp.pv,attrsPV,hk,h0,h1,h2,h3,h4,h5,h6]
theorem none5_run (x:GOp) (hk:x.kind=5) (g:List AObj) (n:Nat):acall T (n+1) 82 [.p (.agg x.pv)] g=some (.p (.bool (none5 x)),g):=by
 rw [acall_code T82,run_pure rfl rfl rfl]
 simp only [none5,nzI,nzS,nzA]
 cases h0:(x.tag==[])
 ·simp -implicitDefEqProofs (disch:=omega) only [Rx,simprocAttr,F82,GOp.pv,attrsPV,hk,h0]
 cases h1:(x.key==[])
 ·simp -implicitDefEqProofs (disch:=omega) only [Rx,simprocAttr,F82,GOp.pv,attrsPV,hk,h0,h1]
 by_cases h2:0<(x.attrs.length:Int)
 ·simp -implicitDefEqProofs (disch:=omega) only [Rx,simprocAttr,F82,GOp.pv,attrsPV,hk,h0,h1,h2]
 cases h3:(x.up==0)
 ·simp -implicitDefEqProofs (disch:=omega) only [Rx,simprocAttr,F82,GOp.pv,attrsPV,hk,h0,h1,h2,h3]
 cases h4:(x.before==0)
 ·simp -implicitDefEqProofs (disch:=omega) only [Rx,simprocAttr,F82,GOp.pv,attrsPV,hk,h0,h1,h2,h3,h4]
 simp -implicitDefEqProofs (disch:=omega) only [Rx,simprocAttr,F82,GOp.pv,attrsPV,hk,h0,h1,h2,h3,h4]
end Go.TA.Tryz


end
section
/- Does an operation have a field that its kind does not use? The document's answer. -/
set_option maxRecDepth 100000
set_option maxHeartbeats 8000000
namespace Go.TA.Tryz
theorem none6_run (x:GOp) (hk:x.kind=6) (g:List AObj) (n:Nat):acall T (n+1) 82 [.p (.agg x.pv)] g=some (.p (.bool (none6 x)),g):=by
 rw [acall_code T82,run_pure rfl rfl rfl]
 simp only [none6,nzI,nzS,nzA]
 cases h0:(x.tag==[])
 ·simp -implicitDefEqProofs (disch:=omega) only [Rx,simprocAttr,F82,GOp.pv,attrsPV,hk,h0]
 cases h1:(x.key==[])
 ·simp -implicitDefEqProofs (disch:=omega) only [Rx,simprocAttr,F82,GOp.pv,attrsPV,hk,h0,h1]
 by_cases h2:0<(x.attrs.length:Int)
 ·simp -implicitDefEqProofs (disch:=omega) only [Rx,simprocAttr,F82,GOp.pv,attrsPV,hk,h0,h1,h2]
 cases h3:(x.up==0)
 ·simp -implicitDefEqProofs (disch:=omega) only [Rx,simprocAttr,F82,GOp.pv,attrsPV,hk,h0,h1,h2,h3]
 cases h4:(x.before==0)
 ·simp -implicitDefEqProofs (disch:=omega) only [Rx,simprocAttr,F82,GOp.pv,attrsPV,hk,h0,h1,h2,h3,h4]
 cases h5:(x.text==[])
 ·simp -implicitDefEqProofs (disch:=omega) only [Rx,simprocAttr,F82,GOp.pv,attrsPV,hk,h0,h1,h2,h3,h4,h5]
 simp -implicitDefEqProofs (disch:=omega) only [Rx,simprocAttr,F82,GOp.pv,attrsPV,hk,h0,h1,h2,h3,h4,h5]
theorem none7_run (x:GOp) (hk:x.kind=7) (g:List AObj) (n:Nat):acall T (n+1) 82 [.p (.agg x.pv)] g=some (.p (.bool (none7 x)),g):=by
 rw [acall_code T82,run_pure rfl rfl rfl]
 simp only [none7,nzI,nzS,nzA]
 cases h0:(x.tag==[])
 ·simp -implicitDefEqProofs (disch:=omega) only [Rx,simprocAttr,F82,GOp.pv,attrsPV,hk,h0]
 cases h1:(x.key==[])
 ·simp -implicitDefEqProofs (disch:=omega) only [Rx,simprocAttr,F82,GOp.pv,attrsPV,hk,h0,h1]
 by_cases h2:0<(x.attrs.length:Int)
 ·simp -implicitDefEqProofs (disch:=omega) only [Rx,simprocAttr,F82,GOp.pv,attrsPV,hk,h0,h1,h2]
 cases h3:(x.up==0)
 ·simp -implicitDefEqProofs (disch:=omega) only [Rx,simprocAttr,F82,GOp.pv,attrsPV,hk,h0,h1,h2,h3]
 cases h4:(x.before==0)
 ·simp -implicitDefEqProofs (disch:=omega) only [Rx,simprocAttr,F82,GOp.pv,attrsPV,hk,h0,h1,h2,h3,h4]
 cases h5:(x.name==[])
 ·simp -implicitDefEqProofs (disch:=omega) only [Rx,simprocAttr,F82,GOp.pv,attrsPV,hk,h0,h1,h2,h3,h4,h5]
 simp -implicitDefEqProofs (disch:=omega) only [Rx,simprocAttr,F82,GOp.pv,attrsPV,hk,h0,h1,h2,h3,h4,h5]
end Go.TA.Tryz


end
section
/- Does an operation have a field that its kind does not use? The document's answer. -/
set_option maxRecDepth 100000
set_option maxHeartbeats 8000000
namespace Go.TA.Tryz
theorem none_run (x:GOp) (h1:1≤x.kind) (h7:x.kind≤7) (g:List AObj) (n:Nat):acall T (n+1) 82 [.p (.agg x.pv)] g=some (.p (.bool (noneB x)),g):=by
 by_cases k1:x.kind=1
 ·rw [none1_run x k1];simp [noneB,k1]
 by_cases k2:x.kind=2
 ·rw [none2_run x k2];simp [noneB,k2]
 by_cases k3:x.kind=3
 ·rw [none3_run x k3];simp [noneB,k3]
 by_cases k4:x.kind=4
 ·rw [none4_run x k4];simp [noneB,k4]
 by_cases k5:x.kind=5
 ·rw [none5_run x k5];simp [noneB,k5]
 by_cases k6:x.kind=6
 ·rw [none6_run x k6];simp [noneB,k6]
 by_cases k7:x.kind=7
 ·rw [none7_run x k7];simp [noneB,k7]
 omega
end Go.TA.Tryz


end
section
/- Whether an operation is what its kind uses of it: by texts, as the program does it. -/
set_option maxRecDepth 100000
set_option maxHeartbeats 8000000
namespace Go.TA.Tryz
def eqEnd (b:Bool):Ex × St:=if b=true then (.exit 0,⟨[],[],[]⟩) else (.ret,⟨[(4,.p (.bool false))],[],[]⟩)
theorem eqEnd_ne (b:Bool):(eqEnd b).1 ≠ .normal:=by cases b <;> simp [eqEnd]
theorem slicesEq_run (a b : List Attr) (g : List AObj) {n m : Nat} (ha : a.length < n) (hn : n ≤ 1048577) (hm : n ≤ m) :
    acall T (m+1) 101 [.p (attrsPV a),.p (attrsPV b)] g=some (.p (.bool (decide (a=b))),g):=by
  rw [acall_code T101,run_pure rfl rfl rfl]
  by_cases hlen:a.length=b.length
  · have hloop:aexec (acall T m) m (.loop B101x0) ⟨[(0,.p (.list (a.map Attr.pv))),(1,.p (.list (b.map Attr.pv))),(12,.p (.int .i64 a.length)),(13,.p (.int .i64 0))],[],[]⟩=some (eqEnd (decide (a.drop 0=b.drop 0))):=by
      refine loop_rule' (σ := Nat) (S:=fun i=>⟨[(0,.p (.list (a.map Attr.pv))),(1,.p (.list (b.map Attr.pv))),(12,.p (.int .i64 a.length)),(13,.p (.int .i64 i))],[],[]⟩) (I:=fun i=>i≤a.length) (μ := fun i=>a.length - i) (Φ := fun i=>eqEnd (decide (a.drop i=b.drop i))) ?_ 0 (by omega) (by omega)
      intro i hi
      by_cases h:i<a.length
      · obtain ⟨x,hx⟩:=get_some h
        obtain ⟨y,hy⟩:=get_some (l:=b) (i:=i) (by omega)
        have hgx:=getD_map (f:=Attr.pv) hx
        have hgy:=getD_map (f:=Attr.pv) hy
        have hdx:a.drop i=x::a.drop (i+1):=by rw [List.drop_eq_getElem?_toList_append,hx];rfl
        have hdy:b.drop i=y::b.drop (i+1):=by rw [List.drop_eq_getElem?_toList_append,hy];rfl
        by_cases hxy:x=y
        · subst hxy
          refine .inl ⟨i+1, ?_,by omega,by omega,by rw [hdx,hdy];simp⟩
          simp -implicitDefEqProofs (disch:=omega) only [Rx,simprocAttr,B101x0,hgx,hgy,Attr.pv]
        · refine .inr ⟨?_,eqEnd_ne _⟩
          have e:decide (a.drop i=b.drop i)=false:=by rw [hdx,hdy];simp [hxy]
          have e2:(x.name==y.name && x.value==y.value)=false:=by
            rw [← Bool.not_eq_true,Bool.and_eq_true,beq_iff_eq,beq_iff_eq]
            rintro ⟨h1,h2⟩
            apply hxy
            cases x;cases y;simp only at h1 h2;subst h1 h2;rfl
          rw [e]
          simp -implicitDefEqProofs (disch:=omega) only [Rx,simprocAttr,B101x0,hgx,hgy,Attr.pv,e2,eqEnd]
      · have e:decide (a.drop i=b.drop i)=true:=by rw [List.drop_eq_nil_of_le (by omega),List.drop_eq_nil_of_le (by omega)];simp
        refine .inr ⟨?_,eqEnd_ne _⟩
        rw [e]
        simp -implicitDefEqProofs (disch:=omega) only [Rx,simprocAttr,B101x0,eqEnd]
    rw [List.drop_zero,List.drop_zero] at hloop
    have hl2:((a.length:Int)==(b.length:Int))=true:=by simp [hlen]
    cases hd:decide (a=b) with
    | false =>
      rw [hd] at hloop
      simp only [eqEnd,Bool.false_eq_true,if_false] at hloop
      simp -implicitDefEqProofs (disch:=omega) only [Rx,simprocAttr,F101,attrsPV,hl2,hloop]
    | true =>
      rw [hd] at hloop
      simp only [eqEnd,if_true] at hloop
      simp -implicitDefEqProofs (disch:=omega) only [Rx,simprocAttr,F101,attrsPV,hl2,hloop]
  · have hl2:((a.length:Int)==(b.length:Int))=false:=by rw [beq_eq_false_iff_ne];omega
    have hd:decide (a=b)=false:=by rw [decide_eq_false_iff_not];intro hh;exact hlen (by rw [hh])
    rw [hd]
    simp -implicitDefEqProofs (disch:=omega) only [Rx,simprocAttr,F101,attrsPV,hl2]
def hOk (n:Int):Bool:=decide (0≤n) && decide (n≤4294967295)
theorem handle_run (k:Int) (g:List AObj) (n:Nat):acall T (n+1) 65 [.p (.int .i64 k)] g=some (.p (.bool (hOk k)),g):=by
 rw [acall_code T65,run_pure rfl rfl rfl]
 by_cases h1:0≤k
 ·by_cases h2:k≤4294967295
  ·simp -implicitDefEqProofs (disch:=omega) only [Rx,simprocAttr,F65,hOk,h1,h2]
  ·simp -implicitDefEqProofs (disch:=omega) only [Rx,simprocAttr,F65,hOk,h1,h2]
 ·simp -implicitDefEqProofs (disch:=omega) only [Rx,simprocAttr,F65,hOk,h1]
theorem over_run (k:Int) (g:List AObj) (n:Nat):acall T (n+1) 81 [.p (.int .i64 k)] g=some (.p (.bool (!hOk k)),g):=by
 rw [acall_code T81,run_pure rfl rfl rfl]
 by_cases h1:k<0
 ·have h1':¬ 0≤k:=by omega
  simp -implicitDefEqProofs (disch:=omega) only [Rx,simprocAttr,F81,hOk,h1,h1']
 ·have h1':0≤k:=by omega
  by_cases h2:4294967295<k
  ·have h2':¬ k≤4294967295:=by omega
   simp -implicitDefEqProofs (disch:=omega) only [Rx,simprocAttr,F81,hOk,h1,h1',h2,h2']
  ·have h2':k≤4294967295:=by omega
   simp -implicitDefEqProofs (disch:=omega) only [Rx,simprocAttr,F81,hOk,h1,h1',h2,h2']
theorem itoa_run (k:Int) (h1 : -9223372036854775808≤k) (h2:k≤9223372036854775807) (g:List AObj) (n:Nat):acall T (n+1) 103 [.p (.int .i64 k)] g=some (.p (.str (Lib.itoa k)),g):=by
 rw [acall_prim T103]
 simp [pItoa,h1,h2]
theorem digits_zero:∀ (u:Nat),1≤u→Lib.decDigits u≠[48]:=by
 intro u hu h
 by_cases h10:u<10
 ·rw [Lib.decDigits_one h10] at h
  injection h with h _
  have:(UInt8.ofNat (48+u)).toNat=48:=by rw [h];rfl
  rw [UInt8.toNat_ofNat'] at this
  omega
 ·have hl:=Lib.decDigits_length u
  rw [h] at hl
  rw [Lib.nDigits,dif_neg h10] at hl
  have:1≤Lib.nDigits (u / 10):=by
   rw [Lib.nDigits]
   split <;> omega
  simp at hl
  omega
theorem itoa_zero {k:Int} (h:0≤k):(Lib.itoa k==Lib.itoa 0)=(k==0):=by
 have e0:Lib.itoa 0=[48]:=by
  have:Lib.itoa 0=Lib.decDigits 0:=by simp [Lib.itoa]
  rw [this,Lib.decDigits_one (by omega)]
  rfl
 rw [e0]
 by_cases hk:k=0
 ·subst hk;rw [e0];rfl
 ·have hne:Lib.itoa k≠[48]:=by
   have:Lib.itoa k=Lib.decDigits k.toNat:=by unfold Lib.itoa;rw [if_neg (by omega)]
   rw [this]
   exact digits_zero _ (by omega)
  rw [Bool.eq_iff_iff,beq_iff_eq,beq_iff_eq]
  exact ⟨fun h=>absurd h hne,fun h=>absurd h hk⟩
def smallI (k:Int):Prop:=0≤k∧k≤4294967295
structure OpFine (x:GOp):Prop where
 kind:smallI x.kind
 node:smallI x.node
 up:smallI x.up
 before:smallI x.before
theorem one_run (x:GOp) (hx:OpFine x) (g:List AObj) (n:Nat):acall T (n+2) 102 [.p (.agg x.pv)] g=some (.p (.agg [.str (Lib.itoa x.kind),.str (Lib.itoa x.node),.str (Lib.itoa x.up),.str (Lib.itoa x.before),.str x.tag,.str x.key,.str x.name,.str x.text,.str []]),g):=by
 rw [acall_code T102,run_pure rfl rfl rfl]
 have h1:=fun g=>itoa_run x.kind (by have:=hx.kind.1;omega) (by have:=hx.kind.2;omega) g n
 have h2:=fun g=>itoa_run x.node (by have:=hx.node.1;omega) (by have:=hx.node.2;omega) g n
 have h3:=fun g=>itoa_run x.up (by have:=hx.up.1;omega) (by have:=hx.up.2;omega) g n
 have h4:=fun g=>itoa_run x.before (by have:=hx.before.1;omega) (by have:=hx.before.2;omega) g n
 simp -implicitDefEqProofs (disch:=omega) only [Rx,simprocAttr,F102,GOp.pv,attrsPV,h1,h2,h3,h4]
def sameV (x y:GOp):Bool:=decide (x.attrs=y.attrs) && ((Lib.itoa x.kind==Lib.itoa y.kind) && ((Lib.itoa x.node==Lib.itoa y.node) && ((Lib.itoa x.up==Lib.itoa y.up) && ((Lib.itoa x.before==Lib.itoa y.before) && ((x.tag==y.tag) && ((x.key==y.key) && ((x.name==y.name) && (x.text==y.text))))))))
theorem opsame_run (x y:GOp) (hx:OpFine x) (hy:OpFine y) (g:List AObj) {n:Nat} (hl:x.attrs.length<n+1) (hb:x.attrs.length≤1048576):acall T (n+3) 66 [.p (.agg x.pv),.p (.agg y.pv)] g=some (.p (.bool (sameV x y)),g):=by
 rw [acall_code T66,run_pure rfl rfl rfl]
 have he:=fun g=>slicesEq_run x.attrs y.attrs g (n:=x.attrs.length+1) (m:=n+1) (by omega) (by omega) (by omega)
 have o1:=fun g=>one_run x hx g n
 have o2:=fun g=>one_run y hy g n
 simp only [GOp.pv,attrsPV] at he o1 o2
 by_cases ha:x.attrs=y.attrs
 ·have ha':decide (x.attrs=y.attrs)=true:=by simpa using ha
  rw [ha'] at he
  simp only [sameV,ha']
  simp -implicitDefEqProofs (disch:=omega) only [Rx,simprocAttr,F66,GOp.pv,attrsPV,he,o1,o2,attrs_same,Nat.zero_add]
 ·have ha':decide (x.attrs=y.attrs)=false:=by simpa using ha
  rw [ha'] at he
  simp only [sameV,ha']
  simp -implicitDefEqProofs (disch:=omega) only [Rx,simprocAttr,F66,GOp.pv,attrsPV,he]
end Go.TA.Tryz


end
section
/- What is wrong with an operation: the document's answer. -/
set_option maxRecDepth 100000
set_option maxHeartbeats 8000000
namespace Go.TA.Tryz
def tagBad (x:GOp):Bool:=(x.kind==1) && !namedB false x.tag
def nameBad (x:GOp):Bool:=((x.kind==5) || (x.kind==6)) && !namedB true x.name
def opErr (x:GOp):Int:=if x.kind<1 then 6 else if 7<x.kind then 6 else if hOk x.node=false then 5 else if hOk x.up=false then 5 else if hOk x.before=false then 5 else if noneB x=true then 2 else if tagBad x=true then 7 else if nameBad x=true then 8 else if 65536<(x.key.length:Int) then 3 else if 65536<(x.text.length:Int) then 3 else attrsErr x.attrs
theorem ref25_run (x:GOp) (hs:smallAttrs x.attrs) (g:List AObj) {n:Nat} (hl:x.attrs.length<n) (hn:1048576<n):acall T (n+37) 51 [.p (.agg x.pv)] g=some (.p (.int .i64 (opErr x)),g):=by
 rw [acall_code T51,run_pure rfl rfl rfl]
 have ov:=fun (k:Int) g=>over_run k g (n+35)
 have nt:=fun s g=>named02_run s false g (n+1)
 have nn:=fun s g=>named02_run s true g (n+1)
 have at_:=fun g=>a09_run x.attrs hs g (n:=n) (by omega) hn
 by_cases k1:x.kind<1
 ·have e:opErr x=6:=by simp [opErr,tagBad,nameBad,k1]
  rw [e]
  simp -implicitDefEqProofs (disch:=omega) only [Rx,simprocAttr,F51,GOp.pv,attrsPV,k1]
 by_cases k7:7<x.kind
 ·have e:opErr x=6:=by simp [opErr,tagBad,nameBad,k1,k7]
  rw [e]
  simp -implicitDefEqProofs (disch:=omega) only [Rx,simprocAttr,F51,GOp.pv,attrsPV,k1,k7]
 cases hnode:hOk x.node
 ·have e:opErr x=5:=by simp [opErr,tagBad,nameBad,k1,k7,hnode]
  rw [e]
  simp -implicitDefEqProofs (disch:=omega) only [Rx,simprocAttr,F51,GOp.pv,attrsPV,ov,k1,k7,hnode]
 cases hup:hOk x.up
 ·have e:opErr x=5:=by simp [opErr,tagBad,nameBad,k1,k7,hnode,hup]
  rw [e]
  simp -implicitDefEqProofs (disch:=omega) only [Rx,simprocAttr,F51,GOp.pv,attrsPV,ov,k1,k7,hnode,hup]
 cases hbefore:hOk x.before
 ·have e:opErr x=5:=by simp [opErr,tagBad,nameBad,k1,k7,hnode,hup,hbefore]
  rw [e]
  simp -implicitDefEqProofs (disch:=omega) only [Rx,simprocAttr,F51,GOp.pv,attrsPV,ov,k1,k7,hnode,hup,hbefore]
 have no:=fun g=>none_run x (by omega) (by omega) g (n+35)
 simp only [GOp.pv,attrsPV] at no
 cases hn:noneB x
 rotate_left
 ·have e:opErr x=2:=by simp [opErr,tagBad,nameBad,k1,k7,hnode,hup,hbefore,hn]
  rw [e]
  simp -implicitDefEqProofs (disch:=omega) only [Rx,simprocAttr,F51,GOp.pv,attrsPV,ov,no,k1,k7,hnode,hup,hbefore,hn]
 cases e1:(x.kind==1)
 rotate_left
 ·have e1':x.kind=1:=by simpa using e1
  have e5:(x.kind==5)=false:=by rw [e1'];rfl
  have e6:(x.kind==6)=false:=by rw [e1'];rfl
  cases t1:namedB false x.tag
  ·have e:opErr x=7:=by simp [opErr,tagBad,nameBad,k1,k7,hnode,hup,hbefore,hn,e1,e5,e6,t1]
   rw [e]
   simp -implicitDefEqProofs (disch:=omega) only [Rx,simprocAttr,F51,GOp.pv,attrsPV,ov,no,nt,k1,k7,hnode,hup,hbefore,hn,e1,t1]
  by_cases l1:65536<(x.key.length:Int)
  ·have e:opErr x=3:=by simp [opErr,tagBad,nameBad,k1,k7,hnode,hup,hbefore,hn,e1,e5,e6,t1,l1]
   rw [e]
   simp -implicitDefEqProofs (disch:=omega) only [Rx,simprocAttr,F51,GOp.pv,attrsPV,ov,no,nt,k1,k7,hnode,hup,hbefore,hn,e1,e5,e6,t1,l1]
  by_cases l2:65536<(x.text.length:Int)
  ·have e:opErr x=3:=by simp [opErr,tagBad,nameBad,k1,k7,hnode,hup,hbefore,hn,e1,e5,e6,t1,l1,l2]
   rw [e]
   simp -implicitDefEqProofs (disch:=omega) only [Rx,simprocAttr,F51,GOp.pv,attrsPV,ov,no,nt,k1,k7,hnode,hup,hbefore,hn,e1,e5,e6,t1,l1,l2]
  have e:opErr x=attrsErr x.attrs:=by simp [opErr,tagBad,nameBad,k1,k7,hnode,hup,hbefore,hn,e1,e5,e6,t1,l1,l2]
  rw [e]
  simp -implicitDefEqProofs (disch:=omega) only [Rx,simprocAttr,F51,GOp.pv,attrsPV,ov,no,nt,at_,k1,k7,hnode,hup,hbefore,hn,e1,e5,e6,t1,l1,l2]
 cases e5:(x.kind==5)
 rotate_left
 ·cases t2:namedB true x.name
  ·have e:opErr x=8:=by simp [opErr,tagBad,nameBad,k1,k7,hnode,hup,hbefore,hn,e1,e5,t2]
   rw [e]
   simp -implicitDefEqProofs (disch:=omega) only [Rx,simprocAttr,F51,GOp.pv,attrsPV,ov,no,nn,k1,k7,hnode,hup,hbefore,hn,e1,e5,t2]
  by_cases l1:65536<(x.key.length:Int)
  ·have e:opErr x=3:=by simp [opErr,tagBad,nameBad,k1,k7,hnode,hup,hbefore,hn,e1,e5,t2,l1]
   rw [e]
   simp -implicitDefEqProofs (disch:=omega) only [Rx,simprocAttr,F51,GOp.pv,attrsPV,ov,no,nn,k1,k7,hnode,hup,hbefore,hn,e1,e5,t2,l1]
  by_cases l2:65536<(x.text.length:Int)
  ·have e:opErr x=3:=by simp [opErr,tagBad,nameBad,k1,k7,hnode,hup,hbefore,hn,e1,e5,t2,l1,l2]
   rw [e]
   simp -implicitDefEqProofs (disch:=omega) only [Rx,simprocAttr,F51,GOp.pv,attrsPV,ov,no,nn,k1,k7,hnode,hup,hbefore,hn,e1,e5,t2,l1,l2]
  have e:opErr x=attrsErr x.attrs:=by simp [opErr,tagBad,nameBad,k1,k7,hnode,hup,hbefore,hn,e1,e5,t2,l1,l2]
  rw [e]
  simp -implicitDefEqProofs (disch:=omega) only [Rx,simprocAttr,F51,GOp.pv,attrsPV,ov,no,nn,at_,k1,k7,hnode,hup,hbefore,hn,e1,e5,t2,l1,l2]
 cases e6:(x.kind==6)
 rotate_left
 ·cases t2:namedB true x.name
  ·have e:opErr x=8:=by simp [opErr,tagBad,nameBad,k1,k7,hnode,hup,hbefore,hn,e1,e5,e6,t2]
   rw [e]
   simp -implicitDefEqProofs (disch:=omega) only [Rx,simprocAttr,F51,GOp.pv,attrsPV,ov,no,nn,k1,k7,hnode,hup,hbefore,hn,e1,e5,e6,t2]
  by_cases l1:65536<(x.key.length:Int)
  ·have e:opErr x=3:=by simp [opErr,tagBad,nameBad,k1,k7,hnode,hup,hbefore,hn,e1,e5,e6,t2,l1]
   rw [e]
   simp -implicitDefEqProofs (disch:=omega) only [Rx,simprocAttr,F51,GOp.pv,attrsPV,ov,no,nn,k1,k7,hnode,hup,hbefore,hn,e1,e5,e6,t2,l1]
  by_cases l2:65536<(x.text.length:Int)
  ·have e:opErr x=3:=by simp [opErr,tagBad,nameBad,k1,k7,hnode,hup,hbefore,hn,e1,e5,e6,t2,l1,l2]
   rw [e]
   simp -implicitDefEqProofs (disch:=omega) only [Rx,simprocAttr,F51,GOp.pv,attrsPV,ov,no,nn,k1,k7,hnode,hup,hbefore,hn,e1,e5,e6,t2,l1,l2]
  have e:opErr x=attrsErr x.attrs:=by simp [opErr,tagBad,nameBad,k1,k7,hnode,hup,hbefore,hn,e1,e5,e6,t2,l1,l2]
  rw [e]
  simp -implicitDefEqProofs (disch:=omega) only [Rx,simprocAttr,F51,GOp.pv,attrsPV,ov,no,nn,at_,k1,k7,hnode,hup,hbefore,hn,e1,e5,e6,t2,l1,l2]
 by_cases l1:65536<(x.key.length:Int)
 ·have e:opErr x=3:=by simp [opErr,tagBad,nameBad,k1,k7,hnode,hup,hbefore,hn,e1,e5,e6,l1]
  rw [e]
  simp -implicitDefEqProofs (disch:=omega) only [Rx,simprocAttr,F51,GOp.pv,attrsPV,ov,no,k1,k7,hnode,hup,hbefore,hn,e1,e5,e6,l1]
 by_cases l2:65536<(x.text.length:Int)
 ·have e:opErr x=3:=by simp [opErr,tagBad,nameBad,k1,k7,hnode,hup,hbefore,hn,e1,e5,e6,l1,l2]
  rw [e]
  simp -implicitDefEqProofs (disch:=omega) only [Rx,simprocAttr,F51,GOp.pv,attrsPV,ov,no,k1,k7,hnode,hup,hbefore,hn,e1,e5,e6,l1,l2]
 have e:opErr x=attrsErr x.attrs:=by simp [opErr,tagBad,nameBad,k1,k7,hnode,hup,hbefore,hn,e1,e5,e6,l1,l2]
 rw [e]
 simp -implicitDefEqProofs (disch:=omega) only [Rx,simprocAttr,F51,GOp.pv,attrsPV,ov,no,at_,k1,k7,hnode,hup,hbefore,hn,e1,e5,e6,l1,l2]
end Go.TA.Tryz


end
section
/- What is wrong with an operation: the program. -/
set_option maxRecDepth 100000
set_option maxHeartbeats 8000000
namespace Go.TA.Tryz
theorem used_fine {x:GOp} (h1:1≤x.kind) (h7:x.kind≤7) (hx:OpFine x):OpFine (usedOp x):=by
 have z:smallI 0:=⟨by omega,by omega⟩
 unfold usedOp
 split
 ·exact ⟨hx.kind,z,z,z⟩
 split
 ·exact ⟨hx.kind,hx.node,hx.up,hx.before⟩
 split
 ·exact ⟨hx.kind,hx.node,z,hx.before⟩
 split
 ·exact ⟨hx.kind,hx.node,z,z⟩
 split
 ·exact ⟨hx.kind,hx.node,z,z⟩
 split
 ·exact ⟨hx.kind,hx.node,z,z⟩
 split
 ·exact ⟨hx.kind,hx.node,z,z⟩
 ·exact hx
theorem nzA_nil (l:List Attr):decide (l=[]) = !nzA l:=by
  cases l with
  | nil=>simp [nzA]
  | cons a l =>
    have:(0:Int)<((a::l).length:Int):=by simp
    simp [nzA,this]
theorem same_used {x:GOp} (h1:1≤x.kind) (h7:x.kind≤7) (hx:OpFine x):sameV x (usedOp x) = !noneB x:=by
 have zn:=itoa_zero hx.node.1
 have zu:=itoa_zero hx.up.1
 have zb:=itoa_zero hx.before.1
 have za:=nzA_nil x.attrs
 by_cases k1:x.kind=1
 ·simp only [usedOp,noneB,k1,if_true,if_false,Int.reduceEq,sameV,used1,none1,zn,zu,zb,za,nzI,nzS,beq_self_eq_true,decide_true,Bool.true_and,Bool.and_true,Bool.not_or,Bool.not_not]
  all_goals (cases x.tag==[] <;> cases x.key==[] <;> cases x.name==[] <;> cases x.text==[] <;> cases nzA x.attrs <;> cases x.node==0 <;> cases x.up==0 <;> cases x.before==0 <;> rfl)
 by_cases k2:x.kind=2
 ·have q1:(x.kind=1)=False:=by simp;omega
  simp only [usedOp,noneB,k2,if_true,if_false,Int.reduceEq,sameV,used2,none2,zn,zu,zb,za,nzI,nzS,beq_self_eq_true,decide_true,Bool.true_and,Bool.and_true,Bool.not_or,Bool.not_not]
  all_goals (cases x.tag==[] <;> cases x.key==[] <;> cases x.name==[] <;> cases x.text==[] <;> cases nzA x.attrs <;> cases x.node==0 <;> cases x.up==0 <;> cases x.before==0 <;> rfl)
 by_cases k3:x.kind=3
 ·have q1:(x.kind=1)=False:=by simp;omega
  have q2:(x.kind=2)=False:=by simp;omega
  simp only [usedOp,noneB,k3,if_true,if_false,Int.reduceEq,sameV,used3,none3,zn,zu,zb,za,nzI,nzS,beq_self_eq_true,decide_true,Bool.true_and,Bool.and_true,Bool.not_or,Bool.not_not]
  all_goals (cases x.tag==[] <;> cases x.key==[] <;> cases x.name==[] <;> cases x.text==[] <;> cases nzA x.attrs <;> cases x.node==0 <;> cases x.up==0 <;> cases x.before==0 <;> rfl)
 by_cases k4:x.kind=4
 ·have q1:(x.kind=1)=False:=by simp;omega
  have q2:(x.kind=2)=False:=by simp;omega
  have q3:(x.kind=3)=False:=by simp;omega
  simp only [usedOp,noneB,k4,if_true,if_false,Int.reduceEq,sameV,used4,none4,zn,zu,zb,za,nzI,nzS,beq_self_eq_true,decide_true,Bool.true_and,Bool.and_true,Bool.not_or,Bool.not_not]
  all_goals (cases x.tag==[] <;> cases x.key==[] <;> cases x.name==[] <;> cases x.text==[] <;> cases nzA x.attrs <;> cases x.node==0 <;> cases x.up==0 <;> cases x.before==0 <;> rfl)
 by_cases k5:x.kind=5
 ·have q1:(x.kind=1)=False:=by simp;omega
  have q2:(x.kind=2)=False:=by simp;omega
  have q3:(x.kind=3)=False:=by simp;omega
  have q4:(x.kind=4)=False:=by simp;omega
  simp only [usedOp,noneB,k5,if_true,if_false,Int.reduceEq,sameV,used5,none5,zn,zu,zb,za,nzI,nzS,beq_self_eq_true,decide_true,Bool.true_and,Bool.and_true,Bool.not_or,Bool.not_not]
  all_goals (cases x.tag==[] <;> cases x.key==[] <;> cases x.name==[] <;> cases x.text==[] <;> cases nzA x.attrs <;> cases x.node==0 <;> cases x.up==0 <;> cases x.before==0 <;> rfl)
 by_cases k6:x.kind=6
 ·have q1:(x.kind=1)=False:=by simp;omega
  have q2:(x.kind=2)=False:=by simp;omega
  have q3:(x.kind=3)=False:=by simp;omega
  have q4:(x.kind=4)=False:=by simp;omega
  have q5:(x.kind=5)=False:=by simp;omega
  simp only [usedOp,noneB,k6,if_true,if_false,Int.reduceEq,sameV,used6,none6,zn,zu,zb,za,nzI,nzS,beq_self_eq_true,decide_true,Bool.true_and,Bool.and_true,Bool.not_or,Bool.not_not]
  all_goals (cases x.tag==[] <;> cases x.key==[] <;> cases x.name==[] <;> cases x.text==[] <;> cases nzA x.attrs <;> cases x.node==0 <;> cases x.up==0 <;> cases x.before==0 <;> rfl)
 by_cases k7:x.kind=7
 ·have q1:(x.kind=1)=False:=by simp;omega
  have q2:(x.kind=2)=False:=by simp;omega
  have q3:(x.kind=3)=False:=by simp;omega
  have q4:(x.kind=4)=False:=by simp;omega
  have q5:(x.kind=5)=False:=by simp;omega
  have q6:(x.kind=6)=False:=by simp;omega
  simp only [usedOp,noneB,k7,if_true,if_false,Int.reduceEq,sameV,used7,none7,zn,zu,zb,za,nzI,nzS,beq_self_eq_true,decide_true,Bool.true_and,Bool.and_true,Bool.not_or,Bool.not_not]
  all_goals (cases x.tag==[] <;> cases x.key==[] <;> cases x.name==[] <;> cases x.text==[] <;> cases nzA x.attrs <;> cases x.node==0 <;> cases x.up==0 <;> cases x.before==0 <;> rfl)
 omega
theorem fine_of {x:GOp} (h1:¬ x.kind<1) (h7:¬ 7<x.kind) (hn:hOk x.node=true) (hu:hOk x.up=true) (hb:hOk x.before=true):OpFine x:=by
 simp only [hOk,Bool.and_eq_true,decide_eq_true_eq] at hn hu hb
 exact ⟨⟨by omega,by omega⟩,hn,hu,hb⟩
end Go.TA.Tryz


end
