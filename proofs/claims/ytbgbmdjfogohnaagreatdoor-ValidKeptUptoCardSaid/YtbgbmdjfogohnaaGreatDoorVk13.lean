/- Part 13 of 15 of a proof; joined from VkpMEnd, VkpMAttr, VkpMDelA, VkpOpsPA, VkpOpsPB, VkpMDo, VkpMDo2, VkpMDo3, VkpMRun, VkpMRows, VkpEndG, VkpFirstG, VkpPNew, VkpRunsNew, VkpRMove. The document's answer: a node is put elsewhere below the same one. -/
import Derived.Test.YtbgbmdjfogohnaaGreatDoorVk1
import Derived.Test.YtbgbmdjfogohnaaGreatDoorVk12
import Derived.Test.YtbgbmdjfogohnaaGreatDoorVk10
import Derived.Test.YtbgbmdjfogohnaaGreatDoorVk7
import Derived.Test.YtbgbmdjfogohnaaGreatDoorVk11
set_option linter.unusedSimpArgs false
set_option linter.unusedVariables false
set_option linter.defProp false
set_option maxRecDepth 100000
set_option maxHeartbeats 8000000
section
/- A node ends, and all below it. -/
namespace Go.TA.Tryz
open Classical in
noncomputable def stD (S:MS) (D:Nat→Prop) (y:Nat):MNode:=if D y then deadN else S.st y
open Classical in
noncomputable def avD (av:Nat→AV) (D:Nat→Prop) (y:Nat):AV:=if D y then .nils else av y
def DK (S:MS) (D:Nat→Prop) (h i:Nat) (y:Nat):Prop:=D y∨∃ j,j<i∧∃ k,(S.kd h)[j]? = some k∧Below S k (y:Int)
theorem DK_zero (S:MS) (D:Nat→Prop) (h:Nat):DK S D h 0=D:=by
 funext y
 simp [DK]
theorem DK_succ {S : MS} {D : Nat → Prop} {h i : Nat} {k : Int} (hk : (S.kd h)[i]? = some k) : DK S D h (i + 1) = fun y => DK S D h i y ∨ Below S k (y : Int) := by
  funext y
  simp only [DK,eq_iff_iff]
  constructor
  · rintro (h1 | ⟨j,h1,k',h2,h3⟩)
    · exact .inl (.inl h1)
    · by_cases e:j=i
      · subst e
        rw [hk] at h2
        simp only [Option.some.injEq] at h2
        subst h2
        exact .inr h3
      · exact .inl (.inr ⟨j,by omega,k',h2,h3⟩)
  · rintro ((h1 | ⟨j,h1,h2⟩) | h1)
    · exact .inl h1
    · exact .inr ⟨j,by omega,h2⟩
    · exact .inr ⟨i,by omega,k,hk,h1⟩
theorem end_body {R : Nat} {S : MS} (hS : S.Ok R) (hN : S.N ≤ 4194304) (av : Nat → AV) (rest : List AObj) (hM : MOk S.N av S.kd rest) (n : Nat) (hn : S.N < n) (h : Nat) (D : Nat → Prop) (hh : h < S.N) (hD : ∀ y : Nat, y < S.N → Below S (h : Int) (y : Int) → ¬ D y)
    (ih:∀ (c:Nat),c<S.N→(S.st c).up=(h:Int)→∀ (D:Nat→Prop),(∀ y:Nat,y<S.N→Below S (c:Int) (y:Int)→¬ D y) →
      acall T n 70 [MP,.p (.int .i64 c)] (machG S.N (stD S D) (avD av D) rest)=some (.tuple [],machG S.N (stD S fun y=>D y∨Below S (c:Int) (y:Int)) (avD av fun y=>D y∨Below S (c:Int) (y:Int)) rest)) :
    acall T (n+1) 70 [MP,.p (.int .i64 h)] (machG S.N (stD S D) (avD av D) rest)=some (.tuple [],machG S.N (stD S fun y=>D y∨Below S (h:Int) (y:Int)) (avD av fun y=>D y∨Below S (h:Int) (y:Int)) rest):=by
  classical
  have hK:=hM.kids h hh
  have hkl:=hS.kids_len hh
  have len1:∀ st av,(rowsAV S.N st av).length=S.N:=fun _ _=>rowsAV_len
  have k1:(h:Int)<(S.N:Int):=by omega
  have hgh:(rowsAV S.N (stD S D) (avD av D)).getD h []=nodeAV (S.st h) (av h):=by
    rw [rowsAV_get hh]
    have:=hD h hh .here
    simp [stD,avD,this]
  have il:=intsPV_len (S.kd h)
  have hloop:aexec (acall T n) n (.loop B70x0) ⟨[(0,MP),(1,.p (.int .i64 h)),(13,av h),(14,.p (.int .i64 (S.kd h).length)),(15,.p (.int .i64 0))],[],machG S.N (stD S D) (avD av D) rest⟩=some (.exit 0,⟨[(0,MP),(1,.p (.int .i64 h))],[],machG S.N (stD S (DK S D h (S.kd h).length)) (avD av (DK S D h (S.kd h).length)) rest⟩):=by
    have key:=loop_inv (C:=acall T n) (N:=n) (B:=B70x0) (σ := Nat) (S:=fun i=>⟨[(0,MP),(1,.p (.int .i64 h)),(13,av h),(14,.p (.int .i64 (S.kd h).length)),(15,.p (.int .i64 i))],[],machG S.N (stD S (DK S D h i)) (avD av (DK S D h i)) rest⟩)
      (I:=fun i=>i≤(S.kd h).length) (μ := fun i=>(S.kd h).length - i) (Q:=fun q=>q=(.exit 0,⟨[(0,MP),(1,.p (.int .i64 h))],[],machG S.N (stD S (DK S D h (S.kd h).length)) (avD av (DK S D h (S.kd h).length)) rest⟩)) ?_ 0 (by omega) (by omega)
    · obtain ⟨q,hq,rfl⟩:=key
      rw [DK_zero] at hq
      exact hq
    intro i hi
    by_cases hil:i<(S.kd h).length
    · left
      obtain ⟨k,hk⟩:∃ k,(S.kd h)[i]? = some k:=⟨_,List.getElem?_eq_getElem hil⟩
      have hkm:=List.mem_of_getElem? hk
      obtain ⟨c,rfl,hc,_,hcu⟩:=hS.kids h hh k hkm
      have ihc:=ih c hc hcu (DK S D h i) (fun y hy hb hd=>by
        rcases hd with hd | ⟨j,hj,k',hk',hb'⟩
        · exact hD y hy (kid_below hS hh hkm hb) hd
        · have:=kids_apart hS hh hkm (List.mem_of_getElem? hk') hb hb'
          subst this
          have hjl:=(List.getElem?_eq_some_iff.1 hk').1
          have:=(List.getElem?_inj hjl (hS.nodup h hh)).1 (hk'.trans hk.symm)
          omega)
      rw [← DK_succ hk] at ihc
      have k2:(i:Int)<((S.kd h).length:Int):=by omega
      have hg:=intsPV_get hk
      refine ⟨i+1, ?_,by omega,by omega⟩
      generalize stD S (DK S D h i)=st1 at ihc
      generalize avD av (DK S D h i)=av1 at ihc
      rcases hK.inv with ⟨_,hk0⟩ | ⟨q,hav,hq⟩ | hav
      · rw [hk0] at hil;simp at hil
      · simp only [machG,hav] at ihc ⊢
        simp -implicitDefEqProofs (disch:=omega) only [Rx,simprocAttr,B70x0,k2,hg,il,hq,ihc]
      · simp only [machG,hav] at ihc ⊢
        simp -implicitDefEqProofs (disch:=omega) only [Rx,simprocAttr,B70x0,k2,hg,il,ihc]
    · right
      obtain rfl:i=(S.kd h).length:=by omega
      have k2:¬ ((S.kd h).length:Int)<((S.kd h).length:Int):=by omega
      refine ⟨_, ?_, ?_,rfl⟩
      · rcases hK.inv with ⟨hav,_⟩ | ⟨q,hav,hq⟩ | hav
        all_goals
          simp only [hav]
          simp -implicitDefEqProofs (disch:=omega) only [Rx,simprocAttr,B70x0,k2]
      · simp
  have hset:(rowsAV S.N (stD S (DK S D h (S.kd h).length)) (avD av (DK S D h (S.kd h).length))).set h [.p (.bool false),.p (.int .i64 (-1)),.nils,.p (.str []),.p (.str []),.p (.str []),.p (.list [])]=rowsAV S.N (stD S fun y=>D y∨Below S (h:Int) (y:Int)) (avD av fun y=>D y∨Below S (h:Int) (y:Int)):=by
    have:=rowsAV_set (N:=S.N) (st:=stD S (DK S D h (S.kd h).length)) (av:=avD av (DK S D h (S.kd h).length)) hh deadN .nils
    simp only [nodeAV,deadN,List.map_nil] at this
    rw [this]
    have hiff:∀ y:Nat,y<S.N→y≠h→(DK S D h (S.kd h).length y↔(D y∨Below S (h:Int) (y:Int))):=fun y hy hne=>by
      constructor
      · rintro (h1 | ⟨j,_,k,hk,hb⟩)
        · exact .inl h1
        · exact .inr (kid_below hS hh (List.mem_of_getElem? hk) hb)
      · rintro (h1 | h1)
        · exact .inl h1
        · obtain ⟨k,hk,hb⟩:=below_kid hS h1 y rfl hy hne
          obtain ⟨j,hj,hjk⟩:=List.getElem_of_mem hk
          exact .inr ⟨j,hj,k,by rw [List.getElem?_eq_getElem hj,hjk],hb⟩
    refine rowsAV_congr fun y hy => ?_
    by_cases e:y=h
    · subst e
      have hb:D y∨Below S (y:Int) (y:Int):=.inr .here
      rw [upd_at,upd_at]
      simp [stD,avD,hb,deadN]
    · rw [upd_ne e,upd_ne e]
      have:=hiff y hy e
      by_cases q:D y∨Below S (h:Int) (y:Int)
      · simp only [stD,avD,if_pos q,if_pos (this.2 q),and_self]
      · simp only [stD,avD,if_neg q,if_neg (fun z=>q (this.1 z)),and_self]
  rw [acall_code T70,run_code rfl rfl]
  simp only [nodeAV] at hgh
  generalize stD S (DK S D h (S.kd h).length)=st2 at hloop hset
  generalize avD av (DK S D h (S.kd h).length)=av2 at hloop hset
  have hg2:(rowsAV S.N st2 av2).getD h []=nodeAV (st2 h) (av2 h):=rowsAV_get hh
  simp only [nodeAV] at hg2
  rcases hK.inv with ⟨hav,hk0⟩ | ⟨q,hav,hq⟩ | hav
  · simp only [hk0,List.length_nil,Int.natCast_zero] at hloop
    simp only [machG,hav] at hloop hgh ⊢
    simp -implicitDefEqProofs (disch:=omega) only [Rx,simprocAttr,F70,k1,len1,hgh,hg2,hloop,hset]
  · simp only [machG,hav] at hloop hgh ⊢
    simp -implicitDefEqProofs (disch:=omega) only [Rx,simprocAttr,F70,k1,len1,hgh,hg2,hloop,hset]
  · simp only [machG,hav] at hloop hgh ⊢
    simp -implicitDefEqProofs (disch:=omega) only [Rx,simprocAttr,F70,k1,len1,hgh,hg2,il,hloop,hset]
theorem end_gen {R:Nat} {S:MS} (hS:S.Ok R) (hN:S.N≤4194304) (av:Nat→AV) (rest:List AObj) (hM:MOk S.N av S.kd rest) {r:Nat→Nat} (hr1:∀ c,c<S.N→r c≤R) (hr2:∀ c p:Nat,c<S.N→(S.st c).up=(p:Int)→r p<r c) (n:Nat) (hn:S.N<n) :
    ∀ (d h : Nat) (D : Nat → Prop), h < S.N → R ≤ r h + d → (∀ y : Nat, y < S.N → Below S (h : Int) (y : Int) → ¬ D y) →
      acall T (n+d+1) 70 [MP,.p (.int .i64 h)] (machG S.N (stD S D) (avD av D) rest)=some (.tuple [],machG S.N (stD S fun y=>D y∨Below S (h:Int) (y:Int)) (avD av fun y=>D y∨Below S (h:Int) (y:Int)) rest):=by
  intro d
  induction d with
  | zero =>
    intro h D hh hR hD
    exact end_body hS hN av rest hM n hn h D hh hD (fun c hc hcu=>by
      have:=hr1 c hc
      have:=hr2 c h hc hcu
      omega)
  | succ d ih =>
    intro h D hh hR hD
    exact end_body hS hN av rest hM (n+d+1) (by omega) h D hh hD (fun c hc hcu D hD=>by
      have:=hr2 c h hc hcu
      exact ih c D hc (by omega) hD)
theorem end_run {R : Nat} {S : MS} (hS : S.Ok R) (hN : S.N ≤ 4194304) (av : Nat → AV) (rest : List AObj) (hM : MOk S.N av S.kd rest) (h : Nat) (hh : h < S.N) {n : Nat} (hn : S.N < n) :
    ∃ av',acall T (n+R+1) 70 [MP,.p (.int .i64 h)] (machG S.N S.st av rest)=some (.tuple [],machG S.N (endM S (h:Int)).st av' rest)∧MOk S.N av' (endM S (h:Int)).kd rest∧Fr S.N av rest S.N av' rest:=by
  classical
  obtain ⟨r,hr1,hr2⟩:=hS.rank
  have key:=end_gen hS hN av rest hM hr1 hr2 n hn R h (fun _=>False) hh (by omega) (fun y _ _ h=>h)
  have e1:stD S (fun _=>False)=S.st:=by funext y;simp [stD]
  have e2:avD av (fun _=>False)=av:=by funext y;simp [avD]
  have e3:(stD S fun y=>False∨Below S (h:Int) (y:Int))=(endM S (h:Int)).st:=by funext y;simp [stD,endM]
  rw [e1,e2,e3] at key
  refine ⟨_,key,⟨fun y hy => ?_,fun y y' hy hy' hne => ?_⟩,⟨Nat.le_refl _,fun _ _ _=>rfl,fun y hy j hj _ => ?_⟩⟩
  rotate_left 2
  · by_cases e:Below S (h:Int) (y:Int)
    · simp only [avD,e,or_true,if_true] at hj;cases hj
    · simp only [avD,e,or_false,if_false] at hj;exact ⟨y,hy,hj⟩
  · by_cases e:Below S (h:Int) (y:Int)
    · simp only [avD,endM,e,or_true,if_true];exact .none
    · simp only [avD,endM,e,or_false,if_false];exact hM.kids y hy
  · by_cases e:Below S (h:Int) (y:Int)
    · left;simp only [avD,e,or_true,if_true];rfl
    · by_cases e':Below S (h:Int) (y':Int)
      · simp only [avD,e,e',or_false,or_true,if_false,if_true]
        cases hq:refOf (av y) with
        | none=>exact .inl rfl
        | some q=>exact .inr (by simp [refOf])
      · simp only [avD,e,e',or_false,if_false]
        exact hM.disj y y' hy hy' hne
end Go.TA.Tryz


end
section
/- attrs.With, attrs.Without. -/
namespace Go.TA.Tryz
def toAt (l:List Attr) (name:Bs) (i:Nat):Int:=if posAt l name<i then (posAt l name:Int) else (l.length:Int)
theorem find_run (l : List Attr) (name : Bs) (hl : l.length ≤ 1048577) (g : List AObj) {n : Nat} (hn : l.length < n) :
    acall T (n+1) 171 [.p (.list (l.map Attr.pv)),.p (.str name)] g=some (.tuple [.p (.int .i64 (if fstAt l name<l.length then (fstAt l name:Int) else (posAt l name:Int))),.p (.bool (decide (fstAt l name<l.length)))],g):=by
  have hpl:posAt l name≤l.length:=List.findIdx_le_length
  have key:=loop_inv (C:=acall T n) (N:=n) (B:=B171x0) (σ := Nat) (S:=fun i=>⟨[(0,.p (.list (l.map Attr.pv))),(1,.p (.str name)),(6,.p (.int .i64 (toAt l name i))),(11,.p (.list (l.map Attr.pv))),(12,.p (.int .i64 l.length)),(13,.p (.int .i64 i))],[],[]⟩)
    (I:=fun i=>i≤l.length∧i≤fstAt l name) (μ := fun i=>l.length - i) (Q:=fun q=>q=if fstAt l name<l.length then (.ret,⟨[(4,.p (.int .i64 (fstAt l name))),(5,.p (.bool true))],[],[]⟩) else (.exit 0,⟨[(6,.p (.int .i64 (posAt l name)))],[],[]⟩)) ?_ 0 ⟨by omega,by omega⟩ (by omega)
  · obtain ⟨q,hq,rfl⟩:=key
    have e0:toAt l name 0=(l.length:Int):=by simp [toAt]
    simp only [Int.natCast_zero,e0] at hq
    rw [acall_code T171,run_pure rfl rfl rfl]
    by_cases hc:fstAt l name<l.length
    · rw [if_pos hc] at hq
      rw [if_pos hc]
      have ed:decide (fstAt l name<l.length)=true:=by simpa using hc
      simp -implicitDefEqProofs (disch:=omega) only [Rx,simprocAttr,F171,hq,ed]
    · rw [if_neg hc] at hq
      rw [if_neg hc]
      have ed:decide (fstAt l name<l.length)=false:=by simpa using hc
      simp -implicitDefEqProofs (disch:=omega) only [Rx,simprocAttr,F171,hq,ed]
  rintro i ⟨h1,h2⟩
  by_cases hi:i<l.length
  · have k1 : (i : Int) < (l.length : Int) := by omega
    have hx:=List.getElem?_eq_getElem hi
    have hg:=getD_map (f:=Attr.pv) hx
    generalize hxa:l[i]=a at hx hg
    by_cases e:i=fstAt l name
    · right
      have hp:(a.name==name)=true:=by
        have:=List.findIdx_getElem (xs:=l) (p:=fun a=>a.name==name) (w:=by unfold fstAt at e;omega)
        simp only [fstAt] at e
        subst e;rw [hxa] at this;exact this
      refine ⟨_, ?_, ?_,rfl⟩
      · rw [if_pos (by omega), ← e]
        simp -implicitDefEqProofs (disch:=omega) only [Rx,simprocAttr,B171x0,k1,hg,Attr.pv,hp]
      · rw [if_pos (by omega)];simp
    · left
      have hp:(a.name==name)=false:=by
        have:=List.not_of_lt_findIdx (xs:=l) (p:=fun a=>a.name==name) (i:=i) (by unfold fstAt at e h2;omega)
        rw [hxa] at this
        simpa using this
      refine ⟨i+1, ?_,⟨by omega,by omega⟩,by omega⟩
      by_cases hlt:posAt l name<i
      · have e1:toAt l name i=(posAt l name:Int):=by simp [toAt,hlt]
        have e2:toAt l name (i+1)=(posAt l name:Int):=by rw [toAt,if_pos (by omega)]
        have k2:(posAt l name:Int)<(l.length:Int):=by omega
        rw [e1,e2]
        simp -implicitDefEqProofs (disch:=omega) only [Rx,simprocAttr,B171x0,k1,k2,hg,Attr.pv,hp]
      · have e1:toAt l name i=(l.length:Int):=by simp [toAt,hlt]
        have k2:¬ (l.length:Int)<(l.length:Int):=by omega
        cases hs:strLess a.name name with
        | true =>
          have hne:posAt l name≠i:=fun e=>by
            have:=List.findIdx_getElem (xs:=l) (p:=fun a => !(strLess a.name name)) (w:=by unfold posAt at e;omega)
            simp only [posAt] at e
            subst e;rw [hxa,hs] at this;simp at this
          have e2:toAt l name (i+1)=(l.length:Int):=by rw [toAt,if_neg (by omega)]
          rw [e1,e2]
          simp -implicitDefEqProofs (disch:=omega) only [Rx,simprocAttr,B171x0,k1,k2,hg,Attr.pv,hp,hs,binS]
        | false =>
          have hpi:posAt l name=i:=by
            have h3:¬ i<posAt l name:=fun h=>by
              have:=List.not_of_lt_findIdx (xs:=l) (p:=fun a:Attr => !(strLess a.name name)) (i:=i) (by unfold posAt at h;exact h)
              rw [hxa,hs] at this
              simp at this
            omega
          have e2:toAt l name (i+1)=(i:Int):=by rw [toAt,if_pos (by omega),hpi]
          rw [e1,e2]
          simp -implicitDefEqProofs (disch:=omega) only [Rx,simprocAttr,B171x0,k1,k2,hg,Attr.pv,hp,hs,binS]
  · right
    obtain rfl:i=l.length:=by omega
    have k1:¬ (l.length:Int)<(l.length:Int):=by omega
    have e1:toAt l name l.length=(posAt l name:Int):=by
      unfold toAt
      split
      · rfl
      · omega
    refine ⟨_, ?_, ?_,rfl⟩
    · rw [if_neg (by omega),e1]
      simp -implicitDefEqProofs (disch:=omega) only [Rx,simprocAttr,B171x0,k1]
    · rw [if_neg (by omega)];simp
theorem insertA_run (l:List Attr) (at':Nat) (a:Attr) (hat:at'≤l.length) (hl:l.length≤1048577) (n:Nat):acall T (n+1) 172 [.own true 0 l.length,.p (.int .i64 at'),.p (.list [a.pv])] [.pcells 2 (l.map Attr.pv)]=some (.p (.list ((l.take at'++a::l.drop at').map Attr.pv)),[.dead]):=by
 rw [acall_prim T172]
 have h5:(l.length+1)*4096≤140737488355328:=by omega
 have h6:(at':Int)≤(l.length:Int):=by omega
 have h7:(a.pv.length==2)=true:=rfl
 simp [pInsert,h7,h5,h6,List.map_take,List.map_drop]
theorem with_run (l:List Attr) (name v:Bs) (hl:l.length≤1048577) (g:List AObj) {n:Nat} (hn:l.length<n) :
  acall T (n+2) 125 [.p (.list (l.map Attr.pv)),.p (.str name),.p (.str v)] g=some (.p (.list ((withA l name v).map Attr.pv)),g):=by
 have hf:=find_run l name hl [] hn
 have hcl:=cloneA_run l hl [] n
 have hpl:posAt l name≤l.length:=List.findIdx_le_length
 have hin:=insertA_run l (posAt l name) ⟨name,v⟩ hpl hl n
 rw [acall_code T125,run_pure rfl rfl rfl]
 have ml:(l.map Attr.pv).length=l.length:=by simp
 simp only [List.length_nil,List.nil_append] at hcl
 by_cases hc:fstAt l name<l.length
 ·have ed:decide (fstAt l name<l.length)=true:=by simpa using hc
  rw [if_pos hc,ed] at hf
  have ew:(withA l name v).map Attr.pv=(l.map Attr.pv).set (fstAt l name) [.str name,.str v]:=by rw [withA,if_pos hc,List.map_set];rfl
  rw [ew]
  have hx:=List.getElem?_eq_getElem hc
  have hp:(l[fstAt l name]).name=name:=by
   have h9:((l[fstAt l name]).name==name)=true:=List.findIdx_getElem (xs:=l) (p:=fun a:Attr=>a.name==name) (w:=by unfold fstAt at hc;exact hc)
   exact beq_iff_eq.1 h9
  have hg:=getD_map (f:=Attr.pv) hx
  simp only [Attr.pv,hp] at hg
  have k2:(fstAt l name:Int)<(l.length:Int):=by omega
  generalize fstAt l name=i at *
  have sl:((l.map Attr.pv).set i [.str name,.str v]).length=l.length:=by simp
  simp -implicitDefEqProofs (disch:=omega) only [Rx,simprocAttr,F125,hf,hcl,hg,k2,ml,sl]
 ·have ed:decide (fstAt l name<l.length)=false:=by simpa using hc
  rw [if_neg hc,ed] at hf
  have ew:withA l name v=l.take (posAt l name)++⟨name,v⟩::l.drop (posAt l name):=by rw [withA,if_neg hc]
  rw [ew]
  generalize l.take (posAt l name)++(⟨name,v⟩:Attr)::l.drop (posAt l name)=l' at hin
  simp only [Attr.pv] at hin
  simp -implicitDefEqProofs (disch:=omega) only [Rx,simprocAttr,F125,hf,hcl,hin]
end Go.TA.Tryz


end
section
/- slices.DeleteFunc on a row of attributes that was cloned; attrs.Without. -/
namespace Go.TA.Tryz
theorem attrs_len (l:List Attr):(l.map Attr.pv).length=l.length:=by simp
section
variable {h:Bs} {kb k:Nat}
theorem cloA_run (x:Attr) (g:List AObj) (hkb:g[kb]? = some (.pcells 1 [[.str h]])) (n:Nat):acall T (n+1) 174 [.p (.agg x.pv),.ptr true kb 1 1 0 0] g=some (.p (.bool (x.name==h)),g):=by
 rw [acall_code T174,run_code rfl rfl]
 have e0:Int.toNat 0=0:=rfl
 simp -implicitDefEqProofs (disch:=omega) only [Rx,simprocAttr,F174,Attr.pv,hkb]
theorem findA_run (ks : List Attr) (g : List AObj) (hk : g[k]? = some (.pcells 2 (ks.map Attr.pv))) (hkb : g[kb]? = some (.pcells 1 [[.str h]])) (hl : ks.length ≤ 1048577) {n : Nat} (hn : ks.length + 1 < n) :
    acall T (n+2) 203 [.own true k ks.length,.func 174 [.ptr true kb 1 1 0 0]] g=some (.p (.int .i64 (if ks.findIdx (fun a=>a.name==h)<ks.length then (ks.findIdx (fun a=>a.name==h):Int) else -1)),g):=by
  have il:=attrs_len ks
  have key:=loop_inv (C:=acall T (n+1)) (N:=n+1) (B:=B203x0) (σ := Nat) (S:=fun i=>⟨[(0,.own true k ks.length),(1,.func 174 [.ptr true kb 1 1 0 0]),(7,.p (.int .i64 ks.length)),(8,.p (.int .i64 i))],[],g⟩)
    (I:=fun i=>i≤ks.length∧i≤ks.findIdx (fun a=>a.name==h)) (μ := fun i=>ks.length - i) (Q:=fun q=>q=if ks.findIdx (fun a=>a.name==h)<ks.length then (.ret,⟨[(4,.p (.int .i64 (ks.findIdx (fun a=>a.name==h))))],[],g⟩) else (.exit 0,⟨[],[],g⟩)) ?_ 0 ⟨by omega,by omega⟩ (by omega)
  · obtain ⟨q,hq,rfl⟩:=key
    simp only [Int.natCast_zero] at hq
    rw [acall_code T203,run_code rfl rfl]
    by_cases hc:ks.findIdx (fun a=>a.name==h)<ks.length
    · rw [if_pos hc] at hq
      rw [if_pos hc]
      simp -implicitDefEqProofs (disch:=omega) only [Rx,simprocAttr,F203,hq]
    · rw [if_neg hc] at hq
      rw [if_neg hc]
      simp -implicitDefEqProofs (disch:=omega) only [Rx,simprocAttr,F203,hq]
  rintro i ⟨h1,h2⟩
  by_cases hi:i<ks.length
  · have k1:(i:Int)<(ks.length:Int):=by omega
    have hg:=getD_map (f:=Attr.pv) (List.getElem?_eq_getElem hi)
    have hc:=cloA_run (h:=h) ks[i] g hkb n
    simp only [Attr.pv] at hg hc
    by_cases e:i=ks.findIdx (fun a=>a.name==h)
    · right
      have hp:((ks[i]).name==h)=true:=by
        have:=List.findIdx_getElem (xs:=ks) (p:=(fun a=>a.name==h)) (w:=by omega)
        subst e;exact this
      rw [hp] at hc
      refine ⟨_, ?_, ?_,rfl⟩
      · rw [if_pos (by omega), ← e]
        simp -implicitDefEqProofs (disch:=omega) only [Rx,simprocAttr,B203x0,k1,hg,hk,hc,il]
      · rw [if_pos (by omega)];simp
    · left
      have hp:((ks[i]).name==h)=false:=by
        have:=List.not_of_lt_findIdx (xs:=ks) (p:=(fun a=>a.name==h)) (i:=i) (by omega)
        simpa using this
      rw [hp] at hc
      refine ⟨i+1, ?_,⟨by omega,by omega⟩,by omega⟩
      simp -implicitDefEqProofs (disch:=omega) only [Rx,simprocAttr,B203x0,k1,hg,hk,hc,il]
  · right
    obtain rfl:i=ks.length:=by omega
    have k1:¬ (ks.length:Int)<(ks.length:Int):=by omega
    refine ⟨_, ?_, ?_,rfl⟩
    · rw [if_neg (by omega)]
      simp -implicitDefEqProofs (disch:=omega) only [Rx,simprocAttr,B203x0,k1]
    · rw [if_neg (by omega)];simp
theorem delA_loop (ks:List Attr) (g:List AObj) (hk:k<g.length) (hkb:g[kb]? = some (.pcells 1 [[.str h]])) (hne:k≠kb) (hl:ks.length≤1048577) (n N:Nat) (hN:ks.length<N) (j0 i0:Nat) (h0:Going (notN h) ks j0 i0 ks) (hj0:j0≤ks.length) :
    ∃ cur i,aexec (acall T (n+1)) N (.loop delLoop2) ⟨[(0,.own true k ks.length),(1,.func 174 [.ptr true kb 1 1 0 0]),(5,.p (.int .i64 i0)),(6,.p (.int .i64 j0))],[],g.set k (.pcells 2 (ks.map Attr.pv))⟩=some (.exit 0,⟨[(0,.own true k ks.length),(5,.p (.int .i64 (i:Nat)))],[],g.set k (.pcells 2 (cur.map Attr.pv))⟩)∧Going (notN h) ks ks.length i cur:=by
  have key:=loop_inv (C:=acall T (n+1)) (N:=N) (B:=delLoop2) (σ := Nat × Nat × List Attr) (S:=fun s=>⟨[(0,.own true k ks.length),(1,.func 174 [.ptr true kb 1 1 0 0]),(5,.p (.int .i64 s.1)),(6,.p (.int .i64 s.2.1))],[],g.set k (.pcells 2 (s.2.2.map Attr.pv))⟩)
    (I:=fun s=>s.2.1≤ks.length∧Going (notN h) ks s.2.1 s.1 s.2.2) (μ := fun s=>ks.length - s.2.1) (Q:=fun q=>∃ cur i,q=(.exit 0,⟨[(0,.own true k ks.length),(5,.p (.int .i64 (i:Nat)))],[],g.set k (.pcells 2 (cur.map Attr.pv))⟩)∧Going (notN h) ks ks.length i cur) ?_ (i0,j0,ks) ⟨hj0,h0⟩ (by simp only;omega)
  · obtain ⟨q,hq,cur,i,rfl,hg⟩:=key
    exact ⟨cur,i,hq,hg⟩
  rintro ⟨i,j,cur⟩ ⟨h1,h2⟩
  simp only at h1 h2 ⊢
  have hgk:(g.set k (.pcells 2 (cur.map Attr.pv)))[k]? = some (.pcells 2 (cur.map Attr.pv)):=by rw [List.getElem?_set,if_pos rfl,if_pos hk]
  have hgb:(g.set k (.pcells 2 (cur.map Attr.pv)))[kb]? = some (.pcells 1 [[.str h]]):=by rw [List.getElem?_set,if_neg hne];exact hkb
  have hss:∀ o o':AObj,(g.set k o).set k o'=g.set k o':=fun o o'=>by simp
  have il:=attrs_len cur
  rw [h2.len] at il
  have hlt:=h2.lt
  by_cases hj:j<ks.length
  · left
    obtain ⟨x,hx⟩:∃ x,ks[j]? = some x:=⟨_,List.getElem?_eq_getElem hj⟩
    have k1:(j:Int)<(ks.length:Int):=by omega
    have k2:(i:Int)<(ks.length:Int):=by omega
    have hg:=getD_map (f:=Attr.pv) (h2.at.trans hx)
    have hc:=cloA_run (h:=h) x (g.set k (.pcells 2 (cur.map Attr.pv))) hgb n
    simp only [Attr.pv] at hg hc
    cases hp:(x.name==h) with
    | true =>
      rw [hp] at hc
      refine ⟨(i,j+1,cur), ?_,⟨by simp only;omega,h2.skip hx (by simp [notN,hp])⟩,by simp only;omega⟩
      simp -implicitDefEqProofs (disch:=omega) only [Rx,simprocAttr,delLoop2,k1,hg,hgk,hc,il]
    | false =>
      rw [hp] at hc
      have hset:(cur.map Attr.pv).set i [.str x.name,.str x.value]=(cur.set i x).map Attr.pv:=by simp [List.map_set,Attr.pv]
      have hgi:=getD_map (f:=Attr.pv) (List.getElem?_eq_getElem (show i<cur.length by rw [h2.len];omega))
      simp only [Attr.pv] at hgi
      refine ⟨(i+1,j+1,cur.set i x), ?_,⟨by simp only;omega,h2.take hx (by simp [notN,hp])⟩,by simp only;omega⟩
      simp -implicitDefEqProofs (disch:=omega) only [Rx,simprocAttr,delLoop2,k1,k2,hg,hgi,hgk,hc,il,hset,hss]
  · right
    obtain rfl:j=ks.length:=by omega
    have k1:¬ (ks.length:Int)<(ks.length:Int):=by omega
    refine ⟨_, ?_, ?_,cur,i,rfl,h2⟩
    · simp -implicitDefEqProofs (disch:=omega) only [Rx,simprocAttr,delLoop2,k1]
    · simp
theorem delA_run (ks : List Attr) (g : List AObj) (hk : g[k]? = some (.pcells 2 (ks.map Attr.pv))) (hkb : g[kb]? = some (.pcells 1 [[.str h]])) (hne : k ≠ kb) (hl : ks.length ≤ 1048577) {n : Nat} (hn : ks.length + 1 < n) :
    acall T (n+3) 173 [.own true k ks.length,.func 174 [.ptr true kb 1 1 0 0]] g=some (.p (.list ((ks.filter (notN h)).map Attr.pv)),g.set k .dead):=by
  rw [acall_prim T173]
  have hf:=findA_run ks g hk hkb hl hn
  have il:=attrs_len ks
  have hkl:k<g.length:=(List.getElem?_eq_some_iff.1 hk).1
  unfold pDelete
  simp only
  by_cases hc:ks.findIdx (fun a=>a.name==h)<ks.length
  · rw [if_pos hc] at hf
    generalize hi:ks.findIdx (fun a=>a.name==h)=i0 at hc hf
    have hpre:∀ m,m<i0→∀ x,ks[m]? = some x→notN h x=true:=fun m hm x hx=>by
      have hml:m<ks.length:=(List.getElem?_eq_some_iff.1 hx).1
      have:=List.not_of_lt_findIdx (xs:=ks) (p:=(fun a=>a.name==h)) (i:=m) (by omega)
      rw [(List.getElem?_eq_some_iff.1 hx).2] at this
      simpa [notN] using this
    obtain ⟨a,hat,hah⟩:∃ a,ks[i0]? = some a∧(a.name==h)=true:=by
      have h9:=List.findIdx_getElem (xs:=ks) (p:=(fun a=>a.name==h)) (w:=by omega)
      subst hi
      exact ⟨_,List.getElem?_eq_getElem hc,h9⟩
    have hgo:Going (notN h) ks (i0+1) i0 ks:=by
      have h1:Going (notN h) ks i0 i0 ks:=by
        refine ⟨rfl,Nat.le_refl _, ?_,rfl⟩
        rw [filter_none]
        intro x hx
        obtain ⟨m,hm,rfl⟩:=List.getElem_of_mem hx
        rw [List.length_take] at hm
        refine hpre m (by omega) _ ?_
        rw [List.getElem_take,List.getElem?_eq_getElem]
      exact h1.skip hat (by simp [notN,hah])
    obtain ⟨cur,i,hloop,hend⟩:=delA_loop (h:=h) (kb:=kb) ks g hkl hkb hne hl (n+1) (ks.length+2) (by omega) (i0+1) i0 hgo (by omega)
    have hself:g.set k (.pcells 2 (ks.map Attr.pv))=g:=by
      apply List.ext_getElem?
      intro m
      rw [List.getElem?_set]
      by_cases e:k=m
      · subst e;rw [if_pos rfl,if_pos hkl,hk]
      · rw [if_neg e]
    rw [hself] at hloop
    have e1:((i0:Int) == -1)=false:=by simp
    have hilt:=hend.il (Nat.le_refl _)
    have hihave:=hend.have'
    rw [List.take_length] at hilt hihave
    have hlt2:i<ks.length:=by
      rw [hilt]
      exact List.length_filter_lt_length_iff_exists.2 ⟨a,List.mem_of_getElem? hat,by simp [notN,hah]⟩
    have hrun:aexec (acall T (n+2)) (ks.length+2) (delHead 203 delLoop2) (enterSt [.own true k ks.length,.func 174 [.ptr true kb 1 1 0 0]] g)=some (.normal,⟨[(0,.own true k ks.length),(5,.p (.int .i64 (i:Nat)))],[],g.set k (.pcells 2 (cur.map Attr.pv))⟩):=by
      simp only [Int.natCast_add,Int.natCast_one] at hloop
      simp -implicitDefEqProofs (disch:=omega) only [Rx,simprocAttr,delHead,hf,hloop,e1]
    rw [hrun]
    have hgk:(g.set k (.pcells 2 (cur.map Attr.pv)))[k]? = some (.pcells 2 (cur.map Attr.pv)):=by rw [List.getElem?_set,if_pos rfl,if_pos hkl]
    have il2:(cur.map Attr.pv).length=ks.length:=by rw [attrs_len,hend.len]
    have hi2:(i:Int)<(ks.length:Int):=by omega
    have ht:(cur.map Attr.pv).take i=(ks.filter (notN h)).map Attr.pv:=by rw [← hihave];simp [List.map_take]
    simp [Option.bind_some,delOut,St.get,lk,orBot,hgk,il2,hi2,ht]
  · rw [if_neg hc] at hf
    have hall:ks.filter (notN h)=ks:=filter_none fun x hx=>by
      have h1:¬ ks.findIdx (fun a=>a.name==h)<ks.length:=hc
      rw [List.findIdx_lt_length] at h1
      cases hq:(x.name==h) with
      | false=>simp [notN,hq]
      | true=>exact absurd ⟨x,hx,hq⟩ h1
    have hrun:aexec (acall T (n+2)) (ks.length+2) (delHead 203 delLoop2) (enterSt [.own true k ks.length,.func 174 [.ptr true kb 1 1 0 0]] g)=some (.ret,⟨[(4,.own true k ks.length)],[],g⟩):=by
      simp -implicitDefEqProofs (disch:=omega) only [Rx,simprocAttr,delHead,hf]
    rw [hrun,hall]
    simp [delOut,St.get,lk,orBot,hk,il]
end
theorem without_run (l:List Attr) (name:Bs) (hl:l.length≤1048577) (g:List AObj) {n:Nat} (hn:l.length+1<n) :
  acall T (n+4) 126 [.p (.list (l.map Attr.pv)),.p (.str name)] g=some (.tuple [.p (.list ((withoutA l name).map Attr.pv)),.p (.bool (decide ((withoutA l name).length<l.length)))],g):=by
 have hcl:=cloneA_run l hl [.pcells 1 [[.str name]]] (n+2)
 have hd:=delA_run (h:=name) (kb:=0) (k:=1) l [.pcells 1 [[.str name]],.pcells 2 (l.map Attr.pv)] rfl rfl (by omega) hl hn
 rw [acall_code T126,run_pure rfl rfl rfl]
 have wl:((withoutA l name).map Attr.pv).length=(withoutA l name).length:=by simp
 have ml:(l.map Attr.pv).length=l.length:=by simp
 unfold withoutA at wl ⊢
 generalize l.filter (notN name)=l' at hd wl ⊢
 simp only [List.length_singleton,List.cons_append,List.nil_append] at hcl
 by_cases hlt:l'.length<l.length
 ·have hlt':(l'.length:Int)<(l.length:Int):=by omega
  have ed:decide (l'.length<l.length)=true:=by simpa using hlt
  rw [ed]
  simp -implicitDefEqProofs (disch:=omega) only [Rx,simprocAttr,F126,hcl,hd,wl,ml,hlt']
 ·have hlt':¬ (l'.length:Int)<(l.length:Int):=by omega
  have ed:decide (l'.length<l.length)=false:=by simpa using hlt
  rw [ed]
  simp -implicitDefEqProofs (disch:=omega) only [Rx,simprocAttr,F126,hcl,hd,wl,ml,hlt']
end Go.TA.Tryz


end
section
/- What is wrong with an operation: the program. -/
namespace Go.TA.Tryz
theorem used_fine {x:GOp} (h1:1≤x.kind) (h7:x.kind≤7) (hx:OpFine x):OpFine (usedOp x):=by
 have z:smallI 0:=⟨by omega,by omega⟩
 unfold usedOp
 split
 ·exact ⟨hx.kind,z,z,z⟩
 split
 ·exact ⟨hx.kind,hx.node,hx.up,hx.before⟩
 split
 ·exact ⟨hx.kind,hx.node,z,hx.before⟩
 split
 ·exact ⟨hx.kind,hx.node,z,z⟩
 split
 ·exact ⟨hx.kind,hx.node,z,z⟩
 split
 ·exact ⟨hx.kind,hx.node,z,z⟩
 split
 ·exact ⟨hx.kind,hx.node,z,z⟩
 ·exact hx
theorem nzA_nil (l:List Attr):decide (l=[]) = !nzA l:=by
  cases l with
  | nil=>simp [nzA]
  | cons a l =>
    have:(0:Int)<((a::l).length:Int):=by simp
    simp [nzA,this]
theorem same_used {x:GOp} (h1:1≤x.kind) (h7:x.kind≤7) (hx:OpFine x):sameV x (usedOp x) = !noneB x:=by
 have zn:=itoa_zero hx.node.1
 have zu:=itoa_zero hx.up.1
 have zb:=itoa_zero hx.before.1
 have za:=nzA_nil x.attrs
 by_cases k1:x.kind=1
 ·simp only [usedOp,noneB,k1,if_true,if_false,Int.reduceEq,sameV,used1,none1,zn,zu,zb,za,nzI,nzS,beq_self_eq_true,decide_true,Bool.true_and,Bool.and_true,Bool.not_or,Bool.not_not]
  all_goals (cases x.tag==[] <;> cases x.key==[] <;> cases x.name==[] <;> cases x.text==[] <;> cases nzA x.attrs <;> cases x.node==0 <;> cases x.up==0 <;> cases x.before==0 <;> rfl)
 by_cases k2:x.kind=2
 ·have q1:(x.kind=1)=False:=by simp;omega
  simp only [usedOp,noneB,k2,if_true,if_false,Int.reduceEq,sameV,used2,none2,zn,zu,zb,za,nzI,nzS,beq_self_eq_true,decide_true,Bool.true_and,Bool.and_true,Bool.not_or,Bool.not_not]
  all_goals (cases x.tag==[] <;> cases x.key==[] <;> cases x.name==[] <;> cases x.text==[] <;> cases nzA x.attrs <;> cases x.node==0 <;> cases x.up==0 <;> cases x.before==0 <;> rfl)
 by_cases k3:x.kind=3
 ·have q1:(x.kind=1)=False:=by simp;omega
  have q2:(x.kind=2)=False:=by simp;omega
  simp only [usedOp,noneB,k3,if_true,if_false,Int.reduceEq,sameV,used3,none3,zn,zu,zb,za,nzI,nzS,beq_self_eq_true,decide_true,Bool.true_and,Bool.and_true,Bool.not_or,Bool.not_not]
  all_goals (cases x.tag==[] <;> cases x.key==[] <;> cases x.name==[] <;> cases x.text==[] <;> cases nzA x.attrs <;> cases x.node==0 <;> cases x.up==0 <;> cases x.before==0 <;> rfl)
 by_cases k4:x.kind=4
 ·have q1:(x.kind=1)=False:=by simp;omega
  have q2:(x.kind=2)=False:=by simp;omega
  have q3:(x.kind=3)=False:=by simp;omega
  simp only [usedOp,noneB,k4,if_true,if_false,Int.reduceEq,sameV,used4,none4,zn,zu,zb,za,nzI,nzS,beq_self_eq_true,decide_true,Bool.true_and,Bool.and_true,Bool.not_or,Bool.not_not]
  all_goals (cases x.tag==[] <;> cases x.key==[] <;> cases x.name==[] <;> cases x.text==[] <;> cases nzA x.attrs <;> cases x.node==0 <;> cases x.up==0 <;> cases x.before==0 <;> rfl)
 by_cases k5:x.kind=5
 ·have q1:(x.kind=1)=False:=by simp;omega
  have q2:(x.kind=2)=False:=by simp;omega
  have q3:(x.kind=3)=False:=by simp;omega
  have q4:(x.kind=4)=False:=by simp;omega
  simp only [usedOp,noneB,k5,if_true,if_false,Int.reduceEq,sameV,used5,none5,zn,zu,zb,za,nzI,nzS,beq_self_eq_true,decide_true,Bool.true_and,Bool.and_true,Bool.not_or,Bool.not_not]
  all_goals (cases x.tag==[] <;> cases x.key==[] <;> cases x.name==[] <;> cases x.text==[] <;> cases nzA x.attrs <;> cases x.node==0 <;> cases x.up==0 <;> cases x.before==0 <;> rfl)
 by_cases k6:x.kind=6
 ·have q1:(x.kind=1)=False:=by simp;omega
  have q2:(x.kind=2)=False:=by simp;omega
  have q3:(x.kind=3)=False:=by simp;omega
  have q4:(x.kind=4)=False:=by simp;omega
  have q5:(x.kind=5)=False:=by simp;omega
  simp only [usedOp,noneB,k6,if_true,if_false,Int.reduceEq,sameV,used6,none6,zn,zu,zb,za,nzI,nzS,beq_self_eq_true,decide_true,Bool.true_and,Bool.and_true,Bool.not_or,Bool.not_not]
  all_goals (cases x.tag==[] <;> cases x.key==[] <;> cases x.name==[] <;> cases x.text==[] <;> cases nzA x.attrs <;> cases x.node==0 <;> cases x.up==0 <;> cases x.before==0 <;> rfl)
 by_cases k7:x.kind=7
 ·have q1:(x.kind=1)=False:=by simp;omega
  have q2:(x.kind=2)=False:=by simp;omega
  have q3:(x.kind=3)=False:=by simp;omega
  have q4:(x.kind=4)=False:=by simp;omega
  have q5:(x.kind=5)=False:=by simp;omega
  have q6:(x.kind=6)=False:=by simp;omega
  simp only [usedOp,noneB,k7,if_true,if_false,Int.reduceEq,sameV,used7,none7,zn,zu,zb,za,nzI,nzS,beq_self_eq_true,decide_true,Bool.true_and,Bool.and_true,Bool.not_or,Bool.not_not]
  all_goals (cases x.tag==[] <;> cases x.key==[] <;> cases x.name==[] <;> cases x.text==[] <;> cases nzA x.attrs <;> cases x.node==0 <;> cases x.up==0 <;> cases x.before==0 <;> rfl)
 omega
theorem fine_of {x:GOp} (h1:¬ x.kind<1) (h7:¬ 7<x.kind) (hn:hOk x.node=true) (hu:hOk x.up=true) (hb:hOk x.before=true):OpFine x:=by
 simp only [hOk,Bool.and_eq_true,decide_eq_true_eq] at hn hu hb
 exact ⟨⟨by omega,by omega⟩,hn,hu,hb⟩
end Go.TA.Tryz


end
section
/- What is wrong with an operation: the program. -/
namespace Go.TA.Tryz
theorem opsP_run (x:GOp) (g:List AObj) {n:Nat} (hl:x.attrs.length<n) (hb:x.attrs.length≤1048576):acall T (n+38) 65 [.p (.agg x.pv)] g=some (.p (.int .i64 (opErr x)),g):=by
 rw [acall_code T65,run_pure rfl rfl rfl]
 have ha:=fun (k:Int) g=>handle_run k g (n+36)
 have tg:=fun s g=>tag_run s g (n+1)
 have nm:=fun s g=>name_run s g (n+1)
 have fi:=fun s g=>fits_run s g (n+36)
 have at_:=fun g=>ap_run x.attrs g (n:=n) (by omega)
 by_cases k1:x.kind<1
 ·have e:opErr x=6:=by simp [opErr,tagBad,nameBad,k1]
  rw [e]
  simp -implicitDefEqProofs (disch:=omega) only [Rx,simprocAttr,F65,GOp.pv,attrsPV,k1]
 by_cases k7:7<x.kind
 ·have e:opErr x=6:=by simp [opErr,tagBad,nameBad,k1,k7]
  rw [e]
  simp -implicitDefEqProofs (disch:=omega) only [Rx,simprocAttr,F65,GOp.pv,attrsPV,k1,k7]
 cases hnode:hOk x.node
 ·have e:opErr x=5:=by simp [opErr,tagBad,nameBad,k1,k7,hnode]
  rw [e]
  simp -implicitDefEqProofs (disch:=omega) only [Rx,simprocAttr,F65,GOp.pv,attrsPV,ha,k1,k7,hnode]
 cases hup:hOk x.up
 ·have e:opErr x=5:=by simp [opErr,tagBad,nameBad,k1,k7,hnode,hup]
  rw [e]
  simp -implicitDefEqProofs (disch:=omega) only [Rx,simprocAttr,F65,GOp.pv,attrsPV,ha,k1,k7,hnode,hup]
 cases hbefore:hOk x.before
 ·have e:opErr x=5:=by simp [opErr,tagBad,nameBad,k1,k7,hnode,hup,hbefore]
  rw [e]
  simp -implicitDefEqProofs (disch:=omega) only [Rx,simprocAttr,F65,GOp.pv,attrsPV,ha,k1,k7,hnode,hup,hbefore]
 have us:=fun g=>used_run x (by omega) (by omega) g (n+36)
 have hf:=fine_of k1 k7 hnode hup hbefore
 have sa:=fun g=>opsame_run x (usedOp x) hf (used_fine (by omega) (by omega) hf) g (n:=n+34) (by omega) hb
 rw [same_used (by omega) (by omega) hf] at sa
 generalize usedOp x=u at us sa
 simp only [GOp.pv,attrsPV] at us sa
 cases hn:noneB x
 rotate_left
 ·rw [hn] at sa
  have e:opErr x=2:=by simp [opErr,tagBad,nameBad,k1,k7,hnode,hup,hbefore,hn]
  rw [e]
  simp -implicitDefEqProofs (disch:=omega) only [Rx,simprocAttr,F65,GOp.pv,attrsPV,ha,us,sa,k1,k7,hnode,hup,hbefore]
 rw [hn] at sa
 cases e1:(x.kind==1)
 rotate_left
 ·have e1':x.kind=1:=by simpa using e1
  have e5:(x.kind==5)=false:=by rw [e1'];rfl
  have e6:(x.kind==6)=false:=by rw [e1'];rfl
  cases t1:namedB false x.tag
  ·have e:opErr x=7:=by simp [opErr,tagBad,nameBad,k1,k7,hnode,hup,hbefore,hn,e1,e5,e6,t1]
   rw [e]
   simp -implicitDefEqProofs (disch:=omega) only [Rx,simprocAttr,F65,GOp.pv,attrsPV,ha,us,sa,tg,k1,k7,hnode,hup,hbefore,e1,t1]
  by_cases l1:(x.key.length:Int)≤65536
  rotate_left
  ·have l1':65536<(x.key.length:Int):=by omega
   have e:opErr x=3:=by simp [opErr,tagBad,nameBad,k1,k7,hnode,hup,hbefore,hn,e1,e5,e6,t1,l1,l1']
   rw [e]
   simp -implicitDefEqProofs (disch:=omega) only [Rx,simprocAttr,F65,GOp.pv,attrsPV,ha,us,sa,tg,fi,k1,k7,hnode,hup,hbefore,e1,e5,e6,t1,l1]
  have l1':¬ 65536<(x.key.length:Int):=by omega
  by_cases l2:(x.text.length:Int)≤65536
  rotate_left
  ·have l2':65536<(x.text.length:Int):=by omega
   have e:opErr x=3:=by simp [opErr,tagBad,nameBad,k1,k7,hnode,hup,hbefore,hn,e1,e5,e6,t1,l1,l1',l2,l2']
   rw [e]
   simp -implicitDefEqProofs (disch:=omega) only [Rx,simprocAttr,F65,GOp.pv,attrsPV,ha,us,sa,tg,fi,k1,k7,hnode,hup,hbefore,e1,e5,e6,t1,l1,l2]
  have l2':¬ 65536<(x.text.length:Int):=by omega
  have e:opErr x=attrsErr x.attrs:=by simp [opErr,tagBad,nameBad,k1,k7,hnode,hup,hbefore,hn,e1,e5,e6,t1,l1,l1',l2,l2']
  rw [e]
  simp -implicitDefEqProofs (disch:=omega) only [Rx,simprocAttr,F65,GOp.pv,attrsPV,ha,us,sa,tg,fi,at_,k1,k7,hnode,hup,hbefore,e1,e5,e6,t1,l1,l2]
 cases e5:(x.kind==5)
 rotate_left
 ·cases t2:namedB true x.name
  ·have e:opErr x=8:=by simp [opErr,tagBad,nameBad,k1,k7,hnode,hup,hbefore,hn,e1,e5,t2]
   rw [e]
   simp -implicitDefEqProofs (disch:=omega) only [Rx,simprocAttr,F65,GOp.pv,attrsPV,ha,us,sa,nm,k1,k7,hnode,hup,hbefore,e1,e5,t2]
  by_cases l1:(x.key.length:Int)≤65536
  rotate_left
  ·have l1':65536<(x.key.length:Int):=by omega
   have e:opErr x=3:=by simp [opErr,tagBad,nameBad,k1,k7,hnode,hup,hbefore,hn,e1,e5,t2,l1,l1']
   rw [e]
   simp -implicitDefEqProofs (disch:=omega) only [Rx,simprocAttr,F65,GOp.pv,attrsPV,ha,us,sa,nm,fi,k1,k7,hnode,hup,hbefore,e1,e5,t2,l1]
  have l1':¬ 65536<(x.key.length:Int):=by omega
  by_cases l2:(x.text.length:Int)≤65536
  rotate_left
  ·have l2':65536<(x.text.length:Int):=by omega
   have e:opErr x=3:=by simp [opErr,tagBad,nameBad,k1,k7,hnode,hup,hbefore,hn,e1,e5,t2,l1,l1',l2,l2']
   rw [e]
   simp -implicitDefEqProofs (disch:=omega) only [Rx,simprocAttr,F65,GOp.pv,attrsPV,ha,us,sa,nm,fi,k1,k7,hnode,hup,hbefore,e1,e5,t2,l1,l2]
  have l2':¬ 65536<(x.text.length:Int):=by omega
  have e:opErr x=attrsErr x.attrs:=by simp [opErr,tagBad,nameBad,k1,k7,hnode,hup,hbefore,hn,e1,e5,t2,l1,l1',l2,l2']
  rw [e]
  simp -implicitDefEqProofs (disch:=omega) only [Rx,simprocAttr,F65,GOp.pv,attrsPV,ha,us,sa,nm,fi,at_,k1,k7,hnode,hup,hbefore,e1,e5,t2,l1,l2]
 cases e6:(x.kind==6)
 rotate_left
 ·cases t2:namedB true x.name
  ·have e:opErr x=8:=by simp [opErr,tagBad,nameBad,k1,k7,hnode,hup,hbefore,hn,e1,e5,e6,t2]
   rw [e]
   simp -implicitDefEqProofs (disch:=omega) only [Rx,simprocAttr,F65,GOp.pv,attrsPV,ha,us,sa,nm,k1,k7,hnode,hup,hbefore,e1,e5,e6,t2]
  by_cases l1:(x.key.length:Int)≤65536
  rotate_left
  ·have l1':65536<(x.key.length:Int):=by omega
   have e:opErr x=3:=by simp [opErr,tagBad,nameBad,k1,k7,hnode,hup,hbefore,hn,e1,e5,e6,t2,l1,l1']
   rw [e]
   simp -implicitDefEqProofs (disch:=omega) only [Rx,simprocAttr,F65,GOp.pv,attrsPV,ha,us,sa,nm,fi,k1,k7,hnode,hup,hbefore,e1,e5,e6,t2,l1]
  have l1':¬ 65536<(x.key.length:Int):=by omega
  by_cases l2:(x.text.length:Int)≤65536
  rotate_left
  ·have l2':65536<(x.text.length:Int):=by omega
   have e:opErr x=3:=by simp [opErr,tagBad,nameBad,k1,k7,hnode,hup,hbefore,hn,e1,e5,e6,t2,l1,l1',l2,l2']
   rw [e]
   simp -implicitDefEqProofs (disch:=omega) only [Rx,simprocAttr,F65,GOp.pv,attrsPV,ha,us,sa,nm,fi,k1,k7,hnode,hup,hbefore,e1,e5,e6,t2,l1,l2]
  have l2':¬ 65536<(x.text.length:Int):=by omega
  have e:opErr x=attrsErr x.attrs:=by simp [opErr,tagBad,nameBad,k1,k7,hnode,hup,hbefore,hn,e1,e5,e6,t2,l1,l1',l2,l2']
  rw [e]
  simp -implicitDefEqProofs (disch:=omega) only [Rx,simprocAttr,F65,GOp.pv,attrsPV,ha,us,sa,nm,fi,at_,k1,k7,hnode,hup,hbefore,e1,e5,e6,t2,l1,l2]
 by_cases l1:(x.key.length:Int)≤65536
 rotate_left
 ·have l1':65536<(x.key.length:Int):=by omega
  have e:opErr x=3:=by simp [opErr,tagBad,nameBad,k1,k7,hnode,hup,hbefore,hn,e1,e5,e6,l1,l1']
  rw [e]
  simp -implicitDefEqProofs (disch:=omega) only [Rx,simprocAttr,F65,GOp.pv,attrsPV,ha,us,sa,fi,k1,k7,hnode,hup,hbefore,e1,e5,e6,l1]
 have l1':¬ 65536<(x.key.length:Int):=by omega
 by_cases l2:(x.text.length:Int)≤65536
 rotate_left
 ·have l2':65536<(x.text.length:Int):=by omega
  have e:opErr x=3:=by simp [opErr,tagBad,nameBad,k1,k7,hnode,hup,hbefore,hn,e1,e5,e6,l1,l1',l2,l2']
  rw [e]
  simp -implicitDefEqProofs (disch:=omega) only [Rx,simprocAttr,F65,GOp.pv,attrsPV,ha,us,sa,fi,k1,k7,hnode,hup,hbefore,e1,e5,e6,l1,l2]
 have l2':¬ 65536<(x.text.length:Int):=by omega
 have e:opErr x=attrsErr x.attrs:=by simp [opErr,tagBad,nameBad,k1,k7,hnode,hup,hbefore,hn,e1,e5,e6,l1,l1',l2,l2']
 rw [e]
 simp -implicitDefEqProofs (disch:=omega) only [Rx,simprocAttr,F65,GOp.pv,attrsPV,ha,us,sa,fi,at_,k1,k7,hnode,hup,hbefore,e1,e5,e6,l1,l2]
end Go.TA.Tryz


end
section
/- What an operation does to a machine: the functions change, insert, move. -/
namespace Go.TA.Tryz
theorem change_run {R:Nat} {S:MS} (hS:S.Ok R) (av:Nat→AV) (rest:List AObj) (h:Nat) (hh:h<S.N) (x:GOp) {n:Nat} (hn:1048580<n) :
  acall T (n+5) 71 [MP,.ptr true 0 7 S.N h 0,.p (.agg x.pv)] (machG S.N S.st av rest)=some (.p (.int .i64 (changeM S h x).1),machG S.N (changeM S h x).2.st av rest):=by
 have len1:∀ st av,(rowsAV S.N st av).length=S.N:=fun _ _=>rowsAV_len
 have hgh:(rowsAV S.N S.st av).getD h []=nodeAV (S.st h) (av h):=rowsAV_get hh
 have ha:=hS.attrs h hh
 have hw:=fun g=>with_run (S.st h).attrs x.name x.text ha g (n:=n+2) (by omega)
 have ho:=fun g=>without_run (S.st h).attrs x.name ha g (n:=n) (by omega)
 have hset:∀ (t:Bs) (a:List Attr),(rowsAV S.N S.st av).set h [.p (.bool (S.st h).live),.p (.int .i64 (S.st h).up),av h,.p (.str (S.st h).tag),.p (.str (S.st h).key),.p (.str t),.p (.list (a.map Attr.pv))]=rowsAV S.N (upd S.st h { S.st h with text:=t,attrs:=a }) av:=fun t a=>by
  have:=rowsAV_set (N:=S.N) (st:=S.st) (av:=av) hh { S.st h with text:=t,attrs:=a } (av h)
  simp only [nodeAV] at this
  rw [this]
  refine rowsAV_congr fun k hk=>⟨rfl, ?_⟩
  by_cases e:k=h
  ·subst e;rw [upd_at]
  ·rw [upd_ne e]
 have wl:((withA (S.st h).attrs x.name x.text).map Attr.pv).length=(withA (S.st h).attrs x.name x.text).length:=by simp
 have hset1:=fun a=>hset (S.st h).text a
 have hset2:=fun t=>hset t (S.st h).attrs
 rw [acall_code T71,run_code rfl rfl]
 unfold changeM
 simp only [nodeAV] at hgh
 by_cases k5:x.kind=5
 ·rw [if_pos k5]
  have e5:(x.kind==5)=true:=by simpa using k5
  by_cases h64:64<((withA (S.st h).attrs x.name x.text).length:Int)
  ·rw [if_pos h64]
   simp only [machG]
   simp -implicitDefEqProofs (disch:=omega) only [Rx,simprocAttr,F71,GOp.pv,attrsPV,k5,len1,hgh,hw,wl,h64]
  ·rw [if_neg h64]
   simp only [machG,setM]
   simp -implicitDefEqProofs (disch:=omega) only [Rx,simprocAttr,F71,GOp.pv,attrsPV,k5,len1,hgh,hw,wl,h64,hset1]
 rw [if_neg k5]
 have e5:(x.kind==5)=false:=by simpa using k5
 by_cases k6:x.kind=6
 ·rw [if_pos k6]
  have e6:(x.kind==6)=true:=by simpa using k6
  by_cases hlt:(withoutA (S.st h).attrs x.name).length<(S.st h).attrs.length
  ·rw [if_pos hlt]
   have ed:decide ((withoutA (S.st h).attrs x.name).length<(S.st h).attrs.length)=true:=by simpa using hlt
   simp only [ed] at ho
   simp only [machG,setM]
   simp -implicitDefEqProofs (disch:=omega) only [Rx,simprocAttr,F71,GOp.pv,attrsPV,k6,len1,hgh,ho,hset1]
  ·rw [if_neg hlt]
   have ed:decide ((withoutA (S.st h).attrs x.name).length<(S.st h).attrs.length)=false:=by simpa using hlt
   simp only [ed] at ho
   simp only [machG]
   simp -implicitDefEqProofs (disch:=omega) only [Rx,simprocAttr,F71,GOp.pv,attrsPV,k6,len1,hgh,ho]
 rw [if_neg k6]
 have e6:(x.kind==6)=false:=by simpa using k6
 by_cases k7:x.kind=7
 ·rw [if_pos k7]
  have e7:(x.kind==7)=true:=by simpa using k7
  simp only [machG,textM]
  simp -implicitDefEqProofs (disch:=omega) only [Rx,simprocAttr,F71,GOp.pv,attrsPV,k7,len1,hgh,hset2]
 ·rw [if_neg k7]
  have e7:(x.kind==7)=false:=by simpa using k7
  simp only [machG]
  simp -implicitDefEqProofs (disch:=omega) only [Rx,simprocAttr,F71,GOp.pv,attrsPV,e5,e6,e7]
end Go.TA.Tryz


end
section
/- What an operation does to a machine: the functions insert, move, Do, Run. -/
namespace Go.TA.Tryz
theorem insertF_run {R:Nat} {S:MS} (hS:S.Ok R) (hN:S.N≤4194304) (av:Nat→AV) (rest:List AObj) (hM:MOk S.N av S.kd rest) (x:GOp) (hx0:x.node≠0) {n:Nat} (hn:S.N+R+3<n) :
  ∃ av' rest',acall T (n+3) 66 [MP,.p (.agg x.pv)] (machG S.N S.st av rest)=some (.p (.int .i64 (insertM S x).1),machG (insertM S x).2.N (insertM S x).2.st av' rest')∧MOk (insertM S x).2.N av' (insertM S x).2.kd rest'∧Fr S.N av rest (insertM S x).2.N av' rest':=by
 have len1:∀ st av,(rowsAV S.N st av).length=S.N:=fun _ _=>rowsAV_len
 have hlv:=fun h=>lives_run S av rest h (n+1)
 unfold insertM
 by_cases hl:(liveB S x.node && (liveB S x.up && liveB S x.before))=false
 ·rw [if_pos hl]
  refine ⟨av,rest, ?_,hM,Fr.refl _ _ _⟩
  rw [acall_code T66,run_code rfl rfl]
  cases a1:liveB S x.node
  ·simp only [machG] at hlv ⊢
   simp -implicitDefEqProofs (disch:=omega) only [Rx,simprocAttr,F66,GOp.pv,attrsPV,hlv,a1]
  cases a2:liveB S x.up
  ·simp only [machG] at hlv ⊢
   simp -implicitDefEqProofs (disch:=omega) only [Rx,simprocAttr,F66,GOp.pv,attrsPV,hlv,a1,a2]
  cases a3:liveB S x.before
  ·simp only [machG] at hlv ⊢
   simp -implicitDefEqProofs (disch:=omega) only [Rx,simprocAttr,F66,GOp.pv,attrsPV,hlv,a1,a2,a3]
  rw [a1,a2,a3] at hl;cases hl
 rw [if_neg hl]
 simp only [Bool.not_eq_false,Bool.and_eq_true] at hl
 obtain ⟨a1,a2,a3⟩:=hl
 obtain ⟨c,hc,hcN,hcl⟩:=live_nat a1
 obtain ⟨u,hu,huN,hul⟩:=live_nat a2
 obtain ⟨b,hb,hbN,hbl⟩:=live_nat a3
 have hlv1:=hlv x.node
 have hlv2:=hlv x.up
 have hlv3:=hlv x.before
 rw [a1] at hlv1
 rw [a2] at hlv2
 rw [a3] at hlv3
 have hgc:(rowsAV S.N S.st av).getD c []=nodeAV (S.st c) (av c):=rowsAV_get hcN
 have hgb:(rowsAV S.N S.st av).getD b []=nodeAV (S.st b) (av b):=rowsAV_get hbN
 have k1:(c:Int)<(S.N:Int):=by omega
 have k3:(b:Int)<(S.N:Int):=by omega
 have un:=under_run hS av rest c u huN (n:=n+1) (by omega)
 rw [hc] at hlv1 hx0 ⊢
 rw [hu] at hlv2 ⊢
 rw [hb] at hlv3 ⊢
 have uo:upOf S (c:Int)=(S.st c).up:=rfl
 have ub:upOf S (b:Int)=(S.st b).up:=rfl
 rw [uo,ub]
 simp only [Int.toNat_natCast]
 simp only [nodeAV] at hgc hgb
 by_cases h15:0≤(S.st c).up
 ·rw [if_pos h15]
  refine ⟨av,rest, ?_,hM,Fr.refl _ _ _⟩
  rw [acall_code T66,run_code rfl rfl]
  simp only [machG] at hlv1 hlv2 hlv3 ⊢
  simp -implicitDefEqProofs (disch:=omega) only [Rx,simprocAttr,F66,GOp.pv,attrsPV,hc,hu,hb,hlv1,hlv2,hlv3,len1,hgc,k1,h15]
 rw [if_neg h15]
 by_cases h17:underB S (u:Int) (c:Int)=true
 ·rw [if_pos h17]
  rw [h17] at un
  refine ⟨av,rest, ?_,hM,Fr.refl _ _ _⟩
  rw [acall_code T66,run_code rfl rfl]
  simp only [machG] at hlv1 hlv2 hlv3 un ⊢
  simp -implicitDefEqProofs (disch:=omega) only [Rx,simprocAttr,F66,GOp.pv,attrsPV,hc,hu,hb,hlv1,hlv2,hlv3,len1,hgc,k1,h15,un]
 rw [if_neg h17]
 simp only [Bool.not_eq_true] at h17
 rw [h17] at un
 by_cases h18:(b:Int)≠0∧(S.st b).up≠(u:Int)
 ·rw [if_pos h18]
  refine ⟨av,rest, ?_,hM,Fr.refl _ _ _⟩
  have e1:((b:Int)==0)=false:=by simpa using h18.1
  have e2:((S.st b).up==(u:Int))=false:=by simpa using h18.2
  rw [acall_code T66,run_code rfl rfl]
  simp only [machG] at hlv1 hlv2 hlv3 un ⊢
  simp -implicitDefEqProofs (disch:=omega) only [Rx,simprocAttr,F66,GOp.pv,attrsPV,hc,hu,hb,hlv1,hlv2,hlv3,len1,hgc,hgb,k1,k3,h15,un,e1,e2]
 rw [if_neg h18]
 have hbk:(b:Int)=0∨(b:Int) ∈ S.kd u:=by
  by_cases e:(b:Int)=0
  ·exact .inl e
  ·right
   by_cases e2:(S.st b).up=(u:Int)
   ·exact kid_in hS hbN e2
   ·exact absurd ⟨e,e2⟩ h18
 obtain ⟨av',rest',hp,hM',hfr⟩:=place_run hS hN av rest hM c u (b:Int) hcN huN hbk (n:=n) (by omega)
 refine ⟨av',rest', ?_,hM',hfr⟩
 simp only
 rw [show (placeM S c u (b:Int)).N=S.N from rfl]
 generalize (placeM S c u (b:Int)).st=st' at hp ⊢
 rw [acall_code T66,run_code rfl rfl]
 by_cases e:(b:Int)=0
 ·have e1:((b:Int)==0)=true:=by simpa using e
  simp only [machG] at hlv1 hlv2 hlv3 un hp ⊢
  simp -implicitDefEqProofs (disch:=omega) only [Rx,simprocAttr,F66,GOp.pv,attrsPV,hc,hu,hb,hlv1,hlv2,hlv3,len1,hgc,k1,h15,un,e1,hp]
 ·have e1:((b:Int)==0)=false:=by simpa using e
  have e2:((S.st b).up==(u:Int))=true:=by
   by_cases e2:(S.st b).up=(u:Int)
   ·simpa using e2
   ·exact absurd ⟨e,e2⟩ h18
  simp only [machG] at hlv1 hlv2 hlv3 un hp ⊢
  simp -implicitDefEqProofs (disch:=omega) only [Rx,simprocAttr,F66,GOp.pv,attrsPV,hc,hu,hb,hlv1,hlv2,hlv3,len1,hgc,hgb,k1,k3,h15,un,e1,e2,hp]
theorem moveF_run {R : Nat} {S : MS} (hS : S.Ok R) (hN : S.N ≤ 4194304) (av : Nat → AV) (rest : List AObj) (hM : MOk S.N av S.kd rest) (x : GOp) (hx0 : x.node ≠ 0) {n : Nat} (hn : S.N + R + 3 < n) :
    ∃ av' rest',acall T (n+5) 67 [MP,.p (.agg x.pv)] (machG S.N S.st av rest)=some (.p (.int .i64 (moveM S x).1),machG (moveM S x).2.N (moveM S x).2.st av' rest')∧MOk (moveM S x).2.N av' (moveM S x).2.kd rest'∧Fr S.N av rest (moveM S x).2.N av' rest':=by
  have len1:∀ st av,(rowsAV S.N st av).length=S.N:=fun _ _=>rowsAV_len
  have hlv:=fun h=>lives_run S av rest h (n+3)
  unfold moveM
  by_cases a1:liveB S x.node=false
  · rw [if_pos (by rw [a1];rfl)]
    refine ⟨av,rest, ?_,hM,Fr.refl _ _ _⟩
    rw [acall_code T67,run_code rfl rfl]
    simp only [machG] at hlv ⊢
    simp -implicitDefEqProofs (disch:=omega) only [Rx,simprocAttr,F67,GOp.pv,attrsPV,hlv,a1]
  simp only [Bool.not_eq_false] at a1
  obtain ⟨c,hc,hcN,hcl⟩:=live_nat a1
  have hgc:(rowsAV S.N S.st av).getD c []=nodeAV (S.st c) (av c):=rowsAV_get hcN
  have k1:(c:Int)<(S.N:Int):=by omega
  have hlv1:=hlv x.node
  have hlv3:=hlv x.before
  rw [a1] at hlv1
  simp only [nodeAV] at hgc
  by_cases a3:liveB S x.before=false
  · rw [if_pos (by rw [a1,a3];rfl)]
    rw [a3] at hlv3
    rw [hc] at hlv1
    refine ⟨av,rest, ?_,hM,Fr.refl _ _ _⟩
    rw [acall_code T67,run_code rfl rfl]
    simp only [machG] at hlv1 hlv3 ⊢
    simp -implicitDefEqProofs (disch:=omega) only [Rx,simprocAttr,F67,GOp.pv,attrsPV,hc,hlv1,hlv3,len1,hgc,k1]
  simp only [Bool.not_eq_false] at a3
  rw [if_neg (by rw [a1,a3];simp)]
  rw [a3] at hlv3
  obtain ⟨b,hb,hbN,hbl⟩:=live_nat a3
  have hgb:(rowsAV S.N S.st av).getD b []=nodeAV (S.st b) (av b):=rowsAV_get hbN
  have k3:(b:Int)<(S.N:Int):=by omega
  simp only [nodeAV] at hgb
  rw [hc] at hlv1 hx0 ⊢
  rw [hb] at hlv3 ⊢
  have uo:upOf S (c:Int)=(S.st c).up:=rfl
  have ub:upOf S (b:Int)=(S.st b).up:=rfl
  rw [uo,ub]
  simp only [Int.toNat_natCast]
  by_cases h16:(S.st c).up<0
  · rw [if_pos h16]
    refine ⟨av,rest, ?_,hM,Fr.refl _ _ _⟩
    rw [acall_code T67,run_code rfl rfl]
    simp only [machG] at hlv1 hlv3 ⊢
    simp -implicitDefEqProofs (disch:=omega) only [Rx,simprocAttr,F67,GOp.pv,attrsPV,hc,hb,hlv1,hlv3,len1,hgc,k1,h16]
  rw [if_neg h16]
  obtain ⟨u,hu,huN,hul,hkid⟩:=hS.up_nat hcN (by omega)
  rw [hu] at h16 hgc ⊢
  by_cases e0:(b:Int)=(c:Int)
  · rw [if_pos (.inl e0)]
    have q1:((b:Int)==(c:Int))=true:=by simpa using e0
    refine ⟨av,rest, ?_,hM,Fr.refl _ _ _⟩
    rw [acall_code T67,run_code rfl rfl]
    simp only [machG] at hlv1 hlv3 ⊢
    simp -implicitDefEqProofs (disch:=omega) only [Rx,simprocAttr,F67,GOp.pv,attrsPV,hc,hb,hlv1,hlv3,len1,hgc,k1,h16,q1]
  have q1:((b:Int)==(c:Int))=false:=by simpa using e0
  by_cases h18:(b:Int)≠0∧(S.st b).up≠(u:Int)
  · rw [if_pos (.inr h18)]
    have e1:((b:Int)==0)=false:=by simpa using h18.1
    have e2:((S.st b).up==(u:Int))=false:=by simpa using h18.2
    refine ⟨av,rest, ?_,hM,Fr.refl _ _ _⟩
    rw [acall_code T67,run_code rfl rfl]
    simp only [machG] at hlv1 hlv3 ⊢
    simp -implicitDefEqProofs (disch:=omega) only [Rx,simprocAttr,F67,GOp.pv,attrsPV,hc,hb,hlv1,hlv3,len1,hgc,hgb,k1,k3,h16,q1,e1,e2]
  rw [if_neg (fun h=>h.elim e0 h18)]
  obtain ⟨hT,hTup⟩:=hS.take hcN hcl
  have hTN:=takeM_N S c
  obtain ⟨av1,rest1,ht,hM1,hfr1⟩:=take_run hS hN av rest hM c hcN (n:=n) (by omega)
  rw [← hTN] at hM1
  have hbk:(b:Int)=0∨(b:Int) ∈ (takeM S c).kd u:=by
    by_cases e:(b:Int)=0
    · exact .inl e
    · right
      by_cases e2:(S.st b).up=(u:Int)
      · have hk:=kid_in hS hbN e2
        unfold takeM
        rw [if_neg (by omega),hu,Int.toNat_natCast]
        simp only
        rw [upd_at,List.mem_filter]
        exact ⟨hk,by simp;omega⟩
      · exact absurd ⟨e,e2⟩ h18
  obtain ⟨av',rest',hp,hM',hfr2⟩:=place_run hT (by omega) av1 rest1 hM1 c u (b:Int) (by omega) (by omega) hbk (n:=n+2) (by omega)
  refine ⟨av',rest', ?_,by simpa [placeM] using hM',by simpa [placeM] using (show Fr S.N av rest (takeM S c).N av1 rest1 by rw [hTN];exact hfr1).trans hfr2⟩
  simp only [Int.toNat_natCast]
  rw [show (placeM (takeM S c) c u (b:Int)).N=(takeM S c).N from rfl,hTN]
  rw [hTN] at hp
  generalize (placeM (takeM S c) c u (b:Int)).st=st' at hp ⊢
  generalize (takeM S c).st=st1 at ht hp
  rw [acall_code T67,run_code rfl rfl]
  by_cases e:(b:Int)=0
  · have e1:((b:Int)==0)=true:=by simpa using e
    simp only [machG] at hlv1 hlv3 ht hp ⊢
    simp -implicitDefEqProofs (disch:=omega) only [Rx,simprocAttr,F67,GOp.pv,attrsPV,hc,hb,hlv1,hlv3,len1,hgc,k1,h16,q1,e1,ht,hp]
  · have e1:((b:Int)==0)=false:=by simpa using e
    have e2:((S.st b).up==(u:Int))=true:=by
      by_cases e2:(S.st b).up=(u:Int)
      · simpa using e2
      · exact absurd ⟨e,e2⟩ h18
    simp only [machG] at hlv1 hlv3 ht hp ⊢
    simp -implicitDefEqProofs (disch:=omega) only [Rx,simprocAttr,F67,GOp.pv,attrsPV,hc,hb,hlv1,hlv3,len1,hgc,hgb,k1,k3,h16,q1,e1,e2,ht,hp]
end Go.TA.Tryz


end
section
/- What an operation does to a machine: the functions Do, Run. -/
namespace Go.TA.Tryz
theorem do_run {R:Nat} {S:MS} (hS:S.Ok R) (hN:S.N≤4194303) (av:Nat→AV) (rest:List AObj) (hM:MOk S.N av S.kd rest) (x:GOp) (hx:x.attrs.length≤1048576) {n:Nat} (hn:S.N+R+1048580<n) :
  ∃ av' rest',acall T (n+R+61) 19 [MP,.p (.agg x.pv)] (machG S.N S.st av rest)=some (.p (.int .i64 (doE S x).1),machG (doE S x).2.N (doE S x).2.st av' rest')∧MOk (doE S x).2.N av' (doE S x).2.kd rest'∧Fr S.N av rest (doE S x).2.N av' rest':=by
 have len1:∀ st av,(rowsAV S.N st av).length=S.N:=fun _ _=>rowsAV_len
 have hck:=opsP_run x [] (n:=n+R+22) (by omega) hx
 rw [show n+R+22+38=n+R+60 by omega] at hck
 have k0:((S.N:Int)==0)=false:=by have:=hS.pos;simp;omega
 unfold doE
 by_cases he:opErr x=0
 rotate_left
 ·rw [if_neg he]
  have e1:(opErr x==0)=false:=by simpa using he
  refine ⟨av,rest, ?_,hM,Fr.refl _ _ _⟩
  rw [acall_code T19,run_code rfl rfl]
  simp only [GOp.pv,attrsPV] at hck
  generalize opErr x=e at hck e1 ⊢
  simp only [machG]
  simp -implicitDefEqProofs (disch:=omega) only [Rx,simprocAttr,F19,GOp.pv,attrsPV,hck,k0,e1]
 rw [if_pos he]
 rw [he] at hck
 unfold doM
 by_cases h1:x.kind=1
 ·rw [if_pos h1]
  have e1:(x.kind==1)=true:=by simpa using h1
  have hcl:=cloneA_run x.attrs (by omega) [] (n+R+59)
  have hpush:=rowsAV_push (N:=S.N) (st:=S.st) (av:=av) ⟨true, -1,x.tag,x.key,x.text,x.attrs⟩ .nils
  simp only [nodeAV] at hpush
  refine ⟨upd av S.N .nils,rest, ?_,hM.push,Fr.push _ _ _⟩
  have len2:(rowsAV (S.N+1) (upd S.st S.N ⟨true, -1,x.tag,x.key,x.text,x.attrs⟩) (upd av S.N .nils)).length=S.N+1:=rowsAV_len
  rw [acall_code T19,run_code rfl rfl]
  simp only [GOp.pv,attrsPV] at hck
  simp only [machG,MS.create]
  generalize rowsAV (S.N+1) (upd S.st S.N ⟨true, -1,x.tag,x.key,x.text,x.attrs⟩) (upd av S.N .nils)=rows' at hpush len2 ⊢
  simp -implicitDefEqProofs (disch:=omega) only [Rx,simprocAttr,F19,GOp.pv,attrsPV,hck,k0,len1,len2,e1,hcl,hpush]
 rw [if_neg h1]
 have e1:(x.kind==1)=false:=by simpa using h1
 by_cases h0:x.node=0
 ·rw [if_pos h0]
  have e0:(x.node==0)=true:=by simpa using h0
  refine ⟨av,rest, ?_,hM,Fr.refl _ _ _⟩
  rw [acall_code T19,run_code rfl rfl]
  simp only [GOp.pv,attrsPV] at hck
  simp only [machG]
  simp -implicitDefEqProofs (disch:=omega) only [Rx,simprocAttr,F19,GOp.pv,attrsPV,hck,k0,e1,e0]
 rw [if_neg h0]
 have e0:(x.node==0)=false:=by simpa using h0
 by_cases h2:x.kind=2
 ·rw [if_pos h2]
  have e2:(x.kind==2)=true:=by simpa using h2
  obtain ⟨av',rest',hp,hM',hfr⟩:=insertF_run hS (by omega) av rest hM x h0 (n:=n+R+57) (by omega)
  refine ⟨av',rest', ?_,hM',hfr⟩
  rw [show n+R+57+3=n+R+60 by omega] at hp
  generalize insertM S x=q at hp ⊢
  rw [acall_code T19,run_code rfl rfl]
  simp only [GOp.pv,attrsPV] at hck hp
  simp only [machG] at hp ⊢
  simp -implicitDefEqProofs (disch:=omega) only [Rx,simprocAttr,F19,GOp.pv,attrsPV,hck,k0,e1,e0,e2,hp]
 rw [if_neg h2]
 have e2:(x.kind==2)=false:=by simpa using h2
 by_cases h3:x.kind=3
 ·rw [if_pos h3]
  have e3:(x.kind==3)=true:=by simpa using h3
  obtain ⟨av',rest',hp,hM',hfr⟩:=moveF_run hS (by omega) av rest hM x h0 (n:=n+R+55) (by omega)
  refine ⟨av',rest', ?_,hM',hfr⟩
  rw [show n+R+55+5=n+R+60 by omega] at hp
  generalize moveM S x=q at hp ⊢
  rw [acall_code T19,run_code rfl rfl]
  simp only [GOp.pv,attrsPV] at hck hp
  simp only [machG] at hp ⊢
  simp -implicitDefEqProofs (disch:=omega) only [Rx,simprocAttr,F19,GOp.pv,attrsPV,hck,k0,e1,e0,e2,e3,hp]
 rw [if_neg h3]
 have e3:(x.kind==3)=false:=by simpa using h3
 have hft:=fun av rest=>fit_run S av rest x.node (n+R+58)
 by_cases hl:liveB S x.node=false
 ·rw [if_pos hl]
  have ef:fitE S x.node=13:=by simp [fitE,h0,hl]
  rw [ef] at hft
  refine ⟨av,rest, ?_,hM,Fr.refl _ _ _⟩
  rw [acall_code T19,run_code rfl rfl]
  simp only [GOp.pv,attrsPV] at hck
  simp only [machG] at hft ⊢
  simp -implicitDefEqProofs (disch:=omega) only [Rx,simprocAttr,F19,GOp.pv,attrsPV,hck,k0,e1,e0,e2,e3,hft]
 rw [if_neg hl]
 simp only [Bool.not_eq_false] at hl
 have ef:fitE S x.node=0:=by simp [fitE,h0,hl]
 rw [ef] at hft
 obtain ⟨c,hc,hcN,hcl⟩:=live_nat hl
 have k1:(c:Int)<(S.N:Int):=by omega
 rw [hc] at hft e0
 by_cases h4:x.kind=4
 ·rw [if_pos h4]
  have e4:(x.kind==4)=true:=by simpa using h4
  obtain ⟨hT,hTup⟩:=hS.take hcN hcl
  have hTN:=takeM_N S c
  obtain ⟨av1,rest1,ht,hM1,hfr1⟩:=take_run hS (by omega) av rest hM c hcN (n:=n+R+56) (by omega)
  rw [← hTN] at hM1
  obtain ⟨av2,hp,hM2,hfr2⟩:=end_run hT (by omega) av1 rest1 hM1 c (by omega) (n:=n+59) (by omega)
  rw [show n+59+R+1=n+R+60 by omega] at hp
  rw [show n+R+56+4=n+R+60 by omega] at ht
  rw [hc]
  simp only [Int.toNat_natCast]
  refine ⟨av2,rest1, ?_,hM2,(show Fr S.N av rest (takeM S c).N av1 rest1 by rw [hTN];exact hfr1).trans hfr2⟩
  rw [show (endM (takeM S c) (c:Int)).N=(takeM S c).N from rfl,hTN]
  rw [hTN] at hp
  generalize (endM (takeM S c) (c:Int)).st=st2 at hp ⊢
  generalize (takeM S c).st=st1 at ht hp
  rw [acall_code T19,run_code rfl rfl]
  simp only [GOp.pv,attrsPV,hc] at hck
  simp only [machG] at hft ht hp ⊢
  simp -implicitDefEqProofs (disch:=omega) only [Rx,simprocAttr,F19,GOp.pv,attrsPV,hc,hck,k0,e1,e0,e2,e3,e4,hft,ht,hp]
 rw [if_neg h4]
 have e4:(x.kind==4)=false:=by simpa using h4
 have hp:=change_run hS av rest c hcN x (n:=n+R+55) (by omega)
 rw [show n+R+55+5=n+R+60 by omega] at hp
 obtain ⟨_,hcn⟩:=changeM_ok hS hcN x
 have hck2:(changeM S c x).2.kd=S.kd:=by
  unfold changeM
  split
  ·split <;> rfl
  split
  ·split <;> rfl
  split <;> rfl
 rw [hc]
 simp only [Int.toNat_natCast]
 refine ⟨av,rest, ?_,by rw [hcn,hck2];exact hM,by rw [hcn];exact Fr.refl _ _ _⟩
 rw [hcn]
 generalize changeM S c x=q at hp ⊢
 rw [acall_code T19,run_code rfl rfl]
 simp only [GOp.pv,attrsPV,hc] at hck hp
 simp only [machG] at hft hp ⊢
 simp -implicitDefEqProofs (disch:=omega) only [Rx,simprocAttr,F19,GOp.pv,attrsPV,hc,hck,k0,k1,len1,e1,e0,e2,e3,e4,hft,hp]
end Go.TA.Tryz


end
section
/- A script is run. -/
namespace Go.TA.Tryz
structure Mem (S:MS) (g:List AObj) (av:Nat→AV) (rest:List AObj):Prop where
 is:g=machG S.N S.st av rest
 ok:MOk S.N av S.kd rest
theorem mrun_run {R : Nat} {S : MS} (hS : S.Ok R) (L : List GOp) (hL : ∀ x ∈ L, x.attrs.length ≤ 1048576) (hN : S.N + L.length ≤ 4194303) (av : Nat → AV) (rest : List AObj) (hM : MOk S.N av S.kd rest) {F : Nat} (hF : S.N + L.length + bnd R L.length + bnd R L.length + 1048700 < F) :
    ∃ av' rest' R', acall T (F + 1) 53 [MP, .p (.list (L.map GOp.pv))] (machG S.N S.st av rest) = some (.tuple [.p (.int .i64 (runM S L 0).1), .p (.int .i64 (runM S L 0).2.1)], machG (runM S L 0).2.2.N (runM S L 0).2.2.st av' rest')
      ∧ MOk (runM S L 0).2.2.N av' (runM S L 0).2.2.kd rest'∧(runM S L 0).2.2.Ok R'∧R'≤bnd R L.length∧(runM S L 0).2.2.N≤S.N+L.length∧Fr S.N av rest (runM S L 0).2.2.N av' rest':=by
  have len1:(rowsAV S.N S.st av).length=S.N:=rowsAV_len
  have k0:((S.N:Int)==0)=false:=by have:=hS.pos;simp;omega
  have key:=loop_inv (C:=acall T F) (N:=F) (B:=B53x0) (σ := Nat × MS × (Nat→AV) × List AObj) (S:=fun s=>⟨[(0,MP),(1,.p (.list (L.map GOp.pv))),(19,.p (.list (L.map GOp.pv))),(20,.p (.int .i64 L.length)),(21,.p (.int .i64 s.1))],[],machG s.2.1.N s.2.1.st s.2.2.1 s.2.2.2⟩)
    (I:=fun s=>s.1≤L.length∧s.2.1.Ok (bnd R s.1)∧MOk s.2.1.N s.2.2.1 s.2.1.kd s.2.2.2∧s.2.1.N≤S.N+s.1∧runM S L 0=runM s.2.1 (L.drop s.1) s.1∧Fr S.N av rest s.2.1.N s.2.2.1 s.2.2.2) (μ := fun s=>L.length - s.1)
    (Q:=fun q=>∃ av' rest' R',(((runM S L 0).2.1=0∧(runM S L 0).1=L.length∧q=(.exit 0,⟨[(1,.p (.list (L.map GOp.pv)))],[],machG (runM S L 0).2.2.N (runM S L 0).2.2.st av' rest'⟩))∨q=(.ret,⟨[(4,.p (.int .i64 (runM S L 0).1)),(5,.p (.int .i64 (runM S L 0).2.1))],[],machG (runM S L 0).2.2.N (runM S L 0).2.2.st av' rest'⟩))
      ∧ MOk (runM S L 0).2.2.N av' (runM S L 0).2.2.kd rest'∧(runM S L 0).2.2.Ok R'∧R'≤bnd R L.length∧(runM S L 0).2.2.N≤S.N+L.length∧Fr S.N av rest (runM S L 0).2.2.N av' rest') ?_ (0,S,av,rest) ⟨by simp,hS,hM,by simp,by simp,Fr.refl _ _ _⟩ (by simp only;omega)
  · obtain ⟨q,hq,av',rest',R',hq2,h2⟩:=key
    refine ⟨av',rest',R', ?_,h2⟩
    rw [acall_code T53,run_code rfl rfl]
    simp only [Int.natCast_zero] at hq
    rcases hq2 with ⟨z1,z2,rfl⟩ | rfl
    · simp only [machG] at hq ⊢
      rw [z1,z2]
      simp -implicitDefEqProofs (disch:=omega) only [Rx,simprocAttr,F53,k0,hq]
    · simp only [machG] at hq ⊢
      simp -implicitDefEqProofs (disch:=omega) only [Rx,simprocAttr,F53,k0,hq]
  rintro ⟨i,S1,av1,rest1⟩ ⟨h1,h2,h3,h4,h5,h6⟩
  simp only at h1 h2 h3 h4 h5 h6 ⊢
  have hb:=bnd_mono R h1
  by_cases hi:i<L.length
  · obtain ⟨x,hx⟩:∃ x,L[i]? = some x:=⟨_,List.getElem?_eq_getElem hi⟩
    have hxm:=hL x (List.mem_of_getElem? hx)
    have k1:(i:Int)<(L.length:Int):=by omega
    have hg:=getD_map (f:=GOp.pv) hx
    obtain ⟨av2,rest2,hd,hM2,hfr⟩:=do_run h2 (by omega) av1 rest1 h3 x hxm (n:=F - bnd R i - 61) (by omega)
    rw [show F - bnd R i - 61+bnd R i+61=F by omega] at hd
    obtain ⟨hok,hn1,hn2⟩:=doE_ok h2 x (by omega)
    have hr:=runM_drop hx S1
    by_cases e:(doE S1 x).1=0
    · left
      rw [if_pos e] at hr
      rw [hr] at h5
      refine ⟨(i+1,(doE S1 x).2,av2,rest2), ?_,⟨by simp only;omega,hok,hM2,by simp only;omega,h5,h6.trans hfr⟩,by simp only;omega⟩
      rw [e] at hd
      generalize doE S1 x=q at hd ⊢
      simp only [GOp.pv,attrsPV] at hd
      simp only [machG] at hd ⊢
      simp -implicitDefEqProofs (disch:=omega) only [Rx,simprocAttr,B53x0,k1,hg,GOp.pv,attrsPV,hd]
    · right
      rw [if_neg e] at hr
      rw [hr] at h5
      rw [h5]
      simp only
      refine ⟨_, ?_, ?_,av2,rest2,bnd R (i+1),.inr rfl,hM2,hok,bnd_mono R (by omega),by omega,h6.trans hfr⟩
      · have e1:((doE S1 x).1==0)=false:=by simpa using e
        generalize doE S1 x=q at hd e1 ⊢
        simp only [GOp.pv,attrsPV] at hd
        simp only [machG] at hd ⊢
        simp -implicitDefEqProofs (disch:=omega) only [Rx,simprocAttr,B53x0,k1,hg,GOp.pv,attrsPV,hd,e1]
      · simp
  · right
    obtain rfl:i=L.length:=by omega
    have k1:¬ (L.length:Int)<(L.length:Int):=by omega
    have hr:runM S1 (L.drop L.length) L.length=(L.length,0,S1):=by rw [List.drop_length];rfl
    rw [hr] at h5
    rw [h5]
    simp only
    refine ⟨_, ?_, ?_,av1,rest1,bnd R L.length,.inl ⟨trivial,trivial,rfl⟩,h3,h2,Nat.le_refl _,h4,h6⟩
    · simp -implicitDefEqProofs (disch:=omega) only [Rx,simprocAttr,B53x0,k1]
    · simp
end Go.TA.Tryz


end
section
/- The rows of a machine. -/
namespace Go.TA.Tryz
def memR (S:MS) (av:Nat→AV) (rest:List AObj) (q:Nat) (out:List GRow):List AObj:=machG S.N S.st av (rest.set q (.pcells 6 (out.map GRow.pv)))
theorem mrows_body {R : Nat} {S : MS} (hS : S.Ok R) (hN : S.N ≤ 4194304) (av : Nat → AV) (rest : List AObj) (hM : MOk S.N av S.kd rest) (q : Nat) (hq : q < rest.length) (hqf : ∀ k, k < S.N → refOf (av k) ≠ some (q + 1 + 1)) (m : Nat) (hm : S.N + 1 < m) (d h : Nat) (up : Int) (out : List GRow) (hh : h < S.N) (hp : PreO S out h) (hol : out.length ≤ S.N)
    (ih:∀ c:Nat,c<S.N→(S.st c).up=(h:Int)→∀ (out:List GRow) (up:Int),out.length≤S.N→PreO S out c→acall T m 72 [MP,.own true (q+1+1) out.length,.p (.int .i64 c),.p (.int .i64 up)] (memR S av rest q out)=some (.own true (q+1+1) (belowM S d out (c:Int) up).length,memR S av rest q (belowM S d out (c:Int) up))) :
    acall T (m+1) 72 [MP,.own true (q+1+1) out.length,.p (.int .i64 h),.p (.int .i64 up)] (memR S av rest q out)=some (.own true (q+1+1) (belowM S (d+1) out (h:Int) up).length,memR S av rest q (belowM S (d+1) out (h:Int) up)):=by
  have hK:=hM.kids h hh
  have hkl:=hS.kids_len hh
  have len1:(rowsAV S.N S.st av).length=S.N:=rowsAV_len
  have k1:(h:Int)<(S.N:Int):=by omega
  have hgh:(rowsAV S.N S.st av).getD h []=nodeAV (S.st h) (av h):=rowsAV_get hh
  have il:=intsPV_len (S.kd h)
  have hinv:=post_all hS (d:=d) (up:=up) hh hp
  have hloop:aexec (acall T m) m (.loop B72x0) ⟨[(0,MP),(1,.own true (q+1+1) out.length),(3,.p (.int .i64 up)),(19,av h),(20,.p (.int .i64 (S.kd h).length)),(21,.p (.int .i64 0))],[],memR S av rest q out⟩=some (.exit 0,⟨[(1,.own true (q+1+1) (belowM S (d+1) out (h:Int) up).length)],[],memR S av rest q (belowM S (d+1) out (h:Int) up)⟩):=by
    have key:=loop_inv (C:=acall T m) (N:=m) (B:=B72x0) (σ := Nat) (S:=fun i=>⟨[(0,MP),(1,.own true (q+1+1) (outI S d out h up i).length),(3,.p (.int .i64 up)),(19,av h),(20,.p (.int .i64 (S.kd h).length)),(21,.p (.int .i64 i))],[],memR S av rest q (outI S d out h up i)⟩)
      (I:=fun i=>i≤(S.kd h).length) (μ := fun i=>(S.kd h).length - i) (Q:=fun z=>z=(.exit 0,⟨[(1,.own true (q+1+1) (belowM S (d+1) out (h:Int) up).length)],[],memR S av rest q (belowM S (d+1) out (h:Int) up)⟩)) ?_ 0 (by omega) (by omega)
    · obtain ⟨z,hz,rfl⟩:=key
      rw [outI_zero] at hz
      exact hz
    intro i hi
    by_cases hil:i<(S.kd h).length
    · left
      obtain ⟨k,hk⟩:∃ k,(S.kd h)[i]? = some k:=⟨_,List.getElem?_eq_getElem hil⟩
      have hkm:=List.mem_of_getElem? hk
      obtain ⟨c,rfl,hc,_,hcu⟩:=hS.kids h hh k hkm
      obtain ⟨hpo,hpm⟩:=hinv i hi
      have hpre:=kid_pre hS up hh hp hpo hpm hk hc hcu
      have hol1:=hpo.len
      have ho:=outI_succ (S:=S) (d:=d) (out:=out) (up:=up) hk
      have hol2:(outI S d out h up i++[rowM S (c:Int) up]).length≤S.N:=by
        have:=nodup_len S.N _ hpre.nodup (fun k hk=>by
          obtain ⟨x,hx,rfl⟩:=List.mem_map.1 hk
          exact hpre.rng x hx)
        rwa [List.length_map] at this
      have ihc:=ih c hc hcu _ (((outI S d out h up i).length:Int)+1) hol2 hpre
      rw [← ho] at ihc
      refine ⟨i+1, ?_,by omega,by omega⟩
      generalize outI S d out h up i=o1 at hol1 hol2 ihc ⊢
      generalize outI S d out h up (i+1)=o2 at ihc ⊢
      have k2:(i:Int)<((S.kd h).length:Int):=by omega
      have k3:(c:Int)<(S.N:Int):=by omega
      have hg:=intsPV_get hk
      have hgc:(rowsAV S.N S.st av).getD c []=nodeAV (S.st c) (av c):=rowsAV_get hc
      have hcl:=cloneA_run (S.st c).attrs (hS.attrs c hc) [] (m - 1)
      rw [show m - 1+1=m by omega] at hcl
      have os:o1.map GRow.pv++[[.int .i64 (c:Int),.int .i64 up,.str (S.st c).tag,.str (S.st c).key,.str (S.st c).text,.list ((S.st c).attrs.map Attr.pv)]]=(o1++[rowM S (c:Int) up]).map GRow.pv:=by
        rw [List.map_append];rfl
      have ol1:(o1.map GRow.pv).length=o1.length:=by simp
      have ol2:(o1++[rowM S (c:Int) up]).length=o1.length+1:=by simp
      rw [ol2] at ihc
      have ol3:((o1++[rowM S (c:Int) up]).map GRow.pv).length=o1.length+1:=by simp
      generalize o1++[rowM S (c:Int) up]=o3 at os ihc ol3
      have hgq:(rest.set q (.pcells 6 (o1.map GRow.pv)))[q]? = some (.pcells 6 (o1.map GRow.pv)):=by rw [List.getElem?_set,if_pos rfl,if_pos hq]
      have hss:∀ o o':AObj,(rest.set q o).set q o'=rest.set q o':=fun o o'=>by simp
      simp only [nodeAV] at hgc
      rcases hK.inv with ⟨_,hk0⟩ | ⟨r,hav,hr⟩ | hav
      · rw [hk0] at hil;simp at hil
      · have hrq:r≠q:=fun e=>hqf h hh (by rw [hav,e];rfl)
        have hgr:(rest.set q (.pcells 6 (o1.map GRow.pv)))[r]? = some (.pcells 1 (intsPV (S.kd h))):=by rw [List.getElem?_set,if_neg (fun e=>hrq e.symm)];exact hr
        rcases (hM.kids c hc).inv with ⟨hav2,_⟩ | ⟨r2,hav2,_⟩ | hav2
        all_goals
          simp only [hav2] at hgc
          simp only [memR,machG,hav] at ihc ⊢
          simp -implicitDefEqProofs (disch:=omega) only [Rx,simprocAttr,B72x0,k2,k3,hg,hgc,len1,hgq,hgr,il,hss,hcl,os,ol1,ol3,ihc]
      · rcases (hM.kids c hc).inv with ⟨hav2,_⟩ | ⟨r2,hav2,_⟩ | hav2
        all_goals
          simp only [hav2] at hgc
          simp only [memR,machG,hav] at ihc ⊢
          simp -implicitDefEqProofs (disch:=omega) only [Rx,simprocAttr,B72x0,k2,k3,hg,hgc,len1,hgq,il,hss,hcl,os,ol1,ol3,ihc]
    · right
      obtain rfl:i=(S.kd h).length:=by omega
      have k2:¬ ((S.kd h).length:Int)<((S.kd h).length:Int):=by omega
      refine ⟨_, ?_, ?_,rfl⟩
      · rw [outI_all]
        generalize belowM S (d+1) out (h:Int) up=o1
        rcases hK.inv with ⟨hav,_⟩ | ⟨r,hav,_⟩ | hav
        all_goals
          simp only [hav]
          simp -implicitDefEqProofs (disch:=omega) only [Rx,simprocAttr,B72x0,k2]
      · simp
  rw [acall_code T72,run_code rfl rfl]
  simp only [nodeAV] at hgh
  generalize belowM S (d+1) out (h:Int) up=o2 at hloop ⊢
  rcases hK.inv with ⟨hav,hk0⟩ | ⟨r,hav,hr⟩ | hav
  · simp only [hk0,List.length_nil,Int.natCast_zero] at hloop
    simp only [memR,machG,hav] at hloop hgh ⊢
    simp -implicitDefEqProofs (disch:=omega) only [Rx,simprocAttr,F72,k1,len1,hgh,hloop]
  · have hrq:r≠q:=fun e=>hqf h hh (by rw [hav,e];rfl)
    have hgr:(rest.set q (.pcells 6 (out.map GRow.pv)))[r]? = some (.pcells 1 (intsPV (S.kd h))):=by rw [List.getElem?_set,if_neg (fun e=>hrq e.symm)];exact hr
    simp only [memR,machG,hav] at hloop hgh ⊢
    simp -implicitDefEqProofs (disch:=omega) only [Rx,simprocAttr,F72,k1,len1,hgh,hloop]
  · simp only [memR,machG,hav] at hloop hgh ⊢
    simp -implicitDefEqProofs (disch:=omega) only [Rx,simprocAttr,F72,k1,len1,hgh,il,hloop]
theorem mrows_gen {R:Nat} {S:MS} (hS:S.Ok R) (hN:S.N≤4194304) (av:Nat→AV) (rest:List AObj) (hM:MOk S.N av S.kd rest) (q:Nat) (hq:q<rest.length) (hqf:∀ k,k<S.N→refOf (av k)≠some (q+1+1)) {r:Nat→Nat} (hr1:∀ c,c<S.N→r c≤R) (hr2:∀ c p:Nat,c<S.N→(S.st c).up=(p:Int)→r p<r c) (n:Nat) (hn:S.N+1<n) :
    ∀ (d h : Nat) (up : Int) (out : List GRow), h < S.N → R ≤ r h + d → out.length ≤ S.N → PreO S out h →
      acall T (n+d+1) 72 [MP,.own true (q+1+1) out.length,.p (.int .i64 h),.p (.int .i64 up)] (memR S av rest q out)=some (.own true (q+1+1) (belowM S (d+1) out (h:Int) up).length,memR S av rest q (belowM S (d+1) out (h:Int) up)):=by
  intro d
  induction d with
  | zero =>
    intro h up out hh hR hol hp
    exact mrows_body hS hN av rest hM q hq hqf n hn 0 h up out hh hp hol (fun c hc hcu=>by
      have:=hr1 c hc
      have:=hr2 c h hc hcu
      omega)
  | succ d ih =>
    intro h up out hh hR hol hp
    exact mrows_body hS hN av rest hM q hq hqf (n+d+1) (by omega) (d+1) h up out hh hp hol (fun c hc hcu out up hol hp=>by
      have:=hr2 c h hc hcu
      exact ih c up out hc (by omega) hol hp)
theorem Rows_run {R:Nat} {S:MS} (hS:S.Ok R) (hN:S.N≤4194304) (av:Nat→AV) (rest:List AObj) (hM:MOk S.N av S.kd rest) {n:Nat} (hn:S.N+1<n) :
  acall T (n+R+2) 21 [MP] (machG S.N S.st av rest)=some (.own true (rest.length+1+1) (rowsM S R).length,machG S.N S.st av (rest++[.pcells 6 ((rowsM S R).map GRow.pv)])):=by
 have hM':MOk S.N av S.kd (rest++[.pcells 6 []]):=⟨fun h hh=>(hM.kids h hh).more _,hM.disj⟩
 obtain ⟨r,hr1,hr2⟩:=hS.rank
 have hr:=mrows_gen hS hN av (rest++[.pcells 6 []]) hM' rest.length (by simp) (fun k hk e=>by
  have:=(hM.kids k hk).ref_lt e
  omega) hr1 hr2 n hn R 0 0 [] hS.pos (by omega) (by simp) pre_nil
 have hset:∀ o o':AObj,(rest++[o]).set rest.length o'=rest++[o']:=fun o o'=>by simp [List.set_append]
 have len1:(rowsAV S.N S.st av).length=S.N:=rowsAV_len
 have k0:((S.N:Int)==0)=false:=by have:=hS.pos;simp;omega
 simp only [memR,hset,Int.natCast_zero,List.map_nil,List.length_nil] at hr
 rw [acall_code T21,run_code rfl rfl]
 unfold rowsM
 generalize belowM S (R+1) [] 0 0=o at hr ⊢
 simp only [machG] at hr ⊢
 simp -implicitDefEqProofs (disch:=omega) only [Rx,simprocAttr,F21,k0,hr]
end Go.TA.Tryz


end
section
/- What a machine's end comes to, by the program and by the document's answer. -/
namespace Go.TA
namespace Tryz
def endE (S:MS) (R:Nat) (L:List GOp) (left:Int):Int :=
 if 0<(looseM S).length then 19 else if 1<tops (rowsM S R) then 20 else if check13 (rowsM S R)≠0 then check13 (rowsM S R) else if (times L 1:Int)≤left then 0 else 21
theorem endG_run {R:Nat} {S:MS} (hS:S.Ok R) (hs:S.small) (hN:S.N≤1048576) (L:List GOp) (hL:L.length≤1048576) (left:Int) (av:Nat→AV) (rest:List AObj) (hM:MOk S.N av S.kd rest) {F:Nat} (hF:R+3145800<F) :
    ∃ rest', acall T (F + 1) 96 [MP, .p (.list (L.map GOp.pv)), .p (.int .i64 left)] (machG S.N S.st av rest) = some (.tuple [if endE S R L left = 0 then .own true (rest.length + 1 + 1) (rowsM S R).length else .p (.list []), .p (.int .i64 (endE S R L left))], machG S.N S.st av rest')
      ∧ rest'[rest.length]? = some (.pcells 6 ((rowsM S R).map GRow.pv)):=by
  have hlen:=rowsM_len hS R
  have hsm:=rowsM_small hS hs (by omega) R
  have hrows:=Rows_run hS (by omega) av rest hM (n:=F - R - 2) (by omega)
  rw [show F - R - 2+R+2=F by omega] at hrows
  have hM':MOk S.N av S.kd (rest++[.pcells 6 ((rowsM S R).map GRow.pv)]):=⟨fun h hh=>(hM.kids h hh).more _,hM.disj⟩
  have hloose:=loose_run S (by omega) av (rest++[.pcells 6 ((rowsM S R).map GRow.pv)]) hM' (n:=F - 1) (by omega)
  rw [show F - 1+1=F by omega] at hloose
  have hflat:=flatCheckE_mid (rowsM S R) hsm (Nat.le_refl _) (n:=F - (rowsM S R).length - 43) (by omega) []
  rw [show F - (rowsM S R).length - 43+(rowsM S R).length+43=F by omega] at hflat
  have hcount:=count_run L hL [] (n:=F - 1) (by omega)
  rw [show F - 1+1=F by omega] at hcount
  have hll:=looseM_len S
  have htl:=tops_le (rowsM S R)
  have e19:endE S R L left=if 0<(looseM S).length then 19 else if 1<tops (rowsM S R) then 20 else if check13 (rowsM S R)≠0 then check13 (rowsM S R) else if (times L 1:Int)≤left then 0 else 21:=rfl
  refine ⟨rest++[.pcells 6 ((rowsM S R).map GRow.pv)]++[.pcells 1 (intsPV (looseM S))], ?_,by simp⟩
  generalize looseM S=lo at *
  have hrl:((rowsM S R).map GRow.pv).length=(rowsM S R).length:=by simp
  have hget:∀ i x,(rowsM S R)[i]? = some x→((rowsM S R).map GRow.pv).getD i []=x.pv:=fun i x hx=>getD_map (f:=GRow.pv) hx
  generalize rowsM S R=rows at *
  generalize hX:rows.map GRow.pv=X at *
  have q1:(rest++[AObj.pcells 6 X])[rest.length]? = some (.pcells 6 X):=by simp
  have q2:(rest++[AObj.pcells 6 X]++[.pcells 1 (intsPV lo)])[rest.length]? = some (.pcells 6 X):=by simp
  have hloop:=loop_rule' (C:=acall T F) (N:=F) (B:=B96x0) (σ := Nat) (S:=fun i=>⟨[(0,MP),(1,.p (.list (L.map GOp.pv))),(2,.p (.int .i64 left)),(8,.own true (rest.length+1+1) rows.length),(9,.p (.int .i64 (tops (rows.take i)))),(15,.own true (rest.length+1+1) rows.length),(16,.p (.int .i64 rows.length)),(17,.p (.int .i64 i))],[],machG S.N S.st av (rest++[.pcells 6 X])⟩) (I:=fun i=>i≤rows.length) (μ := fun i=>rows.length - i)
    (Φ := fun i=>(.exit 0,⟨[(0,MP),(1,.p (.list (L.map GOp.pv))),(2,.p (.int .i64 left)),(8,.own true (rest.length+1+1) rows.length),(9,.p (.int .i64 (tops rows)))],[],machG S.N S.st av (rest++[.pcells 6 X])⟩)) ?_ 0 (by omega) (by omega)
  · have t0:tops (rows.take 0)=0:=rfl
    rw [t0] at hloop
    have ll:(L.map GOp.pv).length=L.length:=by simp
    rw [acall_code T96,run_code rfl rfl]
    generalize tops rows=tp at *
    generalize times L 1=t1 at *
    simp only [machG,Int.natCast_zero] at hloop hrows hloose ⊢
    by_cases h1:0<lo.length
    · have e:endE S R L left=19:=by rw [e19,if_pos h1]
      rw [e]
      simp -implicitDefEqProofs (disch:=omega) only [Rx,simprocAttr,F96,hrows,hloop,hloose]
    by_cases h2:1<tp
    · have e:endE S R L left=20:=by rw [e19,if_neg h1,if_pos h2]
      rw [e]
      simp -implicitDefEqProofs (disch:=omega) only [Rx,simprocAttr,F96,hrows,hloop,hloose]
    by_cases h3:check13 rows=0
    rotate_left
    · have e:endE S R L left=check13 rows:=by rw [e19,if_neg h1,if_neg h2,if_pos h3]
      rw [e]
      have h3':(check13 rows==0)=false:=by simpa using h3
      generalize check13 rows=c at hflat h3 h3'
      simp -implicitDefEqProofs (disch:=omega) only [Rx,simprocAttr,F96,hrows,hloop,hloose,hflat,hrl,q2,h3,h3']
    rw [h3] at hflat
    by_cases h4:(t1:Int)≤left
    · have e:endE S R L left=0:=by rw [e19,if_neg h1,if_neg h2,if_neg (by simpa using h3),if_pos h4]
      rw [e]
      simp -implicitDefEqProofs (disch:=omega) only [Rx,simprocAttr,F96,hrows,hloop,hloose,hflat,hcount,hrl,q2,h4]
    · have e:endE S R L left=21:=by rw [e19,if_neg h1,if_neg h2,if_neg (by simpa using h3),if_neg h4]
      rw [e]
      simp -implicitDefEqProofs (disch:=omega) only [Rx,simprocAttr,F96,hrows,hloop,hloose,hflat,hcount,hrl,q2,h4]
  intro i hi
  by_cases h:i<rows.length
  · left
    obtain ⟨x,hx⟩:=get_some h
    have k1:(i:Int)<(rows.length:Int):=by omega
    have hg:=hget i x hx
    have ht:=tops_take hx
    have hle:=tops_le (rows.take i)
    rw [List.length_take] at hle
    refine ⟨i+1, ?_,by omega,by omega,rfl⟩
    rw [ht]
    generalize tops (rows.take i)=c at *
    simp only [machG] at ⊢
    by_cases e:x.up=0
    · have e1:(x.up==0)=true:=by simpa using e
      rw [if_pos e]
      simp -implicitDefEqProofs (disch:=omega) only [Rx,simprocAttr,B96x0,k1,hrl,q1,hg,GRow.pv,attrsPV,e1]
    · have e1:(x.up==0)=false:=by simpa using e
      rw [if_neg e]
      simp -implicitDefEqProofs (disch:=omega) only [Rx,simprocAttr,B96x0,k1,hrl,q1,hg,GRow.pv,attrsPV,e1,Nat.add_zero]
  · right
    obtain rfl:i=rows.length:=by omega
    have k1:¬ (rows.length:Int)<(rows.length:Int):=by omega
    refine ⟨?_,by simp⟩
    rw [List.take_length]
    simp -implicitDefEqProofs (disch:=omega) only [Rx,simprocAttr,B96x0,k1]
end Tryz
end Go.TA


end
section
/- The first operation of a list that may not be, by the program and by the document's answer. -/
namespace Go.TA.Tryz
noncomputable def firstE:List GOp→Nat→Nat × Int
 | [],i=>(0,0)
 | x::l,i=>if opErr x=0 then firstE l (i+1) else (i,opErr x)
theorem firstE_drop {L:List GOp} {i:Nat} {x:GOp} (hx:L[i]? = some x):firstE (L.drop i) i=if opErr x=0 then firstE (L.drop (i+1)) (i+1) else (i,opErr x):=by
 have:L.drop i=x::L.drop (i+1):=by rw [List.drop_eq_getElem?_toList_append,hx];rfl
 rw [this,firstE]
theorem firstP_run (L : List GOp) (hL : ∀ x ∈ L, x.attrs.length ≤ 1048576) (hlen : L.length ≤ 1048576) (g : List AObj) {n : Nat} (hn : 1048577 < n) :
    acall T (n+39) 95 [.p (.list (L.map GOp.pv))] g=some (.tuple [.p (.int .i64 (firstE L 0).1),.p (.int .i64 (firstE L 0).2)],g):=by
  have key:=loop_inv (C:=acall T (n+38)) (N:=n+38) (B:=B95x0) (σ := Nat) (S:=fun i=>⟨[(7,.p (.list (L.map GOp.pv))),(8,.p (.int .i64 L.length)),(9,.p (.int .i64 i))],[],[]⟩)
    (I:=fun i=>i≤L.length∧firstE L 0=firstE (L.drop i) i) (μ := fun i=>L.length - i) (Q:=fun r=>(firstE L 0=(0,0)∧r=(.exit 0,⟨[],[],[]⟩))∨r=(.ret,⟨[(2,.p (.int .i64 (firstE L 0).1)),(3,.p (.int .i64 (firstE L 0).2))],[],[]⟩)) ?_ 0 (by simp) (by omega)
  · obtain ⟨r,hr,hq⟩:=key
    rw [acall_code T95,run_pure rfl rfl rfl]
    simp only [Int.natCast_zero] at hr
    rcases hq with ⟨e,rfl⟩ | rfl
    · rw [e]
      simp -implicitDefEqProofs (disch:=omega) only [Rx,simprocAttr,F95,hr,Int.natCast_zero]
    · simp -implicitDefEqProofs (disch:=omega) only [Rx,simprocAttr,F95,hr]
  rintro i ⟨hi,hf⟩
  by_cases h:i<L.length
  · obtain ⟨x,hx⟩:=get_some h
    have hg:=getD_map (f:=GOp.pv) hx
    have hxl:=hL x (List.mem_of_getElem? hx)
    have k1:(i:Int)<(L.length:Int):=by omega
    have k2:((i:Int)==1048576)=false:=by simp;omega
    have hc:=fun g=>opsP_run x g (n:=n) (by omega) hxl
    simp only [GOp.pv,attrsPV] at hc
    rw [firstE_drop hx] at hf
    by_cases he:opErr x=0
    · left
      rw [if_pos he] at hf
      refine ⟨i+1, ?_,⟨by omega,hf⟩,by omega⟩
      rw [he] at hc
      simp -implicitDefEqProofs (disch:=omega) only [Rx,simprocAttr,B95x0,k1,k2,hg,GOp.pv,attrsPV,hc]
    · right
      rw [if_neg he] at hf
      have he':(opErr x==0)=false:=by simpa using he
      refine ⟨_, ?_, ?_,.inr rfl⟩
      · rw [hf]
        simp -implicitDefEqProofs (disch:=omega) only [Rx,simprocAttr,B95x0,k1,k2,hg,GOp.pv,attrsPV,hc,he']
      · simp
  · right
    obtain rfl:i=L.length:=by omega
    have k1:¬ (L.length:Int)<(L.length:Int):=by omega
    rw [List.drop_length] at hf
    refine ⟨_, ?_, ?_,.inl ⟨hf,rfl⟩⟩
    · simp -implicitDefEqProofs (disch:=omega) only [Rx,simprocAttr,B95x0,k1]
    · simp
theorem firstR_run (L : List GOp) (hL : ∀ x ∈ L, x.attrs.length ≤ 1048576 ∧ smallAttrs x.attrs) (hlen : L.length ≤ 1048576) (g : List AObj) {n : Nat} (hn : 1048577 < n) :
    acall T (n+38) 88 [.p (.list (L.map GOp.pv))] g=some (.tuple [.p (.int .i64 (firstE L 0).1),.p (.int .i64 (firstE L 0).2)],g):=by
  have key:=loop_inv (C:=acall T (n+37)) (N:=n+37) (B:=B88x0) (σ := Nat) (S:=fun i=>⟨[(0,.p (.list (L.map GOp.pv))),(7,.p (.int .i64 L.length)),(8,.p (.int .i64 i))],[],[]⟩)
    (I:=fun i=>i≤L.length∧firstE L 0=firstE (L.drop i) i) (μ := fun i=>L.length - i) (Q:=fun r=>(firstE L 0=(0,0)∧r=(.exit 0,⟨[],[],[]⟩))∨r=(.ret,⟨[(2,.p (.int .i64 (firstE L 0).1)),(3,.p (.int .i64 (firstE L 0).2))],[],[]⟩)) ?_ 0 (by simp) (by omega)
  · obtain ⟨r,hr,hq⟩:=key
    rw [acall_code T88,run_pure rfl rfl rfl]
    simp only [Int.natCast_zero] at hr
    rcases hq with ⟨e,rfl⟩ | rfl
    · rw [e]
      simp -implicitDefEqProofs (disch:=omega) only [Rx,simprocAttr,F88,hr,Int.natCast_zero]
    · simp -implicitDefEqProofs (disch:=omega) only [Rx,simprocAttr,F88,hr]
  rintro i ⟨hi,hf⟩
  by_cases h:i<L.length
  · obtain ⟨x,hx⟩:=get_some h
    have hg:=getD_map (f:=GOp.pv) hx
    obtain ⟨hxl,hxs⟩:=hL x (List.mem_of_getElem? hx)
    have k1:(i:Int)<(L.length:Int):=by omega
    have k2:((i:Int)==1048576)=false:=by simp;omega
    have hc:=fun g=>ref25_run x hxs g (n:=n) (by omega) (by omega)
    simp only [GOp.pv,attrsPV] at hc
    rw [firstE_drop hx] at hf
    by_cases he:opErr x=0
    · left
      rw [if_pos he] at hf
      refine ⟨i+1, ?_,⟨by omega,hf⟩,by omega⟩
      rw [he] at hc
      simp -implicitDefEqProofs (disch:=omega) only [Rx,simprocAttr,B88x0,k1,k2,hg,GOp.pv,attrsPV,hc]
    · right
      rw [if_neg he] at hf
      have he':(opErr x==0)=false:=by simpa using he
      refine ⟨_, ?_, ?_,.inr rfl⟩
      · rw [hf]
        simp -implicitDefEqProofs (disch:=omega) only [Rx,simprocAttr,B88x0,k1,k2,hg,GOp.pv,attrsPV,hc,he']
      · simp
  · right
    obtain rfl:i=L.length:=by omega
    have k1:¬ (L.length:Int)<(L.length:Int):=by omega
    rw [List.drop_length] at hf
    refine ⟨_, ?_, ?_,.inl ⟨hf,rfl⟩⟩
    · simp -implicitDefEqProofs (disch:=omega) only [Rx,simprocAttr,B88x0,k1]
    · simp
end Go.TA.Tryz


end
section
/- The machine of rows that are right. -/
namespace Go.TA.Tryz
def newS (l:List GRow) (i:Nat) (av:Nat→AV) (rest:List AObj):St:=⟨[(5,.ptr true 1 1 1 0 0),(17,.p (.list (l.map GRow.pv))),(18,.p (.int .i64 l.length)),(19,.p (.int .i64 i))],[],machG (i+1) (st0 l) av rest⟩
theorem new_loop {n N : Nat} (l : List GRow) (hl : l.length ≤ 1048576) (hal : ∀ x ∈ l, x.attrs.length ≤ 1048577) (hs : standTo l l.length) (hN : l.length < N) :
    ∃ r,aexec (acall T (n+1)) N (.loop B15x0) (newS l 0 (fun _ => .nils) [])=some r∧∃ av rest,r=(.exit 0,⟨[(5,.ptr true 1 1 1 0 0)],[],machG (l.length+1) (st0 l) av rest⟩)∧MOk (l.length+1) av (kd0 l l.length) rest∧∀ h,h<l.length+1→∀ ks,av h ≠ .p ks:=by
  refine loop_inv (σ := Nat × (Nat→AV) × List AObj) (S:=fun s=>newS l s.1 s.2.1 s.2.2) (I:=fun s=>s.1≤l.length∧MOk (s.1+1) s.2.1 (kd0 l s.1) s.2.2∧∀ h,h<s.1+1→∀ ks,s.2.1 h ≠ .p ks) (μ := fun s=>l.length - s.1)
    (Q:=fun r=>∃ av rest,r=(.exit 0,⟨[(5,.ptr true 1 1 1 0 0)],[],machG (l.length+1) (st0 l) av rest⟩)∧MOk (l.length+1) av (kd0 l l.length) rest∧∀ h,h<l.length+1→∀ ks,av h ≠ .p ks) ?_ (0,(fun _ => .nils),[]) ⟨by omega,⟨fun h _ => .none,fun _ _ _ _ _ => .inl rfl⟩,fun h _ ks=>by simp⟩ (by simp only;omega)
  rintro ⟨i,av,rest⟩ ⟨h1,h2,h3⟩
  simp only at h1 h2 h3 ⊢
  by_cases hi:i<l.length
  · left
    obtain ⟨x,hx,hu⟩:=up_val hs (Nat.le_refl _) hi
    have hle:=upAt_le hs hi hi
    have hg:=getD_map (f:=GRow.pv) hx
    have k1:(i:Int)<(l.length:Int):=by omega
    have hcl:=cloneA_run x.attrs (hal x (List.mem_of_getElem? hx)) [] n
    generalize hU:upAt l (i+1)=u at hu hle
    have hst:st0 l (i+1)=nodeOf x:=by simp [st0,hx]
    have hpush:rowsAV (i+1) (st0 l) av++[[.p (.bool true),.p (.int .i64 u),.nils,.p (.str x.tag),.p (.str x.key),.p (.str x.text),.p (.list (x.attrs.map Attr.pv))]]=rowsAV (i+1+1) (st0 l) (upd av (i+1) .nils):=by
      have:=rowsAV_push (N:=i+1) (st:=st0 l) (av:=av) (nodeOf x) .nils
      simp only [nodeAV,nodeOf,hu] at this
      rw [this]
      refine rowsAV_congr fun k hk=>⟨?_,rfl⟩
      by_cases e:k=i+1
      · subst e;rw [upd_at,hst,nodeOf,hu]
      · rw [upd_ne e]
    have hM:=h2.push
    have len1:(rowsAV (i+1) (st0 l) av).length=i+1:=rowsAV_len
    have len2:(rowsAV (i+1+1) (st0 l) (upd av (i+1) .nils)).length=i+1+1:=rowsAV_len
    have hgu:(rowsAV (i+1+1) (st0 l) (upd av (i+1) .nils)).getD u []=nodeAV (st0 l u) (upd av (i+1) .nils u):=rowsAV_get (by omega)
    have hkd:∀ h,h<i+1+1→upd (upd (kd0 l i) (i+1) []) u (upd (kd0 l i) (i+1) [] u++[(i:Int)+1]) h=kd0 l (i+1) h:=by
      intro h hh
      have hnew:upd (kd0 l i) (i+1) [] h=kd0 l i h:=by
        by_cases e:h=i+1
        · subst e;rw [upd_at,kd0_new (hs.mono (by omega)) (by omega)]
        · rw [upd_ne e]
      rw [kd0_succ hx,hu]
      by_cases e:h=u
      · subst e
        rw [upd_at,hnew,if_pos rfl]
      · rw [upd_ne e,hnew,if_neg (by omega)]
    have hset:∀ a,(rowsAV (i+1+1) (st0 l) (upd av (i+1) .nils)).set u [.p (.bool (st0 l u).live),.p (.int .i64 (st0 l u).up),a,.p (.str (st0 l u).tag),.p (.str (st0 l u).key),.p (.str (st0 l u).text),.p (.list ((st0 l u).attrs.map Attr.pv))]=rowsAV (i+1+1) (st0 l) (upd (upd av (i+1) .nils) u a):=by
      intro a
      have:=rowsAV_set (N:=i+1+1) (st:=st0 l) (av:=upd av (i+1) .nils) (h:=u) (by omega) (st0 l u) a
      simp only [nodeAV] at this
      rw [this]
      refine rowsAV_congr fun k hk=>⟨?_,rfl⟩
      by_cases e:k=u
      · subst e;rw [upd_at]
      · rw [upd_ne e]
    have hK:=hM.kids u (by omega)
    generalize hav:upd av (i+1) .nils u=a at hK hgu
    generalize hks:upd (kd0 l i) (i+1) [] u=ks at hK hkd
    simp only [nodeAV] at hgu
    have hle2:(u:Int)<(i:Int)+1+1:=by omega
    have hkl:ks.length≤1048576:=by
      rw [← hks]
      by_cases e:u=i+1
      · rw [e,upd_at];simp
      · rw [upd_ne e]
        simp only [kd0,List.length_map]
        have:=List.length_filter_le (fun k=>((l[k]?).map (fun x=>x.up==(u:Int))).getD false) (List.range i)
        simp only [List.length_range] at this
        omega
    rcases hK.inv with ⟨rfl,rfl⟩ | ⟨r,rfl,hr⟩ | rfl
    · refine ⟨(i+1,upd (upd av (i+1) .nils) u (.own true (rest.length+1+1) 1),rest++[.pcells 1 [[.int .i64 ((i:Int)+1)]]]), ?_,⟨by omega, ?_, ?_⟩,by simp only;omega⟩
      · have hsl:∀ o o':AObj,(rest++[o]).set rest.length o'=rest++[o']:=fun o o'=>by simp [List.set_append]
        simp only [newS,machG]
        simp -implicitDefEqProofs (disch:=omega) only [Rx,simprocAttr,B15x0,k1,hg,GRow.pv,attrsPV,hcl,hpush,len1,len2,hgu,hset,hu,hle2,hsl]
      · have:=hM.fresh (u:=u) (by omega) [(i:Int)+1]
        simp only [List.length_singleton,intsPV,List.map_cons,List.map_nil] at this
        refine ⟨fun h hh => ?_,this.disj⟩
        have q:=this.kids h hh
        rw [← hkd h hh]
        simpa [hks] using q
      · intro h hh ks
        by_cases e:h=u
        · subst e;simp [upd]
        · simp only
          rw [upd_ne e]
          by_cases e':h=i+1
          · subst e';simp [upd]
          · rw [upd_ne e'];exact h3 h (by omega) ks
    · have hrl:r<rest.length:=(List.getElem?_eq_some_iff.1 hr).1
      refine ⟨(i+1,upd (upd av (i+1) .nils) u (.own true (r+1+1) (ks.length+1)),rest.set r (.pcells 1 (intsPV ks++[[.int .i64 ((i:Int)+1)]]))), ?_,⟨by omega, ?_, ?_⟩,by simp only;omega⟩
      · simp only [newS,machG]
        have il:=intsPV_len ks
        simp -implicitDefEqProofs (disch:=omega) only [Rx,simprocAttr,B15x0,k1,hg,GRow.pv,attrsPV,hcl,hpush,len1,len2,hgu,hset,hu,hle2,hr,il,List.length_append]
      · have:=hM.turn (u:=u) (r:=r) (by omega) (by rw [hav,hks]) hrl (ks++[(i:Int)+1])
        simp only [List.length_append,List.length_singleton, ← intsPV_snoc] at this
        refine ⟨fun h hh => ?_,this.disj⟩
        have q:=this.kids h hh
        rw [← hkd h hh]
        exact q
      · intro h hh ks
        by_cases e:h=u
        · subst e;simp [upd]
        · simp only
          rw [upd_ne e]
          by_cases e':h=i+1
          · subst e';simp [upd]
          · rw [upd_ne e'];exact h3 h (by omega) ks
    · exfalso
      by_cases e:u=i+1
      · rw [e,upd_at] at hav;cases hav
      · rw [upd_ne e] at hav;exact h3 u (by omega) _ hav
  · right
    obtain rfl:i=l.length:=by omega
    have k1:¬ (l.length:Int)<(l.length:Int):=by omega
    refine ⟨_, ?_, ?_,av,rest,rfl,h2,h3⟩
    · simp only [newS]
      simp -implicitDefEqProofs (disch:=omega) only [Rx,simprocAttr,B15x0,k1]
    · simp
theorem new_run (l:List GRow) {m:Nat} (hl:Rows.mid m l) (hm:m≤1048577) (h:check13 l=0) {n:Nat} (hn:1048577<n) :
  ∃ av rest,acall T (n+l.length+44) 15 [.p (.list (l.map GRow.pv))] []=some (.tuple [.ptr true 1 1 1 0 0,.p (.int .i64 0)],machG (l.length+1) (st0 l) av rest)∧MOk (l.length+1) av (kd0 l l.length) rest∧∀ h,h<l.length+1→∀ ks,av h ≠ .p ks:=by
 have hlen:=hl.len
 have hfc:=flatCheckE_mid l hl hm hn []
 rw [h] at hfc
 have hs:standTo l l.length:=formed_stands (check13_ok h).1
 obtain ⟨r,hr,av,rest,rfl,hok,hpp⟩:=new_loop (n:=n+l.length+42) (N:=n+l.length+43) l (by omega) (fun x hx=>by have:=(hl.row x hx).attrs;omega) hs (by omega)
 refine ⟨av,rest, ?_,hok,hpp⟩
 rw [acall_code T15,run_code rfl rfl]
 have h0:rowsAV 1 (st0 l) (fun _=>AV.nils)=[nodeAV holder .nils]:=rfl
 simp only [newS,machG,Nat.zero_add,Int.natCast_zero,h0,nodeAV,holder,List.map_nil] at hr ⊢
 simp -implicitDefEqProofs (disch:=omega) only [Rx,simprocAttr,F15,hfc,hr]
end Go.TA.Tryz


end
section
/- Rows that are not right: no machine. -/
namespace Go.TA.Tryz
theorem newE_run (l:List GRow) {m:Nat} (hl:Rows.mid m l) (hm:m≤1048577) (h:check13 l≠0) {n:Nat} (hn:1048577<n) :
  acall T (n+l.length+44) 15 [.p (.list (l.map GRow.pv))] []=some (.tuple [.p .nilp,.p (.int .i64 (check13 l))],[]):=by
 have hfc:=flatCheckE_mid l hl hm hn []
 have e1:(check13 l==0)=false:=by simpa using h
 rw [acall_code T15,run_code rfl rfl]
 generalize check13 l=e at hfc e1 ⊢
 simp -implicitDefEqProofs (disch:=omega) only [Rx,simprocAttr,F15,hfc,e1]
end Go.TA.Tryz


end
section
/- The document's answer: a node is put elsewhere below the same one. -/
namespace Go.TA.Tryz
section
variable {R:Nat} {S:MS} {nx:Int} {av:Nat→AV} {p q:Nat} {g:List AObj}
theorem moveD_run (hS : S.Ok R) (hD : DM (liveL S) S.st S.kd nx av p q g) (hL : (liveL S).length ≤ 4194304) (id b : Int) {n : Nat} (hn : (liveL S).length < n) :
    ∃ av' g',acall T (n+4) 139 [DP p,.p (.int .i64 id),.p (.int .i64 b)] g=some (.p (.int .i64 (moveD S id b).1),g')∧DM (liveL (moveD S id b).2) (moveD S id b).2.st (moveD S id b).2.kd nx av' p q g'∧DFr (liveL S) av p q g (liveL (moveD S id b).2) av' q g':=by
  obtain ⟨o,ho,hrep⟩:=hD.core.row
  have hob:=hD.core.obj
  have hix:=fun s i=>hrep.idx rowsD_len s true q i
  have hno:=noneD_run hD.core hL id (n:=n+1) (by omega)
  have hat:=fun id=>at_run hD.core hL id (n:=n+2) (by omega)
  unfold moveD
  by_cases hf:fitE S id≠0
  · rw [if_pos hf]
    have e1:(fitE S id==0)=false:=by simpa using hf
    refine ⟨av,g, ?_,hD,DFr.refl _ _ _ _ _⟩
    rw [acall_code T139,run_code rfl rfl]
    generalize fitE S id=e at hno e1 ⊢
    simp -implicitDefEqProofs (disch:=omega) only [Rx,simprocAttr,F139,hno,e1]
  rw [if_neg hf]
  obtain ⟨c,rfl,hcL,hc0⟩:=fit_live hf
  simp only [ne_eq,Decidable.not_not] at hf
  rw [hf] at hno
  have hat3:=hat b
  by_cases hl:liveB S b=false
  · rw [if_pos hl]
    refine ⟨av,g, ?_,hD,DFr.refl _ _ _ _ _⟩
    rw [posL_dead hl] at hat3
    rw [acall_code T139,run_code rfl rfl]
    simp -implicitDefEqProofs (disch:=omega) only [Rx,simprocAttr,F139,hno,hat3]
  rw [if_neg hl]
  simp only [Bool.not_eq_false] at hl
  obtain ⟨w,rfl,hwL⟩:=live_liveL hl
  obtain ⟨ic,hpc,hic⟩:=posL_in hcL
  obtain ⟨iw,hpw,hiw⟩:=posL_in hwL
  have hat1:=hat (c:Int)
  rw [hpc] at hat1
  rw [hpw] at hat3
  have lc:=(List.getElem?_eq_some_iff.1 hic).1
  have lw:=(List.getElem?_eq_some_iff.1 hiw).1
  have kc:(ic:Int)<((liveL S).length:Int):=by omega
  have kw:(iw:Int)<((liveL S).length:Int):=by omega
  have kw0:¬ (iw:Int)<0:=by omega
  have rdc:=rd_node hrep hic (j:=1) (by omega)
  have rdw:=rd_node hrep hiw (j:=1) (by omega)
  simp only [nAV] at rdc rdw
  have uo:upOf S (c:Int)=(S.st c).up:=rfl
  have ub:upOf S (w:Int)=(S.st w).up:=rfl
  rw [uo,ub]
  simp only [Int.toNat_natCast]
  obtain ⟨hcN,hcl⟩:=mem_liveL.1 hcL
  obtain ⟨hwN,hwl⟩:=mem_liveL.1 hwL
  by_cases h16:(S.st c).up<0
  · rw [if_pos h16]
    refine ⟨av,g, ?_,hD,DFr.refl _ _ _ _ _⟩
    rw [acall_code T139,run_code rfl rfl]
    simp -implicitDefEqProofs (disch:=omega) only [Rx,simprocAttr,F139,hno,hat1,hat3,kw0,hob,ho,hix,rdc,h16]
  rw [if_neg h16]
  obtain ⟨u,hu,huN,hul,hkid⟩:=hS.up_nat hcN (by omega)
  rw [hu] at h16 rdc ⊢
  by_cases e0:(w:Int)=(c:Int)
  · rw [if_pos (.inl e0)]
    have q1:((w:Int)==(c:Int))=true:=by simpa using e0
    refine ⟨av,g, ?_,hD,DFr.refl _ _ _ _ _⟩
    rw [acall_code T139,run_code rfl rfl]
    simp -implicitDefEqProofs (disch:=omega) only [Rx,simprocAttr,F139,hno,hat1,hat3,kw0,hob,ho,hix,rdc,h16,q1]
  have q1:((w:Int)==(c:Int))=false:=by simpa using e0
  by_cases h18:(w:Int)≠0∧(S.st w).up≠(u:Int)
  · rw [if_pos (.inr h18)]
    refine ⟨av,g, ?_,hD,DFr.refl _ _ _ _ _⟩
    have e1:((w:Int)==0)=false:=by simpa using h18.1
    have e2:((S.st w).up==(u:Int))=false:=by simpa using h18.2
    rw [acall_code T139,run_code rfl rfl]
    simp -implicitDefEqProofs (disch:=omega) only [Rx,simprocAttr,F139,hno,hat1,hat3,kw0,hob,ho,hix,rdc,rdw,h16,q1,e1,e2]
  rw [if_neg (fun h=>h.elim e0 h18)]
  simp only [Int.toNat_natCast]
  have huL:u ∈ liveL S:=mem_liveL.2 ⟨huN,hul⟩
  obtain ⟨iu,hpu,hiu⟩:=posL_in huL
  have hat2:=hat (u:Int)
  rw [hpu] at hat2
  have lu:=(List.getElem?_eq_some_iff.1 hiu).1
  have ku:(iu:Int)<((liveL S).length:Int):=by omega
  have hkl:=kd_len hS huN
  have hK:=hD.kids u huL
  generalize hl1:(S.kd u).filter (fun k => !(k==(c:Int)))=l1
  have hl1n:l1.length≤(S.kd u).length:=by rw [← hl1];exact List.length_filter_le _ _
  have hbk:(w:Int)=0∨(w:Int) ∈ l1:=by
    by_cases e:(w:Int)=0
    · exact .inl e
    · right
      by_cases e2:(S.st w).up=(u:Int)
      · rw [← hl1,List.mem_filter]
        exact ⟨kid_in hS hwN e2,by simp;omega⟩
      · exact absurd ⟨e,e2⟩ h18
  have hks:=inL_insI (l:=l1) (h:=(c:Int)) (by rw [← hl1];exact (hS.nodup u huN).filter _) (by rw [← hl1];exact fun h=>zero_kid hS huN (List.mem_filter.1 h).1) hbk
  have hout:=out_run (S.kd u) (c:Int) (by omega) [] (n:=n+2) (by omega)
  rw [hl1] at hout
  have hin:=in_run l1 (c:Int) (w:Int) (by omega) [] (n:=n+2) (by omega)
  rw [hks] at hin
  have hD1:=hD.core.kill (hD.away u huL).1 (hD.away u huL).2
  obtain ⟨o1,hk1,hr1⟩:=kidsF_run hD1 hL huL (intsPV (insI l1 (c:Int) (w:Int))) (n:=n+1) (by omega)
  have hD2:=hD.fix huL (insI l1 (c:Int) (w:Int)) hr1
  have hF2:=DFr.fix hD huL (intsPV (insI l1 (c:Int) (w:Int))) o1
  have htk:takeM S c=⟨S.N,upd S.st c { S.st c with up := -1 },upd S.kd u l1⟩:=by
    unfold takeM
    rw [if_neg (by omega),hu,Int.toNat_natCast,hl1]
  have hlive:liveL (placeM (takeM S c) c u (w:Int))=liveL S:=liveL_congr (by rw [htk];rfl) (fun k=>by
    rw [htk]
    simp only [placeM]
    by_cases e:k=c
    · subst e;rw [upd_at,upd_at]
    · rw [upd_ne e,upd_ne e])
  refine ⟨_,_, ?_,by
    rw [hlive]
    refine hD2.congr fun k hk=>⟨?_, ?_⟩
    · rw [htk]
      simp only [placeM]
      by_cases e:k=c
      · subst e;rw [upd_at,upd_at, ← hu]
      · rw [upd_ne e,upd_ne e]
    · rw [htk]
      simp only [placeM,upd_at]
      by_cases e:k=u
      · subst e;rw [upd_at,upd_at]
      · rw [upd_ne e,upd_ne e,upd_ne e],by rw [hlive];exact hF2⟩
  have rdu:=rd_node hrep hiu (j:=2) (by omega)
  simp only [nAV] at rdu
  generalize insI l1 (c:Int) (w:Int)=ks' at hin hk1
  have hfz:=hK.frz
  generalize killG g (av u)=g1 at hk1 hfz
  generalize av u=au at rdu hfz
  rw [acall_code T139,run_code rfl rfl]
  by_cases e:(w:Int)=0
  · have e1:((w:Int)==0)=true:=by simpa using e
    simp -implicitDefEqProofs (disch:=omega) only [Rx,simprocAttr,F139,hno,hat1,hat2,hat3,kw0,hob,ho,hix,rdc,rdu,h16,q1,e1,hout,hin,hk1,hfz]
  · have e1:((w:Int)==0)=false:=by simpa using e
    have e2:((S.st w).up==(u:Int))=true:=by
      by_cases e2:(S.st w).up=(u:Int)
      · simpa using e2
      · exact absurd ⟨e,e2⟩ h18
    simp -implicitDefEqProofs (disch:=omega) only [Rx,simprocAttr,F139,hno,hat1,hat2,hat3,kw0,hob,ho,hix,rdc,rdw,rdu,h16,q1,e1,e2,hout,hin,hk1,hfz]
end
end Go.TA.Tryz


end
