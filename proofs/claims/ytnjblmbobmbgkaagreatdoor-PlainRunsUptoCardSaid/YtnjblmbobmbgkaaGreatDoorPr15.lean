/- Part 15 of 15 of a proof; joined from PrsFlatE, PrsPNew, PrsRunsNew, PrsFew, PrsFewR, PrsRunsNil, PrsRDo, PrsRDo2, PrsRRun, PrsSame27, PrsRunsLaw, PrsRunsFin. The law PlainRuns, for every input of bulk at most 1048576: the call returns true, and nothing that was there has changed. -/
import Derived.Test.YtnjblmbobmbgkaaGreatDoorPr1
import Derived.Test.YtnjblmbobmbgkaaGreatDoorPr14
import Derived.Test.YtnjblmbobmbgkaaGreatDoorPr6
import Derived.Test.YtnjblmbobmbgkaaGreatDoorPr11
import Derived.Test.YtnjblmbobmbgkaaGreatDoorPr12
import Derived.Test.YtnjblmbobmbgkaaGreatDoorPr13
import Derived.Test.YtnjblmbobmbgkaaGreatDoorCards
import Derived.Test.YtnjblmbobmbgkaaGreatDoorTie
import Derived.WalkKit
import Derived.ProofKit
import Derived.OpenShut
import Derived.JoinedCond
import Derived.Deep.DeepHandedRow
import Derived.Lib.LaidTab
set_option linter.unusedSimpArgs false
set_option linter.unusedVariables false
section
/- What the program finds wrong with rows is what the document's answer finds wrong. -/
set_option maxRecDepth 100000
set_option maxHeartbeats 1600000
namespace Go.TA.Tryz
theorem upAt_take {l:List GRow} {m x:Nat} (hx:x<m):upAt (l.take m) (x+1)=upAt l (x+1):=by
 simp only [upAt,Nat.add_sub_cancel]
 rw [List.getElem?_take,if_pos hx]
theorem anc_take {l:List GRow} (hs:standTo l l.length) {m:Nat}:∀ (f x:Nat),x≤m→anc (l.take m) f x=anc l f x
  | 0,_,_=>rfl
  | _+1,0,_=>rfl
  | f + 1, x + 1, hx => by
    simp only [anc,upAt_take (l:=l) (show x<m by omega)]
    congr 1
    refine anc_take hs f _ ?_
    by_cases h:x<l.length
    · have:=upAt_le hs h h
      omega
    · have:upAt l (x+1)=0:=by simp [upAt,List.getElem?_eq_none (show l.length≤x by omega)]
      omega
theorem chain_take {l:List GRow} (hs:standTo l l.length) {m x:Nat} (hx:x≤m):chain (l.take m) x=chain l x:=anc_take hs x x hx
theorem get_take {l:List GRow} {m j:Nat} {x:GRow} (h:(l.take m)[j]? = some x):j<m∧l[j]? = some x:=by
 rw [List.getElem?_take] at h
 split at h
 ·rename_i hj;exact ⟨hj,h⟩
 ·cases h
theorem sound_take {l:List GRow} (hs:sound l) (m:Nat):sound (l.take m):=by
 refine ⟨fun j x hj hx=>hs.1 j x ?_ (get_take hx).2,fun j x hx => ?_⟩
 ·exact (List.getElem?_eq_some_iff.1 (get_take hx).2).1
 ·obtain ⟨hj,hx⟩:=get_take hx
  rcases hs.2 j x hx with h | ⟨h1,y,hy,hyu⟩
  ·exact .inl h
  ·exact .inr ⟨h1,y,by rw [chain_take hs.1 (by omega)];exact hy,hyu⟩
theorem rowErr_take {l:List GRow} (hs:standTo l l.length) {m i:Nat} (hi:i<m) (x:GRow):rowErr (l.take m) i x=rowErr l i x:=by
 unfold rowErr dupB
 rw [chain_take hs (show i+1≤m by omega),List.take_take,show min i m=i by omega]
theorem errR_take {l:List GRow} (hs:standTo l l.length) {m:Nat}:∀ (d a b:Nat),b - a≤d→b≤m→b≤l.length→errR (l.take m) a b=errR l a b
  | 0, a, b, hd, hb, hl => by
    have h1:∀ k:List GRow,(k.take b).drop a=[]:=fun k=>List.drop_eq_nil_of_le (by rw [List.length_take];omega)
    simp only [errR,h1];rfl
  | d + 1, a, b, hd, hb, hl => by
    by_cases h:a<b
    · obtain ⟨x,hx⟩:=get_some (show a<l.length by omega)
      have hx':(l.take m)[a]? = some x:=by rw [List.getElem?_take,if_pos (by omega)];exact hx
      rw [errR_cons hx h,errR_cons hx' h,rowErr_take hs (by omega),errR_take hs d (a+1) b (by omega) hb hl]
    · have h1:∀ k:List GRow,(k.take b).drop a=[]:=fun k=>List.drop_eq_nil_of_le (by rw [List.length_take];omega)
      simp only [errR,h1];rfl
theorem end_one {l:List GRow} (hs:sound l) (h0:0<l.length):endOf l 1=l.length:=by
 have he:=endOf_le (l:=l) (h:=1) (by omega)
 rcases Nat.lt_or_ge (endOf l 1) l.length with hlt | hge
 ·obtain ⟨x,hx⟩:=get_some hlt
  have a1:=endOf_at (h:=1) (by omega) hx
  rcases hs.2 _ x hx with ⟨h1,_⟩ | ⟨_,y,hy,hyu⟩
  ·omega
  ·have:=chain_pos hy
   omega
 ·omega
theorem checkE_run (l:List GRow) (hl:l.length≤1048576) (hs:standTo l l.length) (hal:∀ x ∈ l,x.attrs.length≤1048577) {b:Nat} {p:List PV} (hbt:BT l 0 b p) {n:Nat} (hn:1048577<n) (g:List AObj) :
  ∃ m deep,acall T (n+l.length+40) 119 [.p (.agg p)] g=some (.p (.agg [.int .i64 m,.int .i64 deep,.int .i64 (errR l 0 b)]),g):=by
 have hlt:=hbt.lt
 have hbt':=hbt
 cases hbt with
 | mk hx hks=>
 rename_i x ks
 obtain ⟨r,hr,hse⟩:=visE_run l hl hs hal l.length n 0 b (nodeCells x ks) x [] 0 0 [.map []] (by omega) hn hbt' hx rfl ⟨fun e he=>by simp at he,fun e he=>by simp at he,fun j y hj=>by omega⟩
 have hc:=chain_one hs hx
 rcases hse with ⟨he,deep,ms',es,rfl,_,_,_,_⟩ | ⟨he,m,deep,ms',rfl⟩
 ·refine ⟨b,deep, ?_⟩
  rw [he,acall_code T119,run_pure rfl rfl rfl]
  simp only [Nat.zero_add,hc,List.length_singleton,Int.natCast_one,Int.natCast_zero,LK,VK,pL,pV,nodeCells] at hr
  simp only [nodeCells]
  simp -implicitDefEqProofs (disch:=omega) only [Rx,simprocAttr,F119,hr]
 ·refine ⟨m,deep, ?_⟩
  rw [acall_code T119,run_pure rfl rfl rfl]
  generalize errR l 0 b=e at hr
  simp only [Nat.zero_add,hc,List.length_singleton,Int.natCast_one,Int.natCast_zero,LK,LKE,VK,pL,pV,nodeCells] at hr
  simp only [nodeCells]
  simp -implicitDefEqProofs (disch:=omega) only [Rx,simprocAttr,F119,hr]
theorem vcheckE_run (l:List GRow) (hl:l.length≤1048576) (hs:standTo l l.length) (hal:∀ x ∈ l,x.attrs.length≤1048577) {b:Nat} {p:List PV} (hbt:BT l 0 b p) {n:Nat} (hn:1048577<n) (g:List AObj) :
  ∃ m,acall T (n+l.length+41) 98 [.p (.agg p)] g=some (.tuple [.p (.int .i64 m),.p (.int .i64 (errR l 0 b))],g):=by
 obtain ⟨m,deep,hr⟩:=checkE_run l hl hs hal hbt hn []
 cases hbt with
 | mk hx hks=>
 rename_i x ks
 simp only [nodeCells] at hr
 by_cases he:errR l 0 b=0
 ·refine ⟨0, ?_⟩
  rw [he] at hr ⊢
  rw [acall_code T98,run_pure rfl rfl rfl]
  simp only [nodeCells]
  simp -implicitDefEqProofs (disch:=omega) only [Rx,simprocAttr,F98,hr]
 ·refine ⟨m, ?_⟩
  have e1:(errR l 0 b==0)=false:=by simpa using he
  generalize errR l 0 b=e at hr e1
  rw [acall_code T98,run_pure rfl rfl rfl]
  simp only [nodeCells]
  simp -implicitDefEqProofs (disch:=omega) only [Rx,simprocAttr,F98,hr,e1]
def deepAt (l:List GRow) (i:Nat):Prop:=64<(chain l (i+1)).length
theorem deepE_run (l : List GRow) (hs : standTo l l.length) (hl : l.length ≤ 1048576) (g : List AObj) {n : Nat} (hn : l.length < n) :
    ∃ d:Bool,acall T (n+1) 95 [.p (.list (l.map GRow.pv))] g=some (.p (.bool d),g)∧(d=true↔(∃ i,i<l.length∧deepAt l i)∨4096<l.length):=by
  have key:=loop_inv (C:=acall T n) (N:=n) (B:=B95x0) (σ := Nat) (S:=fun i=>⟨[(0,.p (.list (l.map GRow.pv))),(3,.own false 9 (l.length+1)),(10,.p (.list (l.map GRow.pv))),(11,.p (.int .i64 l.length)),(12,.p (.int .i64 i))],[(9,.pcells 1 (depths l i))],[]⟩) (I:=fun i=>i≤l.length∧∀ j,j<i→¬ deepAt l j) (μ := fun i=>l.length - i)
    (Q:=fun r=>(r=(.ret,⟨[(2,.p (.bool true))],[],[]⟩)∧∃ i,i<l.length∧deepAt l i)∨(r=(.exit 0,⟨[(0,.p (.list (l.map GRow.pv)))],[],[]⟩)∧∀ j,j<l.length→¬ deepAt l j)) ?_ 0 ⟨by omega,fun j hj=>by omega⟩ (by omega)
  · obtain ⟨r,hr,hq⟩:=key
    have k2:((l.length:Int)+1).toNat=l.length+1:=by omega
    have hz:=depths_zero l
    simp only [Int.natCast_zero] at hr
    rcases hq with ⟨rfl,hd⟩ | ⟨rfl,hd⟩
    · refine ⟨true, ?_,by simp [hd]⟩
      rw [acall_code T95,run_pure rfl rfl rfl]
      simp -implicitDefEqProofs (disch:=omega) only [Rx,simprocAttr,F95,k2,hz,hr]
    · by_cases h4:4096<l.length
      · refine ⟨true, ?_,by simp [h4]⟩
        have k1:(4096:Int)<(l.length:Int):=by omega
        rw [acall_code T95,run_pure rfl rfl rfl]
        simp -implicitDefEqProofs (disch:=omega) only [Rx,simprocAttr,F95,k1,k2,hz,hr]
      · refine ⟨false, ?_, ?_⟩
        · have k1:¬ (4096:Int)<(l.length:Int):=by omega
          rw [acall_code T95,run_pure rfl rfl rfl]
          simp -implicitDefEqProofs (disch:=omega) only [Rx,simprocAttr,F95,k1,k2,hz,hr]
        · simp only [Bool.false_eq_true,false_iff,not_or]
          exact ⟨fun ⟨i,h1,h2⟩=>hd i h1 h2,h4⟩
  rintro i ⟨hi,hnd⟩
  by_cases h:i<l.length
  · have k1:(i:Int)<(l.length:Int):=by omega
    obtain ⟨x,hx,hu⟩:=up_val hs (Nat.le_refl _) h
    have hg:=getD_map (f:=GRow.pv) hx
    have hle:=upAt_le hs h h
    have hc:=chain_succ hs (Nat.le_refl _) h
    have hcl:=chain_len hs (upAt l (i+1)) (upAt l (i+1)) (Nat.le_refl _) (by omega)
    have dl:=depths_len l i
    have g1:(depths l i).getD (upAt l (i+1)) []=[.int .i64 ((chain l (upAt l (i+1))).length:Int)]:=by rw [depths_get l (by omega),if_pos (by omega)]
    have s1:(depths l i).set (i+1) [.int .i64 (((chain l (upAt l (i+1))).length:Int)+1)]=depths l (i+1):=by
      rw [← depths_set l h,hc,List.length_cons];push_cast;rfl
    have g2:(depths l (i+1)).getD (i+1) []=[.int .i64 (((chain l (upAt l (i+1))).length:Int)+1)]:=by rw [depths_get l (by omega),if_pos (by omega),hc,List.length_cons];push_cast;rfl
    have g3:(depths l i).getD (i+1) []=[.int .i64 0]:=by rw [depths_get l (by omega),if_neg (by omega)]
    have k5:((i:Int)+1).toNat=i+1:=by omega
    have dl2:=depths_len l (i+1)
    by_cases hdp:deepAt l i
    · right
      have k2:(64:Int)<((chain l (upAt l (i+1))).length:Int)+1:=by
        unfold deepAt at hdp
        rw [hc,List.length_cons] at hdp
        omega
      refine ⟨_, ?_, ?_,.inl ⟨rfl,i,h,hdp⟩⟩
      · simp -implicitDefEqProofs (disch:=omega) only [Rx,simprocAttr,B95x0,k1,hg,GRow.pv,hu,dl,dl2,g1,g2,g3,s1,k2,k5]
      · simp
    · left
      have k2:¬ (64:Int)<((chain l (upAt l (i+1))).length:Int)+1:=by
        unfold deepAt at hdp
        rw [hc,List.length_cons] at hdp
        omega
      refine ⟨i+1, ?_,⟨by omega,fun j hj => ?_⟩,by omega⟩
      · simp -implicitDefEqProofs (disch:=omega) only [Rx,simprocAttr,B95x0,k1,hg,GRow.pv,hu,dl,dl2,g1,g2,g3,s1,k2,k5]
      · by_cases e:j=i
        · subst e;exact hdp
        · exact hnd j (by omega)
  · right
    obtain rfl:i=l.length:=by omega
    have k1:¬ (l.length:Int)<(l.length:Int):=by omega
    refine ⟨_, ?_, ?_,.inr ⟨rfl,hnd⟩⟩
    · simp -implicitDefEqProofs (disch:=omega) only [Rx,simprocAttr,B95x0,k1]
    · simp
theorem cutE_run (l : List GRow) (hs : standTo l l.length) (hl : l.length ≤ 1048576) (hd : (∃ i, i < l.length ∧ deepAt l i) ∨ 4096 < l.length) (g : List AObj) {n : Nat} (hn : l.length < n) :
    ∃ k,k<l.length∧(deepAt l k∨k=4096)∧acall T (n+1) 96 [.p (.list (l.map GRow.pv))] g=some (.p (.list ((l.take (k+1)).map GRow.pv)),g):=by
  have key:=loop_inv (C:=acall T n) (N:=n) (B:=B96x0) (σ := Nat) (S:=fun i=>⟨[(0,.p (.list (l.map GRow.pv))),(3,.own false 9 (l.length+1)),(10,.p (.list (l.map GRow.pv))),(11,.p (.int .i64 l.length)),(12,.p (.int .i64 i))],[(9,.pcells 1 (depths l i))],[]⟩) (I:=fun i=>i≤l.length∧∀ j,j<i→¬ deepAt l j∧j≠4096) (μ := fun i=>l.length - i)
    (Q:=fun r=>∃ k,k<l.length∧(deepAt l k∨k=4096)∧r=(.ret,⟨[(2,.p (.list ((l.take (k+1)).map GRow.pv)))],[],[]⟩)) ?_ 0 ⟨by omega,fun j hj=>by omega⟩ (by omega)
  · obtain ⟨r,hr,k,h1,h2,rfl⟩:=key
    have k2:((l.length:Int)+1).toNat=l.length+1:=by omega
    have hz:=depths_zero l
    simp only [Int.natCast_zero] at hr
    refine ⟨k,h1,h2, ?_⟩
    rw [acall_code T96,run_pure rfl rfl rfl]
    simp -implicitDefEqProofs (disch:=omega) only [Rx,simprocAttr,F96,k2,hz,hr]
  rintro i ⟨hi,hnd⟩
  by_cases h:i<l.length
  · have k1:(i:Int)<(l.length:Int):=by omega
    obtain ⟨x,hx,hu⟩:=up_val hs (Nat.le_refl _) h
    have hg:=getD_map (f:=GRow.pv) hx
    have hle:=upAt_le hs h h
    have hc:=chain_succ hs (Nat.le_refl _) h
    have hcl:=chain_len hs (upAt l (i+1)) (upAt l (i+1)) (Nat.le_refl _) (by omega)
    have dl:=depths_len l i
    have g1:(depths l i).getD (upAt l (i+1)) []=[.int .i64 ((chain l (upAt l (i+1))).length:Int)]:=by rw [depths_get l (by omega),if_pos (by omega)]
    have s1:(depths l i).set (i+1) [.int .i64 (((chain l (upAt l (i+1))).length:Int)+1)]=depths l (i+1):=by
      rw [← depths_set l h,hc,List.length_cons];push_cast;rfl
    have g2:(depths l (i+1)).getD (i+1) []=[.int .i64 (((chain l (upAt l (i+1))).length:Int)+1)]:=by rw [depths_get l (by omega),if_pos (by omega),hc,List.length_cons];push_cast;rfl
    have g3:(depths l i).getD (i+1) []=[.int .i64 0]:=by rw [depths_get l (by omega),if_neg (by omega)]
    have k5:((i:Int)+1).toNat=i+1:=by omega
    have dl2:=depths_len l (i+1)
    have ll:(l.map GRow.pv).length=l.length:=by simp
    have k6:(i:Int)+1≤(l.length:Int):=by omega
    have htk:((l.map GRow.pv).take (i+1)).drop 0=(l.take (i+1)).map GRow.pv:=by rw [List.drop_zero,List.map_take]
    have htk2:(l.map GRow.pv).take (i+1)=(l.take (i+1)).map GRow.pv:=by rw [List.map_take]
    have k0:(0:Int).toNat=0:=rfl
    by_cases hdp:deepAt l i
    · right
      have k2:(64:Int)<((chain l (upAt l (i+1))).length:Int)+1:=by
        unfold deepAt at hdp
        rw [hc,List.length_cons] at hdp
        omega
      refine ⟨_, ?_, ?_,i,h,.inl hdp,rfl⟩
      · simp -implicitDefEqProofs (disch:=omega) only [Rx,simprocAttr,B96x0,k1,hg,GRow.pv,hu,dl,dl2,g1,g2,g3,s1,k2,k5,k6,k0,ll,htk2,bound]
      · simp
    · have k2:¬ (64:Int)<((chain l (upAt l (i+1))).length:Int)+1:=by
        unfold deepAt at hdp
        rw [hc,List.length_cons] at hdp
        omega
      by_cases h4:i=4096
      · right
        have e4:((i:Int)==4096)=true:=by simp;omega
        refine ⟨_, ?_, ?_,i,h,.inr h4,rfl⟩
        · simp -implicitDefEqProofs (disch:=omega) only [Rx,simprocAttr,B96x0,k1,hg,GRow.pv,hu,dl,dl2,g1,g2,g3,s1,k2,k5,k6,k0,e4,ll,htk2,bound]
        · simp
      · left
        have e4:((i:Int)==4096)=false:=by simp;omega
        refine ⟨i+1, ?_,⟨by omega,fun j hj => ?_⟩,by omega⟩
        · simp -implicitDefEqProofs (disch:=omega) only [Rx,simprocAttr,B96x0,k1,hg,GRow.pv,hu,dl,dl2,g1,g2,g3,s1,k2,k5,e4]
        · by_cases e:j=i
          · subst e;exact ⟨hdp,h4⟩
          · exact hnd j (by omega)
  · exfalso
    rcases hd with ⟨j,hj,hdj⟩ | hd
    · exact (hnd j (by omega)).1 hdj
    · exact (hnd 4096 (by omega)).2 rfl
theorem stop_err {l:List GRow} {k:Nat} {x:GRow} (hk:deepAt l k∨k=4096):rowErr l k x≠0:=by
 unfold rowErr deepAt at *
 split
 ·omega
 ·rename_i h
  rcases hk with hk | hk
  ·rw [if_pos hk];omega
  ·exact absurd hk h
theorem five {p:List PV} (h:p.length=5):∃ c1 c2 c3 c4 c5,p=[c1,c2,c3,c4,c5]:=by
 match p,h with
 | [c1,c2,c3,c4,c5],_=>exact ⟨c1,c2,c3,c4,c5,rfl⟩
theorem treeE_run (l : List GRow) (hl : l.length ≤ 1048576) (hne : l ≠ []) (hf : formedB l = true) (hal : ∀ x ∈ l, x.attrs.length ≤ 1048577) {n : Nat} (hn : 1048577 < n) (g : List AObj) :
    ∃ p,(∃ c1 c2 c3 c4 c5,p=[c1,c2,c3,c4,c5])∧acall T (n+l.length+42) 61 [.p (.list (l.map GRow.pv))] g=some (.tuple [.p (.agg p),.p (.int .i64 (errFrom l 0 l))],g):=by
  have hso:=formed_sound hf
  have hs:=hso.1
  have hlen:0<l.length:=List.length_pos_iff.2 hne
  have hfr:=formP_run l hl [] (n:=n+l.length+40) (by omega)
  rw [hf] at hfr
  obtain ⟨d,hdr,hdi⟩:=deepE_run l hs hl [] (n:=n+l.length+40) (by omega)
  have k0:((l.length:Int)==0)=false:=by simp;omega
  have tree:∀ l':List GRow,sound l'→l'.length≤l.length→0<l'.length→(∀ x ∈ l',x.attrs.length≤1048577)→∃ c1 c2 c3 c4 c5 m,acall T (n+l.length+41) 97 [.p (.list (l'.map GRow.pv)),.p (.int .i64 0)] []=some (.tuple [.p (.agg [c1,c2,c3,c4,c5]),.p (.int .i64 l'.length)],[])∧acall T (n+l.length+41) 98 [.p (.agg [c1,c2,c3,c4,c5])] []=some (.tuple [.p (.int .i64 m),.p (.int .i64 (errR l' 0 l'.length))],[]):=by
    intro l' hs' hl' h0' hal'
    obtain ⟨b,p,hbt,hbe,hb⟩:=buildE_run l' (by omega) hs' hal' l'.length 0 (n+l.length+38 - l'.length) h0' (by omega)
    have hb:=hb []
    rw [show n+l.length+38 - l'.length+l'.length+3=n+l.length+41 by omega] at hb
    obtain ⟨m,hv⟩:=vcheckE_run l' (by omega) hs'.1 hal' hbt (n:=n+l.length - l'.length) (by omega) []
    rw [show n+l.length - l'.length+l'.length+41=n+l.length+41 by omega] at hv
    have hpl:=hbt.len
    have hbl:b=l'.length:=by rw [hbe];exact end_one hs' h0'
    rw [hbl] at hb hv
    have hp5:=five hpl
    clear hbt hpl hbe hbl
    obtain ⟨c1,c2,c3,c4,c5,hp5⟩:=hp5
    rw [hp5] at hb hv
    clear hp5
    have key:=And.intro hb hv
    exact Exists.intro c1 (Exists.intro c2 (Exists.intro c3 (Exists.intro c4 (Exists.intro c5 (Exists.intro m key)))))
  have fin:∀ l':List GRow,(d=true→acall T (n+l.length+41) 96 [.p (.list (l.map GRow.pv))] []=some (.p (.list (l'.map GRow.pv)),[]))→(d=false→l'=l)→sound l'→l'.length≤l.length→0<l'.length→(∀ x ∈ l',x.attrs.length≤1048577)→errR l' 0 l'.length=errFrom l 0 l →
      ∃ p,(∃ c1 c2 c3 c4 c5,p=[c1,c2,c3,c4,c5])∧acall T (n+l.length+42) 61 [.p (.list (l.map GRow.pv))] g=some (.tuple [.p (.agg p),.p (.int .i64 (errFrom l 0 l))],g):=by
    intro l' hcut hd0 hs' hl' h0' hal' hee
    obtain ⟨c1,c2,c3,c4,c5,m,hb,hv⟩:=tree l' hs' hl' h0' hal'
    rw [hee] at hv
    have ll:(l.map GRow.pv).length=l.length:=by simp
    by_cases he:errFrom l 0 l=0
    · rw [he] at hv ⊢
      refine ⟨[c1,c2,c3,c4,c5],⟨_,_,_,_,_,rfl⟩, ?_⟩
      rw [acall_code T61,run_pure rfl rfl rfl]
      cases d with
      | true =>
        have hc:=hcut rfl
        simp -implicitDefEqProofs (disch:=omega) only [Rx,simprocAttr,F61,k0,ll,hfr,hdr,hc,hb,hv]
      | false =>
        rw [hd0 rfl] at hb
        simp -implicitDefEqProofs (disch:=omega) only [Rx,simprocAttr,F61,k0,ll,hfr,hdr,hb,hv]
    · have e1:(errFrom l 0 l==0)=false:=by simpa using he
      refine ⟨[.str [],.str [],.str [],.list [],.list []],⟨_,_,_,_,_,rfl⟩, ?_⟩
      generalize errFrom l 0 l=e at hv e1 ⊢
      rw [acall_code T61,run_pure rfl rfl rfl]
      cases d with
      | true =>
        have hc:=hcut rfl
        simp -implicitDefEqProofs (disch:=omega) only [Rx,simprocAttr,F61,k0,ll,hfr,hdr,hc,hb,hv,e1]
      | false =>
        rw [hd0 rfl] at hb
        simp -implicitDefEqProofs (disch:=omega) only [Rx,simprocAttr,F61,k0,ll,hfr,hdr,hb,hv,e1]
  by_cases hdt:d=true
  · obtain ⟨k,hk1,hk2,hcut⟩:=cutE_run l hs hl (hdi.1 hdt) [] (n:=n+l.length+40) (by omega)
    have htl:(l.take (k+1)).length=k+1:=by rw [List.length_take];omega
    obtain ⟨x,hx⟩:=get_some hk1
    have h1:=errR_split (l:=l) k (a:=0) (m:=k) (b:=k+1) (by omega) (by omega) (by omega)
    have h2:=errR_cons hx (show k<k+1 by omega)
    rw [if_neg (stop_err hk2)] at h2
    have hne2:errR l 0 (k+1)≠0:=by
      rw [h1]
      split
      · rw [h2];exact stop_err hk2
      · assumption
    have h3:=errR_split (l:=l) (k+1) (a:=0) (m:=k+1) (b:=l.length) (by omega) (by omega) (Nat.le_refl _)
    rw [if_neg hne2] at h3
    refine fin (l.take (k+1)) (fun _ => ?_) (fun h=>absurd hdt (by rw [h];simp)) (sound_take hso _) (by omega) (by omega) (fun x hx=>hal x (List.mem_of_mem_take hx)) ?_
    · exact hcut
    · rw [htl,errR_take hs (k+1) 0 (k+1) (by omega) (Nat.le_refl _) (by omega), ← h3,errR_all]
  · have hd0:d=false:=by simpa using hdt
    exact fin l (fun h=>absurd h hdt) (fun _=>rfl) hso (Nat.le_refl _) hlen hal errR_all
theorem flatCheckE_run (l:List GRow) {m:Nat} (hl:Rows.small m l) (hm:m≤1048577) {n:Nat} (hn:1048577<n) (g:List AObj):acall T (n+l.length+43) 36 [.p (.list (l.map GRow.pv))] g=some (.p (.int .i64 (check13 l)),g):=by
 have hlen:=hl.len
 by_cases hne:l=[]
 ·subst hne
  have e:check13 []=0:=rfl
  rw [e,acall_code T36,run_pure rfl rfl rfl]
  simp -implicitDefEqProofs (disch:=omega) only [Rx,simprocAttr,F36,Int.natCast_zero]
 have hlen0:0<l.length:=List.length_pos_iff.2 hne
 have k0:((l.length:Int)==0)=false:=by simp;omega
 by_cases hf:formedB l=true
 ·obtain ⟨p,hp,hr⟩:=treeE_run l (by omega) hne hf (fun x hx=>by have:=(hl.row x hx).attrs;omega) hn []
  have e:check13 l=errFrom l 0 l:=by rw [check13,if_pos hf]
  obtain ⟨c1,c2,c3,c4,c5,rfl⟩:=hp
  rw [e,acall_code T36,run_pure rfl rfl rfl]
  simp -implicitDefEqProofs (disch:=omega) only [Rx,simprocAttr,F36,k0,hr]
 ·have e:check13 l=2:=by rw [check13,if_neg hf]
  have hfr:=formP_run l (by omega) [] (n:=n+l.length+40) (by omega)
  simp only [Bool.not_eq_true] at hf
  rw [hf] at hfr
  have hr:acall T (n+l.length+42) 61 [.p (.list (l.map GRow.pv))] []=some (.tuple [.p (.agg [.str [],.str [],.str [],.list [],.list []]),.p (.int .i64 2)],[]):=by
   have ll:(l.map GRow.pv).length=l.length:=by simp
   rw [acall_code T61,run_pure rfl rfl rfl]
   simp -implicitDefEqProofs (disch:=omega) only [Rx,simprocAttr,F61,k0,ll,hfr]
  rw [e,acall_code T36,run_pure rfl rfl rfl]
  simp -implicitDefEqProofs (disch:=omega) only [Rx,simprocAttr,F36,k0,hr]
end Go.TA.Tryz


end
section
/- The machine of rows that are right. -/
set_option maxRecDepth 100000
set_option maxHeartbeats 8000000
namespace Go.TA.Tryz
def newS (l:List GRow) (i:Nat) (av:Nat→AV) (rest:List AObj):St:=⟨[(5,.ptr true 1 1 1 0 0),(17,.p (.list (l.map GRow.pv))),(18,.p (.int .i64 l.length)),(19,.p (.int .i64 i))],[],machG (i+1) (st0 l) av rest⟩
theorem new_loop {n N : Nat} (l : List GRow) (hl : l.length ≤ 1048576) (hal : ∀ x ∈ l, x.attrs.length ≤ 1048577) (hs : standTo l l.length) (hN : l.length < N) :
    ∃ r,aexec (acall T (n+1)) N (.loop B12x0) (newS l 0 (fun _ => .nils) [])=some r∧∃ av rest,r=(.exit 0,⟨[(5,.ptr true 1 1 1 0 0)],[],machG (l.length+1) (st0 l) av rest⟩)∧MOk (l.length+1) av (kd0 l l.length) rest∧∀ h,h<l.length+1→∀ ks,av h ≠ .p ks:=by
  refine loop_inv (σ := Nat × (Nat→AV) × List AObj) (S:=fun s=>newS l s.1 s.2.1 s.2.2) (I:=fun s=>s.1≤l.length∧MOk (s.1+1) s.2.1 (kd0 l s.1) s.2.2∧∀ h,h<s.1+1→∀ ks,s.2.1 h ≠ .p ks) (μ := fun s=>l.length - s.1)
    (Q:=fun r=>∃ av rest,r=(.exit 0,⟨[(5,.ptr true 1 1 1 0 0)],[],machG (l.length+1) (st0 l) av rest⟩)∧MOk (l.length+1) av (kd0 l l.length) rest∧∀ h,h<l.length+1→∀ ks,av h ≠ .p ks) ?_ (0,(fun _ => .nils),[]) ⟨by omega,⟨fun h _ => .none,fun _ _ _ _ _ => .inl rfl⟩,fun h _ ks=>by simp⟩ (by simp only;omega)
  rintro ⟨i,av,rest⟩ ⟨h1,h2,h3⟩
  simp only at h1 h2 h3 ⊢
  by_cases hi:i<l.length
  · left
    obtain ⟨x,hx,hu⟩:=up_val hs (Nat.le_refl _) hi
    have hle:=upAt_le hs hi hi
    have hg:=getD_map (f:=GRow.pv) hx
    have k1:(i:Int)<(l.length:Int):=by omega
    have hcl:=cloneA_run x.attrs (hal x (List.mem_of_getElem? hx)) [] n
    generalize hU:upAt l (i+1)=u at hu hle
    have hst:st0 l (i+1)=nodeOf x:=by simp [st0,hx]
    have hpush:rowsAV (i+1) (st0 l) av++[[.p (.bool true),.p (.int .i64 u),.nils,.p (.str x.tag),.p (.str x.key),.p (.str x.text),.p (.list (x.attrs.map Attr.pv))]]=rowsAV (i+1+1) (st0 l) (upd av (i+1) .nils):=by
      have:=rowsAV_push (N:=i+1) (st:=st0 l) (av:=av) (nodeOf x) .nils
      simp only [nodeAV,nodeOf,hu] at this
      rw [this]
      refine rowsAV_congr fun k hk=>⟨?_,rfl⟩
      by_cases e:k=i+1
      · subst e;rw [upd_at,hst,nodeOf,hu]
      · rw [upd_ne e]
    have hM:=h2.push
    have len1:(rowsAV (i+1) (st0 l) av).length=i+1:=rowsAV_len
    have len2:(rowsAV (i+1+1) (st0 l) (upd av (i+1) .nils)).length=i+1+1:=rowsAV_len
    have hgu:(rowsAV (i+1+1) (st0 l) (upd av (i+1) .nils)).getD u []=nodeAV (st0 l u) (upd av (i+1) .nils u):=rowsAV_get (by omega)
    have hkd:∀ h,h<i+1+1→upd (upd (kd0 l i) (i+1) []) u (upd (kd0 l i) (i+1) [] u++[(i:Int)+1]) h=kd0 l (i+1) h:=by
      intro h hh
      have hnew:upd (kd0 l i) (i+1) [] h=kd0 l i h:=by
        by_cases e:h=i+1
        · subst e;rw [upd_at,kd0_new (hs.mono (by omega)) (by omega)]
        · rw [upd_ne e]
      rw [kd0_succ hx,hu]
      by_cases e:h=u
      · subst e
        rw [upd_at,hnew,if_pos rfl]
      · rw [upd_ne e,hnew,if_neg (by omega)]
    have hset:∀ a,(rowsAV (i+1+1) (st0 l) (upd av (i+1) .nils)).set u [.p (.bool (st0 l u).live),.p (.int .i64 (st0 l u).up),a,.p (.str (st0 l u).tag),.p (.str (st0 l u).key),.p (.str (st0 l u).text),.p (.list ((st0 l u).attrs.map Attr.pv))]=rowsAV (i+1+1) (st0 l) (upd (upd av (i+1) .nils) u a):=by
      intro a
      have:=rowsAV_set (N:=i+1+1) (st:=st0 l) (av:=upd av (i+1) .nils) (h:=u) (by omega) (st0 l u) a
      simp only [nodeAV] at this
      rw [this]
      refine rowsAV_congr fun k hk=>⟨?_,rfl⟩
      by_cases e:k=u
      · subst e;rw [upd_at]
      · rw [upd_ne e]
    have hK:=hM.kids u (by omega)
    generalize hav:upd av (i+1) .nils u=a at hK hgu
    generalize hks:upd (kd0 l i) (i+1) [] u=ks at hK hkd
    simp only [nodeAV] at hgu
    have hle2:(u:Int)<(i:Int)+1+1:=by omega
    have hkl:ks.length≤1048576:=by
      rw [← hks]
      by_cases e:u=i+1
      · rw [e,upd_at];simp
      · rw [upd_ne e]
        simp only [kd0,List.length_map]
        have:=List.length_filter_le (fun k=>((l[k]?).map (fun x=>x.up==(u:Int))).getD false) (List.range i)
        simp only [List.length_range] at this
        omega
    rcases hK.inv with ⟨rfl,rfl⟩ | ⟨r,rfl,hr⟩ | rfl
    · refine ⟨(i+1,upd (upd av (i+1) .nils) u (.own true (rest.length+1+1) 1),rest++[.pcells 1 [[.int .i64 ((i:Int)+1)]]]), ?_,⟨by omega, ?_, ?_⟩,by simp only;omega⟩
      · have hsl:∀ o o':AObj,(rest++[o]).set rest.length o'=rest++[o']:=fun o o'=>by simp [List.set_append]
        simp only [newS,machG]
        simp -implicitDefEqProofs (disch:=omega) only [Rx,simprocAttr,B12x0,k1,hg,GRow.pv,attrsPV,hcl,hpush,len1,len2,hgu,hset,hu,hle2,hsl]
      · have:=hM.fresh (u:=u) (by omega) [(i:Int)+1]
        simp only [List.length_singleton,intsPV,List.map_cons,List.map_nil] at this
        refine ⟨fun h hh => ?_,this.disj⟩
        have q:=this.kids h hh
        rw [← hkd h hh]
        simpa [hks] using q
      · intro h hh ks
        by_cases e:h=u
        · subst e;simp [upd]
        · simp only
          rw [upd_ne e]
          by_cases e':h=i+1
          · subst e';simp [upd]
          · rw [upd_ne e'];exact h3 h (by omega) ks
    · have hrl:r<rest.length:=(List.getElem?_eq_some_iff.1 hr).1
      refine ⟨(i+1,upd (upd av (i+1) .nils) u (.own true (r+1+1) (ks.length+1)),rest.set r (.pcells 1 (intsPV ks++[[.int .i64 ((i:Int)+1)]]))), ?_,⟨by omega, ?_, ?_⟩,by simp only;omega⟩
      · simp only [newS,machG]
        have il:=intsPV_len ks
        simp -implicitDefEqProofs (disch:=omega) only [Rx,simprocAttr,B12x0,k1,hg,GRow.pv,attrsPV,hcl,hpush,len1,len2,hgu,hset,hu,hle2,hr,il,List.length_append]
      · have:=hM.turn (u:=u) (r:=r) (by omega) (by rw [hav,hks]) hrl (ks++[(i:Int)+1])
        simp only [List.length_append,List.length_singleton, ← intsPV_snoc] at this
        refine ⟨fun h hh => ?_,this.disj⟩
        have q:=this.kids h hh
        rw [← hkd h hh]
        exact q
      · intro h hh ks
        by_cases e:h=u
        · subst e;simp [upd]
        · simp only
          rw [upd_ne e]
          by_cases e':h=i+1
          · subst e';simp [upd]
          · rw [upd_ne e'];exact h3 h (by omega) ks
    · exfalso
      by_cases e:u=i+1
      · rw [e,upd_at] at hav;cases hav
      · rw [upd_ne e] at hav;exact h3 u (by omega) _ hav
  · right
    obtain rfl:i=l.length:=by omega
    have k1:¬ (l.length:Int)<(l.length:Int):=by omega
    refine ⟨_, ?_, ?_,av,rest,rfl,h2,h3⟩
    · simp only [newS]
      simp -implicitDefEqProofs (disch:=omega) only [Rx,simprocAttr,B12x0,k1]
    · simp
theorem new_run (l:List GRow) {m:Nat} (hl:Rows.small m l) (hm:m≤1048577) (h:check13 l=0) {n:Nat} (hn:1048577<n) :
  ∃ av rest,acall T (n+l.length+44) 12 [.p (.list (l.map GRow.pv))] []=some (.tuple [.ptr true 1 1 1 0 0,.p (.int .i64 0)],machG (l.length+1) (st0 l) av rest)∧MOk (l.length+1) av (kd0 l l.length) rest∧∀ h,h<l.length+1→∀ ks,av h ≠ .p ks:=by
 have hlen:=hl.len
 have hfc:=flatCheck_ok l hl hm h hn []
 have hs:standTo l l.length:=formed_stands (check13_ok h).1
 obtain ⟨r,hr,av,rest,rfl,hok,hpp⟩:=new_loop (n:=n+l.length+42) (N:=n+l.length+43) l (by omega) (fun x hx=>by have:=(hl.row x hx).attrs;omega) hs (by omega)
 refine ⟨av,rest, ?_,hok,hpp⟩
 rw [acall_code T12,run_code rfl rfl]
 have h0:rowsAV 1 (st0 l) (fun _=>AV.nils)=[nodeAV holder .nils]:=rfl
 simp only [newS,machG,Nat.zero_add,Int.natCast_zero,h0,nodeAV,holder,List.map_nil] at hr ⊢
 simp -implicitDefEqProofs (disch:=omega) only [Rx,simprocAttr,F12,hfc,hr]
end Go.TA.Tryz


end
section
/- Rows that are not right: no machine. -/
set_option maxRecDepth 100000
set_option maxHeartbeats 8000000
namespace Go.TA.Tryz
theorem newE_run (l:List GRow) {m:Nat} (hl:Rows.small m l) (hm:m≤1048577) (h:check13 l≠0) {n:Nat} (hn:1048577<n) :
  acall T (n+l.length+44) 12 [.p (.list (l.map GRow.pv))] []=some (.tuple [.p .nilp,.p (.int .i64 (check13 l))],[]):=by
 have hfc:=flatCheckE_run l hl hm hn []
 have e1:(check13 l==0)=false:=by simpa using h
 rw [acall_code T12,run_code rfl rfl]
 generalize check13 l=e at hfc e1 ⊢
 simp -implicitDefEqProofs (disch:=omega) only [Rx,simprocAttr,F12,hfc,e1]
end Go.TA.Tryz


end
section
/- The guard of most laws: whether operations are few. -/
set_option maxRecDepth 100000
set_option maxHeartbeats 1000000
namespace Go.TA.Tryz
theorem attr_get {l:List Attr} {i:Nat} {a:Attr} (h:l[i]? = some a):(l.map Attr.pv).getD i []=[.str a.name,.str a.value]:=by
 rw [List.getD_eq_getElem?_getD,List.getElem?_map,h];rfl
theorem few_attr {C:Calls'} {N:Nat} (x:GOp) (p0 p11 p12:PV) (g:List AObj) (i:Nat) (a:Attr) (left:Int) (h:x.attrs[i]? = some a) (hb:x.attrs.length≤1048576) (ha:a.value.length+a.name.length≤1048576) (hl : -4611686018427387904≤left) (hl2:left≤4611686018427387904) :
  aexec C N B10x1 ⟨[(0,.p p0),(5,.p (.int .i64 left)),(7,.ptr false 7 9 1 0 0),(11,.p p11),(12,.p p12),(46,.p (.int .i64 x.attrs.length)),(47,.p (.int .i64 i))],[(7,.pcells 9 [x.pv])],g⟩ =
   some (.normal,⟨[(0,.p p0),(5,.p (.int .i64 (left - ((a.value.length:Int)+a.name.length).tdiv 4096))),(7,.ptr false 7 9 1 0 0),(11,.p p11),(12,.p p12),(46,.p (.int .i64 x.attrs.length)),(47,.p (.int .i64 (i+1)))],[(7,.pcells 9 [x.pv])],g⟩):=by
 have hlt:i<x.attrs.length:=(List.getElem?_eq_some_iff.1 h).1
 have h1:(i:Int)<(x.attrs.length:Int):=by omega
 have h2:=attr_get h
 have q:0≤((a.value.length:Int)+(a.name.length:Int)).tdiv 4096∧((a.value.length:Int)+(a.name.length:Int)).tdiv 4096≤1048576:=by
  rw [Int.tdiv_eq_ediv_of_nonneg (by omega)];omega
 generalize hq:((a.value.length:Int)+(a.name.length:Int)).tdiv 4096=d at q ⊢
 obtain ⟨w1,w2,w3,w4⟩:IntKind.i64.wrap ((a.value.length:Int)+(a.name.length:Int))=(a.value.length:Int)+(a.name.length:Int)∧IntKind.i64.wrap d=d∧IntKind.i64.wrap (left - d)=left - d∧IntKind.i64.wrap ((i:Int)+1)=(i:Int)+1 :=
  ⟨wrap_id (by omega) (by omega),wrap_id (by omega) (by omega),wrap_id (by omega) (by omega),wrap_id (by omega) (by omega)⟩
 simp -implicitDefEqProofs (disch:=omega) only [Rx,simprocAttr,B10x1,h1,h2,GOp.pv,attrsPV,w1,hq,w2,w3,w4]
theorem few_attr_end {C:Calls'} {N:Nat} (x:GOp) (p0 p11 p12:PV) (g:List AObj) (left:Int) :
  aexec C N B10x1 ⟨[(0,.p p0),(5,.p (.int .i64 left)),(7,.ptr false 7 9 1 0 0),(11,.p p11),(12,.p p12),(46,.p (.int .i64 x.attrs.length)),(47,.p (.int .i64 x.attrs.length))],[(7,.pcells 9 [x.pv])],g⟩ =
   some (.exit 2,⟨[(0,.p p0),(5,.p (.int .i64 left)),(11,.p p11),(12,.p p12)],[],g⟩):=by
 have h1:¬ ((x.attrs.length:Int)<(x.attrs.length:Int)):=by omega
 simp -implicitDefEqProofs (disch:=omega) only [Rx,simprocAttr,B10x1,h1]
def smallAttrs (l:List Attr):Prop:=∀ a ∈ l,a.value.length+a.name.length≤1048576
theorem few_attrs {C:Calls'} {N:Nat} (x:GOp) (p0 p11 p12:PV) (g:List AObj) (hb:x.attrs.length≤1048576) (hs:smallAttrs x.attrs) (rest:List Attr):∀ (pre:List Attr) (m:Nat) (left:Int),x.attrs=pre++rest→rest.length<m →
    -4611686018427387904+1048576*(rest.length:Int)≤left→left≤4611686018427387904 →
    aloop C N B10x1 m ⟨[(0,.p p0),(5,.p (.int .i64 left)),(7,.ptr false 7 9 1 0 0),(11,.p p11),(12,.p p12),(46,.p (.int .i64 x.attrs.length)),(47,.p (.int .i64 pre.length))],[(7,.pcells 9 [x.pv])],g⟩ =
      some (.exit 2,⟨[(0,.p p0),(5,.p (.int .i64 (attrsLeft rest left))),(11,.p p11),(12,.p p12)],[],g⟩):=by
  induction rest with
  | nil =>
    intro pre m left hd hm h1 h2
    obtain ⟨m,rfl⟩:∃ k,m=k+1:=⟨m - 1,by simp at hm;omega⟩
    have e:pre.length=x.attrs.length:=by rw [hd];simp
    rw [e,aloop_succ,few_attr_end,bl_exit];rfl
  | cons a rest ih =>
    intro pre m left hd hm h1 h2
    obtain ⟨m,rfl⟩:∃ k,m=k+1:=⟨m - 1,by simp at hm;omega⟩
    have hget:x.attrs[pre.length]? = some a:=by rw [hd];simp
    have hmem:a ∈ x.attrs:=List.mem_of_getElem? hget
    simp only [List.length_cons,Int.natCast_add,Int.natCast_one] at hm h1
    have q:0≤((a.value.length:Int)+(a.name.length:Int)).tdiv 4096∧((a.value.length:Int)+(a.name.length:Int)).tdiv 4096≤1048576:=by
      have:=hs a hmem
      rw [Int.tdiv_eq_ediv_of_nonneg (by omega)];omega
    rw [aloop_succ,few_attr x p0 p11 p12 g pre.length a left hget hb (hs a hmem) (by omega) h2,bl_normal]
    have:=ih (pre++[a]) m (left - ((a.value.length:Int)+a.name.length).tdiv 4096) (by rw [hd];simp) (by omega) (by omega) (by omega)
    rw [List.length_append,Int.natCast_add] at this
    exact this
theorem few_attrs0 {C:Calls'} {N:Nat} (x:GOp) (p0 p11 p12:PV) (g:List AObj) (hb:x.attrs.length≤1048576) (hs:smallAttrs x.attrs) (hN:x.attrs.length<N) {left:Int} (h1 : -4611686018427387904+1048576*(x.attrs.length:Int)≤left) (h2:left≤4611686018427387904) :
  aexec C N (.loop B10x1) ⟨[(0,.p p0),(5,.p (.int .i64 left)),(7,.ptr false 7 9 1 0 0),(11,.p p11),(12,.p p12),(46,.p (.int .i64 x.attrs.length)),(47,.p (.int .i64 0))],[(7,.pcells 9 [x.pv])],g⟩ =
   some (.exit 2,⟨[(0,.p p0),(5,.p (.int .i64 (attrsLeft x.attrs left))),(11,.p p11),(12,.p p12)],[],g⟩):=by
 rw [aexec_loop]
 exact few_attrs x p0 p11 p12 g hb hs x.attrs [] N left rfl hN h1 h2
def smallOp (x:GOp):Prop:=x.attrs.length≤1048576∧smallAttrs x.attrs∧x.text.length+x.key.length+x.tag.length+x.name.length≤1048576
theorem smallOp_of {x:GOp} {n:Nat} (h:bulkL x.pv≤n) (hn:n≤1048576):smallOp x∧x.attrs.length<n:=by
 rw [bulk_op] at h
 obtain ⟨h1,h2⟩:=bulk_attrs x.attrs
 refine ⟨⟨by omega,fun a ha=>by have:=h1 a ha;omega,by omega⟩,by omega⟩
theorem attrsLeft_boundF (l:List Attr) (hs:smallAttrs l):∀ left:Int,left - 1048576*(l.length:Int)≤attrsLeft l left∧attrsLeft l left≤left:=by
  induction l with
  | nil=>intro left;simp [attrsLeft]
  | cons a l ih =>
    intro left
    have ha:=hs a (by simp)
    have q:0≤((a.value.length:Int)+(a.name.length:Int)).tdiv 4096∧((a.value.length:Int)+(a.name.length:Int)).tdiv 4096≤1048576:=by
      rw [Int.tdiv_eq_ediv_of_nonneg (by omega)];omega
    obtain ⟨z1,z2⟩:=ih (fun b hb=>hs b (by simp [hb])) (left - ((a.value.length:Int)+a.name.length).tdiv 4096)
    simp only [attrsLeft,List.length_cons,Int.natCast_add,Int.natCast_one]
    constructor <;> omega
theorem op_get {l:List GOp} {i:Nat} {x:GOp} (h:l[i]? = some x):(l.map GOp.pv).getD i []=x.pv:=by
 rw [List.getD_eq_getElem?_getD,List.getElem?_map,h];rfl
def fewCost (x:GOp):Int:=((x.text.length:Int)+x.key.length+x.tag.length+x.name.length).tdiv 4096
theorem fewCost_bound {x:GOp} (h:smallOp x):0≤fewCost x∧fewCost x≤1048576:=by
 have:=h.2.2
 unfold fewCost
 rw [Int.tdiv_eq_ediv_of_nonneg (by omega)];omega
theorem few_op {C:Calls'} {N:Nat} (l:List GOp) (g:List AObj) (i:Nat) (x:GOp) (left:Int) (h:l[i]? = some x) (hx:smallOp x) (hN:x.attrs.length<N) (hlen:l.length≤1048576) (hl : -1099511627776≤left) (hl2:left≤1099511627776) :
  aexec C N B10x0 ⟨[(0,.p (.list (l.map GOp.pv))),(5,.p (.int .i64 left)),(11,.p (.int .i64 l.length)),(12,.p (.int .i64 i))],[],g⟩ =
   if left - 1 - x.attrs.length - fewCost x<0 then some (.ret,⟨[(4,.p (.bool false))],[],g⟩) else
   some (.normal,⟨[(0,.p (.list (l.map GOp.pv))),(5,.p (.int .i64 (attrsLeft x.attrs (left - 1 - x.attrs.length - fewCost x)))),(11,.p (.int .i64 l.length)),(12,.p (.int .i64 (i+1)))],[],g⟩):=by
 have hlt:i<l.length:=(List.getElem?_eq_some_iff.1 h).1
 have h1:(i:Int)<(l.length:Int):=by omega
 have h2:=op_get h
 obtain ⟨b1,b2,b3⟩:=hx
 have q:=fewCost_bound (x:=x) ⟨b1,b2,b3⟩
 have hq:((x.text.length:Int)+x.key.length+x.tag.length+x.name.length).tdiv 4096=fewCost x:=rfl
 generalize fewCost x=d at q hq ⊢
 obtain ⟨w1,w2,w3,w4,w5,w6,w7,w8⟩:IntKind.i64.wrap ((x.text.length:Int)+x.key.length)=(x.text.length:Int)+x.key.length∧IntKind.i64.wrap ((x.text.length:Int)+x.key.length+x.tag.length)=(x.text.length:Int)+x.key.length+x.tag.length ∧
   IntKind.i64.wrap ((x.text.length:Int)+x.key.length+x.tag.length+x.name.length)=(x.text.length:Int)+x.key.length+x.tag.length+x.name.length∧IntKind.i64.wrap d=d∧IntKind.i64.wrap (left - 1)=left - 1 ∧
   IntKind.i64.wrap (left - 1 - x.attrs.length)=left - 1 - x.attrs.length∧IntKind.i64.wrap (left - 1 - x.attrs.length - d)=left - 1 - x.attrs.length - d∧IntKind.i64.wrap ((i:Int)+1)=(i:Int)+1 :=
  ⟨wrap_id (by omega) (by omega),wrap_id (by omega) (by omega),wrap_id (by omega) (by omega),wrap_id (by omega) (by omega),wrap_id (by omega) (by omega),wrap_id (by omega) (by omega),wrap_id (by omega) (by omega),wrap_id (by omega) (by omega)⟩
 have hloop:=few_attrs0 (C:=C) (N:=N) x (.list (l.map GOp.pv)) (.int .i64 l.length) (.int .i64 i) g b1 b2 hN (left:=left - 1 - x.attrs.length - d) (by omega) (by omega)
 by_cases hneg:left - 1 - x.attrs.length - d<0
 ·simp -implicitDefEqProofs (disch:=omega) only [Rx,simprocAttr,B10x0,h1,h2,GOp.pv,attrsPV,w1,hq,w2,w3,w4,w5,w6,w7,hneg]
 ·simp only [GOp.pv,attrsPV] at hloop
  simp -implicitDefEqProofs (disch:=omega) only [Rx,simprocAttr,B10x0,h1,h2,GOp.pv,attrsPV,w1,hq,w2,w3,w4,w5,w6,w7,w8,hneg,hloop]
def fewEnd (r:Option Int) (l:PV) (n:Int) (g:List AObj):Ex × St:=match r with
 | none=>(.ret,⟨[(4,.p (.bool false))],[],g⟩)
 | some left=>(.exit 0,⟨[(5,.p (.int .i64 left))],[],g⟩)
theorem few_op_end {C:Calls'} {N:Nat} (l:List GOp) (g:List AObj) (left:Int) :
  aexec C N B10x0 ⟨[(0,.p (.list (l.map GOp.pv))),(5,.p (.int .i64 left)),(11,.p (.int .i64 l.length)),(12,.p (.int .i64 l.length))],[],g⟩=some (.exit 0,⟨[(5,.p (.int .i64 left))],[],g⟩):=by
 have h1:¬ ((l.length:Int)<(l.length:Int)):=by omega
 simp -implicitDefEqProofs (disch:=omega) only [Rx,simprocAttr,B10x0,h1]
theorem few_ops {C:Calls'} {N:Nat} (l:List GOp) (g:List AObj) (hs:∀ x ∈ l,smallOp x∧x.attrs.length<N) (hlen:l.length≤1048576) (rest:List GOp):∀ (pre:List GOp) (m:Nat) (left:Int),l=pre++rest→rest.length<m→(pre≠[]→0≤left+1099511627776) → -1099511627776≤left→left≤1000000 →
    aloop C N B10x0 m ⟨[(0,.p (.list (l.map GOp.pv))),(5,.p (.int .i64 left)),(11,.p (.int .i64 l.length)),(12,.p (.int .i64 pre.length))],[],g⟩=some (fewEnd (fewOpsL rest left) (.list (l.map GOp.pv)) l.length g):=by
  induction rest with
  | nil =>
    intro pre m left hd hm _ h1 h2
    obtain ⟨m,rfl⟩:∃ k,m=k+1:=⟨m - 1,by simp at hm;omega⟩
    have e:pre.length=l.length:=by rw [hd];simp
    rw [e,aloop_succ,few_op_end,bl_exit];rfl
  | cons x rest ih =>
    intro pre m left hd hm _ h1 h2
    obtain ⟨m,rfl⟩:∃ k,m=k+1:=⟨m - 1,by simp at hm;omega⟩
    have hget:l[pre.length]? = some x:=by rw [hd];simp
    have hmem:x ∈ l:=List.mem_of_getElem? hget
    obtain ⟨hx,hN⟩:=hs x hmem
    rw [aloop_succ,few_op l g pre.length x left hget hx hN hlen (by omega) (by omega)]
    have hc:fewOpsL (x::rest) left=if left - 1 - x.attrs.length - fewCost x<0 then none else fewOpsL rest (attrsLeft x.attrs (left - 1 - x.attrs.length - fewCost x)):=rfl
    rw [hc]
    have q:=fewCost_bound hx
    by_cases hneg:left - 1 - x.attrs.length - fewCost x<0
    · rw [if_pos hneg,if_pos hneg,bl_ret];rfl
    · rw [if_neg hneg,if_neg hneg,bl_normal]
      have hb:=attrsLeft_boundF x.attrs hx.2.1 (left - 1 - x.attrs.length - fewCost x)
      have hb2:(x.attrs.length:Int)≤1000000:=by omega
      simp only [List.length_cons] at hm
      have:=ih (pre++[x]) m (attrsLeft x.attrs (left - 1 - x.attrs.length - fewCost x)) (by rw [hd];simp) (by omega) (by omega) (by omega) (by omega)
      rw [List.length_append,Int.natCast_add] at this
      exact this
theorem few_run (l:List GOp) (most:Int) (g:List AObj) {n:Nat} (hs:∀ x ∈ l,smallOp x∧x.attrs.length<n) (hlen:l.length≤1048576) (hn:l.length<n) (h1:0≤most) (h2:most≤1000000) :
    acall T (n+1) 10 [.p (.list (l.map GOp.pv)),.p (.int .i64 most)] g=some (.p (.bool (fewOps l most)),g):=by
  rw [acall_code T10,run_pure rfl rfl rfl]
  have hloop:=few_ops (C:=acall T n) (N:=n) l [] hs hlen l [] n most rfl hn (by simp) (by omega) (by omega)
  rw [← aexec_loop] at hloop
  cases hr:fewOpsL l most with
  | none =>
    rw [hr] at hloop
    simp -implicitDefEqProofs only [F10,fewEnd,List.length_nil,Int.natCast_zero] at hloop ⊢
    simp -implicitDefEqProofs (disch:=omega) only [Rx,simprocAttr,hloop,fewOps,hr]
  | some left =>
    rw [hr] at hloop
    simp -implicitDefEqProofs only [F10,fewEnd,List.length_nil,Int.natCast_zero] at hloop ⊢
    simp -implicitDefEqProofs (disch:=omega) only [Rx,simprocAttr,hloop,fewOps,hr]
end Go.TA.Tryz


end
section
/- The other guard of most laws: whether rows are few. -/
set_option maxRecDepth 100000
set_option maxHeartbeats 1000000
namespace Go.TA.Tryz
def rowCost (x:GRow):Int:=((x.text.length:Int)+x.key.length+x.tag.length).tdiv 4096
def fewRowsL:List GRow→Int→Option Int
 | [],left=>some left
 | x::l,left=>if left - 1 - x.attrs.length - rowCost x<0 then none else fewRowsL l (attrsLeft x.attrs (left - 1 - x.attrs.length - rowCost x))
def fewRows (l:List GRow) (most:Int):Bool:=match fewRowsL l most with
 | some n=>decide (n ≥ 0)
 | none=>false
theorem tdiv_bound {x:Int} (h:0≤x) (h2:x≤2097152):0≤x.tdiv 4096∧x.tdiv 4096≤1048576:=by
 rw [Int.tdiv_eq_ediv_of_nonneg h];omega
theorem attrsLeft_bound (l:List Attr) (hs:smallAttrs l):∀ left:Int,left - 1048576*(l.length:Int)≤attrsLeft l left∧attrsLeft l left≤left:=by
  induction l with
  | nil=>intro left;simp [attrsLeft]
  | cons a l ih =>
    intro left
    have ha:=hs a (by simp)
    have q:=tdiv_bound (x:=(a.value.length:Int)+(a.name.length:Int)) (by omega) (by omega)
    obtain ⟨z1,z2⟩:=ih (fun b hb=>hs b (by simp [hb])) (left - ((a.value.length:Int)+a.name.length).tdiv 4096)
    simp only [attrsLeft,List.length_cons,Int.natCast_add,Int.natCast_one]
    constructor <;> omega
theorem fewR_inner {C : Calls'} {N n : Nat} (l : List GRow) (i : Nat) (x : GRow) (h : l[i]? = some x) (hx : x.small n) (hn : n ≤ 1048577) (hN : n ≤ N) (left : Int) (hl : -1099511627776 ≤ left) (hl2 : left ≤ 1000000) :
    aexec C N (.loop B9x1) ⟨[(0,.p (.list (l.map GRow.pv))),(5,.p (.int .i64 left)),(6,.p (.int .i64 i)),(10,.p (.int .i64 l.length)),(11,.p (.int .i64 i)),(52,.p (.int .i64 x.attrs.length)),(53,.p (.int .i64 0))],[],[]⟩ =
      some (.exit 2,⟨[(0,.p (.list (l.map GRow.pv))),(5,.p (.int .i64 (attrsLeft x.attrs left))),(10,.p (.int .i64 l.length)),(11,.p (.int .i64 i))],[],[]⟩):=by
  have hlt:i<l.length:=(List.getElem?_eq_some_iff.1 h).1
  have hg:=getD_map (f:=GRow.pv) h
  have:=hx.attrs
  refine loop_rule' (σ := Nat × Int) (S:=fun s=>⟨[(0,.p (.list (l.map GRow.pv))),(5,.p (.int .i64 s.2)),(6,.p (.int .i64 i)),(10,.p (.int .i64 l.length)),(11,.p (.int .i64 i)),(52,.p (.int .i64 x.attrs.length)),(53,.p (.int .i64 s.1))],[],[]⟩)
    (I:=fun s=>s.1≤x.attrs.length ∧ -1099511627776 - 1048576*(s.1:Int)≤s.2∧s.2≤1000000) (μ := fun s=>x.attrs.length - s.1)
    (Φ := fun s=>(.exit 2,⟨[(0,.p (.list (l.map GRow.pv))),(5,.p (.int .i64 (attrsLeft (x.attrs.drop s.1) s.2))),(10,.p (.int .i64 l.length)),(11,.p (.int .i64 i))],[],[]⟩)) ?_ (0,left) ?_ ?_
  · rintro ⟨k,left⟩ ⟨h1,h2,h3⟩
    simp only at h1 h2 h3 ⊢
    by_cases hk:k<x.attrs.length
    · obtain ⟨a,ha⟩:=get_some hk
      have hga:=getD_map (f:=Attr.pv) ha
      have hs:=hx.small a (List.mem_of_getElem? ha)
      have q:=tdiv_bound (x:=(a.value.length:Int)+(a.name.length:Int)) (by omega) (by omega)
      refine .inl ⟨(k+1,left - ((a.value.length:Int)+a.name.length).tdiv 4096), ?_,⟨by omega,by simp only [Int.natCast_add,Int.natCast_one];omega,by omega⟩,by simp only;omega, ?_⟩
      · have k1:(k:Int)<(x.attrs.length:Int):=by omega
        have k2:(i:Int)<(l.length:Int):=by omega
        simp -implicitDefEqProofs (disch:=omega) only [Rx,simprocAttr,B9x1,k1,k2,hg,hga,GRow.pv,attrsPV,Attr.pv]
      · rw [List.drop_eq_getElem?_toList_append,ha];rfl
    · refine .inr ⟨?_,by simp⟩
      have:k=x.attrs.length:=by omega
      subst this
      have k1:¬ ((x.attrs.length:Int)<(x.attrs.length:Int)):=by omega
      simp -implicitDefEqProofs (disch:=omega) only [Rx,simprocAttr,B9x1,k1,List.drop_length,attrsLeft]
  · simp only [Int.natCast_zero];omega
  · simp only;omega
def fewREnd (r:Option Int):Ex × St:=match r with
 | none=>(.ret,⟨[(4,.p (.bool false))],[],[]⟩)
 | some left=>(.exit 0,⟨[(5,.p (.int .i64 left))],[],[]⟩)
theorem fewR_outer {C : Calls'} {N n : Nat} (l : List GRow) (hl : Rows.small n l) (hn : n ≤ 1048577) (hN : n ≤ N) (most : Int) (h1 : 0 ≤ most) (h2 : most ≤ 1000000) :
    aexec C N (.loop B9x0) ⟨[(0,.p (.list (l.map GRow.pv))),(5,.p (.int .i64 most)),(10,.p (.int .i64 l.length)),(11,.p (.int .i64 0))],[],[]⟩=some (fewREnd (fewRowsL l most)):=by
  have hlen:=hl.len
  refine loop_rule' (σ := Nat × Int) (S:=fun s=>⟨[(0,.p (.list (l.map GRow.pv))),(5,.p (.int .i64 s.2)),(10,.p (.int .i64 l.length)),(11,.p (.int .i64 s.1))],[],[]⟩)
    (I:=fun s=>s.1≤l.length ∧ -1099511627776≤s.2∧s.2≤1000000) (μ := fun s=>l.length - s.1)
    (Φ := fun s=>fewREnd (fewRowsL (l.drop s.1) s.2)) ?_ (0,most) ?_ ?_
  · rintro ⟨i,left⟩ ⟨h1,h2,h3⟩
    simp only at h1 h2 h3 ⊢
    by_cases hi:i<l.length
    · obtain ⟨x,hx⟩:=get_some hi
      have hgx:=getD_map (f:=GRow.pv) hx
      have hs:=hl.row x (List.mem_of_getElem? hx)
      have q:=tdiv_bound (x:=(x.text.length:Int)+x.key.length+x.tag.length) (by omega) (by have:=hs.text;omega)
      have ha:=hs.attrs
      have hd:l.drop i=x::l.drop (i+1):=by rw [List.drop_eq_getElem?_toList_append,hx];rfl
      have k2:(i:Int)<(l.length:Int):=by omega
      have hc:fewRowsL (l.drop i) left=if left - 1 - x.attrs.length - rowCost x<0 then none else fewRowsL (l.drop (i+1)) (attrsLeft x.attrs (left - 1 - x.attrs.length - rowCost x)):=by rw [hd];rfl
      have htx:=hs.text
      unfold rowCost at hc
      by_cases hneg:left - 1 - x.attrs.length - ((x.text.length:Int)+x.key.length+x.tag.length).tdiv 4096<0
      · refine .inr ?_
        rw [hc,if_pos hneg]
        refine ⟨?_,by simp [fewREnd]⟩
        simp -implicitDefEqProofs (disch:=omega) only [Rx,simprocAttr,B9x0,k2,hgx,GRow.pv,attrsPV,hneg,fewREnd]
      · have hb:=attrsLeft_bound x.attrs hs.small (left - 1 - x.attrs.length - ((x.text.length:Int)+x.key.length+x.tag.length).tdiv 4096)
        have hloop:=fewR_inner (C:=C) (N:=N) (n:=n) l i x hx hs hn hN (left - 1 - x.attrs.length - ((x.text.length:Int)+x.key.length+x.tag.length).tdiv 4096) (by omega) (by omega)
        refine .inl ⟨(i+1,attrsLeft x.attrs (left - 1 - x.attrs.length - ((x.text.length:Int)+x.key.length+x.tag.length).tdiv 4096)), ?_,⟨by omega,by simp only;omega,by simp only;omega⟩,by simp only;omega,by simp only;rw [hc,if_neg hneg]⟩
        simp -implicitDefEqProofs (disch:=omega) only [Rx,simprocAttr,B9x0,k2,hgx,GRow.pv,attrsPV,hneg,hloop]
    · refine .inr ⟨?_, ?_⟩
      · have:i=l.length:=by omega
        subst this
        have k1:¬ ((l.length:Int)<(l.length:Int)):=by omega
        simp -implicitDefEqProofs (disch:=omega) only [Rx,simprocAttr,B9x0,k1,List.drop_length,fewRowsL,fewREnd]
      · have:l.drop i=[]:=List.drop_eq_nil_of_le (by omega)
        simp [this,fewRowsL,fewREnd]
  · simp only;omega
  · simp only;omega
theorem fewR_run (l:List GRow) (most:Int) (g:List AObj) {n:Nat} (hl:Rows.small n l) (hn:n≤1048577) (h1:0≤most) (h2:most≤1000000) {m:Nat} (hm:n≤m) :
    acall T (m+1) 9 [.p (.list (l.map GRow.pv)),.p (.int .i64 most)] g=some (.p (.bool (fewRows l most)),g):=by
  rw [acall_code T9,run_pure rfl rfl rfl]
  have hloop:=fewR_outer (C:=acall T m) (N:=m) l hl hn hm most h1 h2
  cases hr:fewRowsL l most with
  | none =>
    rw [hr] at hloop
    simp -implicitDefEqProofs only [F9,fewREnd] at hloop ⊢
    simp -implicitDefEqProofs (disch:=omega) only [Rx,simprocAttr,hloop,fewRows,hr]
  | some left =>
    rw [hr] at hloop
    simp -implicitDefEqProofs only [F9,fewREnd] at hloop ⊢
    simp -implicitDefEqProofs (disch:=omega) only [Rx,simprocAttr,hloop,fewRows,hr]
end Go.TA.Tryz


end
section
/- Rows that are not right, a machine that is none, the loose nodes of both. -/
set_option maxRecDepth 100000
set_option maxHeartbeats 8000000
namespace Go.TA
namespace Tryz
theorem run_nil (L:List (List PV)) (n:Nat):acall T (n+1) 14 [.p .nilp,.p (.list L)] []=some (.tuple [.p (.int .i64 0),.p (.int .i64 1)],[]):=by
 rw [acall_code T14,run_code rfl rfl]
 simp -implicitDefEqProofs (disch:=omega) only [Rx,simprocAttr,F14]
theorem do_nil (n:Nat):acall T (n+1) 15 [.p .nilp,.p (.agg [.int .i64 0,.int .i64 0,.int .i64 0,.int .i64 0,.str [],.str [],.str [],.str [],.list []])] []=some (.p (.int .i64 1),[]):=by
 rw [acall_code T15,run_code rfl rfl]
 simp -implicitDefEqProofs (disch:=omega) only [Rx,simprocAttr,F15]
theorem rows_nil (n:Nat):acall T (n+1) 16 [.p .nilp] []=some (.p (.list []),[]):=by
 rw [acall_code T16,run_code rfl rfl]
 simp -implicitDefEqProofs (disch:=omega) only [Rx,simprocAttr,F16]
theorem loose_nil (n:Nat):acall T (n+1) 17 [.p .nilp] []=some (.own true 0 0,[.pcells 1 []]):=by
 rw [acall_code T17,run_code rfl rfl]
 simp -implicitDefEqProofs (disch:=omega) only [Rx,simprocAttr,F17]
theorem next_nil (g:List AObj) (n:Nat):acall T (n+1) 18 [.p .nilp] g=some (.p (.int .i64 0),g):=by
 rw [acall_code T18,run_code rfl rfl]
 simp -implicitDefEqProofs (disch:=omega) only [Rx,simprocAttr,F18]
theorem both_loose {S:MS} (hN:S.N≤4194304) {g:List AObj} {av:Nat→AV} {rest:List AObj} {avD:Nat→AV} {p q:Nat} (hB:Both S g av rest avD p q) {n:Nat} (hn:S.N<n) :
    ∃ g1, acall T (n + 1) 17 [MP] g = some (.own true (rest.length + 1 + 1) (looseM S).length, g1) ∧ acall T (n + 1) 24 [DP p] g1 = some (.own true g1.length (looseM S).length, g1 ++ [.pcells 1 (intsPV (looseM S))])
      ∧ g1[rest.length+1+1]? = some (.pcells 1 (intsPV (looseM S)))∧rest.length+1+1<g1.length∧Both S (g1++[.pcells 1 (intsPV (looseM S))]) av (rest++[.pcells 1 (intsPV (looseM S))]++[.pcells 1 (intsPV (looseM S))]) avD p q:=by
  have hll:=liveL_len S
  have hr:=loose_run S hN av rest hB.mok hn
  rw [← hB.is] at hr
  have hB1:=hB.more [.pcells 1 (intsPV (looseM S))]
  have hd:=looseD_run hB1.dm (by omega) (n:=n) (by omega)
  have hgl:g.length=rest.length+1+1:=by rw [hB.is];simp [machG]
  have hB2:=hB1.more [.pcells 1 (intsPV (looseM S))]
  have hmg:machG S.N S.st av (rest++[.pcells 1 (intsPV (looseM S))])=g++[.pcells 1 (intsPV (looseM S))]:=by rw [hB.is];simp [machG]
  rw [hmg] at hr
  refine ⟨g++[.pcells 1 (intsPV (looseM S))], ?_, ?_, ?_, ?_, ?_⟩
  rotate_right
  · exact hB2
  · exact hr
  · exact hd
  · rw [← hgl];simp
  · simp;omega
theorem both_next {S:MS} {g:List AObj} {av:Nat→AV} {rest:List AObj} {avD:Nat→AV} {p q:Nat} (hB:Both S g av rest avD p q) (n:Nat):acall T (n+1) 18 [MP] g=some (.p (.int .i64 S.N),g):=by
 have h:=Next_run S av rest n
 rw [← hB.is] at h
 exact h
end Tryz
end Go.TA


end
section
/- The document's answer: any operation. -/
set_option maxRecDepth 100000
set_option maxHeartbeats 8000000
namespace Go.TA.Tryz
section
variable {R:Nat} {S:MS} {av:Nat→AV} {p q:Nat} {g:List AObj}
theorem insertD_N (S:MS) (id up b:Int):(insertD S id up b).2.N=S.N:=by
 unfold insertD;repeat' split
 all_goals rfl
theorem moveD_N (S:MS) (id b:Int):(moveD S id b).2.N=S.N:=by
 unfold moveD;repeat' split
 all_goals first | rfl | simp [placeM,takeM_N]
theorem removeD_N (S:MS) (id:Int):(removeD S id).2.N=S.N:=by
 unfold removeD;split
 ·rfl
 ·simp [endM,takeM_N]
theorem setD_N (S:MS) (id:Int) (name v:Bs):(setD S id name v).2.N=S.N:=by
 unfold setD;repeat' split
 all_goals rfl
theorem delD_N (S:MS) (id:Int) (name:Bs):(delD S id name).2.N=S.N:=by
 unfold delD;repeat' split
 all_goals rfl
theorem textD_N (S:MS) (id:Int) (s:Bs):(textD S id s).2.N=S.N:=by
 unfold textD;repeat' split
 all_goals rfl
theorem doD_run (hS:S.Ok R) (hD:DM (liveL S) S.st S.kd S.N av p q g) (hL:(liveL S).length≤4194304) (x:GOp) (hs:smallAttrs x.attrs) {n:Nat} (hn:(liveL S).length<n) (hR:R+3<n) (hx:x.attrs.length<n) (hn2:1048577<n) :
  ∃ av' q' g',acall T (n+38) 52 [DP p,.p (.agg x.pv)] g=some (.tuple [.p (.int .i64 (doD S x).1),.p (.int .i64 (doD S x).2.1)],g')∧DM (liveL (doD S x).2.2) (doD S x).2.2.st (doD S x).2.2.kd (doD S x).2.2.N av' p q' g'∧DFr (liveL S) av p q g (liveL (doD S x).2.2) av' q' g':=by
 unfold doD
 by_cases h1:x.kind=1
 ·rw [if_pos h1]
  have e1:(x.kind==1)=true:=by simpa using h1
  obtain ⟨av',g',hc,hD',hF⟩:=createD_run hD hL x hs (n:=n) (by omega) (by omega)
  by_cases hz:createErr S.N x=0
  ·rw [if_pos hz] at hc hD' hF ⊢
   refine ⟨av',q,g', ?_,hD',hF⟩
   rw [acall_code T52,run_code rfl rfl]
   simp -implicitDefEqProofs (disch:=omega) only [Rx,simprocAttr,F52,GOp.pv,attrsPV,e1,hc]
  ·rw [if_neg hz] at hc hD' hF ⊢
   refine ⟨av',q,g', ?_,hD',hF⟩
   generalize createErr S.N x=e at hc
   rw [acall_code T52,run_code rfl rfl]
   simp -implicitDefEqProofs (disch:=omega) only [Rx,simprocAttr,F52,GOp.pv,attrsPV,e1,hc]
 rw [if_neg h1]
 have e1:(x.kind==1)=false:=by simpa using h1
 by_cases h2:x.kind=2
 ·rw [if_pos h2]
  have e2:(x.kind==2)=true:=by simpa using h2
  obtain ⟨av',g',hc,hD',hF⟩:=insertD_run hS hD hL x.node x.up x.before (n:=n+33) (by omega) (by omega)
  refine ⟨av',q,g', ?_,by rw [insertD_N];exact hD',hF⟩
  generalize insertD S x.node x.up x.before=z at hc
  rw [acall_code T52,run_code rfl rfl]
  simp -implicitDefEqProofs (disch:=omega) only [Rx,simprocAttr,F52,GOp.pv,attrsPV,e1,e2,hc]
 rw [if_neg h2]
 have e2:(x.kind==2)=false:=by simpa using h2
 by_cases h3:x.kind=3
 ·rw [if_pos h3]
  have e3:(x.kind==3)=true:=by simpa using h3
  obtain ⟨av',g',hc,hD',hF⟩:=moveD_run hS hD hL x.node x.before (n:=n+33) (by omega)
  refine ⟨av',q,g', ?_,by rw [moveD_N];exact hD',hF⟩
  generalize moveD S x.node x.before=z at hc
  rw [acall_code T52,run_code rfl rfl]
  simp -implicitDefEqProofs (disch:=omega) only [Rx,simprocAttr,F52,GOp.pv,attrsPV,e1,e2,e3,hc]
 rw [if_neg h3]
 have e3:(x.kind==3)=false:=by simpa using h3
 by_cases h4:x.kind=4
 ·rw [if_pos h4]
  have e4:(x.kind==4)=true:=by simpa using h4
  obtain ⟨av',q',g',hc,hD',hF⟩:=removeD_run hS hD hL x.node (n:=n+33) (by omega) (by omega)
  refine ⟨av',q',g', ?_,by rw [removeD_N];exact hD',hF⟩
  generalize removeD S x.node=z at hc
  rw [acall_code T52,run_code rfl rfl]
  simp -implicitDefEqProofs (disch:=omega) only [Rx,simprocAttr,F52,GOp.pv,attrsPV,e1,e2,e3,e4,hc]
 rw [if_neg h4]
 have e4:(x.kind==4)=false:=by simpa using h4
 by_cases h5:x.kind=5
 ·rw [if_pos h5]
  have e5:(x.kind==5)=true:=by simpa using h5
  obtain ⟨g',hc,hD',hF⟩:=setD_run hS hD hL x.node x.name x.text (n:=n+1) (by omega) (by omega)
  refine ⟨av,q,g', ?_,by rw [setD_N];exact hD',hF⟩
  generalize setD S x.node x.name x.text=z at hc
  rw [acall_code T52,run_code rfl rfl]
  simp -implicitDefEqProofs (disch:=omega) only [Rx,simprocAttr,F52,GOp.pv,attrsPV,e1,e2,e3,e4,e5,hc]
 rw [if_neg h5]
 have e5:(x.kind==5)=false:=by simpa using h5
 by_cases h6:x.kind=6
 ·rw [if_pos h6]
  have e6:(x.kind==6)=true:=by simpa using h6
  obtain ⟨g',hc,hD',hF⟩:=delD_run hS hD hL x.node x.name (n:=n+34) (by omega) (by omega)
  refine ⟨av,q,g', ?_,by rw [delD_N];exact hD',hF⟩
  generalize delD S x.node x.name=z at hc
  rw [acall_code T52,run_code rfl rfl]
  simp -implicitDefEqProofs (disch:=omega) only [Rx,simprocAttr,F52,GOp.pv,attrsPV,e1,e2,e3,e4,e5,e6,hc]
 rw [if_neg h6]
 have e6:(x.kind==6)=false:=by simpa using h6
 by_cases h7:x.kind=7
 ·rw [if_pos h7]
  have e7:(x.kind==7)=true:=by simpa using h7
  obtain ⟨g',hc,hD',hF⟩:=textD_run hD hL x.node x.text (n:=n+34) (by omega)
  refine ⟨av,q,g', ?_,by rw [textD_N];exact hD',hF⟩
  generalize textD S x.node x.text=z at hc
  rw [acall_code T52,run_code rfl rfl]
  simp -implicitDefEqProofs (disch:=omega) only [Rx,simprocAttr,F52,GOp.pv,attrsPV,e1,e2,e3,e4,e5,e6,e7,hc]
 rw [if_neg h7]
 have e7:(x.kind==7)=false:=by simpa using h7
 refine ⟨av,q,g, ?_,hD,DFr.refl _ _ _ _ _⟩
 rw [acall_code T52,run_code rfl rfl]
 simp -implicitDefEqProofs (disch:=omega) only [Rx,simprocAttr,F52,GOp.pv,attrsPV,e1,e2,e3,e4,e5,e6,e7]
end
end Go.TA.Tryz


end
section
/- The document's answer does what a machine does. -/
set_option maxRecDepth 100000
set_option maxHeartbeats 8000000
namespace Go.TA.Tryz
structure FineOp (x:GOp):Prop where
 kind:1≤x.kind∧x.kind≤7
 tag:x.kind=1→namedB false x.tag=true
 name:x.kind=5∨x.kind=6→namedB true x.name=true
 key:(x.key.length:Int)≤65536
 text:(x.text.length:Int)≤65536
 attrs:attrsErr x.attrs=0
 hs:0≤x.node∧x.node≤4294967295∧0≤x.up∧x.up≤4294967295∧0≤x.before∧x.before≤4294967295
 none:noneB x=false
theorem fineOp_of {x:GOp} (h:opErr x=0):FineOp x:=by
 unfold opErr at h
 split at h
 ·omega
 split at h
 ·omega
 split at h
 ·omega
 split at h
 ·omega
 split at h
 ·omega
 split at h
 ·omega
 split at h
 ·omega
 split at h
 ·omega
 split at h
 ·omega
 split at h
 ·omega
 rename_i h1 h2 h3 h4 h5 h6 h7 h8 h9 h10
 simp only [Bool.not_eq_false,Bool.not_eq_true] at h3 h4 h5 h6 h7 h8
 simp only [hOk,Bool.and_eq_true,decide_eq_true_eq] at h3 h4 h5
 refine ⟨⟨by omega,by omega⟩,fun hk => ?_,fun hk => ?_,by omega,by omega,h,⟨h3.1,h3.2,h4.1,h4.2,h5.1,h5.2⟩,h6⟩
 ·simpa [tagBad,hk] using h7
 ·rcases hk with hk | hk
  ·simpa [nameBad,hk] using h8
  ·simpa [nameBad,hk] using h8
theorem fit_node {S:MS} {h:Int} (h0:h≠0):fitE S h=if liveB S h=true then 0 else 13:=by simp [fitE,h0]
theorem doD_doM {S:MS} {x:GOp} (h:opErr x=0) (hN:S.N≤4294967295):(doD S x).2=doM S x:=by
 have hf:=fineOp_of h
 unfold doD doM
 by_cases h1:x.kind=1
 ·rw [if_pos h1,if_pos h1]
  have hz:createErr S.N x=0:=by
   have:=hf.key
   have:=hf.text
   simp only [createErr,hf.tag h1,Bool.true_eq_false,if_false,hf.attrs,ne_eq,not_true_eq_false]
   rw [if_neg (by omega),if_neg (by omega)]
  rw [if_pos hz]
 rw [if_neg h1,if_neg h1]
 by_cases h0:x.node=0
 ·rw [if_pos h0]
  have f0:fitE S x.node=14:=by simp [fitE,h0]
  by_cases h2:x.kind=2
  ·simp only [if_pos h2,insertD,f0];rfl
  rw [if_neg h2]
  by_cases h3:x.kind=3
  ·simp only [if_pos h3,moveD,f0];rfl
  rw [if_neg h3]
  by_cases h4:x.kind=4
  ·simp only [if_pos h4,removeD,f0];rfl
  rw [if_neg h4]
  by_cases h5:x.kind=5
  ·simp only [if_pos h5,setD,f0];rfl
  rw [if_neg h5]
  by_cases h6:x.kind=6
  ·simp only [if_pos h6,delD,f0];rfl
  rw [if_neg h6]
  have h7:x.kind=7:=by have:=hf.kind;omega
  simp only [if_pos h7,textD,f0];rfl
 rw [if_neg h0]
 have fn:=fit_node (S:=S) h0
 by_cases h2:x.kind=2
 ·rw [if_pos h2,if_pos h2]
  unfold insertD insertM
  rw [fn]
  cases hl:liveB S x.node <;> simp
 rw [if_neg h2,if_neg h2]
 by_cases h3:x.kind=3
 ·rw [if_pos h3,if_pos h3]
  unfold moveD moveM
  rw [fn]
  cases hl:liveB S x.node <;> simp
 rw [if_neg h3,if_neg h3]
 by_cases h4:x.kind=4
 ·rw [if_pos h4,if_pos h4]
  unfold removeD
  rw [fn]
  cases hl:liveB S x.node <;> simp
 rw [if_neg h4,if_neg h4]
 unfold changeM
 by_cases h5:x.kind=5
 ·have:=hf.text
  have hn:=hf.name (.inl h5)
  rw [if_pos h5,if_pos h5]
  unfold setD
  rw [fn]
  cases hl:liveB S x.node
  ·simp
  ·simp only [if_true,ne_eq,not_true_eq_false,if_false,hn,Bool.true_eq_false]
   rw [if_neg (by omega)]
 rw [if_neg h5,if_neg h5]
 by_cases h6:x.kind=6
 ·rw [if_pos h6,if_pos h6]
  unfold delD
  rw [fn]
  cases hl:liveB S x.node <;> simp
 rw [if_neg h6,if_neg h6]
 have h7:x.kind=7:=by have:=hf.kind;omega
 rw [if_pos h7,if_pos h7]
 unfold textD
 rw [fn]
 have:=hf.text
 cases hl:liveB S x.node
 ·simp
 ·simp only [if_true,ne_eq,not_true_eq_false,if_false,Bool.true_eq_false]
  rw [if_neg (by omega)]
section
variable {R:Nat} {S:MS} {av:Nat→AV} {p q:Nat} {g:List AObj}
theorem refDo_run (hS:S.Ok R) (hD:DM (liveL S) S.st S.kd S.N av p q g) (hL:(liveL S).length≤4194304) (hN:S.N≤4294967295) (x:GOp) (hs:smallAttrs x.attrs) {n:Nat} (hn:(liveL S).length<n) (hR:R+3<n) (hx:x.attrs.length<n) (hn2:1048577<n) :
  ∃ av' q' g',acall T (n+39) 25 [DP p,.p (.agg x.pv)] g=some (.p (.int .i64 (doE S x).1),g')∧DM (liveL (doE S x).2) (doE S x).2.st (doE S x).2.kd (doE S x).2.N av' p q' g'∧DFr (liveL S) av p q g (liveL (doE S x).2) av' q' g':=by
 have hck:=fun g=>ref25_run x hs g (n:=n+1) (by omega) (by omega)
 unfold doE
 by_cases h:opErr x=0
 ·rw [if_pos h]
  rw [h] at hck
  obtain ⟨av',q',g',hc,hD',hF⟩:=doD_run hS hD hL x hs hn hR hx hn2
  have e:=doD_doM (S:=S) h hN
  rw [e] at hc hD' hF
  refine ⟨av',q',g', ?_,hD',hF⟩
  rw [acall_code T25,run_code rfl rfl]
  generalize (doD S x).1=z at hc
  generalize doM S x=y at hc
  simp only [GOp.pv,attrsPV] at hc hck
  simp -implicitDefEqProofs (disch:=omega) only [Rx,simprocAttr,F25,GOp.pv,attrsPV,hck,hc]
 ·rw [if_neg h]
  have e1:(opErr x==0)=false:=by simpa using h
  refine ⟨av,q,g, ?_,hD,DFr.refl _ _ _ _ _⟩
  rw [acall_code T25,run_code rfl rfl]
  generalize opErr x=e at hck e1 ⊢
  simp only [GOp.pv,attrsPV] at hck
  simp -implicitDefEqProofs (disch:=omega) only [Rx,simprocAttr,F25,GOp.pv,attrsPV,hck,e1]
end
end Go.TA.Tryz


end
section
/- The document's answer runs a script. -/
set_option maxRecDepth 100000
set_option maxHeartbeats 8000000
namespace Go.TA.Tryz
theorem refRun_run {R : Nat} {S : MS} (hS : S.Ok R) (L : List GOp) (hL : ∀ x ∈ L, x.attrs.length ≤ 1048576 ∧ smallAttrs x.attrs) (hN : S.N + L.length ≤ 4194303) (hLl : L.length ≤ 1048576) (av : Nat → AV) (p q : Nat) (g : List AObj) (hD : DM (liveL S) S.st S.kd S.N av p q g) {F : Nat} (hF : S.N + L.length + bnd R L.length + bnd R L.length + 1048700 < F) :
    ∃ av' q' g', acall T (F + 1) 20 [DP p, .p (.list (L.map GOp.pv))] g = some (.tuple [.p (.int .i64 (runM S L 0).1), .p (.int .i64 (runM S L 0).2.1)], g')
      ∧ DM (liveL (runM S L 0).2.2) (runM S L 0).2.2.st (runM S L 0).2.2.kd (runM S L 0).2.2.N av' p q' g'∧DFr (liveL S) av p q g (liveL (runM S L 0).2.2) av' q' g':=by
  have key:=loop_inv (C:=acall T F) (N:=F) (B:=B20x0) (σ := Nat × MS × (Nat→AV) × Nat × List AObj) (S:=fun s=>⟨[(0,DP p),(1,.p (.list (L.map GOp.pv))),(9,.p (.int .i64 L.length)),(10,.p (.int .i64 s.1))],[],s.2.2.2.2⟩)
    (I:=fun s=>s.1≤L.length∧s.2.1.Ok (bnd R s.1)∧DM (liveL s.2.1) s.2.1.st s.2.1.kd s.2.1.N s.2.2.1 p s.2.2.2.1 s.2.2.2.2∧s.2.1.N≤S.N+s.1∧runM S L 0=runM s.2.1 (L.drop s.1) s.1∧DFr (liveL S) av p q g (liveL s.2.1) s.2.2.1 s.2.2.2.1 s.2.2.2.2) (μ := fun s=>L.length - s.1)
    (Q:=fun z=>∃ av' q' g',(((runM S L 0).2.1=0∧(runM S L 0).1=L.length∧z=(.exit 0,⟨[(1,.p (.list (L.map GOp.pv)))],[],g'⟩))∨z=(.ret,⟨[(4,.p (.int .i64 (runM S L 0).1)),(5,.p (.int .i64 (runM S L 0).2.1))],[],g'⟩))
      ∧ DM (liveL (runM S L 0).2.2) (runM S L 0).2.2.st (runM S L 0).2.2.kd (runM S L 0).2.2.N av' p q' g'∧DFr (liveL S) av p q g (liveL (runM S L 0).2.2) av' q' g') ?_ (0,S,av,q,g) ⟨by simp,hS,hD,by simp,by simp,DFr.refl _ _ _ _ _⟩ (by simp only;omega)
  · obtain ⟨z,hz,av',q',g',hz2,h2⟩:=key
    refine ⟨av',q',g', ?_,h2⟩
    have ll:(L.map GOp.pv).length=L.length:=by simp
    rw [acall_code T20,run_code rfl rfl]
    simp only [Int.natCast_zero] at hz
    rcases hz2 with ⟨z1,z2,rfl⟩ | rfl
    · rw [z1,z2]
      simp -implicitDefEqProofs (disch:=omega) only [Rx,simprocAttr,F20,ll,hz]
    · simp -implicitDefEqProofs (disch:=omega) only [Rx,simprocAttr,F20,ll,hz]
  rintro ⟨i,S1,av1,q1,g1⟩ ⟨h1,h2,h3,h4,h5,h6⟩
  simp only at h1 h2 h3 h4 h5 h6 ⊢
  have hb:=bnd_mono R h1
  by_cases hi:i<L.length
  · obtain ⟨x,hx⟩:∃ x,L[i]? = some x:=⟨_,List.getElem?_eq_getElem hi⟩
    obtain ⟨hxm,hxs⟩:=hL x (List.mem_of_getElem? hx)
    have k1:(i:Int)<(L.length:Int):=by omega
    have hg:=getD_map (f:=GOp.pv) hx
    have hll:=liveL_len S1
    obtain ⟨av2,q2,g2,hd,hD2,hfr⟩:=refDo_run h2 h3 (by omega) (by omega) x hxs (n:=F - 39) (by omega) (by omega) (by omega) (by omega)
    rw [show F - 39+39=F by omega] at hd
    obtain ⟨hok,hn1,hn2⟩:=doE_ok h2 x (by omega)
    have hr:=runM_drop hx S1
    by_cases e:(doE S1 x).1=0
    · left
      rw [if_pos e] at hr
      rw [hr] at h5
      refine ⟨(i+1,(doE S1 x).2,av2,q2,g2), ?_,⟨by simp only;omega,hok,hD2,by simp only;omega,h5,h6.trans hfr⟩,by simp only;omega⟩
      rw [e] at hd
      simp only [GOp.pv,attrsPV] at hd
      simp -implicitDefEqProofs (disch:=omega) only [Rx,simprocAttr,B20x0,k1,hg,GOp.pv,attrsPV,hd]
    · right
      rw [if_neg e] at hr
      rw [hr] at h5
      rw [h5]
      simp only
      refine ⟨_, ?_, ?_,av2,q2,g2,.inr rfl,hD2,h6.trans hfr⟩
      · have e1:((doE S1 x).1==0)=false:=by simpa using e
        generalize (doE S1 x).1=z at hd e1
        simp only [GOp.pv,attrsPV] at hd
        simp -implicitDefEqProofs (disch:=omega) only [Rx,simprocAttr,B20x0,k1,hg,GOp.pv,attrsPV,hd,e1]
      · simp
  · right
    obtain rfl:i=L.length:=by omega
    have k1:¬ (L.length:Int)<(L.length:Int):=by omega
    have hr:runM S1 (L.drop L.length) L.length=(L.length,0,S1):=by rw [List.drop_length];rfl
    rw [hr] at h5
    rw [h5]
    simp only
    refine ⟨_, ?_, ?_,av1,q1,g1,.inl ⟨trivial,trivial,rfl⟩,h3,h6⟩
    · simp -implicitDefEqProofs (disch:=omega) only [Rx,simprocAttr,B20x0,k1]
    · simp
end Go.TA.Tryz


end
section
/- The examples that the statements contain, run. -/
set_option maxRecDepth 100000
namespace Go.TA.Tryz
theorem same27 (n:Nat):acall T (n+60) 11 [] []=some (.p (.bool true),[]):=by kernel_rfl
end Go.TA.Tryz


end
section
/- The law PlainRuns, in the machine. -/
set_option maxRecDepth 100000
set_option maxHeartbeats 8000000
namespace Go.TA
namespace Tryz
theorem runs_run (l:List GRow) (L:List GOp) (hsm:Rows.small 1048577 l) (hL:∀ x ∈ L,smallOp x) (hLl:L.length≤1048575) :
    ∃ n,acall T n 3 [.p (.list (l.map GRow.pv)),.p (.list (L.map GOp.pv))] []=some (.p (.bool true),[]):=by
  have hlen:=hsm.len
  generalize hB:bnd l.length L.length=B
  obtain ⟨n,hn⟩:∃ n,n=4*4194304+B+B:=⟨_,rfl⟩
  refine ⟨n+l.length+46+B, ?_⟩
  have hsame:=same27 (n+l.length+B - 15)
  rw [show n+l.length+B - 15+60=n+l.length+45+B by omega] at hsame
  have hfr:=fewR_run l 120 [] hsm (Nat.le_refl _) (by omega) (by omega) (m:=n+l.length+44+B) (by omega)
  have hfo:=few_run L 150 [] (n:=n+l.length+44+B) (fun y hy=>⟨hL y hy,by have:=(hL y hy).1;omega⟩) (by omega) (by omega) (by omega) (by omega)
  have hck:=check13_run l hsm (Nat.le_refl _) (n:=n+l.length+7+B) (by omega) []
  rw [show n+l.length+44+B+1=n+l.length+45+B by omega] at hfr hfo
  rw [show n+l.length+7+B+38=n+l.length+45+B by omega] at hck
  rw [show n+l.length+46+B=n+l.length+45+B+1 by omega,acall_code T3,run_pure rfl rfl rfl]
  cases h1:fewRows l 120 with
  | false =>
    rw [h1] at hfr
    simp -implicitDefEqProofs (disch:=omega) only [Rx,simprocAttr,F3,hfr,hsame]
  | true=>
  rw [h1] at hfr
  cases h2:fewOps L 150 with
  | false =>
    rw [h2] at hfo
    simp -implicitDefEqProofs (disch:=omega) only [Rx,simprocAttr,F3,hfr,hfo,hsame]
  | true=>
  rw [h2] at hfo
  by_cases h4:check13 l=0
  rotate_left
  · have e1:(check13 l==0)=false:=by simpa using h4
    have hnew:=newE_run l hsm (Nat.le_refl _) h4 (n:=n+1+B) (by omega)
    rw [show n+1+B+l.length+44=n+l.length+45+B by omega] at hnew
    generalize check13 l=e at hck hnew e1
    have k1:=run_nil (L.map GOp.pv) (n+l.length+44+B)
    have k2:=do_nil (n+l.length+44+B)
    have k3:=rows_nil (n+l.length+44+B)
    have k4:=loose_nil (n+l.length+44+B)
    have k5:=fun g=>next_nil g (n+l.length+44+B)
    rw [show n+l.length+44+B+1=n+l.length+45+B by omega] at k1 k2 k3 k4
    simp only [show n+l.length+44+B+1=n+l.length+45+B by omega] at k5
    simp -implicitDefEqProofs (disch:=omega) only [Rx,simprocAttr,F3,hfr,hfo,hck,hnew,e1,k1,k2,k3,k4,k5,hsame]
  rw [h4] at hck
  have hs:sound l:=formed_sound (check13_ok h4).1
  have hS0:=S0_ok hs hsm (Nat.le_refl _)
  obtain ⟨av,rest,hnew,hM,_⟩:=new_run l hsm (Nat.le_refl _) h4 (n:=n+1+B) (by omega)
  rw [show n+1+B+l.length+44=n+l.length+45+B by omega] at hnew
  obtain ⟨avD,g2,hnd,hDM,hBe⟩:=newR_run l (by omega) hs.1 (machG (S0 l).N (S0 l).st av rest) (n:=n+l.length+43+B) (by omega)
  rw [show n+l.length+43+B+2=n+l.length+45+B by omega] at hnd
  obtain ⟨rest2,hBo⟩:=Both.start (S:=S0 l) hM hDM hBe
  have hmg:machG (S0 l).N (S0 l).st av rest=machG (l.length+1) (st0 l) av rest:=rfl
  rw [hmg] at hnd hBo
  generalize machG (l.length+1) (st0 l) av rest=g1 at hnew hnd hBo
  have hN0:(S0 l).N=l.length+1:=rfl
  obtain ⟨av2,rest3,R',hrm,hM2,hok,hR',hN',hfr2⟩:=mrun_run hS0 L (fun x hx=>by have:=(hL x hx).1;omega) (by omega) av rest2 hBo.mok (F:=n+l.length+44+B) (by rw [hB];omega)
  rw [hB] at hR'
  rw [show n+l.length+44+B+1=n+l.length+45+B by omega, ← hBo.is] at hrm
  have hdm:=hBo.mach (st':=(runM (S0 l) L 0).2.2.st) hfr2
  obtain ⟨avD2,q2,g3,hrd,hD2,hfd⟩:=refRun_run hS0 L (fun x hx=>⟨by have:=(hL x hx).1;omega,(hL x hx).2.1⟩) (by omega) (by omega) avD _ _ _ hdm (F:=n+l.length+44+B) (by rw [hB];omega)
  rw [show n+l.length+44+B+1=n+l.length+45+B by omega] at hrd
  obtain ⟨rest4,hB3⟩:=hBo.step hfr2 hM2 hD2 hfd
  generalize machG (runM (S0 l) L 0).2.2.N (runM (S0 l) L 0).2.2.st av2 rest3=G2 at hrm hrd
  generalize (runM (S0 l) L 0).1=kk at hrm hrd
  generalize (runM (S0 l) L 0).2.1=ee at hrm hrd
  generalize (runM (S0 l) L 0).2.2=S' at hok hN' hB3
  obtain ⟨g4,hr1,hr2,hx1,hlt,hr3,hB4⟩:=both_rows hok (by omega) hB3 (n:=n+l.length+42+B - R') (by omega)
  rw [show n+l.length+42+B - R'+R'+3=n+l.length+45+B by omega] at hr1 hr2 hr3
  have hr4:=hr3 []
  have hrl:((rowsM S' R').map GRow.pv).length=(rowsM S' R').length:=by simp
  generalize hX:(rowsM S' R').map GRow.pv=X at hr2 hx1 hr4 hrl hB4
  generalize (rowsM S' R').length=k at hr1 hr2 hrl
  have hy1:(g4++[AObj.pcells 6 X])[rest4.length+1+1]? = some (.pcells 6 X):=by rw [List.getElem?_append_left hlt];exact hx1
  have hy2:(g4++[AObj.pcells 6 X])[g4.length]? = some (.pcells 6 X):=by simp
  obtain ⟨g6,hl1,hl2,hz1,hzl,hB5⟩:=both_loose (by omega) hB4 (n:=n+l.length+44+B) (by omega)
  rw [show n+l.length+44+B+1=n+l.length+45+B by omega] at hl1 hl2
  have hll:=looseM_len S'
  have hie:=intsEq_run (looseM S') (by omega) [] (n:=n+l.length+44+B) (by omega)
  rw [show n+l.length+44+B+1=n+l.length+45+B by omega] at hie
  have hil:=intsPV_len (looseM S')
  generalize intsPV (looseM S')=Y at hl2 hz1 hB5 hie hil
  generalize (looseM S').length=k2 at hl1 hl2 hil
  have hz3:(g6++[AObj.pcells 1 Y])[(rest4++[AObj.pcells 6 X]++[AObj.pcells 6 X]).length+1+1]? = some (.pcells 1 Y):=by rw [List.getElem?_append_left hzl];exact hz1
  have hz4:(g6++[AObj.pcells 1 Y])[g6.length]? = some (.pcells 1 Y):=by simp
  have hnx:=both_next hB5 (n+l.length+44+B)
  rw [show n+l.length+44+B+1=n+l.length+45+B by omega] at hnx
  have hob:=hB5.dm.core.obj
  generalize g4++[AObj.pcells 6 X]=g5 at hr2 hy1 hy2 hl1
  generalize g6++[AObj.pcells 1 Y]=g7 at hl2 hz3 hz4 hnx hob
  generalize (rest4++[AObj.pcells 6 X]++[AObj.pcells 6 X]).length+1+1=j1 at hl1 hz3
  simp -implicitDefEqProofs (disch:=omega) only [Rx,simprocAttr,F3,hfr,hfo,hck,hnew,hnd,hrm,hrd,hr1,hr2,hr4,hy1,hy2,hrl,hl1,hl2,hie,hz3,hz4,hil,hnx,hob,hsame]
end Tryz
end Go.TA


end
section
/- The law PlainRuns, for every input of bulk at most 1048576: the call returns true, and nothing that was there has changed. -/
namespace Go.Proofs.YtnjblmbobmbgkaaGreatDoor.plainRuns
open Go.ChangeShapes Go.WideShapes Go.ChangeAt Go.RowKit Go.TA
set_option maxRecDepth 100000
theorem own:ownKnob Tryz.prog.godebug=none:=by kernel_rfl
theorem kids:Kids Tryz.prog (· < Tryz.prog.types.size):=kids_rows (by kernel_rfl) (by kernel_rfl)
theorem full:∀ t e,t<Tryz.prog.types.size→Tryz.prog.underlying t=some (.slice e)→0<Tryz.prog.cellsOf e:=slices_full_of Tryz.prog (by kernel_rfl)
theorem bulk {H:Type}:Bulk (H:=H) Rows.uptoBulk Rows.uptoBulkAll where
 str bs:=by simp [Rows.uptoBulk]
 lit l:=by cases l <;> simp [Rows.uptoBulk]
 nil:=by simp [Rows.uptoBulk]
 slice a b:=by simp [Rows.uptoBulk]
 agg a:=by simp [Rows.uptoBulk]
 nilA:=by simp [Rows.uptoBulkAll]
 consA d r:=by simp [Rows.uptoBulkAll]
theorem laidVars_tail {P:Program} {w:World} {x:String × DataW Unit} {r:List (String × DataW Unit)} {ps:List MemPlace} (h:DataW.LaidVars P w (x::r) ps):∃ qs,DataW.LaidVars P w r qs:=by
 obtain ⟨n,d⟩:=x
 obtain ⟨g,t,cs,fuel,p,q,_,_,_,_,hq,_⟩:=h
 exact ⟨q,hq⟩
theorem tab_of_vars {P:Program} {W:World} {name:String} {k:IntKind} {zs:List Int} {rest:List (String × DataW Unit)} {ps:List MemPlace} {g:Nat} {t e:TypeId} {n:Nat}
  (hg:P.globalNamed name=some g) (hty:(P.globals[g]?).map (·.type)=some t) (ht:P.underlying t=some (.array n e)) (he:P.underlying e=some (.int k)) (hce:P.cellsOf e=1) (hct:P.cellsOf t=n)
  (h:DataW.LaidVars P W ((name,Lib.tabData k zs)::rest) ps):Lib.TabIs P W name k zs:=by
 obtain ⟨g',t',cs,fuel,p,q,hg',ht',hvar,hd,_,_⟩:=h
 obtain rfl:=Option.some.inj (hg.symm.trans hg')
 obtain rfl:=Option.some.inj (hty.symm.trans ht')
 unfold Lib.TabIs
 rw [hvar, ← Lib.cells_of_tab ht he hce hct hd]
theorem table {W:World} (h:laidMetH Tryz.prog Rows.plainRunsRow.laid W):Lib.TabIs Tryz.prog W "internal/strconv.uint64pow10" .u64 Lib.pow10Tab:=by
 have h':laidMet Tryz.prog Rows.plainRunsRow.laid W:=h
 obtain ⟨ps,hv,_⟩:=h'
 obtain ⟨qs,hv⟩:=laidVars_tail hv
 obtain ⟨qs,hv⟩:=laidVars_tail hv
 exact tab_of_vars (g:=0) (t:=176) (e:=167) (n:=20) (rest:=[]) (by kernel_rfl) (by kernel_rfl) (by kernel_rfl) (by kernel_rfl) (by kernel_rfl) (by kernel_rfl) hv
def types:List TypeId:=[22,68,23,37,3,9,35,70]
theorem closed:closedB Tryz.prog 9 types=true:=by decide +kernel
theorem shRows:shOf Tryz.prog 9 22=some [.sl 68]:=by decide +kernel
theorem shRow:shOf Tryz.prog 9 68=some (rowSh 70):=by decide +kernel
theorem shOps:shOf Tryz.prog 9 23=some [.sl 37]:=by decide +kernel
theorem shOp:shOf Tryz.prog 9 37=some (opSh 70):=by decide +kernel
theorem shAttr:shOf Tryz.prog 9 70=some [.str,.str]:=by decide +kernel
theorem params:Tryz.f3.params.toList=[22,23]:=by kernel_rfl
theorem bulk_ops:∀ (L:List GOp),(∀ x ∈ L,bulkL x.pv≤bulkLL (L.map GOp.pv))∧9*L.length≤bulkLL (L.map GOp.pv)
  | []=>by simp [bulkLL]
  | a :: l => by
    obtain ⟨h1,h2⟩:=bulk_ops l
    have:=bulk_op a
    simp only [List.map_cons,bulkLL,List.length_cons]
    refine ⟨fun b hb => ?_,by omega⟩
    rcases List.mem_cons.1 hb with rfl | hb
    · omega
    · have:=h1 b hb;omega
theorem contract (H:Type) (enc:TypeId × Value→H) (W:World) (base:Nat) (args:Array Value) (ds gs:List (DataW H)) (before:List MemPlace)
  (hval:∀ (j:Nat) t v,Tryz.f3.params[j]? = some t→args[j]? = some v→Value.okWide Tryz.prog W .any base t v)
  (hW:DataW.Whole enc Tryz.prog Tryz.f3.params.toList Rows.plainRunsSpec.vars false W args.toList ds gs before) (hk:Rows.uptoSmall H (ds++gs)=true) (hL:laidMetH Tryz.prog Rows.plainRunsRow.laid W) :
  Calls Tryz.prog 3 args W fun e W'=>∃ v,e = .returned v∧Rows.plainRunsSpec.post enc Tryz.prog Tryz.f3 false true false false W args v W':=by
 have hW':=hW
 obtain ⟨p,q,hA,hV,rfl,_,_⟩:=hW'
 obtain ⟨rfl,rfl⟩:=trodVars_none hV
 rw [List.append_nil] at hk
 have hbound:Rows.uptoBulkAll ds≤1048576:=of_decide_eq_true hk
 have hlen:=trod_len hA
 rw [params] at hA hlen
 obtain ⟨pss,h1,h2,h3,h4⟩:=args_rel (gs:=types) (D0:=9) kids full bulk closed hA (by decide) (fun j t v hj hv=>⟨_,_,hval j t v (by rw [← Array.getElem?_toList,params];exact hj) (by simpa using hv)⟩)
 match pss,h1 with
 | [ps1,ps2],h1=>
 obtain ⟨⟨shs1,hs1,hok1⟩,⟨shs2,hs2,hok2⟩,_⟩:=h1
 rw [shRows] at hs1
 rw [shOps] at hs2
 simp only [Option.some.injEq] at hs1 hs2
 subst hs1 hs2
 obtain ⟨xs1,r1,rfl,hx1,hr1⟩:=dec_list shRow hok1
 obtain rfl:=dec_nil hr1
 obtain ⟨l1,rfl,hl1⟩:=dec_rows shAttr hx1
 obtain ⟨xs2,r2,rfl,hx2,hr2⟩:=dec_list shOp hok2
 obtain rfl:=dec_nil hr2
 obtain ⟨l2,rfl,hl2⟩:=dec_ops shAttr hx2
 have hb1:bulkLL (l1.map GRow.pv)<1048577:=by simp only [bulkLL,bulkL,PV.bulk] at h2;omega
 have hb2:bulkLL (l2.map GOp.pv)≤1048575:=by simp only [bulkLL,bulkL,PV.bulk] at h2;omega
 obtain ⟨fuel,hrun⟩:=Go.TA.Tryz.runs_run l1 l2 (small_rows hb1 (Nat.le_refl _)) (fun x hx=>(Go.TA.Tryz.smallOp_of (n:=1048576) (by have:=(bulk_ops l2).1 x hx;omega) (Nat.le_refl _)).1) (by have:=(bulk_ops l2).2;omega)
 have ha0:aggT Tryz.prog 22=false:=by decide +kernel
 have ha1:aggT Tryz.prog 23=false:=by decide +kernel
 have hargs:argsOf Tryz.prog [22,23] [[.list (l1.map GRow.pv)],[.list (l2.map GOp.pv)]]=[.list (l1.map GRow.pv),.list (l2.map GOp.pv)]:=by simp [argsOf,argOf,ha0,ha1]
 rw [hargs] at h3 h4
 refine (law_calls_at (ΓW_holds (table hL)) Go.TA.Tryz.mixed (Go.TA.Tryz.T_okW W) (ps:=[.list (l1.map GRow.pv),.list (l2.map GOp.pv)]) hrun (by simpa using h3) h4).mono fun e W' ⟨he,hB⟩=>⟨_,he, ?_⟩
 refine law_post kids full hW rfl (tb:=4) rfl (by kernel_rfl) (by rw [params];decide +kernel) ?_ hB
 match ds,hlen with
 | [d1,d2],_=>rfl
def wargs:Array Value := #[.slice none 0 0,.slice none 0 0]
def put (k:IntKind) (zs:List Int):Obj→Obj
 | .cells _ t frozen => .cells (zs.map fun z=>Value.int k z).toArray t frozen
 | o=>o
def bits32:List Int:=[0,1,28,2,29,14,24,3,30,22,20,15,25,17,4,8,31,27,13,23,21,19,16,7,26,12,18,6,11,5,10,9]
def bits64:List Int:=[0,1,56,2,57,49,28,3,61,58,42,50,38,29,17,4,62,47,59,36,45,43,51,22,53,39,33,30,24,18,12,5,63,55,48,27,60,41,37,16,46,35,44,21,52,32,23,11,54,26,40,15,34,20,31,10,25,14,19,9,13,8,7,6]
noncomputable def laidWorld (os:Os):World :=
 { World.holding Tryz.prog os ⟨#[], #[],[]⟩ with heap:=(((World.holding Tryz.prog os ⟨#[], #[],[]⟩).heap.modify 0 (put .u64 Lib.pow10Tab)).modify 2 (put .u8 bits32)).modify 3 (put .u8 bits64) }
theorem laid_met (os:Os):laidMet Tryz.prog Rows.plainRunsRow.laid ((laidWorld os).forCall (fun _ _=>0) ⟨#[],wargs,[]⟩).memory :=
 laidMet_of_run' 8 (by kernel_rfl) (by kernel_rfl)
theorem reads (os:Os) {H:Type} (enc:TypeId × Value→H):∃ places,DataW.whole enc Tryz.prog ((laidWorld os).forCall (fun _ _=>0) ⟨#[],wargs,[]⟩).memory Tryz.f3.params.toList Rows.plainRunsSpec.vars false wargs.toList 8=some ([.nil,.nil],[],places) :=
 ⟨[],by kernel_rfl⟩
theorem liftedUpto (os:Os) (started:os.Started) (H:Type) (enc:TypeId × Value→H) (F:Stop.Interp) :
  ReturnsInHanded {} Tryz.checked os 3 .any ((Rows.OpenSpec.upto Rows.plainRunsSpec).preRow enc Tryz.prog Tryz.f3 Rows.plainRunsUptoRow.domain false Rows.plainRunsUptoRow.laid) (((Rows.OpenSpec.upto Rows.plainRunsSpec).at F).post enc Tryz.prog Tryz.f3 false true false false):=by
 obtain ⟨places,hx⟩:=reads os enc
 refine returnsInHanded_of_row (C:=Tryz.checked) (s:=Rows.OpenSpec.upto Rows.plainRunsSpec) own started (by kernel_rfl) Tryz.func3
  (witness_row_at (enc:=enc) (C:=Tryz.checked) false (laidWorld os) wargs rfl (by kernel_rfl) (by kernel_rfl) (by kernel_rfl)
   (OpenSpec.preRow_of_cond 8 hx (by kernel_rfl) (fun k hk=>by cases hk;kernel_rfl) (by kernel_rfl) (laid_met os))) ?_
 intro W base args ds gs before hval hW _ hcond _ hL _ _
 exact contract H enc W base args ds gs before hval hW (hcond _ rfl) hL
theorem saidUpto:Rows.PlainRunsUptoSaid :=
 OpenClaim.holds_of_cond 3 Tryz.f3 rfl rfl rfl rfl rfl rfl rfl ⟨rfl,rfl,rfl,rfl,rfl⟩ rfl rfl rfl rfl rfl (by kernel_rfl) Tryz.func3 (by kernel_rfl)
  (of_decide_eq_true (by kernel_rfl)) (by unfold Func.isWrapper;first | (rw [if_pos (by decide +kernel)];kernel_rfl) | (rw [if_neg (by decide +kernel)];exact ⟨rfl,rfl⟩))
  (fun os started H enc _ F=>by rw [OpenClaim.pre_eq_preRow];exact liftedUpto os started H enc F)
theorem plain (f:FuncId) (fn:Func) (hf:Tryz.pinned.checked.prog.funcNamed "tendril/tendrillaw27.PlainRuns" = some f) (hfn:Tryz.pinned.checked.prog.funcs[f]? = some fn) :
  false=Tryz.pinned.checked.prog.looks []∧∀ (j:Nat) t,fn.params[j]? = some t→Tryz.pinned.checked.prog.wantsStandIn t=false:=by
 obtain rfl:f=3:=Option.some.inj ((show Tryz.prog.funcNamed "tendril/tendrillaw27.PlainRuns" = some 3 by kernel_rfl).symm.trans hf) |>.symm
 obtain rfl:fn=Tryz.f3:=(Option.some.inj (Tryz.func3.symm.trans hfn)).symm
 refine ⟨by kernel_rfl,fun j t ht => ?_⟩
 have hm:t ∈ [22,23]:=by
  rw [← params]
  exact Array.mem_toList_iff.2 (Array.mem_of_getElem? ht)
 have hall:[22,23].all (fun t=>Tryz.prog.wantsStandIn t==false)=true:=by kernel_rfl
 exact beq_iff_eq.1 (List.all_eq_true.1 hall t hm)
theorem holds:Rows.PlainRunsUptoCardSaid :=
 Claim7.holds_tied_plain_at .later [] _ _ _ _ saidUpto (fun _ h=>by cases h) (by kernel_rfl) (fun _ h=>by cases h) plainRunsUpto_row_tie rfl ⟨rfl,rfl⟩ (by kernel_rfl) rfl plain (by kernel_rfl)
end Go.Proofs.YtnjblmbobmbgkaaGreatDoor.plainRuns


end
