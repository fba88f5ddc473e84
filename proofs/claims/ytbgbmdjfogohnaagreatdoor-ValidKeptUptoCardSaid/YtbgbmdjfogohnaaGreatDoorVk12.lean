/- Part 12 of 15 of a proof; joined from VkpFlatE, VkpMOps1, VkpMLoose, VkpRAt, DocDef, VkpRIns, VkpRRead, VkpRLoose, VkpMOps2, GoingDef, VkpMDel, VkpMTake. A node is taken out. -/
import Derived.Test.YtbgbmdjfogohnaaGreatDoorVk1
import Derived.Test.YtbgbmdjfogohnaaGreatDoorVk11
import Derived.Test.YtbgbmdjfogohnaaGreatDoorVk10
import Derived.Test.YtbgbmdjfogohnaaGreatDoorVk7
set_option linter.unusedSimpArgs false
set_option linter.unusedVariables false
set_option linter.defProp false
set_option maxRecDepth 100000
set_option maxHeartbeats 8000000
section
/- What the program finds wrong with rows is what the document's answer finds wrong. -/
namespace Go.TA.Tryz
theorem upAt_take {l:List GRow} {m x:Nat} (hx:x<m):upAt (l.take m) (x+1)=upAt l (x+1):=by
 simp only [upAt,Nat.add_sub_cancel]
 rw [List.getElem?_take,if_pos hx]
theorem anc_take {l:List GRow} (hs:standTo l l.length) {m:Nat}:∀ (f x:Nat),x≤m→anc (l.take m) f x=anc l f x
  | 0,_,_=>rfl
  | _+1,0,_=>rfl
  | f + 1, x + 1, hx => by
    simp only [anc,upAt_take (l:=l) (show x<m by omega)]
    congr 1
    refine anc_take hs f _ ?_
    by_cases h:x<l.length
    · have:=upAt_le hs h h
      omega
    · have:upAt l (x+1)=0:=by simp [upAt,List.getElem?_eq_none (show l.length≤x by omega)]
      omega
theorem chain_take {l:List GRow} (hs:standTo l l.length) {m x:Nat} (hx:x≤m):chain (l.take m) x=chain l x:=anc_take hs x x hx
theorem get_take {l:List GRow} {m j:Nat} {x:GRow} (h:(l.take m)[j]? = some x):j<m∧l[j]? = some x:=by
 rw [List.getElem?_take] at h
 split at h
 ·rename_i hj;exact ⟨hj,h⟩
 ·cases h
theorem sound_take {l:List GRow} (hs:sound l) (m:Nat):sound (l.take m):=by
 refine ⟨fun j x hj hx=>hs.1 j x ?_ (get_take hx).2,fun j x hx => ?_⟩
 ·exact (List.getElem?_eq_some_iff.1 (get_take hx).2).1
 ·obtain ⟨hj,hx⟩:=get_take hx
  rcases hs.2 j x hx with h | ⟨h1,y,hy,hyu⟩
  ·exact .inl h
  ·exact .inr ⟨h1,y,by rw [chain_take hs.1 (by omega)];exact hy,hyu⟩
theorem rowErr_take {l:List GRow} (hs:standTo l l.length) {m i:Nat} (hi:i<m) (x:GRow):rowErr (l.take m) i x=rowErr l i x:=by
 unfold rowErr dupB
 rw [chain_take hs (show i+1≤m by omega),List.take_take,show min i m=i by omega]
theorem errR_take {l:List GRow} (hs:standTo l l.length) {m:Nat}:∀ (d a b:Nat),b - a≤d→b≤m→b≤l.length→errR (l.take m) a b=errR l a b
  | 0, a, b, hd, hb, hl => by
    have h1:∀ k:List GRow,(k.take b).drop a=[]:=fun k=>List.drop_eq_nil_of_le (by rw [List.length_take];omega)
    simp only [errR,h1];rfl
  | d + 1, a, b, hd, hb, hl => by
    by_cases h:a<b
    · obtain ⟨x,hx⟩:=get_some (show a<l.length by omega)
      have hx':(l.take m)[a]? = some x:=by rw [List.getElem?_take,if_pos (by omega)];exact hx
      rw [errR_cons hx h,errR_cons hx' h,rowErr_take hs (by omega),errR_take hs d (a+1) b (by omega) hb hl]
    · have h1:∀ k:List GRow,(k.take b).drop a=[]:=fun k=>List.drop_eq_nil_of_le (by rw [List.length_take];omega)
      simp only [errR,h1];rfl
theorem end_one {l:List GRow} (hs:sound l) (h0:0<l.length):endOf l 1=l.length:=by
 have he:=endOf_le (l:=l) (h:=1) (by omega)
 rcases Nat.lt_or_ge (endOf l 1) l.length with hlt | hge
 ·obtain ⟨x,hx⟩:=get_some hlt
  have a1:=endOf_at (h:=1) (by omega) hx
  rcases hs.2 _ x hx with ⟨h1,_⟩ | ⟨_,y,hy,hyu⟩
  ·omega
  ·have:=chain_pos hy
   omega
 ·omega
theorem checkE_run (l:List GRow) (hl:l.length≤1048576) (hs:standTo l l.length) (hal:∀ x ∈ l,x.attrs.length≤1048577) {b:Nat} {p:List PV} (hbt:BT l 0 b p) {n:Nat} (hn:1048577<n) (g:List AObj) :
  ∃ m deep,acall T (n+l.length+40) 195 [.p (.agg p)] g=some (.p (.agg [.int .i64 m,.int .i64 deep,.int .i64 (errR l 0 b)]),g):=by
 have hlt:=hbt.lt
 have hbt':=hbt
 cases hbt with
 | mk hx hks=>
 rename_i x ks
 obtain ⟨r,hr,hse⟩:=visE_run l hl hs hal l.length n 0 b (nodeCells x ks) x [] 0 0 [.map []] (by omega) hn hbt' hx rfl ⟨fun e he=>by simp at he,fun e he=>by simp at he,fun j y hj=>by omega⟩
 have hc:=chain_one hs hx
 rcases hse with ⟨he,deep,ms',es,rfl,_,_,_,_⟩ | ⟨he,m,deep,ms',rfl⟩
 ·refine ⟨b,deep, ?_⟩
  rw [he,acall_code T195,run_pure rfl rfl rfl]
  simp only [Nat.zero_add,hc,List.length_singleton,Int.natCast_one,Int.natCast_zero,LK,VK,pL,pV,nodeCells] at hr
  simp only [nodeCells]
  simp -implicitDefEqProofs (disch:=omega) only [Rx,simprocAttr,F195,hr]
 ·refine ⟨m,deep, ?_⟩
  rw [acall_code T195,run_pure rfl rfl rfl]
  generalize errR l 0 b=e at hr
  simp only [Nat.zero_add,hc,List.length_singleton,Int.natCast_one,Int.natCast_zero,LK,LKE,VK,pL,pV,nodeCells] at hr
  simp only [nodeCells]
  simp -implicitDefEqProofs (disch:=omega) only [Rx,simprocAttr,F195,hr]
theorem vcheckE_run (l:List GRow) (hl:l.length≤1048576) (hs:standTo l l.length) (hal:∀ x ∈ l,x.attrs.length≤1048577) {b:Nat} {p:List PV} (hbt:BT l 0 b p) {n:Nat} (hn:1048577<n) (g:List AObj) :
  ∃ m,acall T (n+l.length+41) 162 [.p (.agg p)] g=some (.tuple [.p (.int .i64 m),.p (.int .i64 (errR l 0 b))],g):=by
 obtain ⟨m,deep,hr⟩:=checkE_run l hl hs hal hbt hn []
 cases hbt with
 | mk hx hks=>
 rename_i x ks
 simp only [nodeCells] at hr
 by_cases he:errR l 0 b=0
 ·refine ⟨0, ?_⟩
  rw [he] at hr ⊢
  rw [acall_code T162,run_pure rfl rfl rfl]
  simp only [nodeCells]
  simp -implicitDefEqProofs (disch:=omega) only [Rx,simprocAttr,F162,hr]
 ·refine ⟨m, ?_⟩
  have e1:(errR l 0 b==0)=false:=by simpa using he
  generalize errR l 0 b=e at hr e1
  rw [acall_code T162,run_pure rfl rfl rfl]
  simp only [nodeCells]
  simp -implicitDefEqProofs (disch:=omega) only [Rx,simprocAttr,F162,hr,e1]
def deepAt (l:List GRow) (i:Nat):Prop:=64<(chain l (i+1)).length
theorem deepE_run (l : List GRow) (hs : standTo l l.length) (hl : l.length ≤ 1048576) (g : List AObj) {n : Nat} (hn : l.length < n) :
    ∃ d:Bool,acall T (n+1) 159 [.p (.list (l.map GRow.pv))] g=some (.p (.bool d),g)∧(d=true↔(∃ i,i<l.length∧deepAt l i)∨4096<l.length):=by
  have key:=loop_inv (C:=acall T n) (N:=n) (B:=B159x0) (σ := Nat) (S:=fun i=>⟨[(0,.p (.list (l.map GRow.pv))),(3,.own false 9 (l.length+1)),(10,.p (.list (l.map GRow.pv))),(11,.p (.int .i64 l.length)),(12,.p (.int .i64 i))],[(9,.pcells 1 (depths l i))],[]⟩) (I:=fun i=>i≤l.length∧∀ j,j<i→¬ deepAt l j) (μ := fun i=>l.length - i)
    (Q:=fun r=>(r=(.ret,⟨[(2,.p (.bool true))],[],[]⟩)∧∃ i,i<l.length∧deepAt l i)∨(r=(.exit 0,⟨[(0,.p (.list (l.map GRow.pv)))],[],[]⟩)∧∀ j,j<l.length→¬ deepAt l j)) ?_ 0 ⟨by omega,fun j hj=>by omega⟩ (by omega)
  · obtain ⟨r,hr,hq⟩:=key
    have k2:((l.length:Int)+1).toNat=l.length+1:=by omega
    have hz:=depths_zero l
    simp only [Int.natCast_zero] at hr
    rcases hq with ⟨rfl,hd⟩ | ⟨rfl,hd⟩
    · refine ⟨true, ?_,by simp [hd]⟩
      rw [acall_code T159,run_pure rfl rfl rfl]
      simp -implicitDefEqProofs (disch:=omega) only [Rx,simprocAttr,F159,k2,hz,hr]
    · by_cases h4:4096<l.length
      · refine ⟨true, ?_,by simp [h4]⟩
        have k1:(4096:Int)<(l.length:Int):=by omega
        rw [acall_code T159,run_pure rfl rfl rfl]
        simp -implicitDefEqProofs (disch:=omega) only [Rx,simprocAttr,F159,k1,k2,hz,hr]
      · refine ⟨false, ?_, ?_⟩
        · have k1:¬ (4096:Int)<(l.length:Int):=by omega
          rw [acall_code T159,run_pure rfl rfl rfl]
          simp -implicitDefEqProofs (disch:=omega) only [Rx,simprocAttr,F159,k1,k2,hz,hr]
        · simp only [Bool.false_eq_true,false_iff,not_or]
          exact ⟨fun ⟨i,h1,h2⟩=>hd i h1 h2,h4⟩
  rintro i ⟨hi,hnd⟩
  by_cases h:i<l.length
  · have k1:(i:Int)<(l.length:Int):=by omega
    obtain ⟨x,hx,hu⟩:=up_val hs (Nat.le_refl _) h
    have hg:=getD_map (f:=GRow.pv) hx
    have hle:=upAt_le hs h h
    have hc:=chain_succ hs (Nat.le_refl _) h
    have hcl:=chain_len hs (upAt l (i+1)) (upAt l (i+1)) (Nat.le_refl _) (by omega)
    have dl:=depths_len l i
    have g1:(depths l i).getD (upAt l (i+1)) []=[.int .i64 ((chain l (upAt l (i+1))).length:Int)]:=by rw [depths_get l (by omega),if_pos (by omega)]
    have s1:(depths l i).set (i+1) [.int .i64 (((chain l (upAt l (i+1))).length:Int)+1)]=depths l (i+1):=by
      rw [← depths_set l h,hc,List.length_cons];push_cast;rfl
    have g2:(depths l (i+1)).getD (i+1) []=[.int .i64 (((chain l (upAt l (i+1))).length:Int)+1)]:=by rw [depths_get l (by omega),if_pos (by omega),hc,List.length_cons];push_cast;rfl
    have g3:(depths l i).getD (i+1) []=[.int .i64 0]:=by rw [depths_get l (by omega),if_neg (by omega)]
    have k5:((i:Int)+1).toNat=i+1:=by omega
    have dl2:=depths_len l (i+1)
    by_cases hdp:deepAt l i
    · right
      have k2:(64:Int)<((chain l (upAt l (i+1))).length:Int)+1:=by
        unfold deepAt at hdp
        rw [hc,List.length_cons] at hdp
        omega
      refine ⟨_, ?_, ?_,.inl ⟨rfl,i,h,hdp⟩⟩
      · simp -implicitDefEqProofs (disch:=omega) only [Rx,simprocAttr,B159x0,k1,hg,GRow.pv,hu,dl,dl2,g1,g2,g3,s1,k2,k5]
      · simp
    · left
      have k2:¬ (64:Int)<((chain l (upAt l (i+1))).length:Int)+1:=by
        unfold deepAt at hdp
        rw [hc,List.length_cons] at hdp
        omega
      refine ⟨i+1, ?_,⟨by omega,fun j hj => ?_⟩,by omega⟩
      · simp -implicitDefEqProofs (disch:=omega) only [Rx,simprocAttr,B159x0,k1,hg,GRow.pv,hu,dl,dl2,g1,g2,g3,s1,k2,k5]
      · by_cases e:j=i
        · subst e;exact hdp
        · exact hnd j (by omega)
  · right
    obtain rfl:i=l.length:=by omega
    have k1:¬ (l.length:Int)<(l.length:Int):=by omega
    refine ⟨_, ?_, ?_,.inr ⟨rfl,hnd⟩⟩
    · simp -implicitDefEqProofs (disch:=omega) only [Rx,simprocAttr,B159x0,k1]
    · simp
theorem cutE_run (l : List GRow) (hs : standTo l l.length) (hl : l.length ≤ 1048576) (hd : (∃ i, i < l.length ∧ deepAt l i) ∨ 4096 < l.length) (g : List AObj) {n : Nat} (hn : l.length < n) :
    ∃ k,k<l.length∧(deepAt l k∨k=4096)∧acall T (n+1) 160 [.p (.list (l.map GRow.pv))] g=some (.p (.list ((l.take (k+1)).map GRow.pv)),g):=by
  have key:=loop_inv (C:=acall T n) (N:=n) (B:=B160x0) (σ := Nat) (S:=fun i=>⟨[(0,.p (.list (l.map GRow.pv))),(3,.own false 9 (l.length+1)),(10,.p (.list (l.map GRow.pv))),(11,.p (.int .i64 l.length)),(12,.p (.int .i64 i))],[(9,.pcells 1 (depths l i))],[]⟩) (I:=fun i=>i≤l.length∧∀ j,j<i→¬ deepAt l j∧j≠4096) (μ := fun i=>l.length - i)
    (Q:=fun r=>∃ k,k<l.length∧(deepAt l k∨k=4096)∧r=(.ret,⟨[(2,.p (.list ((l.take (k+1)).map GRow.pv)))],[],[]⟩)) ?_ 0 ⟨by omega,fun j hj=>by omega⟩ (by omega)
  · obtain ⟨r,hr,k,h1,h2,rfl⟩:=key
    have k2:((l.length:Int)+1).toNat=l.length+1:=by omega
    have hz:=depths_zero l
    simp only [Int.natCast_zero] at hr
    refine ⟨k,h1,h2, ?_⟩
    rw [acall_code T160,run_pure rfl rfl rfl]
    simp -implicitDefEqProofs (disch:=omega) only [Rx,simprocAttr,F160,k2,hz,hr]
  rintro i ⟨hi,hnd⟩
  by_cases h:i<l.length
  · have k1:(i:Int)<(l.length:Int):=by omega
    obtain ⟨x,hx,hu⟩:=up_val hs (Nat.le_refl _) h
    have hg:=getD_map (f:=GRow.pv) hx
    have hle:=upAt_le hs h h
    have hc:=chain_succ hs (Nat.le_refl _) h
    have hcl:=chain_len hs (upAt l (i+1)) (upAt l (i+1)) (Nat.le_refl _) (by omega)
    have dl:=depths_len l i
    have g1:(depths l i).getD (upAt l (i+1)) []=[.int .i64 ((chain l (upAt l (i+1))).length:Int)]:=by rw [depths_get l (by omega),if_pos (by omega)]
    have s1:(depths l i).set (i+1) [.int .i64 (((chain l (upAt l (i+1))).length:Int)+1)]=depths l (i+1):=by
      rw [← depths_set l h,hc,List.length_cons];push_cast;rfl
    have g2:(depths l (i+1)).getD (i+1) []=[.int .i64 (((chain l (upAt l (i+1))).length:Int)+1)]:=by rw [depths_get l (by omega),if_pos (by omega),hc,List.length_cons];push_cast;rfl
    have g3:(depths l i).getD (i+1) []=[.int .i64 0]:=by rw [depths_get l (by omega),if_neg (by omega)]
    have k5:((i:Int)+1).toNat=i+1:=by omega
    have dl2:=depths_len l (i+1)
    have ll:(l.map GRow.pv).length=l.length:=by simp
    have k6:(i:Int)+1≤(l.length:Int):=by omega
    have htk:((l.map GRow.pv).take (i+1)).drop 0=(l.take (i+1)).map GRow.pv:=by rw [List.drop_zero,List.map_take]
    have htk2:(l.map GRow.pv).take (i+1)=(l.take (i+1)).map GRow.pv:=by rw [List.map_take]
    have k0:(0:Int).toNat=0:=rfl
    by_cases hdp:deepAt l i
    · right
      have k2:(64:Int)<((chain l (upAt l (i+1))).length:Int)+1:=by
        unfold deepAt at hdp
        rw [hc,List.length_cons] at hdp
        omega
      refine ⟨_, ?_, ?_,i,h,.inl hdp,rfl⟩
      · simp -implicitDefEqProofs (disch:=omega) only [Rx,simprocAttr,B160x0,k1,hg,GRow.pv,hu,dl,dl2,g1,g2,g3,s1,k2,k5,k6,k0,ll,htk2,bound]
      · simp
    · have k2:¬ (64:Int)<((chain l (upAt l (i+1))).length:Int)+1:=by
        unfold deepAt at hdp
        rw [hc,List.length_cons] at hdp
        omega
      by_cases h4:i=4096
      · right
        have e4:((i:Int)==4096)=true:=by simp;omega
        refine ⟨_, ?_, ?_,i,h,.inr h4,rfl⟩
        · simp -implicitDefEqProofs (disch:=omega) only [Rx,simprocAttr,B160x0,k1,hg,GRow.pv,hu,dl,dl2,g1,g2,g3,s1,k2,k5,k6,k0,e4,ll,htk2,bound]
        · simp
      · left
        have e4:((i:Int)==4096)=false:=by simp;omega
        refine ⟨i+1, ?_,⟨by omega,fun j hj => ?_⟩,by omega⟩
        · simp -implicitDefEqProofs (disch:=omega) only [Rx,simprocAttr,B160x0,k1,hg,GRow.pv,hu,dl,dl2,g1,g2,g3,s1,k2,k5,e4]
        · by_cases e:j=i
          · subst e;exact ⟨hdp,h4⟩
          · exact hnd j (by omega)
  · exfalso
    rcases hd with ⟨j,hj,hdj⟩ | hd
    · exact (hnd j (by omega)).1 hdj
    · exact (hnd 4096 (by omega)).2 rfl
theorem stop_err {l:List GRow} {k:Nat} {x:GRow} (hk:deepAt l k∨k=4096):rowErr l k x≠0:=by
 unfold rowErr deepAt at *
 split
 ·omega
 ·rename_i h
  rcases hk with hk | hk
  ·rw [if_pos hk];omega
  ·exact absurd hk h
theorem five {p:List PV} (h:p.length=5):∃ c1 c2 c3 c4 c5,p=[c1,c2,c3,c4,c5]:=by
 match p,h with
 | [c1,c2,c3,c4,c5],_=>exact ⟨c1,c2,c3,c4,c5,rfl⟩
theorem treeE_run (l : List GRow) (hl : l.length ≤ 1048576) (hne : l ≠ []) (hf : formedB l = true) (hal : ∀ x ∈ l, x.attrs.length ≤ 1048577) {n : Nat} (hn : 1048577 < n) (g : List AObj) :
    ∃ p,(∃ c1 c2 c3 c4 c5,p=[c1,c2,c3,c4,c5])∧acall T (n+l.length+42) 105 [.p (.list (l.map GRow.pv))] g=some (.tuple [.p (.agg p),.p (.int .i64 (errFrom l 0 l))],g):=by
  have hso:=formed_sound hf
  have hs:=hso.1
  have hlen:0<l.length:=List.length_pos_iff.2 hne
  have hfr:=formP_run l hl [] (n:=n+l.length+40) (by omega)
  rw [hf] at hfr
  obtain ⟨d,hdr,hdi⟩:=deepE_run l hs hl [] (n:=n+l.length+40) (by omega)
  have k0:((l.length:Int)==0)=false:=by simp;omega
  have tree:∀ l':List GRow,sound l'→l'.length≤l.length→0<l'.length→(∀ x ∈ l',x.attrs.length≤1048577)→∃ c1 c2 c3 c4 c5 m,acall T (n+l.length+41) 161 [.p (.list (l'.map GRow.pv)),.p (.int .i64 0)] []=some (.tuple [.p (.agg [c1,c2,c3,c4,c5]),.p (.int .i64 l'.length)],[])∧acall T (n+l.length+41) 162 [.p (.agg [c1,c2,c3,c4,c5])] []=some (.tuple [.p (.int .i64 m),.p (.int .i64 (errR l' 0 l'.length))],[]):=by
    intro l' hs' hl' h0' hal'
    obtain ⟨b,p,hbt,hbe,hb⟩:=buildE_run l' (by omega) hs' hal' l'.length 0 (n+l.length+38 - l'.length) h0' (by omega)
    have hb:=hb []
    rw [show n+l.length+38 - l'.length+l'.length+3=n+l.length+41 by omega] at hb
    obtain ⟨m,hv⟩:=vcheckE_run l' (by omega) hs'.1 hal' hbt (n:=n+l.length - l'.length) (by omega) []
    rw [show n+l.length - l'.length+l'.length+41=n+l.length+41 by omega] at hv
    have hpl:=hbt.len
    have hbl:b=l'.length:=by rw [hbe];exact end_one hs' h0'
    rw [hbl] at hb hv
    have hp5:=five hpl
    clear hbt hpl hbe hbl
    obtain ⟨c1,c2,c3,c4,c5,hp5⟩:=hp5
    rw [hp5] at hb hv
    clear hp5
    have key:=And.intro hb hv
    exact Exists.intro c1 (Exists.intro c2 (Exists.intro c3 (Exists.intro c4 (Exists.intro c5 (Exists.intro m key)))))
  have fin:∀ l':List GRow,(d=true→acall T (n+l.length+41) 160 [.p (.list (l.map GRow.pv))] []=some (.p (.list (l'.map GRow.pv)),[]))→(d=false→l'=l)→sound l'→l'.length≤l.length→0<l'.length→(∀ x ∈ l',x.attrs.length≤1048577)→errR l' 0 l'.length=errFrom l 0 l →
      ∃ p,(∃ c1 c2 c3 c4 c5,p=[c1,c2,c3,c4,c5])∧acall T (n+l.length+42) 105 [.p (.list (l.map GRow.pv))] g=some (.tuple [.p (.agg p),.p (.int .i64 (errFrom l 0 l))],g):=by
    intro l' hcut hd0 hs' hl' h0' hal' hee
    obtain ⟨c1,c2,c3,c4,c5,m,hb,hv⟩:=tree l' hs' hl' h0' hal'
    rw [hee] at hv
    have ll:(l.map GRow.pv).length=l.length:=by simp
    by_cases he:errFrom l 0 l=0
    · rw [he] at hv ⊢
      refine ⟨[c1,c2,c3,c4,c5],⟨_,_,_,_,_,rfl⟩, ?_⟩
      rw [acall_code T105,run_pure rfl rfl rfl]
      cases d with
      | true =>
        have hc:=hcut rfl
        simp -implicitDefEqProofs (disch:=omega) only [Rx,simprocAttr,F105,k0,ll,hfr,hdr,hc,hb,hv]
      | false =>
        rw [hd0 rfl] at hb
        simp -implicitDefEqProofs (disch:=omega) only [Rx,simprocAttr,F105,k0,ll,hfr,hdr,hb,hv]
    · have e1:(errFrom l 0 l==0)=false:=by simpa using he
      refine ⟨[.str [],.str [],.str [],.list [],.list []],⟨_,_,_,_,_,rfl⟩, ?_⟩
      generalize errFrom l 0 l=e at hv e1 ⊢
      rw [acall_code T105,run_pure rfl rfl rfl]
      cases d with
      | true =>
        have hc:=hcut rfl
        simp -implicitDefEqProofs (disch:=omega) only [Rx,simprocAttr,F105,k0,ll,hfr,hdr,hc,hb,hv,e1]
      | false =>
        rw [hd0 rfl] at hb
        simp -implicitDefEqProofs (disch:=omega) only [Rx,simprocAttr,F105,k0,ll,hfr,hdr,hb,hv,e1]
  by_cases hdt:d=true
  · obtain ⟨k,hk1,hk2,hcut⟩:=cutE_run l hs hl (hdi.1 hdt) [] (n:=n+l.length+40) (by omega)
    have htl:(l.take (k+1)).length=k+1:=by rw [List.length_take];omega
    obtain ⟨x,hx⟩:=get_some hk1
    have h1:=errR_split (l:=l) k (a:=0) (m:=k) (b:=k+1) (by omega) (by omega) (by omega)
    have h2:=errR_cons hx (show k<k+1 by omega)
    rw [if_neg (stop_err hk2)] at h2
    have hne2:errR l 0 (k+1)≠0:=by
      rw [h1]
      split
      · rw [h2];exact stop_err hk2
      · assumption
    have h3:=errR_split (l:=l) (k+1) (a:=0) (m:=k+1) (b:=l.length) (by omega) (by omega) (Nat.le_refl _)
    rw [if_neg hne2] at h3
    refine fin (l.take (k+1)) (fun _ => ?_) (fun h=>absurd hdt (by rw [h];simp)) (sound_take hso _) (by omega) (by omega) (fun x hx=>hal x (List.mem_of_mem_take hx)) ?_
    · exact hcut
    · rw [htl,errR_take hs (k+1) 0 (k+1) (by omega) (Nat.le_refl _) (by omega), ← h3,errR_all]
  · have hd0:d=false:=by simpa using hdt
    exact fin l (fun h=>absurd h hdt) (fun _=>rfl) hso (Nat.le_refl _) hlen hal errR_all
theorem flatCheckE_mid (l:List GRow) {m:Nat} (hl:Rows.mid m l) (hm:m≤1048577) {n:Nat} (hn:1048577<n) (g:List AObj):acall T (n+l.length+43) 55 [.p (.list (l.map GRow.pv))] g=some (.p (.int .i64 (check13 l)),g):=by
 have hlen:=hl.len
 by_cases hne:l=[]
 ·subst hne
  have e:check13 []=0:=rfl
  rw [e,acall_code T55,run_pure rfl rfl rfl]
  simp -implicitDefEqProofs (disch:=omega) only [Rx,simprocAttr,F55,Int.natCast_zero]
 have hlen0:0<l.length:=List.length_pos_iff.2 hne
 have k0:((l.length:Int)==0)=false:=by simp;omega
 by_cases hf:formedB l=true
 ·obtain ⟨p,hp,hr⟩:=treeE_run l (by omega) hne hf (fun x hx=>by have:=(hl.row x hx).attrs;omega) hn []
  have e:check13 l=errFrom l 0 l:=by rw [check13,if_pos hf]
  obtain ⟨c1,c2,c3,c4,c5,rfl⟩:=hp
  rw [e,acall_code T55,run_pure rfl rfl rfl]
  simp -implicitDefEqProofs (disch:=omega) only [Rx,simprocAttr,F55,k0,hr]
 ·have e:check13 l=2:=by rw [check13,if_neg hf]
  have hfr:=formP_run l (by omega) [] (n:=n+l.length+40) (by omega)
  simp only [Bool.not_eq_true] at hf
  rw [hf] at hfr
  have hr:acall T (n+l.length+42) 105 [.p (.list (l.map GRow.pv))] []=some (.tuple [.p (.agg [.str [],.str [],.str [],.list [],.list []]),.p (.int .i64 2)],[]):=by
   have ll:(l.map GRow.pv).length=l.length:=by simp
   rw [acall_code T105,run_pure rfl rfl rfl]
   simp -implicitDefEqProofs (disch:=omega) only [Rx,simprocAttr,F105,k0,ll,hfr]
  rw [e,acall_code T55,run_pure rfl rfl rfl]
  simp -implicitDefEqProofs (disch:=omega) only [Rx,simprocAttr,F55,k0,hr]
end Go.TA.Tryz


end
section
/- What a machine's functions look at: does a node live, is it below another one. -/
namespace Go.TA.Tryz
abbrev MP:AV:=.ptr true 1 1 1 0 0
theorem lives_run (S:MS) (av:Nat→AV) (rest:List AObj) (h:Int) (n:Nat):acall T (n+1) 120 [MP,.p (.int .i64 h)] (machG S.N S.st av rest)=some (.p (.bool (liveB S h)),machG S.N S.st av rest):=by
 rw [acall_code T120,run_code rfl rfl]
 have len1:(rowsAV S.N S.st av).length=S.N:=rowsAV_len
 by_cases h0:0≤h
 rotate_left
 ·have e:liveB S h=false:=by simp [liveB,h0]
  rw [e]
  simp only [machG]
  simp -implicitDefEqProofs (disch:=omega) only [Rx,simprocAttr,F120,h0]
 obtain ⟨c,rfl⟩:=Int.eq_ofNat_of_zero_le h0
 by_cases h1:(c:Int)<(S.N:Int)
 rotate_left
 ·have e:liveB S (c:Int)=false:=by simp only [liveB,h1,decide_false,Bool.false_and,Bool.and_false]
  rw [e]
  simp only [machG]
  simp -implicitDefEqProofs (disch:=omega) only [Rx,simprocAttr,F120,h0,h1]
 ·have hgn:(rowsAV S.N S.st av).getD c []=nodeAV (S.st c) (av c):=rowsAV_get (by omega)
  have e:liveB S (c:Int)=(S.st c).live:=by simp only [liveB,h0,h1,decide_true,Bool.true_and,Int.toNat_natCast]
  rw [e]
  simp only [machG,nodeAV] at hgn ⊢
  simp -implicitDefEqProofs (disch:=omega) only [Rx,simprocAttr,F120,h0,h1,len1,hgn]
theorem fit_run (S:MS) (av:Nat→AV) (rest:List AObj) (h:Int) (n:Nat):acall T (n+2) 68 [MP,.p (.int .i64 h)] (machG S.N S.st av rest)=some (.p (.int .i64 (fitE S h)),machG S.N S.st av rest):=by
 rw [acall_code T68,run_code rfl rfl]
 have hl:=lives_run S av rest h n
 by_cases h0:h=0
 ·have e:(h==0)=true:=by simpa using h0
  simp -implicitDefEqProofs (disch:=omega) only [Rx,simprocAttr,F68,fitE,h0]
 have e:(h==0)=false:=by simpa using h0
 cases hv:liveB S h
 ·rw [hv] at hl
  simp -implicitDefEqProofs (disch:=omega) only [Rx,simprocAttr,F68,fitE,h0,e,hl,hv]
 ·rw [hv] at hl
  simp -implicitDefEqProofs (disch:=omega) only [Rx,simprocAttr,F68,fitE,h0,e,hl,hv]
theorem under_loop {R : Nat} {S : MS} (hS : S.Ok R) (av : Nat → AV) (rest : List AObj) (t : Nat) (C : Calls') (N : Nat) (hN : R + 3 < N) (h : Nat) (hh : h < S.N) :
    aexec C N (.loop B121x0) ⟨[(0,MP),(1,.p (.int .i64 h)),(2,.p (.int .i64 t))],[],machG S.N S.st av rest⟩=some (if underB S (h:Int) (t:Int)=true then (.ret,⟨[(6,.p (.bool true))],[],machG S.N S.st av rest⟩) else (.exit 0,⟨[],[],machG S.N S.st av rest⟩)):=by
  obtain ⟨r,hr1,hr2⟩:=hS.rank
  have len1:(rowsAV S.N S.st av).length=S.N:=rowsAV_len
  have key:=loop_inv (C:=C) (N:=N) (B:=B121x0) (σ := Int) (S:=fun y=>⟨[(0,MP),(1,.p (.int .i64 y)),(2,.p (.int .i64 t))],[],machG S.N S.st av rest⟩)
    (I:=fun y=>(y = -1∨∃ c:Nat,y=(c:Int)∧c<S.N)∧(Below S (t:Int) (h:Int)↔Below S (t:Int) y)) (μ := fun y=>if y<0 then 0 else r y.toNat+1)
    (Q:=fun q=>q=(if underB S (h:Int) (t:Int)=true then (.ret,⟨[(6,.p (.bool true))],[],machG S.N S.st av rest⟩) else (.exit 0,⟨[],[],machG S.N S.st av rest⟩))) ?_ (h:Int) ⟨.inr ⟨h,rfl,hh⟩,Iff.rfl⟩ (by
      have:=hr1 h hh
      simp only [Int.toNat_natCast]
      split <;> omega)
  · obtain ⟨q,hq,rfl⟩:=key
    exact hq
  rintro y ⟨hy,hb⟩
  rcases hy with rfl | ⟨c,rfl,hc⟩
  · right
    have hf:¬ Below S (t:Int) (h:Int):=fun q=>below_neg (by omega) (hb.1 q)
    refine ⟨_, ?_, ?_,rfl⟩
    · rw [if_neg (fun q=>hf (underB_iff.1 q))]
      simp -implicitDefEqProofs (disch:=omega) only [Rx,simprocAttr,B121x0]
    · rw [if_neg (fun q=>hf (underB_iff.1 q))];simp
  by_cases e:c=t
  · subst e
    right
    have hf:Below S (c:Int) (h:Int):=hb.2 .here
    refine ⟨_, ?_, ?_,rfl⟩
    · rw [if_pos (underB_iff.2 hf)]
      have k0:(0:Int)≤(c:Int):=by omega
      simp -implicitDefEqProofs (disch:=omega) only [Rx,simprocAttr,B121x0,k0]
    · rw [if_pos (underB_iff.2 hf)];simp
  · left
    have e1:((c:Int)==(t:Int))=false:=by simp;omega
    have k0:(0:Int)≤(c:Int):=by omega
    have k1:(c:Int)<(S.N:Int):=by omega
    have hgn:(rowsAV S.N S.st av).getD c []=nodeAV (S.st c) (av c):=rowsAV_get hc
    refine ⟨(S.st c).up, ?_,⟨?_, ?_⟩, ?_⟩
    · simp only [machG,nodeAV] at hgn ⊢
      simp -implicitDefEqProofs (disch:=omega) only [Rx,simprocAttr,B121x0,k0,k1,e1,len1,hgn]
    · rcases hS.up c hc with h1 | ⟨p,h1,h2,_⟩
      · exact .inl h1
      · exact .inr ⟨p,h2,h1⟩
    · rw [hb,below_iff (by omega) (by omega)];rfl
    · have e2:¬ (c:Int)<0:=by omega
      simp only [Int.toNat_natCast,e2,if_false]
      rcases hS.up c hc with h1 | ⟨p,h1,h2,_⟩
      · rw [h1];simp
      · have:=hr2 c p hc h2
        rw [h2,Int.toNat_natCast]
        split <;> omega
theorem under_run {R:Nat} {S:MS} (hS:S.Ok R) (av:Nat→AV) (rest:List AObj) (t h:Nat) (hh:h<S.N) {n:Nat} (hn:R+3<n):acall T (n+1) 121 [MP,.p (.int .i64 h),.p (.int .i64 t)] (machG S.N S.st av rest)=some (.p (.bool (underB S h t)),machG S.N S.st av rest):=by
 rw [acall_code T121,run_code rfl rfl]
 have hl:=under_loop hS av rest t (acall T n) n hn h hh
 by_cases hb:Below S (t:Int) (h:Int)
 ·have e:underB S h t=true:=by simp [underB,hb]
  rw [if_pos e] at hl
  simp -implicitDefEqProofs (disch:=omega) only [Rx,simprocAttr,F121,hl,e]
 ·have e:underB S h t=false:=by simp [underB,hb]
  rw [if_neg (by rw [e];simp)] at hl
  simp -implicitDefEqProofs (disch:=omega) only [Rx,simprocAttr,F121,hl,e]
end Go.TA.Tryz


end
section
/- The machine's loose tops, read. -/
namespace Go.TA.Tryz
def looB (S:MS) (h:Nat):Bool:=(S.st h).live && (!(h==0) && decide ((S.st h).up<0))
theorem looseM_all (S:MS):looseM S=((List.range S.N).filter (looB S)).map fun h:Nat=>(h:Int):=by
 unfold looseM liveL
 rw [List.filter_filter]
 congr 1
 apply List.filter_congr
 intro h _
 simp [looB,Bool.and_comm]
theorem looseM_len (S:MS):(looseM S).length≤S.N:=by
 have h1:=liveL_len S
 have h2:=List.length_filter_le (fun h:Nat => !(h==0) && decide ((S.st h).up<0)) (liveL S)
 simp only [looseM,List.length_map]
 omega
theorem loose_run (S : MS) (hN : S.N ≤ 4194304) (av : Nat → AV) (rest : List AObj) (hM : MOk S.N av S.kd rest) {n : Nat} (hn : S.N < n) :
    acall T (n+1) 54 [MP] (machG S.N S.st av rest)=some (.own true (rest.length+1+1) (looseM S).length,machG S.N S.st av (rest++[.pcells 1 (intsPV (looseM S))])):=by
  have len1:(rowsAV S.N S.st av).length=S.N:=rowsAV_len
  have hlast:∀ X:AObj,(rest++[X])[rest.length]? = some X:=fun X=>by simp
  have hsetX:∀ X Y:AObj,(rest++[X]).set rest.length Y=rest++[Y]:=fun X Y=>by simp [List.set_append]
  rw [looseM_all]
  generalize hacc:(fun i:Nat=>((List.range i).filter (looB S)).map fun h:Nat=>(h:Int))=acc
  have hal:∀ i,i≤S.N→(acc i).length≤4194304:=fun i hi=>by
    rw [← hacc];simp only [List.length_map]
    have h3:=List.length_filter_le (looB S) (List.range i)
    rw [List.length_range] at h3
    omega
  have key:=loop_inv (C:=acall T n) (N:=n) (B:=B54x0) (σ := Nat) (S:=fun i=>⟨[(3,.own true (rest.length+1+1) (acc i).length),(12,.own true 0 S.N),(13,.p (.int .i64 S.N)),(14,.p (.int .i64 i))],[],machG S.N S.st av (rest++[.pcells 1 (intsPV (acc i))])⟩)
    (I:=fun i=>i≤S.N) (μ := fun i=>S.N - i) (Q:=fun r=>r=(.exit 0,⟨[(3,.own true (rest.length+1+1) (acc S.N).length)],[],machG S.N S.st av (rest++[.pcells 1 (intsPV (acc S.N))])⟩)) ?_ 0 (by omega) (by omega)
  · obtain ⟨r,hr,rfl⟩:=key
    have e0:acc 0=[]:=by rw [← hacc];simp
    have e1:acc S.N=((List.range S.N).filter (looB S)).map fun h:Nat=>(h:Int):=by rw [← hacc]
    rw [e0,e1] at hr
    generalize ((List.range S.N).filter (looB S)).map (fun h:Nat=>(h:Int))=l1 at hr ⊢
    simp only [List.length_nil,Int.natCast_zero,show intsPV []=[] from rfl] at hr
    rw [acall_code T54,run_code rfl rfl]
    simp only [machG] at hr ⊢
    simp -implicitDefEqProofs (disch:=omega) only [Rx,simprocAttr,F54,hr]
  intro i hi
  by_cases h1:i<S.N
  · left
    have k1:(i:Int)<(S.N:Int):=by omega
    have hg:(rowsAV S.N S.st av).getD i []=nodeAV (S.st i) (av i):=rowsAV_get h1
    have hs:acc (i+1)=acc i++if looB S i=true then [(i:Int)] else []:=by
      rw [← hacc]
      simp only
      rw [List.range_succ,List.filter_append,List.map_append]
      congr 1
      simp only [List.filter_cons,List.filter_nil]
      split <;> rfl
    have hll:=hal i hi
    have il:=intsPV_len (acc i)
    refine ⟨i+1, ?_,by omega,by omega⟩
    rw [hs]
    simp only [nodeAV] at hg
    by_cases e0:i=0
    · subst e0
      have ep:looB S 0=false:=by simp [looB]
      rw [ep]
      simp only [Bool.false_eq_true,if_false,List.append_nil]
      have e1:¬ (0:Int)<((0:Nat):Int):=by omega
      have k1':(0:Int)<(S.N:Int):=by omega
      generalize acc 0=a0 at hll il
      rcases (hM.kids 0 h1).inv with ⟨hav,_⟩ | ⟨r,hav,_⟩ | hav
      all_goals
        simp only [hav] at hg
        simp only [machG] at ⊢
        simp -implicitDefEqProofs (disch:=omega) only [Rx,simprocAttr,B54x0,k1',hg,len1,Int.natCast_zero,Int.zero_add]
    · have e1:(0:Int)<(i:Int):=by omega
      have e2:(i==0)=false:=by simpa using e0
      cases hlv:(S.st i).live with
      | false =>
        have ep:looB S i=false:=by simp [looB,hlv]
        rw [ep]
        simp only [Bool.false_eq_true,if_false,List.append_nil]
        rw [hlv] at hg
        generalize acc i=a0 at hll il
        rcases (hM.kids i h1).inv with ⟨hav,_⟩ | ⟨r,hav,_⟩ | hav
        all_goals
          simp only [hav] at hg
          simp only [machG] at ⊢
          simp -implicitDefEqProofs (disch:=omega) only [Rx,simprocAttr,B54x0,k1,hg,len1,e1]
      | true =>
        rw [hlv] at hg
        by_cases eu:(S.st i).up<0
        · have ep:looB S i=true:=by simp [looB,hlv,eu,e0]
          rw [ep,if_pos rfl]
          have os1:=intsPV_snoc (acc i) (i:Int)
          have ol1:(intsPV (acc i++[(i:Int)])).length=(acc i).length+1:=by rw [intsPV_len,List.length_append];rfl
          have ol3:(acc i++[(i:Int)]).length=(acc i).length+1:=by rw [List.length_append];rfl
          rw [ol3]
          generalize acc i++[(i:Int)]=acc1 at os1 ol1
          generalize acc i=a0 at hll il os1 ol1
          rcases (hM.kids i h1).inv with ⟨hav,_⟩ | ⟨r,hav,_⟩ | hav
          all_goals
            simp only [hav] at hg
            simp only [machG] at ⊢
            simp -implicitDefEqProofs (disch:=omega) only [Rx,simprocAttr,B54x0,k1,hg,len1,e1,eu,hlast,hsetX,il,os1,ol1]
        · have ep:looB S i=false:=by simp [looB,eu]
          rw [ep]
          simp only [Bool.false_eq_true,if_false,List.append_nil]
          generalize acc i=a0 at hll il
          rcases (hM.kids i h1).inv with ⟨hav,_⟩ | ⟨r,hav,_⟩ | hav
          all_goals
            simp only [hav] at hg
            simp only [machG] at ⊢
            simp -implicitDefEqProofs (disch:=omega) only [Rx,simprocAttr,B54x0,k1,hg,len1,e1,eu]
  · right
    obtain rfl:i=S.N:=by omega
    have k1:¬ (S.N:Int)<(S.N:Int):=by omega
    refine ⟨_, ?_, ?_,rfl⟩
    · simp -implicitDefEqProofs (disch:=omega) only [Rx,simprocAttr,B54x0,k1]
    · simp
end Go.TA.Tryz


end
section
/- The document's answer: where a node lies, is there one, is it below another one; rows of kids. -/
namespace Go.TA.Tryz
section
variable {L:List Nat} {st:Nat→MNode} {kd:Nat→List Int} {nx:Int} {av:Nat→AV} {p q:Nat} {g:List AObj}
theorem rd_node {o:AObj} (hr:RowRep 7 (rowsD L st av) o) {i c:Nat} (hi:L[i]? = some c) {j:Nat} (hj:j+1≤7):o.rd 1 L.length i j 7 false=some ((nAV c (st c) (av c)).getD j .bot) :=
 hr.rd1 rowsD_len (List.getElem?_eq_some_iff.1 hi).1 (rowsD_get hi) rfl hj
theorem at_run (hD : DC L st nx av p q g) (hL : L.length ≤ 4194304) (id : Int) {n : Nat} (hn : L.length < n) :
    acall T (n+1) 131 [DP p,.p (.int .i64 id)] g=some (.p (.int .i64 (posL L id)),g):=by
  obtain ⟨o,ho,hrep⟩:=hD.row
  have hob:=hD.obj
  have hix:=fun s i=>hrep.idx rowsD_len s true q i
  have key:=loop_inv (C:=acall T n) (N:=n) (B:=B131x0) (σ := Nat) (S:=fun i=>⟨[(0,DP p),(1,.p (.int .i64 id)),(10,.p (.int .i64 L.length)),(11,.p (.int .i64 i))],[],g⟩)
    (I:=fun i=>i≤L.length∧i≤L.findIdx (fun h:Nat=>(h:Int)==id)) (μ := fun i=>L.length - i) (Q:=fun r=>r=if L.findIdx (fun h:Nat=>(h:Int)==id)<L.length then (.ret,⟨[(4,.p (.int .i64 (L.findIdx (fun h:Nat=>(h:Int)==id))))],[],g⟩) else (.exit 0,⟨[],[],g⟩)) ?_ 0 ⟨by omega,by omega⟩ (by omega)
  · obtain ⟨r,hq,rfl⟩:=key
    simp only [Int.natCast_zero] at hq
    unfold posL
    rw [acall_code T131,run_code rfl rfl]
    by_cases hc:L.findIdx (fun h:Nat=>(h:Int)==id)<L.length
    · rw [if_pos hc] at hq
      rw [if_pos hc]
      simp -implicitDefEqProofs (disch:=omega) only [Rx,simprocAttr,F131,hob,hq]
    · rw [if_neg hc] at hq
      rw [if_neg hc]
      simp -implicitDefEqProofs (disch:=omega) only [Rx,simprocAttr,F131,hob,hq]
  rintro i ⟨h1,h2⟩
  by_cases hi:i<L.length
  · have k1:(i:Int)<(L.length:Int):=by omega
    obtain ⟨c,hc⟩:=get_some hi
    have hrd:=rd_node hrep hc (j:=0) (by omega)
    simp only [nAV] at hrd
    by_cases e:i=L.findIdx (fun h:Nat=>(h:Int)==id)
    · right
      have hp:((c:Int)==id)=true:=by
        have:=List.findIdx_getElem (xs:=L) (p:=fun h:Nat=>(h:Int)==id) (w:=by omega)
        have e2:=(List.getElem?_eq_some_iff.1 hc).2
        simp only [← e] at this
        rw [e2] at this
        exact this
      refine ⟨_, ?_, ?_,rfl⟩
      · rw [if_pos (by omega), ← e]
        simp -implicitDefEqProofs (disch:=omega) only [Rx,simprocAttr,B131x0,k1,hob,ho,hix,hrd,hp]
      · rw [if_pos (by omega)];simp
    · left
      have hp:((c:Int)==id)=false:=by
        have:=List.not_of_lt_findIdx (xs:=L) (p:=fun h:Nat=>(h:Int)==id) (i:=i) (by omega)
        have e2:=(List.getElem?_eq_some_iff.1 hc).2
        rw [e2] at this
        simpa using this
      refine ⟨i+1, ?_,⟨by omega,by omega⟩,by omega⟩
      simp -implicitDefEqProofs (disch:=omega) only [Rx,simprocAttr,B131x0,k1,hob,ho,hix,hrd,hp]
  · right
    obtain rfl:i=L.length:=by omega
    have k1:¬ (L.length:Int)<(L.length:Int):=by omega
    refine ⟨_, ?_, ?_,rfl⟩
    · rw [if_neg (by omega)]
      simp -implicitDefEqProofs (disch:=omega) only [Rx,simprocAttr,B131x0,k1]
    · rw [if_neg (by omega)];simp
theorem kidsF_run (hD:DC L st nx av p q g) (hL:L.length≤4194304) {c:Nat} (hc:c ∈ L) (ks:List (List PV)) {n:Nat} (hn:L.length<n) :
  ∃ o',acall T (n+2) 133 [DP p,.p (.int .i64 c),.p (.list ks)] g=some (.tuple [],g.set q o')∧RowRep 7 (rowsD L st (upd av c (.p (.list ks)))) o':=by
 obtain ⟨o,ho,hrep⟩:=hD.row
 have hob:=hD.obj
 have hix:=fun s i=>hrep.idx rowsD_len s true q i
 obtain ⟨i,hpos,hi⟩:=posL_in hc
 have hil:=(List.getElem?_eq_some_iff.1 hi).1
 have hat:=at_run hD hL (c:Int) (n:=n) hn
 rw [hpos] at hat
 have k1:(i:Int)<(L.length:Int):=by omega
 obtain ⟨o',hw,hr'⟩:=wr_node hrep hi (j:=2) (by omega) (.p (.list ks))
 rw [rows_kids hD.nodup hi] at hr'
 refine ⟨o', ?_,hr'⟩
 rw [acall_code T133,run_code rfl rfl]
 simp -implicitDefEqProofs (disch:=omega) only [Rx,simprocAttr,F133,hob,ho,hix,hat,hw]
end
section
variable {S:MS} {nx:Int} {av:Nat→AV} {p q:Nat} {g:List AObj}
theorem noneD_run (hD:DC (liveL S) S.st nx av p q g) (hL:(liveL S).length≤4194304) (id:Int) {n:Nat} (hn:(liveL S).length<n) :
  acall T (n+2) 130 [DP p,.p (.int .i64 id)] g=some (.p (.int .i64 (fitE S id)),g):=by
 have hat:=at_run hD hL id (n:=n) hn
 rw [acall_code T130,run_code rfl rfl]
 by_cases h0:id=0
 ·have e:(id==0)=true:=by simpa using h0
  simp -implicitDefEqProofs (disch:=omega) only [Rx,simprocAttr,F130,fitE,h0]
 have e:(id==0)=false:=by simpa using h0
 cases hv:liveB S id
 ·rw [posL_dead hv] at hat
  simp -implicitDefEqProofs (disch:=omega) only [Rx,simprocAttr,F130,fitE,h0,e,hat,hv]
 ·obtain ⟨c,rfl,hc⟩:=live_liveL hv
  obtain ⟨i,hpos,_⟩:=posL_in hc
  rw [hpos] at hat
  have k0:¬ (i:Int)<0:=by omega
  simp -implicitDefEqProofs (disch:=omega) only [Rx,simprocAttr,F130,fitE,h0,e,hat,hv,k0]
theorem underD_loop {R : Nat} (hS : S.Ok R) (hD : DC (liveL S) S.st nx av p q g) (hL : (liveL S).length ≤ 4194304) (t : Nat) {n : Nat} (hn : (liveL S).length < n) (N : Nat) (hN : R + 3 < N) (h : Nat) (hh : h ∈ liveL S) :
    aexec (acall T (n+1)) N (.loop B132x0) ⟨[(0,DP p),(1,.p (.int .i64 h)),(2,.p (.int .i64 t))],[],g⟩=some (if underB S (h:Int) (t:Int)=true then (.ret,⟨[(6,.p (.bool true))],[],g⟩) else (.exit 0,⟨[],[],g⟩)):=by
  obtain ⟨r,hr1,hr2⟩:=hS.rank
  obtain ⟨o,ho,hrep⟩:=hD.row
  have hob:=hD.obj
  have hix:=fun s i=>hrep.idx rowsD_len s true q i
  have hhN:=(mem_liveL.1 hh).1
  have key:=loop_inv (C:=acall T (n+1)) (N:=N) (B:=B132x0) (σ := Int) (S:=fun y=>⟨[(0,DP p),(1,.p (.int .i64 y)),(2,.p (.int .i64 t))],[],g⟩)
    (I:=fun y=>(y = -1∨∃ c:Nat,y=(c:Int)∧c ∈ liveL S)∧(Below S (t:Int) (h:Int)↔Below S (t:Int) y)) (μ := fun y=>if y<0 then 0 else r y.toNat+1)
    (Q:=fun z=>z=(if underB S (h:Int) (t:Int)=true then (.ret,⟨[(6,.p (.bool true))],[],g⟩) else (.exit 0,⟨[],[],g⟩))) ?_ (h:Int) ⟨.inr ⟨h,rfl,hh⟩,Iff.rfl⟩ (by
      have:=hr1 h hhN
      simp only [Int.toNat_natCast]
      split <;> omega)
  · obtain ⟨z,hz,rfl⟩:=key
    exact hz
  rintro y ⟨hy,hb⟩
  rcases hy with rfl | ⟨c,rfl,hc⟩
  · right
    have hf:¬ Below S (t:Int) (h:Int):=fun z=>below_neg (by omega) (hb.1 z)
    refine ⟨_, ?_, ?_,rfl⟩
    · rw [if_neg (fun z=>hf (underB_iff.1 z))]
      simp -implicitDefEqProofs (disch:=omega) only [Rx,simprocAttr,B132x0]
    · rw [if_neg (fun z=>hf (underB_iff.1 z))];simp
  have hcN:=(mem_liveL.1 hc).1
  by_cases e:c=t
  · subst e
    right
    have hf:Below S (c:Int) (h:Int):=hb.2 .here
    refine ⟨_, ?_, ?_,rfl⟩
    · rw [if_pos (underB_iff.2 hf)]
      have k0:(0:Int)≤(c:Int):=by omega
      simp -implicitDefEqProofs (disch:=omega) only [Rx,simprocAttr,B132x0,k0]
    · rw [if_pos (underB_iff.2 hf)];simp
  · left
    have e1:((c:Int)==(t:Int))=false:=by simp;omega
    have k0:(0:Int)≤(c:Int):=by omega
    obtain ⟨i,hpos,hi⟩:=posL_in hc
    have hil:=(List.getElem?_eq_some_iff.1 hi).1
    have k1:(i:Int)<((liveL S).length:Int):=by omega
    have hat:=at_run hD hL (c:Int) (n:=n) hn
    rw [hpos] at hat
    have hrd:=rd_node hrep hi (j:=1) (by omega)
    simp only [nAV] at hrd
    refine ⟨(S.st c).up, ?_,⟨?_, ?_⟩, ?_⟩
    · simp -implicitDefEqProofs (disch:=omega) only [Rx,simprocAttr,B132x0,k0,e1,hob,ho,hix,hat,hrd]
    · rcases hS.up c hcN with h1 | ⟨p,h1,h2,h3,_⟩
      · exact .inl h1
      · exact .inr ⟨p,h2,mem_liveL.2 ⟨h1,h3⟩⟩
    · rw [hb,below_iff (by omega) (by omega)];rfl
    · have e2:¬ (c:Int)<0:=by omega
      simp only [Int.toNat_natCast,e2,if_false]
      rcases hS.up c hcN with h1 | ⟨p,h1,h2,_⟩
      · rw [h1];simp
      · have:=hr2 c p hcN h2
        rw [h2,Int.toNat_natCast]
        split <;> omega
theorem underD_run {R:Nat} (hS:S.Ok R) (hD:DC (liveL S) S.st nx av p q g) (hL:(liveL S).length≤4194304) (t h:Nat) (hh:h ∈ liveL S) {n:Nat} (hn:(liveL S).length<n) (hR:R+3<n):acall T (n+2) 132 [DP p,.p (.int .i64 h),.p (.int .i64 t)] g=some (.p (.bool (underB S h t)),g):=by
 rw [acall_code T132,run_code rfl rfl]
 have hl:=underD_loop hS hD hL t (n:=n) hn (n+1) (by omega) h hh
 by_cases hb:Below S (t:Int) (h:Int)
 ·have e:underB S h t=true:=by simp [underB,hb]
  rw [if_pos e] at hl
  simp -implicitDefEqProofs (disch:=omega) only [Rx,simprocAttr,F132,hl,e]
 ·have e:underB S h t=false:=by simp [underB,hb]
  rw [if_neg (by rw [e];simp)] at hl
  simp -implicitDefEqProofs (disch:=omega) only [Rx,simprocAttr,F132,hl,e]
end
theorem in_run (l:List Int) (h b:Int) (hl:l.length≤4194304) (g:List AObj) {n:Nat} (hn:l.length<n) :
  acall T (n+1) 134 [.p (.list (intsPV l)),.p (.int .i64 h),.p (.int .i64 b)] g=some (.p (.list (intsPV (inL l h b))),g):=by
 have il:=intsPV_len l
 generalize hf:(fun k:Int=>if k=b then [h,k] else [k])=f
 have hlen:∀ i,((l.take i).flatMap f).length≤2*l.length:=fun i=>by
  have:=in_len (l.take i) h b
  rw [hf] at this
  have h2:(l.take i).length≤l.length:=by rw [List.length_take];omega
  omega
 have key:=loop_inv (C:=acall T n) (N:=n) (B:=B134x0) (σ := Nat) (S:=fun i=>⟨[(0,.p (.list (intsPV l))),(1,.p (.int .i64 h)),(2,.p (.int .i64 b)),(7,.own false 1000 ((l.take i).flatMap f).length),(10,.p (.int .i64 l.length)),(11,.p (.int .i64 i))],[(1000,.pcells 1 (intsPV ((l.take i).flatMap f)))],[]⟩)
  (I:=fun i=>i≤l.length) (μ := fun i=>l.length - i) (Q:=fun r=>r=(.exit 0,⟨[(1,.p (.int .i64 h)),(2,.p (.int .i64 b)),(7,.own false 1000 (l.flatMap f).length)],[(1000,.pcells 1 (intsPV (l.flatMap f)))],[]⟩)) ?_ 0 (by omega) (by omega)
 ·obtain ⟨r,hq,rfl⟩:=key
  have il2:=intsPV_len (l.flatMap f)
  have hll:=hlen l.length
  rw [List.take_length] at hll
  simp only [List.take_zero,List.flatMap_nil,List.length_nil,Int.natCast_zero,show intsPV []=[] from rfl] at hq
  have hres:inL l h b=l.flatMap f++if b=0 then [h] else []:=by rw [inL, ← hf]
  rw [hres]
  generalize l.flatMap f=acc at hq il2 hll
  rw [acall_code T134,run_pure rfl rfl rfl]
  by_cases hb:b=0
  ·have e:(b==0)=true:=by simpa using hb
   rw [if_pos hb]
   have os:=intsPV_snoc acc h
   have ol:=intsPV_len (acc++[h])
   rw [List.length_append] at ol
   generalize acc++[h]=acc' at os ol ⊢
   simp -implicitDefEqProofs (disch:=omega) only [Rx,simprocAttr,F134,hq,il,il2,e,os,ol]
  ·have e:(b==0)=false:=by simpa using hb
   rw [if_neg hb,List.append_nil]
   simp -implicitDefEqProofs (disch:=omega) only [Rx,simprocAttr,F134,hq,il,il2,e]
 intro i hi
 by_cases h1:i<l.length
 ·left
  obtain ⟨x,hx⟩:∃ x,l[i]? = some x:=⟨_,List.getElem?_eq_getElem h1⟩
  have k1:(i:Int)<(l.length:Int):=by omega
  have hg:=intsPV_get hx
  have hs:=flat_stepI (f:=f) hx
  have hll:=hlen i
  refine ⟨i+1, ?_,by omega,by omega⟩
  rw [hs]
  generalize (l.take i).flatMap f=acc at hll
  have il2:=intsPV_len acc
  by_cases e:x=b
  ·have e1:(x==b)=true:=by simpa using e
   have hfx:f x=[h,x]:=by rw [← hf];simp [e]
   rw [hfx]
   have os1:=intsPV_snoc acc h
   have os2:=intsPV_snoc (acc++[h]) x
   have ol1:(intsPV (acc++[h])).length=acc.length+1:=by rw [intsPV_len,List.length_append];rfl
   have ol2:(intsPV (acc++[h,x])).length=acc.length+1+1:=by rw [intsPV_len,List.length_append];rfl
   have ol3:(acc++[h,x]).length=acc.length+1+1:=by rw [List.length_append];rfl
   have oe:acc++[h]++[x]=acc++[h,x]:=by simp
   rw [oe] at os2
   rw [ol3]
   generalize acc++[h,x]=acc2 at os2 ol2
   generalize acc++[h]=acc1 at os1 os2 ol1
   simp -implicitDefEqProofs (disch:=omega) only [Rx,simprocAttr,B134x0,k1,hg,il,il2,e1,os1,os2,ol1,ol2]
  ·have e1:(x==b)=false:=by simpa using e
   have hfx:f x=[x]:=by rw [← hf];simp [e]
   rw [hfx]
   have os1:=intsPV_snoc acc x
   have ol1:(intsPV (acc++[x])).length=acc.length+1:=by rw [intsPV_len,List.length_append];rfl
   have ol3:(acc++[x]).length=acc.length+1:=by rw [List.length_append];rfl
   rw [ol3]
   generalize acc++[x]=acc1 at os1 ol1
   simp -implicitDefEqProofs (disch:=omega) only [Rx,simprocAttr,B134x0,k1,hg,il,il2,e1,os1,ol1]
 ·right
  obtain rfl:i=l.length:=by omega
  have k1:¬ (l.length:Int)<(l.length:Int):=by omega
  refine ⟨_, ?_, ?_,rfl⟩
  ·rw [List.take_length]
   simp -implicitDefEqProofs (disch:=omega) only [Rx,simprocAttr,B134x0,k1]
  ·simp
theorem out_run (l:List Int) (h:Int) (hl:l.length≤8388610) (g:List AObj) {n:Nat} (hn:l.length<n) :
  acall T (n+1) 176 [.p (.list (intsPV l)),.p (.int .i64 h)] g=some (.p (.list (intsPV (l.filter fun k => !(k==h)))),g):=by
 have il:=intsPV_len l
 generalize hf:(fun k:Int => !(k==h))=f
 have hlen:∀ i,((l.take i).filter f).length≤l.length:=fun i=>by
  have:=List.length_filter_le f (l.take i)
  have h2:(l.take i).length≤l.length:=by rw [List.length_take];omega
  omega
 have key:=loop_inv (C:=acall T n) (N:=n) (B:=B176x0) (σ := Nat) (S:=fun i=>⟨[(0,.p (.list (intsPV l))),(1,.p (.int .i64 h)),(5,.own false 1000 ((l.take i).filter f).length),(8,.p (.int .i64 l.length)),(9,.p (.int .i64 i))],[(1000,.pcells 1 (intsPV ((l.take i).filter f)))],[]⟩)
  (I:=fun i=>i≤l.length) (μ := fun i=>l.length - i) (Q:=fun r=>r=(.exit 0,⟨[(5,.own false 1000 (l.filter f).length)],[(1000,.pcells 1 (intsPV (l.filter f)))],[]⟩)) ?_ 0 (by omega) (by omega)
 ·obtain ⟨r,hq,rfl⟩:=key
  have il2:=intsPV_len (l.filter f)
  simp only [List.take_zero,List.filter_nil,List.length_nil,Int.natCast_zero,show intsPV []=[] from rfl] at hq
  generalize l.filter f=acc at hq il2
  rw [acall_code T176,run_pure rfl rfl rfl]
  simp -implicitDefEqProofs (disch:=omega) only [Rx,simprocAttr,F176,hq,il,il2]
 intro i hi
 by_cases h1:i<l.length
 ·left
  obtain ⟨x,hx⟩:∃ x,l[i]? = some x:=⟨_,List.getElem?_eq_getElem h1⟩
  have k1:(i:Int)<(l.length:Int):=by omega
  have hg:=intsPV_get hx
  have hs:(l.take (i+1)).filter f=(l.take i).filter f++if f x=true then [x] else []:=by
   rw [List.take_add_one,hx,List.filter_append]
   simp [List.filter_cons]
  have hll:=hlen i
  refine ⟨i+1, ?_,by omega,by omega⟩
  rw [hs]
  generalize (l.take i).filter f=acc at hll
  have il2:=intsPV_len acc
  by_cases e:x=h
  ·have e1:(x==h)=true:=by simpa using e
   have hfx:f x=false:=by rw [← hf];simp [e]
   rw [hfx]
   simp only [Bool.false_eq_true,if_false,List.append_nil]
   simp -implicitDefEqProofs (disch:=omega) only [Rx,simprocAttr,B176x0,k1,hg,il,e1]
  ·have e1:(x==h)=false:=by simpa using e
   have hfx:f x=true:=by rw [← hf];simp [e]
   rw [hfx,if_pos rfl]
   have os1:=intsPV_snoc acc x
   have ol1:(intsPV (acc++[x])).length=acc.length+1:=by rw [intsPV_len,List.length_append];rfl
   have ol3:(acc++[x]).length=acc.length+1:=by rw [List.length_append];rfl
   rw [ol3]
   generalize acc++[x]=acc1 at os1 ol1
   simp -implicitDefEqProofs (disch:=omega) only [Rx,simprocAttr,B176x0,k1,hg,il,il2,e1,os1,ol1]
 ·right
  obtain rfl:i=l.length:=by omega
  have k1:¬ (l.length:Int)<(l.length:Int):=by omega
  refine ⟨_, ?_, ?_,rfl⟩
  ·rw [List.take_length]
   simp -implicitDefEqProofs (disch:=omega) only [Rx,simprocAttr,B176x0,k1]
  ·simp
end Go.TA.Tryz


end
section
/- What is done with a document, whichever text does it. Plain. -/
namespace Go.TA
theorem nodup_sub {α : Type} [BEq α] [LawfulBEq α]:∀ {l m:List α},l.Nodup→(∀ x ∈ l,x ∈ m)→l.length≤m.length
  | [],m,_,_=>by simp
  | a :: l, m, hn, h => by
    rw [List.nodup_cons] at hn
    have:=nodup_sub (l:=l) (m:=m.erase a) hn.2 (fun x hx=>by
      have hne:x≠a:=fun e=>hn.1 (e ▸ hx)
      exact (List.mem_erase_of_ne hne).2 (h x (by simp [hx])))
    rw [List.length_erase_of_mem (h a (by simp))] at this
    have hp:0<m.length:=List.length_pos_of_mem (h a (by simp))
    rw [List.length_cons];omega
section
variable {R:Nat} {S:MS}
theorem kd_len (hS:S.Ok R) {u:Nat} (hu:u<S.N):(S.kd u).length≤(liveL S).length:=by
 have:=nodup_sub (m:=(liveL S).map fun c:Nat=>(c:Int)) (hS.nodup u hu) (fun k hk=>by
  obtain ⟨c,rfl,hc,hl,_⟩:=hS.kids u hu k hk
  exact List.mem_map.2 ⟨c,mem_liveL.2 ⟨hc,hl⟩,rfl⟩)
 rwa [List.length_map] at this
theorem zero_kid (hS:S.Ok R) {u:Nat} (hu:u<S.N):(0:Int) ∉ S.kd u:=fun h=>by
 obtain ⟨c,e,_,_,h2⟩:=hS.kids u hu _ h
 have:c=0:=by omega
 subst this
 have:=hS.top.2
 omega
theorem liveL_congr {S':MS} (hN:S.N=S'.N) (h:∀ k,(S.st k).live=(S'.st k).live):liveL S=liveL S':=by
 unfold liveL
 rw [hN]
 congr 1
 funext k
 exact h k
end
noncomputable def insertD (S:MS) (id up b:Int):Int × MS :=
 if fitE S id≠0 then (fitE S id,S)
 else if (liveB S up && liveB S b)=false then (13,S)
 else if 0≤upOf S id then (15,S)
 else if underB S up id=true then (17,S)
 else if b≠0∧upOf S b≠up then (18,S)
 else (0,placeM S id.toNat up.toNat b)
def moveD (S:MS) (id b:Int):Int × MS :=
 if fitE S id≠0 then (fitE S id,S)
 else if liveB S b=false then (13,S)
 else if upOf S id<0 then (16,S)
 else if b=id∨(b≠0∧upOf S b≠upOf S id) then (18,S)
 else (0,placeM (takeM S id.toNat) id.toNat (upOf S id).toNat b)
theorem fit_live {S:MS} {id:Int} (h:¬ fitE S id≠0):∃ c:Nat,id=(c:Int)∧c ∈ liveL S∧0<c:=by
 unfold fitE at h
 split at h
 ·omega
 ·split at h
  ·rename_i h0 hl
   obtain ⟨c,rfl,hc⟩:=live_liveL hl
   exact ⟨c,rfl,hc,by omega⟩
  ·omega
noncomputable def removeD (S:MS) (id:Int):Int × MS:=if fitE S id≠0 then (fitE S id,S) else (0,endM (takeM S id.toNat) id)
theorem below_same {S S':MS} {t:Int} (h:∀ y:Int,y≠t→upOf S' y=upOf S y) (y:Int):Below S t y↔Below S' t y:=by
  constructor
  · intro hb
    induction hb with
    | here=>exact .here
    | @up y h1 h2 ih =>
      by_cases e:y=t
      · subst e;exact .here
      · exact .up h1 (by rw [h y e];exact ih)
  · intro hb
    induction hb with
    | here=>exact .here
    | @up y h1 h2 ih =>
      by_cases e:y=t
      · subst e;exact .here
      · exact .up h1 (by rw [← h y e];exact ih)
theorem take_below {S:MS} {c:Nat} (hc:0<c) (y:Int):Below S (c:Int) y↔Below (takeM S c) (c:Int) y:=by
 refine below_same (fun z hz => ?_) y
 unfold takeM
 split
 ·rfl
 ·have:z.toNat≠c:=by omega
  simp only [upOf]
  rw [upd_ne this]
theorem liveL_end {S:MS} {c:Nat} (hc:0<c):liveL (endM (takeM S c) (c:Int))=(liveL S).filter fun h:Nat => !(underB S (h:Int) (c:Int)):=by
 classical
 unfold liveL
 rw [List.filter_filter,show (endM (takeM S c) (c:Int)).N=S.N from takeM_N S c]
 congr 1
 funext h
 simp only [endM]
 by_cases hb:Below (takeM S c) (c:Int) (h:Int)
 ·rw [if_pos hb,underB_iff.2 ((take_below hc _).2 hb)];rfl
 ·have:underB S (h:Int) (c:Int)=false:=by
   cases e:underB S (h:Int) (c:Int) with
   | false=>rfl
   | true=>exact absurd ((take_below hc _).1 (underB_iff.1 e)) hb
  rw [if_neg hb,takeM_live,this];simp
theorem end_kept {S:MS} {c:Nat} (hc:0<c):∀ k ∈ (liveL S).filter fun h:Nat => !(underB S (h:Int) (c:Int)),S.st k=(endM (takeM S c) (c:Int)).st k∧(takeM S c).kd k=(endM (takeM S c) (c:Int)).kd k:=by
 classical
 intro k hk
 have hu:=(List.mem_filter.1 hk).2
 simp only [Bool.not_eq_true'] at hu
 have hb:¬ Below (takeM S c) (c:Int) (k:Int):=fun h=>by
  rw [underB_iff.2 ((take_below hc _).2 h)] at hu;cases hu
 have hne:k≠c:=fun e=>by subst e;exact hb .here
 simp only [endM,if_neg hb,and_true]
 unfold takeM
 split
 ·rfl
 ·simp only;rw [upd_ne hne]
def nodeM (S:MS) (h:Nat) (s:MNode):MS:=⟨S.N,upd S.st h s,S.kd⟩
theorem liveL_node {S:MS} {h:Nat} {s:MNode} (hs:s.live=(S.st h).live):liveL (nodeM S h s)=liveL S:=liveL_congr rfl (fun k=>by
 simp only [nodeM]
 by_cases e:k=h
 ·subst e;rw [upd_at,hs]
 ·rw [upd_ne e])
def setD (S:MS) (id:Int) (name v:Bs):Int × MS :=
 if fitE S id≠0 then (fitE S id,S) else if namedB true name=false then (8,S) else if 65536<(v.length:Int) then (3,S)
 else if 64<((withA (S.st id.toNat).attrs name v).length:Int) then (12,S) else (0,setM S id.toNat (withA (S.st id.toNat).attrs name v))
def delD (S:MS) (id:Int) (name:Bs):Int × MS :=
 if fitE S id≠0 then (fitE S id,S)
 else if (withoutA (S.st id.toNat).attrs name).length<(S.st id.toNat).attrs.length then (0,setM S id.toNat (withoutA (S.st id.toNat).attrs name)) else (8,S)
def textD (S:MS) (id:Int) (s:Bs):Int × MS :=
 if fitE S id≠0 then (fitE S id,S) else if 65536<(s.length:Int) then (3,S) else (0,textM S id.toNat s)
def createErr (N:Nat) (x:GOp):Int:=if namedB false x.tag=false then 7 else if 65536<(x.key.length:Int)∨65536<(x.text.length:Int) then 3 else if attrsErr x.attrs≠0 then attrsErr x.attrs else if 4294967295<(N:Int) then 21 else 0
theorem liveL_create (S:MS) (x:GOp):liveL (S.create x)=liveL S++[S.N]:=by
 unfold liveL
 simp only [MS.create,List.range_succ,List.filter_append,List.filter_cons,List.filter_nil,upd_at,if_true]
 congr 1
 refine List.filter_congr fun k hk => ?_
 have:=List.mem_range.1 hk
 rw [upd_ne (by omega)]
noncomputable def doD (S:MS) (x:GOp):Int × Int × MS :=
 if x.kind=1 then (if createErr S.N x=0 then ((S.N:Int),0,S.create x) else (0,createErr S.N x,S))
 else if x.kind=2 then (0,insertD S x.node x.up x.before)
 else if x.kind=3 then (0,moveD S x.node x.before)
 else if x.kind=4 then (0,removeD S x.node)
 else if x.kind=5 then (0,setD S x.node x.name x.text)
 else if x.kind=6 then (0,delD S x.node x.name)
 else if x.kind=7 then (0,textD S x.node x.text)
 else (0,0,S)
end Go.TA


end
section
/- The document's answer: a node is put below another one, or elsewhere. -/
namespace Go.TA
theorem DM.congr {L:List Nat} {st st':Nat→MNode} {kd kd':Nat→List Int} {nx:Int} {av:Nat→AV} {p q:Nat} {g:List AObj} (h:DM L st kd nx av p q g) (hs:∀ k ∈ L,st k=st' k∧kd k=kd' k):DM L st' kd' nx av p q g where
 core:=⟨h.core.obj,by
  obtain ⟨o,h1,h2⟩:=h.core.row
  exact ⟨o,h1,by rwa [rowsD_congr (st':=st') (av':=av) (fun k hk=>⟨(hs k hk).1,rfl⟩)] at h2⟩,h.core.pq,h.core.nodup⟩
 kids k hk:=by rw [← (hs k hk).2];exact h.kids k hk
 away:=h.away
 disj:=h.disj
namespace Tryz
section
variable {R:Nat} {S:MS} {nx:Int} {av:Nat→AV} {p q:Nat} {g:List AObj}
theorem insertD_run (hS:S.Ok R) (hD:DM (liveL S) S.st S.kd nx av p q g) (hL:(liveL S).length≤4194304) (id up b:Int) {n:Nat} (hn:(liveL S).length<n) (hR:R+3<n) :
    ∃ av' g',acall T (n+4) 77 [DP p,.p (.int .i64 id),.p (.int .i64 up),.p (.int .i64 b)] g=some (.p (.int .i64 (insertD S id up b).1),g')∧DM (liveL (insertD S id up b).2) (insertD S id up b).2.st (insertD S id up b).2.kd nx av' p q g'∧DFr (liveL S) av p q g (liveL (insertD S id up b).2) av' q g':=by
  obtain ⟨o,ho,hrep⟩:=hD.core.row
  have hob:=hD.core.obj
  have hix:=fun s i=>hrep.idx rowsD_len s true q i
  have hno:=noneD_run hD.core hL id (n:=n+1) (by omega)
  have hat:=fun id=>at_run hD.core hL id (n:=n+2) (by omega)
  unfold insertD
  by_cases hf:fitE S id≠0
  · rw [if_pos hf]
    have e1:(fitE S id==0)=false:=by simpa using hf
    refine ⟨av,g, ?_,hD,DFr.refl _ _ _ _ _⟩
    rw [acall_code T77,run_code rfl rfl]
    generalize fitE S id=e at hno e1 ⊢
    simp -implicitDefEqProofs (disch:=omega) only [Rx,simprocAttr,F77,hno,e1]
  rw [if_neg hf]
  obtain ⟨c,rfl,hcL,hc0⟩:=fit_live hf
  simp only [ne_eq,Decidable.not_not] at hf
  rw [hf] at hno
  by_cases hl:(liveB S up && liveB S b)=false
  · rw [if_pos hl]
    refine ⟨av,g, ?_,hD,DFr.refl _ _ _ _ _⟩
    have hat1:=hat up
    have hat2:=hat b
    rw [acall_code T77,run_code rfl rfl]
    cases a1:liveB S up with
    | false =>
      rw [posL_dead a1] at hat1
      simp -implicitDefEqProofs (disch:=omega) only [Rx,simprocAttr,F77,hno,hat1]
    | true =>
      obtain ⟨u,hu,huL⟩:=live_liveL a1
      obtain ⟨i,hi,_⟩:=posL_in huL
      have a2:liveB S b=false:=by rw [a1] at hl;simpa using hl
      rw [posL_dead a2] at hat2
      rw [hu,hi] at hat1
      have k1:¬ (i:Int)<0:=by omega
      rw [hu]
      simp -implicitDefEqProofs (disch:=omega) only [Rx,simprocAttr,F77,hno,hat1,hat2,k1]
  rw [if_neg hl]
  simp only [Bool.not_eq_false,Bool.and_eq_true] at hl
  obtain ⟨a2,a3⟩:=hl
  obtain ⟨u,rfl,huL⟩:=live_liveL a2
  obtain ⟨w,rfl,hwL⟩:=live_liveL a3
  obtain ⟨ic,hpc,hic⟩:=posL_in hcL
  obtain ⟨iu,hpu,hiu⟩:=posL_in huL
  obtain ⟨iw,hpw,hiw⟩:=posL_in hwL
  have hat1:=hat (c:Int)
  have hat2:=hat (u:Int)
  have hat3:=hat (w:Int)
  rw [hpc] at hat1
  rw [hpu] at hat2
  rw [hpw] at hat3
  have lc:=(List.getElem?_eq_some_iff.1 hic).1
  have lu:=(List.getElem?_eq_some_iff.1 hiu).1
  have lw:=(List.getElem?_eq_some_iff.1 hiw).1
  have kc:(ic:Int)<((liveL S).length:Int):=by omega
  have ku:(iu:Int)<((liveL S).length:Int):=by omega
  have kw:(iw:Int)<((liveL S).length:Int):=by omega
  have ku0:¬ (iu:Int)<0:=by omega
  have kw0:¬ (iw:Int)<0:=by omega
  have rdc:=rd_node hrep hic (j:=1) (by omega)
  have rdw:=rd_node hrep hiw (j:=1) (by omega)
  simp only [nAV] at rdc rdw
  have un:=underD_run hS hD.core hL c u huL (n:=n+1) (by omega) (by omega)
  have uo:upOf S (c:Int)=(S.st c).up:=rfl
  have ub:upOf S (w:Int)=(S.st w).up:=rfl
  rw [uo,ub]
  simp only [Int.toNat_natCast]
  by_cases h15:0≤(S.st c).up
  · rw [if_pos h15]
    refine ⟨av,g, ?_,hD,DFr.refl _ _ _ _ _⟩
    have k15:(S.st c).up ≥ 0:=h15
    rw [acall_code T77,run_code rfl rfl]
    simp -implicitDefEqProofs (disch:=omega) only [Rx,simprocAttr,F77,hno,hat1,hat2,hat3,ku0,kw0,hob,ho,hix,rdc,k15]
  rw [if_neg h15]
  have k15:¬ (S.st c).up ≥ 0:=h15
  by_cases h17:underB S (u:Int) (c:Int)=true
  · rw [if_pos h17]
    rw [h17] at un
    refine ⟨av,g, ?_,hD,DFr.refl _ _ _ _ _⟩
    rw [acall_code T77,run_code rfl rfl]
    simp -implicitDefEqProofs (disch:=omega) only [Rx,simprocAttr,F77,hno,hat1,hat2,hat3,ku0,kw0,hob,ho,hix,rdc,k15,un]
  rw [if_neg h17]
  simp only [Bool.not_eq_true] at h17
  rw [h17] at un
  by_cases h18:(w:Int)≠0∧(S.st w).up≠(u:Int)
  · rw [if_pos h18]
    refine ⟨av,g, ?_,hD,DFr.refl _ _ _ _ _⟩
    have e1:((w:Int)==0)=false:=by simpa using h18.1
    have e2:((S.st w).up==(u:Int))=false:=by simpa using h18.2
    rw [acall_code T77,run_code rfl rfl]
    simp -implicitDefEqProofs (disch:=omega) only [Rx,simprocAttr,F77,hno,hat1,hat2,hat3,ku0,kw0,hob,ho,hix,rdc,rdw,k15,un,e1,e2]
  rw [if_neg h18]
  obtain ⟨hcN,hcl⟩:=mem_liveL.1 hcL
  obtain ⟨huN,hul⟩:=mem_liveL.1 huL
  obtain ⟨hwN,hwl⟩:=mem_liveL.1 hwL
  have hbk:(w:Int)=0∨(w:Int) ∈ S.kd u:=by
    by_cases e:(w:Int)=0
    · exact .inl e
    · right
      by_cases e2:(S.st w).up=(u:Int)
      · exact kid_in hS hwN e2
      · exact absurd ⟨e,e2⟩ h18
  have hkl:=kd_len hS huN
  have hK:=hD.kids u huL
  have hks:=inL_insI (h:=(c:Int)) (hS.nodup u huN) (zero_kid hS huN) hbk
  have hin:=in_run (S.kd u) (c:Int) (w:Int) (by omega) [] (n:=n+2) (by omega)
  rw [hks] at hin
  have hD1:=hD.core.kill (hD.away u huL).1 (hD.away u huL).2
  obtain ⟨o1,hk1,hr1⟩:=kidsF_run hD1 hL huL (intsPV (insI (S.kd u) (c:Int) (w:Int))) (n:=n+1) (by omega)
  have hD2:=hD.fix huL (insI (S.kd u) (c:Int) (w:Int)) hr1
  have hF2:=DFr.fix hD huL (intsPV (insI (S.kd u) (c:Int) (w:Int))) o1
  generalize hg2:(killG g (av u)).set q o1=g2 at hk1 hD2 hF2
  generalize hav2:upd av u (.p (.list (intsPV (insI (S.kd u) (c:Int) (w:Int)))))=av2 at hD2 hF2
  obtain ⟨o2,ho2,hrep2⟩:=hD2.core.row
  have hob2:=hD2.core.obj
  have hix2:=fun s i=>hrep2.idx rowsD_len s true q i
  have hat4:=at_run hD2.core hL (c:Int) (n:=n+2) (by omega)
  rw [hpc] at hat4
  obtain ⟨o3,hw3,hr3⟩:=wr_node hrep2 hic (j:=1) (by omega) (.p (.int .i64 u))
  have e3:(rowsD (liveL S) S.st av2).set ic ((nAV c (S.st c) (av2 c)).set 1 (.p (.int .i64 u)))=rowsD (liveL S) (upd S.st c { S.st c with up:=(u:Int) }) av2:=by
    rw [← rows_node hD.core.nodup hic];rfl
  rw [e3] at hr3
  have hD3:=hD2.node _ hr3
  have hF3:=hF2.trans (DFr.node (L:=liveL S) (av:=av2) (p:=p) (q:=q) (g:=g2) o3)
  have hlive:liveL (placeM S c u (w:Int))=liveL S:=liveL_congr rfl (fun k=>by
    simp only [placeM]
    by_cases e:k=c
    · subst e;rw [upd_at]
    · rw [upd_ne e])
  refine ⟨av2,g2.set q o3, ?_,by rw [hlive];exact hD3,by rw [hlive];exact hF3⟩
  have rdu:=rd_node hrep hiu (j:=2) (by omega)
  simp only [nAV] at rdu
  generalize insI (S.kd u) (c:Int) (w:Int)=ks' at hin hk1
  have kl:=intsPV_len (S.kd u)
  have hfz:=hK.frz
  generalize killG g (av u)=g1 at hk1 hfz
  generalize av u=au at rdu hfz
  rw [acall_code T77,run_code rfl rfl]
  by_cases e:(w:Int)=0
  · have e1:((w:Int)==0)=true:=by simpa using e
    simp -implicitDefEqProofs (disch:=omega) only [Rx,simprocAttr,F77,hno,hat1,hat2,hat3,hat4,ku0,kw0,hob,ho,hix,rdc,rdu,k15,un,e1,hin,hk1,hob2,ho2,hix2,hw3,hfz]
  · have e1:((w:Int)==0)=false:=by simpa using e
    have e2:((S.st w).up==(u:Int))=true:=by
      by_cases e2:(S.st w).up=(u:Int)
      · simpa using e2
      · exact absurd ⟨e,e2⟩ h18
    simp -implicitDefEqProofs (disch:=omega) only [Rx,simprocAttr,F77,hno,hat1,hat2,hat3,hat4,ku0,kw0,hob,ho,hix,rdc,rdw,rdu,k15,un,e1,e2,hin,hk1,hob2,ho2,hix2,hw3,hfz]
end
end Tryz
end Go.TA


end
section
/- The document's answer: its rows, its loose nodes. -/
namespace Go.TA
namespace Tryz
section
variable {R:Nat} {S:MS} {nx:Int} {av:Nat→AV} {p q:Nat} {g:List AObj}
theorem bel_body (hS : S.Ok R) (hN : S.N ≤ 8589934592) (hD : DM (liveL S) S.st S.kd nx av p q g) (hL : (liveL S).length ≤ 4194304) (m : Nat) (hm : (liveL S).length + 1 < m) (d h : Nat) (up : Int) (out : List GRow) (hh : h ∈ liveL S) (hp : PreO S out h) (hol : out.length ≤ S.N)
    (ih:∀ c:Nat,c ∈ liveL S→(S.st c).up=(h:Int)→∀ (out:List GRow) (up:Int),out.length≤S.N→PreO S out c→acall T m 86 [DP p,.own true g.length out.length,.p (.int .i64 c),.p (.int .i64 up)] (g++[.pcells 6 (out.map GRow.pv)])=some (.own true g.length (belowM S d out (c:Int) up).length,g++[.pcells 6 ((belowM S d out (c:Int) up).map GRow.pv)])) :
    acall T (m+1) 86 [DP p,.own true g.length out.length,.p (.int .i64 h),.p (.int .i64 up)] (g++[.pcells 6 (out.map GRow.pv)])=some (.own true g.length (belowM S (d+1) out (h:Int) up).length,g++[.pcells 6 ((belowM S (d+1) out (h:Int) up).map GRow.pv)]):=by
  have hhN:=(mem_liveL.1 hh).1
  have hK:=hD.kids h hh
  have hkl:=kd_len hS hhN
  have hDX:=fun X=>hD.core.more [X]
  obtain ⟨o,ho,hrep⟩:=hD.core.row
  have hpl:=(List.getElem?_eq_some_iff.1 hD.core.obj).1
  have hql:=(List.getElem?_eq_some_iff.1 ho).1
  have hob:∀ X,(g++[X])[p]? = some (.cells 2 [[.own true q (liveL S).length,.p (.int .i64 nx)]]):=fun X=>by rw [List.getElem?_append_left hpl];exact hD.core.obj
  have hoX:∀ X,(g++[X])[q]? = some o:=fun X=>by rw [List.getElem?_append_left hql];exact ho
  have hlast:∀ X,(g++[X])[g.length]? = some X:=fun X=>by simp
  have hsetX:∀ X Y,(g++[X]).set g.length Y=g++[Y]:=fun X Y=>by simp [List.set_append]
  have hix:=fun s i=>hrep.idx rowsD_len s true q i
  have hatX:=fun X id=>at_run (hDX X) hL id (n:=m - 1) (by omega)
  rw [show m - 1+1=m by omega] at hatX
  have il:=intsPV_len (S.kd h)
  obtain ⟨ih0,hph,hih⟩:=posL_in hh
  have lh:=(List.getElem?_eq_some_iff.1 hih).1
  have kh:(ih0:Int)<((liveL S).length:Int):=by omega
  have rdh:=rd_node hrep hih (j:=2) (by omega)
  simp only [nAV] at rdh
  have hath:=fun X=>hatX X (h:Int)
  simp only [hph] at hath
  have hinv:=post_all hS (d:=d) (up:=up) hhN hp
  have hloop:aexec (acall T m) m (.loop B86x0) ⟨[(0,DP p),(1,.own true g.length out.length),(3,.p (.int .i64 up)),(9,av h),(23,.p (.int .i64 (S.kd h).length)),(24,.p (.int .i64 0))],[],g++[.pcells 6 (out.map GRow.pv)]⟩=some (.exit 0,⟨[(1,.own true g.length (belowM S (d+1) out (h:Int) up).length)],[],g++[.pcells 6 ((belowM S (d+1) out (h:Int) up).map GRow.pv)]⟩):=by
    have key:=loop_inv (C:=acall T m) (N:=m) (B:=B86x0) (σ := Nat) (S:=fun i=>⟨[(0,DP p),(1,.own true g.length (outI S d out h up i).length),(3,.p (.int .i64 up)),(9,av h),(23,.p (.int .i64 (S.kd h).length)),(24,.p (.int .i64 i))],[],g++[.pcells 6 ((outI S d out h up i).map GRow.pv)]⟩)
      (I:=fun i=>i≤(S.kd h).length) (μ := fun i=>(S.kd h).length - i) (Q:=fun z=>z=(.exit 0,⟨[(1,.own true g.length (belowM S (d+1) out (h:Int) up).length)],[],g++[.pcells 6 ((belowM S (d+1) out (h:Int) up).map GRow.pv)]⟩)) ?_ 0 (by omega) (by omega)
    · obtain ⟨z,hz,rfl⟩:=key
      rw [outI_zero] at hz
      exact hz
    intro i hi
    by_cases hil:i<(S.kd h).length
    · left
      obtain ⟨k,hk⟩:∃ k,(S.kd h)[i]? = some k:=⟨_,List.getElem?_eq_getElem hil⟩
      have hkm:=List.mem_of_getElem? hk
      obtain ⟨c,rfl,hc,hcl,hcu⟩:=hS.kids h hhN k hkm
      have hcL:c ∈ liveL S:=mem_liveL.2 ⟨hc,hcl⟩
      obtain ⟨hpo,hpm⟩:=hinv i hi
      have hpre:=kid_pre hS up hhN hp hpo hpm hk hc hcu
      have hol1:=hpo.len
      have ho1:=outI_succ (S:=S) (d:=d) (out:=out) (up:=up) hk
      have hol2:(outI S d out h up i++[rowM S (c:Int) up]).length≤S.N:=by
        have:=nodup_len S.N _ hpre.nodup (fun k hk=>by
          obtain ⟨x,hx,rfl⟩:=List.mem_map.1 hk
          exact hpre.rng x hx)
        rwa [List.length_map] at this
      have ihc:=ih c hcL hcu _ (((outI S d out h up i).length:Int)+1) hol2 hpre
      rw [← ho1] at ihc
      refine ⟨i+1, ?_,by omega,by omega⟩
      generalize outI S d out h up i=o1 at hol1 hol2 ihc ⊢
      generalize outI S d out h up (i+1)=o2 at ihc ⊢
      have k2:(i:Int)<((S.kd h).length:Int):=by omega
      have hg:=intsPV_get hk
      obtain ⟨ic,hpc,hic⟩:=posL_in hcL
      have lc:=(List.getElem?_eq_some_iff.1 hic).1
      have kc:(ic:Int)<((liveL S).length:Int):=by omega
      have hatc:=fun X=>hatX X (c:Int)
      simp only [hpc] at hatc
      have rdA:=hrep.rdA rowsD_len lc (rowsD_get hic) rfl
      have os:o1.map GRow.pv++[[.int .i64 (c:Int),.int .i64 up,.str (S.st c).tag,.str (S.st c).key,.str (S.st c).text,.list ((S.st c).attrs.map Attr.pv)]]=(o1++[rowM S (c:Int) up]).map GRow.pv:=by
        rw [List.map_append];rfl
      have ol1:(o1.map GRow.pv).length=o1.length:=by simp
      have ol2:(o1++[rowM S (c:Int) up]).length=o1.length+1:=by simp
      rw [ol2] at ihc
      have ol3:((o1++[rowM S (c:Int) up]).map GRow.pv).length=o1.length+1:=by simp
      generalize o1++[rowM S (c:Int) up]=o3 at os ihc ol3
      have hKc:=hD.kids c hcL
      rcases hK.inv with ⟨_,hk0⟩ | ⟨r,hav,hr⟩ | hav
      · rw [hk0] at hil;simp at hil
      · have hrl:=(List.getElem?_eq_some_iff.1 hr).1
        have hrX:∀ X,(g++[X])[r]? = some (.pcells 1 (intsPV (S.kd h))):=fun X=>by rw [List.getElem?_append_left hrl];exact hr
        rcases hKc.inv with ⟨hav2,_⟩ | ⟨r2,hav2,_⟩ | hav2
        all_goals
          simp only [nAV,hav2] at rdA
          simp only [hav]
          simp -implicitDefEqProofs (disch:=omega) only [Rx,simprocAttr,sameG_self,B86x0,k2,hg,il,hob,hoX,hrX,hlast,hsetX,hix,hatc,rdA,ofCells,PV.sameLL_self,os,ol1,ol3,ihc]
      · rcases hKc.inv with ⟨hav2,_⟩ | ⟨r2,hav2,_⟩ | hav2
        all_goals
          simp only [nAV,hav2] at rdA
          simp only [hav]
          simp -implicitDefEqProofs (disch:=omega) only [Rx,simprocAttr,sameG_self,B86x0,k2,hg,il,hob,hoX,hlast,hsetX,hix,hatc,rdA,ofCells,PV.sameLL_self,os,ol1,ol3,ihc]
    · right
      obtain rfl:i=(S.kd h).length:=by omega
      have k2:¬ ((S.kd h).length:Int)<((S.kd h).length:Int):=by omega
      refine ⟨_, ?_, ?_,rfl⟩
      · rw [outI_all]
        generalize belowM S (d+1) out (h:Int) up=o1
        rcases hK.inv with ⟨hav,_⟩ | ⟨r,hav,_⟩ | hav
        all_goals
          simp only [hav]
          simp -implicitDefEqProofs (disch:=omega) only [Rx,simprocAttr,B86x0,k2]
      · simp
  rw [acall_code T86,run_code rfl rfl]
  generalize belowM S (d+1) out (h:Int) up=o2 at hloop ⊢
  rcases hK.inv with ⟨hav,hk0⟩ | ⟨r,hav,hr⟩ | hav
  · simp only [hk0,hav,List.length_nil,Int.natCast_zero] at hloop rdh
    simp -implicitDefEqProofs (disch:=omega) only [Rx,simprocAttr,F86,hob,hoX,hix,hath,rdh,hloop]
  · have hrl:=(List.getElem?_eq_some_iff.1 hr).1
    have hrX:∀ X,(g++[X])[r]? = some (.pcells 1 (intsPV (S.kd h))):=fun X=>by rw [List.getElem?_append_left hrl];exact hr
    simp only [hav] at hloop rdh
    simp -implicitDefEqProofs (disch:=omega) only [Rx,simprocAttr,F86,hob,hoX,hix,hath,rdh,hloop]
  · simp only [hav] at hloop rdh
    simp -implicitDefEqProofs (disch:=omega) only [Rx,simprocAttr,F86,hob,hoX,hix,hath,rdh,hloop,il]
theorem bel_gen (hS:S.Ok R) (hN:S.N≤8589934592) (hD:DM (liveL S) S.st S.kd nx av p q g) (hL:(liveL S).length≤4194304) {r:Nat→Nat} (hr1:∀ c,c<S.N→r c≤R) (hr2:∀ c p:Nat,c<S.N→(S.st c).up=(p:Int)→r p<r c) (n:Nat) (hn:(liveL S).length+1<n) :
    ∀ (d h : Nat) (up : Int) (out : List GRow), h ∈ liveL S → R ≤ r h + d → out.length ≤ S.N → PreO S out h →
      acall T (n+d+1) 86 [DP p,.own true g.length out.length,.p (.int .i64 h),.p (.int .i64 up)] (g++[.pcells 6 (out.map GRow.pv)])=some (.own true g.length (belowM S (d+1) out (h:Int) up).length,g++[.pcells 6 ((belowM S (d+1) out (h:Int) up).map GRow.pv)]):=by
  intro d
  induction d with
  | zero =>
    intro h up out hh hR hol hp
    exact bel_body hS hN hD hL n hn 0 h up out hh hp hol (fun c hc hcu=>by
      have:=hr1 c (mem_liveL.1 hc).1
      have:=hr2 c h (mem_liveL.1 hc).1 hcu
      omega)
  | succ d ih =>
    intro h up out hh hR hol hp
    exact bel_body hS hN hD hL (n+d+1) (by omega) (d+1) h up out hh hp hol (fun c hc hcu out up hol hp=>by
      have:=hr2 c h (mem_liveL.1 hc).1 hcu
      exact ih c up out hc (by omega) hol hp)
theorem Read_run (hS:S.Ok R) (hN:S.N≤8589934592) (hD:DM (liveL S) S.st S.kd nx av p q g) (hL:(liveL S).length≤4194304) {n:Nat} (hn:(liveL S).length+1<n) :
  acall T (n+R+2) 34 [DP p] g=some (.own true g.length (rowsM S R).length,g++[.pcells 6 ((rowsM S R).map GRow.pv)]):=by
 obtain ⟨r,hr1,hr2⟩:=hS.rank
 have h0:(0:Nat) ∈ liveL S:=mem_liveL.2 ⟨hS.pos,hS.top.1⟩
 have hr:=bel_gen hS hN hD hL hr1 hr2 n hn R 0 0 [] h0 (by omega) (by simp) pre_nil
 simp only [Int.natCast_zero,List.map_nil,List.length_nil] at hr
 rw [acall_code T34,run_code rfl rfl]
 unfold rowsM
 generalize belowM S (R+1) [] 0 0=o at hr ⊢
 simp -implicitDefEqProofs (disch:=omega) only [Rx,simprocAttr,F34,hr]
end
end Tryz
end Go.TA


end
section
/- The row of loose tops, read. -/
namespace Go.TA
namespace Tryz
section
variable {R:Nat} {S:MS} {nx:Int} {av:Nat→AV} {p q:Nat} {g:List AObj}
def looP (S:MS) (h:Nat):Bool := !(h==0) && decide ((S.st h).up<0)
theorem looseD_run (hD : DM (liveL S) S.st S.kd nx av p q g) (hL : (liveL S).length ≤ 4194304) {n : Nat} (hn : (liveL S).length < n) :
    acall T (n+1) 91 [DP p] g=some (.own true g.length (looseM S).length,g++[.pcells 1 (intsPV (looseM S))]):=by
  obtain ⟨o,ho,hrep⟩:=hD.core.row
  have hpl:=(List.getElem?_eq_some_iff.1 hD.core.obj).1
  have hql:=(List.getElem?_eq_some_iff.1 ho).1
  have hob:∀ X,(g++[X])[p]? = some (.cells 2 [[.own true q (liveL S).length,.p (.int .i64 nx)]]):=fun X=>by rw [List.getElem?_append_left hpl];exact hD.core.obj
  have hoX:∀ X,(g++[X])[q]? = some o:=fun X=>by rw [List.getElem?_append_left hql];exact ho
  have hlast:∀ X,(g++[X])[g.length]? = some X:=fun X=>by simp
  have hsetX:∀ X Y,(g++[X]).set g.length Y=g++[Y]:=fun X Y=>by simp [List.set_append]
  have hix:=fun s i=>hrep.idx rowsD_len s true q i
  have hlm:looseM S=((liveL S).filter (looP S)).map fun h:Nat=>(h:Int):=rfl
  rw [hlm]
  have hlen:∀ i,(((liveL S).take i).filter (looP S)).length≤4194304:=fun i=>by
    have h3:=List.length_filter_le (looP S) ((liveL S).take i)
    rw [List.length_take] at h3
    omega
  generalize hacc:(fun i:Nat=>(((liveL S).take i).filter (looP S)).map fun h:Nat=>(h:Int))=acc
  have hal:∀ i,(acc i).length≤4194304:=fun i=>by rw [← hacc];simp only [List.length_map];exact hlen i
  have key:=loop_inv (C:=acall T n) (N:=n) (B:=B91x0) (σ := Nat) (S:=fun i=>⟨[(0,DP p),(3,.own true g.length (acc i).length),(9,.p (.int .i64 (liveL S).length)),(10,.p (.int .i64 i))],[],g++[.pcells 1 (intsPV (acc i))]⟩)
    (I:=fun i=>i≤(liveL S).length) (μ := fun i=>(liveL S).length - i) (Q:=fun r=>r=(.exit 0,⟨[(3,.own true g.length (acc (liveL S).length).length)],[],g++[.pcells 1 (intsPV (acc (liveL S).length))]⟩)) ?_ 0 (by omega) (by omega)
  · obtain ⟨r,hr,rfl⟩:=key
    have e0:acc 0=[]:=by rw [← hacc];simp
    have e1:acc (liveL S).length=((liveL S).filter (looP S)).map fun h:Nat=>(h:Int):=by rw [← hacc];simp
    rw [e0,e1] at hr
    generalize ((liveL S).filter (looP S)).map (fun h:Nat=>(h:Int))=l1 at hr ⊢
    simp only [List.length_nil,Int.natCast_zero,show intsPV []=[] from rfl] at hr
    rw [acall_code T91,run_code rfl rfl]
    simp -implicitDefEqProofs (disch:=omega) only [Rx,simprocAttr,F91,hob,hr]
  intro i hi
  by_cases h1:i<(liveL S).length
  · left
    obtain ⟨h,hh⟩:=get_some h1
    have k1:(i:Int)<((liveL S).length:Int):=by omega
    have rd0:=rd_node hrep hh (j:=0) (by omega)
    have rd1:=rd_node hrep hh (j:=1) (by omega)
    simp only [nAV] at rd0 rd1
    have hs:acc (i+1)=acc i++if looP S h=true then [(h:Int)] else []:=by
      rw [← hacc]
      simp only
      rw [List.take_add_one,hh,List.filter_append,List.map_append]
      congr 1
      simp only [Option.toList_some,List.filter_cons,List.filter_nil]
      split <;> rfl
    have hll:=hal i
    have il:=intsPV_len (acc i)
    refine ⟨i+1, ?_,by omega,by omega⟩
    rw [hs]
    by_cases e0:h=0
    · subst e0
      have ep:looP S 0=false:=rfl
      rw [ep]
      simp only [Bool.false_eq_true,if_false,List.append_nil]
      have e1:((((0:Nat):Int))==0)=true:=rfl
      simp -implicitDefEqProofs (disch:=omega) only [Rx,simprocAttr,B91x0,k1,hob,hoX,hix,rd0]
    · have e1:((h:Int)==0)=false:=by simp;omega
      by_cases eu:(S.st h).up<0
      · have ep:looP S h=true:=by simp [looP,e0,eu]
        rw [ep,if_pos rfl]
        have os1:=intsPV_snoc (acc i) (h:Int)
        have ol1:(intsPV (acc i++[(h:Int)])).length=(acc i).length+1:=by rw [intsPV_len,List.length_append];rfl
        have ol3:(acc i++[(h:Int)]).length=(acc i).length+1:=by rw [List.length_append];rfl
        rw [ol3]
        generalize acc i++[(h:Int)]=acc1 at os1 ol1
        generalize acc i=a0 at hll il os1 ol1
        simp -implicitDefEqProofs (disch:=omega) only [Rx,simprocAttr,B91x0,k1,hob,hoX,hix,rd0,rd1,e1,eu,hlast,hsetX,il,os1,ol1]
      · have ep:looP S h=false:=by simp [looP,eu]
        rw [ep]
        simp only [Bool.false_eq_true,if_false,List.append_nil]
        simp -implicitDefEqProofs (disch:=omega) only [Rx,simprocAttr,B91x0,k1,hob,hoX,hix,rd0,rd1,e1,eu]
  · right
    obtain rfl:i=(liveL S).length:=by omega
    have k1:¬ ((liveL S).length:Int)<((liveL S).length:Int):=by omega
    refine ⟨_, ?_, ?_,rfl⟩
    · simp -implicitDefEqProofs (disch:=omega) only [Rx,simprocAttr,B91x0,k1]
    · simp
end
end Tryz
end Go.TA


end
section
/- A node is put below another one; a node is taken out. -/
namespace Go.TA.Tryz
theorem ints_one (l:List Int):((intsPV l).all fun x=>x.length==1)=true:=by simp [List.all_eq_true,intsPV]
def killed (rest:List AObj):AV→List AObj
 | .own true (r+2) _=>rest.set r .dead
 | _=>rest
theorem killed_len (rest:List AObj) (a:AV):(killed rest a).length=rest.length:=by
 unfold killed;split <;> simp
theorem KRep.killed {rest:List AObj} {a a':AV} {ks':List Int} (h:KRep rest a' ks') (h2:refOf a'=none∨refOf a'≠refOf a):KRep (killed rest a) a' ks':=by
 unfold Go.TA.Tryz.killed
 split
 ·rename_i r m
  refine h.set ?_
  rcases h2 with h2 | h2
  ·rw [h2];simp
  ·exact h2
 ·exact h
theorem cloneI_run {rest:List AObj} {a:AV} {ks:List Int} (hK:KRep rest a ks) (hl:ks.length≤4194304) (A B:AObj) (n:Nat):acall T (n+1) 78 [a] (A::B::rest)=some (.own true (rest.length+1+1) ks.length,A::B::(killed rest a++[.pcells 1 (intsPV ks)])):=by
 rw [acall_prim T78]
 have h2:=ints_one ks
 have h4:=intsPV_len ks
 have h3:ks.length*4096≤140737488355328:=by omega
 rcases hK.inv with ⟨rfl,rfl⟩ | ⟨r,rfl,hr⟩ | rfl
 ·simp [pCloneT,thaw,bk_some,pClone,intsPV,killed]
 ·have hr':(A::B::rest)[r+1+1]? = some (.pcells 1 (intsPV ks)):=by simpa using hr
  simp only [pCloneT,thaw,hr',h4,if_true,bk_some,pClone,h2,h3,and_self,killed,List.set_cons_succ,List.length_cons,List.length_set,List.cons_append]
 ·simp only [pCloneT,thaw,h4,bk_some,pClone,h2,h3,and_self,killed,if_true,List.length_cons,List.cons_append]
theorem insertI_run (X:List AObj) (ks:List Int) (at':Nat) (h:Int) (hat:at'≤ks.length) (hl:ks.length≤4194304) (A B:AObj) (n:Nat):acall T (n+1) 169 [.own true (X.length+1+1) ks.length,.p (.int .i64 at'),.p (.list [[.int .i64 h]])] (A::B::(X++[.pcells 1 (intsPV ks)]))=some (.p (.list (intsPV (ks.take at'++h::ks.drop at'))),A::B::(X++[.dead])):=by
 rw [acall_prim T169]
 have hr':(A::B::(X++[.pcells 1 (intsPV ks)]))[X.length+1+1]? = some (.pcells 1 (intsPV ks)):=by simp
 have h4:=intsPV_len ks
 have h5:(ks.length+1)*4096≤140737488355328:=by omega
 have h6:(at':Int)≤(ks.length:Int):=by omega
 have e1:(intsPV ks).take at'++[[PV.int .i64 h]]++(intsPV ks).drop at'=intsPV (ks.take at'++h::ks.drop at'):=by
  simp [intsPV,List.map_take,List.map_drop]
 have e2:(X++[AObj.pcells 1 (intsPV ks)]).set X.length .dead=X++[.dead]:=by simp [List.set_append]
 simp only [pInsert,hr',h4,true_and,List.all_cons,List.all_nil,List.length_cons,List.length_nil,Bool.and_true,beq_self_eq_true,Nat.zero_add,Nat.lt_irrefl,Nat.zero_lt_one,h5,h6,Int.natCast_nonneg,Int.toNat_natCast,and_self,if_true,List.set_cons_succ,e2]
 rw [← e1]
theorem indexI_run (l:List Int) (v:Int) (hv:v ∈ l) (hl:l.length≤4194304) (g:List AObj) {n:Nat} (hn:l.length<n):acall T (n+1) 150 [.p (.list (intsPV l)),.p (.int .i64 v)] g=some (.p (.int .i64 (l.idxOf v)),g):=by
 have hlt:=List.idxOf_lt_length_iff.2 hv
 have il:=intsPV_len l
 have key:=loop_inv (C:=acall T n) (N:=n) (B:=B150x0) (σ := Nat) (S:=fun i=>⟨[(0,.p (.list (intsPV l))),(1,.p (.int .i64 v)),(7,.p (.int .i64 l.length)),(8,.p (.int .i64 i))],[],[]⟩)
  (I:=fun i=>i≤l.idxOf v) (μ := fun i=>l.length - i) (Q:=fun q=>q=(.ret,⟨[(4,.p (.int .i64 (l.idxOf v)))],[],[]⟩)) ?_ 0 (by omega) (by omega)
 ·obtain ⟨q,hq,rfl⟩:=key
  simp only [Int.natCast_zero] at hq
  rw [acall_code T150,run_pure rfl rfl rfl]
  simp -implicitDefEqProofs (disch:=omega) only [Rx,simprocAttr,F150,hq,il]
 intro i hi
 have hil:i<l.length:=by omega
 have k1:(i:Int)<(l.length:Int):=by omega
 have hg:=intsPV_get (List.getElem?_eq_getElem hil)
 by_cases e:i=l.idxOf v
 ·right
  have hx:l[i]=v:=by subst e;exact List.getElem_idxOf hlt
  refine ⟨_, ?_, ?_,rfl⟩
  ·have e1:(v==l[i])=true:=by simp [hx]
   rw [← e]
   simp -implicitDefEqProofs (disch:=omega) only [Rx,simprocAttr,B150x0,k1,hg,e1,il]
  ·simp
 ·left
  have hx:(v==l[i])=false:=by
   have h9:=List.not_of_lt_findIdx (xs:=l) (p:=fun x=>x==v) (i:=i) (by unfold List.idxOf at hi e;omega)
   have h10:¬ v=l[i]:=fun hq=>by rw [← hq] at h9;simp at h9
   simpa using h10
  refine ⟨i+1, ?_,by omega,by omega⟩
  simp -implicitDefEqProofs (disch:=omega) only [Rx,simprocAttr,B150x0,k1,hg,hx,il]
theorem MOk.fixed {N:Nat} {av:Nat→AV} {kd:Nat→List Int} {rest:List AObj} (h:MOk N av kd rest) {u:Nat} (hu:u<N) (ks:List Int) (more:List AObj):MOk N (upd av u (.p (.list (intsPV ks)))) (upd kd u ks) (killed rest (av u)++more) where
 kids k hk:=by
  by_cases e:k=u
  ·subst e;rw [upd_at,upd_at];exact .list
  ·rw [upd_ne e,upd_ne e]
   refine KRep.more (Go.TA.Tryz.KRep.killed (h.kids k hk) ?_) _
   exact h.disj k u hk hu e
 disj:=(h.fix hu ks).disj
theorem Fr.fixed {N:Nat} {av:Nat→AV} {rest:List AObj} {u:Nat} (hu:u<N) (ks:List (List PV)) (more:List AObj):Fr N av rest N (upd av u (.p (.list ks))) (killed rest (av u)++more) where
 len:=by rw [List.length_append,killed_len];omega
 keep j hj hn:=by
  rw [List.getElem?_append_left (by rw [killed_len];exact hj)]
  have:=hn u hu
  unfold killed
  split
  ·rename_i r m e
   rw [e] at this
   simp only [refOf,ne_eq,Option.some.injEq] at this
   rw [List.getElem?_set,if_neg (by omega)]
  ·rfl
 refs h hh j hj _:=by
  by_cases e:h=u
  ·subst e;rw [upd_at] at hj;cases hj
  ·rw [upd_ne e] at hj;exact ⟨h,hh,hj⟩
theorem place_run {R:Nat} {S:MS} (hS:S.Ok R) (hN:S.N≤4194304) (av:Nat→AV) (rest:List AObj) (hM:MOk S.N av S.kd rest) (h u:Nat) (b:Int) (hh:h<S.N) (hu:u<S.N) (hb:b=0∨b ∈ S.kd u) {n:Nat} (hn:S.N<n) :
  ∃ av' rest',acall T (n+2) 122 [MP,.p (.int .i64 h),.p (.int .i64 u),.p (.int .i64 b)] (machG S.N S.st av rest)=some (.tuple [],machG S.N (placeM S h u b).st av' rest')∧MOk S.N av' (placeM S h u b).kd rest'∧Fr S.N av rest S.N av' rest':=by
 have hK:=hM.kids u hu
 have hkl:=hS.kids_len hu
 have len1:∀ st av,(rowsAV S.N st av).length=S.N:=fun _ _=>rowsAV_len
 have hgu:(rowsAV S.N S.st av).getD u []=nodeAV (S.st u) (av u):=rowsAV_get hu
 have k1:(u:Int)<(S.N:Int):=by omega
 have k2:(h:Int)<(S.N:Int):=by omega
 generalize hat:(if b=0 then (S.kd u).length else (S.kd u).idxOf b)=at'
 have hatl:at'≤(S.kd u).length:=by
  rw [← hat]
  split
  ·exact Nat.le_refl _
  ·exact List.idxOf_le_length
 have hins:=fun A B=>insertI_run (killed rest (av u)) (S.kd u) at' (h:Int) hatl (by omega) A B n
 have hcl:=fun A B=>cloneI_run hK (by omega) A B n
 rw [killed_len] at hins
 have il:=intsPV_len (S.kd u)
 have hres:insI (S.kd u) (h:Int) b=(S.kd u).take at'++(h:Int)::(S.kd u).drop at':=by rw [← hat];rfl
 refine ⟨upd av u (.p (.list (intsPV (insI (S.kd u) (h:Int) b)))),killed rest (av u)++[.dead], ?_,by exact Go.TA.Tryz.MOk.fixed hM hu (insI (S.kd u) (h:Int) b) [.dead],Go.TA.Tryz.Fr.fixed hu _ _⟩
 rw [hres]
 generalize hres2:(S.kd u).take at'++(h:Int)::(S.kd u).drop at'=ks' at hins
 have hset1:(rowsAV S.N S.st av).set u [.p (.bool (S.st u).live),.p (.int .i64 (S.st u).up),.p (.list (intsPV ks')),.p (.str (S.st u).tag),.p (.str (S.st u).key),.p (.str (S.st u).text),.p (.list ((S.st u).attrs.map Attr.pv))]=rowsAV S.N S.st (upd av u (.p (.list (intsPV ks')))):=by
  have:=rowsAV_set (N:=S.N) (st:=S.st) (av:=av) hu (S.st u) (.p (.list (intsPV ks')))
  simp only [nodeAV] at this
  rw [this]
  refine rowsAV_congr fun k hk=>⟨?_,rfl⟩
  by_cases e:k=u
  ·subst e;rw [upd_at]
  ·rw [upd_ne e]
 have hgh:(rowsAV S.N S.st (upd av u (.p (.list (intsPV ks'))))).getD h []=nodeAV (S.st h) (upd av u (.p (.list (intsPV ks'))) h):=rowsAV_get hh
 generalize hah:upd av u (.p (.list (intsPV ks'))) h=ah at hgh
 have hset2:(rowsAV S.N S.st (upd av u (.p (.list (intsPV ks'))))).set h [.p (.bool (S.st h).live),.p (.int .i64 u),ah,.p (.str (S.st h).tag),.p (.str (S.st h).key),.p (.str (S.st h).text),.p (.list ((S.st h).attrs.map Attr.pv))]=rowsAV S.N (placeM S h u b).st (upd av u (.p (.list (intsPV ks')))):=by
  have:=rowsAV_set (N:=S.N) (st:=S.st) (av:=upd av u (.p (.list (intsPV ks')))) hh { S.st h with up:=(u:Int) } ah
  simp only [nodeAV] at this
  rw [this]
  refine rowsAV_congr fun k hk=>⟨rfl, ?_⟩
  by_cases e:k=h
  ·subst e;rw [upd_at,hah]
  ·rw [upd_ne e]
 rw [acall_code T122,run_code rfl rfl]
 simp only [nodeAV] at hgu hgh
 by_cases hb0:b=0
 ·have eb:(b==0)=true:=by simpa using hb0
  have eb2:(b != 0)=false:=by simp [hb0]
  rw [if_pos hb0] at hat
  subst hat
  rcases hK.inv with ⟨hav,hk0⟩ | ⟨r,hav,hr⟩ | hav
  ·rw [hav] at hcl hins hgu
   simp only [hk0,List.length_nil,Int.natCast_zero] at hcl hins
   simp only [machG,hav]
   simp -implicitDefEqProofs (disch:=omega) only [Rx,simprocAttr,F122,k1,k2,len1,hgu,hgh,hset1,hset2,hcl,hins,eb]
  ·rw [hav] at hcl hins hgu
   simp only [machG,hav]
   simp -implicitDefEqProofs (disch:=omega) only [Rx,simprocAttr,F122,k1,k2,len1,hgu,hgh,hset1,hset2,hcl,hins,eb]
  ·rw [hav] at hcl hins hgu
   simp only [machG,hav]
   simp -implicitDefEqProofs (disch:=omega) only [Rx,simprocAttr,F122,k1,k2,len1,hgu,hgh,hset1,hset2,hcl,hins,il,eb]
 ·have eb:(b==0)=false:=by simpa using hb0
  have eb2:(b != 0)=true:=by simp [hb0]
  have hbm:b ∈ S.kd u:=by rcases hb with h1 | h1;exact absurd h1 hb0;exact h1
  have hix:=fun g=>indexI_run (S.kd u) b hbm (by omega) g (n:=n) (by omega)
  rw [if_neg hb0] at hat
  rw [hat] at hix
  rcases hK.inv with ⟨hav,hk0⟩ | ⟨r,hav,hr⟩ | hav
  ·rw [hk0] at hbm;simp at hbm
  ·rw [hav] at hcl hins hgu
   simp only [machG,hav]
   simp -implicitDefEqProofs (disch:=omega) only [Rx,simprocAttr,F122,k1,k2,len1,hgu,hgh,hset1,hset2,hcl,hins,hix,il,eb,hr]
  ·rw [hav] at hcl hins hgu
   simp only [machG,hav]
   simp -implicitDefEqProofs (disch:=omega) only [Rx,simprocAttr,F122,k1,k2,len1,hgu,hgh,hset1,hset2,hcl,hins,hix,il,eb]
end Go.TA.Tryz


end
section
/- A row that is gone through, some of whose elements stay. Plain. -/
namespace Go.TA
theorem filter_step {α : Type} {p : α → Bool} {l:List α} {j:Nat} {x : α} (hx:l[j]? = some x):(l.take (j+1)).filter p=(l.take j).filter p++(if p x=true then [x] else []):=by
 rw [List.take_add_one,hx]
 simp only [List.filter_append,Option.toList_some,List.filter_cons,List.filter_nil]
theorem filter_none {α : Type} {p : α → Bool} {l:List α} (h:∀ x ∈ l,p x=true):l.filter p=l:=List.filter_eq_self.2 h
structure Going {α : Type} (p : α → Bool) (l:List α) (j i:Nat) (cur:List α):Prop where
 len:cur.length=l.length
 lt:i≤j
 have':cur.take i=(l.take j).filter p
 come:cur.drop j=l.drop j
theorem Going.il {α : Type} {p : α → Bool} {l:List α} {j i:Nat} {cur:List α} (h:Going p l j i cur) (hj:j≤l.length):i=((l.take j).filter p).length:=by
 rw [← h.have',List.length_take,h.len]
 have:=h.lt
 omega
theorem Going.at {α : Type} {p : α → Bool} {l:List α} {j i:Nat} {cur:List α} (h:Going p l j i cur):cur[j]? = l[j]? := by
 have:=congrArg (·[0]?) h.come
 simpa [List.getElem?_drop] using this
theorem Going.skip {α : Type} {p : α → Bool} {l:List α} {j i:Nat} {cur:List α} (h:Going p l j i cur) {x : α} (hx:l[j]? = some x) (hp:p x=false):Going p l (j+1) i cur:=by
 refine ⟨h.len,by have:=h.lt;omega, ?_, ?_⟩
 ·rw [filter_step hx,h.have',hp];simp
 ·have:=congrArg (List.drop 1) h.come
  simpa [List.drop_drop,Nat.add_comm] using this
theorem Going.take {α : Type} {p : α → Bool} {l:List α} {j i:Nat} {cur:List α} (h:Going p l j i cur) {x : α} (hx:l[j]? = some x) (hp:p x=true):Going p l (j+1) (i+1) (cur.set i x):=by
 have hj:j<l.length:=(List.getElem?_eq_some_iff.1 hx).1
 have hlt:=h.lt
 refine ⟨by rw [List.length_set];exact h.len,by omega, ?_, ?_⟩
 ·rw [filter_step hx,hp,if_pos rfl, ← h.have',List.take_add_one,List.getElem?_set]
  have:i<cur.length:=by rw [h.len];omega
  rw [if_pos rfl,if_pos this]
  simp [List.take_set_of_le]
 ·have:=congrArg (List.drop 1) h.come
  rw [List.drop_drop,List.drop_drop] at this
  rw [List.drop_set_of_lt (by omega)]
  exact this
end Go.TA


end
section
/- slices.DeleteFunc on a row of numbers that was cloned: the numbers that are another one. -/
namespace Go.TA.Tryz
def notH (h:Int) (x:Int):Bool := !(x==h)
section
variable {h:Int} {kb k:Nat}
theorem clo_run (x:Int) (g:List AObj) (hkb:g[kb]? = some (.pcells 1 [[.int .i64 h]])) (n:Nat):acall T (n+1) 124 [.p (.int .i64 x),.ptr true kb 1 1 0 0] g=some (.p (.bool (x==h)),g):=by
 rw [acall_code T124,run_code rfl rfl]
 have e0:Int.toNat 0=0:=rfl
 simp -implicitDefEqProofs (disch:=omega) only [Rx,simprocAttr,F124,hkb]
theorem findI_run (ks : List Int) (g : List AObj) (hk : g[k]? = some (.pcells 1 (intsPV ks))) (hkb : g[kb]? = some (.pcells 1 [[.int .i64 h]])) (hl : ks.length ≤ 4194304) {n : Nat} (hn : ks.length + 1 < n) :
    acall T (n+2) 170 [.own true k ks.length,.func 124 [.ptr true kb 1 1 0 0]] g=some (.p (.int .i64 (if ks.findIdx (· == h)<ks.length then (ks.findIdx (· == h):Int) else -1)),g):=by
  have il:=intsPV_len ks
  have key:=loop_inv (C:=acall T (n+1)) (N:=n+1) (B:=B170x0) (σ := Nat) (S:=fun i=>⟨[(0,.own true k ks.length),(1,.func 124 [.ptr true kb 1 1 0 0]),(7,.p (.int .i64 ks.length)),(8,.p (.int .i64 i))],[],g⟩)
    (I:=fun i=>i≤ks.length∧i≤ks.findIdx (· == h)) (μ := fun i=>ks.length - i) (Q:=fun q=>q=if ks.findIdx (· == h)<ks.length then (.ret,⟨[(4,.p (.int .i64 (ks.findIdx (· == h))))],[],g⟩) else (.exit 0,⟨[],[],g⟩)) ?_ 0 ⟨by omega,by omega⟩ (by omega)
  · obtain ⟨q,hq,rfl⟩:=key
    simp only [Int.natCast_zero] at hq
    rw [acall_code T170,run_code rfl rfl]
    by_cases hc:ks.findIdx (· == h)<ks.length
    · rw [if_pos hc] at hq
      rw [if_pos hc]
      simp -implicitDefEqProofs (disch:=omega) only [Rx,simprocAttr,F170,hq]
    · rw [if_neg hc] at hq
      rw [if_neg hc]
      simp -implicitDefEqProofs (disch:=omega) only [Rx,simprocAttr,F170,hq]
  rintro i ⟨h1,h2⟩
  by_cases hi:i<ks.length
  · have k1:(i:Int)<(ks.length:Int):=by omega
    have hg:=intsPV_get (List.getElem?_eq_getElem hi)
    have hc:=clo_run (h:=h) ks[i] g hkb n
    by_cases e:i=ks.findIdx (· == h)
    · right
      have hp:(ks[i]==h)=true:=by
        have:=List.findIdx_getElem (xs:=ks) (p:=(· == h)) (w:=by omega)
        subst e;exact this
      rw [hp] at hc
      refine ⟨_, ?_, ?_,rfl⟩
      · rw [if_pos (by omega), ← e]
        simp -implicitDefEqProofs (disch:=omega) only [Rx,simprocAttr,B170x0,k1,hg,hk,hc,il]
      · rw [if_pos (by omega)];simp
    · left
      have hp:(ks[i]==h)=false:=by
        have:=List.not_of_lt_findIdx (xs:=ks) (p:=(· == h)) (i:=i) (by omega)
        simpa using this
      rw [hp] at hc
      refine ⟨i+1, ?_,⟨by omega,by omega⟩,by omega⟩
      simp -implicitDefEqProofs (disch:=omega) only [Rx,simprocAttr,B170x0,k1,hg,hk,hc,il]
  · right
    obtain rfl:i=ks.length:=by omega
    have k1:¬ (ks.length:Int)<(ks.length:Int):=by omega
    refine ⟨_, ?_, ?_,rfl⟩
    · rw [if_neg (by omega)]
      simp -implicitDefEqProofs (disch:=omega) only [Rx,simprocAttr,B170x0,k1]
    · rw [if_neg (by omega)];simp
theorem delI_loop (ks:List Int) (g:List AObj) (hk:k<g.length) (hkb:g[kb]? = some (.pcells 1 [[.int .i64 h]])) (hne:k≠kb) (hl:ks.length≤4194304) (n N:Nat) (hN:ks.length<N) (j0 i0:Nat) (h0:Going (notH h) ks j0 i0 ks) (hj0:j0≤ks.length) :
    ∃ cur i,aexec (acall T (n+1)) N (.loop delLoop1) ⟨[(0,.own true k ks.length),(1,.func 124 [.ptr true kb 1 1 0 0]),(5,.p (.int .i64 i0)),(6,.p (.int .i64 j0))],[],g.set k (.pcells 1 (intsPV ks))⟩=some (.exit 0,⟨[(0,.own true k ks.length),(5,.p (.int .i64 (i:Nat)))],[],g.set k (.pcells 1 (intsPV cur))⟩)∧Going (notH h) ks ks.length i cur:=by
  have key:=loop_inv (C:=acall T (n+1)) (N:=N) (B:=delLoop1) (σ := Nat × Nat × List Int) (S:=fun s=>⟨[(0,.own true k ks.length),(1,.func 124 [.ptr true kb 1 1 0 0]),(5,.p (.int .i64 s.1)),(6,.p (.int .i64 s.2.1))],[],g.set k (.pcells 1 (intsPV s.2.2))⟩)
    (I:=fun s=>s.2.1≤ks.length∧Going (notH h) ks s.2.1 s.1 s.2.2) (μ := fun s=>ks.length - s.2.1) (Q:=fun q=>∃ cur i,q=(.exit 0,⟨[(0,.own true k ks.length),(5,.p (.int .i64 (i:Nat)))],[],g.set k (.pcells 1 (intsPV cur))⟩)∧Going (notH h) ks ks.length i cur) ?_ (i0,j0,ks) ⟨hj0,h0⟩ (by simp only;omega)
  · obtain ⟨q,hq,cur,i,rfl,hg⟩:=key
    exact ⟨cur,i,hq,hg⟩
  rintro ⟨i,j,cur⟩ ⟨h1,h2⟩
  simp only at h1 h2 ⊢
  have hgk:(g.set k (.pcells 1 (intsPV cur)))[k]? = some (.pcells 1 (intsPV cur)):=by rw [List.getElem?_set,if_pos rfl,if_pos hk]
  have hgb:(g.set k (.pcells 1 (intsPV cur)))[kb]? = some (.pcells 1 [[.int .i64 h]]):=by rw [List.getElem?_set,if_neg hne];exact hkb
  have hss:∀ o o':AObj,(g.set k o).set k o'=g.set k o':=fun o o'=>by simp
  have il:=intsPV_len cur
  rw [h2.len] at il
  have hlt:=h2.lt
  by_cases hj:j<ks.length
  · left
    obtain ⟨x,hx⟩:∃ x,ks[j]? = some x:=⟨_,List.getElem?_eq_getElem hj⟩
    have k1:(j:Int)<(ks.length:Int):=by omega
    have k2:(i:Int)<(ks.length:Int):=by omega
    have hg:=intsPV_get (h2.at.trans hx)
    have hc:=clo_run (h:=h) x (g.set k (.pcells 1 (intsPV cur))) hgb n
    cases hp:(x==h) with
    | true =>
      rw [hp] at hc
      refine ⟨(i,j+1,cur), ?_,⟨by simp only;omega,h2.skip hx (by simp [notH,hp])⟩,by simp only;omega⟩
      simp -implicitDefEqProofs (disch:=omega) only [Rx,simprocAttr,delLoop1,k1,hg,hgk,hc,il]
    | false =>
      rw [hp] at hc
      have hset:(intsPV cur).set i [.int .i64 x]=intsPV (cur.set i x):=by simp [intsPV,List.map_set]
      have hgi:=intsPV_get (List.getElem?_eq_getElem (show i<cur.length by rw [h2.len];omega))
      refine ⟨(i+1,j+1,cur.set i x), ?_,⟨by simp only;omega,h2.take hx (by simp [notH,hp])⟩,by simp only;omega⟩
      simp -implicitDefEqProofs (disch:=omega) only [Rx,simprocAttr,delLoop1,k1,k2,hg,hgi,hgk,hc,il,hset,hss]
  · right
    obtain rfl:j=ks.length:=by omega
    have k1:¬ (ks.length:Int)<(ks.length:Int):=by omega
    refine ⟨_, ?_, ?_,cur,i,rfl,h2⟩
    · simp -implicitDefEqProofs (disch:=omega) only [Rx,simprocAttr,delLoop1,k1]
    · simp
theorem delI_run (ks : List Int) (g : List AObj) (hk : g[k]? = some (.pcells 1 (intsPV ks))) (hkb : g[kb]? = some (.pcells 1 [[.int .i64 h]])) (hne : k ≠ kb) (hl : ks.length ≤ 4194304) {n : Nat} (hn : ks.length + 1 < n) :
    acall T (n+3) 123 [.own true k ks.length,.func 124 [.ptr true kb 1 1 0 0]] g=some (.p (.list (intsPV (ks.filter (notH h)))),g.set k .dead):=by
  rw [acall_prim T123]
  have hf:=findI_run ks g hk hkb hl hn
  have il:=intsPV_len ks
  have hkl:k<g.length:=(List.getElem?_eq_some_iff.1 hk).1
  unfold pDelete
  simp only
  by_cases hc:ks.findIdx (· == h)<ks.length
  · rw [if_pos hc] at hf
    generalize hi:ks.findIdx (· == h)=i0 at hc hf
    have hpre:∀ m,m<i0→∀ x,ks[m]? = some x→notH h x=true:=fun m hm x hx=>by
      have hml:m<ks.length:=(List.getElem?_eq_some_iff.1 hx).1
      have:=List.not_of_lt_findIdx (xs:=ks) (p:=(· == h)) (i:=m) (by omega)
      rw [(List.getElem?_eq_some_iff.1 hx).2] at this
      simpa [notH] using this
    have hat:ks[i0]? = some h:=by
      have:=List.findIdx_getElem (xs:=ks) (p:=(· == h)) (w:=by omega)
      subst hi
      rw [List.getElem?_eq_getElem hc]
      simpa using this
    have hgo:Going (notH h) ks (i0+1) i0 ks:=by
      have h1:Going (notH h) ks i0 i0 ks:=by
        refine ⟨rfl,Nat.le_refl _, ?_,rfl⟩
        rw [filter_none]
        intro x hx
        obtain ⟨m,hm,rfl⟩:=List.getElem_of_mem hx
        rw [List.length_take] at hm
        refine hpre m (by omega) _ ?_
        rw [List.getElem_take,List.getElem?_eq_getElem]
      exact h1.skip hat (by simp [notH])
    obtain ⟨cur,i,hloop,hend⟩:=delI_loop (h:=h) (kb:=kb) ks g hkl hkb hne hl (n+1) (ks.length+2) (by omega) (i0+1) i0 hgo (by omega)
    have hself:g.set k (.pcells 1 (intsPV ks))=g:=by
      apply List.ext_getElem?
      intro m
      rw [List.getElem?_set]
      by_cases e:k=m
      · subst e;rw [if_pos rfl,if_pos hkl,hk]
      · rw [if_neg e]
    rw [hself] at hloop
    have e1:((i0:Int) == -1)=false:=by simp
    have hilt:=hend.il (Nat.le_refl _)
    have hihave:=hend.have'
    rw [List.take_length] at hilt hihave
    have hlt2:i<ks.length:=by
      rw [hilt]
      exact List.length_filter_lt_length_iff_exists.2 ⟨h,List.mem_of_getElem? hat,by simp [notH]⟩
    have hrun:aexec (acall T (n+2)) (ks.length+2) (delHead 170 delLoop1) (enterSt [.own true k ks.length,.func 124 [.ptr true kb 1 1 0 0]] g)=some (.normal,⟨[(0,.own true k ks.length),(5,.p (.int .i64 (i:Nat)))],[],g.set k (.pcells 1 (intsPV cur))⟩):=by
      simp only [Int.natCast_add,Int.natCast_one] at hloop
      simp -implicitDefEqProofs (disch:=omega) only [Rx,simprocAttr,delHead,hf,hloop,e1]
    rw [hrun]
    have hgk:(g.set k (.pcells 1 (intsPV cur)))[k]? = some (.pcells 1 (intsPV cur)):=by rw [List.getElem?_set,if_pos rfl,if_pos hkl]
    have il2:(intsPV cur).length=ks.length:=by rw [intsPV_len,hend.len]
    have hi2:(i:Int)<(ks.length:Int):=by omega
    have ht:(intsPV cur).take i=intsPV (ks.filter (notH h)):=by rw [← hihave];simp [intsPV,List.map_take]
    simp [Option.bind_some,delOut,St.get,lk,orBot,hgk,il2,hi2,ht]
  · rw [if_neg hc] at hf
    have hall:ks.filter (notH h)=ks:=filter_none fun x hx=>by
      have h1:¬ ks.findIdx (· == h)<ks.length:=hc
      rw [List.findIdx_lt_length] at h1
      cases hq:(x==h) with
      | false=>simp [notH,hq]
      | true=>exact absurd ⟨x,hx,hq⟩ h1
    have hrun:aexec (acall T (n+2)) (ks.length+2) (delHead 170 delLoop1) (enterSt [.own true k ks.length,.func 124 [.ptr true kb 1 1 0 0]] g)=some (.ret,⟨[(4,.own true k ks.length)],[],g⟩):=by
      simp -implicitDefEqProofs (disch:=omega) only [Rx,simprocAttr,delHead,hf]
    rw [hrun,hall]
    simp [delOut,St.get,lk,orBot,hk,il]
end
end Go.TA.Tryz


end
section
/- A node is taken out. -/
namespace Go.TA.Tryz
theorem killed_at {rest:List AObj} {o:AObj} {a:AV} {ks:List Int} (hK:KRep rest a ks):(killed (rest++[o]) a)[rest.length]? = some o:=by
 rcases hK.inv with ⟨rfl,_⟩ | ⟨r,rfl,hr⟩ | rfl
 ·simp [killed]
 ·have:=(List.getElem?_eq_some_iff.1 hr).1
  simp only [killed]
  rw [List.getElem?_set,if_neg (by omega)]
  simp
 ·simp [killed]
theorem take_run {R:Nat} {S:MS} (hS:S.Ok R) (hN:S.N≤4194304) (av:Nat→AV) (rest:List AObj) (hM:MOk S.N av S.kd rest) (h:Nat) (hh:h<S.N) {n:Nat} (hn:S.N+1<n) :
  ∃ av' rest',acall T (n+4) 69 [MP,.p (.int .i64 h)] (machG S.N S.st av rest)=some (.tuple [],machG S.N (takeM S h).st av' rest')∧MOk S.N av' (takeM S h).kd rest'∧Fr S.N av rest S.N av' rest':=by
 have len1:∀ st av,(rowsAV S.N st av).length=S.N:=fun _ _=>rowsAV_len
 have hgh:(rowsAV S.N S.st av).getD h []=nodeAV (S.st h) (av h):=rowsAV_get hh
 have k2:(h:Int)<(S.N:Int):=by omega
 have hM':MOk S.N av S.kd (rest++[.pcells 1 [[.int .i64 h]]]):=⟨fun k hk=>(hM.kids k hk).more _,hM.disj⟩
 have hbx:(rest++[AObj.pcells 1 [[.int .i64 h]]])[rest.length]? = some (.pcells 1 [[.int .i64 h]]):=by simp
 have e0:Int.toNat 0=0:=rfl
 by_cases hup:(S.st h).up<0
 ·have e:takeM S h=S:=by simp [takeM,hup]
  rw [e]
  refine ⟨av,_, ?_,hM',Fr.more _ _ _ _⟩
  rw [acall_code T69,run_code rfl rfl]
  simp only [machG,nodeAV] at hgh ⊢
  simp -implicitDefEqProofs (disch:=omega) only [Rx,simprocAttr,F69,k2,len1,hgh,hup,hbx]
 obtain ⟨u,hu,hu1,hu2,hu3⟩:=hS.up_nat hh (by omega)
 have hK:=hM'.kids u hu1
 have hkl:=hS.kids_len hu1
 have k1:(u:Int)<(S.N:Int):=by omega
 have hgu:(rowsAV S.N S.st av).getD u []=nodeAV (S.st u) (av u):=rowsAV_get hu1
 have hcl:=fun A B=>cloneI_run hK (by omega) A B (n+2)
 have hb2:=killed_at (o:=.pcells 1 [[.int .i64 h]]) (hM.kids u hu1)
 have hXl:=killed_len (rest++[AObj.pcells 1 [[.int .i64 h]]]) (av u)
 simp only [List.length_append,List.length_cons,List.length_nil,Nat.zero_add] at hcl hXl
 have hfix:=Go.TA.Tryz.MOk.fixed hM' hu1 ((S.kd u).filter (notH h)) [.dead]
 have hfr:=(Fr.more S.N av rest [.pcells 1 [[.int .i64 h]]]).trans (Go.TA.Tryz.Fr.fixed hu1 (intsPV ((S.kd u).filter (notH h))) [.dead])
 generalize hX:killed (rest++[AObj.pcells 1 [[.int .i64 h]]]) (av u)=X at hcl hb2 hXl hfix hfr
 have hdel:∀ A B,acall T (n+3) 123 [.own true (rest.length+1+1+1) (S.kd u).length,.func 124 [.ptr true (rest.length+1+1) 1 1 0 0]] (A::B::(X++[.pcells 1 (intsPV (S.kd u))]))=some (.p (.list (intsPV ((S.kd u).filter (notH h)))),A::B::(X++[.dead])):=by
  intro A B
  have h1:(A::B::(X++[.pcells 1 (intsPV (S.kd u))]))[rest.length+1+1+1]? = some (.pcells 1 (intsPV (S.kd u))):=by
   simp only [List.getElem?_cons_succ]
   rw [← hXl];simp
  have h2:(A::B::(X++[.pcells 1 (intsPV (S.kd u))]))[rest.length+1+1]? = some (.pcells 1 [[.int .i64 h]]):=by
   simp only [List.getElem?_cons_succ]
   rw [List.getElem?_append_left (by omega)];exact hb2
  have:=delI_run (S.kd u) _ h1 h2 (by omega) (by omega) (n:=n) (by omega)
  rw [this]
  have e2:(X++[AObj.pcells 1 (intsPV (S.kd u))]).set (rest.length+1) .dead=X++[.dead]:=by rw [← hXl];simp [List.set_append]
  simp only [List.set_cons_succ,e2]
 have hb3:(X++[AObj.dead])[rest.length]? = some (.pcells 1 [[.int .i64 h]]):=by rw [List.getElem?_append_left (by omega)];exact hb2
 have htk:takeM S h=⟨S.N,upd S.st h { S.st h with up := -1 },upd S.kd u ((S.kd u).filter (notH h))⟩:=by
  unfold takeM
  rw [if_neg hup,hu,Int.toNat_natCast]
  rfl
 rw [htk]
 refine ⟨upd av u (.p (.list (intsPV ((S.kd u).filter (notH h))))),X++[.dead], ?_,hfix,hfr⟩
 generalize (S.kd u).filter (notH (h:Int))=ks' at hdel
 have hset1:(rowsAV S.N S.st av).set u [.p (.bool (S.st u).live),.p (.int .i64 (S.st u).up),.p (.list (intsPV ks')),.p (.str (S.st u).tag),.p (.str (S.st u).key),.p (.str (S.st u).text),.p (.list ((S.st u).attrs.map Attr.pv))]=rowsAV S.N S.st (upd av u (.p (.list (intsPV ks')))):=by
  have:=rowsAV_set (N:=S.N) (st:=S.st) (av:=av) hu1 (S.st u) (.p (.list (intsPV ks')))
  simp only [nodeAV] at this
  rw [this]
  refine rowsAV_congr fun k hk=>⟨?_,rfl⟩
  by_cases e:k=u
  ·subst e;rw [upd_at]
  ·rw [upd_ne e]
 have hgh2:(rowsAV S.N S.st (upd av u (.p (.list (intsPV ks'))))).getD h []=nodeAV (S.st h) (upd av u (.p (.list (intsPV ks'))) h):=rowsAV_get hh
 generalize hah:upd av u (.p (.list (intsPV ks'))) h=ah at hgh2
 have hset2:(rowsAV S.N S.st (upd av u (.p (.list (intsPV ks'))))).set h [.p (.bool (S.st h).live),.p (.int .i64 (-1)),ah,.p (.str (S.st h).tag),.p (.str (S.st h).key),.p (.str (S.st h).text),.p (.list ((S.st h).attrs.map Attr.pv))]=rowsAV S.N (upd S.st h { S.st h with up := -1 }) (upd av u (.p (.list (intsPV ks')))):=by
  have:=rowsAV_set (N:=S.N) (st:=S.st) (av:=upd av u (.p (.list (intsPV ks')))) hh { S.st h with up := -1 } ah
  simp only [nodeAV] at this
  rw [this]
  refine rowsAV_congr fun k hk=>⟨rfl, ?_⟩
  by_cases e:k=h
  ·subst e;rw [upd_at,hah]
  ·rw [upd_ne e]
 have k0:¬ (u:Int)<0:=by omega
 rw [acall_code T69,run_code rfl rfl]
 simp only [nodeAV,hu] at hgh hgu hgh2
 rcases hK.inv with ⟨hav,hk0⟩ | ⟨r,hav,hr⟩ | hav
 all_goals
  rw [hav] at hcl hgu
  simp only [machG]
  simp -implicitDefEqProofs (disch:=omega) only [Rx,simprocAttr,F69,k0,k1,k2,len1,hgh,hgu,hgh2,hset1,hset2,hcl,hdel,hbx,hb3]
end Go.TA.Tryz


end
