/- Part 14 of 16 of a proof; joined from CalFlatE, CalMLoose, CalRAt, CalRIns, CalRRead, CalRLoose, CalEndG, CalFirstG, CalPNew, CalRunsNew, CalRMove, CalRRem. The document's answer: a node ends, and all below it. -/
import Derived.Test.YtnjblmbobmbgkaaGreatDoorCa1
import Derived.Test.YtnjblmbobmbgkaaGreatDoorCa13
import Derived.Test.YtnjblmbobmbgkaaGreatDoorCa12
import Derived.Test.YtnjblmbobmbgkaaGreatDoorCa11
import Derived.Test.YtnjblmbobmbgkaaGreatDoorCa7
import Derived.Test.YtnjblmbobmbgkaaGreatDoorCa10
import Derived.Test.YtnjblmbobmbgkaaGreatDoorCa6
set_option linter.unusedSimpArgs false
set_option linter.unusedVariables false
set_option linter.defProp false
set_option maxRecDepth 100000
set_option maxHeartbeats 8000000
section
/- What the program finds wrong with rows is what the document's answer finds wrong. -/
namespace Go.TA.Tryz
theorem g9k {l:List GRow} {m x:Nat} (hx:x<m):upAt (l.take m) (x+1)=upAt l (x+1):=by
 simp only [upAt,Nat.add_sub_cancel]
 rw [List.getElem?_take,if_pos hx]
theorem g4v {l:List GRow} (hs:b1r l l.length) {m:Nat}:∀ (f x:Nat),x≤m→anc (l.take m) f x=anc l f x
  | 0,_,_=>rfl
  | _+1,0,_=>rfl
  | f + 1, x + 1, hx => by
    simp only [anc,g9k (l:=l) (show x<m by omega)]
    congr 1
    refine g4v hs f _ ?_
    by_cases h:x<l.length
    · have:=b5w hs h h
      omega
    · have:upAt l (x+1)=0:=by simp [upAt,List.getElem?_eq_none (show l.length≤x by omega)]
      omega
theorem d2v {l:List GRow} (hs:b1r l l.length) {m x:Nat} (hx:x≤m):b3o (l.take m) x=b3o l x:=g4v hs x x hx
theorem d4t {l:List GRow} {m j:Nat} {x:GRow} (h:(l.take m)[j]? = some x):j<m∧l[j]? = some x:=by
 rw [List.getElem?_take] at h
 split at h
 ·rename_i hj;exact ⟨hj,h⟩
 ·cases h
theorem g5i {l:List GRow} (hs:b5x l) (m:Nat):b5x (l.take m):=by
 refine ⟨fun j x hj hx=>hs.1 j x ?_ (d4t hx).2,fun j x hx => ?_⟩
 ·exact (List.getElem?_eq_some_iff.1 (d4t hx).2).1
 ·obtain ⟨hj,hx⟩:=d4t hx
  rcases hs.2 j x hx with h | ⟨h1,y,hy,hyu⟩
  ·exact .inl h
  ·exact .inr ⟨h1,y,by rw [d2v hs.1 (by omega)];exact hy,hyu⟩
theorem g0f {l:List GRow} (hs:b1r l l.length) {m i:Nat} (hi:i<m) (x:GRow):b3n (l.take m) i x=b3n l i x:=by
 unfold b3n dupB
 rw [d2v hs (show i+1≤m by omega),List.take_take,show min i m=i by omega]
theorem d7y {l:List GRow} (hs:b1r l l.length) {m:Nat}:∀ (d a b:Nat),b - a≤d→b≤m→b≤l.length→errR (l.take m) a b=errR l a b
  | 0, a, b, hd, hb, hl => by
    have h1:∀ k:List GRow,(k.take b).drop a=[]:=fun k=>List.drop_eq_nil_of_le (by rw [List.length_take];omega)
    simp only [errR,h1];rfl
  | d + 1, a, b, hd, hb, hl => by
    by_cases h:a<b
    · obtain ⟨x,hx⟩:=b0m (show a<l.length by omega)
      have hx':(l.take m)[a]? = some x:=by rw [List.getElem?_take,if_pos (by omega)];exact hx
      rw [b9e hx h,b9e hx' h,g0f hs (by omega),d7y hs d (a+1) b (by omega) hb hl]
    · have h1:∀ k:List GRow,(k.take b).drop a=[]:=fun k=>List.drop_eq_nil_of_le (by rw [List.length_take];omega)
      simp only [errR,h1];rfl
theorem j1j {l:List GRow} (hs:b5x l) (h0:0<l.length):b2l l 1=l.length:=by
 have he:=b4k (l:=l) (h:=1) (by omega)
 rcases Nat.lt_or_ge (b2l l 1) l.length with hlt | hge
 ·obtain ⟨x,hx⟩:=b0m hlt
  have a1:=b9t (h:=1) (by omega) hx
  rcases hs.2 _ x hx with ⟨h1,_⟩ | ⟨_,y,hy,hyu⟩
  ·omega
  ·have:=c4z hy
   omega
 ·omega
theorem g7v (l:List GRow) (hl:l.length≤1048576) (hs:b1r l l.length) (hal:∀ x ∈ l,x.attrs.length≤1048577) {b:Nat} {p:List PV} (hbt:BT l 0 b p) {n:Nat} (hn:1048577<n) (g:List AObj) :
  ∃ m deep,b0f T (n+l.length+40) 119 [.p (.agg p)] g=some (.p (.agg [.int .i64 m,.int .i64 deep,.int .i64 (errR l 0 b)]),g):=by
 have hlt:=hbt.lt
 have hbt':=hbt
 cases hbt with
 | mk hx hks=>
 rename_i x ks
 obtain ⟨r,hr,hse⟩:=h5i l hl hs hal l.length n 0 b (b1b x ks) x [] 0 0 [.map []] (by omega) hn hbt' hx rfl ⟨fun e he=>by simp at he,fun e he=>by simp at he,fun j y hj=>by omega⟩
 have hc:=h3t hs hx
 rcases hse with ⟨he,deep,ms',es,rfl,_,_,_,_⟩ | ⟨he,m,deep,ms',rfl⟩
 ·refine ⟨b,deep, ?_⟩
  rw [he,b0a T119,run_pure rfl rfl rfl]
  simp only [Nat.zero_add,hc,List.length_singleton,Int.natCast_one,Int.natCast_zero,LK,VK,pL,pV,b1b] at hr
  simp only [b1b]
  simp -implicitDefEqProofs (disch:=omega) only [Rx,simprocAttr,F119,hr]
 ·refine ⟨m,deep, ?_⟩
  rw [b0a T119,run_pure rfl rfl rfl]
  generalize errR l 0 b=e at hr
  simp only [Nat.zero_add,hc,List.length_singleton,Int.natCast_one,Int.natCast_zero,LK,LKE,VK,pL,pV,b1b] at hr
  simp only [b1b]
  simp -implicitDefEqProofs (disch:=omega) only [Rx,simprocAttr,F119,hr]
theorem d9q (l:List GRow) (hl:l.length≤1048576) (hs:b1r l l.length) (hal:∀ x ∈ l,x.attrs.length≤1048577) {b:Nat} {p:List PV} (hbt:BT l 0 b p) {n:Nat} (hn:1048577<n) (g:List AObj) :
  ∃ m,b0f T (n+l.length+41) 98 [.p (.agg p)] g=some (.tuple [.p (.int .i64 m),.p (.int .i64 (errR l 0 b))],g):=by
 obtain ⟨m,deep,hr⟩:=g7v l hl hs hal hbt hn []
 cases hbt with
 | mk hx hks=>
 rename_i x ks
 simp only [b1b] at hr
 by_cases he:errR l 0 b=0
 ·refine ⟨0, ?_⟩
  rw [he] at hr ⊢
  rw [b0a T98,run_pure rfl rfl rfl]
  simp only [b1b]
  simp -implicitDefEqProofs (disch:=omega) only [Rx,simprocAttr,F98,hr]
 ·refine ⟨m, ?_⟩
  have e1:(errR l 0 b==0)=false:=by simpa using he
  generalize errR l 0 b=e at hr e1
  rw [b0a T98,run_pure rfl rfl rfl]
  simp only [b1b]
  simp -implicitDefEqProofs (disch:=omega) only [Rx,simprocAttr,F98,hr,e1]
def b7k (l:List GRow) (i:Nat):Prop:=64<(b3o l (i+1)).length
theorem h3p (l : List GRow) (hs : b1r l l.length) (hl : l.length ≤ 1048576) (g : List AObj) {n : Nat} (hn : l.length < n) :
    ∃ d:Bool,b0f T (n+1) 95 [.p (.list (l.map GRow.pv))] g=some (.p (.bool d),g)∧(d=true↔(∃ i,i<l.length∧b7k l i)∨4096<l.length):=by
  have key:=b1i (C:=b0f T n) (N:=n) (B:=h4q) (σ := Nat) (S:=fun i=>⟨[(0,.p (.list (l.map GRow.pv))),(3,.own false 9 (l.length+1)),(10,.p (.list (l.map GRow.pv))),(11,.p (.int .i64 l.length)),(12,.p (.int .i64 i))],[(9,.pcells 1 (b4t l i))],[]⟩) (I:=fun i=>i≤l.length∧∀ j,j<i→¬ b7k l j) (μ := fun i=>l.length - i)
    (Q:=fun r=>(r=(.ret,⟨[(2,.p (.bool true))],[],[]⟩)∧∃ i,i<l.length∧b7k l i)∨(r=(.exit 0,⟨[(0,.p (.list (l.map GRow.pv)))],[],[]⟩)∧∀ j,j<l.length→¬ b7k l j)) ?_ 0 ⟨by omega,fun j hj=>by omega⟩ (by omega)
  · obtain ⟨r,hr,hq⟩:=key
    have k2:((l.length:Int)+1).toNat=l.length+1:=by omega
    have hz:=d0b l
    simp only [Int.natCast_zero] at hr
    rcases hq with ⟨rfl,hd⟩ | ⟨rfl,hd⟩
    · refine ⟨true, ?_,by simp [hd]⟩
      rw [b0a T95,run_pure rfl rfl rfl]
      simp -implicitDefEqProofs (disch:=omega) only [Rx,simprocAttr,F95,k2,hz,hr]
    · by_cases h4:4096<l.length
      · refine ⟨true, ?_,by simp [h4]⟩
        have k1:(4096:Int)<(l.length:Int):=by omega
        rw [b0a T95,run_pure rfl rfl rfl]
        simp -implicitDefEqProofs (disch:=omega) only [Rx,simprocAttr,F95,k1,k2,hz,hr]
      · refine ⟨false, ?_, ?_⟩
        · have k1:¬ (4096:Int)<(l.length:Int):=by omega
          rw [b0a T95,run_pure rfl rfl rfl]
          simp -implicitDefEqProofs (disch:=omega) only [Rx,simprocAttr,F95,k1,k2,hz,hr]
        · simp only [Bool.false_eq_true,false_iff,not_or]
          exact ⟨fun ⟨i,h1,h2⟩=>hd i h1 h2,h4⟩
  rintro i ⟨hi,hnd⟩
  by_cases h:i<l.length
  · have k1:(i:Int)<(l.length:Int):=by omega
    obtain ⟨x,hx,hu⟩:=d1i hs (Nat.le_refl _) h
    have hg:=b0s (f:=GRow.pv) hx
    have hle:=b5w hs h h
    have hc:=b3l hs (Nat.le_refl _) h
    have hcl:=c5a hs (upAt l (i+1)) (upAt l (i+1)) (Nat.le_refl _) (by omega)
    have dl:=c1y l i
    have g1:(b4t l i).getD (upAt l (i+1)) []=[.int .i64 ((b3o l (upAt l (i+1))).length:Int)]:=by rw [b7x l (by omega),if_pos (by omega)]
    have s1:(b4t l i).set (i+1) [.int .i64 (((b3o l (upAt l (i+1))).length:Int)+1)]=b4t l (i+1):=by
      rw [← d2p l h,hc,List.length_cons];push_cast;rfl
    have g2:(b4t l (i+1)).getD (i+1) []=[.int .i64 (((b3o l (upAt l (i+1))).length:Int)+1)]:=by rw [b7x l (by omega),if_pos (by omega),hc,List.length_cons];push_cast;rfl
    have g3:(b4t l i).getD (i+1) []=[.int .i64 0]:=by rw [b7x l (by omega),if_neg (by omega)]
    have k5:((i:Int)+1).toNat=i+1:=by omega
    have dl2:=c1y l (i+1)
    by_cases hdp:b7k l i
    · right
      have k2:(64:Int)<((b3o l (upAt l (i+1))).length:Int)+1:=by
        unfold b7k at hdp
        rw [hc,List.length_cons] at hdp
        omega
      refine ⟨_, ?_, ?_,.inl ⟨rfl,i,h,hdp⟩⟩
      · simp -implicitDefEqProofs (disch:=omega) only [Rx,simprocAttr,h4q,k1,hg,GRow.pv,hu,dl,dl2,g1,g2,g3,s1,k2,k5]
      · simp
    · left
      have k2:¬ (64:Int)<((b3o l (upAt l (i+1))).length:Int)+1:=by
        unfold b7k at hdp
        rw [hc,List.length_cons] at hdp
        omega
      refine ⟨i+1, ?_,⟨by omega,fun j hj => ?_⟩,by omega⟩
      · simp -implicitDefEqProofs (disch:=omega) only [Rx,simprocAttr,h4q,k1,hg,GRow.pv,hu,dl,dl2,g1,g2,g3,s1,k2,k5]
      · by_cases e:j=i
        · subst e;exact hdp
        · exact hnd j (by omega)
  · right
    obtain rfl:i=l.length:=by omega
    have k1:¬ (l.length:Int)<(l.length:Int):=by omega
    refine ⟨_, ?_, ?_,.inr ⟨rfl,hnd⟩⟩
    · simp -implicitDefEqProofs (disch:=omega) only [Rx,simprocAttr,h4q,k1]
    · simp
theorem h8d (l : List GRow) (hs : b1r l l.length) (hl : l.length ≤ 1048576) (hd : (∃ i, i < l.length ∧ b7k l i) ∨ 4096 < l.length) (g : List AObj) {n : Nat} (hn : l.length < n) :
    ∃ k,k<l.length∧(b7k l k∨k=4096)∧b0f T (n+1) 96 [.p (.list (l.map GRow.pv))] g=some (.p (.list ((l.take (k+1)).map GRow.pv)),g):=by
  have key:=b1i (C:=b0f T n) (N:=n) (B:=h4p) (σ := Nat) (S:=fun i=>⟨[(0,.p (.list (l.map GRow.pv))),(3,.own false 9 (l.length+1)),(10,.p (.list (l.map GRow.pv))),(11,.p (.int .i64 l.length)),(12,.p (.int .i64 i))],[(9,.pcells 1 (b4t l i))],[]⟩) (I:=fun i=>i≤l.length∧∀ j,j<i→¬ b7k l j∧j≠4096) (μ := fun i=>l.length - i)
    (Q:=fun r=>∃ k,k<l.length∧(b7k l k∨k=4096)∧r=(.ret,⟨[(2,.p (.list ((l.take (k+1)).map GRow.pv)))],[],[]⟩)) ?_ 0 ⟨by omega,fun j hj=>by omega⟩ (by omega)
  · obtain ⟨r,hr,k,h1,h2,rfl⟩:=key
    have k2:((l.length:Int)+1).toNat=l.length+1:=by omega
    have hz:=d0b l
    simp only [Int.natCast_zero] at hr
    refine ⟨k,h1,h2, ?_⟩
    rw [b0a T96,run_pure rfl rfl rfl]
    simp -implicitDefEqProofs (disch:=omega) only [Rx,simprocAttr,F96,k2,hz,hr]
  rintro i ⟨hi,hnd⟩
  by_cases h:i<l.length
  · have k1:(i:Int)<(l.length:Int):=by omega
    obtain ⟨x,hx,hu⟩:=d1i hs (Nat.le_refl _) h
    have hg:=b0s (f:=GRow.pv) hx
    have hle:=b5w hs h h
    have hc:=b3l hs (Nat.le_refl _) h
    have hcl:=c5a hs (upAt l (i+1)) (upAt l (i+1)) (Nat.le_refl _) (by omega)
    have dl:=c1y l i
    have g1:(b4t l i).getD (upAt l (i+1)) []=[.int .i64 ((b3o l (upAt l (i+1))).length:Int)]:=by rw [b7x l (by omega),if_pos (by omega)]
    have s1:(b4t l i).set (i+1) [.int .i64 (((b3o l (upAt l (i+1))).length:Int)+1)]=b4t l (i+1):=by
      rw [← d2p l h,hc,List.length_cons];push_cast;rfl
    have g2:(b4t l (i+1)).getD (i+1) []=[.int .i64 (((b3o l (upAt l (i+1))).length:Int)+1)]:=by rw [b7x l (by omega),if_pos (by omega),hc,List.length_cons];push_cast;rfl
    have g3:(b4t l i).getD (i+1) []=[.int .i64 0]:=by rw [b7x l (by omega),if_neg (by omega)]
    have k5:((i:Int)+1).toNat=i+1:=by omega
    have dl2:=c1y l (i+1)
    have ll:(l.map GRow.pv).length=l.length:=by simp
    have k6:(i:Int)+1≤(l.length:Int):=by omega
    have htk:((l.map GRow.pv).take (i+1)).drop 0=(l.take (i+1)).map GRow.pv:=by rw [List.drop_zero,List.map_take]
    have htk2:(l.map GRow.pv).take (i+1)=(l.take (i+1)).map GRow.pv:=by rw [List.map_take]
    have k0:(0:Int).toNat=0:=rfl
    by_cases hdp:b7k l i
    · right
      have k2:(64:Int)<((b3o l (upAt l (i+1))).length:Int)+1:=by
        unfold b7k at hdp
        rw [hc,List.length_cons] at hdp
        omega
      refine ⟨_, ?_, ?_,i,h,.inl hdp,rfl⟩
      · simp -implicitDefEqProofs (disch:=omega) only [Rx,simprocAttr,h4p,k1,hg,GRow.pv,hu,dl,dl2,g1,g2,g3,s1,k2,k5,k6,k0,ll,htk2,b5l]
      · simp
    · have k2:¬ (64:Int)<((b3o l (upAt l (i+1))).length:Int)+1:=by
        unfold b7k at hdp
        rw [hc,List.length_cons] at hdp
        omega
      by_cases h4:i=4096
      · right
        have e4:((i:Int)==4096)=true:=by simp;omega
        refine ⟨_, ?_, ?_,i,h,.inr h4,rfl⟩
        · simp -implicitDefEqProofs (disch:=omega) only [Rx,simprocAttr,h4p,k1,hg,GRow.pv,hu,dl,dl2,g1,g2,g3,s1,k2,k5,k6,k0,e4,ll,htk2,b5l]
        · simp
      · left
        have e4:((i:Int)==4096)=false:=by simp;omega
        refine ⟨i+1, ?_,⟨by omega,fun j hj => ?_⟩,by omega⟩
        · simp -implicitDefEqProofs (disch:=omega) only [Rx,simprocAttr,h4p,k1,hg,GRow.pv,hu,dl,dl2,g1,g2,g3,s1,k2,k5,e4]
        · by_cases e:j=i
          · subst e;exact ⟨hdp,h4⟩
          · exact hnd j (by omega)
  · exfalso
    rcases hd with ⟨j,hj,hdj⟩ | hd
    · exact (hnd j (by omega)).1 hdj
    · exact (hnd 4096 (by omega)).2 rfl
theorem g2r {l:List GRow} {k:Nat} {x:GRow} (hk:b7k l k∨k=4096):b3n l k x≠0:=by
 unfold b3n b7k at *
 split
 ·omega
 ·rename_i h
  rcases hk with hk | hk
  ·rw [if_pos hk];omega
  ·exact absurd hk h
theorem five {p:List PV} (h:p.length=5):∃ c1 c2 c3 c4 c5,p=[c1,c2,c3,c4,c5]:=by
 match p,h with
 | [c1,c2,c3,c4,c5],_=>exact ⟨c1,c2,c3,c4,c5,rfl⟩
theorem g9m (l : List GRow) (hl : l.length ≤ 1048576) (hne : l ≠ []) (hf : b4h l = true) (hal : ∀ x ∈ l, x.attrs.length ≤ 1048577) {n : Nat} (hn : 1048577 < n) (g : List AObj) :
    ∃ p,(∃ c1 c2 c3 c4 c5,p=[c1,c2,c3,c4,c5])∧b0f T (n+l.length+42) 61 [.p (.list (l.map GRow.pv))] g=some (.tuple [.p (.agg p),.p (.int .i64 (b2w l 0 l))],g):=by
  have hso:=b3x hf
  have hs:=hso.1
  have hlen:0<l.length:=List.length_pos_iff.2 hne
  have hfr:=d7s l hl [] (n:=n+l.length+40) (by omega)
  rw [hf] at hfr
  obtain ⟨d,hdr,hdi⟩:=h3p l hs hl [] (n:=n+l.length+40) (by omega)
  have k0:((l.length:Int)==0)=false:=by simp;omega
  have tree:∀ l':List GRow,b5x l'→l'.length≤l.length→0<l'.length→(∀ x ∈ l',x.attrs.length≤1048577)→∃ c1 c2 c3 c4 c5 m,b0f T (n+l.length+41) 97 [.p (.list (l'.map GRow.pv)),.p (.int .i64 0)] []=some (.tuple [.p (.agg [c1,c2,c3,c4,c5]),.p (.int .i64 l'.length)],[])∧b0f T (n+l.length+41) 98 [.p (.agg [c1,c2,c3,c4,c5])] []=some (.tuple [.p (.int .i64 m),.p (.int .i64 (errR l' 0 l'.length))],[]):=by
    intro l' hs' hl' h0' hal'
    obtain ⟨b,p,hbt,hbe,hb⟩:=g7y l' (by omega) hs' hal' l'.length 0 (n+l.length+38 - l'.length) h0' (by omega)
    have hb:=hb []
    rw [show n+l.length+38 - l'.length+l'.length+3=n+l.length+41 by omega] at hb
    obtain ⟨m,hv⟩:=d9q l' (by omega) hs'.1 hal' hbt (n:=n+l.length - l'.length) (by omega) []
    rw [show n+l.length - l'.length+l'.length+41=n+l.length+41 by omega] at hv
    have hpl:=hbt.len
    have hbl:b=l'.length:=by rw [hbe];exact j1j hs' h0'
    rw [hbl] at hb hv
    have hp5:=five hpl
    clear hbt hpl hbe hbl
    obtain ⟨c1,c2,c3,c4,c5,hp5⟩:=hp5
    rw [hp5] at hb hv
    clear hp5
    have key:=And.intro hb hv
    exact Exists.intro c1 (Exists.intro c2 (Exists.intro c3 (Exists.intro c4 (Exists.intro c5 (Exists.intro m key)))))
  have fin:∀ l':List GRow,(d=true→b0f T (n+l.length+41) 96 [.p (.list (l.map GRow.pv))] []=some (.p (.list (l'.map GRow.pv)),[]))→(d=false→l'=l)→b5x l'→l'.length≤l.length→0<l'.length→(∀ x ∈ l',x.attrs.length≤1048577)→errR l' 0 l'.length=b2w l 0 l →
      ∃ p,(∃ c1 c2 c3 c4 c5,p=[c1,c2,c3,c4,c5])∧b0f T (n+l.length+42) 61 [.p (.list (l.map GRow.pv))] g=some (.tuple [.p (.agg p),.p (.int .i64 (b2w l 0 l))],g):=by
    intro l' hcut hd0 hs' hl' h0' hal' hee
    obtain ⟨c1,c2,c3,c4,c5,m,hb,hv⟩:=tree l' hs' hl' h0' hal'
    rw [hee] at hv
    have ll:(l.map GRow.pv).length=l.length:=by simp
    by_cases he:b2w l 0 l=0
    · rw [he] at hv ⊢
      refine ⟨[c1,c2,c3,c4,c5],⟨_,_,_,_,_,rfl⟩, ?_⟩
      rw [b0a T61,run_pure rfl rfl rfl]
      cases d with
      | true =>
        have hc:=hcut rfl
        simp -implicitDefEqProofs (disch:=omega) only [Rx,simprocAttr,F61,k0,ll,hfr,hdr,hc,hb,hv]
      | false =>
        rw [hd0 rfl] at hb
        simp -implicitDefEqProofs (disch:=omega) only [Rx,simprocAttr,F61,k0,ll,hfr,hdr,hb,hv]
    · have e1:(b2w l 0 l==0)=false:=by simpa using he
      refine ⟨[.str [],.str [],.str [],.list [],.list []],⟨_,_,_,_,_,rfl⟩, ?_⟩
      generalize b2w l 0 l=e at hv e1 ⊢
      rw [b0a T61,run_pure rfl rfl rfl]
      cases d with
      | true =>
        have hc:=hcut rfl
        simp -implicitDefEqProofs (disch:=omega) only [Rx,simprocAttr,F61,k0,ll,hfr,hdr,hc,hb,hv,e1]
      | false =>
        rw [hd0 rfl] at hb
        simp -implicitDefEqProofs (disch:=omega) only [Rx,simprocAttr,F61,k0,ll,hfr,hdr,hb,hv,e1]
  by_cases hdt:d=true
  · obtain ⟨k,hk1,hk2,hcut⟩:=h8d l hs hl (hdi.1 hdt) [] (n:=n+l.length+40) (by omega)
    have htl:(l.take (k+1)).length=k+1:=by rw [List.length_take];omega
    obtain ⟨x,hx⟩:=b0m hk1
    have h1:=b9d (l:=l) k (a:=0) (m:=k) (b:=k+1) (by omega) (by omega) (by omega)
    have h2:=b9e hx (show k<k+1 by omega)
    rw [if_neg (g2r hk2)] at h2
    have hne2:errR l 0 (k+1)≠0:=by
      rw [h1]
      split
      · rw [h2];exact g2r hk2
      · assumption
    have h3:=b9d (l:=l) (k+1) (a:=0) (m:=k+1) (b:=l.length) (by omega) (by omega) (Nat.le_refl _)
    rw [if_neg hne2] at h3
    refine fin (l.take (k+1)) (fun _ => ?_) (fun h=>absurd hdt (by rw [h];simp)) (g5i hso _) (by omega) (by omega) (fun x hx=>hal x (List.mem_of_mem_take hx)) ?_
    · exact hcut
    · rw [htl,d7y hs (k+1) 0 (k+1) (by omega) (Nat.le_refl _) (by omega), ← h3,g4c]
  · have hd0:d=false:=by simpa using hdt
    exact fin l (fun h=>absurd h hdt) (fun _=>rfl) hso (Nat.le_refl _) hlen hal g4c
theorem b8p (l:List GRow) {m:Nat} (hl:Rows.mid m l) (hm:m≤1048577) {n:Nat} (hn:1048577<n) (g:List AObj):b0f T (n+l.length+43) 36 [.p (.list (l.map GRow.pv))] g=some (.p (.int .i64 (b0r l)),g):=by
 have hlen:=hl.len
 by_cases hne:l=[]
 ·subst hne
  have e:b0r []=0:=rfl
  rw [e,b0a T36,run_pure rfl rfl rfl]
  simp -implicitDefEqProofs (disch:=omega) only [Rx,simprocAttr,F36,Int.natCast_zero]
 have hlen0:0<l.length:=List.length_pos_iff.2 hne
 have k0:((l.length:Int)==0)=false:=by simp;omega
 by_cases hf:b4h l=true
 ·obtain ⟨p,hp,hr⟩:=g9m l (by omega) hne hf (fun x hx=>by have:=(hl.row x hx).attrs;omega) hn []
  have e:b0r l=b2w l 0 l:=by rw [b0r,if_pos hf]
  obtain ⟨c1,c2,c3,c4,c5,rfl⟩:=hp
  rw [e,b0a T36,run_pure rfl rfl rfl]
  simp -implicitDefEqProofs (disch:=omega) only [Rx,simprocAttr,F36,k0,hr]
 ·have e:b0r l=2:=by rw [b0r,if_neg hf]
  have hfr:=d7s l (by omega) [] (n:=n+l.length+40) (by omega)
  simp only [Bool.not_eq_true] at hf
  rw [hf] at hfr
  have hr:b0f T (n+l.length+42) 61 [.p (.list (l.map GRow.pv))] []=some (.tuple [.p (.agg [.str [],.str [],.str [],.list [],.list []]),.p (.int .i64 2)],[]):=by
   have ll:(l.map GRow.pv).length=l.length:=by simp
   rw [b0a T61,run_pure rfl rfl rfl]
   simp -implicitDefEqProofs (disch:=omega) only [Rx,simprocAttr,F61,k0,ll,hfr]
  rw [e,b0a T36,run_pure rfl rfl rfl]
  simp -implicitDefEqProofs (disch:=omega) only [Rx,simprocAttr,F36,k0,hr]
end Go.TA.Tryz


end
section
/- The machine's loose tops, read. -/
namespace Go.TA.Tryz
def looB (S:MS) (h:Nat):Bool:=(S.st h).live && (!(h==0) && decide ((S.st h).up<0))
theorem g6i (S:MS):b3r S=((List.range S.N).filter (looB S)).map fun h:Nat=>(h:Int):=by
 unfold b3r b0h
 rw [List.filter_filter]
 congr 1
 apply List.filter_congr
 intro h _
 simp [looB,Bool.and_comm]
theorem d2f (S:MS):(b3r S).length≤S.N:=by
 have h1:=c9m S
 have h2:=List.length_filter_le (fun h:Nat => !(h==0) && decide ((S.st h).up<0)) (b0h S)
 simp only [b3r,List.length_map]
 omega
theorem h1y (S : MS) (hN : S.N ≤ 4194304) (av : Nat → AV) (rest : List AObj) (hM : MOk S.N av S.kd rest) {n : Nat} (hn : S.N < n) :
    b0f T (n+1) 17 [MP] (b0o S.N S.st av rest)=some (.own true (rest.length+1+1) (b3r S).length,b0o S.N S.st av (rest++[.pcells 1 (b0j (b3r S))])):=by
  have len1:(b0z S.N S.st av).length=S.N:=b1y
  have hlast:∀ X:AObj,(rest++[X])[rest.length]? = some X:=fun X=>by simp
  have hsetX:∀ X Y:AObj,(rest++[X]).set rest.length Y=rest++[Y]:=fun X Y=>by simp [List.set_append]
  rw [g6i]
  generalize hacc:(fun i:Nat=>((List.range i).filter (looB S)).map fun h:Nat=>(h:Int))=acc
  have hal:∀ i,i≤S.N→(acc i).length≤4194304:=fun i hi=>by
    rw [← hacc];simp only [List.length_map]
    have h3:=List.length_filter_le (looB S) (List.range i)
    rw [List.length_range] at h3
    omega
  have key:=b1i (C:=b0f T n) (N:=n) (B:=g2f) (σ := Nat) (S:=fun i=>⟨[(3,.own true (rest.length+1+1) (acc i).length),(12,.own true 0 S.N),(13,.p (.int .i64 S.N)),(14,.p (.int .i64 i))],[],b0o S.N S.st av (rest++[.pcells 1 (b0j (acc i))])⟩)
    (I:=fun i=>i≤S.N) (μ := fun i=>S.N - i) (Q:=fun r=>r=(.exit 0,⟨[(3,.own true (rest.length+1+1) (acc S.N).length)],[],b0o S.N S.st av (rest++[.pcells 1 (b0j (acc S.N))])⟩)) ?_ 0 (by omega) (by omega)
  · obtain ⟨r,hr,rfl⟩:=key
    have e0:acc 0=[]:=by rw [← hacc];simp
    have e1:acc S.N=((List.range S.N).filter (looB S)).map fun h:Nat=>(h:Int):=by rw [← hacc]
    rw [e0,e1] at hr
    generalize ((List.range S.N).filter (looB S)).map (fun h:Nat=>(h:Int))=l1 at hr ⊢
    simp only [List.length_nil,Int.natCast_zero,show b0j []=[] from rfl] at hr
    rw [b0a T17,b0g rfl rfl]
    simp only [b0o] at hr ⊢
    simp -implicitDefEqProofs (disch:=omega) only [Rx,simprocAttr,F17,hr]
  intro i hi
  by_cases h1:i<S.N
  · left
    have k1:(i:Int)<(S.N:Int):=by omega
    have hg:(b0z S.N S.st av).getD i []=b1s (S.st i) (av i):=b1w h1
    have hs:acc (i+1)=acc i++if looB S i=true then [(i:Int)] else []:=by
      rw [← hacc]
      simp only
      rw [List.range_succ,List.filter_append,List.map_append]
      congr 1
      simp only [List.filter_cons,List.filter_nil]
      split <;> rfl
    have hll:=hal i hi
    have il:=b0v (acc i)
    refine ⟨i+1, ?_,by omega,by omega⟩
    rw [hs]
    simp only [b1s] at hg
    by_cases e0:i=0
    · subst e0
      have ep:looB S 0=false:=by simp [looB]
      rw [ep]
      simp only [Bool.false_eq_true,if_false,List.append_nil]
      have e1:¬ (0:Int)<((0:Nat):Int):=by omega
      have k1':(0:Int)<(S.N:Int):=by omega
      generalize acc 0=a0 at hll il
      rcases (hM.kids 0 h1).inv with ⟨hav,_⟩ | ⟨r,hav,_⟩ | hav
      all_goals
        simp only [hav] at hg
        simp only [b0o] at ⊢
        simp -implicitDefEqProofs (disch:=omega) only [Rx,simprocAttr,g2f,k1',hg,len1,Int.natCast_zero,Int.zero_add]
    · have e1:(0:Int)<(i:Int):=by omega
      have e2:(i==0)=false:=by simpa using e0
      cases hlv:(S.st i).live with
      | false =>
        have ep:looB S i=false:=by simp [looB,hlv]
        rw [ep]
        simp only [Bool.false_eq_true,if_false,List.append_nil]
        rw [hlv] at hg
        generalize acc i=a0 at hll il
        rcases (hM.kids i h1).inv with ⟨hav,_⟩ | ⟨r,hav,_⟩ | hav
        all_goals
          simp only [hav] at hg
          simp only [b0o] at ⊢
          simp -implicitDefEqProofs (disch:=omega) only [Rx,simprocAttr,g2f,k1,hg,len1,e1]
      | true =>
        rw [hlv] at hg
        by_cases eu:(S.st i).up<0
        · have ep:looB S i=true:=by simp [looB,hlv,eu,e0]
          rw [ep,if_pos rfl]
          have os1:=b4a (acc i) (i:Int)
          have ol1:(b0j (acc i++[(i:Int)])).length=(acc i).length+1:=by rw [b0v,List.length_append];rfl
          have ol3:(acc i++[(i:Int)]).length=(acc i).length+1:=by rw [List.length_append];rfl
          rw [ol3]
          generalize acc i++[(i:Int)]=acc1 at os1 ol1
          generalize acc i=a0 at hll il os1 ol1
          rcases (hM.kids i h1).inv with ⟨hav,_⟩ | ⟨r,hav,_⟩ | hav
          all_goals
            simp only [hav] at hg
            simp only [b0o] at ⊢
            simp -implicitDefEqProofs (disch:=omega) only [Rx,simprocAttr,g2f,k1,hg,len1,e1,eu,hlast,hsetX,il,os1,ol1]
        · have ep:looB S i=false:=by simp [looB,eu]
          rw [ep]
          simp only [Bool.false_eq_true,if_false,List.append_nil]
          generalize acc i=a0 at hll il
          rcases (hM.kids i h1).inv with ⟨hav,_⟩ | ⟨r,hav,_⟩ | hav
          all_goals
            simp only [hav] at hg
            simp only [b0o] at ⊢
            simp -implicitDefEqProofs (disch:=omega) only [Rx,simprocAttr,g2f,k1,hg,len1,e1,eu]
  · right
    obtain rfl:i=S.N:=by omega
    have k1:¬ (S.N:Int)<(S.N:Int):=by omega
    refine ⟨_, ?_, ?_,rfl⟩
    · simp -implicitDefEqProofs (disch:=omega) only [Rx,simprocAttr,g2f,k1]
    · simp
end Go.TA.Tryz


end
section
/- The document's answer: where a node lies, is there one, is it below another one; rows of kids. -/
namespace Go.TA.Tryz
section
variable {L:List Nat} {st:Nat→b3p} {kd:Nat→List Int} {nx:Int} {av:Nat→AV} {p q:Nat} {g:List AObj}
theorem b4f {o:AObj} (hr:b3y 7 (b3j L st av) o) {i c:Nat} (hi:L[i]? = some c) {j:Nat} (hj:j+1≤7):o.rd 1 L.length i j 7 false=some ((nAV c (st c) (av c)).getD j .bot) :=
 hr.rd1 b2b (List.getElem?_eq_some_iff.1 hi).1 (c3w hi) rfl hj
theorem c1h (hD : DC L st nx av p q g) (hL : L.length ≤ 4194304) (id : Int) {n : Nat} (hn : L.length < n) :
    b0f T (n+1) 80 [DP p,.p (.int .i64 id)] g=some (.p (.int .i64 (posL L id)),g):=by
  obtain ⟨o,ho,hrep⟩:=hD.row
  have hob:=hD.obj
  have hix:=fun s i=>hrep.idx b2b s true q i
  have key:=b1i (C:=b0f T n) (N:=n) (B:=h4r) (σ := Nat) (S:=fun i=>⟨[(0,DP p),(1,.p (.int .i64 id)),(10,.p (.int .i64 L.length)),(11,.p (.int .i64 i))],[],g⟩)
    (I:=fun i=>i≤L.length∧i≤L.findIdx (fun h:Nat=>(h:Int)==id)) (μ := fun i=>L.length - i) (Q:=fun r=>r=if L.findIdx (fun h:Nat=>(h:Int)==id)<L.length then (.ret,⟨[(4,.p (.int .i64 (L.findIdx (fun h:Nat=>(h:Int)==id))))],[],g⟩) else (.exit 0,⟨[],[],g⟩)) ?_ 0 ⟨by omega,by omega⟩ (by omega)
  · obtain ⟨r,hq,rfl⟩:=key
    simp only [Int.natCast_zero] at hq
    unfold posL
    rw [b0a T80,b0g rfl rfl]
    by_cases hc:L.findIdx (fun h:Nat=>(h:Int)==id)<L.length
    · rw [if_pos hc] at hq
      rw [if_pos hc]
      simp -implicitDefEqProofs (disch:=omega) only [Rx,simprocAttr,F80,hob,hq]
    · rw [if_neg hc] at hq
      rw [if_neg hc]
      simp -implicitDefEqProofs (disch:=omega) only [Rx,simprocAttr,F80,hob,hq]
  rintro i ⟨h1,h2⟩
  by_cases hi:i<L.length
  · have k1:(i:Int)<(L.length:Int):=by omega
    obtain ⟨c,hc⟩:=b0m hi
    have hrd:=b4f hrep hc (j:=0) (by omega)
    simp only [nAV] at hrd
    by_cases e:i=L.findIdx (fun h:Nat=>(h:Int)==id)
    · right
      have hp:((c:Int)==id)=true:=by
        have:=List.findIdx_getElem (xs:=L) (p:=fun h:Nat=>(h:Int)==id) (w:=by omega)
        have e2:=(List.getElem?_eq_some_iff.1 hc).2
        simp only [← e] at this
        rw [e2] at this
        exact this
      refine ⟨_, ?_, ?_,rfl⟩
      · rw [if_pos (by omega), ← e]
        simp -implicitDefEqProofs (disch:=omega) only [Rx,simprocAttr,h4r,k1,hob,ho,hix,hrd,hp]
      · rw [if_pos (by omega)];simp
    · left
      have hp:((c:Int)==id)=false:=by
        have:=List.not_of_lt_findIdx (xs:=L) (p:=fun h:Nat=>(h:Int)==id) (i:=i) (by omega)
        have e2:=(List.getElem?_eq_some_iff.1 hc).2
        rw [e2] at this
        simpa using this
      refine ⟨i+1, ?_,⟨by omega,by omega⟩,by omega⟩
      simp -implicitDefEqProofs (disch:=omega) only [Rx,simprocAttr,h4r,k1,hob,ho,hix,hrd,hp]
  · right
    obtain rfl:i=L.length:=by omega
    have k1:¬ (L.length:Int)<(L.length:Int):=by omega
    refine ⟨_, ?_, ?_,rfl⟩
    · rw [if_neg (by omega)]
      simp -implicitDefEqProofs (disch:=omega) only [Rx,simprocAttr,h4r,k1]
    · rw [if_neg (by omega)];simp
theorem c9o (hD:DC L st nx av p q g) (hL:L.length≤4194304) {c:Nat} (hc:c ∈ L) (ks:List (List PV)) {n:Nat} (hn:L.length<n) :
  ∃ o',b0f T (n+2) 114 [DP p,.p (.int .i64 c),.p (.list ks)] g=some (.tuple [],g.set q o')∧b3y 7 (b3j L st (upd av c (.p (.list ks)))) o':=by
 obtain ⟨o,ho,hrep⟩:=hD.row
 have hob:=hD.obj
 have hix:=fun s i=>hrep.idx b2b s true q i
 obtain ⟨i,hpos,hi⟩:=b4p hc
 have hil:=(List.getElem?_eq_some_iff.1 hi).1
 have hat:=c1h hD hL (c:Int) (n:=n) hn
 rw [hpos] at hat
 have k1:(i:Int)<(L.length:Int):=by omega
 obtain ⟨o',hw,hr'⟩:=c5k hrep hi (j:=2) (by omega) (.p (.list ks))
 rw [c8r hD.nodup hi] at hr'
 refine ⟨o', ?_,hr'⟩
 rw [b0a T114,b0g rfl rfl]
 simp -implicitDefEqProofs (disch:=omega) only [Rx,simprocAttr,F114,hob,ho,hix,hat,hw]
end
section
variable {S:MS} {nx:Int} {av:Nat→AV} {p q:Nat} {g:List AObj}
theorem b9a (hD:DC (b0h S) S.st nx av p q g) (hL:(b0h S).length≤4194304) (id:Int) {n:Nat} (hn:(b0h S).length<n) :
  b0f T (n+2) 112 [DP p,.p (.int .i64 id)] g=some (.p (.int .i64 (fitE S id)),g):=by
 have hat:=c1h hD hL id (n:=n) hn
 rw [b0a T112,b0g rfl rfl]
 by_cases h0:id=0
 ·have e:(id==0)=true:=by simpa using h0
  simp -implicitDefEqProofs (disch:=omega) only [Rx,simprocAttr,F112,fitE,h0]
 have e:(id==0)=false:=by simpa using h0
 cases hv:b1j S id
 ·rw [c4b hv] at hat
  simp -implicitDefEqProofs (disch:=omega) only [Rx,simprocAttr,F112,fitE,h0,e,hat,hv]
 ·obtain ⟨c,rfl,hc⟩:=b7v hv
  obtain ⟨i,hpos,_⟩:=b4p hc
  rw [hpos] at hat
  have k0:¬ (i:Int)<0:=by omega
  simp -implicitDefEqProofs (disch:=omega) only [Rx,simprocAttr,F112,fitE,h0,e,hat,hv,k0]
theorem d9s {R : Nat} (hS : S.Ok R) (hD : DC (b0h S) S.st nx av p q g) (hL : (b0h S).length ≤ 4194304) (t : Nat) {n : Nat} (hn : (b0h S).length < n) (N : Nat) (hN : R + 3 < N) (h : Nat) (hh : h ∈ b0h S) :
    b0t (b0f T (n+1)) N (.loop d3c) ⟨[(0,DP p),(1,.p (.int .i64 h)),(2,.p (.int .i64 t))],[],g⟩=some (if b2t S (h:Int) (t:Int)=true then (.ret,⟨[(6,.p (.bool true))],[],g⟩) else (.exit 0,⟨[],[],g⟩)):=by
  obtain ⟨r,hr1,hr2⟩:=hS.rank
  obtain ⟨o,ho,hrep⟩:=hD.row
  have hob:=hD.obj
  have hix:=fun s i=>hrep.idx b2b s true q i
  have hhN:=(b1m.1 hh).1
  have key:=b1i (C:=b0f T (n+1)) (N:=N) (B:=d3c) (σ := Int) (S:=fun y=>⟨[(0,DP p),(1,.p (.int .i64 y)),(2,.p (.int .i64 t))],[],g⟩)
    (I:=fun y=>(y = -1∨∃ c:Nat,y=(c:Int)∧c ∈ b0h S)∧(Below S (t:Int) (h:Int)↔Below S (t:Int) y)) (μ := fun y=>if y<0 then 0 else r y.toNat+1)
    (Q:=fun z=>z=(if b2t S (h:Int) (t:Int)=true then (.ret,⟨[(6,.p (.bool true))],[],g⟩) else (.exit 0,⟨[],[],g⟩))) ?_ (h:Int) ⟨.inr ⟨h,rfl,hh⟩,Iff.rfl⟩ (by
      have:=hr1 h hhN
      simp only [Int.toNat_natCast]
      split <;> omega)
  · obtain ⟨z,hz,rfl⟩:=key
    exact hz
  rintro y ⟨hy,hb⟩
  rcases hy with rfl | ⟨c,rfl,hc⟩
  · right
    have hf:¬ Below S (t:Int) (h:Int):=fun z=>c1f (by omega) (hb.1 z)
    refine ⟨_, ?_, ?_,rfl⟩
    · rw [if_neg (fun z=>hf (b2y.1 z))]
      simp -implicitDefEqProofs (disch:=omega) only [Rx,simprocAttr,d3c]
    · rw [if_neg (fun z=>hf (b2y.1 z))];simp
  have hcN:=(b1m.1 hc).1
  by_cases e:c=t
  · subst e
    right
    have hf:Below S (c:Int) (h:Int):=hb.2 .here
    refine ⟨_, ?_, ?_,rfl⟩
    · rw [if_pos (b2y.2 hf)]
      have k0:(0:Int)≤(c:Int):=by omega
      simp -implicitDefEqProofs (disch:=omega) only [Rx,simprocAttr,d3c,k0]
    · rw [if_pos (b2y.2 hf)];simp
  · left
    have e1:((c:Int)==(t:Int))=false:=by simp;omega
    have k0:(0:Int)≤(c:Int):=by omega
    obtain ⟨i,hpos,hi⟩:=b4p hc
    have hil:=(List.getElem?_eq_some_iff.1 hi).1
    have k1:(i:Int)<((b0h S).length:Int):=by omega
    have hat:=c1h hD hL (c:Int) (n:=n) hn
    rw [hpos] at hat
    have hrd:=b4f hrep hi (j:=1) (by omega)
    simp only [nAV] at hrd
    refine ⟨(S.st c).up, ?_,⟨?_, ?_⟩, ?_⟩
    · simp -implicitDefEqProofs (disch:=omega) only [Rx,simprocAttr,d3c,k0,e1,hob,ho,hix,hat,hrd]
    · rcases hS.up c hcN with h1 | ⟨p,h1,h2,h3,_⟩
      · exact .inl h1
      · exact .inr ⟨p,h2,b1m.2 ⟨h1,h3⟩⟩
    · rw [hb,c1g (by omega) (by omega)];rfl
    · have e2:¬ (c:Int)<0:=by omega
      simp only [Int.toNat_natCast,e2,if_false]
      rcases hS.up c hcN with h1 | ⟨p,h1,h2,_⟩
      · rw [h1];simp
      · have:=hr2 c p hcN h2
        rw [h2,Int.toNat_natCast]
        split <;> omega
theorem d1j {R:Nat} (hS:S.Ok R) (hD:DC (b0h S) S.st nx av p q g) (hL:(b0h S).length≤4194304) (t h:Nat) (hh:h ∈ b0h S) {n:Nat} (hn:(b0h S).length<n) (hR:R+3<n):b0f T (n+2) 113 [DP p,.p (.int .i64 h),.p (.int .i64 t)] g=some (.p (.bool (b2t S h t)),g):=by
 rw [b0a T113,b0g rfl rfl]
 have hl:=d9s hS hD hL t (n:=n) hn (n+1) (by omega) h hh
 by_cases hb:Below S (t:Int) (h:Int)
 ·have e:b2t S h t=true:=by simp [b2t,hb]
  rw [if_pos e] at hl
  simp -implicitDefEqProofs (disch:=omega) only [Rx,simprocAttr,F113,hl,e]
 ·have e:b2t S h t=false:=by simp [b2t,hb]
  rw [if_neg (by rw [e];simp)] at hl
  simp -implicitDefEqProofs (disch:=omega) only [Rx,simprocAttr,F113,hl,e]
end
theorem h9f (l:List Int) (h b:Int) (hl:l.length≤4194304) (g:List AObj) {n:Nat} (hn:l.length<n) :
  b0f T (n+1) 115 [.p (.list (b0j l)),.p (.int .i64 h),.p (.int .i64 b)] g=some (.p (.list (b0j (inL l h b))),g):=by
 have il:=b0v l
 generalize hf:(fun k:Int=>if k=b then [h,k] else [k])=f
 have hlen:∀ i,((l.take i).flatMap f).length≤2*l.length:=fun i=>by
  have:=j3k (l.take i) h b
  rw [hf] at this
  have h2:(l.take i).length≤l.length:=by rw [List.length_take];omega
  omega
 have key:=b1i (C:=b0f T n) (N:=n) (B:=d9l) (σ := Nat) (S:=fun i=>⟨[(0,.p (.list (b0j l))),(1,.p (.int .i64 h)),(2,.p (.int .i64 b)),(7,.own false 1000 ((l.take i).flatMap f).length),(10,.p (.int .i64 l.length)),(11,.p (.int .i64 i))],[(1000,.pcells 1 (b0j ((l.take i).flatMap f)))],[]⟩)
  (I:=fun i=>i≤l.length) (μ := fun i=>l.length - i) (Q:=fun r=>r=(.exit 0,⟨[(1,.p (.int .i64 h)),(2,.p (.int .i64 b)),(7,.own false 1000 (l.flatMap f).length)],[(1000,.pcells 1 (b0j (l.flatMap f)))],[]⟩)) ?_ 0 (by omega) (by omega)
 ·obtain ⟨r,hq,rfl⟩:=key
  have il2:=b0v (l.flatMap f)
  have hll:=hlen l.length
  rw [List.take_length] at hll
  simp only [List.take_zero,List.flatMap_nil,List.length_nil,Int.natCast_zero,show b0j []=[] from rfl] at hq
  have hres:inL l h b=l.flatMap f++if b=0 then [h] else []:=by rw [inL, ← hf]
  rw [hres]
  generalize l.flatMap f=acc at hq il2 hll
  rw [b0a T115,run_pure rfl rfl rfl]
  by_cases hb:b=0
  ·have e:(b==0)=true:=by simpa using hb
   rw [if_pos hb]
   have os:=b4a acc h
   have ol:=b0v (acc++[h])
   rw [List.length_append] at ol
   generalize acc++[h]=acc' at os ol ⊢
   simp -implicitDefEqProofs (disch:=omega) only [Rx,simprocAttr,F115,hq,il,il2,e,os,ol]
  ·have e:(b==0)=false:=by simpa using hb
   rw [if_neg hb,List.append_nil]
   simp -implicitDefEqProofs (disch:=omega) only [Rx,simprocAttr,F115,hq,il,il2,e]
 intro i hi
 by_cases h1:i<l.length
 ·left
  obtain ⟨x,hx⟩:∃ x,l[i]? = some x:=⟨_,List.getElem?_eq_getElem h1⟩
  have k1:(i:Int)<(l.length:Int):=by omega
  have hg:=b4e hx
  have hs:=g6t (f:=f) hx
  have hll:=hlen i
  refine ⟨i+1, ?_,by omega,by omega⟩
  rw [hs]
  generalize (l.take i).flatMap f=acc at hll
  have il2:=b0v acc
  by_cases e:x=b
  ·have e1:(x==b)=true:=by simpa using e
   have hfx:f x=[h,x]:=by rw [← hf];simp [e]
   rw [hfx]
   have os1:=b4a acc h
   have os2:=b4a (acc++[h]) x
   have ol1:(b0j (acc++[h])).length=acc.length+1:=by rw [b0v,List.length_append];rfl
   have ol2:(b0j (acc++[h,x])).length=acc.length+1+1:=by rw [b0v,List.length_append];rfl
   have ol3:(acc++[h,x]).length=acc.length+1+1:=by rw [List.length_append];rfl
   have oe:acc++[h]++[x]=acc++[h,x]:=by simp
   rw [oe] at os2
   rw [ol3]
   generalize acc++[h,x]=acc2 at os2 ol2
   generalize acc++[h]=acc1 at os1 os2 ol1
   simp -implicitDefEqProofs (disch:=omega) only [Rx,simprocAttr,d9l,k1,hg,il,il2,e1,os1,os2,ol1,ol2]
  ·have e1:(x==b)=false:=by simpa using e
   have hfx:f x=[x]:=by rw [← hf];simp [e]
   rw [hfx]
   have os1:=b4a acc x
   have ol1:(b0j (acc++[x])).length=acc.length+1:=by rw [b0v,List.length_append];rfl
   have ol3:(acc++[x]).length=acc.length+1:=by rw [List.length_append];rfl
   rw [ol3]
   generalize acc++[x]=acc1 at os1 ol1
   simp -implicitDefEqProofs (disch:=omega) only [Rx,simprocAttr,d9l,k1,hg,il,il2,e1,os1,ol1]
 ·right
  obtain rfl:i=l.length:=by omega
  have k1:¬ (l.length:Int)<(l.length:Int):=by omega
  refine ⟨_, ?_, ?_,rfl⟩
  ·rw [List.take_length]
   simp -implicitDefEqProofs (disch:=omega) only [Rx,simprocAttr,d9l,k1]
  ·simp
theorem h0s (l:List Int) (h:Int) (hl:l.length≤8388610) (g:List AObj) {n:Nat} (hn:l.length<n) :
  b0f T (n+1) 116 [.p (.list (b0j l)),.p (.int .i64 h)] g=some (.p (.list (b0j (l.filter fun k => !(k==h)))),g):=by
 have il:=b0v l
 generalize hf:(fun k:Int => !(k==h))=f
 have hlen:∀ i,((l.take i).filter f).length≤l.length:=fun i=>by
  have:=List.length_filter_le f (l.take i)
  have h2:(l.take i).length≤l.length:=by rw [List.length_take];omega
  omega
 have key:=b1i (C:=b0f T n) (N:=n) (B:=d9k) (σ := Nat) (S:=fun i=>⟨[(0,.p (.list (b0j l))),(1,.p (.int .i64 h)),(5,.own false 1000 ((l.take i).filter f).length),(8,.p (.int .i64 l.length)),(9,.p (.int .i64 i))],[(1000,.pcells 1 (b0j ((l.take i).filter f)))],[]⟩)
  (I:=fun i=>i≤l.length) (μ := fun i=>l.length - i) (Q:=fun r=>r=(.exit 0,⟨[(5,.own false 1000 (l.filter f).length)],[(1000,.pcells 1 (b0j (l.filter f)))],[]⟩)) ?_ 0 (by omega) (by omega)
 ·obtain ⟨r,hq,rfl⟩:=key
  have il2:=b0v (l.filter f)
  simp only [List.take_zero,List.filter_nil,List.length_nil,Int.natCast_zero,show b0j []=[] from rfl] at hq
  generalize l.filter f=acc at hq il2
  rw [b0a T116,run_pure rfl rfl rfl]
  simp -implicitDefEqProofs (disch:=omega) only [Rx,simprocAttr,F116,hq,il,il2]
 intro i hi
 by_cases h1:i<l.length
 ·left
  obtain ⟨x,hx⟩:∃ x,l[i]? = some x:=⟨_,List.getElem?_eq_getElem h1⟩
  have k1:(i:Int)<(l.length:Int):=by omega
  have hg:=b4e hx
  have hs:(l.take (i+1)).filter f=(l.take i).filter f++if f x=true then [x] else []:=by
   rw [List.take_add_one,hx,List.filter_append]
   simp [List.filter_cons]
  have hll:=hlen i
  refine ⟨i+1, ?_,by omega,by omega⟩
  rw [hs]
  generalize (l.take i).filter f=acc at hll
  have il2:=b0v acc
  by_cases e:x=h
  ·have e1:(x==h)=true:=by simpa using e
   have hfx:f x=false:=by rw [← hf];simp [e]
   rw [hfx]
   simp only [Bool.false_eq_true,if_false,List.append_nil]
   simp -implicitDefEqProofs (disch:=omega) only [Rx,simprocAttr,d9k,k1,hg,il,e1]
  ·have e1:(x==h)=false:=by simpa using e
   have hfx:f x=true:=by rw [← hf];simp [e]
   rw [hfx,if_pos rfl]
   have os1:=b4a acc x
   have ol1:(b0j (acc++[x])).length=acc.length+1:=by rw [b0v,List.length_append];rfl
   have ol3:(acc++[x]).length=acc.length+1:=by rw [List.length_append];rfl
   rw [ol3]
   generalize acc++[x]=acc1 at os1 ol1
   simp -implicitDefEqProofs (disch:=omega) only [Rx,simprocAttr,d9k,k1,hg,il,il2,e1,os1,ol1]
 ·right
  obtain rfl:i=l.length:=by omega
  have k1:¬ (l.length:Int)<(l.length:Int):=by omega
  refine ⟨_, ?_, ?_,rfl⟩
  ·rw [List.take_length]
   simp -implicitDefEqProofs (disch:=omega) only [Rx,simprocAttr,d9k,k1]
  ·simp
end Go.TA.Tryz


end
section
/- The document's answer: a node is put below another one, or elsewhere. -/
namespace Go.TA
theorem d6y {α : Type} [BEq α] [LawfulBEq α]:∀ {l m:List α},l.Nodup→(∀ x ∈ l,x ∈ m)→l.length≤m.length
  | [],m,_,_=>by simp
  | a :: l, m, hn, h => by
    rw [List.nodup_cons] at hn
    have:=d6y (l:=l) (m:=m.erase a) hn.2 (fun x hx=>by
      have hne:x≠a:=fun e=>hn.1 (e ▸ hx)
      exact (List.mem_erase_of_ne hne).2 (h x (by simp [hx])))
    rw [List.length_erase_of_mem (h a (by simp))] at this
    have hp:0<m.length:=List.length_pos_of_mem (h a (by simp))
    rw [List.length_cons];omega
section
variable {R:Nat} {S:MS}
theorem g3u (hS:S.Ok R) {u:Nat} (hu:u<S.N):(S.kd u).length≤(b0h S).length:=by
 have:=d6y (m:=(b0h S).map fun c:Nat=>(c:Int)) (hS.nodup u hu) (fun k hk=>by
  obtain ⟨c,rfl,hc,hl,_⟩:=hS.kids u hu k hk
  exact List.mem_map.2 ⟨c,b1m.2 ⟨hc,hl⟩,rfl⟩)
 rwa [List.length_map] at this
theorem g2j (hS:S.Ok R) {u:Nat} (hu:u<S.N):(0:Int) ∉ S.kd u:=fun h=>by
 obtain ⟨c,e,_,_,h2⟩:=hS.kids u hu _ h
 have:c=0:=by omega
 subst this
 have:=hS.top.2
 omega
theorem c3h {S':MS} (hN:S.N=S'.N) (h:∀ k,(S.st k).live=(S'.st k).live):b0h S=b0h S':=by
 unfold b0h
 rw [hN]
 congr 1
 funext k
 exact h k
end
theorem DM.congr {L:List Nat} {st st':Nat→b3p} {kd kd':Nat→List Int} {nx:Int} {av:Nat→AV} {p q:Nat} {g:List AObj} (h:DM L st kd nx av p q g) (hs:∀ k ∈ L,st k=st' k∧kd k=kd' k):DM L st' kd' nx av p q g where
 core:=⟨h.core.obj,by
  obtain ⟨o,h1,h2⟩:=h.core.row
  exact ⟨o,h1,by rwa [c2s (st':=st') (av':=av) (fun k hk=>⟨(hs k hk).1,rfl⟩)] at h2⟩,h.core.pq,h.core.nodup⟩
 kids k hk:=by rw [← (hs k hk).2];exact h.kids k hk
 away:=h.away
 disj:=h.disj
noncomputable def b7h (S:MS) (id up b:Int):Int × MS :=
 if fitE S id≠0 then (fitE S id,S)
 else if (b1j S up && b1j S b)=false then (13,S)
 else if 0≤upOf S id then (15,S)
 else if b2t S up id=true then (17,S)
 else if b≠0∧upOf S b≠up then (18,S)
 else (0,b2h S id.toNat up.toNat b)
def c7n (S:MS) (id b:Int):Int × MS :=
 if fitE S id≠0 then (fitE S id,S)
 else if b1j S b=false then (13,S)
 else if upOf S id<0 then (16,S)
 else if b=id∨(b≠0∧upOf S b≠upOf S id) then (18,S)
 else (0,b2h (b2f S id.toNat) id.toNat (upOf S id).toNat b)
theorem c1v {S:MS} {id:Int} (h:¬ fitE S id≠0):∃ c:Nat,id=(c:Int)∧c ∈ b0h S∧0<c:=by
 unfold fitE at h
 split at h
 ·omega
 ·split at h
  ·rename_i h0 hl
   obtain ⟨c,rfl,hc⟩:=b7v hl
   exact ⟨c,rfl,hc,by omega⟩
  ·omega
namespace Tryz
section
variable {R:Nat} {S:MS} {nx:Int} {av:Nat→AV} {p q:Nat} {g:List AObj}
theorem g1h (hS:S.Ok R) (hD:DM (b0h S) S.st S.kd nx av p q g) (hL:(b0h S).length≤4194304) (id up b:Int) {n:Nat} (hn:(b0h S).length<n) (hR:R+3<n) :
    ∃ av' g',b0f T (n+4) 84 [DP p,.p (.int .i64 id),.p (.int .i64 up),.p (.int .i64 b)] g=some (.p (.int .i64 (b7h S id up b).1),g')∧DM (b0h (b7h S id up b).2) (b7h S id up b).2.st (b7h S id up b).2.kd nx av' p q g'∧DFr (b0h S) av p q g (b0h (b7h S id up b).2) av' q g':=by
  obtain ⟨o,ho,hrep⟩:=hD.core.row
  have hob:=hD.core.obj
  have hix:=fun s i=>hrep.idx b2b s true q i
  have hno:=b9a hD.core hL id (n:=n+1) (by omega)
  have hat:=fun id=>c1h hD.core hL id (n:=n+2) (by omega)
  unfold b7h
  by_cases hf:fitE S id≠0
  · rw [if_pos hf]
    have e1:(fitE S id==0)=false:=by simpa using hf
    refine ⟨av,g, ?_,hD,DFr.refl _ _ _ _ _⟩
    rw [b0a T84,b0g rfl rfl]
    generalize fitE S id=e at hno e1 ⊢
    simp -implicitDefEqProofs (disch:=omega) only [Rx,simprocAttr,F84,hno,e1]
  rw [if_neg hf]
  obtain ⟨c,rfl,hcL,hc0⟩:=c1v hf
  simp only [ne_eq,Decidable.not_not] at hf
  rw [hf] at hno
  by_cases hl:(b1j S up && b1j S b)=false
  · rw [if_pos hl]
    refine ⟨av,g, ?_,hD,DFr.refl _ _ _ _ _⟩
    have hat1:=hat up
    have hat2:=hat b
    rw [b0a T84,b0g rfl rfl]
    cases a1:b1j S up with
    | false =>
      rw [c4b a1] at hat1
      simp -implicitDefEqProofs (disch:=omega) only [Rx,simprocAttr,F84,hno,hat1]
    | true =>
      obtain ⟨u,hu,huL⟩:=b7v a1
      obtain ⟨i,hi,_⟩:=b4p huL
      have a2:b1j S b=false:=by rw [a1] at hl;simpa using hl
      rw [c4b a2] at hat2
      rw [hu,hi] at hat1
      have k1:¬ (i:Int)<0:=by omega
      rw [hu]
      simp -implicitDefEqProofs (disch:=omega) only [Rx,simprocAttr,F84,hno,hat1,hat2,k1]
  rw [if_neg hl]
  simp only [Bool.not_eq_false,Bool.and_eq_true] at hl
  obtain ⟨a2,a3⟩:=hl
  obtain ⟨u,rfl,huL⟩:=b7v a2
  obtain ⟨w,rfl,hwL⟩:=b7v a3
  obtain ⟨ic,hpc,hic⟩:=b4p hcL
  obtain ⟨iu,hpu,hiu⟩:=b4p huL
  obtain ⟨iw,hpw,hiw⟩:=b4p hwL
  have hat1:=hat (c:Int)
  have hat2:=hat (u:Int)
  have hat3:=hat (w:Int)
  rw [hpc] at hat1
  rw [hpu] at hat2
  rw [hpw] at hat3
  have lc:=(List.getElem?_eq_some_iff.1 hic).1
  have lu:=(List.getElem?_eq_some_iff.1 hiu).1
  have lw:=(List.getElem?_eq_some_iff.1 hiw).1
  have kc:(ic:Int)<((b0h S).length:Int):=by omega
  have ku:(iu:Int)<((b0h S).length:Int):=by omega
  have kw:(iw:Int)<((b0h S).length:Int):=by omega
  have ku0:¬ (iu:Int)<0:=by omega
  have kw0:¬ (iw:Int)<0:=by omega
  have rdc:=b4f hrep hic (j:=1) (by omega)
  have rdw:=b4f hrep hiw (j:=1) (by omega)
  simp only [nAV] at rdc rdw
  have un:=d1j hS hD.core hL c u huL (n:=n+1) (by omega) (by omega)
  have uo:upOf S (c:Int)=(S.st c).up:=rfl
  have ub:upOf S (w:Int)=(S.st w).up:=rfl
  rw [uo,ub]
  simp only [Int.toNat_natCast]
  by_cases h15:0≤(S.st c).up
  · rw [if_pos h15]
    refine ⟨av,g, ?_,hD,DFr.refl _ _ _ _ _⟩
    have k15:(S.st c).up ≥ 0:=h15
    rw [b0a T84,b0g rfl rfl]
    simp -implicitDefEqProofs (disch:=omega) only [Rx,simprocAttr,F84,hno,hat1,hat2,hat3,ku0,kw0,hob,ho,hix,rdc,k15]
  rw [if_neg h15]
  have k15:¬ (S.st c).up ≥ 0:=h15
  by_cases h17:b2t S (u:Int) (c:Int)=true
  · rw [if_pos h17]
    rw [h17] at un
    refine ⟨av,g, ?_,hD,DFr.refl _ _ _ _ _⟩
    rw [b0a T84,b0g rfl rfl]
    simp -implicitDefEqProofs (disch:=omega) only [Rx,simprocAttr,F84,hno,hat1,hat2,hat3,ku0,kw0,hob,ho,hix,rdc,k15,un]
  rw [if_neg h17]
  simp only [Bool.not_eq_true] at h17
  rw [h17] at un
  by_cases h18:(w:Int)≠0∧(S.st w).up≠(u:Int)
  · rw [if_pos h18]
    refine ⟨av,g, ?_,hD,DFr.refl _ _ _ _ _⟩
    have e1:((w:Int)==0)=false:=by simpa using h18.1
    have e2:((S.st w).up==(u:Int))=false:=by simpa using h18.2
    rw [b0a T84,b0g rfl rfl]
    simp -implicitDefEqProofs (disch:=omega) only [Rx,simprocAttr,F84,hno,hat1,hat2,hat3,ku0,kw0,hob,ho,hix,rdc,rdw,k15,un,e1,e2]
  rw [if_neg h18]
  obtain ⟨hcN,hcl⟩:=b1m.1 hcL
  obtain ⟨huN,hul⟩:=b1m.1 huL
  obtain ⟨hwN,hwl⟩:=b1m.1 hwL
  have hbk:(w:Int)=0∨(w:Int) ∈ S.kd u:=by
    by_cases e:(w:Int)=0
    · exact .inl e
    · right
      by_cases e2:(S.st w).up=(u:Int)
      · exact g3r hS hwN e2
      · exact absurd ⟨e,e2⟩ h18
  have hkl:=g3u hS huN
  have hK:=hD.kids u huL
  have hks:=g3x (h:=(c:Int)) (hS.nodup u huN) (g2j hS huN) hbk
  have hin:=h9f (S.kd u) (c:Int) (w:Int) (by omega) [] (n:=n+2) (by omega)
  rw [hks] at hin
  have hD1:=hD.core.kill (hD.away u huL).1 (hD.away u huL).2
  obtain ⟨o1,hk1,hr1⟩:=c9o hD1 hL huL (b0j (insI (S.kd u) (c:Int) (w:Int))) (n:=n+1) (by omega)
  have hD2:=hD.fix huL (insI (S.kd u) (c:Int) (w:Int)) hr1
  have hF2:=DFr.fix hD huL (b0j (insI (S.kd u) (c:Int) (w:Int))) o1
  generalize hg2:(c4m g (av u)).set q o1=g2 at hk1 hD2 hF2
  generalize hav2:upd av u (.p (.list (b0j (insI (S.kd u) (c:Int) (w:Int)))))=av2 at hD2 hF2
  obtain ⟨o2,ho2,hrep2⟩:=hD2.core.row
  have hob2:=hD2.core.obj
  have hix2:=fun s i=>hrep2.idx b2b s true q i
  have hat4:=c1h hD2.core hL (c:Int) (n:=n+2) (by omega)
  rw [hpc] at hat4
  obtain ⟨o3,hw3,hr3⟩:=c5k hrep2 hic (j:=1) (by omega) (.p (.int .i64 u))
  have e3:(b3j (b0h S) S.st av2).set ic ((nAV c (S.st c) (av2 c)).set 1 (.p (.int .i64 u)))=b3j (b0h S) (upd S.st c { S.st c with up:=(u:Int) }) av2:=by
    rw [← c3v hD.core.nodup hic];rfl
  rw [e3] at hr3
  have hD3:=hD2.node _ hr3
  have hF3:=hF2.trans (DFr.node (L:=b0h S) (av:=av2) (p:=p) (q:=q) (g:=g2) o3)
  have hlive:b0h (b2h S c u (w:Int))=b0h S:=c3h rfl (fun k=>by
    simp only [b2h]
    by_cases e:k=c
    · subst e;rw [b0l]
    · rw [b0k e])
  refine ⟨av2,g2.set q o3, ?_,by rw [hlive];exact hD3,by rw [hlive];exact hF3⟩
  have rdu:=b4f hrep hiu (j:=2) (by omega)
  simp only [nAV] at rdu
  generalize insI (S.kd u) (c:Int) (w:Int)=ks' at hin hk1
  have kl:=b0v (S.kd u)
  have hfz:=hK.frz
  generalize c4m g (av u)=g1 at hk1 hfz
  generalize av u=au at rdu hfz
  rw [b0a T84,b0g rfl rfl]
  by_cases e:(w:Int)=0
  · have e1:((w:Int)==0)=true:=by simpa using e
    simp -implicitDefEqProofs (disch:=omega) only [Rx,simprocAttr,F84,hno,hat1,hat2,hat3,hat4,ku0,kw0,hob,ho,hix,rdc,rdu,k15,un,e1,hin,hk1,hob2,ho2,hix2,hw3,hfz]
  · have e1:((w:Int)==0)=false:=by simpa using e
    have e2:((S.st w).up==(u:Int))=true:=by
      by_cases e2:(S.st w).up=(u:Int)
      · simpa using e2
      · exact absurd ⟨e,e2⟩ h18
    simp -implicitDefEqProofs (disch:=omega) only [Rx,simprocAttr,F84,hno,hat1,hat2,hat3,hat4,ku0,kw0,hob,ho,hix,rdc,rdw,rdu,k15,un,e1,e2,hin,hk1,hob2,ho2,hix2,hw3,hfz]
end
end Tryz
end Go.TA


end
section
/- The document's answer: its rows, its loose nodes. -/
namespace Go.TA
namespace Tryz
section
variable {R:Nat} {S:MS} {nx:Int} {av:Nat→AV} {p q:Nat} {g:List AObj}
theorem g4t (hS : S.Ok R) (hN : S.N ≤ 8589934592) (hD : DM (b0h S) S.st S.kd nx av p q g) (hL : (b0h S).length ≤ 4194304) (m : Nat) (hm : (b0h S).length + 1 < m) (d h : Nat) (up : Int) (out : List GRow) (hh : h ∈ b0h S) (hp : PreO S out h) (hol : out.length ≤ S.N)
    (ih:∀ c:Nat,c ∈ b0h S→(S.st c).up=(h:Int)→∀ (out:List GRow) (up:Int),out.length≤S.N→PreO S out c→b0f T m 50 [DP p,.own true g.length out.length,.p (.int .i64 c),.p (.int .i64 up)] (g++[.pcells 6 (out.map GRow.pv)])=some (.own true g.length (b1t S d out (c:Int) up).length,g++[.pcells 6 ((b1t S d out (c:Int) up).map GRow.pv)])) :
    b0f T (m+1) 50 [DP p,.own true g.length out.length,.p (.int .i64 h),.p (.int .i64 up)] (g++[.pcells 6 (out.map GRow.pv)])=some (.own true g.length (b1t S (d+1) out (h:Int) up).length,g++[.pcells 6 ((b1t S (d+1) out (h:Int) up).map GRow.pv)]):=by
  have hhN:=(b1m.1 hh).1
  have hK:=hD.kids h hh
  have hkl:=g3u hS hhN
  have hDX:=fun X=>hD.core.more [X]
  obtain ⟨o,ho,hrep⟩:=hD.core.row
  have hpl:=(List.getElem?_eq_some_iff.1 hD.core.obj).1
  have hql:=(List.getElem?_eq_some_iff.1 ho).1
  have hob:∀ X,(g++[X])[p]? = some (.cells 2 [[.own true q (b0h S).length,.p (.int .i64 nx)]]):=fun X=>by rw [List.getElem?_append_left hpl];exact hD.core.obj
  have hoX:∀ X,(g++[X])[q]? = some o:=fun X=>by rw [List.getElem?_append_left hql];exact ho
  have hlast:∀ X,(g++[X])[g.length]? = some X:=fun X=>by simp
  have hsetX:∀ X Y,(g++[X]).set g.length Y=g++[Y]:=fun X Y=>by simp [List.set_append]
  have hix:=fun s i=>hrep.idx b2b s true q i
  have hatX:=fun X id=>c1h (hDX X) hL id (n:=m - 1) (by omega)
  rw [show m - 1+1=m by omega] at hatX
  have il:=b0v (S.kd h)
  obtain ⟨ih0,hph,hih⟩:=b4p hh
  have lh:=(List.getElem?_eq_some_iff.1 hih).1
  have kh:(ih0:Int)<((b0h S).length:Int):=by omega
  have rdh:=b4f hrep hih (j:=2) (by omega)
  simp only [nAV] at rdh
  have hath:=fun X=>hatX X (h:Int)
  simp only [hph] at hath
  have hinv:=g3f hS (d:=d) (up:=up) hhN hp
  have hloop:b0t (b0f T m) m (.loop g8u) ⟨[(0,DP p),(1,.own true g.length out.length),(3,.p (.int .i64 up)),(9,av h),(23,.p (.int .i64 (S.kd h).length)),(24,.p (.int .i64 0))],[],g++[.pcells 6 (out.map GRow.pv)]⟩=some (.exit 0,⟨[(1,.own true g.length (b1t S (d+1) out (h:Int) up).length)],[],g++[.pcells 6 ((b1t S (d+1) out (h:Int) up).map GRow.pv)]⟩):=by
    have key:=b1i (C:=b0f T m) (N:=m) (B:=g8u) (σ := Nat) (S:=fun i=>⟨[(0,DP p),(1,.own true g.length (outI S d out h up i).length),(3,.p (.int .i64 up)),(9,av h),(23,.p (.int .i64 (S.kd h).length)),(24,.p (.int .i64 i))],[],g++[.pcells 6 ((outI S d out h up i).map GRow.pv)]⟩)
      (I:=fun i=>i≤(S.kd h).length) (μ := fun i=>(S.kd h).length - i) (Q:=fun z=>z=(.exit 0,⟨[(1,.own true g.length (b1t S (d+1) out (h:Int) up).length)],[],g++[.pcells 6 ((b1t S (d+1) out (h:Int) up).map GRow.pv)]⟩)) ?_ 0 (by omega) (by omega)
    · obtain ⟨z,hz,rfl⟩:=key
      rw [b8x] at hz
      exact hz
    intro i hi
    by_cases hil:i<(S.kd h).length
    · left
      obtain ⟨k,hk⟩:∃ k,(S.kd h)[i]? = some k:=⟨_,List.getElem?_eq_getElem hil⟩
      have hkm:=List.mem_of_getElem? hk
      obtain ⟨c,rfl,hc,hcl,hcu⟩:=hS.kids h hhN k hkm
      have hcL:c ∈ b0h S:=b1m.2 ⟨hc,hcl⟩
      obtain ⟨hpo,hpm⟩:=hinv i hi
      have hpre:=g1d hS up hhN hp hpo hpm hk hc hcu
      have hol1:=hpo.len
      have ho1:=b6b (S:=S) (d:=d) (out:=out) (up:=up) hk
      have hol2:(outI S d out h up i++[rowM S (c:Int) up]).length≤S.N:=by
        have:=c0v S.N _ hpre.nodup (fun k hk=>by
          obtain ⟨x,hx,rfl⟩:=List.mem_map.1 hk
          exact hpre.rng x hx)
        rwa [List.length_map] at this
      have ihc:=ih c hcL hcu _ (((outI S d out h up i).length:Int)+1) hol2 hpre
      rw [← ho1] at ihc
      refine ⟨i+1, ?_,by omega,by omega⟩
      generalize outI S d out h up i=o1 at hol1 hol2 ihc ⊢
      generalize outI S d out h up (i+1)=o2 at ihc ⊢
      have k2:(i:Int)<((S.kd h).length:Int):=by omega
      have hg:=b4e hk
      obtain ⟨ic,hpc,hic⟩:=b4p hcL
      have lc:=(List.getElem?_eq_some_iff.1 hic).1
      have kc:(ic:Int)<((b0h S).length:Int):=by omega
      have hatc:=fun X=>hatX X (c:Int)
      simp only [hpc] at hatc
      have rdA:=hrep.rdA b2b lc (c3w hic) rfl
      have os:o1.map GRow.pv++[[.int .i64 (c:Int),.int .i64 up,.str (S.st c).tag,.str (S.st c).key,.str (S.st c).text,.list ((S.st c).attrs.map Attr.pv)]]=(o1++[rowM S (c:Int) up]).map GRow.pv:=by
        rw [List.map_append];rfl
      have ol1:(o1.map GRow.pv).length=o1.length:=by simp
      have ol2:(o1++[rowM S (c:Int) up]).length=o1.length+1:=by simp
      rw [ol2] at ihc
      have ol3:((o1++[rowM S (c:Int) up]).map GRow.pv).length=o1.length+1:=by simp
      generalize o1++[rowM S (c:Int) up]=o3 at os ihc ol3
      have hKc:=hD.kids c hcL
      rcases hK.inv with ⟨_,hk0⟩ | ⟨r,hav,hr⟩ | hav
      · rw [hk0] at hil;simp at hil
      · have hrl:=(List.getElem?_eq_some_iff.1 hr).1
        have hrX:∀ X,(g++[X])[r]? = some (.pcells 1 (b0j (S.kd h))):=fun X=>by rw [List.getElem?_append_left hrl];exact hr
        rcases hKc.inv with ⟨hav2,_⟩ | ⟨r2,hav2,_⟩ | hav2
        all_goals
          simp only [nAV,hav2] at rdA
          simp only [hav]
          simp -implicitDefEqProofs (disch:=omega) only [Rx,simprocAttr,c1n,g8u,k2,hg,il,hob,hoX,hrX,hlast,hsetX,hix,hatc,rdA,b4q,PV.sameLL_self,os,ol1,ol3,ihc]
      · rcases hKc.inv with ⟨hav2,_⟩ | ⟨r2,hav2,_⟩ | hav2
        all_goals
          simp only [nAV,hav2] at rdA
          simp only [hav]
          simp -implicitDefEqProofs (disch:=omega) only [Rx,simprocAttr,c1n,g8u,k2,hg,il,hob,hoX,hlast,hsetX,hix,hatc,rdA,b4q,PV.sameLL_self,os,ol1,ol3,ihc]
    · right
      obtain rfl:i=(S.kd h).length:=by omega
      have k2:¬ ((S.kd h).length:Int)<((S.kd h).length:Int):=by omega
      refine ⟨_, ?_, ?_,rfl⟩
      · rw [b7p]
        generalize b1t S (d+1) out (h:Int) up=o1
        rcases hK.inv with ⟨hav,_⟩ | ⟨r,hav,_⟩ | hav
        all_goals
          simp only [hav]
          simp -implicitDefEqProofs (disch:=omega) only [Rx,simprocAttr,g8u,k2]
      · simp
  rw [b0a T50,b0g rfl rfl]
  generalize b1t S (d+1) out (h:Int) up=o2 at hloop ⊢
  rcases hK.inv with ⟨hav,hk0⟩ | ⟨r,hav,hr⟩ | hav
  · simp only [hk0,hav,List.length_nil,Int.natCast_zero] at hloop rdh
    simp -implicitDefEqProofs (disch:=omega) only [Rx,simprocAttr,F50,hob,hoX,hix,hath,rdh,hloop]
  · have hrl:=(List.getElem?_eq_some_iff.1 hr).1
    have hrX:∀ X,(g++[X])[r]? = some (.pcells 1 (b0j (S.kd h))):=fun X=>by rw [List.getElem?_append_left hrl];exact hr
    simp only [hav] at hloop rdh
    simp -implicitDefEqProofs (disch:=omega) only [Rx,simprocAttr,F50,hob,hoX,hix,hath,rdh,hloop]
  · simp only [hav] at hloop rdh
    simp -implicitDefEqProofs (disch:=omega) only [Rx,simprocAttr,F50,hob,hoX,hix,hath,rdh,hloop,il]
theorem j2d (hS:S.Ok R) (hN:S.N≤8589934592) (hD:DM (b0h S) S.st S.kd nx av p q g) (hL:(b0h S).length≤4194304) {r:Nat→Nat} (hr1:∀ c,c<S.N→r c≤R) (hr2:∀ c p:Nat,c<S.N→(S.st c).up=(p:Int)→r p<r c) (n:Nat) (hn:(b0h S).length+1<n) :
    ∀ (d h : Nat) (up : Int) (out : List GRow), h ∈ b0h S → R ≤ r h + d → out.length ≤ S.N → PreO S out h →
      b0f T (n+d+1) 50 [DP p,.own true g.length out.length,.p (.int .i64 h),.p (.int .i64 up)] (g++[.pcells 6 (out.map GRow.pv)])=some (.own true g.length (b1t S (d+1) out (h:Int) up).length,g++[.pcells 6 ((b1t S (d+1) out (h:Int) up).map GRow.pv)]):=by
  intro d
  induction d with
  | zero =>
    intro h up out hh hR hol hp
    exact g4t hS hN hD hL n hn 0 h up out hh hp hol (fun c hc hcu=>by
      have:=hr1 c (b1m.1 hc).1
      have:=hr2 c h (b1m.1 hc).1 hcu
      omega)
  | succ d ih =>
    intro h up out hh hR hol hp
    exact g4t hS hN hD hL (n+d+1) (by omega) (d+1) h up out hh hp hol (fun c hc hcu out up hol hp=>by
      have:=hr2 c h (b1m.1 hc).1 hcu
      exact ih c up out hc (by omega) hol hp)
theorem h8s (hS:S.Ok R) (hN:S.N≤8589934592) (hD:DM (b0h S) S.st S.kd nx av p q g) (hL:(b0h S).length≤4194304) {n:Nat} (hn:(b0h S).length+1<n) :
  b0f T (n+R+2) 22 [DP p] g=some (.own true g.length (b2j S R).length,g++[.pcells 6 ((b2j S R).map GRow.pv)]):=by
 obtain ⟨r,hr1,hr2⟩:=hS.rank
 have h0:(0:Nat) ∈ b0h S:=b1m.2 ⟨hS.pos,hS.top.1⟩
 have hr:=j2d hS hN hD hL hr1 hr2 n hn R 0 0 [] h0 (by omega) (by simp) d3p
 simp only [Int.natCast_zero,List.map_nil,List.length_nil] at hr
 rw [b0a T22,b0g rfl rfl]
 unfold b2j
 generalize b1t S (R+1) [] 0 0=o at hr ⊢
 simp -implicitDefEqProofs (disch:=omega) only [Rx,simprocAttr,F22,hr]
end
end Tryz
end Go.TA


end
section
/- The row of loose tops, read. -/
namespace Go.TA
namespace Tryz
section
variable {R:Nat} {S:MS} {nx:Int} {av:Nat→AV} {p q:Nat} {g:List AObj}
def looP (S:MS) (h:Nat):Bool := !(h==0) && decide ((S.st h).up<0)
theorem g6j (hD : DM (b0h S) S.st S.kd nx av p q g) (hL : (b0h S).length ≤ 4194304) {n : Nat} (hn : (b0h S).length < n) :
    b0f T (n+1) 24 [DP p] g=some (.own true g.length (b3r S).length,g++[.pcells 1 (b0j (b3r S))]):=by
  obtain ⟨o,ho,hrep⟩:=hD.core.row
  have hpl:=(List.getElem?_eq_some_iff.1 hD.core.obj).1
  have hql:=(List.getElem?_eq_some_iff.1 ho).1
  have hob:∀ X,(g++[X])[p]? = some (.cells 2 [[.own true q (b0h S).length,.p (.int .i64 nx)]]):=fun X=>by rw [List.getElem?_append_left hpl];exact hD.core.obj
  have hoX:∀ X,(g++[X])[q]? = some o:=fun X=>by rw [List.getElem?_append_left hql];exact ho
  have hlast:∀ X,(g++[X])[g.length]? = some X:=fun X=>by simp
  have hsetX:∀ X Y,(g++[X]).set g.length Y=g++[Y]:=fun X Y=>by simp [List.set_append]
  have hix:=fun s i=>hrep.idx b2b s true q i
  have hlm:b3r S=((b0h S).filter (looP S)).map fun h:Nat=>(h:Int):=rfl
  rw [hlm]
  have hlen:∀ i,(((b0h S).take i).filter (looP S)).length≤4194304:=fun i=>by
    have h3:=List.length_filter_le (looP S) ((b0h S).take i)
    rw [List.length_take] at h3
    omega
  generalize hacc:(fun i:Nat=>(((b0h S).take i).filter (looP S)).map fun h:Nat=>(h:Int))=acc
  have hal:∀ i,(acc i).length≤4194304:=fun i=>by rw [← hacc];simp only [List.length_map];exact hlen i
  have key:=b1i (C:=b0f T n) (N:=n) (B:=g8w) (σ := Nat) (S:=fun i=>⟨[(0,DP p),(3,.own true g.length (acc i).length),(9,.p (.int .i64 (b0h S).length)),(10,.p (.int .i64 i))],[],g++[.pcells 1 (b0j (acc i))]⟩)
    (I:=fun i=>i≤(b0h S).length) (μ := fun i=>(b0h S).length - i) (Q:=fun r=>r=(.exit 0,⟨[(3,.own true g.length (acc (b0h S).length).length)],[],g++[.pcells 1 (b0j (acc (b0h S).length))]⟩)) ?_ 0 (by omega) (by omega)
  · obtain ⟨r,hr,rfl⟩:=key
    have e0:acc 0=[]:=by rw [← hacc];simp
    have e1:acc (b0h S).length=((b0h S).filter (looP S)).map fun h:Nat=>(h:Int):=by rw [← hacc];simp
    rw [e0,e1] at hr
    generalize ((b0h S).filter (looP S)).map (fun h:Nat=>(h:Int))=l1 at hr ⊢
    simp only [List.length_nil,Int.natCast_zero,show b0j []=[] from rfl] at hr
    rw [b0a T24,b0g rfl rfl]
    simp -implicitDefEqProofs (disch:=omega) only [Rx,simprocAttr,F24,hob,hr]
  intro i hi
  by_cases h1:i<(b0h S).length
  · left
    obtain ⟨h,hh⟩:=b0m h1
    have k1:(i:Int)<((b0h S).length:Int):=by omega
    have rd0:=b4f hrep hh (j:=0) (by omega)
    have rd1:=b4f hrep hh (j:=1) (by omega)
    simp only [nAV] at rd0 rd1
    have hs:acc (i+1)=acc i++if looP S h=true then [(h:Int)] else []:=by
      rw [← hacc]
      simp only
      rw [List.take_add_one,hh,List.filter_append,List.map_append]
      congr 1
      simp only [Option.toList_some,List.filter_cons,List.filter_nil]
      split <;> rfl
    have hll:=hal i
    have il:=b0v (acc i)
    refine ⟨i+1, ?_,by omega,by omega⟩
    rw [hs]
    by_cases e0:h=0
    · subst e0
      have ep:looP S 0=false:=rfl
      rw [ep]
      simp only [Bool.false_eq_true,if_false,List.append_nil]
      have e1:((((0:Nat):Int))==0)=true:=rfl
      simp -implicitDefEqProofs (disch:=omega) only [Rx,simprocAttr,g8w,k1,hob,hoX,hix,rd0]
    · have e1:((h:Int)==0)=false:=by simp;omega
      by_cases eu:(S.st h).up<0
      · have ep:looP S h=true:=by simp [looP,e0,eu]
        rw [ep,if_pos rfl]
        have os1:=b4a (acc i) (h:Int)
        have ol1:(b0j (acc i++[(h:Int)])).length=(acc i).length+1:=by rw [b0v,List.length_append];rfl
        have ol3:(acc i++[(h:Int)]).length=(acc i).length+1:=by rw [List.length_append];rfl
        rw [ol3]
        generalize acc i++[(h:Int)]=acc1 at os1 ol1
        generalize acc i=a0 at hll il os1 ol1
        simp -implicitDefEqProofs (disch:=omega) only [Rx,simprocAttr,g8w,k1,hob,hoX,hix,rd0,rd1,e1,eu,hlast,hsetX,il,os1,ol1]
      · have ep:looP S h=false:=by simp [looP,eu]
        rw [ep]
        simp only [Bool.false_eq_true,if_false,List.append_nil]
        simp -implicitDefEqProofs (disch:=omega) only [Rx,simprocAttr,g8w,k1,hob,hoX,hix,rd0,rd1,e1,eu]
  · right
    obtain rfl:i=(b0h S).length:=by omega
    have k1:¬ ((b0h S).length:Int)<((b0h S).length:Int):=by omega
    refine ⟨_, ?_, ?_,rfl⟩
    · simp -implicitDefEqProofs (disch:=omega) only [Rx,simprocAttr,g8w,k1]
    · simp
end
end Tryz
end Go.TA


end
section
/- What a machine's end comes to, by the program and by the document's answer. -/
namespace Go.TA
namespace Tryz
def endE (S:MS) (R:Nat) (L:List GOp) (left:Int):Int :=
 if 0<(b3r S).length then 19 else if 1<tops (b2j S R) then 20 else if b0r (b2j S R)≠0 then b0r (b2j S R) else if (b2g L 1:Int)≤left then 0 else 21
theorem h7r {R:Nat} {S:MS} (hS:S.Ok R) (hs:S.small) (hN:S.N≤1048576) (L:List GOp) (hL:L.length≤1048576) (left:Int) (av:Nat→AV) (rest:List AObj) (hM:MOk S.N av S.kd rest) {F:Nat} (hF:R+3145800<F) :
    ∃ rest', b0f T (F + 1) 54 [MP, .p (.list (L.map GOp.pv)), .p (.int .i64 left)] (b0o S.N S.st av rest) = some (.tuple [if endE S R L left = 0 then .own true (rest.length + 1 + 1) (b2j S R).length else .p (.list []), .p (.int .i64 (endE S R L left))], b0o S.N S.st av rest')
      ∧ rest'[rest.length]? = some (.pcells 6 ((b2j S R).map GRow.pv)):=by
  have hlen:=c0k hS R
  have hsm:=b9j hS hs (by omega) R
  have hrows:=g4z hS (by omega) av rest hM (n:=F - R - 2) (by omega)
  rw [show F - R - 2+R+2=F by omega] at hrows
  have hM':MOk S.N av S.kd (rest++[.pcells 6 ((b2j S R).map GRow.pv)]):=⟨fun h hh=>(hM.kids h hh).more _,hM.disj⟩
  have hloose:=h1y S (by omega) av (rest++[.pcells 6 ((b2j S R).map GRow.pv)]) hM' (n:=F - 1) (by omega)
  rw [show F - 1+1=F by omega] at hloose
  have hflat:=b8p (b2j S R) hsm (Nat.le_refl _) (n:=F - (b2j S R).length - 43) (by omega) []
  rw [show F - (b2j S R).length - 43+(b2j S R).length+43=F by omega] at hflat
  have hcount:=d8l L hL [] (n:=F - 1) (by omega)
  rw [show F - 1+1=F by omega] at hcount
  have hll:=d2f S
  have htl:=d9u (b2j S R)
  have e19:endE S R L left=if 0<(b3r S).length then 19 else if 1<tops (b2j S R) then 20 else if b0r (b2j S R)≠0 then b0r (b2j S R) else if (b2g L 1:Int)≤left then 0 else 21:=rfl
  refine ⟨rest++[.pcells 6 ((b2j S R).map GRow.pv)]++[.pcells 1 (b0j (b3r S))], ?_,by simp⟩
  generalize b3r S=lo at *
  have hrl:((b2j S R).map GRow.pv).length=(b2j S R).length:=by simp
  have hget:∀ i x,(b2j S R)[i]? = some x→((b2j S R).map GRow.pv).getD i []=x.pv:=fun i x hx=>b0s (f:=GRow.pv) hx
  generalize b2j S R=rows at *
  generalize hX:rows.map GRow.pv=X at *
  have q1:(rest++[AObj.pcells 6 X])[rest.length]? = some (.pcells 6 X):=by simp
  have q2:(rest++[AObj.pcells 6 X]++[.pcells 1 (b0j lo)])[rest.length]? = some (.pcells 6 X):=by simp
  have hloop:=b1k (C:=b0f T F) (N:=F) (B:=h4w) (σ := Nat) (S:=fun i=>⟨[(0,MP),(1,.p (.list (L.map GOp.pv))),(2,.p (.int .i64 left)),(8,.own true (rest.length+1+1) rows.length),(9,.p (.int .i64 (tops (rows.take i)))),(15,.own true (rest.length+1+1) rows.length),(16,.p (.int .i64 rows.length)),(17,.p (.int .i64 i))],[],b0o S.N S.st av (rest++[.pcells 6 X])⟩) (I:=fun i=>i≤rows.length) (μ := fun i=>rows.length - i)
    (Φ := fun i=>(.exit 0,⟨[(0,MP),(1,.p (.list (L.map GOp.pv))),(2,.p (.int .i64 left)),(8,.own true (rest.length+1+1) rows.length),(9,.p (.int .i64 (tops rows)))],[],b0o S.N S.st av (rest++[.pcells 6 X])⟩)) ?_ 0 (by omega) (by omega)
  · have t0:tops (rows.take 0)=0:=rfl
    rw [t0] at hloop
    have ll:(L.map GOp.pv).length=L.length:=by simp
    rw [b0a T54,b0g rfl rfl]
    generalize tops rows=tp at *
    generalize b2g L 1=t1 at *
    simp only [b0o,Int.natCast_zero] at hloop hrows hloose ⊢
    by_cases h1:0<lo.length
    · have e:endE S R L left=19:=by rw [e19,if_pos h1]
      rw [e]
      simp -implicitDefEqProofs (disch:=omega) only [Rx,simprocAttr,F54,hrows,hloop,hloose]
    by_cases h2:1<tp
    · have e:endE S R L left=20:=by rw [e19,if_neg h1,if_pos h2]
      rw [e]
      simp -implicitDefEqProofs (disch:=omega) only [Rx,simprocAttr,F54,hrows,hloop,hloose]
    by_cases h3:b0r rows=0
    rotate_left
    · have e:endE S R L left=b0r rows:=by rw [e19,if_neg h1,if_neg h2,if_pos h3]
      rw [e]
      have h3':(b0r rows==0)=false:=by simpa using h3
      generalize b0r rows=c at hflat h3 h3'
      simp -implicitDefEqProofs (disch:=omega) only [Rx,simprocAttr,F54,hrows,hloop,hloose,hflat,hrl,q2,h3,h3']
    rw [h3] at hflat
    by_cases h4:(t1:Int)≤left
    · have e:endE S R L left=0:=by rw [e19,if_neg h1,if_neg h2,if_neg (by simpa using h3),if_pos h4]
      rw [e]
      simp -implicitDefEqProofs (disch:=omega) only [Rx,simprocAttr,F54,hrows,hloop,hloose,hflat,hcount,hrl,q2,h4]
    · have e:endE S R L left=21:=by rw [e19,if_neg h1,if_neg h2,if_neg (by simpa using h3),if_neg h4]
      rw [e]
      simp -implicitDefEqProofs (disch:=omega) only [Rx,simprocAttr,F54,hrows,hloop,hloose,hflat,hcount,hrl,q2,h4]
  intro i hi
  by_cases h:i<rows.length
  · left
    obtain ⟨x,hx⟩:=b0m h
    have k1:(i:Int)<(rows.length:Int):=by omega
    have hg:=hget i x hx
    have ht:=g9n hx
    have hle:=d9u (rows.take i)
    rw [List.length_take] at hle
    refine ⟨i+1, ?_,by omega,by omega,rfl⟩
    rw [ht]
    generalize tops (rows.take i)=c at *
    simp only [b0o] at ⊢
    by_cases e:x.up=0
    · have e1:(x.up==0)=true:=by simpa using e
      rw [if_pos e]
      simp -implicitDefEqProofs (disch:=omega) only [Rx,simprocAttr,h4w,k1,hrl,q1,hg,GRow.pv,b0b,e1]
    · have e1:(x.up==0)=false:=by simpa using e
      rw [if_neg e]
      simp -implicitDefEqProofs (disch:=omega) only [Rx,simprocAttr,h4w,k1,hrl,q1,hg,GRow.pv,b0b,e1,Nat.add_zero]
  · right
    obtain rfl:i=rows.length:=by omega
    have k1:¬ (rows.length:Int)<(rows.length:Int):=by omega
    refine ⟨?_,by simp⟩
    rw [List.take_length]
    simp -implicitDefEqProofs (disch:=omega) only [Rx,simprocAttr,h4w,k1]
end Tryz
end Go.TA


end
section
/- The first operation of a list that may not be, by the program and by the document's answer. -/
namespace Go.TA.Tryz
noncomputable def b2d:List GOp→Nat→Nat × Int
 | [],i=>(0,0)
 | x::l,i=>if b0u x=0 then b2d l (i+1) else (i,b0u x)
theorem c9t {L:List GOp} {i:Nat} {x:GOp} (hx:L[i]? = some x):b2d (L.drop i) i=if b0u x=0 then b2d (L.drop (i+1)) (i+1) else (i,b0u x):=by
 have:L.drop i=x::L.drop (i+1):=by rw [List.drop_eq_getElem?_toList_append,hx];rfl
 rw [this,b2d]
theorem g6x {L:List GOp} {i:Nat} (h:(b2d L i).2=0):b2d L i=(0,0)∧∀ x ∈ L,b0u x=0:=by
  induction L generalizing i with
  | nil=>exact ⟨rfl,by simp⟩
  | cons x l ih =>
    rw [b2d] at h ⊢
    by_cases e:b0u x=0
    · rw [if_pos e] at h ⊢
      obtain ⟨h1,h2⟩:=ih h
      exact ⟨h1,fun y hy=>(List.mem_cons.1 hy).elim (fun q=>q ▸ e) (h2 y)⟩
    · rw [if_neg e] at h
      exact absurd h e
theorem g6w (L : List GOp) (hL : ∀ x ∈ L, x.attrs.length ≤ 1048576) (hlen : L.length ≤ 1048576) (g : List AObj) {n : Nat} (hn : 1048577 < n) :
    b0f T (n+39) 53 [.p (.list (L.map GOp.pv))] g=some (.tuple [.p (.int .i64 (b2d L 0).1),.p (.int .i64 (b2d L 0).2)],g):=by
  have key:=b1i (C:=b0f T (n+38)) (N:=n+38) (B:=h4x) (σ := Nat) (S:=fun i=>⟨[(7,.p (.list (L.map GOp.pv))),(8,.p (.int .i64 L.length)),(9,.p (.int .i64 i))],[],[]⟩)
    (I:=fun i=>i≤L.length∧b2d L 0=b2d (L.drop i) i) (μ := fun i=>L.length - i) (Q:=fun r=>(b2d L 0=(0,0)∧r=(.exit 0,⟨[],[],[]⟩))∨r=(.ret,⟨[(2,.p (.int .i64 (b2d L 0).1)),(3,.p (.int .i64 (b2d L 0).2))],[],[]⟩)) ?_ 0 (by simp) (by omega)
  · obtain ⟨r,hr,hq⟩:=key
    rw [b0a T53,run_pure rfl rfl rfl]
    simp only [Int.natCast_zero] at hr
    rcases hq with ⟨e,rfl⟩ | rfl
    · rw [e]
      simp -implicitDefEqProofs (disch:=omega) only [Rx,simprocAttr,F53,hr,Int.natCast_zero]
    · simp -implicitDefEqProofs (disch:=omega) only [Rx,simprocAttr,F53,hr]
  rintro i ⟨hi,hf⟩
  by_cases h:i<L.length
  · obtain ⟨x,hx⟩:=b0m h
    have hg:=b0s (f:=GOp.pv) hx
    have hxl:=hL x (List.mem_of_getElem? hx)
    have k1:(i:Int)<(L.length:Int):=by omega
    have k2:((i:Int)==1048576)=false:=by simp;omega
    have hc:=fun g=>g3h x g (n:=n) (by omega) hxl
    simp only [GOp.pv,b0b] at hc
    rw [c9t hx] at hf
    by_cases he:b0u x=0
    · left
      rw [if_pos he] at hf
      refine ⟨i+1, ?_,⟨by omega,hf⟩,by omega⟩
      rw [he] at hc
      simp -implicitDefEqProofs (disch:=omega) only [Rx,simprocAttr,h4x,k1,k2,hg,GOp.pv,b0b,hc]
    · right
      rw [if_neg he] at hf
      have he':(b0u x==0)=false:=by simpa using he
      refine ⟨_, ?_, ?_,.inr rfl⟩
      · rw [hf]
        simp -implicitDefEqProofs (disch:=omega) only [Rx,simprocAttr,h4x,k1,k2,hg,GOp.pv,b0b,hc,he']
      · simp
  · right
    obtain rfl:i=L.length:=by omega
    have k1:¬ (L.length:Int)<(L.length:Int):=by omega
    rw [List.drop_length] at hf
    refine ⟨_, ?_, ?_,.inl ⟨hf,rfl⟩⟩
    · simp -implicitDefEqProofs (disch:=omega) only [Rx,simprocAttr,h4x,k1]
    · simp
theorem g6v (L : List GOp) (hL : ∀ x ∈ L, x.attrs.length ≤ 1048576 ∧ b1u x.attrs) (hlen : L.length ≤ 1048576) (g : List AObj) {n : Nat} (hn : 1048577 < n) :
    b0f T (n+38) 55 [.p (.list (L.map GOp.pv))] g=some (.tuple [.p (.int .i64 (b2d L 0).1),.p (.int .i64 (b2d L 0).2)],g):=by
  have key:=b1i (C:=b0f T (n+37)) (N:=n+37) (B:=h4u) (σ := Nat) (S:=fun i=>⟨[(0,.p (.list (L.map GOp.pv))),(7,.p (.int .i64 L.length)),(8,.p (.int .i64 i))],[],[]⟩)
    (I:=fun i=>i≤L.length∧b2d L 0=b2d (L.drop i) i) (μ := fun i=>L.length - i) (Q:=fun r=>(b2d L 0=(0,0)∧r=(.exit 0,⟨[],[],[]⟩))∨r=(.ret,⟨[(2,.p (.int .i64 (b2d L 0).1)),(3,.p (.int .i64 (b2d L 0).2))],[],[]⟩)) ?_ 0 (by simp) (by omega)
  · obtain ⟨r,hr,hq⟩:=key
    rw [b0a T55,run_pure rfl rfl rfl]
    simp only [Int.natCast_zero] at hr
    rcases hq with ⟨e,rfl⟩ | rfl
    · rw [e]
      simp -implicitDefEqProofs (disch:=omega) only [Rx,simprocAttr,F55,hr,Int.natCast_zero]
    · simp -implicitDefEqProofs (disch:=omega) only [Rx,simprocAttr,F55,hr]
  rintro i ⟨hi,hf⟩
  by_cases h:i<L.length
  · obtain ⟨x,hx⟩:=b0m h
    have hg:=b0s (f:=GOp.pv) hx
    obtain ⟨hxl,hxs⟩:=hL x (List.mem_of_getElem? hx)
    have k1:(i:Int)<(L.length:Int):=by omega
    have k2:((i:Int)==1048576)=false:=by simp;omega
    have hc:=fun g=>d6o x hxs g (n:=n) (by omega) (by omega)
    simp only [GOp.pv,b0b] at hc
    rw [c9t hx] at hf
    by_cases he:b0u x=0
    · left
      rw [if_pos he] at hf
      refine ⟨i+1, ?_,⟨by omega,hf⟩,by omega⟩
      rw [he] at hc
      simp -implicitDefEqProofs (disch:=omega) only [Rx,simprocAttr,h4u,k1,k2,hg,GOp.pv,b0b,hc]
    · right
      rw [if_neg he] at hf
      have he':(b0u x==0)=false:=by simpa using he
      refine ⟨_, ?_, ?_,.inr rfl⟩
      · rw [hf]
        simp -implicitDefEqProofs (disch:=omega) only [Rx,simprocAttr,h4u,k1,k2,hg,GOp.pv,b0b,hc,he']
      · simp
  · right
    obtain rfl:i=L.length:=by omega
    have k1:¬ (L.length:Int)<(L.length:Int):=by omega
    rw [List.drop_length] at hf
    refine ⟨_, ?_, ?_,.inl ⟨hf,rfl⟩⟩
    · simp -implicitDefEqProofs (disch:=omega) only [Rx,simprocAttr,h4u,k1]
    · simp
end Go.TA.Tryz


end
section
/- The machine of rows that are right. -/
namespace Go.TA.Tryz
def newS (l:List GRow) (i:Nat) (av:Nat→AV) (rest:List AObj):St:=⟨[(5,.ptr true 1 1 1 0 0),(17,.p (.list (l.map GRow.pv))),(18,.p (.int .i64 l.length)),(19,.p (.int .i64 i))],[],b0o (i+1) (st0 l) av rest⟩
theorem h6p {n N : Nat} (l : List GRow) (hl : l.length ≤ 1048576) (hal : ∀ x ∈ l, x.attrs.length ≤ 1048577) (hs : b1r l l.length) (hN : l.length < N) :
    ∃ r,b0t (b0f T (n+1)) N (.loop h5f) (newS l 0 (fun _ => .nils) [])=some r∧∃ av rest,r=(.exit 0,⟨[(5,.ptr true 1 1 1 0 0)],[],b0o (l.length+1) (st0 l) av rest⟩)∧MOk (l.length+1) av (kd0 l l.length) rest∧∀ h,h<l.length+1→∀ ks,av h ≠ .p ks:=by
  refine b1i (σ := Nat × (Nat→AV) × List AObj) (S:=fun s=>newS l s.1 s.2.1 s.2.2) (I:=fun s=>s.1≤l.length∧MOk (s.1+1) s.2.1 (kd0 l s.1) s.2.2∧∀ h,h<s.1+1→∀ ks,s.2.1 h ≠ .p ks) (μ := fun s=>l.length - s.1)
    (Q:=fun r=>∃ av rest,r=(.exit 0,⟨[(5,.ptr true 1 1 1 0 0)],[],b0o (l.length+1) (st0 l) av rest⟩)∧MOk (l.length+1) av (kd0 l l.length) rest∧∀ h,h<l.length+1→∀ ks,av h ≠ .p ks) ?_ (0,(fun _ => .nils),[]) ⟨by omega,⟨fun h _ => .none,fun _ _ _ _ _ => .inl rfl⟩,fun h _ ks=>by simp⟩ (by simp only;omega)
  rintro ⟨i,av,rest⟩ ⟨h1,h2,h3⟩
  simp only at h1 h2 h3 ⊢
  by_cases hi:i<l.length
  · left
    obtain ⟨x,hx,hu⟩:=d1i hs (Nat.le_refl _) hi
    have hle:=b5w hs hi hi
    have hg:=b0s (f:=GRow.pv) hx
    have k1:(i:Int)<(l.length:Int):=by omega
    have hcl:=b5q x.attrs (hal x (List.mem_of_getElem? hx)) [] n
    generalize hU:upAt l (i+1)=u at hu hle
    have hst:st0 l (i+1)=b5o x:=by simp [st0,hx]
    have hpush:b0z (i+1) (st0 l) av++[[.p (.bool true),.p (.int .i64 u),.nils,.p (.str x.tag),.p (.str x.key),.p (.str x.text),.p (.list (x.attrs.map Attr.pv))]]=b0z (i+1+1) (st0 l) (upd av (i+1) .nils):=by
      have:=c8s (N:=i+1) (st:=st0 l) (av:=av) (b5o x) .nils
      simp only [b1s,b5o,hu] at this
      rw [this]
      refine b3w fun k hk=>⟨?_,rfl⟩
      by_cases e:k=i+1
      · subst e;rw [b0l,hst,b5o,hu]
      · rw [b0k e]
    have hM:=h2.push
    have len1:(b0z (i+1) (st0 l) av).length=i+1:=b1y
    have len2:(b0z (i+1+1) (st0 l) (upd av (i+1) .nils)).length=i+1+1:=b1y
    have hgu:(b0z (i+1+1) (st0 l) (upd av (i+1) .nils)).getD u []=b1s (st0 l u) (upd av (i+1) .nils u):=b1w (by omega)
    have hkd:∀ h,h<i+1+1→upd (upd (kd0 l i) (i+1) []) u (upd (kd0 l i) (i+1) [] u++[(i:Int)+1]) h=kd0 l (i+1) h:=by
      intro h hh
      have hnew:upd (kd0 l i) (i+1) [] h=kd0 l i h:=by
        by_cases e:h=i+1
        · subst e;rw [b0l,h2i (hs.mono (by omega)) (by omega)]
        · rw [b0k e]
      rw [c1t hx,hu]
      by_cases e:h=u
      · subst e
        rw [b0l,hnew,if_pos rfl]
      · rw [b0k e,hnew,if_neg (by omega)]
    have hset:∀ a,(b0z (i+1+1) (st0 l) (upd av (i+1) .nils)).set u [.p (.bool (st0 l u).live),.p (.int .i64 (st0 l u).up),a,.p (.str (st0 l u).tag),.p (.str (st0 l u).key),.p (.str (st0 l u).text),.p (.list ((st0 l u).attrs.map Attr.pv))]=b0z (i+1+1) (st0 l) (upd (upd av (i+1) .nils) u a):=by
      intro a
      have:=b6o (N:=i+1+1) (st:=st0 l) (av:=upd av (i+1) .nils) (h:=u) (by omega) (st0 l u) a
      simp only [b1s] at this
      rw [this]
      refine b3w fun k hk=>⟨?_,rfl⟩
      by_cases e:k=u
      · subst e;rw [b0l]
      · rw [b0k e]
    have hK:=hM.kids u (by omega)
    generalize hav:upd av (i+1) .nils u=a at hK hgu
    generalize hks:upd (kd0 l i) (i+1) [] u=ks at hK hkd
    simp only [b1s] at hgu
    have hle2:(u:Int)<(i:Int)+1+1:=by omega
    have hkl:ks.length≤1048576:=by
      rw [← hks]
      by_cases e:u=i+1
      · rw [e,b0l];simp
      · rw [b0k e]
        simp only [kd0,List.length_map]
        have:=List.length_filter_le (fun k=>((l[k]?).map (fun x=>x.up==(u:Int))).getD false) (List.range i)
        simp only [List.length_range] at this
        omega
    rcases hK.inv with ⟨rfl,rfl⟩ | ⟨r,rfl,hr⟩ | rfl
    · refine ⟨(i+1,upd (upd av (i+1) .nils) u (.own true (rest.length+1+1) 1),rest++[.pcells 1 [[.int .i64 ((i:Int)+1)]]]), ?_,⟨by omega, ?_, ?_⟩,by simp only;omega⟩
      · have hsl:∀ o o':AObj,(rest++[o]).set rest.length o'=rest++[o']:=fun o o'=>by simp [List.set_append]
        simp only [newS,b0o]
        simp -implicitDefEqProofs (disch:=omega) only [Rx,simprocAttr,h5f,k1,hg,GRow.pv,b0b,hcl,hpush,len1,len2,hgu,hset,hu,hle2,hsl]
      · have:=hM.fresh (u:=u) (by omega) [(i:Int)+1]
        simp only [List.length_singleton,b0j,List.map_cons,List.map_nil] at this
        refine ⟨fun h hh => ?_,this.disj⟩
        have q:=this.kids h hh
        rw [← hkd h hh]
        simpa [hks] using q
      · intro h hh ks
        by_cases e:h=u
        · subst e;simp [upd]
        · simp only
          rw [b0k e]
          by_cases e':h=i+1
          · subst e';simp [upd]
          · rw [b0k e'];exact h3 h (by omega) ks
    · have hrl:r<rest.length:=(List.getElem?_eq_some_iff.1 hr).1
      refine ⟨(i+1,upd (upd av (i+1) .nils) u (.own true (r+1+1) (ks.length+1)),rest.set r (.pcells 1 (b0j ks++[[.int .i64 ((i:Int)+1)]]))), ?_,⟨by omega, ?_, ?_⟩,by simp only;omega⟩
      · simp only [newS,b0o]
        have il:=b0v ks
        simp -implicitDefEqProofs (disch:=omega) only [Rx,simprocAttr,h5f,k1,hg,GRow.pv,b0b,hcl,hpush,len1,len2,hgu,hset,hu,hle2,hr,il,List.length_append]
      · have:=hM.turn (u:=u) (r:=r) (by omega) (by rw [hav,hks]) hrl (ks++[(i:Int)+1])
        simp only [List.length_append,List.length_singleton, ← b4a] at this
        refine ⟨fun h hh => ?_,this.disj⟩
        have q:=this.kids h hh
        rw [← hkd h hh]
        exact q
      · intro h hh ks
        by_cases e:h=u
        · subst e;simp [upd]
        · simp only
          rw [b0k e]
          by_cases e':h=i+1
          · subst e';simp [upd]
          · rw [b0k e'];exact h3 h (by omega) ks
    · exfalso
      by_cases e:u=i+1
      · rw [e,b0l] at hav;cases hav
      · rw [b0k e] at hav;exact h3 u (by omega) _ hav
  · right
    obtain rfl:i=l.length:=by omega
    have k1:¬ (l.length:Int)<(l.length:Int):=by omega
    refine ⟨_, ?_, ?_,av,rest,rfl,h2,h3⟩
    · simp only [newS]
      simp -implicitDefEqProofs (disch:=omega) only [Rx,simprocAttr,h5f,k1]
    · simp
theorem h1m (l:List GRow) {m:Nat} (hl:Rows.mid m l) (hm:m≤1048577) (h:b0r l=0) {n:Nat} (hn:1048577<n) :
  ∃ av rest,b0f T (n+l.length+44) 12 [.p (.list (l.map GRow.pv))] []=some (.tuple [.ptr true 1 1 1 0 0,.p (.int .i64 0)],b0o (l.length+1) (st0 l) av rest)∧MOk (l.length+1) av (kd0 l l.length) rest∧∀ h,h<l.length+1→∀ ks,av h ≠ .p ks:=by
 have hlen:=hl.len
 have hfc:=b8p l hl hm hn []
 rw [h] at hfc
 have hs:b1r l l.length:=b9q (b5s h).1
 obtain ⟨r,hr,av,rest,rfl,hok,hpp⟩:=h6p (n:=n+l.length+42) (N:=n+l.length+43) l (by omega) (fun x hx=>by have:=(hl.row x hx).attrs;omega) hs (by omega)
 refine ⟨av,rest, ?_,hok,hpp⟩
 rw [b0a T12,b0g rfl rfl]
 have h0:b0z 1 (st0 l) (fun _=>AV.nils)=[b1s b7c .nils]:=rfl
 simp only [newS,b0o,Nat.zero_add,Int.natCast_zero,h0,b1s,b7c,List.map_nil] at hr ⊢
 simp -implicitDefEqProofs (disch:=omega) only [Rx,simprocAttr,F12,hfc,hr]
end Go.TA.Tryz


end
section
/- Rows that are not right: no machine. -/
namespace Go.TA.Tryz
theorem h6r (l:List GRow) {m:Nat} (hl:Rows.mid m l) (hm:m≤1048577) (h:b0r l≠0) {n:Nat} (hn:1048577<n) :
  b0f T (n+l.length+44) 12 [.p (.list (l.map GRow.pv))] []=some (.tuple [.p .nilp,.p (.int .i64 (b0r l))],[]):=by
 have hfc:=b8p l hl hm hn []
 have e1:(b0r l==0)=false:=by simpa using h
 rw [b0a T12,b0g rfl rfl]
 generalize b0r l=e at hfc e1 ⊢
 simp -implicitDefEqProofs (disch:=omega) only [Rx,simprocAttr,F12,hfc,e1]
end Go.TA.Tryz


end
section
/- The document's answer: a node is put elsewhere below the same one. -/
namespace Go.TA.Tryz
section
variable {R:Nat} {S:MS} {nx:Int} {av:Nat→AV} {p q:Nat} {g:List AObj}
theorem h1s (hS : S.Ok R) (hD : DM (b0h S) S.st S.kd nx av p q g) (hL : (b0h S).length ≤ 4194304) (id b : Int) {n : Nat} (hn : (b0h S).length < n) :
    ∃ av' g',b0f T (n+4) 85 [DP p,.p (.int .i64 id),.p (.int .i64 b)] g=some (.p (.int .i64 (c7n S id b).1),g')∧DM (b0h (c7n S id b).2) (c7n S id b).2.st (c7n S id b).2.kd nx av' p q g'∧DFr (b0h S) av p q g (b0h (c7n S id b).2) av' q g':=by
  obtain ⟨o,ho,hrep⟩:=hD.core.row
  have hob:=hD.core.obj
  have hix:=fun s i=>hrep.idx b2b s true q i
  have hno:=b9a hD.core hL id (n:=n+1) (by omega)
  have hat:=fun id=>c1h hD.core hL id (n:=n+2) (by omega)
  unfold c7n
  by_cases hf:fitE S id≠0
  · rw [if_pos hf]
    have e1:(fitE S id==0)=false:=by simpa using hf
    refine ⟨av,g, ?_,hD,DFr.refl _ _ _ _ _⟩
    rw [b0a T85,b0g rfl rfl]
    generalize fitE S id=e at hno e1 ⊢
    simp -implicitDefEqProofs (disch:=omega) only [Rx,simprocAttr,F85,hno,e1]
  rw [if_neg hf]
  obtain ⟨c,rfl,hcL,hc0⟩:=c1v hf
  simp only [ne_eq,Decidable.not_not] at hf
  rw [hf] at hno
  have hat3:=hat b
  by_cases hl:b1j S b=false
  · rw [if_pos hl]
    refine ⟨av,g, ?_,hD,DFr.refl _ _ _ _ _⟩
    rw [c4b hl] at hat3
    rw [b0a T85,b0g rfl rfl]
    simp -implicitDefEqProofs (disch:=omega) only [Rx,simprocAttr,F85,hno,hat3]
  rw [if_neg hl]
  simp only [Bool.not_eq_false] at hl
  obtain ⟨w,rfl,hwL⟩:=b7v hl
  obtain ⟨ic,hpc,hic⟩:=b4p hcL
  obtain ⟨iw,hpw,hiw⟩:=b4p hwL
  have hat1:=hat (c:Int)
  rw [hpc] at hat1
  rw [hpw] at hat3
  have lc:=(List.getElem?_eq_some_iff.1 hic).1
  have lw:=(List.getElem?_eq_some_iff.1 hiw).1
  have kc:(ic:Int)<((b0h S).length:Int):=by omega
  have kw:(iw:Int)<((b0h S).length:Int):=by omega
  have kw0:¬ (iw:Int)<0:=by omega
  have rdc:=b4f hrep hic (j:=1) (by omega)
  have rdw:=b4f hrep hiw (j:=1) (by omega)
  simp only [nAV] at rdc rdw
  have uo:upOf S (c:Int)=(S.st c).up:=rfl
  have ub:upOf S (w:Int)=(S.st w).up:=rfl
  rw [uo,ub]
  simp only [Int.toNat_natCast]
  obtain ⟨hcN,hcl⟩:=b1m.1 hcL
  obtain ⟨hwN,hwl⟩:=b1m.1 hwL
  by_cases h16:(S.st c).up<0
  · rw [if_pos h16]
    refine ⟨av,g, ?_,hD,DFr.refl _ _ _ _ _⟩
    rw [b0a T85,b0g rfl rfl]
    simp -implicitDefEqProofs (disch:=omega) only [Rx,simprocAttr,F85,hno,hat1,hat3,kw0,hob,ho,hix,rdc,h16]
  rw [if_neg h16]
  obtain ⟨u,hu,huN,hul,hkid⟩:=hS.up_nat hcN (by omega)
  rw [hu] at h16 rdc ⊢
  by_cases e0:(w:Int)=(c:Int)
  · rw [if_pos (.inl e0)]
    have q1:((w:Int)==(c:Int))=true:=by simpa using e0
    refine ⟨av,g, ?_,hD,DFr.refl _ _ _ _ _⟩
    rw [b0a T85,b0g rfl rfl]
    simp -implicitDefEqProofs (disch:=omega) only [Rx,simprocAttr,F85,hno,hat1,hat3,kw0,hob,ho,hix,rdc,h16,q1]
  have q1:((w:Int)==(c:Int))=false:=by simpa using e0
  by_cases h18:(w:Int)≠0∧(S.st w).up≠(u:Int)
  · rw [if_pos (.inr h18)]
    refine ⟨av,g, ?_,hD,DFr.refl _ _ _ _ _⟩
    have e1:((w:Int)==0)=false:=by simpa using h18.1
    have e2:((S.st w).up==(u:Int))=false:=by simpa using h18.2
    rw [b0a T85,b0g rfl rfl]
    simp -implicitDefEqProofs (disch:=omega) only [Rx,simprocAttr,F85,hno,hat1,hat3,kw0,hob,ho,hix,rdc,rdw,h16,q1,e1,e2]
  rw [if_neg (fun h=>h.elim e0 h18)]
  simp only [Int.toNat_natCast]
  have huL:u ∈ b0h S:=b1m.2 ⟨huN,hul⟩
  obtain ⟨iu,hpu,hiu⟩:=b4p huL
  have hat2:=hat (u:Int)
  rw [hpu] at hat2
  have lu:=(List.getElem?_eq_some_iff.1 hiu).1
  have ku:(iu:Int)<((b0h S).length:Int):=by omega
  have hkl:=g3u hS huN
  have hK:=hD.kids u huL
  generalize hl1:(S.kd u).filter (fun k => !(k==(c:Int)))=l1
  have hl1n:l1.length≤(S.kd u).length:=by rw [← hl1];exact List.length_filter_le _ _
  have hbk:(w:Int)=0∨(w:Int) ∈ l1:=by
    by_cases e:(w:Int)=0
    · exact .inl e
    · right
      by_cases e2:(S.st w).up=(u:Int)
      · rw [← hl1,List.mem_filter]
        exact ⟨g3r hS hwN e2,by simp;omega⟩
      · exact absurd ⟨e,e2⟩ h18
  have hks:=g3x (l:=l1) (h:=(c:Int)) (by rw [← hl1];exact (hS.nodup u huN).filter _) (by rw [← hl1];exact fun h=>g2j hS huN (List.mem_filter.1 h).1) hbk
  have hout:=h0s (S.kd u) (c:Int) (by omega) [] (n:=n+2) (by omega)
  rw [hl1] at hout
  have hin:=h9f l1 (c:Int) (w:Int) (by omega) [] (n:=n+2) (by omega)
  rw [hks] at hin
  have hD1:=hD.core.kill (hD.away u huL).1 (hD.away u huL).2
  obtain ⟨o1,hk1,hr1⟩:=c9o hD1 hL huL (b0j (insI l1 (c:Int) (w:Int))) (n:=n+1) (by omega)
  have hD2:=hD.fix huL (insI l1 (c:Int) (w:Int)) hr1
  have hF2:=DFr.fix hD huL (b0j (insI l1 (c:Int) (w:Int))) o1
  have htk:b2f S c=⟨S.N,upd S.st c { S.st c with up := -1 },upd S.kd u l1⟩:=by
    unfold b2f
    rw [if_neg (by omega),hu,Int.toNat_natCast,hl1]
  have hlive:b0h (b2h (b2f S c) c u (w:Int))=b0h S:=c3h (by rw [htk];rfl) (fun k=>by
    rw [htk]
    simp only [b2h]
    by_cases e:k=c
    · subst e;rw [b0l,b0l]
    · rw [b0k e,b0k e])
  refine ⟨_,_, ?_,by
    rw [hlive]
    refine hD2.congr fun k hk=>⟨?_, ?_⟩
    · rw [htk]
      simp only [b2h]
      by_cases e:k=c
      · subst e;rw [b0l,b0l, ← hu]
      · rw [b0k e,b0k e]
    · rw [htk]
      simp only [b2h,b0l]
      by_cases e:k=u
      · subst e;rw [b0l,b0l]
      · rw [b0k e,b0k e,b0k e],by rw [hlive];exact hF2⟩
  have rdu:=b4f hrep hiu (j:=2) (by omega)
  simp only [nAV] at rdu
  generalize insI l1 (c:Int) (w:Int)=ks' at hin hk1
  have hfz:=hK.frz
  generalize c4m g (av u)=g1 at hk1 hfz
  generalize av u=au at rdu hfz
  rw [b0a T85,b0g rfl rfl]
  by_cases e:(w:Int)=0
  · have e1:((w:Int)==0)=true:=by simpa using e
    simp -implicitDefEqProofs (disch:=omega) only [Rx,simprocAttr,F85,hno,hat1,hat2,hat3,kw0,hob,ho,hix,rdc,rdu,h16,q1,e1,hout,hin,hk1,hfz]
  · have e1:((w:Int)==0)=false:=by simpa using e
    have e2:((S.st w).up==(u:Int))=true:=by
      by_cases e2:(S.st w).up=(u:Int)
      · simpa using e2
      · exact absurd ⟨e,e2⟩ h18
    simp -implicitDefEqProofs (disch:=omega) only [Rx,simprocAttr,F85,hno,hat1,hat2,hat3,kw0,hob,ho,hix,rdc,rdw,rdu,h16,q1,e1,e2,hout,hin,hk1,hfz]
end
end Go.TA.Tryz


end
section
/- The document's answer: a node ends, and all below it. -/
namespace Go.TA
noncomputable def b7e (S:MS) (id:Int):Int × MS:=if fitE S id≠0 then (fitE S id,S) else (0,endM (b2f S id.toNat) id)
theorem g8a {S S':MS} {t:Int} (h:∀ y:Int,y≠t→upOf S' y=upOf S y) (y:Int):Below S t y↔Below S' t y:=by
  constructor
  · intro hb
    induction hb with
    | here=>exact .here
    | @up y h1 h2 ih =>
      by_cases e:y=t
      · subst e;exact .here
      · exact .up h1 (by rw [h y e];exact ih)
  · intro hb
    induction hb with
    | here=>exact .here
    | @up y h1 h2 ih =>
      by_cases e:y=t
      · subst e;exact .here
      · exact .up h1 (by rw [← h y e];exact ih)
theorem c5o {S:MS} {c:Nat} (hc:0<c) (y:Int):Below S (c:Int) y↔Below (b2f S c) (c:Int) y:=by
 refine g8a (fun z hz => ?_) y
 unfold b2f
 split
 ·rfl
 ·have:z.toNat≠c:=by omega
  simp only [upOf]
  rw [b0k this]
theorem DM.swap {L L':List Nat} {st:Nat→b3p} {kd:Nat→List Int} {nx:Int} {av:Nat→AV} {p q:Nat} {g:List AObj} (h:DM L st kd nx av p q g) (hs:∀ k ∈ L',k ∈ L) (hn:L'.Nodup) {o:AObj} (hr:b3y 7 (b3j L' st av) o):DM L' st kd nx av p g.length ((g++[o]).set p (.cells 2 [[.own true g.length L'.length,.p (.int .i64 nx)]])):=by
 have hp:=(List.getElem?_eq_some_iff.1 h.core.obj).1
 refine ⟨⟨?_,⟨o, ?_,hr⟩,by omega,hn⟩,fun k hk => ?_,fun k hk => ?_,fun k k' hk hk' hne=>h.disj k k' (hs k hk) (hs k' hk') hne⟩
 ·rw [List.getElem?_set,if_pos rfl,if_pos (by rw [List.length_append];omega)]
 ·rw [List.getElem?_set,if_neg (by omega)];simp
 ·refine (h.kids k (hs k hk)).keep fun r hr => ?_
  have:=(h.kids k (hs k hk)).ref_lt hr
  rw [List.getElem?_set,if_neg (fun e=>(h.away k (hs k hk)).1 (by rw [e];exact hr)),List.getElem?_append_left this]
 ·refine ⟨(h.away k (hs k hk)).1,fun hr => ?_⟩
  have:=(h.kids k (hs k hk)).ref_lt hr
  omega
theorem DFr.swap {L L':List Nat} {av:Nat→AV} {p q:Nat} {g:List AObj} (hs:∀ k ∈ L',k ∈ L) (o o':AObj):DFr L av p q g L' av g.length ((g++[o]).set p o') where
 len:=by simp
 keep j hj hp hq hn:=by rw [List.getElem?_set,if_neg (fun e=>hp e.symm),List.getElem?_append_left hj]
 row:=.inr (Nat.le_refl _)
 refs k hk j hj _:=⟨k,hs k hk,hj⟩
theorem h2b {S:MS} {c:Nat} (hc:0<c):b0h (endM (b2f S c) (c:Int))=(b0h S).filter fun h:Nat => !(b2t S (h:Int) (c:Int)):=by
 classical
 unfold b0h
 rw [List.filter_filter,show (endM (b2f S c) (c:Int)).N=S.N from b5i S c]
 congr 1
 funext h
 simp only [endM]
 by_cases hb:Below (b2f S c) (c:Int) (h:Int)
 ·rw [if_pos hb,b2y.2 ((c5o hc _).2 hb)];rfl
 ·have:b2t S (h:Int) (c:Int)=false:=by
   cases e:b2t S (h:Int) (c:Int) with
   | false=>rfl
   | true=>exact absurd ((c5o hc _).1 (b2y.1 e)) hb
  rw [if_neg hb,c5p,this];simp
theorem h7q {S:MS} {c:Nat} (hc:0<c):∀ k ∈ (b0h S).filter fun h:Nat => !(b2t S (h:Int) (c:Int)),S.st k=(endM (b2f S c) (c:Int)).st k∧(b2f S c).kd k=(endM (b2f S c) (c:Int)).kd k:=by
 classical
 intro k hk
 have hu:=(List.mem_filter.1 hk).2
 simp only [Bool.not_eq_true'] at hu
 have hb:¬ Below (b2f S c) (c:Int) (k:Int):=fun h=>by
  rw [b2y.2 ((c5o hc _).2 h)] at hu;cases hu
 have hne:k≠c:=fun e=>by subst e;exact hb .here
 simp only [endM,if_neg hb,and_true]
 unfold b2f
 split
 ·rfl
 ·simp only;rw [b0k hne]
namespace Tryz
section
variable {R:Nat} {S:MS} {nx:Int} {av:Nat→AV} {p q:Nat} {g:List AObj}
def remS (p:Nat) (c k n i:Nat) (q1:Nat) (G:List AObj):St:=⟨[(0,DP p),(1,.p (.int .i64 c)),(7,.own true q1 k),(46,.p (.int .i64 n)),(47,.p (.int .i64 i))],[],G⟩
theorem g3d (hS : S.Ok R) (hD : DC (b0h S) S.st nx av p q g) (hL : (b0h S).length ≤ 4194304) (hno : ∀ h, h ∈ b0h S → noLocal (av h) = true) (c : Nat) {n : Nat} (hn : (b0h S).length < n) (hR : R + 3 < n) (N : Nat) (hN : (b0h S).length < N) :
    ∃ o,b0t (b0f T (n+2)) N (.loop g8r) (remS p c 0 (b0h S).length 0 g.length (g++[.pcells 7 []]))=some (.exit 0,⟨[(0,DP p),(7,.own true g.length ((b0h S).filter fun h:Nat => !(b2t S (h:Int) (c:Int))).length)],[],g++[o]⟩)∧b3y 7 (b3j ((b0h S).filter fun h:Nat => !(b2t S (h:Int) (c:Int))) S.st av) o:=by
  generalize hP:(fun h:Nat => !(b2t S (h:Int) (c:Int)))=P
  have key:=b1i (C:=b0f T (n+2)) (N:=N) (B:=g8r) (σ := Nat × AObj) (S:=fun s=>remS p c (((b0h S).take s.1).filter P).length (b0h S).length s.1 g.length (g++[s.2]))
    (I:=fun s=>s.1≤(b0h S).length∧b3y 7 (b3j (((b0h S).take s.1).filter P) S.st av) s.2) (μ := fun s=>(b0h S).length - s.1) (Q:=fun r=>∃ o,r=(.exit 0,⟨[(0,DP p),(7,.own true g.length ((b0h S).filter P).length)],[],g++[o]⟩)∧b3y 7 (b3j ((b0h S).filter P) S.st av) o) ?_ (0,.pcells 7 []) ⟨by simp,b3y.nil 7⟩ (by simp only;omega)
  · obtain ⟨r,hr,o,rfl,hro⟩:=key
    exact ⟨o,by simpa using hr,hro⟩
  rintro ⟨i,oi⟩ ⟨h1,h2⟩
  simp only at h1 h2 ⊢
  by_cases hi:i<(b0h S).length
  · left
    obtain ⟨h,hh⟩:=b0m hi
    have hhL:=List.mem_of_getElem? hh
    have hDi:=hD.more [oi]
    obtain ⟨o,ho,hrep⟩:=hDi.row
    have hob:=hDi.obj
    have hix:=fun s i=>hrep.idx b2b s true q i
    have rd0:=b4f hrep hh (j:=0) (by omega)
    have rdA:=hrep.rdA b2b hi (c3w hh) rfl
    have un:=d1j hS hDi hL c h hhL (n:=n) hn hR
    have k1:(i:Int)<((b0h S).length:Int):=by omega
    have hs:((b0h S).take (i+1)).filter P=((b0h S).take i).filter P++if P h=true then [h] else []:=by
      rw [List.take_add_one,hh,List.filter_append]
      simp [List.filter_cons]
    have hlen:(((b0h S).take i).filter P).length≤4194304:=by
      have h3:=List.length_filter_le P ((b0h S).take i)
      rw [List.length_take] at h3
      omega
    cases hb:b2t S (h:Int) (c:Int) with
    | true =>
      have hPh:P h=false:=by rw [← hP];simp [hb]
      rw [hPh] at hs
      simp only [Bool.false_eq_true,if_false,List.append_nil] at hs
      rw [hb] at un
      refine ⟨(i+1,oi), ?_,⟨by simp only;omega,by simp only [hs];exact h2⟩,by simp only;omega⟩
      simp only [hs,remS]
      simp only [nAV] at rd0
      generalize g++[oi]=G at hob ho un
      simp -implicitDefEqProofs (disch:=omega) only [Rx,simprocAttr,g8r,k1,hob,ho,hix,rd0,un]
    | false =>
      have hPh:P h=true:=by rw [← hP];simp [hb]
      rw [hPh,if_pos rfl] at hs
      rw [hb] at un
      have hnl:b0p (nAV h (S.st h) (av h))=true:=by simp [nAV,b0p,noLocal,hno h hhL]
      obtain ⟨o',happ,hro'⟩:=h2.app (bytes:=112) b2b (by omega) (c:=nAV h (S.st h) (av h)) rfl hnl
      have hpush:b3j (((b0h S).take i).filter P) S.st av++[nAV h (S.st h) (av h)]=b3j (((b0h S).take (i+1)).filter P) S.st av:=by
        rw [hs];simp [b3j]
      rw [hpush] at hro'
      refine ⟨(i+1,o'), ?_,⟨by simp only;omega,hro'⟩,by simp only;omega⟩
      have hsl:(((b0h S).take (i+1)).filter P).length=(((b0h S).take i).filter P).length+1:=by rw [hs,List.length_append];rfl
      have hcv:=d5j (nAV h (S.st h) (av h))
      have hlast:(g++[oi])[g.length]? = some oi:=by simp
      have hset:(g++[oi]).set g.length o'=g++[o']:=by simp [List.set_append]
      simp only [hsl,remS]
      simp only [nAV] at rd0 rdA hcv happ
      generalize b4q [.p (.int .i64 (h:Int)),.p (.int .i64 (S.st h).up),av h,.p (.str (S.st h).tag),.p (.str (S.st h).key),.p (.str (S.st h).text),.p (.list ((S.st h).attrs.map Attr.pv))]=v at rdA hcv
      generalize g++[o']=G' at hset
      generalize g++[oi]=G at hob ho un hlast hset
      simp -implicitDefEqProofs (disch:=omega) only [Rx,simprocAttr,g8r,k1,hob,ho,hix,rd0,rdA,un,hcv,happ,hlast,hset]
  · right
    obtain rfl:i=(b0h S).length:=by omega
    have k1:¬ ((b0h S).length:Int)<((b0h S).length:Int):=by omega
    rw [List.take_length] at h2
    refine ⟨_, ?_, ?_,oi,rfl,h2⟩
    · simp only [List.take_length,remS]
      simp -implicitDefEqProofs (disch:=omega) only [Rx,simprocAttr,g8r,k1]
    · simp
theorem g0i (hS:S.Ok R) (hD:DM (b0h S) S.st S.kd nx av p q g) (hL:(b0h S).length≤4194304) (id:Int) {n:Nat} (hn:(b0h S).length<n) (hR:R+3<n) :
  ∃ av' q' g',b0f T (n+4) 86 [DP p,.p (.int .i64 id)] g=some (.p (.int .i64 (b7e S id).1),g')∧DM (b0h (b7e S id).2) (b7e S id).2.st (b7e S id).2.kd nx av' p q' g'∧DFr (b0h S) av p q g (b0h (b7e S id).2) av' q' g':=by
 obtain ⟨o,ho,hrep⟩:=hD.core.row
 have hob:=hD.core.obj
 have hix:=fun s i=>hrep.idx b2b s true q i
 have hno:=b9a hD.core hL id (n:=n+1) (by omega)
 have hat:=fun id=>c1h hD.core hL id (n:=n+2) (by omega)
 unfold b7e
 by_cases hf:fitE S id≠0
 ·rw [if_pos hf]
  have e1:(fitE S id==0)=false:=by simpa using hf
  refine ⟨av,q,g, ?_,hD,DFr.refl _ _ _ _ _⟩
  rw [b0a T86,b0g rfl rfl]
  generalize fitE S id=e at hno e1 ⊢
  simp -implicitDefEqProofs (disch:=omega) only [Rx,simprocAttr,F86,hno,e1]
 rw [if_neg hf]
 obtain ⟨c,rfl,hcL,hc0⟩:=c1v hf
 simp only [ne_eq,Decidable.not_not] at hf
 rw [hf] at hno
 obtain ⟨ic,hpc,hic⟩:=b4p hcL
 have hat1:=hat (c:Int)
 rw [hpc] at hat1
 have lc:=(List.getElem?_eq_some_iff.1 hic).1
 have kc:(ic:Int)<((b0h S).length:Int):=by omega
 have rdc:=b4f hrep hic (j:=1) (by omega)
 simp only [nAV] at rdc
 obtain ⟨hcN,hcl⟩:=b1m.1 hcL
 simp only [Int.toNat_natCast]
 have hfil:∀ k ∈ (b0h S).filter fun h:Nat => !(b2t S (h:Int) (c:Int)),k ∈ b0h S:=fun k hk=>(List.mem_filter.1 hk).1
 have hfn:((b0h S).filter fun h:Nat => !(b2t S (h:Int) (c:Int))).Nodup:=(g0z S).filter _
 have hle:=h2b (S:=S) hc0
 have hke:=h7q (S:=S) hc0
 by_cases h16:(S.st c).up<0
 ·have htk:b2f S c=S:=by unfold b2f;rw [if_pos h16]
  obtain ⟨oe,hloop,hro⟩:=g3d hS hD.core hL (fun h hh=>(hD.kids h hh).noLocal) c (n:=n+1) (by omega) (by omega) (n+3) (by omega)
  have hDs:=hD.swap hfil hfn hro
  have hFs:=DFr.swap (L:=b0h S) (av:=av) (p:=p) (q:=q) (g:=g) hfil oe (.cells 2 [[.own true g.length ((b0h S).filter fun h:Nat => !(b2t S (h:Int) (c:Int))).length,.p (.int .i64 nx)]])
  refine ⟨av,g.length,_, ?_,by rw [hle];exact hDs.congr fun k hk=>by rw [← (hke k hk).1, ← (hke k hk).2,htk];exact ⟨rfl,rfl⟩,by rw [hle];exact hFs⟩
  have k16:¬ (S.st c).up ≥ 0:=by omega
  have hob2:=(hD.core.more [oe]).obj
  have hob3:=(hD.core.more [.pcells 7 []]).obj
  simp only [remS,Int.natCast_zero] at hloop
  generalize ((b0h S).filter fun h:Nat => !(b2t S (h:Int) (c:Int))).length=k at hloop
  rw [b0a T86,b0g rfl rfl]
  simp -implicitDefEqProofs (disch:=omega) only [Rx,simprocAttr,F86,hno,hat1,hob,ho,hix,rdc,k16,hloop,hob2,hob3]
 ·obtain ⟨u,hu,huN,hul,hkid⟩:=hS.up_nat hcN (by omega)
  have huL:u ∈ b0h S:=b1m.2 ⟨huN,hul⟩
  obtain ⟨iu,hpu,hiu⟩:=b4p huL
  have hat2:=hat (u:Int)
  rw [hpu] at hat2
  have lu:=(List.getElem?_eq_some_iff.1 hiu).1
  have ku:(iu:Int)<((b0h S).length:Int):=by omega
  have hkl:=g3u hS huN
  have hK:=hD.kids u huL
  have hout:=h0s (S.kd u) (c:Int) (by omega) [] (n:=n+2) (by omega)
  generalize hl1:(S.kd u).filter (fun k => !(k==(c:Int)))=l1 at hout
  have hD1:=hD.core.kill (hD.away u huL).1 (hD.away u huL).2
  obtain ⟨o1,hk1,hr1⟩:=c9o hD1 hL huL (b0j l1) (n:=n+1) (by omega)
  have hD2:=hD.fix huL l1 hr1
  have hF2:=DFr.fix hD huL (b0j l1) o1
  generalize hav2:upd av u (.p (.list (b0j l1)))=av2 at hD2 hF2
  generalize hg2:(c4m g (av u)).set q o1=g2 at hk1 hD2 hF2
  have htk:(b2f S c).kd=upd S.kd u l1:=by
   unfold b2f
   rw [if_neg h16,hu,Int.toNat_natCast,hl1]
  obtain ⟨oe,hloop,hro⟩:=g3d hS hD2.core hL (fun h hh=>(hD2.kids h hh).noLocal) c (n:=n+1) (by omega) (by omega) (n+3) (by omega)
  have hDs:=hD2.swap hfil hfn hro
  have hFs:=hF2.trans (DFr.swap (L:=b0h S) (av:=av2) (p:=p) (q:=q) (g:=g2) hfil oe (.cells 2 [[.own true g2.length ((b0h S).filter fun h:Nat => !(b2t S (h:Int) (c:Int))).length,.p (.int .i64 nx)]]))
  refine ⟨av2,g2.length,_, ?_,by rw [hle];exact hDs.congr fun k hk=>by rw [← (hke k hk).1, ← (hke k hk).2,htk];exact ⟨rfl,rfl⟩,by rw [hle];exact hFs⟩
  have k16:(u:Int) ≥ 0:=by omega
  rw [hu] at rdc
  have rdu:=b4f hrep hiu (j:=2) (by omega)
  simp only [nAV] at rdu
  have hob2:=(hD2.core.more [oe]).obj
  have hob3:=(hD2.core.more [.pcells 7 []]).obj
  have hfz:=hK.frz
  generalize c4m g (av u)=g1 at hk1 hfz
  generalize av u=au at rdu hfz
  simp only [remS,Int.natCast_zero] at hloop
  generalize ((b0h S).filter fun h:Nat => !(b2t S (h:Int) (c:Int))).length=k at hloop
  rw [b0a T86,b0g rfl rfl]
  simp -implicitDefEqProofs (disch:=omega) only [Rx,simprocAttr,F86,hno,hat1,hat2,hob,ho,hix,rdc,rdu,k16,hout,hk1,hfz,hloop,hob2,hob3]
end
end Tryz
end Go.TA


end
