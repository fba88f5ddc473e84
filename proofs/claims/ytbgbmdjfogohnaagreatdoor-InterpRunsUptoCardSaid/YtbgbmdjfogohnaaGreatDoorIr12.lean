/- Part 12 of 15 of a proof; joined from IrnRef13, IrnFormed, IrnNames02, IrnCmp, IrnAttrs09, IrnAlone, IrnTree, IrnOpsUsed, IrnOpsNone3, IrnOpsNone5, IrnOpsNone7, IrnOpsNone, IrnOpsSame, IrnOps25, IrnDoE, IrnDoDM, IrnOpsPA, IrnOpsPB, IrnIOne, ConcatD, SimM, MS0. The machine of rows. Plain. -/
import Derived.Test.YtbgbmdjfogohnaaGreatDoorIr1
import Derived.Test.YtbgbmdjfogohnaaGreatDoorIr6
import Derived.Test.YtbgbmdjfogohnaaGreatDoorIr10
import Derived.Test.YtbgbmdjfogohnaaGreatDoorIr11
import Derived.Test.YtbgbmdjfogohnaaGreatDoorIr7
set_option linter.unusedSimpArgs false
set_option linter.unusedVariables false
set_option linter.defProp false
set_option maxRecDepth 100000
set_option maxHeartbeats 8000000
section
/- Rows that stand as a tree's do: the document's answer. -/
namespace Go.TA.Tryz
def rowsPV (l:List GRow):AV:=.p (.list (l.map GRow.pv))
def aboveOut (r:Bool):Ex × St:=if r=true then (.ret,⟨[(6,.p (.bool true))],[],[]⟩) else (.exit 0,⟨[],[],[]⟩)
theorem up_val {l:List GRow} {i x:Nat} (h:standTo l i) (hi:i≤l.length) (hx:x<i):∃ r,l[x]? = some r∧r.up=(upAt l (x+1):Int):=by
 obtain ⟨r,hr⟩:=get_some (show x<l.length by omega)
 refine ⟨r,hr, ?_⟩
 have:=h x r hx hr
 simp [upAt,hr]
 omega
theorem above_loop {n N : Nat} (l : List GRow) (h : Int) (i : Nat) (hs : standTo l i) (hi : i ≤ l.length) (hl : l.length ≤ 1048576) (hN : i < N) :
    aexec (acall T n) N (.loop B104x0) ⟨[(0,.p (.list (l.map GRow.pv))),(2,.p (.int .i64 h)),(7,.p (.int .i64 (i:Int)))],[],[]⟩=some (aboveOut (aboveB l i h)):=by
  refine loop_rule' (C:=acall T n) (N:=N) (B:=B104x0) (σ := Nat) (S:=fun x=>⟨[(0,.p (.list (l.map GRow.pv))),(2,.p (.int .i64 h)),(7,.p (.int .i64 x))],[],[]⟩) (I:=fun x=>x≤i) (μ := fun x=>x)
    (Φ := fun x=>aboveOut (aboveB l x h)) ?_ i (Nat.le_refl _) hN
  intro x hx
  cases x with
  | zero =>
    refine .inr ⟨?_,by simp [aboveB,chain_zero,aboveOut]⟩
    have e:aboveOut (aboveB l 0 h)=(.exit 0,⟨[],[],[]⟩):=by simp [aboveB,chain_zero,aboveOut]
    rw [e]
    simp -implicitDefEqProofs (disch:=omega) only [Rx,simprocAttr,B104x0,Int.natCast_zero]
  | succ x =>
    obtain ⟨r,hr,hu⟩:=up_val hs hi (show x<i by omega)
    have hg:=getD_map (f:=GRow.pv) hr
    have k1:(0:Int)<(x:Int)+1:=by omega
    have k2:(x:Int)<(l.length:Int):=by omega
    have hc:=chain_succ hs hi (show x<i by omega)
    by_cases he:((x:Int)+1)=h
    · have e:aboveB l (x+1) h=true:=by
        simp only [aboveB,hc,List.any_cons,Bool.or_eq_true,beq_iff_eq]
        left;push_cast;exact he
      have he':((x:Int)+1==h)=true:=by simpa using he
      refine .inr ⟨?_,by rw [e];simp [aboveOut]⟩
      rw [e]
      simp -implicitDefEqProofs (disch:=omega) only [Rx,simprocAttr,B104x0,k1,he',aboveOut]
    · have e:aboveB l (x+1) h=aboveB l (upAt l (x+1)) h:=by
        simp only [aboveB,hc,List.any_cons]
        have:(((x+1:Nat):Int)==h)=false:=by simp;omega
        rw [this,Bool.false_or]
      have he':((x:Int)+1==h)=false:=by simpa using he
      have hle:=upAt_le hs (show x<i by omega) (by omega)
      refine .inl ⟨upAt l (x+1), ?_,by omega,by omega,by rw [e]⟩
      simp -implicitDefEqProofs (disch:=omega) only [Rx,simprocAttr,B104x0,k1,k2,he',hg,GRow.pv,hu]
theorem above_run (l:List GRow) (h:Int) (i:Nat) (hs:standTo l i) (hi:i≤l.length) (hl:l.length≤1048576) (g:List AObj) {n:Nat} (hn:i<n) :
    acall T (n+1) 104 [.p (.list (l.map GRow.pv)),.p (.int .i64 i),.p (.int .i64 h)] g=some (.p (.bool (aboveB l i h)),g):=by
  rw [acall_code T104,run_pure rfl rfl rfl]
  have hloop:=above_loop (n:=n) (N:=n) l h i hs hi hl hn
  cases hb:aboveB l i h with
  | true =>
    rw [hb] at hloop
    simp only [aboveOut,if_true] at hloop
    simp -implicitDefEqProofs (disch:=omega) only [Rx,simprocAttr,F104,hloop]
  | false =>
    rw [hb] at hloop
    simp only [aboveOut,Bool.false_eq_true,if_false] at hloop
    simp -implicitDefEqProofs (disch:=omega) only [Rx,simprocAttr,F104,hloop]
theorem depth_loop {n N:Nat} (l:List GRow) (i:Nat) (hs:standTo l i) (hi:i≤l.length) (hl:l.length≤1048576) (hN:i<N) :
    aexec (acall T n) N (.loop B51x0) ⟨[(0,.p (.list (l.map GRow.pv))),(1,.p (.int .i64 (i:Int))),(5,.p (.int .i64 ((0:Nat):Int)))],[],[]⟩=some (.exit 0,⟨[(5,.p (.int .i64 ((chain l i).length:Int)))],[],[]⟩):=by
  have:=loop_rule' (C:=acall T n) (N:=N) (B:=B51x0) (σ := Nat × Nat) (S:=fun s=>⟨[(0,.p (.list (l.map GRow.pv))),(1,.p (.int .i64 s.1)),(5,.p (.int .i64 s.2))],[],[]⟩) (I:=fun s=>s.1≤i∧s.2+s.1≤i) (μ := fun s=>s.1)
    (Φ := fun s=>(.exit 0,⟨[(5,.p (.int .i64 ((s.2+(chain l s.1).length:Nat):Int)))],[],[]⟩)) ?_ (i,0) ⟨Nat.le_refl _,by simp⟩ hN
  · simpa using this
  rintro ⟨x,d⟩ ⟨hx,hd⟩
  simp only at hx hd ⊢
  cases x with
  | zero =>
    refine .inr ⟨?_,by simp⟩
    simp only [chain_zero,List.length_nil,Nat.add_zero]
    simp -implicitDefEqProofs (disch:=omega) only [Rx,simprocAttr,B51x0,Int.natCast_zero]
  | succ x =>
    obtain ⟨r,hr,hu⟩:=up_val hs hi (show x<i by omega)
    have hg:=getD_map (f:=GRow.pv) hr
    have k1:(0:Int)<(x:Int)+1:=by omega
    have k2:(x:Int)<(l.length:Int):=by omega
    have hc:=chain_succ hs hi (show x<i by omega)
    have hle:=upAt_le hs (show x<i by omega) (by omega)
    refine .inl ⟨(upAt l (x+1),d+1), ?_,⟨by omega,by simp only;omega⟩,by simp only;omega, ?_⟩
    · simp -implicitDefEqProofs (disch:=omega) only [Rx,simprocAttr,B51x0,k1,k2,hg,GRow.pv,hu]
    · rw [hc,List.length_cons];congr 6;simp only;omega
theorem depth_run (l:List GRow) (i:Nat) (hs:standTo l i) (hi:i≤l.length) (hl:l.length≤1048576) (g:List AObj) {n:Nat} (hn:i<n) :
  acall T (n+1) 51 [.p (.list (l.map GRow.pv)),.p (.int .i64 i)] g=some (.p (.int .i64 (chain l i).length),g):=by
 rw [acall_code T51,run_pure rfl rfl rfl]
 have hloop:=depth_loop (n:=n) (N:=n) l i hs hi hl hn
 simp only [Int.natCast_zero] at hloop
 simp -implicitDefEqProofs (disch:=omega) only [Rx,simprocAttr,F51,hloop]
def formOut (k:Nat) (r:Bool):Ex × St:=if r=true then (.exit 0,⟨[],[],[]⟩) else (.ret,⟨[(k,.p (.bool false))],[],[]⟩)
theorem form13_loop {n N : Nat} (l : List GRow) (hl : l.length ≤ 1048576) (hN : l.length < N) (hn : l.length < n) :
    aexec (acall T (n+1)) N (.loop B50x0) ⟨[(0,.p (.list (l.map GRow.pv))),(5,.p (.int .i64 l.length)),(6,.p (.int .i64 ((0:Nat):Int)))],[],[]⟩=some (formOut 2 (formedB l)):=by
  have:=loop_rule' (C:=acall T (n+1)) (N:=N) (B:=B50x0) (σ := Nat) (S:=fun i=>⟨[(0,.p (.list (l.map GRow.pv))),(5,.p (.int .i64 l.length)),(6,.p (.int .i64 i))],[],[]⟩) (I:=fun i=>i≤l.length∧standTo l i) (μ := fun i=>l.length - i)
    (Φ := fun i=>formOut 2 (formedFrom l i (l.drop i))) ?_ 0 ⟨by omega,standTo_zero l⟩ (by omega)
  · simpa [formedB] using this
  rintro i ⟨hi,hs⟩
  by_cases h:i<l.length
  · have k1:(i:Int)<(l.length:Int):=by omega
    obtain ⟨x,hx⟩:=get_some h
    have hg:=getD_map (f:=GRow.pv) hx
    have hd:l.drop i=x::l.drop (i+1):=by rw [List.drop_eq_getElem?_toList_append,hx];rfl
    rw [hd]
    have bad:rowOkB l i x=false→formOut 2 (formedFrom l i (x::l.drop (i+1)))=(.ret,⟨[(2,.p (.bool false))],[],[]⟩):=fun h=>by simp [formedFrom,h,formOut]
    have good:rowOkB l i x=true→formOut 2 (formedFrom l i (x::l.drop (i+1)))=formOut 2 (formedFrom l (i+1) (l.drop (i+1))):=fun h=>by simp [formedFrom,h]
    cases i with
    | zero =>
      by_cases hu:x.up=0
      · have hr:rowOkB l 0 x=true:=by simp [rowOkB,hu]
        refine .inl ⟨1, ?_,⟨by omega,row_stands hs (by omega) hx hr⟩,by omega,good hr⟩
        have hu':(x.up==0)=true:=by simp [hu]
        simp only [Int.natCast_zero,Int.natCast_one] at k1 ⊢
        have hg0:(l.map GRow.pv).getD 0 []=x.pv:=hg
        have e0:Int.toNat 0=0:=rfl
        simp -implicitDefEqProofs (disch:=omega) only [Rx,simprocAttr,B50x0,k1,hg0,e0,GRow.pv,hu']
      · have hr:rowOkB l 0 x=false:=by simp [rowOkB,hu]
        refine .inr ?_
        rw [bad hr]
        refine ⟨?_,by simp⟩
        have hu':(x.up==0)=false:=by simp [hu]
        simp only [Int.natCast_zero,Int.natCast_one] at k1 ⊢
        have hg0:(l.map GRow.pv).getD 0 []=x.pv:=hg
        have e0:Int.toNat 0=0:=rfl
        simp -implicitDefEqProofs (disch:=omega) only [Rx,simprocAttr,B50x0,k1,hg0,e0,GRow.pv,hu']
    | succ j =>
      have k0:((j:Int)+1==0)=false:=by simp;omega
      have k3:(0:Int)<(j:Int)+1:=by omega
      have k5:((j:Int)+1).toNat=j+1:=by omega
      simp only [Int.natCast_add,Int.natCast_one] at k1
      by_cases hu:x.up<1
      · have hr:rowOkB l (j+1) x=false:=by simp [rowOkB];intro h;omega
        refine .inr ?_
        rw [bad hr]
        refine ⟨?_,by simp⟩
        simp -implicitDefEqProofs (disch:=omega) only [Rx,simprocAttr,B50x0,k0,k1,k3,k5,hg,GRow.pv,hu]
      · have hab:=above_run (n:=n) l x.up (j+1) hs (by omega) hl [] (by omega)
        simp only [Int.natCast_add,Int.natCast_one] at hab
        cases hb:aboveB l (j+1) x.up with
        | true =>
          have hr:rowOkB l (j+1) x=true:=by simp [rowOkB,hb];omega
          refine .inl ⟨j+1+1, ?_,⟨by omega,row_stands hs (by omega) hx hr⟩,by omega,good hr⟩
          simp -implicitDefEqProofs (disch:=omega) only [Rx,simprocAttr,B50x0,k0,k1,k3,k5,hg,GRow.pv,hu,hab,hb]
        | false =>
          have hr:rowOkB l (j+1) x=false:=by simp [rowOkB,hb]
          refine .inr ?_
          rw [bad hr]
          refine ⟨?_,by simp⟩
          simp -implicitDefEqProofs (disch:=omega) only [Rx,simprocAttr,B50x0,k0,k1,k3,k5,hg,GRow.pv,hu,hab,hb]
  · have k1:¬ (i:Int)<(l.length:Int):=by omega
    have e:l.drop i=[]:=List.drop_eq_nil_of_le (by omega)
    refine .inr ⟨?_,by rw [e];simp [formedFrom,formOut]⟩
    rw [e]
    simp -implicitDefEqProofs (disch:=omega) only [Rx,simprocAttr,B50x0,k1,formedFrom,formOut]
theorem form13_run (l:List GRow) (hl:l.length≤1048576) (g:List AObj) {n:Nat} (hn:l.length<n):acall T (n+2) 50 [.p (.list (l.map GRow.pv))] g=some (.p (.bool (formedB l)),g):=by
  rw [acall_code T50,run_pure rfl rfl rfl]
  have hloop:=form13_loop (n:=n) (N:=n+1) l hl (by omega) hn
  simp only [Int.natCast_zero] at hloop
  cases hb:formedB l with
  | true =>
    rw [hb] at hloop
    simp only [formOut,if_true] at hloop
    simp -implicitDefEqProofs (disch:=omega) only [Rx,simprocAttr,F50,hloop]
  | false =>
    rw [hb] at hloop
    simp only [formOut,Bool.false_eq_true,if_false] at hloop
    simp -implicitDefEqProofs (disch:=omega) only [Rx,simprocAttr,F50,hloop]
end Go.TA.Tryz


end
section
/- Rows that stand as a tree's do, and are not too deep: the program. -/
namespace Go.TA.Tryz
def stopAt (l:List GRow) (h:Nat) (u:Int):Int:=if aboveB l h u=true then u else 0
def formS (l:List GRow) (i:Nat) (x:GRow) (h:Int):St:=⟨[(0,.p (.list (l.map GRow.pv))),(3,.p (.int .i64 i)),(4,.ptr false 4 6 1 0 0),(5,.p (.int .i64 h)),(6,.p (.list (l.map GRow.pv))),(7,.p (.int .i64 l.length)),(8,.p (.int .i64 i))],[(4,.pcells 6 [x.pv])],[]⟩
theorem formP_inner {n N : Nat} (l : List GRow) (i : Nat) (x : GRow) (hs : standTo l i) (hi : i ≤ l.length) (hl : l.length ≤ 1048576) (hN : i < N) :
    aexec (acall T n) N (.loop B158x1) (formS l i x i)=some (.exit 2,formS l i x (stopAt l i x.up)):=by
  refine loop_rule' (C:=acall T n) (N:=N) (B:=B158x1) (σ := Nat) (S:=fun h=>formS l i x h) (I:=fun h=>h≤i) (μ := fun h=>h)
    (Φ := fun h=>(.exit 2,formS l i x (stopAt l h x.up))) ?_ i (Nat.le_refl _) hN
  intro h hh
  cases h with
  | zero =>
    refine .inr ⟨?_,by simp⟩
    have e:stopAt l 0 x.up=0:=by simp [stopAt,aboveB,chain_zero]
    rw [e]
    simp -implicitDefEqProofs (disch:=omega) only [Rx,simprocAttr,B158x1,formS,GRow.pv,Int.natCast_zero]
  | succ h =>
    obtain ⟨r,hr,hu⟩:=up_val hs hi (show h<i by omega)
    have hg:=getD_map (f:=GRow.pv) hr
    have k2:(h:Int)<(l.length:Int):=by omega
    have k0:((h:Int)+1==0)=false:=by simp;omega
    have hc:=chain_succ hs hi (show h<i by omega)
    cases he:((h:Int)+1==x.up) with
    | true =>
      have he':(h:Int)+1=x.up:=by simpa using he
      have e:stopAt l (h+1) x.up=(h:Int)+1:=by
        have:aboveB l (h+1) x.up=true:=by
          simp only [aboveB,hc,List.any_cons,Bool.or_eq_true,beq_iff_eq]
          left;push_cast;exact he'
        simp [stopAt,this,he']
      refine .inr ⟨?_,by simp⟩
      rw [e]
      simp -implicitDefEqProofs (disch:=omega) only [Rx,simprocAttr,B158x1,formS,GRow.pv,k0,he]
    | false =>
      have e:stopAt l (h+1) x.up=stopAt l (upAt l (h+1)) x.up:=by
        have:aboveB l (h+1) x.up=aboveB l (upAt l (h+1)) x.up:=by
          simp only [aboveB,hc,List.any_cons]
          have:(((h+1:Nat):Int)==x.up)=false:=by simpa using he
          rw [this,Bool.false_or]
        simp only [stopAt,this]
      have hle:=upAt_le hs (show h<i by omega) (by omega)
      refine .inl ⟨upAt l (h+1), ?_,by omega,by omega,by rw [e]⟩
      simp -implicitDefEqProofs (disch:=omega) only [Rx,simprocAttr,B158x1,formS,GRow.pv,k0,k2,he,hg,hu]
theorem formP_loop {n N : Nat} (l : List GRow) (hl : l.length ≤ 1048576) (hN : l.length < N) :
    aexec (acall T n) N (.loop B158x0) ⟨[(0,.p (.list (l.map GRow.pv))),(6,.p (.list (l.map GRow.pv))),(7,.p (.int .i64 l.length)),(8,.p (.int .i64 ((0:Nat):Int)))],[],[]⟩=some (formOut 2 (formedB l)):=by
  have:=loop_rule' (C:=acall T n) (N:=N) (B:=B158x0) (σ := Nat) (S:=fun i=>⟨[(0,.p (.list (l.map GRow.pv))),(6,.p (.list (l.map GRow.pv))),(7,.p (.int .i64 l.length)),(8,.p (.int .i64 i))],[],[]⟩) (I:=fun i=>i≤l.length∧standTo l i) (μ := fun i=>l.length - i)
    (Φ := fun i=>formOut 2 (formedFrom l i (l.drop i))) ?_ 0 ⟨by omega,standTo_zero l⟩ (by omega)
  · simpa [formedB] using this
  rintro i ⟨hi,hs⟩
  by_cases h:i<l.length
  · have k1:(i:Int)<(l.length:Int):=by omega
    obtain ⟨x,hx⟩:=get_some h
    have hg:=getD_map (f:=GRow.pv) hx
    have hd:l.drop i=x::l.drop (i+1):=by rw [List.drop_eq_getElem?_toList_append,hx];rfl
    rw [hd]
    have bad:rowOkB l i x=false→formOut 2 (formedFrom l i (x::l.drop (i+1)))=(.ret,⟨[(2,.p (.bool false))],[],[]⟩):=fun h=>by simp [formedFrom,h,formOut]
    have good:rowOkB l i x=true→formOut 2 (formedFrom l i (x::l.drop (i+1)))=formOut 2 (formedFrom l (i+1) (l.drop (i+1))):=fun h=>by simp [formedFrom,h]
    have hin:=formP_inner (n:=n) (N:=N) l i x hs hi hl (by omega)
    simp only [formS,GRow.pv] at hin
    cases hab:aboveB l i x.up with
    | true =>
      have hpos:=above_up hab
      have hi0:i≠0:=fun e=>by subst e;simp [aboveB,chain_zero] at hab
      have hr:rowOkB l i x=true:=by simp [rowOkB,hi0,hab];omega
      refine .inl ⟨i+1, ?_,⟨by omega,row_stands hs (by omega) hx hr⟩,by omega,good hr⟩
      simp only [stopAt,hab,if_true] at hin
      have k3:(x.up==0)=false:=by simp;omega
      have k4:((i:Int)==0)=false:=by simp;omega
      simp -implicitDefEqProofs (disch:=omega) only [Rx,simprocAttr,B158x0,k1,hg,GRow.pv,hin,k3,k4]
    | false =>
      simp only [stopAt,hab,Bool.false_eq_true,if_false] at hin
      by_cases hu:x.up=0
      · have k3:(0==x.up)=true:=by simp [hu]
        by_cases hi0:i=0
        · have hr:rowOkB l i x=true:=by simp [rowOkB,hi0,hu]
          refine .inl ⟨i+1, ?_,⟨by omega,row_stands hs (by omega) hx hr⟩,by omega,good hr⟩
          have k4:((i:Int)==0)=true:=by simp [hi0]
          simp -implicitDefEqProofs (disch:=omega) only [Rx,simprocAttr,B158x0,k1,hg,GRow.pv,hin,k3,k4]
        · have hr:rowOkB l i x=false:=by simp [rowOkB,hi0,hab]
          refine .inr ?_
          rw [bad hr]
          refine ⟨?_,by simp⟩
          have k4:((i:Int)==0)=false:=by simp;omega
          have k6:((true:Bool)==false)=false:=rfl
          simp -implicitDefEqProofs (disch:=omega) only [Rx,simprocAttr,B158x0,k1,hg,GRow.pv,hin,k3,k4,k6]
      · have k3:(0==x.up)=false:=by simp;omega
        have hr:rowOkB l i x=false:=by
          simp only [rowOkB,hab,Bool.and_false]
          split
          · simpa using hu
          · rfl
        refine .inr ?_
        rw [bad hr]
        refine ⟨?_,by simp⟩
        simp -implicitDefEqProofs (disch:=omega) only [Rx,simprocAttr,B158x0,k1,hg,GRow.pv,hin,k3]
  · have k1:¬ (i:Int)<(l.length:Int):=by omega
    have e:l.drop i=[]:=List.drop_eq_nil_of_le (by omega)
    refine .inr ⟨?_,by rw [e];simp [formedFrom,formOut]⟩
    rw [e]
    simp -implicitDefEqProofs (disch:=omega) only [Rx,simprocAttr,B158x0,k1,formedFrom,formOut]
theorem formP_run (l:List GRow) (hl:l.length≤1048576) (g:List AObj) {n:Nat} (hn:l.length<n):acall T (n+1) 158 [.p (.list (l.map GRow.pv))] g=some (.p (.bool (formedB l)),g):=by
  rw [acall_code T158,run_pure rfl rfl rfl]
  have hloop:=formP_loop (n:=n) (N:=n) l hl hn
  simp only [Int.natCast_zero] at hloop
  cases hb:formedB l with
  | true =>
    rw [hb] at hloop
    simp only [formOut,if_true] at hloop
    simp -implicitDefEqProofs (disch:=omega) only [Rx,simprocAttr,F158,hloop]
  | false =>
    rw [hb] at hloop
    simp only [formOut,Bool.false_eq_true,if_false] at hloop
    simp -implicitDefEqProofs (disch:=omega) only [Rx,simprocAttr,F158,hloop]
def depths (l:List GRow) (i:Nat):List (List PV):=(List.range (l.length+1)).map fun h=>[.int .i64 (if h≤i then ((chain l h).length:Int) else 0)]
theorem depths_len (l:List GRow) (i:Nat):(depths l i).length=l.length+1:=by simp [depths]
theorem depths_get (l:List GRow) {i h:Nat} (hh:h≤l.length):(depths l i).getD h []=[.int .i64 (if h≤i then ((chain l h).length:Int) else 0)]:=by
 rw [List.getD_eq_getElem?_getD,depths,List.getElem?_map,List.getElem?_range (by omega)]
 rfl
theorem depths_set (l:List GRow) {i:Nat} (hi:i<l.length):(depths l i).set (i+1) [.int .i64 ((chain l (i+1)).length:Int)]=depths l (i+1):=by
 apply List.ext_getElem
 ·simp [depths]
 ·intro k h1 h2
  rw [List.getElem_set]
  simp only [depths,List.getElem_map,List.getElem_range]
  by_cases e:i+1=k
  ·subst e;simp
  ·rw [if_neg e]
   have:(k≤i)↔(k≤i+1):=by omega
   simp only [this]
theorem depths_zero (l:List GRow):List.replicate (l.length+1) [PV.int .i64 0]=depths l 0:=by
 apply List.ext_getElem
 ·simp [depths]
 ·intro k h1 h2
  simp only [List.getElem_replicate,depths,List.getElem_map,List.getElem_range]
  by_cases e:k≤0
  ·obtain rfl:k=0:=by omega
   simp [chain_zero]
  ·simp [e]
def shallow (l:List GRow):Prop:=∀ i,i<l.length→(chain l (i+1)).length≤64
end Go.TA.Tryz


end
section
/- Tags and names: what the document's answer says of them. -/
set_option maxHeartbeats 1000000
namespace Go.TA.Tryz
theorem inner_run (c : UInt8) (more : Bool) (g : List AObj) (n : Nat) : acall T (n + 1) 111 [.p (.int .u8 c.toNat), .p (.bool more)] g = some (.p (.bool (innerB more c)), g) := by
  rw [acall_code T111,run_pure rfl rfl rfl]
  by_cases h5:(c.toNat:Int)=45
  · simp -implicitDefEqProofs (disch:=omega) only [Rx,simprocAttr,F111,innerB,smallB,digitB,h5]
  have e5:((c.toNat:Int)==45)=false:=by simpa using h5
  by_cases h1:(97:Int)≤c.toNat
  · by_cases h2:(c.toNat:Int)≤122
    · simp -implicitDefEqProofs (disch:=omega) only [Rx,simprocAttr,F111,innerB,smallB,digitB,h1,h2]
    · have h3:(48:Int)≤c.toNat:=by omega
      have h4:¬ (c.toNat:Int)≤57:=by omega
      have e6:((c.toNat:Int)==58)=false:=by simp;omega
      have e7:((c.toNat:Int)==46)=false:=by simp;omega
      cases more
      · simp -implicitDefEqProofs (disch:=omega) only [Rx,simprocAttr,F111,innerB,smallB,digitB,h1,h2,h3,h4,e5,e6,e7]
      · simp -implicitDefEqProofs (disch:=omega) only [Rx,simprocAttr,F111,innerB,smallB,digitB,h1,h2,h3,h4,e5,e6,e7]
  · by_cases h3:(48:Int)≤c.toNat
    · by_cases h4:(c.toNat:Int)≤57
      · simp -implicitDefEqProofs (disch:=omega) only [Rx,simprocAttr,F111,innerB,smallB,digitB,h1,h3,h4]
      · have e7:((c.toNat:Int)==46)=false:=by simp;omega
        cases more
        · simp -implicitDefEqProofs (disch:=omega) only [Rx,simprocAttr,F111,innerB,smallB,digitB,h1,h3,h4,e5,e7]
        · by_cases h6:(c.toNat:Int)=58
          · simp -implicitDefEqProofs (disch:=omega) only [Rx,simprocAttr,F111,innerB,smallB,digitB,h6]
          · have e6:((c.toNat:Int)==58)=false:=by simpa using h6
            simp -implicitDefEqProofs (disch:=omega) only [Rx,simprocAttr,F111,innerB,smallB,digitB,h1,h3,h4,e5,e6,e7]
    · have e6:((c.toNat:Int)==58)=false:=by simp;omega
      cases more
      · simp -implicitDefEqProofs (disch:=omega) only [Rx,simprocAttr,F111,innerB,smallB,digitB,h1,h3,e5,e6]
      · by_cases h7:(c.toNat:Int)=46
        · simp -implicitDefEqProofs (disch:=omega) only [Rx,simprocAttr,F111,innerB,smallB,digitB,h7]
        · have e7:((c.toNat:Int)==46)=false:=by simpa using h7
          simp -implicitDefEqProofs (disch:=omega) only [Rx,simprocAttr,F111,innerB,smallB,digitB,h1,h3,e5,e6,e7]
theorem named02_loop {n N:Nat} (s:Bs) (more:Bool) (hs:s.length≤32) (hN:32<N) (i:Nat) (hi:i≤s.length) :
    aexec (acall T (n+1)) N (.loop B63x0) ⟨[(0,.p (.str s)),(1,.p (.bool more)),(5,.p (.int .i64 i))],[],[]⟩=some (outB ((s.drop i).all (innerB more))):=by
  refine loop_rule' (σ := Nat) (S:=fun i=>⟨[(0,.p (.str s)),(1,.p (.bool more)),(5,.p (.int .i64 i))],[],[]⟩) (I:=fun i=>i≤s.length) (μ := fun i=>s.length - i)
    (Φ := fun i=>outB ((s.drop i).all (innerB more))) ?_ i hi (by omega)
  intro i hi
  by_cases h:i<s.length
  · obtain ⟨c,hc⟩:=get_some h
    have hg:=getD_get hc
    have k1:(i:Int)<(s.length:Int):=by omega
    rw [drop_cons hc]
    cases hb:innerB more c with
    | true =>
      refine .inl ⟨i+1, ?_,by omega,by omega,by simp [hb]⟩
      simp -implicitDefEqProofs (disch:=omega) only [Rx,simprocAttr,B63x0,k1,hg,inner_run,hb]
    | false =>
      refine .inr ⟨?_,by simp [hb,outB]⟩
      have eF:outB ((c::s.drop (i+1)).all (innerB more))=(.ret,⟨[(4,.p (.bool false))],[],[]⟩):=by simp [outB,hb]
      rw [eF]
      simp -implicitDefEqProofs (disch:=omega) only [Rx,simprocAttr,B63x0,k1,hg,inner_run,hb]
  · refine .inr ⟨?_,by rw [List.drop_eq_nil_of_le (by omega)];simp [outB]⟩
    have k1:¬ (i:Int)<(s.length:Int):=by omega
    rw [List.drop_eq_nil_of_le (by omega)]
    simp -implicitDefEqProofs (disch:=omega) only [Rx,simprocAttr,B63x0,k1,outB]
theorem named02_run (s : Bs) (more : Bool) (g : List AObj) (n : Nat) : acall T (n + 35) 63 [.p (.str s), .p (.bool more)] g = some (.p (.bool (namedB more s)), g) := by
  rw [acall_code T63,run_pure rfl rfl rfl]
  cases s with
  | nil=>simp -implicitDefEqProofs (disch:=omega) only [Rx,simprocAttr,F63,namedB,Int.natCast_zero]
  | cons c r =>
    have k0:¬ ((r.length:Int)+1<1):=by omega
    by_cases h32:(c::r).length≤32
    · have k1:¬ (32<(r.length:Int)+1):=by simp at h32;omega
      have hl:=named02_loop (n:=n+33) (N:=n+34) (c::r) more h32 (by omega) 1 (by simp)
      simp only [Int.natCast_one] at hl
      by_cases h1:(97:Int)≤c.toNat
      · by_cases h2:(c.toNat:Int)≤122
        · have h1':¬ ((c.toNat:Int)<97):=by omega
          have h2':¬ (122<(c.toNat:Int)):=by omega
          have e:namedB more (c::r)=r.all (innerB more):=by simp [namedB,smallB,h1,h2];simp at h32;omega
          rw [e]
          cases hb:r.all (innerB more) with
          | true =>
            have hl':outB (((c::r).drop 1).all (innerB more))=(.exit 0,⟨[],[],[]⟩):=by simp [outB,hb]
            rw [hl'] at hl
            simp -implicitDefEqProofs (disch:=omega) only [Rx,simprocAttr,F63,k0,k1,h1',h2',hl]
          | false =>
            have hl':outB (((c::r).drop 1).all (innerB more))=(.ret,⟨[(4,.p (.bool false))],[],[]⟩):=by simp [outB,hb]
            rw [hl'] at hl
            simp -implicitDefEqProofs (disch:=omega) only [Rx,simprocAttr,F63,k0,k1,h1',h2',hl]
        · have h1':¬ ((c.toNat:Int)<97):=by omega
          have h2':122<(c.toNat:Int):=by omega
          have e:namedB more (c::r)=false:=by simp [namedB,smallB,h2]
          rw [e]
          simp -implicitDefEqProofs (disch:=omega) only [Rx,simprocAttr,F63,k0,k1,h1',h2']
      · have h1':(c.toNat:Int)<97:=by omega
        have e:namedB more (c::r)=false:=by simp [namedB,smallB,h1]
        rw [e]
        simp -implicitDefEqProofs (disch:=omega) only [Rx,simprocAttr,F63,k0,k1,h1']
    · have k1:32<(r.length:Int)+1:=by simp at h32;omega
      have e:namedB more (c::r)=false:=by simp [namedB];simp at h32;omega
      rw [e]
      simp -implicitDefEqProofs (disch:=omega) only [Rx,simprocAttr,F63,k0,k1]
end Go.TA.Tryz


end
section
/- Which text is ahead. -/
set_option maxHeartbeats 1000000
namespace Go.TA.Tryz
def cmpOut (a b:Bs) (r:Int):Ex × St:=if r = -1 then (.ret,⟨[(4,.p (.int .i64 (-1)))],[],[]⟩) else if r=1 then (.ret,⟨[(4,.p (.int .i64 1))],[],[]⟩) else (.exit 0,⟨[(0,.p (.str a)),(1,.p (.str b))],[],[]⟩)
def part:Bs→Bs→Int
 | a::x,b::y=>if (a.toNat:Int)<b.toNat then -1 else if (b.toNat:Int)<a.toNat then 1 else part x y
 | _,_=>0
theorem cmp_part:∀ (x y:Bs),cmpB x y=if part x y=0 then (if x.length<y.length then -1 else if y.length<x.length then 1 else 0) else part x y
  | [],[]=>by simp [cmpB,part]
  | [],_::_=>by simp [cmpB,part]
  | _::_,[]=>by simp [cmpB,part]
  | a :: x, b :: y => by
    simp only [cmpB,part,cmp_part x y,List.length_cons]
    split
    · simp
    · split
      · simp
      · simp
theorem cmp_loop {n N : Nat} (a b : Bs) (hN : b.length < N) (hb : b.length ≤ 1048577) :
    aexec (acall T n) N (.loop B112x0) ⟨[(0,.p (.str a)),(1,.p (.str b)),(5,.p (.int .i64 ((0:Nat):Int)))],[],[]⟩=some (cmpOut a b (part a b)):=by
  refine loop_rule' (C:=acall T n) (N:=N) (B:=B112x0) (σ := Nat) (S:=fun i=>⟨[(0,.p (.str a)),(1,.p (.str b)),(5,.p (.int .i64 i))],[],[]⟩) (I:=fun i=>i≤a.length∧i≤b.length) (μ := fun i=>b.length - i)
    (Φ := fun i=>cmpOut a b (part (a.drop i) (b.drop i))) ?_ 0 ⟨by omega,by omega⟩ (by omega)
  rintro i ⟨hia,hib⟩
  by_cases h:i<a.length
  · have k1:(i:Int)<(a.length:Int):=by omega
    obtain ⟨x,hx⟩:=get_some h
    have gx:=getD_get hx
    by_cases h':i<b.length
    · have k2:(i:Int)<(b.length:Int):=by omega
      obtain ⟨y,hy⟩:=get_some h'
      have gy:=getD_get hy
      rw [drop_cons hx,drop_cons hy]
      by_cases c1:(x.toNat:Int)<y.toNat
      · refine .inr ⟨?_,by simp [part,c1,cmpOut]⟩
        have e:part (x::a.drop (i+1)) (y::b.drop (i+1)) = -1:=by simp [part,c1]
        rw [e]
        simp -implicitDefEqProofs (disch:=omega) only [Rx,simprocAttr,B112x0,k1,k2,gx,gy,c1,cmpOut]
      · by_cases c2:(y.toNat:Int)<x.toNat
        · refine .inr ⟨?_,by simp [part,c1,c2,cmpOut]⟩
          have e:part (x::a.drop (i+1)) (y::b.drop (i+1))=1:=by simp [part,c1,c2]
          rw [e]
          simp -implicitDefEqProofs (disch:=omega) only [Rx,simprocAttr,B112x0,k1,k2,gx,gy,c1,c2,cmpOut]
        · refine .inl ⟨i+1, ?_,⟨by omega,by omega⟩,by omega,by simp [part,c1,c2]⟩
          simp -implicitDefEqProofs (disch:=omega) only [Rx,simprocAttr,B112x0,k1,k2,gx,gy,c1,c2]
    · have k2:¬ (i:Int)<(b.length:Int):=by omega
      have e:part (a.drop i) (b.drop i)=0:=by rw [drop_cons hx,List.drop_eq_nil_of_le (by omega:b.length≤i)];rfl
      refine .inr ⟨?_,by rw [e];simp [cmpOut]⟩
      rw [e]
      simp -implicitDefEqProofs (disch:=omega) only [Rx,simprocAttr,B112x0,k1,k2,cmpOut]
  · have k1:¬ (i:Int)<(a.length:Int):=by omega
    have e:part (a.drop i) (b.drop i)=0:=by rw [List.drop_eq_nil_of_le (by omega:a.length≤i)];rfl
    refine .inr ⟨?_,by rw [e];simp [cmpOut]⟩
    rw [e]
    simp -implicitDefEqProofs (disch:=omega) only [Rx,simprocAttr,B112x0,k1,cmpOut]
theorem part_cases:∀ (x y:Bs),part x y = -1∨part x y=1∨part x y=0
  | [],[]=>by simp [part]
  | [],_::_=>by simp [part]
  | _::_,[]=>by simp [part]
  | a :: x, b :: y => by
    simp only [part]
    split
    · simp
    · split
      · simp
      · exact part_cases x y
theorem cmp_run (a b : Bs) (g : List AObj) {n : Nat} (ha : b.length < n) (hb : b.length ≤ 1048577) : acall T (n + 1) 112 [.p (.str a), .p (.str b)] g = some (.p (.int .i64 (cmpB a b)), g) := by
  rw [acall_code T112,run_pure rfl rfl rfl,cmp_part]
  have hl:=cmp_loop (n:=n) (N:=n) a b ha hb
  simp only [Int.natCast_zero] at hl
  rcases part_cases a b with h | h | h
  · rw [h] at hl ⊢
    simp only [cmpOut] at hl
    simp -implicitDefEqProofs (disch:=omega) only [Rx,simprocAttr,F112,hl]
  · rw [h] at hl ⊢
    simp only [cmpOut] at hl
    simp -implicitDefEqProofs (disch:=omega) only [Rx,simprocAttr,F112,hl]
  · rw [h] at hl ⊢
    simp only [cmpOut] at hl
    by_cases c1:a.length<b.length
    · have k1:(a.length:Int)<(b.length:Int):=by omega
      simp -implicitDefEqProofs (disch:=omega) only [Rx,simprocAttr,F112,hl,k1,c1]
    · have k1:¬ (a.length:Int)<(b.length:Int):=by omega
      by_cases c2:b.length<a.length
      · have k2:(b.length:Int)<(a.length:Int):=by omega
        simp -implicitDefEqProofs (disch:=omega) only [Rx,simprocAttr,F112,hl,k1,c1,k2,c2]
      · have k2:¬ (b.length:Int)<(a.length:Int):=by omega
        simp -implicitDefEqProofs (disch:=omega) only [Rx,simprocAttr,F112,hl,k1,c1,k2,c2]
end Go.TA.Tryz


end
section
/- What is wrong with attributes: the document's answer. -/
namespace Go.TA.Tryz
theorem a09_loop {n N : Nat} (l : List Attr) (hs : smallAttrs l) (hN : l.length < N) (hn : 1048576 < n) :
    aexec (acall T (n+35)) N (.loop B64x0) ⟨[(0,.p (.list (l.map Attr.pv))),(6,.p (.int .i64 l.length)),(7,.p (.int .i64 ((0:Nat):Int)))],[],[]⟩=some (chkOut (attrsChk [] 0 l)):=by
  refine loop_rule' (C:=acall T (n+35)) (N:=N) (B:=B64x0) (σ := Nat) (S:=fun i=>⟨[(0,.p (.list (l.map Attr.pv))),(6,.p (.int .i64 l.length)),(7,.p (.int .i64 i))],[],[]⟩) (I:=fun i=>i≤l.length∧i≤64) (μ := fun i=>l.length - i)
    (Φ := fun i=>chkOut (attrsChk (prevOf l i) i (l.drop i))) ?_ 0 ⟨by omega,by omega⟩ (by omega)
  rintro i ⟨hi,hi64⟩
  by_cases h:i<l.length
  · have k1:(i:Int)<(l.length:Int):=by omega
    obtain ⟨a,ha⟩:=get_some h
    have ga:=getD_map (f:=Attr.pv) ha
    have hsa:=hs a (List.mem_of_getElem? ha)
    rw [chk_step ha]
    have bad:∀ e:Int,attrErr (prevOf l i) i a=e→e≠0→aexec (acall T (n+35)) N B64x0 ⟨[(0,.p (.list (l.map Attr.pv))),(6,.p (.int .i64 l.length)),(7,.p (.int .i64 i))],[],[]⟩=some (.ret,⟨[(2,.p (.int .i64 i)),(3,.p (.int .i64 e))],[],[]⟩) →
        (∃ s',aexec (acall T (n+35)) N B64x0 ⟨[(0,.p (.list (l.map Attr.pv))),(6,.p (.int .i64 l.length)),(7,.p (.int .i64 i))],[],[]⟩=some (.normal,(fun (i:Nat)=>(⟨[(0,.p (.list (l.map Attr.pv))),(6,.p (.int .i64 l.length)),(7,.p (.int .i64 i))],[],[]⟩:St)) s')∧(s'≤l.length∧s'≤64)∧l.length - s'<l.length - i∧chkOut (if attrErr (prevOf l i) i a=0 then attrsChk (prevOf l (i+1)) (i+1) (l.drop (i+1)) else ((i:Int),attrErr (prevOf l i) i a))=chkOut (attrsChk (prevOf l s') s' (l.drop s'))) ∨
        (aexec (acall T (n+35)) N B64x0 ⟨[(0,.p (.list (l.map Attr.pv))),(6,.p (.int .i64 l.length)),(7,.p (.int .i64 i))],[],[]⟩=some (chkOut (if attrErr (prevOf l i) i a=0 then attrsChk (prevOf l (i+1)) (i+1) (l.drop (i+1)) else ((i:Int),attrErr (prevOf l i) i a)))∧(chkOut (if attrErr (prevOf l i) i a=0 then attrsChk (prevOf l (i+1)) (i+1) (l.drop (i+1)) else ((i:Int),attrErr (prevOf l i) i a))).1 ≠ .normal):=fun e he h0 hr=>by
      refine .inr ?_
      rw [he,if_neg h0]
      simp only [chkOut,h0,if_false]
      exact ⟨hr,by simp⟩
    by_cases h64:i=64
    · refine bad 12 (by simp [attrErr,h64]) (by decide) ?_
      have k2:((i:Int)==64)=true:=by simp;omega
      simp -implicitDefEqProofs (disch:=omega) only [Rx,simprocAttr,B64x0,k1,k2]
    have k2:((i:Int)==64)=false:=by simp;omega
    cases hnm:namedB true a.name with
    | false =>
      refine bad 8 (by simp [attrErr,h64,hnm]) (by decide) ?_
      simp -implicitDefEqProofs (disch:=omega) only [Rx,simprocAttr,B64x0,k1,k2,ga,Attr.pv,named02_run,hnm]
    | true=>
    by_cases hlong:65536<(a.value.length:Int)
    · refine bad 3 (by simp [attrErr,h64,hnm,hlong]) (by decide) ?_
      simp -implicitDefEqProofs (disch:=omega) only [Rx,simprocAttr,B64x0,k1,k2,ga,Attr.pv,named02_run,hnm,hlong]
    cases i with
    | zero =>
      have e:attrErr (prevOf l 0) 0 a=0:=by simp [attrErr,hnm,hlong,prevOf]
      rw [e,if_pos rfl]
      refine .inl ⟨1, ?_,⟨by omega,by omega⟩,by omega,rfl⟩
      simp only [Int.natCast_zero,Int.natCast_one] at k1 k2 ⊢
      have k3:(0:Int)<(l.length:Int):=k1
      have ga0:(l.map Attr.pv).getD 0 []=Attr.pv a:=ga
      have e0:Int.toNat 0=0:=rfl
      simp -implicitDefEqProofs (disch:=omega) only [Rx,simprocAttr,B64x0,k3,ga0,e0,Attr.pv,named02_run,hnm,hlong]
    | succ j =>
      obtain ⟨b,hb⟩:=get_some (show j<l.length by omega)
      have gb:=getD_map (f:=Attr.pv) hb
      have hsb:=hs b (List.mem_of_getElem? hb)
      have ep:prevOf l (j+1)=[b]:=by simp [prevOf,hb]
      have k3:(0:Int)<(j:Int)+1:=by omega
      have k4:(j:Int)<(l.length:Int):=by omega
      simp only [Int.natCast_add,Int.natCast_one] at k1 k2
      have k5:((j:Int)+1).toNat=j+1:=by omega
      have hc:=fun g=>cmp_run (n:=n+34) b.name a.name g (by omega) (by omega)
      by_cases heq:b.name=a.name
      · refine bad 10 (by simp [attrErr,h64,hnm,hlong,ep,heq]) (by decide) ?_
        have heq':(b.name==a.name)=true:=by simpa using heq
        simp -implicitDefEqProofs (disch:=omega) only [Rx,simprocAttr,B64x0,k1,k2,k3,k4,k5,ga,gb,Attr.pv,named02_run,hnm,hlong,heq']
      · have heq':(b.name==a.name)=false:=by simpa using heq
        by_cases hgt:0<cmpB b.name a.name
        · refine bad 9 (by simp [attrErr,h64,hnm,hlong,ep,heq,hgt]) (by decide) ?_
          simp -implicitDefEqProofs (disch:=omega) only [Rx,simprocAttr,B64x0,k1,k2,k3,k4,k5,ga,gb,Attr.pv,named02_run,hnm,hlong,heq',hc,hgt]
        · have e:attrErr (prevOf l (j+1)) (j+1) a=0:=by simp [attrErr,h64,hnm,hlong,ep,heq,hgt]
          rw [e,if_pos rfl]
          refine .inl ⟨j+1+1, ?_,⟨by omega,by omega⟩,by omega,rfl⟩
          simp -implicitDefEqProofs (disch:=omega) only [Rx,simprocAttr,B64x0,k1,k2,k3,k4,k5,ga,gb,Attr.pv,named02_run,hnm,hlong,heq',hc,hgt]
  · have k1:¬ (i:Int)<(l.length:Int):=by omega
    have e:l.drop i=[]:=List.drop_eq_nil_of_le (by omega)
    refine .inr ⟨?_,by rw [e];simp [attrsChk,chkOut]⟩
    rw [e]
    simp -implicitDefEqProofs (disch:=omega) only [Rx,simprocAttr,B64x0,k1,attrsChk,chkOut]
theorem a09_run (l : List Attr) (hs : smallAttrs l) (g : List AObj) {n : Nat} (hl : l.length < n + 35) (hn : 1048576 < n) : acall T (n + 36) 64 [.p (.list (l.map Attr.pv))] g = some (.tuple [.p (.int .i64 (attrsChk [] 0 l).1), .p (.int .i64 (attrsErr l))], g) := by
  rw [acall_code T64,run_pure rfl rfl rfl]
  have hloop:=a09_loop (n:=n) (N:=n+35) l hs hl hn
  simp only [Int.natCast_zero] at hloop
  unfold attrsErr
  have h1:(attrsChk [] 0 l).2=0→(attrsChk [] 0 l).1=0:=by
    have key:∀ (p:List Attr) (i:Nat) (l:List Attr),(attrsChk p i l).2=0→(attrsChk p i l).1=0:=by
      intro p i l
      induction l generalizing p i with
      | nil=>simp [attrsChk]
      | cons a l ih =>
        simp only [attrsChk]
        split
        · exact ih _ _
        · rename_i h;intro h';exact absurd h' h
    exact key [] 0 l
  generalize attrsChk [] 0 l=r at hloop h1
  obtain ⟨x,e⟩:=r
  simp only [chkOut] at hloop h1 ⊢
  by_cases h:e=0
  · rw [if_pos h] at hloop
    rw [h1 h,h]
    simp -implicitDefEqProofs (disch:=omega) only [Rx,simprocAttr,F64,hloop]
  · rw [if_neg h] at hloop
    simp -implicitDefEqProofs (disch:=omega) only [Rx,simprocAttr,F64,hloop]
end Go.TA.Tryz


end
section
/- What is wrong with a node alone. -/
namespace Go.TA.Tryz
def aloneErr (x:GRow):Int:=if namedB false x.tag=false then 7 else if 65536<(x.key.length:Int) then 3 else if 65536<(x.text.length:Int) then 3 else attrsErr x.attrs
def nodeCells (x:GRow) (ks:List (List PV)):List PV:=[.str x.tag,.str x.key,.str x.text,.list (x.attrs.map Attr.pv),.list ks]
theorem alone_run (x:GRow) (ks:List (List PV)) (hs:smallAttrs x.attrs) (g:List AObj) {n:Nat} (hl:x.attrs.length<n) (hn:1048576<n) :
    acall T (n+37) 52 [.p (.agg (nodeCells x ks))] g=some (.p (.int .i64 (aloneErr x)),g):=by
  rw [acall_code T52,run_pure rfl rfl rfl]
  have ha:=fun g=>a09_run x.attrs hs g (n:=n) (by omega) hn
  cases h1:namedB false x.tag with
  | false =>
    have e:aloneErr x=7:=by simp [aloneErr,h1]
    rw [e]
    simp -implicitDefEqProofs (disch:=omega) only [Rx,simprocAttr,F52,nodeCells,named02_run,h1]
  | true=>
  by_cases h2:65536<(x.key.length:Int)
  · have e:aloneErr x=3:=by simp [aloneErr,h1,h2]
    rw [e]
    simp -implicitDefEqProofs (disch:=omega) only [Rx,simprocAttr,F52,nodeCells,named02_run,h1,h2]
  by_cases h3:65536<(x.text.length:Int)
  · have e:aloneErr x=3:=by simp [aloneErr,h1,h2,h3]
    rw [e]
    simp -implicitDefEqProofs (disch:=omega) only [Rx,simprocAttr,F52,nodeCells,named02_run,h1,h2,h3]
  have e:aloneErr x=attrsErr x.attrs:=by simp [aloneErr,h1,h2,h3]
  rw [e]
  simp -implicitDefEqProofs (disch:=omega) only [Rx,simprocAttr,F52,nodeCells,named02_run,h1,h2,h3,ha]
theorem wrong_run (x:GRow) (ks:List (List PV)) (g:List AObj) {n:Nat} (hl:x.attrs.length<n) :
    acall T (n+38) 216 [.p (.agg (nodeCells x ks))] g=some (.p (.int .i64 (aloneErr x)),g):=by
  rw [acall_code T216,run_pure rfl rfl rfl]
  have ha:=fun g=>ap_run x.attrs g (n:=n) (by omega)
  cases h1:namedB false x.tag with
  | false =>
    have e:aloneErr x=7:=by simp [aloneErr,h1]
    rw [e]
    simp -implicitDefEqProofs (disch:=omega) only [Rx,simprocAttr,F216,nodeCells,tag_run,h1]
  | true=>
  by_cases h2:(x.key.length:Int)≤65536
  rotate_left
  · have e:aloneErr x=3:=by simp [aloneErr,h1];omega
    rw [e]
    simp -implicitDefEqProofs (disch:=omega) only [Rx,simprocAttr,F216,nodeCells,tag_run,h1,fits_run,h2]
  by_cases h3:(x.text.length:Int)≤65536
  rotate_left
  · have e:aloneErr x=3:=by simp [aloneErr,h1];omega
    rw [e]
    simp -implicitDefEqProofs (disch:=omega) only [Rx,simprocAttr,F216,nodeCells,tag_run,h1,fits_run,h2,h3]
  have e:aloneErr x=attrsErr x.attrs:=by
    have h2':¬ 65536<(x.key.length:Int):=by omega
    have h3':¬ 65536<(x.text.length:Int):=by omega
    simp [aloneErr,h1,h2',h3']
  rw [e]
  simp -implicitDefEqProofs (disch:=omega) only [Rx,simprocAttr,F216,nodeCells,tag_run,h1,fits_run,h2,h3,ha]
end Go.TA.Tryz


end
section
/- The tree of rows, as the program builds it. -/
namespace Go.TA.Tryz
mutual
inductive BT (l:List GRow):Nat→Nat→List PV→Prop
 | mk {a b:Nat} {x:GRow} {ks:List (List PV)}:l[a]? = some x→BTs l a b ks→BT l a b (nodeCells x ks)
inductive BTs (l:List GRow):Nat→Nat→List (List PV)→Prop
 | nil {a:Nat}:BTs l a (a+1) []
 | snoc {a m b:Nat} {ks:List (List PV)} {k:List PV} {y:GRow}:BTs l a m ks→l[m]? = some y→y.up=(a:Int)+1→BT l m b k→BTs l a b (ks++[k])
end
mutual
theorem BT.lt {l:List GRow} {a b:Nat} {p:List PV}:BT l a b p→a<b∧b≤l.length
  | .mk hx h => by
    have:=BTs.lt h (List.getElem?_eq_some_iff.1 hx).1
    omega
theorem BTs.lt {l:List GRow} {a b:Nat} {ks:List (List PV)}:BTs l a b ks→a<l.length→a+1≤b∧b≤l.length∧ks.length+a+1≤b
  | .nil,ha=>⟨Nat.le_refl _,ha,by simp⟩
  | .snoc h _ _ h2, ha => by
    have h3:=BTs.lt h ha
    have h4:=BT.lt h2
    simp only [List.length_append,List.length_singleton]
    omega
end
theorem BT.len {l:List GRow} {a b:Nat} {p:List PV} (h:BT l a b p):p.length=5:=by
 cases h with
 | mk _ _=>rfl
theorem BTs.at {l:List GRow} {a b:Nat} {ks:List (List PV)} (h:BTs l a b ks):∀ (i:Nat) k,ks[i]? = some k→∃ m m' y,BTs l a m (ks.take i)∧l[m]? = some y∧y.up=(a:Int)+1∧BT l m m' k∧BTs l a m' (ks.take (i+1))∧m'≤b:=by
  match h with
  | .nil=>intro i k hk;simp at hk
  | .snoc (m := m) (ks := ks0) (k := k0) (y := y) h1 hy hu h2 =>
    intro i k hk
    by_cases hi:i<ks0.length
    · rw [List.getElem?_append_left hi] at hk
      obtain ⟨m1,m2,y1,q1,q2,q3,q4,q5,q6⟩:=BTs.at h1 i k hk
      have:=BT.lt h2
      refine ⟨m1,m2,y1, ?_,q2,q3,q4, ?_,by omega⟩
      · rw [List.take_append_of_le_length (by omega)];exact q1
      · rw [List.take_append_of_le_length (by omega)];exact q5
    · have hlt:=(List.getElem?_eq_some_iff.1 hk).1
      simp only [List.length_append,List.length_singleton] at hlt
      obtain rfl:i=ks0.length:=by omega
      rw [List.getElem?_append_right (Nat.le_refl _),Nat.sub_self] at hk
      simp only [List.getElem?_cons_zero,Option.some.injEq] at hk
      subst hk
      refine ⟨m,b,y, ?_,hy,hu,h2, ?_,Nat.le_refl _⟩
      · rw [List.take_append_of_le_length (Nat.le_refl _),List.take_length];exact h1
      · rw [List.take_of_length_le (by simp)];exact .snoc h1 hy hu h2
mutual
theorem BT.uniq {l:List GRow} {a b b':Nat} {p p':List PV}:BT l a b p→BT l a b' p'→p=p'→b=b'
  | .mk hx h, .mk hx' h', e => by
    simp only [nodeCells,List.cons.injEq,PV.list.injEq,and_true] at e
    exact BTs.uniq h h' e.2.2.2.2
theorem BTs.uniq {l:List GRow} {a b b':Nat} {ks ks':List (List PV)}:BTs l a b ks→BTs l a b' ks'→ks=ks'→b=b'
  | .nil,.nil,_=>rfl
  | .nil,.snoc _ _ _ _,e=>by simp at e
  | .snoc _ _ _ _,.nil,e=>by simp at e
  | .snoc h1 _ _ h2, .snoc h1' _ _ h2', e => by
    obtain ⟨e1,e2⟩:=List.append_inj' e rfl
    have e3:=BTs.uniq h1 h1' e1
    subst e3
    exact BT.uniq h2 h2' (by simpa using e2)
end
def kidsC (ks:List (List PV)):AV:=match ks with
 | [] => .nils
 | _::_ => .own true 0 ks.length
theorem kidsC_m (r:List Nat) (ks:List (List PV)):mentions r (kidsC ks)=false:=by cases ks <;> simp [kidsC,mentions]
def kidsG (ks:List (List PV)):List AObj:=match ks with
 | []=>[]
 | _::_=>[.pcells 5 ks]
def buildL (x:GRow) (ks:List (List PV)):List (Nat × AObj):=[(4,.pcells 5 [[.str [],.str [],.str [],.list [],.list []]]),(7,.cells 5 [[.p (.str x.tag),.p (.str x.key),.p (.str x.text),.p (.list (x.attrs.map Attr.pv)),kidsC ks]]),(1000,.pcells 5 [])]
def buildS (l:List GRow) (a:Nat) (x:GRow) (nx:Nat) (ks:List (List PV)):St:=⟨[(0,.p (.list (l.map GRow.pv))),(1,.p (.int .i64 a)),(4,.ptr false 4 5 1 0 0),(7,.ptr false 7 5 1 0 0),(8,.p (.int .i64 nx))],buildL x ks,kidsG ks⟩
def buildQ (l:List GRow) (a:Nat) (x:GRow) (r:Ex × St):Prop:=∃ nx ks,BTs l a nx ks∧(∀ y,l[nx]? = some y→y.up≠(a:Int)+1)∧r=(.exit 0,⟨[(4,.ptr false 4 5 1 0 0),(7,.ptr false 7 5 1 0 0),(8,.p (.int .i64 nx))],buildL x ks,kidsG ks⟩)
end Go.TA.Tryz


end
section
/- An operation with the fields alone that its kind uses. -/
namespace Go.TA.Tryz
theorem used1_run (x:GOp) (hk:x.kind=1) (g:List AObj) (n:Nat):acall T (n+1) 115 [.p (.agg x.pv)] g=some (.p (.agg (used1 x).pv),g):=by
 rw [acall_code T115,run_pure rfl rfl rfl]
 simp -implicitDefEqProofs (disch:=omega) only [Rx,simprocAttr,F115,GOp.pv,attrsPV,used1,hk,attrs_same]
theorem used2_run (x:GOp) (hk:x.kind=2) (g:List AObj) (n:Nat):acall T (n+1) 115 [.p (.agg x.pv)] g=some (.p (.agg (used2 x).pv),g):=by
 rw [acall_code T115,run_pure rfl rfl rfl]
 simp -implicitDefEqProofs (disch:=omega) only [Rx,simprocAttr,F115,GOp.pv,attrsPV,used2,hk]
theorem used3_run (x:GOp) (hk:x.kind=3) (g:List AObj) (n:Nat):acall T (n+1) 115 [.p (.agg x.pv)] g=some (.p (.agg (used3 x).pv),g):=by
 rw [acall_code T115,run_pure rfl rfl rfl]
 simp -implicitDefEqProofs (disch:=omega) only [Rx,simprocAttr,F115,GOp.pv,attrsPV,used3,hk]
theorem used4_run (x:GOp) (hk:x.kind=4) (g:List AObj) (n:Nat):acall T (n+1) 115 [.p (.agg x.pv)] g=some (.p (.agg (used4 x).pv),g):=by
 rw [acall_code T115,run_pure rfl rfl rfl]
 simp -implicitDefEqProofs (disch:=omega) only [Rx,simprocAttr,F115,GOp.pv,attrsPV,used4,hk]
theorem used5_run (x:GOp) (hk:x.kind=5) (g:List AObj) (n:Nat):acall T (n+1) 115 [.p (.agg x.pv)] g=some (.p (.agg (used5 x).pv),g):=by
 rw [acall_code T115,run_pure rfl rfl rfl]
 simp -implicitDefEqProofs (disch:=omega) only [Rx,simprocAttr,F115,GOp.pv,attrsPV,used5,hk]
theorem used6_run (x:GOp) (hk:x.kind=6) (g:List AObj) (n:Nat):acall T (n+1) 115 [.p (.agg x.pv)] g=some (.p (.agg (used6 x).pv),g):=by
 rw [acall_code T115,run_pure rfl rfl rfl]
 simp -implicitDefEqProofs (disch:=omega) only [Rx,simprocAttr,F115,GOp.pv,attrsPV,used6,hk]
theorem used7_run (x:GOp) (hk:x.kind=7) (g:List AObj) (n:Nat):acall T (n+1) 115 [.p (.agg x.pv)] g=some (.p (.agg (used7 x).pv),g):=by
 rw [acall_code T115,run_pure rfl rfl rfl]
 simp -implicitDefEqProofs (disch:=omega) only [Rx,simprocAttr,F115,GOp.pv,attrsPV,used7,hk]
theorem used_run (x:GOp) (h1:1≤x.kind) (h7:x.kind≤7) (g:List AObj) (n:Nat):acall T (n+1) 115 [.p (.agg x.pv)] g=some (.p (.agg (usedOp x).pv),g):=by
 by_cases k1:x.kind=1
 ·rw [used1_run x k1];simp [usedOp,k1]
 by_cases k2:x.kind=2
 ·rw [used2_run x k2];simp [usedOp,k2]
 by_cases k3:x.kind=3
 ·rw [used3_run x k3];simp [usedOp,k3]
 by_cases k4:x.kind=4
 ·rw [used4_run x k4];simp [usedOp,k4]
 by_cases k5:x.kind=5
 ·rw [used5_run x k5];simp [usedOp,k5]
 by_cases k6:x.kind=6
 ·rw [used6_run x k6];simp [usedOp,k6]
 by_cases k7:x.kind=7
 ·rw [used7_run x k7];simp [usedOp,k7]
 omega
end Go.TA.Tryz


end
section
/- Does an operation have a field that its kind does not use? The document's answer. -/
namespace Go.TA.Tryz
theorem none1_run (x:GOp) (hk:x.kind=1) (g:List AObj) (n:Nat):acall T (n+1) 62 [.p (.agg x.pv)] g=some (.p (.bool (none1 x)),g):=by
 rw [acall_code T62,run_pure rfl rfl rfl]
 simp only [none1,nzI,nzS,nzA]
 cases h0:(x.node==0)
 ·simp -implicitDefEqProofs (disch:=omega) only [Rx,simprocAttr,F62,GOp.pv,attrsPV,hk,h0]
 cases h1:(x.up==0)
 ·simp -implicitDefEqProofs (disch:=omega) only [Rx,simprocAttr,F62,GOp.pv,attrsPV,hk,h0,h1]
 cases h2:(x.before==0)
 ·simp -implicitDefEqProofs (disch:=omega) only [Rx,simprocAttr,F62,GOp.pv,attrsPV,hk,h0,h1,h2]
 cases h3:(x.name==[])
 ·simp -implicitDefEqProofs (disch:=omega) only [Rx,simprocAttr,F62,GOp.pv,attrsPV,hk,h0,h1,h2,h3]
 simp -implicitDefEqProofs (disch:=omega) only [Rx,simprocAttr,F62,GOp.pv,attrsPV,hk,h0,h1,h2,h3]
theorem none2_run (x:GOp) (hk:x.kind=2) (g:List AObj) (n:Nat):acall T (n+1) 62 [.p (.agg x.pv)] g=some (.p (.bool (none2 x)),g):=by
 rw [acall_code T62,run_pure rfl rfl rfl]
 simp only [none2,nzI,nzS,nzA]
 cases h0:(x.tag==[])
 ·simp -implicitDefEqProofs (disch:=omega) only [Rx,simprocAttr,F62,GOp.pv,attrsPV,hk,h0]
 cases h1:(x.key==[])
 ·simp -implicitDefEqProofs (disch:=omega) only [Rx,simprocAttr,F62,GOp.pv,attrsPV,hk,h0,h1]
 by_cases h2:0<(x.attrs.length:Int)
 ·simp -implicitDefEqProofs (disch:=omega) only [Rx,simprocAttr,F62,GOp.pv,attrsPV,hk,h0,h1,h2]
 cases h3:(x.name==[])
 ·simp -implicitDefEqProofs (disch:=omega) only [Rx,simprocAttr,F62,GOp.pv,attrsPV,hk,h0,h1,h2,h3]
 cases h4:(x.text==[])
 ·simp -implicitDefEqProofs (disch:=omega) only [Rx,simprocAttr,F62,GOp.pv,attrsPV,hk,h0,h1,h2,h3,h4]
 simp -implicitDefEqProofs (disch:=omega) only [Rx,simprocAttr,F62,GOp.pv,attrsPV,hk,h0,h1,h2,h3,h4]
theorem none3_run (x:GOp) (hk:x.kind=3) (g:List AObj) (n:Nat):acall T (n+1) 62 [.p (.agg x.pv)] g=some (.p (.bool (none3 x)),g):=by
 rw [acall_code T62,run_pure rfl rfl rfl]
 simp only [none3,nzI,nzS,nzA]
 cases h0:(x.tag==[])
 ·simp -implicitDefEqProofs (disch:=omega) only [Rx,simprocAttr,F62,GOp.pv,attrsPV,hk,h0]
 cases h1:(x.key==[])
 ·simp -implicitDefEqProofs (disch:=omega) only [Rx,simprocAttr,F62,GOp.pv,attrsPV,hk,h0,h1]
 by_cases h2:0<(x.attrs.length:Int)
 ·simp -implicitDefEqProofs (disch:=omega) only [Rx,simprocAttr,F62,GOp.pv,attrsPV,hk,h0,h1,h2]
 cases h3:(x.up==0)
 ·simp -implicitDefEqProofs (disch:=omega) only [Rx,simprocAttr,F62,GOp.pv,attrsPV,hk,h0,h1,h2,h3]
 cases h4:(x.name==[])
 ·simp -implicitDefEqProofs (disch:=omega) only [Rx,simprocAttr,F62,GOp.pv,attrsPV,hk,h0,h1,h2,h3,h4]
 cases h5:(x.text==[])
 ·simp -implicitDefEqProofs (disch:=omega) only [Rx,simprocAttr,F62,GOp.pv,attrsPV,hk,h0,h1,h2,h3,h4,h5]
 simp -implicitDefEqProofs (disch:=omega) only [Rx,simprocAttr,F62,GOp.pv,attrsPV,hk,h0,h1,h2,h3,h4,h5]
end Go.TA.Tryz


end
section
/- Does an operation have a field that its kind does not use? The document's answer. -/
namespace Go.TA.Tryz
theorem none4_run (x:GOp) (hk:x.kind=4) (g:List AObj) (n:Nat):acall T (n+1) 62 [.p (.agg x.pv)] g=some (.p (.bool (none4 x)),g):=by
 rw [acall_code T62,run_pure rfl rfl rfl]
 simp only [none4,nzI,nzS,nzA]
 cases h0:(x.tag==[])
 ·simp -implicitDefEqProofs (disch:=omega) only [Rx,simprocAttr,F62,GOp.pv,attrsPV,hk,h0]
 cases h1:(x.key==[])
 ·simp -implicitDefEqProofs (disch:=omega) only [Rx,simprocAttr,F62,GOp.pv,attrsPV,hk,h0,h1]
 by_cases h2:0<(x.attrs.length:Int)
 ·simp -implicitDefEqProofs (disch:=omega) only [Rx,simprocAttr,F62,GOp.pv,attrsPV,hk,h0,h1,h2]
 cases h3:(x.up==0)
 ·simp -implicitDefEqProofs (disch:=omega) only [Rx,simprocAttr,F62,GOp.pv,attrsPV,hk,h0,h1,h2,h3]
 cases h4:(x.before==0)
 ·simp -implicitDefEqProofs (disch:=omega) only [Rx,simprocAttr,F62,GOp.pv,attrsPV,hk,h0,h1,h2,h3,h4]
 cases h5:(x.name==[])
 ·simp -implicitDefEqProofs (disch:=omega) only [Rx,simprocAttr,F62,GOp.pv,attrsPV,hk,h0,h1,h2,h3,h4,h5]
 cases h6:(x.text==[])
 ·simp -implicitDefEqProofs (disch:=omega) only [Rx,simprocAttr,F62,GOp.pv,attrsPV,hk,h0,h1,h2,h3,h4,h5,h6]
 simp -implicitDefEqProofs (disch:=omega) only [Rx,simprocAttr,F62,GOp.pv,attrsPV,hk,h0,h1,h2,h3,h4,h5,h6]
theorem none5_run (x:GOp) (hk:x.kind=5) (g:List AObj) (n:Nat):acall T (n+1) 62 [.p (.agg x.pv)] g=some (.p (.bool (none5 x)),g):=by
 rw [acall_code T62,run_pure rfl rfl rfl]
 simp only [none5,nzI,nzS,nzA]
 cases h0:(x.tag==[])
 ·simp -implicitDefEqProofs (disch:=omega) only [Rx,simprocAttr,F62,GOp.pv,attrsPV,hk,h0]
 cases h1:(x.key==[])
 ·simp -implicitDefEqProofs (disch:=omega) only [Rx,simprocAttr,F62,GOp.pv,attrsPV,hk,h0,h1]
 by_cases h2:0<(x.attrs.length:Int)
 ·simp -implicitDefEqProofs (disch:=omega) only [Rx,simprocAttr,F62,GOp.pv,attrsPV,hk,h0,h1,h2]
 cases h3:(x.up==0)
 ·simp -implicitDefEqProofs (disch:=omega) only [Rx,simprocAttr,F62,GOp.pv,attrsPV,hk,h0,h1,h2,h3]
 cases h4:(x.before==0)
 ·simp -implicitDefEqProofs (disch:=omega) only [Rx,simprocAttr,F62,GOp.pv,attrsPV,hk,h0,h1,h2,h3,h4]
 simp -implicitDefEqProofs (disch:=omega) only [Rx,simprocAttr,F62,GOp.pv,attrsPV,hk,h0,h1,h2,h3,h4]
end Go.TA.Tryz


end
section
/- Does an operation have a field that its kind does not use? The document's answer. -/
namespace Go.TA.Tryz
theorem none6_run (x:GOp) (hk:x.kind=6) (g:List AObj) (n:Nat):acall T (n+1) 62 [.p (.agg x.pv)] g=some (.p (.bool (none6 x)),g):=by
 rw [acall_code T62,run_pure rfl rfl rfl]
 simp only [none6,nzI,nzS,nzA]
 cases h0:(x.tag==[])
 ·simp -implicitDefEqProofs (disch:=omega) only [Rx,simprocAttr,F62,GOp.pv,attrsPV,hk,h0]
 cases h1:(x.key==[])
 ·simp -implicitDefEqProofs (disch:=omega) only [Rx,simprocAttr,F62,GOp.pv,attrsPV,hk,h0,h1]
 by_cases h2:0<(x.attrs.length:Int)
 ·simp -implicitDefEqProofs (disch:=omega) only [Rx,simprocAttr,F62,GOp.pv,attrsPV,hk,h0,h1,h2]
 cases h3:(x.up==0)
 ·simp -implicitDefEqProofs (disch:=omega) only [Rx,simprocAttr,F62,GOp.pv,attrsPV,hk,h0,h1,h2,h3]
 cases h4:(x.before==0)
 ·simp -implicitDefEqProofs (disch:=omega) only [Rx,simprocAttr,F62,GOp.pv,attrsPV,hk,h0,h1,h2,h3,h4]
 cases h5:(x.text==[])
 ·simp -implicitDefEqProofs (disch:=omega) only [Rx,simprocAttr,F62,GOp.pv,attrsPV,hk,h0,h1,h2,h3,h4,h5]
 simp -implicitDefEqProofs (disch:=omega) only [Rx,simprocAttr,F62,GOp.pv,attrsPV,hk,h0,h1,h2,h3,h4,h5]
theorem none7_run (x:GOp) (hk:x.kind=7) (g:List AObj) (n:Nat):acall T (n+1) 62 [.p (.agg x.pv)] g=some (.p (.bool (none7 x)),g):=by
 rw [acall_code T62,run_pure rfl rfl rfl]
 simp only [none7,nzI,nzS,nzA]
 cases h0:(x.tag==[])
 ·simp -implicitDefEqProofs (disch:=omega) only [Rx,simprocAttr,F62,GOp.pv,attrsPV,hk,h0]
 cases h1:(x.key==[])
 ·simp -implicitDefEqProofs (disch:=omega) only [Rx,simprocAttr,F62,GOp.pv,attrsPV,hk,h0,h1]
 by_cases h2:0<(x.attrs.length:Int)
 ·simp -implicitDefEqProofs (disch:=omega) only [Rx,simprocAttr,F62,GOp.pv,attrsPV,hk,h0,h1,h2]
 cases h3:(x.up==0)
 ·simp -implicitDefEqProofs (disch:=omega) only [Rx,simprocAttr,F62,GOp.pv,attrsPV,hk,h0,h1,h2,h3]
 cases h4:(x.before==0)
 ·simp -implicitDefEqProofs (disch:=omega) only [Rx,simprocAttr,F62,GOp.pv,attrsPV,hk,h0,h1,h2,h3,h4]
 cases h5:(x.name==[])
 ·simp -implicitDefEqProofs (disch:=omega) only [Rx,simprocAttr,F62,GOp.pv,attrsPV,hk,h0,h1,h2,h3,h4,h5]
 simp -implicitDefEqProofs (disch:=omega) only [Rx,simprocAttr,F62,GOp.pv,attrsPV,hk,h0,h1,h2,h3,h4,h5]
end Go.TA.Tryz


end
section
/- Does an operation have a field that its kind does not use? The document's answer. -/
namespace Go.TA.Tryz
theorem none_run (x:GOp) (h1:1≤x.kind) (h7:x.kind≤7) (g:List AObj) (n:Nat):acall T (n+1) 62 [.p (.agg x.pv)] g=some (.p (.bool (noneB x)),g):=by
 by_cases k1:x.kind=1
 ·rw [none1_run x k1];simp [noneB,k1]
 by_cases k2:x.kind=2
 ·rw [none2_run x k2];simp [noneB,k2]
 by_cases k3:x.kind=3
 ·rw [none3_run x k3];simp [noneB,k3]
 by_cases k4:x.kind=4
 ·rw [none4_run x k4];simp [noneB,k4]
 by_cases k5:x.kind=5
 ·rw [none5_run x k5];simp [noneB,k5]
 by_cases k6:x.kind=6
 ·rw [none6_run x k6];simp [noneB,k6]
 by_cases k7:x.kind=7
 ·rw [none7_run x k7];simp [noneB,k7]
 omega
end Go.TA.Tryz


end
section
/- Whether an operation is what its kind uses of it: by texts, as the program does it. -/
namespace Go.TA.Tryz
def eqEnd (b:Bool):Ex × St:=if b=true then (.exit 0,⟨[],[],[]⟩) else (.ret,⟨[(4,.p (.bool false))],[],[]⟩)
theorem eqEnd_ne (b:Bool):(eqEnd b).1 ≠ .normal:=by cases b <;> simp [eqEnd]
theorem slicesEq_run (a b : List Attr) (g : List AObj) {n m : Nat} (ha : a.length < n) (hn : n ≤ 1048577) (hm : n ≤ m) :
    acall T (m+1) 165 [.p (attrsPV a),.p (attrsPV b)] g=some (.p (.bool (decide (a=b))),g):=by
  rw [acall_code T165,run_pure rfl rfl rfl]
  by_cases hlen:a.length=b.length
  · have hloop:aexec (acall T m) m (.loop B165x0) ⟨[(0,.p (.list (a.map Attr.pv))),(1,.p (.list (b.map Attr.pv))),(12,.p (.int .i64 a.length)),(13,.p (.int .i64 0))],[],[]⟩=some (eqEnd (decide (a.drop 0=b.drop 0))):=by
      refine loop_rule' (σ := Nat) (S:=fun i=>⟨[(0,.p (.list (a.map Attr.pv))),(1,.p (.list (b.map Attr.pv))),(12,.p (.int .i64 a.length)),(13,.p (.int .i64 i))],[],[]⟩) (I:=fun i=>i≤a.length) (μ := fun i=>a.length - i) (Φ := fun i=>eqEnd (decide (a.drop i=b.drop i))) ?_ 0 (by omega) (by omega)
      intro i hi
      by_cases h:i<a.length
      · obtain ⟨x,hx⟩:=get_some h
        obtain ⟨y,hy⟩:=get_some (l:=b) (i:=i) (by omega)
        have hgx:=getD_map (f:=Attr.pv) hx
        have hgy:=getD_map (f:=Attr.pv) hy
        have hdx:a.drop i=x::a.drop (i+1):=by rw [List.drop_eq_getElem?_toList_append,hx];rfl
        have hdy:b.drop i=y::b.drop (i+1):=by rw [List.drop_eq_getElem?_toList_append,hy];rfl
        by_cases hxy:x=y
        · subst hxy
          refine .inl ⟨i+1, ?_,by omega,by omega,by rw [hdx,hdy];simp⟩
          simp -implicitDefEqProofs (disch:=omega) only [Rx,simprocAttr,B165x0,hgx,hgy,Attr.pv]
        · refine .inr ⟨?_,eqEnd_ne _⟩
          have e:decide (a.drop i=b.drop i)=false:=by rw [hdx,hdy];simp [hxy]
          have e2:(x.name==y.name && x.value==y.value)=false:=by
            rw [← Bool.not_eq_true,Bool.and_eq_true,beq_iff_eq,beq_iff_eq]
            rintro ⟨h1,h2⟩
            apply hxy
            cases x;cases y;simp only at h1 h2;subst h1 h2;rfl
          rw [e]
          simp -implicitDefEqProofs (disch:=omega) only [Rx,simprocAttr,B165x0,hgx,hgy,Attr.pv,e2,eqEnd]
      · have e:decide (a.drop i=b.drop i)=true:=by rw [List.drop_eq_nil_of_le (by omega),List.drop_eq_nil_of_le (by omega)];simp
        refine .inr ⟨?_,eqEnd_ne _⟩
        rw [e]
        simp -implicitDefEqProofs (disch:=omega) only [Rx,simprocAttr,B165x0,eqEnd]
    rw [List.drop_zero,List.drop_zero] at hloop
    have hl2:((a.length:Int)==(b.length:Int))=true:=by simp [hlen]
    cases hd:decide (a=b) with
    | false =>
      rw [hd] at hloop
      simp only [eqEnd,Bool.false_eq_true,if_false] at hloop
      simp -implicitDefEqProofs (disch:=omega) only [Rx,simprocAttr,F165,attrsPV,hl2,hloop]
    | true =>
      rw [hd] at hloop
      simp only [eqEnd,if_true] at hloop
      simp -implicitDefEqProofs (disch:=omega) only [Rx,simprocAttr,F165,attrsPV,hl2,hloop]
  · have hl2:((a.length:Int)==(b.length:Int))=false:=by rw [beq_eq_false_iff_ne];omega
    have hd:decide (a=b)=false:=by rw [decide_eq_false_iff_not];intro hh;exact hlen (by rw [hh])
    rw [hd]
    simp -implicitDefEqProofs (disch:=omega) only [Rx,simprocAttr,F165,attrsPV,hl2]
def hOk (n:Int):Bool:=decide (0≤n) && decide (n≤4294967295)
theorem handle_run (k:Int) (g:List AObj) (n:Nat):acall T (n+1) 113 [.p (.int .i64 k)] g=some (.p (.bool (hOk k)),g):=by
 rw [acall_code T113,run_pure rfl rfl rfl]
 by_cases h1:0≤k
 ·by_cases h2:k≤4294967295
  ·simp -implicitDefEqProofs (disch:=omega) only [Rx,simprocAttr,F113,hOk,h1,h2]
  ·simp -implicitDefEqProofs (disch:=omega) only [Rx,simprocAttr,F113,hOk,h1,h2]
 ·simp -implicitDefEqProofs (disch:=omega) only [Rx,simprocAttr,F113,hOk,h1]
theorem over_run (k:Int) (g:List AObj) (n:Nat):acall T (n+1) 61 [.p (.int .i64 k)] g=some (.p (.bool (!hOk k)),g):=by
 rw [acall_code T61,run_pure rfl rfl rfl]
 by_cases h1:k<0
 ·have h1':¬ 0≤k:=by omega
  simp -implicitDefEqProofs (disch:=omega) only [Rx,simprocAttr,F61,hOk,h1,h1']
 ·have h1':0≤k:=by omega
  by_cases h2:4294967295<k
  ·have h2':¬ k≤4294967295:=by omega
   simp -implicitDefEqProofs (disch:=omega) only [Rx,simprocAttr,F61,hOk,h1,h1',h2,h2']
  ·have h2':k≤4294967295:=by omega
   simp -implicitDefEqProofs (disch:=omega) only [Rx,simprocAttr,F61,hOk,h1,h1',h2,h2']
theorem itoa_run (k:Int) (h1 : -9223372036854775808≤k) (h2:k≤9223372036854775807) (g:List AObj) (n:Nat):acall T (n+1) 167 [.p (.int .i64 k)] g=some (.p (.str (Lib.itoa k)),g):=by
 rw [acall_prim T167]
 simp [pItoa,h1,h2]
theorem digits_zero:∀ (u:Nat),1≤u→Lib.decDigits u≠[48]:=by
 intro u hu h
 by_cases h10:u<10
 ·rw [Lib.decDigits_one h10] at h
  injection h with h _
  have:(UInt8.ofNat (48+u)).toNat=48:=by rw [h];rfl
  rw [UInt8.toNat_ofNat'] at this
  omega
 ·have hl:=Lib.decDigits_length u
  rw [h] at hl
  rw [Lib.nDigits,dif_neg h10] at hl
  have:1≤Lib.nDigits (u / 10):=by
   rw [Lib.nDigits]
   split <;> omega
  simp at hl
  omega
theorem itoa_zero {k:Int} (h:0≤k):(Lib.itoa k==Lib.itoa 0)=(k==0):=by
 have e0:Lib.itoa 0=[48]:=by
  have:Lib.itoa 0=Lib.decDigits 0:=by simp [Lib.itoa]
  rw [this,Lib.decDigits_one (by omega)]
  rfl
 rw [e0]
 by_cases hk:k=0
 ·subst hk;rw [e0];rfl
 ·have hne:Lib.itoa k≠[48]:=by
   have:Lib.itoa k=Lib.decDigits k.toNat:=by unfold Lib.itoa;rw [if_neg (by omega)]
   rw [this]
   exact digits_zero _ (by omega)
  rw [Bool.eq_iff_iff,beq_iff_eq,beq_iff_eq]
  exact ⟨fun h=>absurd h hne,fun h=>absurd h hk⟩
def smallI (k:Int):Prop:=0≤k∧k≤4294967295
structure OpFine (x:GOp):Prop where
 kind:smallI x.kind
 node:smallI x.node
 up:smallI x.up
 before:smallI x.before
theorem one_run (x:GOp) (hx:OpFine x) (g:List AObj) (n:Nat):acall T (n+2) 166 [.p (.agg x.pv)] g=some (.p (.agg [.str (Lib.itoa x.kind),.str (Lib.itoa x.node),.str (Lib.itoa x.up),.str (Lib.itoa x.before),.str x.tag,.str x.key,.str x.name,.str x.text,.str []]),g):=by
 rw [acall_code T166,run_pure rfl rfl rfl]
 have h1:=fun g=>itoa_run x.kind (by have:=hx.kind.1;omega) (by have:=hx.kind.2;omega) g n
 have h2:=fun g=>itoa_run x.node (by have:=hx.node.1;omega) (by have:=hx.node.2;omega) g n
 have h3:=fun g=>itoa_run x.up (by have:=hx.up.1;omega) (by have:=hx.up.2;omega) g n
 have h4:=fun g=>itoa_run x.before (by have:=hx.before.1;omega) (by have:=hx.before.2;omega) g n
 simp -implicitDefEqProofs (disch:=omega) only [Rx,simprocAttr,F166,GOp.pv,attrsPV,h1,h2,h3,h4]
def sameV (x y:GOp):Bool:=decide (x.attrs=y.attrs) && ((Lib.itoa x.kind==Lib.itoa y.kind) && ((Lib.itoa x.node==Lib.itoa y.node) && ((Lib.itoa x.up==Lib.itoa y.up) && ((Lib.itoa x.before==Lib.itoa y.before) && ((x.tag==y.tag) && ((x.key==y.key) && ((x.name==y.name) && (x.text==y.text))))))))
theorem opsame_run (x y:GOp) (hx:OpFine x) (hy:OpFine y) (g:List AObj) {n:Nat} (hl:x.attrs.length<n+1) (hb:x.attrs.length≤1048576):acall T (n+3) 114 [.p (.agg x.pv),.p (.agg y.pv)] g=some (.p (.bool (sameV x y)),g):=by
 rw [acall_code T114,run_pure rfl rfl rfl]
 have he:=fun g=>slicesEq_run x.attrs y.attrs g (n:=x.attrs.length+1) (m:=n+1) (by omega) (by omega) (by omega)
 have o1:=fun g=>one_run x hx g n
 have o2:=fun g=>one_run y hy g n
 simp only [GOp.pv,attrsPV] at he o1 o2
 by_cases ha:x.attrs=y.attrs
 ·have ha':decide (x.attrs=y.attrs)=true:=by simpa using ha
  rw [ha'] at he
  simp only [sameV,ha']
  simp -implicitDefEqProofs (disch:=omega) only [Rx,simprocAttr,F114,GOp.pv,attrsPV,he,o1,o2,attrs_same,Nat.zero_add]
 ·have ha':decide (x.attrs=y.attrs)=false:=by simpa using ha
  rw [ha'] at he
  simp only [sameV,ha']
  simp -implicitDefEqProofs (disch:=omega) only [Rx,simprocAttr,F114,GOp.pv,attrsPV,he]
end Go.TA.Tryz


end
section
/- What is wrong with an operation: the document's answer. -/
namespace Go.TA.Tryz
def tagBad (x:GOp):Bool:=(x.kind==1) && !namedB false x.tag
def nameBad (x:GOp):Bool:=((x.kind==5) || (x.kind==6)) && !namedB true x.name
def opErr (x:GOp):Int:=if x.kind<1 then 6 else if 7<x.kind then 6 else if hOk x.node=false then 5 else if hOk x.up=false then 5 else if hOk x.before=false then 5 else if noneB x=true then 2 else if tagBad x=true then 7 else if nameBad x=true then 8 else if 65536<(x.key.length:Int) then 3 else if 65536<(x.text.length:Int) then 3 else attrsErr x.attrs
theorem ref25_run (x:GOp) (hs:smallAttrs x.attrs) (g:List AObj) {n:Nat} (hl:x.attrs.length<n) (hn:1048576<n):acall T (n+37) 18 [.p (.agg x.pv)] g=some (.p (.int .i64 (opErr x)),g):=by
 rw [acall_code T18,run_pure rfl rfl rfl]
 have ov:=fun (k:Int) g=>over_run k g (n+35)
 have nt:=fun s g=>named02_run s false g (n+1)
 have nn:=fun s g=>named02_run s true g (n+1)
 have at_:=fun g=>a09_run x.attrs hs g (n:=n) (by omega) hn
 by_cases k1:x.kind<1
 ·have e:opErr x=6:=by simp [opErr,tagBad,nameBad,k1]
  rw [e]
  simp -implicitDefEqProofs (disch:=omega) only [Rx,simprocAttr,F18,GOp.pv,attrsPV,k1]
 by_cases k7:7<x.kind
 ·have e:opErr x=6:=by simp [opErr,tagBad,nameBad,k1,k7]
  rw [e]
  simp -implicitDefEqProofs (disch:=omega) only [Rx,simprocAttr,F18,GOp.pv,attrsPV,k1,k7]
 cases hnode:hOk x.node
 ·have e:opErr x=5:=by simp [opErr,tagBad,nameBad,k1,k7,hnode]
  rw [e]
  simp -implicitDefEqProofs (disch:=omega) only [Rx,simprocAttr,F18,GOp.pv,attrsPV,ov,k1,k7,hnode]
 cases hup:hOk x.up
 ·have e:opErr x=5:=by simp [opErr,tagBad,nameBad,k1,k7,hnode,hup]
  rw [e]
  simp -implicitDefEqProofs (disch:=omega) only [Rx,simprocAttr,F18,GOp.pv,attrsPV,ov,k1,k7,hnode,hup]
 cases hbefore:hOk x.before
 ·have e:opErr x=5:=by simp [opErr,tagBad,nameBad,k1,k7,hnode,hup,hbefore]
  rw [e]
  simp -implicitDefEqProofs (disch:=omega) only [Rx,simprocAttr,F18,GOp.pv,attrsPV,ov,k1,k7,hnode,hup,hbefore]
 have no:=fun g=>none_run x (by omega) (by omega) g (n+35)
 simp only [GOp.pv,attrsPV] at no
 cases hn:noneB x
 rotate_left
 ·have e:opErr x=2:=by simp [opErr,tagBad,nameBad,k1,k7,hnode,hup,hbefore,hn]
  rw [e]
  simp -implicitDefEqProofs (disch:=omega) only [Rx,simprocAttr,F18,GOp.pv,attrsPV,ov,no,k1,k7,hnode,hup,hbefore,hn]
 cases e1:(x.kind==1)
 rotate_left
 ·have e1':x.kind=1:=by simpa using e1
  have e5:(x.kind==5)=false:=by rw [e1'];rfl
  have e6:(x.kind==6)=false:=by rw [e1'];rfl
  cases t1:namedB false x.tag
  ·have e:opErr x=7:=by simp [opErr,tagBad,nameBad,k1,k7,hnode,hup,hbefore,hn,e1,e5,e6,t1]
   rw [e]
   simp -implicitDefEqProofs (disch:=omega) only [Rx,simprocAttr,F18,GOp.pv,attrsPV,ov,no,nt,k1,k7,hnode,hup,hbefore,hn,e1,t1]
  by_cases l1:65536<(x.key.length:Int)
  ·have e:opErr x=3:=by simp [opErr,tagBad,nameBad,k1,k7,hnode,hup,hbefore,hn,e1,e5,e6,t1,l1]
   rw [e]
   simp -implicitDefEqProofs (disch:=omega) only [Rx,simprocAttr,F18,GOp.pv,attrsPV,ov,no,nt,k1,k7,hnode,hup,hbefore,hn,e1,e5,e6,t1,l1]
  by_cases l2:65536<(x.text.length:Int)
  ·have e:opErr x=3:=by simp [opErr,tagBad,nameBad,k1,k7,hnode,hup,hbefore,hn,e1,e5,e6,t1,l1,l2]
   rw [e]
   simp -implicitDefEqProofs (disch:=omega) only [Rx,simprocAttr,F18,GOp.pv,attrsPV,ov,no,nt,k1,k7,hnode,hup,hbefore,hn,e1,e5,e6,t1,l1,l2]
  have e:opErr x=attrsErr x.attrs:=by simp [opErr,tagBad,nameBad,k1,k7,hnode,hup,hbefore,hn,e1,e5,e6,t1,l1,l2]
  rw [e]
  simp -implicitDefEqProofs (disch:=omega) only [Rx,simprocAttr,F18,GOp.pv,attrsPV,ov,no,nt,at_,k1,k7,hnode,hup,hbefore,hn,e1,e5,e6,t1,l1,l2]
 cases e5:(x.kind==5)
 rotate_left
 ·cases t2:namedB true x.name
  ·have e:opErr x=8:=by simp [opErr,tagBad,nameBad,k1,k7,hnode,hup,hbefore,hn,e1,e5,t2]
   rw [e]
   simp -implicitDefEqProofs (disch:=omega) only [Rx,simprocAttr,F18,GOp.pv,attrsPV,ov,no,nn,k1,k7,hnode,hup,hbefore,hn,e1,e5,t2]
  by_cases l1:65536<(x.key.length:Int)
  ·have e:opErr x=3:=by simp [opErr,tagBad,nameBad,k1,k7,hnode,hup,hbefore,hn,e1,e5,t2,l1]
   rw [e]
   simp -implicitDefEqProofs (disch:=omega) only [Rx,simprocAttr,F18,GOp.pv,attrsPV,ov,no,nn,k1,k7,hnode,hup,hbefore,hn,e1,e5,t2,l1]
  by_cases l2:65536<(x.text.length:Int)
  ·have e:opErr x=3:=by simp [opErr,tagBad,nameBad,k1,k7,hnode,hup,hbefore,hn,e1,e5,t2,l1,l2]
   rw [e]
   simp -implicitDefEqProofs (disch:=omega) only [Rx,simprocAttr,F18,GOp.pv,attrsPV,ov,no,nn,k1,k7,hnode,hup,hbefore,hn,e1,e5,t2,l1,l2]
  have e:opErr x=attrsErr x.attrs:=by simp [opErr,tagBad,nameBad,k1,k7,hnode,hup,hbefore,hn,e1,e5,t2,l1,l2]
  rw [e]
  simp -implicitDefEqProofs (disch:=omega) only [Rx,simprocAttr,F18,GOp.pv,attrsPV,ov,no,nn,at_,k1,k7,hnode,hup,hbefore,hn,e1,e5,t2,l1,l2]
 cases e6:(x.kind==6)
 rotate_left
 ·cases t2:namedB true x.name
  ·have e:opErr x=8:=by simp [opErr,tagBad,nameBad,k1,k7,hnode,hup,hbefore,hn,e1,e5,e6,t2]
   rw [e]
   simp -implicitDefEqProofs (disch:=omega) only [Rx,simprocAttr,F18,GOp.pv,attrsPV,ov,no,nn,k1,k7,hnode,hup,hbefore,hn,e1,e5,e6,t2]
  by_cases l1:65536<(x.key.length:Int)
  ·have e:opErr x=3:=by simp [opErr,tagBad,nameBad,k1,k7,hnode,hup,hbefore,hn,e1,e5,e6,t2,l1]
   rw [e]
   simp -implicitDefEqProofs (disch:=omega) only [Rx,simprocAttr,F18,GOp.pv,attrsPV,ov,no,nn,k1,k7,hnode,hup,hbefore,hn,e1,e5,e6,t2,l1]
  by_cases l2:65536<(x.text.length:Int)
  ·have e:opErr x=3:=by simp [opErr,tagBad,nameBad,k1,k7,hnode,hup,hbefore,hn,e1,e5,e6,t2,l1,l2]
   rw [e]
   simp -implicitDefEqProofs (disch:=omega) only [Rx,simprocAttr,F18,GOp.pv,attrsPV,ov,no,nn,k1,k7,hnode,hup,hbefore,hn,e1,e5,e6,t2,l1,l2]
  have e:opErr x=attrsErr x.attrs:=by simp [opErr,tagBad,nameBad,k1,k7,hnode,hup,hbefore,hn,e1,e5,e6,t2,l1,l2]
  rw [e]
  simp -implicitDefEqProofs (disch:=omega) only [Rx,simprocAttr,F18,GOp.pv,attrsPV,ov,no,nn,at_,k1,k7,hnode,hup,hbefore,hn,e1,e5,e6,t2,l1,l2]
 by_cases l1:65536<(x.key.length:Int)
 ·have e:opErr x=3:=by simp [opErr,tagBad,nameBad,k1,k7,hnode,hup,hbefore,hn,e1,e5,e6,l1]
  rw [e]
  simp -implicitDefEqProofs (disch:=omega) only [Rx,simprocAttr,F18,GOp.pv,attrsPV,ov,no,k1,k7,hnode,hup,hbefore,hn,e1,e5,e6,l1]
 by_cases l2:65536<(x.text.length:Int)
 ·have e:opErr x=3:=by simp [opErr,tagBad,nameBad,k1,k7,hnode,hup,hbefore,hn,e1,e5,e6,l1,l2]
  rw [e]
  simp -implicitDefEqProofs (disch:=omega) only [Rx,simprocAttr,F18,GOp.pv,attrsPV,ov,no,k1,k7,hnode,hup,hbefore,hn,e1,e5,e6,l1,l2]
 have e:opErr x=attrsErr x.attrs:=by simp [opErr,tagBad,nameBad,k1,k7,hnode,hup,hbefore,hn,e1,e5,e6,l1,l2]
 rw [e]
 simp -implicitDefEqProofs (disch:=omega) only [Rx,simprocAttr,F18,GOp.pv,attrsPV,ov,no,at_,k1,k7,hnode,hup,hbefore,hn,e1,e5,e6,l1,l2]
end Go.TA.Tryz


end
section
/- What an operation does, if it may be. -/
namespace Go.TA.Tryz
noncomputable def doE (S:MS) (x:GOp):Int × MS:=if opErr x=0 then doM S x else (opErr x,S)
section
variable {R:Nat} {S:MS}
end
noncomputable def runM:MS→List GOp→Nat→Nat × Int × MS
 | S,[],i=>(i,0,S)
 | S,x::l,i=>if (doE S x).1=0 then runM (doE S x).2 l (i+1) else (i,(doE S x).1,(doE S x).2)
end Go.TA.Tryz


end
section
/- What a machine does is what a document does, if the operation may be. Plain. -/
namespace Go.TA.Tryz
structure FineOp (x:GOp):Prop where
 kind:1≤x.kind∧x.kind≤7
 tag:x.kind=1→namedB false x.tag=true
 name:x.kind=5∨x.kind=6→namedB true x.name=true
 key:(x.key.length:Int)≤65536
 text:(x.text.length:Int)≤65536
 attrs:attrsErr x.attrs=0
 hs:0≤x.node∧x.node≤4294967295∧0≤x.up∧x.up≤4294967295∧0≤x.before∧x.before≤4294967295
 none:noneB x=false
theorem fineOp_of {x:GOp} (h:opErr x=0):FineOp x:=by
 unfold opErr at h
 split at h
 ·omega
 split at h
 ·omega
 split at h
 ·omega
 split at h
 ·omega
 split at h
 ·omega
 split at h
 ·omega
 split at h
 ·omega
 split at h
 ·omega
 split at h
 ·omega
 split at h
 ·omega
 rename_i h1 h2 h3 h4 h5 h6 h7 h8 h9 h10
 simp only [Bool.not_eq_false,Bool.not_eq_true] at h3 h4 h5 h6 h7 h8
 simp only [hOk,Bool.and_eq_true,decide_eq_true_eq] at h3 h4 h5
 refine ⟨⟨by omega,by omega⟩,fun hk => ?_,fun hk => ?_,by omega,by omega,h,⟨h3.1,h3.2,h4.1,h4.2,h5.1,h5.2⟩,h6⟩
 ·simpa [tagBad,hk] using h7
 ·rcases hk with hk | hk
  ·simpa [nameBad,hk] using h8
  ·simpa [nameBad,hk] using h8
end Go.TA.Tryz


end
section
/- What is wrong with an operation: the program. -/
namespace Go.TA.Tryz
theorem used_fine {x:GOp} (h1:1≤x.kind) (h7:x.kind≤7) (hx:OpFine x):OpFine (usedOp x):=by
 have z:smallI 0:=⟨by omega,by omega⟩
 unfold usedOp
 split
 ·exact ⟨hx.kind,z,z,z⟩
 split
 ·exact ⟨hx.kind,hx.node,hx.up,hx.before⟩
 split
 ·exact ⟨hx.kind,hx.node,z,hx.before⟩
 split
 ·exact ⟨hx.kind,hx.node,z,z⟩
 split
 ·exact ⟨hx.kind,hx.node,z,z⟩
 split
 ·exact ⟨hx.kind,hx.node,z,z⟩
 split
 ·exact ⟨hx.kind,hx.node,z,z⟩
 ·exact hx
theorem nzA_nil (l:List Attr):decide (l=[]) = !nzA l:=by
  cases l with
  | nil=>simp [nzA]
  | cons a l =>
    have:(0:Int)<((a::l).length:Int):=by simp
    simp [nzA,this]
theorem same_used {x:GOp} (h1:1≤x.kind) (h7:x.kind≤7) (hx:OpFine x):sameV x (usedOp x) = !noneB x:=by
 have zn:=itoa_zero hx.node.1
 have zu:=itoa_zero hx.up.1
 have zb:=itoa_zero hx.before.1
 have za:=nzA_nil x.attrs
 by_cases k1:x.kind=1
 ·simp only [usedOp,noneB,k1,if_true,if_false,Int.reduceEq,sameV,used1,none1,zn,zu,zb,za,nzI,nzS,beq_self_eq_true,decide_true,Bool.true_and,Bool.and_true,Bool.not_or,Bool.not_not]
  all_goals (cases x.tag==[] <;> cases x.key==[] <;> cases x.name==[] <;> cases x.text==[] <;> cases nzA x.attrs <;> cases x.node==0 <;> cases x.up==0 <;> cases x.before==0 <;> rfl)
 by_cases k2:x.kind=2
 ·have q1:(x.kind=1)=False:=by simp;omega
  simp only [usedOp,noneB,k2,if_true,if_false,Int.reduceEq,sameV,used2,none2,zn,zu,zb,za,nzI,nzS,beq_self_eq_true,decide_true,Bool.true_and,Bool.and_true,Bool.not_or,Bool.not_not]
  all_goals (cases x.tag==[] <;> cases x.key==[] <;> cases x.name==[] <;> cases x.text==[] <;> cases nzA x.attrs <;> cases x.node==0 <;> cases x.up==0 <;> cases x.before==0 <;> rfl)
 by_cases k3:x.kind=3
 ·have q1:(x.kind=1)=False:=by simp;omega
  have q2:(x.kind=2)=False:=by simp;omega
  simp only [usedOp,noneB,k3,if_true,if_false,Int.reduceEq,sameV,used3,none3,zn,zu,zb,za,nzI,nzS,beq_self_eq_true,decide_true,Bool.true_and,Bool.and_true,Bool.not_or,Bool.not_not]
  all_goals (cases x.tag==[] <;> cases x.key==[] <;> cases x.name==[] <;> cases x.text==[] <;> cases nzA x.attrs <;> cases x.node==0 <;> cases x.up==0 <;> cases x.before==0 <;> rfl)
 by_cases k4:x.kind=4
 ·have q1:(x.kind=1)=False:=by simp;omega
  have q2:(x.kind=2)=False:=by simp;omega
  have q3:(x.kind=3)=False:=by simp;omega
  simp only [usedOp,noneB,k4,if_true,if_false,Int.reduceEq,sameV,used4,none4,zn,zu,zb,za,nzI,nzS,beq_self_eq_true,decide_true,Bool.true_and,Bool.and_true,Bool.not_or,Bool.not_not]
  all_goals (cases x.tag==[] <;> cases x.key==[] <;> cases x.name==[] <;> cases x.text==[] <;> cases nzA x.attrs <;> cases x.node==0 <;> cases x.up==0 <;> cases x.before==0 <;> rfl)
 by_cases k5:x.kind=5
 ·have q1:(x.kind=1)=False:=by simp;omega
  have q2:(x.kind=2)=False:=by simp;omega
  have q3:(x.kind=3)=False:=by simp;omega
  have q4:(x.kind=4)=False:=by simp;omega
  simp only [usedOp,noneB,k5,if_true,if_false,Int.reduceEq,sameV,used5,none5,zn,zu,zb,za,nzI,nzS,beq_self_eq_true,decide_true,Bool.true_and,Bool.and_true,Bool.not_or,Bool.not_not]
  all_goals (cases x.tag==[] <;> cases x.key==[] <;> cases x.name==[] <;> cases x.text==[] <;> cases nzA x.attrs <;> cases x.node==0 <;> cases x.up==0 <;> cases x.before==0 <;> rfl)
 by_cases k6:x.kind=6
 ·have q1:(x.kind=1)=False:=by simp;omega
  have q2:(x.kind=2)=False:=by simp;omega
  have q3:(x.kind=3)=False:=by simp;omega
  have q4:(x.kind=4)=False:=by simp;omega
  have q5:(x.kind=5)=False:=by simp;omega
  simp only [usedOp,noneB,k6,if_true,if_false,Int.reduceEq,sameV,used6,none6,zn,zu,zb,za,nzI,nzS,beq_self_eq_true,decide_true,Bool.true_and,Bool.and_true,Bool.not_or,Bool.not_not]
  all_goals (cases x.tag==[] <;> cases x.key==[] <;> cases x.name==[] <;> cases x.text==[] <;> cases nzA x.attrs <;> cases x.node==0 <;> cases x.up==0 <;> cases x.before==0 <;> rfl)
 by_cases k7:x.kind=7
 ·have q1:(x.kind=1)=False:=by simp;omega
  have q2:(x.kind=2)=False:=by simp;omega
  have q3:(x.kind=3)=False:=by simp;omega
  have q4:(x.kind=4)=False:=by simp;omega
  have q5:(x.kind=5)=False:=by simp;omega
  have q6:(x.kind=6)=False:=by simp;omega
  simp only [usedOp,noneB,k7,if_true,if_false,Int.reduceEq,sameV,used7,none7,zn,zu,zb,za,nzI,nzS,beq_self_eq_true,decide_true,Bool.true_and,Bool.and_true,Bool.not_or,Bool.not_not]
  all_goals (cases x.tag==[] <;> cases x.key==[] <;> cases x.name==[] <;> cases x.text==[] <;> cases nzA x.attrs <;> cases x.node==0 <;> cases x.up==0 <;> cases x.before==0 <;> rfl)
 omega
theorem fine_of {x:GOp} (h1:¬ x.kind<1) (h7:¬ 7<x.kind) (hn:hOk x.node=true) (hu:hOk x.up=true) (hb:hOk x.before=true):OpFine x:=by
 simp only [hOk,Bool.and_eq_true,decide_eq_true_eq] at hn hu hb
 exact ⟨⟨by omega,by omega⟩,hn,hu,hb⟩
end Go.TA.Tryz


end
section
/- What is wrong with an operation: the program. -/
namespace Go.TA.Tryz
theorem opsP_run (x:GOp) (g:List AObj) {n:Nat} (hl:x.attrs.length<n) (hb:x.attrs.length≤1048576):acall T (n+38) 65 [.p (.agg x.pv)] g=some (.p (.int .i64 (opErr x)),g):=by
 rw [acall_code T65,run_pure rfl rfl rfl]
 have ha:=fun (k:Int) g=>handle_run k g (n+36)
 have tg:=fun s g=>tag_run s g (n+1)
 have nm:=fun s g=>name_run s g (n+1)
 have fi:=fun s g=>fits_run s g (n+36)
 have at_:=fun g=>ap_run x.attrs g (n:=n) (by omega)
 by_cases k1:x.kind<1
 ·have e:opErr x=6:=by simp [opErr,tagBad,nameBad,k1]
  rw [e]
  simp -implicitDefEqProofs (disch:=omega) only [Rx,simprocAttr,F65,GOp.pv,attrsPV,k1]
 by_cases k7:7<x.kind
 ·have e:opErr x=6:=by simp [opErr,tagBad,nameBad,k1,k7]
  rw [e]
  simp -implicitDefEqProofs (disch:=omega) only [Rx,simprocAttr,F65,GOp.pv,attrsPV,k1,k7]
 cases hnode:hOk x.node
 ·have e:opErr x=5:=by simp [opErr,tagBad,nameBad,k1,k7,hnode]
  rw [e]
  simp -implicitDefEqProofs (disch:=omega) only [Rx,simprocAttr,F65,GOp.pv,attrsPV,ha,k1,k7,hnode]
 cases hup:hOk x.up
 ·have e:opErr x=5:=by simp [opErr,tagBad,nameBad,k1,k7,hnode,hup]
  rw [e]
  simp -implicitDefEqProofs (disch:=omega) only [Rx,simprocAttr,F65,GOp.pv,attrsPV,ha,k1,k7,hnode,hup]
 cases hbefore:hOk x.before
 ·have e:opErr x=5:=by simp [opErr,tagBad,nameBad,k1,k7,hnode,hup,hbefore]
  rw [e]
  simp -implicitDefEqProofs (disch:=omega) only [Rx,simprocAttr,F65,GOp.pv,attrsPV,ha,k1,k7,hnode,hup,hbefore]
 have us:=fun g=>used_run x (by omega) (by omega) g (n+36)
 have hf:=fine_of k1 k7 hnode hup hbefore
 have sa:=fun g=>opsame_run x (usedOp x) hf (used_fine (by omega) (by omega) hf) g (n:=n+34) (by omega) hb
 rw [same_used (by omega) (by omega) hf] at sa
 generalize usedOp x=u at us sa
 simp only [GOp.pv,attrsPV] at us sa
 cases hn:noneB x
 rotate_left
 ·rw [hn] at sa
  have e:opErr x=2:=by simp [opErr,tagBad,nameBad,k1,k7,hnode,hup,hbefore,hn]
  rw [e]
  simp -implicitDefEqProofs (disch:=omega) only [Rx,simprocAttr,F65,GOp.pv,attrsPV,ha,us,sa,k1,k7,hnode,hup,hbefore]
 rw [hn] at sa
 cases e1:(x.kind==1)
 rotate_left
 ·have e1':x.kind=1:=by simpa using e1
  have e5:(x.kind==5)=false:=by rw [e1'];rfl
  have e6:(x.kind==6)=false:=by rw [e1'];rfl
  cases t1:namedB false x.tag
  ·have e:opErr x=7:=by simp [opErr,tagBad,nameBad,k1,k7,hnode,hup,hbefore,hn,e1,e5,e6,t1]
   rw [e]
   simp -implicitDefEqProofs (disch:=omega) only [Rx,simprocAttr,F65,GOp.pv,attrsPV,ha,us,sa,tg,k1,k7,hnode,hup,hbefore,e1,t1]
  by_cases l1:(x.key.length:Int)≤65536
  rotate_left
  ·have l1':65536<(x.key.length:Int):=by omega
   have e:opErr x=3:=by simp [opErr,tagBad,nameBad,k1,k7,hnode,hup,hbefore,hn,e1,e5,e6,t1,l1,l1']
   rw [e]
   simp -implicitDefEqProofs (disch:=omega) only [Rx,simprocAttr,F65,GOp.pv,attrsPV,ha,us,sa,tg,fi,k1,k7,hnode,hup,hbefore,e1,e5,e6,t1,l1]
  have l1':¬ 65536<(x.key.length:Int):=by omega
  by_cases l2:(x.text.length:Int)≤65536
  rotate_left
  ·have l2':65536<(x.text.length:Int):=by omega
   have e:opErr x=3:=by simp [opErr,tagBad,nameBad,k1,k7,hnode,hup,hbefore,hn,e1,e5,e6,t1,l1,l1',l2,l2']
   rw [e]
   simp -implicitDefEqProofs (disch:=omega) only [Rx,simprocAttr,F65,GOp.pv,attrsPV,ha,us,sa,tg,fi,k1,k7,hnode,hup,hbefore,e1,e5,e6,t1,l1,l2]
  have l2':¬ 65536<(x.text.length:Int):=by omega
  have e:opErr x=attrsErr x.attrs:=by simp [opErr,tagBad,nameBad,k1,k7,hnode,hup,hbefore,hn,e1,e5,e6,t1,l1,l1',l2,l2']
  rw [e]
  simp -implicitDefEqProofs (disch:=omega) only [Rx,simprocAttr,F65,GOp.pv,attrsPV,ha,us,sa,tg,fi,at_,k1,k7,hnode,hup,hbefore,e1,e5,e6,t1,l1,l2]
 cases e5:(x.kind==5)
 rotate_left
 ·cases t2:namedB true x.name
  ·have e:opErr x=8:=by simp [opErr,tagBad,nameBad,k1,k7,hnode,hup,hbefore,hn,e1,e5,t2]
   rw [e]
   simp -implicitDefEqProofs (disch:=omega) only [Rx,simprocAttr,F65,GOp.pv,attrsPV,ha,us,sa,nm,k1,k7,hnode,hup,hbefore,e1,e5,t2]
  by_cases l1:(x.key.length:Int)≤65536
  rotate_left
  ·have l1':65536<(x.key.length:Int):=by omega
   have e:opErr x=3:=by simp [opErr,tagBad,nameBad,k1,k7,hnode,hup,hbefore,hn,e1,e5,t2,l1,l1']
   rw [e]
   simp -implicitDefEqProofs (disch:=omega) only [Rx,simprocAttr,F65,GOp.pv,attrsPV,ha,us,sa,nm,fi,k1,k7,hnode,hup,hbefore,e1,e5,t2,l1]
  have l1':¬ 65536<(x.key.length:Int):=by omega
  by_cases l2:(x.text.length:Int)≤65536
  rotate_left
  ·have l2':65536<(x.text.length:Int):=by omega
   have e:opErr x=3:=by simp [opErr,tagBad,nameBad,k1,k7,hnode,hup,hbefore,hn,e1,e5,t2,l1,l1',l2,l2']
   rw [e]
   simp -implicitDefEqProofs (disch:=omega) only [Rx,simprocAttr,F65,GOp.pv,attrsPV,ha,us,sa,nm,fi,k1,k7,hnode,hup,hbefore,e1,e5,t2,l1,l2]
  have l2':¬ 65536<(x.text.length:Int):=by omega
  have e:opErr x=attrsErr x.attrs:=by simp [opErr,tagBad,nameBad,k1,k7,hnode,hup,hbefore,hn,e1,e5,t2,l1,l1',l2,l2']
  rw [e]
  simp -implicitDefEqProofs (disch:=omega) only [Rx,simprocAttr,F65,GOp.pv,attrsPV,ha,us,sa,nm,fi,at_,k1,k7,hnode,hup,hbefore,e1,e5,t2,l1,l2]
 cases e6:(x.kind==6)
 rotate_left
 ·cases t2:namedB true x.name
  ·have e:opErr x=8:=by simp [opErr,tagBad,nameBad,k1,k7,hnode,hup,hbefore,hn,e1,e5,e6,t2]
   rw [e]
   simp -implicitDefEqProofs (disch:=omega) only [Rx,simprocAttr,F65,GOp.pv,attrsPV,ha,us,sa,nm,k1,k7,hnode,hup,hbefore,e1,e5,e6,t2]
  by_cases l1:(x.key.length:Int)≤65536
  rotate_left
  ·have l1':65536<(x.key.length:Int):=by omega
   have e:opErr x=3:=by simp [opErr,tagBad,nameBad,k1,k7,hnode,hup,hbefore,hn,e1,e5,e6,t2,l1,l1']
   rw [e]
   simp -implicitDefEqProofs (disch:=omega) only [Rx,simprocAttr,F65,GOp.pv,attrsPV,ha,us,sa,nm,fi,k1,k7,hnode,hup,hbefore,e1,e5,e6,t2,l1]
  have l1':¬ 65536<(x.key.length:Int):=by omega
  by_cases l2:(x.text.length:Int)≤65536
  rotate_left
  ·have l2':65536<(x.text.length:Int):=by omega
   have e:opErr x=3:=by simp [opErr,tagBad,nameBad,k1,k7,hnode,hup,hbefore,hn,e1,e5,e6,t2,l1,l1',l2,l2']
   rw [e]
   simp -implicitDefEqProofs (disch:=omega) only [Rx,simprocAttr,F65,GOp.pv,attrsPV,ha,us,sa,nm,fi,k1,k7,hnode,hup,hbefore,e1,e5,e6,t2,l1,l2]
  have l2':¬ 65536<(x.text.length:Int):=by omega
  have e:opErr x=attrsErr x.attrs:=by simp [opErr,tagBad,nameBad,k1,k7,hnode,hup,hbefore,hn,e1,e5,e6,t2,l1,l1',l2,l2']
  rw [e]
  simp -implicitDefEqProofs (disch:=omega) only [Rx,simprocAttr,F65,GOp.pv,attrsPV,ha,us,sa,nm,fi,at_,k1,k7,hnode,hup,hbefore,e1,e5,e6,t2,l1,l2]
 by_cases l1:(x.key.length:Int)≤65536
 rotate_left
 ·have l1':65536<(x.key.length:Int):=by omega
  have e:opErr x=3:=by simp [opErr,tagBad,nameBad,k1,k7,hnode,hup,hbefore,hn,e1,e5,e6,l1,l1']
  rw [e]
  simp -implicitDefEqProofs (disch:=omega) only [Rx,simprocAttr,F65,GOp.pv,attrsPV,ha,us,sa,fi,k1,k7,hnode,hup,hbefore,e1,e5,e6,l1]
 have l1':¬ 65536<(x.key.length:Int):=by omega
 by_cases l2:(x.text.length:Int)≤65536
 rotate_left
 ·have l2':65536<(x.text.length:Int):=by omega
  have e:opErr x=3:=by simp [opErr,tagBad,nameBad,k1,k7,hnode,hup,hbefore,hn,e1,e5,e6,l1,l1',l2,l2']
  rw [e]
  simp -implicitDefEqProofs (disch:=omega) only [Rx,simprocAttr,F65,GOp.pv,attrsPV,ha,us,sa,fi,k1,k7,hnode,hup,hbefore,e1,e5,e6,l1,l2]
 have l2':¬ 65536<(x.text.length:Int):=by omega
 have e:opErr x=attrsErr x.attrs:=by simp [opErr,tagBad,nameBad,k1,k7,hnode,hup,hbefore,hn,e1,e5,e6,l1,l1',l2,l2']
 rw [e]
 simp -implicitDefEqProofs (disch:=omega) only [Rx,simprocAttr,F65,GOp.pv,attrsPV,ha,us,sa,fi,at_,k1,k7,hnode,hup,hbefore,e1,e5,e6,l1,l2]
end Go.TA.Tryz


end
section
/- An operation with IDs in the place of handles: the program. -/
namespace Go.TA
def putO (tb:List Int) (x:GOp):GOp:=if x.kind=1 then x else ⟨x.kind,tb.getD x.node.toNat 0,if x.kind=2 then tb.getD x.up.toNat 0 else 0,if x.before=0 then 0 else tb.getD x.before.toNat 0,x.tag,x.key,x.name,x.text,x.attrs⟩
def inT (tb:List Int) (x:GOp):Prop:=x.node<(tb.length:Int)∧x.up<(tb.length:Int)∧x.before<(tb.length:Int)
instance (tb:List Int) (x:GOp):Decidable (inT tb x):=by unfold inT;infer_instance
noncomputable def oneT (S:MS) (tb:List Int) (x:GOp):Int × MS × List Int :=
 if x.kind=1 then ((doD S x).2.1,(doD S x).2.2,if (doD S x).2.1=0 then tb++[(doD S x).1] else tb)
 else if inT tb x then ((doD S (putO tb x)).2.1,(doD S (putO tb x)).2.2,tb)
 else (13,S,tb)
abbrev RP (pr:Nat):AV:=.ptr true pr 2 1 0 0
structure Rnr (R:Nat) (S:MS) (it nd:Nat→Nat) (I:Nat→LK) (pd pm pr k:Nat) (tb:List Int) (g:List AObj):Prop where
 doc:Doc R S it nd I pd pm g
 obj:g[pr]? = some (.cells 2 [[DocP pd,.own true k tb.length]])
 row:g[k]? = some (.pcells 1 (intsPV tb))
 sepP:¬ OwnD S it nd pd pm pr
 sepK:¬ OwnD S it nd pd pm k
 ne:pr≠k
def OwnN (S:MS) (it nd:Nat→Nat) (pd pm pr k:Nat) (j:Nat):Prop:=OwnD S it nd pd pm j∨j=pr∨j=k
theorem getD_in {tb:List Int} {h:Int} (h0:0≤h) (h1:h<(tb.length:Int)):tb[h.toNat]? = some (tb.getD h.toNat 0):=by
 have:h.toNat<tb.length:=by omega
 rw [List.getD_eq_getElem?_getD,List.getElem?_eq_getElem this];rfl
theorem Rnr.turn {R R':Nat} {S S':MS} {it nd it' nd':Nat→Nat} {I I':Nat→LK} {pd pm pr k:Nat} {tb:List Int} {g g':List AObj} (h:Rnr R S it nd I pd pm pr k tb g) (hD:Doc R' S' it' nd' I' pd pm g') (hF:GFr g (OwnD S it nd pd pm) g' (OwnD S' it' nd' pd pm)) :
  Rnr R' S' it' nd' I' pd pm pr k tb g'∧GFr g (OwnN S it nd pd pm pr k) g' (OwnN S' it' nd' pd pm pr k):=by
 have hp:=(List.getElem?_eq_some_iff.1 h.obj).1
 have hk:=(List.getElem?_eq_some_iff.1 h.row).1
 refine ⟨⟨hD,by rw [hF.keep pr hp h.sepP];exact h.obj,by rw [hF.keep k hk h.sepK];exact h.row,fun e=>h.sepP (hF.refs pr e hp),fun e=>h.sepK (hF.refs k e hk),h.ne⟩,⟨hF.len,fun j hj hn=>hF.keep j hj fun e=>hn (.inl e),fun j hj hl => ?_⟩⟩
 rcases hj with e | e
 ·exact .inl (hF.refs j e hl)
 ·exact .inr e
namespace Tryz
section
variable {R:Nat} {S:MS} {it nd:Nat→Nat} {I:Nat→LK} {pd pm pr k:Nat} {tb:List Int} {g:List AObj}
theorem has_run (hR : Rnr R S it nd I pd pm pr k tb g) (htb : tb.length ≤ 8388608) (a b c : Int) {n : Nat} (hn : 5 < n) : acall T (n + 1) 135 [RP pr, .p (.list [[.int .i64 a], [.int .i64 b], [.int .i64 c]])] g = some (.p (.bool (decide (a < (tb.length : Int) ∧ b < (tb.length : Int) ∧ c < (tb.length : Int)))), g) := by
  have ho:=hR.obj
  have hrow:=hR.row
  have hl : ∀ i : Nat, i ≤ 3 → aexec (acall T n) n (.loop B135x0) ⟨[(0, RP pr), (7, .p (.list [[.int .i64 a], [.int .i64 b], [.int .i64 c]])), (8, .p (.int .i64 3)), (9, .p (.int .i64 ((0 : Nat) : Int)))], [], g⟩ = some (if (([a, b, c].drop 0).all fun h => decide (h < (tb.length : Int))) = true then (.exit 0, ⟨[], [], g⟩) else (.ret, ⟨[(4, .p (.bool false))], [], g⟩)) := fun _ _ =>
    loop_rule' (C:=acall T n) (N:=n) (B:=B135x0) (σ := Nat) (S:=fun i=>⟨[(0,RP pr),(7,.p (.list [[.int .i64 a],[.int .i64 b],[.int .i64 c]])),(8,.p (.int .i64 3)),(9,.p (.int .i64 i))],[],g⟩)
      (I:=fun i=>i≤3) (μ := fun i=>3 - i) (Φ := fun i=>if (([a,b,c].drop i).all fun h=>decide (h<(tb.length:Int)))=true then (.exit 0,⟨[],[],g⟩) else (.ret,⟨[(4,.p (.bool false))],[],g⟩)) (fun i hi=>by
      have hc:i=0∨i=1∨i=2∨i=3:=by omega
      have il:=intsPV_len tb
      rcases hc with rfl | rfl | rfl | rfl
      · by_cases h:a<(tb.length:Int)
        · left
          refine ⟨1, ?_,by omega,by omega,by simp [h]⟩
          simp -implicitDefEqProofs (disch:=omega) only [Rx,simprocAttr,B135x0,ho]
        · right
          refine ⟨?_,by simp [h]⟩
          simp only [List.drop_zero,List.all_cons,decide_eq_false h,Bool.false_and,Bool.false_eq_true,if_false]
          simp -implicitDefEqProofs (disch:=omega) only [Rx,simprocAttr,B135x0,ho]
      · by_cases h:b<(tb.length:Int)
        · left
          refine ⟨2, ?_,by omega,by omega,by simp [h]⟩
          simp -implicitDefEqProofs (disch:=omega) only [Rx,simprocAttr,B135x0,ho]
        · right
          refine ⟨?_,by simp [h]⟩
          simp only [List.drop_succ_cons,List.drop_zero,List.all_cons,decide_eq_false h,Bool.false_and,Bool.false_eq_true,if_false]
          simp -implicitDefEqProofs (disch:=omega) only [Rx,simprocAttr,B135x0,ho]
      · by_cases h:c<(tb.length:Int)
        · left
          refine ⟨3, ?_,by omega,by omega,by simp [h]⟩
          simp -implicitDefEqProofs (disch:=omega) only [Rx,simprocAttr,B135x0,ho]
        · right
          refine ⟨?_,by simp [h]⟩
          simp only [List.drop_succ_cons,List.drop_zero,List.all_cons,decide_eq_false h,Bool.false_and,Bool.false_eq_true,if_false]
          simp -implicitDefEqProofs (disch:=omega) only [Rx,simprocAttr,B135x0,ho]
      · right
        refine ⟨?_,by simp⟩
        simp only [List.drop_succ_cons,List.drop_zero,List.all_nil,if_true]
        simp -implicitDefEqProofs (disch:=omega) only [Rx,simprocAttr,B135x0]) 0 (by omega) (by omega)
  have hl:=hl 0 (by omega)
  have e:(([a,b,c].drop 0).all fun h=>decide (h<(tb.length:Int)))=decide (a<(tb.length:Int)∧b<(tb.length:Int)∧c<(tb.length:Int)):=by simp
  rw [e] at hl
  simp only [Int.natCast_zero] at hl
  rw [acall_code T135,run_code rfl rfl]
  cases hd:decide (a<(tb.length:Int)∧b<(tb.length:Int)∧c<(tb.length:Int)) with
  | false =>
    rw [hd] at hl
    simp -implicitDefEqProofs (disch:=omega) only [Rx,simprocAttr,F135,hl]
  | true =>
    rw [hd] at hl
    simp -implicitDefEqProofs (disch:=omega) only [Rx,simprocAttr,F135,hl]
theorem id_run (hR:Rnr R S it nd I pd pm pr k tb g) {h:Int} (h0:0≤h) (h1:h<(tb.length:Int)) (n:Nat):acall T (n+1) 136 [RP pr,.p (.int .i64 h)] g=some (.p (.int .i64 (tb.getD h.toNat 0)),g):=by
 have ho:=hR.obj
 have hrow:=hR.row
 have il:=intsPV_len tb
 have hg:=intsPV_get (getD_in h0 h1)
 rw [acall_code T136,run_code rfl rfl]
 generalize tb.getD h.toNat 0=v at hg ⊢
 simp -implicitDefEqProofs (disch:=omega) only [Rx,simprocAttr,F136,ho,hrow,il,hg,h0,h1]
theorem before_run (hR:Rnr R S it nd I pd pm pr k tb g) {h:Int} (h0:0≤h) (h1:h<(tb.length:Int)) (n:Nat):acall T (n+1) 137 [RP pr,.p (.int .i64 h)] g=some (.p (.int .i64 (if h=0 then 0 else tb.getD h.toNat 0)),g):=by
 have ho:=hR.obj
 have hrow:=hR.row
 have il:=intsPV_len tb
 have hg:=intsPV_get (getD_in h0 h1)
 rw [acall_code T137,run_code rfl rfl]
 generalize tb.getD h.toNat 0=v at hg ⊢
 by_cases e:h=0
 ·subst e
  rw [if_pos rfl]
  simp -implicitDefEqProofs (disch:=omega) only [Rx,simprocAttr,F137]
 ·rw [if_neg e]
  have e1:(h==0)=false:=by simpa using e
  simp -implicitDefEqProofs (disch:=omega) only [Rx,simprocAttr,F137,ho,hrow,il,hg,h0,h1,e1]
theorem irone_run (hR : Rnr R S it nd I pd pm pr k tb g) (htb : tb.length ≤ 4194304) (x : GOp) (he : opErr x = 0) (hx : x.attrs.length ≤ 1048577) {n : Nat} (hRn : R + 3 < n) (hn : (liveL S).length + 1 < n) (hn2 : 1048578 < n) :
    ∃ it' nd' I' g',acall T (n+R+41) 79 [RP pr,.p (.agg x.pv)] g=some (.p (.int .i64 (oneT S tb x).1),g')∧Rnr (R+R+1) (oneT S tb x).2.1 it' nd' I' pd pm pr k (oneT S tb x).2.2 g'∧GFr g (OwnN S it nd pd pm pr k) g' (OwnN (oneT S tb x).2.1 it' nd' pd pm pr k):=by
  have hf:=fineOp_of he
  have ho:=hR.obj
  have hpl:=(List.getElem?_eq_some_iff.1 hR.obj).1
  have hkl:=(List.getElem?_eq_some_iff.1 hR.row).1
  by_cases k1:x.kind=1
  · obtain ⟨c1,_⟩:=calls_run hR.doc x hx hRn hn hn2
    obtain ⟨it',nd',I',g1,d1,w1,f1⟩:=c1 k1
    obtain ⟨t1,t2⟩:=hR.turn w1 f1
    have ho1:=t1.obj
    have hr1:=t1.row
    have hpl1:=(List.getElem?_eq_some_iff.1 ho1).1
    have hkl1:=(List.getElem?_eq_some_iff.1 hr1).1
    have e:oneT S tb x=((doD S x).2.1,(doD S x).2.2,if (doD S x).2.1=0 then tb++[(doD S x).1] else tb):=by unfold oneT;rw [if_pos k1]
    rw [e]
    dsimp only
    by_cases hz:(doD S x).2.1=0
    · rw [if_pos hz]
      have il:=intsPV_len tb
      have os:=intsPV_snoc tb (doD S x).1
      have ol:(intsPV (tb++[(doD S x).1])).length=tb.length+1:=by rw [intsPV_len,List.length_append];rfl
      have ol2:(tb++[(doD S x).1]).length=tb.length+1:=by simp
      have hset:∀ Y:AObj,(g1.set k Y)[pr]? = some (.cells 2 [[DocP pd,.own true k tb.length]]):=fun Y=>by rw [List.getElem?_set,if_neg (fun e=>hR.ne e.symm)];exact ho1
      refine ⟨it',nd',I',(g1.set k (.pcells 1 (intsPV (tb++[(doD S x).1])))).set pr (.cells 2 [[DocP pd,.own true k (tb.length+1)]]), ?_,⟨⟨w1.ok,w1.link,w1.lies.keep fun j hj => ?_⟩, ?_, ?_,t1.sepP,t1.sepK,t1.ne⟩,t2.trans ⟨by simp,fun j hj hn => ?_,fun j hj _=>hj⟩⟩
      · rw [hz] at d1 ⊢
        rw [acall_code T79,run_code rfl rfl]
        generalize (doD S x).1=z at *
        generalize intsPV (tb++[z])=Y at *
        generalize intsPV tb=X at *
        simp -implicitDefEqProofs (disch:=omega) only [Rx,simprocAttr,F79,GOp.pv,attrsPV,k1,ho,d1,ho1,hr1,hset,il,os,ol]
      · rw [List.getElem?_set,if_neg (fun e=>t1.sepP (by rw [e];exact hj)),List.getElem?_set,if_neg (fun e=>t1.sepK (by rw [e];exact hj))]
      · rw [List.getElem?_set,if_pos rfl,if_pos (by rw [List.length_set];exact hpl1),ol2]
      · rw [List.getElem?_set,if_neg hR.ne,List.getElem?_set,if_pos rfl,if_pos hkl1]
      · rw [List.getElem?_set,if_neg (fun e=>hn (.inr (.inl e.symm))),List.getElem?_set,if_neg (fun e=>hn (.inr (.inr e.symm)))]
    · rw [if_neg hz]
      refine ⟨it',nd',I',g1, ?_,t1,t2⟩
      have e1:((doD S x).2.1==0)=false:=by simpa using hz
      rw [acall_code T79,run_code rfl rfl]
      generalize (doD S x).2.1=z at *
      generalize (doD S x).1=y at *
      simp -implicitDefEqProofs (disch:=omega) only [Rx,simprocAttr,F79,GOp.pv,attrsPV,k1,ho,d1,e1]
  have e1:(x.kind==1)=false:=by simpa using k1
  have hhas:=has_run hR (by omega) x.node x.up x.before (n:=n+R+39) (by omega)
  rw [show n+R+39+1=n+R+40 by omega] at hhas
  by_cases hin:inT tb x
  rotate_left
  · have e:oneT S tb x=(13,S,tb):=by unfold oneT;rw [if_neg k1,if_neg hin]
    rw [e]
    unfold inT at hin
    rw [decide_eq_false hin] at hhas
    refine ⟨it,nd,I,g, ?_,⟨⟨hR.doc.ok.more (by omega),hR.doc.link,hR.doc.lies⟩,hR.obj,hR.row,hR.sepP,hR.sepK,hR.ne⟩,GFr.refl _ _⟩
    rw [acall_code T79,run_code rfl rfl]
    simp -implicitDefEqProofs (disch:=omega) only [Rx,simprocAttr,F79,GOp.pv,attrsPV,e1,hhas]
  have e:oneT S tb x=((doD S (putO tb x)).2.1,(doD S (putO tb x)).2.2,tb):=by unfold oneT;rw [if_neg k1,if_pos hin]
  rw [e]
  dsimp only
  have hin':=hin
  unfold inT at hin
  rw [decide_eq_true hin] at hhas
  obtain ⟨h01,h02,h03,h04,h05,h06⟩:=hf.hs
  have i1:=id_run hR h01 hin.1 (n+R+39)
  have i2:=id_run hR h03 hin.2.1 (n+R+39)
  have i3:=before_run hR h05 hin.2.2 (n+R+39)
  rw [show n+R+39+1=n+R+40 by omega] at i1 i2 i3
  have hpe:putO tb x=⟨x.kind,tb.getD x.node.toNat 0,if x.kind=2 then tb.getD x.up.toNat 0 else 0,if x.before=0 then 0 else tb.getD x.before.toNat 0,x.tag,x.key,x.name,x.text,x.attrs⟩:=by unfold putO;rw [if_neg k1]
  have hcl:=calls_run hR.doc (putO tb x) (by rw [hpe];exact hx) hRn hn hn2
  generalize doD S (putO tb x)=zz at hcl ⊢
  rw [hpe] at hcl
  dsimp only at hcl
  generalize (if x.before=0 then 0 else tb.getD x.before.toNat 0)=bb at hcl i3
  generalize tb.getD x.node.toNat 0=nn at hcl i1
  obtain ⟨_,c2,c3,c4,c5,c6,c7⟩:=hcl
  have hc:x.kind=2∨x.kind=3∨x.kind=4∨x.kind=5∨x.kind=6∨x.kind=7:=by have:=hf.kind;omega
  rcases hc with q | q | q | q | q | q
  · obtain ⟨_,it',nd',I',g1,d1,w1,f1⟩:=c2 q
    rw [if_pos q] at d1
    generalize tb.getD x.up.toNat 0=uu at d1 i2
    refine ⟨it',nd',I',g1, ?_,hR.turn w1 f1⟩
    rw [acall_code T79,run_code rfl rfl]
    simp -implicitDefEqProofs (disch:=omega) only [Rx,simprocAttr,F79,GOp.pv,attrsPV,q,ho,hhas,i1,i2,i3,d1]
  · obtain ⟨_,it',nd',I',g1,d1,w1,f1⟩:=c3 q
    refine ⟨it',nd',I',g1, ?_,hR.turn w1 f1⟩
    rw [acall_code T79,run_code rfl rfl]
    simp -implicitDefEqProofs (disch:=omega) only [Rx,simprocAttr,F79,GOp.pv,attrsPV,q,ho,hhas,i1,i3,d1]
  · obtain ⟨_,it',nd',I',g1,d1,w1,f1⟩:=c4 q
    refine ⟨it',nd',I',g1, ?_,hR.turn w1 f1⟩
    rw [acall_code T79,run_code rfl rfl]
    simp -implicitDefEqProofs (disch:=omega) only [Rx,simprocAttr,F79,GOp.pv,attrsPV,q,ho,hhas,i1,d1]
  · obtain ⟨_,it',nd',I',g1,d1,w1,f1⟩:=c5 q
    refine ⟨it',nd',I',g1, ?_,hR.turn w1 f1⟩
    rw [acall_code T79,run_code rfl rfl]
    simp -implicitDefEqProofs (disch:=omega) only [Rx,simprocAttr,F79,GOp.pv,attrsPV,q,ho,hhas,i1,d1]
  · obtain ⟨_,it',nd',I',g1,d1,w1,f1⟩:=c6 q
    refine ⟨it',nd',I',g1, ?_,hR.turn w1 f1⟩
    rw [acall_code T79,run_code rfl rfl]
    simp -implicitDefEqProofs (disch:=omega) only [Rx,simprocAttr,F79,GOp.pv,attrsPV,q,ho,hhas,i1,d1]
  · obtain ⟨_,it',nd',I',g1,d1,w1,f1⟩:=c7 q
    refine ⟨it',nd',I',g1, ?_,hR.turn w1 f1⟩
    rw [acall_code T79,run_code rfl rfl]
    simp -implicitDefEqProofs (disch:=omega) only [Rx,simprocAttr,F79,GOp.pv,attrsPV,q,ho,hhas,i1,d1]
end
end Tryz
end Go.TA


end
section
/- Two scripts together. Plain. -/
namespace Go.TA
def shiftOp (f:Int→Int) (x:GOp):GOp:={ x with node:=f x.node,up:=f x.up,before:=f x.before }
def otherH (mid:List GRow) (made h:Int):Int:=if h=0 then 0 else if h≤(mid.length:Int) then ((mid[(h - 1).toNat]?).map GRow.id).getD 0 else made+h - (mid.length:Int)
end Go.TA


end
section
/- A machine beside another one that does the same under other handles. Plain. -/
namespace Go.TA
def img (φ : Nat→Nat) (h:Int):Int:=if h<0 then h else (φ h.toNat:Int)
theorem img_nat (φ : Nat→Nat) (n:Nat):img φ (n:Int)=(φ n:Int):=by
 unfold img
 rw [if_neg (by omega),Int.toNat_natCast]
structure Sim (φ : Nat→Nat) (M S:MS):Prop where
 pos:0<M.N
 zero : φ 0=0
 next:∀ j, φ (M.N+j)=S.N+j
 lt:∀ h,h<M.N → φ h<S.N
 inj:∀ h k,h<M.N→k<M.N → φ h = φ k→h=k
 node:∀ h,h<M.N→S.st (φ h) = { M.st h with up:=img φ (M.st h).up }
 kd:∀ h,h<M.N→S.kd (φ h)=(M.kd h).map (img φ)
 onto:∀ k,k<S.N→(S.st k).live=true→∃ h,h<M.N ∧ φ h=k
def Dom (M:MS) (a:Int):Prop:=a = -1∨∃ n:Nat,n<M.N∧a=(n:Int)
section
variable {R:Nat} {φ : Nat→Nat} {M S:MS}
theorem Sim.img_inj (hS:Sim φ M S) {a b:Int} (ha:Dom M a) (hb:Dom M b) (h:img φ a=img φ b):a=b:=by
 rcases ha with rfl | ⟨n,hn,rfl⟩ <;> rcases hb with rfl | ⟨k,hk,rfl⟩
 ·rfl
 ·rw [img_nat] at h;simp [img] at h <;> omega
 ·rw [img_nat] at h;simp [img] at h <;> omega
 ·rw [img_nat,img_nat] at h
  have:=hS.inj n k hn hk (by omega)
  rw [this]
theorem Sim.live (hS:Sim φ M S) (n:Nat):liveB S (img φ (n:Int))=liveB M (n:Int):=by
 rw [img_nat]
 by_cases h:n<M.N
 ·have h1:=hS.lt n h
  have h2:((φ n:Nat):Int)<(S.N:Int):=by omega
  have h3:(n:Int)<(M.N:Int):=by omega
  simp [liveB,h2,h3,hS.node n h]
 ·have h1:=hS.next (n - M.N)
  rw [show M.N+(n - M.N)=n by omega] at h1
  have h2:¬ ((φ n:Nat):Int)<(S.N:Int):=by omega
  have h3:¬ (n:Int)<(M.N:Int):=by omega
  simp [liveB,h2,h3]
theorem Sim.upOf (hS:Sim φ M S) {n:Nat} (h:n<M.N):upOf S (φ n:Int)=img φ (upOf M (n:Int)):=by
 simp [Go.TA.upOf,hS.node n h]
theorem dom_up (hM:M.Ok R) {n:Nat} (h:n<M.N):Dom M (upOf M (n:Int)):=by
 have:=hM.up n h
 simp only [Go.TA.upOf,Int.toNat_natCast]
 rcases this with h1 | ⟨p,hp,h1,_⟩
 ·exact .inl h1
 ·exact .inr ⟨p,hp,h1⟩
theorem dom_kid (hM:M.Ok R) {p:Nat} (h:p<M.N) {k:Int} (hk:k ∈ M.kd p):Dom M k:=by
 obtain ⟨c,rfl,hc,_⟩:=hM.kids p h k hk
 exact .inr ⟨c,hc,rfl⟩
theorem Sim.below1 (hS:Sim φ M S) (hM:M.Ok R) {t:Nat} {h:Int} (hb:Below M (t:Int) h):Dom M h→Below S (φ t:Int) (img φ h):=by
  induction hb with
  | here=>intro _;rw [img_nat];exact .here
  | up h0 hb ih =>
    intro hd
    rcases hd with rfl | ⟨n,hn,rfl⟩
    · omega
    · have:=ih (dom_up hM hn)
      rw [← hS.upOf hn] at this
      rw [img_nat]
      exact .up (by omega) this
theorem Sim.below2 (hS:Sim φ M S) (hM:M.Ok R) {t:Nat} (ht:t<M.N) {y:Int} (hb:Below S (φ t:Int) y):∀ h,Dom M h→y=img φ h→Below M (t:Int) h:=by
  induction hb with
  | here =>
    intro h hd e
    rw [← img_nat] at e
    rw [← hS.img_inj (.inr ⟨t,ht,rfl⟩) hd e]
    exact .here
  | up h0 hb ih =>
    intro h hd e
    rcases hd with rfl | ⟨n,hn,rfl⟩
    · simp [img] at e;omega
    · rw [img_nat] at e
      subst e
      exact .up (by omega) (ih _ (dom_up hM hn) (hS.upOf hn))
theorem Sim.below (hS:Sim φ M S) (hM:M.Ok R) {t n:Nat} (ht:t<M.N) (hn:n<M.N):Below S (φ t:Int) (φ n:Int)↔Below M (t:Int) (n:Int):=by
 constructor
 ·intro h;exact hS.below2 hM ht h _ (.inr ⟨n,hn,rfl⟩) (img_nat φ n).symm
 ·intro h;have:=hS.below1 hM h (.inr ⟨n,hn,rfl⟩);rwa [img_nat] at this
theorem Sim.updAt (hS:Sim φ M S) {α : Type} (f:Nat → α) (v : α) {h k:Nat} (hh:h<M.N) (hk:k<M.N):upd f (φ h) v (φ k)=if k=h then v else f (φ k):=by
 unfold upd
 by_cases e:k=h
 ·subst e;simp
 ·rw [if_neg e,if_neg (fun q=>e (hS.inj k h hk hh q))]
theorem idxOf_map {f:Int→Int} {b:Int}:∀ {l:List Int},(∀ a ∈ l,f a=f b→a=b)→(l.map f).idxOf (f b)=l.idxOf b
  | [],_=>rfl
  | a :: l, h => by
    rw [List.map_cons,List.idxOf_cons,List.idxOf_cons,idxOf_map (fun x hx=>h x (List.mem_cons_of_mem _ hx))]
    by_cases e:a=b
    · subst e;simp
    · have q1:(f a==f b)=false:=beq_eq_false_iff_ne.2 fun q=>e (h a (by simp) q)
      have q2:(a==b)=false:=beq_eq_false_iff_ne.2 e
      rw [q1,q2]
theorem insI_map {f:Int→Int} {l:List Int} {h b:Int} (hi:∀ a ∈ l,f a=f b→a=b) (h0:f b=0↔b=0):insI (l.map f) (f h) (f b)=(insI l h b).map f:=by
 unfold insI
 by_cases e:b=0
 ·rw [if_pos e,if_pos (h0.2 e),List.length_map,List.take_of_length_le (by simp),List.take_of_length_le (by simp),List.drop_eq_nil_of_le (by simp),List.drop_eq_nil_of_le (by simp)]
  simp
 ·rw [if_neg e,if_neg (fun q=>e (h0.1 q)),idxOf_map hi]
  simp [List.map_take,List.map_drop]
theorem filter_map {f:Int→Int} {h:Int}:∀ {l:List Int},(∀ a ∈ l,f a=f h→a=h)→(l.map f).filter (fun k => !(k==f h))=(l.filter fun k => !(k==h)).map f
  | [],_=>rfl
  | a :: l, hi => by
    have ih:=filter_map (f:=f) (h:=h) (l:=l) (fun x hx=>hi x (List.mem_cons_of_mem _ hx))
    rw [List.map_cons,List.filter_cons,List.filter_cons,ih]
    by_cases e:a=h
    · subst e;simp
    · have q1:(f a==f h)=false:=beq_eq_false_iff_ne.2 fun q=>e (hi a (by simp) q)
      have q2:(a==h)=false:=beq_eq_false_iff_ne.2 e
      simp [q1,q2]
theorem Sim.img0 (hS:Sim φ M S) {b:Int} (hb:Dom M b):img φ b=0↔b=0:=by
 have h0:img φ 0=0:=by have:=img_nat φ 0;rw [hS.zero] at this;exact this
 constructor
 ·intro h
  rw [← h0] at h
  exact hS.img_inj hb (.inr ⟨0,hS.pos,rfl⟩) h
 ·rintro rfl;exact h0
theorem Sim.place (hS:Sim φ M S) (hM:M.Ok R) {h u:Nat} (hh:h<M.N) (hu:u<M.N) {b:Int} (hb:Dom M b):Sim φ (placeM M h u b) (placeM S (φ h) (φ u) (img φ b)) where
 pos:=hS.pos
 zero:=hS.zero
 next:=hS.next
 lt:=hS.lt
 inj:=hS.inj
 node k hk:=by
  simp only [placeM] at hk ⊢
  rw [hS.updAt _ _ hh hk,hS.node h hh]
  by_cases e:k=h
  ·subst e;simp [upd,img_nat]
  ·rw [if_neg e,upd_ne e,hS.node k hk]
 kd k hk:=by
  simp only [placeM] at hk ⊢
  rw [hS.updAt _ _ hu hk,hS.kd u hu]
  by_cases e:k=u
  ·subst e
   rw [if_pos rfl,upd_at, ← img_nat φ h]
   exact insI_map (fun a ha q=>hS.img_inj (dom_kid hM hk ha) hb q) (hS.img0 hb)
  ·rw [if_neg e,upd_ne e,hS.kd k hk]
 onto k hk hl:=by
  simp only [placeM] at hk hl ⊢
  refine hS.onto k hk ?_
  unfold upd at hl
  split at hl
  ·rename_i e;subst e;exact hl
  ·exact hl
theorem Sim.take (hS : Sim φ M S) (hM : M.Ok R) {h : Nat} (hh : h < M.N) : Sim φ (takeM M h) (takeM S (φ h)) := by
  have hup:(S.st (φ h)).up=img φ (M.st h).up:=by rw [hS.node h hh]
  have hd:=dom_up hM hh
  simp only [Go.TA.upOf,Int.toNat_natCast] at hd
  unfold takeM
  rw [hup]
  rcases hd with e | ⟨p,hp,e⟩
  · rw [e]
    have:img φ (-1)<0:=by simp [img]
    rw [if_pos (by decide),if_pos this]
    exact hS
  · rw [e,img_nat,if_neg (by omega),if_neg (by omega),Int.toNat_natCast,Int.toNat_natCast]
    exact {
      pos:=hS.pos
      zero:=hS.zero
      next:=hS.next
      lt:=hS.lt
      inj:=hS.inj
      node:=fun k hk=>by
        simp only at hk ⊢
        rw [hS.updAt _ _ hh hk,hS.node h hh]
        by_cases e:k=h
        · subst e;simp [upd,img]
        · rw [if_neg e,upd_ne e,hS.node k hk]
      kd:=fun k hk=>by
        simp only at hk ⊢
        rw [hS.updAt _ _ hp hk,hS.kd p hp]
        by_cases e:k=p
        · subst e
          rw [if_pos rfl,upd_at, ← img_nat φ h]
          exact filter_map (fun a ha q=>hS.img_inj (dom_kid hM hk ha) (.inr ⟨h,hh,rfl⟩) q)
        · rw [if_neg e,upd_ne e,hS.kd k hk]
      onto:=fun k hk hl=>by
        simp only at hk hl ⊢
        refine hS.onto k hk ?_
        unfold upd at hl
        split at hl
        · rename_i e;subst e;exact hl
        · exact hl }
theorem Sim.endM (hS:Sim φ M S) (hM:M.Ok R) {h:Nat} (hh:h<M.N):Sim φ (endM M (h:Int)) (endM S (φ h:Int)) where
 pos:=hS.pos
 zero:=hS.zero
 next:=hS.next
 lt:=hS.lt
 inj:=hS.inj
 node k hk:=by
  simp only [Go.TA.endM] at hk ⊢
  have:=hS.below hM hh hk
  by_cases e:Below M (h:Int) (k:Int)
  ·rw [if_pos e,if_pos (this.2 e)];rfl
  ·rw [if_neg e,if_neg (fun q=>e (this.1 q)),hS.node k hk]
 kd k hk:=by
  simp only [Go.TA.endM] at hk ⊢
  have:=hS.below hM hh hk
  by_cases e:Below M (h:Int) (k:Int)
  ·rw [if_pos e,if_pos (this.2 e)];rfl
  ·rw [if_neg e,if_neg (fun q=>e (this.1 q)),hS.kd k hk]
 onto k hk hl:=by
  simp only [Go.TA.endM] at hk hl ⊢
  refine hS.onto k hk ?_
  split at hl
  ·simp [deadN] at hl
  ·exact hl
theorem Sim.create (hS : Sim φ M S) {x y : GOp} (ht : y.tag = x.tag) (hk0 : y.key = x.key) (hx : y.text = x.text) (ha : y.attrs = x.attrs) : Sim φ (M.create x) (S.create y) := by
  have hN : φ M.N=S.N:=by have:=hS.next 0;simpa using this
  have hne:∀ k,k<M.N → φ k≠S.N:=fun k hk=>by have:=hS.lt k hk;omega
  exact {
    pos:=by simp [MS.create]
    zero:=hS.zero
    next:=fun j=>by
      have:=hS.next (1+j)
      simp only [MS.create]
      rw [show M.N+1+j=M.N+(1+j) by omega,this]
      omega
    lt:=fun k hk=>by
      simp only [MS.create] at hk ⊢
      by_cases e:k=M.N
      · rw [e,hN];omega
      · have:=hS.lt k (by omega);omega
    inj:=fun k j hk hj e=>by
      simp only [MS.create] at hk hj
      by_cases e1:k=M.N <;> by_cases e2:j=M.N
      · omega
      · rw [e1,hN] at e;exact absurd e.symm (hne j (by omega))
      · rw [e2,hN] at e;exact absurd e (hne k (by omega))
      · exact hS.inj k j (by omega) (by omega) e
    node:=fun k hk=>by
      simp only [MS.create] at hk ⊢
      by_cases e:k=M.N
      · rw [e,hN,upd_at,upd_at,ht,hk0,hx,ha];rfl
      · rw [upd_ne (hne k (by omega)),upd_ne e,hS.node k (by omega)]
    kd:=fun k hk=>by
      simp only [MS.create] at hk ⊢
      by_cases e:k=M.N
      · rw [e,hN,upd_at,upd_at];rfl
      · rw [upd_ne (hne k (by omega)),upd_ne e,hS.kd k (by omega)]
    onto:=fun k hk hl=>by
      simp only [MS.create] at hk hl ⊢
      by_cases e:k=S.N
      · exact ⟨M.N,by omega,by rw [hN,e]⟩
      · rw [upd_ne e] at hl
        obtain ⟨h,h1,h2⟩:=hS.onto k (by omega) hl
        exact ⟨h,by omega,h2⟩ }
theorem Sim.setM (hS:Sim φ M S) {h:Nat} (hh:h<M.N) (a:List Attr):Sim φ (setM M h a) (setM S (φ h) a) where
 pos:=hS.pos
 zero:=hS.zero
 next:=hS.next
 lt:=hS.lt
 inj:=hS.inj
 node k hk:=by
  simp only [Go.TA.setM] at hk ⊢
  rw [hS.updAt _ _ hh hk,hS.node h hh]
  by_cases e:k=h
  ·subst e;simp [upd]
  ·rw [if_neg e,upd_ne e,hS.node k hk]
 kd k hk:=hS.kd k hk
 onto k hk hl:=by
  simp only [Go.TA.setM] at hk hl ⊢
  refine hS.onto k hk ?_
  unfold upd at hl
  split at hl
  ·rename_i e;subst e;exact hl
  ·exact hl
theorem Sim.textM (hS:Sim φ M S) {h:Nat} (hh:h<M.N) (a:Bs):Sim φ (textM M h a) (textM S (φ h) a) where
 pos:=hS.pos
 zero:=hS.zero
 next:=hS.next
 lt:=hS.lt
 inj:=hS.inj
 node k hk:=by
  simp only [Go.TA.textM] at hk ⊢
  rw [hS.updAt _ _ hh hk,hS.node h hh]
  by_cases e:k=h
  ·subst e;simp [upd]
  ·rw [if_neg e,upd_ne e,hS.node k hk]
 kd k hk:=hS.kd k hk
 onto k hk hl:=by
  simp only [Go.TA.textM] at hk hl ⊢
  refine hS.onto k hk ?_
  unfold upd at hl
  split at hl
  ·rename_i e;subst e;exact hl
  ·exact hl
end
end Go.TA


end
section
/- The machine of rows. Plain. -/
namespace Go.TA
def S0 (l:List GRow):MS:=⟨l.length+1,st0 l,kd0 l l.length⟩
theorem mem_kd0 {l:List GRow} {i h:Nat} {k:Int}:k ∈ kd0 l i h↔∃ j x,j<i∧l[j]? = some x∧x.up=(h:Int)∧k=(j:Int)+1:=by
  simp only [kd0,List.mem_map,List.mem_filter,List.mem_range]
  constructor
  · rintro ⟨j,⟨h1,h2⟩,rfl⟩
    cases hx:l[j]? with
    | none=>rw [hx] at h2;simp at h2
    | some x =>
      rw [hx] at h2
      exact ⟨j,x,h1,hx,by simpa using h2,rfl⟩
  · rintro ⟨j,x,h1,h2,h3,rfl⟩
    exact ⟨j,⟨h1,by simp [h2,h3]⟩,rfl⟩
theorem kd0_nodup (l:List GRow) (i h:Nat):(kd0 l i h).Nodup:=by
 unfold kd0
 rw [List.nodup_iff_pairwise_ne,List.pairwise_map]
 refine List.Pairwise.imp ?_ ((List.nodup_iff_pairwise_ne.1 List.nodup_range).filter _)
 intro a b hab
 omega
end Go.TA


end
