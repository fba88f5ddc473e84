/- Part 12 of 14 of a proof; joined from PdmBuilt, PdmRef13, PdmFormed, PdmTree, PdmMOps1, PdmMOps2, PdmMDel, PdmMTake, PdmMEnd, PdmOpsUsed, PdmOpsNone3, PdmOpsNone5, PdmOpsNone7, PdmOpsNone, PdmOpsSame, PdmOps25, PdmOpsPA, PdmOpsPB, PdmDoE, PdmMDo. What an operation does to a machine: the functions change, insert, move. -/
import Derived.Test.YtbgbmdjfogohnaaGreatDoorPd11
import Derived.Test.YtbgbmdjfogohnaaGreatDoorPd1
import Derived.Test.YtbgbmdjfogohnaaGreatDoorPd6
import Derived.Test.YtbgbmdjfogohnaaGreatDoorPd10
import Derived.Test.YtbgbmdjfogohnaaGreatDoorPd7
set_option linter.unusedSimpArgs false
set_option linter.unusedVariables false
set_option linter.defProp false
set_option maxRecDepth 100000
set_option maxHeartbeats 8000000
section
/- A document's nodes, made of rows: a machine of rows beside it. Plain. -/
namespace Go.TA
def fI (N0 u:Nat):Nat:=if u=0 then 0 else N0+u
theorem g8i {N0 u:Nat} (h:u≠0):fI N0 u=N0+u:=if_neg h
def T0 (l:List GRow) (i:Nat):MS:=⟨i+1,st0 l,kd0 l i⟩
def crO (x:GRow):GOp:=⟨1,0,0,0,x.tag,x.key,[],x.text,x.attrs⟩
def inO (h u:Int):GOp:=⟨2,h,u,0,[],[],[],[],[]⟩
theorem j2j {l:List GRow} (hs:b1k l l.length) (ha:∀ x ∈ l,x.attrs.length≤1048577) {i:Nat} (hi:i≤l.length):(T0 l i).Ok i:=by
  have hlive:∀ c,c<i+1→(st0 l c).live=true:=fun c hc=>by
    cases c with
    | zero=>rfl
    | succ j =>
      obtain ⟨x,hx⟩:=b0t (show j<l.length by omega)
      simp [st0,hx,b8j]
  have hup:∀ j x,l[j]? = some x→(st0 l (j+1)).up=x.up:=fun j x hx=>by simp [st0,hx,b8j]
  refine ⟨by simp [T0],⟨rfl,rfl⟩,fun p hp k hk => ?_,fun c hc => ?_,fun c hc hd => ?_,fun p hp=>d5k l i p,⟨fun c=>c,fun c hc=>by simp only [T0] at hc;show c≤i;omega,fun c p hc hu => ?_⟩,fun c hc => ?_⟩
  · obtain ⟨j,x,h1,h2,h3,rfl⟩:=d2m.1 hk
    exact ⟨j+1,by omega,by simp only [T0];omega,hlive _ (by omega),by simp only [T0];rw [hup j x h2];exact h3⟩
  · simp only [T0] at hc ⊢
    cases c with
    | zero=>exact .inl rfl
    | succ j =>
      obtain ⟨x,hx⟩:=b0t (show j<l.length by omega)
      have hst:=hs j x (by omega) hx
      refine .inr ⟨x.up.toNat,by omega, ?_,hlive _ (by omega),d2m.2 ⟨j,x,by omega,hx,by omega,by omega⟩⟩
      rw [hup j x hx];omega
  · simp only [T0] at hc hd
    rw [hlive c hc] at hd;cases hd
  · simp only [T0] at hc hu
    cases c with
    | zero=>simp [st0,b6i] at hu <;> omega
    | succ j =>
      obtain ⟨x,hx⟩:=b0t (show j<l.length by omega)
      have hst:=hs j x (by omega) hx
      rw [hup j x hx] at hu
      show p<j+1
      omega
  · simp only [T0] at hc ⊢
    cases c with
    | zero=>simp [st0,b6i]
    | succ j =>
      obtain ⟨x,hx⟩:=b0t (show j<l.length by omega)
      have:=ha x (List.mem_of_getElem? hx)
      simp only [st0,hx,Option.map_some,Option.getD_some,b8j]
      exact this
theorem Sim.congr {φ : Nat→Nat} {M M' S:MS} (h:Sim φ M S) (hN:M'.N=M.N) (hst:∀ k,k<M.N→M'.st k=M.st k) (hkd:∀ k,k<M.N→M'.kd k=M.kd k):Sim φ M' S where
 pos:=by rw [hN];exact h.pos
 zero:=h.zero
 next j:=by rw [hN];exact h.next j
 lt k hk:=h.lt k (by omega)
 inj k j hk hj:=h.inj k j (by omega) (by omega)
 node k hk:=by rw [hst k (by omega)];exact h.node k (by omega)
 kd k hk:=by rw [hkd k (by omega)];exact h.kd k (by omega)
 onto k hk hl:=by
  obtain ⟨j,h1,h2⟩:=h.onto k hk hl
  exact ⟨j,by omega,h2⟩
theorem h0s (l:List GRow) (N0:Nat):Sim (fI N0) (T0 l 0) (docS (N0+1)) where
  pos:=by simp [T0]
  zero:=rfl
  next j:=by
    show fI N0 (0+1+j)=N0+1+j
    rw [g8i (by omega)];omega
  lt k hk := by simp only [T0] at hk; obtain rfl : k = 0 := by omega
                simp [fI,docS]
  inj k j hk hj _:=by simp only [T0] at hk hj;omega
  node k hk:=by
    simp only [T0] at hk;obtain rfl:k=0:=by omega
    simp [fI,docS,T0,st0,b6i,img]
  kd k hk:=by
    simp only [T0] at hk;obtain rfl:k=0:=by omega
    simp [fI,docS,T0,h2n]
  onto k hk hl:=by
    simp only [docS] at hl
    split at hl
    · rename_i e;exact ⟨0,by simp [T0],by rw [e];rfl⟩
    · simp [c3x] at hl
theorem born {R:Nat} {S:MS} (hS:S.Ok R) (x:GOp) (hx:x.attrs.length≤1048577) {u:Nat} (hu:u<S.N) (hl:(S.st u).live=true):b4b (S.create x) S.N u 0=(0,b1s (S.create x) S.N u 0)∧(b1s (S.create x) S.N u 0).Ok (R+R+1):=by
 have hC:=hS.create x hx
 have hpos:=hS.pos
 have hN:(S.create x).N=S.N+1:=rfl
 have stN:(S.create x).st S.N=⟨true, -1,x.tag,x.key,x.text,x.attrs⟩:=by simp [MS.create,upd]
 have stu:(S.create x).st u=S.st u:=by simp only [MS.create];rw [b0i (by omega)]
 have st0':(S.create x).st 0=S.st 0:=by simp only [MS.create];rw [b0i (by omega)]
 have hlN:b2b (S.create x) (S.N:Int)=true:=by simp [b2b,stN,hN] <;> omega
 have hlu:b2b (S.create x) (u:Int)=true:=by simp [b2b,stu,hl,hN] <;> omega
 have hl0:b2b (S.create x) 0=true:=by simp [b2b,st0',hS.top.1,hN] <;> omega
 have hnb:¬ Below (S.create x) (S.N:Int) (u:Int):=fun hb=>by
  obtain ⟨k,hk,_⟩:=c9b hC hb u rfl (by omega) (by omega)
  simp [MS.create,upd] at hk
 have hub:b2e (S.create x) (u:Int) (S.N:Int)=false:=by
  cases h:b2e (S.create x) (u:Int) (S.N:Int) with
  | false=>rfl
  | true=>exact absurd (b1d.1 h) hnb
 have hf:fitE (S.create x) (S.N:Int)=0:=by simp only [fitE,hlN];rw [if_neg (by omega)];rfl
 have hupN:upOf (S.create x) (S.N:Int) = -1:=by simp [upOf,stN]
 refine ⟨?_,hC.place 0 (by omega) (by rw [stN]) hpos (by rw [stN]) (by omega) (by rw [stu];exact hl) hnb⟩
 unfold b4b
 rw [if_neg (by simp [hf]),if_neg (by simp [hlu,hl0]),if_neg (by omega),if_neg (by simp [hub]),if_neg (by simp)]
 simp
theorem h7y {l:List GRow} (hs:b1k l l.length) {i:Nat} {x:GRow} (hx:l[i]? = some x) {u:Nat} (hu:x.up=(u:Int)) :
  (∀ k,k<i+2→(T0 l (i+1)).st k=(b1s ((T0 l i).create (crO x)) (i+1) u 0).st k)∧∀ k,k<i+2→(T0 l (i+1)).kd k=(b1s ((T0 l i).create (crO x)) (i+1) u 0).kd k:=by
 have hil:=(List.getElem?_eq_some_iff.1 hx).1
 have hui:=hs i x hil hx
 refine ⟨fun k hk => ?_,fun k hk => ?_⟩
 ·simp only [T0,b1s,MS.create]
  by_cases e:k=i+1
  ·subst e
   rw [b0l,b0l]
   simp [st0,hx,b8j,crO,hu]
  ·rw [b0i e,b0i e]
 ·simp only [T0,b1s,MS.create]
  rw [g0w hx,hu]
  have hnew:∀ h,upd (kd0 l i) (i+1) [] h=kd0 l i h:=fun h=>by
   by_cases e:h=i+1
   ·subst e;rw [b0l,g7r (fun j y hj=>hs j y (by omega)) (by omega)]
   ·rw [b0i e]
  by_cases e:k=u
  ·subst e
   rw [b0l,hnew,if_pos rfl,insI,if_pos rfl,List.take_length,List.drop_length]
   simp
  ·rw [b0i e,hnew,if_neg (by omega)]
theorem g4b {l:List GRow} (hs:b1k l l.length) (ha:∀ x ∈ l,x.attrs.length≤1048577) {N0 i R:Nat} {S:MS} (hS:S.Ok R) (hM:Sim (fI N0) (T0 l i) S) {x:GRow} (hx:l[i]? = some x) {u:Nat} (hu:x.up=(u:Int)) (hal:b0v S.N (crO x)=0) :
    S.N=N0+1+i∧doD S (crO x)=((S.N:Int),0,S.create (crO x))∧doD (S.create (crO x)) (inO S.N (fI N0 u))=(0,0,b1s (S.create (crO x)) S.N (fI N0 u) 0)∧Sim (fI N0) (T0 l (i+1)) (b1s (S.create (crO x)) S.N (fI N0 u) 0):=by
  have hil:=(List.getElem?_eq_some_iff.1 hx).1
  have hui:=hs i x hil hx
  have hax:=ha x (List.mem_of_getElem? hx)
  have hSN:S.N=N0+1+i:=by
    have h:fI N0 (i+1+0)=S.N+0:=hM.next 0
    rw [g8i (by omega)] at h
    omega
  have hOk:=j2j hs ha (show i≤l.length by omega)
  have hTu:((T0 l i).st u).live=true:=by
    simp only [T0]
    cases u with
    | zero=>rfl
    | succ j =>
      obtain ⟨y,hy⟩:=b0t (show j<l.length by omega)
      simp [st0,hy,b8j]
  have huN:u<(T0 l i).N:=by simp only [T0];omega
  have h1:=hM.lt u huN
  have h2:(S.st (fI N0 u)).live=true:=by rw [hM.node u huN];exact hTu
  obtain ⟨b1,b2⟩:=born hS (crO x) hax h1 h2
  have hC:=hM.create (x:=crO x) (y:=crO x) rfl rfl rfl rfl
  have hP:=hC.place (hOk.create (crO x) hax) (h:=i+1) (u:=u) (b:=0) (by simp [MS.create,T0]) (by simp [MS.create,T0];omega) (.inr ⟨0,by simp [MS.create],rfl⟩)
  have e1:fI N0 (i+1)=S.N:=by rw [g8i (by omega)];omega
  have e2:img (fI N0) 0=0:=by simp [img,fI]
  rw [e1,e2] at hP
  obtain ⟨t1,t2⟩:=h7y hs hx hu
  refine ⟨hSN, ?_, ?_,hP.congr rfl (fun k hk=>t1 k (by simp only [b1s,MS.create,T0] at hk;omega)) (fun k hk=>t2 k (by simp only [b1s,MS.create,T0] at hk;omega))⟩
  · unfold doD;rw [if_pos (show (crO x).kind=1 from rfl),if_pos hal]
  · unfold doD;rw [if_neg (show ¬ (inO (S.N:Int) (fI N0 u)).kind=1 from fun e=>by cases e),if_pos (show (inO (S.N:Int) (fI N0 u)).kind=2 from rfl)]
    show ((0:Int),b4b (S.create (crO x)) (S.N:Int) (fI N0 u:Int) 0)=_
    rw [b1]
end Go.TA


end
section
/- Rows that stand as a tree's do: the document's answer. -/
namespace Go.TA.Tryz
def j2n (l:List GRow):AV:=.p (.list (l.map GRow.pv))
def b6z (r:Bool):Ex × St:=if r=true then (.ret,⟨[(6,.p (.bool true))],[],[]⟩) else (.exit 0,⟨[],[],[]⟩)
theorem c9z {l:List GRow} {i x:Nat} (h:b1k l i) (hi:i≤l.length) (hx:x<i):∃ r,l[x]? = some r∧r.up=(upAt l (x+1):Int):=by
 obtain ⟨r,hr⟩:=b0t (show x<l.length by omega)
 refine ⟨r,hr, ?_⟩
 have:=h x r hx hr
 simp [upAt,hr]
 omega
theorem g4p {n N : Nat} (l : List GRow) (h : Int) (i : Nat) (hs : b1k l i) (hi : i ≤ l.length) (hl : l.length ≤ 1048576) (hN : i < N) :
    b0r (b0g T n) N (.loop d1o) ⟨[(0,.p (.list (l.map GRow.pv))),(2,.p (.int .i64 h)),(7,.p (.int .i64 (i:Int)))],[],[]⟩=some (b6z (b3m l i h)):=by
  refine b1w (C:=b0g T n) (N:=N) (B:=d1o) (σ := Nat) (S:=fun x=>⟨[(0,.p (.list (l.map GRow.pv))),(2,.p (.int .i64 h)),(7,.p (.int .i64 x))],[],[]⟩) (I:=fun x=>x≤i) (μ := fun x=>x)
    (Φ := fun x=>b6z (b3m l x h)) ?_ i (Nat.le_refl _) hN
  intro x hx
  cases x with
  | zero =>
    refine .inr ⟨?_,by simp [b3m,b4k,b6z]⟩
    have e:b6z (b3m l 0 h)=(.exit 0,⟨[],[],[]⟩):=by simp [b3m,b4k,b6z]
    rw [e]
    simp -implicitDefEqProofs (disch:=omega) only [Rx,simprocAttr,d1o,Int.natCast_zero]
  | succ x =>
    obtain ⟨r,hr,hu⟩:=c9z hs hi (show x<i by omega)
    have hg:=b1l (f:=GRow.pv) hr
    have k1:(0:Int)<(x:Int)+1:=by omega
    have k2:(x:Int)<(l.length:Int):=by omega
    have hc:=b3k hs hi (show x<i by omega)
    by_cases he:((x:Int)+1)=h
    · have e:b3m l (x+1) h=true:=by
        simp only [b3m,hc,List.any_cons,Bool.or_eq_true,beq_iff_eq]
        left;push_cast;exact he
      have he':((x:Int)+1==h)=true:=by simpa using he
      refine .inr ⟨?_,by rw [e];simp [b6z]⟩
      rw [e]
      simp -implicitDefEqProofs (disch:=omega) only [Rx,simprocAttr,d1o,k1,he',b6z]
    · have e:b3m l (x+1) h=b3m l (upAt l (x+1)) h:=by
        simp only [b3m,hc,List.any_cons]
        have:(((x+1:Nat):Int)==h)=false:=by simp;omega
        rw [this,Bool.false_or]
      have he':((x:Int)+1==h)=false:=by simpa using he
      have hle:=b5q hs (show x<i by omega) (by omega)
      refine .inl ⟨upAt l (x+1), ?_,by omega,by omega,by rw [e]⟩
      simp -implicitDefEqProofs (disch:=omega) only [Rx,simprocAttr,d1o,k1,k2,he',hg,GRow.pv,hu]
theorem g9x (l:List GRow) (h:Int) (i:Nat) (hs:b1k l i) (hi:i≤l.length) (hl:l.length≤1048576) (g:List AObj) {n:Nat} (hn:i<n) :
    b0g T (n+1) 104 [.p (.list (l.map GRow.pv)),.p (.int .i64 i),.p (.int .i64 h)] g=some (.p (.bool (b3m l i h)),g):=by
  rw [b0a T104,run_pure rfl rfl rfl]
  have hloop:=g4p (n:=n) (N:=n) l h i hs hi hl hn
  cases hb:b3m l i h with
  | true =>
    rw [hb] at hloop
    simp only [b6z,if_true] at hloop
    simp -implicitDefEqProofs (disch:=omega) only [Rx,simprocAttr,F104,hloop]
  | false =>
    rw [hb] at hloop
    simp only [b6z,Bool.false_eq_true,if_false] at hloop
    simp -implicitDefEqProofs (disch:=omega) only [Rx,simprocAttr,F104,hloop]
theorem g3w {n N:Nat} (l:List GRow) (i:Nat) (hs:b1k l i) (hi:i≤l.length) (hl:l.length≤1048576) (hN:i<N) :
    b0r (b0g T n) N (.loop h0c) ⟨[(0,.p (.list (l.map GRow.pv))),(1,.p (.int .i64 (i:Int))),(5,.p (.int .i64 ((0:Nat):Int)))],[],[]⟩=some (.exit 0,⟨[(5,.p (.int .i64 ((b3n l i).length:Int)))],[],[]⟩):=by
  have:=b1w (C:=b0g T n) (N:=N) (B:=h0c) (σ := Nat × Nat) (S:=fun s=>⟨[(0,.p (.list (l.map GRow.pv))),(1,.p (.int .i64 s.1)),(5,.p (.int .i64 s.2))],[],[]⟩) (I:=fun s=>s.1≤i∧s.2+s.1≤i) (μ := fun s=>s.1)
    (Φ := fun s=>(.exit 0,⟨[(5,.p (.int .i64 ((s.2+(b3n l s.1).length:Nat):Int)))],[],[]⟩)) ?_ (i,0) ⟨Nat.le_refl _,by simp⟩ hN
  · simpa using this
  rintro ⟨x,d⟩ ⟨hx,hd⟩
  simp only at hx hd ⊢
  cases x with
  | zero =>
    refine .inr ⟨?_,by simp⟩
    simp only [b4k,List.length_nil,Nat.add_zero]
    simp -implicitDefEqProofs (disch:=omega) only [Rx,simprocAttr,h0c,Int.natCast_zero]
  | succ x =>
    obtain ⟨r,hr,hu⟩:=c9z hs hi (show x<i by omega)
    have hg:=b1l (f:=GRow.pv) hr
    have k1:(0:Int)<(x:Int)+1:=by omega
    have k2:(x:Int)<(l.length:Int):=by omega
    have hc:=b3k hs hi (show x<i by omega)
    have hle:=b5q hs (show x<i by omega) (by omega)
    refine .inl ⟨(upAt l (x+1),d+1), ?_,⟨by omega,by simp only;omega⟩,by simp only;omega, ?_⟩
    · simp -implicitDefEqProofs (disch:=omega) only [Rx,simprocAttr,h0c,k1,k2,hg,GRow.pv,hu]
    · rw [hc,List.length_cons];congr 6;simp only;omega
theorem g8w (l:List GRow) (i:Nat) (hs:b1k l i) (hi:i≤l.length) (hl:l.length≤1048576) (g:List AObj) {n:Nat} (hn:i<n) :
  b0g T (n+1) 51 [.p (.list (l.map GRow.pv)),.p (.int .i64 i)] g=some (.p (.int .i64 (b3n l i).length),g):=by
 rw [b0a T51,run_pure rfl rfl rfl]
 have hloop:=g3w (n:=n) (N:=n) l i hs hi hl hn
 simp only [Int.natCast_zero] at hloop
 simp -implicitDefEqProofs (disch:=omega) only [Rx,simprocAttr,F51,hloop]
def b3j (k:Nat) (r:Bool):Ex × St:=if r=true then (.exit 0,⟨[],[],[]⟩) else (.ret,⟨[(k,.p (.bool false))],[],[]⟩)
theorem d8v {n N : Nat} (l : List GRow) (hl : l.length ≤ 1048576) (hN : l.length < N) (hn : l.length < n) :
    b0r (b0g T (n+1)) N (.loop d3t) ⟨[(0,.p (.list (l.map GRow.pv))),(5,.p (.int .i64 l.length)),(6,.p (.int .i64 ((0:Nat):Int)))],[],[]⟩=some (b3j 2 (b4c l)):=by
  have:=b1w (C:=b0g T (n+1)) (N:=N) (B:=d3t) (σ := Nat) (S:=fun i=>⟨[(0,.p (.list (l.map GRow.pv))),(5,.p (.int .i64 l.length)),(6,.p (.int .i64 i))],[],[]⟩) (I:=fun i=>i≤l.length∧b1k l i) (μ := fun i=>l.length - i)
    (Φ := fun i=>b3j 2 (b1q l i (l.drop i))) ?_ 0 ⟨by omega,b9t l⟩ (by omega)
  · simpa [b4c] using this
  rintro i ⟨hi,hs⟩
  by_cases h:i<l.length
  · have k1:(i:Int)<(l.length:Int):=by omega
    obtain ⟨x,hx⟩:=b0t h
    have hg:=b1l (f:=GRow.pv) hx
    have hd:l.drop i=x::l.drop (i+1):=by rw [List.drop_eq_getElem?_toList_append,hx];rfl
    rw [hd]
    have bad:b3h l i x=false→b3j 2 (b1q l i (x::l.drop (i+1)))=(.ret,⟨[(2,.p (.bool false))],[],[]⟩):=fun h=>by simp [b1q,h,b3j]
    have good:b3h l i x=true→b3j 2 (b1q l i (x::l.drop (i+1)))=b3j 2 (b1q l (i+1) (l.drop (i+1))):=fun h=>by simp [b1q,h]
    cases i with
    | zero =>
      by_cases hu:x.up=0
      · have hr:b3h l 0 x=true:=by simp [b3h,hu]
        refine .inl ⟨1, ?_,⟨by omega,b8d hs (by omega) hx hr⟩,by omega,good hr⟩
        have hu':(x.up==0)=true:=by simp [hu]
        simp only [Int.natCast_zero,Int.natCast_one] at k1 ⊢
        have hg0:(l.map GRow.pv).getD 0 []=x.pv:=hg
        have e0:Int.toNat 0=0:=rfl
        simp -implicitDefEqProofs (disch:=omega) only [Rx,simprocAttr,d3t,k1,hg0,e0,GRow.pv,hu']
      · have hr:b3h l 0 x=false:=by simp [b3h,hu]
        refine .inr ?_
        rw [bad hr]
        refine ⟨?_,by simp⟩
        have hu':(x.up==0)=false:=by simp [hu]
        simp only [Int.natCast_zero,Int.natCast_one] at k1 ⊢
        have hg0:(l.map GRow.pv).getD 0 []=x.pv:=hg
        have e0:Int.toNat 0=0:=rfl
        simp -implicitDefEqProofs (disch:=omega) only [Rx,simprocAttr,d3t,k1,hg0,e0,GRow.pv,hu']
    | succ j =>
      have k0:((j:Int)+1==0)=false:=by simp;omega
      have k3:(0:Int)<(j:Int)+1:=by omega
      have k5:((j:Int)+1).toNat=j+1:=by omega
      simp only [Int.natCast_add,Int.natCast_one] at k1
      by_cases hu:x.up<1
      · have hr:b3h l (j+1) x=false:=by simp [b3h];intro h;omega
        refine .inr ?_
        rw [bad hr]
        refine ⟨?_,by simp⟩
        simp -implicitDefEqProofs (disch:=omega) only [Rx,simprocAttr,d3t,k0,k1,k3,k5,hg,GRow.pv,hu]
      · have hab:=g9x (n:=n) l x.up (j+1) hs (by omega) hl [] (by omega)
        simp only [Int.natCast_add,Int.natCast_one] at hab
        cases hb:b3m l (j+1) x.up with
        | true =>
          have hr:b3h l (j+1) x=true:=by simp [b3h,hb];omega
          refine .inl ⟨j+1+1, ?_,⟨by omega,b8d hs (by omega) hx hr⟩,by omega,good hr⟩
          simp -implicitDefEqProofs (disch:=omega) only [Rx,simprocAttr,d3t,k0,k1,k3,k5,hg,GRow.pv,hu,hab,hb]
        | false =>
          have hr:b3h l (j+1) x=false:=by simp [b3h,hb]
          refine .inr ?_
          rw [bad hr]
          refine ⟨?_,by simp⟩
          simp -implicitDefEqProofs (disch:=omega) only [Rx,simprocAttr,d3t,k0,k1,k3,k5,hg,GRow.pv,hu,hab,hb]
  · have k1:¬ (i:Int)<(l.length:Int):=by omega
    have e:l.drop i=[]:=List.drop_eq_nil_of_le (by omega)
    refine .inr ⟨?_,by rw [e];simp [b1q,b3j]⟩
    rw [e]
    simp -implicitDefEqProofs (disch:=omega) only [Rx,simprocAttr,d3t,k1,b1q,b3j]
theorem g3c (l:List GRow) (hl:l.length≤1048576) (g:List AObj) {n:Nat} (hn:l.length<n):b0g T (n+2) 50 [.p (.list (l.map GRow.pv))] g=some (.p (.bool (b4c l)),g):=by
  rw [b0a T50,run_pure rfl rfl rfl]
  have hloop:=d8v (n:=n) (N:=n+1) l hl (by omega) hn
  simp only [Int.natCast_zero] at hloop
  cases hb:b4c l with
  | true =>
    rw [hb] at hloop
    simp only [b3j,if_true] at hloop
    simp -implicitDefEqProofs (disch:=omega) only [Rx,simprocAttr,F50,hloop]
  | false =>
    rw [hb] at hloop
    simp only [b3j,Bool.false_eq_true,if_false] at hloop
    simp -implicitDefEqProofs (disch:=omega) only [Rx,simprocAttr,F50,hloop]
end Go.TA.Tryz


end
section
/- Rows that stand as a tree's do, and are not too deep: the program. -/
namespace Go.TA.Tryz
def b9s (l:List GRow) (h:Nat) (u:Int):Int:=if b3m l h u=true then u else 0
def d5o (l:List GRow) (i:Nat) (x:GRow) (h:Int):St:=⟨[(0,.p (.list (l.map GRow.pv))),(3,.p (.int .i64 i)),(4,.ptr false 4 6 1 0 0),(5,.p (.int .i64 h)),(6,.p (.list (l.map GRow.pv))),(7,.p (.int .i64 l.length)),(8,.p (.int .i64 i))],[(4,.pcells 6 [x.pv])],[]⟩
theorem d8u {n N : Nat} (l : List GRow) (i : Nat) (x : GRow) (hs : b1k l i) (hi : i ≤ l.length) (hl : l.length ≤ 1048576) (hN : i < N) :
    b0r (b0g T n) N (.loop d1m) (d5o l i x i)=some (.exit 2,d5o l i x (b9s l i x.up)):=by
  refine b1w (C:=b0g T n) (N:=N) (B:=d1m) (σ := Nat) (S:=fun h=>d5o l i x h) (I:=fun h=>h≤i) (μ := fun h=>h)
    (Φ := fun h=>(.exit 2,d5o l i x (b9s l h x.up))) ?_ i (Nat.le_refl _) hN
  intro h hh
  cases h with
  | zero =>
    refine .inr ⟨?_,by simp⟩
    have e:b9s l 0 x.up=0:=by simp [b9s,b3m,b4k]
    rw [e]
    simp -implicitDefEqProofs (disch:=omega) only [Rx,simprocAttr,d1m,d5o,GRow.pv,Int.natCast_zero]
  | succ h =>
    obtain ⟨r,hr,hu⟩:=c9z hs hi (show h<i by omega)
    have hg:=b1l (f:=GRow.pv) hr
    have k2:(h:Int)<(l.length:Int):=by omega
    have k0:((h:Int)+1==0)=false:=by simp;omega
    have hc:=b3k hs hi (show h<i by omega)
    cases he:((h:Int)+1==x.up) with
    | true =>
      have he':(h:Int)+1=x.up:=by simpa using he
      have e:b9s l (h+1) x.up=(h:Int)+1:=by
        have:b3m l (h+1) x.up=true:=by
          simp only [b3m,hc,List.any_cons,Bool.or_eq_true,beq_iff_eq]
          left;push_cast;exact he'
        simp [b9s,this,he']
      refine .inr ⟨?_,by simp⟩
      rw [e]
      simp -implicitDefEqProofs (disch:=omega) only [Rx,simprocAttr,d1m,d5o,GRow.pv,k0,he]
    | false =>
      have e:b9s l (h+1) x.up=b9s l (upAt l (h+1)) x.up:=by
        have:b3m l (h+1) x.up=b3m l (upAt l (h+1)) x.up:=by
          simp only [b3m,hc,List.any_cons]
          have:(((h+1:Nat):Int)==x.up)=false:=by simpa using he
          rw [this,Bool.false_or]
        simp only [b9s,this]
      have hle:=b5q hs (show h<i by omega) (by omega)
      refine .inl ⟨upAt l (h+1), ?_,by omega,by omega,by rw [e]⟩
      simp -implicitDefEqProofs (disch:=omega) only [Rx,simprocAttr,d1m,d5o,GRow.pv,k0,k2,he,hg,hu]
theorem g3b {n N : Nat} (l : List GRow) (hl : l.length ≤ 1048576) (hN : l.length < N) :
    b0r (b0g T n) N (.loop c6b) ⟨[(0,.p (.list (l.map GRow.pv))),(6,.p (.list (l.map GRow.pv))),(7,.p (.int .i64 l.length)),(8,.p (.int .i64 ((0:Nat):Int)))],[],[]⟩=some (b3j 2 (b4c l)):=by
  have:=b1w (C:=b0g T n) (N:=N) (B:=c6b) (σ := Nat) (S:=fun i=>⟨[(0,.p (.list (l.map GRow.pv))),(6,.p (.list (l.map GRow.pv))),(7,.p (.int .i64 l.length)),(8,.p (.int .i64 i))],[],[]⟩) (I:=fun i=>i≤l.length∧b1k l i) (μ := fun i=>l.length - i)
    (Φ := fun i=>b3j 2 (b1q l i (l.drop i))) ?_ 0 ⟨by omega,b9t l⟩ (by omega)
  · simpa [b4c] using this
  rintro i ⟨hi,hs⟩
  by_cases h:i<l.length
  · have k1:(i:Int)<(l.length:Int):=by omega
    obtain ⟨x,hx⟩:=b0t h
    have hg:=b1l (f:=GRow.pv) hx
    have hd:l.drop i=x::l.drop (i+1):=by rw [List.drop_eq_getElem?_toList_append,hx];rfl
    rw [hd]
    have bad:b3h l i x=false→b3j 2 (b1q l i (x::l.drop (i+1)))=(.ret,⟨[(2,.p (.bool false))],[],[]⟩):=fun h=>by simp [b1q,h,b3j]
    have good:b3h l i x=true→b3j 2 (b1q l i (x::l.drop (i+1)))=b3j 2 (b1q l (i+1) (l.drop (i+1))):=fun h=>by simp [b1q,h]
    have hin:=d8u (n:=n) (N:=N) l i x hs hi hl (by omega)
    simp only [d5o,GRow.pv] at hin
    cases hab:b3m l i x.up with
    | true =>
      have hpos:=h3y hab
      have hi0:i≠0:=fun e=>by subst e;simp [b3m,b4k] at hab
      have hr:b3h l i x=true:=by simp [b3h,hi0,hab];omega
      refine .inl ⟨i+1, ?_,⟨by omega,b8d hs (by omega) hx hr⟩,by omega,good hr⟩
      simp only [b9s,hab,if_true] at hin
      have k3:(x.up==0)=false:=by simp;omega
      have k4:((i:Int)==0)=false:=by simp;omega
      simp -implicitDefEqProofs (disch:=omega) only [Rx,simprocAttr,c6b,k1,hg,GRow.pv,hin,k3,k4]
    | false =>
      simp only [b9s,hab,Bool.false_eq_true,if_false] at hin
      by_cases hu:x.up=0
      · have k3:(0==x.up)=true:=by simp [hu]
        by_cases hi0:i=0
        · have hr:b3h l i x=true:=by simp [b3h,hi0,hu]
          refine .inl ⟨i+1, ?_,⟨by omega,b8d hs (by omega) hx hr⟩,by omega,good hr⟩
          have k4:((i:Int)==0)=true:=by simp [hi0]
          simp -implicitDefEqProofs (disch:=omega) only [Rx,simprocAttr,c6b,k1,hg,GRow.pv,hin,k3,k4]
        · have hr:b3h l i x=false:=by simp [b3h,hi0,hab]
          refine .inr ?_
          rw [bad hr]
          refine ⟨?_,by simp⟩
          have k4:((i:Int)==0)=false:=by simp;omega
          have k6:((true:Bool)==false)=false:=rfl
          simp -implicitDefEqProofs (disch:=omega) only [Rx,simprocAttr,c6b,k1,hg,GRow.pv,hin,k3,k4,k6]
      · have k3:(0==x.up)=false:=by simp;omega
        have hr:b3h l i x=false:=by
          simp only [b3h,hab,Bool.and_false]
          split
          · simpa using hu
          · rfl
        refine .inr ?_
        rw [bad hr]
        refine ⟨?_,by simp⟩
        simp -implicitDefEqProofs (disch:=omega) only [Rx,simprocAttr,c6b,k1,hg,GRow.pv,hin,k3]
  · have k1:¬ (i:Int)<(l.length:Int):=by omega
    have e:l.drop i=[]:=List.drop_eq_nil_of_le (by omega)
    refine .inr ⟨?_,by rw [e];simp [b1q,b3j]⟩
    rw [e]
    simp -implicitDefEqProofs (disch:=omega) only [Rx,simprocAttr,c6b,k1,b1q,b3j]
theorem d5p (l:List GRow) (hl:l.length≤1048576) (g:List AObj) {n:Nat} (hn:l.length<n):b0g T (n+1) 158 [.p (.list (l.map GRow.pv))] g=some (.p (.bool (b4c l)),g):=by
  rw [b0a T158,run_pure rfl rfl rfl]
  have hloop:=g3b (n:=n) (N:=n) l hl hn
  simp only [Int.natCast_zero] at hloop
  cases hb:b4c l with
  | true =>
    rw [hb] at hloop
    simp only [b3j,if_true] at hloop
    simp -implicitDefEqProofs (disch:=omega) only [Rx,simprocAttr,F158,hloop]
  | false =>
    rw [hb] at hloop
    simp only [b3j,Bool.false_eq_true,if_false] at hloop
    simp -implicitDefEqProofs (disch:=omega) only [Rx,simprocAttr,F158,hloop]
def b4e (l:List GRow) (i:Nat):List (List PV):=(List.range (l.length+1)).map fun h=>[.int .i64 (if h≤i then ((b3n l h).length:Int) else 0)]
theorem c1k (l:List GRow) (i:Nat):(b4e l i).length=l.length+1:=by simp [b4e]
theorem b7d (l:List GRow) {i h:Nat} (hh:h≤l.length):(b4e l i).getD h []=[.int .i64 (if h≤i then ((b3n l h).length:Int) else 0)]:=by
 rw [List.getD_eq_getElem?_getD,b4e,List.getElem?_map,List.getElem?_range (by omega)]
 rfl
theorem d0y (l:List GRow) {i:Nat} (hi:i<l.length):(b4e l i).set (i+1) [.int .i64 ((b3n l (i+1)).length:Int)]=b4e l (i+1):=by
 apply List.ext_getElem
 ·simp [b4e]
 ·intro k h1 h2
  rw [List.getElem_set]
  simp only [b4e,List.getElem_map,List.getElem_range]
  by_cases e:i+1=k
  ·subst e;simp
  ·rw [if_neg e]
   have:(k≤i)↔(k≤i+1):=by omega
   simp only [this]
theorem c8s (l:List GRow):List.replicate (l.length+1) [PV.int .i64 0]=b4e l 0:=by
 apply List.ext_getElem
 ·simp [b4e]
 ·intro k h1 h2
  simp only [List.getElem_replicate,b4e,List.getElem_map,List.getElem_range]
  by_cases e:k≤0
  ·obtain rfl:k=0:=by omega
   simp [b4k]
  ·simp [e]
def j0b (l:List GRow):Prop:=∀ i,i<l.length→(b3n l (i+1)).length≤64
end Go.TA.Tryz


end
section
/- The tree of rows, as the program builds it. -/
namespace Go.TA.Tryz
mutual
inductive BT (l:List GRow):Nat→Nat→List PV→Prop
 | mk {a b:Nat} {x:GRow} {ks:List (List PV)}:l[a]? = some x→BTs l a b ks→BT l a b (b0w x ks)
inductive BTs (l:List GRow):Nat→Nat→List (List PV)→Prop
 | nil {a:Nat}:BTs l a (a+1) []
 | snoc {a m b:Nat} {ks:List (List PV)} {k:List PV} {y:GRow}:BTs l a m ks→l[m]? = some y→y.up=(a:Int)+1→BT l m b k→BTs l a b (ks++[k])
end
mutual
theorem BT.lt {l:List GRow} {a b:Nat} {p:List PV}:BT l a b p→a<b∧b≤l.length
  | .mk hx h => by
    have:=BTs.lt h (List.getElem?_eq_some_iff.1 hx).1
    omega
theorem BTs.lt {l:List GRow} {a b:Nat} {ks:List (List PV)}:BTs l a b ks→a<l.length→a+1≤b∧b≤l.length∧ks.length+a+1≤b
  | .nil,ha=>⟨Nat.le_refl _,ha,by simp⟩
  | .snoc h _ _ h2, ha => by
    have h3:=BTs.lt h ha
    have h4:=BT.lt h2
    simp only [List.length_append,List.length_singleton]
    omega
end
theorem BT.len {l:List GRow} {a b:Nat} {p:List PV} (h:BT l a b p):p.length=5:=by
 cases h with
 | mk _ _=>rfl
theorem BTs.at {l:List GRow} {a b:Nat} {ks:List (List PV)} (h:BTs l a b ks):∀ (i:Nat) k,ks[i]? = some k→∃ m m' y,BTs l a m (ks.take i)∧l[m]? = some y∧y.up=(a:Int)+1∧BT l m m' k∧BTs l a m' (ks.take (i+1))∧m'≤b:=by
  match h with
  | .nil=>intro i k hk;simp at hk
  | .snoc (m := m) (ks := ks0) (k := k0) (y := y) h1 hy hu h2 =>
    intro i k hk
    by_cases hi:i<ks0.length
    · rw [List.getElem?_append_left hi] at hk
      obtain ⟨m1,m2,y1,q1,q2,q3,q4,q5,q6⟩:=BTs.at h1 i k hk
      have:=BT.lt h2
      refine ⟨m1,m2,y1, ?_,q2,q3,q4, ?_,by omega⟩
      · rw [List.take_append_of_le_length (by omega)];exact q1
      · rw [List.take_append_of_le_length (by omega)];exact q5
    · have hlt:=(List.getElem?_eq_some_iff.1 hk).1
      simp only [List.length_append,List.length_singleton] at hlt
      obtain rfl:i=ks0.length:=by omega
      rw [List.getElem?_append_right (Nat.le_refl _),Nat.sub_self] at hk
      simp only [List.getElem?_cons_zero,Option.some.injEq] at hk
      subst hk
      refine ⟨m,b,y, ?_,hy,hu,h2, ?_,Nat.le_refl _⟩
      · rw [List.take_append_of_le_length (Nat.le_refl _),List.take_length];exact h1
      · rw [List.take_of_length_le (by simp)];exact .snoc h1 hy hu h2
mutual
theorem BT.uniq {l:List GRow} {a b b':Nat} {p p':List PV}:BT l a b p→BT l a b' p'→p=p'→b=b'
  | .mk hx h, .mk hx' h', e => by
    simp only [b0w,List.cons.injEq,PV.list.injEq,and_true] at e
    exact BTs.uniq h h' e.2.2.2.2
theorem BTs.uniq {l:List GRow} {a b b':Nat} {ks ks':List (List PV)}:BTs l a b ks→BTs l a b' ks'→ks=ks'→b=b'
  | .nil,.nil,_=>rfl
  | .nil,.snoc _ _ _ _,e=>by simp at e
  | .snoc _ _ _ _,.nil,e=>by simp at e
  | .snoc h1 _ _ h2, .snoc h1' _ _ h2', e => by
    obtain ⟨e1,e2⟩:=List.append_inj' e rfl
    have e3:=BTs.uniq h1 h1' e1
    subst e3
    exact BT.uniq h2 h2' (by simpa using e2)
end
def d8l (ks:List (List PV)):AV:=match ks with
 | [] => .nils
 | _::_ => .own true 0 ks.length
theorem g7q (r:List Nat) (ks:List (List PV)):mentions r (d8l ks)=false:=by cases ks <;> simp [d8l,mentions]
def d8k (ks:List (List PV)):List AObj:=match ks with
 | []=>[]
 | _::_=>[.pcells 5 ks]
def c4e (x:GRow) (ks:List (List PV)):List (Nat × AObj):=[(4,.pcells 5 [[.str [],.str [],.str [],.list [],.list []]]),(7,.cells 5 [[.p (.str x.tag),.p (.str x.key),.p (.str x.text),.p (.list (x.attrs.map Attr.pv)),d8l ks]]),(1000,.pcells 5 [])]
def c5z (l:List GRow) (a:Nat) (x:GRow) (nx:Nat) (ks:List (List PV)):St:=⟨[(0,.p (.list (l.map GRow.pv))),(1,.p (.int .i64 a)),(4,.ptr false 4 5 1 0 0),(7,.ptr false 7 5 1 0 0),(8,.p (.int .i64 nx))],c4e x ks,d8k ks⟩
def j2q (l:List GRow) (a:Nat) (x:GRow) (r:Ex × St):Prop:=∃ nx ks,BTs l a nx ks∧(∀ y,l[nx]? = some y→y.up≠(a:Int)+1)∧r=(.exit 0,⟨[(4,.ptr false 4 5 1 0 0),(7,.ptr false 7 5 1 0 0),(8,.p (.int .i64 nx))],c4e x ks,d8k ks⟩)
end Go.TA.Tryz


end
section
/- What a machine's functions look at: does a node live, is it below another one. -/
namespace Go.TA.Tryz
abbrev MP:AV:=.ptr true 1 1 1 0 0
theorem c8f (S:MS) (av:Nat→AV) (rest:List AObj) (h:Int) (n:Nat):b0g T (n+1) 120 [MP,.p (.int .i64 h)] (b0m S.N S.st av rest)=some (.p (.bool (b2b S h)),b0m S.N S.st av rest):=by
 rw [b0a T120,b0e rfl rfl]
 have len1:(b0x S.N S.st av).length=S.N:=b2i
 by_cases h0:0≤h
 rotate_left
 ·have e:b2b S h=false:=by simp [b2b,h0]
  rw [e]
  simp only [b0m]
  simp -implicitDefEqProofs (disch:=omega) only [Rx,simprocAttr,F120,h0]
 obtain ⟨c,rfl⟩:=Int.eq_ofNat_of_zero_le h0
 by_cases h1:(c:Int)<(S.N:Int)
 rotate_left
 ·have e:b2b S (c:Int)=false:=by simp only [b2b,h1,decide_false,Bool.false_and,Bool.and_false]
  rw [e]
  simp only [b0m]
  simp -implicitDefEqProofs (disch:=omega) only [Rx,simprocAttr,F120,h0,h1]
 ·have hgn:(b0x S.N S.st av).getD c []=b1t (S.st c) (av c):=b1y (by omega)
  have e:b2b S (c:Int)=(S.st c).live:=by simp only [b2b,h0,h1,decide_true,Bool.true_and,Int.toNat_natCast]
  rw [e]
  simp only [b0m,b1t] at hgn ⊢
  simp -implicitDefEqProofs (disch:=omega) only [Rx,simprocAttr,F120,h0,h1,len1,hgn]
theorem h6m (S:MS) (av:Nat→AV) (rest:List AObj) (h:Int) (n:Nat):b0g T (n+2) 68 [MP,.p (.int .i64 h)] (b0m S.N S.st av rest)=some (.p (.int .i64 (fitE S h)),b0m S.N S.st av rest):=by
 rw [b0a T68,b0e rfl rfl]
 have hl:=c8f S av rest h n
 by_cases h0:h=0
 ·have e:(h==0)=true:=by simpa using h0
  simp -implicitDefEqProofs (disch:=omega) only [Rx,simprocAttr,F68,fitE,h0]
 have e:(h==0)=false:=by simpa using h0
 cases hv:b2b S h
 ·rw [hv] at hl
  simp -implicitDefEqProofs (disch:=omega) only [Rx,simprocAttr,F68,fitE,h0,e,hl,hv]
 ·rw [hv] at hl
  simp -implicitDefEqProofs (disch:=omega) only [Rx,simprocAttr,F68,fitE,h0,e,hl,hv]
theorem g1w {R : Nat} {S : MS} (hS : S.Ok R) (av : Nat → AV) (rest : List AObj) (t : Nat) (C : b0k) (N : Nat) (hN : R + 3 < N) (h : Nat) (hh : h < S.N) :
    b0r C N (.loop d1n) ⟨[(0,MP),(1,.p (.int .i64 h)),(2,.p (.int .i64 t))],[],b0m S.N S.st av rest⟩=some (if b2e S (h:Int) (t:Int)=true then (.ret,⟨[(6,.p (.bool true))],[],b0m S.N S.st av rest⟩) else (.exit 0,⟨[],[],b0m S.N S.st av rest⟩)):=by
  obtain ⟨r,hr1,hr2⟩:=hS.rank
  have len1:(b0x S.N S.st av).length=S.N:=b2i
  have key:=b2v (C:=C) (N:=N) (B:=d1n) (σ := Int) (S:=fun y=>⟨[(0,MP),(1,.p (.int .i64 y)),(2,.p (.int .i64 t))],[],b0m S.N S.st av rest⟩)
    (I:=fun y=>(y = -1∨∃ c:Nat,y=(c:Int)∧c<S.N)∧(Below S (t:Int) (h:Int)↔Below S (t:Int) y)) (μ := fun y=>if y<0 then 0 else r y.toNat+1)
    (Q:=fun q=>q=(if b2e S (h:Int) (t:Int)=true then (.ret,⟨[(6,.p (.bool true))],[],b0m S.N S.st av rest⟩) else (.exit 0,⟨[],[],b0m S.N S.st av rest⟩))) ?_ (h:Int) ⟨.inr ⟨h,rfl,hh⟩,Iff.rfl⟩ (by
      have:=hr1 h hh
      simp only [Int.toNat_natCast]
      split <;> omega)
  · obtain ⟨q,hq,rfl⟩:=key
    exact hq
  rintro y ⟨hy,hb⟩
  rcases hy with rfl | ⟨c,rfl,hc⟩
  · right
    have hf:¬ Below S (t:Int) (h:Int):=fun q=>c0o (by omega) (hb.1 q)
    refine ⟨_, ?_, ?_,rfl⟩
    · rw [if_neg (fun q=>hf (b1d.1 q))]
      simp -implicitDefEqProofs (disch:=omega) only [Rx,simprocAttr,d1n]
    · rw [if_neg (fun q=>hf (b1d.1 q))];simp
  by_cases e:c=t
  · subst e
    right
    have hf:Below S (c:Int) (h:Int):=hb.2 .here
    refine ⟨_, ?_, ?_,rfl⟩
    · rw [if_pos (b1d.2 hf)]
      have k0:(0:Int)≤(c:Int):=by omega
      simp -implicitDefEqProofs (disch:=omega) only [Rx,simprocAttr,d1n,k0]
    · rw [if_pos (b1d.2 hf)];simp
  · left
    have e1:((c:Int)==(t:Int))=false:=by simp;omega
    have k0:(0:Int)≤(c:Int):=by omega
    have k1:(c:Int)<(S.N:Int):=by omega
    have hgn:(b0x S.N S.st av).getD c []=b1t (S.st c) (av c):=b1y hc
    refine ⟨(S.st c).up, ?_,⟨?_, ?_⟩, ?_⟩
    · simp only [b0m,b1t] at hgn ⊢
      simp -implicitDefEqProofs (disch:=omega) only [Rx,simprocAttr,d1n,k0,k1,e1,len1,hgn]
    · rcases hS.up c hc with h1 | ⟨p,h1,h2,_⟩
      · exact .inl h1
      · exact .inr ⟨p,h2,h1⟩
    · rw [hb,c0p (by omega) (by omega)];rfl
    · have e2:¬ (c:Int)<0:=by omega
      simp only [Int.toNat_natCast,e2,if_false]
      rcases hS.up c hc with h1 | ⟨p,h1,h2,_⟩
      · rw [h1];simp
      · have:=hr2 c p hc h2
        rw [h2,Int.toNat_natCast]
        split <;> omega
theorem g5k {R:Nat} {S:MS} (hS:S.Ok R) (av:Nat→AV) (rest:List AObj) (t h:Nat) (hh:h<S.N) {n:Nat} (hn:R+3<n):b0g T (n+1) 121 [MP,.p (.int .i64 h),.p (.int .i64 t)] (b0m S.N S.st av rest)=some (.p (.bool (b2e S h t)),b0m S.N S.st av rest):=by
 rw [b0a T121,b0e rfl rfl]
 have hl:=g1w hS av rest t (b0g T n) n hn h hh
 by_cases hb:Below S (t:Int) (h:Int)
 ·have e:b2e S h t=true:=by simp [b2e,hb]
  rw [if_pos e] at hl
  simp -implicitDefEqProofs (disch:=omega) only [Rx,simprocAttr,F121,hl,e]
 ·have e:b2e S h t=false:=by simp [b2e,hb]
  rw [if_neg (by rw [e];simp)] at hl
  simp -implicitDefEqProofs (disch:=omega) only [Rx,simprocAttr,F121,hl,e]
end Go.TA.Tryz


end
section
/- A node is put below another one; a node is taken out. -/
namespace Go.TA.Tryz
theorem h2o (l:List Int):((b0p l).all fun x=>x.length==1)=true:=by simp [List.all_eq_true,b0p]
def killed (rest:List AObj):AV→List AObj
 | .own true (r+2) _=>rest.set r .dead
 | _=>rest
theorem c1c (rest:List AObj) (a:AV):(killed rest a).length=rest.length:=by
 unfold killed;split <;> simp
theorem KRep.killed {rest:List AObj} {a a':AV} {ks':List Int} (h:KRep rest a' ks') (h2:b2o a'=none∨b2o a'≠b2o a):KRep (killed rest a) a' ks':=by
 unfold Go.TA.Tryz.killed
 split
 ·rename_i r m
  refine h.set ?_
  rcases h2 with h2 | h2
  ·rw [h2];simp
  ·exact h2
 ·exact h
theorem d1b {rest:List AObj} {a:AV} {ks:List Int} (hK:KRep rest a ks) (hl:ks.length≤4194304) (A B:AObj) (n:Nat):b0g T (n+1) 78 [a] (A::B::rest)=some (.own true (rest.length+1+1) ks.length,A::B::(killed rest a++[.pcells 1 (b0p ks)])):=by
 rw [b4y T78]
 have h2:=h2o ks
 have h4:=b3c ks
 have h3:ks.length*4096≤140737488355328:=by omega
 rcases hK.inv with ⟨rfl,rfl⟩ | ⟨r,rfl,hr⟩ | rfl
 ·simp [b6k,thaw,c0n,c5m,b0p,killed]
 ·have hr':(A::B::rest)[r+1+1]? = some (.pcells 1 (b0p ks)):=by simpa using hr
  simp only [b6k,thaw,hr',h4,if_true,c0n,c5m,h2,h3,and_self,killed,List.set_cons_succ,List.length_cons,List.length_set,List.cons_append]
 ·simp only [b6k,thaw,h4,c0n,c5m,h2,h3,and_self,killed,if_true,List.length_cons,List.cons_append]
theorem d8q (X:List AObj) (ks:List Int) (at':Nat) (h:Int) (hat:at'≤ks.length) (hl:ks.length≤4194304) (A B:AObj) (n:Nat):b0g T (n+1) 169 [.own true (X.length+1+1) ks.length,.p (.int .i64 at'),.p (.list [[.int .i64 h]])] (A::B::(X++[.pcells 1 (b0p ks)]))=some (.p (.list (b0p (ks.take at'++h::ks.drop at'))),A::B::(X++[.dead])):=by
 rw [b4y T169]
 have hr':(A::B::(X++[.pcells 1 (b0p ks)]))[X.length+1+1]? = some (.pcells 1 (b0p ks)):=by simp
 have h4:=b3c ks
 have h5:(ks.length+1)*4096≤140737488355328:=by omega
 have h6:(at':Int)≤(ks.length:Int):=by omega
 have e1:(b0p ks).take at'++[[PV.int .i64 h]]++(b0p ks).drop at'=b0p (ks.take at'++h::ks.drop at'):=by
  simp [b0p,List.map_take,List.map_drop]
 have e2:(X++[AObj.pcells 1 (b0p ks)]).set X.length .dead=X++[.dead]:=by simp [List.set_append]
 simp only [b7x,hr',h4,true_and,List.all_cons,List.all_nil,List.length_cons,List.length_nil,Bool.and_true,beq_self_eq_true,Nat.zero_add,Nat.lt_irrefl,Nat.zero_lt_one,h5,h6,Int.natCast_nonneg,Int.toNat_natCast,and_self,if_true,List.set_cons_succ,e2]
 rw [← e1]
theorem g2y (l:List Int) (v:Int) (hv:v ∈ l) (hl:l.length≤4194304) (g:List AObj) {n:Nat} (hn:l.length<n):b0g T (n+1) 150 [.p (.list (b0p l)),.p (.int .i64 v)] g=some (.p (.int .i64 (l.idxOf v)),g):=by
 have hlt:=List.idxOf_lt_length_iff.2 hv
 have il:=b3c l
 have key:=b2v (C:=b0g T n) (N:=n) (B:=g1u) (σ := Nat) (S:=fun i=>⟨[(0,.p (.list (b0p l))),(1,.p (.int .i64 v)),(7,.p (.int .i64 l.length)),(8,.p (.int .i64 i))],[],[]⟩)
  (I:=fun i=>i≤l.idxOf v) (μ := fun i=>l.length - i) (Q:=fun q=>q=(.ret,⟨[(4,.p (.int .i64 (l.idxOf v)))],[],[]⟩)) ?_ 0 (by omega) (by omega)
 ·obtain ⟨q,hq,rfl⟩:=key
  simp only [Int.natCast_zero] at hq
  rw [b0a T150,run_pure rfl rfl rfl]
  simp -implicitDefEqProofs (disch:=omega) only [Rx,simprocAttr,F150,hq,il]
 intro i hi
 have hil:i<l.length:=by omega
 have k1:(i:Int)<(l.length:Int):=by omega
 have hg:=b7b (List.getElem?_eq_getElem hil)
 by_cases e:i=l.idxOf v
 ·right
  have hx:l[i]=v:=by subst e;exact List.getElem_idxOf hlt
  refine ⟨_, ?_, ?_,rfl⟩
  ·have e1:(v==l[i])=true:=by simp [hx]
   rw [← e]
   simp -implicitDefEqProofs (disch:=omega) only [Rx,simprocAttr,g1u,k1,hg,e1,il]
  ·simp
 ·left
  have hx:(v==l[i])=false:=by
   have h9:=List.not_of_lt_findIdx (xs:=l) (p:=fun x=>x==v) (i:=i) (by unfold List.idxOf at hi e;omega)
   have h10:¬ v=l[i]:=fun hq=>by rw [← hq] at h9;simp at h9
   simpa using h10
  refine ⟨i+1, ?_,by omega,by omega⟩
  simp -implicitDefEqProofs (disch:=omega) only [Rx,simprocAttr,g1u,k1,hg,hx,il]
theorem MOk.fixed {N:Nat} {av:Nat→AV} {kd:Nat→List Int} {rest:List AObj} (h:MOk N av kd rest) {u:Nat} (hu:u<N) (ks:List Int) (more:List AObj):MOk N (upd av u (.p (.list (b0p ks)))) (upd kd u ks) (killed rest (av u)++more) where
 kids k hk:=by
  by_cases e:k=u
  ·subst e;rw [b0l,b0l];exact .list
  ·rw [b0i e,b0i e]
   refine KRep.more (Go.TA.Tryz.KRep.killed (h.kids k hk) ?_) _
   exact h.disj k u hk hu e
 disj:=(h.fix hu ks).disj
theorem Fr.fixed {N:Nat} {av:Nat→AV} {rest:List AObj} {u:Nat} (hu:u<N) (ks:List (List PV)) (more:List AObj):Fr N av rest N (upd av u (.p (.list ks))) (killed rest (av u)++more) where
 len:=by rw [List.length_append,c1c];omega
 keep j hj hn:=by
  rw [List.getElem?_append_left (by rw [c1c];exact hj)]
  have:=hn u hu
  unfold killed
  split
  ·rename_i r m e
   rw [e] at this
   simp only [b2o,ne_eq,Option.some.injEq] at this
   rw [List.getElem?_set,if_neg (by omega)]
  ·rfl
 refs h hh j hj _:=by
  by_cases e:h=u
  ·subst e;rw [b0l] at hj;cases hj
  ·rw [b0i e] at hj;exact ⟨h,hh,hj⟩
theorem d4q {R:Nat} {S:MS} (hS:S.Ok R) (hN:S.N≤4194304) (av:Nat→AV) (rest:List AObj) (hM:MOk S.N av S.kd rest) (h u:Nat) (b:Int) (hh:h<S.N) (hu:u<S.N) (hb:b=0∨b ∈ S.kd u) {n:Nat} (hn:S.N<n) :
  ∃ av' rest',b0g T (n+2) 122 [MP,.p (.int .i64 h),.p (.int .i64 u),.p (.int .i64 b)] (b0m S.N S.st av rest)=some (.tuple [],b0m S.N (b1s S h u b).st av' rest')∧MOk S.N av' (b1s S h u b).kd rest'∧Fr S.N av rest S.N av' rest':=by
 have hK:=hM.kids u hu
 have hkl:=hS.kids_len hu
 have len1:∀ st av,(b0x S.N st av).length=S.N:=fun _ _=>b2i
 have hgu:(b0x S.N S.st av).getD u []=b1t (S.st u) (av u):=b1y hu
 have k1:(u:Int)<(S.N:Int):=by omega
 have k2:(h:Int)<(S.N:Int):=by omega
 generalize hat:(if b=0 then (S.kd u).length else (S.kd u).idxOf b)=at'
 have hatl:at'≤(S.kd u).length:=by
  rw [← hat]
  split
  ·exact Nat.le_refl _
  ·exact List.idxOf_le_length
 have hins:=fun A B=>d8q (killed rest (av u)) (S.kd u) at' (h:Int) hatl (by omega) A B n
 have hcl:=fun A B=>d1b hK (by omega) A B n
 rw [c1c] at hins
 have il:=b3c (S.kd u)
 have hres:insI (S.kd u) (h:Int) b=(S.kd u).take at'++(h:Int)::(S.kd u).drop at':=by rw [← hat];rfl
 refine ⟨upd av u (.p (.list (b0p (insI (S.kd u) (h:Int) b)))),killed rest (av u)++[.dead], ?_,by exact Go.TA.Tryz.MOk.fixed hM hu (insI (S.kd u) (h:Int) b) [.dead],Go.TA.Tryz.Fr.fixed hu _ _⟩
 rw [hres]
 generalize hres2:(S.kd u).take at'++(h:Int)::(S.kd u).drop at'=ks' at hins
 have hset1:(b0x S.N S.st av).set u [.p (.bool (S.st u).live),.p (.int .i64 (S.st u).up),.p (.list (b0p ks')),.p (.str (S.st u).tag),.p (.str (S.st u).key),.p (.str (S.st u).text),.p (.list ((S.st u).attrs.map Attr.pv))]=b0x S.N S.st (upd av u (.p (.list (b0p ks')))):=by
  have:=b5s (N:=S.N) (st:=S.st) (av:=av) hu (S.st u) (.p (.list (b0p ks')))
  simp only [b1t] at this
  rw [this]
  refine b3p fun k hk=>⟨?_,rfl⟩
  by_cases e:k=u
  ·subst e;rw [b0l]
  ·rw [b0i e]
 have hgh:(b0x S.N S.st (upd av u (.p (.list (b0p ks'))))).getD h []=b1t (S.st h) (upd av u (.p (.list (b0p ks'))) h):=b1y hh
 generalize hah:upd av u (.p (.list (b0p ks'))) h=ah at hgh
 have hset2:(b0x S.N S.st (upd av u (.p (.list (b0p ks'))))).set h [.p (.bool (S.st h).live),.p (.int .i64 u),ah,.p (.str (S.st h).tag),.p (.str (S.st h).key),.p (.str (S.st h).text),.p (.list ((S.st h).attrs.map Attr.pv))]=b0x S.N (b1s S h u b).st (upd av u (.p (.list (b0p ks')))):=by
  have:=b5s (N:=S.N) (st:=S.st) (av:=upd av u (.p (.list (b0p ks')))) hh { S.st h with up:=(u:Int) } ah
  simp only [b1t] at this
  rw [this]
  refine b3p fun k hk=>⟨rfl, ?_⟩
  by_cases e:k=h
  ·subst e;rw [b0l,hah]
  ·rw [b0i e]
 rw [b0a T122,b0e rfl rfl]
 simp only [b1t] at hgu hgh
 by_cases hb0:b=0
 ·have eb:(b==0)=true:=by simpa using hb0
  have eb2:(b != 0)=false:=by simp [hb0]
  rw [if_pos hb0] at hat
  subst hat
  rcases hK.inv with ⟨hav,hk0⟩ | ⟨r,hav,hr⟩ | hav
  ·rw [hav] at hcl hins hgu
   simp only [hk0,List.length_nil,Int.natCast_zero] at hcl hins
   simp only [b0m,hav]
   simp -implicitDefEqProofs (disch:=omega) only [Rx,simprocAttr,F122,k1,k2,len1,hgu,hgh,hset1,hset2,hcl,hins,eb]
  ·rw [hav] at hcl hins hgu
   simp only [b0m,hav]
   simp -implicitDefEqProofs (disch:=omega) only [Rx,simprocAttr,F122,k1,k2,len1,hgu,hgh,hset1,hset2,hcl,hins,eb]
  ·rw [hav] at hcl hins hgu
   simp only [b0m,hav]
   simp -implicitDefEqProofs (disch:=omega) only [Rx,simprocAttr,F122,k1,k2,len1,hgu,hgh,hset1,hset2,hcl,hins,il,eb]
 ·have eb:(b==0)=false:=by simpa using hb0
  have eb2:(b != 0)=true:=by simp [hb0]
  have hbm:b ∈ S.kd u:=by rcases hb with h1 | h1;exact absurd h1 hb0;exact h1
  have hix:=fun g=>g2y (S.kd u) b hbm (by omega) g (n:=n) (by omega)
  rw [if_neg hb0] at hat
  rw [hat] at hix
  rcases hK.inv with ⟨hav,hk0⟩ | ⟨r,hav,hr⟩ | hav
  ·rw [hk0] at hbm;simp at hbm
  ·rw [hav] at hcl hins hgu
   simp only [b0m,hav]
   simp -implicitDefEqProofs (disch:=omega) only [Rx,simprocAttr,F122,k1,k2,len1,hgu,hgh,hset1,hset2,hcl,hins,hix,il,eb,hr]
  ·rw [hav] at hcl hins hgu
   simp only [b0m,hav]
   simp -implicitDefEqProofs (disch:=omega) only [Rx,simprocAttr,F122,k1,k2,len1,hgu,hgh,hset1,hset2,hcl,hins,hix,il,eb]
end Go.TA.Tryz


end
section
/- slices.DeleteFunc on a row of numbers that was cloned: the numbers that are another one. -/
namespace Go.TA.Tryz
def notH (h:Int) (x:Int):Bool := !(x==h)
section
variable {h:Int} {kb k:Nat}
theorem g9c (x:Int) (g:List AObj) (hkb:g[kb]? = some (.pcells 1 [[.int .i64 h]])) (n:Nat):b0g T (n+1) 124 [.p (.int .i64 x),.ptr true kb 1 1 0 0] g=some (.p (.bool (x==h)),g):=by
 rw [b0a T124,b0e rfl rfl]
 have e0:Int.toNat 0=0:=rfl
 simp -implicitDefEqProofs (disch:=omega) only [Rx,simprocAttr,F124,hkb]
theorem g8e (ks : List Int) (g : List AObj) (hk : g[k]? = some (.pcells 1 (b0p ks))) (hkb : g[kb]? = some (.pcells 1 [[.int .i64 h]])) (hl : ks.length ≤ 4194304) {n : Nat} (hn : ks.length + 1 < n) :
    b0g T (n+2) 170 [.own true k ks.length,.func 124 [.ptr true kb 1 1 0 0]] g=some (.p (.int .i64 (if ks.findIdx (· == h)<ks.length then (ks.findIdx (· == h):Int) else -1)),g):=by
  have il:=b3c ks
  have key:=b2v (C:=b0g T (n+1)) (N:=n+1) (B:=d6y) (σ := Nat) (S:=fun i=>⟨[(0,.own true k ks.length),(1,.func 124 [.ptr true kb 1 1 0 0]),(7,.p (.int .i64 ks.length)),(8,.p (.int .i64 i))],[],g⟩)
    (I:=fun i=>i≤ks.length∧i≤ks.findIdx (· == h)) (μ := fun i=>ks.length - i) (Q:=fun q=>q=if ks.findIdx (· == h)<ks.length then (.ret,⟨[(4,.p (.int .i64 (ks.findIdx (· == h))))],[],g⟩) else (.exit 0,⟨[],[],g⟩)) ?_ 0 ⟨by omega,by omega⟩ (by omega)
  · obtain ⟨q,hq,rfl⟩:=key
    simp only [Int.natCast_zero] at hq
    rw [b0a T170,b0e rfl rfl]
    by_cases hc:ks.findIdx (· == h)<ks.length
    · rw [if_pos hc] at hq
      rw [if_pos hc]
      simp -implicitDefEqProofs (disch:=omega) only [Rx,simprocAttr,F170,hq]
    · rw [if_neg hc] at hq
      rw [if_neg hc]
      simp -implicitDefEqProofs (disch:=omega) only [Rx,simprocAttr,F170,hq]
  rintro i ⟨h1,h2⟩
  by_cases hi:i<ks.length
  · have k1:(i:Int)<(ks.length:Int):=by omega
    have hg:=b7b (List.getElem?_eq_getElem hi)
    have hc:=g9c (h:=h) ks[i] g hkb n
    by_cases e:i=ks.findIdx (· == h)
    · right
      have hp:(ks[i]==h)=true:=by
        have:=List.findIdx_getElem (xs:=ks) (p:=(· == h)) (w:=by omega)
        subst e;exact this
      rw [hp] at hc
      refine ⟨_, ?_, ?_,rfl⟩
      · rw [if_pos (by omega), ← e]
        simp -implicitDefEqProofs (disch:=omega) only [Rx,simprocAttr,d6y,k1,hg,hk,hc,il]
      · rw [if_pos (by omega)];simp
    · left
      have hp:(ks[i]==h)=false:=by
        have:=List.not_of_lt_findIdx (xs:=ks) (p:=(· == h)) (i:=i) (by omega)
        simpa using this
      rw [hp] at hc
      refine ⟨i+1, ?_,⟨by omega,by omega⟩,by omega⟩
      simp -implicitDefEqProofs (disch:=omega) only [Rx,simprocAttr,d6y,k1,hg,hk,hc,il]
  · right
    obtain rfl:i=ks.length:=by omega
    have k1:¬ (ks.length:Int)<(ks.length:Int):=by omega
    refine ⟨_, ?_, ?_,rfl⟩
    · rw [if_neg (by omega)]
      simp -implicitDefEqProofs (disch:=omega) only [Rx,simprocAttr,d6y,k1]
    · rw [if_neg (by omega)];simp
theorem g8y (ks:List Int) (g:List AObj) (hk:k<g.length) (hkb:g[kb]? = some (.pcells 1 [[.int .i64 h]])) (hne:k≠kb) (hl:ks.length≤4194304) (n N:Nat) (hN:ks.length<N) (j0 i0:Nat) (h0:b7r (notH h) ks j0 i0 ks) (hj0:j0≤ks.length) :
    ∃ cur i,b0r (b0g T (n+1)) N (.loop b6e) ⟨[(0,.own true k ks.length),(1,.func 124 [.ptr true kb 1 1 0 0]),(5,.p (.int .i64 i0)),(6,.p (.int .i64 j0))],[],g.set k (.pcells 1 (b0p ks))⟩=some (.exit 0,⟨[(0,.own true k ks.length),(5,.p (.int .i64 (i:Nat)))],[],g.set k (.pcells 1 (b0p cur))⟩)∧b7r (notH h) ks ks.length i cur:=by
  have key:=b2v (C:=b0g T (n+1)) (N:=N) (B:=b6e) (σ := Nat × Nat × List Int) (S:=fun s=>⟨[(0,.own true k ks.length),(1,.func 124 [.ptr true kb 1 1 0 0]),(5,.p (.int .i64 s.1)),(6,.p (.int .i64 s.2.1))],[],g.set k (.pcells 1 (b0p s.2.2))⟩)
    (I:=fun s=>s.2.1≤ks.length∧b7r (notH h) ks s.2.1 s.1 s.2.2) (μ := fun s=>ks.length - s.2.1) (Q:=fun q=>∃ cur i,q=(.exit 0,⟨[(0,.own true k ks.length),(5,.p (.int .i64 (i:Nat)))],[],g.set k (.pcells 1 (b0p cur))⟩)∧b7r (notH h) ks ks.length i cur) ?_ (i0,j0,ks) ⟨hj0,h0⟩ (by simp only;omega)
  · obtain ⟨q,hq,cur,i,rfl,hg⟩:=key
    exact ⟨cur,i,hq,hg⟩
  rintro ⟨i,j,cur⟩ ⟨h1,h2⟩
  simp only at h1 h2 ⊢
  have hgk:(g.set k (.pcells 1 (b0p cur)))[k]? = some (.pcells 1 (b0p cur)):=by rw [List.getElem?_set,if_pos rfl,if_pos hk]
  have hgb:(g.set k (.pcells 1 (b0p cur)))[kb]? = some (.pcells 1 [[.int .i64 h]]):=by rw [List.getElem?_set,if_neg hne];exact hkb
  have hss:∀ o o':AObj,(g.set k o).set k o'=g.set k o':=fun o o'=>by simp
  have il:=b3c cur
  rw [h2.len] at il
  have hlt:=h2.lt
  by_cases hj:j<ks.length
  · left
    obtain ⟨x,hx⟩:∃ x,ks[j]? = some x:=⟨_,List.getElem?_eq_getElem hj⟩
    have k1:(j:Int)<(ks.length:Int):=by omega
    have k2:(i:Int)<(ks.length:Int):=by omega
    have hg:=b7b (h2.at.trans hx)
    have hc:=g9c (h:=h) x (g.set k (.pcells 1 (b0p cur))) hgb n
    cases hp:(x==h) with
    | true =>
      rw [hp] at hc
      refine ⟨(i,j+1,cur), ?_,⟨by simp only;omega,h2.skip hx (by simp [notH,hp])⟩,by simp only;omega⟩
      simp -implicitDefEqProofs (disch:=omega) only [Rx,simprocAttr,b6e,k1,hg,hgk,hc,il]
    | false =>
      rw [hp] at hc
      have hset:(b0p cur).set i [.int .i64 x]=b0p (cur.set i x):=by simp [b0p,List.map_set]
      have hgi:=b7b (List.getElem?_eq_getElem (show i<cur.length by rw [h2.len];omega))
      refine ⟨(i+1,j+1,cur.set i x), ?_,⟨by simp only;omega,h2.take hx (by simp [notH,hp])⟩,by simp only;omega⟩
      simp -implicitDefEqProofs (disch:=omega) only [Rx,simprocAttr,b6e,k1,k2,hg,hgi,hgk,hc,il,hset,hss]
  · right
    obtain rfl:j=ks.length:=by omega
    have k1:¬ (ks.length:Int)<(ks.length:Int):=by omega
    refine ⟨_, ?_, ?_,cur,i,rfl,h2⟩
    · simp -implicitDefEqProofs (disch:=omega) only [Rx,simprocAttr,b6e,k1]
    · simp
theorem h3k (ks : List Int) (g : List AObj) (hk : g[k]? = some (.pcells 1 (b0p ks))) (hkb : g[kb]? = some (.pcells 1 [[.int .i64 h]])) (hne : k ≠ kb) (hl : ks.length ≤ 4194304) {n : Nat} (hn : ks.length + 1 < n) :
    b0g T (n+3) 123 [.own true k ks.length,.func 124 [.ptr true kb 1 1 0 0]] g=some (.p (.list (b0p (ks.filter (notH h)))),g.set k .dead):=by
  rw [b4y T123]
  have hf:=g8e ks g hk hkb hl hn
  have il:=b3c ks
  have hkl:k<g.length:=(List.getElem?_eq_some_iff.1 hk).1
  unfold b7y
  simp only
  by_cases hc:ks.findIdx (· == h)<ks.length
  · rw [if_pos hc] at hf
    generalize hi:ks.findIdx (· == h)=i0 at hc hf
    have hpre:∀ m,m<i0→∀ x,ks[m]? = some x→notH h x=true:=fun m hm x hx=>by
      have hml:m<ks.length:=(List.getElem?_eq_some_iff.1 hx).1
      have:=List.not_of_lt_findIdx (xs:=ks) (p:=(· == h)) (i:=m) (by omega)
      rw [(List.getElem?_eq_some_iff.1 hx).2] at this
      simpa [notH] using this
    have hat:ks[i0]? = some h:=by
      have:=List.findIdx_getElem (xs:=ks) (p:=(· == h)) (w:=by omega)
      subst hi
      rw [List.getElem?_eq_getElem hc]
      simpa using this
    have hgo:b7r (notH h) ks (i0+1) i0 ks:=by
      have h1:b7r (notH h) ks i0 i0 ks:=by
        refine ⟨rfl,Nat.le_refl _, ?_,rfl⟩
        rw [b9i]
        intro x hx
        obtain ⟨m,hm,rfl⟩:=List.getElem_of_mem hx
        rw [List.length_take] at hm
        refine hpre m (by omega) _ ?_
        rw [List.getElem_take,List.getElem?_eq_getElem]
      exact h1.skip hat (by simp [notH])
    obtain ⟨cur,i,hloop,hend⟩:=g8y (h:=h) (kb:=kb) ks g hkl hkb hne hl (n+1) (ks.length+2) (by omega) (i0+1) i0 hgo (by omega)
    have hself:g.set k (.pcells 1 (b0p ks))=g:=by
      apply List.ext_getElem?
      intro m
      rw [List.getElem?_set]
      by_cases e:k=m
      · subst e;rw [if_pos rfl,if_pos hkl,hk]
      · rw [if_neg e]
    rw [hself] at hloop
    have e1:((i0:Int) == -1)=false:=by simp
    have hilt:=hend.il (Nat.le_refl _)
    have hihave:=hend.have'
    rw [List.take_length] at hilt hihave
    have hlt2:i<ks.length:=by
      rw [hilt]
      exact List.length_filter_lt_length_iff_exists.2 ⟨h,List.mem_of_getElem? hat,by simp [notH]⟩
    have hrun:b0r (b0g T (n+2)) (ks.length+2) (b8a 170 b6e) (b3w [.own true k ks.length,.func 124 [.ptr true kb 1 1 0 0]] g)=some (.normal,⟨[(0,.own true k ks.length),(5,.p (.int .i64 (i:Nat)))],[],g.set k (.pcells 1 (b0p cur))⟩):=by
      simp only [Int.natCast_add,Int.natCast_one] at hloop
      simp -implicitDefEqProofs (disch:=omega) only [Rx,simprocAttr,b8a,hf,hloop,e1]
    rw [hrun]
    have hgk:(g.set k (.pcells 1 (b0p cur)))[k]? = some (.pcells 1 (b0p cur)):=by rw [List.getElem?_set,if_pos rfl,if_pos hkl]
    have il2:(b0p cur).length=ks.length:=by rw [b3c,hend.len]
    have hi2:(i:Int)<(ks.length:Int):=by omega
    have ht:(b0p cur).take i=b0p (ks.filter (notH h)):=by rw [← hihave];simp [b0p,List.map_take]
    simp [Option.bind_some,c5w,St.get,lk,c3d,hgk,il2,hi2,ht]
  · rw [if_neg hc] at hf
    have hall:ks.filter (notH h)=ks:=b9i fun x hx=>by
      have h1:¬ ks.findIdx (· == h)<ks.length:=hc
      rw [List.findIdx_lt_length] at h1
      cases hq:(x==h) with
      | false=>simp [notH,hq]
      | true=>exact absurd ⟨x,hx,hq⟩ h1
    have hrun:b0r (b0g T (n+2)) (ks.length+2) (b8a 170 b6e) (b3w [.own true k ks.length,.func 124 [.ptr true kb 1 1 0 0]] g)=some (.ret,⟨[(4,.own true k ks.length)],[],g⟩):=by
      simp -implicitDefEqProofs (disch:=omega) only [Rx,simprocAttr,b8a,hf]
    rw [hrun,hall]
    simp [c5w,St.get,lk,c3d,hk,il]
end
end Go.TA.Tryz


end
section
/- A node is taken out. -/
namespace Go.TA.Tryz
theorem g7o {rest:List AObj} {o:AObj} {a:AV} {ks:List Int} (hK:KRep rest a ks):(killed (rest++[o]) a)[rest.length]? = some o:=by
 rcases hK.inv with ⟨rfl,_⟩ | ⟨r,rfl,hr⟩ | rfl
 ·simp [killed]
 ·have:=(List.getElem?_eq_some_iff.1 hr).1
  simp only [killed]
  rw [List.getElem?_set,if_neg (by omega)]
  simp
 ·simp [killed]
theorem d9v {R:Nat} {S:MS} (hS:S.Ok R) (hN:S.N≤4194304) (av:Nat→AV) (rest:List AObj) (hM:MOk S.N av S.kd rest) (h:Nat) (hh:h<S.N) {n:Nat} (hn:S.N+1<n) :
  ∃ av' rest',b0g T (n+4) 69 [MP,.p (.int .i64 h)] (b0m S.N S.st av rest)=some (.tuple [],b0m S.N (b1h S h).st av' rest')∧MOk S.N av' (b1h S h).kd rest'∧Fr S.N av rest S.N av' rest':=by
 have len1:∀ st av,(b0x S.N st av).length=S.N:=fun _ _=>b2i
 have hgh:(b0x S.N S.st av).getD h []=b1t (S.st h) (av h):=b1y hh
 have k2:(h:Int)<(S.N:Int):=by omega
 have hM':MOk S.N av S.kd (rest++[.pcells 1 [[.int .i64 h]]]):=⟨fun k hk=>(hM.kids k hk).more _,hM.disj⟩
 have hbx:(rest++[AObj.pcells 1 [[.int .i64 h]]])[rest.length]? = some (.pcells 1 [[.int .i64 h]]):=by simp
 have e0:Int.toNat 0=0:=rfl
 by_cases hup:(S.st h).up<0
 ·have e:b1h S h=S:=by simp [b1h,hup]
  rw [e]
  refine ⟨av,_, ?_,hM',Fr.more _ _ _ _⟩
  rw [b0a T69,b0e rfl rfl]
  simp only [b0m,b1t] at hgh ⊢
  simp -implicitDefEqProofs (disch:=omega) only [Rx,simprocAttr,F69,k2,len1,hgh,hup,hbx]
 obtain ⟨u,hu,hu1,hu2,hu3⟩:=hS.up_nat hh (by omega)
 have hK:=hM'.kids u hu1
 have hkl:=hS.kids_len hu1
 have k1:(u:Int)<(S.N:Int):=by omega
 have hgu:(b0x S.N S.st av).getD u []=b1t (S.st u) (av u):=b1y hu1
 have hcl:=fun A B=>d1b hK (by omega) A B (n+2)
 have hb2:=g7o (o:=.pcells 1 [[.int .i64 h]]) (hM.kids u hu1)
 have hXl:=c1c (rest++[AObj.pcells 1 [[.int .i64 h]]]) (av u)
 simp only [List.length_append,List.length_cons,List.length_nil,Nat.zero_add] at hcl hXl
 have hfix:=Go.TA.Tryz.MOk.fixed hM' hu1 ((S.kd u).filter (notH h)) [.dead]
 have hfr:=(Fr.more S.N av rest [.pcells 1 [[.int .i64 h]]]).trans (Go.TA.Tryz.Fr.fixed hu1 (b0p ((S.kd u).filter (notH h))) [.dead])
 generalize hX:killed (rest++[AObj.pcells 1 [[.int .i64 h]]]) (av u)=X at hcl hb2 hXl hfix hfr
 have hdel:∀ A B,b0g T (n+3) 123 [.own true (rest.length+1+1+1) (S.kd u).length,.func 124 [.ptr true (rest.length+1+1) 1 1 0 0]] (A::B::(X++[.pcells 1 (b0p (S.kd u))]))=some (.p (.list (b0p ((S.kd u).filter (notH h)))),A::B::(X++[.dead])):=by
  intro A B
  have h1:(A::B::(X++[.pcells 1 (b0p (S.kd u))]))[rest.length+1+1+1]? = some (.pcells 1 (b0p (S.kd u))):=by
   simp only [List.getElem?_cons_succ]
   rw [← hXl];simp
  have h2:(A::B::(X++[.pcells 1 (b0p (S.kd u))]))[rest.length+1+1]? = some (.pcells 1 [[.int .i64 h]]):=by
   simp only [List.getElem?_cons_succ]
   rw [List.getElem?_append_left (by omega)];exact hb2
  have:=h3k (S.kd u) _ h1 h2 (by omega) (by omega) (n:=n) (by omega)
  rw [this]
  have e2:(X++[AObj.pcells 1 (b0p (S.kd u))]).set (rest.length+1) .dead=X++[.dead]:=by rw [← hXl];simp [List.set_append]
  simp only [List.set_cons_succ,e2]
 have hb3:(X++[AObj.dead])[rest.length]? = some (.pcells 1 [[.int .i64 h]]):=by rw [List.getElem?_append_left (by omega)];exact hb2
 have htk:b1h S h=⟨S.N,upd S.st h { S.st h with up := -1 },upd S.kd u ((S.kd u).filter (notH h))⟩:=by
  unfold b1h
  rw [if_neg hup,hu,Int.toNat_natCast]
  rfl
 rw [htk]
 refine ⟨upd av u (.p (.list (b0p ((S.kd u).filter (notH h))))),X++[.dead], ?_,hfix,hfr⟩
 generalize (S.kd u).filter (notH (h:Int))=ks' at hdel
 have hset1:(b0x S.N S.st av).set u [.p (.bool (S.st u).live),.p (.int .i64 (S.st u).up),.p (.list (b0p ks')),.p (.str (S.st u).tag),.p (.str (S.st u).key),.p (.str (S.st u).text),.p (.list ((S.st u).attrs.map Attr.pv))]=b0x S.N S.st (upd av u (.p (.list (b0p ks')))):=by
  have:=b5s (N:=S.N) (st:=S.st) (av:=av) hu1 (S.st u) (.p (.list (b0p ks')))
  simp only [b1t] at this
  rw [this]
  refine b3p fun k hk=>⟨?_,rfl⟩
  by_cases e:k=u
  ·subst e;rw [b0l]
  ·rw [b0i e]
 have hgh2:(b0x S.N S.st (upd av u (.p (.list (b0p ks'))))).getD h []=b1t (S.st h) (upd av u (.p (.list (b0p ks'))) h):=b1y hh
 generalize hah:upd av u (.p (.list (b0p ks'))) h=ah at hgh2
 have hset2:(b0x S.N S.st (upd av u (.p (.list (b0p ks'))))).set h [.p (.bool (S.st h).live),.p (.int .i64 (-1)),ah,.p (.str (S.st h).tag),.p (.str (S.st h).key),.p (.str (S.st h).text),.p (.list ((S.st h).attrs.map Attr.pv))]=b0x S.N (upd S.st h { S.st h with up := -1 }) (upd av u (.p (.list (b0p ks')))):=by
  have:=b5s (N:=S.N) (st:=S.st) (av:=upd av u (.p (.list (b0p ks')))) hh { S.st h with up := -1 } ah
  simp only [b1t] at this
  rw [this]
  refine b3p fun k hk=>⟨rfl, ?_⟩
  by_cases e:k=h
  ·subst e;rw [b0l,hah]
  ·rw [b0i e]
 have k0:¬ (u:Int)<0:=by omega
 rw [b0a T69,b0e rfl rfl]
 simp only [b1t,hu] at hgh hgu hgh2
 rcases hK.inv with ⟨hav,hk0⟩ | ⟨r,hav,hr⟩ | hav
 all_goals
  rw [hav] at hcl hgu
  simp only [b0m]
  simp -implicitDefEqProofs (disch:=omega) only [Rx,simprocAttr,F69,k0,k1,k2,len1,hgh,hgu,hgh2,hset1,hset2,hcl,hdel,hbx,hb3]
end Go.TA.Tryz


end
section
/- A node ends, and all below it. -/
namespace Go.TA.Tryz
open Classical in
noncomputable def stD (S:MS) (D:Nat→Prop) (y:Nat):b3o:=if D y then c3x else S.st y
open Classical in
noncomputable def avD (av:Nat→AV) (D:Nat→Prop) (y:Nat):AV:=if D y then .nils else av y
def DK (S:MS) (D:Nat→Prop) (h i:Nat) (y:Nat):Prop:=D y∨∃ j,j<i∧∃ k,(S.kd h)[j]? = some k∧Below S k (y:Int)
theorem h8a (S:MS) (D:Nat→Prop) (h:Nat):DK S D h 0=D:=by
 funext y
 simp [DK]
theorem h8b {S : MS} {D : Nat → Prop} {h i : Nat} {k : Int} (hk : (S.kd h)[i]? = some k) : DK S D h (i + 1) = fun y => DK S D h i y ∨ Below S k (y : Int) := by
  funext y
  simp only [DK,eq_iff_iff]
  constructor
  · rintro (h1 | ⟨j,h1,k',h2,h3⟩)
    · exact .inl (.inl h1)
    · by_cases e:j=i
      · subst e
        rw [hk] at h2
        simp only [Option.some.injEq] at h2
        subst h2
        exact .inr h3
      · exact .inl (.inr ⟨j,by omega,k',h2,h3⟩)
  · rintro ((h1 | ⟨j,h1,h2⟩) | h1)
    · exact .inl h1
    · exact .inr ⟨j,by omega,h2⟩
    · exact .inr ⟨i,by omega,k,hk,h1⟩
theorem g1d {R : Nat} {S : MS} (hS : S.Ok R) (hN : S.N ≤ 4194304) (av : Nat → AV) (rest : List AObj) (hM : MOk S.N av S.kd rest) (n : Nat) (hn : S.N < n) (h : Nat) (D : Nat → Prop) (hh : h < S.N) (hD : ∀ y : Nat, y < S.N → Below S (h : Int) (y : Int) → ¬ D y)
    (ih:∀ (c:Nat),c<S.N→(S.st c).up=(h:Int)→∀ (D:Nat→Prop),(∀ y:Nat,y<S.N→Below S (c:Int) (y:Int)→¬ D y) →
      b0g T n 70 [MP,.p (.int .i64 c)] (b0m S.N (stD S D) (avD av D) rest)=some (.tuple [],b0m S.N (stD S fun y=>D y∨Below S (c:Int) (y:Int)) (avD av fun y=>D y∨Below S (c:Int) (y:Int)) rest)) :
    b0g T (n+1) 70 [MP,.p (.int .i64 h)] (b0m S.N (stD S D) (avD av D) rest)=some (.tuple [],b0m S.N (stD S fun y=>D y∨Below S (h:Int) (y:Int)) (avD av fun y=>D y∨Below S (h:Int) (y:Int)) rest):=by
  classical
  have hK:=hM.kids h hh
  have hkl:=hS.kids_len hh
  have len1:∀ st av,(b0x S.N st av).length=S.N:=fun _ _=>b2i
  have k1:(h:Int)<(S.N:Int):=by omega
  have hgh:(b0x S.N (stD S D) (avD av D)).getD h []=b1t (S.st h) (av h):=by
    rw [b1y hh]
    have:=hD h hh .here
    simp [stD,avD,this]
  have il:=b3c (S.kd h)
  have hloop:b0r (b0g T n) n (.loop g4r) ⟨[(0,MP),(1,.p (.int .i64 h)),(13,av h),(14,.p (.int .i64 (S.kd h).length)),(15,.p (.int .i64 0))],[],b0m S.N (stD S D) (avD av D) rest⟩=some (.exit 0,⟨[(0,MP),(1,.p (.int .i64 h))],[],b0m S.N (stD S (DK S D h (S.kd h).length)) (avD av (DK S D h (S.kd h).length)) rest⟩):=by
    have key:=b2v (C:=b0g T n) (N:=n) (B:=g4r) (σ := Nat) (S:=fun i=>⟨[(0,MP),(1,.p (.int .i64 h)),(13,av h),(14,.p (.int .i64 (S.kd h).length)),(15,.p (.int .i64 i))],[],b0m S.N (stD S (DK S D h i)) (avD av (DK S D h i)) rest⟩)
      (I:=fun i=>i≤(S.kd h).length) (μ := fun i=>(S.kd h).length - i) (Q:=fun q=>q=(.exit 0,⟨[(0,MP),(1,.p (.int .i64 h))],[],b0m S.N (stD S (DK S D h (S.kd h).length)) (avD av (DK S D h (S.kd h).length)) rest⟩)) ?_ 0 (by omega) (by omega)
    · obtain ⟨q,hq,rfl⟩:=key
      rw [h8a] at hq
      exact hq
    intro i hi
    by_cases hil:i<(S.kd h).length
    · left
      obtain ⟨k,hk⟩:∃ k,(S.kd h)[i]? = some k:=⟨_,List.getElem?_eq_getElem hil⟩
      have hkm:=List.mem_of_getElem? hk
      obtain ⟨c,rfl,hc,_,hcu⟩:=hS.kids h hh k hkm
      have ihc:=ih c hc hcu (DK S D h i) (fun y hy hb hd=>by
        rcases hd with hd | ⟨j,hj,k',hk',hb'⟩
        · exact hD y hy (b8m hS hh hkm hb) hd
        · have:=d0s hS hh hkm (List.mem_of_getElem? hk') hb hb'
          subst this
          have hjl:=(List.getElem?_eq_some_iff.1 hk').1
          have:=(List.getElem?_inj hjl (hS.nodup h hh)).1 (hk'.trans hk.symm)
          omega)
      rw [← h8b hk] at ihc
      have k2:(i:Int)<((S.kd h).length:Int):=by omega
      have hg:=b7b hk
      refine ⟨i+1, ?_,by omega,by omega⟩
      generalize stD S (DK S D h i)=st1 at ihc
      generalize avD av (DK S D h i)=av1 at ihc
      rcases hK.inv with ⟨_,hk0⟩ | ⟨q,hav,hq⟩ | hav
      · rw [hk0] at hil;simp at hil
      · simp only [b0m,hav] at ihc ⊢
        simp -implicitDefEqProofs (disch:=omega) only [Rx,simprocAttr,g4r,k2,hg,il,hq,ihc]
      · simp only [b0m,hav] at ihc ⊢
        simp -implicitDefEqProofs (disch:=omega) only [Rx,simprocAttr,g4r,k2,hg,il,ihc]
    · right
      obtain rfl:i=(S.kd h).length:=by omega
      have k2:¬ ((S.kd h).length:Int)<((S.kd h).length:Int):=by omega
      refine ⟨_, ?_, ?_,rfl⟩
      · rcases hK.inv with ⟨hav,_⟩ | ⟨q,hav,hq⟩ | hav
        all_goals
          simp only [hav]
          simp -implicitDefEqProofs (disch:=omega) only [Rx,simprocAttr,g4r,k2]
      · simp
  have hset:(b0x S.N (stD S (DK S D h (S.kd h).length)) (avD av (DK S D h (S.kd h).length))).set h [.p (.bool false),.p (.int .i64 (-1)),.nils,.p (.str []),.p (.str []),.p (.str []),.p (.list [])]=b0x S.N (stD S fun y=>D y∨Below S (h:Int) (y:Int)) (avD av fun y=>D y∨Below S (h:Int) (y:Int)):=by
    have:=b5s (N:=S.N) (st:=stD S (DK S D h (S.kd h).length)) (av:=avD av (DK S D h (S.kd h).length)) hh c3x .nils
    simp only [b1t,c3x,List.map_nil] at this
    rw [this]
    have hiff:∀ y:Nat,y<S.N→y≠h→(DK S D h (S.kd h).length y↔(D y∨Below S (h:Int) (y:Int))):=fun y hy hne=>by
      constructor
      · rintro (h1 | ⟨j,_,k,hk,hb⟩)
        · exact .inl h1
        · exact .inr (b8m hS hh (List.mem_of_getElem? hk) hb)
      · rintro (h1 | h1)
        · exact .inl h1
        · obtain ⟨k,hk,hb⟩:=c9b hS h1 y rfl hy hne
          obtain ⟨j,hj,hjk⟩:=List.getElem_of_mem hk
          exact .inr ⟨j,hj,k,by rw [List.getElem?_eq_getElem hj,hjk],hb⟩
    refine b3p fun y hy => ?_
    by_cases e:y=h
    · subst e
      have hb:D y∨Below S (y:Int) (y:Int):=.inr .here
      rw [b0l,b0l]
      simp [stD,avD,hb,c3x]
    · rw [b0i e,b0i e]
      have:=hiff y hy e
      by_cases q:D y∨Below S (h:Int) (y:Int)
      · simp only [stD,avD,if_pos q,if_pos (this.2 q),and_self]
      · simp only [stD,avD,if_neg q,if_neg (fun z=>q (this.1 z)),and_self]
  rw [b0a T70,b0e rfl rfl]
  simp only [b1t] at hgh
  generalize stD S (DK S D h (S.kd h).length)=st2 at hloop hset
  generalize avD av (DK S D h (S.kd h).length)=av2 at hloop hset
  have hg2:(b0x S.N st2 av2).getD h []=b1t (st2 h) (av2 h):=b1y hh
  simp only [b1t] at hg2
  rcases hK.inv with ⟨hav,hk0⟩ | ⟨q,hav,hq⟩ | hav
  · simp only [hk0,List.length_nil,Int.natCast_zero] at hloop
    simp only [b0m,hav] at hloop hgh ⊢
    simp -implicitDefEqProofs (disch:=omega) only [Rx,simprocAttr,F70,k1,len1,hgh,hg2,hloop,hset]
  · simp only [b0m,hav] at hloop hgh ⊢
    simp -implicitDefEqProofs (disch:=omega) only [Rx,simprocAttr,F70,k1,len1,hgh,hg2,hloop,hset]
  · simp only [b0m,hav] at hloop hgh ⊢
    simp -implicitDefEqProofs (disch:=omega) only [Rx,simprocAttr,F70,k1,len1,hgh,hg2,il,hloop,hset]
theorem h6u {R:Nat} {S:MS} (hS:S.Ok R) (hN:S.N≤4194304) (av:Nat→AV) (rest:List AObj) (hM:MOk S.N av S.kd rest) {r:Nat→Nat} (hr1:∀ c,c<S.N→r c≤R) (hr2:∀ c p:Nat,c<S.N→(S.st c).up=(p:Int)→r p<r c) (n:Nat) (hn:S.N<n) :
    ∀ (d h : Nat) (D : Nat → Prop), h < S.N → R ≤ r h + d → (∀ y : Nat, y < S.N → Below S (h : Int) (y : Int) → ¬ D y) →
      b0g T (n+d+1) 70 [MP,.p (.int .i64 h)] (b0m S.N (stD S D) (avD av D) rest)=some (.tuple [],b0m S.N (stD S fun y=>D y∨Below S (h:Int) (y:Int)) (avD av fun y=>D y∨Below S (h:Int) (y:Int)) rest):=by
  intro d
  induction d with
  | zero =>
    intro h D hh hR hD
    exact g1d hS hN av rest hM n hn h D hh hD (fun c hc hcu=>by
      have:=hr1 c hc
      have:=hr2 c h hc hcu
      omega)
  | succ d ih =>
    intro h D hh hR hD
    exact g1d hS hN av rest hM (n+d+1) (by omega) h D hh hD (fun c hc hcu D hD=>by
      have:=hr2 c h hc hcu
      exact ih c D hc (by omega) hD)
theorem h6s {R : Nat} {S : MS} (hS : S.Ok R) (hN : S.N ≤ 4194304) (av : Nat → AV) (rest : List AObj) (hM : MOk S.N av S.kd rest) (h : Nat) (hh : h < S.N) {n : Nat} (hn : S.N < n) :
    ∃ av',b0g T (n+R+1) 70 [MP,.p (.int .i64 h)] (b0m S.N S.st av rest)=some (.tuple [],b0m S.N (endM S (h:Int)).st av' rest)∧MOk S.N av' (endM S (h:Int)).kd rest∧Fr S.N av rest S.N av' rest:=by
  classical
  obtain ⟨r,hr1,hr2⟩:=hS.rank
  have key:=h6u hS hN av rest hM hr1 hr2 n hn R h (fun _=>False) hh (by omega) (fun y _ _ h=>h)
  have e1:stD S (fun _=>False)=S.st:=by funext y;simp [stD]
  have e2:avD av (fun _=>False)=av:=by funext y;simp [avD]
  have e3:(stD S fun y=>False∨Below S (h:Int) (y:Int))=(endM S (h:Int)).st:=by funext y;simp [stD,endM]
  rw [e1,e2,e3] at key
  refine ⟨_,key,⟨fun y hy => ?_,fun y y' hy hy' hne => ?_⟩,⟨Nat.le_refl _,fun _ _ _=>rfl,fun y hy j hj _ => ?_⟩⟩
  rotate_left 2
  · by_cases e:Below S (h:Int) (y:Int)
    · simp only [avD,e,or_true,if_true] at hj;cases hj
    · simp only [avD,e,or_false,if_false] at hj;exact ⟨y,hy,hj⟩
  · by_cases e:Below S (h:Int) (y:Int)
    · simp only [avD,endM,e,or_true,if_true];exact .none
    · simp only [avD,endM,e,or_false,if_false];exact hM.kids y hy
  · by_cases e:Below S (h:Int) (y:Int)
    · left;simp only [avD,e,or_true,if_true];rfl
    · by_cases e':Below S (h:Int) (y':Int)
      · simp only [avD,e,e',or_false,or_true,if_false,if_true]
        cases hq:b2o (av y) with
        | none=>exact .inl rfl
        | some q=>exact .inr (by simp [b2o])
      · simp only [avD,e,e',or_false,if_false]
        exact hM.disj y y' hy hy' hne
end Go.TA.Tryz


end
section
/- An operation with the fields alone that its kind uses. -/
namespace Go.TA.Tryz
theorem g5h (x:GOp) (hk:x.kind=1) (g:List AObj) (n:Nat):b0g T (n+1) 115 [.p (.agg x.pv)] g=some (.p (.agg (h0p x).pv),g):=by
 rw [b0a T115,run_pure rfl rfl rfl]
 simp -implicitDefEqProofs (disch:=omega) only [Rx,simprocAttr,F115,GOp.pv,b0b,h0p,hk,b8t]
theorem g5g (x:GOp) (hk:x.kind=2) (g:List AObj) (n:Nat):b0g T (n+1) 115 [.p (.agg x.pv)] g=some (.p (.agg (h0o x).pv),g):=by
 rw [b0a T115,run_pure rfl rfl rfl]
 simp -implicitDefEqProofs (disch:=omega) only [Rx,simprocAttr,F115,GOp.pv,b0b,h0o,hk]
theorem g5f (x:GOp) (hk:x.kind=3) (g:List AObj) (n:Nat):b0g T (n+1) 115 [.p (.agg x.pv)] g=some (.p (.agg (h0n x).pv),g):=by
 rw [b0a T115,run_pure rfl rfl rfl]
 simp -implicitDefEqProofs (disch:=omega) only [Rx,simprocAttr,F115,GOp.pv,b0b,h0n,hk]
theorem g5e (x:GOp) (hk:x.kind=4) (g:List AObj) (n:Nat):b0g T (n+1) 115 [.p (.agg x.pv)] g=some (.p (.agg (h0m x).pv),g):=by
 rw [b0a T115,run_pure rfl rfl rfl]
 simp -implicitDefEqProofs (disch:=omega) only [Rx,simprocAttr,F115,GOp.pv,b0b,h0m,hk]
theorem g5d (x:GOp) (hk:x.kind=5) (g:List AObj) (n:Nat):b0g T (n+1) 115 [.p (.agg x.pv)] g=some (.p (.agg (h0l x).pv),g):=by
 rw [b0a T115,run_pure rfl rfl rfl]
 simp -implicitDefEqProofs (disch:=omega) only [Rx,simprocAttr,F115,GOp.pv,b0b,h0l,hk]
theorem g5c (x:GOp) (hk:x.kind=6) (g:List AObj) (n:Nat):b0g T (n+1) 115 [.p (.agg x.pv)] g=some (.p (.agg (h0k x).pv),g):=by
 rw [b0a T115,run_pure rfl rfl rfl]
 simp -implicitDefEqProofs (disch:=omega) only [Rx,simprocAttr,F115,GOp.pv,b0b,h0k,hk]
theorem g5b (x:GOp) (hk:x.kind=7) (g:List AObj) (n:Nat):b0g T (n+1) 115 [.p (.agg x.pv)] g=some (.p (.agg (h0j x).pv),g):=by
 rw [b0a T115,run_pure rfl rfl rfl]
 simp -implicitDefEqProofs (disch:=omega) only [Rx,simprocAttr,F115,GOp.pv,b0b,h0j,hk]
theorem h0i (x:GOp) (h1:1≤x.kind) (h7:x.kind≤7) (g:List AObj) (n:Nat):b0g T (n+1) 115 [.p (.agg x.pv)] g=some (.p (.agg (b4u x).pv),g):=by
 by_cases k1:x.kind=1
 ·rw [g5h x k1];simp [b4u,k1]
 by_cases k2:x.kind=2
 ·rw [g5g x k2];simp [b4u,k2]
 by_cases k3:x.kind=3
 ·rw [g5f x k3];simp [b4u,k3]
 by_cases k4:x.kind=4
 ·rw [g5e x k4];simp [b4u,k4]
 by_cases k5:x.kind=5
 ·rw [g5d x k5];simp [b4u,k5]
 by_cases k6:x.kind=6
 ·rw [g5c x k6];simp [b4u,k6]
 by_cases k7:x.kind=7
 ·rw [g5b x k7];simp [b4u,k7]
 omega
end Go.TA.Tryz


end
section
/- Does an operation have a field that its kind does not use? The document's answer. -/
namespace Go.TA.Tryz
theorem g7a (x:GOp) (hk:x.kind=1) (g:List AObj) (n:Nat):b0g T (n+1) 62 [.p (.agg x.pv)] g=some (.p (.bool (h1u x)),g):=by
 rw [b0a T62,run_pure rfl rfl rfl]
 simp only [h1u,nzI,nzS,nzA]
 cases h0:(x.node==0)
 ·simp -implicitDefEqProofs (disch:=omega) only [Rx,simprocAttr,F62,GOp.pv,b0b,hk,h0]
 cases h1:(x.up==0)
 ·simp -implicitDefEqProofs (disch:=omega) only [Rx,simprocAttr,F62,GOp.pv,b0b,hk,h0,h1]
 cases h2:(x.before==0)
 ·simp -implicitDefEqProofs (disch:=omega) only [Rx,simprocAttr,F62,GOp.pv,b0b,hk,h0,h1,h2]
 cases h3:(x.name==[])
 ·simp -implicitDefEqProofs (disch:=omega) only [Rx,simprocAttr,F62,GOp.pv,b0b,hk,h0,h1,h2,h3]
 simp -implicitDefEqProofs (disch:=omega) only [Rx,simprocAttr,F62,GOp.pv,b0b,hk,h0,h1,h2,h3]
theorem g6z (x:GOp) (hk:x.kind=2) (g:List AObj) (n:Nat):b0g T (n+1) 62 [.p (.agg x.pv)] g=some (.p (.bool (h1t x)),g):=by
 rw [b0a T62,run_pure rfl rfl rfl]
 simp only [h1t,nzI,nzS,nzA]
 cases h0:(x.tag==[])
 ·simp -implicitDefEqProofs (disch:=omega) only [Rx,simprocAttr,F62,GOp.pv,b0b,hk,h0]
 cases h1:(x.key==[])
 ·simp -implicitDefEqProofs (disch:=omega) only [Rx,simprocAttr,F62,GOp.pv,b0b,hk,h0,h1]
 by_cases h2:0<(x.attrs.length:Int)
 ·simp -implicitDefEqProofs (disch:=omega) only [Rx,simprocAttr,F62,GOp.pv,b0b,hk,h0,h1,h2]
 cases h3:(x.name==[])
 ·simp -implicitDefEqProofs (disch:=omega) only [Rx,simprocAttr,F62,GOp.pv,b0b,hk,h0,h1,h2,h3]
 cases h4:(x.text==[])
 ·simp -implicitDefEqProofs (disch:=omega) only [Rx,simprocAttr,F62,GOp.pv,b0b,hk,h0,h1,h2,h3,h4]
 simp -implicitDefEqProofs (disch:=omega) only [Rx,simprocAttr,F62,GOp.pv,b0b,hk,h0,h1,h2,h3,h4]
theorem g6y (x:GOp) (hk:x.kind=3) (g:List AObj) (n:Nat):b0g T (n+1) 62 [.p (.agg x.pv)] g=some (.p (.bool (h1s x)),g):=by
 rw [b0a T62,run_pure rfl rfl rfl]
 simp only [h1s,nzI,nzS,nzA]
 cases h0:(x.tag==[])
 ·simp -implicitDefEqProofs (disch:=omega) only [Rx,simprocAttr,F62,GOp.pv,b0b,hk,h0]
 cases h1:(x.key==[])
 ·simp -implicitDefEqProofs (disch:=omega) only [Rx,simprocAttr,F62,GOp.pv,b0b,hk,h0,h1]
 by_cases h2:0<(x.attrs.length:Int)
 ·simp -implicitDefEqProofs (disch:=omega) only [Rx,simprocAttr,F62,GOp.pv,b0b,hk,h0,h1,h2]
 cases h3:(x.up==0)
 ·simp -implicitDefEqProofs (disch:=omega) only [Rx,simprocAttr,F62,GOp.pv,b0b,hk,h0,h1,h2,h3]
 cases h4:(x.name==[])
 ·simp -implicitDefEqProofs (disch:=omega) only [Rx,simprocAttr,F62,GOp.pv,b0b,hk,h0,h1,h2,h3,h4]
 cases h5:(x.text==[])
 ·simp -implicitDefEqProofs (disch:=omega) only [Rx,simprocAttr,F62,GOp.pv,b0b,hk,h0,h1,h2,h3,h4,h5]
 simp -implicitDefEqProofs (disch:=omega) only [Rx,simprocAttr,F62,GOp.pv,b0b,hk,h0,h1,h2,h3,h4,h5]
end Go.TA.Tryz


end
section
/- Does an operation have a field that its kind does not use? The document's answer. -/
namespace Go.TA.Tryz
theorem g6x (x:GOp) (hk:x.kind=4) (g:List AObj) (n:Nat):b0g T (n+1) 62 [.p (.agg x.pv)] g=some (.p (.bool (h1r x)),g):=by
 rw [b0a T62,run_pure rfl rfl rfl]
 simp only [h1r,nzI,nzS,nzA]
 cases h0:(x.tag==[])
 ·simp -implicitDefEqProofs (disch:=omega) only [Rx,simprocAttr,F62,GOp.pv,b0b,hk,h0]
 cases h1:(x.key==[])
 ·simp -implicitDefEqProofs (disch:=omega) only [Rx,simprocAttr,F62,GOp.pv,b0b,hk,h0,h1]
 by_cases h2:0<(x.attrs.length:Int)
 ·simp -implicitDefEqProofs (disch:=omega) only [Rx,simprocAttr,F62,GOp.pv,b0b,hk,h0,h1,h2]
 cases h3:(x.up==0)
 ·simp -implicitDefEqProofs (disch:=omega) only [Rx,simprocAttr,F62,GOp.pv,b0b,hk,h0,h1,h2,h3]
 cases h4:(x.before==0)
 ·simp -implicitDefEqProofs (disch:=omega) only [Rx,simprocAttr,F62,GOp.pv,b0b,hk,h0,h1,h2,h3,h4]
 cases h5:(x.name==[])
 ·simp -implicitDefEqProofs (disch:=omega) only [Rx,simprocAttr,F62,GOp.pv,b0b,hk,h0,h1,h2,h3,h4,h5]
 cases h6:(x.text==[])
 ·simp -implicitDefEqProofs (disch:=omega) only [Rx,simprocAttr,F62,GOp.pv,b0b,hk,h0,h1,h2,h3,h4,h5,h6]
 simp -implicitDefEqProofs (disch:=omega) only [Rx,simprocAttr,F62,GOp.pv,b0b,hk,h0,h1,h2,h3,h4,h5,h6]
theorem g6w (x:GOp) (hk:x.kind=5) (g:List AObj) (n:Nat):b0g T (n+1) 62 [.p (.agg x.pv)] g=some (.p (.bool (h1q x)),g):=by
 rw [b0a T62,run_pure rfl rfl rfl]
 simp only [h1q,nzI,nzS,nzA]
 cases h0:(x.tag==[])
 ·simp -implicitDefEqProofs (disch:=omega) only [Rx,simprocAttr,F62,GOp.pv,b0b,hk,h0]
 cases h1:(x.key==[])
 ·simp -implicitDefEqProofs (disch:=omega) only [Rx,simprocAttr,F62,GOp.pv,b0b,hk,h0,h1]
 by_cases h2:0<(x.attrs.length:Int)
 ·simp -implicitDefEqProofs (disch:=omega) only [Rx,simprocAttr,F62,GOp.pv,b0b,hk,h0,h1,h2]
 cases h3:(x.up==0)
 ·simp -implicitDefEqProofs (disch:=omega) only [Rx,simprocAttr,F62,GOp.pv,b0b,hk,h0,h1,h2,h3]
 cases h4:(x.before==0)
 ·simp -implicitDefEqProofs (disch:=omega) only [Rx,simprocAttr,F62,GOp.pv,b0b,hk,h0,h1,h2,h3,h4]
 simp -implicitDefEqProofs (disch:=omega) only [Rx,simprocAttr,F62,GOp.pv,b0b,hk,h0,h1,h2,h3,h4]
end Go.TA.Tryz


end
section
/- Does an operation have a field that its kind does not use? The document's answer. -/
namespace Go.TA.Tryz
theorem g6v (x:GOp) (hk:x.kind=6) (g:List AObj) (n:Nat):b0g T (n+1) 62 [.p (.agg x.pv)] g=some (.p (.bool (h1p x)),g):=by
 rw [b0a T62,run_pure rfl rfl rfl]
 simp only [h1p,nzI,nzS,nzA]
 cases h0:(x.tag==[])
 ·simp -implicitDefEqProofs (disch:=omega) only [Rx,simprocAttr,F62,GOp.pv,b0b,hk,h0]
 cases h1:(x.key==[])
 ·simp -implicitDefEqProofs (disch:=omega) only [Rx,simprocAttr,F62,GOp.pv,b0b,hk,h0,h1]
 by_cases h2:0<(x.attrs.length:Int)
 ·simp -implicitDefEqProofs (disch:=omega) only [Rx,simprocAttr,F62,GOp.pv,b0b,hk,h0,h1,h2]
 cases h3:(x.up==0)
 ·simp -implicitDefEqProofs (disch:=omega) only [Rx,simprocAttr,F62,GOp.pv,b0b,hk,h0,h1,h2,h3]
 cases h4:(x.before==0)
 ·simp -implicitDefEqProofs (disch:=omega) only [Rx,simprocAttr,F62,GOp.pv,b0b,hk,h0,h1,h2,h3,h4]
 cases h5:(x.text==[])
 ·simp -implicitDefEqProofs (disch:=omega) only [Rx,simprocAttr,F62,GOp.pv,b0b,hk,h0,h1,h2,h3,h4,h5]
 simp -implicitDefEqProofs (disch:=omega) only [Rx,simprocAttr,F62,GOp.pv,b0b,hk,h0,h1,h2,h3,h4,h5]
theorem g6u (x:GOp) (hk:x.kind=7) (g:List AObj) (n:Nat):b0g T (n+1) 62 [.p (.agg x.pv)] g=some (.p (.bool (h1o x)),g):=by
 rw [b0a T62,run_pure rfl rfl rfl]
 simp only [h1o,nzI,nzS,nzA]
 cases h0:(x.tag==[])
 ·simp -implicitDefEqProofs (disch:=omega) only [Rx,simprocAttr,F62,GOp.pv,b0b,hk,h0]
 cases h1:(x.key==[])
 ·simp -implicitDefEqProofs (disch:=omega) only [Rx,simprocAttr,F62,GOp.pv,b0b,hk,h0,h1]
 by_cases h2:0<(x.attrs.length:Int)
 ·simp -implicitDefEqProofs (disch:=omega) only [Rx,simprocAttr,F62,GOp.pv,b0b,hk,h0,h1,h2]
 cases h3:(x.up==0)
 ·simp -implicitDefEqProofs (disch:=omega) only [Rx,simprocAttr,F62,GOp.pv,b0b,hk,h0,h1,h2,h3]
 cases h4:(x.before==0)
 ·simp -implicitDefEqProofs (disch:=omega) only [Rx,simprocAttr,F62,GOp.pv,b0b,hk,h0,h1,h2,h3,h4]
 cases h5:(x.name==[])
 ·simp -implicitDefEqProofs (disch:=omega) only [Rx,simprocAttr,F62,GOp.pv,b0b,hk,h0,h1,h2,h3,h4,h5]
 simp -implicitDefEqProofs (disch:=omega) only [Rx,simprocAttr,F62,GOp.pv,b0b,hk,h0,h1,h2,h3,h4,h5]
end Go.TA.Tryz


end
section
/- Does an operation have a field that its kind does not use? The document's answer. -/
namespace Go.TA.Tryz
theorem h1n (x:GOp) (h1:1≤x.kind) (h7:x.kind≤7) (g:List AObj) (n:Nat):b0g T (n+1) 62 [.p (.agg x.pv)] g=some (.p (.bool (b8i x)),g):=by
 by_cases k1:x.kind=1
 ·rw [g7a x k1];simp [b8i,k1]
 by_cases k2:x.kind=2
 ·rw [g6z x k2];simp [b8i,k2]
 by_cases k3:x.kind=3
 ·rw [g6y x k3];simp [b8i,k3]
 by_cases k4:x.kind=4
 ·rw [g6x x k4];simp [b8i,k4]
 by_cases k5:x.kind=5
 ·rw [g6w x k5];simp [b8i,k5]
 by_cases k6:x.kind=6
 ·rw [g6v x k6];simp [b8i,k6]
 by_cases k7:x.kind=7
 ·rw [g6u x k7];simp [b8i,k7]
 omega
end Go.TA.Tryz


end
section
/- Whether an operation is what its kind uses of it: by texts, as the program does it. -/
namespace Go.TA.Tryz
def d5x (b:Bool):Ex × St:=if b=true then (.exit 0,⟨[],[],[]⟩) else (.ret,⟨[(4,.p (.bool false))],[],[]⟩)
theorem g1c (b:Bool):(d5x b).1 ≠ .normal:=by cases b <;> simp [d5x]
theorem d4a (a b : List Attr) (g : List AObj) {n m : Nat} (ha : a.length < n) (hn : n ≤ 1048577) (hm : n ≤ m) :
    b0g T (m+1) 165 [.p (b0b a),.p (b0b b)] g=some (.p (.bool (decide (a=b))),g):=by
  rw [b0a T165,run_pure rfl rfl rfl]
  by_cases hlen:a.length=b.length
  · have hloop:b0r (b0g T m) m (.loop d6z) ⟨[(0,.p (.list (a.map Attr.pv))),(1,.p (.list (b.map Attr.pv))),(12,.p (.int .i64 a.length)),(13,.p (.int .i64 0))],[],[]⟩=some (d5x (decide (a.drop 0=b.drop 0))):=by
      refine b1w (σ := Nat) (S:=fun i=>⟨[(0,.p (.list (a.map Attr.pv))),(1,.p (.list (b.map Attr.pv))),(12,.p (.int .i64 a.length)),(13,.p (.int .i64 i))],[],[]⟩) (I:=fun i=>i≤a.length) (μ := fun i=>a.length - i) (Φ := fun i=>d5x (decide (a.drop i=b.drop i))) ?_ 0 (by omega) (by omega)
      intro i hi
      by_cases h:i<a.length
      · obtain ⟨x,hx⟩:=b0t h
        obtain ⟨y,hy⟩:=b0t (l:=b) (i:=i) (by omega)
        have hgx:=b1l (f:=Attr.pv) hx
        have hgy:=b1l (f:=Attr.pv) hy
        have hdx:a.drop i=x::a.drop (i+1):=by rw [List.drop_eq_getElem?_toList_append,hx];rfl
        have hdy:b.drop i=y::b.drop (i+1):=by rw [List.drop_eq_getElem?_toList_append,hy];rfl
        by_cases hxy:x=y
        · subst hxy
          refine .inl ⟨i+1, ?_,by omega,by omega,by rw [hdx,hdy];simp⟩
          simp -implicitDefEqProofs (disch:=omega) only [Rx,simprocAttr,d6z,hgx,hgy,Attr.pv]
        · refine .inr ⟨?_,g1c _⟩
          have e:decide (a.drop i=b.drop i)=false:=by rw [hdx,hdy];simp [hxy]
          have e2:(x.name==y.name && x.value==y.value)=false:=by
            rw [← Bool.not_eq_true,Bool.and_eq_true,beq_iff_eq,beq_iff_eq]
            rintro ⟨h1,h2⟩
            apply hxy
            cases x;cases y;simp only at h1 h2;subst h1 h2;rfl
          rw [e]
          simp -implicitDefEqProofs (disch:=omega) only [Rx,simprocAttr,d6z,hgx,hgy,Attr.pv,e2,d5x]
      · have e:decide (a.drop i=b.drop i)=true:=by rw [List.drop_eq_nil_of_le (by omega),List.drop_eq_nil_of_le (by omega)];simp
        refine .inr ⟨?_,g1c _⟩
        rw [e]
        simp -implicitDefEqProofs (disch:=omega) only [Rx,simprocAttr,d6z,d5x]
    rw [List.drop_zero,List.drop_zero] at hloop
    have hl2:((a.length:Int)==(b.length:Int))=true:=by simp [hlen]
    cases hd:decide (a=b) with
    | false =>
      rw [hd] at hloop
      simp only [d5x,Bool.false_eq_true,if_false] at hloop
      simp -implicitDefEqProofs (disch:=omega) only [Rx,simprocAttr,F165,b0b,hl2,hloop]
    | true =>
      rw [hd] at hloop
      simp only [d5x,if_true] at hloop
      simp -implicitDefEqProofs (disch:=omega) only [Rx,simprocAttr,F165,b0b,hl2,hloop]
  · have hl2:((a.length:Int)==(b.length:Int))=false:=by rw [beq_eq_false_iff_ne];omega
    have hd:decide (a=b)=false:=by rw [decide_eq_false_iff_not];intro hh;exact hlen (by rw [hh])
    rw [hd]
    simp -implicitDefEqProofs (disch:=omega) only [Rx,simprocAttr,F165,b0b,hl2]
def hOk (n:Int):Bool:=decide (0≤n) && decide (n≤4294967295)
theorem g3a (k:Int) (g:List AObj) (n:Nat):b0g T (n+1) 113 [.p (.int .i64 k)] g=some (.p (.bool (hOk k)),g):=by
 rw [b0a T113,run_pure rfl rfl rfl]
 by_cases h1:0≤k
 ·by_cases h2:k≤4294967295
  ·simp -implicitDefEqProofs (disch:=omega) only [Rx,simprocAttr,F113,hOk,h1,h2]
  ·simp -implicitDefEqProofs (disch:=omega) only [Rx,simprocAttr,F113,hOk,h1,h2]
 ·simp -implicitDefEqProofs (disch:=omega) only [Rx,simprocAttr,F113,hOk,h1]
theorem h1j (k:Int) (g:List AObj) (n:Nat):b0g T (n+1) 61 [.p (.int .i64 k)] g=some (.p (.bool (!hOk k)),g):=by
 rw [b0a T61,run_pure rfl rfl rfl]
 by_cases h1:k<0
 ·have h1':¬ 0≤k:=by omega
  simp -implicitDefEqProofs (disch:=omega) only [Rx,simprocAttr,F61,hOk,h1,h1']
 ·have h1':0≤k:=by omega
  by_cases h2:4294967295<k
  ·have h2':¬ k≤4294967295:=by omega
   simp -implicitDefEqProofs (disch:=omega) only [Rx,simprocAttr,F61,hOk,h1,h1',h2,h2']
  ·have h2':k≤4294967295:=by omega
   simp -implicitDefEqProofs (disch:=omega) only [Rx,simprocAttr,F61,hOk,h1,h1',h2,h2']
theorem c6o (k:Int) (h1 : -9223372036854775808≤k) (h2:k≤9223372036854775807) (g:List AObj) (n:Nat):b0g T (n+1) 167 [.p (.int .i64 k)] g=some (.p (.str (Lib.itoa k)),g):=by
 rw [b4y T167]
 simp [g2n,h1,h2]
theorem d9e:∀ (u:Nat),1≤u→Lib.decDigits u≠[48]:=by
 intro u hu h
 by_cases h10:u<10
 ·rw [Lib.decDigits_one h10] at h
  injection h with h _
  have:(UInt8.ofNat (48+u)).toNat=48:=by rw [h];rfl
  rw [UInt8.toNat_ofNat'] at this
  omega
 ·have hl:=Lib.decDigits_length u
  rw [h] at hl
  rw [Lib.nDigits,dif_neg h10] at hl
  have:1≤Lib.nDigits (u / 10):=by
   rw [Lib.nDigits]
   split <;> omega
  simp at hl
  omega
theorem c8i {k:Int} (h:0≤k):(Lib.itoa k==Lib.itoa 0)=(k==0):=by
 have e0:Lib.itoa 0=[48]:=by
  have:Lib.itoa 0=Lib.decDigits 0:=by simp [Lib.itoa]
  rw [this,Lib.decDigits_one (by omega)]
  rfl
 rw [e0]
 by_cases hk:k=0
 ·subst hk;rw [e0];rfl
 ·have hne:Lib.itoa k≠[48]:=by
   have:Lib.itoa k=Lib.decDigits k.toNat:=by unfold Lib.itoa;rw [if_neg (by omega)]
   rw [this]
   exact d9e _ (by omega)
  rw [Bool.eq_iff_iff,beq_iff_eq,beq_iff_eq]
  exact ⟨fun h=>absurd h hne,fun h=>absurd h hk⟩
def d3z (k:Int):Prop:=0≤k∧k≤4294967295
structure c9f (x:GOp):Prop where
 kind:d3z x.kind
 node:d3z x.node
 up:d3z x.up
 before:d3z x.before
theorem g6o (x:GOp) (hx:c9f x) (g:List AObj) (n:Nat):b0g T (n+2) 166 [.p (.agg x.pv)] g=some (.p (.agg [.str (Lib.itoa x.kind),.str (Lib.itoa x.node),.str (Lib.itoa x.up),.str (Lib.itoa x.before),.str x.tag,.str x.key,.str x.name,.str x.text,.str []]),g):=by
 rw [b0a T166,run_pure rfl rfl rfl]
 have h1:=fun g=>c6o x.kind (by have:=hx.kind.1;omega) (by have:=hx.kind.2;omega) g n
 have h2:=fun g=>c6o x.node (by have:=hx.node.1;omega) (by have:=hx.node.2;omega) g n
 have h3:=fun g=>c6o x.up (by have:=hx.up.1;omega) (by have:=hx.up.2;omega) g n
 have h4:=fun g=>c6o x.before (by have:=hx.before.1;omega) (by have:=hx.before.2;omega) g n
 simp -implicitDefEqProofs (disch:=omega) only [Rx,simprocAttr,F166,GOp.pv,b0b,h1,h2,h3,h4]
def c7d (x y:GOp):Bool:=decide (x.attrs=y.attrs) && ((Lib.itoa x.kind==Lib.itoa y.kind) && ((Lib.itoa x.node==Lib.itoa y.node) && ((Lib.itoa x.up==Lib.itoa y.up) && ((Lib.itoa x.before==Lib.itoa y.before) && ((x.tag==y.tag) && ((x.key==y.key) && ((x.name==y.name) && (x.text==y.text))))))))
theorem g2p (x y:GOp) (hx:c9f x) (hy:c9f y) (g:List AObj) {n:Nat} (hl:x.attrs.length<n+1) (hb:x.attrs.length≤1048576):b0g T (n+3) 114 [.p (.agg x.pv),.p (.agg y.pv)] g=some (.p (.bool (c7d x y)),g):=by
 rw [b0a T114,run_pure rfl rfl rfl]
 have he:=fun g=>d4a x.attrs y.attrs g (n:=x.attrs.length+1) (m:=n+1) (by omega) (by omega) (by omega)
 have o1:=fun g=>g6o x hx g n
 have o2:=fun g=>g6o y hy g n
 simp only [GOp.pv,b0b] at he o1 o2
 by_cases ha:x.attrs=y.attrs
 ·have ha':decide (x.attrs=y.attrs)=true:=by simpa using ha
  rw [ha'] at he
  simp only [c7d,ha']
  simp -implicitDefEqProofs (disch:=omega) only [Rx,simprocAttr,F114,GOp.pv,b0b,he,o1,o2,b8t,Nat.zero_add]
 ·have ha':decide (x.attrs=y.attrs)=false:=by simpa using ha
  rw [ha'] at he
  simp only [c7d,ha']
  simp -implicitDefEqProofs (disch:=omega) only [Rx,simprocAttr,F114,GOp.pv,b0b,he]
end Go.TA.Tryz


end
section
/- What is wrong with an operation: the document's answer. -/
namespace Go.TA.Tryz
def b1u (x:GOp):Bool:=(x.kind==1) && !b1z false x.tag
def b1e (x:GOp):Bool:=((x.kind==5) || (x.kind==6)) && !b1z true x.name
def b0y (x:GOp):Int:=if x.kind<1 then 6 else if 7<x.kind then 6 else if hOk x.node=false then 5 else if hOk x.up=false then 5 else if hOk x.before=false then 5 else if b8i x=true then 2 else if b1u x=true then 7 else if b1e x=true then 8 else if 65536<(x.key.length:Int) then 3 else if 65536<(x.text.length:Int) then 3 else b2a x.attrs
theorem g6i (x:GOp) (hs:b2x x.attrs) (g:List AObj) {n:Nat} (hl:x.attrs.length<n) (hn:1048576<n):b0g T (n+37) 18 [.p (.agg x.pv)] g=some (.p (.int .i64 (b0y x)),g):=by
 rw [b0a T18,run_pure rfl rfl rfl]
 have ov:=fun (k:Int) g=>h1j k g (n+35)
 have nt:=fun s g=>b2u s false g (n+1)
 have nn:=fun s g=>b2u s true g (n+1)
 have at_:=fun g=>g9y x.attrs hs g (n:=n) (by omega) hn
 by_cases k1:x.kind<1
 ·have e:b0y x=6:=by simp [b0y,b1u,b1e,k1]
  rw [e]
  simp -implicitDefEqProofs (disch:=omega) only [Rx,simprocAttr,F18,GOp.pv,b0b,k1]
 by_cases k7:7<x.kind
 ·have e:b0y x=6:=by simp [b0y,b1u,b1e,k1,k7]
  rw [e]
  simp -implicitDefEqProofs (disch:=omega) only [Rx,simprocAttr,F18,GOp.pv,b0b,k1,k7]
 cases hnode:hOk x.node
 ·have e:b0y x=5:=by simp [b0y,b1u,b1e,k1,k7,hnode]
  rw [e]
  simp -implicitDefEqProofs (disch:=omega) only [Rx,simprocAttr,F18,GOp.pv,b0b,ov,k1,k7,hnode]
 cases hup:hOk x.up
 ·have e:b0y x=5:=by simp [b0y,b1u,b1e,k1,k7,hnode,hup]
  rw [e]
  simp -implicitDefEqProofs (disch:=omega) only [Rx,simprocAttr,F18,GOp.pv,b0b,ov,k1,k7,hnode,hup]
 cases hbefore:hOk x.before
 ·have e:b0y x=5:=by simp [b0y,b1u,b1e,k1,k7,hnode,hup,hbefore]
  rw [e]
  simp -implicitDefEqProofs (disch:=omega) only [Rx,simprocAttr,F18,GOp.pv,b0b,ov,k1,k7,hnode,hup,hbefore]
 have no:=fun g=>h1n x (by omega) (by omega) g (n+35)
 simp only [GOp.pv,b0b] at no
 cases hn:b8i x
 rotate_left
 ·have e:b0y x=2:=by simp [b0y,b1u,b1e,k1,k7,hnode,hup,hbefore,hn]
  rw [e]
  simp -implicitDefEqProofs (disch:=omega) only [Rx,simprocAttr,F18,GOp.pv,b0b,ov,no,k1,k7,hnode,hup,hbefore,hn]
 cases e1:(x.kind==1)
 rotate_left
 ·have e1':x.kind=1:=by simpa using e1
  have e5:(x.kind==5)=false:=by rw [e1'];rfl
  have e6:(x.kind==6)=false:=by rw [e1'];rfl
  cases t1:b1z false x.tag
  ·have e:b0y x=7:=by simp [b0y,b1u,b1e,k1,k7,hnode,hup,hbefore,hn,e1,e5,e6,t1]
   rw [e]
   simp -implicitDefEqProofs (disch:=omega) only [Rx,simprocAttr,F18,GOp.pv,b0b,ov,no,nt,k1,k7,hnode,hup,hbefore,hn,e1,t1]
  by_cases l1:65536<(x.key.length:Int)
  ·have e:b0y x=3:=by simp [b0y,b1u,b1e,k1,k7,hnode,hup,hbefore,hn,e1,e5,e6,t1,l1]
   rw [e]
   simp -implicitDefEqProofs (disch:=omega) only [Rx,simprocAttr,F18,GOp.pv,b0b,ov,no,nt,k1,k7,hnode,hup,hbefore,hn,e1,e5,e6,t1,l1]
  by_cases l2:65536<(x.text.length:Int)
  ·have e:b0y x=3:=by simp [b0y,b1u,b1e,k1,k7,hnode,hup,hbefore,hn,e1,e5,e6,t1,l1,l2]
   rw [e]
   simp -implicitDefEqProofs (disch:=omega) only [Rx,simprocAttr,F18,GOp.pv,b0b,ov,no,nt,k1,k7,hnode,hup,hbefore,hn,e1,e5,e6,t1,l1,l2]
  have e:b0y x=b2a x.attrs:=by simp [b0y,b1u,b1e,k1,k7,hnode,hup,hbefore,hn,e1,e5,e6,t1,l1,l2]
  rw [e]
  simp -implicitDefEqProofs (disch:=omega) only [Rx,simprocAttr,F18,GOp.pv,b0b,ov,no,nt,at_,k1,k7,hnode,hup,hbefore,hn,e1,e5,e6,t1,l1,l2]
 cases e5:(x.kind==5)
 rotate_left
 ·cases t2:b1z true x.name
  ·have e:b0y x=8:=by simp [b0y,b1u,b1e,k1,k7,hnode,hup,hbefore,hn,e1,e5,t2]
   rw [e]
   simp -implicitDefEqProofs (disch:=omega) only [Rx,simprocAttr,F18,GOp.pv,b0b,ov,no,nn,k1,k7,hnode,hup,hbefore,hn,e1,e5,t2]
  by_cases l1:65536<(x.key.length:Int)
  ·have e:b0y x=3:=by simp [b0y,b1u,b1e,k1,k7,hnode,hup,hbefore,hn,e1,e5,t2,l1]
   rw [e]
   simp -implicitDefEqProofs (disch:=omega) only [Rx,simprocAttr,F18,GOp.pv,b0b,ov,no,nn,k1,k7,hnode,hup,hbefore,hn,e1,e5,t2,l1]
  by_cases l2:65536<(x.text.length:Int)
  ·have e:b0y x=3:=by simp [b0y,b1u,b1e,k1,k7,hnode,hup,hbefore,hn,e1,e5,t2,l1,l2]
   rw [e]
   simp -implicitDefEqProofs (disch:=omega) only [Rx,simprocAttr,F18,GOp.pv,b0b,ov,no,nn,k1,k7,hnode,hup,hbefore,hn,e1,e5,t2,l1,l2]
  have e:b0y x=b2a x.attrs:=by simp [b0y,b1u,b1e,k1,k7,hnode,hup,hbefore,hn,e1,e5,t2,l1,l2]
  rw [e]
  simp -implicitDefEqProofs (disch:=omega) only [Rx,simprocAttr,F18,GOp.pv,b0b,ov,no,nn,at_,k1,k7,hnode,hup,hbefore,hn,e1,e5,t2,l1,l2]
 cases e6:(x.kind==6)
 rotate_left
 ·cases t2:b1z true x.name
  ·have e:b0y x=8:=by simp [b0y,b1u,b1e,k1,k7,hnode,hup,hbefore,hn,e1,e5,e6,t2]
   rw [e]
   simp -implicitDefEqProofs (disch:=omega) only [Rx,simprocAttr,F18,GOp.pv,b0b,ov,no,nn,k1,k7,hnode,hup,hbefore,hn,e1,e5,e6,t2]
  by_cases l1:65536<(x.key.length:Int)
  ·have e:b0y x=3:=by simp [b0y,b1u,b1e,k1,k7,hnode,hup,hbefore,hn,e1,e5,e6,t2,l1]
   rw [e]
   simp -implicitDefEqProofs (disch:=omega) only [Rx,simprocAttr,F18,GOp.pv,b0b,ov,no,nn,k1,k7,hnode,hup,hbefore,hn,e1,e5,e6,t2,l1]
  by_cases l2:65536<(x.text.length:Int)
  ·have e:b0y x=3:=by simp [b0y,b1u,b1e,k1,k7,hnode,hup,hbefore,hn,e1,e5,e6,t2,l1,l2]
   rw [e]
   simp -implicitDefEqProofs (disch:=omega) only [Rx,simprocAttr,F18,GOp.pv,b0b,ov,no,nn,k1,k7,hnode,hup,hbefore,hn,e1,e5,e6,t2,l1,l2]
  have e:b0y x=b2a x.attrs:=by simp [b0y,b1u,b1e,k1,k7,hnode,hup,hbefore,hn,e1,e5,e6,t2,l1,l2]
  rw [e]
  simp -implicitDefEqProofs (disch:=omega) only [Rx,simprocAttr,F18,GOp.pv,b0b,ov,no,nn,at_,k1,k7,hnode,hup,hbefore,hn,e1,e5,e6,t2,l1,l2]
 by_cases l1:65536<(x.key.length:Int)
 ·have e:b0y x=3:=by simp [b0y,b1u,b1e,k1,k7,hnode,hup,hbefore,hn,e1,e5,e6,l1]
  rw [e]
  simp -implicitDefEqProofs (disch:=omega) only [Rx,simprocAttr,F18,GOp.pv,b0b,ov,no,k1,k7,hnode,hup,hbefore,hn,e1,e5,e6,l1]
 by_cases l2:65536<(x.text.length:Int)
 ·have e:b0y x=3:=by simp [b0y,b1u,b1e,k1,k7,hnode,hup,hbefore,hn,e1,e5,e6,l1,l2]
  rw [e]
  simp -implicitDefEqProofs (disch:=omega) only [Rx,simprocAttr,F18,GOp.pv,b0b,ov,no,k1,k7,hnode,hup,hbefore,hn,e1,e5,e6,l1,l2]
 have e:b0y x=b2a x.attrs:=by simp [b0y,b1u,b1e,k1,k7,hnode,hup,hbefore,hn,e1,e5,e6,l1,l2]
 rw [e]
 simp -implicitDefEqProofs (disch:=omega) only [Rx,simprocAttr,F18,GOp.pv,b0b,ov,no,at_,k1,k7,hnode,hup,hbefore,hn,e1,e5,e6,l1,l2]
end Go.TA.Tryz


end
section
/- What is wrong with an operation: the program. -/
namespace Go.TA.Tryz
theorem g5a {x:GOp} (h1:1≤x.kind) (h7:x.kind≤7) (hx:c9f x):c9f (b4u x):=by
 have z:d3z 0:=⟨by omega,by omega⟩
 unfold b4u
 split
 ·exact ⟨hx.kind,z,z,z⟩
 split
 ·exact ⟨hx.kind,hx.node,hx.up,hx.before⟩
 split
 ·exact ⟨hx.kind,hx.node,z,hx.before⟩
 split
 ·exact ⟨hx.kind,hx.node,z,z⟩
 split
 ·exact ⟨hx.kind,hx.node,z,z⟩
 split
 ·exact ⟨hx.kind,hx.node,z,z⟩
 split
 ·exact ⟨hx.kind,hx.node,z,z⟩
 ·exact hx
theorem h5z (l:List Attr):decide (l=[]) = !nzA l:=by
  cases l with
  | nil=>simp [nzA]
  | cons a l =>
    have:(0:Int)<((a::l).length:Int):=by simp
    simp [nzA,this]
theorem g5s {x:GOp} (h1:1≤x.kind) (h7:x.kind≤7) (hx:c9f x):c7d x (b4u x) = !b8i x:=by
 have zn:=c8i hx.node.1
 have zu:=c8i hx.up.1
 have zb:=c8i hx.before.1
 have za:=h5z x.attrs
 by_cases k1:x.kind=1
 ·simp only [b4u,b8i,k1,if_true,if_false,Int.reduceEq,c7d,h0p,h1u,zn,zu,zb,za,nzI,nzS,beq_self_eq_true,decide_true,Bool.true_and,Bool.and_true,Bool.not_or,Bool.not_not]
  all_goals (cases x.tag==[] <;> cases x.key==[] <;> cases x.name==[] <;> cases x.text==[] <;> cases nzA x.attrs <;> cases x.node==0 <;> cases x.up==0 <;> cases x.before==0 <;> rfl)
 by_cases k2:x.kind=2
 ·have q1:(x.kind=1)=False:=by simp;omega
  simp only [b4u,b8i,k2,if_true,if_false,Int.reduceEq,c7d,h0o,h1t,zn,zu,zb,za,nzI,nzS,beq_self_eq_true,decide_true,Bool.true_and,Bool.and_true,Bool.not_or,Bool.not_not]
  all_goals (cases x.tag==[] <;> cases x.key==[] <;> cases x.name==[] <;> cases x.text==[] <;> cases nzA x.attrs <;> cases x.node==0 <;> cases x.up==0 <;> cases x.before==0 <;> rfl)
 by_cases k3:x.kind=3
 ·have q1:(x.kind=1)=False:=by simp;omega
  have q2:(x.kind=2)=False:=by simp;omega
  simp only [b4u,b8i,k3,if_true,if_false,Int.reduceEq,c7d,h0n,h1s,zn,zu,zb,za,nzI,nzS,beq_self_eq_true,decide_true,Bool.true_and,Bool.and_true,Bool.not_or,Bool.not_not]
  all_goals (cases x.tag==[] <;> cases x.key==[] <;> cases x.name==[] <;> cases x.text==[] <;> cases nzA x.attrs <;> cases x.node==0 <;> cases x.up==0 <;> cases x.before==0 <;> rfl)
 by_cases k4:x.kind=4
 ·have q1:(x.kind=1)=False:=by simp;omega
  have q2:(x.kind=2)=False:=by simp;omega
  have q3:(x.kind=3)=False:=by simp;omega
  simp only [b4u,b8i,k4,if_true,if_false,Int.reduceEq,c7d,h0m,h1r,zn,zu,zb,za,nzI,nzS,beq_self_eq_true,decide_true,Bool.true_and,Bool.and_true,Bool.not_or,Bool.not_not]
  all_goals (cases x.tag==[] <;> cases x.key==[] <;> cases x.name==[] <;> cases x.text==[] <;> cases nzA x.attrs <;> cases x.node==0 <;> cases x.up==0 <;> cases x.before==0 <;> rfl)
 by_cases k5:x.kind=5
 ·have q1:(x.kind=1)=False:=by simp;omega
  have q2:(x.kind=2)=False:=by simp;omega
  have q3:(x.kind=3)=False:=by simp;omega
  have q4:(x.kind=4)=False:=by simp;omega
  simp only [b4u,b8i,k5,if_true,if_false,Int.reduceEq,c7d,h0l,h1q,zn,zu,zb,za,nzI,nzS,beq_self_eq_true,decide_true,Bool.true_and,Bool.and_true,Bool.not_or,Bool.not_not]
  all_goals (cases x.tag==[] <;> cases x.key==[] <;> cases x.name==[] <;> cases x.text==[] <;> cases nzA x.attrs <;> cases x.node==0 <;> cases x.up==0 <;> cases x.before==0 <;> rfl)
 by_cases k6:x.kind=6
 ·have q1:(x.kind=1)=False:=by simp;omega
  have q2:(x.kind=2)=False:=by simp;omega
  have q3:(x.kind=3)=False:=by simp;omega
  have q4:(x.kind=4)=False:=by simp;omega
  have q5:(x.kind=5)=False:=by simp;omega
  simp only [b4u,b8i,k6,if_true,if_false,Int.reduceEq,c7d,h0k,h1p,zn,zu,zb,za,nzI,nzS,beq_self_eq_true,decide_true,Bool.true_and,Bool.and_true,Bool.not_or,Bool.not_not]
  all_goals (cases x.tag==[] <;> cases x.key==[] <;> cases x.name==[] <;> cases x.text==[] <;> cases nzA x.attrs <;> cases x.node==0 <;> cases x.up==0 <;> cases x.before==0 <;> rfl)
 by_cases k7:x.kind=7
 ·have q1:(x.kind=1)=False:=by simp;omega
  have q2:(x.kind=2)=False:=by simp;omega
  have q3:(x.kind=3)=False:=by simp;omega
  have q4:(x.kind=4)=False:=by simp;omega
  have q5:(x.kind=5)=False:=by simp;omega
  have q6:(x.kind=6)=False:=by simp;omega
  simp only [b4u,b8i,k7,if_true,if_false,Int.reduceEq,c7d,h0j,h1o,zn,zu,zb,za,nzI,nzS,beq_self_eq_true,decide_true,Bool.true_and,Bool.and_true,Bool.not_or,Bool.not_not]
  all_goals (cases x.tag==[] <;> cases x.key==[] <;> cases x.name==[] <;> cases x.text==[] <;> cases nzA x.attrs <;> cases x.node==0 <;> cases x.up==0 <;> cases x.before==0 <;> rfl)
 omega
theorem h6n {x:GOp} (h1:¬ x.kind<1) (h7:¬ 7<x.kind) (hn:hOk x.node=true) (hu:hOk x.up=true) (hb:hOk x.before=true):c9f x:=by
 simp only [hOk,Bool.and_eq_true,decide_eq_true_eq] at hn hu hb
 exact ⟨⟨by omega,by omega⟩,hn,hu,hb⟩
end Go.TA.Tryz


end
section
/- What is wrong with an operation: the program. -/
namespace Go.TA.Tryz
theorem h1k (x:GOp) (g:List AObj) {n:Nat} (hl:x.attrs.length<n) (hb:x.attrs.length≤1048576):b0g T (n+38) 65 [.p (.agg x.pv)] g=some (.p (.int .i64 (b0y x)),g):=by
 rw [b0a T65,run_pure rfl rfl rfl]
 have ha:=fun (k:Int) g=>g3a k g (n+36)
 have tg:=fun s g=>c4m s g (n+1)
 have nm:=fun s g=>b7u s g (n+1)
 have fi:=fun s g=>b4i s g (n+36)
 have at_:=fun g=>g9p x.attrs g (n:=n) (by omega)
 by_cases k1:x.kind<1
 ·have e:b0y x=6:=by simp [b0y,b1u,b1e,k1]
  rw [e]
  simp -implicitDefEqProofs (disch:=omega) only [Rx,simprocAttr,F65,GOp.pv,b0b,k1]
 by_cases k7:7<x.kind
 ·have e:b0y x=6:=by simp [b0y,b1u,b1e,k1,k7]
  rw [e]
  simp -implicitDefEqProofs (disch:=omega) only [Rx,simprocAttr,F65,GOp.pv,b0b,k1,k7]
 cases hnode:hOk x.node
 ·have e:b0y x=5:=by simp [b0y,b1u,b1e,k1,k7,hnode]
  rw [e]
  simp -implicitDefEqProofs (disch:=omega) only [Rx,simprocAttr,F65,GOp.pv,b0b,ha,k1,k7,hnode]
 cases hup:hOk x.up
 ·have e:b0y x=5:=by simp [b0y,b1u,b1e,k1,k7,hnode,hup]
  rw [e]
  simp -implicitDefEqProofs (disch:=omega) only [Rx,simprocAttr,F65,GOp.pv,b0b,ha,k1,k7,hnode,hup]
 cases hbefore:hOk x.before
 ·have e:b0y x=5:=by simp [b0y,b1u,b1e,k1,k7,hnode,hup,hbefore]
  rw [e]
  simp -implicitDefEqProofs (disch:=omega) only [Rx,simprocAttr,F65,GOp.pv,b0b,ha,k1,k7,hnode,hup,hbefore]
 have us:=fun g=>h0i x (by omega) (by omega) g (n+36)
 have hf:=h6n k1 k7 hnode hup hbefore
 have sa:=fun g=>g2p x (b4u x) hf (g5a (by omega) (by omega) hf) g (n:=n+34) (by omega) hb
 rw [g5s (by omega) (by omega) hf] at sa
 generalize b4u x=u at us sa
 simp only [GOp.pv,b0b] at us sa
 cases hn:b8i x
 rotate_left
 ·rw [hn] at sa
  have e:b0y x=2:=by simp [b0y,b1u,b1e,k1,k7,hnode,hup,hbefore,hn]
  rw [e]
  simp -implicitDefEqProofs (disch:=omega) only [Rx,simprocAttr,F65,GOp.pv,b0b,ha,us,sa,k1,k7,hnode,hup,hbefore]
 rw [hn] at sa
 cases e1:(x.kind==1)
 rotate_left
 ·have e1':x.kind=1:=by simpa using e1
  have e5:(x.kind==5)=false:=by rw [e1'];rfl
  have e6:(x.kind==6)=false:=by rw [e1'];rfl
  cases t1:b1z false x.tag
  ·have e:b0y x=7:=by simp [b0y,b1u,b1e,k1,k7,hnode,hup,hbefore,hn,e1,e5,e6,t1]
   rw [e]
   simp -implicitDefEqProofs (disch:=omega) only [Rx,simprocAttr,F65,GOp.pv,b0b,ha,us,sa,tg,k1,k7,hnode,hup,hbefore,e1,t1]
  by_cases l1:(x.key.length:Int)≤65536
  rotate_left
  ·have l1':65536<(x.key.length:Int):=by omega
   have e:b0y x=3:=by simp [b0y,b1u,b1e,k1,k7,hnode,hup,hbefore,hn,e1,e5,e6,t1,l1,l1']
   rw [e]
   simp -implicitDefEqProofs (disch:=omega) only [Rx,simprocAttr,F65,GOp.pv,b0b,ha,us,sa,tg,fi,k1,k7,hnode,hup,hbefore,e1,e5,e6,t1,l1]
  have l1':¬ 65536<(x.key.length:Int):=by omega
  by_cases l2:(x.text.length:Int)≤65536
  rotate_left
  ·have l2':65536<(x.text.length:Int):=by omega
   have e:b0y x=3:=by simp [b0y,b1u,b1e,k1,k7,hnode,hup,hbefore,hn,e1,e5,e6,t1,l1,l1',l2,l2']
   rw [e]
   simp -implicitDefEqProofs (disch:=omega) only [Rx,simprocAttr,F65,GOp.pv,b0b,ha,us,sa,tg,fi,k1,k7,hnode,hup,hbefore,e1,e5,e6,t1,l1,l2]
  have l2':¬ 65536<(x.text.length:Int):=by omega
  have e:b0y x=b2a x.attrs:=by simp [b0y,b1u,b1e,k1,k7,hnode,hup,hbefore,hn,e1,e5,e6,t1,l1,l1',l2,l2']
  rw [e]
  simp -implicitDefEqProofs (disch:=omega) only [Rx,simprocAttr,F65,GOp.pv,b0b,ha,us,sa,tg,fi,at_,k1,k7,hnode,hup,hbefore,e1,e5,e6,t1,l1,l2]
 cases e5:(x.kind==5)
 rotate_left
 ·cases t2:b1z true x.name
  ·have e:b0y x=8:=by simp [b0y,b1u,b1e,k1,k7,hnode,hup,hbefore,hn,e1,e5,t2]
   rw [e]
   simp -implicitDefEqProofs (disch:=omega) only [Rx,simprocAttr,F65,GOp.pv,b0b,ha,us,sa,nm,k1,k7,hnode,hup,hbefore,e1,e5,t2]
  by_cases l1:(x.key.length:Int)≤65536
  rotate_left
  ·have l1':65536<(x.key.length:Int):=by omega
   have e:b0y x=3:=by simp [b0y,b1u,b1e,k1,k7,hnode,hup,hbefore,hn,e1,e5,t2,l1,l1']
   rw [e]
   simp -implicitDefEqProofs (disch:=omega) only [Rx,simprocAttr,F65,GOp.pv,b0b,ha,us,sa,nm,fi,k1,k7,hnode,hup,hbefore,e1,e5,t2,l1]
  have l1':¬ 65536<(x.key.length:Int):=by omega
  by_cases l2:(x.text.length:Int)≤65536
  rotate_left
  ·have l2':65536<(x.text.length:Int):=by omega
   have e:b0y x=3:=by simp [b0y,b1u,b1e,k1,k7,hnode,hup,hbefore,hn,e1,e5,t2,l1,l1',l2,l2']
   rw [e]
   simp -implicitDefEqProofs (disch:=omega) only [Rx,simprocAttr,F65,GOp.pv,b0b,ha,us,sa,nm,fi,k1,k7,hnode,hup,hbefore,e1,e5,t2,l1,l2]
  have l2':¬ 65536<(x.text.length:Int):=by omega
  have e:b0y x=b2a x.attrs:=by simp [b0y,b1u,b1e,k1,k7,hnode,hup,hbefore,hn,e1,e5,t2,l1,l1',l2,l2']
  rw [e]
  simp -implicitDefEqProofs (disch:=omega) only [Rx,simprocAttr,F65,GOp.pv,b0b,ha,us,sa,nm,fi,at_,k1,k7,hnode,hup,hbefore,e1,e5,t2,l1,l2]
 cases e6:(x.kind==6)
 rotate_left
 ·cases t2:b1z true x.name
  ·have e:b0y x=8:=by simp [b0y,b1u,b1e,k1,k7,hnode,hup,hbefore,hn,e1,e5,e6,t2]
   rw [e]
   simp -implicitDefEqProofs (disch:=omega) only [Rx,simprocAttr,F65,GOp.pv,b0b,ha,us,sa,nm,k1,k7,hnode,hup,hbefore,e1,e5,e6,t2]
  by_cases l1:(x.key.length:Int)≤65536
  rotate_left
  ·have l1':65536<(x.key.length:Int):=by omega
   have e:b0y x=3:=by simp [b0y,b1u,b1e,k1,k7,hnode,hup,hbefore,hn,e1,e5,e6,t2,l1,l1']
   rw [e]
   simp -implicitDefEqProofs (disch:=omega) only [Rx,simprocAttr,F65,GOp.pv,b0b,ha,us,sa,nm,fi,k1,k7,hnode,hup,hbefore,e1,e5,e6,t2,l1]
  have l1':¬ 65536<(x.key.length:Int):=by omega
  by_cases l2:(x.text.length:Int)≤65536
  rotate_left
  ·have l2':65536<(x.text.length:Int):=by omega
   have e:b0y x=3:=by simp [b0y,b1u,b1e,k1,k7,hnode,hup,hbefore,hn,e1,e5,e6,t2,l1,l1',l2,l2']
   rw [e]
   simp -implicitDefEqProofs (disch:=omega) only [Rx,simprocAttr,F65,GOp.pv,b0b,ha,us,sa,nm,fi,k1,k7,hnode,hup,hbefore,e1,e5,e6,t2,l1,l2]
  have l2':¬ 65536<(x.text.length:Int):=by omega
  have e:b0y x=b2a x.attrs:=by simp [b0y,b1u,b1e,k1,k7,hnode,hup,hbefore,hn,e1,e5,e6,t2,l1,l1',l2,l2']
  rw [e]
  simp -implicitDefEqProofs (disch:=omega) only [Rx,simprocAttr,F65,GOp.pv,b0b,ha,us,sa,nm,fi,at_,k1,k7,hnode,hup,hbefore,e1,e5,e6,t2,l1,l2]
 by_cases l1:(x.key.length:Int)≤65536
 rotate_left
 ·have l1':65536<(x.key.length:Int):=by omega
  have e:b0y x=3:=by simp [b0y,b1u,b1e,k1,k7,hnode,hup,hbefore,hn,e1,e5,e6,l1,l1']
  rw [e]
  simp -implicitDefEqProofs (disch:=omega) only [Rx,simprocAttr,F65,GOp.pv,b0b,ha,us,sa,fi,k1,k7,hnode,hup,hbefore,e1,e5,e6,l1]
 have l1':¬ 65536<(x.key.length:Int):=by omega
 by_cases l2:(x.text.length:Int)≤65536
 rotate_left
 ·have l2':65536<(x.text.length:Int):=by omega
  have e:b0y x=3:=by simp [b0y,b1u,b1e,k1,k7,hnode,hup,hbefore,hn,e1,e5,e6,l1,l1',l2,l2']
  rw [e]
  simp -implicitDefEqProofs (disch:=omega) only [Rx,simprocAttr,F65,GOp.pv,b0b,ha,us,sa,fi,k1,k7,hnode,hup,hbefore,e1,e5,e6,l1,l2]
 have l2':¬ 65536<(x.text.length:Int):=by omega
 have e:b0y x=b2a x.attrs:=by simp [b0y,b1u,b1e,k1,k7,hnode,hup,hbefore,hn,e1,e5,e6,l1,l1',l2,l2']
 rw [e]
 simp -implicitDefEqProofs (disch:=omega) only [Rx,simprocAttr,F65,GOp.pv,b0b,ha,us,sa,fi,at_,k1,k7,hnode,hup,hbefore,e1,e5,e6,l1,l2]
end Go.TA.Tryz


end
section
/- What an operation does, if it may be. -/
namespace Go.TA.Tryz
noncomputable def doE (S:MS) (x:GOp):Int × MS:=if b0y x=0 then doM S x else (b0y x,S)
section
variable {R:Nat} {S:MS}
end
noncomputable def runM:MS→List GOp→Nat→Nat × Int × MS
 | S,[],i=>(i,0,S)
 | S,x::l,i=>if (doE S x).1=0 then runM (doE S x).2 l (i+1) else (i,(doE S x).1,(doE S x).2)
end Go.TA.Tryz


end
section
/- What an operation does to a machine: the functions change, insert, move. -/
namespace Go.TA.Tryz
theorem g4a {R:Nat} {S:MS} (hS:S.Ok R) (av:Nat→AV) (rest:List AObj) (h:Nat) (hh:h<S.N) (x:GOp) {n:Nat} (hn:1048580<n) :
  b0g T (n+5) 71 [MP,.ptr true 0 7 S.N h 0,.p (.agg x.pv)] (b0m S.N S.st av rest)=some (.p (.int .i64 (b7p S h x).1),b0m S.N (b7p S h x).2.st av rest):=by
 have len1:∀ st av,(b0x S.N st av).length=S.N:=fun _ _=>b2i
 have hgh:(b0x S.N S.st av).getD h []=b1t (S.st h) (av h):=b1y hh
 have ha:=hS.attrs h hh
 have hw:=fun g=>d9r (S.st h).attrs x.name x.text ha g (n:=n+2) (by omega)
 have ho:=fun g=>c6v (S.st h).attrs x.name ha g (n:=n) (by omega)
 have hset:∀ (t:Bs) (a:List Attr),(b0x S.N S.st av).set h [.p (.bool (S.st h).live),.p (.int .i64 (S.st h).up),av h,.p (.str (S.st h).tag),.p (.str (S.st h).key),.p (.str t),.p (.list (a.map Attr.pv))]=b0x S.N (upd S.st h { S.st h with text:=t,attrs:=a }) av:=fun t a=>by
  have:=b5s (N:=S.N) (st:=S.st) (av:=av) hh { S.st h with text:=t,attrs:=a } (av h)
  simp only [b1t] at this
  rw [this]
  refine b3p fun k hk=>⟨rfl, ?_⟩
  by_cases e:k=h
  ·subst e;rw [b0l]
  ·rw [b0i e]
 have wl:((b6s (S.st h).attrs x.name x.text).map Attr.pv).length=(b6s (S.st h).attrs x.name x.text).length:=by simp
 have hset1:=fun a=>hset (S.st h).text a
 have hset2:=fun t=>hset t (S.st h).attrs
 rw [b0a T71,b0e rfl rfl]
 unfold b7p
 simp only [b1t] at hgh
 by_cases k5:x.kind=5
 ·rw [if_pos k5]
  have e5:(x.kind==5)=true:=by simpa using k5
  by_cases h64:64<((b6s (S.st h).attrs x.name x.text).length:Int)
  ·rw [if_pos h64]
   simp only [b0m]
   simp -implicitDefEqProofs (disch:=omega) only [Rx,simprocAttr,F71,GOp.pv,b0b,k5,len1,hgh,hw,wl,h64]
  ·rw [if_neg h64]
   simp only [b0m,setM]
   simp -implicitDefEqProofs (disch:=omega) only [Rx,simprocAttr,F71,GOp.pv,b0b,k5,len1,hgh,hw,wl,h64,hset1]
 rw [if_neg k5]
 have e5:(x.kind==5)=false:=by simpa using k5
 by_cases k6:x.kind=6
 ·rw [if_pos k6]
  have e6:(x.kind==6)=true:=by simpa using k6
  by_cases hlt:(b2r (S.st h).attrs x.name).length<(S.st h).attrs.length
  ·rw [if_pos hlt]
   have ed:decide ((b2r (S.st h).attrs x.name).length<(S.st h).attrs.length)=true:=by simpa using hlt
   simp only [ed] at ho
   simp only [b0m,setM]
   simp -implicitDefEqProofs (disch:=omega) only [Rx,simprocAttr,F71,GOp.pv,b0b,k6,len1,hgh,ho,hset1]
  ·rw [if_neg hlt]
   have ed:decide ((b2r (S.st h).attrs x.name).length<(S.st h).attrs.length)=false:=by simpa using hlt
   simp only [ed] at ho
   simp only [b0m]
   simp -implicitDefEqProofs (disch:=omega) only [Rx,simprocAttr,F71,GOp.pv,b0b,k6,len1,hgh,ho]
 rw [if_neg k6]
 have e6:(x.kind==6)=false:=by simpa using k6
 by_cases k7:x.kind=7
 ·rw [if_pos k7]
  have e7:(x.kind==7)=true:=by simpa using k7
  simp only [b0m,textM]
  simp -implicitDefEqProofs (disch:=omega) only [Rx,simprocAttr,F71,GOp.pv,b0b,k7,len1,hgh,hset2]
 ·rw [if_neg k7]
  have e7:(x.kind==7)=false:=by simpa using k7
  simp only [b0m]
  simp -implicitDefEqProofs (disch:=omega) only [Rx,simprocAttr,F71,GOp.pv,b0b,e5,e6,e7]
end Go.TA.Tryz


end
