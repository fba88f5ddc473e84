/- Part 10 of 10 of a proof; joined from DidsDocRem, DocOk, DidsDocDo, DidsDo20, DidsFew, DidsIDsLaw, DidsDomIDsFin. The law DomIDs, for every input of bulk at most 1048576: the call returns true, and nothing that was there has changed. -/
import Derived.Test.YtbgbmdjfogohnaaDi1
import Derived.Test.YtbgbmdjfogohnaaDi9
import Derived.Test.YtbgbmdjfogohnaaDi6
import Derived.Test.YtbgbmdjfogohnaaDi8
import Derived.Test.YtbgbmdjfogohnaaRows
import Derived.WalkKit
import Derived.ProofKit
import Derived.OpenShut
import Derived.JoinedCond
set_option linter.unusedSimpArgs false
set_option linter.unusedVariables false
set_option linter.defProp false
set_option maxRecDepth 100000
set_option maxHeartbeats 8000000
section
/- A document: a node ends, and all below it. -/
namespace Go.TA
theorem set_same {α : Type} {l:List α} {k:Nat} {a : α} (h:l[k]? = some a):l.set k a=l:=by
 apply List.ext_getElem?
 intro j
 rw [List.getElem?_set]
 split
 ·rename_i e;subst e
  rw [if_pos (List.getElem?_eq_some_iff.1 h).1,h]
 ·rfl
noncomputable def lessL (S:MS) (h:Nat) (L:List Nat):List Nat:=L.filter fun y:Nat => !(underB S (y:Int) (h:Int))
theorem DocAt.less {L:List Nat} {st:Nat→MNode} {nx:Int} {it nd:Nat→Nat} {I:Nat→LK} {pd pm:Nat} {g:List AObj} (h:DocAt L st nx it nd I pd pm g) {L':List Nat} (hL:∀ k ∈ L',k ∈ L):DocAt L' st nx it nd I pd pm (g.set pm (.map (mapD L' nd))) where
 doc:=by rw [List.getElem?_set,if_neg (fun e=>h.pp e.symm)];exact h.doc
 map:=by rw [List.getElem?_set,if_pos rfl,if_pos (List.getElem?_eq_some_iff.1 h.map).1]
 nodes c hc:=by rw [List.getElem?_set,if_neg (fun e=>(h.ndP c (hL c hc)).2 e.symm)];exact h.nodes c (hL c hc)
 items c hc:=by
  obtain ⟨o,ho,hr⟩:=h.items c (hL c hc)
  exact ⟨o,by rw [List.getElem?_set,if_neg (fun e=>(h.itP c (hL c hc)).2 e.symm)];exact ho,hr⟩
 itInj c hc d hd:=h.itInj c (hL c hc) d (hL d hd)
 ndInj c hc d hd:=h.ndInj c (hL c hc) d (hL d hd)
 itNd c hc d hd:=h.itNd c (hL c hc) d (hL d hd)
 itP c hc:=h.itP c (hL c hc)
 ndP c hc:=h.ndP c (hL c hc)
 pp:=h.pp
noncomputable def restL (S:MS) (h:Nat) (L:List Nat) (i:Nat):List Nat:=((kidsN S h).take i).foldl (fun L k=>lessL S k L) (L.filter fun y => !(y==h))
theorem restL_succ {S:MS} {h:Nat} {L:List Nat} {i k:Nat} (hk:(kidsN S h)[i]? = some k):restL S h L (i+1)=lessL S k (restL S h L i):=by
 unfold restL
 rw [List.take_add_one,hk,List.foldl_append];rfl
theorem mem_lessL {S:MS} {h y:Nat} {L:List Nat}:y ∈ lessL S h L↔y ∈ L∧¬ Below S (h:Int) (y:Int):=by
 unfold lessL
 rw [List.mem_filter]
 constructor
 ·rintro ⟨h1,h2⟩
  refine ⟨h1,fun hb => ?_⟩
  rw [underB_iff.2 hb] at h2;simp at h2
 ·rintro ⟨h1,h2⟩
  refine ⟨h1, ?_⟩
  cases hu:underB S (y:Int) (h:Int) with
  | false=>rfl
  | true=>exact absurd (underB_iff.1 hu) h2
theorem foldL_sub (S : MS) (L : List Nat) : ∀ (l : List Nat) (p0 : Nat → Bool), ∃ p : Nat → Bool, l.foldl (fun L k => lessL S k L) (L.filter p0) = L.filter p ∧ ∀ y, p y = true ↔ (p0 y = true ∧ ∀ k ∈ l, ¬ Below S (k : Int) (y : Int)) := by
  intro l
  induction l with
  | nil=>exact fun p0=>⟨p0,rfl,fun y=>by simp⟩
  | cons k l ih =>
    intro p0
    obtain ⟨p,h1,h2⟩:=ih (fun y => !(underB S (y:Int) (k:Int)) && p0 y)
    refine ⟨p, ?_,fun y => ?_⟩
    · rw [List.foldl_cons, ← h1]
      simp [lessL,List.filter_filter]
    · rw [h2,Bool.and_eq_true]
      have:(!(underB S (y:Int) (k:Int)))=true↔¬ Below S (k:Int) (y:Int):=by
        rw [← underB_iff];simp
      rw [this]
      constructor
      · rintro ⟨⟨a,b⟩,c⟩
        refine ⟨b,fun k' hk' => ?_⟩
        rcases List.mem_cons.1 hk' with h3 | h3
        · subst h3;exact a
        · exact c k' h3
      · rintro ⟨a,b⟩
        exact ⟨⟨b k (by simp),a⟩,fun k' hk'=>b k' (by simp [hk'])⟩
theorem restL_sub (S:MS) (h:Nat) (L:List Nat) (l:List Nat):∃ p:Nat→Bool,l.foldl (fun L k=>lessL S k L) (L.filter fun y => !(y==h))=L.filter p∧∀ y,p y=true↔(y≠h∧∀ k ∈ l,¬ Below S (k:Int) (y:Int)):=by
 obtain ⟨p,h1,h2⟩:=foldL_sub S L l (fun y => !(y==h))
 exact ⟨p,h1,fun y=>by rw [h2];simp⟩
theorem restL_all {R:Nat} {S:MS} (hS:S.Ok R) {h:Nat} (hh:h<S.N) {L:List Nat} (hL:∀ y ∈ L,y<S.N):restL S h L (kidsN S h).length=lessL S h L:=by
  obtain ⟨p,h1,h2⟩:=restL_sub S h L (kidsN S h)
  unfold restL
  rw [List.take_length,h1]
  unfold lessL
  refine List.filter_congr fun y hy => ?_
  have hb:p y=true↔¬ Below S (h:Int) (y:Int):=by
    rw [h2]
    constructor
    · rintro ⟨a,b⟩ hb
      obtain ⟨k,hk,hb'⟩:=below_kid hS hb y rfl (hL y hy) a
      obtain ⟨c,rfl,_⟩:=hS.kids h hh k hk
      exact b c ((mem_kidsN hS hh).2 hk) hb'
    · intro hb
      refine ⟨fun e=>by subst e;exact hb .here,fun k hk hb'=>hb ?_⟩
      exact kid_below hS hh ((mem_kidsN hS hh).1 hk) hb'
  cases hu:underB S (y:Int) (h:Int) with
  | false =>
    have:¬ Below S (h:Int) (y:Int):=fun b=>by rw [underB_iff.2 b] at hu;cases hu
    rw [hb.2 this];rfl
  | true =>
    cases hp:p y with
    | false=>rfl
    | true=>exact absurd (underB_iff.1 hu) (hb.1 hp)
theorem restL_nodup {S:MS} {h:Nat} {L:List Nat} (hn:L.Nodup) (i:Nat):(restL S h L i).Nodup:=by
 obtain ⟨p,h1,_⟩:=restL_sub S h L ((kidsN S h).take i)
 unfold restL
 rw [h1];exact hn.filter _
theorem restL_mem {S:MS} {h y:Nat} {L:List Nat} {i:Nat} (hy:y ∈ restL S h L i):y ∈ L:=by
 obtain ⟨p,h1,_⟩:=restL_sub S h L ((kidsN S h).take i)
 unfold restL at hy
 rw [h1] at hy
 exact (List.mem_filter.1 hy).1
namespace Try
section
variable {L:List Nat} {it:Nat→Nat} {I:Nat→LK} {g:List AObj}
theorem mark_it (hI:Items L it I g) {c:Nat} (hc:c ∈ L) (n:Nat):acall T (n+1) 41 [IP it c] g=some (.p (.int .i64 c),g):=by
 obtain ⟨o,ho,hr⟩:=hI c hc
 obtain ⟨r0,r1,r2,r3,r4,r5⟩:=item_rd hr
 rw [acall_code T41,run_code rfl rfl]
 simp -implicitDefEqProofs (disch:=omega) only [Rx,simprocAttr,F41,ho,r0]
theorem first_it (hI:Items L it I g) {c:Nat} (hc:c ∈ L) (n:Nat):acall T (n+1) 26 [IP it c] g=some (iAV it (I c).f,g):=by
 obtain ⟨o,ho,hr⟩:=hI c hc
 obtain ⟨r0,r1,r2,r3,r4,r5⟩:=item_rd hr
 rw [acall_code T26,run_code rfl rfl]
 simp -implicitDefEqProofs (disch:=omega) only [Rx,simprocAttr,F26,ho,r2,iAVe]
theorem next_it (hI:Items L it I g) {c:Nat} (hc:c ∈ L) (n:Nat):acall T (n+1) 29 [IP it c] g=some (iAV it (I c).n,g):=by
 obtain ⟨o,ho,hr⟩:=hI c hc
 obtain ⟨r0,r1,r2,r3,r4,r5⟩:=item_rd hr
 rw [acall_code T29,run_code rfl rfl]
 simp -implicitDefEqProofs (disch:=omega) only [Rx,simprocAttr,F29,ho,r5,iAVe]
end
abbrev BP (k:Nat):AV:=.ptr true k 1 1 0 0
section
variable {R:Nat} {S:MS} {nx:Int} {it nd:Nat→Nat} {I:Nat→LK} {pd pm bd bf:Nat} {g:List AObj}
def midG (g:List AObj) (pm:Nat) (nd:Nat→Nat) (L:List Nat):List AObj:=g.set pm (.map (mapD L nd))
structure Mid (S:MS) (nx:Int) (it nd:Nat→Nat) (I:Nat→LK) (pd pm bd bf:Nat) (g:List AObj):Prop where
 at':DocAt (liveL S) S.st nx it nd I pd pm g
 obd:g[bd]? = some (.cells 1 [[DocP pd]])
 obf:g[bf]? = some (.cells 1 [[.func 40 [BP bd,BP bf]]])
 bdp:bd≠pm
 bfp:bf≠pm
theorem endD_body (hS : S.Ok R) (hI : LinkOk S I) (hM : Mid S nx it nd I pd pm bd bf g) (n : Nat) (hn : (liveL S).length + 1 < n) (h : Nat) (hh : h ∈ liveL S) (L : List Nat) (hLn : L.Nodup) (hLs : ∀ y ∈ L, y < S.N)
    (ih:∀ c:Nat,c ∈ liveL S→(S.st c).up=(h:Int)→∀ L:List Nat,L.Nodup→(∀ y ∈ L,y<S.N)→acall T n 40 [IP it c,BP bd,BP bf] (midG g pm nd L)=some (.tuple [],midG g pm nd (lessL S c L))) :
    acall T (n+1) 40 [IP it h,BP bd,BP bf] (midG g pm nd L)=some (.tuple [],midG g pm nd (lessL S h L)):=by
  have hhN:=(mem_liveL.1 hh).1
  have hD:=hM.at'
  have hpm:=(List.getElem?_eq_some_iff.1 hD.map).1
  have gd:∀ L,(midG g pm nd L)[pd]? = some (.cells 2 [[.map true pm,.p (.int .i64 nx)]]):=fun L=>by
    unfold midG;rw [List.getElem?_set,if_neg (fun e=>hD.pp e.symm)];exact hD.doc
  have gbd:∀ L,(midG g pm nd L)[bd]? = some (.cells 1 [[DocP pd]]):=fun L=>by
    unfold midG;rw [List.getElem?_set,if_neg (fun e=>hM.bdp e.symm)];exact hM.obd
  have gbf:∀ L,(midG g pm nd L)[bf]? = some (.cells 1 [[.func 40 [BP bd,BP bf]]]):=fun L=>by
    unfold midG;rw [List.getElem?_set,if_neg (fun e=>hM.bfp e.symm)];exact hM.obf
  have gm:∀ L,(midG g pm nd L)[pm]? = some (.map (mapD L nd)):=fun L=>by
    unfold midG;rw [List.getElem?_set,if_pos rfl,if_pos hpm]
  have gs:∀ L L',(midG g pm nd L).set pm (.map (mapD L' nd))=midG g pm nd L':=fun L L'=>by unfold midG;simp
  have gi:∀ L,Items (liveL S) it I (midG g pm nd L):=fun L c hc=>by
    obtain ⟨o,ho,hr⟩:=hD.items c hc
    exact ⟨o,by unfold midG;rw [List.getElem?_set,if_neg (fun e=>(hD.itP c hc).2 e.symm)];exact ho,hr⟩
  have hl:=hI.kids h hh
  have hkl:(kidsN S h).length<n:=by
    have h1:=kd_len hS hhN
    have:(kidsN S h).length=(S.kd h).length:=by simp [kidsN]
    omega
  have hloop:aexec (acall T n) n (.loop B40x0) ⟨[(2,BP bf),(4,iAV it (kidsN S h)[0]?)],[],midG g pm nd (restL S h L 0)⟩=some (.exit 0,⟨[],[],midG g pm nd (lessL S h L)⟩):=by
    have key:=loop_inv (C:=acall T n) (N:=n) (B:=B40x0) (σ := Nat) (S:=fun i=>⟨[(2,BP bf),(4,iAV it (kidsN S h)[i]?)],[],midG g pm nd (restL S h L i)⟩)
      (I:=fun i=>i≤(kidsN S h).length) (μ := fun i=>(kidsN S h).length - i) (Q:=fun q=>q=(.exit 0,⟨[],[],midG g pm nd (lessL S h L)⟩)) ?_ 0 (by omega) (by omega)
    · obtain ⟨q,hq,rfl⟩:=key
      exact hq
    intro i hi
    by_cases hil:i<(kidsN S h).length
    · left
      obtain ⟨k,hk⟩:=get_some hil
      obtain ⟨hkL,hku⟩:=kidsN_up hS hhN (List.mem_of_getElem? hk)
      have ihk:=ih k hkL hku (restL S h L i) (restL_nodup hLn i) (fun y hy=>hLs y (restL_mem hy))
      rw [← restL_succ hk] at ihk
      have hnx:(I k).n=(kidsN S h)[i+1]? := hl.next i k hk
      have hne:=next_it (gi (restL S h L (i+1))) hkL (n - 1)
      rw [show n - 1+1=n by omega,hnx] at hne
      refine ⟨i+1, ?_,by omega,by omega⟩
      rw [hk]
      have g1:=gbf (restL S h L i)
      generalize (kidsN S h)[i+1]? = z at hne ⊢
      generalize midG g pm nd (restL S h L i)=G1 at ihk g1 ⊢
      generalize midG g pm nd (restL S h L (i+1))=G2 at ihk hne ⊢
      simp -implicitDefEqProofs (disch:=omega) only [Rx,simprocAttr,B40x0,iAVs,iAVe,g1,ihk,hne]
    · right
      obtain rfl:i=(kidsN S h).length:=by omega
      refine ⟨_, ?_, ?_,rfl⟩
      · rw [restL_all hS hhN hLs,List.getElem?_eq_none_iff.2 (Nat.le_refl _)]
        simp -implicitDefEqProofs (disch:=omega) only [Rx,simprocAttr,B40x0,iAVs]
      · simp
  have hfi:=first_it (gi (L.filter fun y => !(y==h))) hh (n - 1)
  have hma:=mark_it (gi L) hh (n - 1)
  rw [show n - 1+1=n by omega] at hfi hma
  rw [hl.first] at hfi
  have e0:restL S h L 0=L.filter fun y => !(y==h):=rfl
  rw [e0] at hloop
  have hk:=mapD_keys L nd (h:Int)
  have hdel:=mdel_mapD hLn nd h
  have g1:=gd L
  have g2:=gbd L
  have g3:=gm L
  have g4:=gs L (L.filter fun y => !(y==h))
  rw [acall_code T40,run_code rfl rfl]
  generalize (kidsN S h)[0]? = z at hloop hfi
  generalize midG g pm nd L=G1 at g1 g2 g3 g4 hma ⊢
  generalize midG g pm nd (L.filter fun y => !(y==h))=G2 at g4 hfi hloop
  simp -implicitDefEqProofs (disch:=omega) only [Rx,simprocAttr,F40,iAVe,g1,g2,g3,g4,hk,hdel,hma,hfi,hloop]
theorem endD_gen (hS:S.Ok R) (hI:LinkOk S I) (hM:Mid S nx it nd I pd pm bd bf g) {r:Nat→Nat} (hr1:∀ c,c<S.N→r c≤R) (hr2:∀ c p:Nat,c<S.N→(S.st c).up=(p:Int)→r p<r c) (n:Nat) (hn:(liveL S).length+1<n) :
    ∀ (d h:Nat) (L:List Nat),h ∈ liveL S→R≤r h+d→L.Nodup→(∀ y ∈ L,y<S.N)→acall T (n+d+1) 40 [IP it h,BP bd,BP bf] (midG g pm nd L)=some (.tuple [],midG g pm nd (lessL S h L)):=by
  intro d
  induction d with
  | zero =>
    intro h L hh hR hn1 hL
    exact endD_body hS hI hM n hn h hh L hn1 hL (fun c hc hcu=>by
      have:=hr1 c (mem_liveL.1 hc).1
      have:=hr2 c h (mem_liveL.1 hc).1 hcu
      omega)
  | succ d ih =>
    intro h L hh hR hn1 hL
    exact endD_body hS hI hM (n+d+1) (by omega) h hh L hn1 hL (fun c hc hcu L hn1 hL=>by
      have:=hr2 c h (mem_liveL.1 hc).1 hcu
      exact ih c L hc (by omega) hn1 hL)
theorem rem_run (hS:S.Ok R) (hI:LinkOk S I) (hD:DocAt (liveL S) S.st nx it nd I pd pm g) (id:Int) {n:Nat} (hn:(liveL S).length+1<n) :
    ∃ I' g',acall T (n+R+2) 15 [DocP pd,.p (.int .i64 id)] g=some (.p (.int .i64 (removeD S id).1),g')∧DocAt (liveL (removeD S id).2) (removeD S id).2.st nx it nd I' pd pm g'∧LinkOk (removeD S id).2 I'∧GFr g (DocOwn (liveL S) it nd pd pm) g' (DocOwn (liveL (removeD S id).2) it nd pd pm):=by
  have hD0:=hD.more [AObj.cells 1 [[DocP pd]]]
  have gfr0:GFr g (DocOwn (liveL S) it nd pd pm) (g++[AObj.cells 1 [[DocP pd]]]) (DocOwn (liveL S) it nd pd pm):=⟨by simp,fun j hj _=>List.getElem?_append_left hj,fun j hj _=>hj⟩
  have hbd0:(g++[AObj.cells 1 [[DocP pd]]])[g.length]? = some (.cells 1 [[DocP pd]]):=by simp
  have hl:=live_run hD0 id (n+R)
  unfold liveR at hl
  unfold removeD
  by_cases hf:fitE S id≠0
  · rw [if_pos hf]
    rw [if_neg hf] at hl
    have e1:(fitE S id==0)=false:=by simpa using hf
    refine ⟨I,_, ?_,hD0,hI,gfr0⟩
    rw [acall_code T15,run_code rfl rfl]
    generalize fitE S id=e at hl e1 ⊢
    generalize hG:g++[AObj.cells 1 [[DocP pd]]]=G at hl hbd0
    simp -implicitDefEqProofs (disch:=omega) only [Rx,simprocAttr,F15,hG,hl,e1,hbd0]
  rw [if_neg hf]
  simp only [ne_eq,Decidable.not_not] at hf
  obtain ⟨c,rfl,hcL,hc0⟩:=fitE_zero hf
  rw [if_pos hf,hf] at hl
  simp only [Int.toNat_natCast] at hl ⊢
  have hcN:=(mem_liveL.1 hcL).1
  have hdr:∃ e g1,acall T (n+R+1) 39 [IP it c] (g++[AObj.cells 1 [[DocP pd]]])=some (.p (.int .i64 e),g1)∧∃ I1,DocAt (liveL (takeM S c)) (takeM S c).st nx it nd I1 pd pm g1∧LinkOk (takeM S c) I1∧GFr (g++[AObj.cells 1 [[DocP pd]]]) (DocOwn (liveL S) it nd pd pm) g1 (DocOwn (liveL S) it nd pd pm):=by
    rcases hS.up c hcN with h1 | ⟨u,hu1,hu2,hu3,_⟩
    · have hn0:(I c).u=none:=by rw [hI.up c hcL];exact upN_none hS hcN (by omega)
      have e:takeM S c=S:=by unfold takeM;rw [if_pos (by omega)]
      rw [e]
      exact ⟨16,_,drop_free hD0 hcL hn0 (n+R),I,hD0,hI,GFr.refl _ _⟩
    · obtain ⟨q1,q2,q3,q4,q5,q6⟩:=dropped hS hI hcL hu2
      obtain ⟨g1,hd1,hD1,hF1⟩:=drop_done hD0 hcL q1 q2 q3 q4 q5 (n+R)
      exact ⟨0,g1,hd1,_,hD1.taken c,q6,hF1⟩
  obtain ⟨e0,g1,hdr,I1,hD1,hI1,hF1⟩:=hdr
  obtain ⟨hT,hTu⟩:=hS.take hcN (mem_liveL.1 hcL).2
  have hLT:=liveL_take S c
  have hbd1:g1[g.length]? = some (.cells 1 [[DocP pd]]):=by
    rw [hF1.keep g.length (by simp) (fun h=>by have:=hD.own_lt h;omega)];exact hbd0
  have hg1:g.length+1≤g1.length:=by have:=hF1.len;simpa using this
  have hcT:c ∈ liveL (takeM S c):=by rw [hLT];exact hcL
  have hX:=hD1.more [AObj.cells 1 [[.func 40 [BP g.length,BP g1.length]]]]
  have hMid:Mid (takeM S c) nx it nd I1 pd pm g.length g1.length (g1++[AObj.cells 1 [[.func 40 [BP g.length,BP g1.length]]]]):=by
    refine ⟨hX, ?_,by simp,fun e => ?_,fun e => ?_⟩
    · rw [List.getElem?_append_left (by omega)];exact hbd1
    · have:=hD.own_lt (j:=pm) (.inr (.inl rfl));omega
    · have:=hD1.own_lt (j:=pm) (.inr (.inl rfl));omega
  obtain ⟨r,hr1,hr2⟩:=hT.rank
  have hend:=endD_gen hT hI1 hMid hr1 hr2 n (by rw [hLT];exact hn) R c (liveL (takeM S c)) hcT (by omega) (liveL_nodup _) (fun y hy=>(mem_liveL.1 hy).1)
  have hmid0:midG (g1++[AObj.cells 1 [[.func 40 [BP g.length,BP g1.length]]]]) pm nd (liveL (takeM S c))=g1++[AObj.cells 1 [[.func 40 [BP g.length,BP g1.length]]]]:=by
    unfold midG
    exact set_same hX.map
  rw [hmid0] at hend
  have hless:lessL (takeM S c) c (liveL (takeM S c))=liveL (endM (takeM S c) (c:Int)):=by
    rw [liveL_end hc0,hLT]
    unfold lessL
    refine List.filter_congr fun y _ => ?_
    have hb:=take_below (S:=S) hc0 (y:Int)
    cases hu:underB S (y:Int) (c:Int) with
    | true=>rw [underB_iff.2 (hb.1 (underB_iff.1 hu))]
    | false =>
      cases hu2:underB (takeM S c) (y:Int) (c:Int) with
      | false=>rfl
      | true=>rw [underB_iff.2 (hb.2 (underB_iff.1 hu2))] at hu;cases hu
  have hkept:=end_kept (S:=S) hc0
  rw [← liveL_end hc0] at hkept
  have hsub:∀ k ∈ liveL (endM (takeM S c) (c:Int)),k ∈ liveL (takeM S c):=fun k hk=>by
    rw [← hless] at hk
    exact (mem_lessL.1 hk).1
  have hnec:∀ k ∈ liveL (endM (takeM S c) (c:Int)),k≠c:=fun k hk e=>by
    rw [← hless] at hk
    subst e
    exact (mem_lessL.1 hk).2 .here
  have hstT:∀ k,k≠c→(takeM S c).st k=S.st k:=fun k hk=>by
    unfold takeM
    split
    · rfl
    · simp only;rw [upd_ne hk]
  have hfin:=hX.less (L':=liveL (endM (takeM S c) (c:Int))) hsub
  have hfin2:=hfin.st_congr (st':=(endM (takeM S c) (c:Int)).st) (I':=I1) (fun k hk=>by
    rw [← (hkept k hk).1,hstT k (hnec k hk)]) (fun _ _=>rfl)
  rw [hless] at hend
  refine ⟨I1,_, ?_,hfin2,hI1.less hsub (fun k hk=>by rw [← (hkept k hk).1,hstT k (hnec k hk)]) (fun k hk=>(hkept k hk).2.symm), ?_⟩
  · have hnd0:=hD0.nodes c hcL
    have hnd1:=hX.nodes c hcT
    simp only [nodeC] at hnd0 hnd1
    have e5:(g1++[AObj.pcells 1 [[.nilf]]]).set g1.length (.cells 1 [[.func 40 [BP g.length,BP g1.length]]])=g1++[AObj.cells 1 [[.func 40 [BP g.length,BP g1.length]]]]:=by simp [List.set_append]
    have e6:(g1++[AObj.pcells 1 [[.nilf]]])[g1.length]? = some (.pcells 1 [[.nilf]]):=by simp
    have e7:(g1++[AObj.cells 1 [[.func 40 [BP g.length,BP g1.length]]]])[g1.length]? = some (.cells 1 [[.func 40 [BP g.length,BP g1.length]]]):=by simp
    rw [show n+R+1=n+R+1 from rfl] at hend
    unfold midG at hend
    generalize (g1++[AObj.cells 1 [[.func 40 [BP g.length,BP g1.length]]]]).set pm (.map (mapD (liveL (endM (takeM S c) (c:Int))) nd))=gf at hend ⊢
    generalize hG2:g1++[AObj.cells 1 [[.func 40 [BP g.length,BP g1.length]]]]=G2 at hend e5 e7 hnd1
    generalize hG0:g++[AObj.cells 1 [[DocP pd]]]=G0 at hl hbd0 hdr hnd0
    rw [acall_code T15,run_code rfl rfl]
    simp -implicitDefEqProofs (disch:=omega) only [Rx,simprocAttr,F15,hG0,hl,hbd0,hnd0,hdr,e5,e6,e7,hnd1,hend]
  · refine ⟨by have:=hF1.len;simp at this ⊢;omega,fun j hj hO => ?_,fun j hO hj => ?_⟩
    · rw [List.getElem?_set,if_neg (fun e=>hO (.inr (.inl e.symm))),List.getElem?_append_left (by omega),hF1.keep j (by simp;omega) hO,List.getElem?_append_left hj]
    · rcases hO with e | e | ⟨k,hk,e⟩
      · exact .inl e
      · exact .inr (.inl e)
      · exact .inr (.inr ⟨k,by rw [← hLT];exact hsub k hk,e⟩)
end
end Try
end Go.TA


end
section
/- What is done with a document leaves a document. Plain. -/
namespace Go.TA
section
variable {R:Nat} {S:MS}
theorem insertD_ok (hS:S.Ok R) (id up b:Int):(insertD S id up b).2.Ok (R+R+1):=by
 have hm:S.Ok (R+R+1):=hS.more (by omega)
 unfold insertD
 split
 ·exact hm
 rename_i hf
 obtain ⟨c,rfl,hcL,hc0⟩:=fit_live hf
 obtain ⟨hcN,hcl⟩:=mem_liveL.1 hcL
 split
 ·exact hm
 rename_i hl
 simp only [Bool.not_eq_false,Bool.and_eq_true] at hl
 split
 ·exact hm
 split
 ·exact hm
 split
 ·exact hm
 rename_i h1 h2 h3
 obtain ⟨u,hu,huN,hul⟩:=live_nat hl.1
 subst hu
 simp only [Int.toNat_natCast]
 refine hS.place _ hcN hcl hc0 ?_ huN hul (fun hb=>h2 (underB_iff.2 hb))
 rcases hS.up c hcN with h4 | ⟨p,_,h4,_⟩
 ·exact h4
 ·exact absurd (show (0:Int)≤upOf S (c:Int) by rw [show upOf S (c:Int)=(p:Int) from h4];omega) h1
theorem moveD_ok (hS:S.Ok R) (id b:Int):(moveD S id b).2.Ok (R+R+1):=by
 have hm:S.Ok (R+R+1):=hS.more (by omega)
 unfold moveD
 split
 ·exact hm
 rename_i hf
 obtain ⟨c,rfl,hcL,hc0⟩:=fit_live hf
 obtain ⟨hcN,hcl⟩:=mem_liveL.1 hcL
 split
 ·exact hm
 split
 ·exact hm
 split
 ·exact hm
 rename_i h0 h1 h2
 have hup:upOf S (c:Int)=(S.st c).up:=rfl
 obtain ⟨p,hp,_⟩:=hS.up_nat hcN (by omega)
 rw [hup,hp]
 simp only [Int.toNat_natCast]
 exact place_ok hS _ hcN hcl (by omega) hp
theorem removeD_ok (hS:S.Ok R) (id:Int):(removeD S id).2.Ok (R+R+1):=by
 have hm:S.Ok (R+R+1):=hS.more (by omega)
 unfold removeD
 split
 ·exact hm
 rename_i hf
 obtain ⟨c,rfl,hcL,hc0⟩:=fit_live hf
 obtain ⟨hcN,hcl⟩:=mem_liveL.1 hcL
 simp only [Int.toNat_natCast]
 obtain ⟨hT,hup⟩:=hS.take hcN hcl
 exact (hT.endM (by rw [takeM_N];exact hcN) (by omega) hup).more (by omega)
theorem setM_ok (hS:S.Ok R) {h:Nat} {a:List Attr} (ha:a.length≤1048577):(setM S h a).Ok R:=by
 refine hS.same fun c hc => ?_
 by_cases e:c=h
 ·subst e;rw [upd_at];exact ⟨rfl,rfl,ha⟩
 ·rw [upd_ne e];exact ⟨rfl,rfl,hS.attrs c hc⟩
theorem doD_ok (hS:S.Ok R) (x:GOp) (hx:x.attrs.length≤1048577):(doD S x).2.2.Ok (R+R+1):=by
 have hm:S.Ok (R+R+1):=hS.more (by omega)
 unfold doD
 split
 ·split
  ·exact (hS.create x hx).more (by omega)
  ·exact hm
 split
 ·exact insertD_ok hS _ _ _
 split
 ·exact moveD_ok hS _ _
 split
 ·exact removeD_ok hS _
 split
 ·unfold setD
  repeat' split
  all_goals first | exact hm | exact (setM_ok hS (by omega)).more (by omega)
 split
 ·unfold delD
  split
  ·exact hm
  rename_i hf
  obtain ⟨c,hc,hcL,hc0⟩:=fit_live hf
  split
  ·rename_i hlt
   have:=hS.attrs c (mem_liveL.1 hcL).1
   rw [hc] at hlt ⊢
   simp only [Int.toNat_natCast] at hlt ⊢
   exact (setM_ok hS (by omega)).more (by omega)
  ·exact hm
 split
 ·unfold textD
  split
  ·exact hm
  rename_i hf
  obtain ⟨c,hc,hcL,hc0⟩:=fit_live hf
  split
  ·exact hm
  ·refine (hS.same fun d hd => ?_).more (by omega)
   rw [hc]
   simp only [Int.toNat_natCast]
   by_cases e:d=c
   ·subst e;rw [upd_at];exact ⟨rfl,rfl,hS.attrs d hd⟩
   ·rw [upd_ne e];exact ⟨rfl,rfl,hS.attrs d hd⟩
 ·exact hm
theorem insN (S:MS) (id up b:Int):(insertD S id up b).2.N=S.N:=by
 unfold insertD;repeat' split
 all_goals rfl
theorem movN (S:MS) (id b:Int):(moveD S id b).2.N=S.N:=by
 unfold moveD;repeat' split
 all_goals first | rfl | (simp [placeM,takeM_N];done)
theorem remN (S:MS) (id:Int):(removeD S id).2.N=S.N:=by
 unfold removeD;split
 ·rfl
 ·simp [endM,takeM_N]
theorem setN (S:MS) (id:Int) (name v:Bs):(setD S id name v).2.N=S.N:=by
 unfold setD;repeat' split
 all_goals rfl
theorem delN (S:MS) (id:Int) (name:Bs):(delD S id name).2.N=S.N:=by
 unfold delD;repeat' split
 all_goals rfl
theorem texN (S:MS) (id:Int) (s:Bs):(textD S id s).2.N=S.N:=by
 unfold textD;repeat' split
 all_goals rfl
theorem doD_N (S:MS) (x:GOp):(x.kind=1∧(doD S x).2.1=0∧(doD S x).1=(S.N:Int)∧(doD S x).2.2.N=S.N+1)∨((x.kind=1→(doD S x).2.1≠0)∧(doD S x).2.2.N=S.N):=by
 unfold doD
 split
 ·rename_i k
  split
  ·exact .inl ⟨k,rfl,rfl,rfl⟩
  ·exact .inr ⟨fun _=>by assumption,rfl⟩
 rename_i k
 refine .inr ⟨fun h=>absurd h k, ?_⟩
 split
 ·exact insN _ _ _ _
 split
 ·exact movN _ _ _
 split
 ·exact remN _ _
 split
 ·exact setN _ _ _ _
 split
 ·exact delN _ _ _
 split
 ·exact texN _ _ _
 ·rfl
theorem doD_live (hS:S.Ok R) (x:GOp):(liveL (doD S x).2.2).length≤(liveL S).length+1:=by
 have hle:∀ S':MS,liveL S'=liveL S→(liveL S').length≤(liveL S).length+1:=fun S' e=>by rw [e];omega
 have hset:∀ (h:Nat) (s:MNode),s.live=(S.st h).live→(liveL (⟨S.N,upd S.st h s,S.kd⟩:MS)).length≤(liveL S).length+1:=fun h s e=>hle _ (liveL_node (S:=S) e)
 unfold doD
 split
 ·split
  ·rw [liveL_create];simp
  ·simp
 split
 ·unfold insertD
  repeat' split
  all_goals first | (simp;done) | exact hle _ (liveL_place _ _ _ _)
 split
 ·unfold moveD
  repeat' split
  all_goals first | (simp;done) | exact hle _ ((liveL_place _ _ _ _).trans (liveL_take _ _))
 split
 ·unfold removeD
  split
  ·simp
  rename_i hf
  obtain ⟨c,hc,hcL,hc0⟩:=fit_live hf
  rw [hc]
  simp only [Int.toNat_natCast]
  rw [liveL_end hc0]
  have:=List.length_filter_le (fun h:Nat => !(underB S (h:Int) (c:Int))) (liveL S)
  omega
 split
 ·unfold setD
  repeat' split
  all_goals first | (simp;done) | exact hset _ _ rfl
 split
 ·unfold delD
  repeat' split
  all_goals first | (simp;done) | exact hset _ _ rfl
 split
 ·unfold textD
  repeat' split
  all_goals first | (simp;done) | exact hset _ _ rfl
 ·simp
theorem LinkOk.nodeL {I:Nat→LK} (hI:LinkOk S I) {h:Nat} (s:MNode) (hu:s.up=(S.st h).up) (hl:s.live=(S.st h).live):LinkOk (⟨S.N,upd S.st h s,S.kd⟩:MS) I:=by
 have e:liveL (⟨S.N,upd S.st h s,S.kd⟩:MS)=liveL S:=liveL_node (S:=S) hl
 refine hI.less (fun k hk=>by rw [e] at hk;exact hk) (fun k _ => ?_) (fun k _=>rfl)
 simp only [upd]
 split
 ·rename_i e2;subst e2;exact hu
 ·rfl
end
end Go.TA


end
section
/- A document: any call, by its kind. -/
namespace Go.TA
structure Doc (R:Nat) (S:MS) (it nd:Nat→Nat) (I:Nat→LK) (pd pm:Nat) (g:List AObj):Prop where
 ok:S.Ok R
 link:LinkOk S I
 lies:DocAt (liveL S) S.st S.N it nd I pd pm g
abbrev OwnD (S:MS) (it nd:Nat→Nat) (pd pm:Nat):Nat→Prop:=DocOwn (liveL S) it nd pd pm
namespace Try
section
variable {R:Nat} {S:MS} {it nd:Nat→Nat} {I:Nat→LK} {pd pm:Nat} {g:List AObj}
theorem calls_run (hD : Doc R S it nd I pd pm g) (x : GOp) (hx : x.attrs.length ≤ 1048577) {n : Nat} (hR : R + 3 < n) (hn : (liveL S).length + 1 < n) (hn2 : 1048578 < n) :
    (x.kind=1→∃ it' nd' I' g',acall T (n+R+40) 12 [DocP pd,.p (.str x.tag),.p (.str x.key),.p (.str x.text),.p (.list (x.attrs.map Attr.pv))] g=some (.tuple [.p (.int .i64 (doD S x).1),.p (.int .i64 (doD S x).2.1)],g')∧Doc (R+R+1) (doD S x).2.2 it' nd' I' pd pm g'∧GFr g (OwnD S it nd pd pm) g' (OwnD (doD S x).2.2 it' nd' pd pm)) ∧
    (x.kind=2→(doD S x).1=0∧∃ it' nd' I' g',acall T (n+R+40) 13 [DocP pd,.p (.int .i64 x.node),.p (.int .i64 x.up),.p (.int .i64 x.before)] g=some (.p (.int .i64 (doD S x).2.1),g')∧Doc (R+R+1) (doD S x).2.2 it' nd' I' pd pm g'∧GFr g (OwnD S it nd pd pm) g' (OwnD (doD S x).2.2 it' nd' pd pm)) ∧
    (x.kind=3→(doD S x).1=0∧∃ it' nd' I' g',acall T (n+R+40) 14 [DocP pd,.p (.int .i64 x.node),.p (.int .i64 x.before)] g=some (.p (.int .i64 (doD S x).2.1),g')∧Doc (R+R+1) (doD S x).2.2 it' nd' I' pd pm g'∧GFr g (OwnD S it nd pd pm) g' (OwnD (doD S x).2.2 it' nd' pd pm)) ∧
    (x.kind=4→(doD S x).1=0∧∃ it' nd' I' g',acall T (n+R+40) 15 [DocP pd,.p (.int .i64 x.node)] g=some (.p (.int .i64 (doD S x).2.1),g')∧Doc (R+R+1) (doD S x).2.2 it' nd' I' pd pm g'∧GFr g (OwnD S it nd pd pm) g' (OwnD (doD S x).2.2 it' nd' pd pm)) ∧
    (x.kind=5→(doD S x).1=0∧∃ it' nd' I' g',acall T (n+R+40) 21 [DocP pd,.p (.int .i64 x.node),.p (.str x.name),.p (.str x.text)] g=some (.p (.int .i64 (doD S x).2.1),g')∧Doc (R+R+1) (doD S x).2.2 it' nd' I' pd pm g'∧GFr g (OwnD S it nd pd pm) g' (OwnD (doD S x).2.2 it' nd' pd pm)) ∧
    (x.kind=6→(doD S x).1=0∧∃ it' nd' I' g',acall T (n+R+40) 22 [DocP pd,.p (.int .i64 x.node),.p (.str x.name)] g=some (.p (.int .i64 (doD S x).2.1),g')∧Doc (R+R+1) (doD S x).2.2 it' nd' I' pd pm g'∧GFr g (OwnD S it nd pd pm) g' (OwnD (doD S x).2.2 it' nd' pd pm)) ∧
    (x.kind=7→(doD S x).1=0∧∃ it' nd' I' g',acall T (n+R+40) 23 [DocP pd,.p (.int .i64 x.node),.p (.str x.text)] g=some (.p (.int .i64 (doD S x).2.1),g')∧Doc (R+R+1) (doD S x).2.2 it' nd' I' pd pm g'∧GFr g (OwnD S it nd pd pm) g' (OwnD (doD S x).2.2 it' nd' pd pm)):=by
  obtain ⟨hS,hI,hA⟩:=hD
  have hok:=doD_ok hS x hx
  refine ⟨fun k => ?_,fun k => ?_,fun k => ?_,fun k => ?_,fun k => ?_,fun k => ?_,fun k => ?_⟩
  · obtain ⟨it',nd',I',g',h1,h2,h3,h4⟩:=cre_run hS hI hA x hx (n:=n+R+1) (by omega)
    have e:doD S x=if createErr S.N x=0 then ((S.N:Int),0,S.create x) else (0,createErr S.N x,S):=by unfold doD;rw [if_pos k]
    by_cases hz:createErr S.N x=0
    · rw [if_pos hz] at h1 h2 h3 h4 e
      rw [e] at hok ⊢
      exact ⟨it',nd',I',g',h1,⟨hok,h3,h2⟩,h4⟩
    · rw [if_neg hz] at h1 h2 h3 h4 e
      rw [e] at hok ⊢
      exact ⟨it',nd',I',g',h1,⟨hok,h3,h2⟩,h4⟩
  · have e:doD S x=(0,insertD S x.node x.up x.before):=by unfold doD;rw [if_neg (by omega),if_pos k]
    rw [e] at hok ⊢
    obtain ⟨I',g',h1,h2,h3,h4⟩:=ins_run hS hI hA x.node x.up x.before (n:=n+R+37) (by omega)
    exact ⟨rfl,it,nd,I',g',h1,⟨hok,h3,by rw [insertD_N'];exact h2⟩,h4⟩
  · have e:doD S x=(0,moveD S x.node x.before):=by unfold doD;rw [if_neg (by omega),if_neg (by omega),if_pos k]
    rw [e] at hok ⊢
    obtain ⟨I',g',h1,h2,h3,h4⟩:=mov_run hS hI hA x.node x.before (n:=n+R+37) (by omega)
    exact ⟨rfl,it,nd,I',g',h1,⟨hok,h3,by rw [moveD_N'];exact h2⟩,h4⟩
  · have e:doD S x=(0,removeD S x.node):=by unfold doD;rw [if_neg (by omega),if_neg (by omega),if_neg (by omega),if_pos k]
    rw [e] at hok ⊢
    obtain ⟨I',g',h1,h2,h3,h4⟩:=rem_run hS hI hA x.node (n:=n+38) (by omega)
    rw [show n+38+R+2=n+R+40 by omega] at h1
    have hN:(removeD S x.node).2.N=S.N:=by
      unfold removeD;split
      · rfl
      · simp [endM,takeM_N]
    exact ⟨rfl,it,nd,I',g',h1,⟨hok,h3,by rw [hN];exact h2⟩,h4⟩
  · have e:doD S x=(0,setD S x.node x.name x.text):=by unfold doD;rw [if_neg (by omega),if_neg (by omega),if_neg (by omega),if_neg (by omega),if_pos k]
    rw [e] at hok ⊢
    obtain ⟨g',h1,h2,h4⟩:=set_run hS hA x.node x.name x.text (n:=n+R+3) (by omega)
    have hN : (setD S x.node x.name x.text).2.N = S.N := by unfold setD; repeat' split
                                                            all_goals rfl
    have hl:LinkOk (setD S x.node x.name x.text).2 I:=by
      unfold setD;repeat' split
      all_goals first | exact hI | exact LinkOk.nodeL hI _ rfl rfl
    exact ⟨rfl,it,nd,I,g',h1,⟨hok,hl,by rw [hN];exact h2⟩,h4⟩
  · have e:doD S x=(0,delD S x.node x.name):=by unfold doD;rw [if_neg (by omega),if_neg (by omega),if_neg (by omega),if_neg (by omega),if_neg (by omega),if_pos k]
    rw [e] at hok ⊢
    obtain ⟨g',h1,h2,h4⟩:=del_run hS hA x.node x.name (n:=n+R+35) (by omega)
    have hN : (delD S x.node x.name).2.N = S.N := by unfold delD; repeat' split
                                                     all_goals rfl
    have hl:LinkOk (delD S x.node x.name).2 I:=by
      unfold delD;repeat' split
      all_goals first | exact hI | exact LinkOk.nodeL hI _ rfl rfl
    exact ⟨rfl,it,nd,I,g',h1,⟨hok,hl,by rw [hN];exact h2⟩,h4⟩
  · have e:doD S x=(0,textD S x.node x.text):=by unfold doD;rw [if_neg (by omega),if_neg (by omega),if_neg (by omega),if_neg (by omega),if_neg (by omega),if_neg (by omega),if_pos k]
    rw [e] at hok ⊢
    obtain ⟨g',h1,h2,h4⟩:=text_run hA x.node x.text (n+R+37)
    have hN : (textD S x.node x.text).2.N = S.N := by unfold textD; repeat' split
                                                      all_goals rfl
    have hl:LinkOk (textD S x.node x.text).2 I:=by
      unfold textD;repeat' split
      all_goals first | exact hI | exact LinkOk.nodeL hI _ rfl rfl
    exact ⟨rfl,it,nd,I,g',h1,⟨hok,hl,by rw [hN];exact h2⟩,h4⟩
end
end Try
end Go.TA


end
section
/- The law's own 'do': a call of a document, by its kind. -/
namespace Go.TA.Try
section
variable {R:Nat} {S:MS} {it nd:Nat→Nat} {I:Nat→LK} {pd pm:Nat} {g:List AObj}
theorem do20_run (hD:Doc R S it nd I pd pm g) (x:GOp) (hx:x.attrs.length≤1048577) {n:Nat} (hR:R+3<n) (hn:(liveL S).length+1<n) (hn2:1048578<n) :
  ∃ it' nd' I' g',acall T (n+R+41) 8 [DocP pd,.p (.agg x.pv)] g=some (.tuple [.p (.int .i64 (doD S x).1),.p (.int .i64 (doD S x).2.1)],g')∧Doc (R+R+1) (doD S x).2.2 it' nd' I' pd pm g'∧GFr g (OwnD S it nd pd pm) g' (OwnD (doD S x).2.2 it' nd' pd pm):=by
 obtain ⟨c1,c2,c3,c4,c5,c6,c7⟩:=calls_run hD x hx hR hn hn2
 by_cases k1:x.kind=1
 ·obtain ⟨it',nd',I',g',h1,h2,h3⟩:=c1 k1
  refine ⟨it',nd',I',g', ?_,h2,h3⟩
  generalize doD S x=z at h1 ⊢
  rw [acall_code T8,run_code rfl rfl]
  simp -implicitDefEqProofs (disch:=omega) only [Rx,simprocAttr,F8,GOp.pv,attrsPV,k1,h1]
 have e1:(x.kind==1)=false:=by simpa using k1
 by_cases k2:x.kind=2
 ·obtain ⟨h0,it',nd',I',g',h1,h2,h3⟩:=c2 k2
  refine ⟨it',nd',I',g', ?_,h2,h3⟩
  rw [h0]
  generalize doD S x=z at h1 ⊢
  rw [acall_code T8,run_code rfl rfl]
  simp -implicitDefEqProofs (disch:=omega) only [Rx,simprocAttr,F8,GOp.pv,attrsPV,k2,h1]
 have e2:(x.kind==2)=false:=by simpa using k2
 by_cases k3:x.kind=3
 ·obtain ⟨h0,it',nd',I',g',h1,h2,h3⟩:=c3 k3
  refine ⟨it',nd',I',g', ?_,h2,h3⟩
  rw [h0]
  generalize doD S x=z at h1 ⊢
  rw [acall_code T8,run_code rfl rfl]
  simp -implicitDefEqProofs (disch:=omega) only [Rx,simprocAttr,F8,GOp.pv,attrsPV,k3,h1]
 have e3:(x.kind==3)=false:=by simpa using k3
 by_cases k4:x.kind=4
 ·obtain ⟨h0,it',nd',I',g',h1,h2,h3⟩:=c4 k4
  refine ⟨it',nd',I',g', ?_,h2,h3⟩
  rw [h0]
  generalize doD S x=z at h1 ⊢
  rw [acall_code T8,run_code rfl rfl]
  simp -implicitDefEqProofs (disch:=omega) only [Rx,simprocAttr,F8,GOp.pv,attrsPV,k4,h1]
 have e4:(x.kind==4)=false:=by simpa using k4
 by_cases k5:x.kind=5
 ·obtain ⟨h0,it',nd',I',g',h1,h2,h3⟩:=c5 k5
  refine ⟨it',nd',I',g', ?_,h2,h3⟩
  rw [h0]
  generalize doD S x=z at h1 ⊢
  rw [acall_code T8,run_code rfl rfl]
  simp -implicitDefEqProofs (disch:=omega) only [Rx,simprocAttr,F8,GOp.pv,attrsPV,k5,h1]
 have e5:(x.kind==5)=false:=by simpa using k5
 by_cases k6:x.kind=6
 ·obtain ⟨h0,it',nd',I',g',h1,h2,h3⟩:=c6 k6
  refine ⟨it',nd',I',g', ?_,h2,h3⟩
  rw [h0]
  generalize doD S x=z at h1 ⊢
  rw [acall_code T8,run_code rfl rfl]
  simp -implicitDefEqProofs (disch:=omega) only [Rx,simprocAttr,F8,GOp.pv,attrsPV,k6,h1]
 have e6:(x.kind==6)=false:=by simpa using k6
 by_cases k7:x.kind=7
 ·obtain ⟨h0,it',nd',I',g',h1,h2,h3⟩:=c7 k7
  refine ⟨it',nd',I',g', ?_,h2,h3⟩
  rw [h0]
  generalize doD S x=z at h1 ⊢
  rw [acall_code T8,run_code rfl rfl]
  simp -implicitDefEqProofs (disch:=omega) only [Rx,simprocAttr,F8,GOp.pv,attrsPV,k7,h1]
 have e7:(x.kind==7)=false:=by simpa using k7
 have e:doD S x=(0,0,S):=by unfold doD;rw [if_neg k1,if_neg k2,if_neg k3,if_neg k4,if_neg k5,if_neg k6,if_neg k7]
 rw [e]
 refine ⟨it,nd,I,g, ?_,⟨hD.ok.more (by omega),hD.link,hD.lies⟩,GFr.refl _ _⟩
 rw [acall_code T8,run_code rfl rfl]
 simp -implicitDefEqProofs (disch:=omega) only [Rx,simprocAttr,F8,GOp.pv,attrsPV,e1,e2,e3,e4,e5,e6,e7]
end
theorem same20 (n:Nat):acall T (n+60) 6 [] []=some (.p (.bool true),[]):=by kernel_rfl
end Go.TA.Try


end
section
/- The guard of most laws: whether operations are few. -/
set_option maxHeartbeats 1000000
namespace Go.TA.Try
theorem attr_get {l:List Attr} {i:Nat} {a:Attr} (h:l[i]? = some a):(l.map Attr.pv).getD i []=[.str a.name,.str a.value]:=by
 rw [List.getD_eq_getElem?_getD,List.getElem?_map,h];rfl
theorem few_attr {C:Calls'} {N:Nat} (x:GOp) (p0 p11 p12:PV) (g:List AObj) (i:Nat) (a:Attr) (left:Int) (h:x.attrs[i]? = some a) (hb:x.attrs.length≤1048576) (ha:a.value.length+a.name.length≤1048576) (hl : -4611686018427387904≤left) (hl2:left≤4611686018427387904) :
  aexec C N B5x1 ⟨[(0,.p p0),(5,.p (.int .i64 left)),(7,.ptr false 7 9 1 0 0),(11,.p p11),(12,.p p12),(46,.p (.int .i64 x.attrs.length)),(47,.p (.int .i64 i))],[(7,.pcells 9 [x.pv])],g⟩ =
   some (.normal,⟨[(0,.p p0),(5,.p (.int .i64 (left - ((a.value.length:Int)+a.name.length).tdiv 4096))),(7,.ptr false 7 9 1 0 0),(11,.p p11),(12,.p p12),(46,.p (.int .i64 x.attrs.length)),(47,.p (.int .i64 (i+1)))],[(7,.pcells 9 [x.pv])],g⟩):=by
 have hlt:i<x.attrs.length:=(List.getElem?_eq_some_iff.1 h).1
 have h1:(i:Int)<(x.attrs.length:Int):=by omega
 have h2:=attr_get h
 have q:0≤((a.value.length:Int)+(a.name.length:Int)).tdiv 4096∧((a.value.length:Int)+(a.name.length:Int)).tdiv 4096≤1048576:=by
  rw [Int.tdiv_eq_ediv_of_nonneg (by omega)];omega
 generalize hq:((a.value.length:Int)+(a.name.length:Int)).tdiv 4096=d at q ⊢
 obtain ⟨w1,w2,w3,w4⟩:IntKind.i64.wrap ((a.value.length:Int)+(a.name.length:Int))=(a.value.length:Int)+(a.name.length:Int)∧IntKind.i64.wrap d=d∧IntKind.i64.wrap (left - d)=left - d∧IntKind.i64.wrap ((i:Int)+1)=(i:Int)+1 :=
  ⟨wrap_id (by omega) (by omega),wrap_id (by omega) (by omega),wrap_id (by omega) (by omega),wrap_id (by omega) (by omega)⟩
 simp -implicitDefEqProofs (disch:=omega) only [Rx,simprocAttr,B5x1,h1,h2,GOp.pv,attrsPV,w1,hq,w2,w3,w4]
theorem few_attr_end {C:Calls'} {N:Nat} (x:GOp) (p0 p11 p12:PV) (g:List AObj) (left:Int) :
  aexec C N B5x1 ⟨[(0,.p p0),(5,.p (.int .i64 left)),(7,.ptr false 7 9 1 0 0),(11,.p p11),(12,.p p12),(46,.p (.int .i64 x.attrs.length)),(47,.p (.int .i64 x.attrs.length))],[(7,.pcells 9 [x.pv])],g⟩ =
   some (.exit 2,⟨[(0,.p p0),(5,.p (.int .i64 left)),(11,.p p11),(12,.p p12)],[],g⟩):=by
 have h1:¬ ((x.attrs.length:Int)<(x.attrs.length:Int)):=by omega
 simp -implicitDefEqProofs (disch:=omega) only [Rx,simprocAttr,B5x1,h1]
def smallAttrs (l:List Attr):Prop:=∀ a ∈ l,a.value.length+a.name.length≤1048576
theorem few_attrs {C:Calls'} {N:Nat} (x:GOp) (p0 p11 p12:PV) (g:List AObj) (hb:x.attrs.length≤1048576) (hs:smallAttrs x.attrs) (rest:List Attr):∀ (pre:List Attr) (m:Nat) (left:Int),x.attrs=pre++rest→rest.length<m →
    -4611686018427387904+1048576*(rest.length:Int)≤left→left≤4611686018427387904 →
    aloop C N B5x1 m ⟨[(0,.p p0),(5,.p (.int .i64 left)),(7,.ptr false 7 9 1 0 0),(11,.p p11),(12,.p p12),(46,.p (.int .i64 x.attrs.length)),(47,.p (.int .i64 pre.length))],[(7,.pcells 9 [x.pv])],g⟩ =
      some (.exit 2,⟨[(0,.p p0),(5,.p (.int .i64 (attrsLeft rest left))),(11,.p p11),(12,.p p12)],[],g⟩):=by
  induction rest with
  | nil =>
    intro pre m left hd hm h1 h2
    obtain ⟨m,rfl⟩:∃ k,m=k+1:=⟨m - 1,by simp at hm;omega⟩
    have e:pre.length=x.attrs.length:=by rw [hd];simp
    rw [e,aloop_succ,few_attr_end,bl_exit];rfl
  | cons a rest ih =>
    intro pre m left hd hm h1 h2
    obtain ⟨m,rfl⟩:∃ k,m=k+1:=⟨m - 1,by simp at hm;omega⟩
    have hget:x.attrs[pre.length]? = some a:=by rw [hd];simp
    have hmem:a ∈ x.attrs:=List.mem_of_getElem? hget
    simp only [List.length_cons,Int.natCast_add,Int.natCast_one] at hm h1
    have q:0≤((a.value.length:Int)+(a.name.length:Int)).tdiv 4096∧((a.value.length:Int)+(a.name.length:Int)).tdiv 4096≤1048576:=by
      have:=hs a hmem
      rw [Int.tdiv_eq_ediv_of_nonneg (by omega)];omega
    rw [aloop_succ,few_attr x p0 p11 p12 g pre.length a left hget hb (hs a hmem) (by omega) h2,bl_normal]
    have:=ih (pre++[a]) m (left - ((a.value.length:Int)+a.name.length).tdiv 4096) (by rw [hd];simp) (by omega) (by omega) (by omega)
    rw [List.length_append,Int.natCast_add] at this
    exact this
theorem few_attrs0 {C:Calls'} {N:Nat} (x:GOp) (p0 p11 p12:PV) (g:List AObj) (hb:x.attrs.length≤1048576) (hs:smallAttrs x.attrs) (hN:x.attrs.length<N) {left:Int} (h1 : -4611686018427387904+1048576*(x.attrs.length:Int)≤left) (h2:left≤4611686018427387904) :
  aexec C N (.loop B5x1) ⟨[(0,.p p0),(5,.p (.int .i64 left)),(7,.ptr false 7 9 1 0 0),(11,.p p11),(12,.p p12),(46,.p (.int .i64 x.attrs.length)),(47,.p (.int .i64 0))],[(7,.pcells 9 [x.pv])],g⟩ =
   some (.exit 2,⟨[(0,.p p0),(5,.p (.int .i64 (attrsLeft x.attrs left))),(11,.p p11),(12,.p p12)],[],g⟩):=by
 rw [aexec_loop]
 exact few_attrs x p0 p11 p12 g hb hs x.attrs [] N left rfl hN h1 h2
def smallOp (x:GOp):Prop:=x.attrs.length≤1048576∧smallAttrs x.attrs∧x.text.length+x.key.length+x.tag.length+x.name.length≤1048576
theorem smallOp_of {x:GOp} {n:Nat} (h:bulkL x.pv≤n) (hn:n≤1048576):smallOp x∧x.attrs.length<n:=by
 rw [bulk_op] at h
 obtain ⟨h1,h2⟩:=bulk_attrs x.attrs
 refine ⟨⟨by omega,fun a ha=>by have:=h1 a ha;omega,by omega⟩,by omega⟩
theorem attrsLeft_boundF (l:List Attr) (hs:smallAttrs l):∀ left:Int,left - 1048576*(l.length:Int)≤attrsLeft l left∧attrsLeft l left≤left:=by
  induction l with
  | nil=>intro left;simp [attrsLeft]
  | cons a l ih =>
    intro left
    have ha:=hs a (by simp)
    have q:0≤((a.value.length:Int)+(a.name.length:Int)).tdiv 4096∧((a.value.length:Int)+(a.name.length:Int)).tdiv 4096≤1048576:=by
      rw [Int.tdiv_eq_ediv_of_nonneg (by omega)];omega
    obtain ⟨z1,z2⟩:=ih (fun b hb=>hs b (by simp [hb])) (left - ((a.value.length:Int)+a.name.length).tdiv 4096)
    simp only [attrsLeft,List.length_cons,Int.natCast_add,Int.natCast_one]
    constructor <;> omega
theorem op_get {l:List GOp} {i:Nat} {x:GOp} (h:l[i]? = some x):(l.map GOp.pv).getD i []=x.pv:=by
 rw [List.getD_eq_getElem?_getD,List.getElem?_map,h];rfl
def fewCost (x:GOp):Int:=((x.text.length:Int)+x.key.length+x.tag.length+x.name.length).tdiv 4096
theorem fewCost_bound {x:GOp} (h:smallOp x):0≤fewCost x∧fewCost x≤1048576:=by
 have:=h.2.2
 unfold fewCost
 rw [Int.tdiv_eq_ediv_of_nonneg (by omega)];omega
theorem few_op {C:Calls'} {N:Nat} (l:List GOp) (g:List AObj) (i:Nat) (x:GOp) (left:Int) (h:l[i]? = some x) (hx:smallOp x) (hN:x.attrs.length<N) (hlen:l.length≤1048576) (hl : -1099511627776≤left) (hl2:left≤1099511627776) :
  aexec C N B5x0 ⟨[(0,.p (.list (l.map GOp.pv))),(5,.p (.int .i64 left)),(11,.p (.int .i64 l.length)),(12,.p (.int .i64 i))],[],g⟩ =
   if left - 1 - x.attrs.length - fewCost x<0 then some (.ret,⟨[(4,.p (.bool false))],[],g⟩) else
   some (.normal,⟨[(0,.p (.list (l.map GOp.pv))),(5,.p (.int .i64 (attrsLeft x.attrs (left - 1 - x.attrs.length - fewCost x)))),(11,.p (.int .i64 l.length)),(12,.p (.int .i64 (i+1)))],[],g⟩):=by
 have hlt:i<l.length:=(List.getElem?_eq_some_iff.1 h).1
 have h1:(i:Int)<(l.length:Int):=by omega
 have h2:=op_get h
 obtain ⟨b1,b2,b3⟩:=hx
 have q:=fewCost_bound (x:=x) ⟨b1,b2,b3⟩
 have hq:((x.text.length:Int)+x.key.length+x.tag.length+x.name.length).tdiv 4096=fewCost x:=rfl
 generalize fewCost x=d at q hq ⊢
 obtain ⟨w1,w2,w3,w4,w5,w6,w7,w8⟩:IntKind.i64.wrap ((x.text.length:Int)+x.key.length)=(x.text.length:Int)+x.key.length∧IntKind.i64.wrap ((x.text.length:Int)+x.key.length+x.tag.length)=(x.text.length:Int)+x.key.length+x.tag.length ∧
   IntKind.i64.wrap ((x.text.length:Int)+x.key.length+x.tag.length+x.name.length)=(x.text.length:Int)+x.key.length+x.tag.length+x.name.length∧IntKind.i64.wrap d=d∧IntKind.i64.wrap (left - 1)=left - 1 ∧
   IntKind.i64.wrap (left - 1 - x.attrs.length)=left - 1 - x.attrs.length∧IntKind.i64.wrap (left - 1 - x.attrs.length - d)=left - 1 - x.attrs.length - d∧IntKind.i64.wrap ((i:Int)+1)=(i:Int)+1 :=
  ⟨wrap_id (by omega) (by omega),wrap_id (by omega) (by omega),wrap_id (by omega) (by omega),wrap_id (by omega) (by omega),wrap_id (by omega) (by omega),wrap_id (by omega) (by omega),wrap_id (by omega) (by omega),wrap_id (by omega) (by omega)⟩
 have hloop:=few_attrs0 (C:=C) (N:=N) x (.list (l.map GOp.pv)) (.int .i64 l.length) (.int .i64 i) g b1 b2 hN (left:=left - 1 - x.attrs.length - d) (by omega) (by omega)
 by_cases hneg:left - 1 - x.attrs.length - d<0
 ·simp -implicitDefEqProofs (disch:=omega) only [Rx,simprocAttr,B5x0,h1,h2,GOp.pv,attrsPV,w1,hq,w2,w3,w4,w5,w6,w7,hneg]
 ·simp only [GOp.pv,attrsPV] at hloop
  simp -implicitDefEqProofs (disch:=omega) only [Rx,simprocAttr,B5x0,h1,h2,GOp.pv,attrsPV,w1,hq,w2,w3,w4,w5,w6,w7,w8,hneg,hloop]
def fewEnd (r:Option Int) (l:PV) (n:Int) (g:List AObj):Ex × St:=match r with
 | none=>(.ret,⟨[(4,.p (.bool false))],[],g⟩)
 | some left=>(.exit 0,⟨[(5,.p (.int .i64 left))],[],g⟩)
theorem few_op_end {C:Calls'} {N:Nat} (l:List GOp) (g:List AObj) (left:Int) :
  aexec C N B5x0 ⟨[(0,.p (.list (l.map GOp.pv))),(5,.p (.int .i64 left)),(11,.p (.int .i64 l.length)),(12,.p (.int .i64 l.length))],[],g⟩=some (.exit 0,⟨[(5,.p (.int .i64 left))],[],g⟩):=by
 have h1:¬ ((l.length:Int)<(l.length:Int)):=by omega
 simp -implicitDefEqProofs (disch:=omega) only [Rx,simprocAttr,B5x0,h1]
theorem few_ops {C:Calls'} {N:Nat} (l:List GOp) (g:List AObj) (hs:∀ x ∈ l,smallOp x∧x.attrs.length<N) (hlen:l.length≤1048576) (rest:List GOp):∀ (pre:List GOp) (m:Nat) (left:Int),l=pre++rest→rest.length<m→(pre≠[]→0≤left+1099511627776) → -1099511627776≤left→left≤1000000 →
    aloop C N B5x0 m ⟨[(0,.p (.list (l.map GOp.pv))),(5,.p (.int .i64 left)),(11,.p (.int .i64 l.length)),(12,.p (.int .i64 pre.length))],[],g⟩=some (fewEnd (fewOpsL rest left) (.list (l.map GOp.pv)) l.length g):=by
  induction rest with
  | nil =>
    intro pre m left hd hm _ h1 h2
    obtain ⟨m,rfl⟩:∃ k,m=k+1:=⟨m - 1,by simp at hm;omega⟩
    have e:pre.length=l.length:=by rw [hd];simp
    rw [e,aloop_succ,few_op_end,bl_exit];rfl
  | cons x rest ih =>
    intro pre m left hd hm _ h1 h2
    obtain ⟨m,rfl⟩:∃ k,m=k+1:=⟨m - 1,by simp at hm;omega⟩
    have hget:l[pre.length]? = some x:=by rw [hd];simp
    have hmem:x ∈ l:=List.mem_of_getElem? hget
    obtain ⟨hx,hN⟩:=hs x hmem
    rw [aloop_succ,few_op l g pre.length x left hget hx hN hlen (by omega) (by omega)]
    have hc:fewOpsL (x::rest) left=if left - 1 - x.attrs.length - fewCost x<0 then none else fewOpsL rest (attrsLeft x.attrs (left - 1 - x.attrs.length - fewCost x)):=rfl
    rw [hc]
    have q:=fewCost_bound hx
    by_cases hneg:left - 1 - x.attrs.length - fewCost x<0
    · rw [if_pos hneg,if_pos hneg,bl_ret];rfl
    · rw [if_neg hneg,if_neg hneg,bl_normal]
      have hb:=attrsLeft_boundF x.attrs hx.2.1 (left - 1 - x.attrs.length - fewCost x)
      have hb2:(x.attrs.length:Int)≤1000000:=by omega
      simp only [List.length_cons] at hm
      have:=ih (pre++[x]) m (attrsLeft x.attrs (left - 1 - x.attrs.length - fewCost x)) (by rw [hd];simp) (by omega) (by omega) (by omega) (by omega)
      rw [List.length_append,Int.natCast_add] at this
      exact this
theorem few_run (l:List GOp) (most:Int) (g:List AObj) {n:Nat} (hs:∀ x ∈ l,smallOp x∧x.attrs.length<n) (hlen:l.length≤1048576) (hn:l.length<n) (h1:0≤most) (h2:most≤1000000) :
    acall T (n+1) 5 [.p (.list (l.map GOp.pv)),.p (.int .i64 most)] g=some (.p (.bool (fewOps l most)),g):=by
  rw [acall_code T5,run_pure rfl rfl rfl]
  have hloop:=few_ops (C:=acall T n) (N:=n) l [] hs hlen l [] n most rfl hn (by simp) (by omega) (by omega)
  rw [← aexec_loop] at hloop
  cases hr:fewOpsL l most with
  | none =>
    rw [hr] at hloop
    simp -implicitDefEqProofs only [F5,fewEnd,List.length_nil,Int.natCast_zero] at hloop ⊢
    simp -implicitDefEqProofs (disch:=omega) only [Rx,simprocAttr,hloop,fewOps,hr]
  | some left =>
    rw [hr] at hloop
    simp -implicitDefEqProofs only [F5,fewEnd,List.length_nil,Int.natCast_zero] at hloop ⊢
    simp -implicitDefEqProofs (disch:=omega) only [Rx,simprocAttr,hloop,fewOps,hr]
end Go.TA.Try


end
section
/- The law DomIDs, in the machine. -/
namespace Go.TA.Try
theorem removed_dead {S:MS} {x:GOp} (hk:x.kind=4) (he:(doD S x).2.1=0):liveB (doD S x).2.2 x.node=false:=by
  have e:doD S x=(0,removeD S x.node):=by unfold doD;rw [if_neg (by omega),if_neg (by omega),if_neg (by omega),if_pos hk]
  rw [e] at he ⊢
  simp only at he ⊢
  unfold removeD at he ⊢
  by_cases hf:fitE S x.node≠0
  · rw [if_pos hf] at he;exact absurd he hf
  rw [if_neg hf]
  obtain ⟨c,hc,hcL,hc0⟩:=fit_live hf
  rw [hc]
  simp only [Int.toNat_natCast]
  cases hl:liveB (endM (takeM S c) (c:Int)) (c:Int) with
  | false=>rfl
  | true =>
    have:=liveB_iff.1 hl
    rw [liveL_end hc0,List.mem_filter,underB_iff.2 .here] at this
    simp at this
structure IDSt where
 i:Nat
 S:MS
 it:Nat→Nat
 nd:Nat→Nat
 I:Nat→LK
 g:List AObj
def idsS (L:List GOp) (pd:Nat) (s:IDSt):St:=⟨[(1,.p (.list (L.map GOp.pv))),(5,DocP pd),(6,.p (.int .i64 ((s.S.N:Int) - 1))),(31,.p (.int .i64 L.length)),(32,.p (.int .i64 s.i))],[],s.g⟩
theorem ids_loop (L : List GOp) (hL : ∀ x ∈ L, x.attrs.length ≤ 1048577) (hLl : L.length ≤ 1048575) (pd pm : Nat) (N0 : Nat) (hN0 : N0 ≤ 4294967296) (s0 : IDSt) (hi0 : s0.i = 0) (hD0 : Doc 0 s0.S s0.it s0.nd s0.I pd pm s0.g) (hl0 : (liveL s0.S).length ≤ 1) (hSN : s0.S.N ≤ N0) {n : Nat} (hn : 2 * 1048578 + 2 * bnd 0 L.length < n) :
    ∃ s:IDSt,aexec (acall T n) n (.loop B3x0) (idsS L pd s0)=some (.exit 0,⟨[(5,DocP pd),(6,.p (.int .i64 ((s.S.N:Int) - 1)))],[],s.g⟩)∧Doc (bnd 0 L.length) s.S s.it s.nd s.I pd pm s.g∧s.S.N≤N0+L.length:=by
  have key:=loop_inv (C:=acall T n) (N:=n) (B:=B3x0) (σ := IDSt) (S:=idsS L pd)
    (I:=fun s=>s.i≤L.length∧Doc (bnd 0 s.i) s.S s.it s.nd s.I pd pm s.g∧(liveL s.S).length≤s.i+1∧s.S.N≤N0+s.i) (μ := fun s=>L.length - s.i)
    (Q:=fun q=>∃ s:IDSt,q=(.exit 0,⟨[(5,DocP pd),(6,.p (.int .i64 ((s.S.N:Int) - 1)))],[],s.g⟩)∧Doc (bnd 0 L.length) s.S s.it s.nd s.I pd pm s.g∧s.S.N≤N0+L.length) ?_ s0 ⟨by omega,by rw [hi0];exact hD0,by omega,by omega⟩ (by omega)
  · obtain ⟨q,hq,s,rfl,h1,h2⟩:=key
    exact ⟨s,hq,h1,h2⟩
  rintro ⟨i,S,it,nd,I,g⟩ ⟨hi,hD,hlv,hN⟩
  simp only at hi hD hlv hN
  by_cases h:i<L.length
  · left
    obtain ⟨x,hx⟩:=get_some h
    have hgx:=getD_map (f:=GOp.pv) hx
    have hxm:=List.mem_of_getElem? hx
    have hb:=bnd_mono 0 (show i≤L.length by omega)
    have k1:(i:Int)<(L.length:Int):=by omega
    obtain ⟨it',nd',I',g',hdo,hD',hF⟩:=do20_run hD x (hL x hxm) (n:=n - bnd 0 i - 41) (by omega) (by omega) (by omega)
    rw [show n - bnd 0 i - 41+bnd 0 i+41=n by omega] at hdo
    have hl':=doD_live hD.ok x
    have hN':=doD_N S x
    have hdead:=fun (k:x.kind=4) (e:(doD S x).2.1=0)=>removed_dead (S:=S) k e
    have hpos:=hD.ok.pos
    have hlk:∃ (five:List PV) (b:Bool),acall T n 9 [DocP pd,.p (.int .i64 x.node)] g'=some (.tuple [.p (.agg five),.p (.bool b)],g')∧five.length=5∧b=liveB (doD S x).2.2 x.node:=by
      cases hb:liveB (doD S x).2.2 x.node with
      | false =>
        have:=links_dead hD'.lies hb (n - 1)
        rw [show n - 1+1=n by omega] at this
        exact ⟨_,_,this,rfl,rfl⟩
      | true =>
        obtain ⟨c,hc,hcL⟩:=live_liveL hb
        rw [hc]
        have:=links_run hD'.ok hD'.link hD'.lies hcL (n - 4)
        rw [show n - 4+4=n by omega] at this
        exact ⟨_,_,this,rfl,rfl⟩
    obtain ⟨five,b,hlk,h5,hb5⟩:=hlk
    match five,h5 with
    | [f1,f2,f3,f4,f5],_=>
    refine ⟨⟨i+1,(doD S x).2.2,it',nd',I',g'⟩, ?_,⟨by simp only;omega,hD',by simp only;omega,by simp only;rcases hN' with h | h <;> omega⟩,by simp only;omega⟩
    simp only [idsS]
    generalize doD S x=z at hdo hlk hN' hdead hb5 ⊢
    obtain ⟨z1,z2,Sz⟩:=z
    simp only at hdo hlk hN' hdead hb5 ⊢
    simp only [GOp.pv,attrsPV] at hdo
    have hb4:x.kind=4→z2=0→b=false:=fun h1 h2=>by rw [hb5];exact hdead h1 h2
    by_cases e1:x.kind=1
    · have e1b:(x.kind==1)=true:=by simpa using e1
      have e4b:(x.kind==4)=false:=by simp;omega
      rcases hN' with ⟨_,n2,n3,n4⟩ | ⟨n2,n3⟩
      · subst n2 n3
        rw [n4]
        have e2:((S.N:Int) - 1+1)=(S.N:Int):=by omega
        have e3:((S.N+1:Nat):Int) - 1=(S.N:Int):=by omega
        simp -implicitDefEqProofs (disch:=omega) only [Rx,simprocAttr,B3x0,k1,hgx,GOp.pv,attrsPV,hdo,hlk,e1b,e4b,e2]
      · have e2:(z2==0)=false:=by simpa using n2 e1
        rw [n3]
        simp -implicitDefEqProofs (disch:=omega) only [Rx,simprocAttr,B3x0,k1,hgx,GOp.pv,attrsPV,hdo,hlk,e1b,e4b,e2]
    · have e1':(x.kind==1)=false:=by simpa using e1
      have n3:Sz.N=S.N:=by rcases hN' with ⟨n1,_⟩ | ⟨_,n3⟩;exact absurd n1 e1;exact n3
      rw [n3]
      by_cases e4:x.kind=4
      · have e4b:(x.kind==4)=true:=by simpa using e4
        by_cases ez:z2=0
        · have hbf:=hb4 e4 ez
          subst ez
          rw [hbf] at hlk
          simp -implicitDefEqProofs (disch:=omega) only [Rx,simprocAttr,B3x0,k1,hgx,GOp.pv,attrsPV,hdo,hlk,e1',e4b]
        · have ez':(z2==0)=false:=by simpa using ez
          simp -implicitDefEqProofs (disch:=omega) only [Rx,simprocAttr,B3x0,k1,hgx,GOp.pv,attrsPV,hdo,hlk,e1',e4b,ez']
      · have e4':(x.kind==4)=false:=by simpa using e4
        simp -implicitDefEqProofs (disch:=omega) only [Rx,simprocAttr,B3x0,k1,hgx,GOp.pv,attrsPV,hdo,hlk,e1',e4']
  · right
    obtain rfl:i=L.length:=by omega
    have k1:¬ (L.length:Int)<(L.length:Int):=by omega
    refine ⟨_, ?_, ?_,⟨L.length,S,it,nd,I,g⟩,rfl,hD,hN⟩
    · simp only [idsS]
      simp -implicitDefEqProofs (disch:=omega) only [Rx,simprocAttr,B3x0,k1]
    · simp
theorem ids_run (next:Int) (hnx:i64ok next) (L:List GOp) (hL:∀ x ∈ L,smallOp x) (hLl:L.length≤1048575) :
    ∃ n,acall T n 3 [.p (.int .i64 next),.p (.list (L.map GOp.pv))] []=some (.p (.bool true),[]):=by
  obtain ⟨n,hn⟩:∃ n,n=4*1048578+2*bnd 0 L.length:=⟨_,rfl⟩
  refine ⟨n+61, ?_⟩
  have hsame:=same20 n
  have hfo:=few_run L 150 [] (n:=n+59) (fun y hy=>⟨hL y hy,by have:=(hL y hy).1;omega⟩) (by omega) (by omega) (by omega) (by omega)
  rw [show n+59+1=n+60 by omega] at hfo
  rw [acall_code T3,run_pure rfl rfl rfl]
  cases h2:fewOps L 150 with
  | false =>
    rw [h2] at hfo
    simp -implicitDefEqProofs (disch:=omega) only [Rx,simprocAttr,F3,hfo,hsame]
  | true=>
  rw [h2] at hfo
  by_cases hlo:next<1
  · simp -implicitDefEqProofs (disch:=omega) only [Rx,simprocAttr,F3,hfo,hsame,hlo]
  by_cases hhi:next > 4294967296
  · simp -implicitDefEqProofs (disch:=omega) only [Rx,simprocAttr,F3,hfo,hsame,hlo,hhi]
  obtain ⟨N,rfl⟩:∃ N:Nat,next=((N+1:Nat):Int):=⟨(next - 1).toNat,by omega⟩
  obtain ⟨it,nd,pd,pm,g,hnew,hA,hF⟩:=new_run N (by omega) [] (n+58)
  rw [show n+58+2=n+60 by omega] at hnew
  have hD0:Doc 0 (newS (N+1)) it nd (fun _=>⟨none,none,none,none,none⟩) pd pm g:=⟨newS_ok N,newS_link N,hA⟩
  obtain ⟨s,hloop,hDs,hNs⟩:=ids_loop (n:=n+60) L (fun x hx=>by have:=(hL x hx).1;omega) hLl pd pm (N+1) (by omega) ⟨0,newS (N+1),it,nd,_,g⟩ rfl hD0 (by rw [liveL_new];simp) (Nat.le_refl _) (by omega)
  simp only [idsS] at hloop
  have e1:(newS (N+1)).N=N+1:=rfl
  rw [e1] at hloop
  have hdead:=links_dead hDs.lies (id:=(s.S.N:Int)) (by
    cases hb:liveB s.S (s.S.N:Int) with
    | false=>rfl
    | true=>have:=(mem_liveL.1 (liveB_iff.1 hb)).1;omega) (n+59)
  rw [show n+59+1=n+60 by omega] at hdead
  have hnxt:=next_doc hDs.lies (n+59)
  rw [show n+59+1=n+60 by omega] at hnxt
  have e2:(s.S.N:Int) - 1+1=(s.S.N:Int):=by omega
  have e3:=hDs.ok.pos
  have e4:(s.S.N:Int)≤4296015871:=by omega
  unfold five0 at hdead
  simp only [Int.natCast_zero] at hloop
  generalize ((N+1:Nat):Int)=next at hlo hhi hnew hloop ⊢
  simp -implicitDefEqProofs (disch:=omega) only [Rx,simprocAttr,F3,hfo,hsame,hlo,hhi,hnew,hloop,hdead,hnxt,e2]
end Go.TA.Try


end
section
/- The law DomIDs, for every input of bulk at most 1048576: the call returns true, and nothing that was there has changed. -/
namespace Go.Proofs.Ytbgbmdjfogohnaa.domIDs
open Go.ChangeShapes Go.WideShapes Go.ChangeAt Go.RowKit Go.TA
theorem own:ownKnob Try.prog.godebug=none:=by kernel_rfl
theorem kids:Kids Try.prog (· < Try.prog.types.size):=kids_rows (by kernel_rfl) (by kernel_rfl)
theorem full:∀ t e,t<Try.prog.types.size→Try.prog.underlying t=some (.slice e)→0<Try.prog.cellsOf e:=slices_full_of Try.prog (by kernel_rfl)
theorem bulk {H:Type}:Bulk (H:=H) Rows.uptoBulk Rows.uptoBulkAll where
 str bs:=by simp [Rows.uptoBulk]
 lit l:=by cases l <;> simp [Rows.uptoBulk]
 nil:=by simp [Rows.uptoBulk]
 slice a b:=by simp [Rows.uptoBulk]
 agg a:=by simp [Rows.uptoBulk]
 nilA:=by simp [Rows.uptoBulkAll]
 consA d r:=by simp [Rows.uptoBulkAll]
def types:List TypeId:=[22,31,3,9,29,51]
theorem closed:closedB Try.prog 9 types=true:=by decide +kernel
theorem shOps:shOf Try.prog 9 22=some [.sl 31]:=by decide +kernel
theorem shOp:shOf Try.prog 9 31=some (opSh 51):=by decide +kernel
theorem shAttr:shOf Try.prog 9 51=some [.str,.str]:=by decide +kernel
theorem shInt:shOf Try.prog 9 3=some [.int .i64]:=by decide +kernel
theorem params:Try.f3.params.toList=[3,22]:=by kernel_rfl
theorem bulk_ops:∀ (L:List GOp),(∀ x ∈ L,bulkL x.pv≤bulkLL (L.map GOp.pv))∧9*L.length≤bulkLL (L.map GOp.pv)
  | []=>by simp [bulkLL]
  | a :: l => by
    obtain ⟨h1,h2⟩:=bulk_ops l
    have:=bulk_op a
    simp only [List.map_cons,bulkLL,List.length_cons]
    refine ⟨fun b hb => ?_,by omega⟩
    rcases List.mem_cons.1 hb with rfl | hb
    · omega
    · have:=h1 b hb;omega
theorem contract (H:Type) (enc:TypeId × Value→H) (W:World) (base:Nat) (args:Array Value) (ds gs:List (DataW H)) (before:List MemPlace)
  (hval:∀ (j:Nat) t v,Try.f3.params[j]? = some t→args[j]? = some v→Value.okWide Try.prog W .any base t v)
  (hW:DataW.Whole enc Try.prog Try.f3.params.toList Rows.domIDsSpec.vars false W args.toList ds gs before) (hk:Rows.uptoSmall H (ds++gs)=true) :
  Calls Try.prog 3 args W fun e W'=>∃ v,e = .returned v∧Rows.domIDsSpec.post enc Try.prog Try.f3 false true false false W args v W':=by
 have hW':=hW
 obtain ⟨p,q,hA,hV,rfl,_,_⟩:=hW'
 obtain ⟨rfl,rfl⟩:=trodVars_none hV
 rw [List.append_nil] at hk
 have hbound:Rows.uptoBulkAll ds≤1048576:=of_decide_eq_true hk
 have hlen:=trod_len hA
 rw [params] at hA hlen
 obtain ⟨pss,h1,h2,h3,h4⟩:=args_rel (gs:=types) (D0:=9) kids full bulk closed hA (by decide) (fun j t v hj hv=>⟨_,_,hval j t v (by rw [← Array.getElem?_toList,params];exact hj) (by simpa using hv)⟩)
 match pss,h1 with
 | [ps1,ps2],h1=>
 obtain ⟨⟨shs1,hs1,hok1⟩,⟨shs2,hs2,hok2⟩,_⟩:=h1
 rw [shInt] at hs1
 rw [shOps] at hs2
 simp only [Option.some.injEq] at hs1 hs2
 subst hs1 hs2
 obtain ⟨l1,r1,rfl,hw1,hr1⟩:=dec_int hok1
 obtain rfl:=dec_nil hr1
 have hi1:=wf_i64 hw1
 obtain ⟨xs2,r2,rfl,hx2,hr2⟩:=dec_list shOp hok2
 obtain rfl:=dec_nil hr2
 obtain ⟨l2,rfl,hl2⟩:=dec_ops shAttr hx2
 have hb2:bulkLL (l2.map GOp.pv)≤1048575:=by simp only [bulkLL,bulkL,PV.bulk] at h2;omega
 obtain ⟨fuel,hrun⟩:=Go.TA.Try.ids_run l1 hi1 l2 (fun x hx=>(Go.TA.Try.smallOp_of (n:=1048576) (by have:=(bulk_ops l2).1 x hx;omega) (Nat.le_refl _)).1) (by have:=(bulk_ops l2).2;omega)
 have ha0:aggT Try.prog 22=false:=by decide +kernel
 have ha1:aggT Try.prog 3=false:=by decide +kernel
 have hargs:argsOf Try.prog [3,22] [[.int .i64 l1],[.list (l2.map GOp.pv)]]=[.int .i64 l1,.list (l2.map GOp.pv)]:=by simp [argsOf,argOf,ha0,ha1]
 rw [hargs] at h3 h4
 refine (law_calls Go.TA.Try.mixed Go.TA.Try.T_ok (ps:=[.int .i64 l1,.list (l2.map GOp.pv)]) hrun (by simpa using h3) h4).mono fun e W' ⟨he,hB⟩=>⟨_,he, ?_⟩
 refine law_post kids full hW rfl (tb:=4) rfl (by kernel_rfl) (by rw [params];decide +kernel) ?_ hB
 match ds,hlen with
 | [d1,d2],_=>rfl
theorem lifted (os:Os) (started:os.Started) (H:Type) (enc:TypeId × Value→H) (F:Stop.Interp) :
  ReturnsInHanded {} Try.checked os 3 .any ((Rows.OpenSpec.upto Rows.domIDsSpec).pre6 enc Try.prog Try.f3 Rows.domIDsUptoRow.domain false) (((Rows.OpenSpec.upto Rows.domIDsSpec).at F).post enc Try.prog Try.f3 false true false false):=by
 refine returnsInHanded_of_cond (C:=Try.checked) (s:=Rows.OpenSpec.upto Rows.domIDsSpec) (k:=Rows.uptoSmall) rfl own started (by kernel_rfl) Try.func3
  (OpenSpec.witness (enc:=enc) (C:=Try.checked) (s:=Rows.OpenSpec.upto Rows.domIDsSpec) (k:=Rows.uptoSmall) rfl false ⟨#[], #[.int .i64 0,.slice none 0 0],[]⟩ 8 (by kernel_rfl) (by kernel_rfl) (by kernel_rfl)
   (x:=([.lit (.int .i64 0),.nil],[],[])) (by kernel_rfl) rfl (by kernel_rfl)) ?_
 intro W base args ds gs before hval hW _ hk _
 exact contract H enc W base args ds gs before hval hW hk
theorem over:Rows.domIDsUptoRow.holds Try.pinned (Rows.OpenSpec.upto Rows.domIDsSpec) :=
 OpenClaim.holds_of_cond 3 Try.f3 rfl rfl rfl rfl rfl rfl rfl ⟨rfl,rfl,rfl,rfl,rfl⟩ rfl rfl rfl rfl rfl (by kernel_rfl) Try.func3 (by kernel_rfl)
  (of_decide_eq_true (by kernel_rfl)) (by unfold Func.isWrapper;first | (rw [if_pos (by decide +kernel)];kernel_rfl) | (rw [if_neg (by decide +kernel)];exact ⟨rfl,rfl⟩))
  (fun os started H enc _ F=>lifted os started H enc F)
theorem holds:Rows.DomIDsUptoSaid:=over
end Go.Proofs.Ytbgbmdjfogohnaa.domIDs


end
