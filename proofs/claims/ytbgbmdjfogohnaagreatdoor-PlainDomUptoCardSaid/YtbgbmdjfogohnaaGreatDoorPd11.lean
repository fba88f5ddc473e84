/- Part 11 of 14 of a proof; joined from DocStep, PdmDocIns, PdmDocMake, PdmDocRem, DocOk, PdmDocDo, PdmWat, OpsData, ConcatD, SimM, MS0, PdmNames02, PdmCmp, PdmAttrs09, PdmAlone. What is wrong with a node alone. -/
import Derived.Test.YtbgbmdjfogohnaaGreatDoorPd10
import Derived.Test.YtbgbmdjfogohnaaGreatDoorPd1
import Derived.Test.YtbgbmdjfogohnaaGreatDoorPd6
import Derived.Test.YtbgbmdjfogohnaaGreatDoorPd7
set_option linter.unusedSimpArgs false
set_option linter.unusedVariables false
set_option linter.defProp false
set_option maxRecDepth 100000
set_option maxHeartbeats 8000000
section
/- What a document's links are behind a step. Plain. -/
namespace Go.TA
def befO (b:Int):Option Nat:=if b=0 then none else some b.toNat
section
variable {R:Nat} {S:MS} {I:Nat→LK}
theorem placed (hS : S.Ok R) (hI : b1n S I) {u h : Nat} {b : Int} (hu : u ∈ b0h S) (hh : h ∈ b0h S) (huh : u ≠ h) (hup : (S.st h).up < 0) (hb : b = 0 ∨ ∃ c : Nat, b = (c : Int) ∧ c ∈ b0h S ∧ c ≠ 0 ∧ (S.st c).up = (u : Int)) :
    (∀ k,befO b=some k→k ∈ b0h S∧(S.st k).up=(u:Int))∧(∀ k,b2d I u (befO b)=some k→k ∈ b0h S∧k≠h)∧b1n (b1s S h u b) (b3t I u h (befO b)):=by
  have huN:=(b0j.1 hu).1
  have hz:=h0f hS huN
  obtain ⟨c,hc,hcb⟩:∃ c:Nat,b=(c:Int)∧(c=0∨(c:Int) ∈ S.kd u):=by
    rcases hb with rfl | ⟨c,rfl,hc,_,hcu⟩
    · exact ⟨0,rfl,.inl rfl⟩
    · exact ⟨c,rfl,.inr (hS.up_lt (b0j.1 hc).1 hcu).2.2⟩
  subst hc
  have hpa:=h1g hS huN hcb hz
  have hbo:befO (c:Int)=if c=0 then none else some c:=by
    unfold befO
    by_cases e:c=0
    · subst e;rfl
    · rw [if_neg (by omega),if_neg e];simp
  rw [← hbo] at hpa
  have hpl:(if (c:Int)=0 then (S.kd u).length else (S.kd u).idxOf (c:Int))≤(b0s S u).length:=by
    have e:(b0s S u).length=(S.kd u).length:=by simp [b0s]
    rw [e]
    split
    · exact Nat.le_refl _
    · exact List.idxOf_le_length
  obtain ⟨p,hP⟩:∃ p,p=(if (c:Int)=0 then (S.kd u).length else (S.kd u).idxOf (c:Int)):=⟨_,rfl⟩
  rw [← hP] at hpa hpl
  have hah:=g1r hS hI hu hpl
  rw [hpa] at hah
  refine ⟨fun k hk => ?_,fun k hk => ?_, ?_⟩
  · rw [← hpa] at hk
    exact b3f hS huN (List.mem_of_getElem? hk)
  · rw [hah] at hk
    split at hk
    · cases hk
    · obtain ⟨h1,h2⟩:=b3f hS huN (List.mem_of_getElem? hk)
      refine ⟨h1,fun e => ?_⟩
      subst e;omega
  · have key:=b1n.place hS hI hu hh huh hup hpl (S':=b1s S h u (c:Int)) rfl (b9d S h u _) (fun k=>by
      simp only [b1s,upd]
      split
      · rename_i e;subst e;rfl
      · rfl) (fun k hk=>by
      by_cases e:k=u
      · subst e
        rw [if_pos rfl]
        unfold b0s
        simp only [b1s,b0l]
        rw [hP]
        exact g2x (d2t hS huN) h _
      · rw [if_neg e]
        simp only [b0s,b1s]
        rw [b0i e])
    rw [hpa] at key
    exact key
theorem g8l (hS : S.Ok R) (hI : b1n S I) {c u : Nat} (hc : c ∈ b0h S) (hcu : (S.st c).up = (u : Int)) :
    (I c).u=some u∧u ∈ b0h S∧u≠c∧(∀ k,(I c).p=some k→k ∈ b0h S∧k≠c)∧(∀ k,(I c).n=some k→k ∈ b0h S∧k≠c)∧b1n (b1h S c) (b5l I c):=by
  have hcN:=(b0j.1 hc).1
  obtain ⟨huN,hul,hk⟩:=hS.up_lt hcN hcu
  have hu:u ∈ b0h S:=b0j.2 ⟨huN,hul⟩
  have hn:=c2n hS huN
  have hkn:c ∈ b0s S u:=(c0g hS huN).2 hk
  obtain ⟨p,hp⟩:=List.getElem?_of_mem hkn
  have hl:=hI.kids u hu
  have hpv:=hl.prev p c hp
  have hnx:=hl.next p c hp
  have huc:u≠c:=fun e=>by
    obtain ⟨r,_,hr⟩:=hS.rank
    have:=hr c u hcN hcu
    subst e;omega
  refine ⟨by rw [hI.up c hc,b5a hS hcN hcu],hu,huc,fun k hk => ?_,fun k hk => ?_, ?_⟩
  · have e:(if p=0 then none else (b0s S u)[p - 1]?)=some k:=hpv.symm.trans hk
    split at e
    · cases e
    · obtain ⟨h1,h2⟩:=b3f hS huN (List.mem_of_getElem? e)
      refine ⟨h1,fun e2 => ?_⟩
      subst e2
      have:=b2f hn e hp
      omega
  · have e:(b0s S u)[p+1]? = some k:=hnx.symm.trans hk
    obtain ⟨h1,h2⟩:=b3f hS huN (List.mem_of_getElem? e)
    refine ⟨h1,fun e2 => ?_⟩
    subst e2
    have:=b2f hn e hp
    omega
  · refine b1n.take hS hI hc hcu hp (c1a S c) (fun k => ?_) (fun k hk => ?_)
    · unfold b1h
      rw [if_neg (by omega)]
      simp only [upd]
      split
      · rename_i e;subst e;rfl
      · rfl
    · unfold b1h
      rw [if_neg (by omega)]
      simp only [b0s,hcu,Int.toNat_natCast]
      by_cases e:k=u
      · subst e
        rw [if_pos rfl,b0l]
        have hkd:=d2t hS huN
        have e1:((S.kd k).filter fun y => !(y==(c:Int))).map Int.toNat=(b0s S k).filter fun y => !(y==c):=by
          rw [hkd,List.filter_map,List.map_map]
          have:(Int.toNat ∘ fun k:Nat=>(k:Int))=id:=by funext k;simp
          rw [this,List.map_id]
          refine List.filter_congr fun y _ => ?_
          simp only [Function.comp]
          by_cases e:y=c
          · subst e;simp
          · have:((y:Int)==(c:Int))=false:=by simp;omega
            rw [this]
            simp [e]
        rw [e1]
        show (b0s S k).filter (fun y => !(y==c))=c4q (b0s S k) p
        obtain ⟨hp1,hp2⟩:=List.getElem?_eq_some_iff.1 hp
        have hsp:b0s S k=(b0s S k).take p++c::(b0s S k).drop (p+1):=by
          conv=>lhs;rw [← List.take_append_drop p (b0s S k),List.drop_eq_getElem_cons hp1,hp2]
        have hn':=hn
        rw [hsp,List.nodup_append,List.nodup_cons] at hn'
        unfold c4q
        conv=>lhs;rw [hsp]
        rw [List.filter_append,List.filter_cons,if_neg (by simp),List.filter_eq_self.2,List.filter_eq_self.2]
        · intro y hy
          have:y≠c:=fun e=>hn'.2.1.1 (e ▸ hy)
          simpa using this
        · intro y hy
          have:y≠c:=fun e=>hn'.2.2 y hy c (by simp) e
          simpa using this
      · rw [if_neg e,b0i e]
end
section
variable {R:Nat} {S:MS} {nx:Int} {it nd:Nat→Nat} {I:Nat→LK} {pd pm:Nat} {g:List AObj}
theorem b1o.placed (h:b1o (b0h S) S.st nx it nd I pd pm g) (c u:Nat) (b:Int):b1o (b0h (b1s S c u b)) (b1s S c u b).st nx it nd I pd pm g:=by
 rw [b9d]
 refine h.st_congr (fun k _ => ?_) (fun _ _=>rfl)
 simp only [b1s,upd]
 split
 ·rename_i e;subst e;rfl
 ·rfl
theorem b1o.taken (h:b1o (b0h S) S.st nx it nd I pd pm g) (c:Nat):b1o (b0h (b1h S c)) (b1h S c).st nx it nd I pd pm g:=by
 rw [c1a]
 refine h.st_congr (fun k _ => ?_) (fun _ _=>rfl)
 unfold b1h
 split
 ·rfl
 ·simp only [upd]
  split
  ·rename_i e;subst e;rfl
  ·rfl
end
end Go.TA
namespace Go.TA
section
variable {L:List Nat} {st:Nat→b3o} {nx:Int} {it nd:Nat→Nat} {I:Nat→LK} {pd pm:Nat} {g:List AObj}
def Tar (L:List Nat) (x:LK):Prop:=∀ k,x.u=some k∨x.f=some k∨x.l=some k∨x.p=some k∨x.n=some k→k ∈ L
theorem b1n.tar {R : Nat} {S : MS} (hS : S.Ok R) (hI : b1n S I) {c : Nat} (hc : c ∈ b0h S) : Tar (b0h S) (I c) := by
  have hcN:=(b0j.1 hc).1
  have hk:=hI.kids c hc
  have kl:∀ k,k ∈ b0s S c→k ∈ b0h S:=fun k h=>(b3f hS hcN h).1
  have sib:∀ k,(I c).p=some k∨(I c).n=some k→k ∈ b0h S:=fun k h=>by
    rcases hS.up c hcN with h1 | ⟨p,hp,h2,h3,h4⟩
    · obtain ⟨e1,e2⟩:=hI.loose c hc (by omega)
      rw [e1,e2] at h
      rcases h with h | h <;> cases h
    · have hpL:p ∈ b0h S:=b0j.2 ⟨hp,h3⟩
      obtain ⟨j,hj⟩:=List.getElem?_of_mem ((c0g hS hp).2 h4)
      have hl:=hI.kids p hpL
      have e1:(I c).p=if j=0 then none else (b0s S p)[j - 1]? := hl.prev j c hj
      have e2:(I c).n=(b0s S p)[j+1]? := hl.next j c hj
      rcases h with h | h
      · rw [e1] at h
        split at h
        · cases h
        · exact (b3f hS hp (List.mem_of_getElem? h)).1
      · rw [e2] at h
        exact (b3f hS hp (List.mem_of_getElem? h)).1
  intro k h
  rcases h with h | h | h | h | h
  · rw [hI.up c hc] at h
    rcases hS.up c hcN with h1 | ⟨p,hp,h2,h3,h4⟩
    · rw [b5b hS hcN (by omega)] at h;cases h
    · rw [b5a hS hcN h2] at h
      cases h
      exact b0j.2 ⟨hp,h3⟩
  · rw [hk.first] at h
    exact kl k (List.mem_of_getElem? h)
  · rw [hk.last] at h
    split at h
    · cases h
    · exact kl k (List.mem_of_getElem? h)
  · exact sib k (.inl h)
  · exact sib k (.inr h)
theorem c0h {it it':Nat→Nat} {x:Option Nat} (h:∀ k,x=some k→it' k=it k):iAV it' x=iAV it x:=by
 cases x with
 | none=>rfl
 | some k=>simp only [iAV,h k rfl]
theorem d8n {it it':Nat→Nat} {c:Nat} {x:LK} (hx:Tar L x) (h:∀ k ∈ L,it' k=it k):c3p it' c x=c3p it c x:=by
 unfold c3p
 rw [c0h fun k e=>h k (hx k (.inl e)),c0h fun k e=>h k (hx k (.inr (.inl e))),c0h fun k e=>h k (hx k (.inr (.inr (.inl e)))),c0h fun k e=>h k (hx k (.inr (.inr (.inr (.inl e))))),c0h fun k e=>h k (hx k (.inr (.inr (.inr (.inr e)))))]
def c4u (L:List Nat) (nd:Nat→Nat) (pd pm:Nat) (N:Nat) (s:b3o) (nx':Int) (g:List AObj):List AObj :=
 ((g.set pd (.cells 2 [[.map true pm,.p (.int .i64 nx')]])++[AObj.pcells 6 [[.int .i64 N,.nilp,.nilp,.nilp,.nilp,.nilp]]])++[AObj.cells 5 [[.ptr true g.length 6 1 0 0,.p (.str s.tag),.p (.str s.key),.p (.str s.text),.p (.list (s.attrs.map Attr.pv))]]]).set pm (.map (mapD (L++[N]) (upd nd N (g.length+1))))
theorem b1o.push (h : b1o L st nx it nd I pd pm g) {N : Nat} (hN : N ∉ L) (htar : ∀ c ∈ L, Tar L (I c)) (s : b3o) (nx' : Int) :
    b1o (L++[N]) (upd st N s) nx' (upd it N g.length) (upd nd N (g.length+1)) (upd I N ⟨none,none,none,none,none⟩) pd pm (c4u L nd pd pm N s nx' g) ∧
      GFr g (b2q L it nd pd pm) (c4u L nd pd pm N s nx' g) (b2q (L++[N]) (upd it N g.length) (upd nd N (g.length+1)) pd pm):=by
  have hpd:=(List.getElem?_eq_some_iff.1 h.doc).1
  have hpm:=(List.getElem?_eq_some_iff.1 h.map).1
  have hmem:∀ k,k ∈ L++[N]→k=N∨(k ∈ L∧k≠N):=fun k hk=>by
    rcases List.mem_append.1 hk with h1 | h1
    · exact .inr ⟨h1,fun e=>hN (e ▸ h1)⟩
    · simp at h1;exact .inl h1
  have hil:∀ c ∈ L,it c<g.length:=fun c hc=>h.own_lt (.inr (.inr ⟨c,hc,.inl rfl⟩))
  have hnl:∀ c ∈ L,nd c<g.length:=fun c hc=>h.own_lt (.inr (.inr ⟨c,hc,.inr rfl⟩))
  have old:∀ j,j<g.length→j≠pd→j≠pm→(c4u L nd pd pm N s nx' g)[j]? = g[j]? := fun j hj h1 h2=>by
    unfold c4u
    rw [List.getElem?_set,if_neg (fun e=>h2 e.symm),List.getElem?_append_left (by simp;omega),List.getElem?_append_left (by simpa using hj),List.getElem?_set,if_neg (fun e=>h1 e.symm)]
  have e1:(c4u L nd pd pm N s nx' g)[g.length]? = some (AObj.pcells 6 [[.int .i64 N,.nilp,.nilp,.nilp,.nilp,.nilp]]):=by
    unfold c4u
    rw [List.getElem?_set,if_neg (by omega),List.getElem?_append_left (by simp),List.getElem?_append_right (by simp)]
    simp
  have e2:(c4u L nd pd pm N s nx' g)[g.length+1]? = some (AObj.cells 5 [[.ptr true g.length 6 1 0 0,.p (.str s.tag),.p (.str s.key),.p (.str s.text),.p (.list (s.attrs.map Attr.pv))]]):=by
    unfold c4u
    rw [List.getElem?_set,if_neg (by omega),List.getElem?_append_right (by simp)]
    simp
  refine ⟨⟨?_, ?_,fun c hc => ?_,fun c hc => ?_,fun c hc d hd e => ?_,fun c hc d hd e => ?_,fun c hc d hd => ?_,fun c hc => ?_,fun c hc => ?_,h.pp⟩,⟨by simp [c4u],fun j hj hO => ?_,fun j hO hj => ?_⟩⟩
  · unfold c4u
    rw [List.getElem?_set,if_neg (fun e=>h.pp e.symm),List.getElem?_append_left (by simp;omega),List.getElem?_append_left (by simpa using hpd),List.getElem?_set,if_pos rfl,if_pos hpd]
  · unfold c4u
    rw [List.getElem?_set,if_pos rfl,if_pos (by simp;omega)]
  · rcases hmem c hc with rfl | ⟨h1,h2⟩
    · rw [b0l,b0l,e2];simp [b8k,b0l]
    · rw [b0i h2,b0i h2,old _ (hnl c h1) (h.ndP c h1).1 (h.ndP c h1).2,h.nodes c h1]
      simp [b8k,b0i h2]
  · rcases hmem c hc with rfl | ⟨h1,h2⟩
    · rw [b0l,b0l]
      exact ⟨_,e1,.inr ⟨_,rfl,by simp [c3p,iAV]⟩⟩
    · rw [b0i h2,b0i h2,old _ (hil c h1) (h.itP c h1).1 (h.itP c h1).2]
      obtain ⟨o,ho,hr⟩:=h.items c h1
      refine ⟨o,ho, ?_⟩
      rw [d8n (htar c h1) (fun k hk=>by
        have hne:k≠N:=fun e=>by subst e;exact hN hk
        exact b0i hne)]
      exact hr
  · rcases hmem c hc with rfl | ⟨h1,h2⟩
    · rcases hmem d hd with rfl | ⟨h3,h4⟩
      · rfl
      · rw [b0l,b0i h4] at e
        have:=hil d h3;omega
    · rcases hmem d hd with rfl | ⟨h3,h4⟩
      · rw [b0l,b0i h2] at e
        have:=hil c h1;omega
      · rw [b0i h2,b0i h4] at e
        exact h.itInj c h1 d h3 e
  · rcases hmem c hc with rfl | ⟨h1,h2⟩
    · rcases hmem d hd with rfl | ⟨h3,h4⟩
      · rfl
      · rw [b0l,b0i h4] at e
        have:=hnl d h3;omega
    · rcases hmem d hd with rfl | ⟨h3,h4⟩
      · rw [b0l,b0i h2] at e
        have:=hnl c h1;omega
      · rw [b0i h2,b0i h4] at e
        exact h.ndInj c h1 d h3 e
  · rcases hmem c hc with rfl | ⟨h1,h2⟩
    · rcases hmem d hd with rfl | ⟨h3,h4⟩
      · rw [b0l,b0l];omega
      · rw [b0l,b0i h4]
        have:=hnl d h3;omega
    · rcases hmem d hd with rfl | ⟨h3,h4⟩
      · rw [b0l,b0i h2]
        have:=hil c h1;omega
      · rw [b0i h2,b0i h4]
        exact h.itNd c h1 d h3
  · rcases hmem c hc with rfl | ⟨h1,h2⟩
    · rw [b0l];omega
    · rw [b0i h2];exact h.itP c h1
  · rcases hmem c hc with rfl | ⟨h1,h2⟩
    · rw [b0l];omega
    · rw [b0i h2];exact h.ndP c h1
  · exact old j hj (fun e=>hO (.inl e)) (fun e=>hO (.inr (.inl e)))
  · rcases hO with rfl | rfl | ⟨c,hc,e⟩
    · exact .inl rfl
    · exact .inr (.inl rfl)
    · rcases hmem c hc with rfl | ⟨h1,h2⟩
      · rw [b0l,b0l] at e;omega
      · rw [b0i h2,b0i h2] at e
        exact .inr (.inr ⟨c,h1,e⟩)
end
end Go.TA


end
section
/- A document: a node is put below another one, or elsewhere. -/
namespace Go.TA
theorem g2u (S:MS) (id up b:Int):(b4b S id up b).2.N=S.N:=by
 unfold b4b;repeat' split
 all_goals rfl
theorem h2b (S:MS) (id b:Int):(c3l S id b).2.N=S.N:=by
 unfold c3l;repeat' split
 all_goals first | rfl | simp [b1s,b4r]
theorem g8b {S:MS} {c:Nat} (hc:c ∈ b0h S) (h0:0<c):fitE S (c:Int)=0:=by
 unfold fitE
 rw [if_neg (by omega),if_pos (c8g.2 hc)]
theorem g8c {S:MS} {b:Int} (hb:b2b S b=false) (h0:b≠0):fitE S b=13:=by
 unfold fitE
 rw [if_neg h0,hb];simp
namespace Tryz
section
variable {R:Nat} {S:MS} {nx:Int} {it nd:Nat→Nat} {I:Nat→LK} {pd pm:Nat} {g:List AObj}
theorem g4t (hS:S.Ok R):b2b S 0=true:=(c8g (c:=0)).2 (b0j.2 ⟨hS.pos,hS.top.1⟩)
theorem d6o (hS:S.Ok R) (hD:b1o (b0h S) S.st nx it nd I pd pm g) {b:Int} (hb:b2b S b=true) (n:Nat):b0g T (n+2) 128 [DocP pd,.p (.int .i64 b)] g=some (.tuple [iAV it (befO b),.p (.int .i64 0)],g):=by
 have h:=d1i hD b n
 unfold befO
 by_cases h0:b=0
 ·rw [if_neg (fun h=>h.1 h0),if_pos h0] at h
  rw [if_pos h0];exact h
 ·obtain ⟨c,rfl,hc⟩:=b3u hb
  have f:=g8b hc (by omega)
  rw [if_pos ⟨h0,f⟩,if_neg h0,f] at h
  rw [if_neg h0];exact h
theorem d1j (hS:S.Ok R) (hD:b1o (b0h S) S.st nx it nd I pd pm g) {b:Int} (hb:b2b S b=false) (n:Nat):b0g T (n+2) 128 [DocP pd,.p (.int .i64 b)] g=some (.tuple [.p .nilp,.p (.int .i64 13)],g):=by
 have h0:b≠0:=fun e=>by rw [e,g4t hS] at hb;cases hb
 have h:=d1i hD b n
 rw [g8c hb h0,if_neg (fun h=>by have:=h.2;omega),if_neg h0] at h
 exact h
theorem h6j (hS:S.Ok R) (hI:b1n S I) (hD:b1o (b0h S) S.st nx it nd I pd pm g) (id up b:Int) {n:Nat} (hn:R+3<n) :
    ∃ I' g',b0g T (n+3) 75 [DocP pd,.p (.int .i64 id),.p (.int .i64 up),.p (.int .i64 b)] g=some (.p (.int .i64 (b4b S id up b).1),g')∧b1o (b0h (b4b S id up b).2) (b4b S id up b).2.st nx it nd I' pd pm g'∧b1n (b4b S id up b).2 I'∧GFr g (b2q (b0h S) it nd pd pm) g' (b2q (b0h (b4b S id up b).2) it nd pd pm):=by
  have hl:=b9c hD id (n+1)
  have hd:=hD.doc
  have hm:=hD.map
  have hk:=b8l (b0h S) nd up
  have hlu:=d5c (S:=S) (nd:=nd) up
  unfold d2r at hl
  unfold b4b
  by_cases hf:fitE S id≠0
  · rw [if_pos hf]
    rw [if_neg hf] at hl
    have e1:(fitE S id==0)=false:=by simpa using hf
    refine ⟨I,g, ?_,hD,hI,GFr.refl _ _⟩
    rw [b0a T75,b0e rfl rfl]
    generalize fitE S id=e at hl e1 ⊢
    simp -implicitDefEqProofs (disch:=omega) only [Rx,simprocAttr,F75,hl,e1]
  rw [if_neg hf]
  simp only [ne_eq,Decidable.not_not] at hf
  obtain ⟨c,rfl,hcL,hc0⟩:=b7o hf
  rw [if_pos hf,hf] at hl
  have hcN:=(b0j.1 hcL).1
  have hnd:=hD.nodes c hcL
  simp only [b8k] at hnd
  simp only [Int.toNat_natCast] at hl ⊢
  cases hb:b2b S b with
  | false =>
    have hbs:=d1j hS hD hb (n:=n)
    rw [if_pos (by simp)]
    refine ⟨I,g, ?_,hD,hI,GFr.refl _ _⟩
    rw [b0a T75,b0e rfl rfl]
    cases hu:b2b S up with
    | false =>
      rw [if_neg (by rw [hu];decide)] at hlu
      simp -implicitDefEqProofs (disch:=omega) only [Rx,simprocAttr,F75,hl,hbs,hd,hm,hk,hlu,Option.getD_none]
    | true =>
      rw [if_pos hu] at hlu
      simp -implicitDefEqProofs (disch:=omega) only [Rx,simprocAttr,F75,hl,hbs,hd,hm,hk,hlu,Option.getD_some]
  | true=>
  have hbs:=d6o hS hD hb (n:=n)
  cases hu:b2b S up with
  | false =>
    rw [if_pos (by simp)]
    rw [if_neg (by rw [hu];decide)] at hlu
    refine ⟨I,g, ?_,hD,hI,GFr.refl _ _⟩
    rw [b0a T75,b0e rfl rfl]
    simp -implicitDefEqProofs (disch:=omega) only [Rx,simprocAttr,F75,hl,hbs,hd,hm,hk,hlu,iAVe,Option.getD_none]
  | true=>
  rw [if_neg (by simp)]
  rw [if_pos hu] at hlu
  obtain ⟨u,rfl,huL⟩:=b3u hu
  have hud:=hD.nodes u huL
  simp only [b8k] at hud
  simp only [Int.toNat_natCast] at hlu ⊢
  have run:∀ (e:Int) (g':List AObj),b0g T (n+2) 129 [IP it u,IP it c,iAV it (befO b)] g=some (.p (.int .i64 e),g')→b0g T (n+3) 75 [DocP pd,.p (.int .i64 c),.p (.int .i64 u),.p (.int .i64 b)] g=some (.p (.int .i64 e),g'):=fun e g' hp=>by
    rw [b0a T75,b0e rfl rfl]
    simp -implicitDefEqProofs (disch:=omega) only [Rx,simprocAttr,F75,hl,hbs,hd,hm,hk,hlu,hnd,hud,hp,iAVe,Option.getD_some]
  by_cases h15:0≤upOf S (c:Int)
  · rw [if_pos h15]
    exact ⟨I,g,run 15 g (g2m hD hI hS huL hcL h15 _ n),hD,hI,GFr.refl _ _⟩
  rw [if_neg h15]
  have h15':(S.st c).up<0:=by
    have:upOf S (c:Int)=(S.st c).up:=rfl
    omega
  cases h17:b2e S (u:Int) (c:Int) with
  | true =>
    rw [if_pos rfl]
    exact ⟨I,g,run 17 g (d7z hS hD hI huL hcL h15' h17 _ hn),hD,hI,GFr.refl _ _⟩
  | false=>
  rw [if_neg (by decide)]
  have huc:u≠c:=fun e=>by
    subst e
    rw [b1d.2 .here] at h17;cases h17
  by_cases h18:b≠0∧upOf S b≠(u:Int)
  · rw [if_pos h18]
    obtain ⟨d,rfl,hdL⟩:=b3u hb
    have e:befO (d:Int)=some d:=by unfold befO;rw [if_neg h18.1];simp
    rw [e] at run
    exact ⟨I,g,run 18 g (g6l hS hD hI huL hcL h15' h17 hdL h18.2 hn),hD,hI,GFr.refl _ _⟩
  rw [if_neg h18]
  have hbb:b=0∨∃ d:Nat,b=(d:Int)∧d ∈ b0h S∧d≠0∧(S.st d).up=(u:Int):=by
    by_cases e:b=0
    · exact .inl e
    · obtain ⟨d,rfl,hdL⟩:=b3u hb
      refine .inr ⟨d,rfl,hdL,by omega, ?_⟩
      have:¬ upOf S (d:Int)≠(u:Int):=fun h=>h18 ⟨e,h⟩
      simpa [upOf] using this
  obtain ⟨p1,p2,p3⟩:=placed hS hI huL hcL huc h15' hbb
  obtain ⟨g',hp,hD',hF⟩:=d0i hS hD hI huL hcL h15' h17 (befO b) p1 p2 hn
  refine ⟨_,g',run 0 g' hp, ?_,p3, ?_⟩
  · have:=hD'.placed c u b
    exact this
  · rw [b9d];exact hF
theorem h6c (hS : S.Ok R) (hI : b1n S I) (hD : b1o (b0h S) S.st nx it nd I pd pm g) (id b : Int) {n : Nat} (hn : R + 3 < n) :
    ∃ I' g',b0g T (n+3) 106 [DocP pd,.p (.int .i64 id),.p (.int .i64 b)] g=some (.p (.int .i64 (c3l S id b).1),g')∧b1o (b0h (c3l S id b).2) (c3l S id b).2.st nx it nd I' pd pm g'∧b1n (c3l S id b).2 I'∧GFr g (b2q (b0h S) it nd pd pm) g' (b2q (b0h (c3l S id b).2) it nd pd pm):=by
  have hl:=b9c hD id (n+1)
  unfold d2r at hl
  unfold c3l
  by_cases hf:fitE S id≠0
  · rw [if_pos hf]
    rw [if_neg hf] at hl
    have e1:(fitE S id==0)=false:=by simpa using hf
    refine ⟨I,g, ?_,hD,hI,GFr.refl _ _⟩
    rw [b0a T106,b0e rfl rfl]
    generalize fitE S id=e at hl e1 ⊢
    simp -implicitDefEqProofs (disch:=omega) only [Rx,simprocAttr,F106,hl,e1]
  rw [if_neg hf]
  simp only [ne_eq,Decidable.not_not] at hf
  obtain ⟨c,rfl,hcL,hc0⟩:=b7o hf
  rw [if_pos hf,hf] at hl
  have hcN:=(b0j.1 hcL).1
  have hnd:=hD.nodes c hcL
  simp only [b8k] at hnd
  have hup:=g5i hD hcL (n+1)
  simp only [Int.toNat_natCast] at hl ⊢
  cases hb:b2b S b with
  | false =>
    have hbs:=d1j hS hD hb (n:=n)
    rw [if_pos rfl]
    refine ⟨I,g, ?_,hD,hI,GFr.refl _ _⟩
    rw [b0a T106,b0e rfl rfl]
    simp -implicitDefEqProofs (disch:=omega) only [Rx,simprocAttr,F106,hl,hbs,hnd,hup,iAVe]
  | true=>
  have hbs:=d6o hS hD hb (n:=n)
  rw [if_neg (by decide)]
  by_cases h16:upOf S (c:Int)<0
  · rw [if_pos h16]
    have hn0:(I c).u=none:=by rw [hI.up c hcL];exact b5b hS hcN h16
    rw [hn0] at hup
    refine ⟨I,g, ?_,hD,hI,GFr.refl _ _⟩
    rw [b0a T106,b0e rfl rfl]
    simp -implicitDefEqProofs (disch:=omega) only [Rx,simprocAttr,F106,hl,hbs,hnd,hup,iAVs,iAVe]
  rw [if_neg h16]
  obtain ⟨u, hcu, huN, hul, hcu'⟩ := hS.up_nat hcN (show 0 ≤ (S.st c).up by have : upOf S (c : Int) = (S.st c).up := rfl
                                                                            omega)
  have huL:u ∈ b0h S:=b0j.2 ⟨huN,hul⟩
  obtain ⟨q1,q2,q3,q4,q5,q6⟩:=g8l hS hI hcL hcu
  have hou:upOf S (c:Int)=(u:Int):=hcu
  rw [hou]
  rw [q1] at hup
  have ou:=hD.one huL [] []
  have oc:=hD.one hcL [] []
  simp only [St.one,St.obj,if_true] at ou oc
  by_cases h18:b=(c:Int)∨(b≠0∧upOf S b≠(u:Int))
  · rw [if_pos h18]
    have hb0:b≠0:=by rcases h18 with h | h <;> omega
    obtain ⟨d,rfl,hdL⟩:=b3u hb
    have e:befO (d:Int)=some d:=by unfold befO;rw [if_neg hb0];simp
    rw [e] at hbs
    have od:=hD.one hdL [] []
    simp only [St.one,St.obj,if_true] at od
    refine ⟨I,g, ?_,hD,hI,GFr.refl _ _⟩
    rw [b0a T106,b0e rfl rfl]
    by_cases hdc:d=c
    · subst hdc
      simp -implicitDefEqProofs (disch:=omega) only [Rx,simprocAttr,F106,hl,hbs,hnd,hup,oc,iAVs]
    · have hne:(it d==it c)=false:=by
        simp only [beq_eq_false_iff_ne,ne_eq]
        exact fun e2=>hdc (hD.itInj d hdL c hcL e2)
      have hdu:=g5i hD hdL (n+1)
      have hdu2:(S.st d).up≠(u:Int):=by
        rcases h18 with h | h
        · omega
        · exact h.2
      have hdN:=(b0j.1 hdL).1
      rw [hI.up d hdL] at hdu
      rcases hS.up d hdN with h1 | ⟨p,h1,h2,h3,_⟩
      · rw [b5b hS hdN (by omega)] at hdu
        simp -implicitDefEqProofs (disch:=omega) only [Rx,simprocAttr,F106,hl,hbs,hnd,hup,oc,od,hne,hdu,iAVs]
      · rw [b5a hS hdN h2] at hdu
        have hpL:p ∈ b0h S:=b0j.2 ⟨h1,h3⟩
        have op:=hD.one hpL [] []
        simp only [St.one,St.obj,if_true] at op
        have hne2:(it p==it u)=false:=by
          simp only [beq_eq_false_iff_ne,ne_eq]
          intro e2
          have:=hD.itInj p hpL u huL e2
          subst this
          exact hdu2 h2
        simp -implicitDefEqProofs (disch:=omega) only [Rx,simprocAttr,F106,hl,hbs,hnd,hup,ou,oc,od,op,hne,hne2,hdu,iAVs]
  rw [if_neg h18]
  obtain ⟨g1,hdr,hD1,hF1⟩:=d6a hD hcL q1 q2 q3 q4 q5 (n+1)
  obtain ⟨hT,hTu⟩:=hS.take hcN (b0j.1 hcL).2
  have hD1':=hD1.taken c
  have hLT:=c1a S c
  have huT:u ∈ b0h (b1h S c):=by rw [hLT];exact huL
  have hcT:c ∈ b0h (b1h S c):=by rw [hLT];exact hcL
  have hst:∀ k,k≠c→((b1h S c).st k).up=(S.st k).up:=fun k hk=>by
    unfold b1h
    split
    · rfl
    · simp only;rw [b0i hk]
  have h17:b2e (b1h S c) (u:Int) (c:Int)=false:=by
    cases hun:b2e (b1h S c) (u:Int) (c:Int) with
    | false=>rfl
    | true =>
      exfalso
      obtain ⟨r,_,hr⟩:=hS.rank
      have hr':∀ k p:Nat,k<(b1h S c).N→((b1h S c).st k).up=(p:Int)→r p<r k:=fun k p hk hkp=>by
        by_cases e:k=c
        · subst e;omega
        · rw [hst k e] at hkp
          exact hr k p (by rw [b4r] at hk;exact hk) hkp
      have h1:=b8s hT hr' (b1d.1 hun) u rfl (by rw [b4r];exact huN)
      have h2:=hr c u hcN hcu
      omega
  have hbb:b=0∨∃ d:Nat,b=(d:Int)∧d ∈ b0h (b1h S c)∧d≠0∧((b1h S c).st d).up=(u:Int):=by
    by_cases e:b=0
    · exact .inl e
    · obtain ⟨d,rfl,hdL⟩:=b3u hb
      have hdc:d≠c:=fun e2=>h18 (.inl (by rw [e2]))
      refine .inr ⟨d,rfl,by rw [hLT];exact hdL,by omega, ?_⟩
      rw [hst d hdc]
      have:¬ upOf S (d:Int)≠(u:Int):=fun h=>h18 (.inr ⟨e,h⟩)
      simpa [upOf] using this
  obtain ⟨p1,p2,p3⟩:=placed hT q6 huT hcT q3 (by rw [hTu];omega) hbb
  obtain ⟨g2,hp,hD2,hF2⟩:=d0i hT hD1' q6 huT hcT (by rw [hTu];omega) h17 (befO b) p1 p2 hn
  have hnd1:=hD1.nodes c hcL
  simp only [b8k] at hnd1
  simp only [Int.toNat_natCast]
  refine ⟨_,g2, ?_,hD2.placed c u b,p3, ?_⟩
  · rw [b0a T106,b0e rfl rfl]
    by_cases e:b=0
    · have e2:befO b=none:=by unfold befO;rw [if_pos e]
      rw [e2] at hbs hp
      simp only [iAV] at hbs hp
      simp -implicitDefEqProofs (disch:=omega) only [Rx,simprocAttr,F106,hl,hbs,hnd,hnd1,hup,hdr,hp,iAVs]
    · obtain ⟨d,rfl,hdL⟩:=b3u hb
      have e2:befO (d:Int)=some d:=by unfold befO;rw [if_neg e];simp
      rw [e2] at hbs hp
      simp only [iAV] at hbs hp
      have od:=hD.one hdL [] []
      simp only [St.one,St.obj,if_true] at od
      have hdc:d≠c:=fun e2=>h18 (.inl (by rw [e2]))
      have hne:(it d==it c)=false:=by
        simp only [beq_eq_false_iff_ne,ne_eq]
        exact fun e2=>hdc (hD.itInj d hdL c hcL e2)
      have hdu:=g5i hD hdL (n+1)
      have hdu2:(S.st d).up=(u:Int):=by
        have:¬ upOf S (d:Int)≠(u:Int):=fun h=>h18 (.inr ⟨e,h⟩)
        simpa [upOf] using this
      rw [hI.up d hdL,b5a hS (b0j.1 hdL).1 hdu2] at hdu
      simp -implicitDefEqProofs (disch:=omega) only [Rx,simprocAttr,F106,hl,hbs,hnd,hnd1,hup,hdr,hp,ou,oc,od,hne,hdu,iAVs]
  · rw [b9d,hLT]
    rw [hLT] at hF2
    exact hF1.trans hF2
end
end Tryz
end Go.TA


end
section
/- A document is made, and a node of it; the links of a node. -/
namespace Go.TA
namespace Tryz
section
variable {R:Nat} {S:MS} {nx:Int} {it nd:Nat→Nat} {I:Nat→LK} {pd pm:Nat} {g:List AObj}
theorem h7f (hS:S.Ok R) (hI:b1n S I) (hD:b1o (b0h S) S.st S.N it nd I pd pm g) (x:GOp) (hx:x.attrs.length≤1048577) {n:Nat} (hn:x.attrs.length<n) :
    ∃ it' nd' I' g', b0g T (n + 39) 74 [DocP pd, .p (.str x.tag), .p (.str x.key), .p (.str x.text), .p (.list (x.attrs.map Attr.pv))] g = some (if b0v S.N x = 0 then .tuple [.p (.int .i64 S.N), .p (.int .i64 0)] else .tuple [.p (.int .i64 0), .p (.int .i64 (b0v S.N x))], g')
      ∧ b1o (b0h (if b0v S.N x=0 then S.create x else S)) (if b0v S.N x=0 then S.create x else S).st (if b0v S.N x=0 then S.create x else S).N it' nd' I' pd pm g'∧b1n (if b0v S.N x=0 then S.create x else S) I'∧GFr g (b2q (b0h S) it nd pd pm) g' (b2q (b0h (if b0v S.N x=0 then S.create x else S)) it' nd' pd pm):=by
  have htg:=c4m x.tag [] (n+2)
  have hfk:=b4i x.key [] (n+37)
  have hft:=b4i x.text [] (n+37)
  have hat:=g9p x.attrs [] (n:=n+1) (by omega)
  have bad:∀ e:Int,b0v S.N x=e→e≠0→b0g T (n+39) 74 [DocP pd,.p (.str x.tag),.p (.str x.key),.p (.str x.text),.p (.list (x.attrs.map Attr.pv))] g=some (.tuple [.p (.int .i64 0),.p (.int .i64 e)],g) →
      ∃ it' nd' I' g',b0g T (n+39) 74 [DocP pd,.p (.str x.tag),.p (.str x.key),.p (.str x.text),.p (.list (x.attrs.map Attr.pv))] g=some (if b0v S.N x=0 then .tuple [.p (.int .i64 S.N),.p (.int .i64 0)] else .tuple [.p (.int .i64 0),.p (.int .i64 (b0v S.N x))],g')
      ∧ b1o (b0h (if b0v S.N x=0 then S.create x else S)) (if b0v S.N x=0 then S.create x else S).st (if b0v S.N x=0 then S.create x else S).N it' nd' I' pd pm g'∧b1n (if b0v S.N x=0 then S.create x else S) I'∧GFr g (b2q (b0h S) it nd pd pm) g' (b2q (b0h (if b0v S.N x=0 then S.create x else S)) it' nd' pd pm):=fun e he hne hr=>by
    rw [he,if_neg hne,if_neg hne]
    exact ⟨it,nd,I,g,hr,hD,hI,GFr.refl _ _⟩
  by_cases h7:b1z false x.tag=false
  · refine bad 7 (by simp [b0v,h7]) (by decide) ?_
    rw [h7] at htg
    rw [b0a T74,b0e rfl rfl]
    simp -implicitDefEqProofs (disch:=omega) only [Rx,simprocAttr,F74,htg]
  simp only [Bool.not_eq_false] at h7
  rw [h7] at htg
  by_cases h3:65536<(x.key.length:Int)
  · refine bad 3 (by simp only [b0v,h7,Bool.true_eq_false,if_false,if_pos (Or.inl h3:65536<(x.key.length:Int)∨65536<(x.text.length:Int))]) (by decide) ?_
    have k3:decide ((x.key.length:Int)≤65536)=false:=by simp;omega
    rw [k3] at hfk
    rw [b0a T74,b0e rfl rfl]
    simp -implicitDefEqProofs (disch:=omega) only [Rx,simprocAttr,F74,htg,hfk]
  have k3:decide ((x.key.length:Int)≤65536)=true:=by simp;omega
  rw [k3] at hfk
  by_cases h4:65536<(x.text.length:Int)
  · refine bad 3 (by simp only [b0v,h7,Bool.true_eq_false,if_false,if_pos (Or.inr h4:65536<(x.key.length:Int)∨65536<(x.text.length:Int))]) (by decide) ?_
    have k4:decide ((x.text.length:Int)≤65536)=false:=by simp;omega
    rw [k4] at hft
    rw [b0a T74,b0e rfl rfl]
    simp -implicitDefEqProofs (disch:=omega) only [Rx,simprocAttr,F74,htg,hfk,hft]
  have k4:decide ((x.text.length:Int)≤65536)=true:=by simp;omega
  rw [k4] at hft
  have h34:¬ (65536<(x.key.length:Int)∨65536<(x.text.length:Int)):=fun h=>h.elim h3 h4
  by_cases h5:b2a x.attrs≠0
  · refine bad (b2a x.attrs) (by simp only [b0v,h7,Bool.true_eq_false,if_false,if_neg h34,if_pos h5]) h5 ?_
    have k5:(b2a x.attrs==0)=false:=by simpa using h5
    generalize b2a x.attrs=e at hat k5 ⊢
    rw [b0a T74,b0e rfl rfl]
    simp -implicitDefEqProofs (disch:=omega) only [Rx,simprocAttr,F74,htg,hfk,hft,hat,k5]
  simp only [ne_eq,Decidable.not_not] at h5
  rw [h5] at hat
  generalize (b0z [] 0 x.attrs).1=ez at hat
  have hd:=hD.doc
  by_cases h6:4294967295<(S.N:Int)
  · refine bad 21 (by simp only [b0v,h7,Bool.true_eq_false,if_false,if_neg h34,h5,ne_eq,not_true_eq_false,if_pos h6]) (by decide) ?_
    have k6:(S.N:Int) > 4294967295:=h6
    rw [b0a T74,b0e rfl rfl]
    simp -implicitDefEqProofs (disch:=omega) only [Rx,simprocAttr,F74,htg,hfk,hft,hat,hd,k6]
  have k6:¬ (S.N:Int) > 4294967295:=h6
  have hz:b0v S.N x=0:=by simp only [b0v,h7,Bool.true_eq_false,if_false,if_neg h34,h5,ne_eq,not_true_eq_false,if_neg h6]
  rw [hz,if_pos rfl,if_pos rfl]
  have hNL:S.N ∉ b0h S:=fun h=>by have:=(b0j.1 h).1;omega
  obtain ⟨hP,hF⟩:=hD.push hNL (fun c hc=>hI.tar hS hc) ⟨true, -1,x.tag,x.key,x.text,x.attrs⟩ ((S.N:Int)+1)
  refine ⟨_,_,upd I S.N ⟨none,none,none,none,none⟩,c4u (b0h S) nd pd pm S.N ⟨true, -1,x.tag,x.key,x.text,x.attrs⟩ ((S.N:Int)+1) g, ?_,by rw [c5r];exact hP,hI.create hS x,by rw [c5r];exact hF⟩
  have hcl:=b4j x.attrs hx [] (n+37)
  simp only [List.length_nil,List.nil_append] at hcl
  have hpd:=(List.getElem?_eq_some_iff.1 hD.doc).1
  have hpm:=(List.getElem?_eq_some_iff.1 hD.map).1
  have hm:=hD.map
  have hk:=b8l (b0h S) nd (S.N:Int)
  have hmk:=fun g=>g0p (S.N:Int) g (n+37)
  unfold c4u
  generalize hG:g.set pd (.cells 2 [[.map true pm,.p (.int .i64 ((S.N:Int)+1))]])=G
  have hGl:G.length=g.length:=by rw [← hG];simp
  have d1:G[pd]? = some (.cells 2 [[.map true pm,.p (.int .i64 ((S.N:Int)+1))]]):=by rw [← hG,List.getElem?_set,if_pos rfl,if_pos hpd]
  have d2:∀ X,(G++[X])[pd]? = some (.cells 2 [[.map true pm,.p (.int .i64 ((S.N:Int)+1))]]):=fun X=>by rw [List.getElem?_append_left (by omega)];exact d1
  have d3:∀ X Y,(G++[X]++[Y])[pd]? = some (.cells 2 [[.map true pm,.p (.int .i64 ((S.N:Int)+1))]]):=fun X Y=>by rw [List.getElem?_append_left (by simp;omega)];exact d2 X
  have m3:∀ X Y,(G++[X]++[Y])[pm]? = some (.map (mapD (b0h S) nd)):=fun X Y=>by
    rw [List.getElem?_append_left (by simp;omega),List.getElem?_append_left (by omega), ← hG,List.getElem?_set,if_neg hD.pp];exact hm
  have gl:∀ X,(G++[X]).length=g.length+1:=fun X=>by simp [hGl]
  have hput:=g7e (nd:=nd) hNL (g.length+1)
  rw [b0a T74,b0e rfl rfl]
  simp -implicitDefEqProofs (disch:=omega) only [Rx,simprocAttr,F74,htg,hfk,hft,hat,hd,k6,hG,hGl,d1,d2,d3,m3,gl,hk,hmk,hcl,hput,Option.isSome_some]
end
end Tryz
def docS (N:Nat):MS:=⟨N,fun h=>if h=0 then b6i else c3x,fun _=>[]⟩
theorem d0r (N:Nat):b0h (docS (N+1))=[0]:=by
 unfold b0h
 simp only [docS]
 rw [List.range_succ_eq_map,List.filter_cons,if_pos (by simp [b6i]),List.filter_eq_nil_iff.2]
 intro a ha
 obtain ⟨b,_,rfl⟩:=List.mem_map.1 ha
 simp [c3x]
theorem h6z (N:Nat):(docS (N+1)).Ok 0 where
 pos:=by simp [docS]
 top:=by simp [docS,b6i]
 kids p hp k hk:=by simp [docS] at hk
 up c hc:=by
  left
  simp only [docS]
  split <;> rfl
 dead h hh hl:=by
  simp only [docS] at hl ⊢
  split
  ·rename_i e;rw [if_pos e] at hl;simp [b6i] at hl
  ·simp [c3x]
 nodup p hp:=by simp [docS]
 rank:=⟨fun _=>0,by simp,fun c p hc h=>by
  simp only [docS] at h
  split at h
  ·simp only [b6i] at h;omega
  ·simp only [c3x] at h;omega⟩
 attrs h hh:=by
  simp only [docS]
  split <;> simp [b6i,c3x]
theorem g8v (N:Nat):b1n (docS (N+1)) (fun _=>⟨none,none,none,none,none⟩):=by
 refine ⟨fun c hc => ?_,fun c hc => ?_,fun c hc h=>⟨rfl,rfl⟩⟩
 ·rw [d0r] at hc
  simp at hc;subst hc
  simp [upN,docS,b6i]
 ·have:b0s (docS (N+1)) c=[]:=by simp [b0s,docS]
  rw [this];exact b7v.nil _ _
namespace Tryz
theorem g3v (N:Nat) (hN:(N:Int)+1≤4294967296) (g:List AObj) (n:Nat) :
  ∃ it nd pd pm g',b0g T (n+2) 26 [.p (.int .i64 (((N+1:Nat):Int)))] g=some (DocP pd,g')∧b1o (b0h (docS (N+1))) (docS (N+1)).st ((N+1:Nat):Int) it nd (fun _=>⟨none,none,none,none,none⟩) pd pm g'∧GFr g (fun _=>False) g' (b2q (b0h (docS (N+1))) it nd pd pm):=by
 have h1:¬ ((N+1:Nat):Int)<1:=by omega
 have h2:¬ ((N+1:Nat):Int) > 4294967296:=by omega
 have hmk:=fun g=>g0p 0 g n
 rw [d0r]
 refine ⟨fun _=>g.length+1,fun _=>g.length+1+1,g.length+1+1+1,g.length,g++[.map [(.int .i64 0,.ptr true (g.length+1+1) 5 1 0 0)]]++[.pcells 6 [[.int .i64 0,.nilp,.nilp,.nilp,.nilp,.nilp]]]++[.cells 5 [[.ptr true (g.length+1) 6 1 0 0,.p (.str []),.p (.str []),.p (.str []),.p (.list [])]]]++[.cells 2 [[.map true g.length,.p (.int .i64 ((N+1:Nat):Int))]]], ?_,⟨?_, ?_,fun c hc => ?_,fun c hc => ?_,fun c hc d hd e => ?_,fun c hc d hd e => ?_,fun c hc d hd=>by omega,fun c hc=>by omega,fun c hc=>by omega,by omega⟩,⟨by simp,fun j hj _ => ?_,fun j hO hj => ?_⟩⟩
 ·generalize ((N+1:Nat):Int)=next at h1 h2 ⊢
  have e1:∀ X,(g++[X]).length=g.length+1:=fun X=>by simp
  have e2:∀ X Y,(g++[X]++[Y]).length=g.length+1+1:=fun X Y=>by simp
  have e3:∀ X Y Z,(g++[X]++[Y]++[Z]).length=g.length+1+1+1:=fun X Y Z=>by simp
  have e4:∀ X Y Z:AObj,(g++[X]++[Y]++[Z])[g.length]? = some X:=fun X Y Z=>by rw [List.getElem?_append_left (by simp),List.getElem?_append_left (by simp)];simp
  have e5:∀ X X' Y Z:AObj,(g++[X]++[Y]++[Z]).set g.length X'=g++[X']++[Y]++[Z]:=fun X X' Y Z=>by simp [List.set_append]
  have e6:∀ k x,mput 1 [] k x=[(k,x)]:=fun _ _=>rfl
  rw [b0a T26,b0e rfl rfl]
  simp -implicitDefEqProofs (disch:=omega) only [Rx,simprocAttr,F26,h1,h2,hmk,e1,e2,e3,e4,e5,e6,Option.isSome_some]
 ·rw [List.getElem?_append_right (by simp)];simp
 ·simp [mapD]
 ·simp at hc;subst hc
  rw [List.getElem?_append_left (by simp),List.getElem?_append_right (by simp)]
  simp [b8k,docS,b6i]
 ·simp at hc;subst hc
  exact ⟨.pcells 6 [[.int .i64 0,.nilp,.nilp,.nilp,.nilp,.nilp]],by
   rw [List.getElem?_append_left (by simp),List.getElem?_append_left (by simp),List.getElem?_append_right (by simp)]
   simp,.inr ⟨_,rfl,by simp [c3p,iAV]⟩⟩
 ·simp at hc hd;omega
 ·simp at hc hd;omega
 ·rw [List.getElem?_append_left (by simp;omega),List.getElem?_append_left (by simp;omega),List.getElem?_append_left (by simp;omega),List.getElem?_append_left hj]
 ·rcases hO with rfl | rfl | ⟨c,hc,rfl | rfl⟩ <;> first | omega | (simp only at hj;omega)
end Tryz
end Go.TA


end
section
/- A document: a node ends, and all below it. -/
namespace Go.TA
theorem h0t {α : Type} {l:List α} {k:Nat} {a : α} (h:l[k]? = some a):l.set k a=l:=by
 apply List.ext_getElem?
 intro j
 rw [List.getElem?_set]
 split
 ·rename_i e;subst e
  rw [if_pos (List.getElem?_eq_some_iff.1 h).1,h]
 ·rfl
noncomputable def c1n (S:MS) (h:Nat) (L:List Nat):List Nat:=L.filter fun y:Nat => !(b2e S (y:Int) (h:Int))
theorem b1o.less {L:List Nat} {st:Nat→b3o} {nx:Int} {it nd:Nat→Nat} {I:Nat→LK} {pd pm:Nat} {g:List AObj} (h:b1o L st nx it nd I pd pm g) {L':List Nat} (hL:∀ k ∈ L',k ∈ L):b1o L' st nx it nd I pd pm (g.set pm (.map (mapD L' nd))) where
 doc:=by rw [List.getElem?_set,if_neg (fun e=>h.pp e.symm)];exact h.doc
 map:=by rw [List.getElem?_set,if_pos rfl,if_pos (List.getElem?_eq_some_iff.1 h.map).1]
 nodes c hc:=by rw [List.getElem?_set,if_neg (fun e=>(h.ndP c (hL c hc)).2 e.symm)];exact h.nodes c (hL c hc)
 items c hc:=by
  obtain ⟨o,ho,hr⟩:=h.items c (hL c hc)
  exact ⟨o,by rw [List.getElem?_set,if_neg (fun e=>(h.itP c (hL c hc)).2 e.symm)];exact ho,hr⟩
 itInj c hc d hd:=h.itInj c (hL c hc) d (hL d hd)
 ndInj c hc d hd:=h.ndInj c (hL c hc) d (hL d hd)
 itNd c hc d hd:=h.itNd c (hL c hc) d (hL d hd)
 itP c hc:=h.itP c (hL c hc)
 ndP c hc:=h.ndP c (hL c hc)
 pp:=h.pp
noncomputable def b9v (S:MS) (h:Nat) (L:List Nat) (i:Nat):List Nat:=((b0s S h).take i).foldl (fun L k=>c1n S k L) (L.filter fun y => !(y==h))
theorem g2h {S:MS} {h:Nat} {L:List Nat} {i k:Nat} (hk:(b0s S h)[i]? = some k):b9v S h L (i+1)=c1n S k (b9v S h L i):=by
 unfold b9v
 rw [List.take_add_one,hk,List.foldl_append];rfl
theorem d5b {S:MS} {h y:Nat} {L:List Nat}:y ∈ c1n S h L↔y ∈ L∧¬ Below S (h:Int) (y:Int):=by
 unfold c1n
 rw [List.mem_filter]
 constructor
 ·rintro ⟨h1,h2⟩
  refine ⟨h1,fun hb => ?_⟩
  rw [b1d.2 hb] at h2;simp at h2
 ·rintro ⟨h1,h2⟩
  refine ⟨h1, ?_⟩
  cases hu:b2e S (y:Int) (h:Int) with
  | false=>rfl
  | true=>exact absurd (b1d.1 hu) h2
theorem g8a (S : MS) (L : List Nat) : ∀ (l : List Nat) (p0 : Nat → Bool), ∃ p : Nat → Bool, l.foldl (fun L k => c1n S k L) (L.filter p0) = L.filter p ∧ ∀ y, p y = true ↔ (p0 y = true ∧ ∀ k ∈ l, ¬ Below S (k : Int) (y : Int)) := by
  intro l
  induction l with
  | nil=>exact fun p0=>⟨p0,rfl,fun y=>by simp⟩
  | cons k l ih =>
    intro p0
    obtain ⟨p,h1,h2⟩:=ih (fun y => !(b2e S (y:Int) (k:Int)) && p0 y)
    refine ⟨p, ?_,fun y => ?_⟩
    · rw [List.foldl_cons, ← h1]
      simp [c1n,List.filter_filter]
    · rw [h2,Bool.and_eq_true]
      have:(!(b2e S (y:Int) (k:Int)))=true↔¬ Below S (k:Int) (y:Int):=by
        rw [← b1d];simp
      rw [this]
      constructor
      · rintro ⟨⟨a,b⟩,c⟩
        refine ⟨b,fun k' hk' => ?_⟩
        rcases List.mem_cons.1 hk' with h3 | h3
        · subst h3;exact a
        · exact c k' h3
      · rintro ⟨a,b⟩
        exact ⟨⟨b k (by simp),a⟩,fun k' hk'=>b k' (by simp [hk'])⟩
theorem c7k (S:MS) (h:Nat) (L:List Nat) (l:List Nat):∃ p:Nat→Bool,l.foldl (fun L k=>c1n S k L) (L.filter fun y => !(y==h))=L.filter p∧∀ y,p y=true↔(y≠h∧∀ k ∈ l,¬ Below S (k:Int) (y:Int)):=by
 obtain ⟨p,h1,h2⟩:=g8a S L l (fun y => !(y==h))
 exact ⟨p,h1,fun y=>by rw [h2];simp⟩
theorem g6e {R:Nat} {S:MS} (hS:S.Ok R) {h:Nat} (hh:h<S.N) {L:List Nat} (hL:∀ y ∈ L,y<S.N):b9v S h L (b0s S h).length=c1n S h L:=by
  obtain ⟨p,h1,h2⟩:=c7k S h L (b0s S h)
  unfold b9v
  rw [List.take_length,h1]
  unfold c1n
  refine List.filter_congr fun y hy => ?_
  have hb:p y=true↔¬ Below S (h:Int) (y:Int):=by
    rw [h2]
    constructor
    · rintro ⟨a,b⟩ hb
      obtain ⟨k,hk,hb'⟩:=c9b hS hb y rfl (hL y hy) a
      obtain ⟨c,rfl,_⟩:=hS.kids h hh k hk
      exact b c ((c0g hS hh).2 hk) hb'
    · intro hb
      refine ⟨fun e=>by subst e;exact hb .here,fun k hk hb'=>hb ?_⟩
      exact b8m hS hh ((c0g hS hh).1 hk) hb'
  cases hu:b2e S (y:Int) (h:Int) with
  | false =>
    have:¬ Below S (h:Int) (y:Int):=fun b=>by rw [b1d.2 b] at hu;cases hu
    rw [hb.2 this];rfl
  | true =>
    cases hp:p y with
    | false=>rfl
    | true=>exact absurd (b1d.1 hu) (hb.1 hp)
theorem d7r {S:MS} {h:Nat} {L:List Nat} (hn:L.Nodup) (i:Nat):(b9v S h L i).Nodup:=by
 obtain ⟨p,h1,_⟩:=c7k S h L ((b0s S h).take i)
 unfold b9v
 rw [h1];exact hn.filter _
theorem g6d {S:MS} {h y:Nat} {L:List Nat} {i:Nat} (hy:y ∈ b9v S h L i):y ∈ L:=by
 obtain ⟨p,h1,_⟩:=c7k S h L ((b0s S h).take i)
 unfold b9v at hy
 rw [h1] at hy
 exact (List.mem_filter.1 hy).1
namespace Tryz
section
variable {L:List Nat} {it:Nat→Nat} {I:Nat→LK} {g:List AObj}
theorem h6e (hI:d6v L it I g) {c:Nat} (hc:c ∈ L) (n:Nat):b0g T (n+1) 85 [IP it c] g=some (.p (.int .i64 c),g):=by
 obtain ⟨o,ho,hr⟩:=hI c hc
 obtain ⟨r0,r1,r2,r3,r4,r5⟩:=b9e hr
 rw [b0a T85,b0e rfl rfl]
 simp -implicitDefEqProofs (disch:=omega) only [Rx,simprocAttr,F85,ho,r0]
theorem h2s (hI:d6v L it I g) {c:Nat} (hc:c ∈ L) (n:Nat):b0g T (n+1) 83 [IP it c] g=some (iAV it (I c).f,g):=by
 obtain ⟨o,ho,hr⟩:=hI c hc
 obtain ⟨r0,r1,r2,r3,r4,r5⟩:=b9e hr
 rw [b0a T83,b0e rfl rfl]
 simp -implicitDefEqProofs (disch:=omega) only [Rx,simprocAttr,F83,ho,r2,iAVe]
theorem h6a (hI:d6v L it I g) {c:Nat} (hc:c ∈ L) (n:Nat):b0g T (n+1) 84 [IP it c] g=some (iAV it (I c).n,g):=by
 obtain ⟨o,ho,hr⟩:=hI c hc
 obtain ⟨r0,r1,r2,r3,r4,r5⟩:=b9e hr
 rw [b0a T84,b0e rfl rfl]
 simp -implicitDefEqProofs (disch:=omega) only [Rx,simprocAttr,F84,ho,r5,iAVe]
end
abbrev BP (k:Nat):AV:=.ptr true k 1 1 0 0
section
variable {R:Nat} {S:MS} {nx:Int} {it nd:Nat→Nat} {I:Nat→LK} {pd pm bd bf:Nat} {g:List AObj}
def midG (g:List AObj) (pm:Nat) (nd:Nat→Nat) (L:List Nat):List AObj:=g.set pm (.map (mapD L nd))
structure Mid (S:MS) (nx:Int) (it nd:Nat→Nat) (I:Nat→LK) (pd pm bd bf:Nat) (g:List AObj):Prop where
 at':b1o (b0h S) S.st nx it nd I pd pm g
 obd:g[bd]? = some (.cells 1 [[DocP pd]])
 obf:g[bf]? = some (.cells 1 [[.func 164 [BP bd,BP bf]]])
 bdp:bd≠pm
 bfp:bf≠pm
theorem d5z (hS : S.Ok R) (hI : b1n S I) (hM : Mid S nx it nd I pd pm bd bf g) (n : Nat) (hn : (b0h S).length + 1 < n) (h : Nat) (hh : h ∈ b0h S) (L : List Nat) (hLn : L.Nodup) (hLs : ∀ y ∈ L, y < S.N)
    (ih:∀ c:Nat,c ∈ b0h S→(S.st c).up=(h:Int)→∀ L:List Nat,L.Nodup→(∀ y ∈ L,y<S.N)→b0g T n 164 [IP it c,BP bd,BP bf] (midG g pm nd L)=some (.tuple [],midG g pm nd (c1n S c L))) :
    b0g T (n+1) 164 [IP it h,BP bd,BP bf] (midG g pm nd L)=some (.tuple [],midG g pm nd (c1n S h L)):=by
  have hhN:=(b0j.1 hh).1
  have hD:=hM.at'
  have hpm:=(List.getElem?_eq_some_iff.1 hD.map).1
  have gd:∀ L,(midG g pm nd L)[pd]? = some (.cells 2 [[.map true pm,.p (.int .i64 nx)]]):=fun L=>by
    unfold midG;rw [List.getElem?_set,if_neg (fun e=>hD.pp e.symm)];exact hD.doc
  have gbd:∀ L,(midG g pm nd L)[bd]? = some (.cells 1 [[DocP pd]]):=fun L=>by
    unfold midG;rw [List.getElem?_set,if_neg (fun e=>hM.bdp e.symm)];exact hM.obd
  have gbf:∀ L,(midG g pm nd L)[bf]? = some (.cells 1 [[.func 164 [BP bd,BP bf]]]):=fun L=>by
    unfold midG;rw [List.getElem?_set,if_neg (fun e=>hM.bfp e.symm)];exact hM.obf
  have gm:∀ L,(midG g pm nd L)[pm]? = some (.map (mapD L nd)):=fun L=>by
    unfold midG;rw [List.getElem?_set,if_pos rfl,if_pos hpm]
  have gs:∀ L L',(midG g pm nd L).set pm (.map (mapD L' nd))=midG g pm nd L':=fun L L'=>by unfold midG;simp
  have gi:∀ L,d6v (b0h S) it I (midG g pm nd L):=fun L c hc=>by
    obtain ⟨o,ho,hr⟩:=hD.items c hc
    exact ⟨o,by unfold midG;rw [List.getElem?_set,if_neg (fun e=>(hD.itP c hc).2 e.symm)];exact ho,hr⟩
  have hl:=hI.kids h hh
  have hkl:(b0s S h).length<n:=by
    have h1:=h4r hS hhN
    have:(b0s S h).length=(S.kd h).length:=by simp [b0s]
    omega
  have hloop:b0r (b0g T n) n (.loop d7a) ⟨[(2,BP bf),(4,iAV it (b0s S h)[0]?)],[],midG g pm nd (b9v S h L 0)⟩=some (.exit 0,⟨[],[],midG g pm nd (c1n S h L)⟩):=by
    have key:=b2v (C:=b0g T n) (N:=n) (B:=d7a) (σ := Nat) (S:=fun i=>⟨[(2,BP bf),(4,iAV it (b0s S h)[i]?)],[],midG g pm nd (b9v S h L i)⟩)
      (I:=fun i=>i≤(b0s S h).length) (μ := fun i=>(b0s S h).length - i) (Q:=fun q=>q=(.exit 0,⟨[],[],midG g pm nd (c1n S h L)⟩)) ?_ 0 (by omega) (by omega)
    · obtain ⟨q,hq,rfl⟩:=key
      exact hq
    intro i hi
    by_cases hil:i<(b0s S h).length
    · left
      obtain ⟨k,hk⟩:=b0t hil
      obtain ⟨hkL,hku⟩:=b3f hS hhN (List.mem_of_getElem? hk)
      have ihk:=ih k hkL hku (b9v S h L i) (d7r hLn i) (fun y hy=>hLs y (g6d hy))
      rw [← g2h hk] at ihk
      have hnx:(I k).n=(b0s S h)[i+1]? := hl.next i k hk
      have hne:=h6a (gi (b9v S h L (i+1))) hkL (n - 1)
      rw [show n - 1+1=n by omega,hnx] at hne
      refine ⟨i+1, ?_,by omega,by omega⟩
      rw [hk]
      have g1:=gbf (b9v S h L i)
      generalize (b0s S h)[i+1]? = z at hne ⊢
      generalize midG g pm nd (b9v S h L i)=G1 at ihk g1 ⊢
      generalize midG g pm nd (b9v S h L (i+1))=G2 at ihk hne ⊢
      simp -implicitDefEqProofs (disch:=omega) only [Rx,simprocAttr,d7a,iAVs,iAVe,g1,ihk,hne]
    · right
      obtain rfl:i=(b0s S h).length:=by omega
      refine ⟨_, ?_, ?_,rfl⟩
      · rw [g6e hS hhN hLs,List.getElem?_eq_none_iff.2 (Nat.le_refl _)]
        simp -implicitDefEqProofs (disch:=omega) only [Rx,simprocAttr,d7a,iAVs]
      · simp
  have hfi:=h2s (gi (L.filter fun y => !(y==h))) hh (n - 1)
  have hma:=h6e (gi L) hh (n - 1)
  rw [show n - 1+1=n by omega] at hfi hma
  rw [hl.first] at hfi
  have e0:b9v S h L 0=L.filter fun y => !(y==h):=rfl
  rw [e0] at hloop
  have hk:=b8l L nd (h:Int)
  have hdel:=g7h hLn nd h
  have g1:=gd L
  have g2:=gbd L
  have g3:=gm L
  have g4:=gs L (L.filter fun y => !(y==h))
  rw [b0a T164,b0e rfl rfl]
  generalize (b0s S h)[0]? = z at hloop hfi
  generalize midG g pm nd L=G1 at g1 g2 g3 g4 hma ⊢
  generalize midG g pm nd (L.filter fun y => !(y==h))=G2 at g4 hfi hloop
  simp -implicitDefEqProofs (disch:=omega) only [Rx,simprocAttr,F164,iAVe,g1,g2,g3,g4,hk,hdel,hma,hfi,hloop]
theorem h2z (hS:S.Ok R) (hI:b1n S I) (hM:Mid S nx it nd I pd pm bd bf g) {r:Nat→Nat} (hr1:∀ c,c<S.N→r c≤R) (hr2:∀ c p:Nat,c<S.N→(S.st c).up=(p:Int)→r p<r c) (n:Nat) (hn:(b0h S).length+1<n) :
    ∀ (d h:Nat) (L:List Nat),h ∈ b0h S→R≤r h+d→L.Nodup→(∀ y ∈ L,y<S.N)→b0g T (n+d+1) 164 [IP it h,BP bd,BP bf] (midG g pm nd L)=some (.tuple [],midG g pm nd (c1n S h L)):=by
  intro d
  induction d with
  | zero =>
    intro h L hh hR hn1 hL
    exact d5z hS hI hM n hn h hh L hn1 hL (fun c hc hcu=>by
      have:=hr1 c (b0j.1 hc).1
      have:=hr2 c h (b0j.1 hc).1 hcu
      omega)
  | succ d ih =>
    intro h L hh hR hn1 hL
    exact d5z hS hI hM (n+d+1) (by omega) h hh L hn1 hL (fun c hc hcu L hn1 hL=>by
      have:=hr2 c h (b0j.1 hc).1 hcu
      exact ih c L hc (by omega) hn1 hL)
theorem h5l (hS:S.Ok R) (hI:b1n S I) (hD:b1o (b0h S) S.st nx it nd I pd pm g) (id:Int) {n:Nat} (hn:(b0h S).length+1<n) :
    ∃ I' g',b0g T (n+R+2) 107 [DocP pd,.p (.int .i64 id)] g=some (.p (.int .i64 (b5d S id).1),g')∧b1o (b0h (b5d S id).2) (b5d S id).2.st nx it nd I' pd pm g'∧b1n (b5d S id).2 I'∧GFr g (b2q (b0h S) it nd pd pm) g' (b2q (b0h (b5d S id).2) it nd pd pm):=by
  have hD0:=hD.more [AObj.cells 1 [[DocP pd]]]
  have gfr0:GFr g (b2q (b0h S) it nd pd pm) (g++[AObj.cells 1 [[DocP pd]]]) (b2q (b0h S) it nd pd pm):=⟨by simp,fun j hj _=>List.getElem?_append_left hj,fun j hj _=>hj⟩
  have hbd0:(g++[AObj.cells 1 [[DocP pd]]])[g.length]? = some (.cells 1 [[DocP pd]]):=by simp
  have hl:=b9c hD0 id (n+R)
  unfold d2r at hl
  unfold b5d
  by_cases hf:fitE S id≠0
  · rw [if_pos hf]
    rw [if_neg hf] at hl
    have e1:(fitE S id==0)=false:=by simpa using hf
    refine ⟨I,_, ?_,hD0,hI,gfr0⟩
    rw [b0a T107,b0e rfl rfl]
    generalize fitE S id=e at hl e1 ⊢
    generalize hG:g++[AObj.cells 1 [[DocP pd]]]=G at hl hbd0
    simp -implicitDefEqProofs (disch:=omega) only [Rx,simprocAttr,F107,hG,hl,e1,hbd0]
  rw [if_neg hf]
  simp only [ne_eq,Decidable.not_not] at hf
  obtain ⟨c,rfl,hcL,hc0⟩:=b7o hf
  rw [if_pos hf,hf] at hl
  simp only [Int.toNat_natCast] at hl ⊢
  have hcN:=(b0j.1 hcL).1
  have hdr:∃ e g1,b0g T (n+R+1) 163 [IP it c] (g++[AObj.cells 1 [[DocP pd]]])=some (.p (.int .i64 e),g1)∧∃ I1,b1o (b0h (b1h S c)) (b1h S c).st nx it nd I1 pd pm g1∧b1n (b1h S c) I1∧GFr (g++[AObj.cells 1 [[DocP pd]]]) (b2q (b0h S) it nd pd pm) g1 (b2q (b0h S) it nd pd pm):=by
    rcases hS.up c hcN with h1 | ⟨u,hu1,hu2,hu3,_⟩
    · have hn0:(I c).u=none:=by rw [hI.up c hcL];exact b5b hS hcN (by omega)
      have e:b1h S c=S:=by unfold b1h;rw [if_pos (by omega)]
      rw [e]
      exact ⟨16,_,g8m hD0 hcL hn0 (n+R),I,hD0,hI,GFr.refl _ _⟩
    · obtain ⟨q1,q2,q3,q4,q5,q6⟩:=g8l hS hI hcL hu2
      obtain ⟨g1,hd1,hD1,hF1⟩:=d6a hD0 hcL q1 q2 q3 q4 q5 (n+R)
      exact ⟨0,g1,hd1,_,hD1.taken c,q6,hF1⟩
  obtain ⟨e0,g1,hdr,I1,hD1,hI1,hF1⟩:=hdr
  obtain ⟨hT,hTu⟩:=hS.take hcN (b0j.1 hcL).2
  have hLT:=c1a S c
  have hbd1:g1[g.length]? = some (.cells 1 [[DocP pd]]):=by
    rw [hF1.keep g.length (by simp) (fun h=>by have:=hD.own_lt h;omega)];exact hbd0
  have hg1:g.length+1≤g1.length:=by have:=hF1.len;simpa using this
  have hcT:c ∈ b0h (b1h S c):=by rw [hLT];exact hcL
  have hX:=hD1.more [AObj.cells 1 [[.func 164 [BP g.length,BP g1.length]]]]
  have hMid:Mid (b1h S c) nx it nd I1 pd pm g.length g1.length (g1++[AObj.cells 1 [[.func 164 [BP g.length,BP g1.length]]]]):=by
    refine ⟨hX, ?_,by simp,fun e => ?_,fun e => ?_⟩
    · rw [List.getElem?_append_left (by omega)];exact hbd1
    · have:=hD.own_lt (j:=pm) (.inr (.inl rfl));omega
    · have:=hD1.own_lt (j:=pm) (.inr (.inl rfl));omega
  obtain ⟨r,hr1,hr2⟩:=hT.rank
  have hend:=h2z hT hI1 hMid hr1 hr2 n (by rw [hLT];exact hn) R c (b0h (b1h S c)) hcT (by omega) (d8h _) (fun y hy=>(b0j.1 hy).1)
  have hmid0:midG (g1++[AObj.cells 1 [[.func 164 [BP g.length,BP g1.length]]]]) pm nd (b0h (b1h S c))=g1++[AObj.cells 1 [[.func 164 [BP g.length,BP g1.length]]]]:=by
    unfold midG
    exact h0t hX.map
  rw [hmid0] at hend
  have hless:c1n (b1h S c) c (b0h (b1h S c))=b0h (endM (b1h S c) (c:Int)):=by
    rw [d5d hc0,hLT]
    unfold c1n
    refine List.filter_congr fun y _ => ?_
    have hb:=c0u (S:=S) hc0 (y:Int)
    cases hu:b2e S (y:Int) (c:Int) with
    | true=>rw [b1d.2 (hb.1 (b1d.1 hu))]
    | false =>
      cases hu2:b2e (b1h S c) (y:Int) (c:Int) with
      | false=>rfl
      | true=>rw [b1d.2 (hb.2 (b1d.1 hu2))] at hu;cases hu
  have hkept:=h2y (S:=S) hc0
  rw [← d5d hc0] at hkept
  have hsub:∀ k ∈ b0h (endM (b1h S c) (c:Int)),k ∈ b0h (b1h S c):=fun k hk=>by
    rw [← hless] at hk
    exact (d5b.1 hk).1
  have hnec:∀ k ∈ b0h (endM (b1h S c) (c:Int)),k≠c:=fun k hk e=>by
    rw [← hless] at hk
    subst e
    exact (d5b.1 hk).2 .here
  have hstT:∀ k,k≠c→(b1h S c).st k=S.st k:=fun k hk=>by
    unfold b1h
    split
    · rfl
    · simp only;rw [b0i hk]
  have hfin:=hX.less (L':=b0h (endM (b1h S c) (c:Int))) hsub
  have hfin2:=hfin.st_congr (st':=(endM (b1h S c) (c:Int)).st) (I':=I1) (fun k hk=>by
    rw [← (hkept k hk).1,hstT k (hnec k hk)]) (fun _ _=>rfl)
  rw [hless] at hend
  refine ⟨I1,_, ?_,hfin2,hI1.less hsub (fun k hk=>by rw [← (hkept k hk).1,hstT k (hnec k hk)]) (fun k hk=>(hkept k hk).2.symm), ?_⟩
  · have hnd0:=hD0.nodes c hcL
    have hnd1:=hX.nodes c hcT
    simp only [b8k] at hnd0 hnd1
    have e5:(g1++[AObj.pcells 1 [[.nilf]]]).set g1.length (.cells 1 [[.func 164 [BP g.length,BP g1.length]]])=g1++[AObj.cells 1 [[.func 164 [BP g.length,BP g1.length]]]]:=by simp [List.set_append]
    have e6:(g1++[AObj.pcells 1 [[.nilf]]])[g1.length]? = some (.pcells 1 [[.nilf]]):=by simp
    have e7:(g1++[AObj.cells 1 [[.func 164 [BP g.length,BP g1.length]]]])[g1.length]? = some (.cells 1 [[.func 164 [BP g.length,BP g1.length]]]):=by simp
    rw [show n+R+1=n+R+1 from rfl] at hend
    unfold midG at hend
    generalize (g1++[AObj.cells 1 [[.func 164 [BP g.length,BP g1.length]]]]).set pm (.map (mapD (b0h (endM (b1h S c) (c:Int))) nd))=gf at hend ⊢
    generalize hG2:g1++[AObj.cells 1 [[.func 164 [BP g.length,BP g1.length]]]]=G2 at hend e5 e7 hnd1
    generalize hG0:g++[AObj.cells 1 [[DocP pd]]]=G0 at hl hbd0 hdr hnd0
    rw [b0a T107,b0e rfl rfl]
    simp -implicitDefEqProofs (disch:=omega) only [Rx,simprocAttr,F107,hG0,hl,hbd0,hnd0,hdr,e5,e6,e7,hnd1,hend]
  · refine ⟨by have:=hF1.len;simp at this ⊢;omega,fun j hj hO => ?_,fun j hO hj => ?_⟩
    · rw [List.getElem?_set,if_neg (fun e=>hO (.inr (.inl e.symm))),List.getElem?_append_left (by omega),hF1.keep j (by simp;omega) hO,List.getElem?_append_left hj]
    · rcases hO with e | e | ⟨k,hk,e⟩
      · exact .inl e
      · exact .inr (.inl e)
      · exact .inr (.inr ⟨k,by rw [← hLT];exact hsub k hk,e⟩)
end
end Tryz
end Go.TA


end
section
/- What is done with a document leaves a document. Plain. -/
namespace Go.TA
section
variable {R:Nat} {S:MS}
theorem g2t (hS:S.Ok R) (id up b:Int):(b4b S id up b).2.Ok (R+R+1):=by
 have hm:S.Ok (R+R+1):=hS.more (by omega)
 unfold b4b
 split
 ·exact hm
 rename_i hf
 obtain ⟨c,rfl,hcL,hc0⟩:=c1h hf
 obtain ⟨hcN,hcl⟩:=b0j.1 hcL
 split
 ·exact hm
 rename_i hl
 simp only [Bool.not_eq_false,Bool.and_eq_true] at hl
 split
 ·exact hm
 split
 ·exact hm
 split
 ·exact hm
 rename_i h1 h2 h3
 obtain ⟨u,hu,huN,hul⟩:=b4h hl.1
 subst hu
 simp only [Int.toNat_natCast]
 refine hS.place _ hcN hcl hc0 ?_ huN hul (fun hb=>h2 (b1d.2 hb))
 rcases hS.up c hcN with h4 | ⟨p,_,h4,_⟩
 ·exact h4
 ·exact absurd (show (0:Int)≤upOf S (c:Int) by rw [show upOf S (c:Int)=(p:Int) from h4];omega) h1
theorem h2a (hS:S.Ok R) (id b:Int):(c3l S id b).2.Ok (R+R+1):=by
 have hm:S.Ok (R+R+1):=hS.more (by omega)
 unfold c3l
 split
 ·exact hm
 rename_i hf
 obtain ⟨c,rfl,hcL,hc0⟩:=c1h hf
 obtain ⟨hcN,hcl⟩:=b0j.1 hcL
 split
 ·exact hm
 split
 ·exact hm
 split
 ·exact hm
 rename_i h0 h1 h2
 have hup:upOf S (c:Int)=(S.st c).up:=rfl
 obtain ⟨p,hp,_⟩:=hS.up_nat hcN (by omega)
 rw [hup,hp]
 simp only [Int.toNat_natCast]
 exact g0i hS _ hcN hcl (by omega) hp
theorem g2i (hS:S.Ok R) (id:Int):(b5d S id).2.Ok (R+R+1):=by
 have hm:S.Ok (R+R+1):=hS.more (by omega)
 unfold b5d
 split
 ·exact hm
 rename_i hf
 obtain ⟨c,rfl,hcL,hc0⟩:=c1h hf
 obtain ⟨hcN,hcl⟩:=b0j.1 hcL
 simp only [Int.toNat_natCast]
 obtain ⟨hT,hup⟩:=hS.take hcN hcl
 exact (hT.endM (by rw [b4r];exact hcN) (by omega) hup).more (by omega)
theorem g5r (hS:S.Ok R) {h:Nat} {a:List Attr} (ha:a.length≤1048577):(setM S h a).Ok R:=by
 refine hS.same fun c hc => ?_
 by_cases e:c=h
 ·subst e;rw [b0l];exact ⟨rfl,rfl,ha⟩
 ·rw [b0i e];exact ⟨rfl,rfl,hS.attrs c hc⟩
theorem h9b (hS:S.Ok R) (x:GOp) (hx:x.attrs.length≤1048577):(doD S x).2.2.Ok (R+R+1):=by
 have hm:S.Ok (R+R+1):=hS.more (by omega)
 unfold doD
 split
 ·split
  ·exact (hS.create x hx).more (by omega)
  ·exact hm
 split
 ·exact g2t hS _ _ _
 split
 ·exact h2a hS _ _
 split
 ·exact g2i hS _
 split
 ·unfold setD
  repeat' split
  all_goals first | exact hm | exact (g5r hS (by omega)).more (by omega)
 split
 ·unfold delD
  split
  ·exact hm
  rename_i hf
  obtain ⟨c,hc,hcL,hc0⟩:=c1h hf
  split
  ·rename_i hlt
   have:=hS.attrs c (b0j.1 hcL).1
   rw [hc] at hlt ⊢
   simp only [Int.toNat_natCast] at hlt ⊢
   exact (g5r hS (by omega)).more (by omega)
  ·exact hm
 split
 ·unfold c2u
  split
  ·exact hm
  rename_i hf
  obtain ⟨c,hc,hcL,hc0⟩:=c1h hf
  split
  ·exact hm
  ·refine (hS.same fun d hd => ?_).more (by omega)
   rw [hc]
   simp only [Int.toNat_natCast]
   by_cases e:d=c
   ·subst e;rw [b0l];exact ⟨rfl,rfl,hS.attrs d hd⟩
   ·rw [b0i e];exact ⟨rfl,rfl,hS.attrs d hd⟩
 ·exact hm
theorem b1n.nodeL {I:Nat→LK} (hI:b1n S I) {h:Nat} (s:b3o) (hu:s.up=(S.st h).up) (hl:s.live=(S.st h).live):b1n (⟨S.N,upd S.st h s,S.kd⟩:MS) I:=by
 have e:b0h (⟨S.N,upd S.st h s,S.kd⟩:MS)=b0h S:=c1b (S:=S) hl
 refine hI.less (fun k hk=>by rw [e] at hk;exact hk) (fun k _ => ?_) (fun k _=>rfl)
 simp only [upd]
 split
 ·rename_i e2;subst e2;exact hu
 ·rfl
end
end Go.TA


end
section
/- A document: any call, by its kind. -/
namespace Go.TA
structure Doc (R:Nat) (S:MS) (it nd:Nat→Nat) (I:Nat→LK) (pd pm:Nat) (g:List AObj):Prop where
 ok:S.Ok R
 link:b1n S I
 lies:b1o (b0h S) S.st S.N it nd I pd pm g
abbrev OwnD (S:MS) (it nd:Nat→Nat) (pd pm:Nat):Nat→Prop:=b2q (b0h S) it nd pd pm
namespace Tryz
section
variable {R:Nat} {S:MS} {it nd:Nat→Nat} {I:Nat→LK} {pd pm:Nat} {g:List AObj}
theorem g9f (hD:Doc R S it nd I pd pm g) (x:GOp) (hx:x.attrs.length≤1048577) {n:Nat} (hR:R+3<n) (hn:(b0h S).length+1<n) (hn2:1048578<n) :
  (x.kind=1→∃ it' nd' I' g',b0g T (n+R+40) 74 [DocP pd,.p (.str x.tag),.p (.str x.key),.p (.str x.text),.p (.list (x.attrs.map Attr.pv))] g=some (.tuple [.p (.int .i64 (doD S x).1),.p (.int .i64 (doD S x).2.1)],g')∧Doc (R+R+1) (doD S x).2.2 it' nd' I' pd pm g'∧GFr g (OwnD S it nd pd pm) g' (OwnD (doD S x).2.2 it' nd' pd pm)) ∧
  (x.kind=2→(doD S x).1=0∧∃ it' nd' I' g',b0g T (n+R+40) 75 [DocP pd,.p (.int .i64 x.node),.p (.int .i64 x.up),.p (.int .i64 x.before)] g=some (.p (.int .i64 (doD S x).2.1),g')∧Doc (R+R+1) (doD S x).2.2 it' nd' I' pd pm g'∧GFr g (OwnD S it nd pd pm) g' (OwnD (doD S x).2.2 it' nd' pd pm)) ∧
  (x.kind=3→(doD S x).1=0∧∃ it' nd' I' g',b0g T (n+R+40) 106 [DocP pd,.p (.int .i64 x.node),.p (.int .i64 x.before)] g=some (.p (.int .i64 (doD S x).2.1),g')∧Doc (R+R+1) (doD S x).2.2 it' nd' I' pd pm g'∧GFr g (OwnD S it nd pd pm) g' (OwnD (doD S x).2.2 it' nd' pd pm)) ∧
  (x.kind=4→(doD S x).1=0∧∃ it' nd' I' g',b0g T (n+R+40) 107 [DocP pd,.p (.int .i64 x.node)] g=some (.p (.int .i64 (doD S x).2.1),g')∧Doc (R+R+1) (doD S x).2.2 it' nd' I' pd pm g'∧GFr g (OwnD S it nd pd pm) g' (OwnD (doD S x).2.2 it' nd' pd pm)) ∧
  (x.kind=5→(doD S x).1=0∧∃ it' nd' I' g',b0g T (n+R+40) 108 [DocP pd,.p (.int .i64 x.node),.p (.str x.name),.p (.str x.text)] g=some (.p (.int .i64 (doD S x).2.1),g')∧Doc (R+R+1) (doD S x).2.2 it' nd' I' pd pm g'∧GFr g (OwnD S it nd pd pm) g' (OwnD (doD S x).2.2 it' nd' pd pm)) ∧
  (x.kind=6→(doD S x).1=0∧∃ it' nd' I' g',b0g T (n+R+40) 109 [DocP pd,.p (.int .i64 x.node),.p (.str x.name)] g=some (.p (.int .i64 (doD S x).2.1),g')∧Doc (R+R+1) (doD S x).2.2 it' nd' I' pd pm g'∧GFr g (OwnD S it nd pd pm) g' (OwnD (doD S x).2.2 it' nd' pd pm)) ∧
  (x.kind=7→(doD S x).1=0∧∃ it' nd' I' g',b0g T (n+R+40) 110 [DocP pd,.p (.int .i64 x.node),.p (.str x.text)] g=some (.p (.int .i64 (doD S x).2.1),g')∧Doc (R+R+1) (doD S x).2.2 it' nd' I' pd pm g'∧GFr g (OwnD S it nd pd pm) g' (OwnD (doD S x).2.2 it' nd' pd pm)):=by
 obtain ⟨hS,hI,hA⟩:=hD
 have hok:=h9b hS x hx
 refine ⟨fun k => ?_,fun k => ?_,fun k => ?_,fun k => ?_,fun k => ?_,fun k => ?_,fun k => ?_⟩
 ·obtain ⟨it',nd',I',g',h1,h2,h3,h4⟩:=h7f hS hI hA x hx (n:=n+R+1) (by omega)
  have e:doD S x=if b0v S.N x=0 then ((S.N:Int),0,S.create x) else (0,b0v S.N x,S):=by unfold doD;rw [if_pos k]
  by_cases hz:b0v S.N x=0
  ·rw [if_pos hz] at h1 h2 h3 h4 e
   rw [e] at hok ⊢
   exact ⟨it',nd',I',g',h1,⟨hok,h3,h2⟩,h4⟩
  ·rw [if_neg hz] at h1 h2 h3 h4 e
   rw [e] at hok ⊢
   exact ⟨it',nd',I',g',h1,⟨hok,h3,h2⟩,h4⟩
 ·have e:doD S x=(0,b4b S x.node x.up x.before):=by unfold doD;rw [if_neg (by omega),if_pos k]
  rw [e] at hok ⊢
  obtain ⟨I',g',h1,h2,h3,h4⟩:=h6j hS hI hA x.node x.up x.before (n:=n+R+37) (by omega)
  exact ⟨rfl,it,nd,I',g',h1,⟨hok,h3,by rw [g2u];exact h2⟩,h4⟩
 ·have e:doD S x=(0,c3l S x.node x.before):=by unfold doD;rw [if_neg (by omega),if_neg (by omega),if_pos k]
  rw [e] at hok ⊢
  obtain ⟨I',g',h1,h2,h3,h4⟩:=h6c hS hI hA x.node x.before (n:=n+R+37) (by omega)
  exact ⟨rfl,it,nd,I',g',h1,⟨hok,h3,by rw [h2b];exact h2⟩,h4⟩
 ·have e:doD S x=(0,b5d S x.node):=by unfold doD;rw [if_neg (by omega),if_neg (by omega),if_neg (by omega),if_pos k]
  rw [e] at hok ⊢
  obtain ⟨I',g',h1,h2,h3,h4⟩:=h5l hS hI hA x.node (n:=n+38) (by omega)
  rw [show n+38+R+2=n+R+40 by omega] at h1
  have hN:(b5d S x.node).2.N=S.N:=by
   unfold b5d;split
   ·rfl
   ·simp [endM,b4r]
  exact ⟨rfl,it,nd,I',g',h1,⟨hok,h3,by rw [hN];exact h2⟩,h4⟩
 ·have e:doD S x=(0,setD S x.node x.name x.text):=by unfold doD;rw [if_neg (by omega),if_neg (by omega),if_neg (by omega),if_neg (by omega),if_pos k]
  rw [e] at hok ⊢
  obtain ⟨g',h1,h2,h4⟩:=h5b hS hA x.node x.name x.text (n:=n+R+3) (by omega)
  have hN:(setD S x.node x.name x.text).2.N=S.N:=by
   unfold setD
   repeat' split
   all_goals rfl
  have hl:b1n (setD S x.node x.name x.text).2 I:=by
   unfold setD;repeat' split
   all_goals first | exact hI | exact b1n.nodeL hI _ rfl rfl
  exact ⟨rfl,it,nd,I,g',h1,⟨hok,hl,by rw [hN];exact h2⟩,h4⟩
 ·have e:doD S x=(0,delD S x.node x.name):=by unfold doD;rw [if_neg (by omega),if_neg (by omega),if_neg (by omega),if_neg (by omega),if_neg (by omega),if_pos k]
  rw [e] at hok ⊢
  obtain ⟨g',h1,h2,h4⟩:=h7b hS hA x.node x.name (n:=n+R+35) (by omega)
  have hN:(delD S x.node x.name).2.N=S.N:=by
   unfold delD
   repeat' split
   all_goals rfl
  have hl:b1n (delD S x.node x.name).2 I:=by
   unfold delD;repeat' split
   all_goals first | exact hI | exact b1n.nodeL hI _ rfl rfl
  exact ⟨rfl,it,nd,I,g',h1,⟨hok,hl,by rw [hN];exact h2⟩,h4⟩
 ·have e:doD S x=(0,c2u S x.node x.text):=by unfold doD;rw [if_neg (by omega),if_neg (by omega),if_neg (by omega),if_neg (by omega),if_neg (by omega),if_neg (by omega),if_pos k]
  rw [e] at hok ⊢
  obtain ⟨g',h1,h2,h4⟩:=h0q hA x.node x.text (n+R+37)
  have hN:(c2u S x.node x.text).2.N=S.N:=by
   unfold c2u
   repeat' split
   all_goals rfl
  have hl:b1n (c2u S x.node x.text).2 I:=by
   unfold c2u;repeat' split
   all_goals first | exact hI | exact b1n.nodeL hI _ rfl rfl
  exact ⟨rfl,it,nd,I,g',h1,⟨hok,hl,by rw [hN];exact h2⟩,h4⟩
end
end Tryz
end Go.TA


end
section
/- A watch: a document, and what was done with it. -/
namespace Go.TA
abbrev WP (pw:Nat):AV:=.ptr true pw 2 1 0 0
inductive Tape (k:Nat) (g:List AObj):AV→Prop
 | none:Tape k g .nils
 | own {q:Nat} {X:List (List PV)}:g[q]? = some (.pcells 9 X)→X.length≤k→Tape k g (.own true q X.length)
structure Wat (R k:Nat) (S:MS) (it nd:Nat→Nat) (I:Nat→LK) (pd pm pw:Nat) (tp:AV) (g:List AObj):Prop where
 doc:Doc R S it nd I pd pm g
 wat:g[pw]? = some (.cells 2 [[DocP pd,tp]])
 tape:Tape k g tp
 sepW:¬ OwnD S it nd pd pm pw
 sepT:∀ q,b2o tp=some q→q≠pw∧¬ OwnD S it nd pd pm q
def OwnW (S:MS) (it nd:Nat→Nat) (pd pm pw:Nat) (tp:AV) (j:Nat):Prop:=OwnD S it nd pd pm j∨j=pw∨b2o tp=some j
theorem Tape.keep {k:Nat} {g g':List AObj} {tp:AV} (h:Tape k g tp) (hg:∀ q,b2o tp=some q→q<g.length→g'[q]? = g[q]?):Tape k g' tp:=by
 cases h with
 | none=>exact .none
 | own h1 h2=>exact .own (by rw [hg _ rfl (List.getElem?_eq_some_iff.1 h1).1];exact h1) h2
theorem Tape.lt {k:Nat} {g:List AObj} {tp:AV} (h:Tape k g tp) {q:Nat} (hq:b2o tp=some q):q<g.length:=by
 cases h with
 | none=>cases hq
 | own h1 h2=>simp only [b2o,Option.some.injEq] at hq;subst hq;exact (List.getElem?_eq_some_iff.1 h1).1
theorem h9c {S:MS} {x:GOp} (h:(doD S x).2.1≠0):(doD S x).1=0:=by
 unfold doD at h ⊢
 by_cases k:x.kind=1
 ·rw [if_pos k] at h ⊢
  by_cases c:b0v S.N x=0
  ·rw [if_pos c] at h;exact absurd rfl h
  ·rw [if_neg c]
 ·rw [if_neg k]
  repeat' split
  all_goals rfl
namespace Tryz
theorem c6w {pw pd:Nat} {tp:AV} {g:List AObj} (h:g[pw]? = some (.cells 2 [[DocP pd,tp]])) (n:Nat):b0g T (n+1) 57 [WP pw] g=some (.p (.bool true),g):=by
 rw [b0a T57,b0e rfl rfl]
 simp -implicitDefEqProofs (disch:=omega) only [Rx,simprocAttr,F57,h]
theorem g2j (x:GOp) (hx:x.attrs.length≤1048577) (hk:1≤x.kind∧x.kind≤7) (id:Int) (g:List AObj) (n:Nat):∃ y:GOp,b0g T (n+2) 60 [.p (.agg x.pv),.p (.int .i64 id)] g=some (.p (.agg y.pv),g):=by
 have hcl:=b4j x.attrs hx [] n
 have hc:x.kind=1∨x.kind=2∨x.kind=3∨x.kind=4∨x.kind=5∨x.kind=6∨x.kind=7:=by omega
 rcases hc with k | k | k | k | k | k | k
 ·refine ⟨⟨1,id,0,0,x.tag,x.key,[],x.text,x.attrs⟩, ?_⟩
  rw [b0a T60,run_pure rfl rfl rfl]
  simp -implicitDefEqProofs (disch:=omega) only [Rx,simprocAttr,F60,GOp.pv,b0b,k,hcl]
 ·refine ⟨⟨2,x.node,x.up,x.before,[],[],[],[],[]⟩, ?_⟩
  rw [b0a T60,run_pure rfl rfl rfl]
  simp -implicitDefEqProofs (disch:=omega) only [Rx,simprocAttr,F60,GOp.pv,b0b,k]
 ·refine ⟨⟨3,x.node,0,x.before,[],[],[],[],[]⟩, ?_⟩
  rw [b0a T60,run_pure rfl rfl rfl]
  simp -implicitDefEqProofs (disch:=omega) only [Rx,simprocAttr,F60,GOp.pv,b0b,k]
 ·refine ⟨⟨4,x.node,0,0,[],[],[],[],[]⟩, ?_⟩
  rw [b0a T60,run_pure rfl rfl rfl]
  simp -implicitDefEqProofs (disch:=omega) only [Rx,simprocAttr,F60,GOp.pv,b0b,k]
 ·refine ⟨⟨5,x.node,0,0,[],[],x.name,x.text,[]⟩, ?_⟩
  rw [b0a T60,run_pure rfl rfl rfl]
  simp -implicitDefEqProofs (disch:=omega) only [Rx,simprocAttr,F60,GOp.pv,b0b,k]
 ·refine ⟨⟨6,x.node,0,0,[],[],x.name,[],[]⟩, ?_⟩
  rw [b0a T60,run_pure rfl rfl rfl]
  simp -implicitDefEqProofs (disch:=omega) only [Rx,simprocAttr,F60,GOp.pv,b0b,k]
 ·refine ⟨⟨7,x.node,0,0,[],[],[],x.text,[]⟩, ?_⟩
  rw [b0a T60,run_pure rfl rfl rfl]
  simp -implicitDefEqProofs (disch:=omega) only [Rx,simprocAttr,F60,GOp.pv,b0b,k]
section
variable {R k:Nat} {S:MS} {it nd:Nat→Nat} {I:Nat→LK} {pd pm pw:Nat} {tp:AV} {g:List AObj}
theorem h5y (hD:Doc R S it nd I pd pm g) (x:GOp) (hk:1≤x.kind∧x.kind≤7) (hx:x.attrs.length≤1048577) {n:Nat} (hR:R+3<n) (hn:(b0h S).length+1<n) (hn2:1048578<n) :
  ∃ it' nd' I' g',b0g T (n+R+41) 58 [DocP pd,.p (.agg x.pv)] g=some (.tuple [.p (.int .i64 (doD S x).1),.p (.int .i64 (doD S x).2.1)],g')∧Doc (R+R+1) (doD S x).2.2 it' nd' I' pd pm g'∧GFr g (OwnD S it nd pd pm) g' (OwnD (doD S x).2.2 it' nd' pd pm):=by
 obtain ⟨c1,c2,c3,c4,c5,c6,c7⟩:=g9f hD x hx hR hn hn2
 have hc:x.kind=1∨x.kind=2∨x.kind=3∨x.kind=4∨x.kind=5∨x.kind=6∨x.kind=7:=by omega
 rcases hc with k1 | k2 | k3 | k4 | k5 | k6 | k7
 ·obtain ⟨it',nd',I',g',h1,h2,h3⟩:=c1 k1
  refine ⟨it',nd',I',g', ?_,h2,h3⟩
  generalize doD S x=z at h1 ⊢
  rw [b0a T58,b0e rfl rfl]
  simp -implicitDefEqProofs (disch:=omega) only [Rx,simprocAttr,F58,GOp.pv,b0b,k1,h1]
 ·obtain ⟨h0,it',nd',I',g',h1,h2,h3⟩:=c2 k2
  refine ⟨it',nd',I',g', ?_,h2,h3⟩
  rw [h0]
  generalize doD S x=z at h1 ⊢
  rw [b0a T58,b0e rfl rfl]
  simp -implicitDefEqProofs (disch:=omega) only [Rx,simprocAttr,F58,GOp.pv,b0b,k2,h1]
 ·obtain ⟨h0,it',nd',I',g',h1,h2,h3⟩:=c3 k3
  refine ⟨it',nd',I',g', ?_,h2,h3⟩
  rw [h0]
  generalize doD S x=z at h1 ⊢
  rw [b0a T58,b0e rfl rfl]
  simp -implicitDefEqProofs (disch:=omega) only [Rx,simprocAttr,F58,GOp.pv,b0b,k3,h1]
 ·obtain ⟨h0,it',nd',I',g',h1,h2,h3⟩:=c4 k4
  refine ⟨it',nd',I',g', ?_,h2,h3⟩
  rw [h0]
  generalize doD S x=z at h1 ⊢
  rw [b0a T58,b0e rfl rfl]
  simp -implicitDefEqProofs (disch:=omega) only [Rx,simprocAttr,F58,GOp.pv,b0b,k4,h1]
 ·obtain ⟨h0,it',nd',I',g',h1,h2,h3⟩:=c5 k5
  refine ⟨it',nd',I',g', ?_,h2,h3⟩
  rw [h0]
  generalize doD S x=z at h1 ⊢
  rw [b0a T58,b0e rfl rfl]
  simp -implicitDefEqProofs (disch:=omega) only [Rx,simprocAttr,F58,GOp.pv,b0b,k5,h1]
 ·obtain ⟨h0,it',nd',I',g',h1,h2,h3⟩:=c6 k6
  refine ⟨it',nd',I',g', ?_,h2,h3⟩
  rw [h0]
  generalize doD S x=z at h1 ⊢
  rw [b0a T58,b0e rfl rfl]
  simp -implicitDefEqProofs (disch:=omega) only [Rx,simprocAttr,F58,GOp.pv,b0b,k6,h1]
 ·obtain ⟨h0,it',nd',I',g',h1,h2,h3⟩:=c7 k7
  refine ⟨it',nd',I',g', ?_,h2,h3⟩
  rw [h0]
  generalize doD S x=z at h1 ⊢
  rw [b0a T58,b0e rfl rfl]
  simp -implicitDefEqProofs (disch:=omega) only [Rx,simprocAttr,F58,GOp.pv,b0b,k7,h1]
theorem h1m (hW:Wat R k S it nd I pd pm pw tp g) (hk:k≤4194304) (y:GOp) (n:Nat) :
    ∃ tp' g',b0g T (n+1) 59 [.ptr true pw 2 1 0 1,.p (.agg y.pv)] g=some (.tuple [],g')∧Wat R (k+1) S it nd I pd pm pw tp' g'∧GFr g (OwnW S it nd pd pm pw tp) g' (OwnW S it nd pd pm pw tp'):=by
  obtain ⟨hD,hw,ht,s1,s2⟩:=hW
  have hwl:=(List.getElem?_eq_some_iff.1 hw).1
  cases ht with
  | none =>
    have hl:∀ j,OwnD S it nd pd pm j→j<g.length:=fun j hj=>hD.lies.own_lt hj
    refine ⟨.own true g.length 1,(g++[AObj.pcells 9 [y.pv]]).set pw (.cells 2 [[DocP pd,.own true g.length 1]]), ?_,⟨⟨hD.ok,hD.link,hD.lies.keep fun j hj => ?_⟩, ?_, ?_,s1,fun q hq => ?_⟩,⟨by simp,fun j hj hn => ?_,fun j hj hjl => ?_⟩⟩
    · have a1:∀ X:AObj,(g++[X])[g.length]? = some X:=fun X=>by simp
      have a2:∀ X Y:AObj,(g++[X]).set g.length Y=g++[Y]:=fun X Y=>by simp [List.set_append]
      have a3:∀ X:AObj,(g++[X])[pw]? = some (.cells 2 [[DocP pd,.nils]]):=fun X=>by rw [List.getElem?_append_left hwl];exact hw
      rw [b0a T59,b0e rfl rfl]
      simp -implicitDefEqProofs (disch:=omega) only [Rx,simprocAttr,F59,GOp.pv,b0b,hw,a2,a3]
    · rw [List.getElem?_set,if_neg (fun e=>s1 (by rw [e];exact hj)),List.getElem?_append_left (hl j hj)]
    · rw [List.getElem?_set,if_pos rfl,if_pos (by rw [List.length_append];omega)]
    · exact Tape.own (q:=g.length) (X:=[y.pv]) (by rw [List.getElem?_set,if_neg (by omega)];simp) (by simp)
    · simp only [b2o,Option.some.injEq] at hq
      subst hq
      exact ⟨by omega,fun h=>by have:=hl _ h;omega⟩
    · have hjp:pw≠j:=fun e=>hn (.inr (.inl e.symm))
      rw [List.getElem?_set,if_neg hjp,List.getElem?_append_left hj]
    · rcases hj with h | h | h
      · exact .inl h
      · exact .inr (.inl h)
      · simp only [b2o,Option.some.injEq] at h;omega
  | @own q X hq hX =>
    obtain ⟨q1,q2⟩:=s2 q rfl
    have hql:=(List.getElem?_eq_some_iff.1 hq).1
    refine ⟨.own true q (X.length+1),(g.set q (AObj.pcells 9 (X++[y.pv]))).set pw (.cells 2 [[DocP pd,.own true q (X.length+1)]]), ?_,⟨⟨hD.ok,hD.link,hD.lies.keep fun j hj => ?_⟩, ?_, ?_,s1,fun q' hq' => ?_⟩,⟨by simp,fun j hj hn => ?_,fun j hj hjl=>hj⟩⟩
    · have a4:∀ Y:AObj,(g.set q Y)[pw]? = some (.cells 2 [[DocP pd,.own true q X.length]]):=fun Y=>by rw [List.getElem?_set,if_neg q1];exact hw
      have e1:(X++[y.pv]).length=X.length+1:=by simp
      rw [b0a T59,b0e rfl rfl]
      simp only [GOp.pv,b0b] at e1 ⊢
      simp -implicitDefEqProofs (disch:=omega) only [Rx,simprocAttr,F59,hw,hq,a4,e1]
    · rw [List.getElem?_set,if_neg (fun e=>s1 (by rw [e];exact hj)),List.getElem?_set,if_neg (fun e=>q2 (by rw [e];exact hj))]
    · rw [List.getElem?_set,if_pos rfl,if_pos (by rw [List.length_set];omega)]
    · have:=Tape.own (k:=k+1) (g:=(g.set q (AObj.pcells 9 (X++[y.pv]))).set pw (.cells 2 [[DocP pd,.own true q (X.length+1)]])) (q:=q) (X:=X++[y.pv]) (by rw [List.getElem?_set,if_neg (fun e=>q1 e.symm),List.getElem?_set,if_pos rfl,if_pos hql]) (by simp;omega)
      simpa using this
    · simp only [b2o,Option.some.injEq] at hq'
      subst hq'
      exact ⟨q1,q2⟩
    · rw [List.getElem?_set,if_neg (fun e=>hn (.inr (.inl e.symm))),List.getElem?_set,if_neg (fun e=>hn (.inr (.inr (by rw [e];rfl))))]
theorem d9s (hW:Wat R k S it nd I pd pm pw tp g) {R':Nat} (h:R≤R') {k':Nat} (hk:k≤k'):Wat R' k' S it nd I pd pm pw tp g :=
 ⟨⟨hW.doc.ok.more h,hW.doc.link,hW.doc.lies⟩,hW.wat,by cases hW.tape with
  | none=>exact .none
  | own h1 h2=>exact .own h1 (by omega),hW.sepW,hW.sepT⟩
theorem d7e (hW:Wat R k S it nd I pd pm pw tp g) (hkk:k≤4194304) (x:GOp) (hk:1≤x.kind∧x.kind≤7) (hx:x.attrs.length≤1048577) {n:Nat} (hR:R+3<n) (hn:(b0h S).length+1<n) (hn2:1048578<n) :
  ∃ it' nd' I' tp' g',b0g T (n+R+42) 17 [WP pw,.p (.agg x.pv)] g=some (.tuple [.p (.int .i64 (doD S x).1),.p (.int .i64 (doD S x).2.1)],g')∧Wat (R+R+1) (k+1) (doD S x).2.2 it' nd' I' pd pm pw tp' g'∧GFr g (OwnW S it nd pd pm pw tp) g' (OwnW (doD S x).2.2 it' nd' pd pm pw tp'):=by
 obtain ⟨it',nd',I',g1,h1,h2,h3⟩:=h5y hW.doc x hk hx hR hn hn2
 obtain ⟨hD,hw,ht,s1,s2⟩:=hW
 have hwl:=(List.getElem?_eq_some_iff.1 hw).1
 have hw1:g1[pw]? = some (.cells 2 [[DocP pd,tp]]):=by rw [h3.keep pw hwl s1];exact hw
 have hW1:Wat (R+R+1) k (doD S x).2.2 it' nd' I' pd pm pw tp g1:=by
  refine ⟨h2,hw1,ht.keep fun q hq hql=>h3.keep q hql (s2 q hq).2,fun h=>s1 (h3.refs pw h hwl),fun q hq=>⟨(s2 q hq).1,fun h=>(s2 q hq).2 (h3.refs q h (ht.lt hq))⟩⟩
 have hF1:GFr g (OwnW S it nd pd pm pw tp) g1 (OwnW (doD S x).2.2 it' nd' pd pm pw tp):=by
  refine ⟨h3.len,fun j hj hn=>h3.keep j hj fun h=>hn (.inl h),fun j hj hjl => ?_⟩
  rcases hj with h | h
  ·exact .inl (h3.refs j h hjl)
  ·exact .inr h
 have hwh:=c6w hw (n+R+40)
 have hid:=h9c (S:=S) (x:=x)
 by_cases e:(doD S x).2.1=0
 ·obtain ⟨y,hy⟩:=g2j x hx hk (doD S x).1 [] (n+R+39)
  obtain ⟨tp',g2,n1,n2,n3⟩:=h1m hW1 hkk y (n+R+40)
  refine ⟨it',nd',I',tp',g2, ?_,n2,hF1.trans n3⟩
  rw [e] at h1 ⊢
  rw [b0a T17,b0e rfl rfl]
  generalize (doD S x).1=z at h1 hy ⊢
  simp only [GOp.pv,b0b] at h1 hy n1 ⊢
  simp -implicitDefEqProofs (disch:=omega) only [Rx,simprocAttr,F17,hwh,hw,h1,hy,n1]
 ·refine ⟨it',nd',I',tp,g1, ?_,d9s hW1 (Nat.le_refl _) (by omega),hF1⟩
  have e1:((doD S x).2.1==0)=false:=by simpa using e
  rw [hid e] at h1 ⊢
  rw [b0a T17,b0e rfl rfl]
  generalize (doD S x).2.1=z at h1 e1 e ⊢
  simp only [GOp.pv,b0b] at h1 ⊢
  simp -implicitDefEqProofs (disch:=omega) only [Rx,simprocAttr,F17,hwh,hw,h1,e1]
end
end Tryz
end Go.TA


end
section
/- What fields an operation's kind does not use: what they are. Plain. -/
namespace Go.TA
def nzI (n:Int):Bool := !(n==0)
def nzS (s:Bs):Bool := !(s==[])
def nzA (l:List Attr):Bool:=decide (0<(l.length:Int))
def h1u (x:GOp):Bool:=nzI x.node || (nzI x.up || (nzI x.before || (nzS x.name)))
def h1t (x:GOp):Bool:=nzS x.tag || (nzS x.key || (nzA x.attrs || (nzS x.name || (nzS x.text))))
def h1s (x:GOp):Bool:=nzS x.tag || (nzS x.key || (nzA x.attrs || (nzI x.up || (nzS x.name || (nzS x.text)))))
def h1r (x:GOp):Bool:=nzS x.tag || (nzS x.key || (nzA x.attrs || (nzI x.up || (nzI x.before || (nzS x.name || (nzS x.text))))))
def h1q (x:GOp):Bool:=nzS x.tag || (nzS x.key || (nzA x.attrs || (nzI x.up || (nzI x.before))))
def h1p (x:GOp):Bool:=nzS x.tag || (nzS x.key || (nzA x.attrs || (nzI x.up || (nzI x.before || (nzS x.text)))))
def h1o (x:GOp):Bool:=nzS x.tag || (nzS x.key || (nzA x.attrs || (nzI x.up || (nzI x.before || (nzS x.name)))))
def b8i (x:GOp):Bool:=if x.kind=1 then h1u x else if x.kind=2 then h1t x else if x.kind=3 then h1s x else if x.kind=4 then h1r x else if x.kind=5 then h1q x else if x.kind=6 then h1p x else if x.kind=7 then h1o x else false
def h0p (x:GOp):GOp:=⟨x.kind,0,0,0,x.tag,x.key,[],x.text,x.attrs⟩
def h0o (x:GOp):GOp:=⟨x.kind,x.node,x.up,x.before,[],[],[],[],[]⟩
def h0n (x:GOp):GOp:=⟨x.kind,x.node,0,x.before,[],[],[],[],[]⟩
def h0m (x:GOp):GOp:=⟨x.kind,x.node,0,0,[],[],[],[],[]⟩
def h0l (x:GOp):GOp:=⟨x.kind,x.node,0,0,[],[],x.name,x.text,[]⟩
def h0k (x:GOp):GOp:=⟨x.kind,x.node,0,0,[],[],x.name,[],[]⟩
def h0j (x:GOp):GOp:=⟨x.kind,x.node,0,0,[],[],[],x.text,[]⟩
def b4u (x:GOp):GOp:=if x.kind=1 then h0p x else if x.kind=2 then h0o x else if x.kind=3 then h0n x else if x.kind=4 then h0m x else if x.kind=5 then h0l x else if x.kind=6 then h0k x else if x.kind=7 then h0j x else x
end Go.TA


end
section
/- Two scripts together. Plain. -/
namespace Go.TA
def j0a (f:Int→Int) (x:GOp):GOp:={ x with node:=f x.node,up:=f x.up,before:=f x.before }
def j2o (mid:List GRow) (made h:Int):Int:=if h=0 then 0 else if h≤(mid.length:Int) then ((mid[(h - 1).toNat]?).map GRow.id).getD 0 else made+h - (mid.length:Int)
end Go.TA


end
section
/- A machine beside another one that does the same under other handles. Plain. -/
namespace Go.TA
def img (φ : Nat→Nat) (h:Int):Int:=if h<0 then h else (φ h.toNat:Int)
theorem b4m (φ : Nat→Nat) (n:Nat):img φ (n:Int)=(φ n:Int):=by
 unfold img
 rw [if_neg (by omega),Int.toNat_natCast]
structure Sim (φ : Nat→Nat) (M S:MS):Prop where
 pos:0<M.N
 zero : φ 0=0
 next:∀ j, φ (M.N+j)=S.N+j
 lt:∀ h,h<M.N → φ h<S.N
 inj:∀ h k,h<M.N→k<M.N → φ h = φ k→h=k
 node:∀ h,h<M.N→S.st (φ h) = { M.st h with up:=img φ (M.st h).up }
 kd:∀ h,h<M.N→S.kd (φ h)=(M.kd h).map (img φ)
 onto:∀ k,k<S.N→(S.st k).live=true→∃ h,h<M.N ∧ φ h=k
def Dom (M:MS) (a:Int):Prop:=a = -1∨∃ n:Nat,n<M.N∧a=(n:Int)
section
variable {R:Nat} {φ : Nat→Nat} {M S:MS}
theorem Sim.img_inj (hS:Sim φ M S) {a b:Int} (ha:Dom M a) (hb:Dom M b) (h:img φ a=img φ b):a=b:=by
 rcases ha with rfl | ⟨n,hn,rfl⟩ <;> rcases hb with rfl | ⟨k,hk,rfl⟩
 ·rfl
 ·rw [b4m] at h;simp [img] at h <;> omega
 ·rw [b4m] at h;simp [img] at h <;> omega
 ·rw [b4m,b4m] at h
  have:=hS.inj n k hn hk (by omega)
  rw [this]
theorem Sim.live (hS:Sim φ M S) (n:Nat):b2b S (img φ (n:Int))=b2b M (n:Int):=by
 rw [b4m]
 by_cases h:n<M.N
 ·have h1:=hS.lt n h
  have h2:((φ n:Nat):Int)<(S.N:Int):=by omega
  have h3:(n:Int)<(M.N:Int):=by omega
  simp [b2b,h2,h3,hS.node n h]
 ·have h1:=hS.next (n - M.N)
  rw [show M.N+(n - M.N)=n by omega] at h1
  have h2:¬ ((φ n:Nat):Int)<(S.N:Int):=by omega
  have h3:¬ (n:Int)<(M.N:Int):=by omega
  simp [b2b,h2,h3]
theorem Sim.upOf (hS:Sim φ M S) {n:Nat} (h:n<M.N):upOf S (φ n:Int)=img φ (upOf M (n:Int)):=by
 simp [Go.TA.upOf,hS.node n h]
theorem g8p (hM:M.Ok R) {n:Nat} (h:n<M.N):Dom M (upOf M (n:Int)):=by
 have:=hM.up n h
 simp only [Go.TA.upOf,Int.toNat_natCast]
 rcases this with h1 | ⟨p,hp,h1,_⟩
 ·exact .inl h1
 ·exact .inr ⟨p,hp,h1⟩
theorem g8q (hM:M.Ok R) {p:Nat} (h:p<M.N) {k:Int} (hk:k ∈ M.kd p):Dom M k:=by
 obtain ⟨c,rfl,hc,_⟩:=hM.kids p h k hk
 exact .inr ⟨c,hc,rfl⟩
theorem Sim.below1 (hS:Sim φ M S) (hM:M.Ok R) {t:Nat} {h:Int} (hb:Below M (t:Int) h):Dom M h→Below S (φ t:Int) (img φ h):=by
  induction hb with
  | here=>intro _;rw [b4m];exact .here
  | up h0 hb ih =>
    intro hd
    rcases hd with rfl | ⟨n,hn,rfl⟩
    · omega
    · have:=ih (g8p hM hn)
      rw [← hS.upOf hn] at this
      rw [b4m]
      exact .up (by omega) this
theorem Sim.below2 (hS:Sim φ M S) (hM:M.Ok R) {t:Nat} (ht:t<M.N) {y:Int} (hb:Below S (φ t:Int) y):∀ h,Dom M h→y=img φ h→Below M (t:Int) h:=by
  induction hb with
  | here =>
    intro h hd e
    rw [← b4m] at e
    rw [← hS.img_inj (.inr ⟨t,ht,rfl⟩) hd e]
    exact .here
  | up h0 hb ih =>
    intro h hd e
    rcases hd with rfl | ⟨n,hn,rfl⟩
    · simp [img] at e;omega
    · rw [b4m] at e
      subst e
      exact .up (by omega) (ih _ (g8p hM hn) (hS.upOf hn))
theorem Sim.below (hS:Sim φ M S) (hM:M.Ok R) {t n:Nat} (ht:t<M.N) (hn:n<M.N):Below S (φ t:Int) (φ n:Int)↔Below M (t:Int) (n:Int):=by
 constructor
 ·intro h;exact hS.below2 hM ht h _ (.inr ⟨n,hn,rfl⟩) (b4m φ n).symm
 ·intro h;have:=hS.below1 hM h (.inr ⟨n,hn,rfl⟩);rwa [b4m] at this
theorem Sim.updAt (hS:Sim φ M S) {α : Type} (f:Nat → α) (v : α) {h k:Nat} (hh:h<M.N) (hk:k<M.N):upd f (φ h) v (φ k)=if k=h then v else f (φ k):=by
 unfold upd
 by_cases e:k=h
 ·subst e;simp
 ·rw [if_neg e,if_neg (fun q=>e (hS.inj k h hk hh q))]
theorem d5m {f:Int→Int} {b:Int}:∀ {l:List Int},(∀ a ∈ l,f a=f b→a=b)→(l.map f).idxOf (f b)=l.idxOf b
  | [],_=>rfl
  | a :: l, h => by
    rw [List.map_cons,List.idxOf_cons,List.idxOf_cons,d5m (fun x hx=>h x (List.mem_cons_of_mem _ hx))]
    by_cases e:a=b
    · subst e;simp
    · have q1:(f a==f b)=false:=beq_eq_false_iff_ne.2 fun q=>e (h a (by simp) q)
      have q2:(a==b)=false:=beq_eq_false_iff_ne.2 e
      rw [q1,q2]
theorem h2p {f:Int→Int} {l:List Int} {h b:Int} (hi:∀ a ∈ l,f a=f b→a=b) (h0:f b=0↔b=0):insI (l.map f) (f h) (f b)=(insI l h b).map f:=by
 unfold insI
 by_cases e:b=0
 ·rw [if_pos e,if_pos (h0.2 e),List.length_map,List.take_of_length_le (by simp),List.take_of_length_le (by simp),List.drop_eq_nil_of_le (by simp),List.drop_eq_nil_of_le (by simp)]
  simp
 ·rw [if_neg e,if_neg (fun q=>e (h0.1 q)),d5m hi]
  simp [List.map_take,List.map_drop]
theorem filter_map {f:Int→Int} {h:Int}:∀ {l:List Int},(∀ a ∈ l,f a=f h→a=h)→(l.map f).filter (fun k => !(k==f h))=(l.filter fun k => !(k==h)).map f
  | [],_=>rfl
  | a :: l, hi => by
    have ih:=filter_map (f:=f) (h:=h) (l:=l) (fun x hx=>hi x (List.mem_cons_of_mem _ hx))
    rw [List.map_cons,List.filter_cons,List.filter_cons,ih]
    by_cases e:a=h
    · subst e;simp
    · have q1:(f a==f h)=false:=beq_eq_false_iff_ne.2 fun q=>e (hi a (by simp) q)
      have q2:(a==h)=false:=beq_eq_false_iff_ne.2 e
      simp [q1,q2]
theorem Sim.img0 (hS:Sim φ M S) {b:Int} (hb:Dom M b):img φ b=0↔b=0:=by
 have h0:img φ 0=0:=by have:=b4m φ 0;rw [hS.zero] at this;exact this
 constructor
 ·intro h
  rw [← h0] at h
  exact hS.img_inj hb (.inr ⟨0,hS.pos,rfl⟩) h
 ·rintro rfl;exact h0
theorem Sim.place (hS:Sim φ M S) (hM:M.Ok R) {h u:Nat} (hh:h<M.N) (hu:u<M.N) {b:Int} (hb:Dom M b):Sim φ (b1s M h u b) (b1s S (φ h) (φ u) (img φ b)) where
 pos:=hS.pos
 zero:=hS.zero
 next:=hS.next
 lt:=hS.lt
 inj:=hS.inj
 node k hk:=by
  simp only [b1s] at hk ⊢
  rw [hS.updAt _ _ hh hk,hS.node h hh]
  by_cases e:k=h
  ·subst e;simp [upd,b4m]
  ·rw [if_neg e,b0i e,hS.node k hk]
 kd k hk:=by
  simp only [b1s] at hk ⊢
  rw [hS.updAt _ _ hu hk,hS.kd u hu]
  by_cases e:k=u
  ·subst e
   rw [if_pos rfl,b0l, ← b4m φ h]
   exact h2p (fun a ha q=>hS.img_inj (g8q hM hk ha) hb q) (hS.img0 hb)
  ·rw [if_neg e,b0i e,hS.kd k hk]
 onto k hk hl:=by
  simp only [b1s] at hk hl ⊢
  refine hS.onto k hk ?_
  unfold upd at hl
  split at hl
  ·rename_i e;subst e;exact hl
  ·exact hl
theorem Sim.take (hS : Sim φ M S) (hM : M.Ok R) {h : Nat} (hh : h < M.N) : Sim φ (b1h M h) (b1h S (φ h)) := by
  have hup:(S.st (φ h)).up=img φ (M.st h).up:=by rw [hS.node h hh]
  have hd:=g8p hM hh
  simp only [Go.TA.upOf,Int.toNat_natCast] at hd
  unfold b1h
  rw [hup]
  rcases hd with e | ⟨p,hp,e⟩
  · rw [e]
    have:img φ (-1)<0:=by simp [img]
    rw [if_pos (by decide),if_pos this]
    exact hS
  · rw [e,b4m,if_neg (by omega),if_neg (by omega),Int.toNat_natCast,Int.toNat_natCast]
    exact {
      pos:=hS.pos
      zero:=hS.zero
      next:=hS.next
      lt:=hS.lt
      inj:=hS.inj
      node:=fun k hk=>by
        simp only at hk ⊢
        rw [hS.updAt _ _ hh hk,hS.node h hh]
        by_cases e:k=h
        · subst e;simp [upd,img]
        · rw [if_neg e,b0i e,hS.node k hk]
      kd:=fun k hk=>by
        simp only at hk ⊢
        rw [hS.updAt _ _ hp hk,hS.kd p hp]
        by_cases e:k=p
        · subst e
          rw [if_pos rfl,b0l, ← b4m φ h]
          exact filter_map (fun a ha q=>hS.img_inj (g8q hM hk ha) (.inr ⟨h,hh,rfl⟩) q)
        · rw [if_neg e,b0i e,hS.kd k hk]
      onto:=fun k hk hl=>by
        simp only at hk hl ⊢
        refine hS.onto k hk ?_
        unfold upd at hl
        split at hl
        · rename_i e;subst e;exact hl
        · exact hl }
theorem Sim.endM (hS:Sim φ M S) (hM:M.Ok R) {h:Nat} (hh:h<M.N):Sim φ (endM M (h:Int)) (endM S (φ h:Int)) where
 pos:=hS.pos
 zero:=hS.zero
 next:=hS.next
 lt:=hS.lt
 inj:=hS.inj
 node k hk:=by
  simp only [Go.TA.endM] at hk ⊢
  have:=hS.below hM hh hk
  by_cases e:Below M (h:Int) (k:Int)
  ·rw [if_pos e,if_pos (this.2 e)];rfl
  ·rw [if_neg e,if_neg (fun q=>e (this.1 q)),hS.node k hk]
 kd k hk:=by
  simp only [Go.TA.endM] at hk ⊢
  have:=hS.below hM hh hk
  by_cases e:Below M (h:Int) (k:Int)
  ·rw [if_pos e,if_pos (this.2 e)];rfl
  ·rw [if_neg e,if_neg (fun q=>e (this.1 q)),hS.kd k hk]
 onto k hk hl:=by
  simp only [Go.TA.endM] at hk hl ⊢
  refine hS.onto k hk ?_
  split at hl
  ·simp [c3x] at hl
  ·exact hl
theorem Sim.create (hS : Sim φ M S) {x y : GOp} (ht : y.tag = x.tag) (hk0 : y.key = x.key) (hx : y.text = x.text) (ha : y.attrs = x.attrs) : Sim φ (M.create x) (S.create y) := by
  have hN : φ M.N=S.N:=by have:=hS.next 0;simpa using this
  have hne:∀ k,k<M.N → φ k≠S.N:=fun k hk=>by have:=hS.lt k hk;omega
  exact {
    pos:=by simp [MS.create]
    zero:=hS.zero
    next:=fun j=>by
      have:=hS.next (1+j)
      simp only [MS.create]
      rw [show M.N+1+j=M.N+(1+j) by omega,this]
      omega
    lt:=fun k hk=>by
      simp only [MS.create] at hk ⊢
      by_cases e:k=M.N
      · rw [e,hN];omega
      · have:=hS.lt k (by omega);omega
    inj:=fun k j hk hj e=>by
      simp only [MS.create] at hk hj
      by_cases e1:k=M.N <;> by_cases e2:j=M.N
      · omega
      · rw [e1,hN] at e;exact absurd e.symm (hne j (by omega))
      · rw [e2,hN] at e;exact absurd e (hne k (by omega))
      · exact hS.inj k j (by omega) (by omega) e
    node:=fun k hk=>by
      simp only [MS.create] at hk ⊢
      by_cases e:k=M.N
      · rw [e,hN,b0l,b0l,ht,hk0,hx,ha];rfl
      · rw [b0i (hne k (by omega)),b0i e,hS.node k (by omega)]
    kd:=fun k hk=>by
      simp only [MS.create] at hk ⊢
      by_cases e:k=M.N
      · rw [e,hN,b0l,b0l];rfl
      · rw [b0i (hne k (by omega)),b0i e,hS.kd k (by omega)]
    onto:=fun k hk hl=>by
      simp only [MS.create] at hk hl ⊢
      by_cases e:k=S.N
      · exact ⟨M.N,by omega,by rw [hN,e]⟩
      · rw [b0i e] at hl
        obtain ⟨h,h1,h2⟩:=hS.onto k (by omega) hl
        exact ⟨h,by omega,h2⟩ }
theorem Sim.setM (hS:Sim φ M S) {h:Nat} (hh:h<M.N) (a:List Attr):Sim φ (setM M h a) (setM S (φ h) a) where
 pos:=hS.pos
 zero:=hS.zero
 next:=hS.next
 lt:=hS.lt
 inj:=hS.inj
 node k hk:=by
  simp only [Go.TA.setM] at hk ⊢
  rw [hS.updAt _ _ hh hk,hS.node h hh]
  by_cases e:k=h
  ·subst e;simp [upd]
  ·rw [if_neg e,b0i e,hS.node k hk]
 kd k hk:=hS.kd k hk
 onto k hk hl:=by
  simp only [Go.TA.setM] at hk hl ⊢
  refine hS.onto k hk ?_
  unfold upd at hl
  split at hl
  ·rename_i e;subst e;exact hl
  ·exact hl
theorem Sim.textM (hS:Sim φ M S) {h:Nat} (hh:h<M.N) (a:Bs):Sim φ (textM M h a) (textM S (φ h) a) where
 pos:=hS.pos
 zero:=hS.zero
 next:=hS.next
 lt:=hS.lt
 inj:=hS.inj
 node k hk:=by
  simp only [Go.TA.textM] at hk ⊢
  rw [hS.updAt _ _ hh hk,hS.node h hh]
  by_cases e:k=h
  ·subst e;simp [upd]
  ·rw [if_neg e,b0i e,hS.node k hk]
 kd k hk:=hS.kd k hk
 onto k hk hl:=by
  simp only [Go.TA.textM] at hk hl ⊢
  refine hS.onto k hk ?_
  unfold upd at hl
  split at hl
  ·rename_i e;subst e;exact hl
  ·exact hl
end
end Go.TA


end
section
/- The machine of rows. Plain. -/
namespace Go.TA
def S0 (l:List GRow):MS:=⟨l.length+1,st0 l,kd0 l l.length⟩
theorem d2m {l:List GRow} {i h:Nat} {k:Int}:k ∈ kd0 l i h↔∃ j x,j<i∧l[j]? = some x∧x.up=(h:Int)∧k=(j:Int)+1:=by
  simp only [kd0,List.mem_map,List.mem_filter,List.mem_range]
  constructor
  · rintro ⟨j,⟨h1,h2⟩,rfl⟩
    cases hx:l[j]? with
    | none=>rw [hx] at h2;simp at h2
    | some x =>
      rw [hx] at h2
      exact ⟨j,x,h1,hx,by simpa using h2,rfl⟩
  · rintro ⟨j,x,h1,h2,h3,rfl⟩
    exact ⟨j,⟨h1,by simp [h2,h3]⟩,rfl⟩
theorem d5k (l:List GRow) (i h:Nat):(kd0 l i h).Nodup:=by
 unfold kd0
 rw [List.nodup_iff_pairwise_ne,List.pairwise_map]
 refine List.Pairwise.imp ?_ ((List.nodup_iff_pairwise_ne.1 List.nodup_range).filter _)
 intro a b hab
 omega
theorem j2k {l:List GRow} {m:Nat} (hs:c4o l) (hsm:Rows.mid m l) (hm:m≤1048577):(S0 l).Ok l.length:=by
  have hlive:∀ c,c<l.length+1→(st0 l c).live=true:=fun c hc=>by
    cases c with
    | zero=>rfl
    | succ j =>
      obtain ⟨x,hx⟩:=b0t (show j<l.length by omega)
      simp [st0,hx,b8j]
  have hup:∀ j x,l[j]? = some x→(st0 l (j+1)).up=x.up:=fun j x hx=>by simp [st0,hx,b8j]
  refine ⟨by simp [S0],⟨rfl,rfl⟩,fun p hp k hk => ?_,fun c hc => ?_,fun c hc hd => ?_,fun p hp=>d5k l l.length p,⟨fun c=>c,fun c hc=>by simp only [S0] at hc;show c≤l.length;omega,fun c p hc hu => ?_⟩,fun c hc => ?_⟩
  · obtain ⟨j,x,h1,h2,h3,rfl⟩:=d2m.1 hk
    exact ⟨j+1,by omega,by simp only [S0];omega,hlive _ (by omega),by simp only [S0];rw [hup j x h2];exact h3⟩
  · simp only [S0] at hc ⊢
    cases c with
    | zero=>exact .inl rfl
    | succ j =>
      obtain ⟨x,hx⟩:=b0t (show j<l.length by omega)
      have hst:=hs.1 j x (by omega) hx
      refine .inr ⟨x.up.toNat,by omega, ?_,hlive _ (by omega),d2m.2 ⟨j,x,by omega,hx,by omega,by omega⟩⟩
      rw [hup j x hx];omega
  · simp only [S0] at hc hd
    rw [hlive c hc] at hd;cases hd
  · simp only [S0] at hc hu
    cases c with
    | zero=>simp [st0,b6i] at hu <;> omega
    | succ j =>
      obtain ⟨x,hx⟩:=b0t (show j<l.length by omega)
      have hst:=hs.1 j x (by omega) hx
      rw [hup j x hx] at hu
      show p<j+1
      omega
  · simp only [S0] at hc ⊢
    cases c with
    | zero=>simp [st0,b6i]
    | succ j =>
      obtain ⟨x,hx⟩:=b0t (show j<l.length by omega)
      have:=(hsm.row x (List.mem_of_getElem? hx)).attrs
      simp only [st0,hx,Option.map_some,Option.getD_some,b8j]
      omega
end Go.TA


end
section
/- Tags and names: what the document's answer says of them. -/
set_option maxHeartbeats 1000000
namespace Go.TA.Tryz
theorem d5l (c : UInt8) (more : Bool) (g : List AObj) (n : Nat) : b0g T (n + 1) 111 [.p (.int .u8 c.toNat), .p (.bool more)] g = some (.p (.bool (b2k more c)), g) := by
  rw [b0a T111,run_pure rfl rfl rfl]
  by_cases h5:(c.toNat:Int)=45
  · simp -implicitDefEqProofs (disch:=omega) only [Rx,simprocAttr,F111,b2k,b3d,b4o,h5]
  have e5:((c.toNat:Int)==45)=false:=by simpa using h5
  by_cases h1:(97:Int)≤c.toNat
  · by_cases h2:(c.toNat:Int)≤122
    · simp -implicitDefEqProofs (disch:=omega) only [Rx,simprocAttr,F111,b2k,b3d,b4o,h1,h2]
    · have h3:(48:Int)≤c.toNat:=by omega
      have h4:¬ (c.toNat:Int)≤57:=by omega
      have e6:((c.toNat:Int)==58)=false:=by simp;omega
      have e7:((c.toNat:Int)==46)=false:=by simp;omega
      cases more
      · simp -implicitDefEqProofs (disch:=omega) only [Rx,simprocAttr,F111,b2k,b3d,b4o,h1,h2,h3,h4,e5,e6,e7]
      · simp -implicitDefEqProofs (disch:=omega) only [Rx,simprocAttr,F111,b2k,b3d,b4o,h1,h2,h3,h4,e5,e6,e7]
  · by_cases h3:(48:Int)≤c.toNat
    · by_cases h4:(c.toNat:Int)≤57
      · simp -implicitDefEqProofs (disch:=omega) only [Rx,simprocAttr,F111,b2k,b3d,b4o,h1,h3,h4]
      · have e7:((c.toNat:Int)==46)=false:=by simp;omega
        cases more
        · simp -implicitDefEqProofs (disch:=omega) only [Rx,simprocAttr,F111,b2k,b3d,b4o,h1,h3,h4,e5,e7]
        · by_cases h6:(c.toNat:Int)=58
          · simp -implicitDefEqProofs (disch:=omega) only [Rx,simprocAttr,F111,b2k,b3d,b4o,h6]
          · have e6:((c.toNat:Int)==58)=false:=by simpa using h6
            simp -implicitDefEqProofs (disch:=omega) only [Rx,simprocAttr,F111,b2k,b3d,b4o,h1,h3,h4,e5,e6,e7]
    · have e6:((c.toNat:Int)==58)=false:=by simp;omega
      cases more
      · simp -implicitDefEqProofs (disch:=omega) only [Rx,simprocAttr,F111,b2k,b3d,b4o,h1,h3,e5,e6]
      · by_cases h7:(c.toNat:Int)=46
        · simp -implicitDefEqProofs (disch:=omega) only [Rx,simprocAttr,F111,b2k,b3d,b4o,h7]
        · have e7:((c.toNat:Int)==46)=false:=by simpa using h7
          simp -implicitDefEqProofs (disch:=omega) only [Rx,simprocAttr,F111,b2k,b3d,b4o,h1,h3,e5,e6,e7]
theorem d4y {n N:Nat} (s:Bs) (more:Bool) (hs:s.length≤32) (hN:32<N) (i:Nat) (hi:i≤s.length) :
    b0r (b0g T (n+1)) N (.loop h0b) ⟨[(0,.p (.str s)),(1,.p (.bool more)),(5,.p (.int .i64 i))],[],[]⟩=some (outB ((s.drop i).all (b2k more))):=by
  refine b1w (σ := Nat) (S:=fun i=>⟨[(0,.p (.str s)),(1,.p (.bool more)),(5,.p (.int .i64 i))],[],[]⟩) (I:=fun i=>i≤s.length) (μ := fun i=>s.length - i)
    (Φ := fun i=>outB ((s.drop i).all (b2k more))) ?_ i hi (by omega)
  intro i hi
  by_cases h:i<s.length
  · obtain ⟨c,hc⟩:=b0t h
    have hg:=c6p hc
    have k1:(i:Int)<(s.length:Int):=by omega
    rw [b8q hc]
    cases hb:b2k more c with
    | true =>
      refine .inl ⟨i+1, ?_,by omega,by omega,by simp [hb]⟩
      simp -implicitDefEqProofs (disch:=omega) only [Rx,simprocAttr,h0b,k1,hg,d5l,hb]
    | false =>
      refine .inr ⟨?_,by simp [hb,outB]⟩
      have eF:outB ((c::s.drop (i+1)).all (b2k more))=(.ret,⟨[(4,.p (.bool false))],[],[]⟩):=by simp [outB,hb]
      rw [eF]
      simp -implicitDefEqProofs (disch:=omega) only [Rx,simprocAttr,h0b,k1,hg,d5l,hb]
  · refine .inr ⟨?_,by rw [List.drop_eq_nil_of_le (by omega)];simp [outB]⟩
    have k1:¬ (i:Int)<(s.length:Int):=by omega
    rw [List.drop_eq_nil_of_le (by omega)]
    simp -implicitDefEqProofs (disch:=omega) only [Rx,simprocAttr,h0b,k1,outB]
theorem b2u (s : Bs) (more : Bool) (g : List AObj) (n : Nat) : b0g T (n + 35) 63 [.p (.str s), .p (.bool more)] g = some (.p (.bool (b1z more s)), g) := by
  rw [b0a T63,run_pure rfl rfl rfl]
  cases s with
  | nil=>simp -implicitDefEqProofs (disch:=omega) only [Rx,simprocAttr,F63,b1z,Int.natCast_zero]
  | cons c r =>
    have k0:¬ ((r.length:Int)+1<1):=by omega
    by_cases h32:(c::r).length≤32
    · have k1:¬ (32<(r.length:Int)+1):=by simp at h32;omega
      have hl:=d4y (n:=n+33) (N:=n+34) (c::r) more h32 (by omega) 1 (by simp)
      simp only [Int.natCast_one] at hl
      by_cases h1:(97:Int)≤c.toNat
      · by_cases h2:(c.toNat:Int)≤122
        · have h1':¬ ((c.toNat:Int)<97):=by omega
          have h2':¬ (122<(c.toNat:Int)):=by omega
          have e:b1z more (c::r)=r.all (b2k more):=by simp [b1z,b3d,h1,h2];simp at h32;omega
          rw [e]
          cases hb:r.all (b2k more) with
          | true =>
            have hl':outB (((c::r).drop 1).all (b2k more))=(.exit 0,⟨[],[],[]⟩):=by simp [outB,hb]
            rw [hl'] at hl
            simp -implicitDefEqProofs (disch:=omega) only [Rx,simprocAttr,F63,k0,k1,h1',h2',hl]
          | false =>
            have hl':outB (((c::r).drop 1).all (b2k more))=(.ret,⟨[(4,.p (.bool false))],[],[]⟩):=by simp [outB,hb]
            rw [hl'] at hl
            simp -implicitDefEqProofs (disch:=omega) only [Rx,simprocAttr,F63,k0,k1,h1',h2',hl]
        · have h1':¬ ((c.toNat:Int)<97):=by omega
          have h2':122<(c.toNat:Int):=by omega
          have e:b1z more (c::r)=false:=by simp [b1z,b3d,h2]
          rw [e]
          simp -implicitDefEqProofs (disch:=omega) only [Rx,simprocAttr,F63,k0,k1,h1',h2']
      · have h1':(c.toNat:Int)<97:=by omega
        have e:b1z more (c::r)=false:=by simp [b1z,b3d,h1]
        rw [e]
        simp -implicitDefEqProofs (disch:=omega) only [Rx,simprocAttr,F63,k0,k1,h1']
    · have k1:32<(r.length:Int)+1:=by simp at h32;omega
      have e:b1z more (c::r)=false:=by simp [b1z];simp at h32;omega
      rw [e]
      simp -implicitDefEqProofs (disch:=omega) only [Rx,simprocAttr,F63,k0,k1]
end Go.TA.Tryz


end
section
/- Which text is ahead. -/
set_option maxHeartbeats 1000000
namespace Go.TA.Tryz
def b8r (a b:Bs) (r:Int):Ex × St:=if r = -1 then (.ret,⟨[(4,.p (.int .i64 (-1)))],[],[]⟩) else if r=1 then (.ret,⟨[(4,.p (.int .i64 1))],[],[]⟩) else (.exit 0,⟨[(0,.p (.str a)),(1,.p (.str b))],[],[]⟩)
def part:Bs→Bs→Int
 | a::x,b::y=>if (a.toNat:Int)<b.toNat then -1 else if (b.toNat:Int)<a.toNat then 1 else part x y
 | _,_=>0
theorem g1h:∀ (x y:Bs),cmpB x y=if part x y=0 then (if x.length<y.length then -1 else if y.length<x.length then 1 else 0) else part x y
  | [],[]=>by simp [cmpB,part]
  | [],_::_=>by simp [cmpB,part]
  | _::_,[]=>by simp [cmpB,part]
  | a :: x, b :: y => by
    simp only [cmpB,part,g1h x y,List.length_cons]
    split
    · simp
    · split
      · simp
      · simp
theorem h3n {n N : Nat} (a b : Bs) (hN : b.length < N) (hb : b.length ≤ 1048577) :
    b0r (b0g T n) N (.loop c6c) ⟨[(0,.p (.str a)),(1,.p (.str b)),(5,.p (.int .i64 ((0:Nat):Int)))],[],[]⟩=some (b8r a b (part a b)):=by
  refine b1w (C:=b0g T n) (N:=N) (B:=c6c) (σ := Nat) (S:=fun i=>⟨[(0,.p (.str a)),(1,.p (.str b)),(5,.p (.int .i64 i))],[],[]⟩) (I:=fun i=>i≤a.length∧i≤b.length) (μ := fun i=>b.length - i)
    (Φ := fun i=>b8r a b (part (a.drop i) (b.drop i))) ?_ 0 ⟨by omega,by omega⟩ (by omega)
  rintro i ⟨hia,hib⟩
  by_cases h:i<a.length
  · have k1:(i:Int)<(a.length:Int):=by omega
    obtain ⟨x,hx⟩:=b0t h
    have gx:=c6p hx
    by_cases h':i<b.length
    · have k2:(i:Int)<(b.length:Int):=by omega
      obtain ⟨y,hy⟩:=b0t h'
      have gy:=c6p hy
      rw [b8q hx,b8q hy]
      by_cases c1:(x.toNat:Int)<y.toNat
      · refine .inr ⟨?_,by simp [part,c1,b8r]⟩
        have e:part (x::a.drop (i+1)) (y::b.drop (i+1)) = -1:=by simp [part,c1]
        rw [e]
        simp -implicitDefEqProofs (disch:=omega) only [Rx,simprocAttr,c6c,k1,k2,gx,gy,c1,b8r]
      · by_cases c2:(y.toNat:Int)<x.toNat
        · refine .inr ⟨?_,by simp [part,c1,c2,b8r]⟩
          have e:part (x::a.drop (i+1)) (y::b.drop (i+1))=1:=by simp [part,c1,c2]
          rw [e]
          simp -implicitDefEqProofs (disch:=omega) only [Rx,simprocAttr,c6c,k1,k2,gx,gy,c1,c2,b8r]
        · refine .inl ⟨i+1, ?_,⟨by omega,by omega⟩,by omega,by simp [part,c1,c2]⟩
          simp -implicitDefEqProofs (disch:=omega) only [Rx,simprocAttr,c6c,k1,k2,gx,gy,c1,c2]
    · have k2:¬ (i:Int)<(b.length:Int):=by omega
      have e:part (a.drop i) (b.drop i)=0:=by rw [b8q hx,List.drop_eq_nil_of_le (by omega:b.length≤i)];rfl
      refine .inr ⟨?_,by rw [e];simp [b8r]⟩
      rw [e]
      simp -implicitDefEqProofs (disch:=omega) only [Rx,simprocAttr,c6c,k1,k2,b8r]
  · have k1:¬ (i:Int)<(a.length:Int):=by omega
    have e:part (a.drop i) (b.drop i)=0:=by rw [List.drop_eq_nil_of_le (by omega:a.length≤i)];rfl
    refine .inr ⟨?_,by rw [e];simp [b8r]⟩
    rw [e]
    simp -implicitDefEqProofs (disch:=omega) only [Rx,simprocAttr,c6c,k1,b8r]
theorem part_cases:∀ (x y:Bs),part x y = -1∨part x y=1∨part x y=0
  | [],[]=>by simp [part]
  | [],_::_=>by simp [part]
  | _::_,[]=>by simp [part]
  | a :: x, b :: y => by
    simp only [part]
    split
    · simp
    · split
      · simp
      · exact part_cases x y
theorem h7g (a b : Bs) (g : List AObj) {n : Nat} (ha : b.length < n) (hb : b.length ≤ 1048577) : b0g T (n + 1) 112 [.p (.str a), .p (.str b)] g = some (.p (.int .i64 (cmpB a b)), g) := by
  rw [b0a T112,run_pure rfl rfl rfl,g1h]
  have hl:=h3n (n:=n) (N:=n) a b ha hb
  simp only [Int.natCast_zero] at hl
  rcases part_cases a b with h | h | h
  · rw [h] at hl ⊢
    simp only [b8r] at hl
    simp -implicitDefEqProofs (disch:=omega) only [Rx,simprocAttr,F112,hl]
  · rw [h] at hl ⊢
    simp only [b8r] at hl
    simp -implicitDefEqProofs (disch:=omega) only [Rx,simprocAttr,F112,hl]
  · rw [h] at hl ⊢
    simp only [b8r] at hl
    by_cases c1:a.length<b.length
    · have k1:(a.length:Int)<(b.length:Int):=by omega
      simp -implicitDefEqProofs (disch:=omega) only [Rx,simprocAttr,F112,hl,k1,c1]
    · have k1:¬ (a.length:Int)<(b.length:Int):=by omega
      by_cases c2:b.length<a.length
      · have k2:(b.length:Int)<(a.length:Int):=by omega
        simp -implicitDefEqProofs (disch:=omega) only [Rx,simprocAttr,F112,hl,k1,c1,k2,c2]
      · have k2:¬ (b.length:Int)<(a.length:Int):=by omega
        simp -implicitDefEqProofs (disch:=omega) only [Rx,simprocAttr,F112,hl,k1,c1,k2,c2]
end Go.TA.Tryz


end
section
/- What is wrong with attributes: the document's answer. -/
namespace Go.TA.Tryz
theorem h3z {n N : Nat} (l : List Attr) (hs : b2x l) (hN : l.length < N) (hn : 1048576 < n) :
    b0r (b0g T (n+35)) N (.loop c4k) ⟨[(0,.p (.list (l.map Attr.pv))),(6,.p (.int .i64 l.length)),(7,.p (.int .i64 ((0:Nat):Int)))],[],[]⟩=some (b4x (b0z [] 0 l)):=by
  refine b1w (C:=b0g T (n+35)) (N:=N) (B:=c4k) (σ := Nat) (S:=fun i=>⟨[(0,.p (.list (l.map Attr.pv))),(6,.p (.int .i64 l.length)),(7,.p (.int .i64 i))],[],[]⟩) (I:=fun i=>i≤l.length∧i≤64) (μ := fun i=>l.length - i)
    (Φ := fun i=>b4x (b0z (b2c l i) i (l.drop i))) ?_ 0 ⟨by omega,by omega⟩ (by omega)
  rintro i ⟨hi,hi64⟩
  by_cases h:i<l.length
  · have k1:(i:Int)<(l.length:Int):=by omega
    obtain ⟨a,ha⟩:=b0t h
    have ga:=b1l (f:=Attr.pv) ha
    have hsa:=hs a (List.mem_of_getElem? ha)
    rw [g1k ha]
    have bad:∀ e:Int,b1r (b2c l i) i a=e→e≠0→b0r (b0g T (n+35)) N c4k ⟨[(0,.p (.list (l.map Attr.pv))),(6,.p (.int .i64 l.length)),(7,.p (.int .i64 i))],[],[]⟩=some (.ret,⟨[(2,.p (.int .i64 i)),(3,.p (.int .i64 e))],[],[]⟩) →
        (∃ s',b0r (b0g T (n+35)) N c4k ⟨[(0,.p (.list (l.map Attr.pv))),(6,.p (.int .i64 l.length)),(7,.p (.int .i64 i))],[],[]⟩=some (.normal,(fun (i:Nat)=>(⟨[(0,.p (.list (l.map Attr.pv))),(6,.p (.int .i64 l.length)),(7,.p (.int .i64 i))],[],[]⟩:St)) s')∧(s'≤l.length∧s'≤64)∧l.length - s'<l.length - i∧b4x (if b1r (b2c l i) i a=0 then b0z (b2c l (i+1)) (i+1) (l.drop (i+1)) else ((i:Int),b1r (b2c l i) i a))=b4x (b0z (b2c l s') s' (l.drop s'))) ∨
        (b0r (b0g T (n+35)) N c4k ⟨[(0,.p (.list (l.map Attr.pv))),(6,.p (.int .i64 l.length)),(7,.p (.int .i64 i))],[],[]⟩=some (b4x (if b1r (b2c l i) i a=0 then b0z (b2c l (i+1)) (i+1) (l.drop (i+1)) else ((i:Int),b1r (b2c l i) i a)))∧(b4x (if b1r (b2c l i) i a=0 then b0z (b2c l (i+1)) (i+1) (l.drop (i+1)) else ((i:Int),b1r (b2c l i) i a))).1 ≠ .normal):=fun e he h0 hr=>by
      refine .inr ?_
      rw [he,if_neg h0]
      simp only [b4x,h0,if_false]
      exact ⟨hr,by simp⟩
    by_cases h64:i=64
    · refine bad 12 (by simp [b1r,h64]) (by decide) ?_
      have k2:((i:Int)==64)=true:=by simp;omega
      simp -implicitDefEqProofs (disch:=omega) only [Rx,simprocAttr,c4k,k1,k2]
    have k2:((i:Int)==64)=false:=by simp;omega
    cases hnm:b1z true a.name with
    | false =>
      refine bad 8 (by simp [b1r,h64,hnm]) (by decide) ?_
      simp -implicitDefEqProofs (disch:=omega) only [Rx,simprocAttr,c4k,k1,k2,ga,Attr.pv,b2u,hnm]
    | true=>
    by_cases hlong:65536<(a.value.length:Int)
    · refine bad 3 (by simp [b1r,h64,hnm,hlong]) (by decide) ?_
      simp -implicitDefEqProofs (disch:=omega) only [Rx,simprocAttr,c4k,k1,k2,ga,Attr.pv,b2u,hnm,hlong]
    cases i with
    | zero =>
      have e:b1r (b2c l 0) 0 a=0:=by simp [b1r,hnm,hlong,b2c]
      rw [e,if_pos rfl]
      refine .inl ⟨1, ?_,⟨by omega,by omega⟩,by omega,rfl⟩
      simp only [Int.natCast_zero,Int.natCast_one] at k1 k2 ⊢
      have k3:(0:Int)<(l.length:Int):=k1
      have ga0:(l.map Attr.pv).getD 0 []=Attr.pv a:=ga
      have e0:Int.toNat 0=0:=rfl
      simp -implicitDefEqProofs (disch:=omega) only [Rx,simprocAttr,c4k,k3,ga0,e0,Attr.pv,b2u,hnm,hlong]
    | succ j =>
      obtain ⟨b,hb⟩:=b0t (show j<l.length by omega)
      have gb:=b1l (f:=Attr.pv) hb
      have hsb:=hs b (List.mem_of_getElem? hb)
      have ep:b2c l (j+1)=[b]:=by simp [b2c,hb]
      have k3:(0:Int)<(j:Int)+1:=by omega
      have k4:(j:Int)<(l.length:Int):=by omega
      simp only [Int.natCast_add,Int.natCast_one] at k1 k2
      have k5:((j:Int)+1).toNat=j+1:=by omega
      have hc:=fun g=>h7g (n:=n+34) b.name a.name g (by omega) (by omega)
      by_cases heq:b.name=a.name
      · refine bad 10 (by simp [b1r,h64,hnm,hlong,ep,heq]) (by decide) ?_
        have heq':(b.name==a.name)=true:=by simpa using heq
        simp -implicitDefEqProofs (disch:=omega) only [Rx,simprocAttr,c4k,k1,k2,k3,k4,k5,ga,gb,Attr.pv,b2u,hnm,hlong,heq']
      · have heq':(b.name==a.name)=false:=by simpa using heq
        by_cases hgt:0<cmpB b.name a.name
        · refine bad 9 (by simp [b1r,h64,hnm,hlong,ep,heq,hgt]) (by decide) ?_
          simp -implicitDefEqProofs (disch:=omega) only [Rx,simprocAttr,c4k,k1,k2,k3,k4,k5,ga,gb,Attr.pv,b2u,hnm,hlong,heq',hc,hgt]
        · have e:b1r (b2c l (j+1)) (j+1) a=0:=by simp [b1r,h64,hnm,hlong,ep,heq,hgt]
          rw [e,if_pos rfl]
          refine .inl ⟨j+1+1, ?_,⟨by omega,by omega⟩,by omega,rfl⟩
          simp -implicitDefEqProofs (disch:=omega) only [Rx,simprocAttr,c4k,k1,k2,k3,k4,k5,ga,gb,Attr.pv,b2u,hnm,hlong,heq',hc,hgt]
  · have k1:¬ (i:Int)<(l.length:Int):=by omega
    have e:l.drop i=[]:=List.drop_eq_nil_of_le (by omega)
    refine .inr ⟨?_,by rw [e];simp [b0z,b4x]⟩
    rw [e]
    simp -implicitDefEqProofs (disch:=omega) only [Rx,simprocAttr,c4k,k1,b0z,b4x]
theorem g9y (l : List Attr) (hs : b2x l) (g : List AObj) {n : Nat} (hl : l.length < n + 35) (hn : 1048576 < n) : b0g T (n + 36) 64 [.p (.list (l.map Attr.pv))] g = some (.tuple [.p (.int .i64 (b0z [] 0 l).1), .p (.int .i64 (b2a l))], g) := by
  rw [b0a T64,run_pure rfl rfl rfl]
  have hloop:=h3z (n:=n) (N:=n+35) l hs hl hn
  simp only [Int.natCast_zero] at hloop
  unfold b2a
  have h1:(b0z [] 0 l).2=0→(b0z [] 0 l).1=0:=by
    have key:∀ (p:List Attr) (i:Nat) (l:List Attr),(b0z p i l).2=0→(b0z p i l).1=0:=by
      intro p i l
      induction l generalizing p i with
      | nil=>simp [b0z]
      | cons a l ih =>
        simp only [b0z]
        split
        · exact ih _ _
        · rename_i h;intro h';exact absurd h' h
    exact key [] 0 l
  generalize b0z [] 0 l=r at hloop h1
  obtain ⟨x,e⟩:=r
  simp only [b4x] at hloop h1 ⊢
  by_cases h:e=0
  · rw [if_pos h] at hloop
    rw [h1 h,h]
    simp -implicitDefEqProofs (disch:=omega) only [Rx,simprocAttr,F64,hloop]
  · rw [if_neg h] at hloop
    simp -implicitDefEqProofs (disch:=omega) only [Rx,simprocAttr,F64,hloop]
end Go.TA.Tryz


end
section
/- What is wrong with a node alone. -/
namespace Go.TA.Tryz
def b1p (x:GRow):Int:=if b1z false x.tag=false then 7 else if 65536<(x.key.length:Int) then 3 else if 65536<(x.text.length:Int) then 3 else b2a x.attrs
def b0w (x:GRow) (ks:List (List PV)):List PV:=[.str x.tag,.str x.key,.str x.text,.list (x.attrs.map Attr.pv),.list ks]
theorem g9r (x:GRow) (ks:List (List PV)) (hs:b2x x.attrs) (g:List AObj) {n:Nat} (hl:x.attrs.length<n) (hn:1048576<n) :
    b0g T (n+37) 52 [.p (.agg (b0w x ks))] g=some (.p (.int .i64 (b1p x)),g):=by
  rw [b0a T52,run_pure rfl rfl rfl]
  have ha:=fun g=>g9y x.attrs hs g (n:=n) (by omega) hn
  cases h1:b1z false x.tag with
  | false =>
    have e:b1p x=7:=by simp [b1p,h1]
    rw [e]
    simp -implicitDefEqProofs (disch:=omega) only [Rx,simprocAttr,F52,b0w,b2u,h1]
  | true=>
  by_cases h2:65536<(x.key.length:Int)
  · have e:b1p x=3:=by simp [b1p,h1,h2]
    rw [e]
    simp -implicitDefEqProofs (disch:=omega) only [Rx,simprocAttr,F52,b0w,b2u,h1,h2]
  by_cases h3:65536<(x.text.length:Int)
  · have e:b1p x=3:=by simp [b1p,h1,h2,h3]
    rw [e]
    simp -implicitDefEqProofs (disch:=omega) only [Rx,simprocAttr,F52,b0w,b2u,h1,h2,h3]
  have e:b1p x=b2a x.attrs:=by simp [b1p,h1,h2,h3]
  rw [e]
  simp -implicitDefEqProofs (disch:=omega) only [Rx,simprocAttr,F52,b0w,b2u,h1,h2,h3,ha]
theorem g4u (x:GRow) (ks:List (List PV)) (g:List AObj) {n:Nat} (hl:x.attrs.length<n) :
    b0g T (n+38) 216 [.p (.agg (b0w x ks))] g=some (.p (.int .i64 (b1p x)),g):=by
  rw [b0a T216,run_pure rfl rfl rfl]
  have ha:=fun g=>g9p x.attrs g (n:=n) (by omega)
  cases h1:b1z false x.tag with
  | false =>
    have e:b1p x=7:=by simp [b1p,h1]
    rw [e]
    simp -implicitDefEqProofs (disch:=omega) only [Rx,simprocAttr,F216,b0w,c4m,h1]
  | true=>
  by_cases h2:(x.key.length:Int)≤65536
  rotate_left
  · have e:b1p x=3:=by simp [b1p,h1];omega
    rw [e]
    simp -implicitDefEqProofs (disch:=omega) only [Rx,simprocAttr,F216,b0w,c4m,h1,b4i,h2]
  by_cases h3:(x.text.length:Int)≤65536
  rotate_left
  · have e:b1p x=3:=by simp [b1p,h1];omega
    rw [e]
    simp -implicitDefEqProofs (disch:=omega) only [Rx,simprocAttr,F216,b0w,c4m,h1,b4i,h2,h3]
  have e:b1p x=b2a x.attrs:=by
    have h2':¬ 65536<(x.key.length:Int):=by omega
    have h3':¬ 65536<(x.text.length:Int):=by omega
    simp [b1p,h1,h2',h3']
  rw [e]
  simp -implicitDefEqProofs (disch:=omega) only [Rx,simprocAttr,F216,b0w,c4m,h1,b4i,h2,h3,ha]
end Go.TA.Tryz


end
