/- Part 7 of 15 of a proof; joined from MS, MDef, RMem, AttrsDef, DocDef, LinkL, DocMem, DocAt. Where a document lies in memory, and what is written there. Plain. -/
import Derived.Test.YtbgbmdjfogohnaaGreatDoorIr6
import Derived.Test.YtbgbmdjfogohnaaGreatDoorIr1
set_option linter.unusedSimpArgs false
set_option linter.unusedVariables false
set_option linter.defProp false
set_option maxRecDepth 100000
set_option maxHeartbeats 8000000
section
/- What a machine is, and what is done with it. Plain. -/
namespace Go.TA
structure MS where
 N:Nat
 st:Nat→MNode
 kd:Nat→List Int
def liveB (S:MS) (h:Int):Bool:=decide (0≤h) && (decide (h<(S.N:Int)) && (S.st h.toNat).live)
def upOf (S:MS) (h:Int):Int:=(S.st h.toNat).up
inductive Below (S:MS) (t:Int):Int→Prop
 | here:Below S t t
 | up {h:Int}:0≤h→Below S t (upOf S h)→Below S t h
structure MS.Ok (R:Nat) (S:MS):Prop where
 pos:0<S.N
 top:(S.st 0).live=true∧(S.st 0).up = -1
 kids:∀ p:Nat,p<S.N→∀ k ∈ S.kd p,∃ c:Nat,k=(c:Int)∧c<S.N∧(S.st c).live=true∧(S.st c).up=(p:Int)
 up:∀ c:Nat,c<S.N→(S.st c).up = -1∨∃ p:Nat,p<S.N∧(S.st c).up=(p:Int)∧(S.st p).live=true∧(c:Int) ∈ S.kd p
 dead:∀ h:Nat,h<S.N→(S.st h).live=false→(S.st h).up = -1∧S.kd h=[]
 nodup:∀ p:Nat,p<S.N→(S.kd p).Nodup
 rank:∃ r:Nat→Nat,(∀ c:Nat,c<S.N→r c≤R)∧∀ c p:Nat,c<S.N→(S.st c).up=(p:Int)→r p<r c
 attrs:∀ h:Nat,h<S.N→(S.st h).attrs.length≤1048577
theorem MS.Ok.more {R R':Nat} {S:MS} (h:S.Ok R) (hr:R≤R'):S.Ok R' :=
 ⟨h.pos,h.top,h.kids,h.up,h.dead,h.nodup,by obtain ⟨r,h1,h2⟩:=h.rank;exact ⟨r,fun c hc=>by have:=h1 c hc;omega,h2⟩,h.attrs⟩
theorem live_nat {S:MS} {h:Int} (hl:liveB S h=true):∃ c:Nat,h=(c:Int)∧c<S.N∧(S.st c).live=true:=by
 simp only [liveB,Bool.and_eq_true,decide_eq_true_eq] at hl
 refine ⟨h.toNat,by omega,by omega,hl.2.2⟩
theorem live_mk {S:MS} {c:Nat} (h:c<S.N) (hl:(S.st c).live=true):liveB S (c:Int)=true:=by
 simp only [liveB,Bool.and_eq_true,decide_eq_true_eq,Int.toNat_natCast]
 exact ⟨by omega,by omega,hl⟩
section
variable {R:Nat} {S:MS}
theorem nodup_len : ∀ (n : Nat) (l : List Int), l.Nodup → (∀ k ∈ l, ∃ c : Nat, k = (c : Int) ∧ c < n) → l.length ≤ n
  | 0, l, _, h => by
    cases l with
    | nil=>simp
    | cons a l=>obtain ⟨c,_,hc⟩:=h a (by simp);omega
  | n + 1, l, hn, h => by
    have:=nodup_len n (l.erase (n:Int)) (hn.erase _) (fun k hk=>by
      obtain ⟨c,rfl,hc⟩:=h k (List.mem_of_mem_erase hk)
      refine ⟨c,rfl, ?_⟩
      have:(c:Int)≠(n:Int):=fun e=>by
        rw [e] at hk
        exact hn.not_mem_erase hk
      omega)
    have:=List.length_erase (a:=(n:Int)) (l:=l)
    split at this <;> omega
theorem MS.Ok.up_lt (h:S.Ok R) {c p:Nat} (hc:c<S.N) (hu:(S.st c).up=(p:Int)):p<S.N∧(S.st p).live=true∧(c:Int) ∈ S.kd p:=by
 rcases h.up c hc with h1 | ⟨q,h1,h2,h3,h4⟩
 ·omega
 ·have:q=p:=by omega
  subst this;exact ⟨h1,h3,h4⟩
theorem MS.Ok.up_nat (h:S.Ok R) {c:Nat} (hc:c<S.N) (hu:0≤(S.st c).up):∃ p:Nat,(S.st c).up=(p:Int)∧p<S.N∧(S.st p).live=true∧(c:Int) ∈ S.kd p:=by
 rcases h.up c hc with h1 | ⟨q,h1,h2,h3,h4⟩
 ·omega
 ·exact ⟨q,h2,h1,h3,h4⟩
theorem below_neg {t:Int} (ht:0≤t):¬ Below S t (-1):=by
 intro h
 generalize e:(-1:Int)=m at h
 cases h with
 | here=>omega
 | up h1 h2=>omega
theorem below_top (h:S.Ok R) {t:Int} (ht:0<t):¬ Below S t 0:=by
  intro hb
  generalize e:(0:Int)=m at hb
  cases hb with
  | here=>omega
  | up h1 h2 =>
    subst e
    have:upOf S 0 = -1:=h.top.2
    rw [this] at h2
    exact below_neg (by omega) h2
theorem below_iff {t h:Int} (hh:0≤h) (hne:h≠t):Below S t h↔Below S t (upOf S h):=by
 constructor
 ·intro hb
  cases hb with
  | here=>exact absurd rfl hne
  | up _ h2=>exact h2
 ·exact fun h2 => .up hh h2
theorem below_rank {r:Nat→Nat} (hok:S.Ok R) (hr:∀ c p:Nat,c<S.N→(S.st c).up=(p:Int)→r p<r c) {t:Nat} {h:Int} (hb:Below S (t:Int) h):∀ c:Nat,h=(c:Int)→c<S.N→r t≤r c:=by
  induction hb with
  | here => intro c e _; have : t = c := by omega
            subst this;exact Nat.le_refl _
  | @up h h1 h2 ih =>
    intro c e hc
    subst e
    have hu:upOf S (c:Int)=(S.st c).up:=rfl
    rcases hok.up c hc with h3 | ⟨p,h3,h4,_⟩
    · rw [hu,h3] at h2;exact absurd h2 (below_neg (by omega))
    · have:=ih p (by rw [hu,h4]) h3
      have:=hr c p hc h4
      omega
def MS.create (S:MS) (x:GOp):MS:=⟨S.N+1,upd S.st S.N ⟨true, -1,x.tag,x.key,x.text,x.attrs⟩,upd S.kd S.N []⟩
def insI (l:List Int) (h b:Int):List Int:=l.take (if b=0 then l.length else l.idxOf b)++h::l.drop (if b=0 then l.length else l.idxOf b)
def placeM (S:MS) (h u:Nat) (b:Int):MS:=⟨S.N,upd S.st h { S.st h with up:=(u:Int) },upd S.kd u (insI (S.kd u) h b)⟩
def takeM (S:MS) (h:Nat):MS:=if (S.st h).up<0 then S else ⟨S.N,upd S.st h { S.st h with up := -1 },upd S.kd (S.st h).up.toNat ((S.kd (S.st h).up.toNat).filter fun k => !(k==(h:Int)))⟩
def deadN:MNode:=⟨false, -1,[],[],[],[]⟩
open Classical in
noncomputable def endM (S:MS) (h:Int):MS:=⟨S.N,fun y=>if Below S h (y:Int) then deadN else S.st y,fun y=>if Below S h (y:Int) then [] else S.kd y⟩
def setM (S:MS) (h:Nat) (a:List Attr):MS:=⟨S.N,upd S.st h { S.st h with attrs:=a },S.kd⟩
def textM (S:MS) (h:Nat) (s:Bs):MS:=⟨S.N,upd S.st h { S.st h with text:=s },S.kd⟩
theorem MS.Ok.create (h : S.Ok R) (x : GOp) (hx : x.attrs.length ≤ 1048577) : (S.create x).Ok R where
  pos:=by simp [MS.create]
  top:=by
    have:=h.pos
    simp only [MS.create]
    rw [upd_ne (by omega)]
    exact h.top
  kids p hp k hk:=by
    simp only [MS.create] at hp hk ⊢
    by_cases e:p=S.N
    · subst e;rw [upd_at] at hk;simp at hk
    · rw [upd_ne e] at hk
      obtain ⟨c,h1,h2,h3,h4⟩:=h.kids p (by omega) k hk
      refine ⟨c,h1,by omega, ?_⟩
      rw [upd_ne (by omega)];exact ⟨h3,h4⟩
  up c hc:=by
    simp only [MS.create] at hc ⊢
    by_cases e:c=S.N
    · subst e;left;rw [upd_at]
    · rw [upd_ne e]
      rcases h.up c (by omega) with h1 | ⟨p,h1,h2,h3,h4⟩
      · exact .inl h1
      · refine .inr ⟨p,by omega,h2, ?_⟩
        rw [upd_ne (by omega),upd_ne (by omega)];exact ⟨h3,h4⟩
  dead c hc hl:=by
    simp only [MS.create] at hc hl ⊢
    by_cases e:c=S.N
    · subst e;rw [upd_at] at hl;cases hl
    · rw [upd_ne e] at hl ⊢
      rw [upd_ne e]
      exact h.dead c (by omega) hl
  nodup p hp:=by
    simp only [MS.create] at hp ⊢
    by_cases e:p=S.N
    · subst e;rw [upd_at];exact List.nodup_nil
    · rw [upd_ne e];exact h.nodup p (by omega)
  rank:=by
    obtain ⟨r,h1,h2⟩:=h.rank
    refine ⟨upd r S.N 0,fun c hc => ?_,fun c p hc hu => ?_⟩
    · by_cases e:c=S.N
      · subst e;rw [upd_at];omega
      · rw [upd_ne e];exact h1 c (by simp only [MS.create] at hc;omega)
    · simp only [MS.create] at hc hu
      by_cases e:c=S.N
      · subst e;rw [upd_at] at hu;simp at hu <;> omega
      · rw [upd_ne e] at hu
        have:=(h.up_lt (by omega) hu).1
        rw [upd_ne e,upd_ne (by omega)]
        exact h2 c p (by omega) hu
  attrs c hc:=by
    simp only [MS.create] at hc ⊢
    by_cases e:c=S.N
    · subst e;rw [upd_at];exact hx
    · rw [upd_ne e];exact h.attrs c (by omega)
theorem mem_insI {l:List Int} {h b k:Int}:k ∈ insI l h b↔k=h∨k ∈ l:=by
 unfold insI
 generalize (if b=0 then l.length else l.idxOf b)=i
 rw [List.mem_append,List.mem_cons]
 have:k ∈ l↔k ∈ l.take i∨k ∈ l.drop i:=by rw [← List.mem_append,List.take_append_drop]
 rw [this]
 constructor
 ·rintro (h1 | h1 | h1)
  ·exact .inr (.inl h1)
  ·exact .inl h1
  ·exact .inr (.inr h1)
 ·rintro (h1 | h1 | h1)
  ·exact .inr (.inl h1)
  ·exact .inl h1
  ·exact .inr (.inr h1)
theorem nodup_insI {l:List Int} {h b:Int} (hn:l.Nodup) (hh:h ∉ l):(insI l h b).Nodup:=by
 unfold insI
 generalize (if b=0 then l.length else l.idxOf b)=i
 have e:l=l.take i++l.drop i:=(List.take_append_drop i l).symm
 rw [e] at hn hh
 rw [List.nodup_append] at hn ⊢
 simp only [List.mem_append,not_or] at hh
 refine ⟨hn.1,List.nodup_cons.2 ⟨hh.2,hn.2.1⟩,fun a ha b hb => ?_⟩
 rcases List.mem_cons.1 hb with rfl | hb
 ·exact fun e=>hh.1 (e ▸ ha)
 ·exact hn.2.2 a ha b hb
theorem MS.Ok.take (hk : S.Ok R) {h : Nat} (hh : h < S.N) (hl : (S.st h).live = true) : (takeM S h).Ok R ∧ ((takeM S h).st h).up = -1 := by
  unfold takeM
  split
  · rename_i h0
    refine ⟨hk, ?_⟩
    rcases hk.up h hh with h1 | ⟨p,h1,h2,_⟩
    · exact h1
    · omega
  rename_i h0
  obtain ⟨u,hu,hu1,hu2,hu3⟩:=hk.up_nat hh (by omega)
  rw [hu,Int.toNat_natCast]
  refine ⟨?_,by simp [upd_at]⟩
  have hst:∀ c,c≠h→upd S.st h { S.st h with up := -1 } c=S.st c:=fun c hc=>upd_ne hc
  have h0':h≠0:=fun e=>by subst e;have:=hk.top.2;omega
  refine ⟨hk.pos,by simp only;rw [hst 0 (fun e=>h0' e.symm)];exact hk.top,fun p hp k hkk => ?_,fun c hc => ?_,fun c hc hd => ?_,fun p hp => ?_, ?_,fun c hc => ?_⟩
  · simp only at hp hkk ⊢
    have hmem:k ∈ S.kd p∧k≠(h:Int):=by
      by_cases e:p=u
      · subst e
        rw [upd_at,List.mem_filter] at hkk
        exact ⟨hkk.1,by simpa using hkk.2⟩
      · rw [upd_ne e] at hkk
        obtain ⟨c,rfl,_,_,h4⟩:=hk.kids p hp k hkk
        refine ⟨hkk,fun e' => ?_⟩
        have:c=h:=by omega
        subst this
        omega
    obtain ⟨c,rfl,h2,h3,h4⟩:=hk.kids p hp k hmem.1
    refine ⟨c,rfl,h2, ?_⟩
    rw [hst c (fun e=>hmem.2 (by rw [e]))]
    exact ⟨h3,h4⟩
  · simp only at hc ⊢
    by_cases e:c=h
    · subst e;left;rw [upd_at]
    · rw [hst c e]
      rcases hk.up c hc with h1 | ⟨p,h1,h2,h3,h4⟩
      · exact .inl h1
      · refine .inr ⟨p,h1,h2, ?_, ?_⟩
        · by_cases e':p=h
          · subst e';rw [upd_at];exact hl
          · rw [hst p e'];exact h3
        · by_cases e':p=u
          · subst e'
            rw [upd_at,List.mem_filter]
            exact ⟨h4,by simp;omega⟩
          · rw [upd_ne e'];exact h4
  · simp only at hc hd ⊢
    by_cases e:c=h
    · subst e;rw [upd_at] at hd;simp only at hd;rw [hl] at hd;cases hd
    · rw [hst c e] at hd ⊢
      have:=hk.dead c hc hd
      refine ⟨this.1, ?_⟩
      by_cases e':c=u
      · subst e';rw [hu2] at hd;cases hd
      · rw [upd_ne e'];exact this.2
  · simp only at hp ⊢
    by_cases e:p=u
    · subst e;rw [upd_at];exact (hk.nodup _ hp).filter _
    · rw [upd_ne e];exact hk.nodup p hp
  · obtain ⟨r,h1,h2⟩:=hk.rank
    refine ⟨r,h1,fun c p hc hup => ?_⟩
    simp only at hc hup
    by_cases e:c=h
    · subst e;rw [upd_at] at hup;simp only at hup;omega
    · rw [hst c e] at hup;exact h2 c p hc hup
  · simp only at hc ⊢
    by_cases e:c=h
    · subst e;rw [upd_at];exact hk.attrs _ hc
    · rw [hst c e];exact hk.attrs c hc
theorem MS.Ok.place (hk : S.Ok R) {h u : Nat} (b : Int) (hh : h < S.N) (hl : (S.st h).live = true) (h0 : 0 < h) (hup : (S.st h).up = -1) (hu : u < S.N) (hul : (S.st u).live = true) (hb : ¬ Below S (h : Int) (u : Int)) : (placeM S h u b).Ok (R + R + 1) := by
  unfold placeM
  have hst:∀ c,c≠h→upd S.st h { S.st h with up:=(u:Int) } c=S.st c:=fun c hc=>upd_ne hc
  have hlv:∀ c,(upd S.st h { S.st h with up:=(u:Int) } c).live=(S.st c).live:=fun c=>by
    by_cases e:c=h
    · subst e;rw [upd_at]
    · rw [hst c e]
  have hnk:∀ p,p<S.N→(h:Int) ∉ S.kd p:=fun p hp hm=>by
    obtain ⟨c,h1,_,_,h4⟩:=hk.kids p hp _ hm
    have:c=h:=by omega
    subst this
    omega
  refine ⟨hk.pos,by simp only;rw [hst 0 (by omega)];exact hk.top,fun p hp k hkk => ?_,fun c hc => ?_,fun c hc hd => ?_,fun p hp => ?_, ?_,fun c hc => ?_⟩
  · simp only at hp hkk ⊢
    by_cases e:p=u
    · subst e
      rw [upd_at,mem_insI] at hkk
      rcases hkk with rfl | hkk
      · exact ⟨h,rfl,hh,by rw [hlv];exact hl,by rw [upd_at]⟩
      · obtain ⟨c,rfl,h2,h3,h4⟩:=hk.kids p hp k hkk
        refine ⟨c,rfl,h2,by rw [hlv];exact h3, ?_⟩
        rw [hst c (fun e=>by subst e;omega)];exact h4
    · rw [upd_ne e] at hkk
      obtain ⟨c,rfl,h2,h3,h4⟩:=hk.kids p hp k hkk
      refine ⟨c,rfl,h2,by rw [hlv];exact h3, ?_⟩
      rw [hst c (fun e=>by subst e;omega)];exact h4
  · simp only at hc ⊢
    by_cases e:c=h
    · subst e
      right
      refine ⟨u,hu,by rw [upd_at],by rw [hlv];exact hul, ?_⟩
      rw [upd_at,mem_insI];exact .inl rfl
    · rw [hst c e]
      rcases hk.up c hc with h1 | ⟨p,h1,h2,h3,h4⟩
      · exact .inl h1
      · refine .inr ⟨p,h1,h2,by rw [hlv];exact h3, ?_⟩
        by_cases e':p=u
        · subst e';rw [upd_at,mem_insI];exact .inr h4
        · rw [upd_ne e'];exact h4
  · simp only at hc hd ⊢
    rw [hlv] at hd
    have hne:c≠h:=fun e=>by subst e;rw [hl] at hd;cases hd
    have hne2:c≠u:=fun e=>by subst e;rw [hul] at hd;cases hd
    rw [hst c hne,upd_ne hne2]
    exact hk.dead c hc hd
  · simp only at hp ⊢
    by_cases e:p=u
    · subst e;rw [upd_at];exact nodup_insI (hk.nodup _ hp) (hnk _ hp)
    · rw [upd_ne e];exact hk.nodup p hp
  · obtain ⟨r,h1,h2⟩:=hk.rank
    classical
    refine ⟨fun c=>if Below S (h:Int) (c:Int) then r c+r u+1 else r c,fun c hc => ?_,fun c p hc hcu => ?_⟩
    · have:=h1 c hc
      have:=h1 u hu
      simp only
      split <;> omega
    · simp only at hc hcu ⊢
      by_cases e:c=h
      · subst e
        rw [upd_at] at hcu
        simp only at hcu
        have:u=p:=by omega
        subst this
        rw [if_neg hb,if_pos .here]
        omega
      · rw [hst c e] at hcu
        have hlt:=h2 c p hc hcu
        have hi:Below S (h:Int) (c:Int)↔Below S (h:Int) (p:Int):=by
          rw [below_iff (by omega) (by omega)]
          have:upOf S (c:Int)=(p:Int):=hcu
          rw [this]
        by_cases e1:Below S (h:Int) (p:Int)
        · rw [if_pos e1,if_pos (hi.2 e1)];omega
        · rw [if_neg e1,if_neg (fun q=>e1 (hi.1 q))];exact hlt
  · simp only at hc ⊢
    by_cases e:c=h
    · subst e;rw [upd_at];exact hk.attrs _ hc
    · rw [hst c e];exact hk.attrs c hc
theorem MS.Ok.endM (hk : S.Ok R) {h : Nat} (hh : h < S.N) (h0 : 0 < h) (hup : (S.st h).up = -1) : (endM S (h : Int)).Ok R := by
  unfold Go.TA.endM
  have hb:∀ c p:Nat,c<S.N→(S.st c).up=(p:Int)→(Below S (h:Int) (c:Int)↔Below S (h:Int) (p:Int)):=fun c p hc hu=>by
    have hne:c≠h:=fun e=>by subst e;omega
    rw [below_iff (by omega) (by omega)]
    have:upOf S (c:Int)=(p:Int):=hu
    rw [this]
  have ht:=below_top hk (t:=(h:Int)) (by omega)
  classical
  refine ⟨hk.pos, ?_,fun p hp k hkk => ?_,fun c hc => ?_,fun c hc hd => ?_,fun p hp => ?_, ?_,fun c hc => ?_⟩
  · simp only
    rw [if_neg (by simpa using ht)];exact hk.top
  · simp only at hp hkk ⊢
    by_cases e:Below S (h:Int) (p:Int)
    · rw [if_pos e] at hkk;simp at hkk
    · rw [if_neg e] at hkk
      obtain ⟨c,rfl,h2,h3,h4⟩:=hk.kids p hp k hkk
      refine ⟨c,rfl,h2, ?_⟩
      rw [if_neg (fun q=>e ((hb c p h2 h4).1 q))]
      exact ⟨h3,h4⟩
  · simp only at hc ⊢
    by_cases e:Below S (h:Int) (c:Int)
    · left;rw [if_pos e];rfl
    · rw [if_neg e]
      rcases hk.up c hc with h1 | ⟨p,h1,h2,h3,h4⟩
      · exact .inl h1
      · have e2:¬ Below S (h:Int) (p:Int):=fun q=>e ((hb c p hc h2).2 q)
        refine .inr ⟨p,h1,h2, ?_⟩
        rw [if_neg e2,if_neg e2]
        exact ⟨h3,h4⟩
  · simp only at hc hd ⊢
    by_cases e:Below S (h:Int) (c:Int)
    · rw [if_pos e,if_pos e];exact ⟨rfl,rfl⟩
    · rw [if_neg e] at hd
      rw [if_neg e,if_neg e];exact hk.dead c hc hd
  · simp only at hp ⊢
    by_cases e:Below S (h:Int) (p:Int)
    · rw [if_pos e];exact List.nodup_nil
    · rw [if_neg e];exact hk.nodup p hp
  · obtain ⟨r,h1,h2⟩:=hk.rank
    refine ⟨r,h1,fun c p hc hcu => ?_⟩
    simp only at hc hcu
    by_cases e:Below S (h:Int) (c:Int)
    · rw [if_pos e] at hcu;simp [deadN] at hcu <;> omega
    · rw [if_neg e] at hcu;exact h2 c p hc hcu
  · simp only at hc ⊢
    by_cases e:Below S (h:Int) (c:Int)
    · rw [if_pos e];simp [deadN]
    · rw [if_neg e];exact hk.attrs c hc
theorem MS.Ok.same (hk:S.Ok R) {st:Nat→MNode} (hs:∀ c,c<S.N→(st c).live=(S.st c).live∧(st c).up=(S.st c).up∧(st c).attrs.length≤1048577):(⟨S.N,st,S.kd⟩:MS).Ok R:=by
 refine ⟨hk.pos,⟨by rw [(hs 0 hk.pos).1];exact hk.top.1,by rw [(hs 0 hk.pos).2.1];exact hk.top.2⟩,fun p hp k hkk => ?_,fun c hc => ?_,fun c hc hd => ?_,hk.nodup, ?_,fun c hc=>(hs c hc).2.2⟩
 ·obtain ⟨c,h1,h2,h3,h4⟩:=hk.kids p hp k hkk
  exact ⟨c,h1,h2,by simp only;rw [(hs c h2).1];exact h3,by simp only;rw [(hs c h2).2.1];exact h4⟩
 ·simp only at hc ⊢
  rw [(hs c hc).2.1]
  rcases hk.up c hc with h1 | ⟨p,h1,h2,h3,h4⟩
  ·exact .inl h1
  ·exact .inr ⟨p,h1,h2,by rw [(hs p h1).1];exact h3,h4⟩
 ·simp only at hc hd ⊢
  rw [(hs c hc).1] at hd
  rw [(hs c hc).2.1]
  exact hk.dead c hc hd
 ·obtain ⟨r,h1,h2⟩:=hk.rank
  refine ⟨r,h1,fun c p hc hcu => ?_⟩
  simp only at hc hcu
  rw [(hs c hc).2.1] at hcu
  exact h2 c p hc hcu
end
end Go.TA


end
section
/- What the machine's operations do, whichever text does them. Plain. -/
namespace Go.TA
def fitE (S:MS) (h:Int):Int:=if h=0 then 14 else if liveB S h=true then 0 else 13
open Classical in
noncomputable def underB (S:MS) (h t:Int):Bool:=decide (Below S t h)
theorem underB_iff {S:MS} {h t:Int}:underB S h t=true↔Below S t h:=by simp [underB]
def fstAt (l:List Attr) (name:Bs):Nat:=l.findIdx (fun a=>a.name==name)
def posAt (l:List Attr) (name:Bs):Nat:=l.findIdx (fun a => !(strLess a.name name))
def withA (l:List Attr) (name v:Bs):List Attr:=if fstAt l name<l.length then l.set (fstAt l name) ⟨name,v⟩ else l.take (posAt l name)++⟨name,v⟩::l.drop (posAt l name)
def notN (h:Bs) (x:Attr):Bool := !(x.name==h)
def withoutA (l:List Attr) (name:Bs):List Attr:=l.filter (notN name)
def changeM (S:MS) (h:Nat) (x:GOp):Int × MS :=
 if x.kind=5 then if 64<((withA (S.st h).attrs x.name x.text).length:Int) then (12,S) else (0,setM S h (withA (S.st h).attrs x.name x.text))
 else if x.kind=6 then if (withoutA (S.st h).attrs x.name).length<(S.st h).attrs.length then (0,setM S h (withoutA (S.st h).attrs x.name)) else (8,S)
 else if x.kind=7 then (0,textM S h x.text) else (0,S)
noncomputable def insertM (S:MS) (x:GOp):Int × MS :=
 if (liveB S x.node && (liveB S x.up && liveB S x.before))=false then (13,S)
 else if 0≤upOf S x.node then (15,S)
 else if underB S x.up x.node=true then (17,S)
 else if x.before≠0∧upOf S x.before≠x.up then (18,S)
 else (0,placeM S x.node.toNat x.up.toNat x.before)
def moveM (S:MS) (x:GOp):Int × MS :=
 if (liveB S x.node && liveB S x.before)=false then (13,S)
 else if upOf S x.node<0 then (16,S)
 else if x.before=x.node∨(x.before≠0∧upOf S x.before≠upOf S x.node) then (18,S)
 else (0,placeM (takeM S x.node.toNat) x.node.toNat (upOf S x.node).toNat x.before)
noncomputable def doM (S:MS) (x:GOp):Int × MS :=
 if x.kind=1 then (0,S.create x)
 else if x.node=0 then (14,S)
 else if x.kind=2 then insertM S x
 else if x.kind=3 then moveM S x
 else if liveB S x.node=false then (13,S)
 else if x.kind=4 then (0,endM (takeM S x.node.toNat) x.node)
 else changeM S x.node.toNat x
theorem takeM_N (S:MS) (h:Nat):(takeM S h).N=S.N:=by unfold takeM;split <;> rfl
theorem takeM_live (S:MS) (h y:Nat):((takeM S h).st y).live=(S.st y).live:=by
 unfold takeM
 split
 ·rfl
 ·simp only [upd]
  split
  ·rename_i e;subst e;rfl
  ·rfl
section
variable {R:Nat} {S:MS}
theorem place_ok (hS : S.Ok R) {h u : Nat} (b : Int) (hh : h < S.N) (hl : (S.st h).live = true) (h0 : 0 < h) (hu : (S.st h).up = (u : Int)) : (placeM (takeM S h) h u b).Ok (R + R + 1) := by
  obtain ⟨hu1,hu2,hu3⟩:=hS.up_lt hh hu
  obtain ⟨hT,hup⟩:=hS.take hh hl
  have hn:=takeM_N S h
  refine hT.place b (by rw [hn];exact hh) (by rw [takeM_live];exact hl) h0 hup (by rw [hn];exact hu1) (by rw [takeM_live];exact hu2) (fun hb => ?_)
  obtain ⟨r,_,hr⟩:=hS.rank
  have hr':∀ c p:Nat,c<(takeM S h).N→((takeM S h).st c).up=(p:Int)→r p<r c:=fun c p hc hcp=>by
    by_cases e:c=h
    · subst e;omega
    · have:((takeM S h).st c).up=(S.st c).up:=by
        unfold takeM
        split
        · rfl
        · simp only;rw [upd_ne e]
      rw [this] at hcp
      exact hr c p (by rw [hn] at hc;exact hc) hcp
  have:=below_rank hT hr' hb u rfl (by rw [hn];exact hu1)
  have:=hr h u hh hu
  omega
theorem kid_in (hS:S.Ok R) {b u:Nat} (hb:b<S.N) (hu:(S.st b).up=(u:Int)):(b:Int) ∈ S.kd u:=(hS.up_lt hb hu).2.2
end
theorem below_line {S:MS} {a b y:Int} (h1:Below S a y) (h2:Below S b y):Below S a b∨Below S b a:=by
  induction h1 with
  | here=>exact .inr h2
  | @up y hy h1 ih =>
    cases h2 with
    | here=>exact .inl (.up hy h1)
    | up _ h2=>exact ih h2
theorem below_trans {S:MS} {a b y:Int} (h1:Below S b y) (h2:Below S a b):Below S a y:=by
 induction h1 with
 | here=>exact h2
 | @up y hy h1 ih=>exact .up hy ih
section
variable {R:Nat} {S:MS} (hS:S.Ok R)
include hS
theorem below_kid {h : Nat} {y : Int} (hb : Below S (h : Int) y) : ∀ c : Nat, y = (c : Int) → c < S.N → c ≠ h → ∃ k ∈ S.kd h, Below S k (c : Int) := by
  induction hb with
  | here=>intro c e hc hne;exact absurd (by omega) hne
  | @up y hy h1 ih =>
    intro c e hc hne
    subst e
    have hu:upOf S (c:Int)=(S.st c).up:=rfl
    rcases hS.up c hc with h3 | ⟨p,h3,h4,h5,h6⟩
    · rw [hu,h3] at h1;exact absurd h1 (below_neg (by omega))
    · by_cases e:p=h
      · subst e;exact ⟨_,h6,.here⟩
      · obtain ⟨k,hk,hb⟩:=ih p (by rw [hu,h4]) h3 e
        exact ⟨k,hk,.up (by omega) (by rw [hu,h4];exact hb)⟩
theorem kid_below {h:Nat} (hh:h<S.N) {k y:Int} (hk:k ∈ S.kd h) (hb:Below S k y):Below S (h:Int) y:=by
 obtain ⟨c,rfl,hc,_,hu⟩:=hS.kids h hh k hk
 refine below_trans hb (.up (by omega) ?_)
 have:upOf S (c:Int)=(h:Int):=hu
 rw [this];exact .here
theorem kids_apart {h:Nat} (hh:h<S.N) {k k' y:Int} (hk:k ∈ S.kd h) (hk':k' ∈ S.kd h) (hb:Below S k y) (hb':Below S k' y):k=k':=by
 obtain ⟨r,_,hr⟩:=hS.rank
 have key:∀ k k':Int,k ∈ S.kd h→k' ∈ S.kd h→Below S k k'→k=k':=by
  intro k k' hk hk' hb
  obtain ⟨c,rfl,hc,_,hu⟩:=hS.kids h hh k hk
  obtain ⟨c',rfl,hc',_,hu'⟩:=hS.kids h hh k' hk'
  by_cases e:c=c'
  ·rw [e]
  ·rw [below_iff (by omega) (by omega)] at hb
   have e2:upOf S (c':Int)=(h:Int):=hu'
   rw [e2] at hb
   have:=below_rank hS hr hb h rfl hh
   have:=hr c h hc hu
   omega
 rcases below_line hb hb' with h1 | h1
 ·exact key _ _ hk hk' h1
 ·exact (key _ _ hk' hk h1).symm
end
def bnd (R:Nat):Nat→Nat
 | 0=>R
 | k+1=>bnd R k+bnd R k+1
theorem bnd_mono (R:Nat):∀ {i j:Nat},i≤j→bnd R i≤bnd R j:=by
  intro i j h
  induction j with
  | zero => have : i = 0 := by omega
            subst this;exact Nat.le_refl _
  | succ j ih =>
    by_cases e:i=j+1
    · subst e;exact Nat.le_refl _
    · have:=ih (by omega)
      simp only [bnd];omega
end Go.TA


end
section
/- The document's answer in memory: its living nodes in a row. Plain. -/
namespace Go.TA
def RowRep (sz:Nat) (xs:List (List AV)) (o:AObj):Prop:=o = .cells sz xs∨∃ ps:List (List PV),o = .pcells sz ps∧xs=ps.map (fun c=>c.map AV.p)
theorem pures_ofmap (c:List PV):pures (c.map AV.p)=some c:=by
 induction c with
 | nil=>rfl
 | cons a c ih=>simp [pures,ih]
theorem pures_some {c:List AV} {ps:List PV} (h:pures c=some ps):c=ps.map AV.p:=by
  induction c generalizing ps with
  | nil=>simp [pures] at h;subst h;rfl
  | cons a c ih =>
    cases a <;> simp [pures] at h
    obtain ⟨qs,h1,rfl⟩:=h
    rw [ih h1];rfl
theorem ofCells_map (c:List PV):ofCells (c.map AV.p) = .p (.agg c):=by simp [ofCells,pures_ofmap]
theorem map_getD (ps:List (List PV)) (i:Nat):(ps.map (fun c=>c.map AV.p)).getD i []=(ps.getD i []).map AV.p:=by
 simp only [List.getD_eq_getElem?_getD,List.getElem?_map]
 cases ps[i]? <;> rfl
theorem map_getD1 {c:List PV} {j:Nat} (hj:j<c.length):(c.map AV.p).getD j .bot = .p (c.getD j .nilp):=by
 simp only [List.getD_eq_getElem?_getD,List.getElem?_map,List.getElem?_eq_getElem hj];rfl
theorem over_one {α : Type} (v : α) (l:List α) {j:Nat} (hj:j<l.length):over j [v] l=l.set j v:=by
 unfold over
 split
 ·rename_i h
  obtain ⟨rfl,h2⟩:=h
  match l,h2 with
  | [a],_=>rfl
 ·rw [List.set_eq_take_append_cons_drop,if_pos hj];simp
theorem sub_all {α : Type} (l:List α):sub 0 l.length l=l:=by simp [sub]
section
variable {sz:Nat} {xs:List (List AV)} {o:AObj} (h:RowRep sz xs o)
include h
theorem RowRep.idx {n:Nat} (hn:xs.length=n) (s:St) (z:Bool) (k:Nat) (i:Int) (h0:0≤i) (hi:i<(n:Int)):idxAt s z k sz n i o=some (.ptr z k sz n i.toNat 0,s):=by
 rcases h with rfl | ⟨ps,rfl,rfl⟩
 ·simp [idxAt,hn,h0,hi]
 ·rw [List.length_map] at hn;simp [idxAt,hn,h0,hi]
theorem RowRep.rd1 {n:Nat} (hn:xs.length=n) {i j:Nat} {c:List AV} (hi:i<n) (hc:xs.getD i []=c) (hl:c.length=sz) (hj:j+1≤sz):o.rd 1 n i j sz false=some (c.getD j .bot):=by
 rcases h with rfl | ⟨ps,rfl,rfl⟩
 ·rw [AObj.rd,if_pos ⟨rfl,hn,hi,hj⟩,hc];simp
 ·rw [List.length_map] at hn
  rw [map_getD] at hc
  rw [AObj.rd,if_pos ⟨rfl,hn,hi,hj⟩]
  subst hc
  rw [List.length_map] at hl
  rw [map_getD1 (by omega)]
  simp
theorem RowRep.rdA {n:Nat} (hn:xs.length=n) {i:Nat} {c:List AV} (hi:i<n) (hc:xs.getD i []=c) (hl:c.length=sz):o.rd sz n i 0 sz true=some (ofCells c):=by
 rcases h with rfl | ⟨ps,rfl,rfl⟩
 ·rw [AObj.rd,if_pos ⟨rfl,hn,hi,by omega⟩,hc]
  have:=sub_all c
  rw [hl] at this
  simp [this]
 ·rw [List.length_map] at hn
  rw [map_getD] at hc
  rw [AObj.rd,if_pos ⟨rfl,hn,hi,by omega⟩]
  subst hc
  rw [List.length_map] at hl
  have:=sub_all (ps.getD i [])
  rw [hl] at this
  rw [this,ofCells_map]
  simp
theorem RowRep.wr1 {n : Nat} (hn : xs.length = n) {i j : Nat} {c : List AV} (hi : i < n) (hc : xs.getD i [] = c) (hl : c.length = sz) (hj : j + 1 ≤ sz) (v : AV) : ∃ o', o.wr n i j sz [v] = some o' ∧ RowRep sz (xs.set i (c.set j v)) o' := by
  rcases h with rfl | ⟨ps,rfl,rfl⟩
  · refine ⟨_,by rw [AObj.wr,if_pos ⟨rfl,hn,hi,hj⟩],.inl ?_⟩
    rw [hc,over_one v c (by omega)]
  · rw [List.length_map] at hn
    rw [map_getD] at hc
    have hpl:(ps.getD i []).length=sz:=by rw [← hl, ← hc,List.length_map]
    rw [AObj.wr,if_pos ⟨rfl,hn,hi,hj⟩]
    cases hp:pures [v] with
    | none =>
      refine ⟨_,rfl,.inl ?_⟩
      rw [over_one v _ (by rw [List.length_map];omega),hc]
    | some qs =>
      have:=pures_some hp
      match qs,this with
      | [w], e =>
        simp only [List.map_cons,List.map_nil,List.cons.injEq,and_true] at e
        subst e
        refine ⟨_,rfl,.inr ⟨_,rfl, ?_⟩⟩
        rw [over_one w _ (by omega),List.map_set,List.map_set,hc]
theorem RowRep.app {n bytes:Nat} (hn:xs.length=n) (hb:(n+1)*bytes≤140737488355328∧n+1≤140737488355328) {c:List AV} (hl:c.length=sz) (hc:noLocals c=true):∃ o',(∀ (s:St) (k:Nat),appendTo s true k n sz bytes o (.lit [c])=some (.own true k (n+1),s.putObj true k o'))∧RowRep sz (xs++[c]) o':=by
  have hk:okFor true [c]=true:=by simp [okFor,hc]
  rcases h with rfl | ⟨ps,rfl,rfl⟩
  · refine ⟨.cells sz (xs++[c]),fun s k => ?_,.inl rfl⟩
    simp only [appendTo,hn,List.length_singleton,List.length_append,List.all_cons,List.all_nil,hl,beq_self_eq_true,Bool.and_self,hb,and_self,if_true,hk]
  · rw [List.length_map] at hn
    cases hp:pures c with
    | some qs =>
      refine ⟨.pcells sz (ps++[qs]),fun s k => ?_,.inr ⟨_,rfl, ?_⟩⟩
      · simp only [appendTo,hn,List.length_singleton,List.length_append,List.all_cons,List.all_nil,hl,beq_self_eq_true,Bool.and_self,hb,and_self,if_true,puress,hp]
      · rw [pures_some hp];simp
    | none =>
      refine ⟨.cells sz (ps.map (fun c=>c.map AV.p)++[c]),fun s k => ?_,.inl rfl⟩
      simp only [appendTo,hn,List.length_singleton,List.length_append,List.length_map,List.all_cons,List.all_nil,hl,beq_self_eq_true,Bool.and_self,hb,and_self,if_true,puress,hp,hk]
end
theorem RowRep.nil (sz:Nat):RowRep sz [] (.pcells sz []):=.inr ⟨[],rfl,rfl⟩
theorem cells_ofCells (c:List AV):(ofCells c).cells=some c:=by
 unfold ofCells
 cases h:pures c with
 | some ps=>rw [pures_some h];rfl
 | none=>rfl
def liveL (S:MS):List Nat:=(List.range S.N).filter fun h=>(S.st h).live
theorem mem_liveL {S:MS} {h:Nat}:h ∈ liveL S↔h<S.N∧(S.st h).live=true:=by simp [liveL]
theorem liveL_nodup (S:MS):(liveL S).Nodup:=List.nodup_range.filter _
theorem live_liveL {S:MS} {h:Int} (hl:liveB S h=true):∃ c:Nat,h=(c:Int)∧c ∈ liveL S:=by
 obtain ⟨c,h1,h2,h3⟩:=live_nat hl
 exact ⟨c,h1,mem_liveL.2 ⟨h2,h3⟩⟩
theorem liveB_iff {S : MS} {c : Nat} : liveB S (c : Int) = true ↔ c ∈ liveL S := by
  rw [mem_liveL]
  exact ⟨fun h => by obtain ⟨d, h1, h2, h3⟩ := live_nat h; have : d = c := by omega
                     subst this;exact ⟨h2,h3⟩,fun h=>live_mk h.1 h.2⟩
def posL (L:List Nat) (id:Int):Int:=if L.findIdx (fun h:Nat=>(h:Int)==id)<L.length then (L.findIdx (fun h:Nat=>(h:Int)==id):Int) else -1
theorem posL_in {L:List Nat} {c:Nat} (h:c ∈ L):∃ i:Nat,posL L (c:Int)=(i:Int)∧L[i]? = some c:=by
 have h1:L.findIdx (fun h:Nat=>(h:Int)==(c:Int))<L.length:=List.findIdx_lt_length_of_exists ⟨c,h,by simp⟩
 refine ⟨_,by rw [posL,if_pos h1], ?_⟩
 have:=List.findIdx_getElem (xs:=L) (p:=fun h:Nat=>(h:Int)==(c:Int)) (w:=h1)
 rw [List.getElem?_eq_getElem h1]
 simp only [beq_iff_eq] at this
 congr 1;omega
theorem posL_out {L:List Nat} {id:Int} (h:∀ c ∈ L,(c:Int)≠id):posL L id = -1:=by
 rw [posL,if_neg]
 intro h1
 have:=List.findIdx_getElem (xs:=L) (p:=fun h:Nat=>(h:Int)==id) (w:=h1)
 simp only [beq_iff_eq] at this
 exact h _ (List.getElem_mem h1) this
theorem posL_dead {S:MS} {id:Int} (h:liveB S id=false):posL (liveL S) id = -1:=posL_out fun c hc e=>by
 rw [← e,liveB_iff.2 hc] at h;cases h
def nAV (h:Nat) (s:MNode) (k:AV):List AV:=[.p (.int .i64 h),.p (.int .i64 s.up),k,.p (.str s.tag),.p (.str s.key),.p (.str s.text),.p (.list (s.attrs.map Attr.pv))]
def rowsD (L:List Nat) (st:Nat→MNode) (av:Nat→AV):List (List AV):=L.map fun h=>nAV h (st h) (av h)
section
variable {L:List Nat} {st:Nat→MNode} {av:Nat→AV}
theorem rowsD_len:(rowsD L st av).length=L.length:=by simp [rowsD]
theorem rowsD_get {i c:Nat} (h:L[i]? = some c):(rowsD L st av).getD i []=nAV c (st c) (av c):=by
 rw [List.getD_eq_getElem?_getD,rowsD,List.getElem?_map,h];rfl
theorem rowsD_set (hn:L.Nodup) {i c:Nat} (h:L[i]? = some c) (s:MNode) (a:AV):(rowsD L st av).set i (nAV c s a)=rowsD L (upd st c s) (upd av c a):=by
 apply List.ext_getElem
 ·simp [rowsD]
 ·intro k h1 h2
  have hk:k<L.length:=by simpa [rowsD] using h2
  obtain ⟨hi,e⟩:=List.getElem?_eq_some_iff.1 h
  rw [List.getElem_set]
  simp only [rowsD,List.getElem_map]
  by_cases e2:i=k
  ·subst e2;rw [if_pos rfl,e,upd_at,upd_at]
  ·rw [if_neg e2]
   have:L[k]≠c:=fun e3=>e2 ((List.getElem_inj hn).1 (e.trans e3.symm))
   rw [upd_ne this,upd_ne this]
theorem rowsD_push {c:Nat} (h:c ∉ L) (s:MNode) (a:AV):rowsD L st av++[nAV c s a]=rowsD (L++[c]) (upd st c s) (upd av c a):=by
 simp only [rowsD,List.map_append,List.map_cons,List.map_nil,upd_at]
 congr 1
 apply List.map_congr_left
 intro k hk
 have:k≠c:=fun e=>h (e ▸ hk)
 rw [upd_ne this,upd_ne this]
theorem rowsD_congr {st':Nat→MNode} {av':Nat→AV} (h:∀ k ∈ L,st k=st' k∧av k=av' k):rowsD L st av=rowsD L st' av':=by
 unfold rowsD
 apply List.map_congr_left
 intro k hk
 rw [(h k hk).1,(h k hk).2]
end
inductive KG (g:List AObj):AV→List Int→Prop
 | none:KG g .nils []
 | own {r:Nat} {ks:List Int}:g[r]? = some (.pcells 1 (intsPV ks))→KG g (.own true r ks.length) ks
 | list {ks:List Int}:KG g (.p (.list (intsPV ks))) ks
theorem KG.inv {g:List AObj} {a:AV} {ks:List Int} (h:KG g a ks):(a = .nils∧ks=[])∨(∃ r,a = .own true r ks.length∧g[r]? = some (.pcells 1 (intsPV ks)))∨a = .p (.list (intsPV ks)):=by
 cases h with
 | none=>exact .inl ⟨rfl,rfl⟩
 | own h=>exact .inr (.inl ⟨_,rfl,h⟩)
 | list=>exact .inr (.inr rfl)
theorem KG.keep {g g':List AObj} {a:AV} {ks:List Int} (h:KG g a ks) (hg:∀ r,refOf a=some r→g'[r]? = g[r]?):KG g' a ks:=by
 cases h with
 | none=>exact .none
 | own h=>exact .own (by rw [hg _ rfl];exact h)
 | list=>exact .list
theorem KG.ref_lt {g:List AObj} {a:AV} {ks:List Int} (h:KG g a ks) {r:Nat} (hr:refOf a=some r):r<g.length:=by
  cases h with
  | none=>cases hr
  | own h =>
    simp only [refOf,Option.some.injEq] at hr
    subst hr
    exact (List.getElem?_eq_some_iff.1 h).1
  | list=>cases hr
theorem KG.noLocal {g:List AObj} {a:AV} {ks:List Int} (h:KG g a ks):noLocal a=true:=by
 cases h <;> simp [Go.TA.noLocal]
abbrev DP (p:Nat):AV:=.ptr true p 2 1 0 0
structure DC (L:List Nat) (st:Nat→MNode) (nx:Int) (av:Nat→AV) (p q:Nat) (g:List AObj):Prop where
 obj:g[p]? = some (.cells 2 [[.own true q L.length,.p (.int .i64 nx)]])
 row:∃ o,g[q]? = some o∧RowRep 7 (rowsD L st av) o
 pq:p≠q
 nodup:L.Nodup
structure DM (L:List Nat) (st:Nat→MNode) (kd:Nat→List Int) (nx:Int) (av:Nat→AV) (p q:Nat) (g:List AObj):Prop where
 core:DC L st nx av p q g
 kids:∀ h,h ∈ L→KG g (av h) (kd h)
 away:∀ h,h ∈ L→refOf (av h)≠some p∧refOf (av h)≠some q
 disj:∀ h h',h ∈ L→h' ∈ L→h≠h'→refOf (av h)=none∨refOf (av h)≠refOf (av h')
structure DFr (L:List Nat) (av:Nat→AV) (p q:Nat) (g:List AObj) (L':List Nat) (av':Nat→AV) (q':Nat) (g':List AObj):Prop where
 len:g.length≤g'.length
 keep:∀ j,j<g.length→j≠p→j≠q→(∀ h,h ∈ L→refOf (av h)≠some j)→g'[j]? = g[j]?
 row:q'=q∨g.length≤q'
 refs:∀ h,h ∈ L'→∀ j,refOf (av' h)=some j→j<g.length→∃ h0,h0 ∈ L∧refOf (av h0)=some j
theorem DFr.refl (L:List Nat) (av:Nat→AV) (p q:Nat) (g:List AObj):DFr L av p q g L av q g:=⟨Nat.le_refl _,fun _ _ _ _ _=>rfl,.inl rfl,fun h hh j hj _=>⟨h,hh,hj⟩⟩
theorem DFr.trans {L L' L'':List Nat} {av av' av'':Nat→AV} {p q q' q'':Nat} {g g' g'':List AObj} (h1:DFr L av p q g L' av' q' g') (h2:DFr L' av' p q' g' L'' av'' q'' g''):DFr L av p q g L'' av'' q'' g'' where
 len:=Nat.le_trans h1.len h2.len
 keep j hj hp hq hn:=by
  rw [h2.keep j (Nat.lt_of_lt_of_le hj h1.len) hp (by rcases h1.row with e | e <;> omega) (fun h hh e=>by
   obtain ⟨h0,hh0,e0⟩:=h1.refs h hh j e hj
   exact hn h0 hh0 e0)]
  exact h1.keep j hj hp hq hn
 row:=by
  rcases h1.row with e | e <;> rcases h2.row with e2 | e2
  ·exact .inl (e2.trans e)
  ·exact .inr (Nat.le_trans h1.len e2)
  ·exact .inr (by omega)
  ·exact .inr (Nat.le_trans h1.len e2)
 refs h hh j hj hl:=by
  obtain ⟨h1',hh1,e1⟩:=h2.refs h hh j hj (Nat.lt_of_lt_of_le hl h1.len)
  exact h1.refs h1' hh1 j e1 hl
section
variable {L:List Nat} {st:Nat→MNode} {kd:Nat→List Int} {nx:Int} {av:Nat→AV} {p q:Nat} {g:List AObj}
theorem wr_node {o:AObj} (hr:RowRep 7 (rowsD L st av) o) {i c:Nat} (hi:L[i]? = some c) {j:Nat} (hj:j+1≤7) (v:AV):∃ o',o.wr L.length i j 7 [v]=some o'∧RowRep 7 ((rowsD L st av).set i ((nAV c (st c) (av c)).set j v)) o' :=
 hr.wr1 rowsD_len (List.getElem?_eq_some_iff.1 hi).1 (rowsD_get hi) rfl hj v
theorem rows_kids (hn:L.Nodup) {i c:Nat} (hi:L[i]? = some c) (v:AV):(rowsD L st av).set i ((nAV c (st c) (av c)).set 2 v)=rowsD L st (upd av c v):=by
 have:=rowsD_set (st:=st) (av:=av) hn hi (st c) v
 simp only [nAV] at this ⊢
 simp only [List.set_cons_succ,List.set_cons_zero]
 rw [this]
 refine rowsD_congr fun k _=>⟨?_,rfl⟩
 by_cases e:k=c
 ·subst e;rw [upd_at]
 ·rw [upd_ne e]
theorem rows_node (hn:L.Nodup) {i c:Nat} (hi:L[i]? = some c) (s:MNode):(rowsD L st av).set i (nAV c s (av c))=rowsD L (upd st c s) av:=by
 rw [rowsD_set hn hi]
 refine rowsD_congr fun k _=>⟨rfl, ?_⟩
 by_cases e:k=c
 ·subst e;rw [upd_at]
 ·rw [upd_ne e]
def killG (g:List AObj):AV→List AObj
 | .own true r _=>g.set r .dead
 | _=>g
theorem killG_len (g:List AObj) (a:AV):(killG g a).length=g.length:=by unfold killG;split <;> simp
theorem killG_get {g:List AObj} {a:AV} {j:Nat} (h:refOf a≠some j):(killG g a)[j]? = g[j]? := by
 unfold killG
 split
 ·rename_i r m
  rw [List.getElem?_set,if_neg]
  intro e;subst e;exact h rfl
 ·rfl
theorem DC.set (h:DC L st nx av p q g) {st':Nat→MNode} {av':Nat→AV} {o':AObj} (hr:RowRep 7 (rowsD L st' av') o'):DC L st' nx av' p q (g.set q o') where
 obj:=by rw [List.getElem?_set,if_neg (fun e=>h.pq e.symm)];exact h.obj
 row:=by
  obtain ⟨o,ho,_⟩:=h.row
  exact ⟨o',by rw [List.getElem?_set,if_pos rfl,if_pos (List.getElem?_eq_some_iff.1 ho).1],hr⟩
 pq:=h.pq
 nodup:=h.nodup
theorem DC.kill (h:DC L st nx av p q g) {a:AV} (h1:refOf a≠some p) (h2:refOf a≠some q):DC L st nx av p q (killG g a) where
 obj:=by rw [killG_get h1];exact h.obj
 row:=by rw [killG_get h2];exact h.row
 pq:=h.pq
 nodup:=h.nodup
theorem DC.more (h:DC L st nx av p q g) (r:List AObj):DC L st nx av p q (g++r) where
 obj:=by rw [List.getElem?_append_left (List.getElem?_eq_some_iff.1 h.obj).1];exact h.obj
 row:=by
  obtain ⟨o,h1,h2⟩:=h.row
  exact ⟨o,by rw [List.getElem?_append_left (List.getElem?_eq_some_iff.1 h1).1];exact h1,h2⟩
 pq:=h.pq
 nodup:=h.nodup
theorem DM.fix (h : DM L st kd nx av p q g) {c : Nat} (hc : c ∈ L) (ks : List Int) {o' : AObj} (hr : RowRep 7 (rowsD L st (upd av c (.p (.list (intsPV ks))))) o') : DM L st (upd kd c ks) nx (upd av c (.p (.list (intsPV ks)))) p q ((killG g (av c)).set q o') where
  core:=(h.core.kill (h.away c hc).1 (h.away c hc).2).set hr
  kids k hk:=by
    by_cases e:k=c
    · subst e;rw [upd_at,upd_at];exact .list
    · rw [upd_ne e,upd_ne e]
      refine (h.kids k hk).keep fun r hr => ?_
      rw [List.getElem?_set,if_neg (fun e=>(h.away k hk).2 (by rw [e];exact hr)),killG_get]
      intro e2
      rcases h.disj k c hk hc e with h1 | h1
      · rw [h1] at hr;cases hr
      · exact h1 (by rw [hr,e2])
  away k hk:=by
    by_cases e:k=c
    · subst e;rw [upd_at];simp [refOf]
    · rw [upd_ne e];exact h.away k hk
  disj k k' hk hk' hne:=by
    by_cases e:k=c
    · subst e;left;rw [upd_at];rfl
    · rw [upd_ne e]
      by_cases e':k'=c
      · subst e'
        rw [upd_at]
        cases hr:refOf (av k) with
        | none=>exact .inl rfl
        | some q=>exact .inr (by simp [refOf])
      · rw [upd_ne e'];exact h.disj k k' hk hk' hne
theorem DFr.fix (h:DM L st kd nx av p q g) {c:Nat} (hc:c ∈ L) (ks:List (List PV)) (o':AObj):DFr L av p q g L (upd av c (.p (.list ks))) q ((killG g (av c)).set q o') where
 len:=by rw [List.length_set,killG_len];exact Nat.le_refl _
 keep j hj hp hq hn:=by rw [List.getElem?_set,if_neg (fun e=>hq e.symm),killG_get (hn c hc)]
 row:=.inl rfl
 refs k hk j hj _:=by
  by_cases e:k=c
  ·subst e;rw [upd_at] at hj;cases hj
  ·rw [upd_ne e] at hj;exact ⟨k,hk,hj⟩
theorem DM.node (h:DM L st kd nx av p q g) (st':Nat→MNode) {o':AObj} (hr:RowRep 7 (rowsD L st' av) o'):DM L st' kd nx av p q (g.set q o') where
 core:=h.core.set hr
 kids k hk:=(h.kids k hk).keep fun r hr=>by rw [List.getElem?_set,if_neg (fun e=>(h.away k hk).2 (by rw [e];exact hr))]
 away:=h.away
 disj:=h.disj
theorem DFr.node (o':AObj):DFr L av p q g L av q (g.set q o') where
 len:=by rw [List.length_set];exact Nat.le_refl _
 keep j hj hp hq hn:=by rw [List.getElem?_set,if_neg (fun e=>hq e.symm)]
 row:=.inl rfl
 refs k hk j hj _:=⟨k,hk,hj⟩
end
theorem KG.frz {g:List AObj} {a:AV} {ks:List Int} (h:KG g a ks) (fr:List (Nat × AV)) (l:List (Nat × AObj)):Go.TA.frz ⟨fr,l,g⟩ a=some (.list (intsPV ks),⟨fr,l,killG g a⟩):=by
 cases h with
 | none=>rfl
 | own h=>simp only [Go.TA.frz,St.obj,if_true,h,intsPV_len,St.putObj,killG]
 | list=>rfl
def inL (l:List Int) (h b:Int):List Int:=(l.flatMap fun k=>if k=b then [h,k] else [k])++if b=0 then [h] else []
theorem inL_none {l:List Int} {h b:Int} (hb:b ∉ l):(l.flatMap fun k=>if k=b then [h,k] else [k])=l:=by
  induction l with
  | nil=>rfl
  | cons a l ih =>
    simp only [List.mem_cons,not_or] at hb
    rw [List.flatMap_cons,if_neg (fun e=>hb.1 e.symm),ih hb.2];rfl
theorem inL_insI {l : List Int} {h b : Int} (hn : l.Nodup) (h0 : (0 : Int) ∉ l) (hb : b = 0 ∨ b ∈ l) : inL l h b = insI l h b := by
  unfold inL insI
  by_cases e:b=0
  · subst e
    rw [inL_none h0,if_pos rfl,if_pos rfl,List.take_length,List.drop_length]
  · have hm:b ∈ l:=by rcases hb with h1 | h1;exact absurd h1 e;exact h1
    rw [if_neg e,if_neg e,List.append_nil]
    induction l with
    | nil=>simp at hm
    | cons a l ih =>
      rw [List.nodup_cons] at hn
      simp only [List.mem_cons,not_or] at h0
      rw [List.flatMap_cons]
      by_cases ea:a=b
      · subst ea
        rw [if_pos rfl,inL_none hn.1]
        simp
      · have hm':b ∈ l:=by rcases List.mem_cons.1 hm with h1 | h1;exact absurd h1.symm ea;exact h1
        rw [if_neg ea,ih hn.2 h0.2 (.inr hm') hm',List.idxOf_cons]
        have:(a==b)=false:=by simpa using ea
        rw [this]
        simp
theorem flat_stepI {f:Int→List Int} {l:List Int} {i:Nat} {x:Int} (h:l[i]? = some x):(l.take (i+1)).flatMap f=(l.take i).flatMap f++f x:=by
 rw [List.take_add_one,h];simp
theorem in_len (l:List Int) (h b:Int):(l.flatMap fun k=>if k=b then [h,k] else [k]).length≤2*l.length:=by
  induction l with
  | nil=>simp
  | cons a l ih =>
    rw [List.flatMap_cons,List.length_append,List.length_cons]
    have:(if a=b then [h,a] else [a]).length≤2:=by split <;> simp
    omega
end Go.TA


end
section
/- Which names may be, and what is wrong with attributes. Plain. -/
namespace Go.TA
def smallB (c:UInt8):Bool:=decide ((97:Int)≤c.toNat) && decide ((c.toNat:Int)≤122)
def digitB (c:UInt8):Bool:=decide ((48:Int)≤c.toNat) && decide ((c.toNat:Int)≤57)
def innerB (more:Bool) (c:UInt8):Bool:=smallB c || (digitB c || (((c.toNat:Int)==45) || (more && (((c.toNat:Int)==58) || ((c.toNat:Int)==46)))))
def namedB (more:Bool) (s:Bs):Bool:=match s with
 | []=>false
 | c::r=>decide (s.length≤32) && smallB c && r.all (innerB more)
theorem drop_cons {α : Type} {l:List α} {i:Nat} {x : α} (h:l[i]? = some x):l.drop i=x::l.drop (i+1):=by rw [List.drop_eq_getElem?_toList_append,h];rfl
theorem namedB_len {more:Bool} {s:Bs} (h:namedB more s=true):s.length≤32:=by
 unfold namedB at h
 split at h
 ·cases h
 ·simp only [Bool.and_eq_true,decide_eq_true_eq] at h
  simp_all
def cmpB:Bs→Bs→Int
 | [],[]=>0
 | [],_::_ => -1
 | _::_,[]=>1
 | a::x,b::y=>if (a.toNat:Int)<b.toNat then -1 else if (b.toNat:Int)<a.toNat then 1 else cmpB x y
theorem cmpB_less : ∀ {x y : Bs}, x ≠ y → (0 < cmpB x y ↔ (strLess x y || x == y) = false)
  | [],[],h=>absurd rfl h
  | [],b::y,h=>by simp [cmpB,strLess]
  | a::x,[],h=>by simp [cmpB,strLess]
  | a :: x, b :: y, h => by
    have e1:(a<b)=((a.toNat:Int)<b.toNat):=by rw [UInt8.lt_iff_toNat_lt];simp
    simp only [cmpB,strLess]
    by_cases h1:(a.toNat:Int)<b.toNat
    · simp [h1,e1]
    · by_cases h2:(b.toNat:Int)<a.toNat
      · have hne:a≠b:=fun e=>by subst e;omega
        have hne':¬ (a::x=b::y):=fun e=>hne (by injection e)
        simp [h1,h2,e1,hne]
      · have he:a=b:=UInt8.toNat_inj.1 (by omega)
        subst he
        have hxy:x≠y:=fun e=>h (by rw [e])
        have:=cmpB_less hxy
        simp only [h1,if_false,this,e1]
        simp [h1]
def attrErr (p : List Attr) (i : Nat) (a : Attr) : Int :=
  if i=64 then 12 else if namedB true a.name=false then 8 else if 65536<(a.value.length:Int) then 3 else match p with
    | []=>0
    | b::_=>if b.name=a.name then 10 else if 0<cmpB b.name a.name then 9 else 0
def attrsChk:List Attr→Nat→List Attr→Int × Int
 | _,_,[]=>(0,0)
 | p,i,a::l=>if attrErr p i a=0 then attrsChk [a] (i+1) l else (i,attrErr p i a)
def attrsErr (l:List Attr):Int:=(attrsChk [] 0 l).2
def prevOf (l:List Attr):Nat→List Attr
 | 0=>[]
 | i+1=>(l[i]?).toList
theorem chk_step {l:List Attr} {i:Nat} {a:Attr} (h:l[i]? = some a):attrsChk (prevOf l i) i (l.drop i)=if attrErr (prevOf l i) i a=0 then attrsChk (prevOf l (i+1)) (i+1) (l.drop (i+1)) else ((i:Int),attrErr (prevOf l i) i a):=by
 have e:prevOf l (i+1)=[a]:=by simp [prevOf,h]
 rw [drop_cons h,e]
 simp only [attrsChk]
def chkOut (r:Int × Int):Ex × St:=if r.2=0 then (.exit 0,⟨[],[],[]⟩) else (.ret,⟨[(2,.p (.int .i64 r.1)),(3,.p (.int .i64 r.2))],[],[]⟩)
end Go.TA


end
section
/- What is done with a document, whichever text does it. Plain. -/
namespace Go.TA
theorem nodup_sub {α : Type} [BEq α] [LawfulBEq α]:∀ {l m:List α},l.Nodup→(∀ x ∈ l,x ∈ m)→l.length≤m.length
  | [],m,_,_=>by simp
  | a :: l, m, hn, h => by
    rw [List.nodup_cons] at hn
    have:=nodup_sub (l:=l) (m:=m.erase a) hn.2 (fun x hx=>by
      have hne:x≠a:=fun e=>hn.1 (e ▸ hx)
      exact (List.mem_erase_of_ne hne).2 (h x (by simp [hx])))
    rw [List.length_erase_of_mem (h a (by simp))] at this
    have hp:0<m.length:=List.length_pos_of_mem (h a (by simp))
    rw [List.length_cons];omega
section
variable {R:Nat} {S:MS}
theorem kd_len (hS:S.Ok R) {u:Nat} (hu:u<S.N):(S.kd u).length≤(liveL S).length:=by
 have:=nodup_sub (m:=(liveL S).map fun c:Nat=>(c:Int)) (hS.nodup u hu) (fun k hk=>by
  obtain ⟨c,rfl,hc,hl,_⟩:=hS.kids u hu k hk
  exact List.mem_map.2 ⟨c,mem_liveL.2 ⟨hc,hl⟩,rfl⟩)
 rwa [List.length_map] at this
theorem zero_kid (hS:S.Ok R) {u:Nat} (hu:u<S.N):(0:Int) ∉ S.kd u:=fun h=>by
 obtain ⟨c,e,_,_,h2⟩:=hS.kids u hu _ h
 have:c=0:=by omega
 subst this
 have:=hS.top.2
 omega
theorem liveL_congr {S':MS} (hN:S.N=S'.N) (h:∀ k,(S.st k).live=(S'.st k).live):liveL S=liveL S':=by
 unfold liveL
 rw [hN]
 congr 1
 funext k
 exact h k
end
noncomputable def insertD (S:MS) (id up b:Int):Int × MS :=
 if fitE S id≠0 then (fitE S id,S)
 else if (liveB S up && liveB S b)=false then (13,S)
 else if 0≤upOf S id then (15,S)
 else if underB S up id=true then (17,S)
 else if b≠0∧upOf S b≠up then (18,S)
 else (0,placeM S id.toNat up.toNat b)
def moveD (S:MS) (id b:Int):Int × MS :=
 if fitE S id≠0 then (fitE S id,S)
 else if liveB S b=false then (13,S)
 else if upOf S id<0 then (16,S)
 else if b=id∨(b≠0∧upOf S b≠upOf S id) then (18,S)
 else (0,placeM (takeM S id.toNat) id.toNat (upOf S id).toNat b)
theorem fit_live {S:MS} {id:Int} (h:¬ fitE S id≠0):∃ c:Nat,id=(c:Int)∧c ∈ liveL S∧0<c:=by
 unfold fitE at h
 split at h
 ·omega
 ·split at h
  ·rename_i h0 hl
   obtain ⟨c,rfl,hc⟩:=live_liveL hl
   exact ⟨c,rfl,hc,by omega⟩
  ·omega
noncomputable def removeD (S:MS) (id:Int):Int × MS:=if fitE S id≠0 then (fitE S id,S) else (0,endM (takeM S id.toNat) id)
theorem below_same {S S':MS} {t:Int} (h:∀ y:Int,y≠t→upOf S' y=upOf S y) (y:Int):Below S t y↔Below S' t y:=by
  constructor
  · intro hb
    induction hb with
    | here=>exact .here
    | @up y h1 h2 ih =>
      by_cases e:y=t
      · subst e;exact .here
      · exact .up h1 (by rw [h y e];exact ih)
  · intro hb
    induction hb with
    | here=>exact .here
    | @up y h1 h2 ih =>
      by_cases e:y=t
      · subst e;exact .here
      · exact .up h1 (by rw [← h y e];exact ih)
theorem take_below {S:MS} {c:Nat} (hc:0<c) (y:Int):Below S (c:Int) y↔Below (takeM S c) (c:Int) y:=by
 refine below_same (fun z hz => ?_) y
 unfold takeM
 split
 ·rfl
 ·have:z.toNat≠c:=by omega
  simp only [upOf]
  rw [upd_ne this]
theorem liveL_end {S:MS} {c:Nat} (hc:0<c):liveL (endM (takeM S c) (c:Int))=(liveL S).filter fun h:Nat => !(underB S (h:Int) (c:Int)):=by
 classical
 unfold liveL
 rw [List.filter_filter,show (endM (takeM S c) (c:Int)).N=S.N from takeM_N S c]
 congr 1
 funext h
 simp only [endM]
 by_cases hb:Below (takeM S c) (c:Int) (h:Int)
 ·rw [if_pos hb,underB_iff.2 ((take_below hc _).2 hb)];rfl
 ·have:underB S (h:Int) (c:Int)=false:=by
   cases e:underB S (h:Int) (c:Int) with
   | false=>rfl
   | true=>exact absurd ((take_below hc _).1 (underB_iff.1 e)) hb
  rw [if_neg hb,takeM_live,this];simp
theorem end_kept {S:MS} {c:Nat} (hc:0<c):∀ k ∈ (liveL S).filter fun h:Nat => !(underB S (h:Int) (c:Int)),S.st k=(endM (takeM S c) (c:Int)).st k∧(takeM S c).kd k=(endM (takeM S c) (c:Int)).kd k:=by
 classical
 intro k hk
 have hu:=(List.mem_filter.1 hk).2
 simp only [Bool.not_eq_true'] at hu
 have hb:¬ Below (takeM S c) (c:Int) (k:Int):=fun h=>by
  rw [underB_iff.2 ((take_below hc _).2 h)] at hu;cases hu
 have hne:k≠c:=fun e=>by subst e;exact hb .here
 simp only [endM,if_neg hb,and_true]
 unfold takeM
 split
 ·rfl
 ·simp only;rw [upd_ne hne]
def nodeM (S:MS) (h:Nat) (s:MNode):MS:=⟨S.N,upd S.st h s,S.kd⟩
theorem liveL_node {S:MS} {h:Nat} {s:MNode} (hs:s.live=(S.st h).live):liveL (nodeM S h s)=liveL S:=liveL_congr rfl (fun k=>by
 simp only [nodeM]
 by_cases e:k=h
 ·subst e;rw [upd_at,hs]
 ·rw [upd_ne e])
def setD (S:MS) (id:Int) (name v:Bs):Int × MS :=
 if fitE S id≠0 then (fitE S id,S) else if namedB true name=false then (8,S) else if 65536<(v.length:Int) then (3,S)
 else if 64<((withA (S.st id.toNat).attrs name v).length:Int) then (12,S) else (0,setM S id.toNat (withA (S.st id.toNat).attrs name v))
def delD (S:MS) (id:Int) (name:Bs):Int × MS :=
 if fitE S id≠0 then (fitE S id,S)
 else if (withoutA (S.st id.toNat).attrs name).length<(S.st id.toNat).attrs.length then (0,setM S id.toNat (withoutA (S.st id.toNat).attrs name)) else (8,S)
def textD (S:MS) (id:Int) (s:Bs):Int × MS :=
 if fitE S id≠0 then (fitE S id,S) else if 65536<(s.length:Int) then (3,S) else (0,textM S id.toNat s)
def createErr (N:Nat) (x:GOp):Int:=if namedB false x.tag=false then 7 else if 65536<(x.key.length:Int)∨65536<(x.text.length:Int) then 3 else if attrsErr x.attrs≠0 then attrsErr x.attrs else if 4294967295<(N:Int) then 21 else 0
theorem liveL_create (S:MS) (x:GOp):liveL (S.create x)=liveL S++[S.N]:=by
 unfold liveL
 simp only [MS.create,List.range_succ,List.filter_append,List.filter_cons,List.filter_nil,upd_at,if_true]
 congr 1
 refine List.filter_congr fun k hk => ?_
 have:=List.mem_range.1 hk
 rw [upd_ne (by omega)]
noncomputable def doD (S:MS) (x:GOp):Int × Int × MS :=
 if x.kind=1 then (if createErr S.N x=0 then ((S.N:Int),0,S.create x) else (0,createErr S.N x,S))
 else if x.kind=2 then (0,insertD S x.node x.up x.before)
 else if x.kind=3 then (0,moveD S x.node x.before)
 else if x.kind=4 then (0,removeD S x.node)
 else if x.kind=5 then (0,setD S x.node x.name x.text)
 else if x.kind=6 then (0,delD S x.node x.name)
 else if x.kind=7 then (0,textD S x.node x.text)
 else (0,0,S)
end Go.TA


end
section
/- A row of those below one, as links tell it: the first, the last, who stands ahead and who behind. Plain. -/
namespace Go.TA
structure Linked (l:List Nat) (fst lst:Option Nat) (prv nxt:Nat→Option Nat):Prop where
 first:fst=l[0]?
 last:lst=if l.length=0 then none else l[l.length - 1]?
 prev:∀ (i k:Nat),l[i]? = some k→prv k=if i=0 then none else l[i - 1]?
 next:∀ (i k:Nat),l[i]? = some k→nxt k=l[i+1]?
theorem Linked.nil (prv nxt:Nat→Option Nat):Linked [] none none prv nxt:=⟨rfl,rfl,fun i k h=>by simp at h,fun i k h=>by simp at h⟩
theorem Linked.ext {l:List Nat} {fst lst:Option Nat} {prv nxt prv' nxt':Nat→Option Nat} (h:Linked l fst lst prv nxt) (hp:∀ k ∈ l,prv' k=prv k) (hn:∀ k ∈ l,nxt' k=nxt k):Linked l fst lst prv' nxt' :=
 ⟨h.first,h.last,fun i k e=>by rw [hp k (List.mem_of_getElem? e)];exact h.prev i k e,fun i k e=>by rw [hn k (List.mem_of_getElem? e)];exact h.next i k e⟩
def insAt (l:List Nat) (p h:Nat):List Nat:=l.take p++h::l.drop p
theorem insAt_len {l:List Nat} {p h:Nat} (hp:p≤l.length):(insAt l p h).length=l.length+1:=by
 simp only [insAt,List.length_append,List.length_take,List.length_cons,List.length_drop];omega
theorem insAt_lt {l:List Nat} {p h i:Nat} (hi:i<p) (hp:p≤l.length):(insAt l p h)[i]? = l[i]? := by
 unfold insAt
 rw [List.getElem?_append_left (by simp;omega),List.getElem?_take,if_pos hi]
theorem insAt_at {l:List Nat} {p h:Nat} (hp:p≤l.length):(insAt l p h)[p]? = some h:=by
 unfold insAt
 have:(l.take p).length=p:=by simp;omega
 rw [List.getElem?_append_right (by omega),this,Nat.sub_self];rfl
theorem insAt_gt {l:List Nat} {p h i:Nat} (hi:p<i) (hp:p≤l.length):(insAt l p h)[i]? = l[i - 1]? := by
 unfold insAt
 have:(l.take p).length=p:=by simp;omega
 rw [List.getElem?_append_right (by omega),this]
 obtain ⟨j,rfl⟩:∃ j,i=p+j+1:=⟨i - p - 1,by omega⟩
 rw [show p+j+1 - p=j+1 by omega,List.getElem?_cons_succ,List.getElem?_drop]
 rfl
theorem get_inj_of {l:List Nat} (hn:l.Nodup) {i j k:Nat} (hi:l[i]? = some k) (hj:l[j]? = some k):i=j :=
 (List.getElem?_inj (List.getElem?_eq_some_iff.1 hi).1 hn).1 (hi.trans hj.symm)
theorem Linked.insert {l : List Nat} {fst lst : Option Nat} {prv nxt prv' nxt' : Nat → Option Nat} (hl : Linked l fst lst prv nxt) (hn : l.Nodup) {p h : Nat} (hp : p ≤ l.length) (hh : h ∉ l)
    (h1:prv' h=if p=0 then none else l[p - 1]?) (h2:nxt' h=l[p]?) (h3:∀ k,l[p]? = some k→prv' k=some h) (h4:∀ k,k≠h→l[p]? ≠ some k→prv' k=prv k)
    (h5:∀ k,p≠0→l[p - 1]? = some k→nxt' k=some h) (h6:∀ k,k≠h→(p=0∨l[p - 1]? ≠ some k)→nxt' k=nxt k) :
    Linked (insAt l p h) (if p=0 then some h else fst) (if p=l.length then some h else lst) prv' nxt':=by
  have hlen:=insAt_len (h:=h) hp
  refine ⟨?_, ?_,fun i k hi => ?_,fun i k hi => ?_⟩
  · by_cases e:p=0
    · subst e;rw [if_pos rfl,insAt_at hp]
    · rw [if_neg e,insAt_lt (by omega) hp,hl.first]
  · rw [hlen,if_neg (show ¬ l.length+1=0 by omega),Nat.add_sub_cancel]
    by_cases e:p=l.length
    · rw [if_pos e, ← e,insAt_at (by omega)]
    · rw [if_neg e,insAt_gt (by omega) hp,hl.last,if_neg (show ¬ l.length=0 by omega)]
  · by_cases c1:i<p
    · rw [insAt_lt c1 hp] at hi
      have hk:k≠h:=fun q=>hh (q ▸ List.mem_of_getElem? hi)
      rw [h4 k hk (fun q=>by have:=get_inj_of hn hi q;omega),hl.prev i k hi]
      by_cases e:i=0
      · rw [if_pos e,if_pos e]
      · rw [if_neg e,if_neg e,insAt_lt (by omega) hp]
    · by_cases c2:i=p
      · subst c2
        rw [insAt_at hp] at hi
        simp only [Option.some.injEq] at hi
        subst hi
        rw [h1]
        by_cases e:i=0
        · rw [if_pos e,if_pos e]
        · rw [if_neg e,if_neg e,insAt_lt (by omega) hp]
      · rw [insAt_gt (by omega) hp] at hi
        have hk:k≠h:=fun q=>hh (q ▸ List.mem_of_getElem? hi)
        rw [if_neg (show ¬ i=0 by omega)]
        by_cases c3:i=p+1
        · subst c3
          rw [Nat.add_sub_cancel,insAt_at hp]
          exact h3 k (by simpa using hi)
        · rw [h4 k hk (fun q=>by have:=get_inj_of hn hi q;omega),hl.prev _ k hi,if_neg (show ¬ i - 1=0 by omega),insAt_gt (by omega) hp]
  · by_cases c1:i<p
    · rw [insAt_lt c1 hp] at hi
      have hk:k≠h:=fun q=>hh (q ▸ List.mem_of_getElem? hi)
      by_cases c2:i+1=p
      · rw [c2,insAt_at hp]
        exact h5 k (by omega) (by rw [← c2];simpa using hi)
      · rw [insAt_lt (by omega) hp,h6 k hk (.inr fun q=>by have:=get_inj_of hn hi q;omega),hl.next i k hi]
    · by_cases c2:i=p
      · subst c2
        rw [insAt_at hp] at hi
        simp only [Option.some.injEq] at hi
        subst hi
        rw [h2,insAt_gt (by omega) hp,Nat.add_sub_cancel]
      · rw [insAt_gt (by omega) hp] at hi
        have hk:k≠h:=fun q=>hh (q ▸ List.mem_of_getElem? hi)
        rw [insAt_gt (by omega) hp,h6 k hk (by
          by_cases e:p=0
          · exact .inl e
          · exact .inr fun q=>by have:=get_inj_of hn hi q;omega),hl.next _ k hi]
        congr 1
        omega
def remAt (l:List Nat) (p:Nat):List Nat:=l.take p++l.drop (p+1)
theorem remAt_len {l:List Nat} {p:Nat} (hp:p<l.length):(remAt l p).length+1=l.length:=by
 simp only [remAt,List.length_append,List.length_take,List.length_drop];omega
theorem remAt_lt {l:List Nat} {p i:Nat} (hi:i<p) (hp:p<l.length):(remAt l p)[i]? = l[i]? := by
 unfold remAt
 rw [List.getElem?_append_left (by simp;omega),List.getElem?_take,if_pos hi]
theorem remAt_ge {l:List Nat} {p i:Nat} (hi:p≤i) (hp:p<l.length):(remAt l p)[i]? = l[i+1]? := by
 unfold remAt
 have:(l.take p).length=p:=by simp;omega
 rw [List.getElem?_append_right (by omega),this,List.getElem?_drop]
 congr 1;omega
theorem Linked.remove {l : List Nat} {fst lst : Option Nat} {prv nxt prv' nxt' : Nat → Option Nat} (hl : Linked l fst lst prv nxt) (hn : l.Nodup) {p h : Nat} (hh : l[p]? = some h)
    (h3:∀ k,l[p+1]? = some k→prv' k=prv h) (h4:∀ k,k≠h→l[p+1]? ≠ some k→prv' k=prv k)
    (h5:∀ k,p≠0→l[p - 1]? = some k→nxt' k=nxt h) (h6:∀ k,k≠h→(p=0∨l[p - 1]? ≠ some k)→nxt' k=nxt k) :
    Linked (remAt l p) (if p=0 then nxt h else fst) (if p+1=l.length then prv h else lst) prv' nxt':=by
  have hp:=(List.getElem?_eq_some_iff.1 hh).1
  have hlen:=remAt_len hp
  have hnx:=hl.next p h hh
  have hpv:=hl.prev p h hh
  refine ⟨?_, ?_,fun i k hi => ?_,fun i k hi => ?_⟩
  · by_cases e:p=0
    · subst e;rw [if_pos rfl,remAt_ge (Nat.le_refl _) hp,hnx]
    · rw [if_neg e,remAt_lt (by omega) hp,hl.first]
  · by_cases e:p+1=l.length
    · rw [if_pos e,hpv]
      by_cases e0:p=0
      · rw [if_pos e0,if_pos (show (remAt l p).length=0 by omega)]
      · rw [if_neg e0,if_neg (show ¬ (remAt l p).length=0 by omega),remAt_lt (by omega) hp]
        congr 1;omega
    · rw [if_neg e,hl.last,if_neg (show ¬ l.length=0 by omega),if_neg (show ¬ (remAt l p).length=0 by omega),remAt_ge (by omega) hp]
      congr 1;omega
  · by_cases c1:i<p
    · rw [remAt_lt c1 hp] at hi
      have hk:k≠h:=fun q=>by subst q;have:=get_inj_of hn hi hh;omega
      rw [h4 k hk (fun q=>by have:=get_inj_of hn hi q;omega),hl.prev i k hi]
      by_cases e:i=0
      · rw [if_pos e,if_pos e]
      · rw [if_neg e,if_neg e,remAt_lt (by omega) hp]
    · rw [remAt_ge (by omega) hp] at hi
      have hk:k≠h:=fun q=>by subst q;have:=get_inj_of hn hi hh;omega
      by_cases c2:i=p
      · subst c2
        rw [h3 k hi,hpv]
        by_cases e:i=0
        · rw [if_pos e,if_pos e]
        · rw [if_neg e,if_neg e,remAt_lt (by omega) hp]
      · rw [h4 k hk (fun q=>by have:=get_inj_of hn hi q;omega),hl.prev _ k hi,if_neg (show ¬ i+1=0 by omega),if_neg (show ¬ i=0 by omega),remAt_ge (by omega) hp]
        congr 1;omega
  · by_cases c1:i<p
    · rw [remAt_lt c1 hp] at hi
      have hk:k≠h:=fun q=>by subst q;have:=get_inj_of hn hi hh;omega
      by_cases c2:i+1=p
      · rw [remAt_ge (by omega) hp,h5 k (by omega) (by rw [← c2];simpa using hi),hnx, ← c2]
      · rw [remAt_lt (by omega) hp,h6 k hk (.inr fun q=>by have:=get_inj_of hn hi q;omega),hl.next i k hi]
    · rw [remAt_ge (by omega) hp] at hi
      have hk:k≠h:=fun q=>by subst q;have:=get_inj_of hn hi hh;omega
      rw [remAt_ge (by omega) hp,h6 k hk (by
        by_cases e:p=0
        · exact .inl e
        · exact .inr fun q=>by have:=get_inj_of hn hi q;omega),hl.next _ k hi]
end Go.TA


end
section
/- A document in memory: its map, its nodes, their items, and how these are linked. Plain. -/
namespace Go.TA
structure LK where
 u:Option Nat
 f:Option Nat
 l:Option Nat
 p:Option Nat
 n:Option Nat
theorem LK.ext' {a b:LK} (h1:a.u=b.u) (h2:a.f=b.f) (h3:a.l=b.l) (h4:a.p=b.p) (h5:a.n=b.n):a=b:=by
 cases a;cases b;simp only at h1 h2 h3 h4 h5;subst h1 h2 h3 h4 h5;rfl
def kidsN (S:MS) (c:Nat):List Nat:=(S.kd c).map Int.toNat
def upN (S:MS) (c:Nat):Option Nat:=if (S.st c).up<0 then none else some (S.st c).up.toNat
structure LinkOk (S:MS) (I:Nat→LK):Prop where
 up:∀ c ∈ liveL S,(I c).u=upN S c
 kids:∀ c ∈ liveL S,Linked (kidsN S c) (I c).f (I c).l (fun k=>(I k).p) (fun k=>(I k).n)
 loose:∀ c ∈ liveL S,(S.st c).up<0→(I c).p=none∧(I c).n=none
section
variable {R:Nat} {S:MS} (hS:S.Ok R)
include hS
theorem mem_kidsN {p k:Nat} (hp:p<S.N):k ∈ kidsN S p↔(k:Int) ∈ S.kd p:=by
 unfold kidsN
 rw [List.mem_map]
 constructor
 ·rintro ⟨a,ha,rfl⟩
  obtain ⟨c,rfl,_⟩:=hS.kids p hp a ha
  simpa using ha
 ·exact fun h=>⟨_,h,by simp⟩
theorem kidsN_kd {p:Nat} (hp:p<S.N):S.kd p=(kidsN S p).map fun k:Nat=>(k:Int):=by
 unfold kidsN
 rw [List.map_map]
 conv=>lhs;rw [← List.map_id (S.kd p)]
 refine List.map_congr_left fun a ha => ?_
 obtain ⟨c,rfl,_⟩:=hS.kids p hp a ha
 simp
theorem kidsN_nodup {p:Nat} (hp:p<S.N):(kidsN S p).Nodup:=by
 have h:=hS.nodup p hp
 rw [kidsN_kd hS hp] at h
 exact List.Pairwise.of_map (fun k:Nat=>(k:Int)) (fun a b hab e=>hab (by rw [e])) h
theorem kidsN_up {p k:Nat} (hp:p<S.N) (h:k ∈ kidsN S p):k ∈ liveL S∧(S.st k).up=(p:Int):=by
 rw [mem_kidsN hS hp] at h
 obtain ⟨c,e,h1,h2,h3⟩:=hS.kids p hp _ h
 have:c=k:=by omega
 subst this
 exact ⟨mem_liveL.2 ⟨h1,h2⟩,h3⟩
theorem upN_some {c:Nat} (hc:c<S.N) {p:Nat} (h:(S.st c).up=(p:Int)):upN S c=some p:=by
 have _:=hS
 unfold upN
 rw [if_neg (by omega),h];simp
theorem upN_none {c:Nat} (hc:c<S.N) (h:(S.st c).up<0):upN S c=none:=by
 have _:=hS
 unfold upN
 rw [if_pos h]
end
def aheadI (I:Nat→LK) (x:Nat):Option Nat→Option Nat
 | none=>(I x).l
 | some b=>(I b).p
def placeI (I:Nat→LK) (x y:Nat) (b:Option Nat) (k:Nat):LK :=
 if k=y then ⟨some x,(I y).f,(I y).l,aheadI I x b,b⟩
 else ⟨(I k).u,if k=x∧aheadI I x b=none then some y else (I k).f,if k=x∧b=none then some y else (I k).l,if b=some k then some y else (I k).p,if aheadI I x b=some k then some y else (I k).n⟩
def dropI (I:Nat→LK) (x:Nat) (k:Nat):LK :=
 if k=x then ⟨none,(I x).f,(I x).l,none,none⟩
 else ⟨(I k).u,if (I x).u=some k∧(I x).p=none then (I x).n else (I k).f,if (I x).u=some k∧(I x).n=none then (I x).p else (I k).l,if (I x).n=some k then (I x).p else (I k).p,if (I x).p=some k then (I x).n else (I k).n⟩
theorem liveL_place (S:MS) (h u:Nat) (b:Int):liveL (placeM S h u b)=liveL S:=by
 unfold liveL placeM
 refine List.filter_congr fun k _ => ?_
 by_cases e:k=h
 ·subst e;simp [upd]
 ·simp [upd,e]
theorem liveL_take (S:MS) (h:Nat):liveL (takeM S h)=liveL S:=by
 unfold liveL
 rw [takeM_N]
 refine List.filter_congr fun k _ => ?_
 rw [takeM_live]
theorem insI_insAt {l:List Int} {ln:List Nat} (hl:l=ln.map fun k:Nat=>(k:Int)) (h:Nat) (b:Int):(insI l (h:Int) b).map Int.toNat=insAt ln (if b=0 then l.length else l.idxOf b) h:=by
 subst hl
 unfold insI insAt
 simp only [List.map_append,List.map_cons,Int.toNat_natCast, ← List.map_take, ← List.map_drop,List.map_map]
 have:(Int.toNat ∘ fun k:Nat=>(k:Int))=id:=by funext k;simp
 rw [this]
 simp
theorem place_at {R:Nat} {S:MS} (hS:S.Ok R) {u:Nat} (hu:u<S.N) {b:Nat} (hb:b=0∨(b:Int) ∈ S.kd u) (hz:(0:Int) ∉ S.kd u):(kidsN S u)[if (b:Int)=0 then (S.kd u).length else (S.kd u).idxOf (b:Int)]? = if b=0 then none else some b:=by
 by_cases e:b=0
 ·subst e
  have:(kidsN S u).length=(S.kd u).length:=by simp [kidsN]
  simp [kidsN]
 ·have hm:(b:Int) ∈ S.kd u:=by rcases hb with h | h;exact absurd h e;exact h
  rw [if_neg (by omega),if_neg e]
  have hi:=List.idxOf_lt_length_iff.2 hm
  unfold kidsN
  rw [List.getElem?_map,List.getElem?_eq_getElem hi,List.getElem_idxOf hi]
  simp
section
variable {R:Nat} {S:MS} {I:Nat→LK}
theorem ahead_at (hS:S.Ok R) (hI:LinkOk S I) {u:Nat} (hu:u ∈ liveL S) {p:Nat} (hp:p≤(kidsN S u).length):aheadI I u ((kidsN S u)[p]?)=if p=0 then none else (kidsN S u)[p - 1]? := by
  have hl:=hI.kids u hu
  cases h:(kidsN S u)[p]? with
  | none =>
    have:p=(kidsN S u).length:=by have:=List.getElem?_eq_none_iff.1 h;omega
    rw [aheadI,hl.last,this]
  | some b=>rw [aheadI,hl.prev p b h]
theorem LinkOk.place (hS : S.Ok R) (hI : LinkOk S I) {x y : Nat} (hx : x ∈ liveL S) (hy : y ∈ liveL S) (hxy : x ≠ y) (hyu : (S.st y).up < 0) {p : Nat} (hp : p ≤ (kidsN S x).length) {S' : MS} (hN : S'.N = S.N) (hL : liveL S' = liveL S) (hst : ∀ k, (S'.st k).up = if k = y then (x : Int) else (S.st k).up) (hkd : ∀ k ∈ liveL S, kidsN S' k = if k = x then insAt (kidsN S x) p y else kidsN S k) : LinkOk S' (placeI I x y (kidsN S x)[p]?) := by
  have hxN:=(mem_liveL.1 hx).1
  have hah:=ahead_at hS hI hx hp
  have hlx:=hI.kids x hx
  have hyk:∀ q ∈ liveL S,y ∉ kidsN S q:=fun q hq hm=>by
    have:=(kidsN_up hS (mem_liveL.1 hq).1 hm).2
    omega
  have hbk:∀ k,(kidsN S x)[p]? = some k→k ∈ kidsN S x:=fun k hk=>List.mem_of_getElem? hk
  have hak:∀ k,aheadI I x (kidsN S x)[p]? = some k→k ∈ kidsN S x:=fun k hk=>by
    rw [hah] at hk
    split at hk
    · cases hk
    · exact List.mem_of_getElem? hk
  have hby:(kidsN S x)[p]? ≠ some y:=fun e=>hyk x hx (hbk y e)
  have hay:aheadI I x (kidsN S x)[p]? ≠ some y:=fun e=>hyk x hx (hak y e)
  have hnone:aheadI I x (kidsN S x)[p]? = none↔p=0:=by
    rw [hah]
    constructor
    · intro h
      split at h
      · assumption
      · have:=List.getElem?_eq_none_iff.1 h;omega
    · intro h;rw [if_pos h]
  have hlast:(kidsN S x)[p]? = none↔p=(kidsN S x).length:=by
    rw [List.getElem?_eq_none_iff];omega
  have pk:∀ k,k≠y→(placeI I x y (kidsN S x)[p]? k).p=if (kidsN S x)[p]? = some k then some y else (I k).p:=fun k hk=>by rw [placeI,if_neg hk]
  have nk:∀ k,k≠y→(placeI I x y (kidsN S x)[p]? k).n=if aheadI I x (kidsN S x)[p]? = some k then some y else (I k).n:=fun k hk=>by rw [placeI,if_neg hk]
  refine ⟨fun c hc => ?_,fun c hc => ?_,fun c hc h0 => ?_⟩
  · rw [hL] at hc
    have hcN:=(mem_liveL.1 hc).1
    unfold upN
    rw [hst]
    by_cases e:c=y
    · subst e
      rw [placeI,if_pos rfl,if_pos rfl,if_neg (by omega)];simp
    · rw [placeI,if_neg e,if_neg e]
      exact hI.up c hc
  · rw [hL] at hc
    rw [hkd c hc]
    by_cases e:c=x
    · subst e
      rw [if_pos rfl]
      have key:=hlx.insert (kidsN_nodup hS hxN) (prv':=fun k=>(placeI I c y (kidsN S c)[p]? k).p) (nxt':=fun k=>(placeI I c y (kidsN S c)[p]? k).n) (h:=y) hp (hyk c hx)
        (by rw [← hah]; simp [placeI]) (by simp [placeI]) (fun k hk => by
          rw [pk k (fun e=>hby (e ▸ hk)),if_pos hk]) (fun k hk hne=>by rw [pk k hk,if_neg hne]) (fun k hp0 hk=>by
          have hk':aheadI I c (kidsN S c)[p]? = some k:=by rw [hah,if_neg hp0];exact hk
          rw [nk k (fun e=>hay (e ▸ hk')),if_pos hk']) (fun k hk hne=>by
          rw [nk k hk,if_neg]
          rw [hah]
          rcases hne with h | h
          · rw [if_pos h];simp
          · split
            · simp
            · exact h)
      have ef:(placeI I c y (kidsN S c)[p]? c).f=if p=0 then some y else (I c).f:=by
        rw [placeI,if_neg hxy]
        simp only [true_and,hnone]
      have el:(placeI I c y (kidsN S c)[p]? c).l=if p=(kidsN S c).length then some y else (I c).l:=by
        rw [placeI,if_neg hxy]
        simp only [true_and,hlast]
      rw [ef,el]
      exact key
    · rw [if_neg e]
      have hcN:=(mem_liveL.1 hc).1
      have hd:∀ k ∈ kidsN S c,k ∉ kidsN S x:=fun k hk hk'=>by
        have h1:=(kidsN_up hS hcN hk).2
        have h2:=(kidsN_up hS hxN hk').2
        omega
      have hext:=(hI.kids c hc).ext (prv':=fun k=>(placeI I x y (kidsN S x)[p]? k).p) (nxt':=fun k=>(placeI I x y (kidsN S x)[p]? k).n) (fun k hk=>by
          rw [pk k (fun e=>hyk c hc (e ▸ hk)),if_neg (fun e=>hd k hk (hbk k e))]) (fun k hk=>by
          rw [nk k (fun e=>hyk c hc (e ▸ hk)),if_neg (fun e=>hd k hk (hak k e))])
      have ef:(placeI I x y (kidsN S x)[p]? c).f=(I c).f:=by
        unfold placeI
        by_cases e2:c=y
        · rw [if_pos e2,e2]
        · rw [if_neg e2];simp [e]
      have el:(placeI I x y (kidsN S x)[p]? c).l=(I c).l:=by
        unfold placeI
        by_cases e2:c=y
        · rw [if_pos e2,e2]
        · rw [if_neg e2];simp [e]
      rw [ef,el]
      exact hext
  · rw [hL] at hc
    rw [hst] at h0
    by_cases e:c=y
    · rw [if_pos e] at h0;omega
    · rw [if_neg e] at h0
      obtain ⟨h1,h2⟩:=hI.loose c hc h0
      have hcx:c ∉ kidsN S x:=fun hm=>by
        have:=(kidsN_up hS hxN hm).2
        omega
      rw [pk c e,nk c e,if_neg (fun e=>hcx (hbk c e)),if_neg (fun e=>hcx (hak c e))]
      exact ⟨h1,h2⟩
theorem LinkOk.take (hS : S.Ok R) (hI : LinkOk S I) {x u : Nat} (hx : x ∈ liveL S) (hxu : (S.st x).up = (u : Int)) {p : Nat} (hp : (kidsN S u)[p]? = some x) {S' : MS} (hL : liveL S' = liveL S) (hst : ∀ k, (S'.st k).up = if k = x then -1 else (S.st k).up) (hkd : ∀ k ∈ liveL S, kidsN S' k = if k = u then remAt (kidsN S u) p else kidsN S k) : LinkOk S' (dropI I x) := by
  have hxN:=(mem_liveL.1 hx).1
  obtain ⟨huN,hul,_⟩:=hS.up_lt hxN hxu
  have hu:u ∈ liveL S:=mem_liveL.2 ⟨huN,hul⟩
  have hlu:=hI.kids u hu
  have hn:=kidsN_nodup hS huN
  have hxk:x ∈ kidsN S u:=List.mem_of_getElem? hp
  have hIu:(I x).u=some u:=by rw [hI.up x hx,upN_some hS hxN hxu]
  have hpv:=hlu.prev p x hp
  have hnx:=hlu.next p x hp
  have hpl:=(List.getElem?_eq_some_iff.1 hp).1
  have hux:u≠x:=fun e=>by
    obtain ⟨r,_,hr⟩:=hS.rank
    have:=hr x u hxN hxu
    subst e;omega
  have hpvk:∀ k,(I x).p=some k→k ∈ kidsN S u∧k≠x:=fun k hk=>by
    rw [hpv] at hk
    split at hk
    · cases hk
    · refine ⟨List.mem_of_getElem? hk,fun e => ?_⟩
      subst e
      have:=get_inj_of hn hk hp
      omega
  have hnxk:∀ k,(I x).n=some k→k ∈ kidsN S u∧k≠x:=fun k hk=>by
    rw [hnx] at hk
    refine ⟨List.mem_of_getElem? hk,fun e => ?_⟩
    subst e
    have:=get_inj_of hn hk hp
    omega
  have hp0:(I x).p=none↔p=0:=by
    rw [hpv]
    constructor
    · intro h
      split at h
      · assumption
      · have:=List.getElem?_eq_none_iff.1 h;omega
    · intro h;rw [if_pos h]
  have hn0:(I x).n=none↔p+1=(kidsN S u).length:=by
    rw [hnx,List.getElem?_eq_none_iff];omega
  have pk:∀ k,k≠x→(dropI I x k).p=if (I x).n=some k then (I x).p else (I k).p:=fun k hk=>by rw [dropI,if_neg hk]
  have nk:∀ k,k≠x→(dropI I x k).n=if (I x).p=some k then (I x).n else (I k).n:=fun k hk=>by rw [dropI,if_neg hk]
  refine ⟨fun c hc => ?_,fun c hc => ?_,fun c hc h0 => ?_⟩
  · rw [hL] at hc
    unfold upN
    rw [hst]
    by_cases e:c=x
    · rw [dropI,if_pos e,if_pos e,if_pos (by omega)]
    · rw [dropI,if_neg e,if_neg e]
      exact hI.up c hc
  · rw [hL] at hc
    have hcN:=(mem_liveL.1 hc).1
    rw [hkd c hc]
    by_cases e:c=u
    · subst e
      rw [if_pos rfl]
      have key:=hlu.remove hn (prv':=fun k=>(dropI I x k).p) (nxt':=fun k=>(dropI I x k).n) hp (fun k hk=>by
          have hk':(I x).n=some k:=hnx.trans hk
          have h2:=(hnxk k hk').2
          show (dropI I x k).p=(I x).p
          rw [pk k h2,if_pos hk']) (fun k hk hne=>by
          show (dropI I x k).p=(I k).p
          rw [pk k hk,if_neg (fun e=>hne (hnx.symm.trans e))]) (fun k h0 hk=>by
          have hk':(I x).p=some k:=by
            rw [hpv,if_neg h0];exact hk
          have h2:=(hpvk k hk').2
          show (dropI I x k).n=(I x).n
          rw [nk k h2,if_pos hk']) (fun k hk hne=>by
          show (dropI I x k).n=(I k).n
          rw [nk k hk,if_neg]
          rw [hpv]
          rcases hne with h | h
          · rw [if_pos h];simp
          · split
            · simp
            · exact h)
      have ef:(dropI I x c).f=if p=0 then (I x).n else (I c).f:=by
        rw [dropI,if_neg hux]
        simp only [hIu,true_and,hp0]
      have el:(dropI I x c).l=if p+1=(kidsN S c).length then (I x).p else (I c).l:=by
        rw [dropI,if_neg hux]
        simp only [hIu,true_and,hn0]
      rw [ef,el]
      exact key
    · rw [if_neg e]
      have hd:∀ k ∈ kidsN S c,k ∉ kidsN S u:=fun k hk hk'=>by
        have h1:=(kidsN_up hS hcN hk).2
        have h2:=(kidsN_up hS huN hk').2
        omega
      have hxc:∀ k ∈ kidsN S c,k≠x:=fun k hk e=>hd k hk (e ▸ hxk)
      have hext:=(hI.kids c hc).ext (prv':=fun k=>(dropI I x k).p) (nxt':=fun k=>(dropI I x k).n) (fun k hk=>by
          rw [pk k (hxc k hk),if_neg (fun e=>hd k hk (hnxk k e).1)]) (fun k hk=>by
          rw [nk k (hxc k hk),if_neg (fun e=>hd k hk (hpvk k e).1)])
      have hue:(I x).u≠some c:=by rw [hIu];simpa using fun h=>e h.symm
      have ef:(dropI I x c).f=(I c).f:=by
        unfold dropI
        by_cases e2:c=x
        · rw [if_pos e2,e2]
        · rw [if_neg e2];simp [hue]
      have el:(dropI I x c).l=(I c).l:=by
        unfold dropI
        by_cases e2:c=x
        · rw [if_pos e2,e2]
        · rw [if_neg e2];simp [hue]
      rw [ef,el]
      exact hext
  · rw [hL] at hc
    rw [hst] at h0
    by_cases e:c=x
    · rw [dropI,if_pos e];exact ⟨rfl,rfl⟩
    · rw [if_neg e] at h0
      obtain ⟨h1,h2⟩:=hI.loose c hc h0
      have hcu:c ∉ kidsN S u:=fun hm=>by
        have:=(kidsN_up hS huN hm).2
        omega
      rw [pk c e,nk c e,if_neg (fun e=>hcu (hnxk c e).1),if_neg (fun e=>hcu (hpvk c e).1)]
      exact ⟨h1,h2⟩
theorem LinkOk.create (hS:S.Ok R) (hI:LinkOk S I) (x:GOp):LinkOk (S.create x) (upd I S.N ⟨none,none,none,none,none⟩):=by
 have hne:∀ c ∈ liveL S,c≠S.N:=fun c hc=>by have:=(mem_liveL.1 hc).1;omega
 have hcase:∀ c ∈ liveL (S.create x),c=S.N∨c ∈ liveL S:=fun c hc=>by
  obtain ⟨h1,h2⟩:=mem_liveL.1 hc
  by_cases e:c=S.N
  ·exact .inl e
  ·refine .inr (mem_liveL.2 ⟨by simp only [MS.create] at h1;omega, ?_⟩)
   simp only [MS.create] at h2
   rw [upd_ne e] at h2;exact h2
 refine ⟨fun c hc => ?_,fun c hc => ?_,fun c hc h0 => ?_⟩
 ·rcases hcase c hc with rfl | h
  ·rw [upd_at]
   simp [upN,MS.create,upd_at]
  ·rw [upd_ne (hne c h)]
   have h2:(S.create x).st c=S.st c:=by simp only [MS.create];rw [upd_ne (hne c h)]
   have:upN (S.create x) c=upN S c:=by simp only [upN,h2]
   rw [this];exact hI.up c h
 ·rcases hcase c hc with rfl | h
  ·rw [upd_at]
   have:kidsN (S.create x) S.N=[]:=by simp [kidsN,MS.create,upd_at]
   rw [this]
   exact Linked.nil _ _
  ·rw [upd_ne (hne c h)]
   have:kidsN (S.create x) c=kidsN S c:=by simp only [kidsN,MS.create];rw [upd_ne (hne c h)]
   rw [this]
   refine (hI.kids c h).ext (fun k hk => ?_) (fun k hk => ?_)
   ·rw [upd_ne (hne k (kidsN_up hS (mem_liveL.1 h).1 hk).1)]
   ·rw [upd_ne (hne k (kidsN_up hS (mem_liveL.1 h).1 hk).1)]
 ·rcases hcase c hc with rfl | h
  ·rw [upd_at];exact ⟨rfl,rfl⟩
  ·rw [upd_ne (hne c h)]
   refine hI.loose c h ?_
   simp only [MS.create] at h0
   rw [upd_ne (hne c h)] at h0;exact h0
theorem LinkOk.less (hI:LinkOk S I) {S':MS} (hL:∀ k ∈ liveL S',k ∈ liveL S) (hst:∀ k ∈ liveL S',(S'.st k).up=(S.st k).up) (hkd:∀ k ∈ liveL S',S'.kd k=S.kd k):LinkOk S' I:=by
 refine ⟨fun c hc => ?_,fun c hc => ?_,fun c hc h0 => ?_⟩
 ·rw [hI.up c (hL c hc)]
  unfold upN
  rw [hst c hc]
 ·have:kidsN S' c=kidsN S c:=by simp only [kidsN];rw [hkd c hc]
  rw [this];exact hI.kids c (hL c hc)
 ·rw [hst c hc] at h0
  exact hI.loose c (hL c hc) h0
end
end Go.TA


end
section
/- Where a document lies in memory, and what is written there. Plain. -/
namespace Go.TA
structure GFr (g:List AObj) (O:Nat→Prop) (g':List AObj) (O':Nat→Prop):Prop where
 len:g.length≤g'.length
 keep:∀ j,j<g.length→¬ O j→g'[j]? = g[j]?
 refs:∀ j,O' j→j<g.length→O j
theorem GFr.refl (g:List AObj) (O:Nat→Prop):GFr g O g O:=⟨Nat.le_refl _,fun _ _ _=>rfl,fun _ h _=>h⟩
theorem GFr.trans {g g' g'':List AObj} {O O' O'':Nat→Prop} (h1:GFr g O g' O') (h2:GFr g' O' g'' O''):GFr g O g'' O'' where
 len:=Nat.le_trans h1.len h2.len
 keep j hj hn:=by
  rw [h2.keep j (Nat.lt_of_lt_of_le hj h1.len) (fun h=>hn (h1.refs j h hj))]
  exact h1.keep j hj hn
 refs j hj hl:=h1.refs j (h2.refs j hj (Nat.lt_of_lt_of_le hl h1.len)) hl
def iAV (it:Nat→Nat):Option Nat→AV
 | none => .p .nilp
 | some k => .ptr true (it k) 6 1 0 0
theorem noLocal_iAV (it:Nat→Nat) (x:Option Nat):noLocal (iAV it x)=true:=by cases x <;> rfl
theorem cells_iAV (it:Nat→Nat) (x:Option Nat):(iAV it x).cells=some [iAV it x]:=by cases x <;> rfl
theorem iAVe:(∀ it x,noLocal (iAV it x)=true)∧(∀ it x,(iAV it x).cells=some [iAV it x])∧(∀ ks it x,mentions ks (iAV it x)=false) :=
 ⟨noLocal_iAV,cells_iAV,fun ks it x=>by cases x <;> simp [iAV,mentions]⟩
theorem iAVs:(∀ it,iAV it none = .p .nilp)∧(∀ it k,iAV it (some k) = .ptr true (it k) 6 1 0 0):=⟨fun _=>rfl,fun _ _=>rfl⟩
abbrev IP (it:Nat→Nat) (c:Nat):AV:=.ptr true (it c) 6 1 0 0
abbrev NP (nd:Nat→Nat) (c:Nat):AV:=.ptr true (nd c) 5 1 0 0
def itemC (it:Nat→Nat) (c:Nat) (x:LK):List AV:=[.p (.int .i64 c),iAV it x.u,iAV it x.f,iAV it x.l,iAV it x.p,iAV it x.n]
def nodeC (it:Nat→Nat) (c:Nat) (s:MNode):List AV:=[IP it c,.p (.str s.tag),.p (.str s.key),.p (.str s.text),.p (.list (s.attrs.map Attr.pv))]
def Items (L:List Nat) (it:Nat→Nat) (I:Nat→LK) (g:List AObj):Prop:=∀ c ∈ L,∃ o,g[it c]? = some o∧RowRep 6 [itemC it c (I c)] o
def InjOn (L:List Nat) (f:Nat→Nat):Prop:=∀ c ∈ L,∀ d ∈ L,f c=f d→c=d
section
variable {L:List Nat} {it:Nat→Nat} {I:Nat→LK} {g:List AObj}
theorem item_rd {c:Nat} {x:LK} {o:AObj} (h:RowRep 6 [itemC it c x] o) :
  o.rd 1 1 0 0 6 false=some (.p (.int .i64 c))∧o.rd 1 1 0 1 6 false=some (iAV it x.u)∧o.rd 1 1 0 2 6 false=some (iAV it x.f)∧o.rd 1 1 0 3 6 false=some (iAV it x.l)∧o.rd 1 1 0 4 6 false=some (iAV it x.p)∧o.rd 1 1 0 5 6 false=some (iAV it x.n) :=
 ⟨h.rd1 (n:=1) (i:=0) (j:=0) rfl (by omega) rfl rfl (by omega),h.rd1 (n:=1) (i:=0) (j:=1) rfl (by omega) rfl rfl (by omega),h.rd1 (n:=1) (i:=0) (j:=2) rfl (by omega) rfl rfl (by omega),h.rd1 (n:=1) (i:=0) (j:=3) rfl (by omega) rfl rfl (by omega),h.rd1 (n:=1) (i:=0) (j:=4) rfl (by omega) rfl rfl (by omega),h.rd1 (n:=1) (i:=0) (j:=5) rfl (by omega) rfl rfl (by omega)⟩
theorem Items.wr (h:Items L it I g) (hj:InjOn L it) {c:Nat} (hc:c ∈ L) {j:Nat} (hj6:j+1≤6) {x:LK} (v:Option Nat) (hx:(itemC it c (I c)).set j (iAV it v)=itemC it c x) :
  ∃ o o',g[it c]? = some o∧RowRep 6 [itemC it c (I c)] o∧o.wr 1 0 j 6 [iAV it v]=some o'∧Items L it (upd I c x) (g.set (it c) o'):=by
 obtain ⟨o,ho,hr⟩:=h c hc
 obtain ⟨o',hw,hr'⟩:=hr.wr1 (n:=1) (i:=0) (j:=j) (c:=itemC it c (I c)) rfl (by omega) rfl rfl hj6 (iAV it v)
 refine ⟨o,o',ho,hr,hw,fun d hd => ?_⟩
 by_cases e:d=c
 ·subst e
  refine ⟨o',by rw [List.getElem?_set,if_pos rfl,if_pos (List.getElem?_eq_some_iff.1 ho).1], ?_⟩
  rw [upd_at, ← hx];exact hr'
 ·obtain ⟨od,hod,hrd⟩:=h d hd
  refine ⟨od, ?_, ?_⟩
  ·rw [List.getElem?_set,if_neg (fun e2=>e (hj c hc d hd e2).symm)];exact hod
  ·rw [upd_ne e];exact hrd
end
abbrev DocP (pd:Nat):AV:=.ptr true pd 2 1 0 0
def mapD (L:List Nat) (nd:Nat→Nat):List (PV × AV):=L.map fun c:Nat=>(.int .i64 (c:Int),NP nd c)
structure DocAt (L:List Nat) (st:Nat→MNode) (nx:Int) (it nd:Nat→Nat) (I:Nat→LK) (pd pm:Nat) (g:List AObj):Prop where
 doc:g[pd]? = some (.cells 2 [[.map true pm,.p (.int .i64 nx)]])
 map:g[pm]? = some (.map (mapD L nd))
 nodes:∀ c ∈ L,g[nd c]? = some (.cells 5 [nodeC it c (st c)])
 items:Items L it I g
 itInj:InjOn L it
 ndInj:InjOn L nd
 itNd:∀ c ∈ L,∀ d ∈ L,it c≠nd d
 itP:∀ c ∈ L,it c≠pd∧it c≠pm
 ndP:∀ c ∈ L,nd c≠pd∧nd c≠pm
 pp:pd≠pm
def DocOwn (L:List Nat) (it nd:Nat→Nat) (pd pm:Nat) (j:Nat):Prop:=j=pd∨j=pm∨∃ c ∈ L,j=it c∨j=nd c
section
variable {L:List Nat} {st:Nat→MNode} {nx:Int} {it nd:Nat→Nat} {I:Nat→LK} {pd pm:Nat} {g:List AObj}
theorem DocAt.own_lt (h:DocAt L st nx it nd I pd pm g) {j:Nat} (hj:DocOwn L it nd pd pm j):j<g.length:=by
 rcases hj with rfl | rfl | ⟨c,hc,rfl | rfl⟩
 ·exact (List.getElem?_eq_some_iff.1 h.doc).1
 ·exact (List.getElem?_eq_some_iff.1 h.map).1
 ·obtain ⟨o,ho,_⟩:=h.items c hc
  exact (List.getElem?_eq_some_iff.1 ho).1
 ·exact (List.getElem?_eq_some_iff.1 (h.nodes c hc)).1
theorem DocAt.keep (h:DocAt L st nx it nd I pd pm g) {g':List AObj} (hg:∀ j,DocOwn L it nd pd pm j→g'[j]? = g[j]?):DocAt L st nx it nd I pd pm g' where
 doc:=by rw [hg _ (.inl rfl)];exact h.doc
 map:=by rw [hg _ (.inr (.inl rfl))];exact h.map
 nodes c hc:=by rw [hg _ (.inr (.inr ⟨c,hc,.inr rfl⟩))];exact h.nodes c hc
 items c hc:=by rw [hg _ (.inr (.inr ⟨c,hc,.inl rfl⟩))];exact h.items c hc
 itInj:=h.itInj
 ndInj:=h.ndInj
 itNd:=h.itNd
 itP:=h.itP
 ndP:=h.ndP
 pp:=h.pp
theorem DocAt.more (h:DocAt L st nx it nd I pd pm g) (r:List AObj):DocAt L st nx it nd I pd pm (g++r) :=
 h.keep fun j hj=>List.getElem?_append_left (h.own_lt hj)
theorem DocAt.link (h:DocAt L st nx it nd I pd pm g) {c:Nat} (hc:c ∈ L) {j:Nat} (hj6:j+1≤6) (x:LK) (v:Option Nat) (hx:(itemC it c (I c)).set j (iAV it v)=itemC it c x) :
  ∃ o o' g',g[it c]? = some o∧RowRep 6 [itemC it c (I c)] o∧o.wr 1 0 j 6 [iAV it v]=some o'∧g.set (it c) o'=g'∧DocAt L st nx it nd (upd I c x) pd pm g'∧GFr g (DocOwn L it nd pd pm) g' (DocOwn L it nd pd pm):=by
 obtain ⟨o,o',h1,h2,h3,h4⟩:=h.items.wr h.itInj hc hj6 v hx
 refine ⟨o,o',_,h1,h2,h3,rfl,⟨?_, ?_,fun d hd => ?_,h4,h.itInj,h.ndInj,h.itNd,h.itP,h.ndP,h.pp⟩,⟨by simp,fun j hj hn => ?_,fun j hj _=>hj⟩⟩
 ·rw [List.getElem?_set,if_neg (h.itP c hc).1];exact h.doc
 ·rw [List.getElem?_set,if_neg (h.itP c hc).2];exact h.map
 ·rw [List.getElem?_set,if_neg (h.itNd c hc d hd)];exact h.nodes d hd
 ·rw [List.getElem?_set,if_neg (fun e=>hn (.inr (.inr ⟨c,hc,.inl e.symm⟩)))]
theorem RowRep.one {sz:Nat} {c:List AV} {o:AObj} (h:RowRep sz [c] o) {g:List AObj} {k:Nat} (ho:g[k]? = some o) (fr:List (Nat × AV)) (l:List (Nat × AObj)):St.one ⟨fr,l,g⟩ true k=true:=by
 rcases h with rfl | ⟨ps,rfl,e⟩
 ·simp [St.one,St.obj,ho]
 ·match ps,e with
  | [p],_=>simp [St.one,St.obj,ho]
  | [],e=>simp at e
  | _::_::_,e=>simp at e
theorem DocAt.one (h:DocAt L st nx it nd I pd pm g) {c:Nat} (hc:c ∈ L) (fr:List (Nat × AV)) (l:List (Nat × AObj)):St.one ⟨fr,l,g⟩ true (it c)=true:=by
 obtain ⟨o,ho,hr⟩:=h.items c hc
 exact hr.one ho fr l
theorem DocAt.node (h:DocAt L st nx it nd I pd pm g) {c:Nat} (hc:c ∈ L) (s:MNode):DocAt L (upd st c s) nx it nd I pd pm (g.set (nd c) (.cells 5 [nodeC it c s])) where
 doc:=by rw [List.getElem?_set,if_neg (h.ndP c hc).1];exact h.doc
 map:=by rw [List.getElem?_set,if_neg (h.ndP c hc).2];exact h.map
 nodes d hd:=by
  by_cases e:d=c
  ·subst e
   rw [List.getElem?_set,if_pos rfl,if_pos (List.getElem?_eq_some_iff.1 (h.nodes d hd)).1,upd_at]
  ·rw [List.getElem?_set,if_neg (fun e2=>e (h.ndInj c hc d hd e2).symm),upd_ne e];exact h.nodes d hd
 items d hd:=by
  rw [List.getElem?_set,if_neg (fun e=>h.itNd d hd c hc e.symm)];exact h.items d hd
 itInj:=h.itInj
 ndInj:=h.ndInj
 itNd:=h.itNd
 itP:=h.itP
 ndP:=h.ndP
 pp:=h.pp
theorem DocAt.st_congr (h:DocAt L st nx it nd I pd pm g) {st':Nat→MNode} (hs:∀ c ∈ L,nodeC it c (st' c)=nodeC it c (st c)) {I':Nat→LK} (hI:∀ c ∈ L,I' c=I c):DocAt L st' nx it nd I' pd pm g where
 doc:=h.doc
 map:=h.map
 nodes c hc:=by rw [hs c hc];exact h.nodes c hc
 items c hc:=by rw [hI c hc];exact h.items c hc
 itInj:=h.itInj
 ndInj:=h.ndInj
 itNd:=h.itNd
 itP:=h.itP
 ndP:=h.ndP
 pp:=h.pp
end
theorem mlk_mapD (L : List Nat) (nd : Nat → Nat) (id : Int) : mlk 1 (mapD L nd) (.int .i64 id) = if id.toNat ∈ L ∧ 0 ≤ id then some (NP nd id.toNat) else none := by
  induction L with
  | nil=>simp [mapD,mlk]
  | cons c L ih =>
    have e:mapD (c::L) nd=(.int .i64 c,NP nd c)::mapD L nd:=rfl
    rw [e,mlk]
    simp only [scalarEqK,if_true,Option.some.injEq,beq_iff_eq]
    by_cases h:(c:Int)=id
    · subst h;simp
    · rw [if_neg h,ih]
      have:¬ id.toNat=c∨¬ 0≤id:=by omega
      by_cases h2:id.toNat ∈ L∧0≤id
      · rw [if_pos h2,if_pos ⟨List.mem_cons_of_mem _ h2.1,h2.2⟩]
      · rw [if_neg h2,if_neg]
        rintro ⟨h3,h4⟩
        rcases List.mem_cons.1 h3 with h5 | h5
        · omega
        · exact h2 ⟨h5,h4⟩
theorem mapD_keys (L:List Nat) (nd:Nat→Nat) (id:Int):(mapD L nd).all (fun e=>(scalarEqK 1 e.1 (.int .i64 id)).isSome)=true:=by
 simp [mapD,scalarEqK]
theorem mput_mapD {L:List Nat} {nd:Nat→Nat} {c:Nat} (h:c ∉ L) (q:Nat):mput 1 (mapD L nd) (.int .i64 c) (.ptr true q 5 1 0 0)=mapD (L++[c]) (upd nd c q):=by
  have:∀ L:List Nat,c ∉ L→mput 1 (mapD L nd) (.int .i64 c) (.ptr true q 5 1 0 0)=mapD L nd++[(.int .i64 c,.ptr true q 5 1 0 0)]:=by
    intro L
    induction L with
    | nil=>intro _;rfl
    | cons d L ih =>
      intro h
      simp only [List.mem_cons,not_or] at h
      have e:mapD (d::L) nd=(.int .i64 d,NP nd d)::mapD L nd:=rfl
      rw [e,mput]
      simp only [scalarEqK,if_true,Option.some.injEq,beq_iff_eq]
      rw [if_neg (by omega),ih h.2];rfl
  rw [this L h]
  unfold mapD
  rw [List.map_append]
  congr 1
  · refine List.map_congr_left fun d hd => ?_
    have hne:d≠c:=fun e=>by subst e;exact h hd
    simp only [NP,upd_ne hne]
  · simp [upd_at]
theorem mdel_mapD {L:List Nat} (hn:L.Nodup) (nd:Nat→Nat) (c:Nat):mdel 1 (mapD L nd) (.int .i64 c)=mapD (L.filter fun k => !(k==c)) nd:=by
  induction L with
  | nil=>rfl
  | cons d L ih =>
    rw [List.nodup_cons] at hn
    have e:mapD (d::L) nd=(.int .i64 d,NP nd d)::mapD L nd:=rfl
    rw [e,mdel]
    simp only [scalarEqK,if_true,Option.some.injEq,beq_iff_eq]
    by_cases h:d=c
    · subst h
      rw [if_pos rfl,List.filter_cons,if_neg (by simp),List.filter_eq_self.2]
      intro k hk
      have:k≠d:=fun e=>hn.1 (e ▸ hk)
      simpa using this
    · rw [if_neg (by omega),List.filter_cons,if_pos (by simpa using h),ih hn.2];rfl
end Go.TA


end
