/- Part 7 of 16 of a proof; joined from MS, MDef, OpsData, ConcatD, SimM. A machine beside another one that does the same under other handles. Plain. -/
import Derived.Test.YtnjblmbobmbgkaaGreatDoorCa6
import Derived.Test.YtnjblmbobmbgkaaGreatDoorCa1
set_option linter.unusedSimpArgs false
set_option linter.unusedVariables false
set_option linter.defProp false
set_option maxRecDepth 100000
set_option maxHeartbeats 8000000
section
/- What a machine is, and what is done with it. Plain. -/
namespace Go.TA
structure MS where
 N:Nat
 st:Nat→b3p
 kd:Nat→List Int
def b1j (S:MS) (h:Int):Bool:=decide (0≤h) && (decide (h<(S.N:Int)) && (S.st h.toNat).live)
def upOf (S:MS) (h:Int):Int:=(S.st h.toNat).up
inductive Below (S:MS) (t:Int):Int→Prop
 | here:Below S t t
 | up {h:Int}:0≤h→Below S t (upOf S h)→Below S t h
structure MS.Ok (R:Nat) (S:MS):Prop where
 pos:0<S.N
 top:(S.st 0).live=true∧(S.st 0).up = -1
 kids:∀ p:Nat,p<S.N→∀ k ∈ S.kd p,∃ c:Nat,k=(c:Int)∧c<S.N∧(S.st c).live=true∧(S.st c).up=(p:Int)
 up:∀ c:Nat,c<S.N→(S.st c).up = -1∨∃ p:Nat,p<S.N∧(S.st c).up=(p:Int)∧(S.st p).live=true∧(c:Int) ∈ S.kd p
 dead:∀ h:Nat,h<S.N→(S.st h).live=false→(S.st h).up = -1∧S.kd h=[]
 nodup:∀ p:Nat,p<S.N→(S.kd p).Nodup
 rank:∃ r:Nat→Nat,(∀ c:Nat,c<S.N→r c≤R)∧∀ c p:Nat,c<S.N→(S.st c).up=(p:Int)→r p<r c
 attrs:∀ h:Nat,h<S.N→(S.st h).attrs.length≤1048577
theorem MS.Ok.more {R R':Nat} {S:MS} (h:S.Ok R) (hr:R≤R'):S.Ok R' :=
 ⟨h.pos,h.top,h.kids,h.up,h.dead,h.nodup,by obtain ⟨r,h1,h2⟩:=h.rank;exact ⟨r,fun c hc=>by have:=h1 c hc;omega,h2⟩,h.attrs⟩
theorem b5f {S:MS} {h:Int} (hl:b1j S h=true):∃ c:Nat,h=(c:Int)∧c<S.N∧(S.st c).live=true:=by
 simp only [b1j,Bool.and_eq_true,decide_eq_true_eq] at hl
 refine ⟨h.toNat,by omega,by omega,hl.2.2⟩
theorem j0u {S:MS} {c:Nat} (h:c<S.N) (hl:(S.st c).live=true):b1j S (c:Int)=true:=by
 simp only [b1j,Bool.and_eq_true,decide_eq_true_eq,Int.toNat_natCast]
 exact ⟨by omega,by omega,hl⟩
section
variable {R:Nat} {S:MS}
theorem c0v : ∀ (n : Nat) (l : List Int), l.Nodup → (∀ k ∈ l, ∃ c : Nat, k = (c : Int) ∧ c < n) → l.length ≤ n
  | 0, l, _, h => by
    cases l with
    | nil=>simp
    | cons a l=>obtain ⟨c,_,hc⟩:=h a (by simp);omega
  | n + 1, l, hn, h => by
    have:=c0v n (l.erase (n:Int)) (hn.erase _) (fun k hk=>by
      obtain ⟨c,rfl,hc⟩:=h k (List.mem_of_mem_erase hk)
      refine ⟨c,rfl, ?_⟩
      have:(c:Int)≠(n:Int):=fun e=>by
        rw [e] at hk
        exact hn.not_mem_erase hk
      omega)
    have:=List.length_erase (a:=(n:Int)) (l:=l)
    split at this <;> omega
theorem MS.Ok.kids_len (h:S.Ok R) {p:Nat} (hp:p<S.N):(S.kd p).length≤S.N :=
 c0v _ _ (h.nodup p hp) fun k hk=>by obtain ⟨c,h1,h2,_⟩:=h.kids p hp k hk;exact ⟨c,h1,h2⟩
theorem MS.Ok.up_lt (h:S.Ok R) {c p:Nat} (hc:c<S.N) (hu:(S.st c).up=(p:Int)):p<S.N∧(S.st p).live=true∧(c:Int) ∈ S.kd p:=by
 rcases h.up c hc with h1 | ⟨q,h1,h2,h3,h4⟩
 ·omega
 ·have:q=p:=by omega
  subst this;exact ⟨h1,h3,h4⟩
theorem MS.Ok.up_nat (h:S.Ok R) {c:Nat} (hc:c<S.N) (hu:0≤(S.st c).up):∃ p:Nat,(S.st c).up=(p:Int)∧p<S.N∧(S.st p).live=true∧(c:Int) ∈ S.kd p:=by
 rcases h.up c hc with h1 | ⟨q,h1,h2,h3,h4⟩
 ·omega
 ·exact ⟨q,h2,h1,h3,h4⟩
theorem c1f {t:Int} (ht:0≤t):¬ Below S t (-1):=by
 intro h
 generalize e:(-1:Int)=m at h
 cases h with
 | here=>omega
 | up h1 h2=>omega
theorem h4c (h:S.Ok R) {t:Int} (ht:0<t):¬ Below S t 0:=by
  intro hb
  generalize e:(0:Int)=m at hb
  cases hb with
  | here=>omega
  | up h1 h2 =>
    subst e
    have:upOf S 0 = -1:=h.top.2
    rw [this] at h2
    exact c1f (by omega) h2
theorem c1g {t h:Int} (hh:0≤h) (hne:h≠t):Below S t h↔Below S t (upOf S h):=by
 constructor
 ·intro hb
  cases hb with
  | here=>exact absurd rfl hne
  | up _ h2=>exact h2
 ·exact fun h2 => .up hh h2
theorem c1z {r:Nat→Nat} (hok:S.Ok R) (hr:∀ c p:Nat,c<S.N→(S.st c).up=(p:Int)→r p<r c) {t:Nat} {h:Int} (hb:Below S (t:Int) h):∀ c:Nat,h=(c:Int)→c<S.N→r t≤r c:=by
  induction hb with
  | here => intro c e _; have : t = c := by omega
            subst this;exact Nat.le_refl _
  | @up h h1 h2 ih =>
    intro c e hc
    subst e
    have hu:upOf S (c:Int)=(S.st c).up:=rfl
    rcases hok.up c hc with h3 | ⟨p,h3,h4,_⟩
    · rw [hu,h3] at h2;exact absurd h2 (c1f (by omega))
    · have:=ih p (by rw [hu,h4]) h3
      have:=hr c p hc h4
      omega
def MS.create (S:MS) (x:GOp):MS:=⟨S.N+1,upd S.st S.N ⟨true, -1,x.tag,x.key,x.text,x.attrs⟩,upd S.kd S.N []⟩
def insI (l:List Int) (h b:Int):List Int:=l.take (if b=0 then l.length else l.idxOf b)++h::l.drop (if b=0 then l.length else l.idxOf b)
def b2h (S:MS) (h u:Nat) (b:Int):MS:=⟨S.N,upd S.st h { S.st h with up:=(u:Int) },upd S.kd u (insI (S.kd u) h b)⟩
def b2f (S:MS) (h:Nat):MS:=if (S.st h).up<0 then S else ⟨S.N,upd S.st h { S.st h with up := -1 },upd S.kd (S.st h).up.toNat ((S.kd (S.st h).up.toNat).filter fun k => !(k==(h:Int)))⟩
def d1a:b3p:=⟨false, -1,[],[],[],[]⟩
open Classical in
noncomputable def endM (S:MS) (h:Int):MS:=⟨S.N,fun y=>if Below S h (y:Int) then d1a else S.st y,fun y=>if Below S h (y:Int) then [] else S.kd y⟩
def setM (S:MS) (h:Nat) (a:List Attr):MS:=⟨S.N,upd S.st h { S.st h with attrs:=a },S.kd⟩
def textM (S:MS) (h:Nat) (s:Bs):MS:=⟨S.N,upd S.st h { S.st h with text:=s },S.kd⟩
theorem MS.Ok.create (h : S.Ok R) (x : GOp) (hx : x.attrs.length ≤ 1048577) : (S.create x).Ok R where
  pos:=by simp [MS.create]
  top:=by
    have:=h.pos
    simp only [MS.create]
    rw [b0k (by omega)]
    exact h.top
  kids p hp k hk:=by
    simp only [MS.create] at hp hk ⊢
    by_cases e:p=S.N
    · subst e;rw [b0l] at hk;simp at hk
    · rw [b0k e] at hk
      obtain ⟨c,h1,h2,h3,h4⟩:=h.kids p (by omega) k hk
      refine ⟨c,h1,by omega, ?_⟩
      rw [b0k (by omega)];exact ⟨h3,h4⟩
  up c hc:=by
    simp only [MS.create] at hc ⊢
    by_cases e:c=S.N
    · subst e;left;rw [b0l]
    · rw [b0k e]
      rcases h.up c (by omega) with h1 | ⟨p,h1,h2,h3,h4⟩
      · exact .inl h1
      · refine .inr ⟨p,by omega,h2, ?_⟩
        rw [b0k (by omega),b0k (by omega)];exact ⟨h3,h4⟩
  dead c hc hl:=by
    simp only [MS.create] at hc hl ⊢
    by_cases e:c=S.N
    · subst e;rw [b0l] at hl;cases hl
    · rw [b0k e] at hl ⊢
      rw [b0k e]
      exact h.dead c (by omega) hl
  nodup p hp:=by
    simp only [MS.create] at hp ⊢
    by_cases e:p=S.N
    · subst e;rw [b0l];exact List.nodup_nil
    · rw [b0k e];exact h.nodup p (by omega)
  rank:=by
    obtain ⟨r,h1,h2⟩:=h.rank
    refine ⟨upd r S.N 0,fun c hc => ?_,fun c p hc hu => ?_⟩
    · by_cases e:c=S.N
      · subst e;rw [b0l];omega
      · rw [b0k e];exact h1 c (by simp only [MS.create] at hc;omega)
    · simp only [MS.create] at hc hu
      by_cases e:c=S.N
      · subst e;rw [b0l] at hu;simp at hu <;> omega
      · rw [b0k e] at hu
        have:=(h.up_lt (by omega) hu).1
        rw [b0k e,b0k (by omega)]
        exact h2 c p (by omega) hu
  attrs c hc:=by
    simp only [MS.create] at hc ⊢
    by_cases e:c=S.N
    · subst e;rw [b0l];exact hx
    · rw [b0k e];exact h.attrs c (by omega)
theorem d4f {l:List Int} {h b k:Int}:k ∈ insI l h b↔k=h∨k ∈ l:=by
 unfold insI
 generalize (if b=0 then l.length else l.idxOf b)=i
 rw [List.mem_append,List.mem_cons]
 have:k ∈ l↔k ∈ l.take i∨k ∈ l.drop i:=by rw [← List.mem_append,List.take_append_drop]
 rw [this]
 constructor
 ·rintro (h1 | h1 | h1)
  ·exact .inr (.inl h1)
  ·exact .inl h1
  ·exact .inr (.inr h1)
 ·rintro (h1 | h1 | h1)
  ·exact .inr (.inl h1)
  ·exact .inl h1
  ·exact .inr (.inr h1)
theorem g6f {l:List Int} {h b:Int} (hn:l.Nodup) (hh:h ∉ l):(insI l h b).Nodup:=by
 unfold insI
 generalize (if b=0 then l.length else l.idxOf b)=i
 have e:l=l.take i++l.drop i:=(List.take_append_drop i l).symm
 rw [e] at hn hh
 rw [List.nodup_append] at hn ⊢
 simp only [List.mem_append,not_or] at hh
 refine ⟨hn.1,List.nodup_cons.2 ⟨hh.2,hn.2.1⟩,fun a ha b hb => ?_⟩
 rcases List.mem_cons.1 hb with rfl | hb
 ·exact fun e=>hh.1 (e ▸ ha)
 ·exact hn.2.2 a ha b hb
theorem MS.Ok.take (hk : S.Ok R) {h : Nat} (hh : h < S.N) (hl : (S.st h).live = true) : (b2f S h).Ok R ∧ ((b2f S h).st h).up = -1 := by
  unfold b2f
  split
  · rename_i h0
    refine ⟨hk, ?_⟩
    rcases hk.up h hh with h1 | ⟨p,h1,h2,_⟩
    · exact h1
    · omega
  rename_i h0
  obtain ⟨u,hu,hu1,hu2,hu3⟩:=hk.up_nat hh (by omega)
  rw [hu,Int.toNat_natCast]
  refine ⟨?_,by simp [b0l]⟩
  have hst:∀ c,c≠h→upd S.st h { S.st h with up := -1 } c=S.st c:=fun c hc=>b0k hc
  have h0':h≠0:=fun e=>by subst e;have:=hk.top.2;omega
  refine ⟨hk.pos,by simp only;rw [hst 0 (fun e=>h0' e.symm)];exact hk.top,fun p hp k hkk => ?_,fun c hc => ?_,fun c hc hd => ?_,fun p hp => ?_, ?_,fun c hc => ?_⟩
  · simp only at hp hkk ⊢
    have hmem:k ∈ S.kd p∧k≠(h:Int):=by
      by_cases e:p=u
      · subst e
        rw [b0l,List.mem_filter] at hkk
        exact ⟨hkk.1,by simpa using hkk.2⟩
      · rw [b0k e] at hkk
        obtain ⟨c,rfl,_,_,h4⟩:=hk.kids p hp k hkk
        refine ⟨hkk,fun e' => ?_⟩
        have:c=h:=by omega
        subst this
        omega
    obtain ⟨c,rfl,h2,h3,h4⟩:=hk.kids p hp k hmem.1
    refine ⟨c,rfl,h2, ?_⟩
    rw [hst c (fun e=>hmem.2 (by rw [e]))]
    exact ⟨h3,h4⟩
  · simp only at hc ⊢
    by_cases e:c=h
    · subst e;left;rw [b0l]
    · rw [hst c e]
      rcases hk.up c hc with h1 | ⟨p,h1,h2,h3,h4⟩
      · exact .inl h1
      · refine .inr ⟨p,h1,h2, ?_, ?_⟩
        · by_cases e':p=h
          · subst e';rw [b0l];exact hl
          · rw [hst p e'];exact h3
        · by_cases e':p=u
          · subst e'
            rw [b0l,List.mem_filter]
            exact ⟨h4,by simp;omega⟩
          · rw [b0k e'];exact h4
  · simp only at hc hd ⊢
    by_cases e:c=h
    · subst e;rw [b0l] at hd;simp only at hd;rw [hl] at hd;cases hd
    · rw [hst c e] at hd ⊢
      have:=hk.dead c hc hd
      refine ⟨this.1, ?_⟩
      by_cases e':c=u
      · subst e';rw [hu2] at hd;cases hd
      · rw [b0k e'];exact this.2
  · simp only at hp ⊢
    by_cases e:p=u
    · subst e;rw [b0l];exact (hk.nodup _ hp).filter _
    · rw [b0k e];exact hk.nodup p hp
  · obtain ⟨r,h1,h2⟩:=hk.rank
    refine ⟨r,h1,fun c p hc hup => ?_⟩
    simp only at hc hup
    by_cases e:c=h
    · subst e;rw [b0l] at hup;simp only at hup;omega
    · rw [hst c e] at hup;exact h2 c p hc hup
  · simp only at hc ⊢
    by_cases e:c=h
    · subst e;rw [b0l];exact hk.attrs _ hc
    · rw [hst c e];exact hk.attrs c hc
theorem MS.Ok.place (hk : S.Ok R) {h u : Nat} (b : Int) (hh : h < S.N) (hl : (S.st h).live = true) (h0 : 0 < h) (hup : (S.st h).up = -1) (hu : u < S.N) (hul : (S.st u).live = true) (hb : ¬ Below S (h : Int) (u : Int)) : (b2h S h u b).Ok (R + R + 1) := by
  unfold b2h
  have hst:∀ c,c≠h→upd S.st h { S.st h with up:=(u:Int) } c=S.st c:=fun c hc=>b0k hc
  have hlv:∀ c,(upd S.st h { S.st h with up:=(u:Int) } c).live=(S.st c).live:=fun c=>by
    by_cases e:c=h
    · subst e;rw [b0l]
    · rw [hst c e]
  have hnk:∀ p,p<S.N→(h:Int) ∉ S.kd p:=fun p hp hm=>by
    obtain ⟨c,h1,_,_,h4⟩:=hk.kids p hp _ hm
    have:c=h:=by omega
    subst this
    omega
  refine ⟨hk.pos,by simp only;rw [hst 0 (by omega)];exact hk.top,fun p hp k hkk => ?_,fun c hc => ?_,fun c hc hd => ?_,fun p hp => ?_, ?_,fun c hc => ?_⟩
  · simp only at hp hkk ⊢
    by_cases e:p=u
    · subst e
      rw [b0l,d4f] at hkk
      rcases hkk with rfl | hkk
      · exact ⟨h,rfl,hh,by rw [hlv];exact hl,by rw [b0l]⟩
      · obtain ⟨c,rfl,h2,h3,h4⟩:=hk.kids p hp k hkk
        refine ⟨c,rfl,h2,by rw [hlv];exact h3, ?_⟩
        rw [hst c (fun e=>by subst e;omega)];exact h4
    · rw [b0k e] at hkk
      obtain ⟨c,rfl,h2,h3,h4⟩:=hk.kids p hp k hkk
      refine ⟨c,rfl,h2,by rw [hlv];exact h3, ?_⟩
      rw [hst c (fun e=>by subst e;omega)];exact h4
  · simp only at hc ⊢
    by_cases e:c=h
    · subst e
      right
      refine ⟨u,hu,by rw [b0l],by rw [hlv];exact hul, ?_⟩
      rw [b0l,d4f];exact .inl rfl
    · rw [hst c e]
      rcases hk.up c hc with h1 | ⟨p,h1,h2,h3,h4⟩
      · exact .inl h1
      · refine .inr ⟨p,h1,h2,by rw [hlv];exact h3, ?_⟩
        by_cases e':p=u
        · subst e';rw [b0l,d4f];exact .inr h4
        · rw [b0k e'];exact h4
  · simp only at hc hd ⊢
    rw [hlv] at hd
    have hne:c≠h:=fun e=>by subst e;rw [hl] at hd;cases hd
    have hne2:c≠u:=fun e=>by subst e;rw [hul] at hd;cases hd
    rw [hst c hne,b0k hne2]
    exact hk.dead c hc hd
  · simp only at hp ⊢
    by_cases e:p=u
    · subst e;rw [b0l];exact g6f (hk.nodup _ hp) (hnk _ hp)
    · rw [b0k e];exact hk.nodup p hp
  · obtain ⟨r,h1,h2⟩:=hk.rank
    classical
    refine ⟨fun c=>if Below S (h:Int) (c:Int) then r c+r u+1 else r c,fun c hc => ?_,fun c p hc hcu => ?_⟩
    · have:=h1 c hc
      have:=h1 u hu
      simp only
      split <;> omega
    · simp only at hc hcu ⊢
      by_cases e:c=h
      · subst e
        rw [b0l] at hcu
        simp only at hcu
        have:u=p:=by omega
        subst this
        rw [if_neg hb,if_pos .here]
        omega
      · rw [hst c e] at hcu
        have hlt:=h2 c p hc hcu
        have hi:Below S (h:Int) (c:Int)↔Below S (h:Int) (p:Int):=by
          rw [c1g (by omega) (by omega)]
          have:upOf S (c:Int)=(p:Int):=hcu
          rw [this]
        by_cases e1:Below S (h:Int) (p:Int)
        · rw [if_pos e1,if_pos (hi.2 e1)];omega
        · rw [if_neg e1,if_neg (fun q=>e1 (hi.1 q))];exact hlt
  · simp only at hc ⊢
    by_cases e:c=h
    · subst e;rw [b0l];exact hk.attrs _ hc
    · rw [hst c e];exact hk.attrs c hc
theorem MS.Ok.endM (hk : S.Ok R) {h : Nat} (hh : h < S.N) (h0 : 0 < h) (hup : (S.st h).up = -1) : (endM S (h : Int)).Ok R := by
  unfold Go.TA.endM
  have hb:∀ c p:Nat,c<S.N→(S.st c).up=(p:Int)→(Below S (h:Int) (c:Int)↔Below S (h:Int) (p:Int)):=fun c p hc hu=>by
    have hne:c≠h:=fun e=>by subst e;omega
    rw [c1g (by omega) (by omega)]
    have:upOf S (c:Int)=(p:Int):=hu
    rw [this]
  have ht:=h4c hk (t:=(h:Int)) (by omega)
  classical
  refine ⟨hk.pos, ?_,fun p hp k hkk => ?_,fun c hc => ?_,fun c hc hd => ?_,fun p hp => ?_, ?_,fun c hc => ?_⟩
  · simp only
    rw [if_neg (by simpa using ht)];exact hk.top
  · simp only at hp hkk ⊢
    by_cases e:Below S (h:Int) (p:Int)
    · rw [if_pos e] at hkk;simp at hkk
    · rw [if_neg e] at hkk
      obtain ⟨c,rfl,h2,h3,h4⟩:=hk.kids p hp k hkk
      refine ⟨c,rfl,h2, ?_⟩
      rw [if_neg (fun q=>e ((hb c p h2 h4).1 q))]
      exact ⟨h3,h4⟩
  · simp only at hc ⊢
    by_cases e:Below S (h:Int) (c:Int)
    · left;rw [if_pos e];rfl
    · rw [if_neg e]
      rcases hk.up c hc with h1 | ⟨p,h1,h2,h3,h4⟩
      · exact .inl h1
      · have e2:¬ Below S (h:Int) (p:Int):=fun q=>e ((hb c p hc h2).2 q)
        refine .inr ⟨p,h1,h2, ?_⟩
        rw [if_neg e2,if_neg e2]
        exact ⟨h3,h4⟩
  · simp only at hc hd ⊢
    by_cases e:Below S (h:Int) (c:Int)
    · rw [if_pos e,if_pos e];exact ⟨rfl,rfl⟩
    · rw [if_neg e] at hd
      rw [if_neg e,if_neg e];exact hk.dead c hc hd
  · simp only at hp ⊢
    by_cases e:Below S (h:Int) (p:Int)
    · rw [if_pos e];exact List.nodup_nil
    · rw [if_neg e];exact hk.nodup p hp
  · obtain ⟨r,h1,h2⟩:=hk.rank
    refine ⟨r,h1,fun c p hc hcu => ?_⟩
    simp only at hc hcu
    by_cases e:Below S (h:Int) (c:Int)
    · rw [if_pos e] at hcu;simp [d1a] at hcu <;> omega
    · rw [if_neg e] at hcu;exact h2 c p hc hcu
  · simp only at hc ⊢
    by_cases e:Below S (h:Int) (c:Int)
    · rw [if_pos e];simp [d1a]
    · rw [if_neg e];exact hk.attrs c hc
theorem MS.Ok.same (hk:S.Ok R) {st:Nat→b3p} (hs:∀ c,c<S.N→(st c).live=(S.st c).live∧(st c).up=(S.st c).up∧(st c).attrs.length≤1048577):(⟨S.N,st,S.kd⟩:MS).Ok R:=by
 refine ⟨hk.pos,⟨by rw [(hs 0 hk.pos).1];exact hk.top.1,by rw [(hs 0 hk.pos).2.1];exact hk.top.2⟩,fun p hp k hkk => ?_,fun c hc => ?_,fun c hc hd => ?_,hk.nodup, ?_,fun c hc=>(hs c hc).2.2⟩
 ·obtain ⟨c,h1,h2,h3,h4⟩:=hk.kids p hp k hkk
  exact ⟨c,h1,h2,by simp only;rw [(hs c h2).1];exact h3,by simp only;rw [(hs c h2).2.1];exact h4⟩
 ·simp only at hc ⊢
  rw [(hs c hc).2.1]
  rcases hk.up c hc with h1 | ⟨p,h1,h2,h3,h4⟩
  ·exact .inl h1
  ·exact .inr ⟨p,h1,h2,by rw [(hs p h1).1];exact h3,h4⟩
 ·simp only at hc hd ⊢
  rw [(hs c hc).1] at hd
  rw [(hs c hc).2.1]
  exact hk.dead c hc hd
 ·obtain ⟨r,h1,h2⟩:=hk.rank
  refine ⟨r,h1,fun c p hc hcu => ?_⟩
  simp only at hc hcu
  rw [(hs c hc).2.1] at hcu
  exact h2 c p hc hcu
end
end Go.TA


end
section
/- What the machine's operations do, whichever text does them. Plain. -/
namespace Go.TA
def fitE (S:MS) (h:Int):Int:=if h=0 then 14 else if b1j S h=true then 0 else 13
open Classical in
noncomputable def b2t (S:MS) (h t:Int):Bool:=decide (Below S t h)
theorem b2y {S:MS} {h t:Int}:b2t S h t=true↔Below S t h:=by simp [b2t]
def fstAt (l:List Attr) (name:Bs):Nat:=l.findIdx (fun a=>a.name==name)
def posAt (l:List Attr) (name:Bs):Nat:=l.findIdx (fun a => !(b3f a.name name))
def c0g (l:List Attr) (name v:Bs):List Attr:=if fstAt l name<l.length then l.set (fstAt l name) ⟨name,v⟩ else l.take (posAt l name)++⟨name,v⟩::l.drop (posAt l name)
def notN (h:Bs) (x:Attr):Bool := !(x.name==h)
def b3t (l:List Attr) (name:Bs):List Attr:=l.filter (notN name)
def b3i (S:MS) (h:Nat) (x:GOp):Int × MS :=
 if x.kind=5 then if 64<((c0g (S.st h).attrs x.name x.text).length:Int) then (12,S) else (0,setM S h (c0g (S.st h).attrs x.name x.text))
 else if x.kind=6 then if (b3t (S.st h).attrs x.name).length<(S.st h).attrs.length then (0,setM S h (b3t (S.st h).attrs x.name)) else (8,S)
 else if x.kind=7 then (0,textM S h x.text) else (0,S)
noncomputable def b2s (S:MS) (x:GOp):Int × MS :=
 if (b1j S x.node && (b1j S x.up && b1j S x.before))=false then (13,S)
 else if 0≤upOf S x.node then (15,S)
 else if b2t S x.up x.node=true then (17,S)
 else if x.before≠0∧upOf S x.before≠x.up then (18,S)
 else (0,b2h S x.node.toNat x.up.toNat x.before)
def b6t (S:MS) (x:GOp):Int × MS :=
 if (b1j S x.node && b1j S x.before)=false then (13,S)
 else if upOf S x.node<0 then (16,S)
 else if x.before=x.node∨(x.before≠0∧upOf S x.before≠upOf S x.node) then (18,S)
 else (0,b2h (b2f S x.node.toNat) x.node.toNat (upOf S x.node).toNat x.before)
noncomputable def doM (S:MS) (x:GOp):Int × MS :=
 if x.kind=1 then (0,S.create x)
 else if x.node=0 then (14,S)
 else if x.kind=2 then b2s S x
 else if x.kind=3 then b6t S x
 else if b1j S x.node=false then (13,S)
 else if x.kind=4 then (0,endM (b2f S x.node.toNat) x.node)
 else b3i S x.node.toNat x
theorem b5i (S:MS) (h:Nat):(b2f S h).N=S.N:=by unfold b2f;split <;> rfl
theorem c5p (S:MS) (h y:Nat):((b2f S h).st y).live=(S.st y).live:=by
 unfold b2f
 split
 ·rfl
 ·simp only [upd]
  split
  ·rename_i e;subst e;rfl
  ·rfl
section
variable {R:Nat} {S:MS}
theorem h6g (hS : S.Ok R) {h u : Nat} (b : Int) (hh : h < S.N) (hl : (S.st h).live = true) (h0 : 0 < h) (hu : (S.st h).up = (u : Int)) : (b2h (b2f S h) h u b).Ok (R + R + 1) := by
  obtain ⟨hu1,hu2,hu3⟩:=hS.up_lt hh hu
  obtain ⟨hT,hup⟩:=hS.take hh hl
  have hn:=b5i S h
  refine hT.place b (by rw [hn];exact hh) (by rw [c5p];exact hl) h0 hup (by rw [hn];exact hu1) (by rw [c5p];exact hu2) (fun hb => ?_)
  obtain ⟨r,_,hr⟩:=hS.rank
  have hr':∀ c p:Nat,c<(b2f S h).N→((b2f S h).st c).up=(p:Int)→r p<r c:=fun c p hc hcp=>by
    by_cases e:c=h
    · subst e;omega
    · have:((b2f S h).st c).up=(S.st c).up:=by
        unfold b2f
        split
        · rfl
        · simp only;rw [b0k e]
      rw [this] at hcp
      exact hr c p (by rw [hn] at hc;exact hc) hcp
  have:=c1z hT hr' hb u rfl (by rw [hn];exact hu1)
  have:=hr h u hh hu
  omega
theorem g3r (hS:S.Ok R) {b u:Nat} (hb:b<S.N) (hu:(S.st b).up=(u:Int)):(b:Int) ∈ S.kd u:=(hS.up_lt hb hu).2.2
theorem d2u (hS:S.Ok R) {h:Nat} (hh:h<S.N) (x:GOp):(b3i S h x).2.Ok R∧(b3i S h x).2.N=S.N:=by
 have hset:∀ a:List Attr,a.length≤1048577→(setM S h a).Ok R:=fun a ha=>by
  refine hS.same fun c hc => ?_
  by_cases e:c=h
  ·subst e;rw [b0l];exact ⟨rfl,rfl,ha⟩
  ·rw [b0k e];exact ⟨rfl,rfl,hS.attrs c hc⟩
 have ha:=hS.attrs h hh
 unfold b3i
 split
 ·split
  ·exact ⟨hS,rfl⟩
  ·exact ⟨hset _ (by omega),rfl⟩
 split
 ·split
  ·exact ⟨hset _ (by omega),rfl⟩
  ·exact ⟨hS,rfl⟩
 split
 ·refine ⟨hS.same fun c hc => ?_,rfl⟩
  by_cases e:c=h
  ·subst e;rw [b0l];exact ⟨rfl,rfl,ha⟩
  ·rw [b0k e];exact ⟨rfl,rfl,hS.attrs c hc⟩
 ·exact ⟨hS,rfl⟩
theorem h3i (hS:S.Ok R) (x:GOp) (hx:x.attrs.length≤1048577):(doM S x).2.Ok (R+R+1)∧S.N≤(doM S x).2.N∧(doM S x).2.N≤S.N+1:=by
 have hm:S.Ok (R+R+1):=hS.more (by omega)
 unfold doM
 split
 ·exact ⟨(hS.create x hx).more (by omega),by simp [MS.create],by simp [MS.create]⟩
 split
 ·exact ⟨hm,by simp,by simp⟩
 rename_i hn0
 split
 ·unfold b2s
  split
  ·exact ⟨hm,by simp,by simp⟩
  rename_i hl
  simp only [Bool.not_eq_false,Bool.and_eq_true] at hl
  split
  ·exact ⟨hm,by simp,by simp⟩
  split
  ·exact ⟨hm,by simp,by simp⟩
  split
  ·exact ⟨hm,by simp,by simp⟩
  rename_i h1 h2 h3
  obtain ⟨c,hc,hcN,hcl⟩:=b5f hl.1
  obtain ⟨u,hu,huN,hul⟩:=b5f hl.2.1
  rw [hc] at hn0 h1 h2
  rw [hu] at h2
  rw [hc,hu]
  refine ⟨?_,by simp [b2h],by simp [b2h]⟩
  simp only [Int.toNat_natCast]
  refine hS.place _ hcN hcl (by omega) ?_ huN hul (fun hb=>h2 (b2y.2 hb))
  rcases hS.up c hcN with h4 | ⟨p,_,h4,_⟩
  ·exact h4
  ·exact absurd (show (0:Int)≤upOf S (c:Int) by rw [show upOf S (c:Int)=(p:Int) from h4];omega) h1
 split
 ·unfold b6t
  split
  ·exact ⟨hm,by simp,by simp⟩
  rename_i hl
  simp only [Bool.not_eq_false,Bool.and_eq_true] at hl
  split
  ·exact ⟨hm,by simp,by simp⟩
  split
  ·exact ⟨hm,by simp,by simp⟩
  rename_i h1 h2
  obtain ⟨c,hc,hcN,hcl⟩:=b5f hl.1
  have hup:upOf S x.node=(S.st c).up:=by rw [hc];rfl
  obtain ⟨p,hp,_⟩:=hS.up_nat hcN (by omega)
  rw [hup,hp,hc]
  simp only [Int.toNat_natCast]
  exact ⟨h6g hS _ hcN hcl (by omega) hp,by simp [b2h,b5i],by simp [b2h,b5i]⟩
 split
 ·exact ⟨hm,by simp,by simp⟩
 rename_i hl
 simp only [Bool.not_eq_false] at hl
 obtain ⟨c,hc,hcN,hcl⟩:=b5f hl
 split
 ·rw [hc]
  simp only [Int.toNat_natCast]
  obtain ⟨hT,hup⟩:=hS.take hcN hcl
  exact ⟨(hT.endM (by rw [b5i];exact hcN) (by omega) hup).more (by omega),by simp [endM,b5i],by simp [endM,b5i]⟩
 ·rw [hc]
  simp only [Int.toNat_natCast]
  obtain ⟨h1,h2⟩:=d2u hS hcN x
  exact ⟨h1.more (by omega),by omega,by omega⟩
end
theorem below_line {S:MS} {a b y:Int} (h1:Below S a y) (h2:Below S b y):Below S a b∨Below S b a:=by
  induction h1 with
  | here=>exact .inr h2
  | @up y hy h1 ih =>
    cases h2 with
    | here=>exact .inl (.up hy h1)
    | up _ h2=>exact ih h2
theorem g2b {S:MS} {a b y:Int} (h1:Below S b y) (h2:Below S a b):Below S a y:=by
 induction h1 with
 | here=>exact h2
 | @up y hy h1 ih=>exact .up hy ih
section
variable {R:Nat} {S:MS} (hS:S.Ok R)
include hS
theorem h4d {h : Nat} {y : Int} (hb : Below S (h : Int) y) : ∀ c : Nat, y = (c : Int) → c < S.N → c ≠ h → ∃ k ∈ S.kd h, Below S k (c : Int) := by
  induction hb with
  | here=>intro c e hc hne;exact absurd (by omega) hne
  | @up y hy h1 ih =>
    intro c e hc hne
    subst e
    have hu:upOf S (c:Int)=(S.st c).up:=rfl
    rcases hS.up c hc with h3 | ⟨p,h3,h4,h5,h6⟩
    · rw [hu,h3] at h1;exact absurd h1 (c1f (by omega))
    · by_cases e:p=h
      · subst e;exact ⟨_,h6,.here⟩
      · obtain ⟨k,hk,hb⟩:=ih p (by rw [hu,h4]) h3 e
        exact ⟨k,hk,.up (by omega) (by rw [hu,h4];exact hb)⟩
theorem c0y {h:Nat} (hh:h<S.N) {k y:Int} (hk:k ∈ S.kd h) (hb:Below S k y):Below S (h:Int) y:=by
 obtain ⟨c,rfl,hc,_,hu⟩:=hS.kids h hh k hk
 refine g2b hb (.up (by omega) ?_)
 have:upOf S (c:Int)=(h:Int):=hu
 rw [this];exact .here
theorem d2g {h:Nat} (hh:h<S.N) {k k' y:Int} (hk:k ∈ S.kd h) (hk':k' ∈ S.kd h) (hb:Below S k y) (hb':Below S k' y):k=k':=by
 obtain ⟨r,_,hr⟩:=hS.rank
 have key:∀ k k':Int,k ∈ S.kd h→k' ∈ S.kd h→Below S k k'→k=k':=by
  intro k k' hk hk' hb
  obtain ⟨c,rfl,hc,_,hu⟩:=hS.kids h hh k hk
  obtain ⟨c',rfl,hc',_,hu'⟩:=hS.kids h hh k' hk'
  by_cases e:c=c'
  ·rw [e]
  ·rw [c1g (by omega) (by omega)] at hb
   have e2:upOf S (c':Int)=(h:Int):=hu'
   rw [e2] at hb
   have:=c1z hS hr hb h rfl hh
   have:=hr c h hc hu
   omega
 rcases below_line hb hb' with h1 | h1
 ·exact key _ _ hk hk' h1
 ·exact (key _ _ hk' hk h1).symm
end
end Go.TA


end
section
/- What fields an operation's kind does not use: what they are. Plain. -/
namespace Go.TA
def nzI (n:Int):Bool := !(n==0)
def nzS (s:Bs):Bool := !(s==[])
def nzA (l:List Attr):Bool:=decide (0<(l.length:Int))
def g6e (x:GOp):Bool:=nzI x.node || (nzI x.up || (nzI x.before || (nzS x.name)))
def h1j (x:GOp):Bool:=nzS x.tag || (nzS x.key || (nzA x.attrs || (nzS x.name || (nzS x.text))))
def g6d (x:GOp):Bool:=nzS x.tag || (nzS x.key || (nzA x.attrs || (nzI x.up || (nzS x.name || (nzS x.text)))))
def g6c (x:GOp):Bool:=nzS x.tag || (nzS x.key || (nzA x.attrs || (nzI x.up || (nzI x.before || (nzS x.name || (nzS x.text))))))
def g6b (x:GOp):Bool:=nzS x.tag || (nzS x.key || (nzA x.attrs || (nzI x.up || (nzI x.before))))
def g6a (x:GOp):Bool:=nzS x.tag || (nzS x.key || (nzA x.attrs || (nzI x.up || (nzI x.before || (nzS x.text)))))
def g5z (x:GOp):Bool:=nzS x.tag || (nzS x.key || (nzA x.attrs || (nzI x.up || (nzI x.before || (nzS x.name)))))
def b5v (x:GOp):Bool:=if x.kind=1 then g6e x else if x.kind=2 then h1j x else if x.kind=3 then g6d x else if x.kind=4 then g6c x else if x.kind=5 then g6b x else if x.kind=6 then g6a x else if x.kind=7 then g5z x else false
def h5q (x:GOp):GOp:=⟨x.kind,0,0,0,x.tag,x.key,[],x.text,x.attrs⟩
def h5p (x:GOp):GOp:=⟨x.kind,x.node,x.up,x.before,[],[],[],[],[]⟩
def h5o (x:GOp):GOp:=⟨x.kind,x.node,0,x.before,[],[],[],[],[]⟩
def h5n (x:GOp):GOp:=⟨x.kind,x.node,0,0,[],[],[],[],[]⟩
def h5m (x:GOp):GOp:=⟨x.kind,x.node,0,0,[],[],x.name,x.text,[]⟩
def h5l (x:GOp):GOp:=⟨x.kind,x.node,0,0,[],[],x.name,[],[]⟩
def h5k (x:GOp):GOp:=⟨x.kind,x.node,0,0,[],[],[],x.text,[]⟩
def b5m (x:GOp):GOp:=if x.kind=1 then h5q x else if x.kind=2 then h5p x else if x.kind=3 then h5o x else if x.kind=4 then h5n x else if x.kind=5 then h5m x else if x.kind=6 then h5l x else if x.kind=7 then h5k x else x
end Go.TA


end
section
/- Two scripts together. Plain. -/
namespace Go.TA
def b0i (f:Int→Int) (x:GOp):GOp:={ x with node:=f x.node,up:=f x.up,before:=f x.before }
def b3a (mid:List GRow) (made h:Int):Int:=if h=0 then 0 else if h≤(mid.length:Int) then ((mid[(h - 1).toNat]?).map GRow.id).getD 0 else made+h - (mid.length:Int)
theorem g5l (l:List GOp):l.map (b0i fun h=>h)=l:=by
 have:(b0i fun h=>h)=id:=by funext x;rfl
 rw [this,List.map_id]
end Go.TA


end
section
/- A machine beside another one that does the same under other handles. Plain. -/
namespace Go.TA
def img (φ : Nat→Nat) (h:Int):Int:=if h<0 then h else (φ h.toNat:Int)
theorem b2n (φ : Nat→Nat) (n:Nat):img φ (n:Int)=(φ n:Int):=by
 unfold img
 rw [if_neg (by omega),Int.toNat_natCast]
structure Sim (φ : Nat→Nat) (M S:MS):Prop where
 pos:0<M.N
 zero : φ 0=0
 next:∀ j, φ (M.N+j)=S.N+j
 lt:∀ h,h<M.N → φ h<S.N
 inj:∀ h k,h<M.N→k<M.N → φ h = φ k→h=k
 node:∀ h,h<M.N→S.st (φ h) = { M.st h with up:=img φ (M.st h).up }
 kd:∀ h,h<M.N→S.kd (φ h)=(M.kd h).map (img φ)
 onto:∀ k,k<S.N→(S.st k).live=true→∃ h,h<M.N ∧ φ h=k
def Dom (M:MS) (a:Int):Prop:=a = -1∨∃ n:Nat,n<M.N∧a=(n:Int)
section
variable {R:Nat} {φ : Nat→Nat} {M S:MS}
theorem Sim.img_inj (hS:Sim φ M S) {a b:Int} (ha:Dom M a) (hb:Dom M b) (h:img φ a=img φ b):a=b:=by
 rcases ha with rfl | ⟨n,hn,rfl⟩ <;> rcases hb with rfl | ⟨k,hk,rfl⟩
 ·rfl
 ·rw [b2n] at h;simp [img] at h <;> omega
 ·rw [b2n] at h;simp [img] at h <;> omega
 ·rw [b2n,b2n] at h
  have:=hS.inj n k hn hk (by omega)
  rw [this]
theorem Sim.live (hS:Sim φ M S) (n:Nat):b1j S (img φ (n:Int))=b1j M (n:Int):=by
 rw [b2n]
 by_cases h:n<M.N
 ·have h1:=hS.lt n h
  have h2:((φ n:Nat):Int)<(S.N:Int):=by omega
  have h3:(n:Int)<(M.N:Int):=by omega
  simp [b1j,h2,h3,hS.node n h]
 ·have h1:=hS.next (n - M.N)
  rw [show M.N+(n - M.N)=n by omega] at h1
  have h2:¬ ((φ n:Nat):Int)<(S.N:Int):=by omega
  have h3:¬ (n:Int)<(M.N:Int):=by omega
  simp [b1j,h2,h3]
theorem b5a {M:MS} {h:Int} (hl:b1j M h=true):∃ n:Nat,n<M.N∧h=(n:Int)∧(M.st n).live=true:=by
 simp only [b1j,Bool.and_eq_true,decide_eq_true_eq] at hl
 obtain ⟨h0,h1,h2⟩:=hl
 exact ⟨h.toNat,by omega,by omega,h2⟩
theorem Sim.upOf (hS:Sim φ M S) {n:Nat} (h:n<M.N):upOf S (φ n:Int)=img φ (upOf M (n:Int)):=by
 simp [Go.TA.upOf,hS.node n h]
theorem d2o (hM:M.Ok R) {n:Nat} (h:n<M.N):Dom M (upOf M (n:Int)):=by
 have:=hM.up n h
 simp only [Go.TA.upOf,Int.toNat_natCast]
 rcases this with h1 | ⟨p,hp,h1,_⟩
 ·exact .inl h1
 ·exact .inr ⟨p,hp,h1⟩
theorem h3c (hM:M.Ok R) {p:Nat} (h:p<M.N) {k:Int} (hk:k ∈ M.kd p):Dom M k:=by
 obtain ⟨c,rfl,hc,_⟩:=hM.kids p h k hk
 exact .inr ⟨c,hc,rfl⟩
theorem Sim.below1 (hS:Sim φ M S) (hM:M.Ok R) {t:Nat} {h:Int} (hb:Below M (t:Int) h):Dom M h→Below S (φ t:Int) (img φ h):=by
  induction hb with
  | here=>intro _;rw [b2n];exact .here
  | up h0 hb ih =>
    intro hd
    rcases hd with rfl | ⟨n,hn,rfl⟩
    · omega
    · have:=ih (d2o hM hn)
      rw [← hS.upOf hn] at this
      rw [b2n]
      exact .up (by omega) this
theorem Sim.below2 (hS:Sim φ M S) (hM:M.Ok R) {t:Nat} (ht:t<M.N) {y:Int} (hb:Below S (φ t:Int) y):∀ h,Dom M h→y=img φ h→Below M (t:Int) h:=by
  induction hb with
  | here =>
    intro h hd e
    rw [← b2n] at e
    rw [← hS.img_inj (.inr ⟨t,ht,rfl⟩) hd e]
    exact .here
  | up h0 hb ih =>
    intro h hd e
    rcases hd with rfl | ⟨n,hn,rfl⟩
    · simp [img] at e;omega
    · rw [b2n] at e
      subst e
      exact .up (by omega) (ih _ (d2o hM hn) (hS.upOf hn))
theorem Sim.below (hS:Sim φ M S) (hM:M.Ok R) {t n:Nat} (ht:t<M.N) (hn:n<M.N):Below S (φ t:Int) (φ n:Int)↔Below M (t:Int) (n:Int):=by
 constructor
 ·intro h;exact hS.below2 hM ht h _ (.inr ⟨n,hn,rfl⟩) (b2n φ n).symm
 ·intro h;have:=hS.below1 hM h (.inr ⟨n,hn,rfl⟩);rwa [b2n] at this
theorem Sim.updAt (hS:Sim φ M S) {α : Type} (f:Nat → α) (v : α) {h k:Nat} (hh:h<M.N) (hk:k<M.N):upd f (φ h) v (φ k)=if k=h then v else f (φ k):=by
 unfold upd
 by_cases e:k=h
 ·subst e;simp
 ·rw [if_neg e,if_neg (fun q=>e (hS.inj k h hk hh q))]
theorem d7o {f:Int→Int} {b:Int}:∀ {l:List Int},(∀ a ∈ l,f a=f b→a=b)→(l.map f).idxOf (f b)=l.idxOf b
  | [],_=>rfl
  | a :: l, h => by
    rw [List.map_cons,List.idxOf_cons,List.idxOf_cons,d7o (fun x hx=>h x (List.mem_cons_of_mem _ hx))]
    by_cases e:a=b
    · subst e;simp
    · have q1:(f a==f b)=false:=beq_eq_false_iff_ne.2 fun q=>e (h a (by simp) q)
      have q2:(a==b)=false:=beq_eq_false_iff_ne.2 e
      rw [q1,q2]
theorem h7i {f:Int→Int} {l:List Int} {h b:Int} (hi:∀ a ∈ l,f a=f b→a=b) (h0:f b=0↔b=0):insI (l.map f) (f h) (f b)=(insI l h b).map f:=by
 unfold insI
 by_cases e:b=0
 ·rw [if_pos e,if_pos (h0.2 e),List.length_map,List.take_of_length_le (by simp),List.take_of_length_le (by simp),List.drop_eq_nil_of_le (by simp),List.drop_eq_nil_of_le (by simp)]
  simp
 ·rw [if_neg e,if_neg (fun q=>e (h0.1 q)),d7o hi]
  simp [List.map_take,List.map_drop]
theorem d2k {f:Int→Int} {h:Int}:∀ {l:List Int},(∀ a ∈ l,f a=f h→a=h)→(l.map f).filter (fun k => !(k==f h))=(l.filter fun k => !(k==h)).map f
  | [],_=>rfl
  | a :: l, hi => by
    have ih:=d2k (f:=f) (h:=h) (l:=l) (fun x hx=>hi x (List.mem_cons_of_mem _ hx))
    rw [List.map_cons,List.filter_cons,List.filter_cons,ih]
    by_cases e:a=h
    · subst e;simp
    · have q1:(f a==f h)=false:=beq_eq_false_iff_ne.2 fun q=>e (hi a (by simp) q)
      have q2:(a==h)=false:=beq_eq_false_iff_ne.2 e
      simp [q1,q2]
theorem Sim.img0 (hS:Sim φ M S) {b:Int} (hb:Dom M b):img φ b=0↔b=0:=by
 have h0:img φ 0=0:=by have:=b2n φ 0;rw [hS.zero] at this;exact this
 constructor
 ·intro h
  rw [← h0] at h
  exact hS.img_inj hb (.inr ⟨0,hS.pos,rfl⟩) h
 ·rintro rfl;exact h0
theorem Sim.place (hS:Sim φ M S) (hM:M.Ok R) {h u:Nat} (hh:h<M.N) (hu:u<M.N) {b:Int} (hb:Dom M b):Sim φ (b2h M h u b) (b2h S (φ h) (φ u) (img φ b)) where
 pos:=hS.pos
 zero:=hS.zero
 next:=hS.next
 lt:=hS.lt
 inj:=hS.inj
 node k hk:=by
  simp only [b2h] at hk ⊢
  rw [hS.updAt _ _ hh hk,hS.node h hh]
  by_cases e:k=h
  ·subst e;simp [upd,b2n]
  ·rw [if_neg e,b0k e,hS.node k hk]
 kd k hk:=by
  simp only [b2h] at hk ⊢
  rw [hS.updAt _ _ hu hk,hS.kd u hu]
  by_cases e:k=u
  ·subst e
   rw [if_pos rfl,b0l, ← b2n φ h]
   exact h7i (fun a ha q=>hS.img_inj (h3c hM hk ha) hb q) (hS.img0 hb)
  ·rw [if_neg e,b0k e,hS.kd k hk]
 onto k hk hl:=by
  simp only [b2h] at hk hl ⊢
  refine hS.onto k hk ?_
  unfold upd at hl
  split at hl
  ·rename_i e;subst e;exact hl
  ·exact hl
theorem Sim.take (hS : Sim φ M S) (hM : M.Ok R) {h : Nat} (hh : h < M.N) : Sim φ (b2f M h) (b2f S (φ h)) := by
  have hup:(S.st (φ h)).up=img φ (M.st h).up:=by rw [hS.node h hh]
  have hd:=d2o hM hh
  simp only [Go.TA.upOf,Int.toNat_natCast] at hd
  unfold b2f
  rw [hup]
  rcases hd with e | ⟨p,hp,e⟩
  · rw [e]
    have:img φ (-1)<0:=by simp [img]
    rw [if_pos (by decide),if_pos this]
    exact hS
  · rw [e,b2n,if_neg (by omega),if_neg (by omega),Int.toNat_natCast,Int.toNat_natCast]
    exact {
      pos:=hS.pos
      zero:=hS.zero
      next:=hS.next
      lt:=hS.lt
      inj:=hS.inj
      node:=fun k hk=>by
        simp only at hk ⊢
        rw [hS.updAt _ _ hh hk,hS.node h hh]
        by_cases e:k=h
        · subst e;simp [upd,img]
        · rw [if_neg e,b0k e,hS.node k hk]
      kd:=fun k hk=>by
        simp only at hk ⊢
        rw [hS.updAt _ _ hp hk,hS.kd p hp]
        by_cases e:k=p
        · subst e
          rw [if_pos rfl,b0l, ← b2n φ h]
          exact d2k (fun a ha q=>hS.img_inj (h3c hM hk ha) (.inr ⟨h,hh,rfl⟩) q)
        · rw [if_neg e,b0k e,hS.kd k hk]
      onto:=fun k hk hl=>by
        simp only at hk hl ⊢
        refine hS.onto k hk ?_
        unfold upd at hl
        split at hl
        · rename_i e;subst e;exact hl
        · exact hl }
theorem Sim.endM (hS:Sim φ M S) (hM:M.Ok R) {h:Nat} (hh:h<M.N):Sim φ (endM M (h:Int)) (endM S (φ h:Int)) where
 pos:=hS.pos
 zero:=hS.zero
 next:=hS.next
 lt:=hS.lt
 inj:=hS.inj
 node k hk:=by
  simp only [Go.TA.endM] at hk ⊢
  have:=hS.below hM hh hk
  by_cases e:Below M (h:Int) (k:Int)
  ·rw [if_pos e,if_pos (this.2 e)];rfl
  ·rw [if_neg e,if_neg (fun q=>e (this.1 q)),hS.node k hk]
 kd k hk:=by
  simp only [Go.TA.endM] at hk ⊢
  have:=hS.below hM hh hk
  by_cases e:Below M (h:Int) (k:Int)
  ·rw [if_pos e,if_pos (this.2 e)];rfl
  ·rw [if_neg e,if_neg (fun q=>e (this.1 q)),hS.kd k hk]
 onto k hk hl:=by
  simp only [Go.TA.endM] at hk hl ⊢
  refine hS.onto k hk ?_
  split at hl
  ·simp [d1a] at hl
  ·exact hl
theorem Sim.create (hS : Sim φ M S) {x y : GOp} (ht : y.tag = x.tag) (hk0 : y.key = x.key) (hx : y.text = x.text) (ha : y.attrs = x.attrs) : Sim φ (M.create x) (S.create y) := by
  have hN : φ M.N=S.N:=by have:=hS.next 0;simpa using this
  have hne:∀ k,k<M.N → φ k≠S.N:=fun k hk=>by have:=hS.lt k hk;omega
  exact {
    pos:=by simp [MS.create]
    zero:=hS.zero
    next:=fun j=>by
      have:=hS.next (1+j)
      simp only [MS.create]
      rw [show M.N+1+j=M.N+(1+j) by omega,this]
      omega
    lt:=fun k hk=>by
      simp only [MS.create] at hk ⊢
      by_cases e:k=M.N
      · rw [e,hN];omega
      · have:=hS.lt k (by omega);omega
    inj:=fun k j hk hj e=>by
      simp only [MS.create] at hk hj
      by_cases e1:k=M.N <;> by_cases e2:j=M.N
      · omega
      · rw [e1,hN] at e;exact absurd e.symm (hne j (by omega))
      · rw [e2,hN] at e;exact absurd e (hne k (by omega))
      · exact hS.inj k j (by omega) (by omega) e
    node:=fun k hk=>by
      simp only [MS.create] at hk ⊢
      by_cases e:k=M.N
      · rw [e,hN,b0l,b0l,ht,hk0,hx,ha];rfl
      · rw [b0k (hne k (by omega)),b0k e,hS.node k (by omega)]
    kd:=fun k hk=>by
      simp only [MS.create] at hk ⊢
      by_cases e:k=M.N
      · rw [e,hN,b0l,b0l];rfl
      · rw [b0k (hne k (by omega)),b0k e,hS.kd k (by omega)]
    onto:=fun k hk hl=>by
      simp only [MS.create] at hk hl ⊢
      by_cases e:k=S.N
      · exact ⟨M.N,by omega,by rw [hN,e]⟩
      · rw [b0k e] at hl
        obtain ⟨h,h1,h2⟩:=hS.onto k (by omega) hl
        exact ⟨h,by omega,h2⟩ }
theorem Sim.setM (hS:Sim φ M S) {h:Nat} (hh:h<M.N) (a:List Attr):Sim φ (setM M h a) (setM S (φ h) a) where
 pos:=hS.pos
 zero:=hS.zero
 next:=hS.next
 lt:=hS.lt
 inj:=hS.inj
 node k hk:=by
  simp only [Go.TA.setM] at hk ⊢
  rw [hS.updAt _ _ hh hk,hS.node h hh]
  by_cases e:k=h
  ·subst e;simp [upd]
  ·rw [if_neg e,b0k e,hS.node k hk]
 kd k hk:=hS.kd k hk
 onto k hk hl:=by
  simp only [Go.TA.setM] at hk hl ⊢
  refine hS.onto k hk ?_
  unfold upd at hl
  split at hl
  ·rename_i e;subst e;exact hl
  ·exact hl
theorem Sim.textM (hS:Sim φ M S) {h:Nat} (hh:h<M.N) (a:Bs):Sim φ (textM M h a) (textM S (φ h) a) where
 pos:=hS.pos
 zero:=hS.zero
 next:=hS.next
 lt:=hS.lt
 inj:=hS.inj
 node k hk:=by
  simp only [Go.TA.textM] at hk ⊢
  rw [hS.updAt _ _ hh hk,hS.node h hh]
  by_cases e:k=h
  ·subst e;simp [upd]
  ·rw [if_neg e,b0k e,hS.node k hk]
 kd k hk:=hS.kd k hk
 onto k hk hl:=by
  simp only [Go.TA.textM] at hk hl ⊢
  refine hS.onto k hk ?_
  unfold upd at hl
  split at hl
  ·rename_i e;subst e;exact hl
  ·exact hl
end
end Go.TA


end
