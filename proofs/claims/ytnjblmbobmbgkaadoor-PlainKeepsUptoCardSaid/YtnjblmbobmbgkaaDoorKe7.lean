/- Part 7 of 15 of a proof; joined from MS, MDef, MBelow. The rows of all below a node. Plain. -/
import Derived.Test.YtnjblmbobmbgkaaDoorKe6
section
set_option linter.unusedSimpArgs false
set_option linter.unusedVariables false
/- What a machine is, and what is done with it. Plain. -/
set_option linter.unusedVariables false
set_option linter.unusedSimpArgs false
namespace Go.TA
structure MS where
  N : Nat
  st : Nat → MNode
  kd : Nat → List Int
def liveB (S : MS) (h : Int) : Bool := decide (0 ≤ h) && (decide (h < (S.N : Int)) && (S.st h.toNat).live)
def upOf (S : MS) (h : Int) : Int := (S.st h.toNat).up
inductive Below (S : MS) (t : Int) : Int → Prop
  | here : Below S t t
  | up {h : Int} : 0 ≤ h → Below S t (upOf S h) → Below S t h
structure MS.Ok (R : Nat) (S : MS) : Prop where
  pos : 0 < S.N
  top : (S.st 0).live = true ∧ (S.st 0).up = -1
  kids : ∀ p : Nat, p < S.N → ∀ k ∈ S.kd p, ∃ c : Nat, k = (c : Int) ∧ c < S.N ∧ (S.st c).live = true ∧ (S.st c).up = (p : Int)
  up : ∀ c : Nat, c < S.N → (S.st c).up = -1 ∨ ∃ p : Nat, p < S.N ∧ (S.st c).up = (p : Int) ∧ (S.st p).live = true ∧ (c : Int) ∈ S.kd p
  dead : ∀ h : Nat, h < S.N → (S.st h).live = false → (S.st h).up = -1 ∧ S.kd h = []
  nodup : ∀ p : Nat, p < S.N → (S.kd p).Nodup
  rank : ∃ r : Nat → Nat, (∀ c : Nat, c < S.N → r c ≤ R) ∧ ∀ c p : Nat, c < S.N → (S.st c).up = (p : Int) → r p < r c
  attrs : ∀ h : Nat, h < S.N → (S.st h).attrs.length ≤ 1048577
theorem MS.Ok.more {R R' : Nat} {S : MS} (h : S.Ok R) (hr : R ≤ R') : S.Ok R' :=
  ⟨h.pos, h.top, h.kids, h.up, h.dead, h.nodup, by obtain ⟨r, h1, h2⟩ := h.rank; exact ⟨r, fun c hc => by have := h1 c hc; omega, h2⟩, h.attrs⟩
theorem live_nat {S : MS} {h : Int} (hl : liveB S h = true) : ∃ c : Nat, h = (c : Int) ∧ c < S.N ∧ (S.st c).live = true := by
  simp only [liveB, Bool.and_eq_true, decide_eq_true_eq] at hl
  refine ⟨h.toNat, by omega, by omega, hl.2.2⟩
section
variable {R : Nat} {S : MS}
theorem nodup_len : ∀ (n : Nat) (l : List Int), l.Nodup → (∀ k ∈ l, ∃ c : Nat, k = (c : Int) ∧ c < n) → l.length ≤ n
  | 0, l, _, h => by
    cases l with
    | nil => simp
    | cons a l => obtain ⟨c, _, hc⟩ := h a (by simp); omega
  | n + 1, l, hn, h => by
    have := nodup_len n (l.erase (n : Int)) (hn.erase _) (fun k hk => by
      obtain ⟨c, rfl, hc⟩ := h k (List.mem_of_mem_erase hk)
      refine ⟨c, rfl, ?_⟩
      have : (c : Int) ≠ (n : Int) := fun e => by
        rw [e] at hk
        exact hn.not_mem_erase hk
      omega)
    have := List.length_erase (a := (n : Int)) (l := l)
    split at this <;> omega
theorem MS.Ok.kids_len (h : S.Ok R) {p : Nat} (hp : p < S.N) : (S.kd p).length ≤ S.N :=
  nodup_len _ _ (h.nodup p hp) fun k hk => by obtain ⟨c, h1, h2, _⟩ := h.kids p hp k hk; exact ⟨c, h1, h2⟩
theorem MS.Ok.up_lt (h : S.Ok R) {c p : Nat} (hc : c < S.N) (hu : (S.st c).up = (p : Int)) : p < S.N ∧ (S.st p).live = true ∧ (c : Int) ∈ S.kd p := by
  rcases h.up c hc with h1 | ⟨q, h1, h2, h3, h4⟩
  · omega
  · have : q = p := by omega
    subst this; exact ⟨h1, h3, h4⟩
theorem MS.Ok.up_nat (h : S.Ok R) {c : Nat} (hc : c < S.N) (hu : 0 ≤ (S.st c).up) : ∃ p : Nat, (S.st c).up = (p : Int) ∧ p < S.N ∧ (S.st p).live = true ∧ (c : Int) ∈ S.kd p := by
  rcases h.up c hc with h1 | ⟨q, h1, h2, h3, h4⟩
  · omega
  · exact ⟨q, h2, h1, h3, h4⟩
theorem below_neg {t : Int} (ht : 0 ≤ t) : ¬ Below S t (-1) := by
  intro h
  generalize e : (-1 : Int) = m at h
  cases h with
  | here => omega
  | up h1 h2 => omega
theorem below_top (h : S.Ok R) {t : Int} (ht : 0 < t) : ¬ Below S t 0 := by
  intro hb
  generalize e : (0 : Int) = m at hb
  cases hb with
  | here => omega
  | up h1 h2 =>
    subst e
    have : upOf S 0 = -1 := h.top.2
    rw [this] at h2
    exact below_neg (by omega) h2
theorem below_iff {t h : Int} (hh : 0 ≤ h) (hne : h ≠ t) : Below S t h ↔ Below S t (upOf S h) := by
  constructor
  · intro hb
    cases hb with
    | here => exact absurd rfl hne
    | up _ h2 => exact h2
  · exact fun h2 => .up hh h2
theorem below_rank {r : Nat → Nat} (hok : S.Ok R) (hr : ∀ c p : Nat, c < S.N → (S.st c).up = (p : Int) → r p < r c) {t : Nat} {h : Int} (hb : Below S (t : Int) h) : ∀ c : Nat, h = (c : Int) → c < S.N → r t ≤ r c := by
  induction hb with
  | here => intro c e _; have : t = c := by omega
            subst this; exact Nat.le_refl _
  | @up h h1 h2 ih =>
    intro c e hc
    subst e
    have hu : upOf S (c : Int) = (S.st c).up := rfl
    rcases hok.up c hc with h3 | ⟨p, h3, h4, _⟩
    · rw [hu, h3] at h2; exact absurd h2 (below_neg (by omega))
    · have := ih p (by rw [hu, h4]) h3
      have := hr c p hc h4
      omega
def MS.create (S : MS) (x : GOp) : MS := ⟨S.N + 1, upd S.st S.N ⟨true, -1, x.tag, x.key, x.text, x.attrs⟩, upd S.kd S.N []⟩
def insI (l : List Int) (h b : Int) : List Int := l.take (if b = 0 then l.length else l.idxOf b) ++ h :: l.drop (if b = 0 then l.length else l.idxOf b)
def placeM (S : MS) (h u : Nat) (b : Int) : MS := ⟨S.N, upd S.st h { S.st h with up := (u : Int) }, upd S.kd u (insI (S.kd u) h b)⟩
def takeM (S : MS) (h : Nat) : MS := if (S.st h).up < 0 then S else ⟨S.N, upd S.st h { S.st h with up := -1 }, upd S.kd (S.st h).up.toNat ((S.kd (S.st h).up.toNat).filter fun k => !(k == (h : Int)))⟩
def deadN : MNode := ⟨false, -1, [], [], [], []⟩
open Classical in
noncomputable def endM (S : MS) (h : Int) : MS := ⟨S.N, fun y => if Below S h (y : Int) then deadN else S.st y, fun y => if Below S h (y : Int) then [] else S.kd y⟩
def setM (S : MS) (h : Nat) (a : List Attr) : MS := ⟨S.N, upd S.st h { S.st h with attrs := a }, S.kd⟩
def textM (S : MS) (h : Nat) (s : Bs) : MS := ⟨S.N, upd S.st h { S.st h with text := s }, S.kd⟩
theorem MS.Ok.create (h : S.Ok R) (x : GOp) (hx : x.attrs.length ≤ 1048577) : (S.create x).Ok R where
  pos := by simp [MS.create]
  top := by
    have := h.pos
    simp only [MS.create]
    rw [upd_ne (by omega)]
    exact h.top
  kids p hp k hk := by
    simp only [MS.create] at hp hk ⊢
    by_cases e : p = S.N
    · subst e; rw [upd_at] at hk; simp at hk
    · rw [upd_ne e] at hk
      obtain ⟨c, h1, h2, h3, h4⟩ := h.kids p (by omega) k hk
      refine ⟨c, h1, by omega, ?_⟩
      rw [upd_ne (by omega)]; exact ⟨h3, h4⟩
  up c hc := by
    simp only [MS.create] at hc ⊢
    by_cases e : c = S.N
    · subst e; left; rw [upd_at]
    · rw [upd_ne e]
      rcases h.up c (by omega) with h1 | ⟨p, h1, h2, h3, h4⟩
      · exact .inl h1
      · refine .inr ⟨p, by omega, h2, ?_⟩
        rw [upd_ne (by omega), upd_ne (by omega)]; exact ⟨h3, h4⟩
  dead c hc hl := by
    simp only [MS.create] at hc hl ⊢
    by_cases e : c = S.N
    · subst e; rw [upd_at] at hl; cases hl
    · rw [upd_ne e] at hl ⊢
      rw [upd_ne e]
      exact h.dead c (by omega) hl
  nodup p hp := by
    simp only [MS.create] at hp ⊢
    by_cases e : p = S.N
    · subst e; rw [upd_at]; exact List.nodup_nil
    · rw [upd_ne e]; exact h.nodup p (by omega)
  rank := by
    obtain ⟨r, h1, h2⟩ := h.rank
    refine ⟨upd r S.N 0, fun c hc => ?_, fun c p hc hu => ?_⟩
    · by_cases e : c = S.N
      · subst e; rw [upd_at]; omega
      · rw [upd_ne e]; exact h1 c (by simp only [MS.create] at hc; omega)
    · simp only [MS.create] at hc hu
      by_cases e : c = S.N
      · subst e; rw [upd_at] at hu; simp at hu <;> omega
      · rw [upd_ne e] at hu
        have := (h.up_lt (by omega) hu).1
        rw [upd_ne e, upd_ne (by omega)]
        exact h2 c p (by omega) hu
  attrs c hc := by
    simp only [MS.create] at hc ⊢
    by_cases e : c = S.N
    · subst e; rw [upd_at]; exact hx
    · rw [upd_ne e]; exact h.attrs c (by omega)
theorem mem_insI {l : List Int} {h b k : Int} : k ∈ insI l h b ↔ k = h ∨ k ∈ l := by
  unfold insI
  generalize (if b = 0 then l.length else l.idxOf b) = i
  rw [List.mem_append, List.mem_cons]
  have : k ∈ l ↔ k ∈ l.take i ∨ k ∈ l.drop i := by rw [← List.mem_append, List.take_append_drop]
  rw [this]
  constructor
  · rintro (h1 | h1 | h1)
    · exact .inr (.inl h1)
    · exact .inl h1
    · exact .inr (.inr h1)
  · rintro (h1 | h1 | h1)
    · exact .inr (.inl h1)
    · exact .inl h1
    · exact .inr (.inr h1)
theorem nodup_insI {l : List Int} {h b : Int} (hn : l.Nodup) (hh : h ∉ l) : (insI l h b).Nodup := by
  unfold insI
  generalize (if b = 0 then l.length else l.idxOf b) = i
  have e : l = l.take i ++ l.drop i := (List.take_append_drop i l).symm
  rw [e] at hn hh
  rw [List.nodup_append] at hn ⊢
  simp only [List.mem_append, not_or] at hh
  refine ⟨hn.1, List.nodup_cons.2 ⟨hh.2, hn.2.1⟩, fun a ha b hb => ?_⟩
  rcases List.mem_cons.1 hb with rfl | hb
  · exact fun e => hh.1 (e ▸ ha)
  · exact hn.2.2 a ha b hb
theorem MS.Ok.take (hk : S.Ok R) {h : Nat} (hh : h < S.N) (hl : (S.st h).live = true) : (takeM S h).Ok R ∧ ((takeM S h).st h).up = -1 := by
  unfold takeM
  split
  · rename_i h0
    refine ⟨hk, ?_⟩
    rcases hk.up h hh with h1 | ⟨p, h1, h2, _⟩
    · exact h1
    · omega
  rename_i h0
  obtain ⟨u, hu, hu1, hu2, hu3⟩ := hk.up_nat hh (by omega)
  rw [hu, Int.toNat_natCast]
  refine ⟨?_, by simp [upd_at]⟩
  have hst : ∀ c, c ≠ h → upd S.st h { S.st h with up := -1 } c = S.st c := fun c hc => upd_ne hc
  have h0' : h ≠ 0 := fun e => by subst e; have := hk.top.2; omega
  refine ⟨hk.pos, by simp only; rw [hst 0 (fun e => h0' e.symm)]; exact hk.top, fun p hp k hkk => ?_, fun c hc => ?_, fun c hc hd => ?_, fun p hp => ?_, ?_, fun c hc => ?_⟩
  · simp only at hp hkk ⊢
    have hmem : k ∈ S.kd p ∧ k ≠ (h : Int) := by
      by_cases e : p = u
      · subst e
        rw [upd_at, List.mem_filter] at hkk
        exact ⟨hkk.1, by simpa using hkk.2⟩
      · rw [upd_ne e] at hkk
        obtain ⟨c, rfl, _, _, h4⟩ := hk.kids p hp k hkk
        refine ⟨hkk, fun e' => ?_⟩
        have : c = h := by omega
        subst this
        omega
    obtain ⟨c, rfl, h2, h3, h4⟩ := hk.kids p hp k hmem.1
    refine ⟨c, rfl, h2, ?_⟩
    rw [hst c (fun e => hmem.2 (by rw [e]))]
    exact ⟨h3, h4⟩
  · simp only at hc ⊢
    by_cases e : c = h
    · subst e; left; rw [upd_at]
    · rw [hst c e]
      rcases hk.up c hc with h1 | ⟨p, h1, h2, h3, h4⟩
      · exact .inl h1
      · refine .inr ⟨p, h1, h2, ?_, ?_⟩
        · by_cases e' : p = h
          · subst e'; rw [upd_at]; exact hl
          · rw [hst p e']; exact h3
        · by_cases e' : p = u
          · subst e'
            rw [upd_at, List.mem_filter]
            exact ⟨h4, by simp; omega⟩
          · rw [upd_ne e']; exact h4
  · simp only at hc hd ⊢
    by_cases e : c = h
    · subst e; rw [upd_at] at hd; simp only at hd; rw [hl] at hd; cases hd
    · rw [hst c e] at hd ⊢
      have := hk.dead c hc hd
      refine ⟨this.1, ?_⟩
      by_cases e' : c = u
      · subst e'; rw [hu2] at hd; cases hd
      · rw [upd_ne e']; exact this.2
  · simp only at hp ⊢
    by_cases e : p = u
    · subst e; rw [upd_at]; exact (hk.nodup _ hp).filter _
    · rw [upd_ne e]; exact hk.nodup p hp
  · obtain ⟨r, h1, h2⟩ := hk.rank
    refine ⟨r, h1, fun c p hc hup => ?_⟩
    simp only at hc hup
    by_cases e : c = h
    · subst e; rw [upd_at] at hup; simp only at hup; omega
    · rw [hst c e] at hup; exact h2 c p hc hup
  · simp only at hc ⊢
    by_cases e : c = h
    · subst e; rw [upd_at]; exact hk.attrs _ hc
    · rw [hst c e]; exact hk.attrs c hc
theorem MS.Ok.place (hk : S.Ok R) {h u : Nat} (b : Int) (hh : h < S.N) (hl : (S.st h).live = true) (h0 : 0 < h) (hup : (S.st h).up = -1) (hu : u < S.N) (hul : (S.st u).live = true) (hb : ¬ Below S (h : Int) (u : Int)) : (placeM S h u b).Ok (R + R + 1) := by
  unfold placeM
  have hst : ∀ c, c ≠ h → upd S.st h { S.st h with up := (u : Int) } c = S.st c := fun c hc => upd_ne hc
  have hlv : ∀ c, (upd S.st h { S.st h with up := (u : Int) } c).live = (S.st c).live := fun c => by
    by_cases e : c = h
    · subst e; rw [upd_at]
    · rw [hst c e]
  have hnk : ∀ p, p < S.N → (h : Int) ∉ S.kd p := fun p hp hm => by
    obtain ⟨c, h1, _, _, h4⟩ := hk.kids p hp _ hm
    have : c = h := by omega
    subst this
    omega
  refine ⟨hk.pos, by simp only; rw [hst 0 (by omega)]; exact hk.top, fun p hp k hkk => ?_, fun c hc => ?_, fun c hc hd => ?_, fun p hp => ?_, ?_, fun c hc => ?_⟩
  · simp only at hp hkk ⊢
    by_cases e : p = u
    · subst e
      rw [upd_at, mem_insI] at hkk
      rcases hkk with rfl | hkk
      · exact ⟨h, rfl, hh, by rw [hlv]; exact hl, by rw [upd_at]⟩
      · obtain ⟨c, rfl, h2, h3, h4⟩ := hk.kids p hp k hkk
        refine ⟨c, rfl, h2, by rw [hlv]; exact h3, ?_⟩
        rw [hst c (fun e => by subst e; omega)]; exact h4
    · rw [upd_ne e] at hkk
      obtain ⟨c, rfl, h2, h3, h4⟩ := hk.kids p hp k hkk
      refine ⟨c, rfl, h2, by rw [hlv]; exact h3, ?_⟩
      rw [hst c (fun e => by subst e; omega)]; exact h4
  · simp only at hc ⊢
    by_cases e : c = h
    · subst e
      right
      refine ⟨u, hu, by rw [upd_at], by rw [hlv]; exact hul, ?_⟩
      rw [upd_at, mem_insI]; exact .inl rfl
    · rw [hst c e]
      rcases hk.up c hc with h1 | ⟨p, h1, h2, h3, h4⟩
      · exact .inl h1
      · refine .inr ⟨p, h1, h2, by rw [hlv]; exact h3, ?_⟩
        by_cases e' : p = u
        · subst e'; rw [upd_at, mem_insI]; exact .inr h4
        · rw [upd_ne e']; exact h4
  · simp only at hc hd ⊢
    rw [hlv] at hd
    have hne : c ≠ h := fun e => by subst e; rw [hl] at hd; cases hd
    have hne2 : c ≠ u := fun e => by subst e; rw [hul] at hd; cases hd
    rw [hst c hne, upd_ne hne2]
    exact hk.dead c hc hd
  · simp only at hp ⊢
    by_cases e : p = u
    · subst e; rw [upd_at]; exact nodup_insI (hk.nodup _ hp) (hnk _ hp)
    · rw [upd_ne e]; exact hk.nodup p hp
  · obtain ⟨r, h1, h2⟩ := hk.rank
    classical
    refine ⟨fun c => if Below S (h : Int) (c : Int) then r c + r u + 1 else r c, fun c hc => ?_, fun c p hc hcu => ?_⟩
    · have := h1 c hc
      have := h1 u hu
      simp only
      split <;> omega
    · simp only at hc hcu ⊢
      by_cases e : c = h
      · subst e
        rw [upd_at] at hcu
        simp only at hcu
        have : u = p := by omega
        subst this
        rw [if_neg hb, if_pos .here]
        omega
      · rw [hst c e] at hcu
        have hlt := h2 c p hc hcu
        have hi : Below S (h : Int) (c : Int) ↔ Below S (h : Int) (p : Int) := by
          rw [below_iff (by omega) (by omega)]
          have : upOf S (c : Int) = (p : Int) := hcu
          rw [this]
        by_cases e1 : Below S (h : Int) (p : Int)
        · rw [if_pos e1, if_pos (hi.2 e1)]; omega
        · rw [if_neg e1, if_neg (fun q => e1 (hi.1 q))]; exact hlt
  · simp only at hc ⊢
    by_cases e : c = h
    · subst e; rw [upd_at]; exact hk.attrs _ hc
    · rw [hst c e]; exact hk.attrs c hc
theorem MS.Ok.endM (hk : S.Ok R) {h : Nat} (hh : h < S.N) (h0 : 0 < h) (hup : (S.st h).up = -1) : (endM S (h : Int)).Ok R := by
  unfold Go.TA.endM
  have hb : ∀ c p : Nat, c < S.N → (S.st c).up = (p : Int) → (Below S (h : Int) (c : Int) ↔ Below S (h : Int) (p : Int)) := fun c p hc hu => by
    have hne : c ≠ h := fun e => by subst e; omega
    rw [below_iff (by omega) (by omega)]
    have : upOf S (c : Int) = (p : Int) := hu
    rw [this]
  have ht := below_top hk (t := (h : Int)) (by omega)
  classical
  refine ⟨hk.pos, ?_, fun p hp k hkk => ?_, fun c hc => ?_, fun c hc hd => ?_, fun p hp => ?_, ?_, fun c hc => ?_⟩
  · simp only
    rw [if_neg (by simpa using ht)]; exact hk.top
  · simp only at hp hkk ⊢
    by_cases e : Below S (h : Int) (p : Int)
    · rw [if_pos e] at hkk; simp at hkk
    · rw [if_neg e] at hkk
      obtain ⟨c, rfl, h2, h3, h4⟩ := hk.kids p hp k hkk
      refine ⟨c, rfl, h2, ?_⟩
      rw [if_neg (fun q => e ((hb c p h2 h4).1 q))]
      exact ⟨h3, h4⟩
  · simp only at hc ⊢
    by_cases e : Below S (h : Int) (c : Int)
    · left; rw [if_pos e]; rfl
    · rw [if_neg e]
      rcases hk.up c hc with h1 | ⟨p, h1, h2, h3, h4⟩
      · exact .inl h1
      · have e2 : ¬ Below S (h : Int) (p : Int) := fun q => e ((hb c p hc h2).2 q)
        refine .inr ⟨p, h1, h2, ?_⟩
        rw [if_neg e2, if_neg e2]
        exact ⟨h3, h4⟩
  · simp only at hc hd ⊢
    by_cases e : Below S (h : Int) (c : Int)
    · rw [if_pos e, if_pos e]; exact ⟨rfl, rfl⟩
    · rw [if_neg e] at hd
      rw [if_neg e, if_neg e]; exact hk.dead c hc hd
  · simp only at hp ⊢
    by_cases e : Below S (h : Int) (p : Int)
    · rw [if_pos e]; exact List.nodup_nil
    · rw [if_neg e]; exact hk.nodup p hp
  · obtain ⟨r, h1, h2⟩ := hk.rank
    refine ⟨r, h1, fun c p hc hcu => ?_⟩
    simp only at hc hcu
    by_cases e : Below S (h : Int) (c : Int)
    · rw [if_pos e] at hcu; simp [deadN] at hcu <;> omega
    · rw [if_neg e] at hcu; exact h2 c p hc hcu
  · simp only at hc ⊢
    by_cases e : Below S (h : Int) (c : Int)
    · rw [if_pos e]; simp [deadN]
    · rw [if_neg e]; exact hk.attrs c hc
theorem MS.Ok.same (hk : S.Ok R) {st : Nat → MNode} (hs : ∀ c, c < S.N → (st c).live = (S.st c).live ∧ (st c).up = (S.st c).up ∧ (st c).attrs.length ≤ 1048577) : (⟨S.N, st, S.kd⟩ : MS).Ok R := by
  refine ⟨hk.pos, ⟨by rw [(hs 0 hk.pos).1]; exact hk.top.1, by rw [(hs 0 hk.pos).2.1]; exact hk.top.2⟩, fun p hp k hkk => ?_, fun c hc => ?_, fun c hc hd => ?_, hk.nodup, ?_, fun c hc => (hs c hc).2.2⟩
  · obtain ⟨c, h1, h2, h3, h4⟩ := hk.kids p hp k hkk
    exact ⟨c, h1, h2, by simp only; rw [(hs c h2).1]; exact h3, by simp only; rw [(hs c h2).2.1]; exact h4⟩
  · simp only at hc ⊢
    rw [(hs c hc).2.1]
    rcases hk.up c hc with h1 | ⟨p, h1, h2, h3, h4⟩
    · exact .inl h1
    · exact .inr ⟨p, h1, h2, by rw [(hs p h1).1]; exact h3, h4⟩
  · simp only at hc hd ⊢
    rw [(hs c hc).1] at hd
    rw [(hs c hc).2.1]
    exact hk.dead c hc hd
  · obtain ⟨r, h1, h2⟩ := hk.rank
    refine ⟨r, h1, fun c p hc hcu => ?_⟩
    simp only at hc hcu
    rw [(hs c hc).2.1] at hcu
    exact h2 c p hc hcu
end
end Go.TA


end
section
set_option linter.unusedSimpArgs false
set_option linter.unusedVariables false
/- What the machine's operations do, whichever text does them. Plain. -/
set_option linter.unusedVariables false
set_option linter.unusedSimpArgs false
namespace Go.TA
def fitE (S : MS) (h : Int) : Int := if h = 0 then 14 else if liveB S h = true then 0 else 13
open Classical in
noncomputable def underB (S : MS) (h t : Int) : Bool := decide (Below S t h)
theorem underB_iff {S : MS} {h t : Int} : underB S h t = true ↔ Below S t h := by simp [underB]
def fstAt (l : List Attr) (name : Bs) : Nat := l.findIdx (fun a => a.name == name)
def posAt (l : List Attr) (name : Bs) : Nat := l.findIdx (fun a => !(strLess a.name name))
def withA (l : List Attr) (name v : Bs) : List Attr := if fstAt l name < l.length then l.set (fstAt l name) ⟨name, v⟩ else l.take (posAt l name) ++ ⟨name, v⟩ :: l.drop (posAt l name)
def notN (h : Bs) (x : Attr) : Bool := !(x.name == h)
def withoutA (l : List Attr) (name : Bs) : List Attr := l.filter (notN name)
def changeM (S : MS) (h : Nat) (x : GOp) : Int × MS :=
  if x.kind = 5 then if 64 < ((withA (S.st h).attrs x.name x.text).length : Int) then (12, S) else (0, setM S h (withA (S.st h).attrs x.name x.text))
  else if x.kind = 6 then if (withoutA (S.st h).attrs x.name).length < (S.st h).attrs.length then (0, setM S h (withoutA (S.st h).attrs x.name)) else (8, S)
  else if x.kind = 7 then (0, textM S h x.text) else (0, S)
noncomputable def insertM (S : MS) (x : GOp) : Int × MS :=
  if (liveB S x.node && (liveB S x.up && liveB S x.before)) = false then (13, S)
  else if 0 ≤ upOf S x.node then (15, S)
  else if underB S x.up x.node = true then (17, S)
  else if x.before ≠ 0 ∧ upOf S x.before ≠ x.up then (18, S)
  else (0, placeM S x.node.toNat x.up.toNat x.before)
def moveM (S : MS) (x : GOp) : Int × MS :=
  if (liveB S x.node && liveB S x.before) = false then (13, S)
  else if upOf S x.node < 0 then (16, S)
  else if x.before = x.node ∨ (x.before ≠ 0 ∧ upOf S x.before ≠ upOf S x.node) then (18, S)
  else (0, placeM (takeM S x.node.toNat) x.node.toNat (upOf S x.node).toNat x.before)
noncomputable def doM (S : MS) (x : GOp) : Int × MS :=
  if x.kind = 1 then (0, S.create x)
  else if x.node = 0 then (14, S)
  else if x.kind = 2 then insertM S x
  else if x.kind = 3 then moveM S x
  else if liveB S x.node = false then (13, S)
  else if x.kind = 4 then (0, endM (takeM S x.node.toNat) x.node)
  else changeM S x.node.toNat x
theorem takeM_N (S : MS) (h : Nat) : (takeM S h).N = S.N := by unfold takeM; split <;> rfl
theorem takeM_live (S : MS) (h y : Nat) : ((takeM S h).st y).live = (S.st y).live := by
  unfold takeM
  split
  · rfl
  · simp only [upd]
    split
    · rename_i e; subst e; rfl
    · rfl
section
variable {R : Nat} {S : MS}
theorem place_ok (hS : S.Ok R) {h u : Nat} (b : Int) (hh : h < S.N) (hl : (S.st h).live = true) (h0 : 0 < h) (hu : (S.st h).up = (u : Int)) : (placeM (takeM S h) h u b).Ok (R + R + 1) := by
  obtain ⟨hu1, hu2, hu3⟩ := hS.up_lt hh hu
  obtain ⟨hT, hup⟩ := hS.take hh hl
  have hn := takeM_N S h
  refine hT.place b (by rw [hn]; exact hh) (by rw [takeM_live]; exact hl) h0 hup (by rw [hn]; exact hu1) (by rw [takeM_live]; exact hu2) (fun hb => ?_)
  obtain ⟨r, _, hr⟩ := hS.rank
  have hr' : ∀ c p : Nat, c < (takeM S h).N → ((takeM S h).st c).up = (p : Int) → r p < r c := fun c p hc hcp => by
    by_cases e : c = h
    · subst e; omega
    · have : ((takeM S h).st c).up = (S.st c).up := by
        unfold takeM
        split
        · rfl
        · simp only; rw [upd_ne e]
      rw [this] at hcp
      exact hr c p (by rw [hn] at hc; exact hc) hcp
  have := below_rank hT hr' hb u rfl (by rw [hn]; exact hu1)
  have := hr h u hh hu
  omega
theorem kid_in (hS : S.Ok R) {b u : Nat} (hb : b < S.N) (hu : (S.st b).up = (u : Int)) : (b : Int) ∈ S.kd u := (hS.up_lt hb hu).2.2
theorem changeM_ok (hS : S.Ok R) {h : Nat} (hh : h < S.N) (x : GOp) : (changeM S h x).2.Ok R ∧ (changeM S h x).2.N = S.N := by
  have hset : ∀ a : List Attr, a.length ≤ 1048577 → (setM S h a).Ok R := fun a ha => by
    refine hS.same fun c hc => ?_
    by_cases e : c = h
    · subst e; rw [upd_at]; exact ⟨rfl, rfl, ha⟩
    · rw [upd_ne e]; exact ⟨rfl, rfl, hS.attrs c hc⟩
  have ha := hS.attrs h hh
  unfold changeM
  split
  · split
    · exact ⟨hS, rfl⟩
    · exact ⟨hset _ (by omega), rfl⟩
  split
  · split
    · exact ⟨hset _ (by omega), rfl⟩
    · exact ⟨hS, rfl⟩
  split
  · refine ⟨hS.same fun c hc => ?_, rfl⟩
    by_cases e : c = h
    · subst e; rw [upd_at]; exact ⟨rfl, rfl, ha⟩
    · rw [upd_ne e]; exact ⟨rfl, rfl, hS.attrs c hc⟩
  · exact ⟨hS, rfl⟩
theorem doM_ok (hS : S.Ok R) (x : GOp) (hx : x.attrs.length ≤ 1048577) : (doM S x).2.Ok (R + R + 1) ∧ S.N ≤ (doM S x).2.N ∧ (doM S x).2.N ≤ S.N + 1 := by
  have hm : S.Ok (R + R + 1) := hS.more (by omega)
  unfold doM
  split
  · exact ⟨(hS.create x hx).more (by omega), by simp [MS.create], by simp [MS.create]⟩
  split
  · exact ⟨hm, by simp, by simp⟩
  rename_i hn0
  split
  · unfold insertM
    split
    · exact ⟨hm, by simp, by simp⟩
    rename_i hl
    simp only [Bool.not_eq_false, Bool.and_eq_true] at hl
    split
    · exact ⟨hm, by simp, by simp⟩
    split
    · exact ⟨hm, by simp, by simp⟩
    split
    · exact ⟨hm, by simp, by simp⟩
    rename_i h1 h2 h3
    obtain ⟨c, hc, hcN, hcl⟩ := live_nat hl.1
    obtain ⟨u, hu, huN, hul⟩ := live_nat hl.2.1
    rw [hc] at hn0 h1 h2
    rw [hu] at h2
    rw [hc, hu]
    refine ⟨?_, by simp [placeM], by simp [placeM]⟩
    simp only [Int.toNat_natCast]
    refine hS.place _ hcN hcl (by omega) ?_ huN hul (fun hb => h2 (underB_iff.2 hb))
    rcases hS.up c hcN with h4 | ⟨p, _, h4, _⟩
    · exact h4
    · exact absurd (show (0 : Int) ≤ upOf S (c : Int) by rw [show upOf S (c : Int) = (p : Int) from h4]; omega) h1
  split
  · unfold moveM
    split
    · exact ⟨hm, by simp, by simp⟩
    rename_i hl
    simp only [Bool.not_eq_false, Bool.and_eq_true] at hl
    split
    · exact ⟨hm, by simp, by simp⟩
    split
    · exact ⟨hm, by simp, by simp⟩
    rename_i h1 h2
    obtain ⟨c, hc, hcN, hcl⟩ := live_nat hl.1
    have hup : upOf S x.node = (S.st c).up := by rw [hc]; rfl
    obtain ⟨p, hp, _⟩ := hS.up_nat hcN (by omega)
    rw [hup, hp, hc]
    simp only [Int.toNat_natCast]
    exact ⟨place_ok hS _ hcN hcl (by omega) hp, by simp [placeM, takeM_N], by simp [placeM, takeM_N]⟩
  split
  · exact ⟨hm, by simp, by simp⟩
  rename_i hl
  simp only [Bool.not_eq_false] at hl
  obtain ⟨c, hc, hcN, hcl⟩ := live_nat hl
  split
  · rw [hc]
    simp only [Int.toNat_natCast]
    obtain ⟨hT, hup⟩ := hS.take hcN hcl
    exact ⟨(hT.endM (by rw [takeM_N]; exact hcN) (by omega) hup).more (by omega), by simp [endM, takeM_N], by simp [endM, takeM_N]⟩
  · rw [hc]
    simp only [Int.toNat_natCast]
    obtain ⟨h1, h2⟩ := changeM_ok hS hcN x
    exact ⟨h1.more (by omega), by omega, by omega⟩
end
theorem below_line {S : MS} {a b y : Int} (h1 : Below S a y) (h2 : Below S b y) : Below S a b ∨ Below S b a := by
  induction h1 with
  | here => exact .inr h2
  | @up y hy h1 ih =>
    cases h2 with
    | here => exact .inl (.up hy h1)
    | up _ h2 => exact ih h2
theorem below_trans {S : MS} {a b y : Int} (h1 : Below S b y) (h2 : Below S a b) : Below S a y := by
  induction h1 with
  | here => exact h2
  | @up y hy h1 ih => exact .up hy ih
section
variable {R : Nat} {S : MS} (hS : S.Ok R)
include hS
theorem below_kid {h : Nat} {y : Int} (hb : Below S (h : Int) y) : ∀ c : Nat, y = (c : Int) → c < S.N → c ≠ h → ∃ k ∈ S.kd h, Below S k (c : Int) := by
  induction hb with
  | here => intro c e hc hne; exact absurd (by omega) hne
  | @up y hy h1 ih =>
    intro c e hc hne
    subst e
    have hu : upOf S (c : Int) = (S.st c).up := rfl
    rcases hS.up c hc with h3 | ⟨p, h3, h4, h5, h6⟩
    · rw [hu, h3] at h1; exact absurd h1 (below_neg (by omega))
    · by_cases e : p = h
      · subst e; exact ⟨_, h6, .here⟩
      · obtain ⟨k, hk, hb⟩ := ih p (by rw [hu, h4]) h3 e
        exact ⟨k, hk, .up (by omega) (by rw [hu, h4]; exact hb)⟩
theorem kid_below {h : Nat} (hh : h < S.N) {k y : Int} (hk : k ∈ S.kd h) (hb : Below S k y) : Below S (h : Int) y := by
  obtain ⟨c, rfl, hc, _, hu⟩ := hS.kids h hh k hk
  refine below_trans hb (.up (by omega) ?_)
  have : upOf S (c : Int) = (h : Int) := hu
  rw [this]; exact .here
theorem kids_apart {h : Nat} (hh : h < S.N) {k k' y : Int} (hk : k ∈ S.kd h) (hk' : k' ∈ S.kd h) (hb : Below S k y) (hb' : Below S k' y) : k = k' := by
  obtain ⟨r, _, hr⟩ := hS.rank
  have key : ∀ k k' : Int, k ∈ S.kd h → k' ∈ S.kd h → Below S k k' → k = k' := by
    intro k k' hk hk' hb
    obtain ⟨c, rfl, hc, _, hu⟩ := hS.kids h hh k hk
    obtain ⟨c', rfl, hc', _, hu'⟩ := hS.kids h hh k' hk'
    by_cases e : c = c'
    · rw [e]
    · rw [below_iff (by omega) (by omega)] at hb
      have e2 : upOf S (c' : Int) = (h : Int) := hu'
      rw [e2] at hb
      have := below_rank hS hr hb h rfl hh
      have := hr c h hc hu
      omega
  rcases below_line hb hb' with h1 | h1
  · exact key _ _ hk hk' h1
  · exact (key _ _ hk' hk h1).symm
end
end Go.TA


end
section
set_option linter.unusedSimpArgs false
set_option linter.unusedVariables false
/- The rows of all below a node. Plain. -/
set_option linter.unusedVariables false
set_option linter.unusedSimpArgs false
namespace Go.TA
def rowM (S : MS) (k up : Int) : GRow := ⟨k, up, (S.st k.toNat).tag, (S.st k.toNat).key, (S.st k.toNat).text, (S.st k.toNat).attrs⟩
def belowM (S : MS) : Nat → List GRow → Int → Int → List GRow
  | 0, out, _, _ => out
  | d + 1, out, h, up => (S.kd h.toNat).foldl (fun out k => belowM S d (out ++ [rowM S k up]) k ((out.length : Int) + 1)) out
def stepM (S : MS) (d : Nat) (up : Int) (out : List GRow) (k : Int) : List GRow := belowM S d (out ++ [rowM S k up]) k ((out.length : Int) + 1)
def outI (S : MS) (d : Nat) (out : List GRow) (h : Nat) (up : Int) (i : Nat) : List GRow := ((S.kd h).take i).foldl (stepM S d up) out
theorem outI_zero (S : MS) (d : Nat) (out : List GRow) (h : Nat) (up : Int) : outI S d out h up 0 = out := rfl
theorem outI_succ {S : MS} {d : Nat} {out : List GRow} {h : Nat} {up : Int} {i : Nat} {k : Int} (hk : (S.kd h)[i]? = some k) : outI S d out h up (i + 1) = belowM S d (outI S d out h up i ++ [rowM S k up]) k (((outI S d out h up i).length : Int) + 1) := by
  unfold outI
  rw [List.take_add_one, hk, List.foldl_append]
  rfl
theorem outI_all (S : MS) (d : Nat) (out : List GRow) (h : Nat) (up : Int) : outI S d out h up (S.kd h).length = belowM S (d + 1) out (h : Int) up := by
  unfold outI
  rw [List.take_length, belowM, Int.toNat_natCast]
  rfl
structure PreO (S : MS) (out : List GRow) (h : Nat) : Prop where
  nodup : (out.map GRow.id).Nodup
  rng : ∀ x ∈ out, ∃ c : Nat, x.id = (c : Int) ∧ c < S.N
  away : ∀ x ∈ out, ∀ c : Nat, x.id = (c : Int) → c ≠ h → ¬ Below S (h : Int) (c : Int)
structure PostO (S : MS) (out : List GRow) (h : Nat) (out' : List GRow) : Prop where
  nodup : (out'.map GRow.id).Nodup
  rng : ∀ x ∈ out', ∃ c : Nat, x.id = (c : Int) ∧ c < S.N
  more : ∃ more, out' = out ++ more ∧ ∀ x ∈ more, ∃ c : Nat, x.id = (c : Int) ∧ c < S.N ∧ c ≠ h ∧ Below S (h : Int) (c : Int)
theorem PostO.len {S : MS} {out out' : List GRow} {h : Nat} (p : PostO S out h out') : out'.length ≤ S.N := by
  have := nodup_len S.N (out'.map GRow.id) p.nodup (fun k hk => by
    obtain ⟨x, hx, rfl⟩ := List.mem_map.1 hk
    exact p.rng x hx)
  rwa [List.length_map] at this
section
variable {R : Nat} {S : MS} (hS : S.Ok R)
include hS
theorem kid_strict {h c : Nat} (hc : c < S.N) (hu : (S.st c).up = (h : Int)) : c ≠ h := by
  obtain ⟨r, _, hr⟩ := hS.rank
  have := hr c h hc hu
  intro e; subst e; omega
theorem kid_pre {out : List GRow} {h i : Nat} {out1 : List GRow} {c : Nat} (up : Int) (hh : h < S.N) (hp : PreO S out h) (h1 : PostO S out h out1) (hm : ∀ more, out1 = out ++ more → ∀ x ∈ more, ∃ j, j < i ∧ ∃ k, (S.kd h)[j]? = some k ∧ Below S k x.id) (hk : (S.kd h)[i]? = some (c : Int)) (hc : c < S.N) (hu : (S.st c).up = (h : Int)) : PreO S (out1 ++ [rowM S (c : Int) up]) c := by
  have hkm := List.mem_of_getElem? hk
  obtain ⟨more, hmore, hmo⟩ := h1.more
  have hst := kid_strict hS hc hu
  have hmm := hm more hmore
  have hkb : ∀ y : Int, Below S (c : Int) y → Below S (h : Int) y := fun y hb => kid_below hS hh hkm hb
  have hap : ∀ x ∈ more, ¬ Below S (c : Int) x.id := fun x hx hb => by
    obtain ⟨j, hj, k, hk', hb'⟩ := hmm x hx
    have := kids_apart hS hh hkm (List.mem_of_getElem? hk') hb hb'
    subst this
    have hjl := (List.getElem?_eq_some_iff.1 hk').1
    have := (List.getElem?_inj hjl (hS.nodup h hh)).1 (hk'.trans hk.symm)
    omega
  refine ⟨?_, ?_, ?_⟩
  · rw [List.map_append, List.nodup_append]
    refine ⟨h1.nodup, by simp, fun a ha b hb => ?_⟩
    simp only [List.map_cons, List.map_nil, List.mem_singleton, rowM] at hb
    subst hb
    obtain ⟨x, hx, rfl⟩ := List.mem_map.1 ha
    intro e
    rw [hmore] at hx
    rcases List.mem_append.1 hx with hx | hx
    · exact hp.away x hx c e hst (hkb _ .here)
    · exact hap x hx (by rw [e]; exact .here)
  · intro x hx
    rcases List.mem_append.1 hx with hx | hx
    · exact h1.rng x hx
    · simp at hx; subst hx; exact ⟨c, rfl, hc⟩
  · intro x hx y hy hne hb
    rcases List.mem_append.1 hx with hx | hx
    · rw [hmore] at hx
      rcases List.mem_append.1 hx with hx | hx
      · refine hp.away x hx y hy (fun e => ?_) (hkb _ hb)
        subst e
        obtain ⟨r, _, hr⟩ := hS.rank
        have := below_rank hS hr hb y rfl hh
        have := hr c y hc hu
        omega
      · exact hap x hx (by rw [hy]; exact hb)
    · simp at hx
      subst hx
      simp only [rowM] at hy
      omega
theorem post_of {out : List GRow} {d h i : Nat} {up : Int} (hh : h < S.N) (hp : PreO S out h) (hi : i < (S.kd h).length)
    (ih : PostO S out h (outI S d out h up i) ∧ ∀ more, outI S d out h up i = out ++ more → ∀ x ∈ more, ∃ j, j < i ∧ ∃ k, (S.kd h)[j]? = some k ∧ Below S k x.id)
    (hb : ∀ (out : List GRow) (c : Nat) (up : Int), c < S.N → PreO S out c → PostO S out c (belowM S d out (c : Int) up)) :
    PostO S out h (outI S d out h up (i + 1)) ∧ ∀ more, outI S d out h up (i + 1) = out ++ more → ∀ x ∈ more, ∃ j, j < i + 1 ∧ ∃ k, (S.kd h)[j]? = some k ∧ Below S k x.id := by
  obtain ⟨h1, h2⟩ := ih
  obtain ⟨k, hk⟩ : ∃ k, (S.kd h)[i]? = some k := ⟨_, List.getElem?_eq_getElem (by omega)⟩
  have hkm := List.mem_of_getElem? hk
  obtain ⟨c, rfl, hc, _, hu⟩ := hS.kids h hh k hkm
  have hpre := kid_pre hS up hh hp h1 h2 hk hc hu
  have hpost := hb _ c (((outI S d out h up i).length : Int) + 1) hc hpre
  rw [← outI_succ hk] at hpost
  obtain ⟨more1, e1, m1⟩ := h1.more
  obtain ⟨more2, e2, m2⟩ := hpost.more
  have e3 : outI S d out h up (i + 1) = out ++ (more1 ++ [rowM S (c : Int) up] ++ more2) := by rw [e2, e1]; simp
  have hstr := kid_strict hS hc hu
  refine ⟨⟨hpost.nodup, hpost.rng, _, e3, fun x hx => ?_⟩, fun more hm x hx => ?_⟩
  · rcases List.mem_append.1 hx with hx | hx
    · rcases List.mem_append.1 hx with hx | hx
      · exact m1 x hx
      · simp at hx; subst hx
        exact ⟨c, rfl, hc, hstr, kid_below hS hh hkm .here⟩
    · obtain ⟨y, hy, hyN, _, hyb⟩ := m2 x hx
      refine ⟨y, hy, hyN, fun e => ?_, kid_below hS hh hkm hyb⟩
      subst e
      obtain ⟨r, _, hr⟩ := hS.rank
      have := below_rank hS hr hyb y rfl hh
      have := hr c y hc hu
      omega
  · have : more = more1 ++ [rowM S (c : Int) up] ++ more2 := by
      rw [e3] at hm
      exact (List.append_cancel_left hm).symm
    subst this
    rcases List.mem_append.1 hx with hx | hx
    · rcases List.mem_append.1 hx with hx | hx
      · obtain ⟨j, hj, r⟩ := h2 more1 e1 x hx
        exact ⟨j, by omega, r⟩
      · simp at hx; subst hx
        exact ⟨i, by omega, _, hk, .here⟩
    · obtain ⟨y, hy, _, _, hyb⟩ := m2 x hx
      exact ⟨i, by omega, _, hk, by rw [hy]; exact hyb⟩
theorem post_zero {out : List GRow} {d h : Nat} {up : Int} (hp : PreO S out h) : PostO S out h (outI S d out h up 0) ∧ ∀ more, outI S d out h up 0 = out ++ more → ∀ x ∈ more, ∃ j, j < 0 ∧ ∃ k, (S.kd h)[j]? = some k ∧ Below S k x.id := by
  have _ := hS
  refine ⟨⟨hp.nodup, hp.rng, [], by simp [outI_zero], by simp⟩, fun more hm x hx => ?_⟩
  rw [outI_zero] at hm
  have : more = [] := by simpa using hm
  subst this; simp at hx
theorem below_post : ∀ (d : Nat) (out : List GRow) (h : Nat) (up : Int), h < S.N → PreO S out h → PostO S out h (belowM S d out (h : Int) up)
  | 0, out, h, up, hh, hp => ⟨hp.nodup, hp.rng, [], by simp [belowM], by simp⟩
  | d + 1, out, h, up, hh, hp => by
    rw [← outI_all]
    have key : ∀ i, i ≤ (S.kd h).length → PostO S out h (outI S d out h up i) ∧ ∀ more, outI S d out h up i = out ++ more → ∀ x ∈ more, ∃ j, j < i ∧ ∃ k, (S.kd h)[j]? = some k ∧ Below S k x.id := by
      intro i
      induction i with
      | zero => exact fun _ => post_zero hS hp
      | succ i ih => exact fun hi => post_of hS hh hp (by omega) (ih (by omega)) (fun out c up hc hp => below_post d out c up hc hp)
    exact (key _ (Nat.le_refl _)).1
theorem post_all {out : List GRow} {d h : Nat} {up : Int} (hh : h < S.N) (hp : PreO S out h) : ∀ i, i ≤ (S.kd h).length → PostO S out h (outI S d out h up i) ∧ ∀ more, outI S d out h up i = out ++ more → ∀ x ∈ more, ∃ j, j < i ∧ ∃ k, (S.kd h)[j]? = some k ∧ Below S k x.id := by
  intro i
  induction i with
  | zero => exact fun _ => post_zero hS hp
  | succ i ih => exact fun hi => post_of hS hh hp (by omega) (ih (by omega)) (fun out c up hc hp => below_post hS d out c up hc hp)
end
end Go.TA


end
