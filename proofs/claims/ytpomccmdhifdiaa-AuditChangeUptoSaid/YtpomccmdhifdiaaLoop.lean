/- Loops by a state, and small facts that all proofs use. -/
import Derived.Test.YtpomccmdhifdiaaData
set_option linter.unusedVariables false
namespace Go.TA
/-- A loop whose rounds go from state to state, and which ends with what the state's answer is. -/
theorem loop_rule {C : Calls'} {N : Nat} {B : LCode} {σ : Type} (S : σ → St) (I : σ → Prop) (μ : σ → Nat) (Φ : σ → Ex × St)
    (h : ∀ s, I s → (∃ s', aexec C N B (S s) = some (.normal, S s') ∧ I s' ∧ μ s' < μ s ∧ Φ s = Φ s') ∨ (aexec C N B (S s) = some (Φ s) ∧ (Φ s).1 ≠ .normal)) :
    ∀ (m : Nat) (s : σ), I s → μ s < m → aloop C N B m (S s) = some (Φ s) := by
  intro m
  induction m with
  | zero => intro s _ hm; omega
  | succ m ih =>
    intro s hI hm
    rw [aloop_succ]
    rcases h s hI with ⟨s', h1, h2, h3, h4⟩ | ⟨h1, h2⟩
    · rw [h1, bl_normal, ih s' h2 (by omega), h4]
    · rw [h1]
      generalize Φ s = r at h2
      obtain ⟨e, t⟩ := r
      cases e with
      | normal => exact absurd rfl h2
      | exit i => exact bl_exit B m i t
      | ret => exact bl_ret B m t
theorem loop_rule' {C : Calls'} {N : Nat} {B : LCode} {σ : Type} (S : σ → St) (I : σ → Prop) (μ : σ → Nat) (Φ : σ → Ex × St)
    (h : ∀ s, I s → (∃ s', aexec C N B (S s) = some (.normal, S s') ∧ I s' ∧ μ s' < μ s ∧ Φ s = Φ s') ∨ (aexec C N B (S s) = some (Φ s) ∧ (Φ s).1 ≠ .normal))
    (s : σ) (hI : I s) (hm : μ s < N) : aexec C N (.loop B) (S s) = some (Φ s) := by
  rw [aexec_loop]; exact loop_rule S I μ Φ h N s hI hm
theorem getD_map {α : Type} {f : α → List PV} {l : List α} {i : Nat} {x : α} (h : l[i]? = some x) : (l.map f).getD i [] = f x := by
  rw [List.getD_eq_getElem?_getD, List.getElem?_map, h]; rfl
theorem get_some {α : Type} {l : List α} {i : Nat} (h : i < l.length) : ∃ x, l[i]? = some x := ⟨l[i], by simp [h]⟩
end Go.TA
