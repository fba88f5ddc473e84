/- The law DomNone, for every input of bulk at most 1048576: the call returns true, and nothing that was there has changed. -/
import Derived.Test.YtpomccmdhifdiaaRows
import Derived.WalkKit
import Derived.ProofKit
import Derived.OpenShut
import Derived.JoinedCond
import Derived.Test.YtpomccmdhifdiaaNoneDomNone
namespace Go.Proofs.Ytpomccmdhifdiaa.domNone
open Go.ChangeShapes Go.WideShapes Go.ChangeAt Go.RowKit Go.TA
set_option linter.unusedVariables false
set_option maxRecDepth 100000

theorem own : ownKnob Try.prog.godebug = none := by kernel_rfl
theorem kids : Kids Try.prog (· < Try.prog.types.size) := kids_rows (by kernel_rfl) (by kernel_rfl)
theorem full : ∀ t e, t < Try.prog.types.size → Try.prog.underlying t = some (.slice e) → 0 < Try.prog.cellsOf e := slices_full_of Try.prog (by kernel_rfl)
theorem bulk {H : Type} : Bulk (H := H) Rows.uptoBulk Rows.uptoBulkAll where
  str bs := by simp [Rows.uptoBulk]
  lit l := by cases l <;> simp [Rows.uptoBulk]
  nil := by simp [Rows.uptoBulk]
  slice a b := by simp [Rows.uptoBulk]
  agg a := by simp [Rows.uptoBulk]
  nilA := by simp [Rows.uptoBulkAll]
  consA d r := by simp [Rows.uptoBulkAll]
def types : List TypeId := [24, 3, 9, 22, 55]
theorem closed : closedB Try.prog 9 types = true := by decide +kernel
theorem shOp : shOf Try.prog 9 24 = some (opSh 55) := by decide +kernel
theorem shAttr : shOf Try.prog 9 55 = some [.str, .str] := by decide +kernel
theorem params : Try.f3.params.toList = [24] := by kernel_rfl

theorem contract (H : Type) (enc : TypeId × Value → H) (W : World) (base : Nat) (args : Array Value) (ds gs : List (DataW H)) (before : List MemPlace)
    (hval : ∀ (j : Nat) t v, Try.f3.params[j]? = some t → args[j]? = some v → Value.okWide Try.prog W .any base t v)
    (hW : DataW.Whole enc Try.prog Try.f3.params.toList Rows.domNoneSpec.vars false W args.toList ds gs before) (hk : Rows.uptoSmall H (ds ++ gs) = true) :
    Calls Try.prog 3 args W fun e W' => ∃ v, e = .returned v ∧ Rows.domNoneSpec.post enc Try.prog Try.f3 false true false false W args v W' := by
  have hW' := hW
  obtain ⟨p, q, hA, hV, rfl, _, _⟩ := hW'
  obtain ⟨rfl, rfl⟩ := trodVars_none hV
  rw [List.append_nil] at hk
  have hbound : Rows.uptoBulkAll ds ≤ 1048576 := of_decide_eq_true hk
  have hlen := trod_len hA
  rw [params] at hA hlen
  obtain ⟨pss, h1, h2, h3, h4⟩ := args_rel (gs := types) (D0 := 9) kids full bulk closed hA (by decide) (fun j t v hj hv => ⟨_, _, hval j t v (by rw [← Array.getElem?_toList, params]; exact hj) (by simpa using hv)⟩)
  -- the argument
  match pss, h1 with
  | [ps], h1 =>
  obtain ⟨⟨shs, hs, hok⟩, _⟩ := h1
  rw [shOp] at hs
  simp only [Option.some.injEq] at hs
  subst hs
  obtain ⟨x, rfl, hx⟩ := dec_op shAttr hok
  have hb : bulkL x.pv ≤ 1048576 := by simp only [bulkLL] at h2; omega
  obtain ⟨hs, hn⟩ := Go.TA.Try.smallOp_of hb (Nat.le_refl _)
  have hrun := Go.TA.Try.law_run x hs 1048576 hn
  have ha : aggT Try.prog 24 = true := by decide +kernel
  have hargs : argsOf Try.prog [24] [x.pv] = [.agg x.pv] := by simp [argsOf, argOf, ha]
  rw [hargs] at h3 h4
  refine (law_calls Go.TA.Try.mixed Go.TA.Try.T_ok (ps := [.agg x.pv]) hrun (by simpa using h3) h4).mono fun e W' ⟨he, hB⟩ => ⟨_, he, ?_⟩
  refine law_post kids full hW rfl (tb := 4) rfl (by kernel_rfl) (by rw [params]; decide +kernel) ?_ hB
  match ds, hlen with
  | [d], _ => rfl
theorem lifted (os : Os) (started : os.Started) (H : Type) (enc : TypeId × Value → H) (F : Stop.Interp) :
    ReturnsInHanded {} Try.checked os 3 .any ((Rows.OpenSpec.upto Rows.domNoneSpec).pre6 enc Try.prog Try.f3 Rows.domNoneUptoRow.domain false) (((Rows.OpenSpec.upto Rows.domNoneSpec).at F).post enc Try.prog Try.f3 false true false false) := by
  refine returnsInHanded_of_cond (C := Try.checked) (s := Rows.OpenSpec.upto Rows.domNoneSpec) (k := Rows.uptoSmall) rfl own started (by kernel_rfl) Try.func3
    (OpenSpec.witness (enc := enc) (C := Try.checked) (s := Rows.OpenSpec.upto Rows.domNoneSpec) (k := Rows.uptoSmall) rfl false ⟨#[], #[.agg #[.int .i64 0, .int .i64 0, .int .i64 0, .int .i64 0, .string ⟨#[]⟩, .string ⟨#[]⟩, .string ⟨#[]⟩, .string ⟨#[]⟩, .slice none 0 0]], []⟩ 8 (by kernel_rfl) (by kernel_rfl) (by kernel_rfl)
      (x := ([.agg [.lit (.int .i64 0), .lit (.int .i64 0), .lit (.int .i64 0), .lit (.int .i64 0), .lit (.string []), .lit (.string []), .lit (.string []), .lit (.string []), .nil]], [], [])) (by kernel_rfl) rfl (by kernel_rfl)) ?_
  intro W base args ds gs before hval hW _ hk _
  exact contract H enc W base args ds gs before hval hW hk
theorem over : Rows.domNoneUptoRow.holds Try.pinned (Rows.OpenSpec.upto Rows.domNoneSpec) :=
  OpenClaim.holds_of_cond 3 Try.f3 rfl rfl rfl rfl rfl rfl rfl ⟨rfl, rfl, rfl, rfl, rfl⟩ rfl rfl rfl rfl rfl (by kernel_rfl) Try.func3 (by kernel_rfl)
    (of_decide_eq_true (by kernel_rfl)) (by unfold Func.isWrapper; first | (rw [if_pos (by decide +kernel)]; kernel_rfl) | (rw [if_neg (by decide +kernel)]; exact ⟨rfl, rfl⟩))
    (fun os started H enc _ F => lifted os started H enc F)
theorem holds : Rows.DomNoneUptoSaid := over
end Go.Proofs.Ytpomccmdhifdiaa.domNone
