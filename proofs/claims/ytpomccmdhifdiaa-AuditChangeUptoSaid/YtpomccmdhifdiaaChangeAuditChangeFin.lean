/- The law AuditChange, for every input of bulk at most 1048576: the call returns true, and nothing that was there has changed. -/
import Derived.Test.YtpomccmdhifdiaaRows
import Derived.WalkKit
import Derived.ProofKit
import Derived.OpenShut
import Derived.JoinedCond
import Derived.Test.YtpomccmdhifdiaaChangeChangeEnd
namespace Go.Proofs.Ytpomccmdhifdiaa.auditChange
open Go.ChangeShapes Go.WideShapes Go.ChangeAt Go.RowKit Go.TA
set_option linter.unusedVariables false
set_option maxRecDepth 100000

theorem own : ownKnob Try.prog.godebug = none := by kernel_rfl
theorem kids : Kids Try.prog (· < Try.prog.types.size) := kids_rows (by kernel_rfl) (by kernel_rfl)
theorem full : ∀ t e, t < Try.prog.types.size → Try.prog.underlying t = some (.slice e) → 0 < Try.prog.cellsOf e := slices_full_of Try.prog (by kernel_rfl)
theorem bulk {H : Type} : Bulk (H := H) Rows.uptoBulk Rows.uptoBulkAll where
  str bs := by simp [Rows.uptoBulk]
  lit l := by cases l <;> simp [Rows.uptoBulk]
  nil := by simp [Rows.uptoBulk]
  slice a b := by simp [Rows.uptoBulk]
  agg a := by simp [Rows.uptoBulk]
  nilA := by simp [Rows.uptoBulkAll]
  consA d r := by simp [Rows.uptoBulkAll]
def types : List TypeId := [39, 61, 3, 9, 22, 55]
theorem closed : closedB Try.prog 9 types = true := by decide +kernel
theorem shArg : shOf Try.prog 9 39 = some [.sl 61] := by decide +kernel
theorem shRow : shOf Try.prog 9 61 = some (rowSh 55) := by decide +kernel
theorem shAttr : shOf Try.prog 9 55 = some [.str, .str] := by decide +kernel
theorem params : Try.f6.params.toList = [39, 39] := by kernel_rfl

theorem contract (H : Type) (enc : TypeId × Value → H) (W : World) (base : Nat) (args : Array Value) (ds gs : List (DataW H)) (before : List MemPlace)
    (hval : ∀ (j : Nat) t v, Try.f6.params[j]? = some t → args[j]? = some v → Value.okWide Try.prog W .any base t v)
    (hW : DataW.Whole enc Try.prog Try.f6.params.toList Rows.auditChangeSpec.vars false W args.toList ds gs before) (hk : Rows.uptoSmall H (ds ++ gs) = true) :
    Calls Try.prog 6 args W fun e W' => ∃ v, e = .returned v ∧ Rows.auditChangeSpec.post enc Try.prog Try.f6 false true false false W args v W' := by
  have hW' := hW
  obtain ⟨p, q, hA, hV, rfl, _, _⟩ := hW'
  obtain ⟨rfl, rfl⟩ := trodVars_none hV
  rw [List.append_nil] at hk
  have hbound : Rows.uptoBulkAll ds ≤ 1048576 := of_decide_eq_true hk
  have hlen := trod_len hA
  rw [params] at hA hlen
  obtain ⟨pss, h1, h2, h3, h4⟩ := args_rel (gs := types) (D0 := 9) kids full bulk closed hA (by decide) (fun j t v hj hv => ⟨_, _, hval j t v (by rw [← Array.getElem?_toList, params]; exact hj) (by simpa using hv)⟩)
  match pss, h1 with
  | [ps, qs], h1 =>
  obtain ⟨⟨shs, hs, hok⟩, ⟨shs2, hs2, hok2⟩, _⟩ := h1
  rw [shArg] at hs hs2
  simp only [Option.some.injEq] at hs hs2
  subst hs hs2
  obtain ⟨xs, r, rfl, hx, hr⟩ := dec_list shRow hok
  obtain rfl := dec_nil hr
  obtain ⟨l, rfl, hl⟩ := dec_rows shAttr hx
  obtain ⟨ys, r2, rfl, hy, hr2⟩ := dec_list shRow hok2
  obtain rfl := dec_nil hr2
  obtain ⟨k, rfl, hk⟩ := dec_rows shAttr hy
  have hb : bulkLL (l.map GRow.pv) < 1048577 := by simp only [bulkLL, bulkL, PV.bulk] at h2; omega
  have hb2 : bulkLL (k.map GRow.pv) < 1048577 := by simp only [bulkLL, bulkL, PV.bulk] at h2; omega
  have hrun := Go.TA.Try.law_run l k (small_rows hb (Nat.le_refl _)) (small_rows hb2 (Nat.le_refl _)) (Nat.le_refl _)
  have ha : aggT Try.prog 39 = false := by decide +kernel
  have hargs : argsOf Try.prog [39, 39] [[.list (l.map GRow.pv)], [.list (k.map GRow.pv)]] = [.list (l.map GRow.pv), .list (k.map GRow.pv)] := by simp [argsOf, argOf, ha]
  rw [hargs] at h3 h4
  refine (law_calls Go.TA.Try.mixed Go.TA.Try.T_ok (ps := [.list (l.map GRow.pv), .list (k.map GRow.pv)]) hrun (by simpa using h3) h4).mono fun e W' ⟨he, hB⟩ => ⟨_, he, ?_⟩
  refine law_post kids full hW rfl (tb := 4) rfl (by kernel_rfl) (by rw [params]; decide +kernel) ?_ hB
  match ds, hlen with
  | [d, d2], _ => rfl
theorem lifted (os : Os) (started : os.Started) (H : Type) (enc : TypeId × Value → H) (F : Stop.Interp) :
    ReturnsInHanded {} Try.checked os 6 .any ((Rows.OpenSpec.upto Rows.auditChangeSpec).pre6 enc Try.prog Try.f6 Rows.auditChangeUptoRow.domain false) (((Rows.OpenSpec.upto Rows.auditChangeSpec).at F).post enc Try.prog Try.f6 false true false false) := by
  refine returnsInHanded_of_cond (C := Try.checked) (s := Rows.OpenSpec.upto Rows.auditChangeSpec) (k := Rows.uptoSmall) rfl own started (by kernel_rfl) Try.func6
    (OpenSpec.witness (enc := enc) (C := Try.checked) (s := Rows.OpenSpec.upto Rows.auditChangeSpec) (k := Rows.uptoSmall) rfl false ⟨#[], #[.slice none 0 0, .slice none 0 0], []⟩ 8 (by kernel_rfl) (by kernel_rfl) (by kernel_rfl)
      (x := ([.nil, .nil], [], [])) (by kernel_rfl) rfl (by kernel_rfl)) ?_
  intro W base args ds gs before hval hW _ hk _
  exact contract H enc W base args ds gs before hval hW hk
theorem over : Rows.auditChangeUptoRow.holds Try.pinned (Rows.OpenSpec.upto Rows.auditChangeSpec) :=
  OpenClaim.holds_of_cond 6 Try.f6 rfl rfl rfl rfl rfl rfl rfl ⟨rfl, rfl, rfl, rfl, rfl⟩ rfl rfl rfl rfl rfl (by kernel_rfl) Try.func6 (by kernel_rfl)
    (of_decide_eq_true (by kernel_rfl)) (by unfold Func.isWrapper; first | (rw [if_pos (by decide +kernel)]; kernel_rfl) | (rw [if_neg (by decide +kernel)]; exact ⟨rfl, rfl⟩))
    (fun os started H enc _ F => lifted os started H enc F)
theorem holds : Rows.AuditChangeUptoSaid := over
end Go.Proofs.Ytpomccmdhifdiaa.auditChange
