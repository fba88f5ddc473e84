/- The table of functions, and that it is sound. -/
import Derived.Test.YtpomccmdhifdiaaChangeLow0
import Derived.Test.YtpomccmdhifdiaaPrims
import Derived.Test.YtpomccmdhifdiaaRoad
import Derived.KernelRfl
set_option linter.unusedVariables false
set_option maxRecDepth 100000
namespace Go.TA.Try
theorem mixed : Go.Proofs.Try.prog.follows .mixedOrders = true := by kernel_rfl
def tab : List (Nat × LFn) := [(6, .code F6),
  (13, .code F13),
  (14, .code F14),
  (15, .code F15),
  (18, .code F18),
  (19, .code F19),
  (20, .code F20),
  (21, .code F21),
  (24, .code F24),
  (37, .code F37),
  (38, .code F38),
  (39, .code F39),
  (41, .code F41),
  (42, .code F42),
  (43, .code F43),
  (44, .code F44),
  (52, .code F52),
  (66, .code F66),
  (69, .code F69)]
def T (k : Nat) : Option LFn := lk tab k
theorem T6 : T 6 = some (.code F6) := rfl
theorem T13 : T 13 = some (.code F13) := rfl
theorem T14 : T 14 = some (.code F14) := rfl
theorem T15 : T 15 = some (.code F15) := rfl
theorem T18 : T 18 = some (.code F18) := rfl
theorem T19 : T 19 = some (.code F19) := rfl
theorem T20 : T 20 = some (.code F20) := rfl
theorem T21 : T 21 = some (.code F21) := rfl
theorem T24 : T 24 = some (.code F24) := rfl
theorem T37 : T 37 = some (.code F37) := rfl
theorem T38 : T 38 = some (.code F38) := rfl
theorem T39 : T 39 = some (.code F39) := rfl
theorem T41 : T 41 = some (.code F41) := rfl
theorem T42 : T 42 = some (.code F42) := rfl
theorem T43 : T 43 = some (.code F43) := rfl
theorem T44 : T 44 = some (.code F44) := rfl
theorem T52 : T 52 = some (.code F52) := rfl
theorem T66 : T 66 = some (.code F66) := rfl
theorem T69 : T 69 = some (.code F69) := rfl
theorem tab_ok : ∀ e ∈ tab, RowOk Go.Proofs.Try.prog Γ0 e := by
  unfold tab
  refine List.forall_mem_cons.2 ⟨fnSound_of ok6, ?_⟩
  refine List.forall_mem_cons.2 ⟨fnSound_of ok13, ?_⟩
  refine List.forall_mem_cons.2 ⟨fnSound_of ok14, ?_⟩
  refine List.forall_mem_cons.2 ⟨fnSound_of ok15, ?_⟩
  refine List.forall_mem_cons.2 ⟨fnSound_of ok18, ?_⟩
  refine List.forall_mem_cons.2 ⟨fnSound_of ok19, ?_⟩
  refine List.forall_mem_cons.2 ⟨fnSound_of ok20, ?_⟩
  refine List.forall_mem_cons.2 ⟨fnSound_of ok21, ?_⟩
  refine List.forall_mem_cons.2 ⟨fnSound_of ok24, ?_⟩
  refine List.forall_mem_cons.2 ⟨fnSound_of ok37, ?_⟩
  refine List.forall_mem_cons.2 ⟨fnSound_of ok38, ?_⟩
  refine List.forall_mem_cons.2 ⟨fnSound_of ok39, ?_⟩
  refine List.forall_mem_cons.2 ⟨fnSound_of ok41, ?_⟩
  refine List.forall_mem_cons.2 ⟨fnSound_of ok42, ?_⟩
  refine List.forall_mem_cons.2 ⟨fnSound_of ok43, ?_⟩
  refine List.forall_mem_cons.2 ⟨fnSound_of ok44, ?_⟩
  refine List.forall_mem_cons.2 ⟨fnSound_of ok52, ?_⟩
  refine List.forall_mem_cons.2 ⟨fnSound_of ok66, ?_⟩
  refine List.forall_mem_cons.2 ⟨fnSound_of ok69, ?_⟩
  simp
theorem T_ok : TOk Go.Proofs.Try.prog Γ0 T := tOk_of tab_ok
end Go.TA.Try
