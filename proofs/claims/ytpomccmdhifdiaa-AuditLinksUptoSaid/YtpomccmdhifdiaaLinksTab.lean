/- The table of functions, and that it is sound. -/
import Derived.Test.YtpomccmdhifdiaaLinksLow0
import Derived.Test.YtpomccmdhifdiaaPrims
import Derived.Test.YtpomccmdhifdiaaRoad
import Derived.KernelRfl
set_option linter.unusedVariables false
set_option maxRecDepth 100000
namespace Go.TA.Try
theorem mixed : Go.Proofs.Try.prog.follows .mixedOrders = true := by kernel_rfl
def tab : List (Nat × LFn) := [(5, .code F5),
  (13, .code F13),
  (14, .code F14),
  (15, .code F15),
  (16, .code F16),
  (17, .code F17),
  (24, .code F24),
  (37, .code F37),
  (38, .code F38),
  (39, .code F39),
  (40, .code F40),
  (52, .code F52)]
def T (k : Nat) : Option LFn := lk tab k
theorem T5 : T 5 = some (.code F5) := rfl
theorem T13 : T 13 = some (.code F13) := rfl
theorem T14 : T 14 = some (.code F14) := rfl
theorem T15 : T 15 = some (.code F15) := rfl
theorem T16 : T 16 = some (.code F16) := rfl
theorem T17 : T 17 = some (.code F17) := rfl
theorem T24 : T 24 = some (.code F24) := rfl
theorem T37 : T 37 = some (.code F37) := rfl
theorem T38 : T 38 = some (.code F38) := rfl
theorem T39 : T 39 = some (.code F39) := rfl
theorem T40 : T 40 = some (.code F40) := rfl
theorem T52 : T 52 = some (.code F52) := rfl
theorem tab_ok : ∀ e ∈ tab, RowOk Go.Proofs.Try.prog Γ0 e := by
  unfold tab
  refine List.forall_mem_cons.2 ⟨fnSound_of ok5, ?_⟩
  refine List.forall_mem_cons.2 ⟨fnSound_of ok13, ?_⟩
  refine List.forall_mem_cons.2 ⟨fnSound_of ok14, ?_⟩
  refine List.forall_mem_cons.2 ⟨fnSound_of ok15, ?_⟩
  refine List.forall_mem_cons.2 ⟨fnSound_of ok16, ?_⟩
  refine List.forall_mem_cons.2 ⟨fnSound_of ok17, ?_⟩
  refine List.forall_mem_cons.2 ⟨fnSound_of ok24, ?_⟩
  refine List.forall_mem_cons.2 ⟨fnSound_of ok37, ?_⟩
  refine List.forall_mem_cons.2 ⟨fnSound_of ok38, ?_⟩
  refine List.forall_mem_cons.2 ⟨fnSound_of ok39, ?_⟩
  refine List.forall_mem_cons.2 ⟨fnSound_of ok40, ?_⟩
  refine List.forall_mem_cons.2 ⟨fnSound_of ok52, ?_⟩
  simp
theorem T_ok : TOk Go.Proofs.Try.prog Γ0 T := tOk_of tab_ok
end Go.TA.Try
