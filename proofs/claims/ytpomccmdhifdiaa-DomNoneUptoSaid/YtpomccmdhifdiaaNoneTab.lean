/- The table of functions, and that it is sound. -/
import Derived.Test.YtpomccmdhifdiaaNoneLow0
import Derived.Test.YtpomccmdhifdiaaPrims
import Derived.Test.YtpomccmdhifdiaaRoad
import Derived.KernelRfl
import Derived.Test.YtpomccmdhifdiaaShelfinternalstringsliteIndexByte
import Derived.Test.YtpomccmdhifdiaaShelfstringsIndexByte
set_option linter.unusedVariables false
set_option maxRecDepth 100000
namespace Go.TA.Try
theorem mixed : Go.Proofs.Try.prog.follows .mixedOrders = true := by kernel_rfl
def tab : List (Nat × LFn) := [(3, .code F3),
  (7, .code F7),
  (8, .code F8),
  (9, .code F9),
  (10, .code F10),
  (12, .code F12),
  (22, .code F22),
  (23, .code F23),
  (24, .code F24),
  (25, .code F25),
  (26, .code F26),
  (27, .code F27),
  (28, .code F28),
  (29, .code F29),
  (30, .code F30),
  (32, .code F32),
  (33, .code F33),
  (36, .code F36),
  (45, .code F45),
  (46, .code F46),
  (47, .code F47),
  (48, .prim (pClone 2)),
  (49, .code F49),
  (50, .code F50),
  (51, .code F51),
  (52, .code F52),
  (53, .code F53),
  (54, .code F54),
  (55, .code F55),
  (56, .code F56),
  (57, .code F57),
  (58, .code F58),
  (70, .code F70),
  (71, .code F71),
  (72, .code F72),
  (75, .code F75),
  (81, .code F81),
  (82, .prim (pIndexByte))]
def T (k : Nat) : Option LFn := lk tab k
theorem T3 : T 3 = some (.code F3) := rfl
theorem T7 : T 7 = some (.code F7) := rfl
theorem T8 : T 8 = some (.code F8) := rfl
theorem T9 : T 9 = some (.code F9) := rfl
theorem T10 : T 10 = some (.code F10) := rfl
theorem T12 : T 12 = some (.code F12) := rfl
theorem T22 : T 22 = some (.code F22) := rfl
theorem T23 : T 23 = some (.code F23) := rfl
theorem T24 : T 24 = some (.code F24) := rfl
theorem T25 : T 25 = some (.code F25) := rfl
theorem T26 : T 26 = some (.code F26) := rfl
theorem T27 : T 27 = some (.code F27) := rfl
theorem T28 : T 28 = some (.code F28) := rfl
theorem T29 : T 29 = some (.code F29) := rfl
theorem T30 : T 30 = some (.code F30) := rfl
theorem T32 : T 32 = some (.code F32) := rfl
theorem T33 : T 33 = some (.code F33) := rfl
theorem T36 : T 36 = some (.code F36) := rfl
theorem T45 : T 45 = some (.code F45) := rfl
theorem T46 : T 46 = some (.code F46) := rfl
theorem T47 : T 47 = some (.code F47) := rfl
theorem T48 : T 48 = some (.prim (pClone 2)) := rfl
theorem T49 : T 49 = some (.code F49) := rfl
theorem T50 : T 50 = some (.code F50) := rfl
theorem T51 : T 51 = some (.code F51) := rfl
theorem T52 : T 52 = some (.code F52) := rfl
theorem T53 : T 53 = some (.code F53) := rfl
theorem T54 : T 54 = some (.code F54) := rfl
theorem T55 : T 55 = some (.code F55) := rfl
theorem T56 : T 56 = some (.code F56) := rfl
theorem T57 : T 57 = some (.code F57) := rfl
theorem T58 : T 58 = some (.code F58) := rfl
theorem T70 : T 70 = some (.code F70) := rfl
theorem T71 : T 71 = some (.code F71) := rfl
theorem T72 : T 72 = some (.code F72) := rfl
theorem T75 : T 75 = some (.code F75) := rfl
theorem T81 : T 81 = some (.code F81) := rfl
theorem T82 : T 82 = some (.prim (pIndexByte)) := rfl
theorem prim48 : PrimOk Go.Proofs.Try.prog Γ0 48 (pClone 2) := pClone_ok mixed (sz := 2) (bytes := 32) (by decide +kernel)
theorem prim82 : PrimOk Go.Proofs.Try.prog Γ0 82 (pIndexByte) := pIndexByte_ok (by decide +kernel) Go.Proofs.Try.strings_IndexByte
theorem tab_ok : ∀ e ∈ tab, RowOk Go.Proofs.Try.prog Γ0 e := by
  unfold tab
  refine List.forall_mem_cons.2 ⟨fnSound_of ok3, ?_⟩
  refine List.forall_mem_cons.2 ⟨fnSound_of ok7, ?_⟩
  refine List.forall_mem_cons.2 ⟨fnSound_of ok8, ?_⟩
  refine List.forall_mem_cons.2 ⟨fnSound_of ok9, ?_⟩
  refine List.forall_mem_cons.2 ⟨fnSound_of ok10, ?_⟩
  refine List.forall_mem_cons.2 ⟨fnSound_of ok12, ?_⟩
  refine List.forall_mem_cons.2 ⟨fnSound_of ok22, ?_⟩
  refine List.forall_mem_cons.2 ⟨fnSound_of ok23, ?_⟩
  refine List.forall_mem_cons.2 ⟨fnSound_of ok24, ?_⟩
  refine List.forall_mem_cons.2 ⟨fnSound_of ok25, ?_⟩
  refine List.forall_mem_cons.2 ⟨fnSound_of ok26, ?_⟩
  refine List.forall_mem_cons.2 ⟨fnSound_of ok27, ?_⟩
  refine List.forall_mem_cons.2 ⟨fnSound_of ok28, ?_⟩
  refine List.forall_mem_cons.2 ⟨fnSound_of ok29, ?_⟩
  refine List.forall_mem_cons.2 ⟨fnSound_of ok30, ?_⟩
  refine List.forall_mem_cons.2 ⟨fnSound_of ok32, ?_⟩
  refine List.forall_mem_cons.2 ⟨fnSound_of ok33, ?_⟩
  refine List.forall_mem_cons.2 ⟨fnSound_of ok36, ?_⟩
  refine List.forall_mem_cons.2 ⟨fnSound_of ok45, ?_⟩
  refine List.forall_mem_cons.2 ⟨fnSound_of ok46, ?_⟩
  refine List.forall_mem_cons.2 ⟨fnSound_of ok47, ?_⟩
  refine List.forall_mem_cons.2 ⟨prim48, ?_⟩
  refine List.forall_mem_cons.2 ⟨fnSound_of ok49, ?_⟩
  refine List.forall_mem_cons.2 ⟨fnSound_of ok50, ?_⟩
  refine List.forall_mem_cons.2 ⟨fnSound_of ok51, ?_⟩
  refine List.forall_mem_cons.2 ⟨fnSound_of ok52, ?_⟩
  refine List.forall_mem_cons.2 ⟨fnSound_of ok53, ?_⟩
  refine List.forall_mem_cons.2 ⟨fnSound_of ok54, ?_⟩
  refine List.forall_mem_cons.2 ⟨fnSound_of ok55, ?_⟩
  refine List.forall_mem_cons.2 ⟨fnSound_of ok56, ?_⟩
  refine List.forall_mem_cons.2 ⟨fnSound_of ok57, ?_⟩
  refine List.forall_mem_cons.2 ⟨fnSound_of ok58, ?_⟩
  refine List.forall_mem_cons.2 ⟨fnSound_of ok70, ?_⟩
  refine List.forall_mem_cons.2 ⟨fnSound_of ok71, ?_⟩
  refine List.forall_mem_cons.2 ⟨fnSound_of ok72, ?_⟩
  refine List.forall_mem_cons.2 ⟨fnSound_of ok75, ?_⟩
  refine List.forall_mem_cons.2 ⟨fnSound_of ok81, ?_⟩
  refine List.forall_mem_cons.2 ⟨prim82, ?_⟩
  simp
theorem T_ok : TOk Go.Proofs.Try.prog Γ0 T := tOk_of tab_ok
end Go.TA.Try
