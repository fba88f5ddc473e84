/- How the abstract machine is run on values that are not known whole: the equations, and how two ways become one again. -/
import Derived.Test.YtpomccmdhifdiaaLibA
set_option linter.unusedVariables false
namespace Go.TA
def bod (C : Calls') (d : List LOper) (o : LOper) (r : List LOper) (x : Option St) : Option St := x.bind fun s' => runD C (o :: d) r s'
section
variable {C : Calls'} {n : Nat} {s : St}
theorem bod_some (d : List LOper) (o : LOper) (r : List LOper) (s : St) : bod C d o r (some s) = runD C (o :: d) r s := rfl
theorem runOps_nil : runOps C [] s = some s := rfl
theorem runOps_cons (o : LOper) (r : List LOper) : runOps C (o :: r) s = bo C (stepOp C o s) r := rfl
theorem bo_some (s : St) (r : List LOper) : bo C (some s) r = runOps C r s := rfl
theorem bo_none (r : List LOper) : bo C none r = none := rfl
theorem bo_ite (c : Prop) [Decidable c] (x y : Option St) (r : List LOper) : bo C (if c then x else y) r = if c then bo C x r else bo C y r := by split <;> rfl
theorem be_some (v : AV) (s : St) (d : Option Nat) : be (some (v, s)) d = some (opt' s d v) := rfl
theorem be_none (d : Option Nat) : be none d = none := rfl
theorem be_ite (c : Prop) [Decidable c] (x y : Option (AV × St)) (d : Option Nat) : be (if c then x else y) d = if c then be x d else be y d := by split <;> rfl
theorem bn_some (s : St) (ts ks : List Nat) : bn (some s) ts ks = bn' (s.keep ts ks) := rfl
theorem bn_none (ts ks : List Nat) : bn none ts ks = none := rfl
theorem bn_ite (c : Prop) [Decidable c] (x y : Option St) (ts ks : List Nat) : bn (if c then x else y) ts ks = if c then bn x ts ks else bn y ts ks := by split <;> rfl
theorem bn'_some (s : St) : bn' (some s) = some (.normal, s) := rfl
theorem aexec_skip : aexec C n .skip s = some (.normal, s) := rfl
theorem aexec_region (ops : List LOper) (d : Bool) (ts ks : List Nat) : aexec C n (.region ops d ts ks) s = bn (runOps C ops s) ts ks := rfl
theorem aexec_draw (ops : List LOper) (ts ks : List Nat) : aexec C n (.draw ops ts ks) s = bn (runD C [] ops s) ts ks := rfl
theorem runD_nil (d : List LOper) : runD C d [] s = some s := rfl
theorem runD_cons' (d : List LOper) (o : LOper) (r : List LOper) : runD C d (o :: r) s = bod C d o r (stepD C d o s) := rfl
theorem aexec_seq (a b : LCode) : aexec C n (.seq a b) s = bs C n (aexec C n a s) b := rfl
theorem aexec_block (id : Nat) (c : LCode) : aexec C n (.block id c) s = bb (aexec C n c s) id := rfl
theorem aexec_loop (c : LCode) : aexec C n (.loop c) s = aloop C n c n s := rfl
theorem aexec_exit (id : Nat) : aexec C n (.exit id) s = some (.exit id, s) := rfl
theorem aexec_ret : aexec C n .ret s = some (.ret, s) := rfl
theorem aexec_scope (c : LCode) : aexec C n (.scope c) s = aexec C n c s := rfl
theorem aexec_keep (ts ks : List Nat) (c : LCode) : aexec C n (.keep ts ks c) s = bkp C n (s.keep ts ks) c := rfl
theorem aexec_cond (c : LOpd) (a b : LCode) : aexec C n (.cond c a b) s = condK C n s c a b (s.arg c) := rfl
theorem condK_bool (c : LOpd) (a b : LCode) (x : Bool) : condK C n s c a b (.p (.bool x)) = if x = true then aexec C n a (s.know c true) else aexec C n b (s.know c false) := rfl
theorem bs_normal (s : St) (b : LCode) : bs C n (some (.normal, s)) b = aexec C n b s := rfl
theorem bs_ret (s : St) (b : LCode) : bs C n (some (.ret, s)) b = some (.ret, s) := rfl
theorem bs_exit (i : Nat) (s : St) (b : LCode) : bs C n (some (.exit i, s)) b = some (.exit i, s) := rfl
theorem bs_none (b : LCode) : bs C n none b = none := rfl
theorem bs_ite (c : Prop) [Decidable c] (x y : Option (Ex × St)) (b : LCode) : bs C n (if c then x else y) b = if c then bs C n x b else bs C n y b := by split <;> rfl
theorem bkp_some (s : St) (b : LCode) : bkp C n (some s) b = aexec C n b s := rfl
theorem bb_normal (s : St) (id : Nat) : bb (some (.normal, s)) id = some (.normal, s) := rfl
theorem bb_ret (s : St) (id : Nat) : bb (some (.ret, s)) id = some (.ret, s) := rfl
theorem bb_exit (i : Nat) (s : St) (id : Nat) : bb (some (.exit i, s)) id = if i = id then some (.normal, s) else some (.exit i, s) := rfl
theorem bb_none (id : Nat) : bb none id = none := rfl
theorem bb_ite (c : Prop) [Decidable c] (x y : Option (Ex × St)) (id : Nat) : bb (if c then x else y) id = if c then bb x id else bb y id := by split <;> rfl
theorem aloop_succ (c : LCode) (m : Nat) : aloop C n c (m + 1) s = bl C n c m (aexec C n c s) := rfl
theorem bl_normal (c : LCode) (m : Nat) (s : St) : bl C n c m (some (.normal, s)) = aloop C n c m s := rfl
theorem bl_ret (c : LCode) (m : Nat) (s : St) : bl C n c m (some (.ret, s)) = some (.ret, s) := rfl
theorem bl_exit (c : LCode) (m i : Nat) (s : St) : bl C n c m (some (.exit i, s)) = some (.exit i, s) := rfl
theorem bl_none (c : LCode) (m : Nat) : bl C n c m none = none := rfl
theorem bl_ite (c : Prop) [Decidable c] (x y : Option (Ex × St)) (b : LCode) (m : Nat) : bl C n b m (if c then x else y) = if c then bl C n b m x else bl C n b m y := by split <;> rfl
theorem br_ret (F : LFunc) (s : St) : br C F (some (.ret, s)) = rr (resultsOf C F s) s.g := rfl
theorem br_normal (F : LFunc) (s : St) : br C F (some (.normal, s)) = rr (resultsOf C F s) s.g := rfl
theorem br_none (F : LFunc) : br C F none = none := rfl
theorem br_ite (F : LFunc) (c : Prop) [Decidable c] (x y : Option (Ex × St)) : br C F (if c then x else y) = if c then br C F x else br C F y := by split <;> rfl
theorem rr_some (r : AV) (g : List AObj) : rr (some r) g = some (r, g) := rfl
end
section
variable {T : Nat → Option LFn} {n f : Nat} {F : LFunc} {args : List AV} {g : List AObj} {C : Calls'}
theorem acall_code (h : T f = some (.code F)) : acall T (n + 1) f args g = runFn (acall T n) n F args g := by rw [acall, h]; rfl
theorem acall_prim {p : Calls' → List AV → List AObj → Option (AV × List AObj)} (h : T f = some (.prim p)) : acall T (n + 1) f args g = p (acall T n) args g := by rw [acall, h]; rfl
/-- A result, beside what is shared. -/
def rg (x : Option (AV × List AObj)) (g : List AObj) : Option (AV × List AObj) := x.map fun r => (r.1, g)
theorem rg_some (r : AV) (g0 g : List AObj) : rg (some (r, g0)) g = some (r, g) := rfl
theorem rg_none (g : List AObj) : rg none g = none := rfl
theorem rg_ite (c : Prop) [Decidable c] (x y : Option (AV × List AObj)) : rg (if c then x else y) g = if c then rg x g else rg y g := by split <;> rfl
theorem run_pure (hp : F.pure = true) (hl : args.length = F.nparams) (ha : args.all pureArg = true) : runFn C n F args g = rg (br C F (aexec C n F.body (enterSt args []))) g := by
  unfold runFn; rw [if_pos hl, if_pos hp, if_pos ha]; rfl
theorem run_code (hp : F.pure = false) (hl : args.length = F.nparams) : runFn C n F args g = br C F (aexec C n F.body (enterSt args g)) := by
  unfold runFn; rw [if_pos hl, hp, if_neg (by simp)]
end
section
variable {c : Prop} [Decidable c]
theorem m_none {α : Type} : (if c then (none : Option α) else none) = none := by split <;> rfl
theorem m_some (e : Ex) (a b : St) : (if c then some (e, a) else some (e, b)) = some (e, if c then a else b) := by split <;> rfl
theorem m_st (f f' l l' g g') : (if c then (⟨f, l, g⟩ : St) else ⟨f', l', g'⟩) = ⟨if c then f else f', if c then l else l', if c then g else g'⟩ := by split <;> rfl
theorem m_fr (t : Nat) (a b : AV) (l m : List (Nat × AV)) : (if c then (t, a) :: l else (t, b) :: m) = (t, if c then a else b) :: (if c then l else m) := by split <;> rfl
theorem m_lo (t : Nat) (a b : AObj) (l m : List (Nat × AObj)) : (if c then (t, a) :: l else (t, b) :: m) = (t, if c then a else b) :: (if c then l else m) := by split <;> rfl
theorem m_p (a b : PV) : (if c then AV.p a else AV.p b) = .p (if c then a else b) := by split <;> rfl
theorem m_own (z : Bool) (k a b : Nat) : (if c then AV.own z k a else AV.own z k b) = .own z k (if c then a else b) := by split <;> rfl
theorem m_bool (a b : Bool) : (if c then PV.bool a else PV.bool b) = .bool (if c then a else b) := by split <;> rfl
theorem m_int (k : IntKind) (a b : Int) : (if c then PV.int k a else PV.int k b) = .int k (if c then a else b) := by split <;> rfl
theorem m_str (a b : List UInt8) : (if c then PV.str a else PV.str b) = .str (if c then a else b) := by split <;> rfl
theorem m_list (a b : List (List PV)) : (if c then PV.list a else PV.list b) = .list (if c then a else b) := by split <;> rfl
theorem m_pcells (k : Nat) (a b : List (List PV)) : (if c then AObj.pcells k a else AObj.pcells k b) = .pcells k (if c then a else b) := by split <;> rfl
theorem m_length {α : Type} (a b : List α) : (if c then a else b).length = if c then a.length else b.length := by split <;> rfl
theorem m_and (x y : Bool) : (if x = true then y else false) = (x && y) := by cases x <;> rfl
theorem m_or (x y : Bool) : (if x = true then true else y) = (x || y) := by cases x <;> rfl
theorem seq_b (a b : Bool) : scalarEqK 0 (.bool a) (.bool b) = some (a == b) := rfl
theorem seq_i (k : IntKind) (a b : Int) : scalarEqK 1 (.int k a) (.int k b) = some (a == b) := by simp [scalarEqK]
theorem seq_s (a b : List UInt8) : scalarEqK 2 (.str a) (.str b) = some (a == b) := rfl
end
end Go.TA
