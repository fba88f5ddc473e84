/- Part 11 of 15 of a proof; joined from InsAttr, ValidTab, ValidNames, ValidRef13, ValidFormed, ValidNames02, ValidCmp, ValidAttrs09. What is wrong with attributes: the document's answer. -/
import Derived.Test.YtnjblmbobmbgkaaDoorKe10
import Derived.Test.YtnjblmbobmbgkaaDoorProg
import Derived.Shelf.Spec.SlicesInsert
import Derived.Shelf.Spec.SlicesInsertGrow
import Derived.Test.YtnjblmbobmbgkaaDoorKe8
import Derived.Test.YtnjblmbobmbgkaaDoorKe9
import Derived.Test.YtnjblmbobmbgkaaDoorKe6
import Derived.KernelRfl
import Derived.Test.YtnjblmbobmbgkaaDoorShelfItoa
import Derived.Test.YtnjblmbobmbgkaaDoorShelfinternalstringsliteIndexByte
import Derived.Test.YtnjblmbobmbgkaaDoorShelfstringsIndexByte
import Derived.Test.YtnjblmbobmbgkaaDoorKe1
section
set_option linter.unusedSimpArgs false
set_option linter.unusedVariables false
/- slices.Insert at api.Attr: its roads, and what it is. -/
set_option linter.unusedVariables false
set_option linter.unusedSimpArgs false
namespace Go.TA.Tryd
open Go.Shelf Go.RowKit Go.Lib Go.Proofs
def zeroA : Value := .agg #[.string ⟨#[]⟩, .string ⟨#[]⟩]
set_option maxHeartbeats 4000000 in
set_option maxRecDepth 100000 in
theorem ins_shiftA (b n c i vb voff m vc : Nat) (cs vs : List Value) (w : World) (hi : i < n) (hm : 0 < m) (hroom : n + m ≤ c) (hc63 : c ≤ 9223372036854775807) (hvb : vb ≠ b)
    (hcl : cs.length = n * 2) (hvl : vs.length = m * 2)
    (hcs : ∀ j v, cs[j]? = some v → w.cell? ⟨b, j, none⟩ = some v) (hsp : ∀ j, j < (n + m) * 2 → (w.cell? ⟨b, j, none⟩).isSome = true) (hfz : ∀ j, j < (n + m) * 2 → w.frozen? ⟨b, j, none⟩ = false)
    (hvs : ∀ j v, vs[j]? = some v → w.cell? ⟨vb, voff + j, none⟩ = some v) (h1c : ∀ v ∈ cs, v.oneCell' = true) (h1v : ∀ v ∈ vs, v.oneCell' = true)
    (tA tB : TypeId) (kA kB : Nat) (hsa : w.shape? vb = some (tA, kA)) (hsb : w.shape? b = some (tB, kB)) (hkA : kA ≠ 0) (hfb : ∀ j, w.frozen? ⟨b, j, none⟩ = false) :
    Calls Go.Proofs.Tryd.prog 73 #[.slice (some ⟨b, 0, none⟩) n c, .int .i64 i, .slice (some ⟨vb, voff, none⟩) m vc] w fun e w' =>
      e = .returned (.slice (some ⟨b, 0, none⟩) (n + m) c) ∧ w' = (w.drew.setCells b ((i + m) * 2) (cs.drop (i * 2))).setCells b (i * 2) vs := by
  have mixed : Go.Proofs.Tryd.prog.follows .mixedOrders = true := by kernel_rfl
  have hz1 : ¬ ((m : Int) = 0) := by omega
  have hz2 : ¬ ((i : Int) = (n : Int)) := by omega
  have hov : ∀ lb cb, (callFunc 83 #[.slice (some ⟨vb, voff, none⟩) m vc, .slice (some ⟨b, (i + m) * 2, none⟩) lb cb]).run Go.Proofs.Tryd.prog w = .ok (.value (.bool false)) w := fun lb cb => by
    rw [run_callFunc_extern Tryd.func83 (by kernel_rfl) (by kernel_rfl) (by kernel_rfl) (e := Extern.SlicesOverlaps.overlaps #[35, 35] #[4]) (by kernel_rfl),
      run_overlaps_own w 35 4 48 Tryd.underlying35 2 (fun w => by kernel_rfl) ⟨vb, voff, none⟩ ⟨b, (i + m) * 2, none⟩ m vc lb cb hvb tA tB kA kB hsa hsb hkA (hfb _) (hfb _)]
    rfl
  have hsz : (Go.Proofs.Tryd.prog.info? 48).map (·.size) = some 2 := by kernel_rfl
  have hw1 : IntKind.i64.wrap ((i : Int) + (m : Int)) = (i : Int) + (m : Int) := by rw [IntKind.wrap_i64]; omega
  have hb1 : (0 : Int) ≤ (i : Int) + (m : Int) := by omega
  have hin : i ≤ n := by omega
  have htn : ((i : Int) + (m : Int)).toNat = i + m := by omega
  have hb2 : ¬ (c = i + m) := by omega
  have hb3 : (i : Int) ≤ (n : Int) + (m : Int) := by omega
  have hb4 : ¬ (c = i) := by omega
  have hdl : (cs.drop (i * 2)).length = (n - i) * 2 := by rw [List.length_drop]; omega
  have hcp1 : ∀ ty dc sc, (Builtin.copy_ #[35, 35] ty #[.slice (some ⟨b, (i + m) * 2, none⟩) (n + m - (i + m)) dc, .slice (some ⟨b, i * 2, none⟩) (n + m - i) sc]).run Go.Proofs.Tryd.prog w.drew = .ok (goInt (Nat.min (n + m - i) (n + m - (i + m)))) (w.drew.setCells b ((i + m) * 2) (cs.drop (i * 2))) := fun ty dc sc =>
    run_copy_k w.drew _ _ ty 48 2 b ((i + m) * 2) (n + m - (i + m)) dc ⟨b, i * 2, none⟩ (n + m - i) sc (cs.drop (i * 2)) Tryd.underlying35 hsz (by rw [hdl]; simp only [Nat.min_def]; split <;> omega)
      (fun j v hj => by rw [Addr.add_lit]; exact hcs (i * 2 + j) v (by rwa [List.getElem?_drop] at hj))
      (fun j hj => hsp _ (by omega)) (fun j hj => hfz _ (by omega)) (fun v hv => h1c v (List.mem_of_mem_drop hv))
  obtain ⟨W1, hW1⟩ : ∃ W1, W1 = w.drew.setCells b ((i + m) * 2) (cs.drop (i * 2)) := ⟨_, rfl⟩
  have hsp1 : ∀ k, k < (n + m) * 2 → (W1.cell? ⟨b, k, none⟩).isSome = true := fun k hk => by
    rw [hW1]
    exact isSome_setCells b (cs.drop (i * 2)) ((i + m) * 2) w.drew (fun j hj => hsp ((i + m) * 2 + j) (by rw [hdl] at hj; omega)) k (hsp k hk)
  have hcp2 : ∀ (W : World), (∀ x, W.cell? x = W1.cell? x) → (∀ x, W.frozen? x = W1.frozen? x) → ∀ ty dc, (Builtin.copy_ #[35, 35] ty #[.slice (some ⟨b, i * 2, none⟩) (n + m - i) dc, .slice (some ⟨vb, voff, none⟩) m vc]).run Go.Proofs.Tryd.prog W = .ok (goInt (Nat.min m (n + m - i))) (W.setCells b (i * 2) vs) := fun W hWc hWf ty dc =>
    run_copy_k W _ _ ty 48 2 b (i * 2) (n + m - i) dc ⟨vb, voff, none⟩ m vc vs Tryd.underlying35 hsz (by rw [hvl]; simp only [Nat.min_def]; split <;> omega)
      (fun j v hj => by
        rw [Addr.add_lit, hWc, hW1, World.cell?_setCells_out b _ _ _ _ (fun h _ => absurd h hvb)]
        exact hvs j v hj)
      (fun j hj => by rw [hWc]; exact hsp1 _ (by omega)) (fun j hj => by rw [hWf, hW1, World.frozen?_setCells]; exact hfz _ (by omega)) h1v
  rw [← hW1] at hcp1
  go_enter Tryd.func73, Tryd.ntmps73
  go_wp2_with (simp only [hov])
  go_region_law_o (refine step_copy_runI rfl _ _ 35 35 rfl _ _ (by simp [Act.eval, Act.put]) (by simp [Act.eval, Act.put]) (hcp1 _ _ _) ?_)
  go_wp2_with (at_builtin; refine wpList_copy_runI _ rfl _ _ 35 35 rfl _ _ rfl rfl (hcp2 _ (fun _ => rfl) (fun _ => rfl) _ _) ?_)
  go_ret
  first | exact ⟨rfl, rfl⟩ | exact ⟨rfl, by rw [hW1]⟩
set_option maxHeartbeats 4000000 in
set_option maxRecDepth 100000 in
theorem ins_end_roomA (b n c vb voff m vc : Nat) (vs : List Value) (w : World) (hm : 0 < m) (hroom : n + m ≤ c) (hc63 : c ≤ 9223372036854775807) (hvl : vs.length = m * 2)
    (hsp : ∀ j, j < m * 2 → (w.cell? ⟨b, n * 2 + j, none⟩).isSome = true) (hfz : ∀ j, j < m * 2 → w.frozen? ⟨b, n * 2 + j, none⟩ = false)
    (hvs : ∀ j v, vs[j]? = some v → w.cell? ⟨vb, voff + j, none⟩ = some v) (h1v : ∀ v ∈ vs, v.oneCell' = true) :
    Calls Go.Proofs.Tryd.prog 73 #[.slice (some ⟨b, 0, none⟩) n c, .int .i64 n, .slice (some ⟨vb, voff, none⟩) m vc] w fun e w' =>
      e = .returned (.slice (some ⟨b, 0, none⟩) (n + m) c) ∧ w' = w.setCells b (n * 2) vs := by
  have mixed : Go.Proofs.Tryd.prog.follows .mixedOrders = true := by kernel_rfl
  have hz1 : ¬ ((m : Int) = 0) := by omega
  obtain ⟨i0, hi0, hs0⟩ : ∃ i, Go.Proofs.Tryd.prog.info? 48 = some i ∧ i.size = 2 := ⟨_, rfl, rfl⟩
  have hsrc : Src Go.Proofs.Tryd.prog i0.size 35 (.slice (some ⟨vb, voff, none⟩) m vc) m vs w := Src.ofSlice w Tryd.underlying35 ⟨vb, voff, none⟩ m vc vs (by rw [hs0]; omega) (fun j u hj => by rw [Addr.add_lit]; exact hvs j u hj) h1v
  go_enter Tryd.func73, Tryd.ntmps73
  go_wp2_with (at_builtin; refine wpList_append_room_src _ rfl _ _ 35 35 rfl 48 i0 Tryd.underlying35 hi0 b 0 n c rfl _ rfl m vs hsrc hroom (by rw [hs0, Nat.zero_add, hvl]; first | exact hsp | simpa using hsp) (by rw [hs0, Nat.zero_add, hvl]; first | exact hfz | simpa using hfz) ?_)
  go_ret
  first | exact ⟨rfl, rfl⟩ | exact ⟨rfl, by rw [hs0, Nat.zero_add]⟩ | exact ⟨rfl, by rw [hs0, Nat.zero_add, Nat.mul_one]⟩
set_option maxHeartbeats 4000000 in
set_option maxRecDepth 100000 in
theorem ins_end_growA (base : Option Addr) (n c vb voff m vc : Nat) (cs vs : List Value) (w : World) (hm : 0 < m) (hnc : n ≤ c) (hroom : c < n + m) (hbig : (n + m) * 32 ≤ 140737488355328)
    (hcl : cs.length = n * 2) (hvl : vs.length = m * 2) (hnil : base = none → n = 0)
    (hcs : ∀ a, base = some a → ∀ j v, cs[j]? = some v → w.cell? (a.add j) = some v)
    (hvs : ∀ j v, vs[j]? = some v → w.cell? ⟨vb, voff + j, none⟩ = some v) (h1v : ∀ v ∈ vs, v.oneCell' = true) :
    Calls Go.Proofs.Tryd.prog 73 #[.slice base n c, .int .i64 n, .slice (some ⟨vb, voff, none⟩) m vc] w fun e w' =>
      e = .returned (.slice (some ⟨w.heap.size, 0, none⟩) (n + m) (grownCap w (n + m) c 48)) ∧
      w' = w.drew.alloc (.cells ((cs ++ vs).toArray ++ Builtin.zeroCells zeroA.cells (grownCap w (n + m) c 48 - (n + m))) 48) := by
  have mixed : Go.Proofs.Tryd.prog.follows .mixedOrders = true := by kernel_rfl
  have hz1 : ¬ ((m : Int) = 0) := by omega
  obtain ⟨i0, hi0, hs0, hz0, hb0⟩ : ∃ i, Go.Proofs.Tryd.prog.info? 48 = some i ∧ i.size = 2 ∧ i.zero = some zeroA ∧ i.bytes = 32 := ⟨_, rfl, rfl, rfl, rfl⟩
  have hsrc : Src Go.Proofs.Tryd.prog i0.size 35 (.slice (some ⟨vb, voff, none⟩) m vc) m vs w := Src.ofSlice w Tryd.underlying35 ⟨vb, voff, none⟩ m vc vs (by rw [hs0]; omega) (fun j u hj => by rw [Addr.add_lit]; exact hvs j u hj) h1v
  have hold : (Builtin.firstCells i0.size n (.slice base n c)).run Go.Proofs.Tryd.prog w.drew = .ok cs.toArray w.drew := by
    rw [hs0]
    cases base with
    | none =>
      have h0 := hnil rfl
      subst h0
      have hc0 : cs = [] := List.length_eq_zero_iff.1 (by simpa using hcl)
      rw [hc0]
      exact run_firstCells_none w.drew 2 0 0 c
    | some a => exact run_firstCells_some w.drew 2 n a n c cs (by omega) (fun j v hj => hcs a rfl j v hj)
  have hrun : ∀ ty, (Builtin.append_ #[35, 35] ty #[.slice base n c, .slice (some ⟨vb, voff, none⟩) m vc]).run Go.Proofs.Tryd.prog w = _ := fun ty =>
    run_append_grow_src w 35 35 ty 48 i0 zeroA Tryd.underlying35 hi0 hz0 base n c cs hold _ m vs hsrc hroom (by omega) (by rw [hb0]; exact growslice_fits hroom hbig)
  go_enter Tryd.func73, Tryd.ntmps73
  cases base with
  | none =>
    have h0 := hnil rfl
    subst h0
    go_wp2_with (at_builtin; refine Lib.wpList_append_run _ rfl _ _ _ _ rfl _ _ rfl rfl _ _ (hrun _) ?_)
    go_ret
    exact ⟨rfl, rfl⟩
  | some a =>
    obtain ⟨ab, ao, asp⟩ := a
    go_wp2_with (at_builtin; refine Lib.wpList_append_run _ rfl _ _ _ _ rfl _ _ rfl rfl _ _ (hrun _) ?_)
    all_goals (go_ret; exact ⟨rfl, rfl⟩)
set_option maxHeartbeats 4000000 in
set_option maxRecDepth 100000 in
theorem ins_growA (b n c i vb voff m vc : Nat) (cs vs : List Value) (w : World) (hi : i < n) (hm : 0 < m) (hnc : n ≤ c) (hroom : c < n + m) (hbig : (n + m) * 32 ≤ 140737488355328)
    (hcl : cs.length = n * 2) (hvl : vs.length = m * 2)
    (hcs : ∀ j v, cs[j]? = some v → w.cell? ⟨b, j, none⟩ = some v)
    (hvs : ∀ j v, vs[j]? = some v → w.cell? ⟨vb, voff + j, none⟩ = some v) (h1c : ∀ v ∈ cs, v.oneCell' = true) (h1v : ∀ v ∈ vs, v.oneCell' = true) :
    Calls Go.Proofs.Tryd.prog 73 #[.slice (some ⟨b, 0, none⟩) n c, .int .i64 i, .slice (some ⟨vb, voff, none⟩) m vc] w fun e w' =>
      e = .returned (.slice (some ⟨w.heap.size, 0, none⟩) (n + m) (grownCap w (n + m) c 48)) ∧
      w' = (((w.alloc (.cells ((cs.take (i * 2)).toArray ++ Builtin.zeroCells zeroA.cells (n + m - i) ++ Builtin.zeroCells zeroA.cells (grownCap w (n + m) c 48 - (n + m))) 48)).drew.setCells w.heap.size (i * 2) vs).drew).setCells w.heap.size ((i + m) * 2) (cs.drop (i * 2)) := by
  have mixed : Go.Proofs.Tryd.prog.follows .mixedOrders = true := by kernel_rfl
  obtain ⟨i0, hi0, hzs, hz0, hzb⟩ : ∃ i, Go.Proofs.Tryd.prog.info? 48 = some i ∧ i.size = 2 ∧ i.zero = some zeroA ∧ i.bytes = 32 := ⟨_, rfl, rfl, rfl, rfl⟩
  have hz1 : ¬ ((m : Int) = 0) := by omega
  have hz2 : ¬ ((i : Int) = (n : Int)) := by omega
  have hz3 : (c : Int) < (n : Int) + (m : Int) := by omega
  have hsz : (Go.Proofs.Tryd.prog.info? 48).map (·.size) = some 2 := by kernel_rfl
  have hbw : b < w.heap.size := block_lt_of_cell (hcs 0 _ (List.getElem?_eq_getElem (by omega)))
  have hvw : vb < w.heap.size := block_lt_of_cell (hvs 0 _ (List.getElem?_eq_getElem (by omega)))
  have hkk : (n : Int) + (m : Int) - (i : Int) = ((n + m - i : Nat) : Int) := by omega
  have hik : i + (n + m - i) = n + m := by omega
  have hold : (Builtin.firstCells i0.size i (.slice (some ⟨b, 0, none⟩) i c)).run Go.Proofs.Tryd.prog w.drew = .ok (cs.take (i * 2)).toArray w.drew := by
    rw [hzs]
    exact run_firstCells_some w.drew 2 i ⟨b, 0, none⟩ i c (cs.take (i * 2)) (by rw [List.length_take]; omega) (fun j v hj => by
      rw [Addr.add_lit, Nat.zero_add]
      rw [List.getElem?_take] at hj
      split at hj
      · exact hcs j v hj
      · cases hj)
  have hrz : ∀ ty, (Builtin.append_ #[35, 3] ty #[.slice (some ⟨b, 0, none⟩) i c, .int .i64 ((n : Int) + (m : Int) - (i : Int))]).run Go.Proofs.Tryd.prog w =
      .ok (.slice (some ⟨w.heap.size, 0, none⟩) (n + m) (grownCap w (n + m) c 48)) (w.drew.alloc (.cells ((cs.take (i * 2)).toArray ++ Builtin.zeroCells zeroA.cells (n + m - i) ++ Builtin.zeroCells zeroA.cells (grownCap w (n + m) c 48 - (n + m))) 48)) := fun ty => by
    have h := Lib.run_append_grow_zeros w 35 3 ty 48 i0 zeroA .i64 .i64 Tryd.underlying35 Tryd.underlying3 hi0 hz0 (some ⟨b, 0, none⟩) i c (cs.take (i * 2)) hold (n + m - i) (by omega) (by omega) (by omega) (by omega) (by rw [hzb]; omega) (by rw [hzb, hik]; exact growslice_fits hroom hbig)
    rw [hik] at h
    rw [hkk]
    exact h
  obtain ⟨G, hG⟩ : ∃ G, G = grownCap w (n + m) c 48 := ⟨_, rfl⟩
  obtain ⟨ROW, hROW⟩ : ∃ ROW : Array Value, ROW = (cs.take (i * 2)).toArray ++ Builtin.zeroCells zeroA.cells (n + m - i) ++ Builtin.zeroCells zeroA.cells (G - (n + m)) := ⟨_, rfl⟩
  rw [← hG] at hrz ⊢
  rw [← hROW] at hrz ⊢
  have hRl : (n + m) * 2 ≤ ROW.size := by
    rw [hROW]
    simp [Builtin.zeroCells, Value.cells, zeroA]
    omega
  obtain ⟨W1, hW1⟩ : ∃ W1, W1 = w.drew.alloc (.cells ROW 48) := ⟨_, rfl⟩
  rw [← hW1] at hrz
  have hN : ∀ j, j < (n + m) * 2 → (W1.cell? ⟨w.heap.size, j, none⟩).isSome = true := fun j hj => by
    rw [hW1, World.cell?_alloc_at (w := w.drew) ROW _ w.heap.size j rfl, Array.getElem?_eq_getElem (by omega)]; rfl
  have hNf : ∀ j, W1.frozen? ⟨w.heap.size, j, none⟩ = false := fun j => by rw [hW1]; exact World.frozen?_alloc_at (w := w.drew) ROW _ w.heap.size j rfl
  have hOb : ∀ j v, w.cell? ⟨b, j, none⟩ = some v → W1.cell? ⟨b, j, none⟩ = some v := fun j v h => by rw [hW1, World.cell?_alloc_past (w := w.drew) _ b j hbw]; exact h
  have hOv : ∀ j v, w.cell? ⟨vb, voff + j, none⟩ = some v → W1.cell? ⟨vb, voff + j, none⟩ = some v := fun j v h => by rw [hW1, World.cell?_alloc_past (w := w.drew) _ vb (voff + j) hvw]; exact h
  have hcpA : ∀ (W : World), (∀ x, W.cell? x = W1.cell? x) → (∀ x, W.frozen? x = W1.frozen? x) → ∀ ty dc, (Builtin.copy_ #[35, 35] ty #[.slice (some ⟨w.heap.size, i * 2, none⟩) (n + m - i) dc, .slice (some ⟨vb, voff, none⟩) m vc]).run Go.Proofs.Tryd.prog W = .ok (goInt (Nat.min m (n + m - i))) (W.setCells w.heap.size (i * 2) vs) := fun W hWc hWf ty dc =>
    run_copy_k W _ _ ty 48 2 w.heap.size (i * 2) (n + m - i) dc ⟨vb, voff, none⟩ m vc vs Tryd.underlying35 hsz (by rw [hvl]; simp only [Nat.min_def]; split <;> omega)
      (fun j v hj => by rw [Addr.add_lit, hWc]; exact hOv _ v (hvs j v hj))
      (fun j hj => by rw [hWc]; exact hN _ (by omega)) (fun j hj => by rw [hWf]; exact hNf _) h1v
  have hGn : n + m ≤ G := by rw [hG]; exact grownCap_ge w _ _ _
  have hG63 : G ≤ 9223372036854775807 := by
    have := grownCap_le_maxLen w (n + m) c 48 (by unfold maxLen; omega)
    rw [← hG] at this
    unfold maxLen at this
    omega
  have hGi : ¬ (G = i) := by omega
  have hGim : ¬ (G = i + m) := by omega
  have hci : ¬ (c = i) := by omega
  have hbN : b ≠ w.heap.size := by omega
  have hdl : (cs.drop (i * 2)).length = (n - i) * 2 := by rw [List.length_drop]; omega
  have hcpB : ∀ (W : World), (∀ x, W.cell? x = (W1.setCells w.heap.size (i * 2) vs).cell? x) → (∀ x, W.frozen? x = (W1.setCells w.heap.size (i * 2) vs).frozen? x) → ∀ ty dc sc, (Builtin.copy_ #[35, 35] ty #[.slice (some ⟨w.heap.size, (i + m) * 2, none⟩) (n + m - (i + m)) dc, .slice (some ⟨b, i * 2, none⟩) (n - i) sc]).run Go.Proofs.Tryd.prog W = .ok (goInt (Nat.min (n - i) (n + m - (i + m)))) (W.setCells w.heap.size ((i + m) * 2) (cs.drop (i * 2))) := fun W hWc hWf ty dc sc =>
    run_copy_k W _ _ ty 48 2 w.heap.size ((i + m) * 2) (n + m - (i + m)) dc ⟨b, i * 2, none⟩ (n - i) sc (cs.drop (i * 2)) Tryd.underlying35 hsz (by rw [hdl]; simp only [Nat.min_def]; split <;> omega)
      (fun j v hj => by
        rw [Addr.add_lit, hWc, World.cell?_setCells_out _ _ _ _ _ (fun h _ => absurd h hbN)]
        exact hOb _ v (hcs (i * 2 + j) v (by rwa [List.getElem?_drop] at hj)))
      (fun j hj => by rw [hWc]; exact isSome_setCells _ vs (i * 2) W1 (fun t ht => hN _ (by omega)) _ (hN _ (by omega)))
      (fun j hj => by rw [hWf, World.frozen?_setCells]; exact hNf _) (fun v hv => h1c v (List.mem_of_mem_drop hv))
  subst hW1
  have hE1 : ∀ x, ((w.alloc (.cells ROW 48)).drew).cell? x = (w.drew.alloc (.cells ROW 48)).cell? x := fun x => rfl
  have hE2 : ∀ x, ((w.alloc (.cells ROW 48)).drew).frozen? x = (w.drew.alloc (.cells ROW 48)).frozen? x := fun x => rfl
  have hF1 : ∀ x, (((w.alloc (.cells ROW 48)).drew.setCells w.heap.size (i * 2) vs).drew).cell? x = ((w.drew.alloc (.cells ROW 48)).setCells w.heap.size (i * 2) vs).cell? x := fun x => rfl
  have hF2 : ∀ x, (((w.alloc (.cells ROW 48)).drew.setCells w.heap.size (i * 2) vs).drew).frozen? x = ((w.drew.alloc (.cells ROW 48)).setCells w.heap.size (i * 2) vs).frozen? x := fun x => rfl
  have hw1 : IntKind.i64.wrap ((i : Int) + (m : Int)) = (i : Int) + (m : Int) := by rw [IntKind.wrap_i64]; omega
  have hb1 : (0 : Int) ≤ (i : Int) + (m : Int) := by omega
  have hin : i ≤ n := by omega
  have htn : ((i : Int) + (m : Int)).toNat = i + m := by omega
  have hb3 : (i : Int) ≤ (n : Int) := by omega
  clear hkk hik hold hROW hG hRl
  go_enter Tryd.func73, Tryd.ntmps73
  go_wp2_with (first
    | (at_builtin; refine Lib.wpList_append_run _ rfl _ _ _ _ rfl _ _ rfl rfl _ _ (hrz _) ?_)
    | (at_builtin; refine wpList_copy_runI _ rfl _ _ 35 35 rfl _ _ rfl rfl (hcpA _ hE1 hE2 _ _) ?_)
    | (at_builtin; refine wpList_copy_runI _ rfl _ _ 35 35 rfl _ _ rfl rfl (hcpB _ (fun _ => rfl) (fun _ => rfl) _ _ _) ?_))
  go_region_law_o (refine step_copy_runI rfl _ _ 35 35 rfl (.slice (some ⟨w.heap.size, (i + m) * 2, none⟩) (n + m - (i + m)) (G - (i + m))) (.slice (some ⟨b, i * 2, none⟩) (n - i) (c - i)) (by simp [Act.eval, Act.put]) (by simp [Act.eval, Act.put]) (hcpB _ hF1 hF2 3 (G - (i + m)) (c - i)) ?_)
  go_wp2
  go_ret
  exact ⟨rfl, rfl⟩
theorem ins_specA : InsSpec Go.Proofs.Tryd.prog 73 2 := by
  unfold InsSpec
  intro A n cp i vb voff m vc cs vs w hi hm hnc hcm hbig hcl hvl h1c h1v hA hV
  have hvs : ∀ j v, vs[j]? = some v → w.cell? ⟨vb, voff + j, none⟩ = some v := hV
  obtain ⟨tA, kA, hsa, hkA⟩ := shape_of_cell (hvs 0 _ (List.getElem?_eq_getElem (by omega)))
  have hmax : maxLen = 9223372036854775807 := by decide
  by_cases hroom : n + m ≤ cp
  · rcases hA with ⟨h1, h2, h3⟩ | ⟨b, arr, e, rfl, hvb, hh, hsz, hcc⟩
    · omega
    have hcs : ∀ j v, cs[j]? = some v → w.cell? ⟨b, j, none⟩ = some v := fun j v h => (cell_of_row w b j arr e (0, 0) hh).trans (hcc j v h)
    have hbw : b < w.heap.size := (Array.getElem?_eq_some_iff.1 hh).1
    have hsp : ∀ j, j < (n + m) * 2 → (w.cell? ⟨b, j, none⟩).isSome = true := fun j hj => by rw [cell_of_row w b j arr e (0, 0) hh, Array.getElem?_eq_getElem (by omega)]; rfl
    have hfz : ∀ j, w.frozen? ⟨b, j, none⟩ = false := fun j => by simp [World.frozen?, hh]
    by_cases hin : i < n
    · refine Calls.mono (ins_shiftA b n cp i vb voff m vc cs vs w hin hm hroom (by omega) hvb hcl hvl hcs hsp (fun j _ => hfz j) hvs h1c h1v tA e kA arr.size hsa (by simp [World.shape?, hh]) hkA hfz) (fun e' w' he => ?_)
      obtain ⟨rfl, rfl⟩ := he
      refine ⟨b, cp, rfl, hroom, hcm, .inl ⟨_, rfl, rfl⟩, by rw [heap_lt_setCells, heap_lt_setCells]; exact hbw, Only.cells (.inl rfl) _ _ (Only.cells (.inl rfl) _ _ (Only.refl w _).drew), fun j v hj => ?_⟩
      have := shift_cells (a := i * 2) (w := w.drew) (b := b) (by omega) hcs (fun j hj => hsp j (by omega)) j v hj
      rw [hvl, show i * 2 + m * 2 = (i + m) * 2 by omega] at this
      exact this
    · have hin : i = n := by omega
      subst hin
      refine Calls.mono (ins_end_roomA b i cp vb voff m vc vs w hm hroom (by omega) hvl (fun j hj => hsp _ (by omega)) (fun j _ => hfz _) hvs h1v) (fun e' w' he => ?_)
      obtain ⟨rfl, rfl⟩ := he
      refine ⟨b, cp, rfl, hroom, hcm, .inl ⟨_, rfl, rfl⟩, by rw [heap_lt_setCells]; exact hbw, Only.cells (.inl rfl) _ _ (Only.refl w _), fun j v hj => ?_⟩
      rw [← hcl] at hj ⊢
      exact end_cells hcs (fun j hj => hsp j (by omega)) j v hj
  · have hge := grownCap_ge w (n + m) cp 48
    have hcm2 := grownCap_le_maxLen w (n + m) cp 48 (by omega)
    by_cases hin : i < n
    · rcases hA with ⟨h1, h2, h3⟩ | ⟨b, arr, e, rfl, hvb, hh, hsz, hcc⟩
      · omega
      have hcs : ∀ j v, cs[j]? = some v → w.cell? ⟨b, j, none⟩ = some v := fun j v h => (cell_of_row w b j arr e (0, 0) hh).trans (hcc j v h)
      refine Calls.mono (ins_growA b n cp i vb voff m vc cs vs w hin hm hnc (by omega) (by omega) hcl hvl hcs hvs h1c h1v) (fun e' w' he => ?_)
      obtain ⟨rfl, rfl⟩ := he
      generalize grownCap w (n + m) cp 48 = G at *
      obtain ⟨ROW, hROW⟩ : ∃ ROW : Array Value, ROW = (cs.take (i * 2)).toArray ++ Builtin.zeroCells zeroA.cells (n + m - i) ++ Builtin.zeroCells zeroA.cells (G - (n + m)) := ⟨_, rfl⟩
      have hRl : (n + m) * 2 ≤ ROW.size := by
        rw [hROW]
        simp [Builtin.zeroCells, Value.cells, zeroA]
        omega
      have hRt : ∀ j v, (cs.take (i * 2))[j]? = some v → ROW[j]? = some v := fun j v hj => by
        have hlt := (List.getElem?_eq_some_iff.1 hj).1
        rw [hROW, Array.getElem?_append_left (by simp at hlt ⊢; omega), Array.getElem?_append_left (by simpa using hlt)]
        simpa using hj
      rw [← hROW]
      have hN : ∀ j, (w.alloc (.cells ROW 48)).drew.cell? ⟨w.heap.size, j, none⟩ = ROW[j]? := fun j => World.cell?_alloc_at (w := w) ROW _ w.heap.size j rfl
      refine ⟨w.heap.size, G, rfl, hge, hcm2, .inr (Nat.le_refl _), by rw [heap_lt_setCells]; show w.heap.size < (World.setCells _ _ _ _).heap.size; rw [heap_lt_setCells]; show w.heap.size < (w.alloc _).heap.size; simp, Only.cells (.inr (Nat.le_refl _)) _ _ (Only.cells (.inr (Nat.le_refl _)) _ _ ((Only.refl w _).alloc _).drew).drew, fun j v hj => ?_⟩
      have := grow_cells (a := i * 2) (vs := vs) (w := (w.alloc (.cells ROW 48)).drew) (w' := ((w.alloc (.cells ROW 48)).drew.setCells w.heap.size (i * 2) vs).drew) (b := w.heap.size) (by omega) (fun j v hj => (hN j).trans (hRt j v hj)) (fun j hj => by rw [hN, Array.getElem?_eq_getElem (by omega)]; rfl) (fun _ => rfl) j v hj
      rw [hvl, show i * 2 + m * 2 = (i + m) * 2 by omega] at this
      exact this
    · have hin : i = n := by omega
      subst hin
      have hnil : A = none → i = 0 := fun h => by
        rcases hA with ⟨_, h2, _⟩ | ⟨b, arr, e, h2, _⟩
        · exact h2
        · rw [h2] at h; cases h
      have hcsA : ∀ a, A = some a → ∀ j v, cs[j]? = some v → w.cell? (a.add j) = some v := by
        intro a ha j v hj
        rcases hA with ⟨h, _⟩ | ⟨b, arr, e, h, hvb, hh, hsz, hcc⟩
        · rw [h] at ha; cases ha
        · rw [h] at ha; cases ha
          rw [Addr.add_lit, Nat.zero_add]
          exact (cell_of_row w b j arr e (0, 0) hh).trans (hcc j v hj)
      refine Calls.mono (ins_end_growA A i cp vb voff m vc cs vs w hm hnc (by omega) (by omega) hcl hvl hnil hcsA hvs h1v) (fun e' w' he => ?_)
      obtain ⟨rfl, rfl⟩ := he
      generalize grownCap w (i + m) cp 48 = G at *
      refine ⟨w.heap.size, G, rfl, hge, hcm2, .inr (Nat.le_refl _), by show w.heap.size < (w.drew.alloc _).heap.size; simp, ((Only.refl w _).drew).alloc _, fun j v hj => ?_⟩
      rw [← hcl, List.take_length, List.drop_length, List.append_nil] at hj
      have hlt := (List.getElem?_eq_some_iff.1 hj).1
      rw [World.cell?_alloc_at (w := w.drew) _ _ w.heap.size j rfl, Array.getElem?_append_left (by simpa using hlt)]
      simpa using hj
end Go.TA.Tryd


end
section
set_option linter.unusedSimpArgs false
set_option linter.unusedVariables false
/- The table of functions, and that it is sound. -/
set_option linter.unusedVariables false
set_option maxRecDepth 100000
namespace Go.TA.Tryd
theorem mixed : Go.Proofs.Tryd.prog.follows .mixedOrders = true := by kernel_rfl
def tab : List (Nat × LFn) := [(3, .code F3),
  (4, .code F4),
  (5, .code F5),
  (6, .code F6),
  (7, .code F7),
  (8, .code F8),
  (9, .code F9),
  (10, .code F10),
  (11, .code F11),
  (12, .code F12),
  (13, .code F13),
  (14, .code F14),
  (15, .code F15),
  (16, .code F16),
  (17, .code F17),
  (18, .code F18),
  (19, .code F19),
  (20, .code F20),
  (21, .code F21),
  (22, .prim (pCloneT 2)),
  (23, .code F23),
  (24, .code F24),
  (25, .code F25),
  (26, .code F26),
  (27, .code F27),
  (28, .code F28),
  (29, .code F29),
  (30, .code F30),
  (31, .code F31),
  (32, .code F32),
  (33, .code F33),
  (34, .code F34),
  (35, .code F35),
  (36, .code F36),
  (37, .code F37),
  (38, .code F38),
  (39, .code F39),
  (40, .code F40),
  (41, .code F41),
  (42, .code F42),
  (43, .code F43),
  (44, .code F44),
  (45, .code F45),
  (46, .code F46),
  (47, .code F47),
  (48, .code F48),
  (49, .code F49),
  (50, .code F50),
  (51, .code F51),
  (52, .code F52),
  (53, .code F53),
  (54, .code F54),
  (55, .code F55),
  (56, .code F56),
  (57, .code F57),
  (58, .code F58),
  (59, .prim (pDelete 71 delLoop1 1)),
  (60, .prim (pCloneT 1)),
  (61, .code F61),
  (62, .code F62),
  (63, .code F63),
  (64, .code F64),
  (65, .code F65),
  (66, .code F66),
  (67, .prim (pItoa)),
  (68, .code F68),
  (69, .code F69),
  (70, .prim (pInsert 1)),
  (71, .code F71),
  (72, .code F72),
  (73, .prim (pInsert 2)),
  (74, .prim (pDelete 85 delLoop2 2)),
  (75, .code F75),
  (76, .code F76),
  (77, .code F77),
  (79, .code F79),
  (80, .prim (pIndexByte)),
  (85, .code F85)]
def T (k : Nat) : Option LFn := lk tab k
theorem T3 : T 3 = some (.code F3) := rfl
theorem T5 : T 5 = some (.code F5) := rfl
theorem T6 : T 6 = some (.code F6) := rfl
theorem T7 : T 7 = some (.code F7) := rfl
theorem T9 : T 9 = some (.code F9) := rfl
theorem T10 : T 10 = some (.code F10) := rfl
theorem T11 : T 11 = some (.code F11) := rfl
theorem T12 : T 12 = some (.code F12) := rfl
theorem T17 : T 17 = some (.code F17) := rfl
theorem T18 : T 18 = some (.code F18) := rfl
theorem T19 : T 19 = some (.code F19) := rfl
theorem T21 : T 21 = some (.code F21) := rfl
theorem T22 : T 22 = some (.prim (pCloneT 2)) := rfl
theorem T23 : T 23 = some (.code F23) := rfl
theorem T24 : T 24 = some (.code F24) := rfl
theorem T30 : T 30 = some (.code F30) := rfl
theorem T31 : T 31 = some (.code F31) := rfl
theorem T32 : T 32 = some (.code F32) := rfl
theorem T33 : T 33 = some (.code F33) := rfl
theorem T34 : T 34 = some (.code F34) := rfl
theorem T35 : T 35 = some (.code F35) := rfl
theorem T36 : T 36 = some (.code F36) := rfl
theorem T37 : T 37 = some (.code F37) := rfl
theorem T38 : T 38 = some (.code F38) := rfl
theorem T39 : T 39 = some (.code F39) := rfl
theorem T40 : T 40 = some (.code F40) := rfl
theorem T42 : T 42 = some (.code F42) := rfl
theorem T43 : T 43 = some (.code F43) := rfl
theorem T44 : T 44 = some (.code F44) := rfl
theorem T45 : T 45 = some (.code F45) := rfl
theorem T47 : T 47 = some (.code F47) := rfl
theorem T48 : T 48 = some (.code F48) := rfl
theorem T49 : T 49 = some (.code F49) := rfl
theorem T50 : T 50 = some (.code F50) := rfl
theorem T51 : T 51 = some (.code F51) := rfl
theorem T52 : T 52 = some (.code F52) := rfl
theorem T53 : T 53 = some (.code F53) := rfl
theorem T54 : T 54 = some (.code F54) := rfl
theorem T55 : T 55 = some (.code F55) := rfl
theorem T56 : T 56 = some (.code F56) := rfl
theorem T57 : T 57 = some (.code F57) := rfl
theorem T58 : T 58 = some (.code F58) := rfl
theorem T59 : T 59 = some (.prim (pDelete 71 delLoop1 1)) := rfl
theorem T60 : T 60 = some (.prim (pCloneT 1)) := rfl
theorem T61 : T 61 = some (.code F61) := rfl
theorem T62 : T 62 = some (.code F62) := rfl
theorem T63 : T 63 = some (.code F63) := rfl
theorem T64 : T 64 = some (.code F64) := rfl
theorem T65 : T 65 = some (.code F65) := rfl
theorem T66 : T 66 = some (.code F66) := rfl
theorem T67 : T 67 = some (.prim (pItoa)) := rfl
theorem T68 : T 68 = some (.code F68) := rfl
theorem T69 : T 69 = some (.code F69) := rfl
theorem T70 : T 70 = some (.prim (pInsert 1)) := rfl
theorem T71 : T 71 = some (.code F71) := rfl
theorem T72 : T 72 = some (.code F72) := rfl
theorem T73 : T 73 = some (.prim (pInsert 2)) := rfl
theorem T74 : T 74 = some (.prim (pDelete 85 delLoop2 2)) := rfl
theorem T75 : T 75 = some (.code F75) := rfl
theorem T76 : T 76 = some (.code F76) := rfl
theorem T77 : T 77 = some (.code F77) := rfl
theorem T79 : T 79 = some (.code F79) := rfl
theorem T80 : T 80 = some (.prim (pIndexByte)) := rfl
theorem T85 : T 85 = some (.code F85) := rfl
theorem prim22 {Γ : Ground} : PrimOk Go.Proofs.Tryd.prog Γ 22 (pCloneT 2) := pCloneT_ok (pClone_ok mixed (sz := 2) (bytes := 32) (by decide +kernel))
theorem prim59 {Γ : Ground} : PrimOk Go.Proofs.Tryd.prog Γ 59 (pDelete 71 delLoop1 1) := pDelete_ok mixed (by decide +kernel)
theorem prim60 {Γ : Ground} : PrimOk Go.Proofs.Tryd.prog Γ 60 (pCloneT 1) := pCloneT_ok (pClone_ok mixed (sz := 1) (bytes := 8) (by decide +kernel))
theorem prim67 {Γ : Ground} (hΓ : ∀ w, Γ.holds w → Lib.TabIs Go.Proofs.Tryd.prog w "internal/strconv.uint64pow10" .u64 Lib.pow10Tab) : PrimOk Go.Proofs.Tryd.prog Γ 67 (pItoa) := pItoa_ok (by decide +kernel) hΓ (fun n w h0 h1 ht => Go.Proofs.Tryd.strconv_Itoa n h0 h1 w ht)
theorem prim70 {Γ : Ground} : PrimOk Go.Proofs.Tryd.prog Γ 70 (pInsert 1) := pInsert_ok (by decide +kernel) (by decide) ins_specI
theorem prim73 {Γ : Ground} : PrimOk Go.Proofs.Tryd.prog Γ 73 (pInsert 2) := pInsert_ok (by decide +kernel) (by decide) ins_specA
theorem prim74 {Γ : Ground} : PrimOk Go.Proofs.Tryd.prog Γ 74 (pDelete 85 delLoop2 2) := pDelete_ok mixed (by decide +kernel)
theorem prim80 {Γ : Ground} : PrimOk Go.Proofs.Tryd.prog Γ 80 (pIndexByte) := pIndexByte_ok (by decide +kernel) Go.Proofs.Tryd.strings_IndexByte
theorem tab_ok {Γ : Ground} (hΓ : ∀ w, Γ.holds w → Lib.TabIs Go.Proofs.Tryd.prog w "internal/strconv.uint64pow10" .u64 Lib.pow10Tab) : ∀ e ∈ tab, RowOk Go.Proofs.Tryd.prog Γ e := by
  unfold tab
  refine List.forall_mem_cons.2 ⟨fnSound_of ok3, ?_⟩
  refine List.forall_mem_cons.2 ⟨fnSound_of ok4, ?_⟩
  refine List.forall_mem_cons.2 ⟨fnSound_of ok5, ?_⟩
  refine List.forall_mem_cons.2 ⟨fnSound_of ok6, ?_⟩
  refine List.forall_mem_cons.2 ⟨fnSound_of ok7, ?_⟩
  refine List.forall_mem_cons.2 ⟨fnSound_of ok8, ?_⟩
  refine List.forall_mem_cons.2 ⟨fnSound_of ok9, ?_⟩
  refine List.forall_mem_cons.2 ⟨fnSound_of ok10, ?_⟩
  refine List.forall_mem_cons.2 ⟨fnSound_of ok11, ?_⟩
  refine List.forall_mem_cons.2 ⟨fnSound_of ok12, ?_⟩
  refine List.forall_mem_cons.2 ⟨fnSound_of ok13, ?_⟩
  refine List.forall_mem_cons.2 ⟨fnSound_of ok14, ?_⟩
  refine List.forall_mem_cons.2 ⟨fnSound_of ok15, ?_⟩
  refine List.forall_mem_cons.2 ⟨fnSound_of ok16, ?_⟩
  refine List.forall_mem_cons.2 ⟨fnSound_of ok17, ?_⟩
  refine List.forall_mem_cons.2 ⟨fnSound_of ok18, ?_⟩
  refine List.forall_mem_cons.2 ⟨fnSound_of ok19, ?_⟩
  refine List.forall_mem_cons.2 ⟨fnSound_of ok20, ?_⟩
  refine List.forall_mem_cons.2 ⟨fnSound_of ok21, ?_⟩
  refine List.forall_mem_cons.2 ⟨prim22, ?_⟩
  refine List.forall_mem_cons.2 ⟨fnSound_of ok23, ?_⟩
  refine List.forall_mem_cons.2 ⟨fnSound_of ok24, ?_⟩
  refine List.forall_mem_cons.2 ⟨fnSound_of ok25, ?_⟩
  refine List.forall_mem_cons.2 ⟨fnSound_of ok26, ?_⟩
  refine List.forall_mem_cons.2 ⟨fnSound_of ok27, ?_⟩
  refine List.forall_mem_cons.2 ⟨fnSound_of ok28, ?_⟩
  refine List.forall_mem_cons.2 ⟨fnSound_of ok29, ?_⟩
  refine List.forall_mem_cons.2 ⟨fnSound_of ok30, ?_⟩
  refine List.forall_mem_cons.2 ⟨fnSound_of ok31, ?_⟩
  refine List.forall_mem_cons.2 ⟨fnSound_of ok32, ?_⟩
  refine List.forall_mem_cons.2 ⟨fnSound_of ok33, ?_⟩
  refine List.forall_mem_cons.2 ⟨fnSound_of ok34, ?_⟩
  refine List.forall_mem_cons.2 ⟨fnSound_of ok35, ?_⟩
  refine List.forall_mem_cons.2 ⟨fnSound_of ok36, ?_⟩
  refine List.forall_mem_cons.2 ⟨fnSound_of ok37, ?_⟩
  refine List.forall_mem_cons.2 ⟨fnSound_of ok38, ?_⟩
  refine List.forall_mem_cons.2 ⟨fnSound_of ok39, ?_⟩
  refine List.forall_mem_cons.2 ⟨fnSound_of ok40, ?_⟩
  refine List.forall_mem_cons.2 ⟨fnSound_of ok41, ?_⟩
  refine List.forall_mem_cons.2 ⟨fnSound_of ok42, ?_⟩
  refine List.forall_mem_cons.2 ⟨fnSound_of ok43, ?_⟩
  refine List.forall_mem_cons.2 ⟨fnSound_of ok44, ?_⟩
  refine List.forall_mem_cons.2 ⟨fnSound_of ok45, ?_⟩
  refine List.forall_mem_cons.2 ⟨fnSound_of ok46, ?_⟩
  refine List.forall_mem_cons.2 ⟨fnSound_of ok47, ?_⟩
  refine List.forall_mem_cons.2 ⟨fnSound_of ok48, ?_⟩
  refine List.forall_mem_cons.2 ⟨fnSound_of ok49, ?_⟩
  refine List.forall_mem_cons.2 ⟨fnSound_of ok50, ?_⟩
  refine List.forall_mem_cons.2 ⟨fnSound_of ok51, ?_⟩
  refine List.forall_mem_cons.2 ⟨fnSound_of ok52, ?_⟩
  refine List.forall_mem_cons.2 ⟨fnSound_of ok53, ?_⟩
  refine List.forall_mem_cons.2 ⟨fnSound_of ok54, ?_⟩
  refine List.forall_mem_cons.2 ⟨fnSound_of ok55, ?_⟩
  refine List.forall_mem_cons.2 ⟨fnSound_of ok56, ?_⟩
  refine List.forall_mem_cons.2 ⟨fnSound_of ok57, ?_⟩
  refine List.forall_mem_cons.2 ⟨fnSound_of ok58, ?_⟩
  refine List.forall_mem_cons.2 ⟨prim59, ?_⟩
  refine List.forall_mem_cons.2 ⟨prim60, ?_⟩
  refine List.forall_mem_cons.2 ⟨fnSound_of ok61, ?_⟩
  refine List.forall_mem_cons.2 ⟨fnSound_of ok62, ?_⟩
  refine List.forall_mem_cons.2 ⟨fnSound_of ok63, ?_⟩
  refine List.forall_mem_cons.2 ⟨fnSound_of ok64, ?_⟩
  refine List.forall_mem_cons.2 ⟨fnSound_of ok65, ?_⟩
  refine List.forall_mem_cons.2 ⟨fnSound_of ok66, ?_⟩
  refine List.forall_mem_cons.2 ⟨prim67 hΓ, ?_⟩
  refine List.forall_mem_cons.2 ⟨fnSound_of ok68, ?_⟩
  refine List.forall_mem_cons.2 ⟨fnSound_of ok69, ?_⟩
  refine List.forall_mem_cons.2 ⟨prim70, ?_⟩
  refine List.forall_mem_cons.2 ⟨fnSound_of ok71, ?_⟩
  refine List.forall_mem_cons.2 ⟨fnSound_of ok72, ?_⟩
  refine List.forall_mem_cons.2 ⟨prim73, ?_⟩
  refine List.forall_mem_cons.2 ⟨prim74, ?_⟩
  refine List.forall_mem_cons.2 ⟨fnSound_of ok75, ?_⟩
  refine List.forall_mem_cons.2 ⟨fnSound_of ok76, ?_⟩
  refine List.forall_mem_cons.2 ⟨fnSound_of ok77, ?_⟩
  refine List.forall_mem_cons.2 ⟨fnSound_of ok79, ?_⟩
  refine List.forall_mem_cons.2 ⟨prim80, ?_⟩
  refine List.forall_mem_cons.2 ⟨fnSound_of ok85, ?_⟩
  simp
theorem T_okW (W : World) : TOk Go.Proofs.Tryd.prog (ΓW Go.Proofs.Tryd.prog W) T := tOk_of (tab_ok ΓW_tab)
end Go.TA.Tryd


end
section
set_option linter.unusedSimpArgs false
set_option linter.unusedVariables false
/- Tags and names: what the program says of them. -/
set_option linter.unusedVariables false
set_option linter.unusedSimpArgs false
set_option maxRecDepth 100000
set_option maxHeartbeats 1000000
namespace Go.TA.Tryd
def smallB (c : UInt8) : Bool := decide ((97 : Int) ≤ c.toNat) && decide ((c.toNat : Int) ≤ 122)
def digitB (c : UInt8) : Bool := decide ((48 : Int) ≤ c.toNat) && decide ((c.toNat : Int) ≤ 57)
def innerB (more : Bool) (c : UInt8) : Bool := smallB c || (digitB c || (((c.toNat : Int) == 45) || (more && (((c.toNat : Int) == 58) || ((c.toNat : Int) == 46)))))
def namedB (more : Bool) (s : Bs) : Bool := match s with
  | [] => false
  | c :: r => decide (s.length ≤ 32) && smallB c && r.all (innerB more)
theorem smallB_inner {more : Bool} {c : UInt8} (h : smallB c = true) : innerB more c = true := by simp [innerB, h]
theorem small_run (c : UInt8) (g : List AObj) (n : Nat) : acall T (n + 1) 79 [.p (.int .u8 c.toNat)] g = some (.p (.bool (smallB c)), g) := by
  rw [acall_code T79, run_pure rfl rfl rfl]
  by_cases h1 : (97 : Int) ≤ c.toNat
  · by_cases h2 : (c.toNat : Int) ≤ 122
    · simp (implicitDefEqProofs := false) (maxSteps := 1000000) (disch := omega) only [Ra, Rb, Rc, Rd, Re, Rf, Rg, guardK, evalOp, List.zipWith, mentions, AObj.mentions, bin, binI, noLocal, view, tupleOf, oneTup, Nat.reduceBEq, Nat.reduceAdd, F79, smallB, h1, h2]
    · simp (implicitDefEqProofs := false) (maxSteps := 1000000) (disch := omega) only [Ra, Rb, Rc, Rd, Re, Rf, Rg, guardK, evalOp, List.zipWith, mentions, AObj.mentions, bin, binI, noLocal, view, tupleOf, oneTup, Nat.reduceBEq, Nat.reduceAdd, F79, smallB, h1, h2]
  · simp (implicitDefEqProofs := false) (maxSteps := 1000000) (disch := omega) only [Ra, Rb, Rc, Rd, Re, Rf, Rg, guardK, evalOp, List.zipWith, mentions, AObj.mentions, bin, binI, noLocal, view, tupleOf, oneTup, Nat.reduceBEq, Nat.reduceAdd, F79, smallB, h1]
theorem getD_get {s : Bs} {i : Nat} {c : UInt8} (h : s[i]? = some c) : s.getD i 0 = c := by rw [List.getD_eq_getElem?_getD, h]; rfl
theorem drop_cons {α : Type} {l : List α} {i : Nat} {x : α} (h : l[i]? = some x) : l.drop i = x :: l.drop (i + 1) := by rw [List.drop_eq_getElem?_toList_append, h]; rfl
def outB (r : Bool) : Ex × St := if r = true then (.exit 0, ⟨[], [], []⟩) else (.ret, ⟨[(4, .p (.bool false))], [], []⟩)
def othersOf (more : Bool) : Bs := if more = true then [45, 58, 46] else [45]
theorem u8_ne {c : UInt8} {k : UInt8} : ((k == c) = true) ↔ c.toNat = k.toNat := by
  rw [beq_iff_eq]
  exact ⟨fun h => by rw [h], fun h => (UInt8.toNat_inj.1 h).symm⟩
theorem others_at (more : Bool) (c : UInt8) (hn : (smallB c || digitB c) = false) : (Lib.indexByte (othersOf more) c < 0) = ((innerB more c) = false) := by
  have e : innerB more c = (((c.toNat : Int) == 45) || (more && (((c.toNat : Int) == 58) || ((c.toNat : Int) == 46)))) := by
    simp only [Bool.or_eq_false_iff] at hn
    simp [innerB, hn.1, hn.2]
  rw [e]
  have q : ∀ k : UInt8, (k == c) = ((c.toNat : Int) == (k.toNat : Int)) := fun k => by
    rw [Bool.eq_iff_iff, u8_ne, beq_iff_eq]
    omega
  cases more
  · have e0 : othersOf false = [45] := rfl
    have : ((45 : UInt8).toNat : Int) = 45 := rfl
    simp only [e0, Lib.indexByte, q, this]
    cases h : ((c.toNat : Int) == 45) <;> simp
  · have e0 : othersOf true = [45, 58, 46] := rfl
    have e1 : ((45 : UInt8).toNat : Int) = 45 := rfl
    have e2 : ((58 : UInt8).toNat : Int) = 58 := rfl
    have e3 : ((46 : UInt8).toNat : Int) = 46 := rfl
    simp only [e0, Lib.indexByte, q, e1, e2, e3]
    cases h : ((c.toNat : Int) == 45) <;> cases h' : ((c.toNat : Int) == 58) <;> cases h'' : ((c.toNat : Int) == 46) <;> simp
theorem index_run (s : Bs) (c : UInt8) (g : List AObj) (n : Nat) : acall T (n + 1) 80 [.p (.str s), .p (.int .u8 c.toNat)] g = some (.p (.int .i64 (Lib.indexByte s c)), g) := by
  rw [acall_prim T80]
  simp [pIndexByte]
theorem named_loop {n N : Nat} (s : Bs) (more : Bool) (hs : s.length ≤ 32) (hN : 32 < N) (i : Nat) (hi : i ≤ s.length) :
    aexec (acall T (n + 1)) N (.loop B68x0) ⟨[(0, .p (.str s)), (1, .p (.str (othersOf more))), (21, .p (.int .i64 s.length)), (22, .p (.int .i64 i))], [], []⟩ = some (outB ((s.drop i).all (innerB more))) := by
  refine loop_rule' (σ := Nat) (S := fun i => ⟨[(0, .p (.str s)), (1, .p (.str (othersOf more))), (21, .p (.int .i64 s.length)), (22, .p (.int .i64 i))], [], []⟩) (I := fun i => i ≤ s.length) (μ := fun i => s.length - i)
    (Φ := fun i => outB ((s.drop i).all (innerB more))) ?_ i hi (by omega)
  intro i hi
  by_cases h : i < s.length
  · obtain ⟨c, hc⟩ := get_some h
    have hg := getD_get hc
    have k1 : (i : Int) < (s.length : Int) := by omega
    rw [drop_cons hc]
    have good : innerB more c = true → aexec (acall T (n + 1)) N B68x0 ⟨[(0, .p (.str s)), (1, .p (.str (othersOf more))), (21, .p (.int .i64 s.length)), (22, .p (.int .i64 i))], [], []⟩ = some (.normal, ⟨[(0, .p (.str s)), (1, .p (.str (othersOf more))), (21, .p (.int .i64 s.length)), (22, .p (.int .i64 ((i + 1 : Nat) : Int)))], [], []⟩) := fun hb => by
      cases hsm : smallB c with
      | true => simp (implicitDefEqProofs := false) (maxSteps := 1000000) (disch := omega) only [Ra, Rb, Rc, Rd, Re, Rf, Rg, guardK, evalOp, St.know, mentions, AObj.mentions, bin, binI, una, view, viewT, pureArg, allFlat, flat, Nat.reduceBEq, asInt, B68x0, k1, hg, small_run, hsm]
      | false =>
        by_cases h48 : (c.toNat : Int) < 48
        · have hd : (smallB c || digitB c) = false := by simp [hsm, digitB]; omega
          have ho : ¬ (Lib.indexByte (othersOf more) c < 0) := by rw [others_at more c hd, hb]; simp
          simp (implicitDefEqProofs := false) (maxSteps := 1000000) (disch := omega) only [Ra, Rb, Rc, Rd, Re, Rf, Rg, guardK, evalOp, St.know, mentions, AObj.mentions, bin, binI, una, view, viewT, pureArg, allFlat, flat, Nat.reduceBEq, asInt, B68x0, k1, hg, small_run, hsm, h48, index_run, ho]
        · by_cases h57 : 57 < (c.toNat : Int)
          · have hd : (smallB c || digitB c) = false := by simp [hsm, digitB]; omega
            have ho : ¬ (Lib.indexByte (othersOf more) c < 0) := by rw [others_at more c hd, hb]; simp
            simp (implicitDefEqProofs := false) (maxSteps := 1000000) (disch := omega) only [Ra, Rb, Rc, Rd, Re, Rf, Rg, guardK, evalOp, St.know, mentions, AObj.mentions, bin, binI, una, view, viewT, pureArg, allFlat, flat, Nat.reduceBEq, asInt, B68x0, k1, hg, small_run, hsm, h48, h57, index_run, ho]
          · simp (implicitDefEqProofs := false) (maxSteps := 1000000) (disch := omega) only [Ra, Rb, Rc, Rd, Re, Rf, Rg, guardK, evalOp, St.know, mentions, AObj.mentions, bin, binI, una, view, viewT, pureArg, allFlat, flat, Nat.reduceBEq, asInt, B68x0, k1, hg, small_run, hsm, h48, h57]
    cases hb : innerB more c with
    | true => exact .inl ⟨i + 1, good hb, by omega, by omega, by simp [hb]⟩
    | false =>
      refine .inr ⟨?_, by simp [hb, outB]⟩
      have hsm : smallB c = false := by
        cases h : smallB c
        · rfl
        · rw [smallB_inner h] at hb; cases hb
      have hdg : digitB c = false := by
        cases h : digitB c
        · rfl
        · simp [innerB, h] at hb
      have hd : (smallB c || digitB c) = false := by simp [hsm, hdg]
      have ho : Lib.indexByte (othersOf more) c < 0 := by rw [others_at more c hd, hb]
      have eF : outB ((c :: s.drop (i + 1)).all (innerB more)) = (.ret, ⟨[(4, .p (.bool false))], [], []⟩) := by simp [outB, hb]
      by_cases h48 : (c.toNat : Int) < 48
      · rw [eF]
        simp (implicitDefEqProofs := false) (maxSteps := 1000000) (disch := omega) only [Ra, Rb, Rc, Rd, Re, Rf, Rg, guardK, evalOp, St.know, mentions, AObj.mentions, bin, binI, una, view, viewT, pureArg, allFlat, flat, Nat.reduceBEq, asInt, B68x0, k1, hg, small_run, hsm, h48, index_run, ho]
      · have h57 : 57 < (c.toNat : Int) := by simp [digitB] at hdg; omega
        rw [eF]
        simp (implicitDefEqProofs := false) (maxSteps := 1000000) (disch := omega) only [Ra, Rb, Rc, Rd, Re, Rf, Rg, guardK, evalOp, St.know, mentions, AObj.mentions, bin, binI, una, view, viewT, pureArg, allFlat, flat, Nat.reduceBEq, asInt, B68x0, k1, hg, small_run, hsm, h48, h57, index_run, ho]
  · refine .inr ⟨?_, by rw [List.drop_eq_nil_of_le (by omega)]; simp [outB]⟩
    have k1 : ¬ (i : Int) < (s.length : Int) := by omega
    rw [List.drop_eq_nil_of_le (by omega)]
    simp (implicitDefEqProofs := false) (maxSteps := 1000000) (disch := omega) only [Ra, Rb, Rc, Rd, Re, Rf, Rg, evalOp, St.know, mentions, AObj.mentions, bin, binI, Nat.reduceBEq, B68x0, k1, outB]
theorem named_run (s : Bs) (more : Bool) (g : List AObj) (n : Nat) : acall T (n + 35) 68 [.p (.str s), .p (.str (othersOf more))] g = some (.p (.bool (namedB more s)), g) := by
  rw [acall_code T68, run_pure rfl rfl rfl]
  cases s with
  | nil => simp (implicitDefEqProofs := false) (maxSteps := 1000000) (disch := omega) only [Ra, Rb, Rc, Rd, Re, Rf, Rg, guardK, evalOp, St.know, List.zipWith, mentions, AObj.mentions, bin, avEq, una, noLocal, view, viewT, tupleOf, oneTup, pureArg, allFlat, flat, Nat.reduceBEq, Nat.reduceAdd, asInt, F68, namedB]
  | cons c r =>
    have k0 : ((c :: r) == ([] : Bs)) = false := rfl
    by_cases h32 : (c :: r).length ≤ 32
    · have k1 : ¬ (32 < (r.length : Int) + 1) := by simp at h32; omega
      have hl := named_loop (n := n + 33) (N := n + 34) (c :: r) more h32 (by omega) 0 (by simp)
      simp only [List.length_cons, Int.natCast_add, Int.natCast_one, Int.natCast_zero] at hl
      cases hsm : smallB c with
      | true =>
        have e : namedB more (c :: r) = ((c :: r).drop 0).all (innerB more) := by
          simp only [namedB, hsm, List.drop_zero, List.all_cons, smallB_inner hsm, Bool.true_and, Bool.and_true]
          simp at h32 ⊢
          omega
        rw [e]
        cases hb : ((c :: r).drop 0).all (innerB more) with
        | true =>
          have hl' : outB (((c :: r).drop 0).all (innerB more)) = (.exit 0, ⟨[], [], []⟩) := by simp only [outB, hb]; rfl
          rw [hl'] at hl
          simp (implicitDefEqProofs := false) (maxSteps := 1000000) (disch := omega) only [Ra, Rb, Rc, Rd, Re, Rf, Rg, guardK, evalOp, St.know, List.zipWith, mentions, AObj.mentions, bin, binI, avEq, una, noLocal, view, viewT, tupleOf, oneTup, pureArg, allFlat, flat, Nat.reduceBEq, Nat.reduceAdd, asInt, Int.reduceToNat, Int.reduceLE, F68, k0, k1, small_run, hsm, hl]
        | false =>
          have hl' : outB (((c :: r).drop 0).all (innerB more)) = (.ret, ⟨[(4, .p (.bool false))], [], []⟩) := by simp only [outB, hb]; rfl
          rw [hl'] at hl
          simp (implicitDefEqProofs := false) (maxSteps := 1000000) (disch := omega) only [Ra, Rb, Rc, Rd, Re, Rf, Rg, guardK, evalOp, St.know, List.zipWith, mentions, AObj.mentions, bin, binI, avEq, una, noLocal, view, viewT, tupleOf, oneTup, pureArg, allFlat, flat, Nat.reduceBEq, Nat.reduceAdd, asInt, Int.reduceToNat, Int.reduceLE, F68, k0, k1, small_run, hsm, hl]
      | false =>
        have e : namedB more (c :: r) = false := by simp [namedB, hsm]
        rw [e]
        simp (implicitDefEqProofs := false) (maxSteps := 1000000) (disch := omega) only [Ra, Rb, Rc, Rd, Re, Rf, Rg, guardK, evalOp, St.know, List.zipWith, mentions, AObj.mentions, bin, binI, avEq, una, noLocal, view, viewT, tupleOf, oneTup, pureArg, allFlat, flat, Nat.reduceBEq, Nat.reduceAdd, asInt, Int.reduceToNat, Int.reduceLE, F68, k0, k1, small_run, hsm]
    · have k1 : 32 < (r.length : Int) + 1 := by simp at h32; omega
      have e : namedB more (c :: r) = false := by simp [namedB]; simp at h32; omega
      rw [e]
      simp (implicitDefEqProofs := false) (maxSteps := 1000000) (disch := omega) only [Ra, Rb, Rc, Rd, Re, Rf, Rg, guardK, evalOp, St.know, List.zipWith, mentions, AObj.mentions, bin, binI, avEq, una, noLocal, view, viewT, tupleOf, oneTup, pureArg, allFlat, flat, Nat.reduceBEq, Nat.reduceAdd, asInt, F68, k0, k1]
theorem tag_run (s : Bs) (g : List AObj) (n : Nat) : acall T (n + 36) 52 [.p (.str s)] g = some (.p (.bool (namedB false s)), g) := by
  rw [acall_code T52, run_pure rfl rfl rfl]
  have h := named_run s false [] n
  simp only [othersOf, Bool.false_eq_true, if_false] at h
  simp (implicitDefEqProofs := false) (maxSteps := 1000000) (disch := omega) only [Ra, Rb, Rc, Rd, Re, Rf, Rg, evalOp, List.zipWith, mentions, AObj.mentions, noLocal, view, viewT, tupleOf, oneTup, pureArg, allFlat, flat, Nat.reduceBEq, Nat.reduceAdd, F52, h]
theorem name_run (s : Bs) (g : List AObj) (n : Nat) : acall T (n + 36) 53 [.p (.str s)] g = some (.p (.bool (namedB true s)), g) := by
  rw [acall_code T53, run_pure rfl rfl rfl]
  have h := named_run s true [] n
  simp only [othersOf, if_true] at h
  simp (implicitDefEqProofs := false) (maxSteps := 1000000) (disch := omega) only [Ra, Rb, Rc, Rd, Re, Rf, Rg, evalOp, List.zipWith, mentions, AObj.mentions, noLocal, view, viewT, tupleOf, oneTup, pureArg, allFlat, flat, Nat.reduceBEq, Nat.reduceAdd, F53, h]
theorem fits_run (s : Bs) (g : List AObj) (n : Nat) : acall T (n + 1) 54 [.p (.str s)] g = some (.p (.bool (decide ((s.length : Int) ≤ 65536))), g) := by
  rw [acall_code T54, run_pure rfl rfl rfl]
  simp (implicitDefEqProofs := false) (maxSteps := 1000000) (disch := omega) only [Ra, Rb, Rc, Rd, Re, Rf, Rg, evalOp, List.zipWith, mentions, AObj.mentions, bin, binI, noLocal, view, tupleOf, oneTup, Nat.reduceBEq, Nat.reduceAdd, F54]
end Go.TA.Tryd


end
section
set_option linter.unusedSimpArgs false
set_option linter.unusedVariables false
/- Rows that stand as a tree's do: the document's answer. -/
set_option linter.unusedVariables false
set_option linter.unusedSimpArgs false
set_option maxRecDepth 100000
set_option maxHeartbeats 8000000
namespace Go.TA.Tryd
def rowsPV (l : List GRow) : AV := .p (.list (l.map GRow.pv))
def aboveOut (r : Bool) : Ex × St := if r = true then (.ret, ⟨[(6, .p (.bool true))], [], []⟩) else (.exit 0, ⟨[], [], []⟩)
theorem up_val {l : List GRow} {i x : Nat} (h : standTo l i) (hi : i ≤ l.length) (hx : x < i) : ∃ r, l[x]? = some r ∧ r.up = (upAt l (x + 1) : Int) := by
  obtain ⟨r, hr⟩ := get_some (show x < l.length by omega)
  refine ⟨r, hr, ?_⟩
  have := h x r hx hr
  simp [upAt, hr]
  omega
theorem above_loop {n N : Nat} (l : List GRow) (h : Int) (i : Nat) (hs : standTo l i) (hi : i ≤ l.length) (hl : l.length ≤ 1048576) (hN : i < N) :
    aexec (acall T n) N (.loop B32x0) ⟨[(0, .p (.list (l.map GRow.pv))), (2, .p (.int .i64 h)), (7, .p (.int .i64 (i : Int)))], [], []⟩ = some (aboveOut (aboveB l i h)) := by
  refine loop_rule' (C := acall T n) (N := N) (B := B32x0) (σ := Nat) (S := fun x => ⟨[(0, .p (.list (l.map GRow.pv))), (2, .p (.int .i64 h)), (7, .p (.int .i64 x))], [], []⟩) (I := fun x => x ≤ i) (μ := fun x => x)
    (Φ := fun x => aboveOut (aboveB l x h)) ?_ i (Nat.le_refl _) hN
  intro x hx
  cases x with
  | zero =>
    refine .inr ⟨?_, by simp [aboveB, chain_zero, aboveOut]⟩
    have e : aboveOut (aboveB l 0 h) = (.exit 0, ⟨[], [], []⟩) := by simp [aboveB, chain_zero, aboveOut]
    rw [e]
    simp (implicitDefEqProofs := false) (maxSteps := 1000000) (disch := omega) only [Ra, Rb, Rc, Rd, Re, Rf, Rg, evalOp, St.know, mentions, AObj.mentions, bin, binI, Nat.reduceBEq, Int.reduceLT, B32x0, Int.natCast_zero]
  | succ x =>
    obtain ⟨r, hr, hu⟩ := up_val hs hi (show x < i by omega)
    have hg := getD_map (f := GRow.pv) hr
    have k1 : (0 : Int) < (x : Int) + 1 := by omega
    have k2 : (x : Int) < (l.length : Int) := by omega
    have hc := chain_succ hs hi (show x < i by omega)
    by_cases he : ((x : Int) + 1) = h
    · have e : aboveB l (x + 1) h = true := by
        simp only [aboveB, hc, List.any_cons, Bool.or_eq_true, beq_iff_eq]
        left; push_cast; exact he
      have he' : ((x : Int) + 1 == h) = true := by simpa using he
      refine .inr ⟨?_, by rw [e]; simp [aboveOut]⟩
      rw [e]
      simp (implicitDefEqProofs := false) (maxSteps := 1000000) (disch := omega) only [Ra, Rb, Rc, Rd, Re, Rf, Rg, evalOp, St.know, mentions, AObj.mentions, bin, binI, avEq, Nat.reduceBEq, B32x0, k1, he', aboveOut]
    · have e : aboveB l (x + 1) h = aboveB l (upAt l (x + 1)) h := by
        simp only [aboveB, hc, List.any_cons]
        have : (((x + 1 : Nat) : Int) == h) = false := by simp; omega
        rw [this, Bool.false_or]
      have he' : ((x : Int) + 1 == h) = false := by simpa using he
      have hle := upAt_le hs (show x < i by omega) (by omega)
      refine .inl ⟨upAt l (x + 1), ?_, by omega, by omega, by rw [e]⟩
      simp (implicitDefEqProofs := false) (maxSteps := 1000000) (disch := omega) only [Ra, Rb, Rc, Rd, Re, Rf, Rg, evalOp, St.know, mentions, AObj.mentions, bin, binI, avEq, Nat.reduceBEq, Nat.reduceAdd, Nat.reduceLeDiff, asInt, B32x0, k1, k2, he', hg, GRow.pv, hu]
theorem above_run (l : List GRow) (h : Int) (i : Nat) (hs : standTo l i) (hi : i ≤ l.length) (hl : l.length ≤ 1048576) (g : List AObj) {n : Nat} (hn : i < n) :
    acall T (n + 1) 32 [.p (.list (l.map GRow.pv)), .p (.int .i64 i), .p (.int .i64 h)] g = some (.p (.bool (aboveB l i h)), g) := by
  rw [acall_code T32, run_pure rfl rfl rfl]
  have hloop := above_loop (n := n) (N := n) l h i hs hi hl hn
  cases hb : aboveB l i h with
  | true =>
    rw [hb] at hloop
    simp only [aboveOut, if_true] at hloop
    simp (implicitDefEqProofs := false) (maxSteps := 1000000) (disch := omega) only [Ra, Rb, Rc, Rd, Re, Rf, Rg, evalOp, List.zipWith, mentions, AObj.mentions, noLocal, view, tupleOf, oneTup, Nat.reduceBEq, Nat.reduceAdd, F32, hloop]
  | false =>
    rw [hb] at hloop
    simp only [aboveOut, Bool.false_eq_true, if_false] at hloop
    simp (implicitDefEqProofs := false) (maxSteps := 1000000) (disch := omega) only [Ra, Rb, Rc, Rd, Re, Rf, Rg, evalOp, List.zipWith, mentions, AObj.mentions, noLocal, view, tupleOf, oneTup, Nat.reduceBEq, Nat.reduceAdd, F32, hloop]
theorem depth_loop {n N : Nat} (l : List GRow) (i : Nat) (hs : standTo l i) (hi : i ≤ l.length) (hl : l.length ≤ 1048576) (hN : i < N) :
    aexec (acall T n) N (.loop B18x0) ⟨[(0, .p (.list (l.map GRow.pv))), (1, .p (.int .i64 (i : Int))), (5, .p (.int .i64 ((0 : Nat) : Int)))], [], []⟩ = some (.exit 0, ⟨[(5, .p (.int .i64 ((chain l i).length : Int)))], [], []⟩) := by
  have := loop_rule' (C := acall T n) (N := N) (B := B18x0) (σ := Nat × Nat) (S := fun s => ⟨[(0, .p (.list (l.map GRow.pv))), (1, .p (.int .i64 s.1)), (5, .p (.int .i64 s.2))], [], []⟩) (I := fun s => s.1 ≤ i ∧ s.2 + s.1 ≤ i) (μ := fun s => s.1)
    (Φ := fun s => (.exit 0, ⟨[(5, .p (.int .i64 ((s.2 + (chain l s.1).length : Nat) : Int)))], [], []⟩)) ?_ (i, 0) ⟨Nat.le_refl _, by simp⟩ hN
  · simpa using this
  rintro ⟨x, d⟩ ⟨hx, hd⟩
  simp only at hx hd ⊢
  cases x with
  | zero =>
    refine .inr ⟨?_, by simp⟩
    simp only [chain_zero, List.length_nil, Nat.add_zero]
    simp (implicitDefEqProofs := false) (maxSteps := 1000000) (disch := omega) only [Ra, Rb, Rc, Rd, Re, Rf, Rg, evalOp, St.know, mentions, AObj.mentions, bin, binI, Nat.reduceBEq, Int.reduceLT, B18x0, Int.natCast_zero]
  | succ x =>
    obtain ⟨r, hr, hu⟩ := up_val hs hi (show x < i by omega)
    have hg := getD_map (f := GRow.pv) hr
    have k1 : (0 : Int) < (x : Int) + 1 := by omega
    have k2 : (x : Int) < (l.length : Int) := by omega
    have hc := chain_succ hs hi (show x < i by omega)
    have hle := upAt_le hs (show x < i by omega) (by omega)
    refine .inl ⟨(upAt l (x + 1), d + 1), ?_, ⟨by omega, by simp only; omega⟩, by simp only; omega, ?_⟩
    · simp (implicitDefEqProofs := false) (maxSteps := 1000000) (disch := omega) only [Ra, Rb, Rc, Rd, Re, Rf, Rg, evalOp, St.know, mentions, AObj.mentions, bin, binI, Nat.reduceBEq, Nat.reduceAdd, Nat.reduceLeDiff, asInt, B18x0, k1, k2, hg, GRow.pv, hu]
    · rw [hc, List.length_cons]; congr 6; simp only; omega
theorem depth_run (l : List GRow) (i : Nat) (hs : standTo l i) (hi : i ≤ l.length) (hl : l.length ≤ 1048576) (g : List AObj) {n : Nat} (hn : i < n) :
    acall T (n + 1) 18 [.p (.list (l.map GRow.pv)), .p (.int .i64 i)] g = some (.p (.int .i64 (chain l i).length), g) := by
  rw [acall_code T18, run_pure rfl rfl rfl]
  have hloop := depth_loop (n := n) (N := n) l i hs hi hl hn
  simp only [Int.natCast_zero] at hloop
  simp (implicitDefEqProofs := false) (maxSteps := 1000000) (disch := omega) only [Ra, Rb, Rc, Rd, Re, Rf, Rg, evalOp, List.zipWith, mentions, AObj.mentions, noLocal, view, tupleOf, oneTup, Nat.reduceBEq, Nat.reduceAdd, F18, hloop]
def formOut (k : Nat) (r : Bool) : Ex × St := if r = true then (.exit 0, ⟨[], [], []⟩) else (.ret, ⟨[(k, .p (.bool false))], [], []⟩)
theorem form13_loop {n N : Nat} (l : List GRow) (hl : l.length ≤ 1048576) (hN : l.length < N) (hn : l.length < n) :
    aexec (acall T (n + 1)) N (.loop B17x0) ⟨[(0, .p (.list (l.map GRow.pv))), (5, .p (.int .i64 l.length)), (6, .p (.int .i64 ((0 : Nat) : Int)))], [], []⟩ = some (formOut 2 (formedB l)) := by
  have := loop_rule' (C := acall T (n + 1)) (N := N) (B := B17x0) (σ := Nat) (S := fun i => ⟨[(0, .p (.list (l.map GRow.pv))), (5, .p (.int .i64 l.length)), (6, .p (.int .i64 i))], [], []⟩) (I := fun i => i ≤ l.length ∧ standTo l i) (μ := fun i => l.length - i)
    (Φ := fun i => formOut 2 (formedFrom l i (l.drop i))) ?_ 0 ⟨by omega, standTo_zero l⟩ (by omega)
  · simpa [formedB] using this
  rintro i ⟨hi, hs⟩
  by_cases h : i < l.length
  · have k1 : (i : Int) < (l.length : Int) := by omega
    obtain ⟨x, hx⟩ := get_some h
    have hg := getD_map (f := GRow.pv) hx
    have hd : l.drop i = x :: l.drop (i + 1) := by rw [List.drop_eq_getElem?_toList_append, hx]; rfl
    rw [hd]
    have bad : rowOkB l i x = false → formOut 2 (formedFrom l i (x :: l.drop (i + 1))) = (.ret, ⟨[(2, .p (.bool false))], [], []⟩) := fun h => by simp [formedFrom, h, formOut]
    have good : rowOkB l i x = true → formOut 2 (formedFrom l i (x :: l.drop (i + 1))) = formOut 2 (formedFrom l (i + 1) (l.drop (i + 1))) := fun h => by simp [formedFrom, h]
    cases i with
    | zero =>
      by_cases hu : x.up = 0
      · have hr : rowOkB l 0 x = true := by simp [rowOkB, hu]
        refine .inl ⟨1, ?_, ⟨by omega, row_stands hs (by omega) hx hr⟩, by omega, good hr⟩
        have hu' : (x.up == 0) = true := by simp [hu]
        simp only [Int.natCast_zero, Int.natCast_one] at k1 ⊢
        have hg0 : (l.map GRow.pv).getD 0 [] = x.pv := hg
        have e0 : Int.toNat 0 = 0 := rfl
        simp (implicitDefEqProofs := false) (maxSteps := 1000000) (disch := omega) only [Ra, Rb, Rc, Rd, Re, Rf, Rg, guardK, evalOp, St.know, mentions, AObj.mentions, bin, binI, avEq, Nat.reduceBEq, Nat.reduceAdd, Nat.reduceLeDiff, asInt, Int.reduceLT, Int.reduceLE, Int.reduceAdd, B17x0, k1, hg0, e0, GRow.pv, hu']
      · have hr : rowOkB l 0 x = false := by simp [rowOkB, hu]
        refine .inr ?_
        rw [bad hr]
        refine ⟨?_, by simp⟩
        have hu' : (x.up == 0) = false := by simp [hu]
        simp only [Int.natCast_zero, Int.natCast_one] at k1 ⊢
        have hg0 : (l.map GRow.pv).getD 0 [] = x.pv := hg
        have e0 : Int.toNat 0 = 0 := rfl
        simp (implicitDefEqProofs := false) (maxSteps := 1000000) (disch := omega) only [Ra, Rb, Rc, Rd, Re, Rf, Rg, guardK, evalOp, St.know, mentions, AObj.mentions, bin, binI, avEq, Nat.reduceBEq, Nat.reduceAdd, Nat.reduceLeDiff, asInt, Int.reduceLE, B17x0, k1, hg0, e0, GRow.pv, hu']
    | succ j =>
      have k0 : ((j : Int) + 1 == 0) = false := by simp; omega
      have k3 : (0 : Int) < (j : Int) + 1 := by omega
      have k5 : ((j : Int) + 1).toNat = j + 1 := by omega
      simp only [Int.natCast_add, Int.natCast_one] at k1
      by_cases hu : x.up < 1
      · have hr : rowOkB l (j + 1) x = false := by simp [rowOkB]; intro h; omega
        refine .inr ?_
        rw [bad hr]
        refine ⟨?_, by simp⟩
        simp (implicitDefEqProofs := false) (maxSteps := 1000000) (disch := omega) only [Ra, Rb, Rc, Rd, Re, Rf, Rg, guardK, evalOp, St.know, mentions, AObj.mentions, bin, binI, avEq, una, viewT, pureArg, allFlat, flat, Nat.reduceBEq, Nat.reduceAdd, Nat.reduceLeDiff, asInt, B17x0, k0, k1, k3, k5, hg, GRow.pv, hu]
      · have hab := above_run (n := n) l x.up (j + 1) hs (by omega) hl [] (by omega)
        simp only [Int.natCast_add, Int.natCast_one] at hab
        cases hb : aboveB l (j + 1) x.up with
        | true =>
          have hr : rowOkB l (j + 1) x = true := by simp [rowOkB, hb]; omega
          refine .inl ⟨j + 1 + 1, ?_, ⟨by omega, row_stands hs (by omega) hx hr⟩, by omega, good hr⟩
          simp (implicitDefEqProofs := false) (maxSteps := 1000000) (disch := omega) only [Ra, Rb, Rc, Rd, Re, Rf, Rg, guardK, evalOp, St.know, mentions, AObj.mentions, bin, binI, avEq, una, view, viewT, pureArg, allFlat, flat, Nat.reduceBEq, Nat.reduceAdd, Nat.reduceLeDiff, asInt, B17x0, k0, k1, k3, k5, hg, GRow.pv, hu, hab, hb]
        | false =>
          have hr : rowOkB l (j + 1) x = false := by simp [rowOkB, hb]
          refine .inr ?_
          rw [bad hr]
          refine ⟨?_, by simp⟩
          simp (implicitDefEqProofs := false) (maxSteps := 1000000) (disch := omega) only [Ra, Rb, Rc, Rd, Re, Rf, Rg, guardK, evalOp, St.know, mentions, AObj.mentions, bin, binI, avEq, una, view, viewT, pureArg, allFlat, flat, Nat.reduceBEq, Nat.reduceAdd, Nat.reduceLeDiff, asInt, B17x0, k0, k1, k3, k5, hg, GRow.pv, hu, hab, hb]
  · have k1 : ¬ (i : Int) < (l.length : Int) := by omega
    have e : l.drop i = [] := List.drop_eq_nil_of_le (by omega)
    refine .inr ⟨?_, by rw [e]; simp [formedFrom, formOut]⟩
    rw [e]
    simp (implicitDefEqProofs := false) (maxSteps := 1000000) (disch := omega) only [Ra, Rb, Rc, Rd, Re, Rf, Rg, evalOp, St.know, mentions, AObj.mentions, bin, binI, Nat.reduceBEq, B17x0, k1, formedFrom, formOut]
theorem form13_run (l : List GRow) (hl : l.length ≤ 1048576) (g : List AObj) {n : Nat} (hn : l.length < n) : acall T (n + 2) 17 [.p (.list (l.map GRow.pv))] g = some (.p (.bool (formedB l)), g) := by
  rw [acall_code T17, run_pure rfl rfl rfl]
  have hloop := form13_loop (n := n) (N := n + 1) l hl (by omega) hn
  simp only [Int.natCast_zero] at hloop
  cases hb : formedB l with
  | true =>
    rw [hb] at hloop
    simp only [formOut, if_true] at hloop
    simp (implicitDefEqProofs := false) (maxSteps := 1000000) (disch := omega) only [Ra, Rb, Rc, Rd, Re, Rf, Rg, evalOp, List.zipWith, mentions, AObj.mentions, noLocal, view, tupleOf, oneTup, Nat.reduceBEq, Nat.reduceAdd, F17, hloop]
  | false =>
    rw [hb] at hloop
    simp only [formOut, Bool.false_eq_true, if_false] at hloop
    simp (implicitDefEqProofs := false) (maxSteps := 1000000) (disch := omega) only [Ra, Rb, Rc, Rd, Re, Rf, Rg, evalOp, List.zipWith, mentions, AObj.mentions, noLocal, view, tupleOf, oneTup, Nat.reduceBEq, Nat.reduceAdd, F17, hloop]
end Go.TA.Tryd


end
section
set_option linter.unusedSimpArgs false
set_option linter.unusedVariables false
/- Rows that stand as a tree's do, and are not too deep: the program. -/
set_option linter.unusedVariables false
set_option linter.unusedSimpArgs false
set_option maxRecDepth 100000
set_option maxHeartbeats 8000000
namespace Go.TA.Tryd
def stopAt (l : List GRow) (h : Nat) (u : Int) : Int := if aboveB l h u = true then u else 0
def formS (l : List GRow) (i : Nat) (x : GRow) (h : Int) : St := ⟨[(0, .p (.list (l.map GRow.pv))), (3, .p (.int .i64 i)), (4, .ptr false 4 6 1 0 0), (5, .p (.int .i64 h)), (6, .p (.list (l.map GRow.pv))), (7, .p (.int .i64 l.length)), (8, .p (.int .i64 i))], [(4, .pcells 6 [x.pv])], []⟩
theorem formP_inner {n N : Nat} (l : List GRow) (i : Nat) (x : GRow) (hs : standTo l i) (hi : i ≤ l.length) (hl : l.length ≤ 1048576) (hN : i < N) :
    aexec (acall T n) N (.loop B44x1) (formS l i x i) = some (.exit 2, formS l i x (stopAt l i x.up)) := by
  refine loop_rule' (C := acall T n) (N := N) (B := B44x1) (σ := Nat) (S := fun h => formS l i x h) (I := fun h => h ≤ i) (μ := fun h => h)
    (Φ := fun h => (.exit 2, formS l i x (stopAt l h x.up))) ?_ i (Nat.le_refl _) hN
  intro h hh
  cases h with
  | zero =>
    refine .inr ⟨?_, by simp⟩
    have e : stopAt l 0 x.up = 0 := by simp [stopAt, aboveB, chain_zero]
    rw [e]
    simp (implicitDefEqProofs := false) (maxSteps := 1000000) (disch := omega) only [Ra, Rb, Rc, Rd, Re, Rf, Rg, guardK, evalOp, St.know, mentions, AObj.mentions, avEq, Nat.reduceBEq, Nat.reduceAdd, B44x1, formS, GRow.pv, Int.natCast_zero]
  | succ h =>
    obtain ⟨r, hr, hu⟩ := up_val hs hi (show h < i by omega)
    have hg := getD_map (f := GRow.pv) hr
    have k2 : (h : Int) < (l.length : Int) := by omega
    have k0 : ((h : Int) + 1 == 0) = false := by simp; omega
    have hc := chain_succ hs hi (show h < i by omega)
    cases he : ((h : Int) + 1 == x.up) with
    | true =>
      have he' : (h : Int) + 1 = x.up := by simpa using he
      have e : stopAt l (h + 1) x.up = (h : Int) + 1 := by
        have : aboveB l (h + 1) x.up = true := by
          simp only [aboveB, hc, List.any_cons, Bool.or_eq_true, beq_iff_eq]
          left; push_cast; exact he'
        simp [stopAt, this, he']
      refine .inr ⟨?_, by simp⟩
      rw [e]
      simp (implicitDefEqProofs := false) (maxSteps := 1000000) (disch := omega) only [Ra, Rb, Rc, Rd, Re, Rf, Rg, guardK, evalOp, St.know, mentions, AObj.mentions, avEq, Nat.reduceBEq, Nat.reduceAdd, Nat.reduceLeDiff, Nat.reduceLT, rd_p, Nat.reduceEqDiff, B44x1, formS, GRow.pv, k0, he]
    | false =>
      have e : stopAt l (h + 1) x.up = stopAt l (upAt l (h + 1)) x.up := by
        have : aboveB l (h + 1) x.up = aboveB l (upAt l (h + 1)) x.up := by
          simp only [aboveB, hc, List.any_cons]
          have : (((h + 1 : Nat) : Int) == x.up) = false := by simpa using he
          rw [this, Bool.false_or]
        simp only [stopAt, this]
      have hle := upAt_le hs (show h < i by omega) (by omega)
      refine .inl ⟨upAt l (h + 1), ?_, by omega, by omega, by rw [e]⟩
      simp (implicitDefEqProofs := false) (maxSteps := 1000000) (disch := omega) only [Ra, Rb, Rc, Rd, Re, Rf, Rg, guardK, evalOp, St.know, mentions, AObj.mentions, bin, binI, avEq, Nat.reduceBEq, Nat.reduceAdd, Nat.reduceLeDiff, Nat.reduceLT, asInt, rd_p, Nat.reduceEqDiff, B44x1, formS, GRow.pv, k0, k2, he, hg, hu]
theorem formP_loop {n N : Nat} (l : List GRow) (hl : l.length ≤ 1048576) (hN : l.length < N) :
    aexec (acall T n) N (.loop B44x0) ⟨[(0, .p (.list (l.map GRow.pv))), (6, .p (.list (l.map GRow.pv))), (7, .p (.int .i64 l.length)), (8, .p (.int .i64 ((0 : Nat) : Int)))], [], []⟩ = some (formOut 2 (formedB l)) := by
  have := loop_rule' (C := acall T n) (N := N) (B := B44x0) (σ := Nat) (S := fun i => ⟨[(0, .p (.list (l.map GRow.pv))), (6, .p (.list (l.map GRow.pv))), (7, .p (.int .i64 l.length)), (8, .p (.int .i64 i))], [], []⟩) (I := fun i => i ≤ l.length ∧ standTo l i) (μ := fun i => l.length - i)
    (Φ := fun i => formOut 2 (formedFrom l i (l.drop i))) ?_ 0 ⟨by omega, standTo_zero l⟩ (by omega)
  · simpa [formedB] using this
  rintro i ⟨hi, hs⟩
  by_cases h : i < l.length
  · have k1 : (i : Int) < (l.length : Int) := by omega
    obtain ⟨x, hx⟩ := get_some h
    have hg := getD_map (f := GRow.pv) hx
    have hd : l.drop i = x :: l.drop (i + 1) := by rw [List.drop_eq_getElem?_toList_append, hx]; rfl
    rw [hd]
    have bad : rowOkB l i x = false → formOut 2 (formedFrom l i (x :: l.drop (i + 1))) = (.ret, ⟨[(2, .p (.bool false))], [], []⟩) := fun h => by simp [formedFrom, h, formOut]
    have good : rowOkB l i x = true → formOut 2 (formedFrom l i (x :: l.drop (i + 1))) = formOut 2 (formedFrom l (i + 1) (l.drop (i + 1))) := fun h => by simp [formedFrom, h]
    have hin := formP_inner (n := n) (N := N) l i x hs hi hl (by omega)
    simp only [formS, GRow.pv] at hin
    cases hab : aboveB l i x.up with
    | true =>
      have hpos := above_up hab
      have hi0 : i ≠ 0 := fun e => by subst e; simp [aboveB, chain_zero] at hab
      have hr : rowOkB l i x = true := by simp [rowOkB, hi0, hab]; omega
      refine .inl ⟨i + 1, ?_, ⟨by omega, row_stands hs (by omega) hx hr⟩, by omega, good hr⟩
      simp only [stopAt, hab, if_true] at hin
      have k3 : (x.up == 0) = false := by simp; omega
      have k4 : ((i : Int) == 0) = false := by simp; omega
      simp (implicitDefEqProofs := false) (maxSteps := 1000000) (disch := omega) only [Ra, Rb, Rc, Rd, Re, Rf, Rg, guardK, evalOp, St.know, mentions, AObj.mentions, bin, binI, avEq, Nat.reduceBEq, Nat.reduceAdd, Nat.reduceLeDiff, Nat.reduceLT, asInt, pures, AV.cells, rd_p, wr_p, Nat.reduceEqDiff, B44x0, k1, hg, GRow.pv, hin, k3, k4]
    | false =>
      simp only [stopAt, hab, Bool.false_eq_true, if_false] at hin
      by_cases hu : x.up = 0
      · have k3 : (0 == x.up) = true := by simp [hu]
        by_cases hi0 : i = 0
        · have hr : rowOkB l i x = true := by simp [rowOkB, hi0, hu]
          refine .inl ⟨i + 1, ?_, ⟨by omega, row_stands hs (by omega) hx hr⟩, by omega, good hr⟩
          have k4 : ((i : Int) == 0) = true := by simp [hi0]
          simp (implicitDefEqProofs := false) (maxSteps := 1000000) (disch := omega) only [Ra, Rb, Rc, Rd, Re, Rf, Rg, guardK, evalOp, St.know, mentions, AObj.mentions, bin, binI, avEq, Nat.reduceBEq, Nat.reduceAdd, Nat.reduceLeDiff, Nat.reduceLT, asInt, pures, AV.cells, rd_p, wr_p, Nat.reduceEqDiff, B44x0, k1, hg, GRow.pv, hin, k3, k4]
        · have hr : rowOkB l i x = false := by simp [rowOkB, hi0, hab]
          refine .inr ?_
          rw [bad hr]
          refine ⟨?_, by simp⟩
          have k4 : ((i : Int) == 0) = false := by simp; omega
          have k6 : ((true : Bool) == false) = false := rfl
          simp (implicitDefEqProofs := false) (maxSteps := 1000000) (disch := omega) only [Ra, Rb, Rc, Rd, Re, Rf, Rg, guardK, evalOp, St.know, mentions, AObj.mentions, bin, binI, avEq, Nat.reduceBEq, Nat.reduceAdd, Nat.reduceLeDiff, Nat.reduceLT, asInt, pures, AV.cells, rd_p, wr_p, Nat.reduceEqDiff, B44x0, k1, hg, GRow.pv, hin, k3, k4, k6]
      · have k3 : (0 == x.up) = false := by simp; omega
        have hr : rowOkB l i x = false := by
          simp only [rowOkB, hab, Bool.and_false]
          split
          · simpa using hu
          · rfl
        refine .inr ?_
        rw [bad hr]
        refine ⟨?_, by simp⟩
        simp (implicitDefEqProofs := false) (maxSteps := 1000000) (disch := omega) only [Ra, Rb, Rc, Rd, Re, Rf, Rg, guardK, evalOp, St.know, mentions, AObj.mentions, bin, binI, avEq, Nat.reduceBEq, Nat.reduceAdd, Nat.reduceLeDiff, Nat.reduceLT, asInt, pures, AV.cells, rd_p, wr_p, Nat.reduceEqDiff, B44x0, k1, hg, GRow.pv, hin, k3]
  · have k1 : ¬ (i : Int) < (l.length : Int) := by omega
    have e : l.drop i = [] := List.drop_eq_nil_of_le (by omega)
    refine .inr ⟨?_, by rw [e]; simp [formedFrom, formOut]⟩
    rw [e]
    simp (implicitDefEqProofs := false) (maxSteps := 1000000) (disch := omega) only [Ra, Rb, Rc, Rd, Re, Rf, Rg, evalOp, St.know, mentions, AObj.mentions, bin, binI, Nat.reduceBEq, B44x0, k1, formedFrom, formOut]
theorem formP_run (l : List GRow) (hl : l.length ≤ 1048576) (g : List AObj) {n : Nat} (hn : l.length < n) : acall T (n + 1) 44 [.p (.list (l.map GRow.pv))] g = some (.p (.bool (formedB l)), g) := by
  rw [acall_code T44, run_pure rfl rfl rfl]
  have hloop := formP_loop (n := n) (N := n) l hl hn
  simp only [Int.natCast_zero] at hloop
  cases hb : formedB l with
  | true =>
    rw [hb] at hloop
    simp only [formOut, if_true] at hloop
    simp (implicitDefEqProofs := false) (maxSteps := 1000000) (disch := omega) only [Ra, Rb, Rc, Rd, Re, Rf, Rg, evalOp, List.zipWith, mentions, AObj.mentions, noLocal, view, tupleOf, oneTup, Nat.reduceBEq, Nat.reduceAdd, F44, hloop]
  | false =>
    rw [hb] at hloop
    simp only [formOut, Bool.false_eq_true, if_false] at hloop
    simp (implicitDefEqProofs := false) (maxSteps := 1000000) (disch := omega) only [Ra, Rb, Rc, Rd, Re, Rf, Rg, evalOp, List.zipWith, mentions, AObj.mentions, noLocal, view, tupleOf, oneTup, Nat.reduceBEq, Nat.reduceAdd, F44, hloop]
def depths (l : List GRow) (i : Nat) : List (List PV) := (List.range (l.length + 1)).map fun h => [.int .i64 (if h ≤ i then ((chain l h).length : Int) else 0)]
theorem depths_len (l : List GRow) (i : Nat) : (depths l i).length = l.length + 1 := by simp [depths]
theorem depths_get (l : List GRow) {i h : Nat} (hh : h ≤ l.length) : (depths l i).getD h [] = [.int .i64 (if h ≤ i then ((chain l h).length : Int) else 0)] := by
  rw [List.getD_eq_getElem?_getD, depths, List.getElem?_map, List.getElem?_range (by omega)]
  rfl
theorem depths_set (l : List GRow) {i : Nat} (hi : i < l.length) : (depths l i).set (i + 1) [.int .i64 ((chain l (i + 1)).length : Int)] = depths l (i + 1) := by
  apply List.ext_getElem
  · simp [depths]
  · intro k h1 h2
    rw [List.getElem_set]
    simp only [depths, List.getElem_map, List.getElem_range]
    by_cases e : i + 1 = k
    · subst e; simp
    · rw [if_neg e]
      have : (k ≤ i) ↔ (k ≤ i + 1) := by omega
      simp only [this]
theorem depths_zero (l : List GRow) : List.replicate (l.length + 1) [PV.int .i64 0] = depths l 0 := by
  apply List.ext_getElem
  · simp [depths]
  · intro k h1 h2
    simp only [List.getElem_replicate, depths, List.getElem_map, List.getElem_range]
    by_cases e : k ≤ 0
    · obtain rfl : k = 0 := by omega
      simp [chain_zero]
    · simp [e]
def shallow (l : List GRow) : Prop := ∀ i, i < l.length → (chain l (i + 1)).length ≤ 64
theorem deep_loop {n N : Nat} (l : List GRow) (hs : standTo l l.length) (hd : shallow l) (hl : l.length ≤ 1048576) (hN : l.length < N) :
    aexec (acall T n) N (.loop B45x0) ⟨[(0, .p (.list (l.map GRow.pv))), (3, .own false 9 (l.length + 1)), (10, .p (.list (l.map GRow.pv))), (11, .p (.int .i64 l.length)), (12, .p (.int .i64 ((0 : Nat) : Int)))], [(9, .pcells 1 (depths l 0))], []⟩ = some (.exit 0, ⟨[(0, .p (.list (l.map GRow.pv)))], [], []⟩) := by
  refine loop_rule' (C := acall T n) (N := N) (B := B45x0) (σ := Nat) (S := fun i => ⟨[(0, .p (.list (l.map GRow.pv))), (3, .own false 9 (l.length + 1)), (10, .p (.list (l.map GRow.pv))), (11, .p (.int .i64 l.length)), (12, .p (.int .i64 i))], [(9, .pcells 1 (depths l i))], []⟩) (I := fun i => i ≤ l.length) (μ := fun i => l.length - i)
    (Φ := fun i => (.exit 0, ⟨[(0, .p (.list (l.map GRow.pv)))], [], []⟩)) ?_ 0 (by omega) (by omega)
  intro i hi
  by_cases h : i < l.length
  · have k1 : (i : Int) < (l.length : Int) := by omega
    obtain ⟨x, hx, hu⟩ := up_val hs (Nat.le_refl _) h
    have hg := getD_map (f := GRow.pv) hx
    have hle := upAt_le hs h h
    have hc := chain_succ hs (Nat.le_refl _) h
    have hdp := hd i h
    rw [hc, List.length_cons] at hdp
    have dl := depths_len l i
    have g1 : (depths l i).getD (upAt l (i + 1)) [] = [.int .i64 ((chain l (upAt l (i + 1))).length : Int)] := by rw [depths_get l (by omega), if_pos (by omega)]
    have s1 : (depths l i).set (i + 1) [.int .i64 (((chain l (upAt l (i + 1))).length : Int) + 1)] = depths l (i + 1) := by
      rw [← depths_set l h, hc, List.length_cons]; push_cast; rfl
    have g2 : (depths l (i + 1)).getD (i + 1) [] = [.int .i64 (((chain l (upAt l (i + 1))).length : Int) + 1)] := by rw [depths_get l (by omega), if_pos (by omega), hc, List.length_cons]; push_cast; rfl
    have g3 : (depths l i).getD (i + 1) [] = [.int .i64 0] := by rw [depths_get l (by omega), if_neg (by omega)]
    have k2 : ¬ (64 : Int) < ((chain l (upAt l (i + 1))).length : Int) + 1 := by omega
    have k5 : ((i : Int) + 1).toNat = i + 1 := by omega
    have dl2 := depths_len l (i + 1)
    refine .inl ⟨i + 1, ?_, by omega, by omega, rfl⟩
    simp (implicitDefEqProofs := false) (maxSteps := 1000000) (disch := omega) only [Ra, Rb, Rc, Rd, Re, Rf, Rg, evalOp, idx_p, St.know, mentions, AObj.mentions, bin, binI, Nat.reduceBEq, Nat.reduceAdd, Nat.reduceLeDiff, Nat.reduceLT, asInt, pures, AV.cells, rd_p, wr_p, Nat.reduceEqDiff, B45x0, k1, hg, GRow.pv, hu, dl, dl2, g1, g2, g3, s1, k2, k5]
  · have k1 : ¬ (i : Int) < (l.length : Int) := by omega
    refine .inr ⟨?_, by simp⟩
    simp (implicitDefEqProofs := false) (maxSteps := 1000000) (disch := omega) only [Ra, Rb, Rc, Rd, Re, Rf, Rg, evalOp, St.know, mentions, AObj.mentions, bin, binI, Nat.reduceBEq, B45x0, k1]
theorem deep_run (l : List GRow) (hs : standTo l l.length) (hd : shallow l) (hl : l.length ≤ 4096) (g : List AObj) {n : Nat} (hn : l.length < n) : acall T (n + 1) 45 [.p (.list (l.map GRow.pv))] g = some (.p (.bool false), g) := by
  rw [acall_code T45, run_pure rfl rfl rfl]
  have hloop := deep_loop (n := n) (N := n) l hs hd (by omega) hn
  simp only [Int.natCast_zero] at hloop
  have k1 : ¬ (4096 : Int) < (l.length : Int) := by omega
  have k2 : ((l.length : Int) + 1).toNat = l.length + 1 := by omega
  have hz := depths_zero l
  simp (implicitDefEqProofs := false) (maxSteps := 1000000) (disch := omega) only [Ra, Rb, Rc, Rd, Re, Rf, Rg, evalOp, List.zipWith, mentions, AObj.mentions, bin, binI, noLocal, view, tupleOf, oneTup, Nat.reduceBEq, Nat.reduceAdd, asInt, F45, k1, k2, hz, hloop]
end Go.TA.Tryd


end
section
set_option linter.unusedSimpArgs false
set_option linter.unusedVariables false
/- Tags and names: what the document's answer says of them. -/
set_option linter.unusedVariables false
set_option linter.unusedSimpArgs false
set_option maxRecDepth 100000
set_option maxHeartbeats 1000000
namespace Go.TA.Tryd
theorem inner_run (c : UInt8) (more : Bool) (g : List AObj) (n : Nat) : acall T (n + 1) 42 [.p (.int .u8 c.toNat), .p (.bool more)] g = some (.p (.bool (innerB more c)), g) := by
  rw [acall_code T42, run_pure rfl rfl rfl]
  by_cases h5 : (c.toNat : Int) = 45
  · simp (implicitDefEqProofs := false) (maxSteps := 1000000) (disch := omega) only [Ra, Rb, Rc, Rd, Re, Rf, Rg, guardK, evalOp, List.zipWith, mentions, AObj.mentions, bin, binI, avEq, noLocal, view, tupleOf, oneTup, Nat.reduceBEq, Nat.reduceAdd, Int.reduceBEq, Int.reduceLE, F42, innerB, smallB, digitB, h5]
  have e5 : ((c.toNat : Int) == 45) = false := by simpa using h5
  by_cases h1 : (97 : Int) ≤ c.toNat
  · by_cases h2 : (c.toNat : Int) ≤ 122
    · simp (implicitDefEqProofs := false) (maxSteps := 1000000) (disch := omega) only [Ra, Rb, Rc, Rd, Re, Rf, Rg, guardK, evalOp, List.zipWith, mentions, AObj.mentions, bin, binI, avEq, noLocal, view, tupleOf, oneTup, Nat.reduceBEq, Nat.reduceAdd, F42, innerB, smallB, digitB, h1, h2]
    · have h3 : (48 : Int) ≤ c.toNat := by omega
      have h4 : ¬ (c.toNat : Int) ≤ 57 := by omega
      have e6 : ((c.toNat : Int) == 58) = false := by simp; omega
      have e7 : ((c.toNat : Int) == 46) = false := by simp; omega
      cases more
      · simp (implicitDefEqProofs := false) (maxSteps := 1000000) (disch := omega) only [Ra, Rb, Rc, Rd, Re, Rf, Rg, guardK, evalOp, List.zipWith, mentions, AObj.mentions, bin, binI, avEq, noLocal, view, tupleOf, oneTup, Nat.reduceBEq, Nat.reduceAdd, F42, innerB, smallB, digitB, h1, h2, h3, h4, e5, e6, e7]
      · simp (implicitDefEqProofs := false) (maxSteps := 1000000) (disch := omega) only [Ra, Rb, Rc, Rd, Re, Rf, Rg, guardK, evalOp, List.zipWith, mentions, AObj.mentions, bin, binI, avEq, noLocal, view, tupleOf, oneTup, Nat.reduceBEq, Nat.reduceAdd, F42, innerB, smallB, digitB, h1, h2, h3, h4, e5, e6, e7]
  · by_cases h3 : (48 : Int) ≤ c.toNat
    · by_cases h4 : (c.toNat : Int) ≤ 57
      · simp (implicitDefEqProofs := false) (maxSteps := 1000000) (disch := omega) only [Ra, Rb, Rc, Rd, Re, Rf, Rg, guardK, evalOp, List.zipWith, mentions, AObj.mentions, bin, binI, avEq, noLocal, view, tupleOf, oneTup, Nat.reduceBEq, Nat.reduceAdd, F42, innerB, smallB, digitB, h1, h3, h4]
      · have e7 : ((c.toNat : Int) == 46) = false := by simp; omega
        cases more
        · simp (implicitDefEqProofs := false) (maxSteps := 1000000) (disch := omega) only [Ra, Rb, Rc, Rd, Re, Rf, Rg, guardK, evalOp, List.zipWith, mentions, AObj.mentions, bin, binI, avEq, noLocal, view, tupleOf, oneTup, Nat.reduceBEq, Nat.reduceAdd, F42, innerB, smallB, digitB, h1, h3, h4, e5, e7]
        · by_cases h6 : (c.toNat : Int) = 58
          · simp (implicitDefEqProofs := false) (maxSteps := 1000000) (disch := omega) only [Ra, Rb, Rc, Rd, Re, Rf, Rg, guardK, evalOp, List.zipWith, mentions, AObj.mentions, bin, binI, avEq, noLocal, view, tupleOf, oneTup, Nat.reduceBEq, Nat.reduceAdd, Int.reduceBEq, Int.reduceLE, F42, innerB, smallB, digitB, h6]
          · have e6 : ((c.toNat : Int) == 58) = false := by simpa using h6
            simp (implicitDefEqProofs := false) (maxSteps := 1000000) (disch := omega) only [Ra, Rb, Rc, Rd, Re, Rf, Rg, guardK, evalOp, List.zipWith, mentions, AObj.mentions, bin, binI, avEq, noLocal, view, tupleOf, oneTup, Nat.reduceBEq, Nat.reduceAdd, F42, innerB, smallB, digitB, h1, h3, h4, e5, e6, e7]
    · have e6 : ((c.toNat : Int) == 58) = false := by simp; omega
      cases more
      · simp (implicitDefEqProofs := false) (maxSteps := 1000000) (disch := omega) only [Ra, Rb, Rc, Rd, Re, Rf, Rg, guardK, evalOp, List.zipWith, mentions, AObj.mentions, bin, binI, avEq, noLocal, view, tupleOf, oneTup, Nat.reduceBEq, Nat.reduceAdd, F42, innerB, smallB, digitB, h1, h3, e5, e6]
      · by_cases h7 : (c.toNat : Int) = 46
        · simp (implicitDefEqProofs := false) (maxSteps := 1000000) (disch := omega) only [Ra, Rb, Rc, Rd, Re, Rf, Rg, guardK, evalOp, List.zipWith, mentions, AObj.mentions, bin, binI, avEq, noLocal, view, tupleOf, oneTup, Nat.reduceBEq, Nat.reduceAdd, Int.reduceBEq, Int.reduceLE, F42, innerB, smallB, digitB, h7]
        · have e7 : ((c.toNat : Int) == 46) = false := by simpa using h7
          simp (implicitDefEqProofs := false) (maxSteps := 1000000) (disch := omega) only [Ra, Rb, Rc, Rd, Re, Rf, Rg, guardK, evalOp, List.zipWith, mentions, AObj.mentions, bin, binI, avEq, noLocal, view, tupleOf, oneTup, Nat.reduceBEq, Nat.reduceAdd, F42, innerB, smallB, digitB, h1, h3, e5, e6, e7]
theorem named02_loop {n N : Nat} (s : Bs) (more : Bool) (hs : s.length ≤ 32) (hN : 32 < N) (i : Nat) (hi : i ≤ s.length) :
    aexec (acall T (n + 1)) N (.loop B30x0) ⟨[(0, .p (.str s)), (1, .p (.bool more)), (5, .p (.int .i64 i))], [], []⟩ = some (outB ((s.drop i).all (innerB more))) := by
  refine loop_rule' (σ := Nat) (S := fun i => ⟨[(0, .p (.str s)), (1, .p (.bool more)), (5, .p (.int .i64 i))], [], []⟩) (I := fun i => i ≤ s.length) (μ := fun i => s.length - i)
    (Φ := fun i => outB ((s.drop i).all (innerB more))) ?_ i hi (by omega)
  intro i hi
  by_cases h : i < s.length
  · obtain ⟨c, hc⟩ := get_some h
    have hg := getD_get hc
    have k1 : (i : Int) < (s.length : Int) := by omega
    rw [drop_cons hc]
    cases hb : innerB more c with
    | true =>
      refine .inl ⟨i + 1, ?_, by omega, by omega, by simp [hb]⟩
      simp (implicitDefEqProofs := false) (maxSteps := 1000000) (disch := omega) only [Ra, Rb, Rc, Rd, Re, Rf, Rg, evalOp, St.know, mentions, AObj.mentions, bin, binI, una, view, viewT, pureArg, allFlat, flat, Nat.reduceBEq, asInt, B30x0, k1, hg, inner_run, hb]
    | false =>
      refine .inr ⟨?_, by simp [hb, outB]⟩
      have eF : outB ((c :: s.drop (i + 1)).all (innerB more)) = (.ret, ⟨[(4, .p (.bool false))], [], []⟩) := by simp [outB, hb]
      rw [eF]
      simp (implicitDefEqProofs := false) (maxSteps := 1000000) (disch := omega) only [Ra, Rb, Rc, Rd, Re, Rf, Rg, evalOp, St.know, mentions, AObj.mentions, bin, binI, una, view, viewT, pureArg, allFlat, flat, Nat.reduceBEq, asInt, B30x0, k1, hg, inner_run, hb]
  · refine .inr ⟨?_, by rw [List.drop_eq_nil_of_le (by omega)]; simp [outB]⟩
    have k1 : ¬ (i : Int) < (s.length : Int) := by omega
    rw [List.drop_eq_nil_of_le (by omega)]
    simp (implicitDefEqProofs := false) (maxSteps := 1000000) (disch := omega) only [Ra, Rb, Rc, Rd, Re, Rf, Rg, evalOp, St.know, mentions, AObj.mentions, bin, binI, Nat.reduceBEq, B30x0, k1, outB]
theorem named02_run (s : Bs) (more : Bool) (g : List AObj) (n : Nat) : acall T (n + 35) 30 [.p (.str s), .p (.bool more)] g = some (.p (.bool (namedB more s)), g) := by
  rw [acall_code T30, run_pure rfl rfl rfl]
  cases s with
  | nil => simp (implicitDefEqProofs := false) (maxSteps := 1000000) (disch := omega) only [Ra, Rb, Rc, Rd, Re, Rf, Rg, guardK, evalOp, St.know, List.zipWith, mentions, AObj.mentions, bin, binI, noLocal, view, tupleOf, oneTup, Nat.reduceBEq, Nat.reduceAdd, asInt, Int.reduceLT, F30, namedB, Int.natCast_zero]
  | cons c r =>
    have k0 : ¬ ((r.length : Int) + 1 < 1) := by omega
    by_cases h32 : (c :: r).length ≤ 32
    · have k1 : ¬ (32 < (r.length : Int) + 1) := by simp at h32; omega
      have hl := named02_loop (n := n + 33) (N := n + 34) (c :: r) more h32 (by omega) 1 (by simp)
      simp only [Int.natCast_one] at hl
      by_cases h1 : (97 : Int) ≤ c.toNat
      · by_cases h2 : (c.toNat : Int) ≤ 122
        · have h1' : ¬ ((c.toNat : Int) < 97) := by omega
          have h2' : ¬ (122 < (c.toNat : Int)) := by omega
          have e : namedB more (c :: r) = r.all (innerB more) := by simp [namedB, smallB, h1, h2]; simp at h32; omega
          rw [e]
          cases hb : r.all (innerB more) with
          | true =>
            have hl' : outB (((c :: r).drop 1).all (innerB more)) = (.exit 0, ⟨[], [], []⟩) := by simp [outB, hb]
            rw [hl'] at hl
            simp (implicitDefEqProofs := false) (maxSteps := 1000000) (disch := omega) only [Ra, Rb, Rc, Rd, Re, Rf, Rg, guardK, evalOp, St.know, List.zipWith, mentions, AObj.mentions, bin, binI, noLocal, view, tupleOf, oneTup, Nat.reduceBEq, Nat.reduceAdd, asInt, Int.reduceToNat, Int.reduceLE, F30, k0, k1, h1', h2', hl]
          | false =>
            have hl' : outB (((c :: r).drop 1).all (innerB more)) = (.ret, ⟨[(4, .p (.bool false))], [], []⟩) := by simp [outB, hb]
            rw [hl'] at hl
            simp (implicitDefEqProofs := false) (maxSteps := 1000000) (disch := omega) only [Ra, Rb, Rc, Rd, Re, Rf, Rg, guardK, evalOp, St.know, List.zipWith, mentions, AObj.mentions, bin, binI, noLocal, view, tupleOf, oneTup, Nat.reduceBEq, Nat.reduceAdd, asInt, Int.reduceToNat, Int.reduceLE, F30, k0, k1, h1', h2', hl]
        · have h1' : ¬ ((c.toNat : Int) < 97) := by omega
          have h2' : 122 < (c.toNat : Int) := by omega
          have e : namedB more (c :: r) = false := by simp [namedB, smallB, h2]
          rw [e]
          simp (implicitDefEqProofs := false) (maxSteps := 1000000) (disch := omega) only [Ra, Rb, Rc, Rd, Re, Rf, Rg, guardK, evalOp, St.know, List.zipWith, mentions, AObj.mentions, bin, binI, noLocal, view, tupleOf, oneTup, Nat.reduceBEq, Nat.reduceAdd, asInt, Int.reduceToNat, Int.reduceLE, F30, k0, k1, h1', h2']
      · have h1' : (c.toNat : Int) < 97 := by omega
        have e : namedB more (c :: r) = false := by simp [namedB, smallB, h1]
        rw [e]
        simp (implicitDefEqProofs := false) (maxSteps := 1000000) (disch := omega) only [Ra, Rb, Rc, Rd, Re, Rf, Rg, guardK, evalOp, St.know, List.zipWith, mentions, AObj.mentions, bin, binI, noLocal, view, tupleOf, oneTup, Nat.reduceBEq, Nat.reduceAdd, asInt, Int.reduceToNat, Int.reduceLE, F30, k0, k1, h1']
    · have k1 : 32 < (r.length : Int) + 1 := by simp at h32; omega
      have e : namedB more (c :: r) = false := by simp [namedB]; simp at h32; omega
      rw [e]
      simp (implicitDefEqProofs := false) (maxSteps := 1000000) (disch := omega) only [Ra, Rb, Rc, Rd, Re, Rf, Rg, guardK, evalOp, St.know, List.zipWith, mentions, AObj.mentions, bin, binI, noLocal, view, tupleOf, oneTup, Nat.reduceBEq, Nat.reduceAdd, asInt, F30, k0, k1]
end Go.TA.Tryd


end
section
set_option linter.unusedSimpArgs false
set_option linter.unusedVariables false
/- Which text is ahead. -/
set_option linter.unusedVariables false
set_option linter.unusedSimpArgs false
set_option maxRecDepth 100000
set_option maxHeartbeats 1000000
namespace Go.TA.Tryd
def cmpB : Bs → Bs → Int
  | [], [] => 0
  | [], _ :: _ => -1
  | _ :: _, [] => 1
  | a :: x, b :: y => if (a.toNat : Int) < b.toNat then -1 else if (b.toNat : Int) < a.toNat then 1 else cmpB x y
theorem cmpB_less : ∀ {x y : Bs}, x ≠ y → (0 < cmpB x y ↔ (strLess x y || x == y) = false)
  | [], [], h => absurd rfl h
  | [], b :: y, h => by simp [cmpB, strLess]
  | a :: x, [], h => by simp [cmpB, strLess]
  | a :: x, b :: y, h => by
    have e1 : (a < b) = ((a.toNat : Int) < b.toNat) := by rw [UInt8.lt_iff_toNat_lt]; simp
    simp only [cmpB, strLess]
    by_cases h1 : (a.toNat : Int) < b.toNat
    · simp [h1, e1]
    · by_cases h2 : (b.toNat : Int) < a.toNat
      · have hne : a ≠ b := fun e => by subst e; omega
        have hne' : ¬ (a :: x = b :: y) := fun e => hne (by injection e)
        simp [h1, h2, e1, hne]
      · have he : a = b := UInt8.toNat_inj.1 (by omega)
        subst he
        have hxy : x ≠ y := fun e => h (by rw [e])
        have := cmpB_less hxy
        simp only [h1, if_false, this, e1]
        simp [h1]
def cmpOut (a b : Bs) (r : Int) : Ex × St := if r = -1 then (.ret, ⟨[(4, .p (.int .i64 (-1)))], [], []⟩) else if r = 1 then (.ret, ⟨[(4, .p (.int .i64 1))], [], []⟩) else (.exit 0, ⟨[(0, .p (.str a)), (1, .p (.str b))], [], []⟩)
def part : Bs → Bs → Int
  | a :: x, b :: y => if (a.toNat : Int) < b.toNat then -1 else if (b.toNat : Int) < a.toNat then 1 else part x y
  | _, _ => 0
theorem cmp_part : ∀ (x y : Bs), cmpB x y = if part x y = 0 then (if x.length < y.length then -1 else if y.length < x.length then 1 else 0) else part x y
  | [], [] => by simp [cmpB, part]
  | [], _ :: _ => by simp [cmpB, part]
  | _ :: _, [] => by simp [cmpB, part]
  | a :: x, b :: y => by
    simp only [cmpB, part, cmp_part x y, List.length_cons]
    split
    · simp
    · split
      · simp
      · simp
theorem cmp_loop {n N : Nat} (a b : Bs) (hN : b.length < N) (hb : b.length ≤ 1048577) :
    aexec (acall T n) N (.loop B43x0) ⟨[(0, .p (.str a)), (1, .p (.str b)), (5, .p (.int .i64 ((0 : Nat) : Int)))], [], []⟩ = some (cmpOut a b (part a b)) := by
  refine loop_rule' (C := acall T n) (N := N) (B := B43x0) (σ := Nat) (S := fun i => ⟨[(0, .p (.str a)), (1, .p (.str b)), (5, .p (.int .i64 i))], [], []⟩) (I := fun i => i ≤ a.length ∧ i ≤ b.length) (μ := fun i => b.length - i)
    (Φ := fun i => cmpOut a b (part (a.drop i) (b.drop i))) ?_ 0 ⟨by omega, by omega⟩ (by omega)
  rintro i ⟨hia, hib⟩
  by_cases h : i < a.length
  · have k1 : (i : Int) < (a.length : Int) := by omega
    obtain ⟨x, hx⟩ := get_some h
    have gx := getD_get hx
    by_cases h' : i < b.length
    · have k2 : (i : Int) < (b.length : Int) := by omega
      obtain ⟨y, hy⟩ := get_some h'
      have gy := getD_get hy
      rw [drop_cons hx, drop_cons hy]
      by_cases c1 : (x.toNat : Int) < y.toNat
      · refine .inr ⟨?_, by simp [part, c1, cmpOut]⟩
        have e : part (x :: a.drop (i + 1)) (y :: b.drop (i + 1)) = -1 := by simp [part, c1]
        rw [e]
        simp (implicitDefEqProofs := false) (maxSteps := 1000000) (disch := omega) only [Ra, Rb, Rc, Rd, Re, Rf, Rg, guardK, evalOp, St.know, mentions, AObj.mentions, bin, binI, Nat.reduceBEq, asInt, reduceCtorEq, Int.reduceNeg, B43x0, k1, k2, gx, gy, c1, cmpOut]
      · by_cases c2 : (y.toNat : Int) < x.toNat
        · refine .inr ⟨?_, by simp [part, c1, c2, cmpOut]⟩
          have e : part (x :: a.drop (i + 1)) (y :: b.drop (i + 1)) = 1 := by simp [part, c1, c2]
          rw [e]
          simp (implicitDefEqProofs := false) (maxSteps := 1000000) (disch := omega) only [Ra, Rb, Rc, Rd, Re, Rf, Rg, guardK, evalOp, St.know, mentions, AObj.mentions, bin, binI, Nat.reduceBEq, asInt, reduceCtorEq, Int.reduceNeg, B43x0, k1, k2, gx, gy, c1, c2, cmpOut]
        · refine .inl ⟨i + 1, ?_, ⟨by omega, by omega⟩, by omega, by simp [part, c1, c2]⟩
          simp (implicitDefEqProofs := false) (maxSteps := 1000000) (disch := omega) only [Ra, Rb, Rc, Rd, Re, Rf, Rg, guardK, evalOp, St.know, mentions, AObj.mentions, bin, binI, Nat.reduceBEq, asInt, Int.reduceNeg, B43x0, k1, k2, gx, gy, c1, c2]
    · have k2 : ¬ (i : Int) < (b.length : Int) := by omega
      have e : part (a.drop i) (b.drop i) = 0 := by rw [drop_cons hx, List.drop_eq_nil_of_le (by omega : b.length ≤ i)]; rfl
      refine .inr ⟨?_, by rw [e]; simp [cmpOut]⟩
      rw [e]
      simp (implicitDefEqProofs := false) (maxSteps := 1000000) (disch := omega) only [Ra, Rb, Rc, Rd, Re, Rf, Rg, guardK, evalOp, St.know, mentions, AObj.mentions, bin, binI, Nat.reduceBEq, reduceCtorEq, Int.reduceEq, Int.reduceNeg, B43x0, k1, k2, cmpOut]
  · have k1 : ¬ (i : Int) < (a.length : Int) := by omega
    have e : part (a.drop i) (b.drop i) = 0 := by rw [List.drop_eq_nil_of_le (by omega : a.length ≤ i)]; rfl
    refine .inr ⟨?_, by rw [e]; simp [cmpOut]⟩
    rw [e]
    simp (implicitDefEqProofs := false) (maxSteps := 1000000) (disch := omega) only [Ra, Rb, Rc, Rd, Re, Rf, Rg, guardK, evalOp, St.know, mentions, AObj.mentions, bin, binI, Nat.reduceBEq, reduceCtorEq, Int.reduceEq, Int.reduceNeg, B43x0, k1, cmpOut]
theorem part_cases : ∀ (x y : Bs), part x y = -1 ∨ part x y = 1 ∨ part x y = 0
  | [], [] => by simp [part]
  | [], _ :: _ => by simp [part]
  | _ :: _, [] => by simp [part]
  | a :: x, b :: y => by
    simp only [part]
    split
    · simp
    · split
      · simp
      · exact part_cases x y
theorem cmp_run (a b : Bs) (g : List AObj) {n : Nat} (ha : b.length < n) (hb : b.length ≤ 1048577) : acall T (n + 1) 43 [.p (.str a), .p (.str b)] g = some (.p (.int .i64 (cmpB a b)), g) := by
  rw [acall_code T43, run_pure rfl rfl rfl, cmp_part]
  have hl := cmp_loop (n := n) (N := n) a b ha hb
  simp only [Int.natCast_zero] at hl
  rcases part_cases a b with h | h | h
  · rw [h] at hl ⊢
    simp only [cmpOut] at hl
    simp (implicitDefEqProofs := false) (maxSteps := 1000000) (disch := omega) only [Ra, Rb, Rc, Rd, Re, Rf, Rg, evalOp, List.zipWith, mentions, AObj.mentions, noLocal, view, tupleOf, oneTup, Nat.reduceBEq, Nat.reduceAdd, reduceCtorEq, Int.reduceNeg, F43, hl]
  · rw [h] at hl ⊢
    simp only [cmpOut] at hl
    simp (implicitDefEqProofs := false) (maxSteps := 1000000) (disch := omega) only [Ra, Rb, Rc, Rd, Re, Rf, Rg, evalOp, List.zipWith, mentions, AObj.mentions, noLocal, view, tupleOf, oneTup, Nat.reduceBEq, Nat.reduceAdd, reduceCtorEq, Int.reduceEq, Int.reduceNeg, F43, hl]
  · rw [h] at hl ⊢
    simp only [cmpOut] at hl
    by_cases c1 : a.length < b.length
    · have k1 : (a.length : Int) < (b.length : Int) := by omega
      simp (implicitDefEqProofs := false) (maxSteps := 1000000) (disch := omega) only [Ra, Rb, Rc, Rd, Re, Rf, Rg, evalOp, St.know, List.zipWith, mentions, AObj.mentions, bin, binI, noLocal, view, tupleOf, oneTup, Nat.reduceBEq, Nat.reduceAdd, reduceCtorEq, Int.reduceEq, Int.reduceNeg, F43, hl, k1, c1]
    · have k1 : ¬ (a.length : Int) < (b.length : Int) := by omega
      by_cases c2 : b.length < a.length
      · have k2 : (b.length : Int) < (a.length : Int) := by omega
        simp (implicitDefEqProofs := false) (maxSteps := 1000000) (disch := omega) only [Ra, Rb, Rc, Rd, Re, Rf, Rg, evalOp, St.know, List.zipWith, mentions, AObj.mentions, bin, binI, noLocal, view, tupleOf, oneTup, Nat.reduceBEq, Nat.reduceAdd, reduceCtorEq, Int.reduceEq, Int.reduceNeg, F43, hl, k1, c1, k2, c2]
      · have k2 : ¬ (b.length : Int) < (a.length : Int) := by omega
        simp (implicitDefEqProofs := false) (maxSteps := 1000000) (disch := omega) only [Ra, Rb, Rc, Rd, Re, Rf, Rg, evalOp, St.know, List.zipWith, mentions, AObj.mentions, bin, binI, noLocal, view, tupleOf, oneTup, Nat.reduceBEq, Nat.reduceAdd, reduceCtorEq, Int.reduceEq, Int.reduceNeg, F43, hl, k1, c1, k2, c2]
end Go.TA.Tryd


end
section
set_option linter.unusedSimpArgs false
set_option linter.unusedVariables false
/- What is wrong with attributes: the document's answer. -/
set_option linter.unusedVariables false
set_option linter.unusedSimpArgs false
set_option maxRecDepth 100000
set_option maxHeartbeats 8000000
namespace Go.TA.Tryd
def attrErr (p : List Attr) (i : Nat) (a : Attr) : Int :=
  if i = 64 then 12 else if namedB true a.name = false then 8 else if 65536 < (a.value.length : Int) then 3 else match p with
    | [] => 0
    | b :: _ => if b.name = a.name then 10 else if 0 < cmpB b.name a.name then 9 else 0
def attrsChk : List Attr → Nat → List Attr → Int × Int
  | _, _, [] => (0, 0)
  | p, i, a :: l => if attrErr p i a = 0 then attrsChk [a] (i + 1) l else (i, attrErr p i a)
def attrsErr (l : List Attr) : Int := (attrsChk [] 0 l).2
def prevOf (l : List Attr) : Nat → List Attr
  | 0 => []
  | i + 1 => (l[i]?).toList
def chkOut (r : Int × Int) : Ex × St := if r.2 = 0 then (.exit 0, ⟨[], [], []⟩) else (.ret, ⟨[(2, .p (.int .i64 r.1)), (3, .p (.int .i64 r.2))], [], []⟩)
theorem chk_step {l : List Attr} {i : Nat} {a : Attr} (h : l[i]? = some a) : attrsChk (prevOf l i) i (l.drop i) = if attrErr (prevOf l i) i a = 0 then attrsChk (prevOf l (i + 1)) (i + 1) (l.drop (i + 1)) else ((i : Int), attrErr (prevOf l i) i a) := by
  have e : prevOf l (i + 1) = [a] := by simp [prevOf, h]
  rw [drop_cons h, e]
  simp only [attrsChk]
theorem a09_loop {n N : Nat} (l : List Attr) (hs : smallAttrs l) (hN : l.length < N) (hn : 1048576 < n) :
    aexec (acall T (n + 35)) N (.loop B31x0) ⟨[(0, .p (.list (l.map Attr.pv))), (6, .p (.int .i64 l.length)), (7, .p (.int .i64 ((0 : Nat) : Int)))], [], []⟩ = some (chkOut (attrsChk [] 0 l)) := by
  refine loop_rule' (C := acall T (n + 35)) (N := N) (B := B31x0) (σ := Nat) (S := fun i => ⟨[(0, .p (.list (l.map Attr.pv))), (6, .p (.int .i64 l.length)), (7, .p (.int .i64 i))], [], []⟩) (I := fun i => i ≤ l.length ∧ i ≤ 64) (μ := fun i => l.length - i)
    (Φ := fun i => chkOut (attrsChk (prevOf l i) i (l.drop i))) ?_ 0 ⟨by omega, by omega⟩ (by omega)
  rintro i ⟨hi, hi64⟩
  by_cases h : i < l.length
  · have k1 : (i : Int) < (l.length : Int) := by omega
    obtain ⟨a, ha⟩ := get_some h
    have ga := getD_map (f := Attr.pv) ha
    have hsa := hs a (List.mem_of_getElem? ha)
    rw [chk_step ha]
    have bad : ∀ e : Int, attrErr (prevOf l i) i a = e → e ≠ 0 → aexec (acall T (n + 35)) N B31x0 ⟨[(0, .p (.list (l.map Attr.pv))), (6, .p (.int .i64 l.length)), (7, .p (.int .i64 i))], [], []⟩ = some (.ret, ⟨[(2, .p (.int .i64 i)), (3, .p (.int .i64 e))], [], []⟩) →
        (∃ s', aexec (acall T (n + 35)) N B31x0 ⟨[(0, .p (.list (l.map Attr.pv))), (6, .p (.int .i64 l.length)), (7, .p (.int .i64 i))], [], []⟩ = some (.normal, (fun (i : Nat) => (⟨[(0, .p (.list (l.map Attr.pv))), (6, .p (.int .i64 l.length)), (7, .p (.int .i64 i))], [], []⟩ : St)) s') ∧ (s' ≤ l.length ∧ s' ≤ 64) ∧ l.length - s' < l.length - i ∧ chkOut (if attrErr (prevOf l i) i a = 0 then attrsChk (prevOf l (i + 1)) (i + 1) (l.drop (i + 1)) else ((i : Int), attrErr (prevOf l i) i a)) = chkOut (attrsChk (prevOf l s') s' (l.drop s'))) ∨
        (aexec (acall T (n + 35)) N B31x0 ⟨[(0, .p (.list (l.map Attr.pv))), (6, .p (.int .i64 l.length)), (7, .p (.int .i64 i))], [], []⟩ = some (chkOut (if attrErr (prevOf l i) i a = 0 then attrsChk (prevOf l (i + 1)) (i + 1) (l.drop (i + 1)) else ((i : Int), attrErr (prevOf l i) i a))) ∧ (chkOut (if attrErr (prevOf l i) i a = 0 then attrsChk (prevOf l (i + 1)) (i + 1) (l.drop (i + 1)) else ((i : Int), attrErr (prevOf l i) i a))).1 ≠ .normal) := fun e he h0 hr => by
      refine .inr ?_
      rw [he, if_neg h0]
      simp only [chkOut, h0, if_false]
      exact ⟨hr, by simp⟩
    by_cases h64 : i = 64
    · refine bad 12 (by simp [attrErr, h64]) (by decide) ?_
      have k2 : ((i : Int) == 64) = true := by simp; omega
      simp (implicitDefEqProofs := false) (maxSteps := 1000000) (disch := omega) only [Ra, Rb, Rc, Rd, Re, Rf, Rg, evalOp, St.know, mentions, AObj.mentions, bin, binI, avEq, Nat.reduceBEq, B31x0, k1, k2]
    have k2 : ((i : Int) == 64) = false := by simp; omega
    cases hnm : namedB true a.name with
    | false =>
      refine bad 8 (by simp [attrErr, h64, hnm]) (by decide) ?_
      simp (implicitDefEqProofs := false) (maxSteps := 1000000) (disch := omega) only [Ra, Rb, Rc, Rd, Re, Rf, Rg, evalOp, St.know, mentions, AObj.mentions, bin, binI, avEq, una, view, viewT, pureArg, allFlat, flat, Nat.reduceBEq, Nat.reduceAdd, asInt, B31x0, k1, k2, ga, Attr.pv, named02_run, hnm]
    | true =>
    by_cases hlong : 65536 < (a.value.length : Int)
    · refine bad 3 (by simp [attrErr, h64, hnm, hlong]) (by decide) ?_
      simp (implicitDefEqProofs := false) (maxSteps := 1000000) (disch := omega) only [Ra, Rb, Rc, Rd, Re, Rf, Rg, evalOp, St.know, mentions, AObj.mentions, bin, binI, avEq, una, view, viewT, pureArg, allFlat, flat, Nat.reduceBEq, Nat.reduceAdd, Nat.reduceLeDiff, asInt, B31x0, k1, k2, ga, Attr.pv, named02_run, hnm, hlong]
    cases i with
    | zero =>
      have e : attrErr (prevOf l 0) 0 a = 0 := by simp [attrErr, hnm, hlong, prevOf]
      rw [e, if_pos rfl]
      refine .inl ⟨1, ?_, ⟨by omega, by omega⟩, by omega, rfl⟩
      simp only [Int.natCast_zero, Int.natCast_one] at k1 k2 ⊢
      have k3 : (0 : Int) < (l.length : Int) := k1
      have ga0 : (l.map Attr.pv).getD 0 [] = Attr.pv a := ga
      have e0 : Int.toNat 0 = 0 := rfl
      simp (implicitDefEqProofs := false) (maxSteps := 1000000) (disch := omega) only [Ra, Rb, Rc, Rd, Re, Rf, Rg, guardK, evalOp, St.know, mentions, AObj.mentions, bin, binI, avEq, una, view, viewT, pureArg, allFlat, flat, Nat.reduceBEq, Nat.reduceAdd, Nat.reduceLeDiff, asInt, Int.reduceBEq, Int.reduceLT, Int.reduceLE, Int.reduceAdd, B31x0, k3, ga0, e0, Attr.pv, named02_run, hnm, hlong]
    | succ j =>
      obtain ⟨b, hb⟩ := get_some (show j < l.length by omega)
      have gb := getD_map (f := Attr.pv) hb
      have hsb := hs b (List.mem_of_getElem? hb)
      have ep : prevOf l (j + 1) = [b] := by simp [prevOf, hb]
      have k3 : (0 : Int) < (j : Int) + 1 := by omega
      have k4 : (j : Int) < (l.length : Int) := by omega
      simp only [Int.natCast_add, Int.natCast_one] at k1 k2
      have k5 : ((j : Int) + 1).toNat = j + 1 := by omega
      have hc := fun g => cmp_run (n := n + 34) b.name a.name g (by omega) (by omega)
      by_cases heq : b.name = a.name
      · refine bad 10 (by simp [attrErr, h64, hnm, hlong, ep, heq]) (by decide) ?_
        have heq' : (b.name == a.name) = true := by simpa using heq
        simp (implicitDefEqProofs := false) (maxSteps := 1000000) (disch := omega) only [Ra, Rb, Rc, Rd, Re, Rf, Rg, guardK, evalOp, St.know, mentions, AObj.mentions, bin, binI, avEq, una, view, viewT, pureArg, allFlat, flat, Nat.reduceBEq, Nat.reduceAdd, Nat.reduceLeDiff, asInt, B31x0, k1, k2, k3, k4, k5, ga, gb, Attr.pv, named02_run, hnm, hlong, heq']
      · have heq' : (b.name == a.name) = false := by simpa using heq
        by_cases hgt : 0 < cmpB b.name a.name
        · refine bad 9 (by simp [attrErr, h64, hnm, hlong, ep, heq, hgt]) (by decide) ?_
          simp (implicitDefEqProofs := false) (maxSteps := 1000000) (disch := omega) only [Ra, Rb, Rc, Rd, Re, Rf, Rg, guardK, evalOp, St.know, mentions, AObj.mentions, bin, binI, avEq, una, view, viewT, pureArg, allFlat, flat, Nat.reduceBEq, Nat.reduceAdd, Nat.reduceLeDiff, asInt, B31x0, k1, k2, k3, k4, k5, ga, gb, Attr.pv, named02_run, hnm, hlong, heq', hc, hgt]
        · have e : attrErr (prevOf l (j + 1)) (j + 1) a = 0 := by simp [attrErr, h64, hnm, hlong, ep, heq, hgt]
          rw [e, if_pos rfl]
          refine .inl ⟨j + 1 + 1, ?_, ⟨by omega, by omega⟩, by omega, rfl⟩
          simp (implicitDefEqProofs := false) (maxSteps := 1000000) (disch := omega) only [Ra, Rb, Rc, Rd, Re, Rf, Rg, guardK, evalOp, St.know, mentions, AObj.mentions, bin, binI, avEq, una, view, viewT, pureArg, allFlat, flat, Nat.reduceBEq, Nat.reduceAdd, Nat.reduceLeDiff, asInt, B31x0, k1, k2, k3, k4, k5, ga, gb, Attr.pv, named02_run, hnm, hlong, heq', hc, hgt]
  · have k1 : ¬ (i : Int) < (l.length : Int) := by omega
    have e : l.drop i = [] := List.drop_eq_nil_of_le (by omega)
    refine .inr ⟨?_, by rw [e]; simp [attrsChk, chkOut]⟩
    rw [e]
    simp (implicitDefEqProofs := false) (maxSteps := 1000000) (disch := omega) only [Ra, Rb, Rc, Rd, Re, Rf, Rg, evalOp, St.know, mentions, AObj.mentions, bin, binI, Nat.reduceBEq, B31x0, k1, attrsChk, chkOut]
theorem a09_run (l : List Attr) (hs : smallAttrs l) (g : List AObj) {n : Nat} (hl : l.length < n + 35) (hn : 1048576 < n) : acall T (n + 36) 31 [.p (.list (l.map Attr.pv))] g = some (.tuple [.p (.int .i64 (attrsChk [] 0 l).1), .p (.int .i64 (attrsErr l))], g) := by
  rw [acall_code T31, run_pure rfl rfl rfl]
  have hloop := a09_loop (n := n) (N := n + 35) l hs hl hn
  simp only [Int.natCast_zero] at hloop
  unfold attrsErr
  have h1 : (attrsChk [] 0 l).2 = 0 → (attrsChk [] 0 l).1 = 0 := by
    have key : ∀ (p : List Attr) (i : Nat) (l : List Attr), (attrsChk p i l).2 = 0 → (attrsChk p i l).1 = 0 := by
      intro p i l
      induction l generalizing p i with
      | nil => simp [attrsChk]
      | cons a l ih =>
        simp only [attrsChk]
        split
        · exact ih _ _
        · rename_i h; intro h'; exact absurd h' h
    exact key [] 0 l
  generalize attrsChk [] 0 l = r at hloop h1
  obtain ⟨x, e⟩ := r
  simp only [chkOut] at hloop h1 ⊢
  by_cases h : e = 0
  · rw [if_pos h] at hloop
    rw [h1 h, h]
    simp (implicitDefEqProofs := false) (maxSteps := 1000000) (disch := omega) only [Ra, Rb, Rc, Rd, Re, Rf, Rg, evalOp, List.zipWith, mentions, AObj.mentions, noLocal, view, tupleOf, oneTup, Nat.reduceBEq, Nat.reduceAdd, F31, hloop]
  · rw [if_neg h] at hloop
    simp (implicitDefEqProofs := false) (maxSteps := 1000000) (disch := omega) only [Ra, Rb, Rc, Rd, Re, Rf, Rg, evalOp, List.zipWith, mentions, AObj.mentions, noLocal, view, tupleOf, oneTup, Nat.reduceBEq, Nat.reduceAdd, F31, hloop]
end Go.TA.Tryd


end
