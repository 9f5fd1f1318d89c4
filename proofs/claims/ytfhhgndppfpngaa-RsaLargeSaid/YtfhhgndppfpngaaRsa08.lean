/- The document's numbers: guess. No condition. -/
import Derived.Test.YtfhhgndppfpngaaRsa07
set_option linter.unusedSimpArgs false
set_option linter.unusedVariables false
set_option linter.unusedSimpArgs false
set_option linter.unusedVariables false
namespace Go.Proofs
open Go.Ev Go.Mx
/-! ### Knuth's guess, as numbers -/
theorem top2 {v : List Nat} {m : Nat} (h : v.length = m + 2) : val v = (v.getD (m + 1) 0 * LB + v.getD m 0) * LB ^ m + val (v.take m) := by
  have h1 := val_take_succ v m (by omega)
  have h2 := val_take_succ v (m + 1) (by omega)
  rw [List.take_of_length_le (by omega)] at h2
  rw [h2, h1, Nat.pow_succ, Nat.add_mul]
  have : v.getD (m + 1) 0 * LB * LB ^ m = v.getD (m + 1) 0 * (LB ^ m * LB) := by rw [Nat.mul_assoc, Nat.mul_comm LB]
  omega
theorem top3 {w : List Nat} {m : Nat} (h : w.length = m + 3) : val w = ((w.getD (m + 2) 0 * LB + w.getD (m + 1) 0) * LB + w.getD m 0) * LB ^ m + val (w.take m) := by
  have h1 := val_take_succ w m (by omega)
  have h2 : val (w.take (m + 2)) = val (w.take (m + 1)) + w.getD (m + 1) 0 * (LB ^ m * LB) := by rw [← Nat.pow_succ]; exact val_take_succ w (m + 1) (by omega)
  have h3 : val w = val (w.take (m + 2)) + w.getD (m + 2) 0 * (LB ^ m * LB * LB) := by
    have h := val_take_succ w (m + 2) (by omega)
    rw [List.take_of_length_le (by omega)] at h
    rw [h, Nat.pow_succ, Nat.pow_succ]
  have e1 : w.getD (m + 2) 0 * LB * LB * LB ^ m = w.getD (m + 2) 0 * (LB ^ m * LB * LB) := by simp only [Nat.mul_assoc, Nat.mul_comm, Nat.mul_left_comm]
  have e2 : w.getD (m + 1) 0 * LB * LB ^ m = w.getD (m + 1) 0 * (LB ^ m * LB) := by simp only [Nat.mul_assoc, Nat.mul_comm, Nat.mul_left_comm]
  simp only [Nat.add_mul]
  omega
theorem low_lt {w : List Nat} (hl : Limbs w) {m : Nat} (h : m ≤ w.length) : val (w.take m) < LB ^ m := by
  have := val_lt (l := w.take m) (fun x hx => hl x (List.mem_of_mem_take hx))
  rwa [List.length_take, Nat.min_eq_left h] at this
variable {q r v1 v0 T u0 P wl vl W V : Nat}
theorem g_decr (hT : q * v1 + r = T) (hw : wl < P) (hW : W = (T * LB + u0) * P + wl) (hV : V = (v1 * LB + v0) * P + vl) (h : r * LB + u0 < q * v0) : W < q * V := by
  have h1 : T * LB + u0 + 1 ≤ q * (v1 * LB + v0) := by
    have : q * (v1 * LB + v0) = q * v1 * LB + q * v0 := by rw [Nat.mul_add, Nat.mul_assoc]
    rw [this, ← hT, Nat.add_mul]
    omega
  have h2 := Nat.mul_le_mul_right P h1
  rw [Nat.add_mul, Nat.one_mul, Nat.mul_assoc] at h2
  have h3 : q * V = q * ((v1 * LB + v0) * P) + q * vl := by rw [hV, Nat.mul_add]
  omega
theorem g_stop (hT : q * v1 + r = T) (hv : vl < P) (hW : W = (T * LB + u0) * P + wl) (hV : V = (v1 * LB + v0) * P + vl) (hq : q < LB) (h1 : 1 ≤ v1) (h : q * v0 ≤ r * LB + u0) : q * V ≤ W + V := by
  have e1 : q * (v1 * LB + v0) ≤ T * LB + u0 := by
    have : q * (v1 * LB + v0) = q * v1 * LB + q * v0 := by rw [Nat.mul_add, Nat.mul_assoc]
    rw [this, ← hT, Nat.add_mul]
    omega
  have e2 := Nat.mul_le_mul_right P e1
  rw [Nat.mul_assoc] at e2
  have e3 : q * vl ≤ LB * P := Nat.mul_le_mul (by omega) (by omega)
  have e4 : LB * P ≤ v1 * LB * P := by
    have := Nat.mul_le_mul_right P (Nat.mul_le_mul_right LB h1)
    rwa [Nat.one_mul] at this
  have e5 : q * V = q * ((v1 * LB + v0) * P) + q * vl := by rw [hV, Nat.mul_add]
  have e6 : (v1 * LB + v0) * P = v1 * LB * P + v0 * P := Nat.add_mul _ _ _
  omega
theorem g_over (hT : q * v1 + r = T) (hv : vl < P) (hW : W = (T * LB + u0) * P + wl) (hV : V = (v1 * LB + v0) * P + vl) (hq : q < LB) (h1 : 1 ≤ v1) (hv0 : v0 < LB) (h : LB ≤ r) : q * V ≤ W + V := by
  refine g_stop hT hv hW hV hq h1 ?_
  have e1 : q * v0 ≤ LB * LB := Nat.mul_le_mul (by omega) (by omega)
  have e2 : LB * LB ≤ r * LB := Nat.mul_le_mul_right _ h
  omega
theorem g_init (hv1 : 0 < v1) (hu : u0 < LB) (hw : wl < P) (hW : W = (T * LB + u0) * P + wl) (hV : V = (v1 * LB + v0) * P + vl) : W < (T / v1 + 1) * V := by
  have h1 : T + 1 ≤ (T / v1 + 1) * v1 := by
    have := Nat.lt_div_mul_add hv1 (a := T)
    rw [Nat.add_mul, Nat.one_mul]
    omega
  have h2 := Nat.mul_le_mul_right LB h1
  rw [Nat.add_mul T, Nat.one_mul, Nat.mul_assoc] at h2
  have h3 : T * LB + u0 + 1 ≤ (T / v1 + 1) * (v1 * LB + v0) := by
    rw [Nat.mul_add]
    omega
  have h4 := Nat.mul_le_mul_right P h3
  rw [Nat.add_mul, Nat.one_mul, Nat.mul_assoc] at h4
  have h5 : (T / v1 + 1) * V = (T / v1 + 1) * ((v1 * LB + v0) * P) + (T / v1 + 1) * vl := by rw [hV, Nat.mul_add]
  omega
/-- The two highest digits of what is at most so often the divisor. -/
theorem g_top (hP : 0 < P) (hW : W = (T * LB + u0) * P + wl) (hV : V = (v1 * LB + v0) * P + vl) (hv : vl < P) (hv0 : v0 < LB) (h : W < LB * V) : T < v1 * LB + LB := by
  rcases Nat.lt_or_ge T (v1 * LB + LB) with h' | h'
  · exact h'
  · exfalso
    have e1 := Nat.mul_le_mul_right LB h'
    have e2 : LB * (v1 * LB + v0 + 1) ≤ (v1 * LB + LB) * LB := by
      rw [Nat.mul_comm]
      exact Nat.mul_le_mul_right _ (by omega)
    have e3 : LB * (v1 * LB + v0 + 1) * P ≤ (T * LB + u0) * P := Nat.mul_le_mul_right _ (by omega)
    have e4 : LB * V ≤ LB * ((v1 * LB + v0 + 1) * P) := Nat.mul_le_mul_left _ (by rw [hV, Nat.add_mul (v1 * LB + v0) 1, Nat.one_mul]; omega)
    rw [← Nat.mul_assoc] at e4
    omega
end Go.Proofs
set_option linter.unusedSimpArgs false
set_option linter.unusedVariables false
namespace Go.Proofs
open Go.Ev Go.Mx
theorem rs_lv49 : rsC.lv 49 = [true, true, true, false, false, false, true, true, true, true, true, false, false, false, false, false, false, false, false, false, false, false, false, false, false, false, false, false, false, false, false, false, false, false, false, false, false, false, false, false, false, false, false, false, false, false, false, false, false, false, false, false, false, false, false, false, false, false, false, false, false, false, false, false, false, false, false, false, false, false, false, true, false, false, false, false, false, false, false, false, false, false, false, true, false] := by kernel_rfl
set_option maxRecDepth 100000 in
set_option maxHeartbeats 4000000 in
theorem rs_guess (lo w hi v : List Nat) (m : Nat) (hlw : Limbs w) (hlv : Limbs v) (hw : w.length = m + 3) (hv : v.length = m + 2) (hsz : (lo ++ w ++ hi).length ≤ 100000) (htop : LB ≤ 2 * v.getD (m + 1) 0) (hW : val w < LB * val v) :
    ∃ g : Nat, WP rsC 49 [N32 (lo ++ w ++ hi), N32 v, .int .i64 (lo.length : Int)] = some (.int .u64 (g : Int)) ∧ g < LB ∧ val w < (g + 1) * val v ∧ g * val v ≤ val w + val v := by
  obtain ⟨LI, hLI⟩ : ∃ x : Int, x = 4294967296 := ⟨_, rfl⟩
  obtain ⟨s32, hs32⟩ : ∃ x : Int, x = 32 := ⟨_, rfl⟩
  have hLB : LB = 4294967296 := rfl
  have hLU : (lo ++ w ++ hi).length = lo.length + (m + 3) + hi.length := by simp [hw]; omega
  have hdig := rs_digit v hlv m
  have i1 : IntKind.i64.wrap ((lo.length : Int) + (v.length : Int)) = ((lo.length + (m + 2) : Nat) : Int) := by rw [wrap_i64 (by omega) (by omega)]; omega
  have i2 : IntKind.i64.wrap (((lo.length + (m + 2) : Nat) : Int) - 1) = ((lo.length + (m + 1) : Nat) : Int) := by rw [wrap_i64 (by omega) (by omega)]; omega
  have i3 : IntKind.i64.wrap (((lo.length + (m + 2) : Nat) : Int) - 2) = ((lo.length + m : Nat) : Int) := by rw [wrap_i64 (by omega) (by omega)]; omega
  have j1 : IntKind.i64.wrap ((v.length : Int) - 1) = ((m + 1 : Nat) : Int) := by rw [wrap_i64 (by omega) (by omega)]; omega
  have j2 : IntKind.i64.wrap ((v.length : Int) - 2) = (m : Int) := by rw [wrap_i64 (by omega) (by omega)]; omega
  have x2i := ix32 (l := lo ++ w ++ hi) (x := false) (i := lo.length + (m + 2)) (by omega)
  have x1i := ix32 (l := lo ++ w ++ hi) (x := false) (i := lo.length + (m + 1)) (by omega)
  have x0i := ix32 (l := lo ++ w ++ hi) (x := false) (i := lo.length + m) (by omega)
  have y1i := ix32 (l := v) (x := false) (i := m + 1) (by omega)
  have x2l := fun H => ld32 (l := lo ++ w ++ hi) (i := lo.length + (m + 2)) (H := H) (by omega)
  have x1l := fun H => ld32 (l := lo ++ w ++ hi) (i := lo.length + (m + 1)) (H := H) (by omega)
  have x0l := fun H => ld32 (l := lo ++ w ++ hi) (i := lo.length + m) (H := H) (by omega)
  have y1l := fun H => ld32 (l := v) (i := m + 1) (H := H) (by omega)
  rw [getD_mid (by omega)] at x2l x1l x0l
  have d2 := limbs_getD hlw (m + 2)
  have d1 := limbs_getD hlw (m + 1)
  have d0 := limbs_getD hlw m
  have e1 := limbs_getD hlv (m + 1)
  have e0 := limbs_getD hlv m
  have hWt := top3 hw
  have hVt := top2 hv
  have hwl := low_lt hlw (m := m) (by omega)
  have hvl := low_lt hlv (m := m) (by omega)
  generalize w.getD (m + 2) 0 = x2 at *
  generalize w.getD (m + 1) 0 = x1 at *
  generalize w.getD m 0 = x0 at *
  generalize v.getD (m + 1) 0 = y1 at *
  generalize v.getD m 0 = y0 at *
  generalize val (w.take m) = wl at *
  generalize val (v.take m) = vl at *
  generalize LB ^ m = P at *
  generalize hWW : val w = W at *
  generalize hVV : val v = V at *
  obtain ⟨T, hT⟩ : ∃ T, T = x2 * LB + x1 := ⟨_, rfl⟩
  have hjo := b_joined (P := Try.prog) (t := 47) d2 d1
  rw [← hT] at hWt hjo
  have hT64 : T < 18446744073709551616 := by
    have : x2 * LB ≤ (LB - 1) * LB := Nat.mul_le_mul_right _ (by omega)
    rw [show (LB - 1) * LB = 18446744069414584320 by decide] at this
    omega
  have hy1 : 0 < y1 := by omega
  have hqu := b_quo (P := Try.prog) (t := 47) (a := T) (b := y1) (by omega) hT64
  have hre := b_rem (P := Try.prog) (t := 47) (a := T) (b := y1) (by omega)
  have c2 := w64 (x := x2) (by omega)
  have c1 := w64 (x := x1) (by omega)
  have c0 := w64 (x := x0) (by omega)
  have cy := w64 (x := y1) (by omega)
  have hTt := g_top (by omega) hWt hVt hvl e0 hW
  simp only [N32] at hdig
  rw [WP_eq (show rsC.md 49 < 9 by decide) Try.func49 rfl]
  rw [show Try.f49.ntmps = 85 from rfl, rs_lv49]
  simp only [N32, List.map_cons, List.map_nil, List.length_cons, List.length_nil, Nat.reduceAdd, Nat.reduceSub, List.replicate, List.cons_append, List.nil_append]
  simp only [seqT, thn_normal, thn_ret, thn_exit, WC_region, WC_cond, WC_exit, WC_skip, WC_block, WC_ret, evRegion, Bool.false_eq_true, if_false, if_true, reduceIte, ops_n, ops_c, evStep, wantedA, evOp, opv, putA, ret1, ofVal, ofVal1, cellsOf, AV.isCell, clean, evFieldAddr, evField, evExtract, evBuild, evIndex, evBuiltin, evBuildSlice, evNilCheck, blkRead, mkAgg, mkTup, mapO, AV.pure?, setAt, afill, parts, calleeOf, tell, scalar, scalarL, frz, norm, normL, ids, Go.Ev.mark, deep, evResults, evResult, aggCells, partA, List.getElem?_cons_zero, List.getElem?_cons_succ, List.getElem?_nil, List.map_cons, List.map_nil, List.all_cons, List.all_nil, Bool.and_true, Bool.true_and, Bool.and_false, Bool.false_and, Bool.and_self, Bool.not_true, Bool.not_false, Bool.or_true, Bool.or_false, Bool.false_or, Bool.true_or, List.set, List.length_cons, List.length_nil, List.nil_append, List.cons_append, List.append_nil, Nat.reduceAdd, Nat.reduceSub, Nat.reduceMul, Nat.reduceLeDiff, Nat.zero_add, Nat.reduceEqDiff, List.replicate, List.drop, List.take, List.flatMap_cons, List.flatMap_nil, List.foldl_nil, List.foldl_cons, decide_true, decide_false, and_self, and_true, true_and, BEq.rfl, beq_self_eq_true, Option.map_some, Option.map_none, Option.bind_some, Option.bind_none, List.getElem?_toArray, Option.isSome_some, Option.isSome_none, beqs, ne_eq, not_true_eq_false, not_false_eq_true, false_or, or_false, or_self, Nat.reduceLT, false_and, and_false, List.nil_append, evEq, eqc, optO, b_add, b_sub, b_mul, b_eql, b_neq, b_lss, b_leq, b_gtr, b_geq, u_not, flags0, flags1, rs_P, len32 rs_P, i1, i2, i3, j1, j2, x2i, x1i, x0i, y1i, x2l, x1l, x0l, y1l, pu, mulConv, c2, c1, c0, cy, b_shl32 d2, hjo, hqu, hre]
  generalize hI : (Code.loop _ : Code) = I
  have inner : ∀ (q r : Nat) (t71 t83 : AV), q * y1 + r = T → r < LB → W < (q + 1) * V → q ≤ LB + 1 → ∃ (g r' : Nat) (t71' t83' : AV),
      WC rsC [true, true, true, false, false, false, true, true, true, true, true, false, false, false, false, false, false, false, false, false, false, false, false, false, false, false, false, false, false, false, false, false, false, false, false, false, false, false, false, false, false, false, false, false, false, false, false, false, false, false, false, false, false, false, false, false, false, false, false, false, false, false, false, false, false, false, false, false, false, false, false, true, false, false, false, false, false, false, false, false, false, false, false, true, false] I ⟨[.p (.sl (lo ++ w ++ hi).length false ((lo ++ w ++ hi).map pu)), .p (.sl v.length false (v.map pu)), .p (.int .i64 (lo.length : Int)), .p .any, .p .any, .p .any, .p (.int .u64 0), .p (.int .i64 (v.length : Int)), .p (.int .u64 (T : Int)), .p (.int .u64 (q : Int)), .p (.int .u64 (r : Int)), .p .any, .p .any, .p .any, .p .any, .p .any, .p .any, .p .any, .p .any, .p .any, .p .any, .p .any, .p .any, .p .any, .p .any, .p .any, .p .any, .p .any, .p .any, .p .any, .p .any, .p .any, .p .any, .p .any, .p .any, .p .any, .p .any, .p .any, .p .any, .p .any, .p .any, .p .any, .p .any, .p .any, .p .any, .p .any, .p .any, .p .any, .p .any, .p .any, .p .any, .p .any, .p .any, .p .any, .p .any, .p .any, .p .any, .p .any, .p .any, .p .any, .p .any, .p .any, .p .any, .p .any, .p .any, .p .any, .p .any, .p .any, .p .any, .p .any, .p .any, t71, .p .any, .p .any, .p .any, .p .any, .p .any, .p .any, .p .any, .p .any, .p .any, .p .any, .p .any, t83, .p .any], []⟩ = some (.exit 0, ⟨[.p (.sl (lo ++ w ++ hi).length false ((lo ++ w ++ hi).map pu)), .p (.sl v.length false (v.map pu)), .p (.int .i64 (lo.length : Int)), .p .any, .p .any, .p .any, .p (.int .u64 0), .p (.int .i64 (v.length : Int)), .p (.int .u64 (T : Int)), .p (.int .u64 (g : Int)), .p (.int .u64 (r' : Int)), .p .any, .p .any, .p .any, .p .any, .p .any, .p .any, .p .any, .p .any, .p .any, .p .any, .p .any, .p .any, .p .any, .p .any, .p .any, .p .any, .p .any, .p .any, .p .any, .p .any, .p .any, .p .any, .p .any, .p .any, .p .any, .p .any, .p .any, .p .any, .p .any, .p .any, .p .any, .p .any, .p .any, .p .any, .p .any, .p .any, .p .any, .p .any, .p .any, .p .any, .p .any, .p .any, .p .any, .p .any, .p .any, .p .any, .p .any, .p .any, .p .any, .p .any, .p .any, .p .any, .p .any, .p .any, .p .any, .p .any, .p .any, .p .any, .p .any, .p .any, t71', .p .any, .p .any, .p .any, .p .any, .p .any, .p .any, .p .any, .p .any, .p .any, .p .any, .p .any, t83', .p .any], []⟩) ∧ g < LB ∧ W < (g + 1) * V ∧ g * V ≤ W + V := by
    intro q
    induction q with
    | zero =>
      intro r t71 t83 hq hr hQ hle
      obtain ⟨R, hR⟩ : ∃ R, R = r * LB := ⟨_, rfl⟩
      obtain ⟨N, hN⟩ : ∃ N, N = r * LB + x0 := ⟨_, rfl⟩
      have hs1 : ∀ (P : Program) (t : TypeId) (k : IntKind), evBin P .shl t (.p (.int .u64 (r : Int))) (.p (.int k 32)) = some (.p (.int .u64 (R : Int))) := fun P t k => by rw [hR]; exact b_shl32 hr
      have hs2 : ∀ (P : Program) (t : TypeId), evBin P .or t (.p (.int .u64 (R : Int))) (.p (.int .u64 (x0 : Int))) = some (.p (.int .u64 (N : Int))) := fun P t => by rw [hR, hN]; exact b_joined hr d0
      have hge : decide (((0 : Nat) : Int) ≥ 4294967296) = false := by decide
      have hrl : decide ((r : Int) < 4294967296) = true := by simp; omega
      have hm : IntKind.u64.wrap (((0 : Nat) : Int) * (y0 : Int)) = ((0 : Nat) : Int) := by simp; rfl
      have hgt : decide (((0 : Nat) : Int) > (N : Int)) = false := decide_eq_false (fun h => Nat.not_lt_zero _ (Int.ofNat_lt.1 h))
      refine ⟨0, r, .p (.bool false), t83, ?_, by decide, hQ, by omega⟩
      rw [← hI, WC_loop, hI]; rw [← hLI] at hge hrl ⊢; rw [← hs32] at hs1 ⊢
      simp only [seqT, thn_normal, thn_ret, thn_exit, WC_region, WC_cond, WC_exit, WC_skip, WC_block, WC_ret, evRegion, Bool.false_eq_true, if_false, if_true, reduceIte, ops_n, ops_c, evStep, wantedA, evOp, opv, putA, ret1, ofVal, ofVal1, cellsOf, AV.isCell, clean, evFieldAddr, evField, evExtract, evBuild, evIndex, evBuiltin, evBuildSlice, evNilCheck, blkRead, mkAgg, mkTup, mapO, AV.pure?, setAt, afill, parts, calleeOf, tell, scalar, scalarL, frz, norm, normL, ids, Go.Ev.mark, deep, evResults, evResult, aggCells, partA, List.getElem?_cons_zero, List.getElem?_cons_succ, List.getElem?_nil, List.map_cons, List.map_nil, List.all_cons, List.all_nil, Bool.and_true, Bool.true_and, Bool.and_false, Bool.false_and, Bool.and_self, Bool.not_true, Bool.not_false, Bool.or_true, Bool.or_false, Bool.false_or, Bool.true_or, List.set, List.length_cons, List.length_nil, List.nil_append, List.cons_append, List.append_nil, Nat.reduceAdd, Nat.reduceSub, Nat.reduceMul, Nat.reduceLeDiff, Nat.zero_add, Nat.reduceEqDiff, List.replicate, List.drop, List.take, List.flatMap_cons, List.flatMap_nil, List.foldl_nil, List.foldl_cons, decide_true, decide_false, and_self, and_true, true_and, BEq.rfl, beq_self_eq_true, Option.map_some, Option.map_none, Option.bind_some, Option.bind_none, List.getElem?_toArray, Option.isSome_some, Option.isSome_none, beqs, ne_eq, not_true_eq_false, not_false_eq_true, false_or, or_false, or_self, Nat.reduceLT, false_and, and_false, List.nil_append, evEq, eqc, optO, b_add, b_sub, b_mul, b_eql, b_neq, b_lss, b_leq, b_gtr, b_geq, u_not, flags0, flags1, rs_P, len32 rs_P, i1, i2, i3, j1, j2, x2i, x1i, x0i, y1i, x2l, x1l, x0l, y1l, pu, mulConv, c2, c1, c0, cy, hge, hrl, hdig, hm, hs1, hs2, hgt, evCall_tab (show ∀ f xs, rsC.O f xs = none from fun _ _ => rfl), show rsC.md 30 = 0 from rfl, normN]
    | succ q ih =>
      intro r t71 t83 hq hr hQ hle
      have hq' : q * y1 + (r + y1) = T := by rw [← hq, Nat.add_mul]; omega
      have hsub : IntKind.u64.wrap (((q + 1 : Nat) : Int) - 1) = (q : Int) := by rw [w64 (x := q) (by omega) |>.symm]; congr 1; omega
      have hadd : IntKind.u64.wrap ((r : Int) + (y1 : Int)) = ((r + y1 : Nat) : Int) := by rw [← Int.natCast_add]; exact w64 (by omega)
      by_cases hbig : LB ≤ q + 1
      · have hge : decide (((q + 1 : Nat) : Int) ≥ 4294967296) = true := by simp; omega
        have hQ' : W < (q + 1) * V := Nat.lt_of_lt_of_le hW (Nat.mul_le_mul_right _ hbig)
        by_cases hbr : LB ≤ r + y1
        · have hbd : decide (((r + y1 : Nat) : Int) ≥ 4294967296) = true := by simp; omega
          have hqL : q < LB := by
            rcases Nat.lt_or_ge q LB with h | h
            · exact h
            · exfalso
              have : LB * y1 ≤ q * y1 := Nat.mul_le_mul_right _ h
              rw [Nat.mul_comm LB] at this
              omega
          refine ⟨q, r + y1, .p (.bool true), .p (.bool true), ?_, hqL, hQ', g_over hq' hvl hWt hVt hqL hy1 e0 hbr⟩
          rw [← hI, WC_loop, hI]; rw [← hLI] at hge hbd ⊢
          simp only [seqT, thn_normal, thn_ret, thn_exit, WC_region, WC_cond, WC_exit, WC_skip, WC_block, WC_ret, evRegion, Bool.false_eq_true, if_false, if_true, reduceIte, ops_n, ops_c, evStep, wantedA, evOp, opv, putA, ret1, ofVal, ofVal1, cellsOf, AV.isCell, clean, evFieldAddr, evField, evExtract, evBuild, evIndex, evBuiltin, evBuildSlice, evNilCheck, blkRead, mkAgg, mkTup, mapO, AV.pure?, setAt, afill, parts, calleeOf, tell, scalar, scalarL, frz, norm, normL, ids, Go.Ev.mark, deep, evResults, evResult, aggCells, partA, List.getElem?_cons_zero, List.getElem?_cons_succ, List.getElem?_nil, List.map_cons, List.map_nil, List.all_cons, List.all_nil, Bool.and_true, Bool.true_and, Bool.and_false, Bool.false_and, Bool.and_self, Bool.not_true, Bool.not_false, Bool.or_true, Bool.or_false, Bool.false_or, Bool.true_or, List.set, List.length_cons, List.length_nil, List.nil_append, List.cons_append, List.append_nil, Nat.reduceAdd, Nat.reduceSub, Nat.reduceMul, Nat.reduceLeDiff, Nat.zero_add, Nat.reduceEqDiff, List.replicate, List.drop, List.take, List.flatMap_cons, List.flatMap_nil, List.foldl_nil, List.foldl_cons, decide_true, decide_false, and_self, and_true, true_and, BEq.rfl, beq_self_eq_true, Option.map_some, Option.map_none, Option.bind_some, Option.bind_none, List.getElem?_toArray, Option.isSome_some, Option.isSome_none, beqs, ne_eq, not_true_eq_false, not_false_eq_true, false_or, or_false, or_self, Nat.reduceLT, false_and, and_false, List.nil_append, evEq, eqc, optO, b_add, b_sub, b_mul, b_eql, b_neq, b_lss, b_leq, b_gtr, b_geq, u_not, flags0, flags1, rs_P, len32 rs_P, i1, i2, i3, j1, j2, x2i, x1i, x0i, y1i, x2l, x1l, x0l, y1l, pu, mulConv, c2, c1, c0, cy, hge, hsub, hadd, hbd, evCall_tab (show ∀ f xs, rsC.O f xs = none from fun _ _ => rfl), show rsC.md 30 = 0 from rfl, normN]
        · have hbd : decide (((r + y1 : Nat) : Int) ≥ 4294967296) = false := by simp; omega
          obtain ⟨g, r', t71', t83', h1, h2⟩ := ih (r + y1) (.p (.bool true)) (.p (.bool false)) hq' (by omega) hQ' (by omega)
          refine ⟨g, r', t71', t83', ?_, h2⟩
          rw [← hI, WC_loop, hI]; rw [← hLI] at hge hbd ⊢
          simp only [seqT, thn_normal, thn_ret, thn_exit, WC_region, WC_cond, WC_exit, WC_skip, WC_block, WC_ret, evRegion, Bool.false_eq_true, if_false, if_true, reduceIte, ops_n, ops_c, evStep, wantedA, evOp, opv, putA, ret1, ofVal, ofVal1, cellsOf, AV.isCell, clean, evFieldAddr, evField, evExtract, evBuild, evIndex, evBuiltin, evBuildSlice, evNilCheck, blkRead, mkAgg, mkTup, mapO, AV.pure?, setAt, afill, parts, calleeOf, tell, scalar, scalarL, frz, norm, normL, ids, Go.Ev.mark, deep, evResults, evResult, aggCells, partA, List.getElem?_cons_zero, List.getElem?_cons_succ, List.getElem?_nil, List.map_cons, List.map_nil, List.all_cons, List.all_nil, Bool.and_true, Bool.true_and, Bool.and_false, Bool.false_and, Bool.and_self, Bool.not_true, Bool.not_false, Bool.or_true, Bool.or_false, Bool.false_or, Bool.true_or, List.set, List.length_cons, List.length_nil, List.nil_append, List.cons_append, List.append_nil, Nat.reduceAdd, Nat.reduceSub, Nat.reduceMul, Nat.reduceLeDiff, Nat.zero_add, Nat.reduceEqDiff, List.replicate, List.drop, List.take, List.flatMap_cons, List.flatMap_nil, List.foldl_nil, List.foldl_cons, decide_true, decide_false, and_self, and_true, true_and, BEq.rfl, beq_self_eq_true, Option.map_some, Option.map_none, Option.bind_some, Option.bind_none, List.getElem?_toArray, Option.isSome_some, Option.isSome_none, beqs, ne_eq, not_true_eq_false, not_false_eq_true, false_or, or_false, or_self, Nat.reduceLT, false_and, and_false, List.nil_append, evEq, eqc, optO, b_add, b_sub, b_mul, b_eql, b_neq, b_lss, b_leq, b_gtr, b_geq, u_not, flags0, flags1, rs_P, len32 rs_P, i1, i2, i3, j1, j2, x2i, x1i, x0i, y1i, x2l, x1l, x0l, y1l, pu, mulConv, c2, c1, c0, cy, hge, hsub, hadd, hbd, evCall_tab (show ∀ f xs, rsC.O f xs = none from fun _ _ => rfl), show rsC.md 30 = 0 from rfl, normN]
          exact h1
      · have hge : decide (((q + 1 : Nat) : Int) ≥ 4294967296) = false := by simp; omega
        obtain ⟨R, hR⟩ : ∃ R, R = r * LB := ⟨_, rfl⟩
        obtain ⟨N, hN⟩ : ∃ N, N = r * LB + x0 := ⟨_, rfl⟩
        have hs1 : ∀ (P : Program) (t : TypeId) (k : IntKind), evBin P .shl t (.p (.int .u64 (r : Int))) (.p (.int k 32)) = some (.p (.int .u64 (R : Int))) := fun P t k => by rw [hR]; exact b_shl32 hr
        have hs2 : ∀ (P : Program) (t : TypeId), evBin P .or t (.p (.int .u64 (R : Int))) (.p (.int .u64 (x0 : Int))) = some (.p (.int .u64 (N : Int))) := fun P t => by rw [hR, hN]; exact b_joined hr d0
        have hrl : decide ((r : Int) < 4294967296) = true := by simp; omega
        have hmb : (q + 1) * y0 ≤ (LB - 1) * (LB - 1) := Nat.mul_le_mul (by omega) (by omega)
        rw [show (LB - 1) * (LB - 1) = 18446744065119617025 by decide] at hmb
        obtain ⟨M, hM⟩ : ∃ M, M = (q + 1) * y0 := ⟨_, rfl⟩
        have hm : IntKind.u64.wrap (((q + 1 : Nat) : Int) * (y0 : Int)) = (M : Int) := by rw [← Int.natCast_mul, ← hM]; exact w64 (by omega)
        by_cases hc : r * LB + x0 < (q + 1) * y0
        · have hgt : decide ((M : Int) > (N : Int)) = true := decide_eq_true (Int.ofNat_lt.2 (by omega))
          have hQ' : W < (q + 1) * V := g_decr hq hwl hWt hVt hc
          by_cases hbr : LB ≤ r + y1
          · have hbd : decide (((r + y1 : Nat) : Int) ≥ 4294967296) = true := by simp; omega
            refine ⟨q, r + y1, .p (.bool true), .p (.bool true), ?_, by omega, hQ', g_over hq' hvl hWt hVt (by omega) hy1 e0 hbr⟩
            rw [← hI, WC_loop, hI]; rw [← hLI] at hge hrl hbd ⊢; rw [← hs32] at hs1 ⊢
            simp only [seqT, thn_normal, thn_ret, thn_exit, WC_region, WC_cond, WC_exit, WC_skip, WC_block, WC_ret, evRegion, Bool.false_eq_true, if_false, if_true, reduceIte, ops_n, ops_c, evStep, wantedA, evOp, opv, putA, ret1, ofVal, ofVal1, cellsOf, AV.isCell, clean, evFieldAddr, evField, evExtract, evBuild, evIndex, evBuiltin, evBuildSlice, evNilCheck, blkRead, mkAgg, mkTup, mapO, AV.pure?, setAt, afill, parts, calleeOf, tell, scalar, scalarL, frz, norm, normL, ids, Go.Ev.mark, deep, evResults, evResult, aggCells, partA, List.getElem?_cons_zero, List.getElem?_cons_succ, List.getElem?_nil, List.map_cons, List.map_nil, List.all_cons, List.all_nil, Bool.and_true, Bool.true_and, Bool.and_false, Bool.false_and, Bool.and_self, Bool.not_true, Bool.not_false, Bool.or_true, Bool.or_false, Bool.false_or, Bool.true_or, List.set, List.length_cons, List.length_nil, List.nil_append, List.cons_append, List.append_nil, Nat.reduceAdd, Nat.reduceSub, Nat.reduceMul, Nat.reduceLeDiff, Nat.zero_add, Nat.reduceEqDiff, List.replicate, List.drop, List.take, List.flatMap_cons, List.flatMap_nil, List.foldl_nil, List.foldl_cons, decide_true, decide_false, and_self, and_true, true_and, BEq.rfl, beq_self_eq_true, Option.map_some, Option.map_none, Option.bind_some, Option.bind_none, List.getElem?_toArray, Option.isSome_some, Option.isSome_none, beqs, ne_eq, not_true_eq_false, not_false_eq_true, false_or, or_false, or_self, Nat.reduceLT, false_and, and_false, List.nil_append, evEq, eqc, optO, b_add, b_sub, b_mul, b_eql, b_neq, b_lss, b_leq, b_gtr, b_geq, u_not, flags0, flags1, rs_P, len32 rs_P, i1, i2, i3, j1, j2, x2i, x1i, x0i, y1i, x2l, x1l, x0l, y1l, pu, mulConv, c2, c1, c0, cy, hge, hrl, hdig, hm, hs1, hs2, hgt, hsub, hadd, hbd, evCall_tab (show ∀ f xs, rsC.O f xs = none from fun _ _ => rfl), show rsC.md 30 = 0 from rfl, normN]
          · have hbd : decide (((r + y1 : Nat) : Int) ≥ 4294967296) = false := by simp; omega
            obtain ⟨g, r', t71', t83', h1, h2⟩ := ih (r + y1) (.p (.bool true)) (.p (.bool false)) hq' (by omega) hQ' (by omega)
            refine ⟨g, r', t71', t83', ?_, h2⟩
            rw [← hI, WC_loop, hI]; rw [← hLI] at hge hrl hbd ⊢; rw [← hs32] at hs1 ⊢
            simp only [seqT, thn_normal, thn_ret, thn_exit, WC_region, WC_cond, WC_exit, WC_skip, WC_block, WC_ret, evRegion, Bool.false_eq_true, if_false, if_true, reduceIte, ops_n, ops_c, evStep, wantedA, evOp, opv, putA, ret1, ofVal, ofVal1, cellsOf, AV.isCell, clean, evFieldAddr, evField, evExtract, evBuild, evIndex, evBuiltin, evBuildSlice, evNilCheck, blkRead, mkAgg, mkTup, mapO, AV.pure?, setAt, afill, parts, calleeOf, tell, scalar, scalarL, frz, norm, normL, ids, Go.Ev.mark, deep, evResults, evResult, aggCells, partA, List.getElem?_cons_zero, List.getElem?_cons_succ, List.getElem?_nil, List.map_cons, List.map_nil, List.all_cons, List.all_nil, Bool.and_true, Bool.true_and, Bool.and_false, Bool.false_and, Bool.and_self, Bool.not_true, Bool.not_false, Bool.or_true, Bool.or_false, Bool.false_or, Bool.true_or, List.set, List.length_cons, List.length_nil, List.nil_append, List.cons_append, List.append_nil, Nat.reduceAdd, Nat.reduceSub, Nat.reduceMul, Nat.reduceLeDiff, Nat.zero_add, Nat.reduceEqDiff, List.replicate, List.drop, List.take, List.flatMap_cons, List.flatMap_nil, List.foldl_nil, List.foldl_cons, decide_true, decide_false, and_self, and_true, true_and, BEq.rfl, beq_self_eq_true, Option.map_some, Option.map_none, Option.bind_some, Option.bind_none, List.getElem?_toArray, Option.isSome_some, Option.isSome_none, beqs, ne_eq, not_true_eq_false, not_false_eq_true, false_or, or_false, or_self, Nat.reduceLT, false_and, and_false, List.nil_append, evEq, eqc, optO, b_add, b_sub, b_mul, b_eql, b_neq, b_lss, b_leq, b_gtr, b_geq, u_not, flags0, flags1, rs_P, len32 rs_P, i1, i2, i3, j1, j2, x2i, x1i, x0i, y1i, x2l, x1l, x0l, y1l, pu, mulConv, c2, c1, c0, cy, hge, hrl, hdig, hm, hs1, hs2, hgt, hsub, hadd, hbd, evCall_tab (show ∀ f xs, rsC.O f xs = none from fun _ _ => rfl), show rsC.md 30 = 0 from rfl, normN]
            exact h1
        · have hgt : decide ((M : Int) > (N : Int)) = false := decide_eq_false (fun h => by have := Int.ofNat_lt.1 h; omega)
          refine ⟨q + 1, r, .p (.bool false), t83, ?_, by omega, hQ, g_stop hq hvl hWt hVt (by omega) hy1 (by omega)⟩
          rw [← hI, WC_loop, hI]; rw [← hLI] at hge hrl ⊢; rw [← hs32] at hs1 ⊢
          simp only [seqT, thn_normal, thn_ret, thn_exit, WC_region, WC_cond, WC_exit, WC_skip, WC_block, WC_ret, evRegion, Bool.false_eq_true, if_false, if_true, reduceIte, ops_n, ops_c, evStep, wantedA, evOp, opv, putA, ret1, ofVal, ofVal1, cellsOf, AV.isCell, clean, evFieldAddr, evField, evExtract, evBuild, evIndex, evBuiltin, evBuildSlice, evNilCheck, blkRead, mkAgg, mkTup, mapO, AV.pure?, setAt, afill, parts, calleeOf, tell, scalar, scalarL, frz, norm, normL, ids, Go.Ev.mark, deep, evResults, evResult, aggCells, partA, List.getElem?_cons_zero, List.getElem?_cons_succ, List.getElem?_nil, List.map_cons, List.map_nil, List.all_cons, List.all_nil, Bool.and_true, Bool.true_and, Bool.and_false, Bool.false_and, Bool.and_self, Bool.not_true, Bool.not_false, Bool.or_true, Bool.or_false, Bool.false_or, Bool.true_or, List.set, List.length_cons, List.length_nil, List.nil_append, List.cons_append, List.append_nil, Nat.reduceAdd, Nat.reduceSub, Nat.reduceMul, Nat.reduceLeDiff, Nat.zero_add, Nat.reduceEqDiff, List.replicate, List.drop, List.take, List.flatMap_cons, List.flatMap_nil, List.foldl_nil, List.foldl_cons, decide_true, decide_false, and_self, and_true, true_and, BEq.rfl, beq_self_eq_true, Option.map_some, Option.map_none, Option.bind_some, Option.bind_none, List.getElem?_toArray, Option.isSome_some, Option.isSome_none, beqs, ne_eq, not_true_eq_false, not_false_eq_true, false_or, or_false, or_self, Nat.reduceLT, false_and, and_false, List.nil_append, evEq, eqc, optO, b_add, b_sub, b_mul, b_eql, b_neq, b_lss, b_leq, b_gtr, b_geq, u_not, flags0, flags1, rs_P, len32 rs_P, i1, i2, i3, j1, j2, x2i, x1i, x0i, y1i, x2l, x1l, x0l, y1l, pu, mulConv, c2, c1, c0, cy, hge, hrl, hdig, hm, hs1, hs2, hgt, evCall_tab (show ∀ f xs, rsC.O f xs = none from fun _ _ => rfl), show rsC.md 30 = 0 from rfl, normN]
  have hqm : T / y1 * y1 + T % y1 = T := by rw [Nat.mul_comm]; exact Nat.div_add_mod T y1
  have hrm := Nat.mod_lt T hy1
  obtain ⟨g, r', t71', t83', k1, k2, k3, k4⟩ := inner (T / y1) (T % y1) (.p .und) (.p .und) hqm (by omega) (g_init hy1 d0 hwl hWt hVt) (by
    have : T / y1 < LB + 2 := by
      rw [Nat.div_lt_iff_lt_mul hy1, Nat.add_mul, Nat.mul_comm LB]
      omega
    omega)
  rw [k1]
  refine ⟨g, ?_, k2, k3, k4⟩
  simp only [seqT, thn_normal, thn_ret, thn_exit, WC_region, WC_cond, WC_exit, WC_skip, WC_block, WC_ret, evRegion, Bool.false_eq_true, if_false, if_true, reduceIte, ops_n, ops_c, evStep, wantedA, evOp, opv, putA, ret1, ofVal, ofVal1, cellsOf, AV.isCell, clean, evFieldAddr, evField, evExtract, evBuild, evIndex, evBuiltin, evBuildSlice, evNilCheck, blkRead, mkAgg, mkTup, mapO, AV.pure?, setAt, afill, parts, calleeOf, tell, scalar, scalarL, frz, norm, normL, ids, Go.Ev.mark, deep, evResults, evResult, aggCells, partA, List.getElem?_cons_zero, List.getElem?_cons_succ, List.getElem?_nil, List.map_cons, List.map_nil, List.all_cons, List.all_nil, Bool.and_true, Bool.true_and, Bool.and_false, Bool.false_and, Bool.and_self, Bool.not_true, Bool.not_false, Bool.or_true, Bool.or_false, Bool.false_or, Bool.true_or, List.set, List.length_cons, List.length_nil, List.nil_append, List.cons_append, List.append_nil, Nat.reduceAdd, Nat.reduceSub, Nat.reduceMul, Nat.reduceLeDiff, Nat.zero_add, Nat.reduceEqDiff, List.replicate, List.drop, List.take, List.flatMap_cons, List.flatMap_nil, List.foldl_nil, List.foldl_cons, decide_true, decide_false, and_self, and_true, true_and, BEq.rfl, beq_self_eq_true, Option.map_some, Option.map_none, Option.bind_some, Option.bind_none, List.getElem?_toArray, Option.isSome_some, Option.isSome_none, beqs, ne_eq, not_true_eq_false, not_false_eq_true, false_or, or_false, or_self, Nat.reduceLT, false_and, and_false, List.nil_append, evEq, eqc, optO, b_add, b_sub, b_mul, b_eql, b_neq, b_lss, b_leq, b_gtr, b_geq, u_not, flags0, flags1, rs_P, show Try.f49.results = #[.tmp 6] from rfl]
end Go.Proofs
