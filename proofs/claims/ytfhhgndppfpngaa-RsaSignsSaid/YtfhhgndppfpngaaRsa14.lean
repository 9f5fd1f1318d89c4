/- The program's numbers: guess, Compare, Len32. No condition. -/
import Derived.Test.YtfhhgndppfpngaaRsa13
set_option linter.unusedSimpArgs false
set_option linter.unusedVariables false
set_option linter.unusedSimpArgs false
set_option linter.unusedVariables false
namespace Go.Proofs
open Go.Ev Go.Mx
theorem rs_lv65 : rsC.lv 65 = [true, true, false, false, true, true, true, true, true, false, false, false, false, false, false, false, false, false, false, false, false, false, false, false, false, false, false, false, false, false, false, false, false, false, false, false, false, false, false, false, false, false, false, false, false, false, false, false, false, false, false, false, false, false, false, false, false, false, false, false, false, false, true, false, false, false, false, false, false, false, false, false, false, false, false, true, false] := by kernel_rfl
set_option maxRecDepth 100000 in
set_option maxHeartbeats 4000000 in
theorem rs_nguess (w v : List Nat) (m : Nat) (hlw : Limbs w) (hlv : Limbs v) (hw : w.length = m + 3) (hv : v.length = m + 2) (hsz : w.length ≤ 100000) (htop : LB ≤ 2 * v.getD (m + 1) 0) (hW : val w < LB * val v) :
    ∃ g : Nat, WP rsC 65 [N32 w, N32 v] = some (.int .u64 (g : Int)) ∧ g < LB ∧ val w < (g + 1) * val v ∧ g * val v ≤ val w + val v := by
  obtain ⟨LI, hLI⟩ : ∃ x : Int, x = 4294967296 := ⟨_, rfl⟩
  obtain ⟨s32, hs32⟩ : ∃ x : Int, x = 32 := ⟨_, rfl⟩
  have hLB : LB = 4294967296 := rfl
  have hsr : ∀ (P : Program) (t : TypeId) (k : IntKind) (x : Nat), evBin P .shr t (.p (.int .u64 (x : Int))) (.p (.int k s32)) = some (.p (.int .u64 ((x / LB : Nat) : Int))) := fun P t k x => by rw [hs32]; exact b_shr32
  have j1 : IntKind.i64.wrap ((v.length : Int) - 1) = ((m + 1 : Nat) : Int) := by rw [wrap_i64 (by omega) (by omega)]; omega
  have j2 : IntKind.i64.wrap ((v.length : Int) - 2) = (m : Int) := by rw [wrap_i64 (by omega) (by omega)]; omega
  have x2i := ix32 (l := w) (x := false) (i := v.length) (by omega)
  have x1i := ix32 (l := w) (x := false) (i := m + 1) (by omega)
  have x0i := ix32 (l := w) (x := false) (i := m) (by omega)
  have y1i := ix32 (l := v) (x := false) (i := m + 1) (by omega)
  have y0i := ix32 (l := v) (x := false) (i := m) (by omega)
  have x2l := fun H => ld32 (l := w) (i := v.length) (H := H) (by omega)
  have x1l := fun H => ld32 (l := w) (i := m + 1) (H := H) (by omega)
  have x0l := fun H => ld32 (l := w) (i := m) (H := H) (by omega)
  have y1l := fun H => ld32 (l := v) (i := m + 1) (H := H) (by omega)
  have y0l := fun H => ld32 (l := v) (i := m) (H := H) (by omega)
  rw [show w.getD v.length 0 = w.getD (m + 2) 0 by rw [hv]] at x2l
  have d2 := limbs_getD hlw (m + 2)
  have d1 := limbs_getD hlw (m + 1)
  have d0 := limbs_getD hlw m
  have e1 := limbs_getD hlv (m + 1)
  have e0 := limbs_getD hlv m
  have hWt := top3 hw
  have hVt := top2 hv
  have hwl := low_lt hlw (m := m) (by omega)
  have hvl := low_lt hlv (m := m) (by omega)
  generalize w.getD (m + 2) 0 = x2 at *
  generalize w.getD (m + 1) 0 = x1 at *
  generalize w.getD m 0 = x0 at *
  generalize v.getD (m + 1) 0 = y1 at *
  generalize v.getD m 0 = y0 at *
  generalize val (w.take m) = wl at *
  generalize val (v.take m) = vl at *
  generalize LB ^ m = P at *
  generalize hWW : val w = W at *
  generalize hVV : val v = V at *
  obtain ⟨T, hT⟩ : ∃ T, T = x2 * LB + x1 := ⟨_, rfl⟩
  have hjo := b_joined (P := Try.prog) (t := 47) d2 d1
  rw [← hT] at hWt hjo
  have hT64 : T < 18446744073709551616 := by
    have : x2 * LB ≤ (LB - 1) * LB := Nat.mul_le_mul_right _ (by omega)
    rw [show (LB - 1) * LB = 18446744069414584320 by decide] at this
    omega
  have hy1 : 0 < y1 := by omega
  have hqu := b_quo (P := Try.prog) (t := 47) (a := T) (b := y1) (by omega) hT64
  have hre := b_rem (P := Try.prog) (t := 47) (a := T) (b := y1) (by omega)
  have c2 := w64 (x := x2) (by omega)
  have c1 := w64 (x := x1) (by omega)
  have c0 := w64 (x := x0) (by omega)
  have cy := w64 (x := y1) (by omega)
  have cy0 := w64 (x := y0) (by omega)
  have hTt := g_top (by omega) hWt hVt hvl e0 hW
  rw [WP_eq (show rsC.md 65 < 9 by decide) Try.func65 rfl]
  rw [show Try.f65.ntmps = 77 from rfl, rs_lv65]
  simp only [N32, List.map_cons, List.map_nil, List.length_cons, List.length_nil, Nat.reduceAdd, Nat.reduceSub, List.replicate, List.cons_append, List.nil_append]
  simp only [seqT, thn_normal, thn_ret, thn_exit, WC_region, WC_cond, WC_exit, WC_skip, WC_block, WC_ret, evRegion, Bool.false_eq_true, if_false, if_true, reduceIte, ops_n, ops_c, evStep, wantedA, evOp, opv, putA, ret1, ofVal, ofVal1, cellsOf, AV.isCell, clean, evFieldAddr, evField, evExtract, evBuild, evIndex, evBuiltin, evBuildSlice, evNilCheck, blkRead, mkAgg, mkTup, mapO, AV.pure?, setAt, afill, parts, calleeOf, tell, scalar, scalarL, frz, norm, normL, ids, Go.Ev.mark, deep, evResults, evResult, aggCells, partA, List.getElem?_cons_zero, List.getElem?_cons_succ, List.getElem?_nil, List.map_cons, List.map_nil, List.all_cons, List.all_nil, Bool.and_true, Bool.true_and, Bool.and_false, Bool.false_and, Bool.and_self, Bool.not_true, Bool.not_false, Bool.or_true, Bool.or_false, Bool.false_or, Bool.true_or, List.set, List.length_cons, List.length_nil, List.nil_append, List.cons_append, List.append_nil, Nat.reduceAdd, Nat.reduceSub, Nat.reduceMul, Nat.reduceLeDiff, Nat.zero_add, Nat.reduceEqDiff, List.replicate, List.drop, List.take, List.flatMap_cons, List.flatMap_nil, List.foldl_nil, List.foldl_cons, decide_true, decide_false, and_self, and_true, true_and, BEq.rfl, beq_self_eq_true, Option.map_some, Option.map_none, Option.bind_some, Option.bind_none, List.getElem?_toArray, Option.isSome_some, Option.isSome_none, beqs, ne_eq, not_true_eq_false, not_false_eq_true, false_or, or_false, or_self, Nat.reduceLT, false_and, and_false, List.nil_append, evEq, eqc, optO, b_add, b_sub, b_mul, b_eql, b_neq, b_lss, b_leq, b_gtr, b_geq, u_not, flags0, flags1, rs_P, len32 rs_P, j1, j2, x2i, x1i, x0i, y1i, y0i, x2l, x1l, x0l, y1l, y0l, pu, mulConv, c2, c1, c0, cy, cy0, b_shr32, hsr, b_shl32 d2, hjo, hqu, hre]
  generalize hI : (Code.loop _ : Code) = I
  have inner : ∀ (q r : Nat) (t62 t75 : AV), q * y1 + r = T → r < LB → W < (q + 1) * V → q ≤ LB + 1 → ∃ (g r' : Nat) (t62' t75' : AV),
      WC rsC [true, true, false, false, true, true, true, true, true, false, false, false, false, false, false, false, false, false, false, false, false, false, false, false, false, false, false, false, false, false, false, false, false, false, false, false, false, false, false, false, false, false, false, false, false, false, false, false, false, false, false, false, false, false, false, false, false, false, false, false, false, false, true, false, false, false, false, false, false, false, false, false, false, false, false, true, false] I ⟨[.p (.sl w.length false (w.map pu)), .p (.sl v.length false (v.map pu)), .p .any, .p .any, .p (.int .u64 0), .p (.int .i64 (v.length : Int)), .p (.int .u64 (T : Int)), .p (.int .u64 (q : Int)), .p (.int .u64 (r : Int)), .p .any, .p .any, .p .any, .p .any, .p .any, .p .any, .p .any, .p .any, .p .any, .p .any, .p .any, .p .any, .p .any, .p .any, .p .any, .p .any, .p .any, .p .any, .p .any, .p .any, .p .any, .p .any, .p .any, .p .any, .p .any, .p .any, .p .any, .p .any, .p .any, .p .any, .p .any, .p .any, .p .any, .p .any, .p .any, .p .any, .p .any, .p .any, .p .any, .p .any, .p .any, .p .any, .p .any, .p .any, .p .any, .p .any, .p .any, .p .any, .p .any, .p .any, .p .any, .p .any, .p .any, t62, .p .any, .p .any, .p .any, .p .any, .p .any, .p .any, .p .any, .p .any, .p .any, .p .any, .p .any, .p .any, t75, .p .any], []⟩ = some (.exit 0, ⟨[.p (.sl w.length false (w.map pu)), .p (.sl v.length false (v.map pu)), .p .any, .p .any, .p (.int .u64 0), .p (.int .i64 (v.length : Int)), .p (.int .u64 (T : Int)), .p (.int .u64 (g : Int)), .p (.int .u64 (r' : Int)), .p .any, .p .any, .p .any, .p .any, .p .any, .p .any, .p .any, .p .any, .p .any, .p .any, .p .any, .p .any, .p .any, .p .any, .p .any, .p .any, .p .any, .p .any, .p .any, .p .any, .p .any, .p .any, .p .any, .p .any, .p .any, .p .any, .p .any, .p .any, .p .any, .p .any, .p .any, .p .any, .p .any, .p .any, .p .any, .p .any, .p .any, .p .any, .p .any, .p .any, .p .any, .p .any, .p .any, .p .any, .p .any, .p .any, .p .any, .p .any, .p .any, .p .any, .p .any, .p .any, .p .any, t62', .p .any, .p .any, .p .any, .p .any, .p .any, .p .any, .p .any, .p .any, .p .any, .p .any, .p .any, .p .any, t75', .p .any], []⟩) ∧ g < LB ∧ W < (g + 1) * V ∧ g * V ≤ W + V := by
    intro q
    induction q with
    | zero =>
      intro r t62 t75 hq hr hQ hle
      obtain ⟨R, hR⟩ : ∃ R, R = r * LB := ⟨_, rfl⟩
      obtain ⟨N, hN⟩ : ∃ N, N = r * LB + x0 := ⟨_, rfl⟩
      have hs1 : ∀ (P : Program) (t : TypeId) (k : IntKind), evBin P .shl t (.p (.int .u64 (r : Int))) (.p (.int k 32)) = some (.p (.int .u64 (R : Int))) := fun P t k => by rw [hR]; exact b_shl32 hr
      have hs2 : ∀ (P : Program) (t : TypeId), evBin P .or t (.p (.int .u64 (R : Int))) (.p (.int .u64 (x0 : Int))) = some (.p (.int .u64 (N : Int))) := fun P t => by rw [hR, hN]; exact b_joined hr d0
      have hge : decide (((0 / LB : Nat) : Int) > 0) = false := by decide
      have hm : IntKind.u64.wrap (((0 : Nat) : Int) * (y0 : Int)) = ((0 : Nat) : Int) := by simp; rfl
      have hgt : decide (((0 : Nat) : Int) > (N : Int)) = false := decide_eq_false (fun h => Nat.not_lt_zero _ (Int.ofNat_lt.1 h))
      refine ⟨0, r, .p (.bool false), t75, ?_, by decide, hQ, by omega⟩
      rw [← hI, WC_loop, hI]; rw [← hs32] at hs1 ⊢
      simp only [seqT, thn_normal, thn_ret, thn_exit, WC_region, WC_cond, WC_exit, WC_skip, WC_block, WC_ret, evRegion, Bool.false_eq_true, if_false, if_true, reduceIte, ops_n, ops_c, evStep, wantedA, evOp, opv, putA, ret1, ofVal, ofVal1, cellsOf, AV.isCell, clean, evFieldAddr, evField, evExtract, evBuild, evIndex, evBuiltin, evBuildSlice, evNilCheck, blkRead, mkAgg, mkTup, mapO, AV.pure?, setAt, afill, parts, calleeOf, tell, scalar, scalarL, frz, norm, normL, ids, Go.Ev.mark, deep, evResults, evResult, aggCells, partA, List.getElem?_cons_zero, List.getElem?_cons_succ, List.getElem?_nil, List.map_cons, List.map_nil, List.all_cons, List.all_nil, Bool.and_true, Bool.true_and, Bool.and_false, Bool.false_and, Bool.and_self, Bool.not_true, Bool.not_false, Bool.or_true, Bool.or_false, Bool.false_or, Bool.true_or, List.set, List.length_cons, List.length_nil, List.nil_append, List.cons_append, List.append_nil, Nat.reduceAdd, Nat.reduceSub, Nat.reduceMul, Nat.reduceLeDiff, Nat.zero_add, Nat.reduceEqDiff, List.replicate, List.drop, List.take, List.flatMap_cons, List.flatMap_nil, List.foldl_nil, List.foldl_cons, decide_true, decide_false, and_self, and_true, true_and, BEq.rfl, beq_self_eq_true, Option.map_some, Option.map_none, Option.bind_some, Option.bind_none, List.getElem?_toArray, Option.isSome_some, Option.isSome_none, beqs, ne_eq, not_true_eq_false, not_false_eq_true, false_or, or_false, or_self, Nat.reduceLT, false_and, and_false, List.nil_append, evEq, eqc, optO, b_add, b_sub, b_mul, b_eql, b_neq, b_lss, b_leq, b_gtr, b_geq, u_not, flags0, flags1, rs_P, len32 rs_P, j1, j2, x2i, x1i, x0i, y1i, y0i, x2l, x1l, x0l, y1l, y0l, pu, mulConv, c2, c1, c0, cy, cy0, b_shr32, hsr, hge, hm, hs1, hs2, hgt, evCall_tab (show ∀ f xs, rsC.O f xs = none from fun _ _ => rfl), show rsC.md 30 = 0 from rfl, normN]
    | succ q ih =>
      intro r t62 t75 hq hr hQ hle
      have hq' : q * y1 + (r + y1) = T := by rw [← hq, Nat.add_mul]; omega
      have hsub : IntKind.u64.wrap (((q + 1 : Nat) : Int) - 1) = (q : Int) := by rw [w64 (x := q) (by omega) |>.symm]; congr 1; omega
      have hadd : IntKind.u64.wrap ((r : Int) + (y1 : Int)) = ((r + y1 : Nat) : Int) := by rw [← Int.natCast_add]; exact w64 (by omega)
      by_cases hbig : LB ≤ q + 1
      · have hge : decide ((((q + 1) / LB : Nat) : Int) > 0) = true := decide_eq_true (by have := Nat.div_pos hbig (show 0 < LB by decide); omega)
        have hQ' : W < (q + 1) * V := Nat.lt_of_lt_of_le hW (Nat.mul_le_mul_right _ hbig)
        by_cases hbr : LB ≤ r + y1
        · have hbd : decide ((((r + y1) / LB : Nat) : Int) > 0) = true := decide_eq_true (by have := Nat.div_pos hbr (show 0 < LB by decide); omega)
          have hqL : q < LB := by
            rcases Nat.lt_or_ge q LB with h | h
            · exact h
            · exfalso
              have : LB * y1 ≤ q * y1 := Nat.mul_le_mul_right _ h
              rw [Nat.mul_comm LB] at this
              omega
          refine ⟨q, r + y1, .p (.bool true), .p (.bool true), ?_, hqL, hQ', g_over hq' hvl hWt hVt hqL hy1 e0 hbr⟩
          rw [← hI, WC_loop, hI]
          simp only [seqT, thn_normal, thn_ret, thn_exit, WC_region, WC_cond, WC_exit, WC_skip, WC_block, WC_ret, evRegion, Bool.false_eq_true, if_false, if_true, reduceIte, ops_n, ops_c, evStep, wantedA, evOp, opv, putA, ret1, ofVal, ofVal1, cellsOf, AV.isCell, clean, evFieldAddr, evField, evExtract, evBuild, evIndex, evBuiltin, evBuildSlice, evNilCheck, blkRead, mkAgg, mkTup, mapO, AV.pure?, setAt, afill, parts, calleeOf, tell, scalar, scalarL, frz, norm, normL, ids, Go.Ev.mark, deep, evResults, evResult, aggCells, partA, List.getElem?_cons_zero, List.getElem?_cons_succ, List.getElem?_nil, List.map_cons, List.map_nil, List.all_cons, List.all_nil, Bool.and_true, Bool.true_and, Bool.and_false, Bool.false_and, Bool.and_self, Bool.not_true, Bool.not_false, Bool.or_true, Bool.or_false, Bool.false_or, Bool.true_or, List.set, List.length_cons, List.length_nil, List.nil_append, List.cons_append, List.append_nil, Nat.reduceAdd, Nat.reduceSub, Nat.reduceMul, Nat.reduceLeDiff, Nat.zero_add, Nat.reduceEqDiff, List.replicate, List.drop, List.take, List.flatMap_cons, List.flatMap_nil, List.foldl_nil, List.foldl_cons, decide_true, decide_false, and_self, and_true, true_and, BEq.rfl, beq_self_eq_true, Option.map_some, Option.map_none, Option.bind_some, Option.bind_none, List.getElem?_toArray, Option.isSome_some, Option.isSome_none, beqs, ne_eq, not_true_eq_false, not_false_eq_true, false_or, or_false, or_self, Nat.reduceLT, false_and, and_false, List.nil_append, evEq, eqc, optO, b_add, b_sub, b_mul, b_eql, b_neq, b_lss, b_leq, b_gtr, b_geq, u_not, flags0, flags1, rs_P, len32 rs_P, j1, j2, x2i, x1i, x0i, y1i, y0i, x2l, x1l, x0l, y1l, y0l, pu, mulConv, c2, c1, c0, cy, cy0, b_shr32, hsr, hge, hsub, hadd, hbd, evCall_tab (show ∀ f xs, rsC.O f xs = none from fun _ _ => rfl), show rsC.md 30 = 0 from rfl, normN]
        · have hbd : decide ((((r + y1) / LB : Nat) : Int) > 0) = false := by rw [Nat.div_eq_of_lt (by omega)]; decide
          obtain ⟨g, r', t62', t75', h1, h2⟩ := ih (r + y1) (.p (.bool true)) (.p (.bool false)) hq' (by omega) hQ' (by omega)
          refine ⟨g, r', t62', t75', ?_, h2⟩
          rw [← hI, WC_loop, hI]
          simp only [seqT, thn_normal, thn_ret, thn_exit, WC_region, WC_cond, WC_exit, WC_skip, WC_block, WC_ret, evRegion, Bool.false_eq_true, if_false, if_true, reduceIte, ops_n, ops_c, evStep, wantedA, evOp, opv, putA, ret1, ofVal, ofVal1, cellsOf, AV.isCell, clean, evFieldAddr, evField, evExtract, evBuild, evIndex, evBuiltin, evBuildSlice, evNilCheck, blkRead, mkAgg, mkTup, mapO, AV.pure?, setAt, afill, parts, calleeOf, tell, scalar, scalarL, frz, norm, normL, ids, Go.Ev.mark, deep, evResults, evResult, aggCells, partA, List.getElem?_cons_zero, List.getElem?_cons_succ, List.getElem?_nil, List.map_cons, List.map_nil, List.all_cons, List.all_nil, Bool.and_true, Bool.true_and, Bool.and_false, Bool.false_and, Bool.and_self, Bool.not_true, Bool.not_false, Bool.or_true, Bool.or_false, Bool.false_or, Bool.true_or, List.set, List.length_cons, List.length_nil, List.nil_append, List.cons_append, List.append_nil, Nat.reduceAdd, Nat.reduceSub, Nat.reduceMul, Nat.reduceLeDiff, Nat.zero_add, Nat.reduceEqDiff, List.replicate, List.drop, List.take, List.flatMap_cons, List.flatMap_nil, List.foldl_nil, List.foldl_cons, decide_true, decide_false, and_self, and_true, true_and, BEq.rfl, beq_self_eq_true, Option.map_some, Option.map_none, Option.bind_some, Option.bind_none, List.getElem?_toArray, Option.isSome_some, Option.isSome_none, beqs, ne_eq, not_true_eq_false, not_false_eq_true, false_or, or_false, or_self, Nat.reduceLT, false_and, and_false, List.nil_append, evEq, eqc, optO, b_add, b_sub, b_mul, b_eql, b_neq, b_lss, b_leq, b_gtr, b_geq, u_not, flags0, flags1, rs_P, len32 rs_P, j1, j2, x2i, x1i, x0i, y1i, y0i, x2l, x1l, x0l, y1l, y0l, pu, mulConv, c2, c1, c0, cy, cy0, b_shr32, hsr, hge, hsub, hadd, hbd, evCall_tab (show ∀ f xs, rsC.O f xs = none from fun _ _ => rfl), show rsC.md 30 = 0 from rfl, normN]
          exact h1
      · have hge : decide ((((q + 1) / LB : Nat) : Int) > 0) = false := by rw [Nat.div_eq_of_lt (by omega)]; decide
        obtain ⟨R, hR⟩ : ∃ R, R = r * LB := ⟨_, rfl⟩
        obtain ⟨N, hN⟩ : ∃ N, N = r * LB + x0 := ⟨_, rfl⟩
        have hs1 : ∀ (P : Program) (t : TypeId) (k : IntKind), evBin P .shl t (.p (.int .u64 (r : Int))) (.p (.int k 32)) = some (.p (.int .u64 (R : Int))) := fun P t k => by rw [hR]; exact b_shl32 hr
        have hs2 : ∀ (P : Program) (t : TypeId), evBin P .or t (.p (.int .u64 (R : Int))) (.p (.int .u64 (x0 : Int))) = some (.p (.int .u64 (N : Int))) := fun P t => by rw [hR, hN]; exact b_joined hr d0
        have hmb : (q + 1) * y0 ≤ (LB - 1) * (LB - 1) := Nat.mul_le_mul (by omega) (by omega)
        rw [show (LB - 1) * (LB - 1) = 18446744065119617025 by decide] at hmb
        obtain ⟨M, hM⟩ : ∃ M, M = (q + 1) * y0 := ⟨_, rfl⟩
        have hm : IntKind.u64.wrap (((q + 1 : Nat) : Int) * (y0 : Int)) = (M : Int) := by rw [← Int.natCast_mul, ← hM]; exact w64 (by omega)
        by_cases hc : r * LB + x0 < (q + 1) * y0
        · have hgt : decide ((M : Int) > (N : Int)) = true := decide_eq_true (Int.ofNat_lt.2 (by omega))
          have hQ' : W < (q + 1) * V := g_decr hq hwl hWt hVt hc
          by_cases hbr : LB ≤ r + y1
          · have hbd : decide ((((r + y1) / LB : Nat) : Int) > 0) = true := decide_eq_true (by have := Nat.div_pos hbr (show 0 < LB by decide); omega)
            refine ⟨q, r + y1, .p (.bool true), .p (.bool true), ?_, by omega, hQ', g_over hq' hvl hWt hVt (by omega) hy1 e0 hbr⟩
            rw [← hI, WC_loop, hI]; rw [← hs32] at hs1 ⊢
            simp only [seqT, thn_normal, thn_ret, thn_exit, WC_region, WC_cond, WC_exit, WC_skip, WC_block, WC_ret, evRegion, Bool.false_eq_true, if_false, if_true, reduceIte, ops_n, ops_c, evStep, wantedA, evOp, opv, putA, ret1, ofVal, ofVal1, cellsOf, AV.isCell, clean, evFieldAddr, evField, evExtract, evBuild, evIndex, evBuiltin, evBuildSlice, evNilCheck, blkRead, mkAgg, mkTup, mapO, AV.pure?, setAt, afill, parts, calleeOf, tell, scalar, scalarL, frz, norm, normL, ids, Go.Ev.mark, deep, evResults, evResult, aggCells, partA, List.getElem?_cons_zero, List.getElem?_cons_succ, List.getElem?_nil, List.map_cons, List.map_nil, List.all_cons, List.all_nil, Bool.and_true, Bool.true_and, Bool.and_false, Bool.false_and, Bool.and_self, Bool.not_true, Bool.not_false, Bool.or_true, Bool.or_false, Bool.false_or, Bool.true_or, List.set, List.length_cons, List.length_nil, List.nil_append, List.cons_append, List.append_nil, Nat.reduceAdd, Nat.reduceSub, Nat.reduceMul, Nat.reduceLeDiff, Nat.zero_add, Nat.reduceEqDiff, List.replicate, List.drop, List.take, List.flatMap_cons, List.flatMap_nil, List.foldl_nil, List.foldl_cons, decide_true, decide_false, and_self, and_true, true_and, BEq.rfl, beq_self_eq_true, Option.map_some, Option.map_none, Option.bind_some, Option.bind_none, List.getElem?_toArray, Option.isSome_some, Option.isSome_none, beqs, ne_eq, not_true_eq_false, not_false_eq_true, false_or, or_false, or_self, Nat.reduceLT, false_and, and_false, List.nil_append, evEq, eqc, optO, b_add, b_sub, b_mul, b_eql, b_neq, b_lss, b_leq, b_gtr, b_geq, u_not, flags0, flags1, rs_P, len32 rs_P, j1, j2, x2i, x1i, x0i, y1i, y0i, x2l, x1l, x0l, y1l, y0l, pu, mulConv, c2, c1, c0, cy, cy0, b_shr32, hsr, hge, hm, hs1, hs2, hgt, hsub, hadd, hbd, evCall_tab (show ∀ f xs, rsC.O f xs = none from fun _ _ => rfl), show rsC.md 30 = 0 from rfl, normN]
          · have hbd : decide ((((r + y1) / LB : Nat) : Int) > 0) = false := by rw [Nat.div_eq_of_lt (by omega)]; decide
            obtain ⟨g, r', t62', t75', h1, h2⟩ := ih (r + y1) (.p (.bool true)) (.p (.bool false)) hq' (by omega) hQ' (by omega)
            refine ⟨g, r', t62', t75', ?_, h2⟩
            rw [← hI, WC_loop, hI]; rw [← hs32] at hs1 ⊢
            simp only [seqT, thn_normal, thn_ret, thn_exit, WC_region, WC_cond, WC_exit, WC_skip, WC_block, WC_ret, evRegion, Bool.false_eq_true, if_false, if_true, reduceIte, ops_n, ops_c, evStep, wantedA, evOp, opv, putA, ret1, ofVal, ofVal1, cellsOf, AV.isCell, clean, evFieldAddr, evField, evExtract, evBuild, evIndex, evBuiltin, evBuildSlice, evNilCheck, blkRead, mkAgg, mkTup, mapO, AV.pure?, setAt, afill, parts, calleeOf, tell, scalar, scalarL, frz, norm, normL, ids, Go.Ev.mark, deep, evResults, evResult, aggCells, partA, List.getElem?_cons_zero, List.getElem?_cons_succ, List.getElem?_nil, List.map_cons, List.map_nil, List.all_cons, List.all_nil, Bool.and_true, Bool.true_and, Bool.and_false, Bool.false_and, Bool.and_self, Bool.not_true, Bool.not_false, Bool.or_true, Bool.or_false, Bool.false_or, Bool.true_or, List.set, List.length_cons, List.length_nil, List.nil_append, List.cons_append, List.append_nil, Nat.reduceAdd, Nat.reduceSub, Nat.reduceMul, Nat.reduceLeDiff, Nat.zero_add, Nat.reduceEqDiff, List.replicate, List.drop, List.take, List.flatMap_cons, List.flatMap_nil, List.foldl_nil, List.foldl_cons, decide_true, decide_false, and_self, and_true, true_and, BEq.rfl, beq_self_eq_true, Option.map_some, Option.map_none, Option.bind_some, Option.bind_none, List.getElem?_toArray, Option.isSome_some, Option.isSome_none, beqs, ne_eq, not_true_eq_false, not_false_eq_true, false_or, or_false, or_self, Nat.reduceLT, false_and, and_false, List.nil_append, evEq, eqc, optO, b_add, b_sub, b_mul, b_eql, b_neq, b_lss, b_leq, b_gtr, b_geq, u_not, flags0, flags1, rs_P, len32 rs_P, j1, j2, x2i, x1i, x0i, y1i, y0i, x2l, x1l, x0l, y1l, y0l, pu, mulConv, c2, c1, c0, cy, cy0, b_shr32, hsr, hge, hm, hs1, hs2, hgt, hsub, hadd, hbd, evCall_tab (show ∀ f xs, rsC.O f xs = none from fun _ _ => rfl), show rsC.md 30 = 0 from rfl, normN]
            exact h1
        · have hgt : decide ((M : Int) > (N : Int)) = false := decide_eq_false (fun h => by have := Int.ofNat_lt.1 h; omega)
          refine ⟨q + 1, r, .p (.bool false), t75, ?_, by omega, hQ, g_stop hq hvl hWt hVt (by omega) hy1 (by omega)⟩
          rw [← hI, WC_loop, hI]; rw [← hs32] at hs1 ⊢
          simp only [seqT, thn_normal, thn_ret, thn_exit, WC_region, WC_cond, WC_exit, WC_skip, WC_block, WC_ret, evRegion, Bool.false_eq_true, if_false, if_true, reduceIte, ops_n, ops_c, evStep, wantedA, evOp, opv, putA, ret1, ofVal, ofVal1, cellsOf, AV.isCell, clean, evFieldAddr, evField, evExtract, evBuild, evIndex, evBuiltin, evBuildSlice, evNilCheck, blkRead, mkAgg, mkTup, mapO, AV.pure?, setAt, afill, parts, calleeOf, tell, scalar, scalarL, frz, norm, normL, ids, Go.Ev.mark, deep, evResults, evResult, aggCells, partA, List.getElem?_cons_zero, List.getElem?_cons_succ, List.getElem?_nil, List.map_cons, List.map_nil, List.all_cons, List.all_nil, Bool.and_true, Bool.true_and, Bool.and_false, Bool.false_and, Bool.and_self, Bool.not_true, Bool.not_false, Bool.or_true, Bool.or_false, Bool.false_or, Bool.true_or, List.set, List.length_cons, List.length_nil, List.nil_append, List.cons_append, List.append_nil, Nat.reduceAdd, Nat.reduceSub, Nat.reduceMul, Nat.reduceLeDiff, Nat.zero_add, Nat.reduceEqDiff, List.replicate, List.drop, List.take, List.flatMap_cons, List.flatMap_nil, List.foldl_nil, List.foldl_cons, decide_true, decide_false, and_self, and_true, true_and, BEq.rfl, beq_self_eq_true, Option.map_some, Option.map_none, Option.bind_some, Option.bind_none, List.getElem?_toArray, Option.isSome_some, Option.isSome_none, beqs, ne_eq, not_true_eq_false, not_false_eq_true, false_or, or_false, or_self, Nat.reduceLT, false_and, and_false, List.nil_append, evEq, eqc, optO, b_add, b_sub, b_mul, b_eql, b_neq, b_lss, b_leq, b_gtr, b_geq, u_not, flags0, flags1, rs_P, len32 rs_P, j1, j2, x2i, x1i, x0i, y1i, y0i, x2l, x1l, x0l, y1l, y0l, pu, mulConv, c2, c1, c0, cy, cy0, b_shr32, hsr, hge, hm, hs1, hs2, hgt, evCall_tab (show ∀ f xs, rsC.O f xs = none from fun _ _ => rfl), show rsC.md 30 = 0 from rfl, normN]
  have hqm : T / y1 * y1 + T % y1 = T := by rw [Nat.mul_comm]; exact Nat.div_add_mod T y1
  have hrm := Nat.mod_lt T hy1
  obtain ⟨g, r', t62', t75', k1, k2, k3, k4⟩ := inner (T / y1) (T % y1) (.p .und) (.p .und) hqm (by omega) (g_init hy1 d0 hwl hWt hVt) (by
    have : T / y1 < LB + 2 := by
      rw [Nat.div_lt_iff_lt_mul hy1, Nat.add_mul, Nat.mul_comm LB]
      omega
    omega)
  rw [k1]
  refine ⟨g, ?_, k2, k3, k4⟩
  simp only [seqT, thn_normal, thn_ret, thn_exit, WC_region, WC_cond, WC_exit, WC_skip, WC_block, WC_ret, evRegion, Bool.false_eq_true, if_false, if_true, reduceIte, ops_n, ops_c, evStep, wantedA, evOp, opv, putA, ret1, ofVal, ofVal1, cellsOf, AV.isCell, clean, evFieldAddr, evField, evExtract, evBuild, evIndex, evBuiltin, evBuildSlice, evNilCheck, blkRead, mkAgg, mkTup, mapO, AV.pure?, setAt, afill, parts, calleeOf, tell, scalar, scalarL, frz, norm, normL, ids, Go.Ev.mark, deep, evResults, evResult, aggCells, partA, List.getElem?_cons_zero, List.getElem?_cons_succ, List.getElem?_nil, List.map_cons, List.map_nil, List.all_cons, List.all_nil, Bool.and_true, Bool.true_and, Bool.and_false, Bool.false_and, Bool.and_self, Bool.not_true, Bool.not_false, Bool.or_true, Bool.or_false, Bool.false_or, Bool.true_or, List.set, List.length_cons, List.length_nil, List.nil_append, List.cons_append, List.append_nil, Nat.reduceAdd, Nat.reduceSub, Nat.reduceMul, Nat.reduceLeDiff, Nat.zero_add, Nat.reduceEqDiff, List.replicate, List.drop, List.take, List.flatMap_cons, List.flatMap_nil, List.foldl_nil, List.foldl_cons, decide_true, decide_false, and_self, and_true, true_and, BEq.rfl, beq_self_eq_true, Option.map_some, Option.map_none, Option.bind_some, Option.bind_none, List.getElem?_toArray, Option.isSome_some, Option.isSome_none, beqs, ne_eq, not_true_eq_false, not_false_eq_true, false_or, or_false, or_self, Nat.reduceLT, false_and, and_false, List.nil_append, evEq, eqc, optO, b_add, b_sub, b_mul, b_eql, b_neq, b_lss, b_leq, b_gtr, b_geq, u_not, flags0, flags1, rs_P, show Try.f65.results = #[.tmp 4] from rfl]
end Go.Proofs
set_option linter.unusedSimpArgs false
set_option linter.unusedVariables false
namespace Go.Proofs
open Go.Ev Go.Mx
theorem rs_lv42 : rsC.lv 42 = [true, true, false, false, true, true, true, false, false, false, false, true, true, true, false, false, true, false, false, true] := by kernel_rfl
set_option maxRecDepth 100000 in
set_option maxHeartbeats 4000000 in
theorem rs_cmp32 (x y : Nat) (hn : ∀ z : Nat, WP rsC 54 [.int .u32 (z : Int)] = some (.bool false)) : WP rsC 42 [.int .u32 (x : Int), .int .u32 (y : Int)] = some (.int .i64 (cmpN x y)) := by
  have h1 := hn x
  have h2 := hn y
  rw [WP_eq (show rsC.md 42 < 9 by decide) Try.func42 rfl]
  rw [show Try.f42.ntmps = 20 from rfl, rs_lv42]
  simp only [N32, List.map_cons, List.map_nil, List.length_cons, List.length_nil, Nat.reduceAdd, Nat.reduceSub, List.replicate, List.cons_append, List.nil_append]
  unfold cmpN
  by_cases c1 : x < y
  · have d1 := ilt_t c1
    have d2 := d1
    rw [if_pos c1]
    simp only [seqT, thn_normal, thn_ret, thn_exit, WC_region, WC_cond, WC_exit, WC_skip, WC_block, WC_ret, evRegion, Bool.false_eq_true, if_false, if_true, reduceIte, ops_n, ops_c, evStep, wantedA, evOp, opv, putA, ret1, ofVal, ofVal1, cellsOf, AV.isCell, clean, evFieldAddr, evField, evExtract, evBuild, evIndex, evBuiltin, evBuildSlice, evNilCheck, blkRead, mkAgg, mkTup, mapO, AV.pure?, setAt, afill, parts, calleeOf, tell, scalar, scalarL, norm, normL, ids, Go.Ev.mark, evResults, evResult, aggCells, partA, List.getElem?_cons_zero, List.getElem?_cons_succ, List.getElem?_nil, List.map_cons, List.map_nil, List.all_cons, List.all_nil, Bool.and_true, Bool.true_and, Bool.and_false, Bool.false_and, Bool.and_self, Bool.not_true, Bool.not_false, Bool.or_true, Bool.or_false, Bool.false_or, Bool.true_or, List.set, List.length_cons, List.length_nil, List.nil_append, List.cons_append, List.append_nil, Nat.reduceAdd, Nat.reduceSub, Nat.reduceMul, Nat.reduceLeDiff, Nat.zero_add, Nat.reduceEqDiff, List.replicate, List.drop, List.take, List.flatMap_cons, List.flatMap_nil, List.foldl_nil, List.foldl_cons, decide_true, decide_false, and_self, and_true, true_and, BEq.rfl, beq_self_eq_true, Option.map_some, Option.map_none, Option.bind_some, Option.bind_none, List.getElem?_toArray, Option.isSome_some, Option.isSome_none, beqs, ne_eq, not_true_eq_false, not_false_eq_true, false_or, or_false, or_self, Nat.reduceLT, false_and, and_false, List.nil_append, evEq, eqc, optO, b_add, b_sub, b_mul, b_eql, b_neq, b_lss, b_leq, b_gtr, b_geq, u_not, flags0, flags1, rs_P, evCall_tab (show ∀ f xs, rsC.O f xs = none from fun _ _ => rfl), frz_p, h1, h2, d1, d2, show rsC.md 54 = 0 from rfl, show Try.f42.results = #[.tmp 4] from rfl]
  · have d1 := ilt_f c1
    rw [if_neg c1]
    by_cases c2 : x = y
    · have d2 : decide ((x : Int) > (y : Int)) = false := decide_eq_false (by omega)
      rw [if_pos c2]
      simp only [seqT, thn_normal, thn_ret, thn_exit, WC_region, WC_cond, WC_exit, WC_skip, WC_block, WC_ret, evRegion, Bool.false_eq_true, if_false, if_true, reduceIte, ops_n, ops_c, evStep, wantedA, evOp, opv, putA, ret1, ofVal, ofVal1, cellsOf, AV.isCell, clean, evFieldAddr, evField, evExtract, evBuild, evIndex, evBuiltin, evBuildSlice, evNilCheck, blkRead, mkAgg, mkTup, mapO, AV.pure?, setAt, afill, parts, calleeOf, tell, scalar, scalarL, norm, normL, ids, Go.Ev.mark, evResults, evResult, aggCells, partA, List.getElem?_cons_zero, List.getElem?_cons_succ, List.getElem?_nil, List.map_cons, List.map_nil, List.all_cons, List.all_nil, Bool.and_true, Bool.true_and, Bool.and_false, Bool.false_and, Bool.and_self, Bool.not_true, Bool.not_false, Bool.or_true, Bool.or_false, Bool.false_or, Bool.true_or, List.set, List.length_cons, List.length_nil, List.nil_append, List.cons_append, List.append_nil, Nat.reduceAdd, Nat.reduceSub, Nat.reduceMul, Nat.reduceLeDiff, Nat.zero_add, Nat.reduceEqDiff, List.replicate, List.drop, List.take, List.flatMap_cons, List.flatMap_nil, List.foldl_nil, List.foldl_cons, decide_true, decide_false, and_self, and_true, true_and, BEq.rfl, beq_self_eq_true, Option.map_some, Option.map_none, Option.bind_some, Option.bind_none, List.getElem?_toArray, Option.isSome_some, Option.isSome_none, beqs, ne_eq, not_true_eq_false, not_false_eq_true, false_or, or_false, or_self, Nat.reduceLT, false_and, and_false, List.nil_append, evEq, eqc, optO, b_add, b_sub, b_mul, b_eql, b_neq, b_lss, b_leq, b_gtr, b_geq, u_not, flags0, flags1, rs_P, evCall_tab (show ∀ f xs, rsC.O f xs = none from fun _ _ => rfl), frz_p, h1, h2, d1, d2, show rsC.md 54 = 0 from rfl, show Try.f42.results = #[.tmp 4] from rfl]
    · have d2 : decide ((x : Int) > (y : Int)) = true := decide_eq_true (by omega)
      rw [if_neg c2]
      simp only [seqT, thn_normal, thn_ret, thn_exit, WC_region, WC_cond, WC_exit, WC_skip, WC_block, WC_ret, evRegion, Bool.false_eq_true, if_false, if_true, reduceIte, ops_n, ops_c, evStep, wantedA, evOp, opv, putA, ret1, ofVal, ofVal1, cellsOf, AV.isCell, clean, evFieldAddr, evField, evExtract, evBuild, evIndex, evBuiltin, evBuildSlice, evNilCheck, blkRead, mkAgg, mkTup, mapO, AV.pure?, setAt, afill, parts, calleeOf, tell, scalar, scalarL, norm, normL, ids, Go.Ev.mark, evResults, evResult, aggCells, partA, List.getElem?_cons_zero, List.getElem?_cons_succ, List.getElem?_nil, List.map_cons, List.map_nil, List.all_cons, List.all_nil, Bool.and_true, Bool.true_and, Bool.and_false, Bool.false_and, Bool.and_self, Bool.not_true, Bool.not_false, Bool.or_true, Bool.or_false, Bool.false_or, Bool.true_or, List.set, List.length_cons, List.length_nil, List.nil_append, List.cons_append, List.append_nil, Nat.reduceAdd, Nat.reduceSub, Nat.reduceMul, Nat.reduceLeDiff, Nat.zero_add, Nat.reduceEqDiff, List.replicate, List.drop, List.take, List.flatMap_cons, List.flatMap_nil, List.foldl_nil, List.foldl_cons, decide_true, decide_false, and_self, and_true, true_and, BEq.rfl, beq_self_eq_true, Option.map_some, Option.map_none, Option.bind_some, Option.bind_none, List.getElem?_toArray, Option.isSome_some, Option.isSome_none, beqs, ne_eq, not_true_eq_false, not_false_eq_true, false_or, or_false, or_self, Nat.reduceLT, false_and, and_false, List.nil_append, evEq, eqc, optO, b_add, b_sub, b_mul, b_eql, b_neq, b_lss, b_leq, b_gtr, b_geq, u_not, flags0, flags1, rs_P, evCall_tab (show ∀ f xs, rsC.O f xs = none from fun _ _ => rfl), frz_p, h1, h2, d1, d2, show rsC.md 54 = 0 from rfl, show Try.f42.results = #[.tmp 4] from rfl]
end Go.Proofs
set_option linter.unusedSimpArgs false
set_option linter.unusedVariables false
namespace Go.Proofs
open Go.Ev Go.Mx
theorem rs_lv54 : rsC.lv 54 = [true, false, true, false, false, false] := by kernel_rfl
set_option maxRecDepth 100000 in
set_option maxHeartbeats 4000000 in
theorem rs_nan54 (z : Nat) : WP rsC 54 [.int .u32 (z : Int)] = some (.bool false) := by
  have h : ((z : Int) != (z : Int)) = false := by simp
  rw [WP_eq (show rsC.md 54 < 9 by decide) Try.func54 rfl]
  rw [show Try.f54.ntmps = 6 from rfl, rs_lv54]
  simp only [N32, List.map_cons, List.map_nil, List.length_cons, List.length_nil, Nat.reduceAdd, Nat.reduceSub, List.replicate, List.cons_append, List.nil_append]
  simp only [seqT, thn_normal, thn_ret, thn_exit, WC_region, WC_cond, WC_exit, WC_skip, WC_block, WC_ret, evRegion, Bool.false_eq_true, if_false, if_true, reduceIte, ops_n, ops_c, evStep, wantedA, evOp, opv, putA, ret1, ofVal, ofVal1, cellsOf, AV.isCell, clean, evFieldAddr, evField, evExtract, evBuild, evIndex, evBuiltin, evBuildSlice, evNilCheck, blkRead, mkAgg, mkTup, mapO, AV.pure?, setAt, afill, parts, calleeOf, tell, scalar, scalarL, norm, normL, ids, Go.Ev.mark, evResults, evResult, aggCells, partA, List.getElem?_cons_zero, List.getElem?_cons_succ, List.getElem?_nil, List.map_cons, List.map_nil, List.all_cons, List.all_nil, Bool.and_true, Bool.true_and, Bool.and_false, Bool.false_and, Bool.and_self, Bool.not_true, Bool.not_false, Bool.or_true, Bool.or_false, Bool.false_or, Bool.true_or, List.set, List.length_cons, List.length_nil, List.nil_append, List.cons_append, List.append_nil, Nat.reduceAdd, Nat.reduceSub, Nat.reduceMul, Nat.reduceLeDiff, Nat.zero_add, Nat.reduceEqDiff, List.replicate, List.drop, List.take, List.flatMap_cons, List.flatMap_nil, List.foldl_nil, List.foldl_cons, decide_true, decide_false, and_self, and_true, true_and, BEq.rfl, beq_self_eq_true, Option.map_some, Option.map_none, Option.bind_some, Option.bind_none, List.getElem?_toArray, Option.isSome_some, Option.isSome_none, beqs, ne_eq, not_true_eq_false, not_false_eq_true, false_or, or_false, or_self, Nat.reduceLT, false_and, and_false, List.nil_append, evEq, eqc, optO, b_add, b_sub, b_mul, b_eql, b_neq, b_lss, b_leq, b_gtr, b_geq, u_not, flags0, flags1, rs_P, h, frz_p, show Try.f54.results = #[.tmp 2] from rfl]
theorem rs_lv53 : rsC.lv 53 = [true, false, true, false, false, false] := by kernel_rfl
set_option maxRecDepth 100000 in
set_option maxHeartbeats 4000000 in
theorem rs_nan53 (z : Nat) : WP rsC 53 [.int .i64 (z : Int)] = some (.bool false) := by
  have h : ((z : Int) != (z : Int)) = false := by simp
  rw [WP_eq (show rsC.md 53 < 9 by decide) Try.func53 rfl]
  rw [show Try.f53.ntmps = 6 from rfl, rs_lv53]
  simp only [N32, List.map_cons, List.map_nil, List.length_cons, List.length_nil, Nat.reduceAdd, Nat.reduceSub, List.replicate, List.cons_append, List.nil_append]
  simp only [seqT, thn_normal, thn_ret, thn_exit, WC_region, WC_cond, WC_exit, WC_skip, WC_block, WC_ret, evRegion, Bool.false_eq_true, if_false, if_true, reduceIte, ops_n, ops_c, evStep, wantedA, evOp, opv, putA, ret1, ofVal, ofVal1, cellsOf, AV.isCell, clean, evFieldAddr, evField, evExtract, evBuild, evIndex, evBuiltin, evBuildSlice, evNilCheck, blkRead, mkAgg, mkTup, mapO, AV.pure?, setAt, afill, parts, calleeOf, tell, scalar, scalarL, norm, normL, ids, Go.Ev.mark, evResults, evResult, aggCells, partA, List.getElem?_cons_zero, List.getElem?_cons_succ, List.getElem?_nil, List.map_cons, List.map_nil, List.all_cons, List.all_nil, Bool.and_true, Bool.true_and, Bool.and_false, Bool.false_and, Bool.and_self, Bool.not_true, Bool.not_false, Bool.or_true, Bool.or_false, Bool.false_or, Bool.true_or, List.set, List.length_cons, List.length_nil, List.nil_append, List.cons_append, List.append_nil, Nat.reduceAdd, Nat.reduceSub, Nat.reduceMul, Nat.reduceLeDiff, Nat.zero_add, Nat.reduceEqDiff, List.replicate, List.drop, List.take, List.flatMap_cons, List.flatMap_nil, List.foldl_nil, List.foldl_cons, decide_true, decide_false, and_self, and_true, true_and, BEq.rfl, beq_self_eq_true, Option.map_some, Option.map_none, Option.bind_some, Option.bind_none, List.getElem?_toArray, Option.isSome_some, Option.isSome_none, beqs, ne_eq, not_true_eq_false, not_false_eq_true, false_or, or_false, or_self, Nat.reduceLT, false_and, and_false, List.nil_append, evEq, eqc, optO, b_add, b_sub, b_mul, b_eql, b_neq, b_lss, b_leq, b_gtr, b_geq, u_not, flags0, flags1, rs_P, h, frz_p, show Try.f53.results = #[.tmp 2] from rfl]
theorem rs_lv41 : rsC.lv 41 = [true, true, false, false, true, true, true, false, false, false, false, true, true, true, false, false, true, false, false, true] := by kernel_rfl
set_option maxRecDepth 100000 in
set_option maxHeartbeats 4000000 in
theorem rs_cmpi (x y : Nat) (hn : ∀ z : Nat, WP rsC 53 [.int .i64 (z : Int)] = some (.bool false)) : WP rsC 41 [.int .i64 (x : Int), .int .i64 (y : Int)] = some (.int .i64 (cmpN x y)) := by
  have h1 := hn x
  have h2 := hn y
  rw [WP_eq (show rsC.md 41 < 9 by decide) Try.func41 rfl]
  rw [show Try.f41.ntmps = 20 from rfl, rs_lv41]
  simp only [N32, List.map_cons, List.map_nil, List.length_cons, List.length_nil, Nat.reduceAdd, Nat.reduceSub, List.replicate, List.cons_append, List.nil_append]
  unfold cmpN
  by_cases c1 : x < y
  · have d1 := ilt_t c1
    have d2 := d1
    rw [if_pos c1]
    simp only [seqT, thn_normal, thn_ret, thn_exit, WC_region, WC_cond, WC_exit, WC_skip, WC_block, WC_ret, evRegion, Bool.false_eq_true, if_false, if_true, reduceIte, ops_n, ops_c, evStep, wantedA, evOp, opv, putA, ret1, ofVal, ofVal1, cellsOf, AV.isCell, clean, evFieldAddr, evField, evExtract, evBuild, evIndex, evBuiltin, evBuildSlice, evNilCheck, blkRead, mkAgg, mkTup, mapO, AV.pure?, setAt, afill, parts, calleeOf, tell, scalar, scalarL, norm, normL, ids, Go.Ev.mark, evResults, evResult, aggCells, partA, List.getElem?_cons_zero, List.getElem?_cons_succ, List.getElem?_nil, List.map_cons, List.map_nil, List.all_cons, List.all_nil, Bool.and_true, Bool.true_and, Bool.and_false, Bool.false_and, Bool.and_self, Bool.not_true, Bool.not_false, Bool.or_true, Bool.or_false, Bool.false_or, Bool.true_or, List.set, List.length_cons, List.length_nil, List.nil_append, List.cons_append, List.append_nil, Nat.reduceAdd, Nat.reduceSub, Nat.reduceMul, Nat.reduceLeDiff, Nat.zero_add, Nat.reduceEqDiff, List.replicate, List.drop, List.take, List.flatMap_cons, List.flatMap_nil, List.foldl_nil, List.foldl_cons, decide_true, decide_false, and_self, and_true, true_and, BEq.rfl, beq_self_eq_true, Option.map_some, Option.map_none, Option.bind_some, Option.bind_none, List.getElem?_toArray, Option.isSome_some, Option.isSome_none, beqs, ne_eq, not_true_eq_false, not_false_eq_true, false_or, or_false, or_self, Nat.reduceLT, false_and, and_false, List.nil_append, evEq, eqc, optO, b_add, b_sub, b_mul, b_eql, b_neq, b_lss, b_leq, b_gtr, b_geq, u_not, flags0, flags1, rs_P, evCall_tab (show ∀ f xs, rsC.O f xs = none from fun _ _ => rfl), frz_p, h1, h2, d1, d2, show rsC.md 53 = 0 from rfl, show Try.f41.results = #[.tmp 4] from rfl]
  · have d1 := ilt_f c1
    rw [if_neg c1]
    by_cases c2 : x = y
    · have d2 : decide ((x : Int) > (y : Int)) = false := decide_eq_false (by omega)
      rw [if_pos c2]
      simp only [seqT, thn_normal, thn_ret, thn_exit, WC_region, WC_cond, WC_exit, WC_skip, WC_block, WC_ret, evRegion, Bool.false_eq_true, if_false, if_true, reduceIte, ops_n, ops_c, evStep, wantedA, evOp, opv, putA, ret1, ofVal, ofVal1, cellsOf, AV.isCell, clean, evFieldAddr, evField, evExtract, evBuild, evIndex, evBuiltin, evBuildSlice, evNilCheck, blkRead, mkAgg, mkTup, mapO, AV.pure?, setAt, afill, parts, calleeOf, tell, scalar, scalarL, norm, normL, ids, Go.Ev.mark, evResults, evResult, aggCells, partA, List.getElem?_cons_zero, List.getElem?_cons_succ, List.getElem?_nil, List.map_cons, List.map_nil, List.all_cons, List.all_nil, Bool.and_true, Bool.true_and, Bool.and_false, Bool.false_and, Bool.and_self, Bool.not_true, Bool.not_false, Bool.or_true, Bool.or_false, Bool.false_or, Bool.true_or, List.set, List.length_cons, List.length_nil, List.nil_append, List.cons_append, List.append_nil, Nat.reduceAdd, Nat.reduceSub, Nat.reduceMul, Nat.reduceLeDiff, Nat.zero_add, Nat.reduceEqDiff, List.replicate, List.drop, List.take, List.flatMap_cons, List.flatMap_nil, List.foldl_nil, List.foldl_cons, decide_true, decide_false, and_self, and_true, true_and, BEq.rfl, beq_self_eq_true, Option.map_some, Option.map_none, Option.bind_some, Option.bind_none, List.getElem?_toArray, Option.isSome_some, Option.isSome_none, beqs, ne_eq, not_true_eq_false, not_false_eq_true, false_or, or_false, or_self, Nat.reduceLT, false_and, and_false, List.nil_append, evEq, eqc, optO, b_add, b_sub, b_mul, b_eql, b_neq, b_lss, b_leq, b_gtr, b_geq, u_not, flags0, flags1, rs_P, evCall_tab (show ∀ f xs, rsC.O f xs = none from fun _ _ => rfl), frz_p, h1, h2, d1, d2, show rsC.md 53 = 0 from rfl, show Try.f41.results = #[.tmp 4] from rfl]
    · have d2 : decide ((x : Int) > (y : Int)) = true := decide_eq_true (by omega)
      rw [if_neg c2]
      simp only [seqT, thn_normal, thn_ret, thn_exit, WC_region, WC_cond, WC_exit, WC_skip, WC_block, WC_ret, evRegion, Bool.false_eq_true, if_false, if_true, reduceIte, ops_n, ops_c, evStep, wantedA, evOp, opv, putA, ret1, ofVal, ofVal1, cellsOf, AV.isCell, clean, evFieldAddr, evField, evExtract, evBuild, evIndex, evBuiltin, evBuildSlice, evNilCheck, blkRead, mkAgg, mkTup, mapO, AV.pure?, setAt, afill, parts, calleeOf, tell, scalar, scalarL, norm, normL, ids, Go.Ev.mark, evResults, evResult, aggCells, partA, List.getElem?_cons_zero, List.getElem?_cons_succ, List.getElem?_nil, List.map_cons, List.map_nil, List.all_cons, List.all_nil, Bool.and_true, Bool.true_and, Bool.and_false, Bool.false_and, Bool.and_self, Bool.not_true, Bool.not_false, Bool.or_true, Bool.or_false, Bool.false_or, Bool.true_or, List.set, List.length_cons, List.length_nil, List.nil_append, List.cons_append, List.append_nil, Nat.reduceAdd, Nat.reduceSub, Nat.reduceMul, Nat.reduceLeDiff, Nat.zero_add, Nat.reduceEqDiff, List.replicate, List.drop, List.take, List.flatMap_cons, List.flatMap_nil, List.foldl_nil, List.foldl_cons, decide_true, decide_false, and_self, and_true, true_and, BEq.rfl, beq_self_eq_true, Option.map_some, Option.map_none, Option.bind_some, Option.bind_none, List.getElem?_toArray, Option.isSome_some, Option.isSome_none, beqs, ne_eq, not_true_eq_false, not_false_eq_true, false_or, or_false, or_self, Nat.reduceLT, false_and, and_false, List.nil_append, evEq, eqc, optO, b_add, b_sub, b_mul, b_eql, b_neq, b_lss, b_leq, b_gtr, b_geq, u_not, flags0, flags1, rs_P, evCall_tab (show ∀ f xs, rsC.O f xs = none from fun _ _ => rfl), frz_p, h1, h2, d1, d2, show rsC.md 53 = 0 from rfl, show Try.f41.results = #[.tmp 4] from rfl]
theorem rs_lv39 : rsC.lv 39 = [true, false, true, false, true, false, false, false, true, false, false, false, false, false, false, false, false, false, false] := by kernel_rfl
def blF : Nat → Nat → Nat
  | 0, _ => 0
  | n + 1, x => if x = 0 then 0 else blF n (x / 2) + 1
theorem bl_F : ∀ (n x : Nat), x < 2 ^ n → bl x = blF n x
  | 0, x, h => by rw [Nat.pow_zero] at h; rw [show x = 0 by omega, bl_zero]; rfl
  | n + 1, x, h => by
    rw [Nat.pow_succ] at h
    unfold blF
    split
    · rename_i h0; rw [h0, bl_zero]
    · rename_i h0; rw [bl_pos (by omega), bl_F n (x / 2) (by omega)]
theorem bl_shift {x : Nat} : ∀ (k : Nat), 2 ^ k ≤ x → bl x = k + bl (x / 2 ^ k)
  | 0, _ => by simp
  | k + 1, h => by
    rw [Nat.pow_succ] at h
    have h2 : 2 ^ k ≤ x := by omega
    rw [bl_shift k h2, bl_pos (Nat.div_pos h2 (Nat.two_pow_pos k)), Nat.div_div_eq_div_mul, Nat.pow_succ]
    omega
theorem WP_fin {C : Cfg} {f : FuncId} {fn : Func} {c : Code} (h9 : C.md f < 9) (hf : C.P.funcs[f]? = some fn) (hc : fn.body = some c) (xs : List PV) :
    WP C f xs = match fin C fn (WC C (C.lv f) c ⟨xs.map .p ++ List.replicate (fn.ntmps - xs.length) (.p .und), []⟩) with
      | some (r, Hc) => frz false Hc deep r
      | none => none := by
  unfold WP
  rw [W_fin h9 hf hc, List.length_map]
  rfl
theorem all256 {p : Nat → Prop} (f : Nat → Bool) (h : ∀ b, f b = true → p b) (hall : (List.range 256).all f = true) {b : Nat} (hb : b < 256) : p b := h b (List.all_eq_true.1 hall b (List.mem_range.2 hb))
def tailOf : Code → Code
  | .seq (.seq _ (.seq _ _)) b => tailOf b
  | .seq (.region _ _ _) (.seq a b) => tailOf (.seq a b)
  | c => c
def isI (m : Nat) : Option (AV × List ABlk) → Bool
  | some (.p (.int .i64 (.ofNat z)), []) => z == m
  | _ => false
theorem isI_eq {m : Nat} {o : Option (AV × List ABlk)} (h : isI m o = true) : o = some (.p (.int .i64 (m : Int)), []) := by
  unfold isI at h
  split at h
  · rw [eq_of_beq h]; rfl
  · cases h
set_option maxRecDepth 100000 in
set_option maxHeartbeats 4000000 in
theorem rs_len32 (x : Nat) (hx : x < LB) : WP rsC 39 [.int .u32 (x : Int)] = some (.int .i64 (bl x : Nat)) := by
  have hLB : LB = 4294967296 := rfl
  rw [WP_fin (show rsC.md 39 < 9 by decide) Try.func39 rfl]
  rw [show Try.f39.ntmps = 19 from rfl, rs_lv39]
  simp only [N32, List.map_cons, List.map_nil, List.length_cons, List.length_nil, Nat.reduceAdd, Nat.reduceSub, List.replicate, List.cons_append, List.nil_append]
  generalize hT : (Code.seq (.region 7 _ _) _ : Code) = T
  obtain ⟨L16, hL16⟩ : ∃ x : Int, x = 65536 := ⟨_, rfl⟩
  obtain ⟨L8, hL8⟩ : ∃ x : Int, x = 256 := ⟨_, rfl⟩
  have s16 : ∀ (P : Program) (t : TypeId) (k : IntKind), evBin P .shr t (.p (.int .u32 (x : Int))) (.p (.int k 16)) = some (.p (.int .u32 ((x / 65536 : Nat) : Int))) := fun P t k => s_u32 (n := 16) (by decide)
  have s8 : ∀ (P : Program) (t : TypeId) (k : IntKind) (y : Nat), evBin P .shr t (.p (.int .u32 (y : Int))) (.p (.int k 8)) = some (.p (.int .u32 ((y / 256 : Nat) : Int))) := fun P t k y => s_u32 (n := 8) (by decide)
  have t00 : ∀ {b : Nat}, b < 256 → fin rsC Try.f39 (WC rsC [true, false, true, false, true, false, false, false, true, false, false, false, false, false, false, false, false, false, false] T ⟨[.p (.int .u32 (b : Int)), .p .any, .p (.int .i64 0), .p .any, .p (.bool false), .p .any, .p .any, .p .any, .p (.bool false), .p .any, .p .any, .p .any, .p .any, .p .any, .p .any, .p .any, .p .any, .p .any, .p .any], []⟩) = some (.p (.int .i64 ((0 + bl b : Nat) : Int)), []) := by
    intro b hb
    rw [bl_F 8 b hb]
    refine WC_fin 20 (isI_eq (m := 0 + blF 8 b) (all256 (p := fun b => isI (0 + blF 8 b) (fin rsC Try.f39 (evC rsC (evF rsC 20) [true, false, true, false, true, false, false, false, true, false, false, false, false, false, false, false, false, false, false] 20 T ⟨[.p (.int .u32 (b : Int)), .p .any, .p (.int .i64 0), .p .any, .p (.bool false), .p .any, .p .any, .p .any, .p (.bool false), .p .any, .p .any, .p .any, .p .any, .p .any, .p .any, .p .any, .p .any, .p .any, .p .any], []⟩)) = true) (fun b => isI (0 + blF 8 b) (fin rsC Try.f39 (evC rsC (evF rsC 20) [true, false, true, false, true, false, false, false, true, false, false, false, false, false, false, false, false, false, false] 20 T ⟨[.p (.int .u32 (b : Int)), .p .any, .p (.int .i64 0), .p .any, .p (.bool false), .p .any, .p .any, .p .any, .p (.bool false), .p .any, .p .any, .p .any, .p .any, .p .any, .p .any, .p .any, .p .any, .p .any, .p .any], []⟩))) (fun b h => h) ?_ hb))
    rw [← hT]
    kernel_rfl
  have t01 : ∀ {b : Nat}, b < 256 → fin rsC Try.f39 (WC rsC [true, false, true, false, true, false, false, false, true, false, false, false, false, false, false, false, false, false, false] T ⟨[.p (.int .u32 (b : Int)), .p .any, .p (.int .i64 8), .p .any, .p (.bool false), .p .any, .p .any, .p .any, .p (.bool true), .p .any, .p .any, .p .any, .p .any, .p .any, .p .any, .p .any, .p .any, .p .any, .p .any], []⟩) = some (.p (.int .i64 ((8 + bl b : Nat) : Int)), []) := by
    intro b hb
    rw [bl_F 8 b hb]
    refine WC_fin 20 (isI_eq (m := 8 + blF 8 b) (all256 (p := fun b => isI (8 + blF 8 b) (fin rsC Try.f39 (evC rsC (evF rsC 20) [true, false, true, false, true, false, false, false, true, false, false, false, false, false, false, false, false, false, false] 20 T ⟨[.p (.int .u32 (b : Int)), .p .any, .p (.int .i64 8), .p .any, .p (.bool false), .p .any, .p .any, .p .any, .p (.bool true), .p .any, .p .any, .p .any, .p .any, .p .any, .p .any, .p .any, .p .any, .p .any, .p .any], []⟩)) = true) (fun b => isI (8 + blF 8 b) (fin rsC Try.f39 (evC rsC (evF rsC 20) [true, false, true, false, true, false, false, false, true, false, false, false, false, false, false, false, false, false, false] 20 T ⟨[.p (.int .u32 (b : Int)), .p .any, .p (.int .i64 8), .p .any, .p (.bool false), .p .any, .p .any, .p .any, .p (.bool true), .p .any, .p .any, .p .any, .p .any, .p .any, .p .any, .p .any, .p .any, .p .any, .p .any], []⟩))) (fun b h => h) ?_ hb))
    rw [← hT]
    kernel_rfl
  have t10 : ∀ {b : Nat}, b < 256 → fin rsC Try.f39 (WC rsC [true, false, true, false, true, false, false, false, true, false, false, false, false, false, false, false, false, false, false] T ⟨[.p (.int .u32 (b : Int)), .p .any, .p (.int .i64 16), .p .any, .p (.bool true), .p .any, .p .any, .p .any, .p (.bool false), .p .any, .p .any, .p .any, .p .any, .p .any, .p .any, .p .any, .p .any, .p .any, .p .any], []⟩) = some (.p (.int .i64 ((16 + bl b : Nat) : Int)), []) := by
    intro b hb
    rw [bl_F 8 b hb]
    refine WC_fin 20 (isI_eq (m := 16 + blF 8 b) (all256 (p := fun b => isI (16 + blF 8 b) (fin rsC Try.f39 (evC rsC (evF rsC 20) [true, false, true, false, true, false, false, false, true, false, false, false, false, false, false, false, false, false, false] 20 T ⟨[.p (.int .u32 (b : Int)), .p .any, .p (.int .i64 16), .p .any, .p (.bool true), .p .any, .p .any, .p .any, .p (.bool false), .p .any, .p .any, .p .any, .p .any, .p .any, .p .any, .p .any, .p .any, .p .any, .p .any], []⟩)) = true) (fun b => isI (16 + blF 8 b) (fin rsC Try.f39 (evC rsC (evF rsC 20) [true, false, true, false, true, false, false, false, true, false, false, false, false, false, false, false, false, false, false] 20 T ⟨[.p (.int .u32 (b : Int)), .p .any, .p (.int .i64 16), .p .any, .p (.bool true), .p .any, .p .any, .p .any, .p (.bool false), .p .any, .p .any, .p .any, .p .any, .p .any, .p .any, .p .any, .p .any, .p .any, .p .any], []⟩))) (fun b h => h) ?_ hb))
    rw [← hT]
    kernel_rfl
  have t11 : ∀ {b : Nat}, b < 256 → fin rsC Try.f39 (WC rsC [true, false, true, false, true, false, false, false, true, false, false, false, false, false, false, false, false, false, false] T ⟨[.p (.int .u32 (b : Int)), .p .any, .p (.int .i64 24), .p .any, .p (.bool true), .p .any, .p .any, .p .any, .p (.bool true), .p .any, .p .any, .p .any, .p .any, .p .any, .p .any, .p .any, .p .any, .p .any, .p .any], []⟩) = some (.p (.int .i64 ((24 + bl b : Nat) : Int)), []) := by
    intro b hb
    rw [bl_F 8 b hb]
    refine WC_fin 20 (isI_eq (m := 24 + blF 8 b) (all256 (p := fun b => isI (24 + blF 8 b) (fin rsC Try.f39 (evC rsC (evF rsC 20) [true, false, true, false, true, false, false, false, true, false, false, false, false, false, false, false, false, false, false] 20 T ⟨[.p (.int .u32 (b : Int)), .p .any, .p (.int .i64 24), .p .any, .p (.bool true), .p .any, .p .any, .p .any, .p (.bool true), .p .any, .p .any, .p .any, .p .any, .p .any, .p .any, .p .any, .p .any, .p .any, .p .any], []⟩)) = true) (fun b => isI (24 + blF 8 b) (fin rsC Try.f39 (evC rsC (evF rsC 20) [true, false, true, false, true, false, false, false, true, false, false, false, false, false, false, false, false, false, false] 20 T ⟨[.p (.int .u32 (b : Int)), .p .any, .p (.int .i64 24), .p .any, .p (.bool true), .p .any, .p .any, .p .any, .p (.bool true), .p .any, .p .any, .p .any, .p .any, .p .any, .p .any, .p .any, .p .any, .p .any, .p .any], []⟩))) (fun b h => h) ?_ hb))
    rw [← hT]
    kernel_rfl
  rcases Nat.lt_or_ge x 65536 with h1 | h1
  · have d1 : decide ((x : Int) ≥ L16) = false := decide_eq_false (by omega)
    rcases Nat.lt_or_ge x 256 with h2 | h2
    · have d2 : decide ((x : Int) ≥ L8) = false := decide_eq_false (by omega)
      have hr := t00 h2
      rw [Nat.zero_add] at hr
      rw [← hL16, ← hL8]
      simp only [seqT, thn_normal, thn_ret, thn_exit, WC_region, WC_cond, WC_exit, WC_skip, WC_block, WC_ret, evRegion, Bool.false_eq_true, if_false, if_true, reduceIte, ops_n, ops_c, evStep, wantedA, evOp, opv, putA, ret1, ofVal, ofVal1, cellsOf, AV.isCell, clean, evFieldAddr, evField, evExtract, evBuild, evIndex, evBuiltin, evBuildSlice, evNilCheck, blkRead, mkAgg, mkTup, mapO, AV.pure?, setAt, afill, parts, calleeOf, tell, scalar, scalarL, norm, normL, ids, Go.Ev.mark, evResults, evResult, aggCells, partA, List.getElem?_cons_zero, List.getElem?_cons_succ, List.getElem?_nil, List.map_cons, List.map_nil, List.all_cons, List.all_nil, Bool.and_true, Bool.true_and, Bool.and_false, Bool.false_and, Bool.and_self, Bool.not_true, Bool.not_false, Bool.or_true, Bool.or_false, Bool.false_or, Bool.true_or, List.set, List.length_cons, List.length_nil, List.nil_append, List.cons_append, List.append_nil, Nat.reduceAdd, Nat.reduceSub, Nat.reduceMul, Nat.reduceLeDiff, Nat.zero_add, Nat.reduceEqDiff, List.replicate, List.drop, List.take, List.flatMap_cons, List.flatMap_nil, List.foldl_nil, List.foldl_cons, decide_true, decide_false, and_self, and_true, true_and, BEq.rfl, beq_self_eq_true, Option.map_some, Option.map_none, Option.bind_some, Option.bind_none, List.getElem?_toArray, Option.isSome_some, Option.isSome_none, beqs, ne_eq, not_true_eq_false, not_false_eq_true, false_or, or_false, or_self, Nat.reduceLT, false_and, and_false, List.nil_append, evEq, eqc, optO, b_add, b_sub, b_mul, b_eql, b_neq, b_lss, b_leq, b_gtr, b_geq, u_not, flags0, flags1, rs_P, d1, d2, s16, s8, show IntKind.i64.wrap (0 + 8) = 8 from rfl, show IntKind.i64.wrap (16 + 8) = 24 from rfl]
      rw [hr]
      rfl
    · have d2 : decide ((x : Int) ≥ L8) = true := decide_eq_true (by omega)
      have hr := t01 (b := x / 256) (by omega)
      rw [← bl_shift (x := x) 8 h2] at hr
      rw [← hL16, ← hL8]
      simp only [seqT, thn_normal, thn_ret, thn_exit, WC_region, WC_cond, WC_exit, WC_skip, WC_block, WC_ret, evRegion, Bool.false_eq_true, if_false, if_true, reduceIte, ops_n, ops_c, evStep, wantedA, evOp, opv, putA, ret1, ofVal, ofVal1, cellsOf, AV.isCell, clean, evFieldAddr, evField, evExtract, evBuild, evIndex, evBuiltin, evBuildSlice, evNilCheck, blkRead, mkAgg, mkTup, mapO, AV.pure?, setAt, afill, parts, calleeOf, tell, scalar, scalarL, norm, normL, ids, Go.Ev.mark, evResults, evResult, aggCells, partA, List.getElem?_cons_zero, List.getElem?_cons_succ, List.getElem?_nil, List.map_cons, List.map_nil, List.all_cons, List.all_nil, Bool.and_true, Bool.true_and, Bool.and_false, Bool.false_and, Bool.and_self, Bool.not_true, Bool.not_false, Bool.or_true, Bool.or_false, Bool.false_or, Bool.true_or, List.set, List.length_cons, List.length_nil, List.nil_append, List.cons_append, List.append_nil, Nat.reduceAdd, Nat.reduceSub, Nat.reduceMul, Nat.reduceLeDiff, Nat.zero_add, Nat.reduceEqDiff, List.replicate, List.drop, List.take, List.flatMap_cons, List.flatMap_nil, List.foldl_nil, List.foldl_cons, decide_true, decide_false, and_self, and_true, true_and, BEq.rfl, beq_self_eq_true, Option.map_some, Option.map_none, Option.bind_some, Option.bind_none, List.getElem?_toArray, Option.isSome_some, Option.isSome_none, beqs, ne_eq, not_true_eq_false, not_false_eq_true, false_or, or_false, or_self, Nat.reduceLT, false_and, and_false, List.nil_append, evEq, eqc, optO, b_add, b_sub, b_mul, b_eql, b_neq, b_lss, b_leq, b_gtr, b_geq, u_not, flags0, flags1, rs_P, d1, d2, s16, s8, show IntKind.i64.wrap (0 + 8) = 8 from rfl, show IntKind.i64.wrap (16 + 8) = 24 from rfl]
      rw [hr]
      rfl
  · have d1 : decide ((x : Int) ≥ L16) = true := decide_eq_true (by omega)
    rcases Nat.lt_or_ge (x / 65536) 256 with h2 | h2
    · have d2 : decide (((x / 65536 : Nat) : Int) ≥ L8) = false := decide_eq_false (by omega)
      have hr := t10 h2
      rw [← bl_shift (x := x) 16 h1] at hr
      rw [← hL16, ← hL8]
      simp only [seqT, thn_normal, thn_ret, thn_exit, WC_region, WC_cond, WC_exit, WC_skip, WC_block, WC_ret, evRegion, Bool.false_eq_true, if_false, if_true, reduceIte, ops_n, ops_c, evStep, wantedA, evOp, opv, putA, ret1, ofVal, ofVal1, cellsOf, AV.isCell, clean, evFieldAddr, evField, evExtract, evBuild, evIndex, evBuiltin, evBuildSlice, evNilCheck, blkRead, mkAgg, mkTup, mapO, AV.pure?, setAt, afill, parts, calleeOf, tell, scalar, scalarL, norm, normL, ids, Go.Ev.mark, evResults, evResult, aggCells, partA, List.getElem?_cons_zero, List.getElem?_cons_succ, List.getElem?_nil, List.map_cons, List.map_nil, List.all_cons, List.all_nil, Bool.and_true, Bool.true_and, Bool.and_false, Bool.false_and, Bool.and_self, Bool.not_true, Bool.not_false, Bool.or_true, Bool.or_false, Bool.false_or, Bool.true_or, List.set, List.length_cons, List.length_nil, List.nil_append, List.cons_append, List.append_nil, Nat.reduceAdd, Nat.reduceSub, Nat.reduceMul, Nat.reduceLeDiff, Nat.zero_add, Nat.reduceEqDiff, List.replicate, List.drop, List.take, List.flatMap_cons, List.flatMap_nil, List.foldl_nil, List.foldl_cons, decide_true, decide_false, and_self, and_true, true_and, BEq.rfl, beq_self_eq_true, Option.map_some, Option.map_none, Option.bind_some, Option.bind_none, List.getElem?_toArray, Option.isSome_some, Option.isSome_none, beqs, ne_eq, not_true_eq_false, not_false_eq_true, false_or, or_false, or_self, Nat.reduceLT, false_and, and_false, List.nil_append, evEq, eqc, optO, b_add, b_sub, b_mul, b_eql, b_neq, b_lss, b_leq, b_gtr, b_geq, u_not, flags0, flags1, rs_P, d1, d2, s16, s8, show IntKind.i64.wrap (0 + 8) = 8 from rfl, show IntKind.i64.wrap (16 + 8) = 24 from rfl]
      rw [hr]
      rfl
    · have d2 : decide (((x / 65536 : Nat) : Int) ≥ L8) = true := decide_eq_true (by omega)
      have hr := t11 (b := x / 65536 / 256) (by omega)
      rw [show 24 + bl (x / 65536 / 256) = bl x by rw [Nat.div_div_eq_div_mul]; exact (bl_shift (x := x) 24 (show 2 ^ 24 ≤ x by omega)).symm] at hr
      rw [← hL16, ← hL8]
      simp only [seqT, thn_normal, thn_ret, thn_exit, WC_region, WC_cond, WC_exit, WC_skip, WC_block, WC_ret, evRegion, Bool.false_eq_true, if_false, if_true, reduceIte, ops_n, ops_c, evStep, wantedA, evOp, opv, putA, ret1, ofVal, ofVal1, cellsOf, AV.isCell, clean, evFieldAddr, evField, evExtract, evBuild, evIndex, evBuiltin, evBuildSlice, evNilCheck, blkRead, mkAgg, mkTup, mapO, AV.pure?, setAt, afill, parts, calleeOf, tell, scalar, scalarL, norm, normL, ids, Go.Ev.mark, evResults, evResult, aggCells, partA, List.getElem?_cons_zero, List.getElem?_cons_succ, List.getElem?_nil, List.map_cons, List.map_nil, List.all_cons, List.all_nil, Bool.and_true, Bool.true_and, Bool.and_false, Bool.false_and, Bool.and_self, Bool.not_true, Bool.not_false, Bool.or_true, Bool.or_false, Bool.false_or, Bool.true_or, List.set, List.length_cons, List.length_nil, List.nil_append, List.cons_append, List.append_nil, Nat.reduceAdd, Nat.reduceSub, Nat.reduceMul, Nat.reduceLeDiff, Nat.zero_add, Nat.reduceEqDiff, List.replicate, List.drop, List.take, List.flatMap_cons, List.flatMap_nil, List.foldl_nil, List.foldl_cons, decide_true, decide_false, and_self, and_true, true_and, BEq.rfl, beq_self_eq_true, Option.map_some, Option.map_none, Option.bind_some, Option.bind_none, List.getElem?_toArray, Option.isSome_some, Option.isSome_none, beqs, ne_eq, not_true_eq_false, not_false_eq_true, false_or, or_false, or_self, Nat.reduceLT, false_and, and_false, List.nil_append, evEq, eqc, optO, b_add, b_sub, b_mul, b_eql, b_neq, b_lss, b_leq, b_gtr, b_geq, u_not, flags0, flags1, rs_P, d1, d2, s16, s8, show IntKind.i64.wrap (0 + 8) = 8 from rfl, show IntKind.i64.wrap (16 + 8) = 24 from rfl]
      rw [hr]
      rfl
end Go.Proofs
