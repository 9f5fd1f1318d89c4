/- The program's numbers: plain, shifted, back. No condition. -/
import Derived.Test.YtfhhgndppfpngaaRsa11
set_option linter.unusedSimpArgs false
set_option linter.unusedVariables false
set_option linter.unusedSimpArgs false
set_option linter.unusedVariables false
namespace Go.Proofs
open Go.Ev Go.Mx
theorem rs_lv40 : rsC.lv 40 = [true, false, true, false, false, false, false, false, false, false, false, false, false, false, true, false, false, false, false, false, false] := by kernel_rfl
theorem rs_lv64 : rsC.lv 64 = [true, true, false, false, true, true, true, true, true, false, false, false, false, true, true, true, true, false, false, false, false, false, false, false, false, false, false, false, false, false, false, false, false, false, false, false, false, false, false, false, false] := by kernel_rfl
set_option maxRecDepth 100000 in
set_option maxHeartbeats 4000000 in
theorem rs_plain (r : List Nat) (hr : r.length ≤ 1000000) : WP rsC 40 [N32 r] = some (N32 (trim r)) := by
  rw [WP_eq (show rsC.md 40 < 9 by decide) Try.func40 rfl]
  rw [show Try.f40.ntmps = 21 from rfl, rs_lv40]
  simp only [N32, List.map_cons, List.map_nil, List.length_cons, List.length_nil, Nat.reduceAdd, Nat.reduceSub, List.replicate, List.cons_append, List.nil_append]
  simp only [seqT, thn_normal, thn_ret, thn_exit, WC_region, WC_cond, WC_exit, WC_skip, WC_block, WC_ret, evRegion, Bool.false_eq_true, if_false, if_true, reduceIte, ops_n, ops_c, evStep, wantedA, evOp, opv, putA, ret1, ofVal, ofVal1, cellsOf, AV.isCell, clean, evFieldAddr, evField, evExtract, evBuild, evIndex, evBuiltin, evBuildSlice, evNilCheck, blkRead, mkAgg, mkTup, mapO, AV.pure?, setAt, afill, parts, calleeOf, tell, scalar, scalarL, frz, norm, normL, ids, Go.Ev.mark, deep, evResults, evResult, aggCells, partA, List.getElem?_cons_zero, List.getElem?_cons_succ, List.getElem?_nil, List.map_cons, List.map_nil, List.all_cons, List.all_nil, Bool.and_true, Bool.true_and, Bool.and_false, Bool.false_and, Bool.and_self, Bool.not_true, Bool.not_false, Bool.or_true, Bool.or_false, Bool.false_or, Bool.true_or, List.set, List.length_cons, List.length_nil, List.nil_append, List.cons_append, List.append_nil, Nat.reduceAdd, Nat.reduceSub, Nat.reduceMul, Nat.reduceLeDiff, Nat.zero_add, Nat.reduceEqDiff, List.replicate, List.drop, List.take, List.flatMap_cons, List.flatMap_nil, List.foldl_nil, List.foldl_cons, decide_true, decide_false, and_self, and_true, true_and, BEq.rfl, beq_self_eq_true, Option.map_some, Option.map_none, Option.bind_some, Option.bind_none, List.getElem?_toArray, Option.isSome_some, Option.isSome_none, beqs, ne_eq, not_true_eq_false, not_false_eq_true, false_or, or_false, or_self, Nat.reduceLT, false_and, and_false, List.nil_append, evEq, eqc, optO, b_add, b_sub, b_mul, b_eql, b_neq, b_lss, b_leq, b_gtr, b_geq, u_not, flags0, flags1, rs_P, len32 rs_P]
  generalize hI : (Code.loop _ : Code) = I
  have key : ∀ (n : Nat) (l : List Nat), l.length = n → n ≤ 1000000 → ∀ (v : AV), ∃ v', WC rsC [true, false, true, false, false, false, false, false, false, false, false, false, false, false, true, false, false, false, false, false, false] I ⟨[.p (.sl l.length false (l.map pu)), .p .any, .p (.nsl true), .p .any, .p .any, .p .any, .p .any, .p .any, .p .any, .p .any, .p .any, .p .any, .p .any, .p .any, v, .p .any, .p .any, .p .any, .p .any, .p .any, .p .any], []⟩ = some (.exit 0, ⟨[.p (.sl (trim l).length false ((trim l).map pu)), .p .any, .p (.nsl true), .p .any, .p .any, .p .any, .p .any, .p .any, .p .any, .p .any, .p .any, .p .any, .p .any, .p .any, v', .p .any, .p .any, .p .any, .p .any, .p .any, .p .any], []⟩) := by
    intro n
    induction n with
    | zero =>
      intro l hl _ v
      obtain rfl := List.length_eq_zero_iff.1 hl
      refine ⟨.p (.bool false), ?_⟩
      rw [← hI, WC_loop, hI]
      simp only [seqT, thn_normal, thn_ret, thn_exit, WC_region, WC_cond, WC_exit, WC_skip, WC_block, WC_ret, evRegion, Bool.false_eq_true, if_false, if_true, reduceIte, ops_n, ops_c, evStep, wantedA, evOp, opv, putA, ret1, ofVal, ofVal1, cellsOf, AV.isCell, clean, evFieldAddr, evField, evExtract, evBuild, evIndex, evBuiltin, evBuildSlice, evNilCheck, blkRead, mkAgg, mkTup, mapO, AV.pure?, setAt, afill, parts, calleeOf, tell, scalar, scalarL, frz, norm, normL, ids, Go.Ev.mark, deep, evResults, evResult, aggCells, partA, List.getElem?_cons_zero, List.getElem?_cons_succ, List.getElem?_nil, List.map_cons, List.map_nil, List.all_cons, List.all_nil, Bool.and_true, Bool.true_and, Bool.and_false, Bool.false_and, Bool.and_self, Bool.not_true, Bool.not_false, Bool.or_true, Bool.or_false, Bool.false_or, Bool.true_or, List.set, List.length_cons, List.length_nil, List.nil_append, List.cons_append, List.append_nil, Nat.reduceAdd, Nat.reduceSub, Nat.reduceMul, Nat.reduceLeDiff, Nat.zero_add, Nat.reduceEqDiff, List.replicate, List.drop, List.take, List.flatMap_cons, List.flatMap_nil, List.foldl_nil, List.foldl_cons, decide_true, decide_false, and_self, and_true, true_and, BEq.rfl, beq_self_eq_true, Option.map_some, Option.map_none, Option.bind_some, Option.bind_none, List.getElem?_toArray, Option.isSome_some, Option.isSome_none, beqs, ne_eq, not_true_eq_false, not_false_eq_true, false_or, or_false, or_self, Nat.reduceLT, false_and, and_false, List.nil_append, evEq, eqc, optO, b_add, b_sub, b_mul, b_eql, b_neq, b_lss, b_leq, b_gtr, b_geq, u_not, flags0, flags1, rs_P, len32 rs_P, Int.natCast_zero, Int.cast_ofNat_Int, show decide ((0 : Int) > 0) = false from by decide, trim_nil]
    | succ n ih =>
      intro l hl hn v
      obtain ⟨l', a, rfl⟩ : ∃ l' a, l = l' ++ [a] := by
        rcases List.eq_nil_or_concat l with h | ⟨l', a, h⟩
        · subst h; simp at hl
        · exact ⟨l', a, by simpa using h⟩
      have hl' : l'.length = n := by simpa using hl
      have hga : (l' ++ [a]).getD n 0 = a := by
        rw [List.getD_eq_getElem?_getD, List.getElem?_append_right (by omega), hl']
        simp
      have hgt : decide (((n + 1 : Nat) : Int) > 0) = true := decide_eq_true (by omega)
      have hs1 : IntKind.i64.wrap (((n + 1 : Nat) : Int) - 1) = (n : Int) := by rw [wrap_i64 (by omega) (by omega)]; omega
      have hix := ix32 (l := l' ++ [a]) (x := false) (i := n) (by omega)
      have hld := ld32 (l := l' ++ [a]) (i := n) (H := []) (by omega)
      have hsl := sliceTo32 (l := l' ++ [a]) (x := false) (i := n) (by omega)
      rw [hga] at hld
      rw [hl, Bool.false_and, List.take_left' hl'] at hsl
      rw [hl] at hix
      obtain ⟨L, hL⟩ : ∃ L, L = (l' ++ [a]).map pu := ⟨_, rfl⟩
      rw [← hL] at hix hld hsl
      by_cases h0 : a = 0
      · subst h0
        have he : (((0 : Nat) : Int) == 0) = true := rfl
        obtain ⟨v', h1⟩ := ih l' hl' (by omega) (.p (.bool true))
        rw [hl'] at h1
        refine ⟨v', ?_⟩
        rw [trim_zero, ← hI, WC_loop, hI, hl, ← hL]
        simp only [seqT, thn_normal, thn_ret, thn_exit, WC_region, WC_cond, WC_exit, WC_skip, WC_block, WC_ret, evRegion, Bool.false_eq_true, if_false, if_true, reduceIte, ops_n, ops_c, evStep, wantedA, evOp, opv, putA, ret1, ofVal, ofVal1, cellsOf, AV.isCell, clean, evFieldAddr, evField, evExtract, evBuild, evIndex, evBuiltin, evBuildSlice, evNilCheck, blkRead, mkAgg, mkTup, mapO, AV.pure?, setAt, afill, parts, calleeOf, tell, scalar, scalarL, frz, norm, normL, ids, Go.Ev.mark, deep, evResults, evResult, aggCells, partA, List.getElem?_cons_zero, List.getElem?_cons_succ, List.getElem?_nil, List.map_cons, List.map_nil, List.all_cons, List.all_nil, Bool.and_true, Bool.true_and, Bool.and_false, Bool.false_and, Bool.and_self, Bool.not_true, Bool.not_false, Bool.or_true, Bool.or_false, Bool.false_or, Bool.true_or, List.set, List.length_cons, List.length_nil, List.nil_append, List.cons_append, List.append_nil, Nat.reduceAdd, Nat.reduceSub, Nat.reduceMul, Nat.reduceLeDiff, Nat.zero_add, Nat.reduceEqDiff, List.replicate, List.drop, List.take, List.flatMap_cons, List.flatMap_nil, List.foldl_nil, List.foldl_cons, decide_true, decide_false, and_self, and_true, true_and, BEq.rfl, beq_self_eq_true, Option.map_some, Option.map_none, Option.bind_some, Option.bind_none, List.getElem?_toArray, Option.isSome_some, Option.isSome_none, beqs, ne_eq, not_true_eq_false, not_false_eq_true, false_or, or_false, or_self, Nat.reduceLT, false_and, and_false, List.nil_append, evEq, eqc, optO, b_add, b_sub, b_mul, b_eql, b_neq, b_lss, b_leq, b_gtr, b_geq, u_not, flags0, flags1, rs_P, len32 rs_P, hgt, hs1, hix, hld, pu, hsl, he]
        exact h1
      · have he : ((a : Int) == 0) = false := beq_eq_false_iff_ne.2 (by omega)
        refine ⟨.p (.bool false), ?_⟩
        rw [trim_pos l' h0, ← hI, WC_loop, hI, hl, ← hL]
        simp only [seqT, thn_normal, thn_ret, thn_exit, WC_region, WC_cond, WC_exit, WC_skip, WC_block, WC_ret, evRegion, Bool.false_eq_true, if_false, if_true, reduceIte, ops_n, ops_c, evStep, wantedA, evOp, opv, putA, ret1, ofVal, ofVal1, cellsOf, AV.isCell, clean, evFieldAddr, evField, evExtract, evBuild, evIndex, evBuiltin, evBuildSlice, evNilCheck, blkRead, mkAgg, mkTup, mapO, AV.pure?, setAt, afill, parts, calleeOf, tell, scalar, scalarL, frz, norm, normL, ids, Go.Ev.mark, deep, evResults, evResult, aggCells, partA, List.getElem?_cons_zero, List.getElem?_cons_succ, List.getElem?_nil, List.map_cons, List.map_nil, List.all_cons, List.all_nil, Bool.and_true, Bool.true_and, Bool.and_false, Bool.false_and, Bool.and_self, Bool.not_true, Bool.not_false, Bool.or_true, Bool.or_false, Bool.false_or, Bool.true_or, List.set, List.length_cons, List.length_nil, List.nil_append, List.cons_append, List.append_nil, Nat.reduceAdd, Nat.reduceSub, Nat.reduceMul, Nat.reduceLeDiff, Nat.zero_add, Nat.reduceEqDiff, List.replicate, List.drop, List.take, List.flatMap_cons, List.flatMap_nil, List.foldl_nil, List.foldl_cons, decide_true, decide_false, and_self, and_true, true_and, BEq.rfl, beq_self_eq_true, Option.map_some, Option.map_none, Option.bind_some, Option.bind_none, List.getElem?_toArray, Option.isSome_some, Option.isSome_none, beqs, ne_eq, not_true_eq_false, not_false_eq_true, false_or, or_false, or_self, Nat.reduceLT, false_and, and_false, List.nil_append, evEq, eqc, optO, b_add, b_sub, b_mul, b_eql, b_neq, b_lss, b_leq, b_gtr, b_geq, u_not, flags0, flags1, rs_P, len32 rs_P, hgt, hs1, hix, hld, pu, hsl, he]
  obtain ⟨v', h1⟩ := key r.length r rfl hr (.p .und)
  rw [h1]
  simp only [seqT, thn_normal, thn_ret, thn_exit, WC_region, WC_cond, WC_exit, WC_skip, WC_block, WC_ret, evRegion, Bool.false_eq_true, if_false, if_true, reduceIte, ops_n, ops_c, evStep, wantedA, evOp, opv, putA, ret1, ofVal, ofVal1, cellsOf, AV.isCell, clean, evFieldAddr, evField, evExtract, evBuild, evIndex, evBuiltin, evBuildSlice, evNilCheck, blkRead, mkAgg, mkTup, mapO, AV.pure?, setAt, afill, parts, calleeOf, tell, scalar, scalarL, norm, normL, ids, Go.Ev.mark, evResults, evResult, aggCells, partA, List.getElem?_cons_zero, List.getElem?_cons_succ, List.getElem?_nil, List.map_cons, List.map_nil, List.all_cons, List.all_nil, Bool.and_true, Bool.true_and, Bool.and_false, Bool.false_and, Bool.and_self, Bool.not_true, Bool.not_false, Bool.or_true, Bool.or_false, Bool.false_or, Bool.true_or, List.set, List.length_cons, List.length_nil, List.nil_append, List.cons_append, List.append_nil, Nat.reduceAdd, Nat.reduceSub, Nat.reduceMul, Nat.reduceLeDiff, Nat.zero_add, Nat.reduceEqDiff, List.replicate, List.drop, List.take, List.flatMap_cons, List.flatMap_nil, List.foldl_nil, List.foldl_cons, decide_true, decide_false, and_self, and_true, true_and, BEq.rfl, beq_self_eq_true, Option.map_some, Option.map_none, Option.bind_some, Option.bind_none, List.getElem?_toArray, Option.isSome_some, Option.isSome_none, beqs, ne_eq, not_true_eq_false, not_false_eq_true, false_or, or_false, or_self, Nat.reduceLT, false_and, and_false, List.nil_append, evEq, eqc, optO, b_add, b_sub, b_mul, b_eql, b_neq, b_lss, b_leq, b_gtr, b_geq, u_not, flags0, flags1, rs_P, normN, frz_p, show Try.f40.results = #[.tmp 2] from rfl]
set_option maxRecDepth 100000 in
set_option maxHeartbeats 4000000 in
theorem rs_nshifted (a : List Nat) (ha : Limbs a) (hla : a.length ≤ 100000) (n : Nat) (hn : n < 32) : ∃ o : List Nat, W rsC 64 [.p (N32 a), .p (.int .i64 (n : Int))] [] = some (.ms 0 0 0 (a.length + 1) 1, [⟨0, false, lb o⟩]) ∧ Limbs o ∧ o.length = a.length + 1 ∧ val o = val a * 2 ^ n := by
  rw [W_fin (show rsC.md 64 < 9 by decide) Try.func64 rfl]
  rw [show Try.f64.ntmps = 41 from rfl, rs_lv64]
  simp only [N32, List.map_cons, List.map_nil, List.length_cons, List.length_nil, Nat.reduceAdd, Nat.reduceSub, List.replicate, List.cons_append, List.nil_append]
  have hm1 := inext (k := a.length) (by omega)
  obtain ⟨L, hL⟩ : ∃ L, L = a.length + 1 := ⟨_, rfl⟩
  rw [← hL] at hm1 ⊢
  simp only [seqT, thn_normal, thn_ret, thn_exit, WC_region, WC_cond, WC_exit, WC_skip, WC_block, WC_ret, evRegion, Bool.false_eq_true, if_false, if_true, reduceIte, ops_n, ops_c, evStep, wantedA, evOp, opv, putA, ret1, ofVal, ofVal1, cellsOf, AV.isCell, clean, evFieldAddr, evField, evExtract, evBuild, evIndex, evBuiltin, evBuildSlice, evNilCheck, blkRead, mkAgg, mkTup, mapO, AV.pure?, setAt, afill, parts, calleeOf, tell, scalar, scalarL, frz, norm, normL, ids, Go.Ev.mark, deep, evResults, evResult, aggCells, partA, List.getElem?_cons_zero, List.getElem?_cons_succ, List.getElem?_nil, List.map_cons, List.map_nil, List.all_cons, List.all_nil, Bool.and_true, Bool.true_and, Bool.and_false, Bool.false_and, Bool.and_self, Bool.not_true, Bool.not_false, Bool.or_true, Bool.or_false, Bool.false_or, Bool.true_or, List.set, List.length_cons, List.length_nil, List.nil_append, List.cons_append, List.append_nil, Nat.reduceAdd, Nat.reduceSub, Nat.reduceMul, Nat.reduceLeDiff, Nat.zero_add, Nat.reduceEqDiff, List.replicate, List.drop, List.take, List.flatMap_cons, List.flatMap_nil, List.foldl_nil, List.foldl_cons, decide_true, decide_false, and_self, and_true, true_and, BEq.rfl, beq_self_eq_true, Option.map_some, Option.map_none, Option.bind_some, Option.bind_none, List.getElem?_toArray, Option.isSome_some, Option.isSome_none, beqs, ne_eq, not_true_eq_false, not_false_eq_true, false_or, or_false, or_self, Nat.reduceLT, false_and, and_false, List.nil_append, evEq, eqc, optO, b_add, b_sub, b_mul, b_eql, b_neq, b_lss, b_leq, b_gtr, b_geq, u_not, flags0, flags1, rs_P, len32 rs_P, hm1, mk32 (n := L) (by omega)]
  generalize hI : (Code.loop _ : Code) = I
  have inner : ∀ (m k : Nat) (o : List Nat) (t6 t7 t8 t16 : AV), k + m = a.length → o.length = L → Limbs o → val o = val (a.take k) * 2 ^ n → o.getD k 0 < 2 ^ n → (∀ j, k < j → o.getD j 0 = 0) → ∃ (o' : List Nat) (t6' t7' t8' t16' : AV),
      WC rsC [true, true, false, false, true, true, true, true, true, false, false, false, false, true, true, true, true, false, false, false, false, false, false, false, false, false, false, false, false, false, false, false, false, false, false, false, false, false, false, false, false] I ⟨[.p (.sl a.length false (a.map pu)), .p (.int .i64 (n : Int)), .p .any, .p .any, .p (.nsl true), .ms 0 0 0 L 1, t6, t7, t8, .p .any, .p .any, .p .any, .p .any, .p (.sl a.length false (a.map pu)), .p (.int .i64 (a.length : Int)), .p (.int .i64 (k : Int)), t16, .p .any, .p .any, .p .any, .p .any, .p .any, .p .any, .p .any, .p .any, .p .any, .p .any, .p .any, .p .any, .p .any, .p .any, .p .any, .p .any, .p .any, .p .any, .p .any, .p .any, .p .any, .p .any, .p .any, .p .any], [⟨0, false, lb o⟩]⟩ = some (.exit 0, ⟨[.p (.sl a.length false (a.map pu)), .p (.int .i64 (n : Int)), .p .any, .p .any, .p (.nsl true), .ms 0 0 0 L 1, t6', t7', t8', .p .any, .p .any, .p .any, .p .any, .p (.sl a.length false (a.map pu)), .p (.int .i64 (a.length : Int)), .p (.int .i64 (a.length : Int)), t16', .p .any, .p .any, .p .any, .p .any, .p .any, .p .any, .p .any, .p .any, .p .any, .p .any, .p .any, .p .any, .p .any, .p .any, .p .any, .p .any, .p .any, .p .any, .p .any, .p .any, .p .any, .p .any, .p .any, .p .any], [⟨0, false, lb o'⟩]⟩) ∧ o'.length = L ∧ Limbs o' ∧ val o' = val a * 2 ^ n := by
    intro m
    induction m with
    | zero =>
      intro k o t6 t7 t8 t16 hk ho hlo hv hy hz
      have hkb : k = a.length := by omega
      subst hkb
      have hlt : decide ((a.length : Int) < (a.length : Int)) = false := by simp
      refine ⟨o, t6, t7, t8, .p (.bool false), ?_, ho, hlo, by rw [hv, List.take_of_length_le (Nat.le_refl _)]⟩
      rw [← hI, WC_loop, hI]
      simp only [seqT, thn_normal, thn_ret, thn_exit, WC_region, WC_cond, WC_exit, WC_skip, WC_block, WC_ret, evRegion, Bool.false_eq_true, if_false, if_true, reduceIte, ops_n, ops_c, evStep, wantedA, evOp, opv, putA, ret1, ofVal, ofVal1, cellsOf, AV.isCell, clean, evFieldAddr, evField, evExtract, evBuild, evIndex, evBuiltin, evBuildSlice, evNilCheck, blkRead, mkAgg, mkTup, mapO, AV.pure?, setAt, afill, parts, calleeOf, tell, scalar, scalarL, frz, norm, normL, ids, Go.Ev.mark, deep, evResults, evResult, aggCells, partA, List.getElem?_cons_zero, List.getElem?_cons_succ, List.getElem?_nil, List.map_cons, List.map_nil, List.all_cons, List.all_nil, Bool.and_true, Bool.true_and, Bool.and_false, Bool.false_and, Bool.and_self, Bool.not_true, Bool.not_false, Bool.or_true, Bool.or_false, Bool.false_or, Bool.true_or, List.set, List.length_cons, List.length_nil, List.nil_append, List.cons_append, List.append_nil, Nat.reduceAdd, Nat.reduceSub, Nat.reduceMul, Nat.reduceLeDiff, Nat.zero_add, Nat.reduceEqDiff, List.replicate, List.drop, List.take, List.flatMap_cons, List.flatMap_nil, List.foldl_nil, List.foldl_cons, decide_true, decide_false, and_self, and_true, true_and, BEq.rfl, beq_self_eq_true, Option.map_some, Option.map_none, Option.bind_some, Option.bind_none, List.getElem?_toArray, Option.isSome_some, Option.isSome_none, beqs, ne_eq, not_true_eq_false, not_false_eq_true, false_or, or_false, or_self, Nat.reduceLT, false_and, and_false, List.nil_append, evEq, eqc, optO, b_add, b_sub, b_mul, b_eql, b_neq, b_lss, b_leq, b_gtr, b_geq, u_not, flags0, flags1, rs_P, len32 rs_P, hlt]
    | succ m ih =>
      intro k o t6 t7 t8 t16 hkm ho hlo hv hy hz
      have hk : k < a.length := by omega
      have hlt := ilt_t hk
      have hj : k < o.length := by omega
      have hj1 : k + 1 < o.length := by omega
      have hkL : k < L := by omega
      have hkL1 : k + 1 < L := by omega
      have hx := limbs_getD ha k
      have hva := val_take_succ a k hk
      have hix := ix32 (x := false) hk
      have hld := ld32 (H := [⟨0, false, lb o⟩]) hk
      generalize hxx : a.getD k 0 = x at *
      have hLB : LB = 4294967296 := rfl
      have h2n : 2 ^ n ≤ 2 ^ 31 := Nat.pow_le_pow_right (by decide) (by omega)
      have hxs : x * 2 ^ n < LB * 2 ^ n := Nat.mul_lt_mul_of_pos_right hx (Nat.two_pow_pos n)
      have hxs2 : LB * 2 ^ n ≤ LB * 2 ^ 31 := Nat.mul_le_mul_left _ h2n
      have hp31 : (2 : Nat) ^ 31 = 2147483648 := by decide
      rw [hp31] at h2n hxs2
      have hw1 := w64 (x := x) (by omega)
      have hshl := fun (P : Program) (t : TypeId) (kk : IntKind) => b_shl (P := P) (t := t) (k := kk) (x := x) (n := n) (by omega) (by omega)
      have hor := fun (P : Program) (t : TypeId) => b_or32 (P := P) (t := t) (x := o.getD k 0) (y := x * 2 ^ n % LB) (by omega) (Nat.mod_lt _ (by decide))
      rw [or_low hn hy] at hor
      have hq : x * 2 ^ n / LB < 2 ^ n := Nat.div_lt_of_lt_mul hxs
      have hw2 := wrap_u32 (x * 2 ^ n / LB)
      rw [Nat.mod_eq_of_lt (by omega)] at hw2
      have hk1 := inext (k := k) (by omega)
      obtain ⟨o1, ho1⟩ : ∃ o1, o1 = o.set k (x * 2 ^ n % LB + o.getD k 0) := ⟨_, rfl⟩
      have hz1 : x * 2 ^ n % LB + o.getD k 0 < LB := by
        rw [← or_low hn hy]
        exact Nat.or_lt_two_pow (n := 32) (by omega) (Nat.mod_lt _ (by decide))
      have hj2 : k + 1 < o1.length := by rw [ho1, List.length_set]; omega
      have hl1 : Limbs o1 := by rw [ho1]; exact limbs_set hlo hz1
      have hst1 := stms1 (ver := 0) (j := k) (z := x * 2 ^ n % LB + o.getD k 0) (o := o) hj
      rw [← ho1] at hst1
      have hst2 := stms1 (ver := 0) (j := k + 1) (z := x * 2 ^ n / LB) (o := o1) hj2
      have hv1 := val_set o k (x * 2 ^ n % LB + o.getD k 0) hj
      rw [← ho1] at hv1
      have hv2 := val_set o1 (k + 1) (x * 2 ^ n / LB) hj2
      have hg1 : o1.getD (k + 1) 0 = 0 := by rw [ho1, getD_set_ne (by omega), hz _ (by omega)]
      rw [hg1] at hv2
      obtain ⟨o', t6', t7', t8', t16', h1, h2, h3, h4⟩ := ih (k + 1) (o1.set (k + 1) (x * 2 ^ n / LB)) (.p (.int .i64 (k : Int))) (.p (.int .u32 (x : Int))) (.p (.int .u64 ((x * 2 ^ n : Nat) : Int))) (.p (.bool true)) (by omega) (by rw [List.length_set, ho1, List.length_set]; exact ho) (limbs_set hl1 (by omega)) (by
        rw [hva, Nat.add_mul]
        rw [Nat.pow_succ] at hv2
        have hs := split_mul (x * 2 ^ n) (LB ^ k)
        rw [Nat.add_mul] at hv1
        have e : x * LB ^ k * 2 ^ n = x * 2 ^ n * LB ^ k := Nat.mul_right_comm _ _ _
        omega) (by rw [getD_set_eq hj2]; exact hq) (fun j hj => by rw [getD_set_ne (by omega), ho1, getD_set_ne (by omega), hz _ (by omega)])
      refine ⟨o', t6', t7', t8', t16', ?_, h2, h3, h4⟩
      rw [← hI, WC_loop, hI]
      simp only [seqT, thn_normal, thn_ret, thn_exit, WC_region, WC_cond, WC_exit, WC_skip, WC_block, WC_ret, evRegion, Bool.false_eq_true, if_false, if_true, reduceIte, ops_n, ops_c, evStep, wantedA, evOp, opv, putA, ret1, ofVal, ofVal1, cellsOf, AV.isCell, clean, evFieldAddr, evField, evExtract, evBuild, evIndex, evBuiltin, evBuildSlice, evNilCheck, blkRead, mkAgg, mkTup, mapO, AV.pure?, setAt, afill, parts, calleeOf, tell, scalar, scalarL, frz, norm, normL, ids, Go.Ev.mark, deep, evResults, evResult, aggCells, partA, List.getElem?_cons_zero, List.getElem?_cons_succ, List.getElem?_nil, List.map_cons, List.map_nil, List.all_cons, List.all_nil, Bool.and_true, Bool.true_and, Bool.and_false, Bool.false_and, Bool.and_self, Bool.not_true, Bool.not_false, Bool.or_true, Bool.or_false, Bool.false_or, Bool.true_or, List.set, List.length_cons, List.length_nil, List.nil_append, List.cons_append, List.append_nil, Nat.reduceAdd, Nat.reduceSub, Nat.reduceMul, Nat.reduceLeDiff, Nat.zero_add, Nat.reduceEqDiff, List.replicate, List.drop, List.take, List.flatMap_cons, List.flatMap_nil, List.foldl_nil, List.foldl_cons, decide_true, decide_false, and_self, and_true, true_and, BEq.rfl, beq_self_eq_true, Option.map_some, Option.map_none, Option.bind_some, Option.bind_none, List.getElem?_toArray, Option.isSome_some, Option.isSome_none, beqs, ne_eq, not_true_eq_false, not_false_eq_true, false_or, or_false, or_self, Nat.reduceLT, false_and, and_false, List.nil_append, evEq, eqc, optO, b_add, b_sub, b_mul, b_eql, b_neq, b_lss, b_leq, b_gtr, b_geq, u_not, flags0, flags1, rs_P, len32 rs_P, hlt, hix, hld, pu, mulConv, hw1, hshl, ixms hkL, ixms hkL1, Nat.zero_add, ldms1 hj, hor, wrap_u32 (x * 2 ^ n), hst1, hst2, b_shr32, hw2, hk1]
      exact h1
  obtain ⟨o', t6', t7', t8', t16', k1, k2, k3, k4⟩ := inner a.length 0 (List.replicate L 0) (.p .und) (.p .und) (.p .und) (.p .und) (by omega) (by simp)
    (fun x hx => by rw [List.eq_of_mem_replicate hx]; decide) (by simp [val_zeros, val]) (by
      have : (List.replicate L 0).getD 0 0 = 0 := by simp [List.getD_eq_getElem?_getD, List.getElem?_replicate]; split <;> rfl
      rw [this]; exact Nat.two_pow_pos n) (fun j _ => by simp [List.getD_eq_getElem?_getD, List.getElem?_replicate]; split <;> rfl)
  simp only [Int.natCast_zero, Int.cast_ofNat_Int] at k1
  refine ⟨o', ?_, k3, k2, k4⟩
  rw [k1]
  simp only [seqT, thn_normal, thn_ret, thn_exit, WC_region, WC_cond, WC_exit, WC_skip, WC_block, WC_ret, evRegion, Bool.false_eq_true, if_false, if_true, reduceIte, ops_n, ops_c, evStep, wantedA, evOp, opv, putA, ret1, ofVal, ofVal1, cellsOf, AV.isCell, clean, evFieldAddr, evField, evExtract, evBuild, evIndex, evBuiltin, evBuildSlice, evNilCheck, blkRead, mkAgg, mkTup, mapO, AV.pure?, setAt, afill, parts, calleeOf, tell, scalar, scalarL, frz, norm, normL, ids, Go.Ev.mark, deep, evResults, evResult, aggCells, partA, List.getElem?_cons_zero, List.getElem?_cons_succ, List.getElem?_nil, List.map_cons, List.map_nil, List.all_cons, List.all_nil, Bool.and_true, Bool.true_and, Bool.and_false, Bool.false_and, Bool.and_self, Bool.not_true, Bool.not_false, Bool.or_true, Bool.or_false, Bool.false_or, Bool.true_or, List.set, List.length_cons, List.length_nil, List.nil_append, List.cons_append, List.append_nil, Nat.reduceAdd, Nat.reduceSub, Nat.reduceMul, Nat.reduceLeDiff, Nat.zero_add, Nat.reduceEqDiff, List.replicate, List.drop, List.take, List.flatMap_cons, List.flatMap_nil, List.foldl_nil, List.foldl_cons, decide_true, decide_false, and_self, and_true, true_and, BEq.rfl, beq_self_eq_true, Option.map_some, Option.map_none, Option.bind_some, Option.bind_none, List.getElem?_toArray, Option.isSome_some, Option.isSome_none, beqs, ne_eq, not_true_eq_false, not_false_eq_true, false_or, or_false, or_self, Nat.reduceLT, false_and, and_false, List.nil_append, evEq, eqc, optO, b_add, b_sub, b_mul, b_eql, b_neq, b_lss, b_leq, b_gtr, b_geq, u_not, flags0, flags1, rs_P, fin, show Try.f64.results = #[.tmp 4] from rfl]
end Go.Proofs
set_option linter.unusedSimpArgs false
set_option linter.unusedVariables false
namespace Go.Proofs
open Go.Ev Go.Mx
theorem rs_lv68 : rsC.lv 68 = [true, true, false, false, true, true, true, true, false, false, false, true, true, true, true, false, false, false, false, false, false, false, false, false, false, false, false, false, true, false, false, false, false, false, false, false, false, false, false, false, false, false, false, false, false, false, false, false] := by kernel_rfl
theorem mod01 {x : ABlk} {f : ABlk → ABlk} : [x].modify 0 f = [f x] := rfl
theorem back_or {x y n : Nat} (hx : x < LB) (hn : n < 32) : x / 2 ^ n ||| (y * LB / 2 ^ n % LB) = (y * LB + x) / 2 ^ n % LB := by
  have hL : LB = 2 ^ n * 2 ^ (32 - n) := by rw [← Nat.pow_add, show n + (32 - n) = 32 by omega]; rfl
  have hp := Nat.two_pow_pos n
  have e1 : y * LB = 2 ^ n * (y * 2 ^ (32 - n)) := by rw [hL]; simp only [Nat.mul_left_comm]
  have e2 : y * LB / 2 ^ n = y * 2 ^ (32 - n) := by rw [e1, Nat.mul_div_cancel_left _ hp]
  have e3 : (y * LB + x) / 2 ^ n = y * 2 ^ (32 - n) + x / 2 ^ n := by rw [e1, Nat.mul_add_div hp]
  have hxl : x / 2 ^ n < 2 ^ (32 - n) := Nat.div_lt_of_lt_mul (by rw [← hL]; exact hx)
  have e4 : y * 2 ^ (32 - n) % LB = y % 2 ^ n * 2 ^ (32 - n) := by rw [hL, Nat.mul_mod_mul_right]
  have e5 : (y * 2 ^ (32 - n) + x / 2 ^ n) % LB = y % 2 ^ n * 2 ^ (32 - n) + x / 2 ^ n := by
    have h1 : y = 2 ^ n * (y / 2 ^ n) + y % 2 ^ n := (Nat.div_add_mod y (2 ^ n)).symm
    have h2 : y * 2 ^ (32 - n) = LB * (y / 2 ^ n) + y % 2 ^ n * 2 ^ (32 - n) := by
      rw [hL]
      conv => lhs; rw [h1]
      rw [Nat.add_mul, Nat.mul_right_comm]
    have h3 : y % 2 ^ n * 2 ^ (32 - n) + x / 2 ^ n < LB := by
      have h4 : (y % 2 ^ n + 1) * 2 ^ (32 - n) ≤ 2 ^ n * 2 ^ (32 - n) := Nat.mul_le_mul_right _ (Nat.mod_lt _ hp)
      rw [← hL, Nat.add_mul, Nat.one_mul] at h4
      omega
    rw [h2, Nat.add_assoc, Nat.mul_add_mod, Nat.mod_eq_of_lt h3]
  rw [e2, e4, e3, e5, Nat.or_comm, or_add hxl]
set_option maxRecDepth 100000 in
set_option maxHeartbeats 4000000 in
theorem rs_nback (a : List Nat) (ha : Limbs a) (hla : a.length ≤ 100000) (n : Nat) (hn : n < 32) : WP rsC 68 [N32 a, .int .i64 (n : Int)] = some (N32 (toL (val a / 2 ^ n))) := by
  have hLB : LB = 4294967296 := rfl
  rw [WP_eq (show rsC.md 68 < 9 by decide) Try.func68 rfl]
  rw [show Try.f68.ntmps = 48 from rfl, rs_lv68]
  simp only [N32, List.map_cons, List.map_nil, List.length_cons, List.length_nil, Nat.reduceAdd, Nat.reduceSub, List.replicate, List.cons_append, List.nil_append]
  simp only [seqT, thn_normal, thn_ret, thn_exit, WC_region, WC_cond, WC_exit, WC_skip, WC_block, WC_ret, evRegion, Bool.false_eq_true, if_false, if_true, reduceIte, ops_n, ops_c, evStep, wantedA, evOp, opv, putA, ret1, ofVal, ofVal1, cellsOf, AV.isCell, clean, evFieldAddr, evField, evExtract, evBuild, evIndex, evBuiltin, evBuildSlice, evNilCheck, blkRead, mkAgg, mkTup, mapO, AV.pure?, setAt, afill, parts, calleeOf, tell, scalar, scalarL, frz, norm, normL, ids, Go.Ev.mark, deep, evResults, evResult, aggCells, partA, List.getElem?_cons_zero, List.getElem?_cons_succ, List.getElem?_nil, List.map_cons, List.map_nil, List.all_cons, List.all_nil, Bool.and_true, Bool.true_and, Bool.and_false, Bool.false_and, Bool.and_self, Bool.not_true, Bool.not_false, Bool.or_true, Bool.or_false, Bool.false_or, Bool.true_or, List.set, List.length_cons, List.length_nil, List.nil_append, List.cons_append, List.append_nil, Nat.reduceAdd, Nat.reduceSub, Nat.reduceMul, Nat.reduceLeDiff, Nat.zero_add, Nat.reduceEqDiff, List.replicate, List.drop, List.take, List.flatMap_cons, List.flatMap_nil, List.foldl_nil, List.foldl_cons, decide_true, decide_false, and_self, and_true, true_and, BEq.rfl, beq_self_eq_true, Option.map_some, Option.map_none, Option.bind_some, Option.bind_none, List.getElem?_toArray, Option.isSome_some, Option.isSome_none, beqs, ne_eq, not_true_eq_false, not_false_eq_true, false_or, or_false, or_self, Nat.reduceLT, false_and, and_false, List.nil_append, evEq, eqc, optO, b_add, b_sub, b_mul, b_eql, b_neq, b_lss, b_leq, b_gtr, b_geq, u_not, flags0, flags1, rs_P, len32 rs_P, mk32 (n := a.length) (by omega)]
  generalize hI : (Code.loop _ : Code) = I
  have inner : ∀ (m k : Nat) (o : List Nat) (t6 t7 t14 t28 : AV), k + m = a.length → o.length = a.length → Limbs o → val o = val a / 2 ^ n % LB ^ k → (∀ j, k ≤ j → o.getD j 0 = 0) → ∃ (o' : List Nat) (t6' t7' t14' t28' : AV),
      WC rsC [true, true, false, false, true, true, true, true, false, false, false, true, true, true, true, false, false, false, false, false, false, false, false, false, false, false, false, false, true, false, false, false, false, false, false, false, false, false, false, false, false, false, false, false, false, false, false, false] I ⟨[.p (.sl a.length false (a.map pu)), .p (.int .i64 (n : Int)), .p .any, .p .any, .p (.nsl true), .ms 0 0 0 a.length 1, t6, t7, .p .any, .p .any, .p .any, .p (.sl a.length false (a.map pu)), .p (.int .i64 (a.length : Int)), .p (.int .i64 (k : Int)), t14, .p .any, .p .any, .p .any, .p .any, .p .any, .p .any, .p .any, .p .any, .p .any, .p .any, .p .any, .p .any, .p .any, t28, .p .any, .p .any, .p .any, .p .any, .p .any, .p .any, .p .any, .p .any, .p .any, .p .any, .p .any, .p .any, .p .any, .p .any, .p .any, .p .any, .p .any, .p .any, .p .any], [⟨0, false, lb o⟩]⟩ = some (.exit 0, ⟨[.p (.sl a.length false (a.map pu)), .p (.int .i64 (n : Int)), .p .any, .p .any, .p (.nsl true), .ms 0 0 0 a.length 1, t6', t7', .p .any, .p .any, .p .any, .p (.sl a.length false (a.map pu)), .p (.int .i64 (a.length : Int)), .p (.int .i64 (a.length : Int)), t14', .p .any, .p .any, .p .any, .p .any, .p .any, .p .any, .p .any, .p .any, .p .any, .p .any, .p .any, .p .any, .p .any, t28', .p .any, .p .any, .p .any, .p .any, .p .any, .p .any, .p .any, .p .any, .p .any, .p .any, .p .any, .p .any, .p .any, .p .any, .p .any, .p .any, .p .any, .p .any, .p .any], [⟨0, false, lb o'⟩]⟩) ∧ o'.length = a.length ∧ Limbs o' ∧ val o' = val a / 2 ^ n % LB ^ a.length := by
    intro m
    induction m with
    | zero =>
      intro k o t6 t7 t14 t28 hk ho hlo hv hz
      have hkb : k = a.length := by omega
      subst hkb
      have hlt : decide ((a.length : Int) < (a.length : Int)) = false := by simp
      refine ⟨o, t6, t7, .p (.bool false), t28, ?_, ho, hlo, hv⟩
      rw [← hI, WC_loop, hI]
      simp only [seqT, thn_normal, thn_ret, thn_exit, WC_region, WC_cond, WC_exit, WC_skip, WC_block, WC_ret, evRegion, Bool.false_eq_true, if_false, if_true, reduceIte, ops_n, ops_c, evStep, wantedA, evOp, opv, putA, ret1, ofVal, ofVal1, cellsOf, AV.isCell, clean, evFieldAddr, evField, evExtract, evBuild, evIndex, evBuiltin, evBuildSlice, evNilCheck, blkRead, mkAgg, mkTup, mapO, AV.pure?, setAt, afill, parts, calleeOf, tell, scalar, scalarL, frz, norm, normL, ids, Go.Ev.mark, deep, evResults, evResult, aggCells, partA, List.getElem?_cons_zero, List.getElem?_cons_succ, List.getElem?_nil, List.map_cons, List.map_nil, List.all_cons, List.all_nil, Bool.and_true, Bool.true_and, Bool.and_false, Bool.false_and, Bool.and_self, Bool.not_true, Bool.not_false, Bool.or_true, Bool.or_false, Bool.false_or, Bool.true_or, List.set, List.length_cons, List.length_nil, List.nil_append, List.cons_append, List.append_nil, Nat.reduceAdd, Nat.reduceSub, Nat.reduceMul, Nat.reduceLeDiff, Nat.zero_add, Nat.reduceEqDiff, List.replicate, List.drop, List.take, List.flatMap_cons, List.flatMap_nil, List.foldl_nil, List.foldl_cons, decide_true, decide_false, and_self, and_true, true_and, BEq.rfl, beq_self_eq_true, Option.map_some, Option.map_none, Option.bind_some, Option.bind_none, List.getElem?_toArray, Option.isSome_some, Option.isSome_none, beqs, ne_eq, not_true_eq_false, not_false_eq_true, false_or, or_false, or_self, Nat.reduceLT, false_and, and_false, List.nil_append, evEq, eqc, optO, b_add, b_sub, b_mul, b_eql, b_neq, b_lss, b_leq, b_gtr, b_geq, u_not, flags0, flags1, rs_P, len32 rs_P, hlt]
    | succ m ih =>
      intro k o t6 t7 t14 t28 hkm ho hlo hv hz
      have hk : k < a.length := by omega
      have hlt := ilt_t hk
      have hj : k < o.length := by omega
      have hx := limbs_getD ha k
      have hy := limbs_getD ha (k + 1)
      have hix := ix32 (x := false) hk
      have hld := fun H => ld32 (H := H) hk
      have hbl := back_limb ha hn (k := k) (by omega)
      have hk1 := inext (k := k) (by omega)
      have hor0 := back_or (y := a.getD (k + 1) 0) hx hn
      have hst0 := fun z => stms1 (ver := 0) (j := k) (z := z) (o := o) hj
      have hv1 := val_set o k ((a.getD (k + 1) 0 * LB + a.getD k 0) / 2 ^ n % LB) hj
      rw [hz k (Nat.le_refl _), Nat.zero_mul, Nat.add_zero] at hv1
      have hih := ih (k + 1) (o.set k ((a.getD (k + 1) 0 * LB + a.getD k 0) / 2 ^ n % LB)) (.p (.int .i64 (k : Int))) (.p (.int .u32 ((a.getD k 0 : Nat) : Int))) (.p (.bool true))
      by_cases hk2 : k + 1 < a.length
      · have hl2 := ilt_t hk2
        obtain ⟨o', t6', t7', t14', t28', h1, h2, h3, h4⟩ := hih (.p (.bool true)) (by omega) (by rw [List.length_set]; exact ho) (limbs_set hlo (Nat.mod_lt _ (by decide))) (by
          rw [hv1, hv, hbl, Nat.pow_succ, Nat.mod_mul, Nat.mul_comm (_ % LB)]) (fun j hj => by rw [getD_set_ne (by omega), hz _ (by omega)])
        refine ⟨o', t6', t7', t14', t28', ?_, h2, h3, h4⟩
        have hix2 := ix32 (x := false) hk2
        have hld2 := fun H => ld32 (H := H) hk2
        generalize a.getD k 0 = x at *
        generalize a.getD (k + 1) 0 = y at *
        have hsh := fun (P : Program) (t : TypeId) (kk : IntKind) => s_u32 (P := P) (t := t) (k := kk) (x := x) (n := n) hn
        obtain ⟨X, hX⟩ : ∃ X, X = x / 2 ^ n := ⟨_, rfl⟩
        have hXl : X < LB := by rw [hX]; exact Nat.lt_of_le_of_lt (Nat.div_le_self _ _) hx
        obtain ⟨Y, hY⟩ : ∃ Y, Y = y * LB / 2 ^ n := ⟨_, rfl⟩
        obtain ⟨Z, hZ⟩ : ∃ Z, Z = (y * LB + x) / 2 ^ n % LB := ⟨_, rfl⟩
        rw [← hX] at hsh hor0
        rw [← hY, ← hZ] at hor0
        rw [← hZ] at h1
        have hwy := w64 (x := y) (by omega)
        obtain ⟨R, hR⟩ : ∃ R, R = y * LB := ⟨_, rfl⟩
        have hs1 := fun (P : Program) (t : TypeId) (kk : IntKind) => b_shl32 (P := P) (t := t) (k := kk) hy
        rw [← hR] at hs1
        have hs2 := fun (P : Program) (t : TypeId) (kk : IntKind) => b_shr (P := P) (t := t) (k := kk) (x := R) (n := n) (by omega)
        rw [hR, ← hY, ← hR] at hs2
        have hwY := wrap_u32 Y
        have hob := fun (P : Program) (t : TypeId) => b_or32 (P := P) (t := t) (x := X) (y := Y % LB) hXl (Nat.mod_lt _ (by decide))
        rw [hor0] at hob
        have hst1 := hst0 X
        obtain ⟨o1, ho1⟩ : ∃ o1, o1 = o.set k X := ⟨_, rfl⟩
        have hj1 : k < o1.length := by rw [ho1, List.length_set]; exact hj
        have hg1 : o1.getD k 0 = X := by rw [ho1, getD_set_eq hj]
        have hl1 := fun f => ldG (H := [⟨0, f, lb o1⟩]) (id := 0) (ver := 0) (fz := f) (j := k) rfl hj1
        rw [hg1] at hl1
        have hst2 := stms1 (ver := 0) (j := k) (z := Z) (o := o1) hj1
        have hss : o1.set k Z = o.set k Z := by rw [ho1, List.set_set]
        rw [hss] at hst2
        rw [← ho1] at hst1
        rw [← hI, WC_loop, hI]
        simp only [seqT, thn_normal, thn_ret, thn_exit, WC_region, WC_cond, WC_exit, WC_skip, WC_block, WC_ret, evRegion, Bool.false_eq_true, if_false, if_true, reduceIte, ops_n, ops_c, evStep, wantedA, evOp, opv, putA, ret1, ofVal, ofVal1, cellsOf, AV.isCell, clean, evFieldAddr, evField, evExtract, evBuild, evIndex, evBuiltin, evBuildSlice, evNilCheck, blkRead, mkAgg, mkTup, mapO, AV.pure?, setAt, afill, parts, calleeOf, tell, scalar, scalarL, frz, norm, normL, ids, Go.Ev.mark, deep, evResults, evResult, aggCells, partA, List.getElem?_cons_zero, List.getElem?_cons_succ, List.getElem?_nil, List.map_cons, List.map_nil, List.all_cons, List.all_nil, Bool.and_true, Bool.true_and, Bool.and_false, Bool.false_and, Bool.and_self, Bool.not_true, Bool.not_false, Bool.or_true, Bool.or_false, Bool.false_or, Bool.true_or, List.set, List.length_cons, List.length_nil, List.nil_append, List.cons_append, List.append_nil, Nat.reduceAdd, Nat.reduceSub, Nat.reduceMul, Nat.reduceLeDiff, Nat.zero_add, Nat.reduceEqDiff, List.replicate, List.drop, List.take, List.flatMap_cons, List.flatMap_nil, List.foldl_nil, List.foldl_cons, decide_true, decide_false, and_self, and_true, true_and, BEq.rfl, beq_self_eq_true, Option.map_some, Option.map_none, Option.bind_some, Option.bind_none, List.getElem?_toArray, Option.isSome_some, Option.isSome_none, beqs, ne_eq, not_true_eq_false, not_false_eq_true, false_or, or_false, or_self, Nat.reduceLT, false_and, and_false, List.nil_append, evEq, eqc, optO, b_add, b_sub, b_mul, b_eql, b_neq, b_lss, b_leq, b_gtr, b_geq, u_not, flags0, flags1, rs_P, len32 rs_P, hlt, hl2, hix, hld, hix2, hld2, pu, mulConv, hwy, hs1, hs2, hwY, hob, hsh, ixms hk, Nat.zero_add, hst1, hst2, hl1, hk1]
        exact h1
      · have hl2 := ilt_f hk2
        obtain ⟨o', t6', t7', t14', t28', h1, h2, h3, h4⟩ := hih (.p (.bool false)) (by omega) (by rw [List.length_set]; exact ho) (limbs_set hlo (Nat.mod_lt _ (by decide))) (by
          rw [hv1, hv, hbl, Nat.pow_succ, Nat.mod_mul, Nat.mul_comm (_ % LB)]) (fun j hj => by rw [getD_set_ne (by omega), hz _ (by omega)])
        refine ⟨o', t6', t7', t14', t28', ?_, h2, h3, h4⟩
        have hy0 : a.getD (k + 1) 0 = 0 := by rw [List.getD_eq_getElem?_getD, List.getElem?_eq_none (by omega)]; rfl
        rw [hy0, Nat.zero_mul, Nat.zero_add] at h1
        generalize a.getD k 0 = x at *
        have hsh := fun (P : Program) (t : TypeId) (kk : IntKind) => s_u32 (P := P) (t := t) (k := kk) (x := x) (n := n) hn
        obtain ⟨X, hX⟩ : ∃ X, X = x / 2 ^ n := ⟨_, rfl⟩
        have hXl : X < LB := by rw [hX]; exact Nat.lt_of_le_of_lt (Nat.div_le_self _ _) hx
        rw [← hX] at hsh h1
        rw [Nat.mod_eq_of_lt hXl] at h1
        have hst1 := hst0 X
        rw [← hI, WC_loop, hI]
        simp only [seqT, thn_normal, thn_ret, thn_exit, WC_region, WC_cond, WC_exit, WC_skip, WC_block, WC_ret, evRegion, Bool.false_eq_true, if_false, if_true, reduceIte, ops_n, ops_c, evStep, wantedA, evOp, opv, putA, ret1, ofVal, ofVal1, cellsOf, AV.isCell, clean, evFieldAddr, evField, evExtract, evBuild, evIndex, evBuiltin, evBuildSlice, evNilCheck, blkRead, mkAgg, mkTup, mapO, AV.pure?, setAt, afill, parts, calleeOf, tell, scalar, scalarL, frz, norm, normL, ids, Go.Ev.mark, deep, evResults, evResult, aggCells, partA, List.getElem?_cons_zero, List.getElem?_cons_succ, List.getElem?_nil, List.map_cons, List.map_nil, List.all_cons, List.all_nil, Bool.and_true, Bool.true_and, Bool.and_false, Bool.false_and, Bool.and_self, Bool.not_true, Bool.not_false, Bool.or_true, Bool.or_false, Bool.false_or, Bool.true_or, List.set, List.length_cons, List.length_nil, List.nil_append, List.cons_append, List.append_nil, Nat.reduceAdd, Nat.reduceSub, Nat.reduceMul, Nat.reduceLeDiff, Nat.zero_add, Nat.reduceEqDiff, List.replicate, List.drop, List.take, List.flatMap_cons, List.flatMap_nil, List.foldl_nil, List.foldl_cons, decide_true, decide_false, and_self, and_true, true_and, BEq.rfl, beq_self_eq_true, Option.map_some, Option.map_none, Option.bind_some, Option.bind_none, List.getElem?_toArray, Option.isSome_some, Option.isSome_none, beqs, ne_eq, not_true_eq_false, not_false_eq_true, false_or, or_false, or_self, Nat.reduceLT, false_and, and_false, List.nil_append, evEq, eqc, optO, b_add, b_sub, b_mul, b_eql, b_neq, b_lss, b_leq, b_gtr, b_geq, u_not, flags0, flags1, rs_P, len32 rs_P, hlt, hl2, hix, hld, pu, hsh, ixms hk, Nat.zero_add, hst1, hk1]
        exact h1
  obtain ⟨o', t6', t7', t14', t28', k1, k2, k3, k4⟩ := inner a.length 0 (List.replicate a.length 0) (.p .und) (.p .und) (.p .und) (.p .und) (by omega) (by simp)
    (fun x hx => by rw [List.eq_of_mem_replicate hx]; decide) (by simp [val_zeros, Nat.mod_one]) (fun j _ => by simp [List.getD_eq_getElem?_getD, List.getElem?_replicate]; split <;> rfl)
  simp only [Int.natCast_zero, Int.cast_ofNat_Int] at k1
  rw [k1]
  have hval : val o' = val a / 2 ^ n := by
    rw [k4]
    exact Nat.mod_eq_of_lt (Nat.lt_of_le_of_lt (Nat.div_le_self _ _) (val_lt ha))
  have hpl := rs_plain o' (by omega)
  rw [trim_toL k3, hval] at hpl
  have hfz := frzG (H := [⟨0, false, lb o'⟩]) (id := 0) (ver := 0) (off := 0) (k := a.length) (fz := false) (o := o') rfl (by omega)
  rw [List.drop_zero, List.take_of_length_le (by omega)] at hfz
  have hids := ids_ms (H := [⟨0, false, lb o'⟩]) (id := 0) (ver := 0) (off := 0) (k := a.length) (fz := false) (o := o') rfl
  simp only [N32] at hpl
  rw [k2] at hpl
  generalize toL (val a / 2 ^ n) = r at *
  obtain ⟨b, hb⟩ : ∃ b, scalar (.sl r.length false (r.map pu)) = b := ⟨_, rfl⟩
  cases b
  · simp only [seqT, thn_normal, thn_ret, thn_exit, WC_region, WC_cond, WC_exit, WC_skip, WC_block, WC_ret, evRegion, Bool.false_eq_true, if_false, if_true, reduceIte, ops_n, ops_c, evStep, wantedA, evOp, opv, putA, ret1, ofVal, ofVal1, cellsOf, AV.isCell, clean, evFieldAddr, evField, evExtract, evBuild, evIndex, evBuiltin, evBuildSlice, evNilCheck, blkRead, mkAgg, mkTup, mapO, AV.pure?, setAt, afill, parts, calleeOf, tell, norm, normL, ids, Go.Ev.mark, evResults, evResult, aggCells, partA, List.getElem?_cons_zero, List.getElem?_cons_succ, List.getElem?_nil, List.map_cons, List.map_nil, List.all_cons, List.all_nil, Bool.and_true, Bool.true_and, Bool.and_false, Bool.false_and, Bool.and_self, Bool.not_true, Bool.not_false, Bool.or_true, Bool.or_false, Bool.false_or, Bool.true_or, List.set, List.length_cons, List.length_nil, List.nil_append, List.cons_append, List.append_nil, Nat.reduceAdd, Nat.reduceSub, Nat.reduceMul, Nat.reduceLeDiff, Nat.zero_add, Nat.reduceEqDiff, List.replicate, List.drop, List.take, List.flatMap_cons, List.flatMap_nil, List.foldl_nil, List.foldl_cons, decide_true, decide_false, and_self, and_true, true_and, BEq.rfl, beq_self_eq_true, Option.map_some, Option.map_none, Option.bind_some, Option.bind_none, List.getElem?_toArray, Option.isSome_some, Option.isSome_none, beqs, ne_eq, not_true_eq_false, not_false_eq_true, false_or, or_false, or_self, Nat.reduceLT, false_and, and_false, List.nil_append, evEq, eqc, optO, b_add, b_sub, b_mul, b_eql, b_neq, b_lss, b_leq, b_gtr, b_geq, u_not, flags0, flags1, rs_P, evCall_tab (show ∀ f xs, rsC.O f xs = none from fun _ _ => rfl), show rsC.md 40 = 0 from rfl, normN, frz_p, hfz, hids, hb, hpl, mod01, show Try.f68.results = #[.tmp 4] from rfl]
  · simp only [seqT, thn_normal, thn_ret, thn_exit, WC_region, WC_cond, WC_exit, WC_skip, WC_block, WC_ret, evRegion, Bool.false_eq_true, if_false, if_true, reduceIte, ops_n, ops_c, evStep, wantedA, evOp, opv, putA, ret1, ofVal, ofVal1, cellsOf, AV.isCell, clean, evFieldAddr, evField, evExtract, evBuild, evIndex, evBuiltin, evBuildSlice, evNilCheck, blkRead, mkAgg, mkTup, mapO, AV.pure?, setAt, afill, parts, calleeOf, tell, norm, normL, ids, Go.Ev.mark, evResults, evResult, aggCells, partA, List.getElem?_cons_zero, List.getElem?_cons_succ, List.getElem?_nil, List.map_cons, List.map_nil, List.all_cons, List.all_nil, Bool.and_true, Bool.true_and, Bool.and_false, Bool.false_and, Bool.and_self, Bool.not_true, Bool.not_false, Bool.or_true, Bool.or_false, Bool.false_or, Bool.true_or, List.set, List.length_cons, List.length_nil, List.nil_append, List.cons_append, List.append_nil, Nat.reduceAdd, Nat.reduceSub, Nat.reduceMul, Nat.reduceLeDiff, Nat.zero_add, Nat.reduceEqDiff, List.replicate, List.drop, List.take, List.flatMap_cons, List.flatMap_nil, List.foldl_nil, List.foldl_cons, decide_true, decide_false, and_self, and_true, true_and, BEq.rfl, beq_self_eq_true, Option.map_some, Option.map_none, Option.bind_some, Option.bind_none, List.getElem?_toArray, Option.isSome_some, Option.isSome_none, beqs, ne_eq, not_true_eq_false, not_false_eq_true, false_or, or_false, or_self, Nat.reduceLT, false_and, and_false, List.nil_append, evEq, eqc, optO, b_add, b_sub, b_mul, b_eql, b_neq, b_lss, b_leq, b_gtr, b_geq, u_not, flags0, flags1, rs_P, evCall_tab (show ∀ f xs, rsC.O f xs = none from fun _ _ => rfl), show rsC.md 40 = 0 from rfl, normN, frz_p, hfz, hids, hb, hpl, mod01, show Try.f68.results = #[.tmp 4] from rfl]
end Go.Proofs
