/- The program's modular numbers. No condition. -/
import Derived.Test.YtfhhgndppfpngaaRsa16
set_option linter.unusedSimpArgs false
set_option linter.unusedVariables false
set_option linter.unusedSimpArgs false
set_option linter.unusedVariables false
namespace Go.Proofs
open Go.Ev Go.Mx
theorem rs_lv45 : rsC.lv 45 = [true, true, false, false, true, true, false, true, true, false, false, false, false, false, false, false, false, false] := by kernel_rfl
theorem rs_lv46 : rsC.lv 46 = [true, true, true, false, false, false, true, true, false, false, false, false, false, false, false] := by kernel_rfl
theorem rs_lv26 : rsC.lv 26 = [true, true, true, false, false, false, true, true, true, true, true, false, false, false, false, false, false, false, true, false, false, false, false, false, false, false, false, false, false, true, false, false, false, false, false, false, false, false, false, false, false, false, false, false, false, false, false, false, true, false, false, false, false, false, false, false, false] := by kernel_rfl
set_option maxRecDepth 100000 in
set_option maxHeartbeats 4000000 in
theorem rs_nrest (a b : List Nat) (ha : Canon a) (hb : Canon b) (m : Nat) (hbl : b.length = m + 2) (hal : a.length ≤ 90000) (hb9 : b.length ≤ 90000) : WP rsC 45 [N32 a, N32 b] = some (.tup [N32 (toL (val a % val b)), .bool true]) := by
  have hd := rs_ndiv a b ha hb m hbl hal hb9
  generalize toL (val a / val b) = q at *
  generalize toL (val a % val b) = r at *
  simp only [N32] at hd
  rw [WP_eq (show rsC.md 45 < 9 by decide) Try.func45 rfl]
  rw [show Try.f45.ntmps = 18 from rfl, rs_lv45]
  simp only [N32, List.map_cons, List.map_nil, List.length_cons, List.length_nil, Nat.reduceAdd, Nat.reduceSub, List.replicate, List.cons_append, List.nil_append]
  simp only [seqT, thn_normal, thn_ret, thn_exit, WC_region, WC_cond, WC_exit, WC_skip, WC_block, WC_ret, evRegion, Bool.false_eq_true, if_false, if_true, reduceIte, ops_n, ops_c, evStep, wantedA, evOp, opv, putA, ret1, ofVal, ofVal1, cellsOf, AV.isCell, clean, evFieldAddr, evField, evExtract, evBuild, evIndex, evBuiltin, evNilCheck, blkRead, mkAgg, mkTup, mapO, AV.pure?, setAt, afill, parts, calleeOf, tell, norm, normL, ids, Go.Ev.mark, evResults, evResult, aggCells, partA, List.getElem?_cons_zero, List.getElem?_cons_succ, List.getElem?_nil, List.map_cons, List.map_nil, List.all_cons, List.all_nil, Bool.and_true, Bool.true_and, Bool.and_false, Bool.false_and, Bool.and_self, Bool.not_true, Bool.not_false, Bool.or_true, Bool.or_false, Bool.false_or, Bool.true_or, List.set, List.length_cons, List.length_nil, List.nil_append, List.cons_append, List.append_nil, Nat.reduceAdd, Nat.reduceSub, Nat.reduceMul, Nat.reduceLeDiff, Nat.zero_add, Nat.reduceEqDiff, List.replicate, List.drop, List.take, List.flatMap_cons, List.flatMap_nil, List.foldl_nil, List.foldl_cons, decide_true, decide_false, and_self, and_true, true_and, BEq.rfl, beq_self_eq_true, Option.map_some, Option.map_none, Option.bind_some, Option.bind_none, List.getElem?_toArray, Option.isSome_some, Option.isSome_none, beqs, ne_eq, not_true_eq_false, not_false_eq_true, false_or, or_false, or_self, Nat.reduceLT, false_and, and_false, List.nil_append, evEq, eqc, optO, b_add, b_sub, b_mul, b_eql, b_neq, b_lss, b_leq, b_gtr, b_geq, u_not, flags0, flags1, rs_P, evCall_tab (show ∀ f xs, rsC.O f xs = none from fun _ _ => rfl), normN, frz_p, ids_p, foldN, ite_self, hd, show rsC.md 57 = 0 from rfl, show Try.f45.results = #[.tmp 4, .tmp 5] from rfl]
set_option maxRecDepth 100000 in
set_option maxHeartbeats 4000000 in
theorem rs_nmmul (a b c : List Nat) (ha : Limbs a) (hb : Limbs b) (hc : Canon c) (m : Nat) (hcl : c.length = m + 2) (hal : a.length ≤ 40000) (hbl : b.length ≤ 40000) (hc9 : c.length ≤ 90000) : WP rsC 46 [N32 a, N32 b, N32 c] = some (.tup [N32 (toL (val a * val b % val c)), .bool true]) := by
  have hm := rs_nmul a b ha hb (by omega) (by omega)
  have hlen : (toL (val a * val b)).length ≤ 90000 := by
    have h1 := val_lt ha
    have h2 := val_lt hb
    have h3 : val a * val b < LB ^ (a.length + b.length) := by
      rw [Nat.pow_add]
      exact Nat.lt_of_le_of_lt (Nat.mul_le_mul_left _ (Nat.le_of_lt h2)) (Nat.mul_lt_mul_of_pos_right h1 (Nat.pow_pos (by decide)))
    have := canon_len h3
    omega
  have hr := rs_nrest (toL (val a * val b)) c (canon_toL _) hc m hcl hlen hc9
  rw [val_toL] at hr
  generalize toL (val a * val b) = p at *
  generalize toL (val a * val b % val c) = r at *
  simp only [N32] at hm hr
  rw [WP_eq (show rsC.md 46 < 9 by decide) Try.func46 rfl]
  rw [show Try.f46.ntmps = 15 from rfl, rs_lv46]
  simp only [N32, List.map_cons, List.map_nil, List.length_cons, List.length_nil, Nat.reduceAdd, Nat.reduceSub, List.replicate, List.cons_append, List.nil_append]
  simp only [seqT, thn_normal, thn_ret, thn_exit, WC_region, WC_cond, WC_exit, WC_skip, WC_block, WC_ret, evRegion, Bool.false_eq_true, if_false, if_true, reduceIte, ops_n, ops_c, evStep, wantedA, evOp, opv, putA, ret1, ofVal, ofVal1, cellsOf, AV.isCell, clean, evFieldAddr, evField, evExtract, evBuild, evIndex, evBuiltin, evNilCheck, blkRead, mkAgg, mkTup, mapO, AV.pure?, setAt, afill, parts, calleeOf, tell, norm, normL, ids, Go.Ev.mark, evResults, evResult, aggCells, partA, List.getElem?_cons_zero, List.getElem?_cons_succ, List.getElem?_nil, List.map_cons, List.map_nil, List.all_cons, List.all_nil, Bool.and_true, Bool.true_and, Bool.and_false, Bool.false_and, Bool.and_self, Bool.not_true, Bool.not_false, Bool.or_true, Bool.or_false, Bool.false_or, Bool.true_or, List.set, List.length_cons, List.length_nil, List.nil_append, List.cons_append, List.append_nil, Nat.reduceAdd, Nat.reduceSub, Nat.reduceMul, Nat.reduceLeDiff, Nat.zero_add, Nat.reduceEqDiff, List.replicate, List.drop, List.take, List.flatMap_cons, List.flatMap_nil, List.foldl_nil, List.foldl_cons, decide_true, decide_false, and_self, and_true, true_and, BEq.rfl, beq_self_eq_true, Option.map_some, Option.map_none, Option.bind_some, Option.bind_none, List.getElem?_toArray, Option.isSome_some, Option.isSome_none, beqs, ne_eq, not_true_eq_false, not_false_eq_true, false_or, or_false, or_self, Nat.reduceLT, false_and, and_false, List.nil_append, evEq, eqc, optO, b_add, b_sub, b_mul, b_eql, b_neq, b_lss, b_leq, b_gtr, b_geq, u_not, flags0, flags1, rs_P, evCall_tab (show ∀ f xs, rsC.O f xs = none from fun _ _ => rfl), normN, frz_p, ids_p, foldN, ite_self, hm, hr, show rsC.md 58 = 0 from rfl, show rsC.md 45 = 0 from rfl, show Try.f46.results = #[.tmp 6, .tmp 7] from rfl]
set_option maxRecDepth 100000 in
set_option maxHeartbeats 4000000 in
theorem rs_nexp (a e c : List Nat) (ha : Canon a) (he : Limbs e) (hc : Canon c) (m nb : Nat) (hcl : c.length = m + 2) (hal : a.length ≤ 40000) (hel : e.length ≤ 40000) (hc9 : c.length ≤ 40000) (hbits : WP rsC 22 [N32 e] = some (.int .i64 (nb : Int))) (hnb : nb ≤ 32 * e.length) (hE : val e < 2 ^ nb) :
    WP rsC 26 [N32 a, N32 e, N32 c] = some (.tup [N32 (toL (val a ^ val e % val c)), .bool true]) := by
  have h1 := rs_nrest [1] c (by unfold Canon; decide +kernel) hc m hcl (by simp) (by omega)
  have h2 := rs_nrest a c ha hc m hcl (by omega) (by omega)
  rw [show val [1] = 1 from rfl] at h1
  have hcv := val_lt hc.limbs
  have hclow := hc.low (k := m + 1) (by omega)
  have hcpos : 0 < val c := Nat.lt_of_lt_of_le (Nat.pow_pos (by decide)) hclow
  obtain ⟨M, hM⟩ : ∃ M, M = val c := ⟨_, rfl⟩
  rw [← hM] at h1 h2 hcv hcpos
  have hshort : ∀ x, (toL (x % M)).length ≤ 40000 := fun x => Nat.le_trans (canon_len (Nat.lt_trans (Nat.mod_lt x hcpos) hcv)) hc9
  obtain ⟨A, hA⟩ : ∃ A, A = toL (val a % M) := ⟨_, rfl⟩
  obtain ⟨O, hO⟩ : ∃ O, O = toL (1 % M) := ⟨_, rfl⟩
  rw [← hA] at h2
  rw [← hO] at h1
  have hAv : val A = val a % M := by rw [hA, val_toL]
  have hAc : Canon A := hA ▸ canon_toL _
  simp only [N32, List.length_cons, List.length_nil, Nat.zero_add, List.map_cons, List.map_nil] at h1 h2 hbits
  have hbs : evBuildSlice Try.prog false 24 1 [(0, .p (.int .u32 1))] [] = some (.p (.sl 1 true [.int .u32 1]), []) := by kernel_rfl
  have hpu1 : pu 1 = .int .u32 1 := rfl
  rw [hpu1] at h1
  have i0 : IntKind.i64.wrap ((nb : Int) - 1) = pm nb := by rw [wrap_i64 (by omega) (by omega)]; rfl
  rw [WP_eq (show rsC.md 26 < 9 by decide) Try.func26 rfl]
  rw [show Try.f26.ntmps = 57 from rfl, rs_lv26]
  simp only [N32, List.map_cons, List.map_nil, List.length_cons, List.length_nil, Nat.reduceAdd, Nat.reduceSub, List.replicate, List.cons_append, List.nil_append]
  simp only [seqT, thn_normal, thn_ret, thn_exit, WC_region, WC_cond, WC_exit, WC_skip, WC_block, WC_ret, evRegion, Bool.false_eq_true, if_false, if_true, reduceIte, ops_n, ops_c, evStep, wantedA, evOp, opv, putA, ret1, ofVal, ofVal1, cellsOf, AV.isCell, clean, evFieldAddr, evField, evExtract, evBuild, evIndex, evBuiltin, evNilCheck, blkRead, mkAgg, mkTup, mapO, AV.pure?, setAt, afill, parts, calleeOf, tell, norm, normL, ids, Go.Ev.mark, evResults, evResult, aggCells, partA, List.getElem?_cons_zero, List.getElem?_cons_succ, List.getElem?_nil, List.map_cons, List.map_nil, List.all_cons, List.all_nil, Bool.and_true, Bool.true_and, Bool.and_false, Bool.false_and, Bool.and_self, Bool.not_true, Bool.not_false, Bool.or_true, Bool.or_false, Bool.false_or, Bool.true_or, List.set, List.length_cons, List.length_nil, List.nil_append, List.cons_append, List.append_nil, Nat.reduceAdd, Nat.reduceSub, Nat.reduceMul, Nat.reduceLeDiff, Nat.zero_add, Nat.reduceEqDiff, List.replicate, List.drop, List.take, List.flatMap_cons, List.flatMap_nil, List.foldl_nil, List.foldl_cons, decide_true, decide_false, and_self, and_true, true_and, BEq.rfl, beq_self_eq_true, Option.map_some, Option.map_none, Option.bind_some, Option.bind_none, List.getElem?_toArray, Option.isSome_some, Option.isSome_none, beqs, ne_eq, not_true_eq_false, not_false_eq_true, false_or, or_false, or_self, Nat.reduceLT, false_and, and_false, List.nil_append, evEq, eqc, optO, b_add, b_sub, b_mul, b_eql, b_neq, b_lss, b_leq, b_gtr, b_geq, u_not, flags0, flags1, rs_P, evCall_tab (show ∀ f xs, rsC.O f xs = none from fun _ _ => rfl), normN, frz_p, ids_p, foldN, ite_self, h1, h2, hbs, hbits, i0, show rsC.md 45 = 0 from rfl, show rsC.md 46 = 0 from rfl, show rsC.md 22 = 0 from rfl]
  generalize hI : (Code.loop _ : Code) = I
  have inner : ∀ (k : Nat) (x : List Nat) (t29 t48 : AV), k ≤ nb → Canon x → x.length ≤ 40000 → val x = val a ^ (val e / 2 ^ k) % M → ∃ (x' : List Nat) (t29' t48' : AV), WC rsC [true, true, true, false, false, false, true, true, true, true, true, false, false, false, false, false, false, false, true, false, false, false, false, false, false, false, false, false, false, true, false, false, false, false, false, false, false, false, false, false, false, false, false, false, false, false, false, false, true, false, false, false, false, false, false, false, false] I ⟨[.p (.sl A.length false (A.map pu)), .p (.sl e.length false (e.map pu)), .p (.sl c.length false (c.map pu)), .p .any, .p .any, .p .any, .p (.nsl true), .p (.bool false), .p (.sl x.length false (x.map pu)), .p (.bool true), .p (.int .i64 (pm k)), .p .any, .p .any, .p .any, .p .any, .p .any, .p .any, .p .any, .p (.bool false), .p .any, .p .any, .p .any, .p .any, .p .any, .p .any, .p .any, .p .any, .p .any, .p .any, t29, .p .any, .p .any, .p .any, .p .any, .p .any, .p .any, .p .any, .p .any, .p .any, .p .any, .p .any, .p .any, .p .any, .p .any, .p .any, .p .any, .p .any, .p .any, t48, .p .any, .p .any, .p .any, .p .any, .p .any, .p .any, .p .any, .p .any], []⟩ = some (.exit 0, ⟨[.p (.sl A.length false (A.map pu)), .p (.sl e.length false (e.map pu)), .p (.sl c.length false (c.map pu)), .p .any, .p .any, .p .any, .p (.nsl true), .p (.bool false), .p (.sl x'.length false (x'.map pu)), .p (.bool true), .p (.int .i64 (-1)), .p .any, .p .any, .p .any, .p .any, .p .any, .p .any, .p .any, .p (.bool false), .p .any, .p .any, .p .any, .p .any, .p .any, .p .any, .p .any, .p .any, .p .any, .p .any, t29', .p .any, .p .any, .p .any, .p .any, .p .any, .p .any, .p .any, .p .any, .p .any, .p .any, .p .any, .p .any, .p .any, .p .any, .p .any, .p .any, .p .any, .p .any, t48', .p .any, .p .any, .p .any, .p .any, .p .any, .p .any, .p .any, .p .any], []⟩) ∧ Canon x' ∧ val x' = val a ^ val e % M := by
    intro k
    induction k with
    | zero =>
      intro x t29 t48 hk hx hxl hxv
      have hge0 : decide ((-1 : Int) ≥ 0) = false := by decide
      refine ⟨x, .p (.bool false), t48, ?_, hx, by rw [Nat.pow_zero, Nat.div_one] at hxv; exact hxv⟩
      rw [← hI, WC_loop, hI, pm_zero]
      simp only [seqT, thn_normal, thn_ret, thn_exit, WC_region, WC_cond, WC_exit, WC_skip, WC_block, WC_ret, evRegion, Bool.false_eq_true, if_false, if_true, reduceIte, ops_n, ops_c, evStep, wantedA, evOp, opv, putA, ret1, ofVal, ofVal1, cellsOf, AV.isCell, clean, evFieldAddr, evField, evExtract, evBuild, evIndex, evBuiltin, evBuildSlice, evNilCheck, blkRead, mkAgg, mkTup, mapO, AV.pure?, setAt, afill, parts, calleeOf, tell, scalar, scalarL, frz, norm, normL, ids, Go.Ev.mark, deep, evResults, evResult, aggCells, partA, List.getElem?_cons_zero, List.getElem?_cons_succ, List.getElem?_nil, List.map_cons, List.map_nil, List.all_cons, List.all_nil, Bool.and_true, Bool.true_and, Bool.and_false, Bool.false_and, Bool.and_self, Bool.not_true, Bool.not_false, Bool.or_true, Bool.or_false, Bool.false_or, Bool.true_or, List.set, List.length_cons, List.length_nil, List.nil_append, List.cons_append, List.append_nil, Nat.reduceAdd, Nat.reduceSub, Nat.reduceMul, Nat.reduceLeDiff, Nat.zero_add, Nat.reduceEqDiff, List.replicate, List.drop, List.take, List.flatMap_cons, List.flatMap_nil, List.foldl_nil, List.foldl_cons, decide_true, decide_false, and_self, and_true, true_and, BEq.rfl, beq_self_eq_true, Option.map_some, Option.map_none, Option.bind_some, Option.bind_none, List.getElem?_toArray, Option.isSome_some, Option.isSome_none, beqs, ne_eq, not_true_eq_false, not_false_eq_true, false_or, or_false, or_self, Nat.reduceLT, false_and, and_false, List.nil_append, evEq, eqc, optO, b_add, b_sub, b_mul, b_eql, b_neq, b_lss, b_leq, b_gtr, b_geq, u_not, flags0, flags1, rs_P, hge0]
    | succ k ih =>
      intro x t29 t48 hk hx hxl hxv
      have hge0 : decide ((k : Int) ≥ 0) = true := decide_eq_true (by omega)
      have hs1 : IntKind.i64.wrap ((k : Int) - 1) = pm k := by rw [wrap_i64 (by omega) (by omega)]; rfl
      have hki : k / 32 < e.length := by omega
      have hix := ix32 (x := false) hki
      have hld := ld32 (H := []) hki
      have hdl := limbs_getD he (k / 32)
      have hbit := bit_at he hki
      generalize e.getD (k / 32) 0 = d at *
      have hj : k % 32 < 32 := Nat.mod_lt _ (by decide)
      have hwj := w64 (x := k % 32) (by omega)
      have hdd : d / 2 ^ (k % 32) < LB := Nat.lt_of_le_of_lt (Nat.div_le_self _ _) hdl
      have hsq := rs_nmmul x x c hx.limbs hx.limbs hc m hcl hxl hxl (by omega)
      rw [← hM] at hsq
      obtain ⟨y, hy⟩ : ∃ y, y = toL (val x * val x % M) := ⟨_, rfl⟩
      rw [← hy] at hsq
      have hyc : Canon y := hy ▸ canon_toL _
      have hyl : y.length ≤ 40000 := by rw [hy]; exact hshort _
      have hyv : val y = val a ^ (val e / 2 ^ (k + 1) * 2) % M := by
        rw [hy, val_toL, hxv, ← Nat.mul_mod, Nat.pow_mul, Nat.pow_two]
      have hst := half_step (val e) k
      have hmu := rs_nmmul y A c hyc.limbs hAc.limbs hc m hcl hyl (by rw [hA]; exact hshort _) (by omega)
      rw [← hM, hAv] at hmu
      simp only [N32] at hsq hmu
      rcases (show val e / 2 ^ k % 2 = 0 ∨ val e / 2 ^ k % 2 = 1 by omega) with hb | hb
      · rw [hb] at hbit hst
        have hone := a_one (P := Try.prog) (t := 25) hdd
        rw [hbit] at hone
        have heq : (((0 : Nat) : Int) == 1) = false := by decide
        obtain ⟨x', t29', t48', g1, g2⟩ := ih y (.p (.bool true)) (.p (.bool false)) (by omega) hyc hyl (by rw [hyv, hst]; simp only [Nat.add_zero])
        refine ⟨x', t29', t48', ?_, g2⟩
        rw [← hI, WC_loop, hI, pm_succ]
        simp only [seqT, thn_normal, thn_ret, thn_exit, WC_region, WC_cond, WC_exit, WC_skip, WC_block, WC_ret, evRegion, Bool.false_eq_true, if_false, if_true, reduceIte, ops_n, ops_c, evStep, wantedA, evOp, opv, putA, ret1, ofVal, ofVal1, cellsOf, AV.isCell, clean, evFieldAddr, evField, evExtract, evBuild, evIndex, evBuiltin, evNilCheck, blkRead, mkAgg, mkTup, mapO, AV.pure?, setAt, afill, parts, calleeOf, tell, norm, normL, ids, Go.Ev.mark, evResults, evResult, aggCells, partA, List.getElem?_cons_zero, List.getElem?_cons_succ, List.getElem?_nil, List.map_cons, List.map_nil, List.all_cons, List.all_nil, Bool.and_true, Bool.true_and, Bool.and_false, Bool.false_and, Bool.and_self, Bool.not_true, Bool.not_false, Bool.or_true, Bool.or_false, Bool.false_or, Bool.true_or, List.set, List.length_cons, List.length_nil, List.nil_append, List.cons_append, List.append_nil, Nat.reduceAdd, Nat.reduceSub, Nat.reduceMul, Nat.reduceLeDiff, Nat.zero_add, Nat.reduceEqDiff, List.replicate, List.drop, List.take, List.flatMap_cons, List.flatMap_nil, List.foldl_nil, List.foldl_cons, decide_true, decide_false, and_self, and_true, true_and, BEq.rfl, beq_self_eq_true, Option.map_some, Option.map_none, Option.bind_some, Option.bind_none, List.getElem?_toArray, Option.isSome_some, Option.isSome_none, beqs, ne_eq, not_true_eq_false, not_false_eq_true, false_or, or_false, or_self, Nat.reduceLT, false_and, and_false, List.nil_append, evEq, eqc, optO, b_add, b_sub, b_mul, b_eql, b_neq, b_lss, b_leq, b_gtr, b_geq, u_not, flags0, flags1, rs_P, evCall_tab (show ∀ f xs, rsC.O f xs = none from fun _ _ => rfl), normN, frz_p, ids_p, foldN, ite_self, hge0, q_i64 (show k ≤ 100000000 by omega), r_i64, hix, hld, pu, mulConv, s_u32 hj, hone, heq, hs1, hsq, show rsC.md 45 = 0 from rfl, show rsC.md 46 = 0 from rfl, show rsC.md 22 = 0 from rfl]
        exact g1
      · rw [hb] at hbit hst
        have hone := a_one (P := Try.prog) (t := 25) hdd
        rw [hbit] at hone
        have heq : (((1 : Nat) : Int) == 1) = true := by decide
        obtain ⟨w, hw⟩ : ∃ w, w = toL (val y * (val a % M) % M) := ⟨_, rfl⟩
        rw [← hw] at hmu
        have hwc : Canon w := hw ▸ canon_toL _
        have hwl : w.length ≤ 40000 := by rw [hw]; exact hshort _
        obtain ⟨x', t29', t48', g1, g2⟩ := ih w (.p (.bool true)) (.p (.bool true)) (by omega) hwc hwl (by
          have hps : val a ^ (val e / 2 ^ (k + 1) * 2 + 1) = val a ^ (val e / 2 ^ (k + 1) * 2) * val a := Nat.pow_succ _ _
          rw [hw, val_toL, hyv, ← Nat.mul_mod, hst, hps])
        refine ⟨x', t29', t48', ?_, g2⟩
        rw [← hI, WC_loop, hI, pm_succ]
        simp only [seqT, thn_normal, thn_ret, thn_exit, WC_region, WC_cond, WC_exit, WC_skip, WC_block, WC_ret, evRegion, Bool.false_eq_true, if_false, if_true, reduceIte, ops_n, ops_c, evStep, wantedA, evOp, opv, putA, ret1, ofVal, ofVal1, cellsOf, AV.isCell, clean, evFieldAddr, evField, evExtract, evBuild, evIndex, evBuiltin, evNilCheck, blkRead, mkAgg, mkTup, mapO, AV.pure?, setAt, afill, parts, calleeOf, tell, norm, normL, ids, Go.Ev.mark, evResults, evResult, aggCells, partA, List.getElem?_cons_zero, List.getElem?_cons_succ, List.getElem?_nil, List.map_cons, List.map_nil, List.all_cons, List.all_nil, Bool.and_true, Bool.true_and, Bool.and_false, Bool.false_and, Bool.and_self, Bool.not_true, Bool.not_false, Bool.or_true, Bool.or_false, Bool.false_or, Bool.true_or, List.set, List.length_cons, List.length_nil, List.nil_append, List.cons_append, List.append_nil, Nat.reduceAdd, Nat.reduceSub, Nat.reduceMul, Nat.reduceLeDiff, Nat.zero_add, Nat.reduceEqDiff, List.replicate, List.drop, List.take, List.flatMap_cons, List.flatMap_nil, List.foldl_nil, List.foldl_cons, decide_true, decide_false, and_self, and_true, true_and, BEq.rfl, beq_self_eq_true, Option.map_some, Option.map_none, Option.bind_some, Option.bind_none, List.getElem?_toArray, Option.isSome_some, Option.isSome_none, beqs, ne_eq, not_true_eq_false, not_false_eq_true, false_or, or_false, or_self, Nat.reduceLT, false_and, and_false, List.nil_append, evEq, eqc, optO, b_add, b_sub, b_mul, b_eql, b_neq, b_lss, b_leq, b_gtr, b_geq, u_not, flags0, flags1, rs_P, evCall_tab (show ∀ f xs, rsC.O f xs = none from fun _ _ => rfl), normN, frz_p, ids_p, foldN, ite_self, hge0, q_i64 (show k ≤ 100000000 by omega), r_i64, hix, hld, pu, mulConv, s_u32 hj, hone, heq, hs1, hsq, show rsC.md 45 = 0 from rfl, show rsC.md 46 = 0 from rfl, show rsC.md 22 = 0 from rfl, hmu]
        exact g1
  obtain ⟨x', t29', t48', k1, k2, k3⟩ := inner nb O (.p .und) (.p .und) (Nat.le_refl _) (hO ▸ canon_toL _) (by rw [hO]; exact hshort _) (by rw [hO, val_toL, Nat.div_eq_of_lt hE, Nat.pow_zero])
  rw [k1]
  have hx' : toL (val a ^ val e % val c) = x' := by rw [← hM, ← k3]; exact k2
  rw [hx']
  simp only [seqT, thn_normal, thn_ret, thn_exit, WC_region, WC_cond, WC_exit, WC_skip, WC_block, WC_ret, evRegion, Bool.false_eq_true, if_false, if_true, reduceIte, ops_n, ops_c, evStep, wantedA, evOp, opv, putA, ret1, ofVal, ofVal1, cellsOf, AV.isCell, clean, evFieldAddr, evField, evExtract, evBuild, evIndex, evBuiltin, evNilCheck, blkRead, mkAgg, mkTup, mapO, AV.pure?, setAt, afill, parts, calleeOf, tell, norm, normL, ids, Go.Ev.mark, evResults, evResult, aggCells, partA, List.getElem?_cons_zero, List.getElem?_cons_succ, List.getElem?_nil, List.map_cons, List.map_nil, List.all_cons, List.all_nil, Bool.and_true, Bool.true_and, Bool.and_false, Bool.false_and, Bool.and_self, Bool.not_true, Bool.not_false, Bool.or_true, Bool.or_false, Bool.false_or, Bool.true_or, List.set, List.length_cons, List.length_nil, List.nil_append, List.cons_append, List.append_nil, Nat.reduceAdd, Nat.reduceSub, Nat.reduceMul, Nat.reduceLeDiff, Nat.zero_add, Nat.reduceEqDiff, List.replicate, List.drop, List.take, List.flatMap_cons, List.flatMap_nil, List.foldl_nil, List.foldl_cons, decide_true, decide_false, and_self, and_true, true_and, BEq.rfl, beq_self_eq_true, Option.map_some, Option.map_none, Option.bind_some, Option.bind_none, List.getElem?_toArray, Option.isSome_some, Option.isSome_none, beqs, ne_eq, not_true_eq_false, not_false_eq_true, false_or, or_false, or_self, Nat.reduceLT, false_and, and_false, List.nil_append, evEq, eqc, optO, b_add, b_sub, b_mul, b_eql, b_neq, b_lss, b_leq, b_gtr, b_geq, u_not, flags0, flags1, rs_P, evCall_tab (show ∀ f xs, rsC.O f xs = none from fun _ _ => rfl), normN, frz_p, ids_p, foldN, ite_self, show Try.f26.results = #[.tmp 6, .tmp 7] from rfl]
end Go.Proofs
