/- The document's numbers: Add, Cmp, bits. No condition. -/
import Derived.Test.YtfhhgndppfpngaaRsa05
set_option linter.unusedSimpArgs false
set_option linter.unusedVariables false
set_option linter.unusedSimpArgs false
namespace Go.Proofs
open Go.Ev Go.Mx
theorem normN (l : List Nat) : normL (l.map pu) = l.map pu := by
  induction l with
  | nil => rfl
  | cons x l ih => simp only [List.map_cons, normL, ih, pu, norm]
theorem val_take_next (l : List Nat) (k : Nat) : val (l.take (k + 1)) = val (l.take k) + l.getD k 0 * LB ^ k := by
  by_cases h : k < l.length
  · exact val_take_succ l k h
  · rw [List.take_of_length_le (by omega), List.take_of_length_le (by omega), List.getD_eq_getElem?_getD, List.getElem?_eq_none (by omega)]
    simp
theorem rs_lv13 : rsC.lv 13 = [true, true, false, false, true, true, true, true, true, true, false, false, false, false, false, false, false, false, false, false, true, false, false, false, false, false, false, false, false, false, false, false, false, false, false, false, false, false, false, false, false] := by kernel_rfl
set_option maxRecDepth 100000 in
set_option maxHeartbeats 4000000 in
theorem rs_add (a b : List Nat) (ha : Limbs a) (hb : Limbs b) (hla : a.length ≤ 100000) (hlb : b.length ≤ 100000) : WP rsC 13 [N32 a, N32 b] = some (N32 (toL (val a + val b))) := by
  rw [WP_eq (show rsC.md 13 < 9 by decide) Try.func13 rfl]
  rw [show Try.f13.ntmps = 41 from rfl, rs_lv13]
  simp only [N32, List.map_cons, List.map_nil, List.length_cons, List.length_nil, Nat.reduceAdd, Nat.reduceSub, List.replicate, List.cons_append, List.nil_append]
  rw [WC_seq, WC_region]
  simp only [evRegion, Bool.false_eq_true, if_false, if_true, reduceIte, evOps, evStep, wantedA, evOp, opv, putA, ret1, ofVal, ofVal1, cellsOf, AV.isCell, clean, evFieldAddr, evField, evBin, evUn, evExtract, evBuild, evIndex, evBuiltin, evBuildSlice, evNilCheck, ibin, blkRead, mkAgg, mkTup, mapO, AV.pure?, setAt, afill, parts, calleeOf, tell, scalar, scalarL, frz, norm, normL, ids, Go.Ev.mark, deep, evResults, evResult, aggCells, partA, List.getElem?_cons_zero, List.getElem?_cons_succ, List.getElem?_nil, List.map_cons, List.map_nil, List.all_cons, List.all_nil, Bool.and_true, Bool.true_and, Bool.and_false, Bool.false_and, Bool.and_self, Bool.not_true, Bool.not_false, Bool.or_true, Bool.or_false, Bool.false_or, Bool.true_or, List.set, List.length_cons, List.length_nil, List.nil_append, List.cons_append, List.append_nil, Nat.reduceAdd, Nat.reduceSub, Nat.reduceMul, Nat.reduceLeDiff, Nat.zero_add, Nat.reduceEqDiff, List.replicate, List.drop, List.take, List.flatMap_cons, List.flatMap_nil, List.foldl_nil, List.foldl_cons, decide_true, decide_false, and_self, and_true, true_and, BEq.rfl, beq_self_eq_true, Option.map_some, Option.map_none, Option.bind_some, Option.bind_none, List.getElem?_toArray, Option.isSome_some, Option.isSome_none, beqs, ne_eq, not_true_eq_false, not_false_eq_true, false_or, or_false, or_self, Nat.reduceLT, false_and, and_false, List.nil_append, evEq, eqc, optO, rs_P]
  have hmax : (if (b.length : Int) > (a.length : Int) then (b.length : Int) else (a.length : Int)) = ((max a.length b.length : Nat) : Int) := by split <;> omega
  obtain ⟨n, hn⟩ : ∃ n, n = max a.length b.length + 1 := ⟨_, rfl⟩
  have hm1 : IntKind.i64.wrap (((max a.length b.length : Nat) : Int) + 1) = (n : Int) := by rw [wrap_i64 (by omega) (by omega)]; omega
  rw [WC_seq, WC_region]
  simp only [evRegion, Bool.false_eq_true, if_false, if_true, reduceIte, evOps, evStep, wantedA, evOp, opv, putA, ret1, ofVal, ofVal1, cellsOf, AV.isCell, clean, evFieldAddr, evField, evBin, evUn, evExtract, evBuild, evIndex, evBuiltin, evBuildSlice, evNilCheck, ibin, blkRead, mkAgg, mkTup, mapO, AV.pure?, setAt, afill, parts, calleeOf, tell, scalar, scalarL, frz, norm, normL, ids, Go.Ev.mark, deep, evResults, evResult, aggCells, partA, List.getElem?_cons_zero, List.getElem?_cons_succ, List.getElem?_nil, List.map_cons, List.map_nil, List.all_cons, List.all_nil, Bool.and_true, Bool.true_and, Bool.and_false, Bool.false_and, Bool.and_self, Bool.not_true, Bool.not_false, Bool.or_true, Bool.or_false, Bool.false_or, Bool.true_or, List.set, List.length_cons, List.length_nil, List.nil_append, List.cons_append, List.append_nil, Nat.reduceAdd, Nat.reduceSub, Nat.reduceMul, Nat.reduceLeDiff, Nat.zero_add, Nat.reduceEqDiff, List.replicate, List.drop, List.take, List.flatMap_cons, List.flatMap_nil, List.foldl_nil, List.foldl_cons, decide_true, decide_false, and_self, and_true, true_and, BEq.rfl, beq_self_eq_true, Option.map_some, Option.map_none, Option.bind_some, Option.bind_none, List.getElem?_toArray, Option.isSome_some, Option.isSome_none, beqs, ne_eq, not_true_eq_false, not_false_eq_true, false_or, or_false, or_self, Nat.reduceLT, false_and, and_false, List.nil_append, evEq, eqc, optO, rs_P, len32 rs_P, max2, hmax, hm1]
  rw [WC_seq, WC_region]
  simp only [evRegion, Bool.false_eq_true, if_false, if_true, reduceIte, evOps, evStep, wantedA, evOp, opv, putA, ret1, ofVal, ofVal1, cellsOf, AV.isCell, clean, evFieldAddr, evField, evBin, evUn, evExtract, evBuild, evIndex, evBuiltin, evBuildSlice, evNilCheck, ibin, blkRead, mkAgg, mkTup, mapO, AV.pure?, setAt, afill, parts, calleeOf, tell, scalar, scalarL, frz, norm, normL, ids, Go.Ev.mark, deep, evResults, evResult, aggCells, partA, List.getElem?_cons_zero, List.getElem?_cons_succ, List.getElem?_nil, List.map_cons, List.map_nil, List.all_cons, List.all_nil, Bool.and_true, Bool.true_and, Bool.and_false, Bool.false_and, Bool.and_self, Bool.not_true, Bool.not_false, Bool.or_true, Bool.or_false, Bool.false_or, Bool.true_or, List.set, List.length_cons, List.length_nil, List.nil_append, List.cons_append, List.append_nil, Nat.reduceAdd, Nat.reduceSub, Nat.reduceMul, Nat.reduceLeDiff, Nat.zero_add, Nat.reduceEqDiff, List.replicate, List.drop, List.take, List.flatMap_cons, List.flatMap_nil, List.foldl_nil, List.foldl_cons, decide_true, decide_false, and_self, and_true, true_and, BEq.rfl, beq_self_eq_true, Option.map_some, Option.map_none, Option.bind_some, Option.bind_none, List.getElem?_toArray, Option.isSome_some, Option.isSome_none, beqs, ne_eq, not_true_eq_false, not_false_eq_true, false_or, or_false, or_self, Nat.reduceLT, false_and, and_false, List.nil_append, evEq, eqc, optO, rs_P, mk32 (n := n) (by omega)]
  rw [WC_seq, WC_region]
  simp only [evRegion, Bool.false_eq_true, if_false, if_true, reduceIte, evOps, evStep, wantedA, evOp, opv, putA, ret1, ofVal, ofVal1, cellsOf, AV.isCell, clean, evFieldAddr, evField, evBin, evUn, evExtract, evBuild, evIndex, evBuiltin, evBuildSlice, evNilCheck, ibin, blkRead, mkAgg, mkTup, mapO, AV.pure?, setAt, afill, parts, calleeOf, tell, scalar, scalarL, frz, norm, normL, ids, Go.Ev.mark, deep, evResults, evResult, aggCells, partA, List.getElem?_cons_zero, List.getElem?_cons_succ, List.getElem?_nil, List.map_cons, List.map_nil, List.all_cons, List.all_nil, Bool.and_true, Bool.true_and, Bool.and_false, Bool.false_and, Bool.and_self, Bool.not_true, Bool.not_false, Bool.or_true, Bool.or_false, Bool.false_or, Bool.true_or, List.set, List.length_cons, List.length_nil, List.nil_append, List.cons_append, List.append_nil, Nat.reduceAdd, Nat.reduceSub, Nat.reduceMul, Nat.reduceLeDiff, Nat.zero_add, Nat.reduceEqDiff, List.replicate, List.drop, List.take, List.flatMap_cons, List.flatMap_nil, List.foldl_nil, List.foldl_cons, decide_true, decide_false, and_self, and_true, true_and, BEq.rfl, beq_self_eq_true, Option.map_some, Option.map_none, Option.bind_some, Option.bind_none, List.getElem?_toArray, Option.isSome_some, Option.isSome_none, beqs, ne_eq, not_true_eq_false, not_false_eq_true, false_or, or_false, or_self, Nat.reduceLT, false_and, and_false, List.nil_append, evEq, eqc, optO, rs_P]
  rw [WC_seq, WC_seq, WC_region]
  simp only [evRegion, Bool.false_eq_true, if_false, if_true, reduceIte, evOps, evStep, wantedA, evOp, opv, putA, ret1, ofVal, ofVal1, cellsOf, AV.isCell, clean, evFieldAddr, evField, evBin, evUn, evExtract, evBuild, evIndex, evBuiltin, evBuildSlice, evNilCheck, ibin, blkRead, mkAgg, mkTup, mapO, AV.pure?, setAt, afill, parts, calleeOf, tell, scalar, scalarL, frz, norm, normL, ids, Go.Ev.mark, deep, evResults, evResult, aggCells, partA, List.getElem?_cons_zero, List.getElem?_cons_succ, List.getElem?_nil, List.map_cons, List.map_nil, List.all_cons, List.all_nil, Bool.and_true, Bool.true_and, Bool.and_false, Bool.false_and, Bool.and_self, Bool.not_true, Bool.not_false, Bool.or_true, Bool.or_false, Bool.false_or, Bool.true_or, List.set, List.length_cons, List.length_nil, List.nil_append, List.cons_append, List.append_nil, Nat.reduceAdd, Nat.reduceSub, Nat.reduceMul, Nat.reduceLeDiff, Nat.zero_add, Nat.reduceEqDiff, List.replicate, List.drop, List.take, List.flatMap_cons, List.flatMap_nil, List.foldl_nil, List.foldl_cons, decide_true, decide_false, and_self, and_true, true_and, BEq.rfl, beq_self_eq_true, Option.map_some, Option.map_none, Option.bind_some, Option.bind_none, List.getElem?_toArray, Option.isSome_some, Option.isSome_none, beqs, ne_eq, not_true_eq_false, not_false_eq_true, false_or, or_false, or_self, Nat.reduceLT, false_and, and_false, List.nil_append, evEq, eqc, optO, rs_P]
  rw [WC_block]
  generalize hI : (Code.loop _ : Code) = I
  have inner : ∀ (n m k : Nat) (o : List Nat) (c : Nat) (t9 t20 : AV), k + m = n → n ≤ 1000000 → o.length = n → Limbs o → c < 2 → val o + c * LB ^ k = val (a.take k) + val (b.take k) → (∀ j, k ≤ j → o.getD j 0 = 0) → ∃ (o' : List Nat) (c' : Nat) (t9' t20' : AV),
      WC rsC [true, true, false, false, true, true, true, true, true, true, false, false, false, false, false, false, false, false, false, false, true, false, false, false, false, false, false, false, false, false, false, false, false, false, false, false, false, false, false, false, false] I ⟨[.p (.sl a.length false (a.map pu)), .p (.sl b.length false (b.map pu)), .p .any, .p .any, .p (.nsl true), .p (.int .i64 (n : Int)), .ms 0 0 0 n 1, .p (.int .u64 (c : Int)), .p (.int .i64 (k : Int)), t9, .p .any, .p .any, .p .any, .p .any, .p .any, .p .any, .p .any, .p .any, .p .any, .p .any, t20, .p .any, .p .any, .p .any, .p .any, .p .any, .p .any, .p .any, .p .any, .p .any, .p .any, .p .any, .p .any, .p .any, .p .any, .p .any, .p .any, .p .any, .p .any, .p .any, .p .any], [⟨0, false, lb o⟩]⟩ = some (.exit 0, ⟨[.p (.sl a.length false (a.map pu)), .p (.sl b.length false (b.map pu)), .p .any, .p .any, .p (.nsl true), .p (.int .i64 (n : Int)), .ms 0 0 0 n 1, .p (.int .u64 (c' : Int)), .p (.int .i64 (n : Int)), t9', .p .any, .p .any, .p .any, .p .any, .p .any, .p .any, .p .any, .p .any, .p .any, .p .any, t20', .p .any, .p .any, .p .any, .p .any, .p .any, .p .any, .p .any, .p .any, .p .any, .p .any, .p .any, .p .any, .p .any, .p .any, .p .any, .p .any, .p .any, .p .any, .p .any, .p .any], [⟨0, false, lb o'⟩]⟩) ∧
      o'.length = n ∧ Limbs o' ∧ val o' + c' * LB ^ n = val (a.take n) + val (b.take n) := by
    intro n m
    induction m with
    | zero =>
      intro k o c t9 t20 hk hn ho hlo hc hv hz
      have hkb : k = n := by omega
      subst hkb
      have hlt : decide ((k : Int) < (k : Int)) = false := by simp
      refine ⟨o, c, t9, .p (.bool false), ?_, ho, hlo, hv⟩
      rw [← hI, WC_loop, hI, WC_seq, WC_seq, WC_region]
      simp only [evRegion, Bool.false_eq_true, if_false, if_true, reduceIte, evOps, evStep, wantedA, evOp, opv, putA, ret1, ofVal, ofVal1, cellsOf, AV.isCell, clean, evFieldAddr, evField, evBin, evUn, evExtract, evBuild, evIndex, evBuiltin, evBuildSlice, evNilCheck, ibin, blkRead, mkAgg, mkTup, mapO, AV.pure?, setAt, afill, parts, calleeOf, tell, scalar, scalarL, frz, norm, normL, ids, Go.Ev.mark, deep, evResults, evResult, aggCells, partA, List.getElem?_cons_zero, List.getElem?_cons_succ, List.getElem?_nil, List.map_cons, List.map_nil, List.all_cons, List.all_nil, Bool.and_true, Bool.true_and, Bool.and_false, Bool.false_and, Bool.and_self, Bool.not_true, Bool.not_false, Bool.or_true, Bool.or_false, Bool.false_or, Bool.true_or, List.set, List.length_cons, List.length_nil, List.nil_append, List.cons_append, List.append_nil, Nat.reduceAdd, Nat.reduceSub, Nat.reduceMul, Nat.reduceLeDiff, Nat.zero_add, Nat.reduceEqDiff, List.replicate, List.drop, List.take, List.flatMap_cons, List.flatMap_nil, List.foldl_nil, List.foldl_cons, decide_true, decide_false, and_self, and_true, true_and, BEq.rfl, beq_self_eq_true, Option.map_some, Option.map_none, Option.bind_some, Option.bind_none, List.getElem?_toArray, Option.isSome_some, Option.isSome_none, beqs, ne_eq, not_true_eq_false, not_false_eq_true, false_or, or_false, or_self, Nat.reduceLT, false_and, and_false, List.nil_append, evEq, eqc, optO, rs_P, hlt]
      rw [WC_cond]
      simp only [evRegion, Bool.false_eq_true, if_false, if_true, reduceIte, evOps, evStep, wantedA, evOp, opv, putA, ret1, ofVal, ofVal1, cellsOf, AV.isCell, clean, evFieldAddr, evField, evBin, evUn, evExtract, evBuild, evIndex, evBuiltin, evBuildSlice, evNilCheck, ibin, blkRead, mkAgg, mkTup, mapO, AV.pure?, setAt, afill, parts, calleeOf, tell, scalar, scalarL, frz, norm, normL, ids, Go.Ev.mark, deep, evResults, evResult, aggCells, partA, List.getElem?_cons_zero, List.getElem?_cons_succ, List.getElem?_nil, List.map_cons, List.map_nil, List.all_cons, List.all_nil, Bool.and_true, Bool.true_and, Bool.and_false, Bool.false_and, Bool.and_self, Bool.not_true, Bool.not_false, Bool.or_true, Bool.or_false, Bool.false_or, Bool.true_or, List.set, List.length_cons, List.length_nil, List.nil_append, List.cons_append, List.append_nil, Nat.reduceAdd, Nat.reduceSub, Nat.reduceMul, Nat.reduceLeDiff, Nat.zero_add, Nat.reduceEqDiff, List.replicate, List.drop, List.take, List.flatMap_cons, List.flatMap_nil, List.foldl_nil, List.foldl_cons, decide_true, decide_false, and_self, and_true, true_and, BEq.rfl, beq_self_eq_true, Option.map_some, Option.map_none, Option.bind_some, Option.bind_none, List.getElem?_toArray, Option.isSome_some, Option.isSome_none, beqs, ne_eq, not_true_eq_false, not_false_eq_true, false_or, or_false, or_self, Nat.reduceLT, false_and, and_false, List.nil_append, evEq, eqc, optO, WC_exit]
    | succ m ih =>
      intro k o c t9 t20 hkm hn ho hlo hc hv hz
      have hk : k < n := by omega
      have hlt : decide ((k : Int) < (n : Int)) = true := by simp; omega
      have hj : k < o.length := by omega
      have hx := limbs_getD ha k
      have hy := limbs_getD hb k
      have hda := rs_digit a ha k
      have hdb := rs_digit b hb k
      have hva := val_take_next a k
      have hvb := val_take_next b k
      simp only [N32] at hda hdb
      generalize hxx : a.getD k 0 = x at *
      generalize hyy : b.getD k 0 = y at *
      have hLB : LB = 4294967296 := rfl
      have hs1 : IntKind.u64.wrap ((x : Int) + (y : Int)) = ((x + y : Nat) : Int) := by rw [← Int.natCast_add]; exact wrap_u64 (by omega) (by omega)
      have hs2 : IntKind.u64.wrap (((x + y : Nat) : Int) + (c : Int)) = ((x + y + c : Nat) : Int) := by rw [← Int.natCast_add]; exact wrap_u64 (by omega) (by omega)
      have hk1 : IntKind.i64.wrap ((k : Int) + 1) = ((k + 1 : Nat) : Int) := by rw [wrap_i64 (by omega) (by omega)]; omega
      obtain ⟨o', c', t9', t20', h1, h2, h3, h4⟩ := ih (k + 1) (o.set k ((x + y + c) % LB)) ((x + y + c) / LB) (.p (.int .u64 ((x + y + c : Nat) : Int))) (.p (.bool true)) (by omega) hn (by simpa using ho) (limbs_set hlo (Nat.mod_lt _ (by decide))) (by rw [Nat.div_lt_iff_lt_mul (by decide)]; omega) (by
        have hvs := val_set o k ((x + y + c) % LB) hj
        rw [hz k (Nat.le_refl _), Nat.zero_mul, Nat.add_zero] at hvs
        rw [hvs, hva, hvb, Nat.pow_succ]
        generalize LB ^ k = P at *
        generalize hs : x + y + c = s at *
        have a1 : s % LB * P + s / LB * (P * LB) = s * P := by
          have h' := congrArg (· * P) (Nat.div_add_mod s LB)
          simp only [Nat.add_mul] at h'
          have e : s / LB * (P * LB) = LB * (s / LB) * P := by simp only [Nat.mul_comm, Nat.mul_left_comm, Nat.mul_assoc]
          omega
        have a2 : s * P = x * P + y * P + c * P := by rw [← hs, Nat.add_mul, Nat.add_mul]
        omega) (fun j hj2 => by
        rw [List.getD_eq_getElem?_getD, List.getElem?_set_ne (by omega), ← List.getD_eq_getElem?_getD, hz j (by omega)])
      refine ⟨o', c', t9', t20', ?_, h2, h3, h4⟩
      rw [← hI, WC_loop, hI, WC_seq, WC_seq, WC_region]
      simp only [evRegion, Bool.false_eq_true, if_false, if_true, reduceIte, evOps, evStep, wantedA, evOp, opv, putA, ret1, ofVal, ofVal1, cellsOf, AV.isCell, clean, evFieldAddr, evField, evBin, evUn, evExtract, evBuild, evIndex, evBuiltin, evBuildSlice, evNilCheck, ibin, blkRead, mkAgg, mkTup, mapO, AV.pure?, setAt, afill, parts, calleeOf, tell, scalar, scalarL, frz, norm, normL, ids, Go.Ev.mark, deep, evResults, evResult, aggCells, partA, List.getElem?_cons_zero, List.getElem?_cons_succ, List.getElem?_nil, List.map_cons, List.map_nil, List.all_cons, List.all_nil, Bool.and_true, Bool.true_and, Bool.and_false, Bool.false_and, Bool.and_self, Bool.not_true, Bool.not_false, Bool.or_true, Bool.or_false, Bool.false_or, Bool.true_or, List.set, List.length_cons, List.length_nil, List.nil_append, List.cons_append, List.append_nil, Nat.reduceAdd, Nat.reduceSub, Nat.reduceMul, Nat.reduceLeDiff, Nat.zero_add, Nat.reduceEqDiff, List.replicate, List.drop, List.take, List.flatMap_cons, List.flatMap_nil, List.foldl_nil, List.foldl_cons, decide_true, decide_false, and_self, and_true, true_and, BEq.rfl, beq_self_eq_true, Option.map_some, Option.map_none, Option.bind_some, Option.bind_none, List.getElem?_toArray, Option.isSome_some, Option.isSome_none, beqs, ne_eq, not_true_eq_false, not_false_eq_true, false_or, or_false, or_self, Nat.reduceLT, false_and, and_false, List.nil_append, evEq, eqc, optO, rs_P, hlt]
      rw [WC_cond]
      simp only [evRegion, Bool.false_eq_true, if_false, if_true, reduceIte, evOps, evStep, wantedA, evOp, opv, putA, ret1, ofVal, ofVal1, cellsOf, AV.isCell, clean, evFieldAddr, evField, evBin, evUn, evExtract, evBuild, evIndex, evBuiltin, evBuildSlice, evNilCheck, ibin, blkRead, mkAgg, mkTup, mapO, AV.pure?, setAt, afill, parts, calleeOf, tell, scalar, scalarL, frz, norm, normL, ids, Go.Ev.mark, deep, evResults, evResult, aggCells, partA, List.getElem?_cons_zero, List.getElem?_cons_succ, List.getElem?_nil, List.map_cons, List.map_nil, List.all_cons, List.all_nil, Bool.and_true, Bool.true_and, Bool.and_false, Bool.false_and, Bool.and_self, Bool.not_true, Bool.not_false, Bool.or_true, Bool.or_false, Bool.false_or, Bool.true_or, List.set, List.length_cons, List.length_nil, List.nil_append, List.cons_append, List.append_nil, Nat.reduceAdd, Nat.reduceSub, Nat.reduceMul, Nat.reduceLeDiff, Nat.zero_add, Nat.reduceEqDiff, List.replicate, List.drop, List.take, List.flatMap_cons, List.flatMap_nil, List.foldl_nil, List.foldl_cons, decide_true, decide_false, and_self, and_true, true_and, BEq.rfl, beq_self_eq_true, Option.map_some, Option.map_none, Option.bind_some, Option.bind_none, List.getElem?_toArray, Option.isSome_some, Option.isSome_none, beqs, ne_eq, not_true_eq_false, not_false_eq_true, false_or, or_false, or_self, Nat.reduceLT, false_and, and_false, List.nil_append, evEq, eqc, optO, WC_skip]
      rw [WC_seq, WC_block, WC_seq, WC_region]
      simp only [evRegion, Bool.false_eq_true, if_false, if_true, reduceIte, evOps, evStep, wantedA, evOp, opv, putA, ret1, ofVal, ofVal1, cellsOf, AV.isCell, clean, evFieldAddr, evField, evBin, evUn, evExtract, evBuild, evIndex, evBuiltin, evBuildSlice, evNilCheck, ibin, blkRead, mkAgg, mkTup, mapO, AV.pure?, setAt, afill, parts, calleeOf, tell, scalar, scalarL, frz, norm, normL, ids, Go.Ev.mark, deep, evResults, evResult, aggCells, partA, List.getElem?_cons_zero, List.getElem?_cons_succ, List.getElem?_nil, List.map_cons, List.map_nil, List.all_cons, List.all_nil, Bool.and_true, Bool.true_and, Bool.and_false, Bool.false_and, Bool.and_self, Bool.not_true, Bool.not_false, Bool.or_true, Bool.or_false, Bool.false_or, Bool.true_or, List.set, List.length_cons, List.length_nil, List.nil_append, List.cons_append, List.append_nil, Nat.reduceAdd, Nat.reduceSub, Nat.reduceMul, Nat.reduceLeDiff, Nat.zero_add, Nat.reduceEqDiff, List.replicate, List.drop, List.take, List.flatMap_cons, List.flatMap_nil, List.foldl_nil, List.foldl_cons, decide_true, decide_false, and_self, and_true, true_and, BEq.rfl, beq_self_eq_true, Option.map_some, Option.map_none, Option.bind_some, Option.bind_none, List.getElem?_toArray, Option.isSome_some, Option.isSome_none, beqs, ne_eq, not_true_eq_false, not_false_eq_true, false_or, or_false, or_self, Nat.reduceLT, false_and, and_false, List.nil_append, evEq, eqc, optO, rs_P, len32 rs_P, hlt, ixms hk, Nat.zero_add, stms1 hj, mulConv, wrap_u32, shr32, hs1, hs2, hk1, evCall_tab (show ∀ f xs, rsC.O f xs = none from fun _ _ => rfl), show rsC.md 30 = 0 from rfl, normN, hda, hdb]
      rw [WC_seq, WC_region]
      simp only [evRegion, Bool.false_eq_true, if_false, if_true, reduceIte, evOps, evStep, wantedA, evOp, opv, putA, ret1, ofVal, ofVal1, cellsOf, AV.isCell, clean, evFieldAddr, evField, evBin, evUn, evExtract, evBuild, evIndex, evBuiltin, evBuildSlice, evNilCheck, ibin, blkRead, mkAgg, mkTup, mapO, AV.pure?, setAt, afill, parts, calleeOf, tell, scalar, scalarL, frz, norm, normL, ids, Go.Ev.mark, deep, evResults, evResult, aggCells, partA, List.getElem?_cons_zero, List.getElem?_cons_succ, List.getElem?_nil, List.map_cons, List.map_nil, List.all_cons, List.all_nil, Bool.and_true, Bool.true_and, Bool.and_false, Bool.false_and, Bool.and_self, Bool.not_true, Bool.not_false, Bool.or_true, Bool.or_false, Bool.false_or, Bool.true_or, List.set, List.length_cons, List.length_nil, List.nil_append, List.cons_append, List.append_nil, Nat.reduceAdd, Nat.reduceSub, Nat.reduceMul, Nat.reduceLeDiff, Nat.zero_add, Nat.reduceEqDiff, List.replicate, List.drop, List.take, List.flatMap_cons, List.flatMap_nil, List.foldl_nil, List.foldl_cons, decide_true, decide_false, and_self, and_true, true_and, BEq.rfl, beq_self_eq_true, Option.map_some, Option.map_none, Option.bind_some, Option.bind_none, List.getElem?_toArray, Option.isSome_some, Option.isSome_none, beqs, ne_eq, not_true_eq_false, not_false_eq_true, false_or, or_false, or_self, Nat.reduceLT, false_and, and_false, List.nil_append, evEq, eqc, optO, rs_P, len32 rs_P, hlt, ixms hk, Nat.zero_add, stms1 hj, mulConv, wrap_u32, shr32, hs1, hs2, hk1, evCall_tab (show ∀ f xs, rsC.O f xs = none from fun _ _ => rfl), show rsC.md 30 = 0 from rfl, normN, hda, hdb]
      rw [WC_region]
      simp only [evRegion, Bool.false_eq_true, if_false, if_true, reduceIte, evOps, evStep, wantedA, evOp, opv, putA, ret1, ofVal, ofVal1, cellsOf, AV.isCell, clean, evFieldAddr, evField, evBin, evUn, evExtract, evBuild, evIndex, evBuiltin, evBuildSlice, evNilCheck, ibin, blkRead, mkAgg, mkTup, mapO, AV.pure?, setAt, afill, parts, calleeOf, tell, scalar, scalarL, frz, norm, normL, ids, Go.Ev.mark, deep, evResults, evResult, aggCells, partA, List.getElem?_cons_zero, List.getElem?_cons_succ, List.getElem?_nil, List.map_cons, List.map_nil, List.all_cons, List.all_nil, Bool.and_true, Bool.true_and, Bool.and_false, Bool.false_and, Bool.and_self, Bool.not_true, Bool.not_false, Bool.or_true, Bool.or_false, Bool.false_or, Bool.true_or, List.set, List.length_cons, List.length_nil, List.nil_append, List.cons_append, List.append_nil, Nat.reduceAdd, Nat.reduceSub, Nat.reduceMul, Nat.reduceLeDiff, Nat.zero_add, Nat.reduceEqDiff, List.replicate, List.drop, List.take, List.flatMap_cons, List.flatMap_nil, List.foldl_nil, List.foldl_cons, decide_true, decide_false, and_self, and_true, true_and, BEq.rfl, beq_self_eq_true, Option.map_some, Option.map_none, Option.bind_some, Option.bind_none, List.getElem?_toArray, Option.isSome_some, Option.isSome_none, beqs, ne_eq, not_true_eq_false, not_false_eq_true, false_or, or_false, or_self, Nat.reduceLT, false_and, and_false, List.nil_append, evEq, eqc, optO, rs_P, len32 rs_P, hlt, ixms hk, Nat.zero_add, stms1 hj, mulConv, wrap_u32, shr32, hs1, hs2, hk1, evCall_tab (show ∀ f xs, rsC.O f xs = none from fun _ _ => rfl), show rsC.md 30 = 0 from rfl, normN, hda, hdb]
      rw [WC_region]
      simp only [evRegion, Bool.false_eq_true, if_false, if_true, reduceIte, evOps, evStep, wantedA, evOp, opv, putA, ret1, ofVal, ofVal1, cellsOf, AV.isCell, clean, evFieldAddr, evField, evBin, evUn, evExtract, evBuild, evIndex, evBuiltin, evBuildSlice, evNilCheck, ibin, blkRead, mkAgg, mkTup, mapO, AV.pure?, setAt, afill, parts, calleeOf, tell, scalar, scalarL, frz, norm, normL, ids, Go.Ev.mark, deep, evResults, evResult, aggCells, partA, List.getElem?_cons_zero, List.getElem?_cons_succ, List.getElem?_nil, List.map_cons, List.map_nil, List.all_cons, List.all_nil, Bool.and_true, Bool.true_and, Bool.and_false, Bool.false_and, Bool.and_self, Bool.not_true, Bool.not_false, Bool.or_true, Bool.or_false, Bool.false_or, Bool.true_or, List.set, List.length_cons, List.length_nil, List.nil_append, List.cons_append, List.append_nil, Nat.reduceAdd, Nat.reduceSub, Nat.reduceMul, Nat.reduceLeDiff, Nat.zero_add, Nat.reduceEqDiff, List.replicate, List.drop, List.take, List.flatMap_cons, List.flatMap_nil, List.foldl_nil, List.foldl_cons, decide_true, decide_false, and_self, and_true, true_and, BEq.rfl, beq_self_eq_true, Option.map_some, Option.map_none, Option.bind_some, Option.bind_none, List.getElem?_toArray, Option.isSome_some, Option.isSome_none, beqs, ne_eq, not_true_eq_false, not_false_eq_true, false_or, or_false, or_self, Nat.reduceLT, false_and, and_false, List.nil_append, evEq, eqc, optO, rs_P, hk1]
      exact h1
  obtain ⟨o', c', t9', t20', k1, k2, k3, k4⟩ := inner n n 0 (List.replicate n 0) 0 (.p .und) (.p .und) (by omega) (by omega) (by simp)
    (fun x hx => by rw [List.eq_of_mem_replicate hx]; decide) (by decide) (by simp [val_zeros, val]) (fun j _ => by simp [List.getD_eq_getElem?_getD, List.getElem?_replicate]; split <;> rfl)
  simp only [Int.natCast_zero, Int.cast_ofNat_Int] at k1
  have hval : val o' = val a + val b := by
    rw [List.take_of_length_le (by omega), List.take_of_length_le (by omega)] at k4
    rcases Nat.eq_zero_or_pos c' with h | h
    · rw [h] at k4; omega
    · exfalso
      have h1 := val_lt ha
      have h2 := val_lt hb
      have h3 : LB ^ a.length ≤ LB ^ (max a.length b.length) := Nat.pow_le_pow_right (by decide) (by omega)
      have h4 : LB ^ b.length ≤ LB ^ (max a.length b.length) := Nat.pow_le_pow_right (by decide) (by omega)
      have h5 : LB ^ n = LB ^ (max a.length b.length) * LB := by rw [hn, Nat.pow_succ]
      have h6 : 1 * LB ^ n ≤ c' * LB ^ n := Nat.mul_le_mul_right _ h
      have h7 : LB ^ (max a.length b.length) * 2 ≤ LB ^ (max a.length b.length) * LB := Nat.mul_le_mul_left _ (by decide)
      omega
  have ht := rs_trimO o' (by omega) false
  rw [k2] at ht
  rw [k1]
  simp only [if_true]
  rw [WC_seq, WC_region]
  simp only [evRegion, Bool.false_eq_true, if_false, if_true, reduceIte, evOps, evStep, wantedA, evOp, opv, putA, ret1, ofVal, ofVal1, cellsOf, AV.isCell, clean, evFieldAddr, evField, evBin, evUn, evExtract, evBuild, evIndex, evBuiltin, evBuildSlice, evNilCheck, ibin, blkRead, mkAgg, mkTup, mapO, AV.pure?, setAt, afill, parts, calleeOf, tell, scalar, scalarL, norm, normL, ids, Go.Ev.mark, evResults, evResult, aggCells, partA, List.getElem?_cons_zero, List.getElem?_cons_succ, List.getElem?_nil, List.map_cons, List.map_nil, List.all_cons, List.all_nil, Bool.and_true, Bool.true_and, Bool.and_false, Bool.false_and, Bool.and_self, Bool.not_true, Bool.not_false, Bool.or_true, Bool.or_false, Bool.false_or, Bool.true_or, List.set, List.length_cons, List.length_nil, List.nil_append, List.cons_append, List.append_nil, Nat.reduceAdd, Nat.reduceSub, Nat.reduceMul, Nat.reduceLeDiff, Nat.zero_add, Nat.reduceEqDiff, List.replicate, List.drop, List.take, List.flatMap_cons, List.flatMap_nil, List.foldl_nil, List.foldl_cons, decide_true, decide_false, and_self, and_true, true_and, BEq.rfl, beq_self_eq_true, Option.map_some, Option.map_none, Option.bind_some, Option.bind_none, List.getElem?_toArray, Option.isSome_some, Option.isSome_none, beqs, ne_eq, not_true_eq_false, not_false_eq_true, false_or, or_false, or_self, Nat.reduceLT, false_and, and_false, List.nil_append, evEq, eqc, optO, rs_P, evCall_mem (show rsC.md 31 = 2 from rfl), ht, WC_ret, show Try.f13.results = #[.tmp 4] from rfl, show rsC.md 31 = 2 from rfl]
  have hf := frz_lb (fz := false) (trim_le o')
  rw [trim_take, trim_toL k3, hval] at hf
  rw [trim_toL k3, hval]
  exact hf
end Go.Proofs
set_option linter.unusedSimpArgs false
namespace Go.Proofs
open Go.Ev Go.Mx
/-- Which number is more? -/
def cmpN (x y : Nat) : Int := if x < y then -1 else if x = y then 0 else 1
theorem val_at {l : List Nat} {k : Nat} (h : k < l.length) : val l = val (l.take k) + LB ^ k * (l.getD k 0 + LB * val (l.drop (k + 1))) := by
  have e : l = l.take k ++ (l.getD k 0 :: l.drop (k + 1)) := by
    rw [List.getD_eq_getElem?_getD, List.getElem?_eq_getElem h]
    simp
  have h2 := congrArg val e
  rw [val_append, List.length_take, Nat.min_eq_left (by omega)] at h2
  exact h2
/-- The highest limb that differs tells. -/
theorem val_less {a b : List Nat} {k : Nat} (ha : Limbs a) (hk : k < a.length) (hk2 : k < b.length) (hd : a.drop (k + 1) = b.drop (k + 1)) (hlt : a.getD k 0 < b.getD k 0) : val a < val b := by
  rw [val_at hk, val_at hk2, hd]
  have h1 := val_lt (l := a.take k) (fun x hx => ha x (List.mem_of_mem_take hx))
  rw [List.length_take, Nat.min_eq_left (by omega)] at h1
  have h2 : LB ^ k * (a.getD k 0 + LB * val (b.drop (k + 1)) + 1) ≤ LB ^ k * (b.getD k 0 + LB * val (b.drop (k + 1))) := Nat.mul_le_mul_left _ (by omega)
  rw [Nat.mul_add, Nat.mul_one] at h2
  omega
theorem flags0 {H : List ABlk} : flags [] H = [] := rfl
theorem flags1 {v v' : Nat} {f f' : Bool} {c c' : List AV} : flags [⟨v, f, c⟩] [⟨v', f', c'⟩] = [⟨v, f || f', c⟩] := rfl
theorem ine_t {x y : Nat} (h : x ≠ y) : ((x : Int) != (y : Int)) = true := by simp; omega
theorem ine_f {x y : Nat} (h : x = y) : ((x : Int) != (y : Int)) = false := by simp; omega
theorem ilt_t {x y : Nat} (h : x < y) : decide ((x : Int) < (y : Int)) = true := by simp; omega
theorem ilt_f {x y : Nat} (h : ¬ x < y) : decide ((x : Int) < (y : Int)) = false := by simp; omega
def pm (k : Nat) : Int := (k : Int) - 1
theorem pm_zero : pm 0 = -1 := rfl
theorem pm_succ (k : Nat) : pm (k + 1) = (k : Int) := by unfold pm; omega
theorem rs_lv32 : rsC.lv 32 = [true, true, false, false, true, true, false, false, false, false, true, false, false, false, false, true, false, false, false, false, true, false, false, false, false, false, false, false, false, false, false, true, false, false, false, false, false, false, false, false, true] := by kernel_rfl
set_option maxRecDepth 100000 in
set_option maxHeartbeats 4000000 in
theorem rs_cmp (a b : List Nat) (ha : Limbs a) (hb : Limbs b) (hla : a.length ≤ 100000) (hlb : b.length ≤ 100000) : WP rsC 32 [N32 a, N32 b] = some (.int .i64 (if a.length = b.length then cmpN (val a) (val b) else if a.length < b.length then -1 else 1)) := by
  rw [WP_eq (show rsC.md 32 < 9 by decide) Try.func32 rfl]
  rw [show Try.f32.ntmps = 41 from rfl, rs_lv32]
  simp only [N32, List.map_cons, List.map_nil, List.length_cons, List.length_nil, Nat.reduceAdd, Nat.reduceSub, List.replicate, List.cons_append, List.nil_append]
  rw [WC_seq, WC_region]
  simp only [evRegion, Bool.false_eq_true, if_false, if_true, reduceIte, evOps, evStep, wantedA, evOp, opv, putA, ret1, ofVal, ofVal1, cellsOf, AV.isCell, clean, evFieldAddr, evField, evBin, evUn, evExtract, evBuild, evIndex, evBuiltin, evBuildSlice, evNilCheck, ibin, blkRead, mkAgg, mkTup, mapO, AV.pure?, setAt, afill, parts, calleeOf, tell, scalar, scalarL, frz, norm, normL, ids, Go.Ev.mark, deep, evResults, evResult, aggCells, partA, List.getElem?_cons_zero, List.getElem?_cons_succ, List.getElem?_nil, List.map_cons, List.map_nil, List.all_cons, List.all_nil, Bool.and_true, Bool.true_and, Bool.and_false, Bool.false_and, Bool.and_self, Bool.not_true, Bool.not_false, Bool.or_true, Bool.or_false, Bool.false_or, Bool.true_or, List.set, List.length_cons, List.length_nil, List.nil_append, List.cons_append, List.append_nil, Nat.reduceAdd, Nat.reduceSub, Nat.reduceMul, Nat.reduceLeDiff, Nat.zero_add, Nat.reduceEqDiff, List.replicate, List.drop, List.take, List.flatMap_cons, List.flatMap_nil, List.foldl_nil, List.foldl_cons, decide_true, decide_false, and_self, and_true, true_and, BEq.rfl, beq_self_eq_true, Option.map_some, Option.map_none, Option.bind_some, Option.bind_none, List.getElem?_toArray, Option.isSome_some, Option.isSome_none, beqs, ne_eq, not_true_eq_false, not_false_eq_true, false_or, or_false, or_self, Nat.reduceLT, false_and, and_false, List.nil_append, evEq, eqc, optO, rs_P]
  rw [WC_seq, WC_seq, WC_region]
  simp only [evRegion, Bool.false_eq_true, if_false, if_true, reduceIte, evOps, evStep, wantedA, evOp, opv, putA, ret1, ofVal, ofVal1, cellsOf, AV.isCell, clean, evFieldAddr, evField, evBin, evUn, evExtract, evBuild, evIndex, evBuiltin, evBuildSlice, evNilCheck, ibin, blkRead, mkAgg, mkTup, mapO, AV.pure?, setAt, afill, parts, calleeOf, tell, scalar, scalarL, frz, norm, normL, ids, Go.Ev.mark, deep, evResults, evResult, aggCells, partA, List.getElem?_cons_zero, List.getElem?_cons_succ, List.getElem?_nil, List.map_cons, List.map_nil, List.all_cons, List.all_nil, Bool.and_true, Bool.true_and, Bool.and_false, Bool.false_and, Bool.and_self, Bool.not_true, Bool.not_false, Bool.or_true, Bool.or_false, Bool.false_or, Bool.true_or, List.set, List.length_cons, List.length_nil, List.nil_append, List.cons_append, List.append_nil, Nat.reduceAdd, Nat.reduceSub, Nat.reduceMul, Nat.reduceLeDiff, Nat.zero_add, Nat.reduceEqDiff, List.replicate, List.drop, List.take, List.flatMap_cons, List.flatMap_nil, List.foldl_nil, List.foldl_cons, decide_true, decide_false, and_self, and_true, true_and, BEq.rfl, beq_self_eq_true, Option.map_some, Option.map_none, Option.bind_some, Option.bind_none, List.getElem?_toArray, Option.isSome_some, Option.isSome_none, beqs, ne_eq, not_true_eq_false, not_false_eq_true, false_or, or_false, or_self, Nat.reduceLT, false_and, and_false, List.nil_append, evEq, eqc, optO, rs_P, len32 rs_P]
  by_cases hl : a.length = b.length
  · rw [if_pos hl]
    have hne : ((a.length : Int) != (b.length : Int)) = false := by rw [hl]; simp
    rw [WC_cond]
    simp only [evRegion, Bool.false_eq_true, if_false, if_true, reduceIte, evOps, evStep, wantedA, evOp, opv, putA, ret1, ofVal, ofVal1, cellsOf, AV.isCell, clean, evFieldAddr, evField, evBin, evUn, evExtract, evBuild, evIndex, evBuiltin, evBuildSlice, evNilCheck, ibin, blkRead, mkAgg, mkTup, mapO, AV.pure?, setAt, afill, parts, calleeOf, tell, scalar, scalarL, frz, norm, normL, ids, Go.Ev.mark, deep, evResults, evResult, aggCells, partA, List.getElem?_cons_zero, List.getElem?_cons_succ, List.getElem?_nil, List.map_cons, List.map_nil, List.all_cons, List.all_nil, Bool.and_true, Bool.true_and, Bool.and_false, Bool.false_and, Bool.and_self, Bool.not_true, Bool.not_false, Bool.or_true, Bool.or_false, Bool.false_or, Bool.true_or, List.set, List.length_cons, List.length_nil, List.nil_append, List.cons_append, List.append_nil, Nat.reduceAdd, Nat.reduceSub, Nat.reduceMul, Nat.reduceLeDiff, Nat.zero_add, Nat.reduceEqDiff, List.replicate, List.drop, List.take, List.flatMap_cons, List.flatMap_nil, List.foldl_nil, List.foldl_cons, decide_true, decide_false, and_self, and_true, true_and, BEq.rfl, beq_self_eq_true, Option.map_some, Option.map_none, Option.bind_some, Option.bind_none, List.getElem?_toArray, Option.isSome_some, Option.isSome_none, beqs, ne_eq, not_true_eq_false, not_false_eq_true, false_or, or_false, or_self, Nat.reduceLT, false_and, and_false, List.nil_append, evEq, eqc, optO, hne, WC_skip]
    rw [WC_seq, WC_seq, WC_region]
    simp only [evRegion, Bool.false_eq_true, if_false, if_true, reduceIte, evOps, evStep, wantedA, evOp, opv, putA, ret1, ofVal, ofVal1, cellsOf, AV.isCell, clean, evFieldAddr, evField, evBin, evUn, evExtract, evBuild, evIndex, evBuiltin, evBuildSlice, evNilCheck, ibin, blkRead, mkAgg, mkTup, mapO, AV.pure?, setAt, afill, parts, calleeOf, tell, scalar, scalarL, frz, norm, normL, ids, Go.Ev.mark, deep, evResults, evResult, aggCells, partA, List.getElem?_cons_zero, List.getElem?_cons_succ, List.getElem?_nil, List.map_cons, List.map_nil, List.all_cons, List.all_nil, Bool.and_true, Bool.true_and, Bool.and_false, Bool.false_and, Bool.and_self, Bool.not_true, Bool.not_false, Bool.or_true, Bool.or_false, Bool.false_or, Bool.true_or, List.set, List.length_cons, List.length_nil, List.nil_append, List.cons_append, List.append_nil, Nat.reduceAdd, Nat.reduceSub, Nat.reduceMul, Nat.reduceLeDiff, Nat.zero_add, Nat.reduceEqDiff, List.replicate, List.drop, List.take, List.flatMap_cons, List.flatMap_nil, List.foldl_nil, List.foldl_cons, decide_true, decide_false, and_self, and_true, true_and, BEq.rfl, beq_self_eq_true, Option.map_some, Option.map_none, Option.bind_some, Option.bind_none, List.getElem?_toArray, Option.isSome_some, Option.isSome_none, beqs, ne_eq, not_true_eq_false, not_false_eq_true, false_or, or_false, or_self, Nat.reduceLT, false_and, and_false, List.nil_append, evEq, eqc, optO, rs_P, len32 rs_P]
    have hpm : IntKind.i64.wrap ((a.length : Int) - 1) = pm a.length := by rw [wrap_i64 (by omega) (by omega)]; rfl
    rw [WC_block, hpm]
    generalize hI : (Code.loop _ : Code) = I
    have inner : ∀ (m : Nat) (t20 t31 t40 : AV), m ≤ a.length → a.drop m = b.drop m → ∃ (t20' t31' t40' : AV),
        (val (a.take m) = val (b.take m) ∧ WC rsC [true, true, false, false, true, true, false, false, false, false, true, false, false, false, false, true, false, false, false, false, true, false, false, false, false, false, false, false, false, false, false, true, false, false, false, false, false, false, false, false, true] I ⟨[.p (.sl a.length false (a.map pu)), .p (.sl b.length false (b.map pu)), .p .any, .p .any, .p (.int .i64 0), .p (.int .i64 (pm m)), .p .any, .p .any, .p .any, .p .any, .p (.bool false), .p .any, .p .any, .p .any, .p .any, .p .und, .p .any, .p .any, .p .any, .p .any, t20, .p .any, .p .any, .p .any, .p .any, .p .any, .p .any, .p .any, .p .any, .p .any, .p .any, t31, .p .any, .p .any, .p .any, .p .any, .p .any, .p .any, .p .any, .p .any, t40], []⟩ = some (.exit 0, ⟨[.p (.sl a.length false (a.map pu)), .p (.sl b.length false (b.map pu)), .p .any, .p .any, .p (.int .i64 0), .p (.int .i64 (-1)), .p .any, .p .any, .p .any, .p .any, .p (.bool false), .p .any, .p .any, .p .any, .p .any, .p .und, .p .any, .p .any, .p .any, .p .any, t20', .p .any, .p .any, .p .any, .p .any, .p .any, .p .any, .p .any, .p .any, .p .any, .p .any, t31', .p .any, .p .any, .p .any, .p .any, .p .any, .p .any, .p .any, .p .any, t40'], []⟩)) ∨
        (∃ (z k : Int), z = cmpN (val a) (val b) ∧ WC rsC [true, true, false, false, true, true, false, false, false, false, true, false, false, false, false, true, false, false, false, false, true, false, false, false, false, false, false, false, false, false, false, true, false, false, false, false, false, false, false, false, true] I ⟨[.p (.sl a.length false (a.map pu)), .p (.sl b.length false (b.map pu)), .p .any, .p .any, .p (.int .i64 0), .p (.int .i64 (pm m)), .p .any, .p .any, .p .any, .p .any, .p (.bool false), .p .any, .p .any, .p .any, .p .any, .p .und, .p .any, .p .any, .p .any, .p .any, t20, .p .any, .p .any, .p .any, .p .any, .p .any, .p .any, .p .any, .p .any, .p .any, .p .any, t31, .p .any, .p .any, .p .any, .p .any, .p .any, .p .any, .p .any, .p .any, t40], []⟩ = some (.ret, ⟨[.p (.sl a.length false (a.map pu)), .p (.sl b.length false (b.map pu)), .p .any, .p .any, .p (.int .i64 z), .p (.int .i64 k), .p .any, .p .any, .p .any, .p .any, .p (.bool false), .p .any, .p .any, .p .any, .p .any, .p .und, .p .any, .p .any, .p .any, .p .any, t20', .p .any, .p .any, .p .any, .p .any, .p .any, .p .any, .p .any, .p .any, .p .any, .p .any, t31', .p .any, .p .any, .p .any, .p .any, .p .any, .p .any, .p .any, .p .any, t40'], []⟩)) := by
      intro m
      induction m with
      | zero =>
        intro t20 t31 t40 hm hd
        refine ⟨.p (.bool false), t31, t40, .inl ⟨by simp, ?_⟩⟩
        have hge : decide ((-1 : Int) ≥ 0) = false := by decide
        rw [← hI, WC_loop, hI, pm_zero]
        simp only [WC_seq, WC_region, WC_cond, WC_exit, WC_skip, evRegion, Bool.false_eq_true, if_false, if_true, reduceIte, evOps, evStep, wantedA, evOp, opv, putA, ret1, ofVal, ofVal1, cellsOf, AV.isCell, clean, evFieldAddr, evField, evBin, evUn, evExtract, evBuild, evIndex, evBuiltin, evBuildSlice, evNilCheck, ibin, blkRead, mkAgg, mkTup, mapO, AV.pure?, setAt, afill, parts, calleeOf, tell, scalar, scalarL, frz, norm, normL, ids, Go.Ev.mark, deep, evResults, evResult, aggCells, partA, List.getElem?_cons_zero, List.getElem?_cons_succ, List.getElem?_nil, List.map_cons, List.map_nil, List.all_cons, List.all_nil, Bool.and_true, Bool.true_and, Bool.and_false, Bool.false_and, Bool.and_self, Bool.not_true, Bool.not_false, Bool.or_true, Bool.or_false, Bool.false_or, Bool.true_or, List.set, List.length_cons, List.length_nil, List.nil_append, List.cons_append, List.append_nil, Nat.reduceAdd, Nat.reduceSub, Nat.reduceMul, Nat.reduceLeDiff, Nat.zero_add, Nat.reduceEqDiff, List.replicate, List.drop, List.take, List.flatMap_cons, List.flatMap_nil, List.foldl_nil, List.foldl_cons, decide_true, decide_false, and_self, and_true, true_and, BEq.rfl, beq_self_eq_true, Option.map_some, Option.map_none, Option.bind_some, Option.bind_none, List.getElem?_toArray, Option.isSome_some, Option.isSome_none, beqs, ne_eq, not_true_eq_false, not_false_eq_true, false_or, or_false, or_self, Nat.reduceLT, false_and, and_false, List.nil_append, evEq, eqc, optO, flags0, flags1, rs_P, hge]
      | succ m ih =>
        intro t20 t31 t40 hm hd
        have hge : decide ((m : Int) ≥ 0) = true := by simp
        have ha1 : m < a.length := by omega
        have hb1 : m < b.length := by omega
        have hk1 : IntKind.i64.wrap ((m : Int) - 1) = pm m := by rw [wrap_i64 (by omega) (by omega)]; rfl
        by_cases he : a.getD m 0 = b.getD m 0
        · have hd' : a.drop m = b.drop m := by
            rw [List.drop_eq_getElem_cons ha1, List.drop_eq_getElem_cons hb1, hd]
            have e1 : a[m] = b[m] := by simpa [List.getD_eq_getElem?_getD, List.getElem?_eq_getElem ha1, List.getElem?_eq_getElem hb1] using he
            rw [e1]
          have hne := ine_f he
          obtain ⟨t20', t31', t40', h⟩ := ih (.p (.bool true)) (.p (.bool false)) t40 (by omega) hd'
          have step : WC rsC [true, true, false, false, true, true, false, false, false, false, true, false, false, false, false, true, false, false, false, false, true, false, false, false, false, false, false, false, false, false, false, true, false, false, false, false, false, false, false, false, true] I ⟨[.p (.sl a.length false (a.map pu)), .p (.sl b.length false (b.map pu)), .p .any, .p .any, .p (.int .i64 0), .p (.int .i64 (pm (m + 1))), .p .any, .p .any, .p .any, .p .any, .p (.bool false), .p .any, .p .any, .p .any, .p .any, .p .und, .p .any, .p .any, .p .any, .p .any, t20, .p .any, .p .any, .p .any, .p .any, .p .any, .p .any, .p .any, .p .any, .p .any, .p .any, t31, .p .any, .p .any, .p .any, .p .any, .p .any, .p .any, .p .any, .p .any, t40], []⟩ = WC rsC [true, true, false, false, true, true, false, false, false, false, true, false, false, false, false, true, false, false, false, false, true, false, false, false, false, false, false, false, false, false, false, true, false, false, false, false, false, false, false, false, true] I ⟨[.p (.sl a.length false (a.map pu)), .p (.sl b.length false (b.map pu)), .p .any, .p .any, .p (.int .i64 0), .p (.int .i64 (pm m)), .p .any, .p .any, .p .any, .p .any, .p (.bool false), .p .any, .p .any, .p .any, .p .any, .p .und, .p .any, .p .any, .p .any, .p .any, .p (.bool true), .p .any, .p .any, .p .any, .p .any, .p .any, .p .any, .p .any, .p .any, .p .any, .p .any, .p (.bool false), .p .any, .p .any, .p .any, .p .any, .p .any, .p .any, .p .any, .p .any, t40], []⟩ := by
            conv => lhs; rw [← hI, WC_loop, hI, pm_succ]
            simp only [WC_seq, WC_region, WC_cond, WC_exit, WC_skip, WC_block, evRegion, Bool.false_eq_true, if_false, if_true, reduceIte, evOps, evStep, wantedA, evOp, opv, putA, ret1, ofVal, ofVal1, cellsOf, AV.isCell, clean, evFieldAddr, evField, evBin, evUn, evExtract, evBuild, evIndex, evBuiltin, evBuildSlice, evNilCheck, ibin, blkRead, mkAgg, mkTup, mapO, AV.pure?, setAt, afill, parts, calleeOf, tell, scalar, scalarL, frz, norm, normL, ids, Go.Ev.mark, deep, evResults, evResult, aggCells, partA, List.getElem?_cons_zero, List.getElem?_cons_succ, List.getElem?_nil, List.map_cons, List.map_nil, List.all_cons, List.all_nil, Bool.and_true, Bool.true_and, Bool.and_false, Bool.false_and, Bool.and_self, Bool.not_true, Bool.not_false, Bool.or_true, Bool.or_false, Bool.false_or, Bool.true_or, List.set, List.length_cons, List.length_nil, List.nil_append, List.cons_append, List.append_nil, Nat.reduceAdd, Nat.reduceSub, Nat.reduceMul, Nat.reduceLeDiff, Nat.zero_add, Nat.reduceEqDiff, List.replicate, List.drop, List.take, List.flatMap_cons, List.flatMap_nil, List.foldl_nil, List.foldl_cons, decide_true, decide_false, and_self, and_true, true_and, BEq.rfl, beq_self_eq_true, Option.map_some, Option.map_none, Option.bind_some, Option.bind_none, List.getElem?_toArray, Option.isSome_some, Option.isSome_none, beqs, ne_eq, not_true_eq_false, not_false_eq_true, false_or, or_false, or_self, Nat.reduceLT, false_and, and_false, List.nil_append, evEq, eqc, optO, flags0, flags1, rs_P, hge, ix32 ha1, ld32 ha1, ix32 hb1, ld32 hb1, pu, hne, hk1]
          refine ⟨t20', t31', t40', ?_⟩
          rcases h with ⟨h1, h2⟩ | ⟨z, k, h1, h2⟩
          · exact .inl ⟨by rw [val_take_succ a m ha1, val_take_succ b m hb1, h1, he], step.trans h2⟩
          · exact .inr ⟨z, k, h1, step.trans h2⟩
        · have hne := ine_t he
          by_cases hlt : a.getD m 0 < b.getD m 0
          · have hv := val_less ha ha1 hb1 hd hlt
            have hl := ilt_t hlt
            refine ⟨.p (.bool true), .p (.bool true), .p (.bool true), .inr ⟨-1, (m : Int), by unfold cmpN; rw [if_pos hv], ?_⟩⟩
            rw [← hI, WC_loop, hI, pm_succ]
            simp only [WC_seq, WC_region, WC_cond, WC_exit, WC_skip, WC_block, WC_ret, evRegion, Bool.false_eq_true, if_false, if_true, reduceIte, evOps, evStep, wantedA, evOp, opv, putA, ret1, ofVal, ofVal1, cellsOf, AV.isCell, clean, evFieldAddr, evField, evBin, evUn, evExtract, evBuild, evIndex, evBuiltin, evBuildSlice, evNilCheck, ibin, blkRead, mkAgg, mkTup, mapO, AV.pure?, setAt, afill, parts, calleeOf, tell, scalar, scalarL, frz, norm, normL, ids, Go.Ev.mark, deep, evResults, evResult, aggCells, partA, List.getElem?_cons_zero, List.getElem?_cons_succ, List.getElem?_nil, List.map_cons, List.map_nil, List.all_cons, List.all_nil, Bool.and_true, Bool.true_and, Bool.and_false, Bool.false_and, Bool.and_self, Bool.not_true, Bool.not_false, Bool.or_true, Bool.or_false, Bool.false_or, Bool.true_or, List.set, List.length_cons, List.length_nil, List.nil_append, List.cons_append, List.append_nil, Nat.reduceAdd, Nat.reduceSub, Nat.reduceMul, Nat.reduceLeDiff, Nat.zero_add, Nat.reduceEqDiff, List.replicate, List.drop, List.take, List.flatMap_cons, List.flatMap_nil, List.foldl_nil, List.foldl_cons, decide_true, decide_false, and_self, and_true, true_and, BEq.rfl, beq_self_eq_true, Option.map_some, Option.map_none, Option.bind_some, Option.bind_none, List.getElem?_toArray, Option.isSome_some, Option.isSome_none, beqs, ne_eq, not_true_eq_false, not_false_eq_true, false_or, or_false, or_self, Nat.reduceLT, false_and, and_false, List.nil_append, evEq, eqc, optO, flags0, flags1, rs_P, hge, ix32 ha1, ld32 ha1, ix32 hb1, ld32 hb1, pu, hne, hk1, hl]
          · have hv := val_less hb hb1 ha1 hd.symm (Nat.lt_of_le_of_ne (Nat.le_of_not_lt hlt) (fun h => he h.symm))
            have hl := ilt_f hlt
            refine ⟨.p (.bool true), .p (.bool true), .p (.bool false), .inr ⟨1, (m : Int), by unfold cmpN; rw [if_neg (by omega), if_neg (by omega)], ?_⟩⟩
            rw [← hI, WC_loop, hI, pm_succ]
            simp only [WC_seq, WC_region, WC_cond, WC_exit, WC_skip, WC_block, WC_ret, evRegion, Bool.false_eq_true, if_false, if_true, reduceIte, evOps, evStep, wantedA, evOp, opv, putA, ret1, ofVal, ofVal1, cellsOf, AV.isCell, clean, evFieldAddr, evField, evBin, evUn, evExtract, evBuild, evIndex, evBuiltin, evBuildSlice, evNilCheck, ibin, blkRead, mkAgg, mkTup, mapO, AV.pure?, setAt, afill, parts, calleeOf, tell, scalar, scalarL, frz, norm, normL, ids, Go.Ev.mark, deep, evResults, evResult, aggCells, partA, List.getElem?_cons_zero, List.getElem?_cons_succ, List.getElem?_nil, List.map_cons, List.map_nil, List.all_cons, List.all_nil, Bool.and_true, Bool.true_and, Bool.and_false, Bool.false_and, Bool.and_self, Bool.not_true, Bool.not_false, Bool.or_true, Bool.or_false, Bool.false_or, Bool.true_or, List.set, List.length_cons, List.length_nil, List.nil_append, List.cons_append, List.append_nil, Nat.reduceAdd, Nat.reduceSub, Nat.reduceMul, Nat.reduceLeDiff, Nat.zero_add, Nat.reduceEqDiff, List.replicate, List.drop, List.take, List.flatMap_cons, List.flatMap_nil, List.foldl_nil, List.foldl_cons, decide_true, decide_false, and_self, and_true, true_and, BEq.rfl, beq_self_eq_true, Option.map_some, Option.map_none, Option.bind_some, Option.bind_none, List.getElem?_toArray, Option.isSome_some, Option.isSome_none, beqs, ne_eq, not_true_eq_false, not_false_eq_true, false_or, or_false, or_self, Nat.reduceLT, false_and, and_false, List.nil_append, evEq, eqc, optO, flags0, flags1, rs_P, hge, ix32 ha1, ld32 ha1, ix32 hb1, ld32 hb1, pu, hne, hk1, hl]
    obtain ⟨t20', t31', t40', ⟨h1, h2⟩ | ⟨z, k, h1, h2⟩⟩ := inner a.length (.p .und) (.p .und) (.p .und) (Nat.le_refl _) (by rw [List.drop_eq_nil_of_le (Nat.le_refl _), List.drop_eq_nil_of_le (by omega)])
    · rw [h2]
      have hv : val a = val b := by rw [hl] at h1; rwa [List.take_of_length_le (by omega), List.take_of_length_le (by omega)] at h1
      simp only [WC_seq, WC_region, WC_ret, evRegion, Bool.false_eq_true, if_false, if_true, reduceIte, evOps, evStep, wantedA, evOp, opv, putA, ret1, ofVal, ofVal1, cellsOf, AV.isCell, clean, evFieldAddr, evField, evBin, evUn, evExtract, evBuild, evIndex, evBuiltin, evBuildSlice, evNilCheck, ibin, blkRead, mkAgg, mkTup, mapO, AV.pure?, setAt, afill, parts, calleeOf, tell, scalar, scalarL, frz, norm, normL, ids, Go.Ev.mark, deep, evResults, evResult, aggCells, partA, List.getElem?_cons_zero, List.getElem?_cons_succ, List.getElem?_nil, List.map_cons, List.map_nil, List.all_cons, List.all_nil, Bool.and_true, Bool.true_and, Bool.and_false, Bool.false_and, Bool.and_self, Bool.not_true, Bool.not_false, Bool.or_true, Bool.or_false, Bool.false_or, Bool.true_or, List.set, List.length_cons, List.length_nil, List.nil_append, List.cons_append, List.append_nil, Nat.reduceAdd, Nat.reduceSub, Nat.reduceMul, Nat.reduceLeDiff, Nat.zero_add, Nat.reduceEqDiff, List.replicate, List.drop, List.take, List.flatMap_cons, List.flatMap_nil, List.foldl_nil, List.foldl_cons, decide_true, decide_false, and_self, and_true, true_and, BEq.rfl, beq_self_eq_true, Option.map_some, Option.map_none, Option.bind_some, Option.bind_none, List.getElem?_toArray, Option.isSome_some, Option.isSome_none, beqs, ne_eq, not_true_eq_false, not_false_eq_true, false_or, or_false, or_self, Nat.reduceLT, false_and, and_false, List.nil_append, evEq, eqc, optO, rs_P, show Try.f32.results = #[.tmp 4] from rfl, hv, cmpN, Nat.lt_irrefl]
    · rw [h2]
      simp only [evRegion, Bool.false_eq_true, if_false, if_true, reduceIte, evOps, evStep, wantedA, evOp, opv, putA, ret1, ofVal, ofVal1, cellsOf, AV.isCell, clean, evFieldAddr, evField, evBin, evUn, evExtract, evBuild, evIndex, evBuiltin, evBuildSlice, evNilCheck, ibin, blkRead, mkAgg, mkTup, mapO, AV.pure?, setAt, afill, parts, calleeOf, tell, scalar, scalarL, frz, norm, normL, ids, Go.Ev.mark, deep, evResults, evResult, aggCells, partA, List.getElem?_cons_zero, List.getElem?_cons_succ, List.getElem?_nil, List.map_cons, List.map_nil, List.all_cons, List.all_nil, Bool.and_true, Bool.true_and, Bool.and_false, Bool.false_and, Bool.and_self, Bool.not_true, Bool.not_false, Bool.or_true, Bool.or_false, Bool.false_or, Bool.true_or, List.set, List.length_cons, List.length_nil, List.nil_append, List.cons_append, List.append_nil, Nat.reduceAdd, Nat.reduceSub, Nat.reduceMul, Nat.reduceLeDiff, Nat.zero_add, Nat.reduceEqDiff, List.replicate, List.drop, List.take, List.flatMap_cons, List.flatMap_nil, List.foldl_nil, List.foldl_cons, decide_true, decide_false, and_self, and_true, true_and, BEq.rfl, beq_self_eq_true, Option.map_some, Option.map_none, Option.bind_some, Option.bind_none, List.getElem?_toArray, Option.isSome_some, Option.isSome_none, beqs, ne_eq, not_true_eq_false, not_false_eq_true, false_or, or_false, or_self, Nat.reduceLT, false_and, and_false, List.nil_append, evEq, eqc, optO, rs_P, show Try.f32.results = #[.tmp 4] from rfl, h1]
  · rw [if_neg hl]
    have hne : ((a.length : Int) != (b.length : Int)) = true := by simp; omega
    rw [WC_cond]
    simp only [evRegion, Bool.false_eq_true, if_false, if_true, reduceIte, evOps, evStep, wantedA, evOp, opv, putA, ret1, ofVal, ofVal1, cellsOf, AV.isCell, clean, evFieldAddr, evField, evBin, evUn, evExtract, evBuild, evIndex, evBuiltin, evBuildSlice, evNilCheck, ibin, blkRead, mkAgg, mkTup, mapO, AV.pure?, setAt, afill, parts, calleeOf, tell, scalar, scalarL, frz, norm, normL, ids, Go.Ev.mark, deep, evResults, evResult, aggCells, partA, List.getElem?_cons_zero, List.getElem?_cons_succ, List.getElem?_nil, List.map_cons, List.map_nil, List.all_cons, List.all_nil, Bool.and_true, Bool.true_and, Bool.and_false, Bool.false_and, Bool.and_self, Bool.not_true, Bool.not_false, Bool.or_true, Bool.or_false, Bool.false_or, Bool.true_or, List.set, List.length_cons, List.length_nil, List.nil_append, List.cons_append, List.append_nil, Nat.reduceAdd, Nat.reduceSub, Nat.reduceMul, Nat.reduceLeDiff, Nat.zero_add, Nat.reduceEqDiff, List.replicate, List.drop, List.take, List.flatMap_cons, List.flatMap_nil, List.foldl_nil, List.foldl_cons, decide_true, decide_false, and_self, and_true, true_and, BEq.rfl, beq_self_eq_true, Option.map_some, Option.map_none, Option.bind_some, Option.bind_none, List.getElem?_toArray, Option.isSome_some, Option.isSome_none, beqs, ne_eq, not_true_eq_false, not_false_eq_true, false_or, or_false, or_self, Nat.reduceLT, false_and, and_false, List.nil_append, evEq, eqc, optO, hne]
    by_cases hlt : a.length < b.length
    · have hd : decide ((a.length : Int) < (b.length : Int)) = true := by simp; omega
      rw [if_pos hlt]
      simp only [WC_seq, WC_region, WC_cond, WC_skip, WC_ret, evRegion, Bool.false_eq_true, if_false, if_true, reduceIte, evOps, evStep, wantedA, evOp, opv, putA, ret1, ofVal, ofVal1, cellsOf, AV.isCell, clean, evFieldAddr, evField, evBin, evUn, evExtract, evBuild, evIndex, evBuiltin, evBuildSlice, evNilCheck, ibin, blkRead, mkAgg, mkTup, mapO, AV.pure?, setAt, afill, parts, calleeOf, tell, scalar, scalarL, frz, norm, normL, ids, Go.Ev.mark, deep, evResults, evResult, aggCells, partA, List.getElem?_cons_zero, List.getElem?_cons_succ, List.getElem?_nil, List.map_cons, List.map_nil, List.all_cons, List.all_nil, Bool.and_true, Bool.true_and, Bool.and_false, Bool.false_and, Bool.and_self, Bool.not_true, Bool.not_false, Bool.or_true, Bool.or_false, Bool.false_or, Bool.true_or, List.set, List.length_cons, List.length_nil, List.nil_append, List.cons_append, List.append_nil, Nat.reduceAdd, Nat.reduceSub, Nat.reduceMul, Nat.reduceLeDiff, Nat.zero_add, Nat.reduceEqDiff, List.replicate, List.drop, List.take, List.flatMap_cons, List.flatMap_nil, List.foldl_nil, List.foldl_cons, decide_true, decide_false, and_self, and_true, true_and, BEq.rfl, beq_self_eq_true, Option.map_some, Option.map_none, Option.bind_some, Option.bind_none, List.getElem?_toArray, Option.isSome_some, Option.isSome_none, beqs, ne_eq, not_true_eq_false, not_false_eq_true, false_or, or_false, or_self, Nat.reduceLT, false_and, and_false, List.nil_append, evEq, eqc, optO, rs_P, len32 rs_P, hd, show Try.f32.results = #[.tmp 4] from rfl]
    · have hd : decide ((a.length : Int) < (b.length : Int)) = false := by simp; omega
      rw [if_neg hlt]
      simp only [WC_seq, WC_region, WC_cond, WC_skip, WC_ret, evRegion, Bool.false_eq_true, if_false, if_true, reduceIte, evOps, evStep, wantedA, evOp, opv, putA, ret1, ofVal, ofVal1, cellsOf, AV.isCell, clean, evFieldAddr, evField, evBin, evUn, evExtract, evBuild, evIndex, evBuiltin, evBuildSlice, evNilCheck, ibin, blkRead, mkAgg, mkTup, mapO, AV.pure?, setAt, afill, parts, calleeOf, tell, scalar, scalarL, frz, norm, normL, ids, Go.Ev.mark, deep, evResults, evResult, aggCells, partA, List.getElem?_cons_zero, List.getElem?_cons_succ, List.getElem?_nil, List.map_cons, List.map_nil, List.all_cons, List.all_nil, Bool.and_true, Bool.true_and, Bool.and_false, Bool.false_and, Bool.and_self, Bool.not_true, Bool.not_false, Bool.or_true, Bool.or_false, Bool.false_or, Bool.true_or, List.set, List.length_cons, List.length_nil, List.nil_append, List.cons_append, List.append_nil, Nat.reduceAdd, Nat.reduceSub, Nat.reduceMul, Nat.reduceLeDiff, Nat.zero_add, Nat.reduceEqDiff, List.replicate, List.drop, List.take, List.flatMap_cons, List.flatMap_nil, List.foldl_nil, List.foldl_cons, decide_true, decide_false, and_self, and_true, true_and, BEq.rfl, beq_self_eq_true, Option.map_some, Option.map_none, Option.bind_some, Option.bind_none, List.getElem?_toArray, Option.isSome_some, Option.isSome_none, beqs, ne_eq, not_true_eq_false, not_false_eq_true, false_or, or_false, or_self, Nat.reduceLT, false_and, and_false, List.nil_append, evEq, eqc, optO, rs_P, len32 rs_P, hd, show Try.f32.results = #[.tmp 4] from rfl]
end Go.Proofs
set_option linter.unusedSimpArgs false
set_option linter.unusedVariables false
namespace Go.Proofs
open Go.Ev Go.Mx
theorem wrapu64 (x : Int) : IntKind.u64.wrap x = x % 18446744073709551616 := by
  unfold IntKind.wrap
  simp only [IntKind.bits, IntKind.signed, Bool.false_and]
  rfl
theorem wrapu32 (x : Int) : IntKind.u32.wrap x = x % 4294967296 := by
  unfold IntKind.wrap
  simp only [IntKind.bits, IntKind.signed, Bool.false_and]
  rfl
theorem w64 {x : Nat} (h : x < 18446744073709551616) : IntKind.u64.wrap (x : Int) = (x : Int) := wrap_u64 (by omega) (by omega)
theorem shl64 {x n : Nat} (hn : n < 64) (h : x * 2 ^ n < 18446744073709551616) : ishift .shl .u64 (x : Int) (n : Int) = some (.int .u64 ((x * 2 ^ n : Nat) : Int)) := by
  unfold ishift
  rw [if_neg (by omega)]
  have e : min (Int.toNat (n : Int)) IntKind.u64.bits = n := by
    show min (Int.toNat (n : Int)) 64 = n
    omega
  simp only [e]
  have : (x : Int) * 2 ^ n = ((x * 2 ^ n : Nat) : Int) := by push_cast; rfl
  rw [this, w64 h]
theorem shr64 {x n : Nat} (hn : n < 64) : ishift .shr .u64 (x : Int) (n : Int) = some (.int .u64 ((x / 2 ^ n : Nat) : Int)) := by
  unfold ishift
  rw [if_neg (by omega)]
  have e : min (Int.toNat (n : Int)) IntKind.u64.bits = n := by
    show min (Int.toNat (n : Int)) 64 = n
    omega
  simp only [e]
  have : (2 : Int) ^ n = ((2 ^ n : Nat) : Int) := by push_cast; rfl
  rw [this, Int.fdiv_eq_ediv_of_nonneg _ (Int.natCast_nonneg _)]
  rfl
theorem or64 {x y : Nat} (hx : x < 18446744073709551616) (hy : y < 18446744073709551616) : ibin .or .u64 (x : Int) (y : Int) = some (.int .u64 ((x ||| y : Nat) : Int)) := by
  have e : (BitVec.ofInt 64 (x : Int) ||| BitVec.ofInt 64 (y : Int)).toNat = x ||| y := by
    simp only [BitVec.toNat_or, BitVec.ofInt_natCast, BitVec.toNat_ofNat]
    rw [Nat.mod_eq_of_lt (by omega), Nat.mod_eq_of_lt (by omega)]
  have hl : x ||| y < 18446744073709551616 := Nat.or_lt_two_pow (n := 64) hx hy
  show some (PV.int .u64 (IntKind.u64.wrap ((BitVec.ofInt 64 (x : Int) ||| BitVec.ofInt 64 (y : Int)).toNat))) = _
  rw [e, w64 hl]
theorem or32 {x y : Nat} (hx : x < 4294967296) (hy : y < 4294967296) : ibin .or .u32 (x : Int) (y : Int) = some (.int .u32 ((x ||| y : Nat) : Int)) := by
  have e : (BitVec.ofInt 32 (x : Int) ||| BitVec.ofInt 32 (y : Int)).toNat = x ||| y := by
    simp only [BitVec.toNat_or, BitVec.ofInt_natCast, BitVec.toNat_ofNat]
    rw [Nat.mod_eq_of_lt (by omega), Nat.mod_eq_of_lt (by omega)]
  have hl : x ||| y < 4294967296 := Nat.or_lt_two_pow (n := 32) hx hy
  show some (PV.int .u32 (IntKind.u32.wrap ((BitVec.ofInt 32 (x : Int) ||| BitVec.ofInt 32 (y : Int)).toNat))) = _
  rw [e, wrapu32, Int.emod_eq_of_lt (by omega) (by omega)]
theorem and64 {x y : Nat} (hx : x < 18446744073709551616) (hy : y < 18446744073709551616) : ibin .and .u64 (x : Int) (y : Int) = some (.int .u64 ((x &&& y : Nat) : Int)) := by
  have e : (BitVec.ofInt 64 (x : Int) &&& BitVec.ofInt 64 (y : Int)).toNat = x &&& y := by
    simp only [BitVec.toNat_and, BitVec.ofInt_natCast, BitVec.toNat_ofNat]
    rw [Nat.mod_eq_of_lt (by omega), Nat.mod_eq_of_lt (by omega)]
  have hl : x &&& y < 18446744073709551616 := Nat.and_lt_two_pow (n := 64) x hy
  show some (PV.int .u64 (IntKind.u64.wrap ((BitVec.ofInt 64 (x : Int) &&& BitVec.ofInt 64 (y : Int)).toNat))) = _
  rw [e, w64 hl]
theorem or_add {x y n : Nat} (h : y < 2 ^ n) : (x * 2 ^ n) ||| y = x * 2 ^ n + y := by
  have := Nat.shiftLeft_add_eq_or_of_lt h x
  rw [Nat.shiftLeft_eq] at this
  exact this.symm
theorem and_low (x : Nat) : x &&& 4294967295 = x % LB := Nat.and_two_pow_sub_one_eq_mod x 32
/-! ### Any own block -/
theorem ldG {H : List ABlk} {id ver j : Nat} {fz : Bool} {o : List Nat} (hH : H[id]? = some ⟨ver, fz, lb o⟩) (h : j < o.length) : evLoad Try.prog 25 (.pt id ver j) H = some (.p (pu (o.getD j 0))) := by
  have hb : blkRead H id ver j 1 = some [.p (pu (o.getD j 0))] := by
    unfold blkRead
    rw [hH]
    simp only [lb, List.length_map, true_and]
    rw [if_pos (by omega)]
    congr 1
    rw [← List.map_drop, ← List.map_take]
    have : (o.drop j).take 1 = [o.getD j 0] := by
      rw [List.drop_eq_getElem_cons h, List.take_succ_cons, List.take_zero, List.getD_eq_getElem?_getD, List.getElem?_eq_getElem h]
      rfl
    rw [this]
    rfl
  simp only [evLoad, rs_T, hb]
theorem setAt_lb {o : List Nat} {j z : Nat} : setAt (lb o) j [.p (pu z)] = lb (o.set j z) := by
  show (lb o).set j (.p (pu z)) = _
  simp only [lb, List.map_set]
theorem stG {H : List ABlk} {id ver j z : Nat} {o : List Nat} (hH : H[id]? = some ⟨ver, false, lb o⟩) (h : j < o.length) : evStore Try.prog 25 (.pt id ver j) (.p (.int .u32 (z : Int))) H = some (H.set id ⟨ver, false, lb (o.set j z)⟩) := by
  have e := setAt_lb (o := o) (j := j) (z := z)
  have hl : (lb o).length = o.length := by simp [lb]
  simp only [evStore, rs_T, cellsOf, AV.isCell, if_true]
  split
  · rename_i hx; rw [hH] at hx; cases hx
  · rename_i B hB
    rw [hH] at hB
    cases hB
    rw [if_pos ⟨rfl, rfl, rfl, by simp only [hl]; omega⟩]
    exact congrArg (fun c => some (H.set id ⟨ver, false, c⟩)) e
end Go.Proofs
set_option linter.unusedSimpArgs false
set_option linter.unusedVariables false
namespace Go.Proofs
open Go.Ev Go.Mx
theorem rs_lv48 : rsC.lv 48 = [true, true, false, false, true, true, true, true, false, false, false, false, false, false, false, true, false, false, false, false, false, false, false, false, false, false, false, false, false, false, false, false, false, false, false, false, false, false, false, false, false, false, false] := by kernel_rfl
theorem or64b {x y : Nat} (hx : x < 18446744073709551616) (hy : y < 18446744073709551616) : ibits IntKind.u64 (BitVec.ofInt IntKind.u64.bits (x : Int) ||| BitVec.ofInt IntKind.u64.bits (y : Int)) = some (.int .u64 ((x ||| y : Nat) : Int)) := or64 hx hy
theorem or32b {x y : Nat} (hx : x < 4294967296) (hy : y < 4294967296) : ibits IntKind.u32 (BitVec.ofInt IntKind.u32.bits (x : Int) ||| BitVec.ofInt IntKind.u32.bits (y : Int)) = some (.int .u32 ((x ||| y : Nat) : Int)) := or32 hx hy
theorem and64b {x y : Nat} (hx : x < 18446744073709551616) (hy : y < 18446744073709551616) : ibits IntKind.u64 (BitVec.ofInt IntKind.u64.bits (x : Int) &&& BitVec.ofInt IntKind.u64.bits (y : Int)) = some (.int .u64 ((x &&& y : Nat) : Int)) := and64 hx hy
theorem split_mul (s P : Nat) : s % LB * P + s / LB * (P * LB) = s * P := by
  have h' := congrArg (· * P) (Nat.div_add_mod s LB)
  simp only [Nat.add_mul] at h'
  have e : s / LB * (P * LB) = LB * (s / LB) * P := by simp only [Nat.mul_comm, Nat.mul_left_comm, Nat.mul_assoc]
  omega
theorem inext {k : Nat} (h : k ≤ 100000000) : IntKind.i64.wrap ((k : Int) + 1) = ((k + 1 : Nat) : Int) := by rw [wrap_i64 (by omega) (by omega)]; omega
theorem getD_set_ne {o : List Nat} {j k z : Nat} (h : k ≠ j) : (o.set k z).getD j 0 = o.getD j 0 := by
  rw [List.getD_eq_getElem?_getD, List.getElem?_set_ne h, ← List.getD_eq_getElem?_getD]
theorem getD_set_eq {o : List Nat} {k z : Nat} (h : k < o.length) : (o.set k z).getD k 0 = z := by
  rw [List.getD_eq_getElem?_getD, List.getElem?_set_self h]
  rfl
/-- What a limb moved up leaves of it. -/
theorem or_low {x y n : Nat} (hn : n < 32) (hy : y < 2 ^ n) : y ||| (x * 2 ^ n % LB) = x * 2 ^ n % LB + y := by
  have e : x * 2 ^ n % LB = x % 2 ^ (32 - n) * 2 ^ n := by
    have : LB = 2 ^ (32 - n) * 2 ^ n := by rw [← Nat.pow_add]; show LB = 2 ^ (32 - n + n); rw [show 32 - n + n = 32 by omega]; rfl
    rw [this, Nat.mul_mod_mul_right]
  rw [e, Nat.or_comm, or_add hy]
set_option maxRecDepth 100000 in
set_option maxHeartbeats 4000000 in
theorem rs_shifted (a : List Nat) (ha : Limbs a) (hla : a.length ≤ 100000) (n : Nat) (hn : n < 32) : ∃ o : List Nat, W rsC 48 [.p (N32 a), .p (.int .u64 (n : Int))] [] = some (.ms 0 0 0 (a.length + 1) 1, [⟨0, false, lb o⟩]) ∧ Limbs o ∧ o.length = a.length + 1 ∧ val o = val a * 2 ^ n := by
  rw [W_fin (show rsC.md 48 < 9 by decide) Try.func48 rfl]
  rw [show Try.f48.ntmps = 43 from rfl, rs_lv48]
  simp only [N32, List.map_cons, List.map_nil, List.length_cons, List.length_nil, Nat.reduceAdd, Nat.reduceSub, List.replicate, List.cons_append, List.nil_append]
  have hm1 := inext (k := a.length) (by omega)
  obtain ⟨L, hL⟩ : ∃ L, L = a.length + 1 := ⟨_, rfl⟩
  rw [← hL] at hm1 ⊢
  simp only [WC_seq, WC_region, WC_cond, WC_exit, WC_skip, WC_block, WC_ret, evRegion, Bool.false_eq_true, if_false, if_true, reduceIte, evOps, evStep, wantedA, evOp, opv, putA, ret1, ofVal, ofVal1, cellsOf, AV.isCell, clean, evFieldAddr, evField, evBin, evUn, evExtract, evBuild, evIndex, evBuiltin, evBuildSlice, evNilCheck, ibin, blkRead, mkAgg, mkTup, mapO, AV.pure?, setAt, afill, parts, calleeOf, tell, scalar, scalarL, frz, norm, normL, ids, Go.Ev.mark, deep, evResults, evResult, aggCells, partA, List.getElem?_cons_zero, List.getElem?_cons_succ, List.getElem?_nil, List.map_cons, List.map_nil, List.all_cons, List.all_nil, Bool.and_true, Bool.true_and, Bool.and_false, Bool.false_and, Bool.and_self, Bool.not_true, Bool.not_false, Bool.or_true, Bool.or_false, Bool.false_or, Bool.true_or, List.set, List.length_cons, List.length_nil, List.nil_append, List.cons_append, List.append_nil, Nat.reduceAdd, Nat.reduceSub, Nat.reduceMul, Nat.reduceLeDiff, Nat.zero_add, Nat.reduceEqDiff, List.replicate, List.drop, List.take, List.flatMap_cons, List.flatMap_nil, List.foldl_nil, List.foldl_cons, decide_true, decide_false, and_self, and_true, true_and, BEq.rfl, beq_self_eq_true, Option.map_some, Option.map_none, Option.bind_some, Option.bind_none, List.getElem?_toArray, Option.isSome_some, Option.isSome_none, beqs, ne_eq, not_true_eq_false, not_false_eq_true, false_or, or_false, or_self, Nat.reduceLT, false_and, and_false, List.nil_append, evEq, eqc, optO, flags0, flags1, rs_P, len32 rs_P, hm1, mk32 (n := L) (by omega)]
  generalize hI : (Code.loop _ : Code) = I
  have inner : ∀ (m k : Nat) (o : List Nat) (t7 t15 : AV), k + m = a.length → o.length = L → Limbs o → val o = val (a.take k) * 2 ^ n → o.getD k 0 < 2 ^ n → (∀ j, k < j → o.getD j 0 = 0) → ∃ (o' : List Nat) (t7' t15' : AV),
      WC rsC [true, true, false, false, true, true, true, true, false, false, false, false, false, false, false, true, false, false, false, false, false, false, false, false, false, false, false, false, false, false, false, false, false, false, false, false, false, false, false, false, false, false, false] I ⟨[.p (.sl a.length false (a.map pu)), .p (.int .u64 (n : Int)), .p .any, .p .any, .p (.nsl true), .ms 0 0 0 L 1, .p (.int .i64 (k : Int)), t7, .p .any, .p .any, .p .any, .p .any, .p .any, .p .any, .p .any, t15, .p .any, .p .any, .p .any, .p .any, .p .any, .p .any, .p .any, .p .any, .p .any, .p .any, .p .any, .p .any, .p .any, .p .any, .p .any, .p .any, .p .any, .p .any, .p .any, .p .any, .p .any, .p .any, .p .any, .p .any, .p .any, .p .any, .p .any], [⟨0, false, lb o⟩]⟩ = some (.exit 0, ⟨[.p (.sl a.length false (a.map pu)), .p (.int .u64 (n : Int)), .p .any, .p .any, .p (.nsl true), .ms 0 0 0 L 1, .p (.int .i64 (a.length : Int)), t7', .p .any, .p .any, .p .any, .p .any, .p .any, .p .any, .p .any, t15', .p .any, .p .any, .p .any, .p .any, .p .any, .p .any, .p .any, .p .any, .p .any, .p .any, .p .any, .p .any, .p .any, .p .any, .p .any, .p .any, .p .any, .p .any, .p .any, .p .any, .p .any, .p .any, .p .any, .p .any, .p .any, .p .any, .p .any], [⟨0, false, lb o'⟩]⟩) ∧ o'.length = L ∧ Limbs o' ∧ val o' = val a * 2 ^ n := by
    intro m
    induction m with
    | zero =>
      intro k o t7 t15 hk ho hlo hv hy hz
      have hkb : k = a.length := by omega
      subst hkb
      have hlt : decide ((a.length : Int) < (a.length : Int)) = false := by simp
      refine ⟨o, t7, .p (.bool false), ?_, ho, hlo, by rw [hv, List.take_of_length_le (Nat.le_refl _)]⟩
      rw [← hI, WC_loop, hI]
      simp only [WC_seq, WC_region, WC_cond, WC_exit, WC_skip, WC_block, WC_ret, evRegion, Bool.false_eq_true, if_false, if_true, reduceIte, evOps, evStep, wantedA, evOp, opv, putA, ret1, ofVal, ofVal1, cellsOf, AV.isCell, clean, evFieldAddr, evField, evBin, evUn, evExtract, evBuild, evIndex, evBuiltin, evBuildSlice, evNilCheck, ibin, blkRead, mkAgg, mkTup, mapO, AV.pure?, setAt, afill, parts, calleeOf, tell, scalar, scalarL, frz, norm, normL, ids, Go.Ev.mark, deep, evResults, evResult, aggCells, partA, List.getElem?_cons_zero, List.getElem?_cons_succ, List.getElem?_nil, List.map_cons, List.map_nil, List.all_cons, List.all_nil, Bool.and_true, Bool.true_and, Bool.and_false, Bool.false_and, Bool.and_self, Bool.not_true, Bool.not_false, Bool.or_true, Bool.or_false, Bool.false_or, Bool.true_or, List.set, List.length_cons, List.length_nil, List.nil_append, List.cons_append, List.append_nil, Nat.reduceAdd, Nat.reduceSub, Nat.reduceMul, Nat.reduceLeDiff, Nat.zero_add, Nat.reduceEqDiff, List.replicate, List.drop, List.take, List.flatMap_cons, List.flatMap_nil, List.foldl_nil, List.foldl_cons, decide_true, decide_false, and_self, and_true, true_and, BEq.rfl, beq_self_eq_true, Option.map_some, Option.map_none, Option.bind_some, Option.bind_none, List.getElem?_toArray, Option.isSome_some, Option.isSome_none, beqs, ne_eq, not_true_eq_false, not_false_eq_true, false_or, or_false, or_self, Nat.reduceLT, false_and, and_false, List.nil_append, evEq, eqc, optO, flags0, flags1, rs_P, len32 rs_P, hlt]
    | succ m ih =>
      intro k o t7 t15 hkm ho hlo hv hy hz
      have hk : k < a.length := by omega
      have hlt := ilt_t hk
      have hj : k < o.length := by omega
      have hj1 : k + 1 < o.length := by omega
      have hkL : k < L := by omega
      have hkL1 : k + 1 < L := by omega
      have hx := limbs_getD ha k
      have hva := val_take_succ a k hk
      have hix := ix32 (x := false) hk
      have hld := ld32 (H := [⟨0, false, lb o⟩]) hk
      generalize hxx : a.getD k 0 = x at *
      have hLB : LB = 4294967296 := rfl
      have h2n : 2 ^ n ≤ 2 ^ 31 := Nat.pow_le_pow_right (by decide) (by omega)
      have hxs : x * 2 ^ n < LB * 2 ^ n := Nat.mul_lt_mul_of_pos_right hx (Nat.two_pow_pos n)
      have hxs2 : LB * 2 ^ n ≤ LB * 2 ^ 31 := Nat.mul_le_mul_left _ h2n
      have hp31 : (2 : Nat) ^ 31 = 2147483648 := by decide
      rw [hp31] at h2n hxs2
      have hw1 := w64 (x := x) (by omega)
      have hshl := shl64 (x := x) (n := n) (by omega) (by omega)
      have hor := or32b (x := o.getD k 0) (y := x * 2 ^ n % LB) (by omega) (by have := Nat.mod_lt (x * 2 ^ n) (show LB > 0 by decide); omega)
      rw [or_low hn hy] at hor
      have hsr := shr32 (x * 2 ^ n)
      have hq : x * 2 ^ n / LB < 2 ^ n := Nat.div_lt_of_lt_mul hxs
      have hw2 := wrap_u32 (x * 2 ^ n / LB)
      rw [Nat.mod_eq_of_lt (by omega)] at hw2
      have hk1 := inext (k := k) (by omega)
      obtain ⟨o1, ho1⟩ : ∃ o1, o1 = o.set k (x * 2 ^ n % LB + o.getD k 0) := ⟨_, rfl⟩
      have hz1 : x * 2 ^ n % LB + o.getD k 0 < LB := by
        rw [← or_low hn hy]
        exact Nat.or_lt_two_pow (n := 32) (by omega) (Nat.mod_lt _ (by decide))
      have hj2 : k + 1 < o1.length := by rw [ho1, List.length_set]; omega
      have hl1 : Limbs o1 := by rw [ho1]; exact limbs_set hlo hz1
      have hst1 := stms1 (ver := 0) (j := k) (z := x * 2 ^ n % LB + o.getD k 0) (o := o) hj
      rw [← ho1] at hst1
      have hst2 := stms1 (ver := 0) (j := k + 1) (z := x * 2 ^ n / LB) (o := o1) hj2
      have hv1 := val_set o k (x * 2 ^ n % LB + o.getD k 0) hj
      rw [← ho1] at hv1
      have hv2 := val_set o1 (k + 1) (x * 2 ^ n / LB) hj2
      have hg1 : o1.getD (k + 1) 0 = 0 := by rw [ho1, getD_set_ne (by omega), hz _ (by omega)]
      rw [hg1] at hv2
      obtain ⟨o', t7', t15', h1, h2, h3, h4⟩ := ih (k + 1) (o1.set (k + 1) (x * 2 ^ n / LB)) (.p (.int .u64 ((x * 2 ^ n : Nat) : Int))) (.p (.bool true)) (by omega) (by rw [List.length_set, ho1, List.length_set]; exact ho) (limbs_set hl1 (by omega)) (by
        rw [hva, Nat.add_mul]
        rw [Nat.pow_succ] at hv2
        have hs := split_mul (x * 2 ^ n) (LB ^ k)
        rw [Nat.add_mul] at hv1
        have e : x * LB ^ k * 2 ^ n = x * 2 ^ n * LB ^ k := Nat.mul_right_comm _ _ _
        omega) (by rw [getD_set_eq hj2]; exact hq) (fun j hj => by rw [getD_set_ne (by omega), ho1, getD_set_ne (by omega), hz _ (by omega)])
      refine ⟨o', t7', t15', ?_, h2, h3, h4⟩
      rw [← hI, WC_loop, hI]
      simp only [WC_seq, WC_region, WC_cond, WC_exit, WC_skip, WC_block, WC_ret, evRegion, Bool.false_eq_true, if_false, if_true, reduceIte, evOps, evStep, wantedA, evOp, opv, putA, ret1, ofVal, ofVal1, cellsOf, AV.isCell, clean, evFieldAddr, evField, evBin, evUn, evExtract, evBuild, evIndex, evBuiltin, evBuildSlice, evNilCheck, ibin, blkRead, mkAgg, mkTup, mapO, AV.pure?, setAt, afill, parts, calleeOf, tell, scalar, scalarL, frz, norm, normL, ids, Go.Ev.mark, deep, evResults, evResult, aggCells, partA, List.getElem?_cons_zero, List.getElem?_cons_succ, List.getElem?_nil, List.map_cons, List.map_nil, List.all_cons, List.all_nil, Bool.and_true, Bool.true_and, Bool.and_false, Bool.false_and, Bool.and_self, Bool.not_true, Bool.not_false, Bool.or_true, Bool.or_false, Bool.false_or, Bool.true_or, List.set, List.length_cons, List.length_nil, List.nil_append, List.cons_append, List.append_nil, Nat.reduceAdd, Nat.reduceSub, Nat.reduceMul, Nat.reduceLeDiff, Nat.zero_add, Nat.reduceEqDiff, List.replicate, List.drop, List.take, List.flatMap_cons, List.flatMap_nil, List.foldl_nil, List.foldl_cons, decide_true, decide_false, and_self, and_true, true_and, BEq.rfl, beq_self_eq_true, Option.map_some, Option.map_none, Option.bind_some, Option.bind_none, List.getElem?_toArray, Option.isSome_some, Option.isSome_none, beqs, ne_eq, not_true_eq_false, not_false_eq_true, false_or, or_false, or_self, Nat.reduceLT, false_and, and_false, List.nil_append, evEq, eqc, optO, flags0, flags1, rs_P, len32 rs_P, hlt, hix, hld, pu, mulConv, hw1, hshl, ixms hkL, ixms hkL1, Nat.zero_add, ldms1 hj, hor, wrap_u32 (x * 2 ^ n), hst1, hst2, hsr, hw2, hk1]
      exact h1
  obtain ⟨o', t7', t15', k1, k2, k3, k4⟩ := inner a.length 0 (List.replicate L 0) (.p .und) (.p .und) (by omega) (by simp)
    (fun x hx => by rw [List.eq_of_mem_replicate hx]; decide) (by simp [val_zeros, val]) (by
      have : (List.replicate L 0).getD 0 0 = 0 := by simp [List.getD_eq_getElem?_getD, List.getElem?_replicate]; split <;> rfl
      rw [this]; exact Nat.two_pow_pos n) (fun j _ => by simp [List.getD_eq_getElem?_getD, List.getElem?_replicate]; split <;> rfl)
  simp only [Int.natCast_zero, Int.cast_ofNat_Int] at k1
  refine ⟨o', ?_, k3, k2, k4⟩
  rw [k1]
  simp only [WC_seq, WC_region, WC_cond, WC_exit, WC_skip, WC_block, WC_ret, evRegion, Bool.false_eq_true, if_false, if_true, reduceIte, evOps, evStep, wantedA, evOp, opv, putA, ret1, ofVal, ofVal1, cellsOf, AV.isCell, clean, evFieldAddr, evField, evBin, evUn, evExtract, evBuild, evIndex, evBuiltin, evBuildSlice, evNilCheck, ibin, blkRead, mkAgg, mkTup, mapO, AV.pure?, setAt, afill, parts, calleeOf, tell, scalar, scalarL, frz, norm, normL, ids, Go.Ev.mark, deep, evResults, evResult, aggCells, partA, List.getElem?_cons_zero, List.getElem?_cons_succ, List.getElem?_nil, List.map_cons, List.map_nil, List.all_cons, List.all_nil, Bool.and_true, Bool.true_and, Bool.and_false, Bool.false_and, Bool.and_self, Bool.not_true, Bool.not_false, Bool.or_true, Bool.or_false, Bool.false_or, Bool.true_or, List.set, List.length_cons, List.length_nil, List.nil_append, List.cons_append, List.append_nil, Nat.reduceAdd, Nat.reduceSub, Nat.reduceMul, Nat.reduceLeDiff, Nat.zero_add, Nat.reduceEqDiff, List.replicate, List.drop, List.take, List.flatMap_cons, List.flatMap_nil, List.foldl_nil, List.foldl_cons, decide_true, decide_false, and_self, and_true, true_and, BEq.rfl, beq_self_eq_true, Option.map_some, Option.map_none, Option.bind_some, Option.bind_none, List.getElem?_toArray, Option.isSome_some, Option.isSome_none, beqs, ne_eq, not_true_eq_false, not_false_eq_true, false_or, or_false, or_self, Nat.reduceLT, false_and, and_false, List.nil_append, evEq, eqc, optO, flags0, flags1, rs_P, fin, show Try.f48.results = #[.tmp 4] from rfl]
end Go.Proofs
set_option linter.unusedSimpArgs false
set_option linter.unusedVariables false
namespace Go.Proofs
open Go.Ev Go.Mx
/-! Steps that the kernel need not look through. -/
theorem ops_n {C : Cfg} {call : CallE} {st : Bool} {ops : Array Oper} {S : St} : evOps C call st ops [] S = some S := rfl
theorem ops_c {C : Cfg} {call : CallE} {st : Bool} {ops : Array Oper} {o : Oper} {os : List Oper} {S : St} : evOps C call st ops (o :: os) S = (evStep C call st ops o S).bind (evOps C call st ops os) := by
  simp only [evOps]
  cases evStep C call st ops o S <;> rfl
def thn (r : Option (Ex × St)) (f : St → Option (Ex × St)) : Option (Ex × St) := match r with
  | some (.normal, S1) => f S1
  | r => r
theorem thn_normal {S : St} {f : St → Option (Ex × St)} : thn (some (.normal, S)) f = f S := rfl
theorem thn_ret {S : St} {f : St → Option (Ex × St)} : thn (some (.ret, S)) f = some (.ret, S) := rfl
theorem thn_exit {S : St} {n : Nat} {f : St → Option (Ex × St)} : thn (some (.exit n, S)) f = some (.exit n, S) := rfl
theorem seqT {C : Cfg} {lv : List Bool} {a b : Code} {S : St} : WC C lv (.seq a b) S = thn (WC C lv a S) (WC C lv b) := WC_seq ..
variable {P : Program} {t : TypeId} {k : IntKind} {a b : Int}
theorem b_add : evBin P .add t (.p (.int k a)) (.p (.int k b)) = some (.p (.int k (k.wrap (a + b)))) := by simp [evBin, ibin]
theorem b_sub : evBin P .sub t (.p (.int k a)) (.p (.int k b)) = some (.p (.int k (k.wrap (a - b)))) := by simp [evBin, ibin]
theorem b_mul : evBin P .mul t (.p (.int k a)) (.p (.int k b)) = some (.p (.int k (k.wrap (a * b)))) := by simp [evBin, ibin]
theorem b_eql : evBin P .eql t (.p (.int k a)) (.p (.int k b)) = some (.p (.bool (a == b))) := by simp [evBin, ibin]
theorem b_neq : evBin P .neq t (.p (.int k a)) (.p (.int k b)) = some (.p (.bool (a != b))) := by simp [evBin, ibin]
theorem b_lss : evBin P .lss t (.p (.int k a)) (.p (.int k b)) = some (.p (.bool (decide (a < b)))) := by simp [evBin, ibin]
theorem b_leq : evBin P .leq t (.p (.int k a)) (.p (.int k b)) = some (.p (.bool (decide (a ≤ b)))) := by simp [evBin, ibin]
theorem b_gtr : evBin P .gtr t (.p (.int k a)) (.p (.int k b)) = some (.p (.bool (decide (a > b)))) := by simp [evBin, ibin]
theorem b_geq : evBin P .geq t (.p (.int k a)) (.p (.int k b)) = some (.p (.bool (decide (a ≥ b)))) := by simp [evBin, ibin]
theorem b_quo {a b : Nat} (hb : b ≠ 0) (ha : a < 18446744073709551616) : evBin P .quo t (.p (.int .u64 (a : Int))) (.p (.int .u64 (b : Int))) = some (.p (.int .u64 ((a / b : Nat) : Int))) := by
  have h1 : ¬ (b : Int) = 0 := by omega
  have h2 : (a : Int).tdiv (b : Int) = ((a / b : Nat) : Int) := rfl
  have h3 := w64 (x := a / b) (Nat.lt_of_le_of_lt (Nat.div_le_self _ _) ha)
  show Option.map AV.p (if (b : Int) = 0 then none else some (PV.int .u64 (IntKind.u64.wrap ((a : Int).tdiv (b : Int))))) = _
  rw [if_neg h1, h2, h3]
  rfl
theorem b_rem {a b : Nat} (hb : b ≠ 0) : evBin P .rem t (.p (.int .u64 (a : Int))) (.p (.int .u64 (b : Int))) = some (.p (.int .u64 ((a % b : Nat) : Int))) := by
  have h1 : ¬ (b : Int) = 0 := by omega
  have h2 : (a : Int).tmod (b : Int) = ((a % b : Nat) : Int) := rfl
  show Option.map AV.p (if (b : Int) = 0 then none else some (PV.int .u64 ((a : Int).tmod (b : Int)))) = _
  rw [if_neg h1, h2]
  rfl
theorem b_shl {x n : Nat} (hn : n < 64) (h : x * 2 ^ n < 18446744073709551616) : evBin P .shl t (.p (.int .u64 (x : Int))) (.p (.int k (n : Int))) = some (.p (.int .u64 ((x * 2 ^ n : Nat) : Int))) := by
  have := shl64 hn h
  simp [evBin, this]
theorem b_shr {x n : Nat} (hn : n < 64) : evBin P .shr t (.p (.int .u64 (x : Int))) (.p (.int k (n : Int))) = some (.p (.int .u64 ((x / 2 ^ n : Nat) : Int))) := by
  have := shr64 (x := x) hn
  simp [evBin, this]
theorem b_shl32 {x : Nat} (h : x < LB) : evBin P .shl t (.p (.int .u64 (x : Int))) (.p (.int k 32)) = some (.p (.int .u64 ((x * LB : Nat) : Int))) := by
  have hLB : LB = 4294967296 := rfl
  have e : (2 : Nat) ^ 32 = 4294967296 := by decide
  have := b_shl (P := P) (t := t) (k := k) (x := x) (n := 32) (by decide) (by rw [e]; omega)
  exact this
theorem b_shr32 {x : Nat} : evBin P .shr t (.p (.int .u64 (x : Int))) (.p (.int k 32)) = some (.p (.int .u64 ((x / LB : Nat) : Int))) := b_shr (P := P) (t := t) (k := k) (x := x) (n := 32) (by decide)
theorem b_or {x y : Nat} (hx : x < 18446744073709551616) (hy : y < 18446744073709551616) : evBin P .or t (.p (.int .u64 (x : Int))) (.p (.int .u64 (y : Int))) = some (.p (.int .u64 ((x ||| y : Nat) : Int))) := by
  have := or64 hx hy
  simp only [evBin, this]
  simp
theorem b_or32 {x y : Nat} (hx : x < LB) (hy : y < LB) : evBin P .or t (.p (.int .u32 (x : Int))) (.p (.int .u32 (y : Int))) = some (.p (.int .u32 ((x ||| y : Nat) : Int))) := by
  have := or32 (x := x) (y := y) hx hy
  simp only [evBin, this]
  simp
theorem b_and {x y : Nat} (hx : x < 18446744073709551616) (hy : y < 18446744073709551616) : evBin P .and t (.p (.int .u64 (x : Int))) (.p (.int .u64 (y : Int))) = some (.p (.int .u64 ((x &&& y : Nat) : Int))) := by
  have := and64 hx hy
  simp only [evBin, this]
  simp
theorem b_joined {x y : Nat} (hx : x < LB) (hy : y < LB) : evBin P .or t (.p (.int .u64 ((x * LB : Nat) : Int))) (.p (.int .u64 (y : Int))) = some (.p (.int .u64 ((x * LB + y : Nat) : Int))) := by
  have hLB : LB = 4294967296 := rfl
  have e : (x * LB) ||| y = x * LB + y := or_add (n := 32) hy
  rw [b_or (by rw [hLB]; omega) (by omega), e]
theorem u_not {b : Bool} : evUn .not (.p (.bool b)) = some (.p (.bool (!b))) := rfl
end Go.Proofs
