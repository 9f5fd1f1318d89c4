/- The RSA seat: modes; the first number functions. No condition. -/
import Derived.Test.YtfhhgndppfpngaaRows
import Derived.Test.YtfhhgndppfpngaaRsa03
import Derived.Test.YtfhhgndppfpngaaRsa04
set_option linter.unusedSimpArgs false
set_option linter.unusedVariables false
namespace Go.Proofs
open Go.Ev
def rkL : List Nat := [9, 9, 9, 9, 0, 0, 1, 0, 0, 0, 0, 0, 0, 0, 0, 1, 0, 0, 0, 0, 0, 0, 0, 0, 0, 0, 0, 0, 0, 0, 0, 2, 0, 0, 0, 0, 0, 0, 0, 0, 0, 0, 0, 0, 0, 0, 0, 0, 1, 0, 2, 0, 0, 0, 0, 0, 6, 0, 0, 0, 0, 4, 0, 0, 1, 0, 2, 2, 0, 0, 0, 0]
noncomputable def rkCfg : Cfg := tabCfg Try.prog rkL
theorem rk_ok : CfgOK rkCfg ∧ fnsOK rkCfg := tabCfg_ok6 56 (by kernel_rfl) (by kernel_rfl) (by decide) ⟨Try.f56, 5, 22, Try.func56, rfl, rfl, by kernel_rfl, rfl, rfl, by kernel_rfl⟩
def rkN (l : List Nat) : PV := .sl l.length false (l.map fun (n : Nat) => PV.int .u32 (Int.ofNat n))
end Go.Proofs
set_option linter.unusedSimpArgs false
namespace Go.Proofs
open Go.Ev
noncomputable def rsC : Cfg := tabCfgL Try.prog rkL
theorem rsC_ok : CfgOK rsC ∧ fnsOK rsC := tabCfgL_ok rk_ok
theorem rs_P : rsC.P = Try.prog := rfl
theorem rs_T : sizeT Try.prog 24 = some 1 ∧ sizeT Try.prog 25 = some 1 ∧ aggT Try.prog 25 = some false := ⟨by kernel_rfl, by kernel_rfl, by kernel_rfl⟩
def pu (n : Nat) : PV := .int .u32 (n : Int)
def N32 (l : List Nat) : PV := .sl l.length false (l.map pu)
theorem wrap_i64 {x : Int} (h1 : -9223372036854775808 ≤ x) (h2 : x ≤ 9223372036854775807) : IntKind.i64.wrap x = x := by
  unfold IntKind.wrap
  simp only [IntKind.bits, IntKind.signed, Bool.true_and]
  split <;> rename_i h
  · simp only [ge_iff_le, decide_eq_true_eq] at h; omega
  · simp only [ge_iff_le, decide_eq_true_eq] at h; omega
/-! ### Rows of limbs that nothing changes -/
theorem ix32 {l : List Nat} {x : Bool} {i : Nat} (h : i < l.length) : evIndexAddr Try.prog 24 (.p (.sl l.length x (l.map pu))) (.p (.int .i64 (i : Int))) = some (.ip ((l.map pu).drop i)) := by
  simp only [evIndexAddr, Try.underlying24, rs_T]
  rw [if_pos ⟨by omega, by omega, by simp; omega⟩]
  simp
theorem ld32 {l : List Nat} {i : Nat} {H : List ABlk} (h : i < l.length) : evLoad Try.prog 25 (.ip ((l.map pu).drop i)) H = some (.p (pu (l.getD i 0))) := by
  rw [List.drop_eq_getElem_cons (by simpa using h)]
  simp only [evLoad, rs_T, List.getElem_map]
  rw [List.getD_eq_getElem?_getD, List.getElem?_eq_getElem h]
  rfl
theorem len32 {C : Cfg} (hP : C.P = Try.prog) {n : Nat} {x : Bool} {cs : List PV} : evLen C #[24] (.p (.sl n x cs)) = some (.int .i64 (n : Int)) := by
  simp only [evLen, hP, List.getElem?_toArray, List.getElem?_cons_zero, Try.underlying24]
theorem sliceTo32 {l : List Nat} {x : Bool} {i : Nat} (h : i ≤ l.length) : evSlice Try.prog 24 (.p (.sl l.length x (l.map pu))) none (some (.p (.int .i64 (i : Int)))) none = some (.p (.sl i (x && i == l.length) ((l.take i).map pu))) := by
  simp only [evSlice, Try.underlying24, rs_T, bounds, bnd]
  rw [if_pos ⟨by omega, by omega⟩]
  simp
theorem rs_lv31 : rsC.lv 31 = [true, false, true, false, false, false, false, false, false, false, false, false, false, false, true, false, false, false, false, false, false] := by kernel_rfl
/-- Without noughts at the end. -/
def trim (l : List Nat) : List Nat := (l.reverse.dropWhile (· == 0)).reverse
theorem trim_nil : trim [] = [] := rfl
theorem trim_zero (l : List Nat) : trim (l ++ [0]) = trim l := by simp [trim]
theorem trim_pos (l : List Nat) {a : Nat} (h : a ≠ 0) : trim (l ++ [a]) = l ++ [a] := by simp [trim, h]
set_option maxRecDepth 100000 in
theorem rs_trim (l : List Nat) (hl : l.length ≤ 1000000) (x : Bool) (H : List ABlk) : ∃ y, W rsC 31 [.p (.sl l.length x (l.map pu))] H = some (.p (.sl (trim l).length y ((trim l).map pu)), H) := by
  rw [W_fin (show rsC.md 31 < 9 by decide) Try.func31 rfl]
  rw [show Try.f31.ntmps = 21 from rfl, rs_lv31]
  simp only [List.length_cons, List.length_nil, Nat.reduceAdd, Nat.reduceSub, List.replicate, List.cons_append, List.nil_append]
  rw [WC_seq, WC_region]
  simp only [evRegion, Bool.false_eq_true, if_false, if_true, reduceIte, evOps, evStep, wantedA, evOp, opv, putA, ret1, ofVal, ofVal1, cellsOf, AV.isCell, clean, evFieldAddr, evField, evBin, evUn, evExtract, evBuild, evIndex, evBuiltin, evConv, evMakeSlice, evBuildSlice, evNilCheck, ibin, blkRead, mkAgg, mkTup, mapO, AV.pure?, setAt, afill, parts, calleeOf, tell, scalar, scalarL, frz, norm, normL, ids, Go.Ev.mark, deep, evResults, evResult, aggCells, partA, List.getElem?_cons_zero, List.getElem?_cons_succ, List.getElem?_nil, List.map_cons, List.map_nil, List.all_cons, List.all_nil, Bool.and_true, Bool.true_and, Bool.and_false, Bool.false_and, Bool.and_self, Bool.not_true, Bool.not_false, Bool.or_true, Bool.or_false, Bool.false_or, Bool.true_or, List.set, List.length_cons, List.length_nil, List.nil_append, List.cons_append, List.append_nil, Nat.reduceAdd, Nat.reduceSub, Nat.reduceMul, Nat.reduceLeDiff, Nat.zero_add, Nat.reduceEqDiff, List.replicate, List.drop, List.take, List.flatMap_cons, List.flatMap_nil, List.foldl_nil, List.foldl_cons, decide_true, decide_false, and_self, and_true, true_and, BEq.rfl, beq_self_eq_true, Option.map_some, Option.map_none, Option.bind_some, Option.bind_none, List.getElem?_toArray, Option.isSome_some, Option.isSome_none, beqs, ge_iff_le, gt_iff_lt, ne_eq, not_true_eq_false, not_false_eq_true, false_or, or_false, or_self, Nat.reduceLT, false_and, and_false, List.nil_append, evEq, eqc, optO, rs_P]
  rw [WC_seq, WC_block]
  generalize hL : (Code.loop _ : Code) = L
  have key : ∀ (n : Nat) (l : List Nat), l.length = n → n ≤ 1000000 → ∀ (x : Bool) (v : AV), ∃ x' v', WC rsC [true, false, true, false, false, false, false, false, false, false, false, false, false, false, true, false, false, false, false, false, false] L
      ⟨[.p (.sl l.length x (l.map pu)), .p .any, .p (.nsl true), .p .any, .p .any, .p .any, .p .any, .p .any, .p .any, .p .any, .p .any, .p .any, .p .any, .p .any, v, .p .any, .p .any, .p .any, .p .any, .p .any, .p .any], H⟩ =
      some (.exit 0, ⟨[.p (.sl (trim l).length x' ((trim l).map pu)), .p .any, .p (.nsl true), .p .any, .p .any, .p .any, .p .any, .p .any, .p .any, .p .any, .p .any, .p .any, .p .any, .p .any, v', .p .any, .p .any, .p .any, .p .any, .p .any, .p .any], H⟩) := by
    intro n
    induction n with
    | zero =>
      intro l hl _ x v
      obtain rfl := List.length_eq_zero_iff.1 hl
      refine ⟨x, .p (.bool false), ?_⟩
      rw [← hL, WC_loop, hL, WC_seq, WC_seq, WC_region]
      simp only [evRegion, Bool.false_eq_true, if_false, if_true, reduceIte, evOps, evStep, wantedA, evOp, opv, putA, ret1, ofVal, ofVal1, cellsOf, AV.isCell, clean, evFieldAddr, evField, evBin, evUn, evExtract, evBuild, evIndex, evBuiltin, evConv, evMakeSlice, evBuildSlice, evNilCheck, ibin, blkRead, mkAgg, mkTup, mapO, AV.pure?, setAt, afill, parts, calleeOf, tell, scalar, scalarL, frz, norm, normL, ids, Go.Ev.mark, deep, evResults, evResult, aggCells, partA, List.getElem?_cons_zero, List.getElem?_cons_succ, List.getElem?_nil, List.map_cons, List.map_nil, List.all_cons, List.all_nil, Bool.and_true, Bool.true_and, Bool.and_false, Bool.false_and, Bool.and_self, Bool.not_true, Bool.not_false, Bool.or_true, Bool.or_false, Bool.false_or, Bool.true_or, List.set, List.length_cons, List.length_nil, List.nil_append, List.cons_append, List.append_nil, Nat.reduceAdd, Nat.reduceSub, Nat.reduceMul, Nat.reduceLeDiff, Nat.zero_add, Nat.reduceEqDiff, List.replicate, List.drop, List.take, List.flatMap_cons, List.flatMap_nil, List.foldl_nil, List.foldl_cons, decide_true, decide_false, and_self, and_true, true_and, BEq.rfl, beq_self_eq_true, Option.map_some, Option.map_none, Option.bind_some, Option.bind_none, List.getElem?_toArray, Option.isSome_some, Option.isSome_none, beqs, ge_iff_le, gt_iff_lt, ne_eq, not_true_eq_false, not_false_eq_true, false_or, or_false, or_self, Nat.reduceLT, false_and, and_false, List.nil_append, evEq, eqc, optO, rs_P, len32 rs_P]
      simp
      rw [WC_cond]
      simp only [evRegion, Bool.false_eq_true, if_false, if_true, reduceIte, evOps, evStep, wantedA, evOp, opv, putA, ret1, ofVal, ofVal1, cellsOf, AV.isCell, clean, evFieldAddr, evField, evBin, evUn, evExtract, evBuild, evIndex, evBuiltin, evConv, evMakeSlice, evBuildSlice, evNilCheck, ibin, blkRead, mkAgg, mkTup, mapO, AV.pure?, setAt, afill, parts, calleeOf, tell, scalar, scalarL, frz, norm, normL, ids, Go.Ev.mark, deep, evResults, evResult, aggCells, partA, List.getElem?_cons_zero, List.getElem?_cons_succ, List.getElem?_nil, List.map_cons, List.map_nil, List.all_cons, List.all_nil, Bool.and_true, Bool.true_and, Bool.and_false, Bool.false_and, Bool.and_self, Bool.not_true, Bool.not_false, Bool.or_true, Bool.or_false, Bool.false_or, Bool.true_or, List.set, List.length_cons, List.length_nil, List.nil_append, List.cons_append, List.append_nil, Nat.reduceAdd, Nat.reduceSub, Nat.reduceMul, Nat.reduceLeDiff, Nat.zero_add, Nat.reduceEqDiff, List.replicate, List.drop, List.take, List.flatMap_cons, List.flatMap_nil, List.foldl_nil, List.foldl_cons, decide_true, decide_false, and_self, and_true, true_and, BEq.rfl, beq_self_eq_true, Option.map_some, Option.map_none, Option.bind_some, Option.bind_none, List.getElem?_toArray, Option.isSome_some, Option.isSome_none, beqs, ge_iff_le, gt_iff_lt, ne_eq, not_true_eq_false, not_false_eq_true, false_or, or_false, or_self, Nat.reduceLT, false_and, and_false, List.nil_append, evEq, eqc, optO, WC_exit, trim_nil, List.map_nil, List.length_nil]
    | succ n ih =>
      intro l hl hn x v
      obtain ⟨l', a, rfl⟩ : ∃ l' a, l = l' ++ [a] := by
        rcases List.eq_nil_or_concat l with h | ⟨l', a, h⟩
        · subst h; simp at hl
        · exact ⟨l', a, by simpa using h⟩
      have hl' : l'.length = n := by simpa using hl
      have hg : (0 : Int) < ((l' ++ [a]).length : Int) := by omega
      have hw : IntKind.i64.wrap (((l' ++ [a]).length : Int) - 1) = (l'.length : Int) := by rw [wrap_i64 (by omega) (by omega)]; omega
      have hi : l'.length < (l' ++ [a]).length := by omega
      have hi' : l'.length ≤ (l' ++ [a]).length := by omega
      have hga : (l' ++ [a]).getD l'.length 0 = a := by simp
      by_cases ha : a = 0
      · have hz : ((a : Int) == 0) = true := by subst ha; rfl
        obtain ⟨x', v', he⟩ := ih l' hl' (by omega) (x && l'.length == (l' ++ [a]).length) (.p (.bool true))
        refine ⟨x', v', ?_⟩
        rw [← hL, WC_loop, hL, WC_seq, WC_seq, WC_region]
        simp only [evRegion, Bool.false_eq_true, if_false, if_true, reduceIte, evOps, evStep, wantedA, evOp, opv, putA, ret1, ofVal, ofVal1, cellsOf, AV.isCell, clean, evFieldAddr, evField, evBin, evUn, evExtract, evBuild, evIndex, evBuiltin, evConv, evMakeSlice, evBuildSlice, evNilCheck, ibin, blkRead, mkAgg, mkTup, mapO, AV.pure?, setAt, afill, parts, calleeOf, tell, scalar, scalarL, frz, norm, normL, ids, Go.Ev.mark, deep, evResults, evResult, aggCells, partA, List.getElem?_cons_zero, List.getElem?_cons_succ, List.getElem?_nil, List.map_cons, List.map_nil, List.all_cons, List.all_nil, Bool.and_true, Bool.true_and, Bool.and_false, Bool.false_and, Bool.and_self, Bool.not_true, Bool.not_false, Bool.or_true, Bool.or_false, Bool.false_or, Bool.true_or, List.set, List.length_cons, List.length_nil, List.nil_append, List.cons_append, List.append_nil, Nat.reduceAdd, Nat.reduceSub, Nat.reduceMul, Nat.reduceLeDiff, Nat.zero_add, Nat.reduceEqDiff, List.replicate, List.drop, List.take, List.flatMap_cons, List.flatMap_nil, List.foldl_nil, List.foldl_cons, decide_true, decide_false, and_self, and_true, true_and, BEq.rfl, beq_self_eq_true, Option.map_some, Option.map_none, Option.bind_some, Option.bind_none, List.getElem?_toArray, Option.isSome_some, Option.isSome_none, beqs, ge_iff_le, gt_iff_lt, ne_eq, not_true_eq_false, not_false_eq_true, false_or, or_false, or_self, Nat.reduceLT, false_and, and_false, List.nil_append, evEq, eqc, optO, rs_P, len32 rs_P, hg, hw, hga, hz, ix32 hi, ld32 hi, sliceTo32 hi', pu]
        rw [WC_cond]
        simp only [evRegion, Bool.false_eq_true, if_false, if_true, reduceIte, evOps, evStep, wantedA, evOp, opv, putA, ret1, ofVal, ofVal1, cellsOf, AV.isCell, clean, evFieldAddr, evField, evBin, evUn, evExtract, evBuild, evIndex, evBuiltin, evConv, evMakeSlice, evBuildSlice, evNilCheck, ibin, blkRead, mkAgg, mkTup, mapO, AV.pure?, setAt, afill, parts, calleeOf, tell, scalar, scalarL, frz, norm, normL, ids, Go.Ev.mark, deep, evResults, evResult, aggCells, partA, List.getElem?_cons_zero, List.getElem?_cons_succ, List.getElem?_nil, List.map_cons, List.map_nil, List.all_cons, List.all_nil, Bool.and_true, Bool.true_and, Bool.and_false, Bool.false_and, Bool.and_self, Bool.not_true, Bool.not_false, Bool.or_true, Bool.or_false, Bool.false_or, Bool.true_or, List.set, List.length_cons, List.length_nil, List.nil_append, List.cons_append, List.append_nil, Nat.reduceAdd, Nat.reduceSub, Nat.reduceMul, Nat.reduceLeDiff, Nat.zero_add, Nat.reduceEqDiff, List.replicate, List.drop, List.take, List.flatMap_cons, List.flatMap_nil, List.foldl_nil, List.foldl_cons, decide_true, decide_false, and_self, and_true, true_and, BEq.rfl, beq_self_eq_true, Option.map_some, Option.map_none, Option.bind_some, Option.bind_none, List.getElem?_toArray, Option.isSome_some, Option.isSome_none, beqs, ge_iff_le, gt_iff_lt, ne_eq, not_true_eq_false, not_false_eq_true, false_or, or_false, or_self, Nat.reduceLT, false_and, and_false, List.nil_append, evEq, eqc, optO, rs_P, len32 rs_P, hg, hw, hga, hz, ix32 hi, ld32 hi, sliceTo32 hi', pu, WC_skip]
        rw [WC_block, WC_region]
        simp only [evRegion, Bool.false_eq_true, if_false, if_true, reduceIte, evOps, evStep, wantedA, evOp, opv, putA, ret1, ofVal, ofVal1, cellsOf, AV.isCell, clean, evFieldAddr, evField, evBin, evUn, evExtract, evBuild, evIndex, evBuiltin, evConv, evMakeSlice, evBuildSlice, evNilCheck, ibin, blkRead, mkAgg, mkTup, mapO, AV.pure?, setAt, afill, parts, calleeOf, tell, scalar, scalarL, frz, norm, normL, ids, Go.Ev.mark, deep, evResults, evResult, aggCells, partA, List.getElem?_cons_zero, List.getElem?_cons_succ, List.getElem?_nil, List.map_cons, List.map_nil, List.all_cons, List.all_nil, Bool.and_true, Bool.true_and, Bool.and_false, Bool.false_and, Bool.and_self, Bool.not_true, Bool.not_false, Bool.or_true, Bool.or_false, Bool.false_or, Bool.true_or, List.set, List.length_cons, List.length_nil, List.nil_append, List.cons_append, List.append_nil, Nat.reduceAdd, Nat.reduceSub, Nat.reduceMul, Nat.reduceLeDiff, Nat.zero_add, Nat.reduceEqDiff, List.replicate, List.drop, List.take, List.flatMap_cons, List.flatMap_nil, List.foldl_nil, List.foldl_cons, decide_true, decide_false, and_self, and_true, true_and, BEq.rfl, beq_self_eq_true, Option.map_some, Option.map_none, Option.bind_some, Option.bind_none, List.getElem?_toArray, Option.isSome_some, Option.isSome_none, beqs, ge_iff_le, gt_iff_lt, ne_eq, not_true_eq_false, not_false_eq_true, false_or, or_false, or_self, Nat.reduceLT, false_and, and_false, List.nil_append, evEq, eqc, optO, rs_P, len32 rs_P, hg, hw, hga, hz, ix32 hi, ld32 hi, sliceTo32 hi', pu]
        subst ha
        rw [trim_zero, List.take_left'  rfl]
        exact he
      · have hz : ((a : Int) == 0) = false := by simp; omega
        refine ⟨x, .p (.bool false), ?_⟩
        rw [← hL, WC_loop, hL, WC_seq, WC_seq, WC_region]
        simp only [evRegion, Bool.false_eq_true, if_false, if_true, reduceIte, evOps, evStep, wantedA, evOp, opv, putA, ret1, ofVal, ofVal1, cellsOf, AV.isCell, clean, evFieldAddr, evField, evBin, evUn, evExtract, evBuild, evIndex, evBuiltin, evConv, evMakeSlice, evBuildSlice, evNilCheck, ibin, blkRead, mkAgg, mkTup, mapO, AV.pure?, setAt, afill, parts, calleeOf, tell, scalar, scalarL, frz, norm, normL, ids, Go.Ev.mark, deep, evResults, evResult, aggCells, partA, List.getElem?_cons_zero, List.getElem?_cons_succ, List.getElem?_nil, List.map_cons, List.map_nil, List.all_cons, List.all_nil, Bool.and_true, Bool.true_and, Bool.and_false, Bool.false_and, Bool.and_self, Bool.not_true, Bool.not_false, Bool.or_true, Bool.or_false, Bool.false_or, Bool.true_or, List.set, List.length_cons, List.length_nil, List.nil_append, List.cons_append, List.append_nil, Nat.reduceAdd, Nat.reduceSub, Nat.reduceMul, Nat.reduceLeDiff, Nat.zero_add, Nat.reduceEqDiff, List.replicate, List.drop, List.take, List.flatMap_cons, List.flatMap_nil, List.foldl_nil, List.foldl_cons, decide_true, decide_false, and_self, and_true, true_and, BEq.rfl, beq_self_eq_true, Option.map_some, Option.map_none, Option.bind_some, Option.bind_none, List.getElem?_toArray, Option.isSome_some, Option.isSome_none, beqs, ge_iff_le, gt_iff_lt, ne_eq, not_true_eq_false, not_false_eq_true, false_or, or_false, or_self, Nat.reduceLT, false_and, and_false, List.nil_append, evEq, eqc, optO, rs_P, len32 rs_P, hg, hw, hga, hz, ix32 hi, ld32 hi, sliceTo32 hi', pu]
        rw [WC_cond]
        simp only [evRegion, Bool.false_eq_true, if_false, if_true, reduceIte, evOps, evStep, wantedA, evOp, opv, putA, ret1, ofVal, ofVal1, cellsOf, AV.isCell, clean, evFieldAddr, evField, evBin, evUn, evExtract, evBuild, evIndex, evBuiltin, evConv, evMakeSlice, evBuildSlice, evNilCheck, ibin, blkRead, mkAgg, mkTup, mapO, AV.pure?, setAt, afill, parts, calleeOf, tell, scalar, scalarL, frz, norm, normL, ids, Go.Ev.mark, deep, evResults, evResult, aggCells, partA, List.getElem?_cons_zero, List.getElem?_cons_succ, List.getElem?_nil, List.map_cons, List.map_nil, List.all_cons, List.all_nil, Bool.and_true, Bool.true_and, Bool.and_false, Bool.false_and, Bool.and_self, Bool.not_true, Bool.not_false, Bool.or_true, Bool.or_false, Bool.false_or, Bool.true_or, List.set, List.length_cons, List.length_nil, List.nil_append, List.cons_append, List.append_nil, Nat.reduceAdd, Nat.reduceSub, Nat.reduceMul, Nat.reduceLeDiff, Nat.zero_add, Nat.reduceEqDiff, List.replicate, List.drop, List.take, List.flatMap_cons, List.flatMap_nil, List.foldl_nil, List.foldl_cons, decide_true, decide_false, and_self, and_true, true_and, BEq.rfl, beq_self_eq_true, Option.map_some, Option.map_none, Option.bind_some, Option.bind_none, List.getElem?_toArray, Option.isSome_some, Option.isSome_none, beqs, ge_iff_le, gt_iff_lt, ne_eq, not_true_eq_false, not_false_eq_true, false_or, or_false, or_self, Nat.reduceLT, false_and, and_false, List.nil_append, evEq, eqc, optO, rs_P, len32 rs_P, hg, hw, hga, hz, ix32 hi, ld32 hi, sliceTo32 hi', pu, WC_exit]
        rw [trim_pos l' ha]
  obtain ⟨x', v', he⟩ := key _ l rfl hl x (.p .und)
  refine ⟨x', ?_⟩
  rw [he]
  simp only [if_true]
  rw [WC_seq, WC_region]
  simp only [evRegion, Bool.false_eq_true, if_false, if_true, reduceIte, evOps, evStep, wantedA, evOp, opv, putA, ret1, ofVal, ofVal1, cellsOf, AV.isCell, clean, evFieldAddr, evField, evBin, evUn, evExtract, evBuild, evIndex, evBuiltin, evConv, evMakeSlice, evBuildSlice, evNilCheck, ibin, blkRead, mkAgg, mkTup, mapO, AV.pure?, setAt, afill, parts, calleeOf, tell, scalar, scalarL, frz, norm, normL, ids, Go.Ev.mark, deep, evResults, evResult, aggCells, partA, List.getElem?_cons_zero, List.getElem?_cons_succ, List.getElem?_nil, List.map_cons, List.map_nil, List.all_cons, List.all_nil, Bool.and_true, Bool.true_and, Bool.and_false, Bool.false_and, Bool.and_self, Bool.not_true, Bool.not_false, Bool.or_true, Bool.or_false, Bool.false_or, Bool.true_or, List.set, List.length_cons, List.length_nil, List.nil_append, List.cons_append, List.append_nil, Nat.reduceAdd, Nat.reduceSub, Nat.reduceMul, Nat.reduceLeDiff, Nat.zero_add, Nat.reduceEqDiff, List.replicate, List.drop, List.take, List.flatMap_cons, List.flatMap_nil, List.foldl_nil, List.foldl_cons, decide_true, decide_false, and_self, and_true, true_and, BEq.rfl, beq_self_eq_true, Option.map_some, Option.map_none, Option.bind_some, Option.bind_none, List.getElem?_toArray, Option.isSome_some, Option.isSome_none, beqs, ge_iff_le, gt_iff_lt, ne_eq, not_true_eq_false, not_false_eq_true, false_or, or_false, or_self, Nat.reduceLT, false_and, and_false, List.nil_append, evEq, eqc, optO, rs_P, WC_ret, fin, show Try.f31.results = #[.tmp 2] from rfl]
end Go.Proofs
set_option linter.unusedSimpArgs false
namespace Go.Proofs
open Go.Ev Go.Mx
def lb (o : List Nat) : List AV := o.map fun n => .p (pu n)
theorem rs_T2 : zeroT Try.prog 25 = some [.p (.int .u32 0)] ∧ bytesT Try.prog 25 = some 4 ∧ elemT Try.prog 24 = some 25 := ⟨by kernel_rfl, by kernel_rfl, by kernel_rfl⟩
theorem ixms {id ver off n i : Nat} (h : i < n) : evIndexAddr Try.prog 24 (.ms id ver off n 1) (.p (.int .i64 (i : Int))) = some (.pt id ver (off + i)) := by
  simp only [evIndexAddr, Try.underlying24, rs_T]
  rw [if_pos ⟨by omega, by omega, trivial⟩]
  simp
theorem ldms1 {ver j : Nat} {fz : Bool} {o : List Nat} (h : j < o.length) : evLoad Try.prog 25 (.pt 0 ver j) [⟨ver, fz, lb o⟩] = some (.p (pu (o.getD j 0))) := by
  simp only [evLoad, rs_T, blkRead, List.getElem?_cons_zero]
  rw [if_pos ⟨trivial, by simp [lb]; omega⟩]
  have : ((lb o).drop j).take 1 = [.p (pu (o.getD j 0))] := by
    rw [List.drop_eq_getElem_cons (by simpa [lb] using h), List.getD_eq_getElem?_getD, List.getElem?_eq_getElem h]
    simp [lb]
  rw [this]
theorem stms1 {ver j z : Nat} {o : List Nat} (h : j < o.length) : evStore Try.prog 25 (.pt 0 ver j) (.p (.int .u32 (z : Int))) [⟨ver, false, lb o⟩] = some [⟨ver, false, lb (o.set j z)⟩] := by
  simp only [evStore, rs_T, cellsOf, AV.isCell, if_true, List.getElem?_cons_zero]
  rw [if_pos ⟨trivial, trivial, by simp, by simp [lb]; omega⟩]
  simp [setAt, lb, pu, List.map_set]
theorem wrap_u64 {x : Int} (h1 : 0 ≤ x) (h2 : x < 18446744073709551616) : IntKind.u64.wrap x = x := by
  unfold IntKind.wrap
  simp only [IntKind.bits, IntKind.signed, Bool.false_and, Bool.false_eq_true, if_false]
  omega
theorem wrap_u32 (s : Nat) : IntKind.u32.wrap (s : Int) = ((s % LB : Nat) : Int) := by
  unfold IntKind.wrap LB
  simp only [IntKind.bits, IntKind.signed, Bool.false_and, Bool.false_eq_true, if_false]
  omega
theorem shr32 (s : Nat) : ishift .shr .u64 (s : Int) 32 = some (.int .u64 ((s / LB : Nat) : Int)) := by
  unfold ishift LB
  rw [if_neg (by omega)]
  simp only [IntKind.bits]
  congr 2
  show Int.fdiv (s : Int) (2 ^ 32) = _
  rw [Int.fdiv_eq_ediv_of_nonneg _ (by decide)]
  omega

theorem lenms {C : Cfg} (hP : C.P = Try.prog) {id ver off n sz : Nat} : evLen C #[24] (.ms id ver off n sz) = some (.int .i64 (n : Int)) := by
  simp only [evLen, hP, List.getElem?_toArray, List.getElem?_cons_zero, Try.underlying24]
theorem sliceToms {id ver n i : Nat} (h : i ≤ n) : evSlice Try.prog 24 (.ms id ver 0 n 1) none (some (.p (.int .i64 (i : Int)))) none = some (.ms id ver 0 i 1) := by
  simp only [evSlice, Try.underlying24, rs_T, bounds, bnd]
  rw [if_pos ⟨by omega, by omega⟩]
  simp
set_option maxRecDepth 100000 in
theorem rs_trimO (r : List Nat) (hr : r.length ≤ 1000000) (fz : Bool) : W rsC 31 [.ms 0 0 0 r.length 1] [⟨0, fz, lb r⟩] = some (.ms 0 0 0 (trim r).length 1, [⟨0, fz, lb r⟩]) := by
  rw [W_fin (show rsC.md 31 < 9 by decide) Try.func31 rfl]
  rw [show Try.f31.ntmps = 21 from rfl, rs_lv31]
  simp only [List.length_cons, List.length_nil, Nat.reduceAdd, Nat.reduceSub, List.replicate, List.cons_append, List.nil_append]
  rw [WC_seq, WC_region]
  simp only [evRegion, Bool.false_eq_true, if_false, if_true, reduceIte, evOps, evStep, wantedA, evOp, opv, putA, ret1, ofVal, ofVal1, cellsOf, AV.isCell, clean, evFieldAddr, evField, evBin, evUn, evExtract, evBuild, evIndex, evBuiltin, evConv, evMakeSlice, evBuildSlice, evNilCheck, ibin, blkRead, mkAgg, mkTup, mapO, AV.pure?, setAt, afill, parts, calleeOf, tell, scalar, scalarL, frz, norm, normL, ids, Go.Ev.mark, deep, evResults, evResult, aggCells, partA, List.getElem?_cons_zero, List.getElem?_cons_succ, List.getElem?_nil, List.map_cons, List.map_nil, List.all_cons, List.all_nil, Bool.and_true, Bool.true_and, Bool.and_false, Bool.false_and, Bool.and_self, Bool.not_true, Bool.not_false, Bool.or_true, Bool.or_false, Bool.false_or, Bool.true_or, List.set, List.length_cons, List.length_nil, List.nil_append, List.cons_append, List.append_nil, Nat.reduceAdd, Nat.reduceSub, Nat.reduceMul, Nat.reduceLeDiff, Nat.zero_add, Nat.reduceEqDiff, List.replicate, List.drop, List.take, List.flatMap_cons, List.flatMap_nil, List.foldl_nil, List.foldl_cons, decide_true, decide_false, and_self, and_true, true_and, BEq.rfl, beq_self_eq_true, Option.map_some, Option.map_none, Option.bind_some, Option.bind_none, List.getElem?_toArray, Option.isSome_some, Option.isSome_none, beqs, ge_iff_le, gt_iff_lt, ne_eq, not_true_eq_false, not_false_eq_true, false_or, or_false, or_self, Nat.reduceLT, false_and, and_false, List.nil_append, evEq, eqc, optO, rs_P]
  rw [WC_seq, WC_block]
  generalize hL : (Code.loop _ : Code) = L
  have key : ∀ (n : Nat) (l t : List Nat), l ++ t = r → l.length = n → n ≤ 1000000 → ∀ (v : AV), ∃ v', WC rsC [true, false, true, false, false, false, false, false, false, false, false, false, false, false, true, false, false, false, false, false, false] L
      ⟨[.ms 0 0 0 l.length 1, .p .any, .p (.nsl true), .p .any, .p .any, .p .any, .p .any, .p .any, .p .any, .p .any, .p .any, .p .any, .p .any, .p .any, v, .p .any, .p .any, .p .any, .p .any, .p .any, .p .any], [⟨0, fz, lb r⟩]⟩ =
      some (.exit 0, ⟨[.ms 0 0 0 (trim l).length 1, .p .any, .p (.nsl true), .p .any, .p .any, .p .any, .p .any, .p .any, .p .any, .p .any, .p .any, .p .any, .p .any, .p .any, v', .p .any, .p .any, .p .any, .p .any, .p .any, .p .any], [⟨0, fz, lb r⟩]⟩) := by
    intro n
    induction n with
    | zero =>
      intro l t hlt hl _ v
      obtain rfl := List.length_eq_zero_iff.1 hl
      refine ⟨.p (.bool false), ?_⟩
      rw [← hL, WC_loop, hL, WC_seq, WC_seq, WC_region]
      simp only [evRegion, Bool.false_eq_true, if_false, if_true, reduceIte, evOps, evStep, wantedA, evOp, opv, putA, ret1, ofVal, ofVal1, cellsOf, AV.isCell, clean, evFieldAddr, evField, evBin, evUn, evExtract, evBuild, evIndex, evBuiltin, evConv, evMakeSlice, evBuildSlice, evNilCheck, ibin, blkRead, mkAgg, mkTup, mapO, AV.pure?, setAt, afill, parts, calleeOf, tell, scalar, scalarL, frz, norm, normL, ids, Go.Ev.mark, deep, evResults, evResult, aggCells, partA, List.getElem?_cons_zero, List.getElem?_cons_succ, List.getElem?_nil, List.map_cons, List.map_nil, List.all_cons, List.all_nil, Bool.and_true, Bool.true_and, Bool.and_false, Bool.false_and, Bool.and_self, Bool.not_true, Bool.not_false, Bool.or_true, Bool.or_false, Bool.false_or, Bool.true_or, List.set, List.length_cons, List.length_nil, List.nil_append, List.cons_append, List.append_nil, Nat.reduceAdd, Nat.reduceSub, Nat.reduceMul, Nat.reduceLeDiff, Nat.zero_add, Nat.reduceEqDiff, List.replicate, List.drop, List.take, List.flatMap_cons, List.flatMap_nil, List.foldl_nil, List.foldl_cons, decide_true, decide_false, and_self, and_true, true_and, BEq.rfl, beq_self_eq_true, Option.map_some, Option.map_none, Option.bind_some, Option.bind_none, List.getElem?_toArray, Option.isSome_some, Option.isSome_none, beqs, ge_iff_le, gt_iff_lt, ne_eq, not_true_eq_false, not_false_eq_true, false_or, or_false, or_self, Nat.reduceLT, false_and, and_false, List.nil_append, evEq, eqc, optO, rs_P, lenms rs_P]
      simp
      rw [WC_cond]
      simp only [evRegion, Bool.false_eq_true, if_false, if_true, reduceIte, evOps, evStep, wantedA, evOp, opv, putA, ret1, ofVal, ofVal1, cellsOf, AV.isCell, clean, evFieldAddr, evField, evBin, evUn, evExtract, evBuild, evIndex, evBuiltin, evConv, evMakeSlice, evBuildSlice, evNilCheck, ibin, blkRead, mkAgg, mkTup, mapO, AV.pure?, setAt, afill, parts, calleeOf, tell, scalar, scalarL, frz, norm, normL, ids, Go.Ev.mark, deep, evResults, evResult, aggCells, partA, List.getElem?_cons_zero, List.getElem?_cons_succ, List.getElem?_nil, List.map_cons, List.map_nil, List.all_cons, List.all_nil, Bool.and_true, Bool.true_and, Bool.and_false, Bool.false_and, Bool.and_self, Bool.not_true, Bool.not_false, Bool.or_true, Bool.or_false, Bool.false_or, Bool.true_or, List.set, List.length_cons, List.length_nil, List.nil_append, List.cons_append, List.append_nil, Nat.reduceAdd, Nat.reduceSub, Nat.reduceMul, Nat.reduceLeDiff, Nat.zero_add, Nat.reduceEqDiff, List.replicate, List.drop, List.take, List.flatMap_cons, List.flatMap_nil, List.foldl_nil, List.foldl_cons, decide_true, decide_false, and_self, and_true, true_and, BEq.rfl, beq_self_eq_true, Option.map_some, Option.map_none, Option.bind_some, Option.bind_none, List.getElem?_toArray, Option.isSome_some, Option.isSome_none, beqs, ge_iff_le, gt_iff_lt, ne_eq, not_true_eq_false, not_false_eq_true, false_or, or_false, or_self, Nat.reduceLT, false_and, and_false, List.nil_append, evEq, eqc, optO, WC_exit, trim_nil, List.map_nil, List.length_nil]
    | succ n ih =>
      intro l t hlt hl hn v
      obtain ⟨l', a, rfl⟩ : ∃ l' a, l = l' ++ [a] := by
        rcases List.eq_nil_or_concat l with h | ⟨l', a, h⟩
        · subst h; simp at hl
        · exact ⟨l', a, by simpa using h⟩
      have hl' : l'.length = n := by simpa using hl
      have hg : (0 : Int) < ((l' ++ [a]).length : Int) := by omega
      have hw : IntKind.i64.wrap (((l' ++ [a]).length : Int) - 1) = (l'.length : Int) := by rw [wrap_i64 (by omega) (by omega)]; omega
      have hi : l'.length < (l' ++ [a]).length := by omega
      have hi' : l'.length ≤ (l' ++ [a]).length := by omega
      have hga : r.getD l'.length 0 = a := by rw [← hlt]; simp
      have hir : l'.length < r.length := by rw [← hlt]; simp
      by_cases ha : a = 0
      · have hz : ((a : Int) == 0) = true := by subst ha; rfl
        obtain ⟨v', he⟩ := ih l' ([a] ++ t) (by rw [← hlt]; simp) hl' (by omega) (.p (.bool true))
        refine ⟨v', ?_⟩
        rw [← hL, WC_loop, hL, WC_seq, WC_seq, WC_region]
        simp only [evRegion, Bool.false_eq_true, if_false, if_true, reduceIte, evOps, evStep, wantedA, evOp, opv, putA, ret1, ofVal, ofVal1, cellsOf, AV.isCell, clean, evFieldAddr, evField, evBin, evUn, evExtract, evBuild, evIndex, evBuiltin, evConv, evMakeSlice, evBuildSlice, evNilCheck, ibin, blkRead, mkAgg, mkTup, mapO, AV.pure?, setAt, afill, parts, calleeOf, tell, scalar, scalarL, frz, norm, normL, ids, Go.Ev.mark, deep, evResults, evResult, aggCells, partA, List.getElem?_cons_zero, List.getElem?_cons_succ, List.getElem?_nil, List.map_cons, List.map_nil, List.all_cons, List.all_nil, Bool.and_true, Bool.true_and, Bool.and_false, Bool.false_and, Bool.and_self, Bool.not_true, Bool.not_false, Bool.or_true, Bool.or_false, Bool.false_or, Bool.true_or, List.set, List.length_cons, List.length_nil, List.nil_append, List.cons_append, List.append_nil, Nat.reduceAdd, Nat.reduceSub, Nat.reduceMul, Nat.reduceLeDiff, Nat.zero_add, Nat.reduceEqDiff, List.replicate, List.drop, List.take, List.flatMap_cons, List.flatMap_nil, List.foldl_nil, List.foldl_cons, decide_true, decide_false, and_self, and_true, true_and, BEq.rfl, beq_self_eq_true, Option.map_some, Option.map_none, Option.bind_some, Option.bind_none, List.getElem?_toArray, Option.isSome_some, Option.isSome_none, beqs, ge_iff_le, gt_iff_lt, ne_eq, not_true_eq_false, not_false_eq_true, false_or, or_false, or_self, Nat.reduceLT, false_and, and_false, List.nil_append, evEq, eqc, optO, rs_P, lenms rs_P, hg, hw, hga, hz, ixms hi, Nat.zero_add, ldms1 hir, sliceToms hi', pu]
        rw [WC_cond]
        simp only [evRegion, Bool.false_eq_true, if_false, if_true, reduceIte, evOps, evStep, wantedA, evOp, opv, putA, ret1, ofVal, ofVal1, cellsOf, AV.isCell, clean, evFieldAddr, evField, evBin, evUn, evExtract, evBuild, evIndex, evBuiltin, evConv, evMakeSlice, evBuildSlice, evNilCheck, ibin, blkRead, mkAgg, mkTup, mapO, AV.pure?, setAt, afill, parts, calleeOf, tell, scalar, scalarL, frz, norm, normL, ids, Go.Ev.mark, deep, evResults, evResult, aggCells, partA, List.getElem?_cons_zero, List.getElem?_cons_succ, List.getElem?_nil, List.map_cons, List.map_nil, List.all_cons, List.all_nil, Bool.and_true, Bool.true_and, Bool.and_false, Bool.false_and, Bool.and_self, Bool.not_true, Bool.not_false, Bool.or_true, Bool.or_false, Bool.false_or, Bool.true_or, List.set, List.length_cons, List.length_nil, List.nil_append, List.cons_append, List.append_nil, Nat.reduceAdd, Nat.reduceSub, Nat.reduceMul, Nat.reduceLeDiff, Nat.zero_add, Nat.reduceEqDiff, List.replicate, List.drop, List.take, List.flatMap_cons, List.flatMap_nil, List.foldl_nil, List.foldl_cons, decide_true, decide_false, and_self, and_true, true_and, BEq.rfl, beq_self_eq_true, Option.map_some, Option.map_none, Option.bind_some, Option.bind_none, List.getElem?_toArray, Option.isSome_some, Option.isSome_none, beqs, ge_iff_le, gt_iff_lt, ne_eq, not_true_eq_false, not_false_eq_true, false_or, or_false, or_self, Nat.reduceLT, false_and, and_false, List.nil_append, evEq, eqc, optO, rs_P, lenms rs_P, hg, hw, hga, hz, ixms hi, Nat.zero_add, ldms1 hir, sliceToms hi', pu, WC_skip]
        rw [WC_block, WC_region]
        simp only [evRegion, Bool.false_eq_true, if_false, if_true, reduceIte, evOps, evStep, wantedA, evOp, opv, putA, ret1, ofVal, ofVal1, cellsOf, AV.isCell, clean, evFieldAddr, evField, evBin, evUn, evExtract, evBuild, evIndex, evBuiltin, evConv, evMakeSlice, evBuildSlice, evNilCheck, ibin, blkRead, mkAgg, mkTup, mapO, AV.pure?, setAt, afill, parts, calleeOf, tell, scalar, scalarL, frz, norm, normL, ids, Go.Ev.mark, deep, evResults, evResult, aggCells, partA, List.getElem?_cons_zero, List.getElem?_cons_succ, List.getElem?_nil, List.map_cons, List.map_nil, List.all_cons, List.all_nil, Bool.and_true, Bool.true_and, Bool.and_false, Bool.false_and, Bool.and_self, Bool.not_true, Bool.not_false, Bool.or_true, Bool.or_false, Bool.false_or, Bool.true_or, List.set, List.length_cons, List.length_nil, List.nil_append, List.cons_append, List.append_nil, Nat.reduceAdd, Nat.reduceSub, Nat.reduceMul, Nat.reduceLeDiff, Nat.zero_add, Nat.reduceEqDiff, List.replicate, List.drop, List.take, List.flatMap_cons, List.flatMap_nil, List.foldl_nil, List.foldl_cons, decide_true, decide_false, and_self, and_true, true_and, BEq.rfl, beq_self_eq_true, Option.map_some, Option.map_none, Option.bind_some, Option.bind_none, List.getElem?_toArray, Option.isSome_some, Option.isSome_none, beqs, ge_iff_le, gt_iff_lt, ne_eq, not_true_eq_false, not_false_eq_true, false_or, or_false, or_self, Nat.reduceLT, false_and, and_false, List.nil_append, evEq, eqc, optO, rs_P, lenms rs_P, hg, hw, hga, hz, ixms hi, Nat.zero_add, ldms1 hir, sliceToms hi', pu]
        subst ha
        rw [trim_zero]
        exact he
      · have hz : ((a : Int) == 0) = false := by simp; omega
        refine ⟨.p (.bool false), ?_⟩
        rw [← hL, WC_loop, hL, WC_seq, WC_seq, WC_region]
        simp only [evRegion, Bool.false_eq_true, if_false, if_true, reduceIte, evOps, evStep, wantedA, evOp, opv, putA, ret1, ofVal, ofVal1, cellsOf, AV.isCell, clean, evFieldAddr, evField, evBin, evUn, evExtract, evBuild, evIndex, evBuiltin, evConv, evMakeSlice, evBuildSlice, evNilCheck, ibin, blkRead, mkAgg, mkTup, mapO, AV.pure?, setAt, afill, parts, calleeOf, tell, scalar, scalarL, frz, norm, normL, ids, Go.Ev.mark, deep, evResults, evResult, aggCells, partA, List.getElem?_cons_zero, List.getElem?_cons_succ, List.getElem?_nil, List.map_cons, List.map_nil, List.all_cons, List.all_nil, Bool.and_true, Bool.true_and, Bool.and_false, Bool.false_and, Bool.and_self, Bool.not_true, Bool.not_false, Bool.or_true, Bool.or_false, Bool.false_or, Bool.true_or, List.set, List.length_cons, List.length_nil, List.nil_append, List.cons_append, List.append_nil, Nat.reduceAdd, Nat.reduceSub, Nat.reduceMul, Nat.reduceLeDiff, Nat.zero_add, Nat.reduceEqDiff, List.replicate, List.drop, List.take, List.flatMap_cons, List.flatMap_nil, List.foldl_nil, List.foldl_cons, decide_true, decide_false, and_self, and_true, true_and, BEq.rfl, beq_self_eq_true, Option.map_some, Option.map_none, Option.bind_some, Option.bind_none, List.getElem?_toArray, Option.isSome_some, Option.isSome_none, beqs, ge_iff_le, gt_iff_lt, ne_eq, not_true_eq_false, not_false_eq_true, false_or, or_false, or_self, Nat.reduceLT, false_and, and_false, List.nil_append, evEq, eqc, optO, rs_P, lenms rs_P, hg, hw, hga, hz, ixms hi, Nat.zero_add, ldms1 hir, sliceToms hi', pu]
        rw [WC_cond]
        simp only [evRegion, Bool.false_eq_true, if_false, if_true, reduceIte, evOps, evStep, wantedA, evOp, opv, putA, ret1, ofVal, ofVal1, cellsOf, AV.isCell, clean, evFieldAddr, evField, evBin, evUn, evExtract, evBuild, evIndex, evBuiltin, evConv, evMakeSlice, evBuildSlice, evNilCheck, ibin, blkRead, mkAgg, mkTup, mapO, AV.pure?, setAt, afill, parts, calleeOf, tell, scalar, scalarL, frz, norm, normL, ids, Go.Ev.mark, deep, evResults, evResult, aggCells, partA, List.getElem?_cons_zero, List.getElem?_cons_succ, List.getElem?_nil, List.map_cons, List.map_nil, List.all_cons, List.all_nil, Bool.and_true, Bool.true_and, Bool.and_false, Bool.false_and, Bool.and_self, Bool.not_true, Bool.not_false, Bool.or_true, Bool.or_false, Bool.false_or, Bool.true_or, List.set, List.length_cons, List.length_nil, List.nil_append, List.cons_append, List.append_nil, Nat.reduceAdd, Nat.reduceSub, Nat.reduceMul, Nat.reduceLeDiff, Nat.zero_add, Nat.reduceEqDiff, List.replicate, List.drop, List.take, List.flatMap_cons, List.flatMap_nil, List.foldl_nil, List.foldl_cons, decide_true, decide_false, and_self, and_true, true_and, BEq.rfl, beq_self_eq_true, Option.map_some, Option.map_none, Option.bind_some, Option.bind_none, List.getElem?_toArray, Option.isSome_some, Option.isSome_none, beqs, ge_iff_le, gt_iff_lt, ne_eq, not_true_eq_false, not_false_eq_true, false_or, or_false, or_self, Nat.reduceLT, false_and, and_false, List.nil_append, evEq, eqc, optO, rs_P, lenms rs_P, hg, hw, hga, hz, ixms hi, Nat.zero_add, ldms1 hir, sliceToms hi', pu, WC_exit]
        rw [trim_pos l' ha]
  obtain ⟨v', he⟩ := key _ r [] (by simp) rfl hr (.p .und)
  rw [he]
  simp only [if_true]
  rw [WC_seq, WC_region]
  simp only [evRegion, Bool.false_eq_true, if_false, if_true, reduceIte, evOps, evStep, wantedA, evOp, opv, putA, ret1, ofVal, ofVal1, cellsOf, AV.isCell, clean, evFieldAddr, evField, evBin, evUn, evExtract, evBuild, evIndex, evBuiltin, evConv, evMakeSlice, evBuildSlice, evNilCheck, ibin, blkRead, mkAgg, mkTup, mapO, AV.pure?, setAt, afill, parts, calleeOf, tell, scalar, scalarL, frz, norm, normL, ids, Go.Ev.mark, deep, evResults, evResult, aggCells, partA, List.getElem?_cons_zero, List.getElem?_cons_succ, List.getElem?_nil, List.map_cons, List.map_nil, List.all_cons, List.all_nil, Bool.and_true, Bool.true_and, Bool.and_false, Bool.false_and, Bool.and_self, Bool.not_true, Bool.not_false, Bool.or_true, Bool.or_false, Bool.false_or, Bool.true_or, List.set, List.length_cons, List.length_nil, List.nil_append, List.cons_append, List.append_nil, Nat.reduceAdd, Nat.reduceSub, Nat.reduceMul, Nat.reduceLeDiff, Nat.zero_add, Nat.reduceEqDiff, List.replicate, List.drop, List.take, List.flatMap_cons, List.flatMap_nil, List.foldl_nil, List.foldl_cons, decide_true, decide_false, and_self, and_true, true_and, BEq.rfl, beq_self_eq_true, Option.map_some, Option.map_none, Option.bind_some, Option.bind_none, List.getElem?_toArray, Option.isSome_some, Option.isSome_none, beqs, ge_iff_le, gt_iff_lt, ne_eq, not_true_eq_false, not_false_eq_true, false_or, or_false, or_self, Nat.reduceLT, false_and, and_false, List.nil_append, evEq, eqc, optO, rs_P, WC_ret, fin, show Try.f31.results = #[.tmp 2] from rfl]

end Go.Proofs
set_option linter.unusedSimpArgs false
namespace Go.Proofs
open Go.Ev Go.Mx
theorem rs_lv52 : rsC.lv 52 = [true, true, false, false, true, true, true, true, true, true, false, false, false, false, false, false, false, false, false, true, false, false, false, false, false, true, false, false, false, false, false, false, false, false, false, false, false, false, false, false, false, false, false, false, false, false, false, false, false, false, false, false, false, false, false, false, false, false, false, false, false, false, false, false, false, false, false, false] := by kernel_rfl
theorem val_zeros : ∀ n, val (List.replicate n 0) = 0
  | 0 => rfl
  | n + 1 => by simp only [List.replicate_succ, val, val_zeros n, Nat.mul_zero]
theorem evCall_mem {C : Cfg} {call : CallE} {st : Bool} {f : FuncId} {args : List AV} {H : List ABlk} (h : C.md f = 2) : evCall C call st f args H = call f args H := by
  unfold evCall
  rw [if_neg (by omega), if_pos h]
theorem trim_split (l : List Nat) : ∃ n, l = trim l ++ List.replicate n 0 := by
  have h : ∀ r : List Nat, ∃ n, r = List.replicate n 0 ++ r.dropWhile (· == 0) := by
    intro r
    induction r with
    | nil => exact ⟨0, rfl⟩
    | cons x r ih =>
      by_cases hx : x = 0
      · subst hx
        obtain ⟨n, hn⟩ := ih
        refine ⟨n + 1, ?_⟩
        rw [List.dropWhile_cons_of_pos (by rfl), List.replicate_succ, List.cons_append, ← hn]
      · refine ⟨0, ?_⟩
        rw [List.dropWhile_cons_of_neg (by simpa using hx)]
        rfl
  obtain ⟨n, hn⟩ := h l.reverse
  refine ⟨n, ?_⟩
  have := congrArg List.reverse hn
  rw [List.reverse_reverse, List.reverse_append, List.reverse_replicate] at this
  exact this
theorem trim_le (l : List Nat) : (trim l).length ≤ l.length := by
  obtain ⟨n, hn⟩ := trim_split l
  have := congrArg List.length hn
  simp at this
  omega
theorem trim_take (l : List Nat) : l.take (trim l).length = trim l := by
  obtain ⟨n, hn⟩ := trim_split l
  have h := congrArg (List.take (trim l).length) hn
  rw [List.take_left' rfl] at h
  exact h
theorem trim_last {l : List Nat} : ∀ h : trim l ≠ [], (trim l).getLast h ≠ 0 := by
  intro h
  unfold trim at h ⊢
  rw [List.getLast_reverse]
  have := List.head_dropWhile_not (fun x => x == 0) (l := l.reverse) (by simpa using h)
  simpa using this
theorem trim_toL {l : List Nat} (h : Limbs l) : trim l = toL (val l) := by
  obtain ⟨n, hn⟩ := trim_split l
  have hv : val l = val (trim l) := by
    conv => lhs; rw [hn]
    rw [val_append, val_zeros, Nat.mul_zero, Nat.add_zero]
  rw [hv]
  refine (toL_val (fun x hx => h x ?_) trim_last).symm
  rw [hn]; exact List.mem_append_left _ hx
theorem frz_lb {o : List Nat} {fz : Bool} {k : Nat} (h : k ≤ o.length) : frz false [⟨0, fz, lb o⟩] deep (.ms 0 0 0 k 1) = some (.sl k false ((o.take k).map pu)) := by
  have hm : ∀ (d : Nat) (l : List Nat), mapO (frz false [⟨0, fz, lb o⟩] d) (l.map fun n => .p (pu n)) = some (l.map pu) := by
    intro d l
    induction l with
    | nil => rfl
    | cons x l ih =>
      have hx : frz false [⟨0, fz, lb o⟩] d (.p (pu x)) = some (pu x) := by cases d <;> rfl
      simp only [List.map_cons, mapO, ih, hx]
  show frz false [⟨0, fz, lb o⟩] (5 + 1) (.ms 0 0 0 k 1) = _
  simp only [frz, List.getElem?_cons_zero]
  rw [if_pos ⟨trivial, by simp [lb]; omega, .inl trivial⟩]
  have e : ((lb o).drop 0).take (k * 1) = (o.take k).map fun n => .p (pu n) := by simp [lb, List.map_take]
  rw [e, hm]
theorem mk32 {n : Nat} (h : n ≤ 1000000000) {H : List ABlk} : evMakeSlice Try.prog false 24 (.p (.int .i64 (n : Int))) (.p (.int .i64 (n : Int))) H = some (.ms H.length 0 0 n 1, H ++ [⟨0, false, lb (List.replicate n 0)⟩]) := by
  simp only [evMakeSlice, rs_T, rs_T2]
  rw [if_neg (by simp), if_pos ⟨by omega, by omega, by omega, by omega⟩]
  simp [lb, pu]
theorem mulConv {st : Bool} {x : Int} {H : List ABlk} : evConv Try.prog st 25 47 (.p (.int .u32 x)) H = some (.p (.int .u64 (IntKind.u64.wrap x)), H) ∧ evConv Try.prog st 47 25 (.p (.int .u64 x)) H = some (.p (.int .u32 (IntKind.u32.wrap x)), H) := by
  simp only [evConv, Try.underlying25, Try.underlying47, and_self]
set_option maxRecDepth 100000 in
set_option maxHeartbeats 4000000 in
theorem rs_mul (a b : List Nat) (ha : Limbs a) (hb : Limbs b) (hla : a.length ≤ 100000) (hlb : b.length ≤ 100000) : WP rsC 52 [N32 a, N32 b] = some (N32 (toL (val a * val b))) := by
  rw [WP_eq (show rsC.md 52 < 9 by decide) Try.func52 rfl]
  rw [show Try.f52.ntmps = 68 from rfl, rs_lv52]
  simp only [N32, List.map_cons, List.map_nil, List.length_cons, List.length_nil, Nat.reduceAdd, Nat.reduceSub, List.replicate, List.cons_append, List.nil_append]
  rw [WC_seq, WC_region]
  simp only [evRegion, Bool.false_eq_true, if_false, if_true, reduceIte, evOps, evStep, wantedA, evOp, opv, putA, ret1, ofVal, ofVal1, cellsOf, AV.isCell, clean, evFieldAddr, evField, evBin, evUn, evExtract, evBuild, evIndex, evBuiltin, evBuildSlice, evNilCheck, ibin, blkRead, mkAgg, mkTup, mapO, AV.pure?, setAt, afill, parts, calleeOf, tell, scalar, scalarL, frz, norm, normL, ids, Go.Ev.mark, deep, evResults, evResult, aggCells, partA, List.getElem?_cons_zero, List.getElem?_cons_succ, List.getElem?_nil, List.map_cons, List.map_nil, List.all_cons, List.all_nil, Bool.and_true, Bool.true_and, Bool.and_false, Bool.false_and, Bool.and_self, Bool.not_true, Bool.not_false, Bool.or_true, Bool.or_false, Bool.false_or, Bool.true_or, List.set, List.length_cons, List.length_nil, List.nil_append, List.cons_append, List.append_nil, Nat.reduceAdd, Nat.reduceSub, Nat.reduceMul, Nat.reduceLeDiff, Nat.zero_add, Nat.reduceEqDiff, List.replicate, List.drop, List.take, List.flatMap_cons, List.flatMap_nil, List.foldl_nil, List.foldl_cons, decide_true, decide_false, and_self, and_true, true_and, BEq.rfl, beq_self_eq_true, Option.map_some, Option.map_none, Option.bind_some, Option.bind_none, List.getElem?_toArray, Option.isSome_some, Option.isSome_none, beqs, ne_eq, not_true_eq_false, not_false_eq_true, false_or, or_false, or_self, Nat.reduceLT, false_and, and_false, List.nil_append, evEq, eqc, optO, rs_P]
  generalize hI : (Code.loop (((Code.region 7 _ _).seq _).seq _) : Code) = I
  have inner : ∀ (n i m k : Nat) (o : List Nat) (c : Nat) (t9 t19 t25 : AV), k + m = b.length → i < a.length → n = a.length + b.length → o.length = n → Limbs o → c < LB → ∃ (o' : List Nat) (c' : Nat) (t9' t25' : AV),
      WC rsC [true, true, false, false, true, true, true, true, true, true, false, false, false, false, false, false, false, false, false, true, false, false, false, false, false, true, false, false, false, false, false, false, false, false, false, false, false, false, false, false, false, false, false, false, false, false, false, false, false, false, false, false, false, false, false, false, false, false, false, false, false, false, false, false, false, false, false, false] I ⟨[.p (.sl a.length false (a.map pu)), .p (.sl b.length false (b.map pu)), .p .any, .p .any, .p (.nsl true), .ms 0 0 0 n 1, .p (.int .i64 (i : Int)), .p (.int .u64 (c : Int)), .p (.int .i64 (k : Int)), t9, .p .any, .p .any, .p .any, .p .any, .p .any, .p .any, .p .any, .p .any, .p .any, t19, .p .any, .p .any, .p .any, .p .any, .p .any, t25, .p .any, .p .any, .p .any, .p .any, .p .any, .p .any, .p .any, .p .any, .p .any, .p .any, .p .any, .p .any, .p .any, .p .any, .p .any, .p .any, .p .any, .p .any, .p .any, .p .any, .p .any, .p .any, .p .any, .p .any, .p .any, .p .any, .p .any, .p .any, .p .any, .p .any, .p .any, .p .any, .p .any, .p .any, .p .any, .p .any, .p .any, .p .any, .p .any, .p .any, .p .any, .p .any], [⟨0, false, lb o⟩]⟩ = some (.exit 2, ⟨[.p (.sl a.length false (a.map pu)), .p (.sl b.length false (b.map pu)), .p .any, .p .any, .p (.nsl true), .ms 0 0 0 n 1, .p (.int .i64 (i : Int)), .p (.int .u64 (c' : Int)), .p (.int .i64 (b.length : Int)), t9', .p .any, .p .any, .p .any, .p .any, .p .any, .p .any, .p .any, .p .any, .p .any, t19, .p .any, .p .any, .p .any, .p .any, .p .any, t25', .p .any, .p .any, .p .any, .p .any, .p .any, .p .any, .p .any, .p .any, .p .any, .p .any, .p .any, .p .any, .p .any, .p .any, .p .any, .p .any, .p .any, .p .any, .p .any, .p .any, .p .any, .p .any, .p .any, .p .any, .p .any, .p .any, .p .any, .p .any, .p .any, .p .any, .p .any, .p .any, .p .any, .p .any, .p .any, .p .any, .p .any, .p .any, .p .any, .p .any, .p .any, .p .any], [⟨0, false, lb o'⟩]⟩) ∧
      o'.length = n ∧ Limbs o' ∧ c' < LB ∧ val o' + c' * LB ^ (i + b.length) + a.getD i 0 * val (b.take k) * LB ^ i = val o + c * LB ^ (i + k) + a.getD i 0 * val b * LB ^ i ∧ (∀ j, i + b.length ≤ j → o'.getD j 0 = o.getD j 0) := by
    intro n i m
    induction m with
    | zero =>
      intro k o c t9 t19 t25 hk hi hn ho hlo hc
      have hkb : k = b.length := by omega
      subst hkb
      have hlt : decide ((b.length : Int) < (b.length : Int)) = false := by simp
      refine ⟨o, c, t9, .p (.bool false), ?_, ho, hlo, hc, by rw [List.take_length], fun _ _ => rfl⟩
      rw [← hI, WC_loop, hI, WC_seq, WC_seq, WC_region]
      simp only [evRegion, Bool.false_eq_true, if_false, if_true, reduceIte, evOps, evStep, wantedA, evOp, opv, putA, ret1, ofVal, ofVal1, cellsOf, AV.isCell, clean, evFieldAddr, evField, evBin, evUn, evExtract, evBuild, evIndex, evBuiltin, evBuildSlice, evNilCheck, ibin, blkRead, mkAgg, mkTup, mapO, AV.pure?, setAt, afill, parts, calleeOf, tell, scalar, scalarL, frz, norm, normL, ids, Go.Ev.mark, deep, evResults, evResult, aggCells, partA, List.getElem?_cons_zero, List.getElem?_cons_succ, List.getElem?_nil, List.map_cons, List.map_nil, List.all_cons, List.all_nil, Bool.and_true, Bool.true_and, Bool.and_false, Bool.false_and, Bool.and_self, Bool.not_true, Bool.not_false, Bool.or_true, Bool.or_false, Bool.false_or, Bool.true_or, List.set, List.length_cons, List.length_nil, List.nil_append, List.cons_append, List.append_nil, Nat.reduceAdd, Nat.reduceSub, Nat.reduceMul, Nat.reduceLeDiff, Nat.zero_add, Nat.reduceEqDiff, List.replicate, List.drop, List.take, List.flatMap_cons, List.flatMap_nil, List.foldl_nil, List.foldl_cons, decide_true, decide_false, and_self, and_true, true_and, BEq.rfl, beq_self_eq_true, Option.map_some, Option.map_none, Option.bind_some, Option.bind_none, List.getElem?_toArray, Option.isSome_some, Option.isSome_none, beqs, ne_eq, not_true_eq_false, not_false_eq_true, false_or, or_false, or_self, Nat.reduceLT, false_and, and_false, List.nil_append, evEq, eqc, optO, rs_P, len32 rs_P, hlt]
      rw [WC_cond]
      simp only [evRegion, Bool.false_eq_true, if_false, if_true, reduceIte, evOps, evStep, wantedA, evOp, opv, putA, ret1, ofVal, ofVal1, cellsOf, AV.isCell, clean, evFieldAddr, evField, evBin, evUn, evExtract, evBuild, evIndex, evBuiltin, evBuildSlice, evNilCheck, ibin, blkRead, mkAgg, mkTup, mapO, AV.pure?, setAt, afill, parts, calleeOf, tell, scalar, scalarL, frz, norm, normL, ids, Go.Ev.mark, deep, evResults, evResult, aggCells, partA, List.getElem?_cons_zero, List.getElem?_cons_succ, List.getElem?_nil, List.map_cons, List.map_nil, List.all_cons, List.all_nil, Bool.and_true, Bool.true_and, Bool.and_false, Bool.false_and, Bool.and_self, Bool.not_true, Bool.not_false, Bool.or_true, Bool.or_false, Bool.false_or, Bool.true_or, List.set, List.length_cons, List.length_nil, List.nil_append, List.cons_append, List.append_nil, Nat.reduceAdd, Nat.reduceSub, Nat.reduceMul, Nat.reduceLeDiff, Nat.zero_add, Nat.reduceEqDiff, List.replicate, List.drop, List.take, List.flatMap_cons, List.flatMap_nil, List.foldl_nil, List.foldl_cons, decide_true, decide_false, and_self, and_true, true_and, BEq.rfl, beq_self_eq_true, Option.map_some, Option.map_none, Option.bind_some, Option.bind_none, List.getElem?_toArray, Option.isSome_some, Option.isSome_none, beqs, ne_eq, not_true_eq_false, not_false_eq_true, false_or, or_false, or_self, Nat.reduceLT, false_and, and_false, List.nil_append, evEq, eqc, optO, WC_exit]
    | succ m ih =>
      intro k o c t9 t19 t25 hkm hi hn ho hlo hc
      have hk : k < b.length := by omega
      have hlt : decide ((k : Int) < (b.length : Int)) = true := by simp; omega
      have hj : i + k < o.length := by omega
      have hjn : i + k < n := by omega
      have hx := limbs_getD ha i
      have hy := limbs_getD hb k
      have hw := limbs_getD hlo (i + k)
      have hv0 := val_take_succ b k hk
      generalize hxx : a.getD i 0 = x at *
      generalize hyy : b.getD k 0 = y at *
      generalize hww : o.getD (i + k) 0 = w at *
      have hLB : LB = 4294967296 := rfl
      have hxy : x * y ≤ 4294967295 * 4294967295 := Nat.mul_le_mul (by omega) (by omega)
      have hik : IntKind.i64.wrap ((i : Int) + (k : Int)) = ((i + k : Nat) : Int) := by rw [wrap_i64 (by omega) (by omega)]; omega
      have hk1 : IntKind.i64.wrap ((k : Int) + 1) = ((k + 1 : Nat) : Int) := by rw [wrap_i64 (by omega) (by omega)]; omega
      have hx64 : IntKind.u64.wrap ((x : Nat) : Int) = (x : Int) := wrap_u64 (by omega) (by omega)
      have hy64 : IntKind.u64.wrap ((y : Nat) : Int) = (y : Int) := wrap_u64 (by omega) (by omega)
      have ho64 : IntKind.u64.wrap ((w : Nat) : Int) = (w : Int) := wrap_u64 (by omega) (by omega)
      have hm : IntKind.u64.wrap ((x : Int) * (y : Int)) = ((x * y : Nat) : Int) := by rw [← Int.natCast_mul]; exact wrap_u64 (by omega) (by omega)
      have hs1 : IntKind.u64.wrap ((w : Int) + ((x * y : Nat) : Int)) = ((w + x * y : Nat) : Int) := by rw [← Int.natCast_add]; exact wrap_u64 (by omega) (by omega)
      have hs2 : IntKind.u64.wrap (((w + x * y : Nat) : Int) + (c : Int)) = ((w + x * y + c : Nat) : Int) := by rw [← Int.natCast_add]; exact wrap_u64 (by omega) (by omega)
      have e1 := ldms1 (ver := 0) (fz := false) hj
      have e2 := ld32 (H := [⟨0, false, lb o⟩]) hi
      have e3 := ld32 (H := [⟨0, false, lb o⟩]) hk
      rw [hww] at e1
      rw [hxx] at e2
      rw [hyy] at e3
      obtain ⟨o', c', t9', t25', h1, h2, h3, h4, h5, h6⟩ := ih (k + 1) (o.set (i + k) ((w + x * y + c) % LB)) ((w + x * y + c) / LB) (.p (.int .u64 ((w + x * y + c : Nat) : Int))) t19 (.p (.bool true)) (by omega) hi hn (by simpa using ho) (limbs_set hlo (Nat.mod_lt _ (by decide))) (by
        rw [Nat.div_lt_iff_lt_mul (by decide)]
        have : LB * LB = 18446744073709551616 := rfl
        omega)
      refine ⟨o', c', t9', t25', ?_, h2, h3, h4, ?_, fun j hj2 => ?_⟩
      · rw [← hI, WC_loop, hI, WC_seq, WC_seq, WC_region]
        simp only [evRegion, Bool.false_eq_true, if_false, if_true, reduceIte, evOps, evStep, wantedA, evOp, opv, putA, ret1, ofVal, ofVal1, cellsOf, AV.isCell, clean, evFieldAddr, evField, evBin, evUn, evExtract, evBuild, evIndex, evBuiltin, evBuildSlice, evNilCheck, ibin, blkRead, mkAgg, mkTup, mapO, AV.pure?, setAt, afill, parts, calleeOf, tell, scalar, scalarL, frz, norm, normL, ids, Go.Ev.mark, deep, evResults, evResult, aggCells, partA, List.getElem?_cons_zero, List.getElem?_cons_succ, List.getElem?_nil, List.map_cons, List.map_nil, List.all_cons, List.all_nil, Bool.and_true, Bool.true_and, Bool.and_false, Bool.false_and, Bool.and_self, Bool.not_true, Bool.not_false, Bool.or_true, Bool.or_false, Bool.false_or, Bool.true_or, List.set, List.length_cons, List.length_nil, List.nil_append, List.cons_append, List.append_nil, Nat.reduceAdd, Nat.reduceSub, Nat.reduceMul, Nat.reduceLeDiff, Nat.zero_add, Nat.reduceEqDiff, List.replicate, List.drop, List.take, List.flatMap_cons, List.flatMap_nil, List.foldl_nil, List.foldl_cons, decide_true, decide_false, and_self, and_true, true_and, BEq.rfl, beq_self_eq_true, Option.map_some, Option.map_none, Option.bind_some, Option.bind_none, List.getElem?_toArray, Option.isSome_some, Option.isSome_none, beqs, ne_eq, not_true_eq_false, not_false_eq_true, false_or, or_false, or_self, Nat.reduceLT, false_and, and_false, List.nil_append, evEq, eqc, optO, rs_P, len32 rs_P, hlt]
        rw [WC_cond]
        simp only [evRegion, Bool.false_eq_true, if_false, if_true, reduceIte, evOps, evStep, wantedA, evOp, opv, putA, ret1, ofVal, ofVal1, cellsOf, AV.isCell, clean, evFieldAddr, evField, evBin, evUn, evExtract, evBuild, evIndex, evBuiltin, evBuildSlice, evNilCheck, ibin, blkRead, mkAgg, mkTup, mapO, AV.pure?, setAt, afill, parts, calleeOf, tell, scalar, scalarL, frz, norm, normL, ids, Go.Ev.mark, deep, evResults, evResult, aggCells, partA, List.getElem?_cons_zero, List.getElem?_cons_succ, List.getElem?_nil, List.map_cons, List.map_nil, List.all_cons, List.all_nil, Bool.and_true, Bool.true_and, Bool.and_false, Bool.false_and, Bool.and_self, Bool.not_true, Bool.not_false, Bool.or_true, Bool.or_false, Bool.false_or, Bool.true_or, List.set, List.length_cons, List.length_nil, List.nil_append, List.cons_append, List.append_nil, Nat.reduceAdd, Nat.reduceSub, Nat.reduceMul, Nat.reduceLeDiff, Nat.zero_add, Nat.reduceEqDiff, List.replicate, List.drop, List.take, List.flatMap_cons, List.flatMap_nil, List.foldl_nil, List.foldl_cons, decide_true, decide_false, and_self, and_true, true_and, BEq.rfl, beq_self_eq_true, Option.map_some, Option.map_none, Option.bind_some, Option.bind_none, List.getElem?_toArray, Option.isSome_some, Option.isSome_none, beqs, ne_eq, not_true_eq_false, not_false_eq_true, false_or, or_false, or_self, Nat.reduceLT, false_and, and_false, List.nil_append, evEq, eqc, optO, WC_skip]
        rw [WC_seq, WC_block, WC_seq, WC_region]
        simp only [evRegion, Bool.false_eq_true, if_false, if_true, reduceIte, evOps, evStep, wantedA, evOp, opv, putA, ret1, ofVal, ofVal1, cellsOf, AV.isCell, clean, evFieldAddr, evField, evBin, evUn, evExtract, evBuild, evIndex, evBuiltin, evBuildSlice, evNilCheck, ibin, blkRead, mkAgg, mkTup, mapO, AV.pure?, setAt, afill, parts, calleeOf, tell, scalar, scalarL, frz, norm, normL, ids, Go.Ev.mark, deep, evResults, evResult, aggCells, partA, List.getElem?_cons_zero, List.getElem?_cons_succ, List.getElem?_nil, List.map_cons, List.map_nil, List.all_cons, List.all_nil, Bool.and_true, Bool.true_and, Bool.and_false, Bool.false_and, Bool.and_self, Bool.not_true, Bool.not_false, Bool.or_true, Bool.or_false, Bool.false_or, Bool.true_or, List.set, List.length_cons, List.length_nil, List.nil_append, List.cons_append, List.append_nil, Nat.reduceAdd, Nat.reduceSub, Nat.reduceMul, Nat.reduceLeDiff, Nat.zero_add, Nat.reduceEqDiff, List.replicate, List.drop, List.take, List.flatMap_cons, List.flatMap_nil, List.foldl_nil, List.foldl_cons, decide_true, decide_false, and_self, and_true, true_and, BEq.rfl, beq_self_eq_true, Option.map_some, Option.map_none, Option.bind_some, Option.bind_none, List.getElem?_toArray, Option.isSome_some, Option.isSome_none, beqs, ne_eq, not_true_eq_false, not_false_eq_true, false_or, or_false, or_self, Nat.reduceLT, false_and, and_false, List.nil_append, evEq, eqc, optO, rs_P, len32 rs_P, hlt, flags, List.zipWith, Bool.or_self, Nat.le_refl, hik, ixms hjn, ix32 hi, ix32 hk, pu, hx64, hy64, ho64, hm, hs1, hs2, stms1 hj, wrap_u32, shr32, mulConv, Go.Ev.clean, e1, e2, e3]
        rw [WC_seq, WC_region]
        simp only [evRegion, Bool.false_eq_true, if_false, if_true, reduceIte, evOps, evStep, wantedA, evOp, opv, putA, ret1, ofVal, ofVal1, cellsOf, AV.isCell, clean, evFieldAddr, evField, evBin, evUn, evExtract, evBuild, evIndex, evBuiltin, evBuildSlice, evNilCheck, ibin, blkRead, mkAgg, mkTup, mapO, AV.pure?, setAt, afill, parts, calleeOf, tell, scalar, scalarL, frz, norm, normL, ids, Go.Ev.mark, deep, evResults, evResult, aggCells, partA, List.getElem?_cons_zero, List.getElem?_cons_succ, List.getElem?_nil, List.map_cons, List.map_nil, List.all_cons, List.all_nil, Bool.and_true, Bool.true_and, Bool.and_false, Bool.false_and, Bool.and_self, Bool.not_true, Bool.not_false, Bool.or_true, Bool.or_false, Bool.false_or, Bool.true_or, List.set, List.length_cons, List.length_nil, List.nil_append, List.cons_append, List.append_nil, Nat.reduceAdd, Nat.reduceSub, Nat.reduceMul, Nat.reduceLeDiff, Nat.zero_add, Nat.reduceEqDiff, List.replicate, List.drop, List.take, List.flatMap_cons, List.flatMap_nil, List.foldl_nil, List.foldl_cons, decide_true, decide_false, and_self, and_true, true_and, BEq.rfl, beq_self_eq_true, Option.map_some, Option.map_none, Option.bind_some, Option.bind_none, List.getElem?_toArray, Option.isSome_some, Option.isSome_none, beqs, ne_eq, not_true_eq_false, not_false_eq_true, false_or, or_false, or_self, Nat.reduceLT, false_and, and_false, List.nil_append, evEq, eqc, optO, rs_P, len32 rs_P, hlt, flags, List.zipWith, Bool.or_self, Nat.le_refl, hik, ixms hjn, ix32 hi, ix32 hk, pu, hx64, hy64, ho64, hm, hs1, hs2, stms1 hj, wrap_u32, shr32, mulConv, Go.Ev.clean]
        rw [WC_region]
        simp only [evRegion, Bool.false_eq_true, if_false, if_true, reduceIte, evOps, evStep, wantedA, evOp, opv, putA, ret1, ofVal, ofVal1, cellsOf, AV.isCell, clean, evFieldAddr, evField, evBin, evUn, evExtract, evBuild, evIndex, evBuiltin, evBuildSlice, evNilCheck, ibin, blkRead, mkAgg, mkTup, mapO, AV.pure?, setAt, afill, parts, calleeOf, tell, scalar, scalarL, frz, norm, normL, ids, Go.Ev.mark, deep, evResults, evResult, aggCells, partA, List.getElem?_cons_zero, List.getElem?_cons_succ, List.getElem?_nil, List.map_cons, List.map_nil, List.all_cons, List.all_nil, Bool.and_true, Bool.true_and, Bool.and_false, Bool.false_and, Bool.and_self, Bool.not_true, Bool.not_false, Bool.or_true, Bool.or_false, Bool.false_or, Bool.true_or, List.set, List.length_cons, List.length_nil, List.nil_append, List.cons_append, List.append_nil, Nat.reduceAdd, Nat.reduceSub, Nat.reduceMul, Nat.reduceLeDiff, Nat.zero_add, Nat.reduceEqDiff, List.replicate, List.drop, List.take, List.flatMap_cons, List.flatMap_nil, List.foldl_nil, List.foldl_cons, decide_true, decide_false, and_self, and_true, true_and, BEq.rfl, beq_self_eq_true, Option.map_some, Option.map_none, Option.bind_some, Option.bind_none, List.getElem?_toArray, Option.isSome_some, Option.isSome_none, beqs, ne_eq, not_true_eq_false, not_false_eq_true, false_or, or_false, or_self, Nat.reduceLT, false_and, and_false, List.nil_append, evEq, eqc, optO, rs_P, len32 rs_P, hlt, flags, List.zipWith, Bool.or_self, Nat.le_refl, hik, ixms hjn, ix32 hi, ix32 hk, pu, hx64, hy64, ho64, hm, hs1, hs2, stms1 hj, wrap_u32, shr32, mulConv, Go.Ev.clean]
        rw [WC_region]
        simp only [evRegion, Bool.false_eq_true, if_false, if_true, reduceIte, evOps, evStep, wantedA, evOp, opv, putA, ret1, ofVal, ofVal1, cellsOf, AV.isCell, clean, evFieldAddr, evField, evBin, evUn, evExtract, evBuild, evIndex, evBuiltin, evBuildSlice, evNilCheck, ibin, blkRead, mkAgg, mkTup, mapO, AV.pure?, setAt, afill, parts, calleeOf, tell, scalar, scalarL, frz, norm, normL, ids, Go.Ev.mark, deep, evResults, evResult, aggCells, partA, List.getElem?_cons_zero, List.getElem?_cons_succ, List.getElem?_nil, List.map_cons, List.map_nil, List.all_cons, List.all_nil, Bool.and_true, Bool.true_and, Bool.and_false, Bool.false_and, Bool.and_self, Bool.not_true, Bool.not_false, Bool.or_true, Bool.or_false, Bool.false_or, Bool.true_or, List.set, List.length_cons, List.length_nil, List.nil_append, List.cons_append, List.append_nil, Nat.reduceAdd, Nat.reduceSub, Nat.reduceMul, Nat.reduceLeDiff, Nat.zero_add, Nat.reduceEqDiff, List.replicate, List.drop, List.take, List.flatMap_cons, List.flatMap_nil, List.foldl_nil, List.foldl_cons, decide_true, decide_false, and_self, and_true, true_and, BEq.rfl, beq_self_eq_true, Option.map_some, Option.map_none, Option.bind_some, Option.bind_none, List.getElem?_toArray, Option.isSome_some, Option.isSome_none, beqs, ne_eq, not_true_eq_false, not_false_eq_true, false_or, or_false, or_self, Nat.reduceLT, false_and, and_false, List.nil_append, evEq, eqc, optO, rs_P, hk1]
        exact h1
      · have hvs := val_set o (i + k) ((w + x * y + c) % LB) hj
        rw [hww] at hvs
        rw [hv0] at h5
        generalize hP : LB ^ (i + k) = P at hvs ⊢
        have hP1 : LB ^ (i + (k + 1)) = P * LB := by rw [← hP, ← Nat.add_assoc, Nat.pow_succ]
        have hP2 : LB ^ i * LB ^ k = P := by rw [← hP, Nat.pow_add]
        rw [hP1] at h5
        generalize hs : w + x * y + c = s at *
        have a1 : s % LB * P + s / LB * (P * LB) = s * P := by
          have h := Nat.div_add_mod s LB
          have h' := congrArg (· * P) h
          simp only [Nat.add_mul] at h'
          have e : s / LB * (P * LB) = LB * (s / LB) * P := by simp only [Nat.mul_comm, Nat.mul_left_comm, Nat.mul_assoc]
          omega
        have a2 : s * P = w * P + x * y * P + c * P := by rw [← hs, Nat.add_mul, Nat.add_mul]
        have a3 : x * (val (List.take k b) + y * LB ^ k) * LB ^ i = x * val (List.take k b) * LB ^ i + x * y * P := by
          rw [Nat.mul_add, Nat.add_mul, ← hP2]
          simp only [Nat.mul_comm, Nat.mul_left_comm, Nat.mul_assoc]
        rw [a3] at h5
        omega
      · rw [h6 j hj2, List.getD_eq_getElem?_getD, List.getElem?_set_ne (by omega), ← List.getD_eq_getElem?_getD]
  have hsum : IntKind.i64.wrap ((a.length : Int) + (b.length : Int)) = ((a.length + b.length : Nat) : Int) := by rw [wrap_i64 (by omega) (by omega)]; omega
  rw [WC_seq, WC_region]
  simp only [evRegion, Bool.false_eq_true, if_false, if_true, reduceIte, evOps, evStep, wantedA, evOp, opv, putA, ret1, ofVal, ofVal1, cellsOf, AV.isCell, clean, evFieldAddr, evField, evBin, evUn, evExtract, evBuild, evIndex, evBuiltin, evBuildSlice, evNilCheck, ibin, blkRead, mkAgg, mkTup, mapO, AV.pure?, setAt, afill, parts, calleeOf, tell, scalar, scalarL, frz, norm, normL, ids, Go.Ev.mark, deep, evResults, evResult, aggCells, partA, List.getElem?_cons_zero, List.getElem?_cons_succ, List.getElem?_nil, List.map_cons, List.map_nil, List.all_cons, List.all_nil, Bool.and_true, Bool.true_and, Bool.and_false, Bool.false_and, Bool.and_self, Bool.not_true, Bool.not_false, Bool.or_true, Bool.or_false, Bool.false_or, Bool.true_or, List.set, List.length_cons, List.length_nil, List.nil_append, List.cons_append, List.append_nil, Nat.reduceAdd, Nat.reduceSub, Nat.reduceMul, Nat.reduceLeDiff, Nat.zero_add, Nat.reduceEqDiff, List.replicate, List.drop, List.take, List.flatMap_cons, List.flatMap_nil, List.foldl_nil, List.foldl_cons, decide_true, decide_false, and_self, and_true, true_and, BEq.rfl, beq_self_eq_true, Option.map_some, Option.map_none, Option.bind_some, Option.bind_none, List.getElem?_toArray, Option.isSome_some, Option.isSome_none, beqs, ne_eq, not_true_eq_false, not_false_eq_true, false_or, or_false, or_self, Nat.reduceLT, false_and, and_false, List.nil_append, evEq, eqc, optO, rs_P, len32 rs_P, hsum, mk32 (n := a.length + b.length) (by omega)]
  rw [WC_seq, WC_seq, WC_region]
  simp only [evRegion, Bool.false_eq_true, if_false, if_true, reduceIte, evOps, evStep, wantedA, evOp, opv, putA, ret1, ofVal, ofVal1, cellsOf, AV.isCell, clean, evFieldAddr, evField, evBin, evUn, evExtract, evBuild, evIndex, evBuiltin, evBuildSlice, evNilCheck, ibin, blkRead, mkAgg, mkTup, mapO, AV.pure?, setAt, afill, parts, calleeOf, tell, scalar, scalarL, frz, norm, normL, ids, Go.Ev.mark, deep, evResults, evResult, aggCells, partA, List.getElem?_cons_zero, List.getElem?_cons_succ, List.getElem?_nil, List.map_cons, List.map_nil, List.all_cons, List.all_nil, Bool.and_true, Bool.true_and, Bool.and_false, Bool.false_and, Bool.and_self, Bool.not_true, Bool.not_false, Bool.or_true, Bool.or_false, Bool.false_or, Bool.true_or, List.set, List.length_cons, List.length_nil, List.nil_append, List.cons_append, List.append_nil, Nat.reduceAdd, Nat.reduceSub, Nat.reduceMul, Nat.reduceLeDiff, Nat.zero_add, Nat.reduceEqDiff, List.replicate, List.drop, List.take, List.flatMap_cons, List.flatMap_nil, List.foldl_nil, List.foldl_cons, decide_true, decide_false, and_self, and_true, true_and, BEq.rfl, beq_self_eq_true, Option.map_some, Option.map_none, Option.bind_some, Option.bind_none, List.getElem?_toArray, Option.isSome_some, Option.isSome_none, beqs, ne_eq, not_true_eq_false, not_false_eq_true, false_or, or_false, or_self, Nat.reduceLT, false_and, and_false, List.nil_append, evEq, eqc, optO, rs_P]
  rw [WC_block]
  generalize hO : (Code.loop _ : Code) = O
  have outer : ∀ (n m i : Nat) (o : List Nat) (t7 t8 t9 t19 t25 : AV), i + m = a.length → n = a.length + b.length → o.length = n → Limbs o → val o = val (a.take i) * val b → (∀ j, i + b.length ≤ j → o.getD j 0 = 0) → ∃ (o' : List Nat) (t7' t8' t9' t19' t25' : AV),
      WC rsC [true, true, false, false, true, true, true, true, true, true, false, false, false, false, false, false, false, false, false, true, false, false, false, false, false, true, false, false, false, false, false, false, false, false, false, false, false, false, false, false, false, false, false, false, false, false, false, false, false, false, false, false, false, false, false, false, false, false, false, false, false, false, false, false, false, false, false, false] O ⟨[.p (.sl a.length false (a.map pu)), .p (.sl b.length false (b.map pu)), .p .any, .p .any, .p (.nsl true), .ms 0 0 0 n 1, .p (.int .i64 (i : Int)), t7, t8, t9, .p .any, .p .any, .p .any, .p .any, .p .any, .p .any, .p .any, .p .any, .p .any, t19, .p .any, .p .any, .p .any, .p .any, .p .any, t25, .p .any, .p .any, .p .any, .p .any, .p .any, .p .any, .p .any, .p .any, .p .any, .p .any, .p .any, .p .any, .p .any, .p .any, .p .any, .p .any, .p .any, .p .any, .p .any, .p .any, .p .any, .p .any, .p .any, .p .any, .p .any, .p .any, .p .any, .p .any, .p .any, .p .any, .p .any, .p .any, .p .any, .p .any, .p .any, .p .any, .p .any, .p .any, .p .any, .p .any, .p .any, .p .any], [⟨0, false, lb o⟩]⟩ = some (.exit 0, ⟨[.p (.sl a.length false (a.map pu)), .p (.sl b.length false (b.map pu)), .p .any, .p .any, .p (.nsl true), .ms 0 0 0 n 1, .p (.int .i64 (a.length : Int)), t7', t8', t9', .p .any, .p .any, .p .any, .p .any, .p .any, .p .any, .p .any, .p .any, .p .any, t19', .p .any, .p .any, .p .any, .p .any, .p .any, t25', .p .any, .p .any, .p .any, .p .any, .p .any, .p .any, .p .any, .p .any, .p .any, .p .any, .p .any, .p .any, .p .any, .p .any, .p .any, .p .any, .p .any, .p .any, .p .any, .p .any, .p .any, .p .any, .p .any, .p .any, .p .any, .p .any, .p .any, .p .any, .p .any, .p .any, .p .any, .p .any, .p .any, .p .any, .p .any, .p .any, .p .any, .p .any, .p .any, .p .any, .p .any, .p .any], [⟨0, false, lb o'⟩]⟩) ∧ o'.length = n ∧ Limbs o' ∧ val o' = val a * val b := by
    intro n m
    induction m with
    | zero =>
      intro i o t7 t8 t9 t19 t25 hi hn ho hlo hv hz
      have hia : i = a.length := by omega
      subst hia
      have hlt : decide ((a.length : Int) < (a.length : Int)) = false := by simp
      refine ⟨o, t7, t8, t9, .p (.bool false), t25, ?_, ho, hlo, by rw [hv, List.take_length]⟩
      rw [← hO, WC_loop, hO, WC_seq, WC_seq, WC_region]
      simp only [evRegion, Bool.false_eq_true, if_false, if_true, reduceIte, evOps, evStep, wantedA, evOp, opv, putA, ret1, ofVal, ofVal1, cellsOf, AV.isCell, clean, evFieldAddr, evField, evBin, evUn, evExtract, evBuild, evIndex, evBuiltin, evBuildSlice, evNilCheck, ibin, blkRead, mkAgg, mkTup, mapO, AV.pure?, setAt, afill, parts, calleeOf, tell, scalar, scalarL, frz, norm, normL, ids, Go.Ev.mark, deep, evResults, evResult, aggCells, partA, List.getElem?_cons_zero, List.getElem?_cons_succ, List.getElem?_nil, List.map_cons, List.map_nil, List.all_cons, List.all_nil, Bool.and_true, Bool.true_and, Bool.and_false, Bool.false_and, Bool.and_self, Bool.not_true, Bool.not_false, Bool.or_true, Bool.or_false, Bool.false_or, Bool.true_or, List.set, List.length_cons, List.length_nil, List.nil_append, List.cons_append, List.append_nil, Nat.reduceAdd, Nat.reduceSub, Nat.reduceMul, Nat.reduceLeDiff, Nat.zero_add, Nat.reduceEqDiff, List.replicate, List.drop, List.take, List.flatMap_cons, List.flatMap_nil, List.foldl_nil, List.foldl_cons, decide_true, decide_false, and_self, and_true, true_and, BEq.rfl, beq_self_eq_true, Option.map_some, Option.map_none, Option.bind_some, Option.bind_none, List.getElem?_toArray, Option.isSome_some, Option.isSome_none, beqs, ne_eq, not_true_eq_false, not_false_eq_true, false_or, or_false, or_self, Nat.reduceLT, false_and, and_false, List.nil_append, evEq, eqc, optO, rs_P, len32 rs_P, hlt]
      rw [WC_cond]
      simp only [evRegion, Bool.false_eq_true, if_false, if_true, reduceIte, evOps, evStep, wantedA, evOp, opv, putA, ret1, ofVal, ofVal1, cellsOf, AV.isCell, clean, evFieldAddr, evField, evBin, evUn, evExtract, evBuild, evIndex, evBuiltin, evBuildSlice, evNilCheck, ibin, blkRead, mkAgg, mkTup, mapO, AV.pure?, setAt, afill, parts, calleeOf, tell, scalar, scalarL, frz, norm, normL, ids, Go.Ev.mark, deep, evResults, evResult, aggCells, partA, List.getElem?_cons_zero, List.getElem?_cons_succ, List.getElem?_nil, List.map_cons, List.map_nil, List.all_cons, List.all_nil, Bool.and_true, Bool.true_and, Bool.and_false, Bool.false_and, Bool.and_self, Bool.not_true, Bool.not_false, Bool.or_true, Bool.or_false, Bool.false_or, Bool.true_or, List.set, List.length_cons, List.length_nil, List.nil_append, List.cons_append, List.append_nil, Nat.reduceAdd, Nat.reduceSub, Nat.reduceMul, Nat.reduceLeDiff, Nat.zero_add, Nat.reduceEqDiff, List.replicate, List.drop, List.take, List.flatMap_cons, List.flatMap_nil, List.foldl_nil, List.foldl_cons, decide_true, decide_false, and_self, and_true, true_and, BEq.rfl, beq_self_eq_true, Option.map_some, Option.map_none, Option.bind_some, Option.bind_none, List.getElem?_toArray, Option.isSome_some, Option.isSome_none, beqs, ne_eq, not_true_eq_false, not_false_eq_true, false_or, or_false, or_self, Nat.reduceLT, false_and, and_false, List.nil_append, evEq, eqc, optO, WC_exit]
    | succ m ih =>
      intro i o t7 t8 t9 t19 t25 him hn ho hlo hv hz
      have hi : i < a.length := by omega
      have hlt : decide ((i : Int) < (a.length : Int)) = true := by simp; omega
      obtain ⟨o1, c1, t9a, t25a, h1, h2, h3, h4, h5, h6⟩ := inner n i b.length 0 o 0 t9 (.p (.bool true)) t25 (by omega) hi hn ho hlo (by decide)
      have hj : i + b.length < o1.length := by omega
      have hjn : i + b.length < n := by omega
      have hib : IntKind.i64.wrap ((i : Int) + (b.length : Int)) = ((i + b.length : Nat) : Int) := by rw [wrap_i64 (by omega) (by omega)]; omega
      have hi1 : IntKind.i64.wrap ((i : Int) + 1) = ((i + 1 : Nat) : Int) := by rw [wrap_i64 (by omega) (by omega)]; omega
      have hcm : c1 % LB = c1 := Nat.mod_eq_of_lt h4
      obtain ⟨o', t7', t8', t9', t19', t25', k1, k2, k3, k4⟩ := ih (i + 1) (o1.set (i + b.length) c1) (.p (.int .u64 (c1 : Int))) (.p (.int .i64 (b.length : Int))) t9a (.p (.bool true)) t25a (by omega) hn (by simpa using h2) (limbs_set h3 h4) (by
        have hvs := val_set o1 (i + b.length) c1 hj
        rw [h6 _ (Nat.le_refl _), hz _ (Nat.le_refl _), Nat.zero_mul, Nat.add_zero] at hvs
        rw [hvs, val_take_succ a i hi, Nat.add_mul, ← hv]
        simp only [List.take_zero, val, Nat.mul_zero, Nat.zero_mul, Nat.add_zero] at h5
        rw [h5]
        congr 1
        simp only [Nat.mul_comm, Nat.mul_left_comm, Nat.mul_assoc]) (fun j hj2 => by
        rw [List.getD_eq_getElem?_getD, List.getElem?_set_ne (by omega), ← List.getD_eq_getElem?_getD, h6 j (by omega), hz j (by omega)])
      refine ⟨o', t7', t8', t9', t19', t25', ?_, k2, k3, k4⟩
      simp only [Int.natCast_zero, Int.cast_ofNat_Int] at h1
      rw [← hO, WC_loop, hO, WC_seq, WC_seq, WC_region]
      simp only [evRegion, Bool.false_eq_true, if_false, if_true, reduceIte, evOps, evStep, wantedA, evOp, opv, putA, ret1, ofVal, ofVal1, cellsOf, AV.isCell, clean, evFieldAddr, evField, evBin, evUn, evExtract, evBuild, evIndex, evBuiltin, evBuildSlice, evNilCheck, ibin, blkRead, mkAgg, mkTup, mapO, AV.pure?, setAt, afill, parts, calleeOf, tell, scalar, scalarL, frz, norm, normL, ids, Go.Ev.mark, deep, evResults, evResult, aggCells, partA, List.getElem?_cons_zero, List.getElem?_cons_succ, List.getElem?_nil, List.map_cons, List.map_nil, List.all_cons, List.all_nil, Bool.and_true, Bool.true_and, Bool.and_false, Bool.false_and, Bool.and_self, Bool.not_true, Bool.not_false, Bool.or_true, Bool.or_false, Bool.false_or, Bool.true_or, List.set, List.length_cons, List.length_nil, List.nil_append, List.cons_append, List.append_nil, Nat.reduceAdd, Nat.reduceSub, Nat.reduceMul, Nat.reduceLeDiff, Nat.zero_add, Nat.reduceEqDiff, List.replicate, List.drop, List.take, List.flatMap_cons, List.flatMap_nil, List.foldl_nil, List.foldl_cons, decide_true, decide_false, and_self, and_true, true_and, BEq.rfl, beq_self_eq_true, Option.map_some, Option.map_none, Option.bind_some, Option.bind_none, List.getElem?_toArray, Option.isSome_some, Option.isSome_none, beqs, ne_eq, not_true_eq_false, not_false_eq_true, false_or, or_false, or_self, Nat.reduceLT, false_and, and_false, List.nil_append, evEq, eqc, optO, rs_P, len32 rs_P, hlt]
      rw [WC_cond]
      simp only [evRegion, Bool.false_eq_true, if_false, if_true, reduceIte, evOps, evStep, wantedA, evOp, opv, putA, ret1, ofVal, ofVal1, cellsOf, AV.isCell, clean, evFieldAddr, evField, evBin, evUn, evExtract, evBuild, evIndex, evBuiltin, evBuildSlice, evNilCheck, ibin, blkRead, mkAgg, mkTup, mapO, AV.pure?, setAt, afill, parts, calleeOf, tell, scalar, scalarL, frz, norm, normL, ids, Go.Ev.mark, deep, evResults, evResult, aggCells, partA, List.getElem?_cons_zero, List.getElem?_cons_succ, List.getElem?_nil, List.map_cons, List.map_nil, List.all_cons, List.all_nil, Bool.and_true, Bool.true_and, Bool.and_false, Bool.false_and, Bool.and_self, Bool.not_true, Bool.not_false, Bool.or_true, Bool.or_false, Bool.false_or, Bool.true_or, List.set, List.length_cons, List.length_nil, List.nil_append, List.cons_append, List.append_nil, Nat.reduceAdd, Nat.reduceSub, Nat.reduceMul, Nat.reduceLeDiff, Nat.zero_add, Nat.reduceEqDiff, List.replicate, List.drop, List.take, List.flatMap_cons, List.flatMap_nil, List.foldl_nil, List.foldl_cons, decide_true, decide_false, and_self, and_true, true_and, BEq.rfl, beq_self_eq_true, Option.map_some, Option.map_none, Option.bind_some, Option.bind_none, List.getElem?_toArray, Option.isSome_some, Option.isSome_none, beqs, ne_eq, not_true_eq_false, not_false_eq_true, false_or, or_false, or_self, Nat.reduceLT, false_and, and_false, List.nil_append, evEq, eqc, optO, WC_skip]
      rw [WC_seq, WC_block, WC_seq, WC_region]
      simp only [evRegion, Bool.false_eq_true, if_false, if_true, reduceIte, evOps, evStep, wantedA, evOp, opv, putA, ret1, ofVal, ofVal1, cellsOf, AV.isCell, clean, evFieldAddr, evField, evBin, evUn, evExtract, evBuild, evIndex, evBuiltin, evBuildSlice, evNilCheck, ibin, blkRead, mkAgg, mkTup, mapO, AV.pure?, setAt, afill, parts, calleeOf, tell, scalar, scalarL, frz, norm, normL, ids, Go.Ev.mark, deep, evResults, evResult, aggCells, partA, List.getElem?_cons_zero, List.getElem?_cons_succ, List.getElem?_nil, List.map_cons, List.map_nil, List.all_cons, List.all_nil, Bool.and_true, Bool.true_and, Bool.and_false, Bool.false_and, Bool.and_self, Bool.not_true, Bool.not_false, Bool.or_true, Bool.or_false, Bool.false_or, Bool.true_or, List.set, List.length_cons, List.length_nil, List.nil_append, List.cons_append, List.append_nil, Nat.reduceAdd, Nat.reduceSub, Nat.reduceMul, Nat.reduceLeDiff, Nat.zero_add, Nat.reduceEqDiff, List.replicate, List.drop, List.take, List.flatMap_cons, List.flatMap_nil, List.foldl_nil, List.foldl_cons, decide_true, decide_false, and_self, and_true, true_and, BEq.rfl, beq_self_eq_true, Option.map_some, Option.map_none, Option.bind_some, Option.bind_none, List.getElem?_toArray, Option.isSome_some, Option.isSome_none, beqs, ne_eq, not_true_eq_false, not_false_eq_true, false_or, or_false, or_self, Nat.reduceLT, false_and, and_false, List.nil_append, evEq, eqc, optO, rs_P]
      rw [WC_seq, WC_seq, WC_region]
      simp only [evRegion, Bool.false_eq_true, if_false, if_true, reduceIte, evOps, evStep, wantedA, evOp, opv, putA, ret1, ofVal, ofVal1, cellsOf, AV.isCell, clean, evFieldAddr, evField, evBin, evUn, evExtract, evBuild, evIndex, evBuiltin, evBuildSlice, evNilCheck, ibin, blkRead, mkAgg, mkTup, mapO, AV.pure?, setAt, afill, parts, calleeOf, tell, scalar, scalarL, frz, norm, normL, ids, Go.Ev.mark, deep, evResults, evResult, aggCells, partA, List.getElem?_cons_zero, List.getElem?_cons_succ, List.getElem?_nil, List.map_cons, List.map_nil, List.all_cons, List.all_nil, Bool.and_true, Bool.true_and, Bool.and_false, Bool.false_and, Bool.and_self, Bool.not_true, Bool.not_false, Bool.or_true, Bool.or_false, Bool.false_or, Bool.true_or, List.set, List.length_cons, List.length_nil, List.nil_append, List.cons_append, List.append_nil, Nat.reduceAdd, Nat.reduceSub, Nat.reduceMul, Nat.reduceLeDiff, Nat.zero_add, Nat.reduceEqDiff, List.replicate, List.drop, List.take, List.flatMap_cons, List.flatMap_nil, List.foldl_nil, List.foldl_cons, decide_true, decide_false, and_self, and_true, true_and, BEq.rfl, beq_self_eq_true, Option.map_some, Option.map_none, Option.bind_some, Option.bind_none, List.getElem?_toArray, Option.isSome_some, Option.isSome_none, beqs, ne_eq, not_true_eq_false, not_false_eq_true, false_or, or_false, or_self, Nat.reduceLT, false_and, and_false, List.nil_append, evEq, eqc, optO, rs_P]
      rw [WC_block]
      rw [h1]
      simp only [evRegion, Bool.false_eq_true, if_false, if_true, reduceIte, evOps, evStep, wantedA, evOp, opv, putA, ret1, ofVal, ofVal1, cellsOf, AV.isCell, clean, evFieldAddr, evField, evBin, evUn, evExtract, evBuild, evIndex, evBuiltin, evBuildSlice, evNilCheck, ibin, blkRead, mkAgg, mkTup, mapO, AV.pure?, setAt, afill, parts, calleeOf, tell, scalar, scalarL, frz, norm, normL, ids, Go.Ev.mark, deep, evResults, evResult, aggCells, partA, List.getElem?_cons_zero, List.getElem?_cons_succ, List.getElem?_nil, List.map_cons, List.map_nil, List.all_cons, List.all_nil, Bool.and_true, Bool.true_and, Bool.and_false, Bool.false_and, Bool.and_self, Bool.not_true, Bool.not_false, Bool.or_true, Bool.or_false, Bool.false_or, Bool.true_or, List.set, List.length_cons, List.length_nil, List.nil_append, List.cons_append, List.append_nil, Nat.reduceAdd, Nat.reduceSub, Nat.reduceMul, Nat.reduceLeDiff, Nat.zero_add, Nat.reduceEqDiff, List.replicate, List.drop, List.take, List.flatMap_cons, List.flatMap_nil, List.foldl_nil, List.foldl_cons, decide_true, decide_false, and_self, and_true, true_and, BEq.rfl, beq_self_eq_true, Option.map_some, Option.map_none, Option.bind_some, Option.bind_none, List.getElem?_toArray, Option.isSome_some, Option.isSome_none, beqs, ne_eq, not_true_eq_false, not_false_eq_true, false_or, or_false, or_self, Nat.reduceLT, false_and, and_false, List.nil_append, evEq, eqc, optO]
      rw [WC_region]
      simp only [evRegion, Bool.false_eq_true, if_false, if_true, reduceIte, evOps, evStep, wantedA, evOp, opv, putA, ret1, ofVal, ofVal1, cellsOf, AV.isCell, clean, evFieldAddr, evField, evBin, evUn, evExtract, evBuild, evIndex, evBuiltin, evBuildSlice, evNilCheck, ibin, blkRead, mkAgg, mkTup, mapO, AV.pure?, setAt, afill, parts, calleeOf, tell, scalar, scalarL, frz, norm, normL, ids, Go.Ev.mark, deep, evResults, evResult, aggCells, partA, List.getElem?_cons_zero, List.getElem?_cons_succ, List.getElem?_nil, List.map_cons, List.map_nil, List.all_cons, List.all_nil, Bool.and_true, Bool.true_and, Bool.and_false, Bool.false_and, Bool.and_self, Bool.not_true, Bool.not_false, Bool.or_true, Bool.or_false, Bool.false_or, Bool.true_or, List.set, List.length_cons, List.length_nil, List.nil_append, List.cons_append, List.append_nil, Nat.reduceAdd, Nat.reduceSub, Nat.reduceMul, Nat.reduceLeDiff, Nat.zero_add, Nat.reduceEqDiff, List.replicate, List.drop, List.take, List.flatMap_cons, List.flatMap_nil, List.foldl_nil, List.foldl_cons, decide_true, decide_false, and_self, and_true, true_and, BEq.rfl, beq_self_eq_true, Option.map_some, Option.map_none, Option.bind_some, Option.bind_none, List.getElem?_toArray, Option.isSome_some, Option.isSome_none, beqs, ne_eq, not_true_eq_false, not_false_eq_true, false_or, or_false, or_self, Nat.reduceLT, false_and, and_false, List.nil_append, evEq, eqc, optO, rs_P, len32 rs_P, hib, ixms hjn, Nat.zero_add, mulConv, wrap_u32, hcm, stms1 hj]
      rw [WC_region]
      simp only [evRegion, Bool.false_eq_true, if_false, if_true, reduceIte, evOps, evStep, wantedA, evOp, opv, putA, ret1, ofVal, ofVal1, cellsOf, AV.isCell, clean, evFieldAddr, evField, evBin, evUn, evExtract, evBuild, evIndex, evBuiltin, evBuildSlice, evNilCheck, ibin, blkRead, mkAgg, mkTup, mapO, AV.pure?, setAt, afill, parts, calleeOf, tell, scalar, scalarL, frz, norm, normL, ids, Go.Ev.mark, deep, evResults, evResult, aggCells, partA, List.getElem?_cons_zero, List.getElem?_cons_succ, List.getElem?_nil, List.map_cons, List.map_nil, List.all_cons, List.all_nil, Bool.and_true, Bool.true_and, Bool.and_false, Bool.false_and, Bool.and_self, Bool.not_true, Bool.not_false, Bool.or_true, Bool.or_false, Bool.false_or, Bool.true_or, List.set, List.length_cons, List.length_nil, List.nil_append, List.cons_append, List.append_nil, Nat.reduceAdd, Nat.reduceSub, Nat.reduceMul, Nat.reduceLeDiff, Nat.zero_add, Nat.reduceEqDiff, List.replicate, List.drop, List.take, List.flatMap_cons, List.flatMap_nil, List.foldl_nil, List.foldl_cons, decide_true, decide_false, and_self, and_true, true_and, BEq.rfl, beq_self_eq_true, Option.map_some, Option.map_none, Option.bind_some, Option.bind_none, List.getElem?_toArray, Option.isSome_some, Option.isSome_none, beqs, ne_eq, not_true_eq_false, not_false_eq_true, false_or, or_false, or_self, Nat.reduceLT, false_and, and_false, List.nil_append, evEq, eqc, optO, rs_P, hi1]
      exact k1
  obtain ⟨o', t7', t8', t9', t19', t25', k1, k2, k3, k4⟩ := outer (a.length + b.length) a.length 0 (List.replicate (a.length + b.length) 0) (.p .und) (.p .und) (.p .und) (.p .und) (.p .und) (by omega) rfl (by simp)
    (fun x hx => by rw [List.eq_of_mem_replicate hx]; decide) (by simp [val_zeros, val]) (fun j _ => by simp [List.getD_eq_getElem?_getD, List.getElem?_replicate]; split <;> rfl)
  simp only [Int.natCast_zero, Int.cast_ofNat_Int] at k1
  have ht := rs_trimO o' (by omega) false
  rw [k2] at ht
  rw [k1]
  simp only [if_true]
  rw [WC_seq, WC_region]
  simp only [evRegion, Bool.false_eq_true, if_false, if_true, reduceIte, evOps, evStep, wantedA, evOp, opv, putA, ret1, ofVal, ofVal1, cellsOf, AV.isCell, clean, evFieldAddr, evField, evBin, evUn, evExtract, evBuild, evIndex, evBuiltin, evBuildSlice, evNilCheck, ibin, blkRead, mkAgg, mkTup, mapO, AV.pure?, setAt, afill, parts, calleeOf, tell, scalar, scalarL, norm, normL, ids, Go.Ev.mark, evResults, evResult, aggCells, partA, List.getElem?_cons_zero, List.getElem?_cons_succ, List.getElem?_nil, List.map_cons, List.map_nil, List.all_cons, List.all_nil, Bool.and_true, Bool.true_and, Bool.and_false, Bool.false_and, Bool.and_self, Bool.not_true, Bool.not_false, Bool.or_true, Bool.or_false, Bool.false_or, Bool.true_or, List.set, List.length_cons, List.length_nil, List.nil_append, List.cons_append, List.append_nil, Nat.reduceAdd, Nat.reduceSub, Nat.reduceMul, Nat.reduceLeDiff, Nat.zero_add, Nat.reduceEqDiff, List.replicate, List.drop, List.take, List.flatMap_cons, List.flatMap_nil, List.foldl_nil, List.foldl_cons, decide_true, decide_false, and_self, and_true, true_and, BEq.rfl, beq_self_eq_true, Option.map_some, Option.map_none, Option.bind_some, Option.bind_none, List.getElem?_toArray, Option.isSome_some, Option.isSome_none, beqs, ne_eq, not_true_eq_false, not_false_eq_true, false_or, or_false, or_self, Nat.reduceLT, false_and, and_false, List.nil_append, evEq, eqc, optO, rs_P, evCall_mem (show rsC.md 31 = 2 from rfl), ht, WC_ret, show Try.f52.results = #[.tmp 4] from rfl, show rsC.md 31 = 2 from rfl]
  have hf := frz_lb (fz := false) (trim_le o')
  rw [trim_take, trim_toL k3, k4] at hf
  rw [trim_toL k3, k4]
  exact hf
end Go.Proofs
set_option linter.unusedSimpArgs false
namespace Go.Proofs
open Go.Ev Go.Mx
theorem rs_lv30 : rsC.lv 30 = [true, true, false, false, true, false, false, false, true, false, false, false, false, false] := by kernel_rfl
theorem rs_digit (a : List Nat) (ha : Limbs a) (i : Nat) : WP rsC 30 [N32 a, .int .i64 (i : Int)] = some (.int .u64 ((a.getD i 0 : Nat) : Int)) := by
  rw [WP_eq (show rsC.md 30 < 9 by decide) Try.func30 rfl]
  rw [show Try.f30.ntmps = 14 from rfl, rs_lv30]
  simp only [N32, List.map_cons, List.map_nil, List.length_cons, List.length_nil, Nat.reduceAdd, Nat.reduceSub, List.replicate, List.cons_append, List.nil_append]
  by_cases hi : i < a.length
  · have hge : decide ((i : Int) ≥ (a.length : Int)) = false := by simp; omega
    have hx := limbs_getD ha i
    have hLB : LB = 4294967296 := rfl
    have hx64 : IntKind.u64.wrap ((a.getD i 0 : Nat) : Int) = ((a.getD i 0 : Nat) : Int) := wrap_u64 (by omega) (by omega)
    simp only [WC_seq, WC_region, WC_cond, WC_skip, WC_ret, evRegion, Bool.false_eq_true, if_false, if_true, reduceIte, evOps, evStep, wantedA, evOp, opv, putA, ret1, ofVal, ofVal1, cellsOf, AV.isCell, clean, evFieldAddr, evField, evBin, evUn, evExtract, evBuild, evIndex, evBuiltin, evBuildSlice, evNilCheck, ibin, blkRead, mkAgg, mkTup, mapO, AV.pure?, setAt, afill, parts, calleeOf, tell, scalar, scalarL, frz, norm, normL, ids, Go.Ev.mark, deep, evResults, evResult, aggCells, partA, List.getElem?_cons_zero, List.getElem?_cons_succ, List.getElem?_nil, List.map_cons, List.map_nil, List.all_cons, List.all_nil, Bool.and_true, Bool.true_and, Bool.and_false, Bool.false_and, Bool.and_self, Bool.not_true, Bool.not_false, Bool.or_true, Bool.or_false, Bool.false_or, Bool.true_or, List.set, List.length_cons, List.length_nil, List.nil_append, List.cons_append, List.append_nil, Nat.reduceAdd, Nat.reduceSub, Nat.reduceMul, Nat.reduceLeDiff, Nat.zero_add, Nat.reduceEqDiff, List.replicate, List.drop, List.take, List.flatMap_cons, List.flatMap_nil, List.foldl_nil, List.foldl_cons, decide_true, decide_false, and_self, and_true, true_and, BEq.rfl, beq_self_eq_true, Option.map_some, Option.map_none, Option.bind_some, Option.bind_none, List.getElem?_toArray, Option.isSome_some, Option.isSome_none, beqs, ne_eq, not_true_eq_false, not_false_eq_true, false_or, or_false, or_self, Nat.reduceLT, false_and, and_false, List.nil_append, evEq, eqc, optO, rs_P, len32 rs_P, hge, ix32 hi, ld32 hi, mulConv, pu, hx64, show Try.f30.results = #[.tmp 4] from rfl]
  · have hge : decide ((i : Int) ≥ (a.length : Int)) = true := by simp; omega
    have h0 : a.getD i 0 = 0 := by rw [List.getD_eq_getElem?_getD, List.getElem?_eq_none (by omega)]; rfl
    rw [h0]
    simp only [WC_seq, WC_region, WC_cond, WC_skip, WC_ret, evRegion, Bool.false_eq_true, if_false, if_true, reduceIte, evOps, evStep, wantedA, evOp, opv, putA, ret1, ofVal, ofVal1, cellsOf, AV.isCell, clean, evFieldAddr, evField, evBin, evUn, evExtract, evBuild, evIndex, evBuiltin, evBuildSlice, evNilCheck, ibin, blkRead, mkAgg, mkTup, mapO, AV.pure?, setAt, afill, parts, calleeOf, tell, scalar, scalarL, frz, norm, normL, ids, Go.Ev.mark, deep, evResults, evResult, aggCells, partA, List.getElem?_cons_zero, List.getElem?_cons_succ, List.getElem?_nil, List.map_cons, List.map_nil, List.all_cons, List.all_nil, Bool.and_true, Bool.true_and, Bool.and_false, Bool.false_and, Bool.and_self, Bool.not_true, Bool.not_false, Bool.or_true, Bool.or_false, Bool.false_or, Bool.true_or, List.set, List.length_cons, List.length_nil, List.nil_append, List.cons_append, List.append_nil, Nat.reduceAdd, Nat.reduceSub, Nat.reduceMul, Nat.reduceLeDiff, Nat.zero_add, Nat.reduceEqDiff, List.replicate, List.drop, List.take, List.flatMap_cons, List.flatMap_nil, List.foldl_nil, List.foldl_cons, decide_true, decide_false, and_self, and_true, true_and, BEq.rfl, beq_self_eq_true, Option.map_some, Option.map_none, Option.bind_some, Option.bind_none, List.getElem?_toArray, Option.isSome_some, Option.isSome_none, beqs, ne_eq, not_true_eq_false, not_false_eq_true, false_or, or_false, or_self, Nat.reduceLT, false_and, and_false, List.nil_append, evEq, eqc, optO, rs_P, len32 rs_P, hge, show Try.f30.results = #[.tmp 4] from rfl]
    rfl
end Go.Proofs
