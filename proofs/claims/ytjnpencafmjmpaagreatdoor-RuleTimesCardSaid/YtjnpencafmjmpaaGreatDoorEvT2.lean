import Derived.Test.YtjnpencafmjmpaaGreatDoorEvT1
namespace Go.Proofs
open Go.Ev
def cert (a b : Int) : PV := .agg [.sl 0 false [], .sl 0 false [], .int .i64 a, .int .i64 b, .sl 0 false [], .int .i64 0, .sl 0 false [], .int .u32 0, .sl 0 false [], .sl 0 false [], .bool false, .sl 0 false [], .sl 0 false []]
theorem tz_P : tzCfg.P = Tryz.prog := rfl
theorem tz_lv (f : Nat) : tzCfg.lv f = [] := rfl
theorem tz_T : sizeT Tryz.prog 33 = some 13 ∧ sizeT Tryz.prog 2 = some 1 ∧ sizeT Tryz.prog 30 = some 1 ∧ sizeT Tryz.prog 49 = some 2 ∧ aggT Tryz.prog 30 = some false ∧ aggT Tryz.prog 2 = some false ∧
  zeroT Tryz.prog 49 = some [.p (.bool false), .p (.int .i64 0)] := ⟨by kernel_rfl, by kernel_rfl, by kernel_rfl, by kernel_rfl, by kernel_rfl, by kernel_rfl, by kernel_rfl⟩
theorem tz_O (f) (xs) : tzCfg.O f xs = none := rfl
theorem tz_md : tzCfg.md 12 = 0 ∧ tzCfg.md 13 = 0 ∧ tzCfg.md 14 = 0 ∧ tzCfg.md 15 = 0 ∧ tzCfg.md 16 = 0 := ⟨rfl, rfl, rfl, rfl, rfl⟩
theorem tz_nt5 : Tryz.f5.ntmps = 71 := rfl
theorem tz_res5 : Tryz.f5.results = #[.tmp 4] := rfl
set_option maxRecDepth 100000 in
set_option maxHeartbeats 4000000 in
theorem holds_ev (a b c : Int) : WP tzCfg 5 [cert a b, .int .i64 c] = some (.bool (decide (a ≤ c) && decide (c ≤ b))) := by
  rw [WP_eq (show tzCfg.md 5 < 9 by decide) Tryz.func5 rfl]
  simp only [cert, tz_nt5, tz_res5, tz_lv, List.map_cons, List.map_nil, List.length_cons, List.length_nil, Nat.reduceAdd, Nat.reduceSub, List.replicate, List.cons_append, List.nil_append]
  by_cases h1 : a ≤ c <;> by_cases h2 : c ≤ b <;>
  simp only [h1, h2, WC_seq, WC_region, WC_ret, WC_cond, WC_skip, WC_block, WC_exit, evRegion, Bool.false_eq_true, if_false, if_true, reduceIte, evOps, evStep, wantedA, evOp, opv, putA, ret1, ofVal, ofVal1, cellsOf, AV.isCell, clean, evFieldAddr, evField, evLoad, evStore, evBin, evUn, evExtract, evBuild, evSlice, evIndexAddr, evIndex, evLen, evBuiltin, evConv, evMakeSlice, evBuildSlice, evNilCheck, ibin, blkRead, mkAgg, mkTup, mapO, AV.pure?, setAt, afill, parts, calleeOf, tell, scalar, scalarL, frz, norm, normL, ids, Go.Ev.mark, deep, evResults, evResult, aggCells, partA, List.getElem?_cons_zero, List.getElem?_cons_succ, List.getElem?_nil, List.map_cons, List.map_nil, List.all_cons, List.all_nil, Bool.and_true, Bool.true_and, Bool.and_false, Bool.false_and, Bool.and_self, Bool.not_true, Bool.not_false, Bool.or_true, Bool.or_false, Bool.false_or, Bool.true_or, List.set, List.length_cons, List.length_nil, List.nil_append, List.cons_append, List.append_nil, Nat.reduceAdd, Nat.reduceSub, Nat.reduceMul, Nat.reduceLeDiff, Nat.zero_add, Nat.reduceEqDiff, List.replicate, List.drop, List.take, List.flatMap_cons, List.flatMap_nil, List.foldl_nil, List.foldl_cons, decide_true, decide_false, and_self, and_true, true_and, BEq.rfl, beq_self_eq_true, Option.map_some, Option.map_none, Option.bind_some, Option.bind_none, List.getElem?_toArray, Option.isSome_some, Option.isSome_none, tz_P, beqs, tz_res5, tz_T, tz_md, evCall_tab tz_O, basic_nil, usage_nil, uses_nil, only_nil, odd_nil, Tryz.underlying33, Tryz.underlying2]
end Go.Proofs
