/- RulePath: the walks of has, Over, May and of the law. -/
import Derived.Test.YtjnpencafmjmpaaGreatDoorEvG5
set_option linter.unusedSimpArgs false
set_option linter.unusedVariables false
namespace Go.Proofs
open Go.Ev
theorem evCall_tabf {C : Cfg} {f : FuncId} (hO : ∀ xs, C.O f xs = none) (h0 : C.md f = 0) {st : Bool} {args : List AV} {H : List ABlk} :
    evCall C (W C) st f args H = match mapO (frz false H deep) args with
      | none => none
      | some xs => match WP C f xs with
        | none => none
        | some x => tell (!st || (mapO (frz true H deep) args).isSome) H (if st then H else Go.Ev.mark (args.flatMap (ids H deep)) H) x := by
  cases hx : mapO (frz false H deep) args with
  | none =>
    unfold evCall
    rw [if_neg (by omega), if_neg (by omega), hx]
    simp only
    rw [if_neg (by omega)]
  | some xs => exact evCall_pure h0 (hO xs) hx
theorem tp_c6 {st : Bool} {args : List AV} {H : List ABlk} : evCall tpC (W tpC) st 6 args H = match mapO (frz false H deep) args with
      | none => none
      | some xs => match WP tpC 6 xs with
        | none => none
        | some x => tell (!st || (mapO (frz true H deep) args).isSome) H (if st then H else Go.Ev.mark (args.flatMap (ids H deep)) H) x := evCall_tabf (fun _ => rfl) rfl
theorem tp_c7 {st : Bool} {args : List AV} {H : List ABlk} : evCall tpC (W tpC) st 7 args H = match mapO (frz false H deep) args with
      | none => none
      | some xs => match WP tpC 7 xs with
        | none => none
        | some x => tell (!st || (mapO (frz true H deep) args).isSome) H (if st then H else Go.Ev.mark (args.flatMap (ids H deep)) H) x := evCall_tabf (fun _ => rfl) rfl
theorem tp_c8 {st : Bool} {args : List AV} {H : List ABlk} : evCall tpC (W tpC) st 8 args H = match mapO (frz false H deep) args with
      | none => none
      | some xs => match WP tpC 8 xs with
        | none => none
        | some x => tell (!st || (mapO (frz true H deep) args).isSome) H (if st then H else Go.Ev.mark (args.flatMap (ids H deep)) H) x := evCall_tabf (fun _ => rfl) rfl
theorem tp_c9 {st : Bool} {args : List AV} {H : List ABlk} : evCall tpC (W tpC) st 9 args H = match mapO (frz false H deep) args with
      | none => none
      | some xs => match WP tpC 9 xs with
        | none => none
        | some x => tell (!st || (mapO (frz true H deep) args).isSome) H (if st then H else Go.Ev.mark (args.flatMap (ids H deep)) H) x := evCall_tabf (fun _ => rfl) rfl
theorem tp_c10 {st : Bool} {args : List AV} {H : List ABlk} : evCall tpC (W tpC) st 10 args H = match mapO (frz false H deep) args with
      | none => none
      | some xs => match WP tpC 10 xs with
        | none => none
        | some x => tell (!st || (mapO (frz true H deep) args).isSome) H (if st then H else Go.Ev.mark (args.flatMap (ids H deep)) H) x := evCall_tabf (fun _ => rfl) rfl
theorem tp_c11 {st : Bool} {args : List AV} {H : List ABlk} : evCall tpC (W tpC) st 11 args H = match mapO (frz false H deep) args with
      | none => none
      | some xs => match WP tpC 11 xs with
        | none => none
        | some x => tell (!st || (mapO (frz true H deep) args).isSome) H (if st then H else Go.Ev.mark (args.flatMap (ids H deep)) H) x := evCall_tabf (fun _ => rfl) rfl
theorem tp_c12 {st : Bool} {args : List AV} {H : List ABlk} : evCall tpC (W tpC) st 12 args H = match mapO (frz false H deep) args with
      | none => none
      | some xs => match WP tpC 12 xs with
        | none => none
        | some x => tell (!st || (mapO (frz true H deep) args).isSome) H (if st then H else Go.Ev.mark (args.flatMap (ids H deep)) H) x := evCall_tabf (fun _ => rfl) rfl
theorem tp_c13 {st : Bool} {args : List AV} {H : List ABlk} : evCall tpC (W tpC) st 13 args H = match mapO (frz false H deep) args with
      | none => none
      | some xs => match WP tpC 13 xs with
        | none => none
        | some x => tell (!st || (mapO (frz true H deep) args).isSome) H (if st then H else Go.Ev.mark (args.flatMap (ids H deep)) H) x := evCall_tabf (fun _ => rfl) rfl
theorem tp_c14 {st : Bool} {args : List AV} {H : List ABlk} : evCall tpC (W tpC) st 14 args H = match mapO (frz false H deep) args with
      | none => none
      | some xs => match WP tpC 14 xs with
        | none => none
        | some x => tell (!st || (mapO (frz true H deep) args).isSome) H (if st then H else Go.Ev.mark (args.flatMap (ids H deep)) H) x := evCall_tabf (fun _ => rfl) rfl
theorem tp_c19 {st : Bool} {args : List AV} {H : List ABlk} : evCall tpC (W tpC) st 19 args H = match mapO (frz false H deep) args with
      | none => none
      | some xs => match WP tpC 19 xs with
        | none => none
        | some x => tell (!st || (mapO (frz true H deep) args).isSome) H (if st then H else Go.Ev.mark (args.flatMap (ids H deep)) H) x := evCall_tabf (fun _ => rfl) rfl
theorem tp_c20 {st : Bool} {args : List AV} {H : List ABlk} : evCall tpC (W tpC) st 20 args H = match mapO (frz false H deep) args with
      | none => none
      | some xs => match WP tpC 20 xs with
        | none => none
        | some x => tell (!st || (mapO (frz true H deep) args).isSome) H (if st then H else Go.Ev.mark (args.flatMap (ids H deep)) H) x := evCall_tabf (fun _ => rfl) rfl
theorem tp_c21 {st : Bool} {args : List AV} {H : List ABlk} : evCall tpC (W tpC) st 21 args H = match mapO (frz false H deep) args with
      | none => none
      | some xs => match WP tpC 21 xs with
        | none => none
        | some x => tell (!st || (mapO (frz true H deep) args).isSome) H (if st then H else Go.Ev.mark (args.flatMap (ids H deep)) H) x := evCall_tabf (fun _ => rfl) rfl
theorem tp_c24 {st : Bool} {args : List AV} {H : List ABlk} : evCall tpC (W tpC) st 24 args H = match mapO (frz false H deep) args with
      | none => none
      | some xs => match WP tpC 24 xs with
        | none => none
        | some x => tell (!st || (mapO (frz true H deep) args).isSome) H (if st then H else Go.Ev.mark (args.flatMap (ids H deep)) H) x := evCall_tabf (fun _ => rfl) rfl
theorem tp_c29 {st : Bool} {args : List AV} {H : List ABlk} : evCall tpC (W tpC) st 29 args H = match mapO (frz false H deep) args with
      | none => none
      | some xs => match WP tpC 29 xs with
        | none => none
        | some x => tell (!st || (mapO (frz true H deep) args).isSome) H (if st then H else Go.Ev.mark (args.flatMap (ids H deep)) H) x := evCall_tabf (fun _ => rfl) rfl
theorem tp_c30 {st : Bool} {args : List AV} {H : List ABlk} : evCall tpC (W tpC) st 30 args H = match mapO (frz false H deep) args with
      | none => none
      | some xs => match WP tpC 30 xs with
        | none => none
        | some x => tell (!st || (mapO (frz true H deep) args).isSome) H (if st then H else Go.Ev.mark (args.flatMap (ids H deep)) H) x := evCall_tabf (fun _ => rfl) rfl
theorem tp_c31 {st : Bool} {args : List AV} {H : List ABlk} : evCall tpC (W tpC) st 31 args H = match mapO (frz false H deep) args with
      | none => none
      | some xs => match WP tpC 31 xs with
        | none => none
        | some x => tell (!st || (mapO (frz true H deep) args).isSome) H (if st then H else Go.Ev.mark (args.flatMap (ids H deep)) H) x := evCall_tabf (fun _ => rfl) rfl
theorem tp_md : tpC.md 6 = 0 ∧ tpC.md 7 = 0 ∧ tpC.md 8 = 0 ∧ tpC.md 9 = 0 ∧ tpC.md 10 = 0 ∧ tpC.md 11 = 0 ∧ tpC.md 12 = 0 ∧ tpC.md 13 = 0 ∧ tpC.md 14 = 0 ∧ tpC.md 19 = 0 ∧ tpC.md 20 = 0 ∧ tpC.md 21 = 0 ∧ tpC.md 24 = 0 ∧ tpC.md 29 = 0 ∧ tpC.md 30 = 0 ∧ tpC.md 31 = 0 := ⟨rfl, rfl, rfl, rfl, rfl, rfl, rfl, rfl, rfl, rfl, rfl, rfl, rfl, rfl, rfl, rfl⟩
theorem tp_P : tpC.P = Tryz.prog := rfl
theorem tp_lv (f : Nat) : tpC.lv f = [] := rfl
theorem tp_pt : tpC.md 25 = 3 := rfl
theorem tp_T : sizeT Tryz.prog 33 = some 13 ∧ sizeT Tryz.prog 2 = some 1 ∧ sizeT Tryz.prog 30 = some 1 ∧ sizeT Tryz.prog 49 = some 2 ∧ aggT Tryz.prog 30 = some false ∧ aggT Tryz.prog 2 = some false ∧
  zeroT Tryz.prog 49 = some [.p (.bool false), .p (.int .i64 0)] ∧ sizeT Tryz.prog 31 = some 1 ∧ sizeT Tryz.prog 3 = some 1 ∧ sizeT Tryz.prog 4 = some 1 ∧ aggT Tryz.prog 3 = some false ∧ aggT Tryz.prog 4 = some false ∧ aggT Tryz.prog 5 = some false ∧ aggT Tryz.prog 33 = some true ∧ sizeT Tryz.prog 5 = some 1 ∧ zeroT Tryz.prog 5 = some [.p (.int .u8 0)] ∧ bytesT Tryz.prog 5 = some 1 ∧ elemT Tryz.prog 31 = some 5 ∧ elemT Tryz.prog 30 = some 38 ∧ elemT Tryz.prog 42 = some 44 ∧ sizeT Tryz.prog 38 = some 3 ∧ bytesT Tryz.prog 38 = some 56 ∧ aggT Tryz.prog 38 = some true ∧ zeroT Tryz.prog 38 = some [.p (.nsl true), .p (.bool false), .p (.nsl true)] ∧ sizeT Tryz.prog 44 = some 3 ∧ aggT Tryz.prog 44 = some true ∧ zeroT Tryz.prog 44 = some [.p (.int .u8 0), .p (.nsl true), .p (.nsl true)] ∧ aggT Tryz.prog 49 = some true ∧ zeroT Tryz.prog 33 = some [.p (.nsl true), .p (.nsl true), .p (.int .i64 0), .p (.int .i64 0), .p (.nsl true), .p (.int .i64 0), .p (.nsl true), .p (.int .u32 0), .p (.nsl true), .p (.nsl true), .p (.bool false), .p (.nsl true), .p (.nsl true)] ∧ isIntT Tryz.prog 30 = some false := ⟨by kernel_rfl, by kernel_rfl, by kernel_rfl, by kernel_rfl, by kernel_rfl, by kernel_rfl, by kernel_rfl, by kernel_rfl, by kernel_rfl, by kernel_rfl, by kernel_rfl, by kernel_rfl, by kernel_rfl, by kernel_rfl, by kernel_rfl, by kernel_rfl, by kernel_rfl,  by kernel_rfl, by kernel_rfl, by kernel_rfl, by kernel_rfl, by kernel_rfl, by kernel_rfl, by kernel_rfl, by kernel_rfl, by kernel_rfl, by kernel_rfl, by kernel_rfl, by kernel_rfl, by kernel_rfl⟩
def cert (l : PV) : PV := .agg [.sl 0 false [], .sl 0 false [], .int .i64 0, .int .i64 0, .sl 0 false [], .int .i64 0, .sl 0 false [], .int .u32 0, .sl 0 false [], .sl 0 false [], .bool false, l, .sl 0 false []]
def hasU (u g : Int) : Bool := match ibin .and .u8 u g with
  | some (.int _ n) => n != 0
  | _ => false
theorem tp_nt24 : Tryz.f24.ntmps = 26 := rfl
theorem tp_res24 : Tryz.f24.results = #[.tmp 4] := rfl
set_option maxRecDepth 100000 in
set_option maxHeartbeats 4000000 in
theorem has_ev (n : Nat) (cs : List PV) (hn : normL cs = cs) (u g : Int) (some' : Bool) (h : WP tpC 13 [.sl n false cs] = some (.tup [.int .u8 u, .bool some', .bool true])) : WP tpC 24 [cert (.sl n false cs), .int .u8 g] = some (.bool (!some' || hasU u g)) := by
  rw [WP_eq (show tpC.md 24 < 9 by decide) Tryz.func24 rfl]
  simp only [cert, tp_nt24, tp_lv, List.map_cons, List.map_nil, List.length_cons, List.length_nil, Nat.reduceAdd, Nat.reduceSub, List.replicate, List.cons_append, List.nil_append]
  cases some' <;> simp only [WC_seq, WC_region, WC_ret, WC_cond, WC_skip, WC_block, WC_exit, evRegion, Bool.false_eq_true, if_false, if_true, reduceIte, evOps, evStep, wantedA, evOp, opv, putA, ret1, ofVal, ofVal1, cellsOf, AV.isCell, clean, evFieldAddr, evField, evLoad, evStore, evBin, evUn, evExtract, evBuild, evSlice, evIndexAddr, evIndex, evLen, evBuiltin, evConv, evMakeSlice, evBuildSlice, evNilCheck, ibin, blkRead, mkAgg, mkTup, mapO, AV.pure?, setAt, afill, parts, calleeOf, tell, scalar, scalarL, frz, norm, normL, ids, Go.Ev.mark, deep, evResults, evResult, aggCells, partA, List.getElem?_cons_zero, List.getElem?_cons_succ, List.getElem?_nil, List.map_cons, List.map_nil, List.all_cons, List.all_nil, Bool.and_true, Bool.true_and, Bool.and_false, Bool.false_and, Bool.and_self, Bool.not_true, Bool.not_false, Bool.or_true, Bool.or_false, Bool.false_or, Bool.true_or, List.set, List.length_cons, List.length_nil, List.nil_append, List.cons_append, List.append_nil, Nat.reduceAdd, Nat.reduceSub, Nat.reduceMul, Nat.reduceLeDiff, Nat.zero_add, Nat.reduceEqDiff, List.replicate, List.drop, List.take, List.flatMap_cons, List.flatMap_nil, List.foldl_nil, List.foldl_cons, decide_true, decide_false, and_self, and_true, true_and, BEq.rfl, beq_self_eq_true, Option.map_some, Option.map_none, Option.bind_some, Option.bind_none, List.getElem?_toArray, Option.isSome_some, Option.isSome_none, beqs, beq_iff_eq, ge_iff_le, gt_iff_lt, ne_eq, not_true_eq_false, not_false_eq_true, false_or, or_false, or_self, Nat.reduceLT, false_and, and_false, List.nil_append, evEq, eqc, optO, ibits, List.isEmpty_nil, List.isEmpty_cons, List.flatten_cons, List.flatten_nil, tp_P, tp_lv, tp_T, tp_c6, tp_c7, tp_c8, tp_c9, tp_c10, tp_c11, tp_c12, tp_c13, tp_c14, tp_c19, tp_c20, tp_c21, tp_c24, tp_c29, tp_c30, tp_c31, tp_md, Tryz.underlying33, Tryz.underlying2, Tryz.underlying4, Tryz.underlying49, Tryz.underlying3, Tryz.underlying5, Tryz.underlying42, Tryz.underlying40, Tryz.underlying44, Tryz.underlying25, Tryz.underlying30, Tryz.underlying38, Tryz.underlying31, tp_pt, tp_res24, h, hn, hasU]
theorem tp_nt10 : Tryz.f10.ntmps = 33 := rfl
theorem tp_res10 : Tryz.f10.results = #[.tmp 4] := rfl
set_option maxRecDepth 100000 in
set_option maxHeartbeats 4000000 in
theorem over_ev (n : Nat) (cs : List PV) (hn : normL cs = cs) (P u b : Int) (some' : Bool) (hP : 0 ≤ P) (h12 : WP tpC 12 [.sl n false cs] = some (.tup [.agg [.bool true, .int .i64 P], .bool true])) (h : WP tpC 13 [.sl n false cs] = some (.tup [.int .u8 u, .bool some', .bool true])) :
    WP tpC 10 [cert (.sl n false cs), .int .i64 b] = some (.bool (decide (b ≤ P) && (!some' || hasU u 4))) := by
  have hh := has_ev n cs hn u 4 some' h
  rw [cert] at hh
  have hP' : ¬ P < 0 := by omega
  rw [WP_eq (show tpC.md 10 < 9 by decide) Tryz.func10 rfl]
  simp only [cert, tp_nt10, tp_lv, List.map_cons, List.map_nil, List.length_cons, List.length_nil, Nat.reduceAdd, Nat.reduceSub, List.replicate, List.cons_append, List.nil_append]
  by_cases hb : b ≤ P
  · generalize (!some' || hasU u 4) = z at hh ⊢
    simp only [WC_seq, WC_region, WC_ret, WC_cond, WC_skip, WC_block, WC_exit, evRegion, Bool.false_eq_true, if_false, if_true, reduceIte, evOps, evStep, wantedA, evOp, opv, putA, ret1, ofVal, ofVal1, cellsOf, AV.isCell, clean, evFieldAddr, evField, evLoad, evStore, evBin, evUn, evExtract, evBuild, evSlice, evIndexAddr, evIndex, evLen, evBuiltin, evConv, evMakeSlice, evBuildSlice, evNilCheck, ibin, blkRead, mkAgg, mkTup, mapO, AV.pure?, setAt, afill, parts, calleeOf, tell, scalar, scalarL, frz, norm, normL, ids, Go.Ev.mark, deep, evResults, evResult, aggCells, partA, List.getElem?_cons_zero, List.getElem?_cons_succ, List.getElem?_nil, List.map_cons, List.map_nil, List.all_cons, List.all_nil, Bool.and_true, Bool.true_and, Bool.and_false, Bool.false_and, Bool.and_self, Bool.not_true, Bool.not_false, Bool.or_true, Bool.or_false, Bool.false_or, Bool.true_or, List.set, List.length_cons, List.length_nil, List.nil_append, List.cons_append, List.append_nil, Nat.reduceAdd, Nat.reduceSub, Nat.reduceMul, Nat.reduceLeDiff, Nat.zero_add, Nat.reduceEqDiff, List.replicate, List.drop, List.take, List.flatMap_cons, List.flatMap_nil, List.foldl_nil, List.foldl_cons, decide_true, decide_false, and_self, and_true, true_and, BEq.rfl, beq_self_eq_true, Option.map_some, Option.map_none, Option.bind_some, Option.bind_none, List.getElem?_toArray, Option.isSome_some, Option.isSome_none, beqs, beq_iff_eq, ge_iff_le, gt_iff_lt, ne_eq, not_true_eq_false, not_false_eq_true, false_or, or_false, or_self, Nat.reduceLT, false_and, and_false, List.nil_append, evEq, eqc, optO, ibits, List.isEmpty_nil, List.isEmpty_cons, List.flatten_cons, List.flatten_nil, tp_P, tp_lv, tp_T, tp_c6, tp_c7, tp_c8, tp_c9, tp_c10, tp_c11, tp_c12, tp_c13, tp_c14, tp_c19, tp_c20, tp_c21, tp_c24, tp_c29, tp_c30, tp_c31, tp_md, Tryz.underlying33, Tryz.underlying2, Tryz.underlying4, Tryz.underlying49, Tryz.underlying3, Tryz.underlying5, Tryz.underlying42, Tryz.underlying40, Tryz.underlying44, Tryz.underlying25, Tryz.underlying30, Tryz.underlying38, Tryz.underlying31, tp_pt, tp_res10, h12, hn, hh, hP', hb]
  · generalize (!some' || hasU u 4) = z at hh ⊢
    simp only [WC_seq, WC_region, WC_ret, WC_cond, WC_skip, WC_block, WC_exit, evRegion, Bool.false_eq_true, if_false, if_true, reduceIte, evOps, evStep, wantedA, evOp, opv, putA, ret1, ofVal, ofVal1, cellsOf, AV.isCell, clean, evFieldAddr, evField, evLoad, evStore, evBin, evUn, evExtract, evBuild, evSlice, evIndexAddr, evIndex, evLen, evBuiltin, evConv, evMakeSlice, evBuildSlice, evNilCheck, ibin, blkRead, mkAgg, mkTup, mapO, AV.pure?, setAt, afill, parts, calleeOf, tell, scalar, scalarL, frz, norm, normL, ids, Go.Ev.mark, deep, evResults, evResult, aggCells, partA, List.getElem?_cons_zero, List.getElem?_cons_succ, List.getElem?_nil, List.map_cons, List.map_nil, List.all_cons, List.all_nil, Bool.and_true, Bool.true_and, Bool.and_false, Bool.false_and, Bool.and_self, Bool.not_true, Bool.not_false, Bool.or_true, Bool.or_false, Bool.false_or, Bool.true_or, List.set, List.length_cons, List.length_nil, List.nil_append, List.cons_append, List.append_nil, Nat.reduceAdd, Nat.reduceSub, Nat.reduceMul, Nat.reduceLeDiff, Nat.zero_add, Nat.reduceEqDiff, List.replicate, List.drop, List.take, List.flatMap_cons, List.flatMap_nil, List.foldl_nil, List.foldl_cons, decide_true, decide_false, and_self, and_true, true_and, BEq.rfl, beq_self_eq_true, Option.map_some, Option.map_none, Option.bind_some, Option.bind_none, List.getElem?_toArray, Option.isSome_some, Option.isSome_none, beqs, beq_iff_eq, ge_iff_le, gt_iff_lt, ne_eq, not_true_eq_false, not_false_eq_true, false_or, or_false, or_self, Nat.reduceLT, false_and, and_false, List.nil_append, evEq, eqc, optO, ibits, List.isEmpty_nil, List.isEmpty_cons, List.flatten_cons, List.flatten_nil, tp_P, tp_lv, tp_T, tp_c6, tp_c7, tp_c8, tp_c9, tp_c10, tp_c11, tp_c12, tp_c13, tp_c14, tp_c19, tp_c20, tp_c21, tp_c24, tp_c29, tp_c30, tp_c31, tp_md, Tryz.underlying33, Tryz.underlying2, Tryz.underlying4, Tryz.underlying49, Tryz.underlying3, Tryz.underlying5, Tryz.underlying42, Tryz.underlying40, Tryz.underlying44, Tryz.underlying25, Tryz.underlying30, Tryz.underlying38, Tryz.underlying31, tp_pt, tp_res10, h12, hn, hh, hP', hb]
theorem tp_nt11 : Tryz.f11.ntmps = 36 := rfl
theorem tp_res11 : Tryz.f11.results = #[.tmp 4] := rfl
set_option maxRecDepth 100000 in
set_option maxHeartbeats 4000000 in
theorem may_ev (n : Nat) (cs : List PV) (hn : normL cs = cs) (u : Int) (some' : Bool) (h14 : WP tpC 14 [.sl n false cs] = some (.tup [.sl 0 false [], .bool false, .bool true])) (h : WP tpC 13 [.sl n false cs] = some (.tup [.int .u8 u, .bool some', .bool true])) :
    WP tpC 11 [cert (.sl n false cs), .int .i64 1] = some (.bool false) := by
  have hh := has_ev n cs hn u 128 some' h
  rw [cert] at hh
  rw [WP_eq (show tpC.md 11 < 9 by decide) Tryz.func11 rfl]
  simp only [cert, tp_nt11, tp_lv, List.map_cons, List.map_nil, List.length_cons, List.length_nil, Nat.reduceAdd, Nat.reduceSub, List.replicate, List.cons_append, List.nil_append]
  generalize (!some' || hasU u 128) = z at hh
  have e1 : ((1 : Int) == 1) = true := rfl
  cases z <;> simp only [WC_seq, WC_region, WC_ret, WC_cond, WC_skip, WC_block, WC_exit, evRegion, Bool.false_eq_true, if_false, if_true, reduceIte, evOps, evStep, wantedA, evOp, opv, putA, ret1, ofVal, ofVal1, cellsOf, AV.isCell, clean, evFieldAddr, evField, evLoad, evStore, evBin, evUn, evExtract, evBuild, evSlice, evIndexAddr, evIndex, evLen, evBuiltin, evConv, evMakeSlice, evBuildSlice, evNilCheck, ibin, blkRead, mkAgg, mkTup, mapO, AV.pure?, setAt, afill, parts, calleeOf, tell, scalar, scalarL, frz, norm, normL, ids, Go.Ev.mark, deep, evResults, evResult, aggCells, partA, List.getElem?_cons_zero, List.getElem?_cons_succ, List.getElem?_nil, List.map_cons, List.map_nil, List.all_cons, List.all_nil, Bool.and_true, Bool.true_and, Bool.and_false, Bool.false_and, Bool.and_self, Bool.not_true, Bool.not_false, Bool.or_true, Bool.or_false, Bool.false_or, Bool.true_or, List.set, List.length_cons, List.length_nil, List.nil_append, List.cons_append, List.append_nil, Nat.reduceAdd, Nat.reduceSub, Nat.reduceMul, Nat.reduceLeDiff, Nat.zero_add, Nat.reduceEqDiff, List.replicate, List.drop, List.take, List.flatMap_cons, List.flatMap_nil, List.foldl_nil, List.foldl_cons, decide_true, decide_false, and_self, and_true, true_and, BEq.rfl, beq_self_eq_true, Option.map_some, Option.map_none, Option.bind_some, Option.bind_none, List.getElem?_toArray, Option.isSome_some, Option.isSome_none, beqs, beq_iff_eq, ge_iff_le, gt_iff_lt, ne_eq, not_true_eq_false, not_false_eq_true, false_or, or_false, or_self, Nat.reduceLT, false_and, and_false, List.nil_append, evEq, eqc, optO, ibits, List.isEmpty_nil, List.isEmpty_cons, List.flatten_cons, List.flatten_nil, tp_P, tp_lv, tp_T, tp_c6, tp_c7, tp_c8, tp_c9, tp_c10, tp_c11, tp_c12, tp_c13, tp_c14, tp_c19, tp_c20, tp_c21, tp_c24, tp_c29, tp_c30, tp_c31, tp_md, Tryz.underlying33, Tryz.underlying2, Tryz.underlying4, Tryz.underlying49, Tryz.underlying3, Tryz.underlying5, Tryz.underlying42, Tryz.underlying40, Tryz.underlying44, Tryz.underlying25, Tryz.underlying30, Tryz.underlying38, Tryz.underlying31, tp_pt, tp_res11, h14, hn, hh, e1]
theorem tp_wrap {x : Int} (h1 : -9223372036854775808 ≤ x) (h2 : x ≤ 9223372036854775807) : IntKind.i64.wrap x = x := by
  unfold IntKind.wrap
  simp only [IntKind.bits, IntKind.signed, Bool.true_and]
  split <;> rename_i h
  · simp only [ge_iff_le, decide_eq_true_eq] at h; omega
  · simp only [ge_iff_le, decide_eq_true_eq] at h; omega
theorem tp_nt7 : Tryz.f7.ntmps = 9 := rfl
theorem tp_res7 : Tryz.f7.results = #[.cell 2 38] := rfl
set_option maxRecDepth 100000 in
set_option maxHeartbeats 4000000 in
theorem ca_ev (p : Nat) (hp : p ≤ 100) : WP tpC 7 [.int .u64 (p : Int)] = some (.agg (caV p)) := by
  have h21 := small_all p hp
  have h19 := seq_r p
  have h8 := says_r p
  rw [WP_eq (show tpC.md 7 < 9 by decide) Tryz.func7 rfl]
  simp only [tp_nt7, tp_lv, kids, caV, List.map_cons, List.map_nil, List.length_cons, List.length_nil, Nat.reduceAdd, Nat.reduceSub, List.replicate, List.cons_append, List.nil_append] at h19 h8 ⊢
  simp only [WC_seq, WC_region, WC_ret, WC_cond, WC_skip, WC_block, WC_exit, evRegion, Bool.false_eq_true, if_false, if_true, reduceIte, evOps, evStep, wantedA, evOp, opv, putA, ret1, ofVal, ofVal1, cellsOf, AV.isCell, clean, evFieldAddr, evField, evLoad, evStore, evBin, evUn, evExtract, evBuild, evSlice, evIndexAddr, evIndex, evLen, evBuiltin, evConv, evMakeSlice, evBuildSlice, evNilCheck, ibin, blkRead, mkAgg, mkTup, mapO, AV.pure?, setAt, afill, parts, calleeOf, tell, scalar, scalarL, frz, norm, normL, ids, Go.Ev.mark, deep, evResults, evResult, aggCells, partA, List.getElem?_cons_zero, List.getElem?_cons_succ, List.getElem?_nil, List.map_cons, List.map_nil, List.all_cons, List.all_nil, Bool.and_true, Bool.true_and, Bool.and_false, Bool.false_and, Bool.and_self, Bool.not_true, Bool.not_false, Bool.or_true, Bool.or_false, Bool.false_or, Bool.true_or, List.set, List.length_cons, List.length_nil, List.nil_append, List.cons_append, List.append_nil, Nat.reduceAdd, Nat.reduceSub, Nat.reduceMul, Nat.reduceLeDiff, Nat.zero_add, Nat.reduceEqDiff, List.replicate, List.drop, List.take, List.flatMap_cons, List.flatMap_nil, List.foldl_nil, List.foldl_cons, decide_true, decide_false, and_self, and_true, true_and, BEq.rfl, beq_self_eq_true, Option.map_some, Option.map_none, Option.bind_some, Option.bind_none, List.getElem?_toArray, Option.isSome_some, Option.isSome_none, beqs, beq_iff_eq, ge_iff_le, gt_iff_lt, ne_eq, not_true_eq_false, not_false_eq_true, false_or, or_false, or_self, Nat.reduceLT, false_and, and_false, List.nil_append, evEq, eqc, optO, ibits, List.isEmpty_nil, List.isEmpty_cons, List.flatten_cons, List.flatten_nil, tp_P, tp_lv, tp_T, tp_c6, tp_c7, tp_c8, tp_c9, tp_c10, tp_c11, tp_c12, tp_c13, tp_c14, tp_c19, tp_c20, tp_c21, tp_c24, tp_c29, tp_c30, tp_c31, tp_md, Tryz.underlying33, Tryz.underlying2, Tryz.underlying4, Tryz.underlying49, Tryz.underlying3, Tryz.underlying5, Tryz.underlying42, Tryz.underlying40, Tryz.underlying44, Tryz.underlying25, Tryz.underlying30, Tryz.underlying38, Tryz.underlying31, tp_pt, tp_res7, bool_r, h21, h19, h8]
theorem evCall_ora {C : Cfg} {f : FuncId} {st : Bool} {args : List AV} {H : List ABlk} {xs : List PV} {x : PV} (h0 : C.md f = 0) (ho : C.O f xs = some x) (hx : mapO (frz false H deep) args = some xs) :
    evCall C (W C) st f args H = tell (!st || (mapO (frz true H deep) args).isSome) H (if st then H else Go.Ev.mark (args.flatMap (ids H deep)) H) x := by
  unfold evCall
  rw [if_neg (by omega), if_neg (by omega), hx]
  simp only
  rw [ho]
theorem tp_nt12 : Tryz.f12.ntmps = 78 := rfl
theorem tp_res12 : Tryz.f12.results = #[.cell 2 49, .tmp 3] := rfl
theorem tp_small (p : Nat) (hp : p ≤ 100) {st : Bool} {H : List ABlk} : evCall tpC (W tpC) st 32 [.p (.agg [.int .u8 2, .sl 1 false [.int .u8 (p : Int)], .sl 0 false []])] H = tell (!st || true) H H (.tup [.int .u64 (p : Int), .bool true]) := by
  rw [evCall_ora (xs := [.agg [.int .u8 2, .sl 1 false [.int .u8 (p : Int)], .sl 0 false []]]) (x := .tup [.int .u64 (p : Int), .bool true]) rfl (by
    have h : Nat.ble p 100 = true := Nat.ble_eq ▸ hp
    exact (if_pos h : (if Nat.ble p 100 = true then some (PV.tup [.int .u64 (Int.ofNat p), .bool true]) else none) = some (PV.tup [.int .u64 (Int.ofNat p), .bool true]))) rfl]
  cases st <;> rfl
set_option maxRecDepth 100000 in
set_option maxHeartbeats 4000000 in
theorem basic_ev (n : Nat) (cs : List PV) (hn : normL cs = cs) (p : Nat) (hp : p ≤ 100) (h29 : WP tpC 29 [.sl n false cs, .int .u8 19] = some (.tup [.agg [.int .u8 48, .sl 0 false [], .sl 2 false (kids p)], .bool true, .bool true])) :
    WP tpC 12 [.sl n false cs] = some (.tup [.agg [.bool true, .int .i64 (p : Int)], .bool true]) := by
  have h30 := seq_p p
  have hw : IntKind.i64.wrap (p : Int) = (p : Int) := tp_wrap (by omega) (by omega)
  have hg : ¬ (p : Int) > 100 := by omega
  have hs := @tp_small p hp
  rw [WP_eq (show tpC.md 12 < 9 by decide) Tryz.func12 rfl]
  simp only [tp_nt12, tp_lv, kids, List.map_cons, List.map_nil, List.length_cons, List.length_nil, Nat.reduceAdd, Nat.reduceSub, List.replicate, List.cons_append, List.nil_append] at h29 h30 ⊢
  simp only [WC_seq, WC_region, WC_ret, WC_cond, WC_skip, WC_block, WC_exit, evRegion, Bool.false_eq_true, if_false, if_true, reduceIte, evOps, evStep, wantedA, evOp, opv, putA, ret1, ofVal, ofVal1, cellsOf, AV.isCell, clean, evFieldAddr, evField, evLoad, evStore, evBin, evUn, evExtract, evBuild, evSlice, evIndexAddr, evIndex, evLen, evBuiltin, evConv, evMakeSlice, evBuildSlice, evNilCheck, ibin, blkRead, mkAgg, mkTup, mapO, AV.pure?, setAt, afill, parts, calleeOf, tell, scalar, scalarL, frz, norm, normL, ids, Go.Ev.mark, deep, evResults, evResult, aggCells, partA, List.getElem?_cons_zero, List.getElem?_cons_succ, List.getElem?_nil, List.map_cons, List.map_nil, List.all_cons, List.all_nil, Bool.and_true, Bool.true_and, Bool.and_false, Bool.false_and, Bool.and_self, Bool.not_true, Bool.not_false, Bool.or_true, Bool.or_false, Bool.false_or, Bool.true_or, List.set, List.length_cons, List.length_nil, List.nil_append, List.cons_append, List.append_nil, Nat.reduceAdd, Nat.reduceSub, Nat.reduceMul, Nat.reduceLeDiff, Nat.zero_add, Nat.reduceEqDiff, List.replicate, List.drop, List.take, List.flatMap_cons, List.flatMap_nil, List.foldl_nil, List.foldl_cons, decide_true, decide_false, and_self, and_true, true_and, BEq.rfl, beq_self_eq_true, Option.map_some, Option.map_none, Option.bind_some, Option.bind_none, List.getElem?_toArray, Option.isSome_some, Option.isSome_none, beqs, beq_iff_eq, ge_iff_le, gt_iff_lt, ne_eq, not_true_eq_false, not_false_eq_true, false_or, or_false, or_self, Nat.reduceLT, false_and, and_false, List.nil_append, evEq, eqc, optO, ibits, List.isEmpty_nil, List.isEmpty_cons, List.flatten_cons, List.flatten_nil, tp_P, tp_lv, tp_T, tp_c6, tp_c7, tp_c8, tp_c9, tp_c10, tp_c11, tp_c12, tp_c13, tp_c14, tp_c19, tp_c20, tp_c21, tp_c24, tp_c29, tp_c30, tp_c31, tp_md, Tryz.underlying33, Tryz.underlying2, Tryz.underlying4, Tryz.underlying49, Tryz.underlying3, Tryz.underlying5, Tryz.underlying42, Tryz.underlying40, Tryz.underlying44, Tryz.underlying25, Tryz.underlying30, Tryz.underlying38, Tryz.underlying31, tp_pt, tp_res12, h29, hn, h30, bool_t, hs, hw, hg, Int.cast_ofNat_Int, Int.reduceLT, Int.reduceBEq, Int.reduceEq, Int.reduceLE, Int.reduceGT, Int.reduceToNat, Int.toNat_zero, Int.toNat_one, List.drop_succ_cons, List.drop_zero, show tpC.md 32 = 0 from rfl]
end Go.Proofs
