/- The program's numbers: Add32, Sub32, more, less. No condition. -/
import Derived.Test.YtfhhgndppfpngaaRsa12
set_option linter.unusedSimpArgs false
set_option linter.unusedVariables false
set_option linter.unusedSimpArgs false
set_option linter.unusedVariables false
namespace Go.Proofs
open Go.Ev Go.Mx
theorem rs_lv71 : rsC.lv 71 = [true, true, true, false, false, false, true, true, true, false, false, false, false, false, false, false, false, false, false, false, false, false] := by kernel_rfl
set_option maxRecDepth 100000 in
set_option maxHeartbeats 4000000 in
theorem rs_add32 (x y c : Nat) (hx : x < LB) (hy : y < LB) (hc : c ≤ 1) : WP rsC 71 [.int .u32 (x : Int), .int .u32 (y : Int), .int .u32 (c : Int)] = some (.tup [.int .u32 (((x + y + c) % LB : Nat) : Int), .int .u32 (((x + y + c) / LB : Nat) : Int)]) := by
  have hLB : LB = 4294967296 := rfl
  have w1 := w64 (x := x) (by omega)
  have w2 := w64 (x := y) (by omega)
  have w3 := w64 (x := c) (by omega)
  have a1 : IntKind.u64.wrap ((x : Int) + (y : Int)) = ((x + y : Nat) : Int) := by rw [← Int.natCast_add]; exact w64 (by omega)
  have a2 : IntKind.u64.wrap (((x + y : Nat) : Int) + (c : Int)) = ((x + y + c : Nat) : Int) := by rw [← Int.natCast_add]; exact w64 (by omega)
  obtain ⟨s, hs⟩ : ∃ s, s = x + y + c := ⟨_, rfl⟩
  rw [← hs] at a2
  rw [← hs]
  have hw := wrap_u32 s
  have hw2 := wrap_u32 (s / LB)
  rw [Nat.mod_eq_of_lt (Nat.div_lt_of_lt_mul (by rw [hLB]; omega))] at hw2
  rw [WP_eq (show rsC.md 71 < 9 by decide) Try.func71 rfl]
  rw [show Try.f71.ntmps = 22 from rfl, rs_lv71]
  simp only [N32, List.map_cons, List.map_nil, List.length_cons, List.length_nil, Nat.reduceAdd, Nat.reduceSub, List.replicate, List.cons_append, List.nil_append]
  simp only [seqT, thn_normal, thn_ret, thn_exit, WC_region, WC_cond, WC_exit, WC_skip, WC_block, WC_ret, evRegion, Bool.false_eq_true, if_false, if_true, reduceIte, ops_n, ops_c, evStep, wantedA, evOp, opv, putA, ret1, ofVal, ofVal1, cellsOf, AV.isCell, clean, evFieldAddr, evField, evExtract, evBuild, evIndex, evBuiltin, evBuildSlice, evNilCheck, blkRead, mkAgg, mkTup, mapO, AV.pure?, setAt, afill, parts, calleeOf, tell, scalar, scalarL, frz, norm, normL, ids, Go.Ev.mark, deep, evResults, evResult, aggCells, partA, List.getElem?_cons_zero, List.getElem?_cons_succ, List.getElem?_nil, List.map_cons, List.map_nil, List.all_cons, List.all_nil, Bool.and_true, Bool.true_and, Bool.and_false, Bool.false_and, Bool.and_self, Bool.not_true, Bool.not_false, Bool.or_true, Bool.or_false, Bool.false_or, Bool.true_or, List.set, List.length_cons, List.length_nil, List.nil_append, List.cons_append, List.append_nil, Nat.reduceAdd, Nat.reduceSub, Nat.reduceMul, Nat.reduceLeDiff, Nat.zero_add, Nat.reduceEqDiff, List.replicate, List.drop, List.take, List.flatMap_cons, List.flatMap_nil, List.foldl_nil, List.foldl_cons, decide_true, decide_false, and_self, and_true, true_and, BEq.rfl, beq_self_eq_true, Option.map_some, Option.map_none, Option.bind_some, Option.bind_none, List.getElem?_toArray, Option.isSome_some, Option.isSome_none, beqs, ne_eq, not_true_eq_false, not_false_eq_true, false_or, or_false, or_self, Nat.reduceLT, false_and, and_false, List.nil_append, evEq, eqc, optO, b_add, b_sub, b_mul, b_eql, b_neq, b_lss, b_leq, b_gtr, b_geq, u_not, flags0, flags1, rs_P, mulConv, w1, w2, w3, a1, a2, hw, hw2, b_shr32, frz_p, show Try.f71.results = #[.tmp 6, .tmp 7] from rfl]
end Go.Proofs
set_option linter.unusedSimpArgs false
set_option linter.unusedVariables false
namespace Go.Proofs
open Go.Ev Go.Mx
theorem tb31 {x : Nat} (h : x < 4294967296) : x.testBit 31 = decide (2147483648 ≤ x) := by
  rw [Nat.testBit_eq_decide_div_mod_eq]
  have e : (2 : Nat) ^ 31 = 2147483648 := by decide
  rw [e]
  by_cases h2 : 2147483648 ≤ x
  · rw [decide_eq_true h2, decide_eq_true (by omega)]
  · rw [decide_eq_false h2, decide_eq_false (by omega)]
theorem top_bit {z : Nat} (h : z < 4294967296) : z / 2147483648 = (z.testBit 31).toNat := by
  rw [tb31 h]
  by_cases h2 : 2147483648 ≤ z
  · rw [decide_eq_true h2]; show z / 2147483648 = 1; omega
  · rw [decide_eq_false h2]; show z / 2147483648 = 0; omega
/-- The borrow of a difference of digits, as math/bits has it. -/
theorem borrow_bits {x y b s : Nat} (hx : x < 4294967296) (hy : y < 4294967296) (hb : b ≤ 1) (hs : s = x + 4294967296 - y - b) :
    (((4294967295 ^^^ x) &&& y) ||| ((4294967295 ^^^ (x ^^^ y)) &&& (s % 4294967296))) / 2147483648 = 1 - s / 4294967296 := by
  have hd : s % 4294967296 < 4294967296 := Nat.mod_lt _ (by decide)
  have h1 : 4294967295 ^^^ x < 2 ^ 32 := Nat.xor_lt_two_pow (by decide) hx
  have h2 : (4294967295 ^^^ x) &&& y < 2 ^ 32 := Nat.and_lt_two_pow _ hy
  have h3 : (4294967295 ^^^ (x ^^^ y)) &&& (s % 4294967296) < 2 ^ 32 := Nat.and_lt_two_pow _ hd
  have h4 := Nat.or_lt_two_pow h2 h3
  rw [top_bit h4]
  simp only [Nat.testBit_or, Nat.testBit_and, Nat.testBit_xor]
  rw [show Nat.testBit 4294967295 31 = true by decide, tb31 hx, tb31 hy, tb31 hd]
  by_cases c1 : 2147483648 ≤ x <;> by_cases c2 : 2147483648 ≤ y <;> by_cases c3 : 2147483648 ≤ s % 4294967296 <;>
    simp only [c1, c2, c3, decide_true, decide_false, Bool.xor_true, Bool.xor_false, Bool.true_xor, Bool.false_xor, Bool.not_true, Bool.not_false, Bool.and_true, Bool.and_false, Bool.true_and, Bool.false_and, Bool.or_true, Bool.or_false, Bool.true_or, Bool.false_or, Bool.toNat_true, Bool.toNat_false] <;> omega
end Go.Proofs
set_option linter.unusedSimpArgs false
set_option linter.unusedVariables false
namespace Go.Proofs
open Go.Ev Go.Mx
theorem rs_lv70 : rsC.lv 70 = [true, true, true, false, false, false, true, true, false, false, false, false, false, false, false, false, false, false, false, false, false, false, false, false, false] := by kernel_rfl
theorem b_and32 {P : Program} {t : TypeId} {x y : Nat} (hx : x < LB) (hy : y < LB) : evBin P .and t (.p (.int .u32 (x : Int))) (.p (.int .u32 (y : Int))) = some (.p (.int .u32 ((x &&& y : Nat) : Int))) := by
  have hLB : LB = 4294967296 := rfl
  have e : (BitVec.ofInt 32 (x : Int) &&& BitVec.ofInt 32 (y : Int)).toNat = x &&& y := by
    simp only [BitVec.toNat_and, BitVec.ofInt_natCast, BitVec.toNat_ofNat]
    rw [Nat.mod_eq_of_lt (by omega), Nat.mod_eq_of_lt (by omega)]
  have hl : x &&& y < 4294967296 := Nat.and_lt_two_pow (n := 32) x hy
  have h : ibin .and .u32 (x : Int) (y : Int) = some (.int .u32 ((x &&& y : Nat) : Int)) := by
    show some (PV.int .u32 (IntKind.u32.wrap ((BitVec.ofInt 32 (x : Int) &&& BitVec.ofInt 32 (y : Int)).toNat))) = _
    rw [e, wrapu32, Int.emod_eq_of_lt (by omega) (by omega)]
  simp only [evBin, h]
  simp
theorem i_xor32 {x y : Nat} (hx : x < LB) (hy : y < LB) : ibin .xor .u32 (x : Int) (y : Int) = some (.int .u32 ((x ^^^ y : Nat) : Int)) := by
  have hLB : LB = 4294967296 := rfl
  have e : (BitVec.ofInt 32 (x : Int) ^^^ BitVec.ofInt 32 (y : Int)).toNat = x ^^^ y := by
    simp only [BitVec.toNat_xor, BitVec.ofInt_natCast, BitVec.toNat_ofNat]
    rw [Nat.mod_eq_of_lt (by omega), Nat.mod_eq_of_lt (by omega)]
  have hl : x ^^^ y < 4294967296 := Nat.xor_lt_two_pow (n := 32) hx hy
  show some (PV.int .u32 (IntKind.u32.wrap ((BitVec.ofInt 32 (x : Int) ^^^ BitVec.ofInt 32 (y : Int)).toNat))) = _
  rw [e, wrapu32, Int.emod_eq_of_lt (by omega) (by omega)]
theorem b_xor32 {P : Program} {t : TypeId} {x y : Nat} (hx : x < LB) (hy : y < LB) : evBin P .xor t (.p (.int .u32 (x : Int))) (.p (.int .u32 (y : Int))) = some (.p (.int .u32 ((x ^^^ y : Nat) : Int))) := by
  simp only [evBin, i_xor32 hx hy]
  simp
theorem u_xor32 {x : Nat} (hx : x < LB) : evUn .xor (.p (.int .u32 (x : Int))) = some (.p (.int .u32 ((4294967295 ^^^ x : Nat) : Int))) := by
  have h := i_xor32 (x := 4294967295) (y := x) (by decide) hx
  show Option.map AV.p (ibin .xor .u32 (if IntKind.u32.signed then -1 else IntKind.u32.max) (x : Int)) = _
  rw [show (if IntKind.u32.signed then -1 else IntKind.u32.max) = ((4294967295 : Nat) : Int) from rfl, h]
  rfl
set_option maxRecDepth 100000 in
set_option maxHeartbeats 4000000 in
theorem rs_sub32 (x y b : Nat) (hx : x < LB) (hy : y < LB) (hb : b ≤ 1) : WP rsC 70 [.int .u32 (x : Int), .int .u32 (y : Int), .int .u32 (b : Int)] = some (.tup [.int .u32 (((x + LB - y - b) % LB : Nat) : Int), .int .u32 ((1 - (x + LB - y - b) / LB : Nat) : Int)]) := by
  have hLB : LB = 4294967296 := rfl
  obtain ⟨s, hs⟩ : ∃ s, s = x + LB - y - b := ⟨_, rfl⟩
  rw [← hs]
  have hbb := borrow_bits (s := s) hx hy hb hs
  change _ / 2147483648 = 1 - s / LB at hbb
  have w1 : IntKind.u32.wrap ((x : Int) - (y : Int)) = (((x + LB - y) % LB : Nat) : Int) := by rw [wrapu32, hLB]; omega
  have w2 : IntKind.u32.wrap ((((x + LB - y) % LB : Nat) : Int) - (b : Int)) = ((s % LB : Nat) : Int) := by rw [wrapu32, hs, hLB]; omega
  obtain ⟨d, hd⟩ : ∃ d, d = s % LB := ⟨_, rfl⟩
  have hdl : d < LB := by rw [hd]; exact Nat.mod_lt _ (by decide)
  rw [← hd] at w2
  change (((4294967295 ^^^ x) &&& y) ||| ((4294967295 ^^^ (x ^^^ y)) &&& (s % LB))) / 2147483648 = 1 - s / LB at hbb
  rw [← hd] at hbb ⊢
  have x1 : x ^^^ y < LB := Nat.xor_lt_two_pow (n := 32) hx hy
  have x2 : 4294967295 ^^^ x < LB := Nat.xor_lt_two_pow (n := 32) (by decide) hx
  have x3 : 4294967295 ^^^ (x ^^^ y) < LB := Nat.xor_lt_two_pow (n := 32) (by decide) x1
  have f1 := u_xor32 hx
  have f2 := fun P t => b_xor32 (P := P) (t := t) hx hy
  have f3 := u_xor32 x1
  have f4 := fun P t => b_and32 (P := P) (t := t) x2 hy
  have f5 := fun P t => b_and32 (P := P) (t := t) x3 hdl
  have z1 : (4294967295 ^^^ x) &&& y < LB := Nat.and_lt_two_pow (n := 32) _ hy
  have z2 : (4294967295 ^^^ (x ^^^ y)) &&& d < LB := Nat.and_lt_two_pow (n := 32) _ hdl
  generalize 4294967295 ^^^ x = X at *
  generalize 4294967295 ^^^ (x ^^^ y) = Y at *
  generalize x ^^^ y = XY at *
  have f6 := fun P t => b_or32 (P := P) (t := t) z1 z2
  generalize X &&& y = A at *
  generalize Y &&& d = B at *
  generalize A ||| B = C at *
  have f7 := fun P t k => s_u32 (P := P) (t := t) (k := k) (x := C) (n := 31) (by decide)
  change ∀ (P : Program) (t : TypeId) (k : IntKind), evBin P .shr t (.p (.int .u32 (C : Int))) (.p (.int k 31)) = some (.p (.int .u32 ((C / 2147483648 : Nat) : Int))) at f7
  rw [hbb] at f7
  obtain ⟨D, hD⟩ : ∃ D, D = (x + LB - y) % LB := ⟨_, rfl⟩
  rw [← hD] at w1 w2
  rw [WP_eq (show rsC.md 70 < 9 by decide) Try.func70 rfl]
  rw [show Try.f70.ntmps = 25 from rfl, rs_lv70]
  simp only [N32, List.map_cons, List.map_nil, List.length_cons, List.length_nil, Nat.reduceAdd, Nat.reduceSub, List.replicate, List.cons_append, List.nil_append]
  simp only [seqT, thn_normal, thn_ret, thn_exit, WC_region, WC_cond, WC_exit, WC_skip, WC_block, WC_ret, evRegion, Bool.false_eq_true, if_false, if_true, reduceIte, ops_n, ops_c, evStep, wantedA, evOp, opv, putA, ret1, ofVal, ofVal1, cellsOf, AV.isCell, clean, evFieldAddr, evField, evExtract, evBuild, evIndex, evBuiltin, evBuildSlice, evNilCheck, blkRead, mkAgg, mkTup, mapO, AV.pure?, setAt, afill, parts, calleeOf, tell, scalar, scalarL, frz, norm, normL, ids, Go.Ev.mark, deep, evResults, evResult, aggCells, partA, List.getElem?_cons_zero, List.getElem?_cons_succ, List.getElem?_nil, List.map_cons, List.map_nil, List.all_cons, List.all_nil, Bool.and_true, Bool.true_and, Bool.and_false, Bool.false_and, Bool.and_self, Bool.not_true, Bool.not_false, Bool.or_true, Bool.or_false, Bool.false_or, Bool.true_or, List.set, List.length_cons, List.length_nil, List.nil_append, List.cons_append, List.append_nil, Nat.reduceAdd, Nat.reduceSub, Nat.reduceMul, Nat.reduceLeDiff, Nat.zero_add, Nat.reduceEqDiff, List.replicate, List.drop, List.take, List.flatMap_cons, List.flatMap_nil, List.foldl_nil, List.foldl_cons, decide_true, decide_false, and_self, and_true, true_and, BEq.rfl, beq_self_eq_true, Option.map_some, Option.map_none, Option.bind_some, Option.bind_none, List.getElem?_toArray, Option.isSome_some, Option.isSome_none, beqs, ne_eq, not_true_eq_false, not_false_eq_true, false_or, or_false, or_self, Nat.reduceLT, false_and, and_false, List.nil_append, evEq, eqc, optO, b_add, b_sub, b_mul, b_eql, b_neq, b_lss, b_leq, b_gtr, b_geq, u_not, flags0, flags1, rs_P, w1, w2, f1, f2, f3, f4, f5, f6, f7, frz_p, show Try.f70.results = #[.tmp 6, .tmp 7] from rfl]
end Go.Proofs
set_option linter.unusedSimpArgs false
set_option linter.unusedVariables false
namespace Go.Proofs
open Go.Ev Go.Mx
theorem rs_lv67 : rsC.lv 67 = [true, true, false, false, true, true, true, false, true, true, true, false, false, false, false, true, false, false, false, false, false, false, false, false, false, false, false, false, false, false, false, false, false, false] := by kernel_rfl
set_option maxRecDepth 100000 in
set_option maxHeartbeats 4000000 in
theorem rs_more (lo w hi v : List Nat) (Hs : List ABlk) (n : Nat) (hlw : Limbs w) (hlv : Limbs v) (hw : w.length = n + 1) (hvl : v.length = n) (hsz : (lo ++ w ++ hi).length ≤ 100000) :
    ∃ (w' : List Nat) (c : Nat), W rsC 67 [.ms 0 0 lo.length (n + 1) 1, .p (N32 v)] (⟨0, false, lb (lo ++ w ++ hi)⟩ :: Hs) = some (.p (.tup []), (⟨0, false, lb (lo ++ w' ++ hi)⟩ :: Hs)) ∧ w'.length = n + 1 ∧ Limbs w' ∧ c ≤ 1 ∧ val w' + c * LB ^ (n + 1) = val w + val v := by
  have hLB : LB = 4294967296 := rfl
  have hsz' : lo.length + (n + 1) ≤ 100000 := by simp at hsz; omega
  rw [W_fin (show rsC.md 67 < 9 by decide) Try.func67 rfl]
  rw [show Try.f67.ntmps = 34 from rfl, rs_lv67]
  simp only [N32, List.map_cons, List.map_nil, List.length_cons, List.length_nil, Nat.reduceAdd, Nat.reduceSub, List.replicate, List.cons_append, List.nil_append]
  simp only [seqT, thn_normal, thn_ret, thn_exit, WC_region, WC_cond, WC_exit, WC_skip, WC_block, WC_ret, evRegion, Bool.false_eq_true, if_false, if_true, reduceIte, ops_n, ops_c, evStep, wantedA, evOp, opv, putA, ret1, ofVal, ofVal1, cellsOf, AV.isCell, clean, evFieldAddr, evField, evExtract, evBuild, evIndex, evBuiltin, evBuildSlice, evNilCheck, blkRead, mkAgg, mkTup, mapO, AV.pure?, setAt, afill, parts, calleeOf, tell, scalar, scalarL, norm, normL, ids, Go.Ev.mark, evResults, evResult, aggCells, partA, List.getElem?_cons_zero, List.getElem?_cons_succ, List.getElem?_nil, List.map_cons, List.map_nil, List.all_cons, List.all_nil, Bool.and_true, Bool.true_and, Bool.and_false, Bool.false_and, Bool.and_self, Bool.not_true, Bool.not_false, Bool.or_true, Bool.or_false, Bool.false_or, Bool.true_or, List.set, List.length_cons, List.length_nil, List.nil_append, List.cons_append, List.append_nil, Nat.reduceAdd, Nat.reduceSub, Nat.reduceMul, Nat.reduceLeDiff, Nat.zero_add, Nat.reduceEqDiff, List.replicate, List.drop, List.take, List.flatMap_cons, List.flatMap_nil, List.foldl_nil, List.foldl_cons, decide_true, decide_false, and_self, and_true, true_and, BEq.rfl, beq_self_eq_true, Option.map_some, Option.map_none, Option.bind_some, Option.bind_none, List.getElem?_toArray, Option.isSome_some, Option.isSome_none, beqs, ne_eq, not_true_eq_false, not_false_eq_true, false_or, or_false, or_self, Nat.reduceLT, false_and, and_false, List.nil_append, evEq, eqc, optO, b_add, b_sub, b_mul, b_eql, b_neq, b_lss, b_leq, b_gtr, b_geq, u_not, flags0, flags1, rs_P, lenms rs_P, len32 rs_P]
  generalize hI : (Code.loop _ : Code) = I
  have inner : ∀ (m k : Nat) (x : List Nat) (c : Nat) (t5 t6 t10 t15 : AV), k + m = n + 1 → x.length = n + 1 → Limbs x → c ≤ 1 → val x + c * LB ^ k = val w + val (v.take k) → (∀ j, k ≤ j → x.getD j 0 = w.getD j 0) → ∃ (x' : List Nat) (c' : Nat) (t5' t6' t10' t15' : AV),
      WC rsC [true, true, false, false, true, true, true, false, true, true, true, false, false, false, false, true, false, false, false, false, false, false, false, false, false, false, false, false, false, false, false, false, false, false] I ⟨[.ms 0 0 lo.length (n + 1) 1, .p (.sl v.length false (v.map pu)), .p .any, .p .any, .p (.int .u32 (c : Int)), t5, t6, .p .any, .p (.int .i64 ((n + 1 : Nat) : Int)), .p (.int .i64 (k : Int)), t10, .p .any, .p .any, .p .any, .p .any, t15, .p .any, .p .any, .p .any, .p .any, .p .any, .p .any, .p .any, .p .any, .p .any, .p .any, .p .any, .p .any, .p .any, .p .any, .p .any, .p .any, .p .any, .p .any], (⟨0, false, lb (lo ++ x ++ hi)⟩ :: Hs)⟩ = some (.exit 0, ⟨[.ms 0 0 lo.length (n + 1) 1, .p (.sl v.length false (v.map pu)), .p .any, .p .any, .p (.int .u32 (c' : Int)), t5', t6', .p .any, .p (.int .i64 ((n + 1 : Nat) : Int)), .p (.int .i64 ((n + 1 : Nat) : Int)), t10', .p .any, .p .any, .p .any, .p .any, t15', .p .any, .p .any, .p .any, .p .any, .p .any, .p .any, .p .any, .p .any, .p .any, .p .any, .p .any, .p .any, .p .any, .p .any, .p .any, .p .any, .p .any, .p .any], (⟨0, false, lb (lo ++ x' ++ hi)⟩ :: Hs)⟩) ∧ x'.length = n + 1 ∧ Limbs x' ∧ c' ≤ 1 ∧ val x' + c' * LB ^ (n + 1) = val w + val v := by
    intro m
    induction m with
    | zero =>
      intro k x c t5 t6 t10 t15 hk hx hlx hc hv hz
      obtain rfl : k = n + 1 := by omega
      have hlt : decide (((n + 1 : Nat) : Int) < ((n + 1 : Nat) : Int)) = false := by simp
      refine ⟨x, c, t5, t6, .p (.bool false), t15, ?_, hx, hlx, hc, by rw [List.take_of_length_le (by omega)] at hv; exact hv⟩
      rw [← hI, WC_loop, hI]
      simp only [seqT, thn_normal, thn_ret, thn_exit, WC_region, WC_cond, WC_exit, WC_skip, WC_block, WC_ret, evRegion, Bool.false_eq_true, if_false, if_true, reduceIte, ops_n, ops_c, evStep, wantedA, evOp, opv, putA, ret1, ofVal, ofVal1, cellsOf, AV.isCell, clean, evFieldAddr, evField, evExtract, evBuild, evIndex, evBuiltin, evBuildSlice, evNilCheck, blkRead, mkAgg, mkTup, mapO, AV.pure?, setAt, afill, parts, calleeOf, tell, scalar, scalarL, norm, normL, ids, Go.Ev.mark, evResults, evResult, aggCells, partA, List.getElem?_cons_zero, List.getElem?_cons_succ, List.getElem?_nil, List.map_cons, List.map_nil, List.all_cons, List.all_nil, Bool.and_true, Bool.true_and, Bool.and_false, Bool.false_and, Bool.and_self, Bool.not_true, Bool.not_false, Bool.or_true, Bool.or_false, Bool.false_or, Bool.true_or, List.set, List.length_cons, List.length_nil, List.nil_append, List.cons_append, List.append_nil, Nat.reduceAdd, Nat.reduceSub, Nat.reduceMul, Nat.reduceLeDiff, Nat.zero_add, Nat.reduceEqDiff, List.replicate, List.drop, List.take, List.flatMap_cons, List.flatMap_nil, List.foldl_nil, List.foldl_cons, decide_true, decide_false, and_self, and_true, true_and, BEq.rfl, beq_self_eq_true, Option.map_some, Option.map_none, Option.bind_some, Option.bind_none, List.getElem?_toArray, Option.isSome_some, Option.isSome_none, beqs, ne_eq, not_true_eq_false, not_false_eq_true, false_or, or_false, or_self, Nat.reduceLT, false_and, and_false, List.nil_append, evEq, eqc, optO, b_add, b_sub, b_mul, b_eql, b_neq, b_lss, b_leq, b_gtr, b_geq, u_not, flags0, flags1, rs_P, lenms rs_P, len32 rs_P, hlt]
    | succ m ih =>
      intro k x c t5 t6 t10 t15 hkm hx hlx hc hv hz
      have hk : k < n + 1 := by omega
      have hlt := ilt_t hk
      have hj : k < x.length := by omega
      have hjl : lo.length + k < (lo ++ x ++ hi).length := by simp; omega
      have hgm := getD_mid (lo := lo) (hi := hi) hj
      have hld := ldG (H := (⟨0, false, lb (lo ++ x ++ hi)⟩ :: Hs)) (id := 0) (ver := 0) (fz := false) rfl hjl
      rw [hgm] at hld
      have hxl := limbs_getD hlx k
      have hdl := limbs_getD hlv k
      have hvt := val_take_next v k
      have hvs := fun z => val_set x k z hj
      have hst := fun z => stG (H := (⟨0, false, lb (lo ++ x ++ hi)⟩ :: Hs)) (id := 0) (ver := 0) (j := lo.length + k) (z := z) (o := lo ++ x ++ hi) rfl hjl
      simp only [set_mid hj] at hst
      have hadd := rs_add32 (x.getD k 0) (v.getD k 0) c hxl hdl hc
      have hk1 := inext (k := k) (by omega)
      obtain ⟨s, hs⟩ : ∃ s, s = x.getD k 0 + v.getD k 0 + c := ⟨_, rfl⟩
      rw [← hs] at hadd
      have hsd : s / LB ≤ 1 := by have := Nat.div_lt_of_lt_mul (show s < LB * 2 by omega); omega
      have hih := ih (k + 1) (x.set k (s % LB)) (s / LB) (.p (.int .i64 (k : Int)))
      have hnv : val (x.set k (s % LB)) + s / LB * LB ^ (k + 1) = val w + val (v.take (k + 1)) := by
        have hv2 := hvs (s % LB)
        rw [hvt, Nat.pow_succ]
        generalize LB ^ k = P at *
        have e2 := split_mul s P
        have e5 : s * P = x.getD k 0 * P + v.getD k 0 * P + c * P := by rw [hs, Nat.add_mul, Nat.add_mul]
        omega
      by_cases hkv : k < v.length
      · have hl2 := ilt_t hkv
        have hix := ix32 (x := false) hkv
        have hlv2 := fun H => ld32 (H := H) hkv
        obtain ⟨x', c', t5', t6', t10', t15', h1, h2⟩ := hih (.p (.int .u32 ((v.getD k 0 : Nat) : Int))) (.p (.bool true)) (.p (.bool true)) (by omega) (by rw [List.length_set]; exact hx) (limbs_set hlx (Nat.mod_lt _ (by decide))) hsd hnv (fun j hj => by rw [getD_set_ne (by omega), hz _ (by omega)])
        refine ⟨x', c', t5', t6', t10', t15', ?_, h2⟩
        generalize v.getD k 0 = y at *
        generalize x.getD k 0 = g at *
        rw [← hI, WC_loop, hI]
        simp only [seqT, thn_normal, thn_ret, thn_exit, WC_region, WC_cond, WC_exit, WC_skip, WC_block, WC_ret, evRegion, Bool.false_eq_true, if_false, if_true, reduceIte, ops_n, ops_c, evStep, wantedA, evOp, opv, putA, ret1, ofVal, ofVal1, cellsOf, AV.isCell, clean, evFieldAddr, evField, evExtract, evBuild, evIndex, evBuiltin, evBuildSlice, evNilCheck, blkRead, mkAgg, mkTup, mapO, AV.pure?, setAt, afill, parts, calleeOf, tell, scalar, scalarL, norm, normL, ids, Go.Ev.mark, evResults, evResult, aggCells, partA, List.getElem?_cons_zero, List.getElem?_cons_succ, List.getElem?_nil, List.map_cons, List.map_nil, List.all_cons, List.all_nil, Bool.and_true, Bool.true_and, Bool.and_false, Bool.false_and, Bool.and_self, Bool.not_true, Bool.not_false, Bool.or_true, Bool.or_false, Bool.false_or, Bool.true_or, List.set, List.length_cons, List.length_nil, List.nil_append, List.cons_append, List.append_nil, Nat.reduceAdd, Nat.reduceSub, Nat.reduceMul, Nat.reduceLeDiff, Nat.zero_add, Nat.reduceEqDiff, List.replicate, List.drop, List.take, List.flatMap_cons, List.flatMap_nil, List.foldl_nil, List.foldl_cons, decide_true, decide_false, and_self, and_true, true_and, BEq.rfl, beq_self_eq_true, Option.map_some, Option.map_none, Option.bind_some, Option.bind_none, List.getElem?_toArray, Option.isSome_some, Option.isSome_none, beqs, ne_eq, not_true_eq_false, not_false_eq_true, false_or, or_false, or_self, Nat.reduceLT, false_and, and_false, List.nil_append, evEq, eqc, optO, b_add, b_sub, b_mul, b_eql, b_neq, b_lss, b_leq, b_gtr, b_geq, u_not, flags0, flags1, rs_P, lenms rs_P, len32 rs_P, hlt, hl2, hix, hlv2, ixms hk, hld, pu, hadd, hst, hk1, frz_p, show rsC.md 71 = 0 from rfl, evCall_tab (show ∀ f xs, rsC.O f xs = none from fun _ _ => rfl)]
        exact h1
      · have hl2 := ilt_f hkv
        have hy0 : v.getD k 0 = 0 := by rw [List.getD_eq_getElem?_getD, List.getElem?_eq_none (by omega)]; rfl
        rw [hy0] at hadd
        obtain ⟨x', c', t5', t6', t10', t15', h1, h2⟩ := hih (.p (.int .u32 0)) (.p (.bool true)) (.p (.bool false)) (by omega) (by rw [List.length_set]; exact hx) (limbs_set hlx (Nat.mod_lt _ (by decide))) hsd hnv (fun j hj => by rw [getD_set_ne (by omega), hz _ (by omega)])
        refine ⟨x', c', t5', t6', t10', t15', ?_, h2⟩
        generalize x.getD k 0 = g at *
        simp only [Int.natCast_zero, Int.cast_ofNat_Int] at hadd
        rw [← hI, WC_loop, hI]
        simp only [seqT, thn_normal, thn_ret, thn_exit, WC_region, WC_cond, WC_exit, WC_skip, WC_block, WC_ret, evRegion, Bool.false_eq_true, if_false, if_true, reduceIte, ops_n, ops_c, evStep, wantedA, evOp, opv, putA, ret1, ofVal, ofVal1, cellsOf, AV.isCell, clean, evFieldAddr, evField, evExtract, evBuild, evIndex, evBuiltin, evBuildSlice, evNilCheck, blkRead, mkAgg, mkTup, mapO, AV.pure?, setAt, afill, parts, calleeOf, tell, scalar, scalarL, norm, normL, ids, Go.Ev.mark, evResults, evResult, aggCells, partA, List.getElem?_cons_zero, List.getElem?_cons_succ, List.getElem?_nil, List.map_cons, List.map_nil, List.all_cons, List.all_nil, Bool.and_true, Bool.true_and, Bool.and_false, Bool.false_and, Bool.and_self, Bool.not_true, Bool.not_false, Bool.or_true, Bool.or_false, Bool.false_or, Bool.true_or, List.set, List.length_cons, List.length_nil, List.nil_append, List.cons_append, List.append_nil, Nat.reduceAdd, Nat.reduceSub, Nat.reduceMul, Nat.reduceLeDiff, Nat.zero_add, Nat.reduceEqDiff, List.replicate, List.drop, List.take, List.flatMap_cons, List.flatMap_nil, List.foldl_nil, List.foldl_cons, decide_true, decide_false, and_self, and_true, true_and, BEq.rfl, beq_self_eq_true, Option.map_some, Option.map_none, Option.bind_some, Option.bind_none, List.getElem?_toArray, Option.isSome_some, Option.isSome_none, beqs, ne_eq, not_true_eq_false, not_false_eq_true, false_or, or_false, or_self, Nat.reduceLT, false_and, and_false, List.nil_append, evEq, eqc, optO, b_add, b_sub, b_mul, b_eql, b_neq, b_lss, b_leq, b_gtr, b_geq, u_not, flags0, flags1, rs_P, lenms rs_P, len32 rs_P, hlt, hl2, ixms hk, hld, pu, hadd, hst, hk1, frz_p, show rsC.md 71 = 0 from rfl, evCall_tab (show ∀ f xs, rsC.O f xs = none from fun _ _ => rfl)]
        exact h1
  obtain ⟨x', c', t5', t6', t10', t15', k1, k2, k3, k4, k5⟩ := inner (n + 1) 0 w 0 (.p .und) (.p .und) (.p .und) (.p .und) (by omega) hw hlw (by omega) (by simp [val]) (fun _ _ => rfl)
  simp only [Int.natCast_zero, Int.cast_ofNat_Int] at k1
  rw [k1]
  refine ⟨x', c', ?_, k2, k3, k4, k5⟩
  simp only [seqT, thn_normal, thn_ret, thn_exit, WC_region, WC_cond, WC_exit, WC_skip, WC_block, WC_ret, evRegion, Bool.false_eq_true, if_false, if_true, reduceIte, ops_n, ops_c, evStep, wantedA, evOp, opv, putA, ret1, ofVal, ofVal1, cellsOf, AV.isCell, clean, evFieldAddr, evField, evExtract, evBuild, evIndex, evBuiltin, evBuildSlice, evNilCheck, blkRead, mkAgg, mkTup, mapO, AV.pure?, setAt, afill, parts, calleeOf, tell, scalar, scalarL, norm, normL, ids, Go.Ev.mark, evResults, evResult, aggCells, partA, List.getElem?_cons_zero, List.getElem?_cons_succ, List.getElem?_nil, List.map_cons, List.map_nil, List.all_cons, List.all_nil, Bool.and_true, Bool.true_and, Bool.and_false, Bool.false_and, Bool.and_self, Bool.not_true, Bool.not_false, Bool.or_true, Bool.or_false, Bool.false_or, Bool.true_or, List.set, List.length_cons, List.length_nil, List.nil_append, List.cons_append, List.append_nil, Nat.reduceAdd, Nat.reduceSub, Nat.reduceMul, Nat.reduceLeDiff, Nat.zero_add, Nat.reduceEqDiff, List.replicate, List.drop, List.take, List.flatMap_cons, List.flatMap_nil, List.foldl_nil, List.foldl_cons, decide_true, decide_false, and_self, and_true, true_and, BEq.rfl, beq_self_eq_true, Option.map_some, Option.map_none, Option.bind_some, Option.bind_none, List.getElem?_toArray, Option.isSome_some, Option.isSome_none, beqs, ne_eq, not_true_eq_false, not_false_eq_true, false_or, or_false, or_self, Nat.reduceLT, false_and, and_false, List.nil_append, evEq, eqc, optO, b_add, b_sub, b_mul, b_eql, b_neq, b_lss, b_leq, b_gtr, b_geq, u_not, flags0, flags1, rs_P, fin, show Try.f67.results = #[] from rfl]
end Go.Proofs
set_option linter.unusedSimpArgs false
set_option linter.unusedVariables false
namespace Go.Proofs
open Go.Ev Go.Mx
theorem rs_lv66 : rsC.lv 66 = [true, true, true, false, false, false, true, true, true, true, true, false, true, true, true, false, false, false, false, false, true, false, false, false, false, false, false, false, false, false, false, false, false, false, false, false, false, false, false, false, false, false, false, false, false, false, false, false, false] := by kernel_rfl
set_option maxRecDepth 100000 in
set_option maxHeartbeats 4000000 in
theorem rs_nless (lo w hi v : List Nat) (Hs : List ABlk) (n q : Nat) (hlw : Limbs w) (hlv : Limbs v) (hw : w.length = n + 1) (hvl : v.length = n) (hq : q < LB) (hsz : (lo ++ w ++ hi).length ≤ 100000) :
    ∃ (w' : List Nat) (br : Nat), W rsC 66 [.ms 0 0 lo.length (n + 1) 1, .p (N32 v), .p (.int .u64 (q : Int))] (⟨0, false, lb (lo ++ w ++ hi)⟩ :: Hs) = some (.p (.bool (decide (0 < br))), (⟨0, false, lb (lo ++ w' ++ hi)⟩ :: Hs)) ∧ w'.length = n + 1 ∧ Limbs w' ∧ br ≤ 1 ∧ val w' + q * val v = val w + br * LB ^ (n + 1) := by
  have hLB : LB = 4294967296 := rfl
  have hsz' : lo.length + (n + 1) ≤ 100000 := by simp at hsz; omega
  rw [W_fin (show rsC.md 66 < 9 by decide) Try.func66 rfl]
  rw [show Try.f66.ntmps = 49 from rfl, rs_lv66]
  simp only [N32, List.map_cons, List.map_nil, List.length_cons, List.length_nil, Nat.reduceAdd, Nat.reduceSub, List.replicate, List.cons_append, List.nil_append]
  simp only [seqT, thn_normal, thn_ret, thn_exit, WC_region, WC_cond, WC_exit, WC_skip, WC_block, WC_ret, evRegion, Bool.false_eq_true, if_false, if_true, reduceIte, ops_n, ops_c, evStep, wantedA, evOp, opv, putA, ret1, ofVal, ofVal1, cellsOf, AV.isCell, clean, evFieldAddr, evField, evExtract, evBuild, evIndex, evBuiltin, evBuildSlice, evNilCheck, blkRead, mkAgg, mkTup, mapO, AV.pure?, setAt, afill, parts, calleeOf, tell, scalar, scalarL, norm, normL, ids, Go.Ev.mark, evResults, evResult, aggCells, partA, List.getElem?_cons_zero, List.getElem?_cons_succ, List.getElem?_nil, List.map_cons, List.map_nil, List.all_cons, List.all_nil, Bool.and_true, Bool.true_and, Bool.and_false, Bool.false_and, Bool.and_self, Bool.not_true, Bool.not_false, Bool.or_true, Bool.or_false, Bool.false_or, Bool.true_or, List.set, List.length_cons, List.length_nil, List.nil_append, List.cons_append, List.append_nil, Nat.reduceAdd, Nat.reduceSub, Nat.reduceMul, Nat.reduceLeDiff, Nat.zero_add, Nat.reduceEqDiff, List.replicate, List.drop, List.take, List.flatMap_cons, List.flatMap_nil, List.foldl_nil, List.foldl_cons, decide_true, decide_false, and_self, and_true, true_and, BEq.rfl, beq_self_eq_true, Option.map_some, Option.map_none, Option.bind_some, Option.bind_none, List.getElem?_toArray, Option.isSome_some, Option.isSome_none, beqs, ne_eq, not_true_eq_false, not_false_eq_true, false_or, or_false, or_self, Nat.reduceLT, false_and, and_false, List.nil_append, evEq, eqc, optO, b_add, b_sub, b_mul, b_eql, b_neq, b_lss, b_leq, b_gtr, b_geq, u_not, flags0, flags1, rs_P, lenms rs_P, len32 rs_P]
  generalize hI : (Code.loop _ : Code) = I
  have inner : ∀ (m k : Nat) (x : List Nat) (c br : Nat) (t9 t10 t14 t20 : AV), k + m = n + 1 → x.length = n + 1 → Limbs x → br ≤ 1 → c < LB → (k = n + 1 → c = 0) → val x + q * val (v.take k) = val w + (c + br) * LB ^ k → ∃ (x' : List Nat) (c' br' : Nat) (t9' t10' t14' t20' : AV),
      WC rsC [true, true, true, false, false, false, true, true, true, true, true, false, true, true, true, false, false, false, false, false, true, false, false, false, false, false, false, false, false, false, false, false, false, false, false, false, false, false, false, false, false, false, false, false, false, false, false, false, false] I ⟨[.ms 0 0 lo.length (n + 1) 1, .p (.sl v.length false (v.map pu)), .p (.int .u64 (q : Int)), .p .any, .p .any, .p .any, .p (.bool false), .p (.int .u64 (c : Int)), .p (.int .u32 (br : Int)), t9, t10, .p .any, .p (.int .i64 ((n + 1 : Nat) : Int)), .p (.int .i64 (k : Int)), t14, .p .any, .p .any, .p .any, .p .any, .p .any, t20, .p .any, .p .any, .p .any, .p .any, .p .any, .p .any, .p .any, .p .any, .p .any, .p .any, .p .any, .p .any, .p .any, .p .any, .p .any, .p .any, .p .any, .p .any, .p .any, .p .any, .p .any, .p .any, .p .any, .p .any, .p .any, .p .any, .p .any, .p .any], (⟨0, false, lb (lo ++ x ++ hi)⟩ :: Hs)⟩ = some (.exit 0, ⟨[.ms 0 0 lo.length (n + 1) 1, .p (.sl v.length false (v.map pu)), .p (.int .u64 (q : Int)), .p .any, .p .any, .p .any, .p (.bool false), .p (.int .u64 (c' : Int)), .p (.int .u32 (br' : Int)), t9', t10', .p .any, .p (.int .i64 ((n + 1 : Nat) : Int)), .p (.int .i64 ((n + 1 : Nat) : Int)), t14', .p .any, .p .any, .p .any, .p .any, .p .any, t20', .p .any, .p .any, .p .any, .p .any, .p .any, .p .any, .p .any, .p .any, .p .any, .p .any, .p .any, .p .any, .p .any, .p .any, .p .any, .p .any, .p .any, .p .any, .p .any, .p .any, .p .any, .p .any, .p .any, .p .any, .p .any, .p .any, .p .any, .p .any], (⟨0, false, lb (lo ++ x' ++ hi)⟩ :: Hs)⟩) ∧ x'.length = n + 1 ∧ Limbs x' ∧ br' ≤ 1 ∧ val x' + q * val v = val w + br' * LB ^ (n + 1) := by
    intro m
    induction m with
    | zero =>
      intro k x c br t9 t10 t14 t20 hk hx hlx hb hc hc0 hv
      obtain rfl : k = n + 1 := by omega
      have hlt : decide (((n + 1 : Nat) : Int) < ((n + 1 : Nat) : Int)) = false := by simp
      refine ⟨x, c, br, t9, t10, .p (.bool false), t20, ?_, hx, hlx, hb, by rw [List.take_of_length_le (by omega), hc0 rfl, Nat.zero_add] at hv; exact hv⟩
      rw [← hI, WC_loop, hI]
      simp only [seqT, thn_normal, thn_ret, thn_exit, WC_region, WC_cond, WC_exit, WC_skip, WC_block, WC_ret, evRegion, Bool.false_eq_true, if_false, if_true, reduceIte, ops_n, ops_c, evStep, wantedA, evOp, opv, putA, ret1, ofVal, ofVal1, cellsOf, AV.isCell, clean, evFieldAddr, evField, evExtract, evBuild, evIndex, evBuiltin, evBuildSlice, evNilCheck, blkRead, mkAgg, mkTup, mapO, AV.pure?, setAt, afill, parts, calleeOf, tell, scalar, scalarL, norm, normL, ids, Go.Ev.mark, evResults, evResult, aggCells, partA, List.getElem?_cons_zero, List.getElem?_cons_succ, List.getElem?_nil, List.map_cons, List.map_nil, List.all_cons, List.all_nil, Bool.and_true, Bool.true_and, Bool.and_false, Bool.false_and, Bool.and_self, Bool.not_true, Bool.not_false, Bool.or_true, Bool.or_false, Bool.false_or, Bool.true_or, List.set, List.length_cons, List.length_nil, List.nil_append, List.cons_append, List.append_nil, Nat.reduceAdd, Nat.reduceSub, Nat.reduceMul, Nat.reduceLeDiff, Nat.zero_add, Nat.reduceEqDiff, List.replicate, List.drop, List.take, List.flatMap_cons, List.flatMap_nil, List.foldl_nil, List.foldl_cons, decide_true, decide_false, and_self, and_true, true_and, BEq.rfl, beq_self_eq_true, Option.map_some, Option.map_none, Option.bind_some, Option.bind_none, List.getElem?_toArray, Option.isSome_some, Option.isSome_none, beqs, ne_eq, not_true_eq_false, not_false_eq_true, false_or, or_false, or_self, Nat.reduceLT, false_and, and_false, List.nil_append, evEq, eqc, optO, b_add, b_sub, b_mul, b_eql, b_neq, b_lss, b_leq, b_gtr, b_geq, u_not, flags0, flags1, rs_P, lenms rs_P, len32 rs_P, hlt]
    | succ m ih =>
      intro k x c br t9 t10 t14 t20 hkm hx hlx hb hc hc0 hv1
      have hk : k < n + 1 := by omega
      have hlt := ilt_t hk
      have hj : k < x.length := by omega
      have hjl : lo.length + k < (lo ++ x ++ hi).length := by simp; omega
      have hgm := getD_mid (lo := lo) (hi := hi) hj
      have hld := ldG (H := (⟨0, false, lb (lo ++ x ++ hi)⟩ :: Hs)) (id := 0) (ver := 0) (fz := false) rfl hjl
      rw [hgm] at hld
      have hxl := limbs_getD hlx k
      have hdl := limbs_getD hlv k
      have hvt := val_take_next v k
      have hvs := fun z => val_set x k z hj
      have hst := fun z => stG (H := (⟨0, false, lb (lo ++ x ++ hi)⟩ :: Hs)) (id := 0) (ver := 0) (j := lo.length + k) (z := z) (o := lo ++ x ++ hi) rfl hjl
      simp only [set_mid hj] at hst
      have hk1 := inext (k := k) (by omega)
      have hqd : q * v.getD k 0 ≤ (LB - 1) * (LB - 1) := Nat.mul_le_mul (by omega) (by omega)
      rw [show (LB - 1) * (LB - 1) = 18446744065119617025 by decide] at hqd
      obtain ⟨p, hp⟩ : ∃ p, p = c + q * v.getD k 0 := ⟨_, rfl⟩
      have hpl : p % LB < LB := Nat.mod_lt _ (by decide)
      have hpd : p / LB < LB := Nat.div_lt_of_lt_mul (by rw [hLB]; omega)
      have hsub := rs_sub32 (x.getD k 0) (p % LB) br hxl hpl hb
      have hwu := wrap_u32 p
      obtain ⟨s, hs⟩ : ∃ s, s = x.getD k 0 + LB - p % LB - br := ⟨_, rfl⟩
      rw [← hs] at hsub
      have hs1 : s < 2 * LB := by omega
      have hsd : s / LB ≤ 1 := by have := Nat.div_lt_of_lt_mul (show s < LB * 2 by omega); omega
      have hnv : val (x.set k (s % LB)) + q * val (v.take (k + 1)) = val w + (p / LB + (1 - s / LB)) * LB ^ (k + 1) := by
        have hv2 := hvs (s % LB)
        rw [hvt, Nat.pow_succ]
        generalize hdd : v.getD k 0 = d at *
        generalize x.getD k 0 = g at *
        generalize LB ^ k = P at *
        have e1 := split_mul p P
        have e2 := split_mul s P
        have e3 : q * (val (v.take k) + d * P) = q * val (v.take k) + q * d * P := by rw [Nat.mul_add, Nat.mul_assoc]
        have e4 : p * P = c * P + q * d * P := by rw [hp, Nat.add_mul]
        have e5 : s * P + p % LB * P + br * P = g * P + LB * P := by
          rw [← Nat.add_mul, ← Nat.add_mul, ← Nat.add_mul]
          congr 1
          omega
        have e6 : (p / LB + (1 - s / LB)) * (P * LB) + s / LB * (P * LB) = p / LB * (P * LB) + P * LB := by
          rw [← Nat.add_mul, show p / LB + (1 - s / LB) + s / LB = p / LB + 1 by omega, Nat.add_mul, Nat.one_mul]
        have e7 : (c + br) * P = c * P + br * P := Nat.add_mul _ _ _
        rw [e3]
        rw [e7] at hv1
        rw [Nat.mul_comm LB P] at e5
        omega
      have hc1 : k + 1 = n + 1 → p / LB = 0 := fun hkn => by
        have hd0 : v.getD k 0 = 0 := by rw [List.getD_eq_getElem?_getD, List.getElem?_eq_none (by omega)]; rfl
        rw [hp, hd0, Nat.mul_zero, Nat.add_zero]
        exact Nat.div_eq_of_lt hc
      have hih := ih (k + 1) (x.set k (s % LB)) (p / LB) (1 - s / LB) (.p (.int .i64 (k : Int))) (.p (.int .u64 (p : Int))) (.p (.bool true))
      by_cases hkv : k < v.length
      · have hl2 := ilt_t hkv
        have hix := ix32 (x := false) hkv
        have hlv2 := fun H => ld32 (H := H) hkv
        obtain ⟨x', c', br', t9', t10', t14', t20', h1, h2⟩ := hih (.p (.bool true)) (by omega) (by rw [List.length_set]; exact hx) (limbs_set hlx (Nat.mod_lt _ (by decide))) (Nat.sub_le 1 _) hpd hc1 hnv
        refine ⟨x', c', br', t9', t10', t14', t20', ?_, h2⟩
        have hwd := w64 (x := v.getD k 0) (by omega)
        have hw1 : IntKind.u64.wrap ((q : Int) * ((v.getD k 0 : Nat) : Int)) = ((q * v.getD k 0 : Nat) : Int) := by rw [← Int.natCast_mul]; exact w64 (by omega)
        have hw2 : IntKind.u64.wrap ((c : Int) + ((q * v.getD k 0 : Nat) : Int)) = ((p : Nat) : Int) := by rw [← Int.natCast_add, ← hp]; exact w64 (by omega)
        generalize v.getD k 0 = y at *
        generalize q * y = qy at *
        generalize x.getD k 0 = g at *
        rw [← hI, WC_loop, hI]
        simp only [seqT, thn_normal, thn_ret, thn_exit, WC_region, WC_cond, WC_exit, WC_skip, WC_block, WC_ret, evRegion, Bool.false_eq_true, if_false, if_true, reduceIte, ops_n, ops_c, evStep, wantedA, evOp, opv, putA, ret1, ofVal, ofVal1, cellsOf, AV.isCell, clean, evFieldAddr, evField, evExtract, evBuild, evIndex, evBuiltin, evBuildSlice, evNilCheck, blkRead, mkAgg, mkTup, mapO, AV.pure?, setAt, afill, parts, calleeOf, tell, scalar, scalarL, norm, normL, ids, Go.Ev.mark, evResults, evResult, aggCells, partA, List.getElem?_cons_zero, List.getElem?_cons_succ, List.getElem?_nil, List.map_cons, List.map_nil, List.all_cons, List.all_nil, Bool.and_true, Bool.true_and, Bool.and_false, Bool.false_and, Bool.and_self, Bool.not_true, Bool.not_false, Bool.or_true, Bool.or_false, Bool.false_or, Bool.true_or, List.set, List.length_cons, List.length_nil, List.nil_append, List.cons_append, List.append_nil, Nat.reduceAdd, Nat.reduceSub, Nat.reduceMul, Nat.reduceLeDiff, Nat.zero_add, Nat.reduceEqDiff, List.replicate, List.drop, List.take, List.flatMap_cons, List.flatMap_nil, List.foldl_nil, List.foldl_cons, decide_true, decide_false, and_self, and_true, true_and, BEq.rfl, beq_self_eq_true, Option.map_some, Option.map_none, Option.bind_some, Option.bind_none, List.getElem?_toArray, Option.isSome_some, Option.isSome_none, beqs, ne_eq, not_true_eq_false, not_false_eq_true, false_or, or_false, or_self, Nat.reduceLT, false_and, and_false, List.nil_append, evEq, eqc, optO, b_add, b_sub, b_mul, b_eql, b_neq, b_lss, b_leq, b_gtr, b_geq, u_not, flags0, flags1, rs_P, lenms rs_P, len32 rs_P, hlt, hl2, ixms hk, hld, pu, mulConv, hwu, hsub, b_shr32, hst, hk1, frz_p, show rsC.md 70 = 0 from rfl, evCall_tab (show ∀ f xs, rsC.O f xs = none from fun _ _ => rfl), hix, hlv2, hwd, hw1, hw2]
        exact h1
      · have hl2 := ilt_f hkv
        have hy0 : v.getD k 0 = 0 := by rw [List.getD_eq_getElem?_getD, List.getElem?_eq_none (by omega)]; rfl
        have hpc : p = c := by rw [hp, hy0, Nat.mul_zero, Nat.add_zero]
        obtain ⟨x', c', br', t9', t10', t14', t20', h1, h2⟩ := hih (.p (.bool false)) (by omega) (by rw [List.length_set]; exact hx) (limbs_set hlx (Nat.mod_lt _ (by decide))) (Nat.sub_le 1 _) hpd hc1 hnv
        refine ⟨x', c', br', t9', t10', t14', t20', ?_, h2⟩
        generalize x.getD k 0 = g at *
        rw [hpc] at hsub hwu h1
        rw [← hI, WC_loop, hI]
        simp only [seqT, thn_normal, thn_ret, thn_exit, WC_region, WC_cond, WC_exit, WC_skip, WC_block, WC_ret, evRegion, Bool.false_eq_true, if_false, if_true, reduceIte, ops_n, ops_c, evStep, wantedA, evOp, opv, putA, ret1, ofVal, ofVal1, cellsOf, AV.isCell, clean, evFieldAddr, evField, evExtract, evBuild, evIndex, evBuiltin, evBuildSlice, evNilCheck, blkRead, mkAgg, mkTup, mapO, AV.pure?, setAt, afill, parts, calleeOf, tell, scalar, scalarL, norm, normL, ids, Go.Ev.mark, evResults, evResult, aggCells, partA, List.getElem?_cons_zero, List.getElem?_cons_succ, List.getElem?_nil, List.map_cons, List.map_nil, List.all_cons, List.all_nil, Bool.and_true, Bool.true_and, Bool.and_false, Bool.false_and, Bool.and_self, Bool.not_true, Bool.not_false, Bool.or_true, Bool.or_false, Bool.false_or, Bool.true_or, List.set, List.length_cons, List.length_nil, List.nil_append, List.cons_append, List.append_nil, Nat.reduceAdd, Nat.reduceSub, Nat.reduceMul, Nat.reduceLeDiff, Nat.zero_add, Nat.reduceEqDiff, List.replicate, List.drop, List.take, List.flatMap_cons, List.flatMap_nil, List.foldl_nil, List.foldl_cons, decide_true, decide_false, and_self, and_true, true_and, BEq.rfl, beq_self_eq_true, Option.map_some, Option.map_none, Option.bind_some, Option.bind_none, List.getElem?_toArray, Option.isSome_some, Option.isSome_none, beqs, ne_eq, not_true_eq_false, not_false_eq_true, false_or, or_false, or_self, Nat.reduceLT, false_and, and_false, List.nil_append, evEq, eqc, optO, b_add, b_sub, b_mul, b_eql, b_neq, b_lss, b_leq, b_gtr, b_geq, u_not, flags0, flags1, rs_P, lenms rs_P, len32 rs_P, hlt, hl2, ixms hk, hld, pu, mulConv, hwu, hsub, b_shr32, hst, hk1, frz_p, show rsC.md 70 = 0 from rfl, evCall_tab (show ∀ f xs, rsC.O f xs = none from fun _ _ => rfl)]
        exact h1
  obtain ⟨x', c', br', t9', t10', t14', t20', k1, k2, k3, k4, k5⟩ := inner (n + 1) 0 w 0 0 (.p .und) (.p .und) (.p .und) (.p .und) (by omega) hw hlw (by omega) (by decide) (fun h => by omega) (by simp [val])
  simp only [Int.natCast_zero, Int.cast_ofNat_Int] at k1
  rw [k1]
  refine ⟨x', br', ?_, k2, k3, k4, k5⟩
  have hgt : decide ((br' : Int) > 0) = decide (0 < br') := decide_eq_decide.2 (by omega)
  simp only [seqT, thn_normal, thn_ret, thn_exit, WC_region, WC_cond, WC_exit, WC_skip, WC_block, WC_ret, evRegion, Bool.false_eq_true, if_false, if_true, reduceIte, ops_n, ops_c, evStep, wantedA, evOp, opv, putA, ret1, ofVal, ofVal1, cellsOf, AV.isCell, clean, evFieldAddr, evField, evExtract, evBuild, evIndex, evBuiltin, evBuildSlice, evNilCheck, blkRead, mkAgg, mkTup, mapO, AV.pure?, setAt, afill, parts, calleeOf, tell, scalar, scalarL, norm, normL, ids, Go.Ev.mark, evResults, evResult, aggCells, partA, List.getElem?_cons_zero, List.getElem?_cons_succ, List.getElem?_nil, List.map_cons, List.map_nil, List.all_cons, List.all_nil, Bool.and_true, Bool.true_and, Bool.and_false, Bool.false_and, Bool.and_self, Bool.not_true, Bool.not_false, Bool.or_true, Bool.or_false, Bool.false_or, Bool.true_or, List.set, List.length_cons, List.length_nil, List.nil_append, List.cons_append, List.append_nil, Nat.reduceAdd, Nat.reduceSub, Nat.reduceMul, Nat.reduceLeDiff, Nat.zero_add, Nat.reduceEqDiff, List.replicate, List.drop, List.take, List.flatMap_cons, List.flatMap_nil, List.foldl_nil, List.foldl_cons, decide_true, decide_false, and_self, and_true, true_and, BEq.rfl, beq_self_eq_true, Option.map_some, Option.map_none, Option.bind_some, Option.bind_none, List.getElem?_toArray, Option.isSome_some, Option.isSome_none, beqs, ne_eq, not_true_eq_false, not_false_eq_true, false_or, or_false, or_self, Nat.reduceLT, false_and, and_false, List.nil_append, evEq, eqc, optO, b_add, b_sub, b_mul, b_eql, b_neq, b_lss, b_leq, b_gtr, b_geq, u_not, flags0, flags1, rs_P, fin, hgt, show Try.f66.results = #[.tmp 6] from rfl]
end Go.Proofs
