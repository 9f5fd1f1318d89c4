/- The document's numbers: Of, Bytes. No condition. -/
import Derived.Test.YtfhhgndppfpngaaRsa10
set_option linter.unusedSimpArgs false
set_option linter.unusedVariables false
set_option linter.unusedSimpArgs false
set_option linter.unusedVariables false
namespace Go.Proofs
open Go.Ev Go.Mx
theorem rs_lv14 : rsC.lv 14 = [true, false, true, true, true, true, false, false, true, false, false, false, false, false, false, false, false, true, false, false, false, false, false, false, false, false, false, false, false, false, false, false, false, false, false, false, false, false, false, false, false, false, false, false, false, false, false] := by kernel_rfl
theorem q4 {P : Program} {t : TypeId} {i : Nat} (h : i ≤ 100000000) : evBin P .quo t (.p (.int .i64 (i : Int))) (.p (.int .i64 4)) = some (.p (.int .i64 ((i / 4 : Nat) : Int))) := by
  have h2 : (i : Int).tdiv 4 = ((i / 4 : Nat) : Int) := rfl
  show Option.map AV.p (if (4 : Int) = 0 then none else some (PV.int .i64 (IntKind.i64.wrap ((i : Int).tdiv 4)))) = _
  rw [if_neg (by decide), h2, wrap_i64 (by omega) (by omega)]
  rfl
theorem r4 {P : Program} {t : TypeId} {i : Nat} : evBin P .rem t (.p (.int .i64 (i : Int))) (.p (.int .i64 4)) = some (.p (.int .i64 ((i % 4 : Nat) : Int))) := by
  show Option.map AV.p (if (4 : Int) = 0 then none else some (PV.int .i64 ((i : Int).tmod 4))) = _
  rw [if_neg (by decide)]
  rfl
theorem conv5 {st : Bool} {x : Int} {H : List ABlk} : evConv Try.prog st 5 25 (.p (.int .u8 x)) H = some (.p (.int .u32 (IntKind.u32.wrap x)), H) ∧ evConv Try.prog st 25 5 (.p (.int .u32 x)) H = some (.p (.int .u8 (IntKind.u8.wrap x)), H) := by
  constructor <;> simp only [evConv, Try.underlying5, Try.underlying25]
theorem bval_take (d : List Nat) (k : Nat) (h : k < d.length) : bval (d.drop k) = d.getD k 0 * 256 ^ (d.length - 1 - k) + bval (d.drop (k + 1)) := by
  rw [List.drop_eq_getElem_cons h, List.getD_eq_getElem?_getD, List.getElem?_eq_getElem h]
  show d[k] * 256 ^ (d.drop (k + 1)).length + _ = _
  rw [List.length_drop, show d.length - (k + 1) = d.length - 1 - k by omega]
  rfl
/-- The byte at k of a number is put where it belongs. -/
theorem put_byte {o : List Nat} (ho : Limbs o) {k c : Nat} (hc : c < 256) (hk : k / 4 < o.length) (hz : val o % 256 ^ (k + 1) = 0 ∨ True) (hlow : o.getD (k / 4) 0 % 2 ^ (8 * (k % 4) + 8) / 2 ^ (8 * (k % 4)) = 0) :
    val (o.set (k / 4) (o.getD (k / 4) 0 + c * 2 ^ (8 * (k % 4)))) = val o + c * 256 ^ k := by
  have h := val_set o (k / 4) (o.getD (k / 4) 0 + c * 2 ^ (8 * (k % 4))) hk
  rw [Nat.add_mul] at h
  have e : c * 2 ^ (8 * (k % 4)) * LB ^ (k / 4) = c * 256 ^ k := by
    have h1 : (256 : Nat) ^ k = 2 ^ (8 * (k % 4)) * LB ^ (k / 4) := by
      rw [show (256 : Nat) = 2 ^ 8 by decide, ← Nat.pow_mul, show LB = 2 ^ 32 from rfl, ← Nat.pow_mul, ← Nat.pow_add]
      congr 1
      omega
    rw [h1, Nat.mul_assoc]
  omega
end Go.Proofs
set_option linter.unusedSimpArgs false
set_option linter.unusedVariables false
namespace Go.Proofs
open Go.Ev Go.Mx
theorem bval_snoc (l : List Nat) (x : Nat) : bval (l ++ [x]) = bval l * 256 + x := by
  induction l with
  | nil => simp [bval]
  | cons y l ih =>
    show y * 256 ^ (l ++ [x]).length + bval (l ++ [x]) = (y * 256 ^ l.length + bval l) * 256 + x
    rw [ih, List.length_append, List.length_cons, List.length_nil, Nat.pow_succ, Nat.add_mul]
    rw [← Nat.mul_assoc]
    omega
theorem bval_take_succ (d : List Nat) (i : Nat) (h : i < d.length) : bval (d.take (i + 1)) = bval (d.take i) * 256 + d.getD i 0 := by
  rw [← List.take_append_getElem h, bval_snoc, List.getD_eq_getElem?_getD, List.getElem?_eq_getElem h]
  rfl
theorem pow_split (k : Nat) : (256 : Nat) ^ (k + 1) = LB ^ (k / 4) * 2 ^ (8 * (k % 4) + 8) := by
  rw [show (256 : Nat) = 2 ^ 8 by decide, ← Nat.pow_mul, show LB = 2 ^ 32 from rfl, ← Nat.pow_mul, ← Nat.pow_add]
  congr 1
  omega
/-- What stands below a byte that is put is nought. -/
theorem low_zero {o : List Nat} (ho : Limbs o) {k t : Nat} (hk : k / 4 < o.length) (h : val o = t * 256 ^ (k + 1)) : ∃ y, o.getD (k / 4) 0 = y * 2 ^ (8 * (k % 4) + 8) := by
  have h1 := val_div ho (k := k / 4) (by omega)
  rw [val_drop, h, pow_split, ← Nat.mul_assoc, Nat.mul_right_comm, Nat.mul_div_cancel _ (Nat.pow_pos (by decide))] at h1
  generalize o.getD (k / 4) 0 = z at *
  generalize val (o.drop (k / 4 + 1)) = r at *
  have hj : k % 4 < 4 := Nat.mod_lt _ (by decide)
  have h2 : LB = 2 ^ (32 - (8 * (k % 4) + 8)) * 2 ^ (8 * (k % 4) + 8) := by
    rw [← Nat.pow_add, show 32 - (8 * (k % 4) + 8) + (8 * (k % 4) + 8) = 32 by omega]; rfl
  generalize 2 ^ (8 * (k % 4) + 8) = p at *
  generalize 2 ^ (32 - (8 * (k % 4) + 8)) = q at *
  refine ⟨t - q * r, ?_⟩
  rw [Nat.sub_mul]
  have e : q * r * p = LB * r := by rw [h2]; exact Nat.mul_right_comm _ _ _
  omega
set_option maxRecDepth 100000 in
set_option maxHeartbeats 4000000 in
theorem rs_of (d : List Nat) (hd : Bytes d) (hdl : d.length ≤ 1024) : WP rsC 14 [B8 d] = some (N32 (toL (bval d))) := by
  have hLB : LB = 4294967296 := rfl
  have h1024 : decide ((d.length : Int) > 1024) = false := decide_eq_false (by omega)
  have i1 : IntKind.i64.wrap ((d.length : Int) + 3) = ((d.length + 3 : Nat) : Int) := by rw [wrap_i64 (by omega) (by omega)]; omega
  obtain ⟨L, hL⟩ : ∃ L, L = (d.length + 3) / 4 := ⟨_, rfl⟩
  have hq0 := q4 (P := Try.prog) (t := 3) (i := d.length + 3) (by omega)
  rw [← hL] at hq0
  have hmk := fun H => mk32 (n := L) (by omega) (H := H)
  rw [B8]
  rw [WP_eq (show rsC.md 14 < 9 by decide) Try.func14 rfl]
  rw [show Try.f14.ntmps = 47 from rfl, rs_lv14]
  simp only [N32, List.map_cons, List.map_nil, List.length_cons, List.length_nil, Nat.reduceAdd, Nat.reduceSub, List.replicate, List.cons_append, List.nil_append]
  simp only [seqT, thn_normal, thn_ret, thn_exit, WC_region, WC_cond, WC_exit, WC_skip, WC_block, WC_ret, evRegion, Bool.false_eq_true, if_false, if_true, reduceIte, ops_n, ops_c, evStep, wantedA, evOp, opv, putA, ret1, ofVal, ofVal1, cellsOf, AV.isCell, clean, evFieldAddr, evField, evExtract, evBuild, evIndex, evBuiltin, evBuildSlice, evNilCheck, blkRead, mkAgg, mkTup, mapO, AV.pure?, setAt, afill, parts, calleeOf, tell, scalar, scalarL, norm, normL, ids, Go.Ev.mark, evResults, evResult, aggCells, partA, List.getElem?_cons_zero, List.getElem?_cons_succ, List.getElem?_nil, List.map_cons, List.map_nil, List.all_cons, List.all_nil, Bool.and_true, Bool.true_and, Bool.and_false, Bool.false_and, Bool.and_self, Bool.not_true, Bool.not_false, Bool.or_true, Bool.or_false, Bool.false_or, Bool.true_or, List.set, List.length_cons, List.length_nil, List.nil_append, List.cons_append, List.append_nil, Nat.reduceAdd, Nat.reduceSub, Nat.reduceMul, Nat.reduceLeDiff, Nat.zero_add, Nat.reduceEqDiff, List.replicate, List.drop, List.take, List.flatMap_cons, List.flatMap_nil, List.foldl_nil, List.foldl_cons, decide_true, decide_false, and_self, and_true, true_and, BEq.rfl, beq_self_eq_true, Option.map_some, Option.map_none, Option.bind_some, Option.bind_none, List.getElem?_toArray, Option.isSome_some, Option.isSome_none, beqs, ne_eq, not_true_eq_false, not_false_eq_true, false_or, or_false, or_self, Nat.reduceLT, false_and, and_false, List.nil_append, evEq, eqc, optO, b_add, b_sub, b_mul, b_eql, b_neq, b_lss, b_leq, b_gtr, b_geq, u_not, flags0, flags1, rs_P, len8, h1024, i1, hq0, hmk]
  generalize hI : (Code.loop _ : Code) = I
  have inner : ∀ (m i : Nat) (o : List Nat) (t5 t17 : AV), i + m = d.length → o.length = L → Limbs o → val o = bval (d.take i) * 256 ^ m → ∃ (o' : List Nat) (t5' t17' : AV),
      WC rsC [true, false, true, true, true, true, false, false, true, false, false, false, false, false, false, false, false, true, false, false, false, false, false, false, false, false, false, false, false, false, false, false, false, false, false, false, false, false, false, false, false, false, false, false, false, false, false] I ⟨[.p (.sl d.length false (d.map pb)), .p .any, .p (.nsl true), .ms 0 0 0 L 1, .p (.int .i64 (i : Int)), t5, .p .any, .p .any, .p (.bool false), .p .any, .p .any, .p .any, .p .any, .p .any, .p .any, .p .any, .p .any, t17, .p .any, .p .any, .p .any, .p .any, .p .any, .p .any, .p .any, .p .any, .p .any, .p .any, .p .any, .p .any, .p .any, .p .any, .p .any, .p .any, .p .any, .p .any, .p .any, .p .any, .p .any, .p .any, .p .any, .p .any, .p .any, .p .any, .p .any, .p .any, .p .any], [⟨0, false, lb o⟩]⟩ = some (.exit 0, ⟨[.p (.sl d.length false (d.map pb)), .p .any, .p (.nsl true), .ms 0 0 0 L 1, .p (.int .i64 (d.length : Int)), t5', .p .any, .p .any, .p (.bool false), .p .any, .p .any, .p .any, .p .any, .p .any, .p .any, .p .any, .p .any, t17', .p .any, .p .any, .p .any, .p .any, .p .any, .p .any, .p .any, .p .any, .p .any, .p .any, .p .any, .p .any, .p .any, .p .any, .p .any, .p .any, .p .any, .p .any, .p .any, .p .any, .p .any, .p .any, .p .any, .p .any, .p .any, .p .any, .p .any, .p .any, .p .any], [⟨0, false, lb o'⟩]⟩) ∧ o'.length = L ∧ Limbs o' ∧ val o' = bval d := by
    intro m
    induction m with
    | zero =>
      intro i o t5 t17 hi ho hlo hv
      obtain rfl : i = d.length := by omega
      have hlt : decide ((d.length : Int) < (d.length : Int)) = false := by simp
      refine ⟨o, t5, .p (.bool false), ?_, ho, hlo, by rw [Nat.pow_zero, Nat.mul_one, List.take_of_length_le (Nat.le_refl _)] at hv; exact hv⟩
      rw [← hI, WC_loop, hI]
      simp only [seqT, thn_normal, thn_ret, thn_exit, WC_region, WC_cond, WC_exit, WC_skip, WC_block, WC_ret, evRegion, Bool.false_eq_true, if_false, if_true, reduceIte, ops_n, ops_c, evStep, wantedA, evOp, opv, putA, ret1, ofVal, ofVal1, cellsOf, AV.isCell, clean, evFieldAddr, evField, evExtract, evBuild, evIndex, evBuiltin, evBuildSlice, evNilCheck, blkRead, mkAgg, mkTup, mapO, AV.pure?, setAt, afill, parts, calleeOf, tell, scalar, scalarL, norm, normL, ids, Go.Ev.mark, evResults, evResult, aggCells, partA, List.getElem?_cons_zero, List.getElem?_cons_succ, List.getElem?_nil, List.map_cons, List.map_nil, List.all_cons, List.all_nil, Bool.and_true, Bool.true_and, Bool.and_false, Bool.false_and, Bool.and_self, Bool.not_true, Bool.not_false, Bool.or_true, Bool.or_false, Bool.false_or, Bool.true_or, List.set, List.length_cons, List.length_nil, List.nil_append, List.cons_append, List.append_nil, Nat.reduceAdd, Nat.reduceSub, Nat.reduceMul, Nat.reduceLeDiff, Nat.zero_add, Nat.reduceEqDiff, List.replicate, List.drop, List.take, List.flatMap_cons, List.flatMap_nil, List.foldl_nil, List.foldl_cons, decide_true, decide_false, and_self, and_true, true_and, BEq.rfl, beq_self_eq_true, Option.map_some, Option.map_none, Option.bind_some, Option.bind_none, List.getElem?_toArray, Option.isSome_some, Option.isSome_none, beqs, ne_eq, not_true_eq_false, not_false_eq_true, false_or, or_false, or_self, Nat.reduceLT, false_and, and_false, List.nil_append, evEq, eqc, optO, b_add, b_sub, b_mul, b_eql, b_neq, b_lss, b_leq, b_gtr, b_geq, u_not, flags0, flags1, rs_P, len8, hlt]
    | succ k ih =>
      intro i o t5 t17 hi ho hlo hv
      have hid : i < d.length := by omega
      have hlt := ilt_t hid
      have j1 : IntKind.i64.wrap ((d.length : Int) - 1) = ((d.length - 1 : Nat) : Int) := by rw [wrap_i64 (by omega) (by omega)]; omega
      have j2 : IntKind.i64.wrap (((d.length - 1 : Nat) : Int) - (i : Int)) = (k : Int) := by rw [wrap_i64 (by omega) (by omega)]; omega
      have hkL : k / 4 < L := by omega
      have hko : k / 4 < o.length := by omega
      have hix := ix8 (x := false) hid
      have hld := ld8 (H := [⟨0, false, lb o⟩]) hid
      have hbt := bval_take_succ d i hid
      have hc : d.getD i 0 < 256 := by
        rw [List.getD_eq_getElem?_getD, List.getElem?_eq_getElem hid]
        exact hd _ (List.getElem_mem hid)
      generalize d.getD i 0 = c at *
      have hwc : IntKind.u32.wrap (c : Int) = (c : Int) := by rw [wrapu32, Int.emod_eq_of_lt (by omega) (by omega)]
      obtain ⟨y, hy⟩ := low_zero hlo hko hv
      have hj : k % 4 < 4 := Nat.mod_lt _ (by decide)
      have hmul : IntKind.i64.wrap (8 * ((k % 4 : Nat) : Int)) = ((8 * (k % 4) : Nat) : Int) := by rw [wrap_i64 (by omega) (by omega)]; omega
      have hw8 := w64 (x := 8 * (k % 4)) (by omega)
      have hc2 : c * 2 ^ (8 * (k % 4)) < 2 ^ (8 * (k % 4) + 8) := by
        rw [Nat.pow_add, Nat.mul_comm]
        exact Nat.mul_lt_mul_of_pos_left (by omega) (Nat.two_pow_pos _)
      have hp32 : (2 : Nat) ^ (8 * (k % 4) + 8) ≤ 2 ^ 32 := Nat.pow_le_pow_right (by decide) (by omega)
      have h32 : (2 : Nat) ^ 32 = LB := rfl
      have hsh := fun (P : Program) (t : TypeId) (kk : IntKind) => b_shlw (P := P) (t := t) (k := kk) (x := c) (n := 8 * (k % 4)) (by omega) (by omega)
      have hol := limbs_getD hlo (k / 4)
      have hor := fun (P : Program) (t : TypeId) => b_or32 (P := P) (t := t) (x := o.getD (k / 4) 0) (y := c * 2 ^ (8 * (k % 4))) hol (by omega)
      have hoe : o.getD (k / 4) 0 ||| c * 2 ^ (8 * (k % 4)) = o.getD (k / 4) 0 + c * 2 ^ (8 * (k % 4)) := by
        rw [hy]; exact or_add hc2
      have hsum : o.getD (k / 4) 0 + c * 2 ^ (8 * (k % 4)) < LB := by
        rw [← hoe]; exact Nat.or_lt_two_pow (n := 32) (by omega) (by omega)
      rw [hoe] at hor
      have hput := put_byte hlo hc hko (.inr trivial) (by
        rw [hy, Nat.mul_mod_left, Nat.zero_div])
      obtain ⟨Z, hZ⟩ : ∃ Z, Z = o.getD (k / 4) 0 + c * 2 ^ (8 * (k % 4)) := ⟨_, rfl⟩
      rw [← hZ] at hor hsum hput
      obtain ⟨Y, hY⟩ : ∃ Y, Y = c * 2 ^ (8 * (k % 4)) := ⟨_, rfl⟩
      rw [← hY] at hor hsh
      have hst := stms1 (ver := 0) (j := k / 4) (z := Z) (o := o) hko
      have hi1 := inext (k := i) (by omega)
      obtain ⟨o', t5', t17', h1, h2⟩ := ih (i + 1) (o.set (k / 4) Z) (.p (.int .i64 (k : Int))) (.p (.bool true)) (by omega) (by rw [List.length_set]; exact ho) (limbs_set hlo hsum) (by
        rw [hput, hv, hbt, Nat.pow_succ, Nat.add_mul, Nat.mul_comm (256 ^ k) 256, ← Nat.mul_assoc])
      refine ⟨o', t5', t17', ?_, h2⟩
      rw [← hI, WC_loop, hI]
      simp only [seqT, thn_normal, thn_ret, thn_exit, WC_region, WC_cond, WC_exit, WC_skip, WC_block, WC_ret, evRegion, Bool.false_eq_true, if_false, if_true, reduceIte, ops_n, ops_c, evStep, wantedA, evOp, opv, putA, ret1, ofVal, ofVal1, cellsOf, AV.isCell, clean, evFieldAddr, evField, evExtract, evBuild, evIndex, evBuiltin, evBuildSlice, evNilCheck, blkRead, mkAgg, mkTup, mapO, AV.pure?, setAt, afill, parts, calleeOf, tell, scalar, scalarL, norm, normL, ids, Go.Ev.mark, evResults, evResult, aggCells, partA, List.getElem?_cons_zero, List.getElem?_cons_succ, List.getElem?_nil, List.map_cons, List.map_nil, List.all_cons, List.all_nil, Bool.and_true, Bool.true_and, Bool.and_false, Bool.false_and, Bool.and_self, Bool.not_true, Bool.not_false, Bool.or_true, Bool.or_false, Bool.false_or, Bool.true_or, List.set, List.length_cons, List.length_nil, List.nil_append, List.cons_append, List.append_nil, Nat.reduceAdd, Nat.reduceSub, Nat.reduceMul, Nat.reduceLeDiff, Nat.zero_add, Nat.reduceEqDiff, List.replicate, List.drop, List.take, List.flatMap_cons, List.flatMap_nil, List.foldl_nil, List.foldl_cons, decide_true, decide_false, and_self, and_true, true_and, BEq.rfl, beq_self_eq_true, Option.map_some, Option.map_none, Option.bind_some, Option.bind_none, List.getElem?_toArray, Option.isSome_some, Option.isSome_none, beqs, ne_eq, not_true_eq_false, not_false_eq_true, false_or, or_false, or_self, Nat.reduceLT, false_and, and_false, List.nil_append, evEq, eqc, optO, b_add, b_sub, b_mul, b_eql, b_neq, b_lss, b_leq, b_gtr, b_geq, u_not, flags0, flags1, rs_P, len8, hlt, j1, j2, q4 (show k ≤ 100000000 by omega), r4, ixms hkL, Nat.zero_add, ldms1 hko, hix, hld, pu, pb, conv5, hwc, hmul, conv34, hw8, hsh, hor, hst, hi1]
      exact h1
  obtain ⟨o', t5', t17', k1, k2, k3, k4⟩ := inner d.length 0 (List.replicate L 0) (.p .und) (.p .und) (by omega) (by simp)
    (fun x hx => by rw [List.eq_of_mem_replicate hx]; decide) (by simp [val_zeros, bval])
  simp only [Int.natCast_zero, Int.cast_ofNat_Int] at k1
  have hval : val o' = bval d := k4
  have ht := rs_trimO o' (by omega) false
  rw [k2] at ht
  rw [k1]
  simp only [seqT, thn_normal, thn_ret, thn_exit, WC_region, WC_cond, WC_exit, WC_skip, WC_block, WC_ret, evRegion, Bool.false_eq_true, if_false, if_true, reduceIte, ops_n, ops_c, evStep, wantedA, evOp, opv, putA, ret1, ofVal, ofVal1, cellsOf, AV.isCell, clean, evFieldAddr, evField, evExtract, evBuild, evIndex, evBuiltin, evBuildSlice, evNilCheck, blkRead, mkAgg, mkTup, mapO, AV.pure?, setAt, afill, parts, calleeOf, tell, scalar, scalarL, norm, normL, ids, Go.Ev.mark, evResults, evResult, aggCells, partA, List.getElem?_cons_zero, List.getElem?_cons_succ, List.getElem?_nil, List.map_cons, List.map_nil, List.all_cons, List.all_nil, Bool.and_true, Bool.true_and, Bool.and_false, Bool.false_and, Bool.and_self, Bool.not_true, Bool.not_false, Bool.or_true, Bool.or_false, Bool.false_or, Bool.true_or, List.set, List.length_cons, List.length_nil, List.nil_append, List.cons_append, List.append_nil, Nat.reduceAdd, Nat.reduceSub, Nat.reduceMul, Nat.reduceLeDiff, Nat.zero_add, Nat.reduceEqDiff, List.replicate, List.drop, List.take, List.flatMap_cons, List.flatMap_nil, List.foldl_nil, List.foldl_cons, decide_true, decide_false, and_self, and_true, true_and, BEq.rfl, beq_self_eq_true, Option.map_some, Option.map_none, Option.bind_some, Option.bind_none, List.getElem?_toArray, Option.isSome_some, Option.isSome_none, beqs, ne_eq, not_true_eq_false, not_false_eq_true, false_or, or_false, or_self, Nat.reduceLT, false_and, and_false, List.nil_append, evEq, eqc, optO, b_add, b_sub, b_mul, b_eql, b_neq, b_lss, b_leq, b_gtr, b_geq, u_not, flags0, flags1, rs_P, evCall_mem (show rsC.md 31 = 2 from rfl), ht, show Try.f14.results = #[.tmp 2] from rfl, show rsC.md 31 = 2 from rfl]
  have hf := frz_lb (fz := false) (trim_le o')
  rw [trim_take, trim_toL k3, hval] at hf
  rw [trim_toL k3, hval]
  exact hf
end Go.Proofs
set_option linter.unusedSimpArgs false
set_option linter.unusedVariables false
namespace Go.Proofs
open Go.Ev Go.Mx
theorem rs_lv12 : rsC.lv 12 = [true, true, false, false, true, true, true, true, false, false, false, false, false, false, false, false, false, false, false, false, true, false, false, false, false, false, false, false, false, false, false, false, true, false, false, false, false, false, false, false, false, false, false, false, false, false, false, false, false, false, false, false, false] := by kernel_rfl
def lb8 (o : List Nat) : List AV := o.map fun n => .p (pb n)
theorem rs_T8 : zeroT Try.prog 5 = some [.p (.int .u8 0)] ∧ bytesT Try.prog 5 = some 1 ∧ elemT Try.prog 22 = some 5 := ⟨by kernel_rfl, by kernel_rfl, by kernel_rfl⟩
theorem ixm8 {id ver off n i : Nat} (h : i < n) : evIndexAddr Try.prog 22 (.ms id ver off n 1) (.p (.int .i64 (i : Int))) = some (.pt id ver (off + i)) := by
  simp only [evIndexAddr, Try.underlying22, rs_T5]
  rw [if_pos ⟨by omega, by omega, trivial⟩]
  simp
theorem mk8 {n : Nat} (h : n ≤ 1000000000) {H : List ABlk} : evMakeSlice Try.prog false 22 (.p (.int .i64 (n : Int))) (.p (.int .i64 (n : Int))) H = some (.ms H.length 0 0 n 1, H ++ [⟨0, false, lb8 (List.replicate n 0)⟩]) := by
  simp only [evMakeSlice, rs_T8, rs_T5]
  rw [if_neg (by simp), if_pos ⟨by omega, by omega, by omega, by omega⟩]
  simp [lb8, pb]
theorem setAt_lb8 {o : List Nat} {j z : Nat} : setAt (lb8 o) j [.p (pb z)] = lb8 (o.set j z) := by
  show (lb8 o).set j (.p (pb z)) = _
  simp only [lb8, List.map_set]
theorem st8 {H : List ABlk} {id ver j z : Nat} {o : List Nat} (hH : H[id]? = some ⟨ver, false, lb8 o⟩) (h : j < o.length) : evStore Try.prog 5 (.pt id ver j) (.p (.int .u8 (z : Int))) H = some (H.set id ⟨ver, false, lb8 (o.set j z)⟩) := by
  have e := setAt_lb8 (o := o) (j := j) (z := z)
  have hl : (lb8 o).length = o.length := by simp [lb8]
  simp only [evStore, rs_T5, cellsOf, AV.isCell, if_true]
  split
  · rename_i hx; rw [hH] at hx; cases hx
  · rename_i B hB
    rw [hH] at hB
    cases hB
    rw [if_pos ⟨rfl, rfl, rfl, by simp only [hl]; omega⟩]
    exact congrArg (fun c => some (H.set id ⟨ver, false, c⟩)) e
theorem mapO_lb8 {st : Bool} {H : List ABlk} {d : Nat} : ∀ (o : List Nat), mapO (frz st H d) (lb8 o) = some (o.map pb)
  | [] => rfl
  | x :: o => by
    have ih := mapO_lb8 (st := st) (H := H) (d := d) o
    show mapO (frz st H d) (.p (pb x) :: lb8 o) = _
    simp only [mapO, frz_p, ih]
    rfl
theorem frz8 {H : List ABlk} {d id ver off k : Nat} {fz : Bool} {o : List Nat} (hH : H[id]? = some ⟨ver, fz, lb8 o⟩) (hk : off + k ≤ o.length) : frz false H (d + 1) (.ms id ver off k 1) = some (.sl k false (((o.drop off).take k).map pb)) := by
  have h1 : ((lb8 o).drop off).take (k * 1) = lb8 ((o.drop off).take k) := by simp [lb8, List.map_drop, List.map_take]
  show (match H[id]? with
    | none => none
    | some B => if B.ver = ver ∧ off + k * 1 ≤ B.cells.length ∧ (false = false ∨ B.fz = true) then
        match mapO (frz false H d) ((B.cells.drop off).take (k * 1)) with
        | some cs => some (PV.sl k false cs)
        | none => none
      else none) = _
  rw [hH]
  simp only
  rw [if_pos ⟨trivial, by simp [lb8]; omega, .inl trivial⟩, h1, mapO_lb8]
theorem bval_set : ∀ (l : List Nat) (j z : Nat), j < l.length → bval (l.set j z) + l.getD j 0 * 256 ^ (l.length - 1 - j) = bval l + z * 256 ^ (l.length - 1 - j)
  | x :: l, 0, z, _ => by
    show z * 256 ^ l.length + bval l + x * 256 ^ l.length = x * 256 ^ l.length + bval l + z * 256 ^ l.length
    omega
  | x :: l, j + 1, z, h => by
    have h' : j < l.length := by simpa using h
    have ih := bval_set l j z h'
    show x * 256 ^ (l.set j z).length + bval (l.set j z) + (x :: l).getD (j + 1) 0 * _ = x * 256 ^ l.length + bval l + _
    rw [List.length_set]
    have e : (x :: l).length - 1 - (j + 1) = l.length - 1 - j := by simp; omega
    rw [e, show (x :: l).getD (j + 1) 0 = l.getD j 0 from rfl]
    omega
theorem bval_zeros : ∀ n, bval (List.replicate n 0) = 0
  | 0 => rfl
  | n + 1 => by
    show 0 * _ + bval (List.replicate n 0) = 0
    rw [bval_zeros n, Nat.zero_mul]
/-- A byte of a number. -/
theorem byte_at {a : List Nat} (ha : Limbs a) {k : Nat} (hk : k / 4 < a.length) : a.getD (k / 4) 0 / 2 ^ (8 * (k % 4)) % 256 = val a / 256 ^ k % 256 := by
  have h1 : (256 : Nat) ^ k = LB ^ (k / 4) * 2 ^ (8 * (k % 4)) := by
    rw [show (256 : Nat) = 2 ^ 8 by decide, ← Nat.pow_mul, show LB = 2 ^ 32 from rfl, ← Nat.pow_mul, ← Nat.pow_add]
    congr 1
    omega
  rw [h1, ← Nat.div_div_eq_div_mul, val_div ha (by omega), val_drop]
  generalize a.getD (k / 4) 0 = d
  generalize val (a.drop (k / 4 + 1)) = r
  have hj : k % 4 < 4 := Nat.mod_lt _ (by decide)
  generalize k % 4 = j at *
  have h2 : LB * r = 2 ^ (8 * j) * (256 * (2 ^ (24 - 8 * j) * r)) := by
    have : LB = 2 ^ (8 * j) * (256 * 2 ^ (24 - 8 * j)) := by
      rw [show (256 : Nat) = 2 ^ 8 by decide, ← Nat.pow_add, ← Nat.pow_add, show 8 * j + (8 + (24 - 8 * j)) = 32 by omega]; rfl
    rw [this]; simp only [Nat.mul_assoc]
  rw [h2, Nat.add_mul_div_left _ _ (Nat.two_pow_pos _), Nat.add_mul_mod_self_left]
end Go.Proofs
set_option linter.unusedSimpArgs false
set_option linter.unusedVariables false
namespace Go.Proofs
open Go.Ev Go.Mx
set_option maxRecDepth 100000 in
set_option maxHeartbeats 4000000 in
theorem rs_bytes (a : List Nat) (ha : Canon a) (hal : a.length ≤ 90000) (n : Nat) (hn : n ≤ 2048) (hlt : val a < 256 ^ n) : ∃ o : List Nat, WP rsC 12 [N32 a, .int .i64 (n : Int)] = some (.tup [B8 o, .bool true]) ∧ o.length = n ∧ Bytes o ∧ bval o = val a := by
  have hbits := rs_bits a ha (by omega)
  simp only [N32] at hbits
  have h256 : (256 : Nat) ^ n = 2 ^ (8 * n) := by rw [Nat.pow_mul]
  have hbl : bl (val a) ≤ 8 * n := bl_le (by rw [← h256]; exact hlt)
  have g1 : decide ((n : Int) < 0) = false := decide_eq_false (by omega)
  have g2 : decide ((n : Int) > 2048) = false := decide_eq_false (by omega)
  have hm8 : IntKind.i64.wrap (8 * (n : Int)) = ((8 * n : Nat) : Int) := by rw [wrap_i64 (by omega) (by omega)]; omega
  have g3 : decide (((bl (val a) : Nat) : Int) > ((8 * n : Nat) : Int)) = false := decide_eq_false (by omega)
  have hmk := fun H => mk8 (n := n) (by omega) (H := H)
  generalize bl (val a) = b1 at *
  rw [WP_eq (show rsC.md 12 < 9 by decide) Try.func12 rfl]
  rw [show Try.f12.ntmps = 53 from rfl, rs_lv12]
  simp only [N32, List.map_cons, List.map_nil, List.length_cons, List.length_nil, Nat.reduceAdd, Nat.reduceSub, List.replicate, List.cons_append, List.nil_append]
  simp only [seqT, thn_normal, thn_ret, thn_exit, WC_region, WC_cond, WC_exit, WC_skip, WC_block, WC_ret, evRegion, Bool.false_eq_true, if_false, if_true, reduceIte, ops_n, ops_c, evStep, wantedA, evOp, opv, putA, ret1, ofVal, ofVal1, cellsOf, AV.isCell, clean, evFieldAddr, evField, evExtract, evBuild, evIndex, evBuiltin, evBuildSlice, evNilCheck, blkRead, mkAgg, mkTup, mapO, AV.pure?, setAt, afill, parts, calleeOf, tell, scalar, scalarL, norm, normL, ids, Go.Ev.mark, evResults, evResult, aggCells, partA, List.getElem?_cons_zero, List.getElem?_cons_succ, List.getElem?_nil, List.map_cons, List.map_nil, List.all_cons, List.all_nil, Bool.and_true, Bool.true_and, Bool.and_false, Bool.false_and, Bool.and_self, Bool.not_true, Bool.not_false, Bool.or_true, Bool.or_false, Bool.false_or, Bool.true_or, List.set, List.length_cons, List.length_nil, List.nil_append, List.cons_append, List.append_nil, Nat.reduceAdd, Nat.reduceSub, Nat.reduceMul, Nat.reduceLeDiff, Nat.zero_add, Nat.reduceEqDiff, List.replicate, List.drop, List.take, List.flatMap_cons, List.flatMap_nil, List.foldl_nil, List.foldl_cons, decide_true, decide_false, and_self, and_true, true_and, BEq.rfl, beq_self_eq_true, Option.map_some, Option.map_none, Option.bind_some, Option.bind_none, List.getElem?_toArray, Option.isSome_some, Option.isSome_none, beqs, ne_eq, not_true_eq_false, not_false_eq_true, false_or, or_false, or_self, Nat.reduceLT, false_and, and_false, List.nil_append, evEq, eqc, optO, b_add, b_sub, b_mul, b_eql, b_neq, b_lss, b_leq, b_gtr, b_geq, u_not, flags0, flags1, rs_P, evCall_tab (show ∀ f xs, rsC.O f xs = none from fun _ _ => rfl), normN, frz_p, ids_p, foldN, ite_self, hbits, g1, g2, hm8, g3, hmk, show rsC.md 29 = 0 from rfl]
  generalize hI : (Code.loop _ : Code) = I
  have inner : ∀ (m k : Nat) (o : List Nat) (t20 t32 : AV), k + m = n → o.length = n → Bytes o → bval o = val a % 256 ^ k → (∀ j, j + k < n → o.getD j 0 = 0) → ∃ (o' : List Nat) (k' : Nat) (t20' t32' : AV),
      WC rsC [true, true, false, false, true, true, true, true, false, false, false, false, false, false, false, false, false, false, false, false, true, false, false, false, false, false, false, false, false, false, false, false, true, false, false, false, false, false, false, false, false, false, false, false, false, false, false, false, false, false, false, false, false] I ⟨[.p (.sl a.length false (a.map pu)), .p (.int .i64 (n : Int)), .p .any, .p .any, .p (.nsl true), .p (.bool false), .ms 0 0 0 n 1, .p (.int .i64 (k : Int)), .p .any, .p .any, .p .any, .p .any, .p .any, .p .any, .p .any, .p .any, .p .any, .p .any, .p .any, .p .any, t20, .p .any, .p .any, .p .any, .p .any, .p .any, .p .any, .p .any, .p .any, .p .any, .p .any, .p .any, t32, .p .any, .p .any, .p .any, .p .any, .p .any, .p .any, .p .any, .p .any, .p .any, .p .any, .p .any, .p .any, .p .any, .p .any, .p .any, .p .any, .p .any, .p .any, .p .any, .p .any], [⟨0, false, lb8 o⟩]⟩ = some (.exit 0, ⟨[.p (.sl a.length false (a.map pu)), .p (.int .i64 (n : Int)), .p .any, .p .any, .p (.nsl true), .p (.bool false), .ms 0 0 0 n 1, .p (.int .i64 (k' : Int)), .p .any, .p .any, .p .any, .p .any, .p .any, .p .any, .p .any, .p .any, .p .any, .p .any, .p .any, .p .any, t20', .p .any, .p .any, .p .any, .p .any, .p .any, .p .any, .p .any, .p .any, .p .any, .p .any, .p .any, t32', .p .any, .p .any, .p .any, .p .any, .p .any, .p .any, .p .any, .p .any, .p .any, .p .any, .p .any, .p .any, .p .any, .p .any, .p .any, .p .any, .p .any, .p .any, .p .any, .p .any], [⟨0, false, lb8 o'⟩]⟩) ∧ o'.length = n ∧ Bytes o' ∧ bval o' = val a := by
    intro m
    induction m with
    | zero =>
      intro k o t20 t32 hk ho hlo hv hz
      obtain rfl : k = n := by omega
      have hl : decide ((k : Int) < (k : Int)) = false := by simp
      refine ⟨o, k, t20, .p (.bool false), ?_, ho, hlo, by rw [hv, Nat.mod_eq_of_lt hlt]⟩
      rw [← hI, WC_loop, hI]
      simp only [seqT, thn_normal, thn_ret, thn_exit, WC_region, WC_cond, WC_exit, WC_skip, WC_block, WC_ret, evRegion, Bool.false_eq_true, if_false, if_true, reduceIte, ops_n, ops_c, evStep, wantedA, evOp, opv, putA, ret1, ofVal, ofVal1, cellsOf, AV.isCell, clean, evFieldAddr, evField, evExtract, evBuild, evIndex, evBuiltin, evBuildSlice, evNilCheck, blkRead, mkAgg, mkTup, mapO, AV.pure?, setAt, afill, parts, calleeOf, tell, scalar, scalarL, norm, normL, ids, Go.Ev.mark, evResults, evResult, aggCells, partA, List.getElem?_cons_zero, List.getElem?_cons_succ, List.getElem?_nil, List.map_cons, List.map_nil, List.all_cons, List.all_nil, Bool.and_true, Bool.true_and, Bool.and_false, Bool.false_and, Bool.and_self, Bool.not_true, Bool.not_false, Bool.or_true, Bool.or_false, Bool.false_or, Bool.true_or, List.set, List.length_cons, List.length_nil, List.nil_append, List.cons_append, List.append_nil, Nat.reduceAdd, Nat.reduceSub, Nat.reduceMul, Nat.reduceLeDiff, Nat.zero_add, Nat.reduceEqDiff, List.replicate, List.drop, List.take, List.flatMap_cons, List.flatMap_nil, List.foldl_nil, List.foldl_cons, decide_true, decide_false, and_self, and_true, true_and, BEq.rfl, beq_self_eq_true, Option.map_some, Option.map_none, Option.bind_some, Option.bind_none, List.getElem?_toArray, Option.isSome_some, Option.isSome_none, beqs, ne_eq, not_true_eq_false, not_false_eq_true, false_or, or_false, or_self, Nat.reduceLT, false_and, and_false, List.nil_append, evEq, eqc, optO, b_add, b_sub, b_mul, b_eql, b_neq, b_lss, b_leq, b_gtr, b_geq, u_not, flags0, flags1, rs_P, len32 rs_P, hl]
    | succ m ih =>
      intro k o t20 t32 hk ho hlo hv hz
      have hkn : k < n := by omega
      have hl := ilt_t hkn
      have hq := q4 (P := Try.prog) (t := 3) (i := k) (by omega)
      by_cases hka : k / 4 < a.length
      · have hl2 := ilt_t hka
        have j1 : IntKind.i64.wrap ((n : Int) - 1) = ((n - 1 : Nat) : Int) := by rw [wrap_i64 (by omega) (by omega)]; omega
        have j2 : IntKind.i64.wrap (((n - 1 : Nat) : Int) - (k : Int)) = ((n - 1 - k : Nat) : Int) := by rw [wrap_i64 (by omega) (by omega)]; omega
        have hix := ix32 (x := false) hka
        have hld := ld32 (H := [⟨0, false, lb8 o⟩]) hka
        have hba := byte_at ha.limbs hka
        generalize a.getD (k / 4) 0 = d at *
        have hj : k % 4 < 4 := Nat.mod_lt _ (by decide)
        have hmul : IntKind.i64.wrap (8 * ((k % 4 : Nat) : Int)) = ((8 * (k % 4) : Nat) : Int) := by rw [wrap_i64 (by omega) (by omega)]; omega
        have hw8 := w64 (x := 8 * (k % 4)) (by omega)
        have hwb : ∀ x : Nat, IntKind.u8.wrap (x : Int) = ((x % 256 : Nat) : Int) := fun x => by
          unfold IntKind.wrap
          simp only [IntKind.bits, IntKind.signed, Bool.false_and]
          rfl
        have hjo : n - 1 - k < o.length := by omega
        have hjn : n - 1 - k < n := by omega
        obtain ⟨Y, hY⟩ : ∃ Y, Y = d / 2 ^ (8 * (k % 4)) := ⟨_, rfl⟩
        have hsr := fun (P : Program) (t : TypeId) (kk : IntKind) => s_u32 (P := P) (t := t) (k := kk) (x := d) (n := 8 * (k % 4)) (by omega)
        rw [← hY] at hsr hba
        have hwY := hwb Y
        have hst := st8 (H := [⟨0, false, lb8 o⟩]) (id := 0) (ver := 0) (j := n - 1 - k) (z := Y % 256) (o := o) rfl hjo
        have hvs := bval_set o (n - 1 - k) (Y % 256) hjo
        rw [hz _ (by omega), Nat.zero_mul, Nat.add_zero, ho, show n - 1 - (n - 1 - k) = k by omega] at hvs
        have hi1 := inext (k := k) (by omega)
        obtain ⟨o', k', t20', t32', h1, h2⟩ := ih (k + 1) (o.set (n - 1 - k) (Y % 256)) t20 (.p (.bool true)) (by omega) (by rw [List.length_set]; exact ho) (fun x hx => by
            rcases List.mem_or_eq_of_mem_set hx with h | h
            · exact hlo x h
            · rw [h]; exact Nat.mod_lt _ (by decide)) (by
          rw [hvs, hv, hba, Nat.pow_succ, Nat.mod_mul, Nat.mul_comm (256 ^ k)]) (fun j hj => by rw [getD_set_ne (by omega), hz _ (by omega)])
        refine ⟨o', k', t20', t32', ?_, h2⟩
        rw [← hI, WC_loop, hI]
        simp only [seqT, thn_normal, thn_ret, thn_exit, WC_region, WC_cond, WC_exit, WC_skip, WC_block, WC_ret, evRegion, Bool.false_eq_true, if_false, if_true, reduceIte, ops_n, ops_c, evStep, wantedA, evOp, opv, putA, ret1, ofVal, ofVal1, cellsOf, AV.isCell, clean, evFieldAddr, evField, evExtract, evBuild, evIndex, evBuiltin, evBuildSlice, evNilCheck, blkRead, mkAgg, mkTup, mapO, AV.pure?, setAt, afill, parts, calleeOf, tell, scalar, scalarL, norm, normL, ids, Go.Ev.mark, evResults, evResult, aggCells, partA, List.getElem?_cons_zero, List.getElem?_cons_succ, List.getElem?_nil, List.map_cons, List.map_nil, List.all_cons, List.all_nil, Bool.and_true, Bool.true_and, Bool.and_false, Bool.false_and, Bool.and_self, Bool.not_true, Bool.not_false, Bool.or_true, Bool.or_false, Bool.false_or, Bool.true_or, List.set, List.length_cons, List.length_nil, List.nil_append, List.cons_append, List.append_nil, Nat.reduceAdd, Nat.reduceSub, Nat.reduceMul, Nat.reduceLeDiff, Nat.zero_add, Nat.reduceEqDiff, List.replicate, List.drop, List.take, List.flatMap_cons, List.flatMap_nil, List.foldl_nil, List.foldl_cons, decide_true, decide_false, and_self, and_true, true_and, BEq.rfl, beq_self_eq_true, Option.map_some, Option.map_none, Option.bind_some, Option.bind_none, List.getElem?_toArray, Option.isSome_some, Option.isSome_none, beqs, ne_eq, not_true_eq_false, not_false_eq_true, false_or, or_false, or_self, Nat.reduceLT, false_and, and_false, List.nil_append, evEq, eqc, optO, b_add, b_sub, b_mul, b_eql, b_neq, b_lss, b_leq, b_gtr, b_geq, u_not, flags0, flags1, rs_P, len32 rs_P, hl, hl2, hq, j1, j2, ixm8 hjn, Nat.zero_add, hix, hld, pu, r4, hmul, conv34, hw8, hsr, conv5, hwY, hst, hi1]
        exact h1
      · have hl2 := ilt_f hka
        have hval : val a < 256 ^ k := by
          have h1 := val_lt ha.limbs
          have h2 : LB ^ a.length ≤ 256 ^ k := by
            rw [show LB = 256 ^ 4 from rfl, ← Nat.pow_mul]
            exact Nat.pow_le_pow_right (by decide) (by omega)
          omega
        refine ⟨o, k, t20, .p (.bool false), ?_, ho, hlo, by rw [hv, Nat.mod_eq_of_lt hval]⟩
        rw [← hI, WC_loop, hI]
        simp only [seqT, thn_normal, thn_ret, thn_exit, WC_region, WC_cond, WC_exit, WC_skip, WC_block, WC_ret, evRegion, Bool.false_eq_true, if_false, if_true, reduceIte, ops_n, ops_c, evStep, wantedA, evOp, opv, putA, ret1, ofVal, ofVal1, cellsOf, AV.isCell, clean, evFieldAddr, evField, evExtract, evBuild, evIndex, evBuiltin, evBuildSlice, evNilCheck, blkRead, mkAgg, mkTup, mapO, AV.pure?, setAt, afill, parts, calleeOf, tell, scalar, scalarL, norm, normL, ids, Go.Ev.mark, evResults, evResult, aggCells, partA, List.getElem?_cons_zero, List.getElem?_cons_succ, List.getElem?_nil, List.map_cons, List.map_nil, List.all_cons, List.all_nil, Bool.and_true, Bool.true_and, Bool.and_false, Bool.false_and, Bool.and_self, Bool.not_true, Bool.not_false, Bool.or_true, Bool.or_false, Bool.false_or, Bool.true_or, List.set, List.length_cons, List.length_nil, List.nil_append, List.cons_append, List.append_nil, Nat.reduceAdd, Nat.reduceSub, Nat.reduceMul, Nat.reduceLeDiff, Nat.zero_add, Nat.reduceEqDiff, List.replicate, List.drop, List.take, List.flatMap_cons, List.flatMap_nil, List.foldl_nil, List.foldl_cons, decide_true, decide_false, and_self, and_true, true_and, BEq.rfl, beq_self_eq_true, Option.map_some, Option.map_none, Option.bind_some, Option.bind_none, List.getElem?_toArray, Option.isSome_some, Option.isSome_none, beqs, ne_eq, not_true_eq_false, not_false_eq_true, false_or, or_false, or_self, Nat.reduceLT, false_and, and_false, List.nil_append, evEq, eqc, optO, b_add, b_sub, b_mul, b_eql, b_neq, b_lss, b_leq, b_gtr, b_geq, u_not, flags0, flags1, rs_P, len32 rs_P, hl, hl2, hq]
  obtain ⟨o', k', t20', t32', k1, k2, k3, k4⟩ := inner n 0 (List.replicate n 0) (.p (.bool false)) (.p .und) (by omega) (by simp)
    (fun x hx => by rw [List.eq_of_mem_replicate hx]; decide) (by simp [bval_zeros, Nat.mod_one]) (fun j _ => by simp [List.getD_eq_getElem?_getD, List.getElem?_replicate]; split <;> rfl)
  simp only [Int.natCast_zero, Int.cast_ofNat_Int] at k1
  rw [k1]
  refine ⟨o', ?_, k2, k3, k4⟩
  have hft : frz false [⟨0, false, lb8 o'⟩] deep (.tup [.ms 0 0 0 n 1, .p (.bool true)]) = some (.tup [.sl n false (o'.map pb), .bool true]) := by
    have h := frz8 (H := [⟨0, false, lb8 o'⟩]) (d := 4) (id := 0) (ver := 0) (off := 0) (k := n) (fz := false) (o := o') rfl (by omega)
    rw [List.drop_zero, List.take_of_length_le (by omega)] at h
    show (match mapO (frz false [⟨0, false, lb8 o'⟩] 5) [.ms 0 0 0 n 1, .p (.bool true)] with
      | some xs => some (PV.tup xs)
      | none => none) = _
    simp only [mapO, h, frz_p]
    rfl
  rw [B8, k2]
  simp only [seqT, thn_normal, thn_ret, thn_exit, WC_region, WC_cond, WC_exit, WC_skip, WC_block, WC_ret, evRegion, Bool.false_eq_true, if_false, if_true, reduceIte, ops_n, ops_c, evStep, wantedA, evOp, opv, putA, ret1, ofVal, ofVal1, cellsOf, AV.isCell, clean, evFieldAddr, evField, evExtract, evBuild, evIndex, evBuiltin, evBuildSlice, evNilCheck, blkRead, mkAgg, mkTup, mapO, AV.pure?, setAt, afill, parts, calleeOf, tell, scalar, scalarL, norm, normL, ids, Go.Ev.mark, evResults, evResult, aggCells, partA, List.getElem?_cons_zero, List.getElem?_cons_succ, List.getElem?_nil, List.map_cons, List.map_nil, List.all_cons, List.all_nil, Bool.and_true, Bool.true_and, Bool.and_false, Bool.false_and, Bool.and_self, Bool.not_true, Bool.not_false, Bool.or_true, Bool.or_false, Bool.false_or, Bool.true_or, List.set, List.length_cons, List.length_nil, List.nil_append, List.cons_append, List.append_nil, Nat.reduceAdd, Nat.reduceSub, Nat.reduceMul, Nat.reduceLeDiff, Nat.zero_add, Nat.reduceEqDiff, List.replicate, List.drop, List.take, List.flatMap_cons, List.flatMap_nil, List.foldl_nil, List.foldl_cons, decide_true, decide_false, and_self, and_true, true_and, BEq.rfl, beq_self_eq_true, Option.map_some, Option.map_none, Option.bind_some, Option.bind_none, List.getElem?_toArray, Option.isSome_some, Option.isSome_none, beqs, ne_eq, not_true_eq_false, not_false_eq_true, false_or, or_false, or_self, Nat.reduceLT, false_and, and_false, List.nil_append, evEq, eqc, optO, b_add, b_sub, b_mul, b_eql, b_neq, b_lss, b_leq, b_gtr, b_geq, u_not, flags0, flags1, rs_P, hft, show Try.f12.results = #[.tmp 4, .tmp 5] from rfl]
end Go.Proofs
