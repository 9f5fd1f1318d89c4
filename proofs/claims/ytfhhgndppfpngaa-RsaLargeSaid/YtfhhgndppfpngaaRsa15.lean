/- The program's numbers: Of, Bits, Bytes, Cmp, Mul. No condition. -/
import Derived.Test.YtfhhgndppfpngaaRsa14
set_option linter.unusedSimpArgs false
set_option linter.unusedVariables false
set_option linter.unusedSimpArgs false
set_option linter.unusedVariables false
namespace Go.Proofs
open Go.Ev Go.Mx
theorem rs_lv23 : rsC.lv 23 = [true, false, true, true, true, true, true, false, false, true, false, false, false, false, false, false, true, true, true, true, false, false, false, false, false, false, false, false, false, false, false, false, false, false, false, false, false, false, false, false, false, false, false, false] := by kernel_rfl
set_option maxRecDepth 100000 in
set_option maxHeartbeats 4000000 in
theorem rs_nof (d : List Nat) (hd : Bytes d) (hdl : d.length ≤ 1024) : WP rsC 23 [B8 d] = some (N32 (toL (bval d))) := by
  have hLB : LB = 4294967296 := rfl
  have h1024 : decide ((d.length : Int) > 1024) = false := decide_eq_false (by omega)
  have i1 : IntKind.i64.wrap ((d.length : Int) + 4) = ((d.length + 4 : Nat) : Int) := by rw [wrap_i64 (by omega) (by omega)]; omega
  have i2 : IntKind.i64.wrap (((d.length + 4 : Nat) : Int) - 1) = ((d.length + 3 : Nat) : Int) := by rw [wrap_i64 (by omega) (by omega)]; omega
  obtain ⟨L, hL⟩ : ∃ L, L = (d.length + 3) / 4 := ⟨_, rfl⟩
  have hq0 := q4 (P := Try.prog) (t := 3) (i := d.length + 3) (by omega)
  rw [← hL] at hq0
  have hmk := fun H => mk32 (n := L) (by omega) (H := H)
  rw [B8]
  rw [WP_eq (show rsC.md 23 < 9 by decide) Try.func23 rfl]
  rw [show Try.f23.ntmps = 44 from rfl, rs_lv23]
  simp only [N32, List.map_cons, List.map_nil, List.length_cons, List.length_nil, Nat.reduceAdd, Nat.reduceSub, List.replicate, List.cons_append, List.nil_append]
  simp only [seqT, thn_normal, thn_ret, thn_exit, WC_region, WC_cond, WC_exit, WC_skip, WC_block, WC_ret, evRegion, Bool.false_eq_true, if_false, if_true, reduceIte, ops_n, ops_c, evStep, wantedA, evOp, opv, putA, ret1, ofVal, ofVal1, cellsOf, AV.isCell, clean, evFieldAddr, evField, evExtract, evBuild, evIndex, evBuiltin, evBuildSlice, evNilCheck, blkRead, mkAgg, mkTup, mapO, AV.pure?, setAt, afill, parts, calleeOf, tell, scalar, scalarL, norm, normL, ids, Go.Ev.mark, evResults, evResult, aggCells, partA, List.getElem?_cons_zero, List.getElem?_cons_succ, List.getElem?_nil, List.map_cons, List.map_nil, List.all_cons, List.all_nil, Bool.and_true, Bool.true_and, Bool.and_false, Bool.false_and, Bool.and_self, Bool.not_true, Bool.not_false, Bool.or_true, Bool.or_false, Bool.false_or, Bool.true_or, List.set, List.length_cons, List.length_nil, List.nil_append, List.cons_append, List.append_nil, Nat.reduceAdd, Nat.reduceSub, Nat.reduceMul, Nat.reduceLeDiff, Nat.zero_add, Nat.reduceEqDiff, List.replicate, List.drop, List.take, List.flatMap_cons, List.flatMap_nil, List.foldl_nil, List.foldl_cons, decide_true, decide_false, and_self, and_true, true_and, BEq.rfl, beq_self_eq_true, Option.map_some, Option.map_none, Option.bind_some, Option.bind_none, List.getElem?_toArray, Option.isSome_some, Option.isSome_none, beqs, ne_eq, not_true_eq_false, not_false_eq_true, false_or, or_false, or_self, Nat.reduceLT, false_and, and_false, List.nil_append, evEq, eqc, optO, b_add, b_sub, b_mul, b_eql, b_neq, b_lss, b_leq, b_gtr, b_geq, u_not, flags0, flags1, rs_P, len8, h1024, i1, i2, hq0, hmk]
  generalize hI : (Code.loop _ : Code) = I
  have inner : ∀ (m i : Nat) (o : List Nat) (t4 t5 t6 t19 : AV), i + m = d.length → o.length = L → Limbs o → val o = bval (d.take i) * 256 ^ m → ∃ (o' : List Nat) (t4' t5' t6' t19' : AV),
      WC rsC [true, false, true, true, true, true, true, false, false, true, false, false, false, false, false, false, true, true, true, true, false, false, false, false, false, false, false, false, false, false, false, false, false, false, false, false, false, false, false, false, false, false, false, false] I ⟨[.p (.sl d.length false (d.map pb)), .p .any, .p (.nsl true), .ms 0 0 0 L 1, t4, t5, t6, .p .any, .p .any, .p (.bool false), .p .any, .p .any, .p .any, .p .any, .p .any, .p .any, .p (.sl d.length false (d.map pb)), .p (.int .i64 (d.length : Int)), .p (.int .i64 (i : Int)), t19, .p .any, .p .any, .p .any, .p .any, .p .any, .p .any, .p .any, .p .any, .p .any, .p .any, .p .any, .p .any, .p .any, .p .any, .p .any, .p .any, .p .any, .p .any, .p .any, .p .any, .p .any, .p .any, .p .any, .p .any], [⟨0, false, lb o⟩]⟩ = some (.exit 0, ⟨[.p (.sl d.length false (d.map pb)), .p .any, .p (.nsl true), .ms 0 0 0 L 1, t4', t5', t6', .p .any, .p .any, .p (.bool false), .p .any, .p .any, .p .any, .p .any, .p .any, .p .any, .p (.sl d.length false (d.map pb)), .p (.int .i64 (d.length : Int)), .p (.int .i64 (d.length : Int)), t19', .p .any, .p .any, .p .any, .p .any, .p .any, .p .any, .p .any, .p .any, .p .any, .p .any, .p .any, .p .any, .p .any, .p .any, .p .any, .p .any, .p .any, .p .any, .p .any, .p .any, .p .any, .p .any, .p .any, .p .any], [⟨0, false, lb o'⟩]⟩) ∧ o'.length = L ∧ Limbs o' ∧ val o' = bval d := by
    intro m
    induction m with
    | zero =>
      intro i o t4 t5 t6 t19 hi ho hlo hv
      obtain rfl : i = d.length := by omega
      have hlt : decide ((d.length : Int) < (d.length : Int)) = false := by simp
      refine ⟨o, t4, t5, t6, .p (.bool false), ?_, ho, hlo, by rw [Nat.pow_zero, Nat.mul_one, List.take_of_length_le (Nat.le_refl _)] at hv; exact hv⟩
      rw [← hI, WC_loop, hI]
      simp only [seqT, thn_normal, thn_ret, thn_exit, WC_region, WC_cond, WC_exit, WC_skip, WC_block, WC_ret, evRegion, Bool.false_eq_true, if_false, if_true, reduceIte, ops_n, ops_c, evStep, wantedA, evOp, opv, putA, ret1, ofVal, ofVal1, cellsOf, AV.isCell, clean, evFieldAddr, evField, evExtract, evBuild, evIndex, evBuiltin, evBuildSlice, evNilCheck, blkRead, mkAgg, mkTup, mapO, AV.pure?, setAt, afill, parts, calleeOf, tell, scalar, scalarL, norm, normL, ids, Go.Ev.mark, evResults, evResult, aggCells, partA, List.getElem?_cons_zero, List.getElem?_cons_succ, List.getElem?_nil, List.map_cons, List.map_nil, List.all_cons, List.all_nil, Bool.and_true, Bool.true_and, Bool.and_false, Bool.false_and, Bool.and_self, Bool.not_true, Bool.not_false, Bool.or_true, Bool.or_false, Bool.false_or, Bool.true_or, List.set, List.length_cons, List.length_nil, List.nil_append, List.cons_append, List.append_nil, Nat.reduceAdd, Nat.reduceSub, Nat.reduceMul, Nat.reduceLeDiff, Nat.zero_add, Nat.reduceEqDiff, List.replicate, List.drop, List.take, List.flatMap_cons, List.flatMap_nil, List.foldl_nil, List.foldl_cons, decide_true, decide_false, and_self, and_true, true_and, BEq.rfl, beq_self_eq_true, Option.map_some, Option.map_none, Option.bind_some, Option.bind_none, List.getElem?_toArray, Option.isSome_some, Option.isSome_none, beqs, ne_eq, not_true_eq_false, not_false_eq_true, false_or, or_false, or_self, Nat.reduceLT, false_and, and_false, List.nil_append, evEq, eqc, optO, b_add, b_sub, b_mul, b_eql, b_neq, b_lss, b_leq, b_gtr, b_geq, u_not, flags0, flags1, rs_P, len8, hlt]
    | succ k ih =>
      intro i o t4 t5 t6 t19 hi ho hlo hv
      have hid : i < d.length := by omega
      have hlt := ilt_t hid
      have j1 : IntKind.i64.wrap ((d.length : Int) - 1) = ((d.length - 1 : Nat) : Int) := by rw [wrap_i64 (by omega) (by omega)]; omega
      have j2 : IntKind.i64.wrap (((d.length - 1 : Nat) : Int) - (i : Int)) = (k : Int) := by rw [wrap_i64 (by omega) (by omega)]; omega
      have hkL : k / 4 < L := by omega
      have hko : k / 4 < o.length := by omega
      have hix := ix8 (x := false) hid
      have hld := ld8 (H := [⟨0, false, lb o⟩]) hid
      have hbt := bval_take_succ d i hid
      have hc : d.getD i 0 < 256 := by
        rw [List.getD_eq_getElem?_getD, List.getElem?_eq_getElem hid]
        exact hd _ (List.getElem_mem hid)
      generalize d.getD i 0 = c at *
      have hwc : IntKind.u32.wrap (c : Int) = (c : Int) := by rw [wrapu32, Int.emod_eq_of_lt (by omega) (by omega)]
      obtain ⟨y, hy⟩ := low_zero hlo hko hv
      have hj : k % 4 < 4 := Nat.mod_lt _ (by decide)
      have hmul : IntKind.i64.wrap (((k % 4 : Nat) : Int) * 8) = ((8 * (k % 4) : Nat) : Int) := by rw [wrap_i64 (by omega) (by omega)]; omega
      have hw8 := w64 (x := 8 * (k % 4)) (by omega)
      have hc2 : c * 2 ^ (8 * (k % 4)) < 2 ^ (8 * (k % 4) + 8) := by
        rw [Nat.pow_add, Nat.mul_comm]
        exact Nat.mul_lt_mul_of_pos_left (by omega) (Nat.two_pow_pos _)
      have hp32 : (2 : Nat) ^ (8 * (k % 4) + 8) ≤ 2 ^ 32 := Nat.pow_le_pow_right (by decide) (by omega)
      have h32 : (2 : Nat) ^ 32 = LB := rfl
      have hsh := fun (P : Program) (t : TypeId) (kk : IntKind) => b_shlw (P := P) (t := t) (k := kk) (x := c) (n := 8 * (k % 4)) (by omega) (by omega)
      have hol := limbs_getD hlo (k / 4)
      have hor := fun (P : Program) (t : TypeId) => b_or32 (P := P) (t := t) (x := o.getD (k / 4) 0) (y := c * 2 ^ (8 * (k % 4))) hol (by omega)
      have hoe : o.getD (k / 4) 0 ||| c * 2 ^ (8 * (k % 4)) = o.getD (k / 4) 0 + c * 2 ^ (8 * (k % 4)) := by
        rw [hy]; exact or_add hc2
      have hsum : o.getD (k / 4) 0 + c * 2 ^ (8 * (k % 4)) < LB := by
        rw [← hoe]; exact Nat.or_lt_two_pow (n := 32) (by omega) (by omega)
      rw [hoe] at hor
      have hput := put_byte hlo hc hko (.inr trivial) (by
        rw [hy, Nat.mul_mod_left, Nat.zero_div])
      obtain ⟨Z, hZ⟩ : ∃ Z, Z = o.getD (k / 4) 0 + c * 2 ^ (8 * (k % 4)) := ⟨_, rfl⟩
      rw [← hZ] at hor hsum hput
      obtain ⟨Y, hY⟩ : ∃ Y, Y = c * 2 ^ (8 * (k % 4)) := ⟨_, rfl⟩
      rw [← hY] at hor hsh
      have hst := stms1 (ver := 0) (j := k / 4) (z := Z) (o := o) hko
      have hi1 := inext (k := i) (by omega)
      obtain ⟨o', t4', t5', t6', t19', h1, h2⟩ := ih (i + 1) (o.set (k / 4) Z) (.p (.int .i64 (i : Int))) (.p (.int .u8 (c : Int))) (.p (.int .i64 (k : Int))) (.p (.bool true)) (by omega) (by rw [List.length_set]; exact ho) (limbs_set hlo hsum) (by
        rw [hput, hv, hbt, Nat.pow_succ, Nat.add_mul, Nat.mul_comm (256 ^ k) 256, ← Nat.mul_assoc])
      refine ⟨o', t4', t5', t6', t19', ?_, h2⟩
      rw [← hI, WC_loop, hI]
      simp only [seqT, thn_normal, thn_ret, thn_exit, WC_region, WC_cond, WC_exit, WC_skip, WC_block, WC_ret, evRegion, Bool.false_eq_true, if_false, if_true, reduceIte, ops_n, ops_c, evStep, wantedA, evOp, opv, putA, ret1, ofVal, ofVal1, cellsOf, AV.isCell, clean, evFieldAddr, evField, evExtract, evBuild, evIndex, evBuiltin, evBuildSlice, evNilCheck, blkRead, mkAgg, mkTup, mapO, AV.pure?, setAt, afill, parts, calleeOf, tell, scalar, scalarL, norm, normL, ids, Go.Ev.mark, evResults, evResult, aggCells, partA, List.getElem?_cons_zero, List.getElem?_cons_succ, List.getElem?_nil, List.map_cons, List.map_nil, List.all_cons, List.all_nil, Bool.and_true, Bool.true_and, Bool.and_false, Bool.false_and, Bool.and_self, Bool.not_true, Bool.not_false, Bool.or_true, Bool.or_false, Bool.false_or, Bool.true_or, List.set, List.length_cons, List.length_nil, List.nil_append, List.cons_append, List.append_nil, Nat.reduceAdd, Nat.reduceSub, Nat.reduceMul, Nat.reduceLeDiff, Nat.zero_add, Nat.reduceEqDiff, List.replicate, List.drop, List.take, List.flatMap_cons, List.flatMap_nil, List.foldl_nil, List.foldl_cons, decide_true, decide_false, and_self, and_true, true_and, BEq.rfl, beq_self_eq_true, Option.map_some, Option.map_none, Option.bind_some, Option.bind_none, List.getElem?_toArray, Option.isSome_some, Option.isSome_none, beqs, ne_eq, not_true_eq_false, not_false_eq_true, false_or, or_false, or_self, Nat.reduceLT, false_and, and_false, List.nil_append, evEq, eqc, optO, b_add, b_sub, b_mul, b_eql, b_neq, b_lss, b_leq, b_gtr, b_geq, u_not, flags0, flags1, rs_P, len8, hlt, j1, j2, q4 (show k ≤ 100000000 by omega), r4, ixms hkL, Nat.zero_add, ldms1 hko, hix, hld, pu, pb, conv5, hwc, hmul, conv34, hw8, hsh, hor, hst, hi1]
      exact h1
  obtain ⟨o', t4', t5', t6', t19', k1, k2, k3, k4⟩ := inner d.length 0 (List.replicate L 0) (.p .und) (.p .und) (.p .und) (.p .und) (by omega) (by simp)
    (fun x hx => by rw [List.eq_of_mem_replicate hx]; decide) (by simp [val_zeros, bval])
  simp only [Int.natCast_zero, Int.cast_ofNat_Int] at k1
  have hval : val o' = bval d := k4
  rw [k1]
  have hpl := rs_plain o' (by omega)
  rw [trim_toL k3, hval] at hpl
  have hfz := frzG (H := [⟨0, false, lb o'⟩]) (id := 0) (ver := 0) (off := 0) (k := L) (fz := false) (o := o') rfl (by omega)
  rw [List.drop_zero, List.take_of_length_le (by omega)] at hfz
  have hids := ids_ms (H := [⟨0, false, lb o'⟩]) (id := 0) (ver := 0) (off := 0) (k := L) (fz := false) (o := o') rfl
  simp only [N32] at hpl
  rw [k2] at hpl
  generalize toL (bval d) = r at *
  obtain ⟨b, hb⟩ : ∃ b, scalar (.sl r.length false (r.map pu)) = b := ⟨_, rfl⟩
  cases b
  · simp only [seqT, thn_normal, thn_ret, thn_exit, WC_region, WC_cond, WC_exit, WC_skip, WC_block, WC_ret, evRegion, Bool.false_eq_true, if_false, if_true, reduceIte, ops_n, ops_c, evStep, wantedA, evOp, opv, putA, ret1, ofVal, ofVal1, cellsOf, AV.isCell, clean, evFieldAddr, evField, evExtract, evBuild, evIndex, evBuiltin, evBuildSlice, evNilCheck, blkRead, mkAgg, mkTup, mapO, AV.pure?, setAt, afill, parts, calleeOf, tell, norm, normL, ids, Go.Ev.mark, evResults, evResult, aggCells, partA, List.getElem?_cons_zero, List.getElem?_cons_succ, List.getElem?_nil, List.map_cons, List.map_nil, List.all_cons, List.all_nil, Bool.and_true, Bool.true_and, Bool.and_false, Bool.false_and, Bool.and_self, Bool.not_true, Bool.not_false, Bool.or_true, Bool.or_false, Bool.false_or, Bool.true_or, List.set, List.length_cons, List.length_nil, List.nil_append, List.cons_append, List.append_nil, Nat.reduceAdd, Nat.reduceSub, Nat.reduceMul, Nat.reduceLeDiff, Nat.zero_add, Nat.reduceEqDiff, List.replicate, List.drop, List.take, List.flatMap_cons, List.flatMap_nil, List.foldl_nil, List.foldl_cons, decide_true, decide_false, and_self, and_true, true_and, BEq.rfl, beq_self_eq_true, Option.map_some, Option.map_none, Option.bind_some, Option.bind_none, List.getElem?_toArray, Option.isSome_some, Option.isSome_none, beqs, ne_eq, not_true_eq_false, not_false_eq_true, false_or, or_false, or_self, Nat.reduceLT, false_and, and_false, List.nil_append, evEq, eqc, optO, b_add, b_sub, b_mul, b_eql, b_neq, b_lss, b_leq, b_gtr, b_geq, u_not, flags0, flags1, rs_P, evCall_tab (show ∀ f xs, rsC.O f xs = none from fun _ _ => rfl), show rsC.md 40 = 0 from rfl, normN, frz_p, hfz, hids, hb, hpl, mod01, show Try.f23.results = #[.tmp 2] from rfl]
  · simp only [seqT, thn_normal, thn_ret, thn_exit, WC_region, WC_cond, WC_exit, WC_skip, WC_block, WC_ret, evRegion, Bool.false_eq_true, if_false, if_true, reduceIte, ops_n, ops_c, evStep, wantedA, evOp, opv, putA, ret1, ofVal, ofVal1, cellsOf, AV.isCell, clean, evFieldAddr, evField, evExtract, evBuild, evIndex, evBuiltin, evBuildSlice, evNilCheck, blkRead, mkAgg, mkTup, mapO, AV.pure?, setAt, afill, parts, calleeOf, tell, norm, normL, ids, Go.Ev.mark, evResults, evResult, aggCells, partA, List.getElem?_cons_zero, List.getElem?_cons_succ, List.getElem?_nil, List.map_cons, List.map_nil, List.all_cons, List.all_nil, Bool.and_true, Bool.true_and, Bool.and_false, Bool.false_and, Bool.and_self, Bool.not_true, Bool.not_false, Bool.or_true, Bool.or_false, Bool.false_or, Bool.true_or, List.set, List.length_cons, List.length_nil, List.nil_append, List.cons_append, List.append_nil, Nat.reduceAdd, Nat.reduceSub, Nat.reduceMul, Nat.reduceLeDiff, Nat.zero_add, Nat.reduceEqDiff, List.replicate, List.drop, List.take, List.flatMap_cons, List.flatMap_nil, List.foldl_nil, List.foldl_cons, decide_true, decide_false, and_self, and_true, true_and, BEq.rfl, beq_self_eq_true, Option.map_some, Option.map_none, Option.bind_some, Option.bind_none, List.getElem?_toArray, Option.isSome_some, Option.isSome_none, beqs, ne_eq, not_true_eq_false, not_false_eq_true, false_or, or_false, or_self, Nat.reduceLT, false_and, and_false, List.nil_append, evEq, eqc, optO, b_add, b_sub, b_mul, b_eql, b_neq, b_lss, b_leq, b_gtr, b_geq, u_not, flags0, flags1, rs_P, evCall_tab (show ∀ f xs, rsC.O f xs = none from fun _ _ => rfl), show rsC.md 40 = 0 from rfl, normN, frz_p, hfz, hids, hb, hpl, mod01, show Try.f23.results = #[.tmp 2] from rfl]
end Go.Proofs
set_option linter.unusedSimpArgs false
set_option linter.unusedVariables false
namespace Go.Proofs
open Go.Ev Go.Mx
theorem lenm8 {id ver off n sz : Nat} : evLen rsC #[22] (.ms id ver off n sz) = some (.int .i64 (n : Int)) := by
  simp only [evLen, show rsC.P = Try.prog from rfl, List.getElem?_toArray, List.getElem?_cons_zero, Try.underlying22]
theorem rs_lv22 : rsC.lv 22 = [true, false, true, false, false, true, false, false, false, false, false, false, false, false, false, false, false, false] := by kernel_rfl
set_option maxRecDepth 100000 in
set_option maxHeartbeats 4000000 in
theorem rs_nbits (a : List Nat) (ha : Canon a) (hal : a.length ≤ 100000) : WP rsC 22 [N32 a] = some (.int .i64 ((bl (val a) : Nat) : Int)) := by
  rw [← rs_bits a ha hal, rs_bits_raw a ha.limbs hal]
  by_cases h0 : a.length = 0
  · have he : ((a.length : Int) == 0) = true := by rw [h0]; rfl
    rw [if_pos h0]
    rw [WP_eq (show rsC.md 22 < 9 by decide) Try.func22 rfl]
    rw [show Try.f22.ntmps = 18 from rfl, rs_lv22]
    simp only [N32, List.map_cons, List.map_nil, List.length_cons, List.length_nil, Nat.reduceAdd, Nat.reduceSub, List.replicate, List.cons_append, List.nil_append]
    simp only [seqT, thn_normal, thn_ret, thn_exit, WC_region, WC_cond, WC_exit, WC_skip, WC_block, WC_ret, evRegion, Bool.false_eq_true, if_false, if_true, reduceIte, ops_n, ops_c, evStep, wantedA, evOp, opv, putA, ret1, ofVal, ofVal1, cellsOf, AV.isCell, clean, evFieldAddr, evField, evExtract, evBuild, evIndex, evBuiltin, evBuildSlice, evNilCheck, blkRead, mkAgg, mkTup, mapO, AV.pure?, setAt, afill, parts, calleeOf, tell, scalar, scalarL, norm, normL, ids, Go.Ev.mark, evResults, evResult, aggCells, partA, List.getElem?_cons_zero, List.getElem?_cons_succ, List.getElem?_nil, List.map_cons, List.map_nil, List.all_cons, List.all_nil, Bool.and_true, Bool.true_and, Bool.and_false, Bool.false_and, Bool.and_self, Bool.not_true, Bool.not_false, Bool.or_true, Bool.or_false, Bool.false_or, Bool.true_or, List.set, List.length_cons, List.length_nil, List.nil_append, List.cons_append, List.append_nil, Nat.reduceAdd, Nat.reduceSub, Nat.reduceMul, Nat.reduceLeDiff, Nat.zero_add, Nat.reduceEqDiff, List.replicate, List.drop, List.take, List.flatMap_cons, List.flatMap_nil, List.foldl_nil, List.foldl_cons, decide_true, decide_false, and_self, and_true, true_and, BEq.rfl, beq_self_eq_true, Option.map_some, Option.map_none, Option.bind_some, Option.bind_none, List.getElem?_toArray, Option.isSome_some, Option.isSome_none, beqs, ne_eq, not_true_eq_false, not_false_eq_true, false_or, or_false, or_self, Nat.reduceLT, false_and, and_false, List.nil_append, evEq, eqc, optO, b_add, b_sub, b_mul, b_eql, b_neq, b_lss, b_leq, b_gtr, b_geq, u_not, flags0, flags1, rs_P, len32 rs_P, he, frz_p, show Try.f22.results = #[.tmp 2] from rfl]
    rfl
  · have he : ((a.length : Int) == 0) = false := beq_eq_false_iff_ne.2 (by omega)
    rw [if_neg h0]
    have j1 : IntKind.i64.wrap ((a.length : Int) - 1) = ((a.length - 1 : Nat) : Int) := by rw [wrap_i64 (by omega) (by omega)]; omega
    have j2 : IntKind.i64.wrap (32 * ((a.length - 1 : Nat) : Int)) = ((32 * (a.length - 1) : Nat) : Int) := by rw [wrap_i64 (by omega) (by omega)]; omega
    have hx := limbs_getD ha.limbs (a.length - 1)
    have hix := ix32 (l := a) (x := false) (i := a.length - 1) (by omega)
    have hld := fun H => ld32 (l := a) (i := a.length - 1) (H := H) (by omega)
    generalize a.getD (a.length - 1) 0 = x at *
    have hb := rs_len32 x hx
    have hb32 : bl x ≤ 32 := bl_le hx
    generalize bl x = y at *
    have j3 : IntKind.i64.wrap (((32 * (a.length - 1) : Nat) : Int) + (y : Int)) = ((32 * (a.length - 1) + y : Nat) : Int) := by rw [wrap_i64 (by omega) (by omega)]; omega
    rw [WP_eq (show rsC.md 22 < 9 by decide) Try.func22 rfl]
    rw [show Try.f22.ntmps = 18 from rfl, rs_lv22]
    simp only [N32, List.map_cons, List.map_nil, List.length_cons, List.length_nil, Nat.reduceAdd, Nat.reduceSub, List.replicate, List.cons_append, List.nil_append]
    simp only [seqT, thn_normal, thn_ret, thn_exit, WC_region, WC_cond, WC_exit, WC_skip, WC_block, WC_ret, evRegion, Bool.false_eq_true, if_false, if_true, reduceIte, ops_n, ops_c, evStep, wantedA, evOp, opv, putA, ret1, ofVal, ofVal1, cellsOf, AV.isCell, clean, evFieldAddr, evField, evExtract, evBuild, evIndex, evBuiltin, evBuildSlice, evNilCheck, blkRead, mkAgg, mkTup, mapO, AV.pure?, setAt, afill, parts, calleeOf, tell, scalar, scalarL, norm, normL, ids, Go.Ev.mark, evResults, evResult, aggCells, partA, List.getElem?_cons_zero, List.getElem?_cons_succ, List.getElem?_nil, List.map_cons, List.map_nil, List.all_cons, List.all_nil, Bool.and_true, Bool.true_and, Bool.and_false, Bool.false_and, Bool.and_self, Bool.not_true, Bool.not_false, Bool.or_true, Bool.or_false, Bool.false_or, Bool.true_or, List.set, List.length_cons, List.length_nil, List.nil_append, List.cons_append, List.append_nil, Nat.reduceAdd, Nat.reduceSub, Nat.reduceMul, Nat.reduceLeDiff, Nat.zero_add, Nat.reduceEqDiff, List.replicate, List.drop, List.take, List.flatMap_cons, List.flatMap_nil, List.foldl_nil, List.foldl_cons, decide_true, decide_false, and_self, and_true, true_and, BEq.rfl, beq_self_eq_true, Option.map_some, Option.map_none, Option.bind_some, Option.bind_none, List.getElem?_toArray, Option.isSome_some, Option.isSome_none, beqs, ne_eq, not_true_eq_false, not_false_eq_true, false_or, or_false, or_self, Nat.reduceLT, false_and, and_false, List.nil_append, evEq, eqc, optO, b_add, b_sub, b_mul, b_eql, b_neq, b_lss, b_leq, b_gtr, b_geq, u_not, flags0, flags1, rs_P, evCall_tab (show ∀ f xs, rsC.O f xs = none from fun _ _ => rfl), normN, frz_p, ids_p, foldN, ite_self, len32 rs_P, he, j1, j2, hix, hld, pu, hb, j3, show rsC.md 39 = 0 from rfl, show Try.f22.results = #[.tmp 2] from rfl]
theorem rs_lv27 : rsC.lv 27 = [true, true, false, false, true, true, true, true, true, false, false, false, false, false, false, false, false, false, false, false, false, true, false, false, false, true, true, true, false, false, false, false, false, false, false, false, false, true, false, false, false, false, false, false, false, false, false, false, false, false, false, false, false] := by kernel_rfl
theorem byte_next (V m : Nat) : V / 256 ^ (m + 1) * 256 ^ (m + 1) + V / 256 ^ m % 256 * 256 ^ m = V / 256 ^ m * 256 ^ m := by
  rw [Nat.pow_succ, ← Nat.div_div_eq_div_mul, Nat.mul_comm (256 ^ m) 256, ← Nat.mul_assoc, ← Nat.add_mul, Nat.mul_comm (_ / 256) 256, Nat.div_add_mod]
set_option maxRecDepth 100000 in
set_option maxHeartbeats 4000000 in
theorem rs_nbytes (a : List Nat) (ha : Canon a) (hal : a.length ≤ 90000) (n : Nat) (hn : n ≤ 2048) (hlt : val a < 256 ^ n) : ∃ o : List Nat, WP rsC 27 [N32 a, .int .i64 (n : Int)] = some (.tup [B8 o, .bool true]) ∧ o.length = n ∧ Bytes o ∧ bval o = val a := by
  have hbits := rs_nbits a ha (by omega)
  simp only [N32] at hbits
  have h256 : (256 : Nat) ^ n = 2 ^ (8 * n) := by rw [Nat.pow_mul]
  have hbl : bl (val a) ≤ 8 * n := bl_le (by rw [← h256]; exact hlt)
  have g1 : decide ((n : Int) < 0) = false := decide_eq_false (by omega)
  have g2 : decide ((n : Int) > 2048) = false := decide_eq_false (by omega)
  have hm8 : IntKind.i64.wrap ((n : Int) * 8) = ((8 * n : Nat) : Int) := by rw [wrap_i64 (by omega) (by omega)]; omega
  have g3 : decide (((bl (val a) : Nat) : Int) > ((8 * n : Nat) : Int)) = false := decide_eq_false (by omega)
  have hmk := fun H => mk8 (n := n) (by omega) (H := H)
  generalize bl (val a) = b1 at *
  rw [WP_eq (show rsC.md 27 < 9 by decide) Try.func27 rfl]
  rw [show Try.f27.ntmps = 53 from rfl, rs_lv27]
  simp only [N32, List.map_cons, List.map_nil, List.length_cons, List.length_nil, Nat.reduceAdd, Nat.reduceSub, List.replicate, List.cons_append, List.nil_append]
  simp only [seqT, thn_normal, thn_ret, thn_exit, WC_region, WC_cond, WC_exit, WC_skip, WC_block, WC_ret, evRegion, Bool.false_eq_true, if_false, if_true, reduceIte, ops_n, ops_c, evStep, wantedA, evOp, opv, putA, ret1, ofVal, ofVal1, cellsOf, AV.isCell, clean, evFieldAddr, evField, evExtract, evBuild, evIndex, evBuiltin, evBuildSlice, evNilCheck, blkRead, mkAgg, mkTup, mapO, AV.pure?, setAt, afill, parts, calleeOf, tell, scalar, scalarL, norm, normL, ids, Go.Ev.mark, evResults, evResult, aggCells, partA, List.getElem?_cons_zero, List.getElem?_cons_succ, List.getElem?_nil, List.map_cons, List.map_nil, List.all_cons, List.all_nil, Bool.and_true, Bool.true_and, Bool.and_false, Bool.false_and, Bool.and_self, Bool.not_true, Bool.not_false, Bool.or_true, Bool.or_false, Bool.false_or, Bool.true_or, List.set, List.length_cons, List.length_nil, List.nil_append, List.cons_append, List.append_nil, Nat.reduceAdd, Nat.reduceSub, Nat.reduceMul, Nat.reduceLeDiff, Nat.zero_add, Nat.reduceEqDiff, List.replicate, List.drop, List.take, List.flatMap_cons, List.flatMap_nil, List.foldl_nil, List.foldl_cons, decide_true, decide_false, and_self, and_true, true_and, BEq.rfl, beq_self_eq_true, Option.map_some, Option.map_none, Option.bind_some, Option.bind_none, List.getElem?_toArray, Option.isSome_some, Option.isSome_none, beqs, ne_eq, not_true_eq_false, not_false_eq_true, false_or, or_false, or_self, Nat.reduceLT, false_and, and_false, List.nil_append, evEq, eqc, optO, b_add, b_sub, b_mul, b_eql, b_neq, b_lss, b_leq, b_gtr, b_geq, u_not, flags0, flags1, rs_P, evCall_tab (show ∀ f xs, rsC.O f xs = none from fun _ _ => rfl), normN, frz_p, ids_p, foldN, ite_self, hbits, g1, g2, hm8, g3, hmk, lenm8, show rsC.md 22 = 0 from rfl]
  generalize hI : (Code.loop _ : Code) = I
  have inner : ∀ (m i : Nat) (o : List Nat) (t7 t8 t27 t37 : AV), i + m = n → o.length = n → Bytes o → bval o = val a / 256 ^ m * 256 ^ m → (∀ j, i ≤ j → o.getD j 0 = 0) → ∃ (o' : List Nat) (t7' t8' t27' t37' : AV),
      WC rsC [true, true, false, false, true, true, true, true, true, false, false, false, false, false, false, false, false, false, false, false, false, true, false, false, false, true, true, true, false, false, false, false, false, false, false, false, false, true, false, false, false, false, false, false, false, false, false, false, false, false, false, false, false] I ⟨[.p (.sl a.length false (a.map pu)), .p (.int .i64 (n : Int)), .p .any, .p .any, .p (.nsl true), .p (.bool false), .ms 0 0 0 n 1, t7, t8, .p .any, .p .any, .p .any, .p .any, .p .any, .p .any, .p .any, .p .any, .p .any, .p .any, .p .any, .p .any, .p (.bool false), .p .any, .p .any, .p .any, .p (.int .i64 (n : Int)), .p (.int .i64 (i : Int)), t27, .p .any, .p .any, .p .any, .p .any, .p .any, .p .any, .p .any, .p .any, .p .any, t37, .p .any, .p .any, .p .any, .p .any, .p .any, .p .any, .p .any, .p .any, .p .any, .p .any, .p .any, .p .any, .p .any, .p .any, .p .any], [⟨0, false, lb8 o⟩]⟩ = some (.exit 0, ⟨[.p (.sl a.length false (a.map pu)), .p (.int .i64 (n : Int)), .p .any, .p .any, .p (.nsl true), .p (.bool false), .ms 0 0 0 n 1, t7', t8', .p .any, .p .any, .p .any, .p .any, .p .any, .p .any, .p .any, .p .any, .p .any, .p .any, .p .any, .p .any, .p (.bool false), .p .any, .p .any, .p .any, .p (.int .i64 (n : Int)), .p (.int .i64 (n : Int)), t27', .p .any, .p .any, .p .any, .p .any, .p .any, .p .any, .p .any, .p .any, .p .any, t37', .p .any, .p .any, .p .any, .p .any, .p .any, .p .any, .p .any, .p .any, .p .any, .p .any, .p .any, .p .any, .p .any, .p .any, .p .any], [⟨0, false, lb8 o'⟩]⟩) ∧ o'.length = n ∧ Bytes o' ∧ bval o' = val a := by
    intro m
    induction m with
    | zero =>
      intro i o t7 t8 t27 t37 hk ho hlo hv hz
      obtain rfl : i = n := by omega
      have hl : decide ((i : Int) < (i : Int)) = false := by simp
      refine ⟨o, t7, t8, .p (.bool false), t37, ?_, ho, hlo, by rw [hv]; simp⟩
      rw [← hI, WC_loop, hI]
      simp only [seqT, thn_normal, thn_ret, thn_exit, WC_region, WC_cond, WC_exit, WC_skip, WC_block, WC_ret, evRegion, Bool.false_eq_true, if_false, if_true, reduceIte, ops_n, ops_c, evStep, wantedA, evOp, opv, putA, ret1, ofVal, ofVal1, cellsOf, AV.isCell, clean, evFieldAddr, evField, evExtract, evBuild, evIndex, evBuiltin, evBuildSlice, evNilCheck, blkRead, mkAgg, mkTup, mapO, AV.pure?, setAt, afill, parts, calleeOf, tell, scalar, scalarL, norm, normL, ids, Go.Ev.mark, evResults, evResult, aggCells, partA, List.getElem?_cons_zero, List.getElem?_cons_succ, List.getElem?_nil, List.map_cons, List.map_nil, List.all_cons, List.all_nil, Bool.and_true, Bool.true_and, Bool.and_false, Bool.false_and, Bool.and_self, Bool.not_true, Bool.not_false, Bool.or_true, Bool.or_false, Bool.false_or, Bool.true_or, List.set, List.length_cons, List.length_nil, List.nil_append, List.cons_append, List.append_nil, Nat.reduceAdd, Nat.reduceSub, Nat.reduceMul, Nat.reduceLeDiff, Nat.zero_add, Nat.reduceEqDiff, List.replicate, List.drop, List.take, List.flatMap_cons, List.flatMap_nil, List.foldl_nil, List.foldl_cons, decide_true, decide_false, and_self, and_true, true_and, BEq.rfl, beq_self_eq_true, Option.map_some, Option.map_none, Option.bind_some, Option.bind_none, List.getElem?_toArray, Option.isSome_some, Option.isSome_none, beqs, ne_eq, not_true_eq_false, not_false_eq_true, false_or, or_false, or_self, Nat.reduceLT, false_and, and_false, List.nil_append, evEq, eqc, optO, b_add, b_sub, b_mul, b_eql, b_neq, b_lss, b_leq, b_gtr, b_geq, u_not, flags0, flags1, rs_P, len32 rs_P, hl]
    | succ k ih =>
      intro i o t7 t8 t27 t37 hk ho hlo hv hz
      have hin : i < n := by omega
      have hl := ilt_t hin
      have hq := q4 (P := Try.prog) (t := 3) (i := k) (by omega)
      have j1 : IntKind.i64.wrap ((n : Int) - 1) = ((n - 1 : Nat) : Int) := by rw [wrap_i64 (by omega) (by omega)]; omega
      have j2 : IntKind.i64.wrap (((n - 1 : Nat) : Int) - (i : Int)) = (k : Int) := by rw [wrap_i64 (by omega) (by omega)]; omega
      have hi1 := inext (k := i) (by omega)
      have hbn := byte_next (val a) k
      by_cases hka : k / 4 < a.length
      · have hl2 := ilt_t hka
        have hix := ix32 (x := false) hka
        have hld := ld32 (H := [⟨0, false, lb8 o⟩]) hka
        have hba := byte_at ha.limbs hka
        generalize a.getD (k / 4) 0 = d at *
        have hj : k % 4 < 4 := Nat.mod_lt _ (by decide)
        have hmul : IntKind.i64.wrap (((k % 4 : Nat) : Int) * 8) = ((8 * (k % 4) : Nat) : Int) := by rw [wrap_i64 (by omega) (by omega)]; omega
        have hwb : ∀ x : Nat, IntKind.u8.wrap (x : Int) = ((x % 256 : Nat) : Int) := fun x => by
          unfold IntKind.wrap
          simp only [IntKind.bits, IntKind.signed, Bool.false_and]
          rfl
        have hjo : i < o.length := by omega
        obtain ⟨Y, hY⟩ : ∃ Y, Y = d / 2 ^ (8 * (k % 4)) := ⟨_, rfl⟩
        have hsr := fun (P : Program) (t : TypeId) (kk : IntKind) => s_u32 (P := P) (t := t) (k := kk) (x := d) (n := 8 * (k % 4)) (by omega)
        rw [← hY] at hsr hba
        have hwY := hwb Y
        have hst := st8 (H := [⟨0, false, lb8 o⟩]) (id := 0) (ver := 0) (j := i) (z := Y % 256) (o := o) rfl hjo
        have hvs := bval_set o i (Y % 256) hjo
        rw [hz i (Nat.le_refl _), Nat.zero_mul, Nat.add_zero, ho, show n - 1 - i = k by omega] at hvs
        obtain ⟨o', t7', t8', t27', t37', h1, h2⟩ := ih (i + 1) (o.set i (Y % 256)) (.p (.int .i64 (i : Int))) (.p (.int .i64 (k : Int))) (.p (.bool true)) (.p (.bool true)) (by omega) (by rw [List.length_set]; exact ho) (fun x hx => by
            rcases List.mem_or_eq_of_mem_set hx with h | h
            · exact hlo x h
            · rw [h]; exact Nat.mod_lt _ (by decide)) (by
          rw [hvs, hv, hba, hbn]) (fun j hj => by rw [getD_set_ne (by omega), hz _ (by omega)])
        refine ⟨o', t7', t8', t27', t37', ?_, h2⟩
        rw [← hI, WC_loop, hI]
        simp only [seqT, thn_normal, thn_ret, thn_exit, WC_region, WC_cond, WC_exit, WC_skip, WC_block, WC_ret, evRegion, Bool.false_eq_true, if_false, if_true, reduceIte, ops_n, ops_c, evStep, wantedA, evOp, opv, putA, ret1, ofVal, ofVal1, cellsOf, AV.isCell, clean, evFieldAddr, evField, evExtract, evBuild, evIndex, evBuiltin, evBuildSlice, evNilCheck, blkRead, mkAgg, mkTup, mapO, AV.pure?, setAt, afill, parts, calleeOf, tell, scalar, scalarL, norm, normL, ids, Go.Ev.mark, evResults, evResult, aggCells, partA, List.getElem?_cons_zero, List.getElem?_cons_succ, List.getElem?_nil, List.map_cons, List.map_nil, List.all_cons, List.all_nil, Bool.and_true, Bool.true_and, Bool.and_false, Bool.false_and, Bool.and_self, Bool.not_true, Bool.not_false, Bool.or_true, Bool.or_false, Bool.false_or, Bool.true_or, List.set, List.length_cons, List.length_nil, List.nil_append, List.cons_append, List.append_nil, Nat.reduceAdd, Nat.reduceSub, Nat.reduceMul, Nat.reduceLeDiff, Nat.zero_add, Nat.reduceEqDiff, List.replicate, List.drop, List.take, List.flatMap_cons, List.flatMap_nil, List.foldl_nil, List.foldl_cons, decide_true, decide_false, and_self, and_true, true_and, BEq.rfl, beq_self_eq_true, Option.map_some, Option.map_none, Option.bind_some, Option.bind_none, List.getElem?_toArray, Option.isSome_some, Option.isSome_none, beqs, ne_eq, not_true_eq_false, not_false_eq_true, false_or, or_false, or_self, Nat.reduceLT, false_and, and_false, List.nil_append, evEq, eqc, optO, b_add, b_sub, b_mul, b_eql, b_neq, b_lss, b_leq, b_gtr, b_geq, u_not, flags0, flags1, rs_P, len32 rs_P, hl, hl2, hq, j1, j2, ixm8 hin, Nat.zero_add, hix, hld, pu, r4, hmul, conv34, hsr, conv5, hwY, hst, hi1]
        exact h1
      · have hl2 := ilt_f hka
        have hval : val a < 256 ^ k := by
          have h1 := val_lt ha.limbs
          have h2 : LB ^ a.length ≤ 256 ^ k := by
            rw [show LB = 256 ^ 4 from rfl, ← Nat.pow_mul]
            exact Nat.pow_le_pow_right (by decide) (by omega)
          omega
        obtain ⟨o', t7', t8', t27', t37', h1, h2⟩ := ih (i + 1) o (.p (.int .i64 (i : Int))) (.p (.int .i64 (k : Int))) (.p (.bool true)) (.p (.bool false)) (by omega) ho hlo (by
          rw [hv, ← hbn, Nat.div_eq_of_lt hval]; simp) (fun j hj => hz j (by omega))
        refine ⟨o', t7', t8', t27', t37', ?_, h2⟩
        rw [← hI, WC_loop, hI]
        simp only [seqT, thn_normal, thn_ret, thn_exit, WC_region, WC_cond, WC_exit, WC_skip, WC_block, WC_ret, evRegion, Bool.false_eq_true, if_false, if_true, reduceIte, ops_n, ops_c, evStep, wantedA, evOp, opv, putA, ret1, ofVal, ofVal1, cellsOf, AV.isCell, clean, evFieldAddr, evField, evExtract, evBuild, evIndex, evBuiltin, evBuildSlice, evNilCheck, blkRead, mkAgg, mkTup, mapO, AV.pure?, setAt, afill, parts, calleeOf, tell, scalar, scalarL, norm, normL, ids, Go.Ev.mark, evResults, evResult, aggCells, partA, List.getElem?_cons_zero, List.getElem?_cons_succ, List.getElem?_nil, List.map_cons, List.map_nil, List.all_cons, List.all_nil, Bool.and_true, Bool.true_and, Bool.and_false, Bool.false_and, Bool.and_self, Bool.not_true, Bool.not_false, Bool.or_true, Bool.or_false, Bool.false_or, Bool.true_or, List.set, List.length_cons, List.length_nil, List.nil_append, List.cons_append, List.append_nil, Nat.reduceAdd, Nat.reduceSub, Nat.reduceMul, Nat.reduceLeDiff, Nat.zero_add, Nat.reduceEqDiff, List.replicate, List.drop, List.take, List.flatMap_cons, List.flatMap_nil, List.foldl_nil, List.foldl_cons, decide_true, decide_false, and_self, and_true, true_and, BEq.rfl, beq_self_eq_true, Option.map_some, Option.map_none, Option.bind_some, Option.bind_none, List.getElem?_toArray, Option.isSome_some, Option.isSome_none, beqs, ne_eq, not_true_eq_false, not_false_eq_true, false_or, or_false, or_self, Nat.reduceLT, false_and, and_false, List.nil_append, evEq, eqc, optO, b_add, b_sub, b_mul, b_eql, b_neq, b_lss, b_leq, b_gtr, b_geq, u_not, flags0, flags1, rs_P, len32 rs_P, hl, hl2, hq, j1, j2, hi1]
        exact h1
  obtain ⟨o', t7', t8', t27', t37', k1, k2, k3, k4⟩ := inner n 0 (List.replicate n 0) (.p .und) (.p .und) (.p .und) (.p .und) (by omega) (by simp)
    (fun x hx => by rw [List.eq_of_mem_replicate hx]; decide) (by rw [bval_zeros, Nat.div_eq_of_lt hlt, Nat.zero_mul]) (fun j _ => by simp [List.getD_eq_getElem?_getD, List.getElem?_replicate]; split <;> rfl)
  simp only [Int.natCast_zero, Int.cast_ofNat_Int] at k1
  rw [k1]
  refine ⟨o', ?_, k2, k3, k4⟩
  have hft : frz false [⟨0, false, lb8 o'⟩] deep (.tup [.ms 0 0 0 n 1, .p (.bool true)]) = some (.tup [.sl n false (o'.map pb), .bool true]) := by
    have h := frz8 (H := [⟨0, false, lb8 o'⟩]) (d := 4) (id := 0) (ver := 0) (off := 0) (k := n) (fz := false) (o := o') rfl (by omega)
    rw [List.drop_zero, List.take_of_length_le (by omega)] at h
    show (match mapO (frz false [⟨0, false, lb8 o'⟩] 5) [.ms 0 0 0 n 1, .p (.bool true)] with
      | some xs => some (PV.tup xs)
      | none => none) = _
    simp only [mapO, h, frz_p]
    rfl
  rw [B8, k2]
  simp only [seqT, thn_normal, thn_ret, thn_exit, WC_region, WC_cond, WC_exit, WC_skip, WC_block, WC_ret, evRegion, Bool.false_eq_true, if_false, if_true, reduceIte, ops_n, ops_c, evStep, wantedA, evOp, opv, putA, ret1, ofVal, ofVal1, cellsOf, AV.isCell, clean, evFieldAddr, evField, evExtract, evBuild, evIndex, evBuiltin, evBuildSlice, evNilCheck, blkRead, mkAgg, mkTup, mapO, AV.pure?, setAt, afill, parts, calleeOf, tell, scalar, scalarL, norm, normL, ids, Go.Ev.mark, evResults, evResult, aggCells, partA, List.getElem?_cons_zero, List.getElem?_cons_succ, List.getElem?_nil, List.map_cons, List.map_nil, List.all_cons, List.all_nil, Bool.and_true, Bool.true_and, Bool.and_false, Bool.false_and, Bool.and_self, Bool.not_true, Bool.not_false, Bool.or_true, Bool.or_false, Bool.false_or, Bool.true_or, List.set, List.length_cons, List.length_nil, List.nil_append, List.cons_append, List.append_nil, Nat.reduceAdd, Nat.reduceSub, Nat.reduceMul, Nat.reduceLeDiff, Nat.zero_add, Nat.reduceEqDiff, List.replicate, List.drop, List.take, List.flatMap_cons, List.flatMap_nil, List.foldl_nil, List.foldl_cons, decide_true, decide_false, and_self, and_true, true_and, BEq.rfl, beq_self_eq_true, Option.map_some, Option.map_none, Option.bind_some, Option.bind_none, List.getElem?_toArray, Option.isSome_some, Option.isSome_none, beqs, ne_eq, not_true_eq_false, not_false_eq_true, false_or, or_false, or_self, Nat.reduceLT, false_and, and_false, List.nil_append, evEq, eqc, optO, b_add, b_sub, b_mul, b_eql, b_neq, b_lss, b_leq, b_gtr, b_geq, u_not, flags0, flags1, rs_P, hft, show Try.f27.results = #[.tmp 4, .tmp 5] from rfl]
end Go.Proofs
set_option linter.unusedSimpArgs false
set_option linter.unusedVariables false
namespace Go.Proofs
open Go.Ev Go.Mx
theorem rs_lv24 : rsC.lv 24 = [true, true, false, false, true, true, false, false, false, false, true, false, false, false, false, false, false, false, false, false, true, false, false, false, false, false, false, false, false, false, false, true, false, false, false, false, false, false, false, false, false] := by kernel_rfl
set_option maxRecDepth 100000 in
set_option maxHeartbeats 4000000 in
theorem rs_ncmp (a b : List Nat) (ha : Limbs a) (hb : Limbs b) (hla : a.length ≤ 100000) (hlb : b.length ≤ 100000) : WP rsC 24 [N32 a, N32 b] = some (.int .i64 (if a.length = b.length then cmpN (val a) (val b) else if a.length < b.length then -1 else 1)) := by
  by_cases hl : a.length = b.length
  · rw [if_pos hl]
    have hne := ine_f hl
    have hpm : IntKind.i64.wrap ((a.length : Int) - 1) = pm a.length := by rw [wrap_i64 (by omega) (by omega)]; rfl
    rw [WP_eq (show rsC.md 24 < 9 by decide) Try.func24 rfl]
    rw [show Try.f24.ntmps = 41 from rfl, rs_lv24]
    simp only [N32, List.map_cons, List.map_nil, List.length_cons, List.length_nil, Nat.reduceAdd, Nat.reduceSub, List.replicate, List.cons_append, List.nil_append]
    simp only [seqT, thn_normal, thn_ret, thn_exit, WC_region, WC_cond, WC_exit, WC_skip, WC_block, WC_ret, evRegion, Bool.false_eq_true, if_false, if_true, reduceIte, ops_n, ops_c, evStep, wantedA, evOp, opv, putA, ret1, ofVal, ofVal1, cellsOf, AV.isCell, clean, evFieldAddr, evField, evExtract, evBuild, evIndex, evBuiltin, evBuildSlice, evNilCheck, blkRead, mkAgg, mkTup, mapO, AV.pure?, setAt, afill, parts, calleeOf, tell, scalar, scalarL, frz, norm, normL, ids, Go.Ev.mark, deep, evResults, evResult, aggCells, partA, List.getElem?_cons_zero, List.getElem?_cons_succ, List.getElem?_nil, List.map_cons, List.map_nil, List.all_cons, List.all_nil, Bool.and_true, Bool.true_and, Bool.and_false, Bool.false_and, Bool.and_self, Bool.not_true, Bool.not_false, Bool.or_true, Bool.or_false, Bool.false_or, Bool.true_or, List.set, List.length_cons, List.length_nil, List.nil_append, List.cons_append, List.append_nil, Nat.reduceAdd, Nat.reduceSub, Nat.reduceMul, Nat.reduceLeDiff, Nat.zero_add, Nat.reduceEqDiff, List.replicate, List.drop, List.take, List.flatMap_cons, List.flatMap_nil, List.foldl_nil, List.foldl_cons, decide_true, decide_false, and_self, and_true, true_and, BEq.rfl, beq_self_eq_true, Option.map_some, Option.map_none, Option.bind_some, Option.bind_none, List.getElem?_toArray, Option.isSome_some, Option.isSome_none, beqs, ne_eq, not_true_eq_false, not_false_eq_true, false_or, or_false, or_self, Nat.reduceLT, false_and, and_false, List.nil_append, evEq, eqc, optO, b_add, b_sub, b_mul, b_eql, b_neq, b_lss, b_leq, b_gtr, b_geq, u_not, flags0, flags1, rs_P, len32 rs_P, hne, hpm]
    generalize hI : (Code.loop _ : Code) = I
    have inner : ∀ (m : Nat) (t20 t31 : AV), m ≤ a.length → a.drop m = b.drop m → ∃ (t20' t31' : AV),
        (val (a.take m) = val (b.take m) ∧ WC rsC [true, true, false, false, true, true, false, false, false, false, true, false, false, false, false, false, false, false, false, false, true, false, false, false, false, false, false, false, false, false, false, true, false, false, false, false, false, false, false, false, false] I ⟨[.p (.sl a.length false (a.map pu)), .p (.sl b.length false (b.map pu)), .p .any, .p .any, .p (.int .i64 0), .p (.int .i64 (pm m)), .p .any, .p .any, .p .any, .p .any, .p (.bool false), .p .any, .p .any, .p .any, .p .any, .p .any, .p .any, .p .any, .p .any, .p .any, t20, .p .any, .p .any, .p .any, .p .any, .p .any, .p .any, .p .any, .p .any, .p .any, .p .any, t31, .p .any, .p .any, .p .any, .p .any, .p .any, .p .any, .p .any, .p .any, .p .any], []⟩ = some (.exit 0, ⟨[.p (.sl a.length false (a.map pu)), .p (.sl b.length false (b.map pu)), .p .any, .p .any, .p (.int .i64 0), .p (.int .i64 (-1)), .p .any, .p .any, .p .any, .p .any, .p (.bool false), .p .any, .p .any, .p .any, .p .any, .p .any, .p .any, .p .any, .p .any, .p .any, t20', .p .any, .p .any, .p .any, .p .any, .p .any, .p .any, .p .any, .p .any, .p .any, .p .any, t31', .p .any, .p .any, .p .any, .p .any, .p .any, .p .any, .p .any, .p .any, .p .any], []⟩)) ∨
        (∃ (z k : Int), z = cmpN (val a) (val b) ∧ WC rsC [true, true, false, false, true, true, false, false, false, false, true, false, false, false, false, false, false, false, false, false, true, false, false, false, false, false, false, false, false, false, false, true, false, false, false, false, false, false, false, false, false] I ⟨[.p (.sl a.length false (a.map pu)), .p (.sl b.length false (b.map pu)), .p .any, .p .any, .p (.int .i64 0), .p (.int .i64 (pm m)), .p .any, .p .any, .p .any, .p .any, .p (.bool false), .p .any, .p .any, .p .any, .p .any, .p .any, .p .any, .p .any, .p .any, .p .any, t20, .p .any, .p .any, .p .any, .p .any, .p .any, .p .any, .p .any, .p .any, .p .any, .p .any, t31, .p .any, .p .any, .p .any, .p .any, .p .any, .p .any, .p .any, .p .any, .p .any], []⟩ = some (.ret, ⟨[.p (.sl a.length false (a.map pu)), .p (.sl b.length false (b.map pu)), .p .any, .p .any, .p (.int .i64 z), .p (.int .i64 k), .p .any, .p .any, .p .any, .p .any, .p (.bool false), .p .any, .p .any, .p .any, .p .any, .p .any, .p .any, .p .any, .p .any, .p .any, t20', .p .any, .p .any, .p .any, .p .any, .p .any, .p .any, .p .any, .p .any, .p .any, .p .any, t31', .p .any, .p .any, .p .any, .p .any, .p .any, .p .any, .p .any, .p .any, .p .any], []⟩)) := by
      intro m
      induction m with
      | zero =>
        intro t20 t31 hm hd
        refine ⟨.p (.bool false), t31, .inl ⟨by simp, ?_⟩⟩
        have hge : decide ((-1 : Int) ≥ 0) = false := by decide
        rw [← hI, WC_loop, hI, pm_zero]
        simp only [seqT, thn_normal, thn_ret, thn_exit, WC_region, WC_cond, WC_exit, WC_skip, WC_block, WC_ret, evRegion, Bool.false_eq_true, if_false, if_true, reduceIte, ops_n, ops_c, evStep, wantedA, evOp, opv, putA, ret1, ofVal, ofVal1, cellsOf, AV.isCell, clean, evFieldAddr, evField, evExtract, evBuild, evIndex, evBuiltin, evBuildSlice, evNilCheck, blkRead, mkAgg, mkTup, mapO, AV.pure?, setAt, afill, parts, calleeOf, tell, scalar, scalarL, frz, norm, normL, ids, Go.Ev.mark, deep, evResults, evResult, aggCells, partA, List.getElem?_cons_zero, List.getElem?_cons_succ, List.getElem?_nil, List.map_cons, List.map_nil, List.all_cons, List.all_nil, Bool.and_true, Bool.true_and, Bool.and_false, Bool.false_and, Bool.and_self, Bool.not_true, Bool.not_false, Bool.or_true, Bool.or_false, Bool.false_or, Bool.true_or, List.set, List.length_cons, List.length_nil, List.nil_append, List.cons_append, List.append_nil, Nat.reduceAdd, Nat.reduceSub, Nat.reduceMul, Nat.reduceLeDiff, Nat.zero_add, Nat.reduceEqDiff, List.replicate, List.drop, List.take, List.flatMap_cons, List.flatMap_nil, List.foldl_nil, List.foldl_cons, decide_true, decide_false, and_self, and_true, true_and, BEq.rfl, beq_self_eq_true, Option.map_some, Option.map_none, Option.bind_some, Option.bind_none, List.getElem?_toArray, Option.isSome_some, Option.isSome_none, beqs, ne_eq, not_true_eq_false, not_false_eq_true, false_or, or_false, or_self, Nat.reduceLT, false_and, and_false, List.nil_append, evEq, eqc, optO, b_add, b_sub, b_mul, b_eql, b_neq, b_lss, b_leq, b_gtr, b_geq, u_not, flags0, flags1, rs_P, hge]
      | succ m ih =>
        intro t20 t31 hm hd
        have hge : decide ((m : Int) ≥ 0) = true := by simp
        have ha1 : m < a.length := by omega
        have hb1 : m < b.length := by omega
        have hk1 : IntKind.i64.wrap ((m : Int) - 1) = pm m := by rw [wrap_i64 (by omega) (by omega)]; rfl
        have hixa := ix32 (x := false) ha1
        have hixb := ix32 (x := false) hb1
        have hlda := fun H => ld32 (H := H) ha1
        have hldb := fun H => ld32 (H := H) hb1
        have hva := val_take_succ a m ha1
        have hvb := val_take_succ b m hb1
        by_cases he : a.getD m 0 = b.getD m 0
        · have hd' : a.drop m = b.drop m := by
            rw [List.drop_eq_getElem_cons ha1, List.drop_eq_getElem_cons hb1, hd]
            have e1 : a[m] = b[m] := by simpa [List.getD_eq_getElem?_getD, List.getElem?_eq_getElem ha1, List.getElem?_eq_getElem hb1] using he
            rw [e1]
          have hne2 := ine_f he
          rw [he] at hva hlda
          generalize b.getD m 0 = y at *
          generalize a.getD m 0 = x at *
          subst he
          obtain ⟨t20', t31', h⟩ := ih (.p (.bool true)) (.p (.bool false)) (by omega) hd'
          have step : WC rsC [true, true, false, false, true, true, false, false, false, false, true, false, false, false, false, false, false, false, false, false, true, false, false, false, false, false, false, false, false, false, false, true, false, false, false, false, false, false, false, false, false] I ⟨[.p (.sl a.length false (a.map pu)), .p (.sl b.length false (b.map pu)), .p .any, .p .any, .p (.int .i64 0), .p (.int .i64 (pm (m + 1))), .p .any, .p .any, .p .any, .p .any, .p (.bool false), .p .any, .p .any, .p .any, .p .any, .p .any, .p .any, .p .any, .p .any, .p .any, t20, .p .any, .p .any, .p .any, .p .any, .p .any, .p .any, .p .any, .p .any, .p .any, .p .any, t31, .p .any, .p .any, .p .any, .p .any, .p .any, .p .any, .p .any, .p .any, .p .any], []⟩ = WC rsC [true, true, false, false, true, true, false, false, false, false, true, false, false, false, false, false, false, false, false, false, true, false, false, false, false, false, false, false, false, false, false, true, false, false, false, false, false, false, false, false, false] I ⟨[.p (.sl a.length false (a.map pu)), .p (.sl b.length false (b.map pu)), .p .any, .p .any, .p (.int .i64 0), .p (.int .i64 (pm m)), .p .any, .p .any, .p .any, .p .any, .p (.bool false), .p .any, .p .any, .p .any, .p .any, .p .any, .p .any, .p .any, .p .any, .p .any, .p (.bool true), .p .any, .p .any, .p .any, .p .any, .p .any, .p .any, .p .any, .p .any, .p .any, .p .any, .p (.bool false), .p .any, .p .any, .p .any, .p .any, .p .any, .p .any, .p .any, .p .any, .p .any], []⟩ := by
            conv => lhs; rw [← hI, WC_loop, hI, pm_succ]
            simp only [seqT, thn_normal, thn_ret, thn_exit, WC_region, WC_cond, WC_exit, WC_skip, WC_block, WC_ret, evRegion, Bool.false_eq_true, if_false, if_true, reduceIte, ops_n, ops_c, evStep, wantedA, evOp, opv, putA, ret1, ofVal, ofVal1, cellsOf, AV.isCell, clean, evFieldAddr, evField, evExtract, evBuild, evIndex, evBuiltin, evBuildSlice, evNilCheck, blkRead, mkAgg, mkTup, mapO, AV.pure?, setAt, afill, parts, calleeOf, tell, scalar, scalarL, frz, norm, normL, ids, Go.Ev.mark, deep, evResults, evResult, aggCells, partA, List.getElem?_cons_zero, List.getElem?_cons_succ, List.getElem?_nil, List.map_cons, List.map_nil, List.all_cons, List.all_nil, Bool.and_true, Bool.true_and, Bool.and_false, Bool.false_and, Bool.and_self, Bool.not_true, Bool.not_false, Bool.or_true, Bool.or_false, Bool.false_or, Bool.true_or, List.set, List.length_cons, List.length_nil, List.nil_append, List.cons_append, List.append_nil, Nat.reduceAdd, Nat.reduceSub, Nat.reduceMul, Nat.reduceLeDiff, Nat.zero_add, Nat.reduceEqDiff, List.replicate, List.drop, List.take, List.flatMap_cons, List.flatMap_nil, List.foldl_nil, List.foldl_cons, decide_true, decide_false, and_self, and_true, true_and, BEq.rfl, beq_self_eq_true, Option.map_some, Option.map_none, Option.bind_some, Option.bind_none, List.getElem?_toArray, Option.isSome_some, Option.isSome_none, beqs, ne_eq, not_true_eq_false, not_false_eq_true, false_or, or_false, or_self, Nat.reduceLT, false_and, and_false, List.nil_append, evEq, eqc, optO, b_add, b_sub, b_mul, b_eql, b_neq, b_lss, b_leq, b_gtr, b_geq, u_not, flags0, flags1, rs_P, hge, hixa, hixb, hlda, hldb, pu, hne2, hk1]
          refine ⟨t20', t31', ?_⟩
          rcases h with ⟨h1, h2⟩ | ⟨z, k, h1, h2⟩
          · exact .inl ⟨by rw [hva, hvb, h1], step.trans h2⟩
          · exact .inr ⟨z, k, h1, step.trans h2⟩
        · have hne2 := ine_t he
          have hcz : cmpN (a.getD m 0) (b.getD m 0) = cmpN (val a) (val b) := by
            unfold cmpN
            by_cases hlt : a.getD m 0 < b.getD m 0
            · have hv := val_less ha ha1 hb1 hd hlt
              rw [if_pos hlt, if_pos hv]
            · have hv := val_less hb hb1 ha1 hd.symm (Nat.lt_of_le_of_ne (Nat.le_of_not_lt hlt) (fun h => he h.symm))
              rw [if_neg hlt, if_neg he, if_neg (by omega), if_neg (by omega)]
          have hcmp := rs_cmp32 (a.getD m 0) (b.getD m 0) rs_nan54
          rw [hcz] at hcmp
          generalize cmpN (val a) (val b) = z at *
          refine ⟨.p (.bool true), .p (.bool true), .inr ⟨z, (m : Int), rfl, ?_⟩⟩
          generalize b.getD m 0 = y at *
          generalize a.getD m 0 = x at *
          rw [← hI, WC_loop, hI, pm_succ]
          simp only [seqT, thn_normal, thn_ret, thn_exit, WC_region, WC_cond, WC_exit, WC_skip, WC_block, WC_ret, evRegion, Bool.false_eq_true, if_false, if_true, reduceIte, ops_n, ops_c, evStep, wantedA, evOp, opv, putA, ret1, ofVal, ofVal1, cellsOf, AV.isCell, clean, evFieldAddr, evField, evExtract, evBuild, evIndex, evBuiltin, evBuildSlice, evNilCheck, blkRead, mkAgg, mkTup, mapO, AV.pure?, setAt, afill, parts, calleeOf, tell, scalar, scalarL, norm, normL, ids, Go.Ev.mark, evResults, evResult, aggCells, partA, List.getElem?_cons_zero, List.getElem?_cons_succ, List.getElem?_nil, List.map_cons, List.map_nil, List.all_cons, List.all_nil, Bool.and_true, Bool.true_and, Bool.and_false, Bool.false_and, Bool.and_self, Bool.not_true, Bool.not_false, Bool.or_true, Bool.or_false, Bool.false_or, Bool.true_or, List.set, List.length_cons, List.length_nil, List.nil_append, List.cons_append, List.append_nil, Nat.reduceAdd, Nat.reduceSub, Nat.reduceMul, Nat.reduceLeDiff, Nat.zero_add, Nat.reduceEqDiff, List.replicate, List.drop, List.take, List.flatMap_cons, List.flatMap_nil, List.foldl_nil, List.foldl_cons, decide_true, decide_false, and_self, and_true, true_and, BEq.rfl, beq_self_eq_true, Option.map_some, Option.map_none, Option.bind_some, Option.bind_none, List.getElem?_toArray, Option.isSome_some, Option.isSome_none, beqs, ne_eq, not_true_eq_false, not_false_eq_true, false_or, or_false, or_self, Nat.reduceLT, false_and, and_false, List.nil_append, evEq, eqc, optO, b_add, b_sub, b_mul, b_eql, b_neq, b_lss, b_leq, b_gtr, b_geq, u_not, flags0, flags1, rs_P, evCall_tab (show ∀ f xs, rsC.O f xs = none from fun _ _ => rfl), frz_p, hge, hixa, hixb, hlda, hldb, pu, hne2, hcmp, show rsC.md 42 = 0 from rfl, show Try.f24.results = #[.tmp 4] from rfl]
    obtain ⟨t20', t31', ⟨h1, h2⟩ | ⟨z, k, h1, h2⟩⟩ := inner a.length (.p .und) (.p .und) (Nat.le_refl _) (by rw [List.drop_eq_nil_of_le (Nat.le_refl _), List.drop_eq_nil_of_le (by omega)])
    · rw [h2]
      have hv : val a = val b := by rw [hl] at h1; rwa [List.take_of_length_le (by omega), List.take_of_length_le (by omega)] at h1
      rw [show cmpN (val a) (val b) = 0 by unfold cmpN; rw [if_neg (by omega), if_pos hv]]
      simp only [seqT, thn_normal, thn_ret, thn_exit, WC_region, WC_cond, WC_exit, WC_skip, WC_block, WC_ret, evRegion, Bool.false_eq_true, if_false, if_true, reduceIte, ops_n, ops_c, evStep, wantedA, evOp, opv, putA, ret1, ofVal, ofVal1, cellsOf, AV.isCell, clean, evFieldAddr, evField, evExtract, evBuild, evIndex, evBuiltin, evBuildSlice, evNilCheck, blkRead, mkAgg, mkTup, mapO, AV.pure?, setAt, afill, parts, calleeOf, tell, scalar, scalarL, norm, normL, ids, Go.Ev.mark, evResults, evResult, aggCells, partA, List.getElem?_cons_zero, List.getElem?_cons_succ, List.getElem?_nil, List.map_cons, List.map_nil, List.all_cons, List.all_nil, Bool.and_true, Bool.true_and, Bool.and_false, Bool.false_and, Bool.and_self, Bool.not_true, Bool.not_false, Bool.or_true, Bool.or_false, Bool.false_or, Bool.true_or, List.set, List.length_cons, List.length_nil, List.nil_append, List.cons_append, List.append_nil, Nat.reduceAdd, Nat.reduceSub, Nat.reduceMul, Nat.reduceLeDiff, Nat.zero_add, Nat.reduceEqDiff, List.replicate, List.drop, List.take, List.flatMap_cons, List.flatMap_nil, List.foldl_nil, List.foldl_cons, decide_true, decide_false, and_self, and_true, true_and, BEq.rfl, beq_self_eq_true, Option.map_some, Option.map_none, Option.bind_some, Option.bind_none, List.getElem?_toArray, Option.isSome_some, Option.isSome_none, beqs, ne_eq, not_true_eq_false, not_false_eq_true, false_or, or_false, or_self, Nat.reduceLT, false_and, and_false, List.nil_append, evEq, eqc, optO, b_add, b_sub, b_mul, b_eql, b_neq, b_lss, b_leq, b_gtr, b_geq, u_not, flags0, flags1, rs_P, frz_p, show Try.f24.results = #[.tmp 4] from rfl]
    · rw [h2, ← h1]
      simp only [seqT, thn_normal, thn_ret, thn_exit, WC_region, WC_cond, WC_exit, WC_skip, WC_block, WC_ret, evRegion, Bool.false_eq_true, if_false, if_true, reduceIte, ops_n, ops_c, evStep, wantedA, evOp, opv, putA, ret1, ofVal, ofVal1, cellsOf, AV.isCell, clean, evFieldAddr, evField, evExtract, evBuild, evIndex, evBuiltin, evBuildSlice, evNilCheck, blkRead, mkAgg, mkTup, mapO, AV.pure?, setAt, afill, parts, calleeOf, tell, scalar, scalarL, norm, normL, ids, Go.Ev.mark, evResults, evResult, aggCells, partA, List.getElem?_cons_zero, List.getElem?_cons_succ, List.getElem?_nil, List.map_cons, List.map_nil, List.all_cons, List.all_nil, Bool.and_true, Bool.true_and, Bool.and_false, Bool.false_and, Bool.and_self, Bool.not_true, Bool.not_false, Bool.or_true, Bool.or_false, Bool.false_or, Bool.true_or, List.set, List.length_cons, List.length_nil, List.nil_append, List.cons_append, List.append_nil, Nat.reduceAdd, Nat.reduceSub, Nat.reduceMul, Nat.reduceLeDiff, Nat.zero_add, Nat.reduceEqDiff, List.replicate, List.drop, List.take, List.flatMap_cons, List.flatMap_nil, List.foldl_nil, List.foldl_cons, decide_true, decide_false, and_self, and_true, true_and, BEq.rfl, beq_self_eq_true, Option.map_some, Option.map_none, Option.bind_some, Option.bind_none, List.getElem?_toArray, Option.isSome_some, Option.isSome_none, beqs, ne_eq, not_true_eq_false, not_false_eq_true, false_or, or_false, or_self, Nat.reduceLT, false_and, and_false, List.nil_append, evEq, eqc, optO, b_add, b_sub, b_mul, b_eql, b_neq, b_lss, b_leq, b_gtr, b_geq, u_not, flags0, flags1, rs_P, frz_p, show Try.f24.results = #[.tmp 4] from rfl]
  · rw [if_neg hl]
    have hne := ine_t hl
    have hcmp := rs_cmpi a.length b.length rs_nan53
    have hz : cmpN a.length b.length = if a.length < b.length then -1 else 1 := by
      unfold cmpN
      by_cases h : a.length < b.length
      · rw [if_pos h, if_pos h]
      · rw [if_neg h, if_neg h, if_neg hl]
    rw [hz] at hcmp
    generalize (if a.length < b.length then (-1 : Int) else 1) = z at *
    rw [WP_eq (show rsC.md 24 < 9 by decide) Try.func24 rfl]
    rw [show Try.f24.ntmps = 41 from rfl, rs_lv24]
    simp only [N32, List.map_cons, List.map_nil, List.length_cons, List.length_nil, Nat.reduceAdd, Nat.reduceSub, List.replicate, List.cons_append, List.nil_append]
    simp only [seqT, thn_normal, thn_ret, thn_exit, WC_region, WC_cond, WC_exit, WC_skip, WC_block, WC_ret, evRegion, Bool.false_eq_true, if_false, if_true, reduceIte, ops_n, ops_c, evStep, wantedA, evOp, opv, putA, ret1, ofVal, ofVal1, cellsOf, AV.isCell, clean, evFieldAddr, evField, evExtract, evBuild, evIndex, evBuiltin, evBuildSlice, evNilCheck, blkRead, mkAgg, mkTup, mapO, AV.pure?, setAt, afill, parts, calleeOf, tell, scalar, scalarL, norm, normL, ids, Go.Ev.mark, evResults, evResult, aggCells, partA, List.getElem?_cons_zero, List.getElem?_cons_succ, List.getElem?_nil, List.map_cons, List.map_nil, List.all_cons, List.all_nil, Bool.and_true, Bool.true_and, Bool.and_false, Bool.false_and, Bool.and_self, Bool.not_true, Bool.not_false, Bool.or_true, Bool.or_false, Bool.false_or, Bool.true_or, List.set, List.length_cons, List.length_nil, List.nil_append, List.cons_append, List.append_nil, Nat.reduceAdd, Nat.reduceSub, Nat.reduceMul, Nat.reduceLeDiff, Nat.zero_add, Nat.reduceEqDiff, List.replicate, List.drop, List.take, List.flatMap_cons, List.flatMap_nil, List.foldl_nil, List.foldl_cons, decide_true, decide_false, and_self, and_true, true_and, BEq.rfl, beq_self_eq_true, Option.map_some, Option.map_none, Option.bind_some, Option.bind_none, List.getElem?_toArray, Option.isSome_some, Option.isSome_none, beqs, ne_eq, not_true_eq_false, not_false_eq_true, false_or, or_false, or_self, Nat.reduceLT, false_and, and_false, List.nil_append, evEq, eqc, optO, b_add, b_sub, b_mul, b_eql, b_neq, b_lss, b_leq, b_gtr, b_geq, u_not, flags0, flags1, rs_P, evCall_tab (show ∀ f xs, rsC.O f xs = none from fun _ _ => rfl), frz_p, len32 rs_P, hne, hcmp, show rsC.md 41 = 0 from rfl, show Try.f24.results = #[.tmp 4] from rfl]
end Go.Proofs
set_option linter.unusedSimpArgs false
set_option linter.unusedVariables false
namespace Go.Proofs
open Go.Ev Go.Mx
theorem rs_lv58 : rsC.lv 58 = [true, true, false, false, true, true, true, true, true, true, true, true, false, false, false, false, false, false, true, true, true, true, false, false, false, true, true, true, true, false, false, false, false, false, false, false, false, false, false, false, false, false, false, false, false, false, false, false, false, false, false, false, false, false, false, false, false, false, false, false, false, false, false, false, false, false, false, false] := by kernel_rfl
set_option maxRecDepth 100000 in
set_option maxHeartbeats 4000000 in
theorem rs_nmul (a b : List Nat) (ha : Limbs a) (hb : Limbs b) (hla : a.length ≤ 100000) (hlb : b.length ≤ 100000) : WP rsC 58 [N32 a, N32 b] = some (N32 (toL (val a * val b))) := by
  have hLB : LB = 4294967296 := rfl
  obtain ⟨n, hn⟩ : ∃ n, n = a.length + b.length := ⟨_, rfl⟩
  have hsum : IntKind.i64.wrap ((a.length : Int) + (b.length : Int)) = (n : Int) := by rw [wrap_i64 (by omega) (by omega)]; omega
  have hmk := fun H => mk32 (n := n) (by omega) (H := H)
  rw [WP_eq (show rsC.md 58 < 9 by decide) Try.func58 rfl]
  rw [show Try.f58.ntmps = 68 from rfl, rs_lv58]
  simp only [N32, List.map_cons, List.map_nil, List.length_cons, List.length_nil, Nat.reduceAdd, Nat.reduceSub, List.replicate, List.cons_append, List.nil_append]
  generalize hI : (Code.loop ((Code.region 7 _ _).seq _) : Code) = I
  have inner : ∀ (i m k : Nat) (o : List Nat) (c : Nat) (t9 t10 t11 t21 t28 : AV), k + m = b.length → i < a.length → o.length = n → Limbs o → c < LB → ∃ (o' : List Nat) (c' : Nat) (t9' t10' t11' t28' : AV),
      WC rsC [true, true, false, false, true, true, true, true, true, true, true, true, false, false, false, false, false, false, true, true, true, true, false, false, false, true, true, true, true, false, false, false, false, false, false, false, false, false, false, false, false, false, false, false, false, false, false, false, false, false, false, false, false, false, false, false, false, false, false, false, false, false, false, false, false, false, false, false] I ⟨[.p (.sl a.length false (a.map pu)), .p (.sl b.length false (b.map pu)), .p .any, .p .any, .p (.nsl true), .ms 0 0 0 n 1, .p (.int .i64 (i : Int)), .p (.int .u32 (a.getD i 0 : Nat)), .p (.int .u64 (c : Int)), t9, t10, t11, .p .any, .p .any, .p .any, .p .any, .p .any, .p .any, .p (.sl a.length false (a.map pu)), .p (.int .i64 (a.length : Int)), .p (.int .i64 (i : Int)), t21, .p .any, .p .any, .p .any, .p (.sl b.length false (b.map pu)), .p (.int .i64 (b.length : Int)), .p (.int .i64 (k : Int)), t28, .p .any, .p .any, .p .any, .p .any, .p .any, .p .any, .p .any, .p .any, .p .any, .p .any, .p .any, .p .any, .p .any, .p .any, .p .any, .p .any, .p .any, .p .any, .p .any, .p .any, .p .any, .p .any, .p .any, .p .any, .p .any, .p .any, .p .any, .p .any, .p .any, .p .any, .p .any, .p .any, .p .any, .p .any, .p .any, .p .any, .p .any, .p .any, .p .any], [⟨0, false, lb o⟩]⟩ = some (.exit 2, ⟨[.p (.sl a.length false (a.map pu)), .p (.sl b.length false (b.map pu)), .p .any, .p .any, .p (.nsl true), .ms 0 0 0 n 1, .p (.int .i64 (i : Int)), .p (.int .u32 (a.getD i 0 : Nat)), .p (.int .u64 (c' : Int)), t9', t10', t11', .p .any, .p .any, .p .any, .p .any, .p .any, .p .any, .p (.sl a.length false (a.map pu)), .p (.int .i64 (a.length : Int)), .p (.int .i64 (i : Int)), t21, .p .any, .p .any, .p .any, .p (.sl b.length false (b.map pu)), .p (.int .i64 (b.length : Int)), .p (.int .i64 (b.length : Int)), t28', .p .any, .p .any, .p .any, .p .any, .p .any, .p .any, .p .any, .p .any, .p .any, .p .any, .p .any, .p .any, .p .any, .p .any, .p .any, .p .any, .p .any, .p .any, .p .any, .p .any, .p .any, .p .any, .p .any, .p .any, .p .any, .p .any, .p .any, .p .any, .p .any, .p .any, .p .any, .p .any, .p .any, .p .any, .p .any, .p .any, .p .any, .p .any, .p .any], [⟨0, false, lb o'⟩]⟩) ∧
      o'.length = n ∧ Limbs o' ∧ c' < LB ∧ val o' + c' * LB ^ (i + b.length) + a.getD i 0 * val (b.take k) * LB ^ i = val o + c * LB ^ (i + k) + a.getD i 0 * val b * LB ^ i ∧ (∀ j, i + b.length ≤ j → o'.getD j 0 = o.getD j 0) := by
    intro i m
    induction m with
    | zero =>
      intro k o c t9 t10 t11 t21 t28 hk hi ho hlo hc
      have hkb : k = b.length := by omega
      subst hkb
      have hlt : decide ((b.length : Int) < (b.length : Int)) = false := by simp
      refine ⟨o, c, t9, t10, t11, .p (.bool false), ?_, ho, hlo, hc, by rw [List.take_length], fun _ _ => rfl⟩
      rw [← hI, WC_loop, hI]
      simp only [seqT, thn_normal, thn_ret, thn_exit, WC_region, WC_cond, WC_exit, WC_skip, WC_block, WC_ret, evRegion, Bool.false_eq_true, if_false, if_true, reduceIte, ops_n, ops_c, evStep, wantedA, evOp, opv, putA, ret1, ofVal, ofVal1, cellsOf, AV.isCell, clean, evFieldAddr, evField, evExtract, evBuild, evIndex, evBuiltin, evBuildSlice, evNilCheck, blkRead, mkAgg, mkTup, mapO, AV.pure?, setAt, afill, parts, calleeOf, tell, scalar, scalarL, norm, normL, ids, Go.Ev.mark, evResults, evResult, aggCells, partA, List.getElem?_cons_zero, List.getElem?_cons_succ, List.getElem?_nil, List.map_cons, List.map_nil, List.all_cons, List.all_nil, Bool.and_true, Bool.true_and, Bool.and_false, Bool.false_and, Bool.and_self, Bool.not_true, Bool.not_false, Bool.or_true, Bool.or_false, Bool.false_or, Bool.true_or, List.set, List.length_cons, List.length_nil, List.nil_append, List.cons_append, List.append_nil, Nat.reduceAdd, Nat.reduceSub, Nat.reduceMul, Nat.reduceLeDiff, Nat.zero_add, Nat.reduceEqDiff, List.replicate, List.drop, List.take, List.flatMap_cons, List.flatMap_nil, List.foldl_nil, List.foldl_cons, decide_true, decide_false, and_self, and_true, true_and, BEq.rfl, beq_self_eq_true, Option.map_some, Option.map_none, Option.bind_some, Option.bind_none, List.getElem?_toArray, Option.isSome_some, Option.isSome_none, beqs, ne_eq, not_true_eq_false, not_false_eq_true, false_or, or_false, or_self, Nat.reduceLT, false_and, and_false, List.nil_append, evEq, eqc, optO, b_add, b_sub, b_mul, b_eql, b_neq, b_lss, b_leq, b_gtr, b_geq, u_not, flags0, flags1, rs_P, hlt]
    | succ m ih =>
      intro k o c t9 t10 t11 t21 t28 hkm hi ho hlo hc
      have hk : k < b.length := by omega
      have hlt := ilt_t hk
      have hj : i + k < o.length := by omega
      have hjn : i + k < n := by omega
      have hx := limbs_getD ha i
      have hy := limbs_getD hb k
      have hw := limbs_getD hlo (i + k)
      have hv0 := val_take_succ b k hk
      have hix := ix32 (x := false) hk
      have hld := ld32 (H := [⟨0, false, lb o⟩]) hk
      have e1 := ldms1 (ver := 0) (fz := false) hj
      generalize hxx : a.getD i 0 = x at *
      generalize hyy : b.getD k 0 = y at *
      generalize hww : o.getD (i + k) 0 = w at *
      have hxy : x * y ≤ 4294967295 * 4294967295 := Nat.mul_le_mul (by omega) (by omega)
      have hik : IntKind.i64.wrap ((i : Int) + (k : Int)) = ((i + k : Nat) : Int) := by rw [wrap_i64 (by omega) (by omega)]; omega
      have hk1 := inext (k := k) (by omega)
      have hx64 := w64 (x := x) (by omega)
      have hy64 := w64 (x := y) (by omega)
      have ho64 := w64 (x := w) (by omega)
      have hm : IntKind.u64.wrap ((x : Int) * (y : Int)) = ((x * y : Nat) : Int) := by rw [← Int.natCast_mul]; exact w64 (by omega)
      have hs1 : IntKind.u64.wrap (((x * y : Nat) : Int) + (w : Int)) = ((x * y + w : Nat) : Int) := by rw [← Int.natCast_add]; exact w64 (by omega)
      obtain ⟨s, hs⟩ : ∃ s, s = x * y + w + c := ⟨_, rfl⟩
      have hs2 : IntKind.u64.wrap (((x * y + w : Nat) : Int) + (c : Int)) = (s : Int) := by rw [← Int.natCast_add, ← hs]; exact w64 (by omega)
      have hsw := wrap_u32 s
      have hst := stms1 (ver := 0) (z := s % LB) hj
      obtain ⟨o', c', t9', t10', t11', t28', h1, h2, h3, h4, h5, h6⟩ := ih (k + 1) (o.set (i + k) (s % LB)) (s / LB) (.p (.int .i64 (k : Int))) (.p (.int .u32 (y : Int))) (.p (.int .u64 (s : Int))) t21 (.p (.bool true)) (by omega) hi (by simpa using ho) (limbs_set hlo (Nat.mod_lt _ (by decide))) (by
        rw [Nat.div_lt_iff_lt_mul (by decide)]
        have : LB * LB = 18446744073709551616 := rfl
        omega)
      have hshr : ∀ (P : Program) (t : TypeId) (k : IntKind), evBin P .shr t (.p (.int .u64 (s : Int))) (.p (.int k 32)) = some (.p (.int .u64 ((s / LB : Nat) : Int))) := fun P t k => b_shr32
      refine ⟨o', c', t9', t10', t11', t28', ?_, h2, h3, h4, ?_, fun j hj2 => ?_⟩
      · obtain ⟨s32, hs32⟩ : ∃ x : Int, x = 32 := ⟨_, rfl⟩
        rw [← hI, WC_loop, hI]
        rw [← hs32] at hshr ⊢
        simp only [seqT, thn_normal, thn_ret, thn_exit, WC_region, WC_cond, WC_exit, WC_skip, WC_block, WC_ret, evRegion, Bool.false_eq_true, if_false, if_true, reduceIte, ops_n, ops_c, evStep, wantedA, evOp, opv, putA, ret1, ofVal, ofVal1, cellsOf, AV.isCell, clean, evFieldAddr, evField, evExtract, evBuild, evIndex, evBuiltin, evBuildSlice, evNilCheck, blkRead, mkAgg, mkTup, mapO, AV.pure?, setAt, afill, parts, calleeOf, tell, scalar, scalarL, norm, normL, ids, Go.Ev.mark, evResults, evResult, aggCells, partA, List.getElem?_cons_zero, List.getElem?_cons_succ, List.getElem?_nil, List.map_cons, List.map_nil, List.all_cons, List.all_nil, Bool.and_true, Bool.true_and, Bool.and_false, Bool.false_and, Bool.and_self, Bool.not_true, Bool.not_false, Bool.or_true, Bool.or_false, Bool.false_or, Bool.true_or, List.set, List.length_cons, List.length_nil, List.nil_append, List.cons_append, List.append_nil, Nat.reduceAdd, Nat.reduceSub, Nat.reduceMul, Nat.reduceLeDiff, Nat.zero_add, Nat.reduceEqDiff, List.replicate, List.drop, List.take, List.flatMap_cons, List.flatMap_nil, List.foldl_nil, List.foldl_cons, decide_true, decide_false, and_self, and_true, true_and, BEq.rfl, beq_self_eq_true, Option.map_some, Option.map_none, Option.bind_some, Option.bind_none, List.getElem?_toArray, Option.isSome_some, Option.isSome_none, beqs, ne_eq, not_true_eq_false, not_false_eq_true, false_or, or_false, or_self, Nat.reduceLT, false_and, and_false, List.nil_append, evEq, eqc, optO, b_add, b_sub, b_mul, b_eql, b_neq, b_lss, b_leq, b_gtr, b_geq, u_not, flags0, flags1, rs_P, len32 rs_P, hlt, hix, hld, pu, mulConv, hx64, hy64, hm, hik, ixms hjn, Nat.zero_add, e1, ho64, hs1, hs2, hsw, hshr, hst, hk1]
        exact h1
      · have hvs := val_set o (i + k) (s % LB) hj
        rw [hww] at hvs
        rw [hv0] at h5
        generalize hP : LB ^ (i + k) = P at hvs ⊢
        have hP1 : LB ^ (i + (k + 1)) = P * LB := by rw [← hP, ← Nat.add_assoc, Nat.pow_succ]
        have hP2 : LB ^ i * LB ^ k = P := by rw [← hP, Nat.pow_add]
        rw [hP1] at h5
        have a1 := split_mul s P
        have a2 : s * P = x * y * P + w * P + c * P := by rw [hs, Nat.add_mul, Nat.add_mul]
        have a3 : x * (val (List.take k b) + y * LB ^ k) * LB ^ i = x * val (List.take k b) * LB ^ i + x * y * P := by
          rw [Nat.mul_add, Nat.add_mul, ← hP2]
          simp only [Nat.mul_comm, Nat.mul_left_comm, Nat.mul_assoc]
        rw [a3] at h5
        omega
      · rw [h6 j hj2, getD_set_ne (by omega)]
  simp only [seqT, thn_normal, thn_ret, thn_exit, WC_region, WC_cond, WC_exit, WC_skip, WC_block, WC_ret, evRegion, Bool.false_eq_true, if_false, if_true, reduceIte, ops_n, ops_c, evStep, wantedA, evOp, opv, putA, ret1, ofVal, ofVal1, cellsOf, AV.isCell, clean, evFieldAddr, evField, evExtract, evBuild, evIndex, evBuiltin, evBuildSlice, evNilCheck, blkRead, mkAgg, mkTup, mapO, AV.pure?, setAt, afill, parts, calleeOf, tell, scalar, scalarL, norm, normL, ids, Go.Ev.mark, evResults, evResult, aggCells, partA, List.getElem?_cons_zero, List.getElem?_cons_succ, List.getElem?_nil, List.map_cons, List.map_nil, List.all_cons, List.all_nil, Bool.and_true, Bool.true_and, Bool.and_false, Bool.false_and, Bool.and_self, Bool.not_true, Bool.not_false, Bool.or_true, Bool.or_false, Bool.false_or, Bool.true_or, List.set, List.length_cons, List.length_nil, List.nil_append, List.cons_append, List.append_nil, Nat.reduceAdd, Nat.reduceSub, Nat.reduceMul, Nat.reduceLeDiff, Nat.zero_add, Nat.reduceEqDiff, List.replicate, List.drop, List.take, List.flatMap_cons, List.flatMap_nil, List.foldl_nil, List.foldl_cons, decide_true, decide_false, and_self, and_true, true_and, BEq.rfl, beq_self_eq_true, Option.map_some, Option.map_none, Option.bind_some, Option.bind_none, List.getElem?_toArray, Option.isSome_some, Option.isSome_none, beqs, ne_eq, not_true_eq_false, not_false_eq_true, false_or, or_false, or_self, Nat.reduceLT, false_and, and_false, List.nil_append, evEq, eqc, optO, b_add, b_sub, b_mul, b_eql, b_neq, b_lss, b_leq, b_gtr, b_geq, u_not, flags0, flags1, rs_P, len32 rs_P, hsum, hmk]
  generalize hO : (Code.loop _ : Code) = O
  have outer : ∀ (m i : Nat) (o : List Nat) (t6 t7 t8 t9 t10 t11 t21 t25 t26 t27 t28 : AV), i + m = a.length → o.length = n → Limbs o → val o = val (a.take i) * val b → (∀ j, i + b.length ≤ j → o.getD j 0 = 0) → ∃ (o' : List Nat) (t6' t7' t8' t9' t10' t11' t21' t25' t26' t27' t28' : AV),
      WC rsC [true, true, false, false, true, true, true, true, true, true, true, true, false, false, false, false, false, false, true, true, true, true, false, false, false, true, true, true, true, false, false, false, false, false, false, false, false, false, false, false, false, false, false, false, false, false, false, false, false, false, false, false, false, false, false, false, false, false, false, false, false, false, false, false, false, false, false, false] O ⟨[.p (.sl a.length false (a.map pu)), .p (.sl b.length false (b.map pu)), .p .any, .p .any, .p (.nsl true), .ms 0 0 0 n 1, t6, t7, t8, t9, t10, t11, .p .any, .p .any, .p .any, .p .any, .p .any, .p .any, .p (.sl a.length false (a.map pu)), .p (.int .i64 (a.length : Int)), .p (.int .i64 (i : Int)), t21, .p .any, .p .any, .p .any, t25, t26, t27, t28, .p .any, .p .any, .p .any, .p .any, .p .any, .p .any, .p .any, .p .any, .p .any, .p .any, .p .any, .p .any, .p .any, .p .any, .p .any, .p .any, .p .any, .p .any, .p .any, .p .any, .p .any, .p .any, .p .any, .p .any, .p .any, .p .any, .p .any, .p .any, .p .any, .p .any, .p .any, .p .any, .p .any, .p .any, .p .any, .p .any, .p .any, .p .any, .p .any], [⟨0, false, lb o⟩]⟩ = some (.exit 0, ⟨[.p (.sl a.length false (a.map pu)), .p (.sl b.length false (b.map pu)), .p .any, .p .any, .p (.nsl true), .ms 0 0 0 n 1, t6', t7', t8', t9', t10', t11', .p .any, .p .any, .p .any, .p .any, .p .any, .p .any, .p (.sl a.length false (a.map pu)), .p (.int .i64 (a.length : Int)), .p (.int .i64 (a.length : Int)), t21', .p .any, .p .any, .p .any, t25', t26', t27', t28', .p .any, .p .any, .p .any, .p .any, .p .any, .p .any, .p .any, .p .any, .p .any, .p .any, .p .any, .p .any, .p .any, .p .any, .p .any, .p .any, .p .any, .p .any, .p .any, .p .any, .p .any, .p .any, .p .any, .p .any, .p .any, .p .any, .p .any, .p .any, .p .any, .p .any, .p .any, .p .any, .p .any, .p .any, .p .any, .p .any, .p .any, .p .any, .p .any], [⟨0, false, lb o'⟩]⟩) ∧ o'.length = n ∧ Limbs o' ∧ val o' = val a * val b := by
    intro m
    induction m with
    | zero =>
      intro i o t6 t7 t8 t9 t10 t11 t21 t25 t26 t27 t28 hi ho hlo hv hz
      have hia : i = a.length := by omega
      subst hia
      have hlt : decide ((a.length : Int) < (a.length : Int)) = false := by simp
      refine ⟨o, t6, t7, t8, t9, t10, t11, .p (.bool false), t25, t26, t27, t28, ?_, ho, hlo, by rw [hv, List.take_length]⟩
      rw [← hO, WC_loop, hO]
      simp only [seqT, thn_normal, thn_ret, thn_exit, WC_region, WC_cond, WC_exit, WC_skip, WC_block, WC_ret, evRegion, Bool.false_eq_true, if_false, if_true, reduceIte, ops_n, ops_c, evStep, wantedA, evOp, opv, putA, ret1, ofVal, ofVal1, cellsOf, AV.isCell, clean, evFieldAddr, evField, evExtract, evBuild, evIndex, evBuiltin, evBuildSlice, evNilCheck, blkRead, mkAgg, mkTup, mapO, AV.pure?, setAt, afill, parts, calleeOf, tell, scalar, scalarL, norm, normL, ids, Go.Ev.mark, evResults, evResult, aggCells, partA, List.getElem?_cons_zero, List.getElem?_cons_succ, List.getElem?_nil, List.map_cons, List.map_nil, List.all_cons, List.all_nil, Bool.and_true, Bool.true_and, Bool.and_false, Bool.false_and, Bool.and_self, Bool.not_true, Bool.not_false, Bool.or_true, Bool.or_false, Bool.false_or, Bool.true_or, List.set, List.length_cons, List.length_nil, List.nil_append, List.cons_append, List.append_nil, Nat.reduceAdd, Nat.reduceSub, Nat.reduceMul, Nat.reduceLeDiff, Nat.zero_add, Nat.reduceEqDiff, List.replicate, List.drop, List.take, List.flatMap_cons, List.flatMap_nil, List.foldl_nil, List.foldl_cons, decide_true, decide_false, and_self, and_true, true_and, BEq.rfl, beq_self_eq_true, Option.map_some, Option.map_none, Option.bind_some, Option.bind_none, List.getElem?_toArray, Option.isSome_some, Option.isSome_none, beqs, ne_eq, not_true_eq_false, not_false_eq_true, false_or, or_false, or_self, Nat.reduceLT, false_and, and_false, List.nil_append, evEq, eqc, optO, b_add, b_sub, b_mul, b_eql, b_neq, b_lss, b_leq, b_gtr, b_geq, u_not, flags0, flags1, rs_P, hlt]
    | succ m ih =>
      intro i o t6 t7 t8 t9 t10 t11 t21 t25 t26 t27 t28 him ho hlo hv hz
      have hi : i < a.length := by omega
      have hlt := ilt_t hi
      obtain ⟨o1, c1, t9a, t10a, t11a, t28a, h1, h2, h3, h4, h5, h6⟩ := inner i b.length 0 o 0 t9 t10 t11 (.p (.bool true)) t28 (by omega) hi ho hlo (by decide)
      have hj : i + b.length < o1.length := by omega
      have hjn : i + b.length < n := by omega
      have hib : IntKind.i64.wrap ((i : Int) + (b.length : Int)) = ((i + b.length : Nat) : Int) := by rw [wrap_i64 (by omega) (by omega)]; omega
      have hi1 := inext (k := i) (by omega)
      have hcm : IntKind.u32.wrap (c1 : Int) = (c1 : Int) := by rw [wrap_u32, Nat.mod_eq_of_lt h4]
      have hst := stms1 (ver := 0) (z := c1) hj
      have hix := ix32 (x := false) hi
      have hld := ld32 (H := [⟨0, false, lb o⟩]) hi
      obtain ⟨o', t6', t7', t8', t9', t10', t11', t21', t25', t26', t27', t28', k1, k2, k3, k4⟩ := ih (i + 1) (o1.set (i + b.length) c1) (.p (.int .i64 (i : Int))) (.p (.int .u32 (a.getD i 0 : Nat))) (.p (.int .u64 (c1 : Int))) t9a t10a t11a (.p (.bool true)) (.p (.sl b.length false (b.map pu))) (.p (.int .i64 (b.length : Int))) (.p (.int .i64 (b.length : Int))) t28a (by omega) (by simpa using h2) (limbs_set h3 h4) (by
        have hvs := val_set o1 (i + b.length) c1 hj
        rw [h6 _ (Nat.le_refl _), hz _ (Nat.le_refl _), Nat.zero_mul, Nat.add_zero] at hvs
        rw [hvs, val_take_succ a i hi, Nat.add_mul, ← hv]
        simp only [List.take_zero, val, Nat.mul_zero, Nat.zero_mul, Nat.add_zero] at h5
        rw [h5]
        congr 1
        simp only [Nat.mul_comm, Nat.mul_left_comm, Nat.mul_assoc]) (fun j hj2 => by
        rw [getD_set_ne (by omega), h6 j (by omega), hz j (by omega)])
      refine ⟨o', t6', t7', t8', t9', t10', t11', t21', t25', t26', t27', t28', ?_, k2, k3, k4⟩
      simp only [Int.natCast_zero, Int.cast_ofNat_Int] at h1
      generalize a.getD i 0 = x at *
      rw [← hO, WC_loop, hO]
      simp only [seqT, thn_normal, thn_ret, thn_exit, WC_region, WC_cond, WC_exit, WC_skip, WC_block, WC_ret, evRegion, Bool.false_eq_true, if_false, if_true, reduceIte, ops_n, ops_c, evStep, wantedA, evOp, opv, putA, ret1, ofVal, ofVal1, cellsOf, AV.isCell, clean, evFieldAddr, evField, evExtract, evBuild, evIndex, evBuiltin, evBuildSlice, evNilCheck, blkRead, mkAgg, mkTup, mapO, AV.pure?, setAt, afill, parts, calleeOf, tell, scalar, scalarL, norm, normL, ids, Go.Ev.mark, evResults, evResult, aggCells, partA, List.getElem?_cons_zero, List.getElem?_cons_succ, List.getElem?_nil, List.map_cons, List.map_nil, List.all_cons, List.all_nil, Bool.and_true, Bool.true_and, Bool.and_false, Bool.false_and, Bool.and_self, Bool.not_true, Bool.not_false, Bool.or_true, Bool.or_false, Bool.false_or, Bool.true_or, List.set, List.length_cons, List.length_nil, List.nil_append, List.cons_append, List.append_nil, Nat.reduceAdd, Nat.reduceSub, Nat.reduceMul, Nat.reduceLeDiff, Nat.zero_add, Nat.reduceEqDiff, List.replicate, List.drop, List.take, List.flatMap_cons, List.flatMap_nil, List.foldl_nil, List.foldl_cons, decide_true, decide_false, and_self, and_true, true_and, BEq.rfl, beq_self_eq_true, Option.map_some, Option.map_none, Option.bind_some, Option.bind_none, List.getElem?_toArray, Option.isSome_some, Option.isSome_none, beqs, ne_eq, not_true_eq_false, not_false_eq_true, false_or, or_false, or_self, Nat.reduceLT, false_and, and_false, List.nil_append, evEq, eqc, optO, b_add, b_sub, b_mul, b_eql, b_neq, b_lss, b_leq, b_gtr, b_geq, u_not, flags0, flags1, rs_P, len32 rs_P, hlt, hix, hld, pu, h1, hib, ixms hjn, Nat.zero_add, mulConv, hcm, hst, hi1]
      exact k1
  obtain ⟨o', t6', t7', t8', t9', t10', t11', t21', t25', t26', t27', t28', k1, k2, k3, k4⟩ := outer a.length 0 (List.replicate n 0) (.p .und) (.p .und) (.p .und) (.p .und) (.p .und) (.p .und) (.p .und) (.p .und) (.p .und) (.p .und) (.p .und) (by omega) (by simp)
    (fun x hx => by rw [List.eq_of_mem_replicate hx]; decide) (by simp [val_zeros, val]) (fun j _ => by simp [List.getD_eq_getElem?_getD, List.getElem?_replicate]; split <;> rfl)
  simp only [Int.natCast_zero, Int.cast_ofNat_Int] at k1
  have hval : val o' = val a * val b := k4
  rw [k1]
  have hpl := rs_plain o' (by omega)
  rw [trim_toL k3, hval] at hpl
  have hfz := frzG (H := [⟨0, false, lb o'⟩]) (id := 0) (ver := 0) (off := 0) (k := n) (fz := false) (o := o') rfl (by omega)
  rw [List.drop_zero, List.take_of_length_le (by omega)] at hfz
  have hids := ids_ms (H := [⟨0, false, lb o'⟩]) (id := 0) (ver := 0) (off := 0) (k := n) (fz := false) (o := o') rfl
  simp only [N32] at hpl
  rw [k2] at hpl
  generalize toL (val a * val b) = r at *
  obtain ⟨b, hb⟩ : ∃ b, scalar (.sl r.length false (r.map pu)) = b := ⟨_, rfl⟩
  cases b
  · simp only [seqT, thn_normal, thn_ret, thn_exit, WC_region, WC_cond, WC_exit, WC_skip, WC_block, WC_ret, evRegion, Bool.false_eq_true, if_false, if_true, reduceIte, ops_n, ops_c, evStep, wantedA, evOp, opv, putA, ret1, ofVal, ofVal1, cellsOf, AV.isCell, clean, evFieldAddr, evField, evExtract, evBuild, evIndex, evBuiltin, evBuildSlice, evNilCheck, blkRead, mkAgg, mkTup, mapO, AV.pure?, setAt, afill, parts, calleeOf, tell, norm, normL, ids, Go.Ev.mark, evResults, evResult, aggCells, partA, List.getElem?_cons_zero, List.getElem?_cons_succ, List.getElem?_nil, List.map_cons, List.map_nil, List.all_cons, List.all_nil, Bool.and_true, Bool.true_and, Bool.and_false, Bool.false_and, Bool.and_self, Bool.not_true, Bool.not_false, Bool.or_true, Bool.or_false, Bool.false_or, Bool.true_or, List.set, List.length_cons, List.length_nil, List.nil_append, List.cons_append, List.append_nil, Nat.reduceAdd, Nat.reduceSub, Nat.reduceMul, Nat.reduceLeDiff, Nat.zero_add, Nat.reduceEqDiff, List.replicate, List.drop, List.take, List.flatMap_cons, List.flatMap_nil, List.foldl_nil, List.foldl_cons, decide_true, decide_false, and_self, and_true, true_and, BEq.rfl, beq_self_eq_true, Option.map_some, Option.map_none, Option.bind_some, Option.bind_none, List.getElem?_toArray, Option.isSome_some, Option.isSome_none, beqs, ne_eq, not_true_eq_false, not_false_eq_true, false_or, or_false, or_self, Nat.reduceLT, false_and, and_false, List.nil_append, evEq, eqc, optO, b_add, b_sub, b_mul, b_eql, b_neq, b_lss, b_leq, b_gtr, b_geq, u_not, flags0, flags1, rs_P, evCall_tab (show ∀ f xs, rsC.O f xs = none from fun _ _ => rfl), show rsC.md 40 = 0 from rfl, normN, frz_p, hfz, hids, hb, hpl, mod01, show Try.f58.results = #[.tmp 4] from rfl]
  · simp only [seqT, thn_normal, thn_ret, thn_exit, WC_region, WC_cond, WC_exit, WC_skip, WC_block, WC_ret, evRegion, Bool.false_eq_true, if_false, if_true, reduceIte, ops_n, ops_c, evStep, wantedA, evOp, opv, putA, ret1, ofVal, ofVal1, cellsOf, AV.isCell, clean, evFieldAddr, evField, evExtract, evBuild, evIndex, evBuiltin, evBuildSlice, evNilCheck, blkRead, mkAgg, mkTup, mapO, AV.pure?, setAt, afill, parts, calleeOf, tell, norm, normL, ids, Go.Ev.mark, evResults, evResult, aggCells, partA, List.getElem?_cons_zero, List.getElem?_cons_succ, List.getElem?_nil, List.map_cons, List.map_nil, List.all_cons, List.all_nil, Bool.and_true, Bool.true_and, Bool.and_false, Bool.false_and, Bool.and_self, Bool.not_true, Bool.not_false, Bool.or_true, Bool.or_false, Bool.false_or, Bool.true_or, List.set, List.length_cons, List.length_nil, List.nil_append, List.cons_append, List.append_nil, Nat.reduceAdd, Nat.reduceSub, Nat.reduceMul, Nat.reduceLeDiff, Nat.zero_add, Nat.reduceEqDiff, List.replicate, List.drop, List.take, List.flatMap_cons, List.flatMap_nil, List.foldl_nil, List.foldl_cons, decide_true, decide_false, and_self, and_true, true_and, BEq.rfl, beq_self_eq_true, Option.map_some, Option.map_none, Option.bind_some, Option.bind_none, List.getElem?_toArray, Option.isSome_some, Option.isSome_none, beqs, ne_eq, not_true_eq_false, not_false_eq_true, false_or, or_false, or_self, Nat.reduceLT, false_and, and_false, List.nil_append, evEq, eqc, optO, b_add, b_sub, b_mul, b_eql, b_neq, b_lss, b_leq, b_gtr, b_geq, u_not, flags0, flags1, rs_P, evCall_tab (show ∀ f xs, rsC.O f xs = none from fun _ _ => rfl), show rsC.md 40 = 0 from rfl, normN, frz_p, hfz, hids, hb, hpl, mod01, show Try.f58.results = #[.tmp 4] from rfl]
end Go.Proofs
