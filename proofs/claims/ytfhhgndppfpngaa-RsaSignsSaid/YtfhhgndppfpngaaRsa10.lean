/- The document's numbers: Rest, Mul, Exp, Bits. No condition. -/
import Derived.Test.YtfhhgndppfpngaaRsa09
set_option linter.unusedSimpArgs false
set_option linter.unusedVariables false
set_option linter.unusedSimpArgs false
set_option linter.unusedVariables false
namespace Go.Proofs
open Go.Ev Go.Mx
theorem rs_lv33 : rsC.lv 33 = [true, true, false, false, true, true, false, true, true, false, false, false, false, false, false, false, false, false] := by kernel_rfl
theorem rs_lv35 : rsC.lv 35 = [true, true, true, false, false, false, true, true, false, false, false, false, false, false, false] := by kernel_rfl
theorem foldN : ∀ l : List Nat, List.foldl (fun (H : List ABlk) i => H.modify i fun B => ({ ver := B.ver, fz := true, cells := B.cells } : ABlk)) [] l = []
  | [] => rfl
  | i :: l => by
    have h : ([] : List ABlk).modify i (fun B => ({ ver := B.ver, fz := true, cells := B.cells } : ABlk)) = [] := by simp
    rw [List.foldl_cons, h]
    exact foldN l
theorem rs_div (a b : List Nat) (ha : Canon a) (hb : Canon b) (m : Nat) (hbl : b.length = m + 2) (hal : a.length ≤ 90000) (hb9 : b.length ≤ 90000) : WP rsC 34 [N32 a, N32 b] = some (.tup [N32 (toL (val a / val b)), N32 (toL (val a % val b)), .bool true]) := by
  rcases Nat.lt_or_ge (val a) (val b) with h | h
  · rw [rs_div_low a b ha hb m hbl hal hb9 h, Nat.div_eq_of_lt h, Nat.mod_eq_of_lt h, show toL 0 = [] by unfold toL; rfl, show toL (val a) = a from ha]
  · exact rs_div_high a b ha hb m hbl hal hb9 h
set_option maxRecDepth 100000 in
set_option maxHeartbeats 4000000 in
theorem rs_rest (a b : List Nat) (ha : Canon a) (hb : Canon b) (m : Nat) (hbl : b.length = m + 2) (hal : a.length ≤ 90000) (hb9 : b.length ≤ 90000) : WP rsC 33 [N32 a, N32 b] = some (.tup [N32 (toL (val a % val b)), .bool true]) := by
  have hd := rs_div a b ha hb m hbl hal hb9
  generalize toL (val a / val b) = q at *
  generalize toL (val a % val b) = r at *
  simp only [N32] at hd
  rw [WP_eq (show rsC.md 33 < 9 by decide) Try.func33 rfl]
  rw [show Try.f33.ntmps = 18 from rfl, rs_lv33]
  simp only [N32, List.map_cons, List.map_nil, List.length_cons, List.length_nil, Nat.reduceAdd, Nat.reduceSub, List.replicate, List.cons_append, List.nil_append]
  simp only [seqT, thn_normal, thn_ret, thn_exit, WC_region, WC_cond, WC_exit, WC_skip, WC_block, WC_ret, evRegion, Bool.false_eq_true, if_false, if_true, reduceIte, ops_n, ops_c, evStep, wantedA, evOp, opv, putA, ret1, ofVal, ofVal1, cellsOf, AV.isCell, clean, evFieldAddr, evField, evExtract, evBuild, evIndex, evBuiltin, evBuildSlice, evNilCheck, blkRead, mkAgg, mkTup, mapO, AV.pure?, setAt, afill, parts, calleeOf, tell, norm, normL, ids, Go.Ev.mark, evResults, evResult, aggCells, partA, List.getElem?_cons_zero, List.getElem?_cons_succ, List.getElem?_nil, List.map_cons, List.map_nil, List.all_cons, List.all_nil, Bool.and_true, Bool.true_and, Bool.and_false, Bool.false_and, Bool.and_self, Bool.not_true, Bool.not_false, Bool.or_true, Bool.or_false, Bool.false_or, Bool.true_or, List.set, List.length_cons, List.length_nil, List.nil_append, List.cons_append, List.append_nil, Nat.reduceAdd, Nat.reduceSub, Nat.reduceMul, Nat.reduceLeDiff, Nat.zero_add, Nat.reduceEqDiff, List.replicate, List.drop, List.take, List.flatMap_cons, List.flatMap_nil, List.foldl_nil, List.foldl_cons, decide_true, decide_false, and_self, and_true, true_and, BEq.rfl, beq_self_eq_true, Option.map_some, Option.map_none, Option.bind_some, Option.bind_none, List.getElem?_toArray, Option.isSome_some, Option.isSome_none, beqs, ne_eq, not_true_eq_false, not_false_eq_true, false_or, or_false, or_self, Nat.reduceLT, false_and, and_false, List.nil_append, evEq, eqc, optO, b_add, b_sub, b_mul, b_eql, b_neq, b_lss, b_leq, b_gtr, b_geq, u_not, flags0, flags1, rs_P, evCall_tab (show ∀ f xs, rsC.O f xs = none from fun _ _ => rfl), normN, frz_p, ids_p, foldN, ite_self, hd, show rsC.md 34 = 0 from rfl, show Try.f33.results = #[.tmp 4, .tmp 5] from rfl]
theorem canon_len {x k : Nat} (h : x < LB ^ k) : (toL x).length ≤ k := by
  rcases Nat.lt_or_ge k (toL x).length with h1 | h1
  · exfalso
    obtain ⟨j, hj⟩ : ∃ j, (toL x).length = j + 1 := ⟨(toL x).length - 1, by omega⟩
    have h2 := (canon_toL x).low hj
    rw [val_toL] at h2
    have h3 : LB ^ k ≤ LB ^ j := Nat.pow_le_pow_right (by decide) (by omega)
    omega
  · exact h1
set_option maxRecDepth 100000 in
set_option maxHeartbeats 4000000 in
theorem rs_mmul (a b c : List Nat) (ha : Limbs a) (hb : Limbs b) (hc : Canon c) (m : Nat) (hcl : c.length = m + 2) (hal : a.length ≤ 40000) (hbl : b.length ≤ 40000) (hc9 : c.length ≤ 90000) : WP rsC 35 [N32 a, N32 b, N32 c] = some (.tup [N32 (toL (val a * val b % val c)), .bool true]) := by
  have hm := rs_mul a b ha hb (by omega) (by omega)
  have hlen : (toL (val a * val b)).length ≤ 90000 := by
    have h1 := val_lt ha
    have h2 := val_lt hb
    have h3 : val a * val b < LB ^ (a.length + b.length) := by
      rw [Nat.pow_add]
      exact Nat.lt_of_le_of_lt (Nat.mul_le_mul_left _ (Nat.le_of_lt h2)) (Nat.mul_lt_mul_of_pos_right h1 (Nat.pow_pos (by decide)))
    have := canon_len h3
    omega
  have hr := rs_rest (toL (val a * val b)) c (canon_toL _) hc m hcl hlen hc9
  rw [val_toL] at hr
  generalize toL (val a * val b) = p at *
  generalize toL (val a * val b % val c) = r at *
  simp only [N32] at hm hr
  rw [WP_eq (show rsC.md 35 < 9 by decide) Try.func35 rfl]
  rw [show Try.f35.ntmps = 15 from rfl, rs_lv35]
  simp only [N32, List.map_cons, List.map_nil, List.length_cons, List.length_nil, Nat.reduceAdd, Nat.reduceSub, List.replicate, List.cons_append, List.nil_append]
  simp only [seqT, thn_normal, thn_ret, thn_exit, WC_region, WC_cond, WC_exit, WC_skip, WC_block, WC_ret, evRegion, Bool.false_eq_true, if_false, if_true, reduceIte, ops_n, ops_c, evStep, wantedA, evOp, opv, putA, ret1, ofVal, ofVal1, cellsOf, AV.isCell, clean, evFieldAddr, evField, evExtract, evBuild, evIndex, evBuiltin, evBuildSlice, evNilCheck, blkRead, mkAgg, mkTup, mapO, AV.pure?, setAt, afill, parts, calleeOf, tell, norm, normL, ids, Go.Ev.mark, evResults, evResult, aggCells, partA, List.getElem?_cons_zero, List.getElem?_cons_succ, List.getElem?_nil, List.map_cons, List.map_nil, List.all_cons, List.all_nil, Bool.and_true, Bool.true_and, Bool.and_false, Bool.false_and, Bool.and_self, Bool.not_true, Bool.not_false, Bool.or_true, Bool.or_false, Bool.false_or, Bool.true_or, List.set, List.length_cons, List.length_nil, List.nil_append, List.cons_append, List.append_nil, Nat.reduceAdd, Nat.reduceSub, Nat.reduceMul, Nat.reduceLeDiff, Nat.zero_add, Nat.reduceEqDiff, List.replicate, List.drop, List.take, List.flatMap_cons, List.flatMap_nil, List.foldl_nil, List.foldl_cons, decide_true, decide_false, and_self, and_true, true_and, BEq.rfl, beq_self_eq_true, Option.map_some, Option.map_none, Option.bind_some, Option.bind_none, List.getElem?_toArray, Option.isSome_some, Option.isSome_none, beqs, ne_eq, not_true_eq_false, not_false_eq_true, false_or, or_false, or_self, Nat.reduceLT, false_and, and_false, List.nil_append, evEq, eqc, optO, b_add, b_sub, b_mul, b_eql, b_neq, b_lss, b_leq, b_gtr, b_geq, u_not, flags0, flags1, rs_P, evCall_tab (show ∀ f xs, rsC.O f xs = none from fun _ _ => rfl), normN, frz_p, ids_p, foldN, ite_self, hm, hr, show rsC.md 52 = 0 from rfl, show rsC.md 33 = 0 from rfl, show Try.f35.results = #[.tmp 6, .tmp 7] from rfl]
end Go.Proofs
set_option linter.unusedSimpArgs false
set_option linter.unusedVariables false
namespace Go.Proofs
open Go.Ev Go.Mx
theorem rs_lv20 : rsC.lv 20 = [true, true, true, false, false, false, true, true, true, true, true, false, false, false, false, false, false, false, true, false, false, false, false, false, false, false, false, false, false, true, false, false, false, false, false, false, false, false, false, false, false, false, false, false, false, false, false, false, false, true, false, false, false, false, false, false, false, false] := by kernel_rfl
theorem conv34 {st : Bool} {x : Int} {H : List ABlk} : evConv Try.prog st 3 44 (.p (.int .i64 x)) H = some (.p (.int .u64 (IntKind.u64.wrap x)), H) := by
  simp only [evConv, Try.underlying3, Try.underlying44]
theorem q_i64 {P : Program} {t : TypeId} {i : Nat} (h : i ≤ 100000000) : evBin P .quo t (.p (.int .i64 (i : Int))) (.p (.int .i64 32)) = some (.p (.int .i64 ((i / 32 : Nat) : Int))) := by
  have h2 : (i : Int).tdiv 32 = ((i / 32 : Nat) : Int) := rfl
  show Option.map AV.p (if (32 : Int) = 0 then none else some (PV.int .i64 (IntKind.i64.wrap ((i : Int).tdiv 32)))) = _
  rw [if_neg (by decide), h2, wrap_i64 (by omega) (by omega)]
  rfl
theorem r_i64 {P : Program} {t : TypeId} {i : Nat} : evBin P .rem t (.p (.int .i64 (i : Int))) (.p (.int .i64 32)) = some (.p (.int .i64 ((i % 32 : Nat) : Int))) := by
  show Option.map AV.p (if (32 : Int) = 0 then none else some (PV.int .i64 ((i : Int).tmod 32))) = _
  rw [if_neg (by decide)]
  rfl
theorem s_u32 {P : Program} {t : TypeId} {k : IntKind} {x n : Nat} (hn : n < 32) : evBin P .shr t (.p (.int .u32 (x : Int))) (.p (.int k (n : Int))) = some (.p (.int .u32 ((x / 2 ^ n : Nat) : Int))) := by
  have e : min (Int.toNat (n : Int)) IntKind.u32.bits = n := by
    show min (Int.toNat (n : Int)) 32 = n
    omega
  have h : ishift .shr .u32 (x : Int) (n : Int) = some (.int .u32 ((x / 2 ^ n : Nat) : Int)) := by
    unfold ishift
    rw [if_neg (by omega)]
    simp only [e]
    have : (2 : Int) ^ n = ((2 ^ n : Nat) : Int) := by push_cast; rfl
    rw [this, Int.fdiv_eq_ediv_of_nonneg _ (Int.natCast_nonneg _)]
    rfl
  simp [evBin, h]
theorem a_one {P : Program} {t : TypeId} {x : Nat} (hx : x < LB) : evBin P .and t (.p (.int .u32 (x : Int))) (.p (.int .u32 1)) = some (.p (.int .u32 ((x % 2 : Nat) : Int))) := by
  have hLB : LB = 4294967296 := rfl
  have e : (BitVec.ofInt 32 (x : Int) &&& BitVec.ofInt 32 (1 : Int)).toNat = x % 2 := by
    rw [show (1 : Int) = ((1 : Nat) : Int) from rfl]
    simp only [BitVec.toNat_and, BitVec.ofInt_natCast, BitVec.toNat_ofNat]
    rw [Nat.mod_eq_of_lt (by omega), Nat.mod_eq_of_lt (by decide), Nat.and_one_is_mod]
  have h : ibin .and .u32 (x : Int) 1 = some (.int .u32 ((x % 2 : Nat) : Int)) := by
    show some (PV.int .u32 (IntKind.u32.wrap ((BitVec.ofInt 32 (x : Int) &&& BitVec.ofInt 32 (1 : Int)).toNat))) = _
    rw [e, wrapu32, Int.emod_eq_of_lt (by omega) (by omega)]
  simp only [evBin, h]
  simp
/-- A digit of two of a row of limbs. -/
theorem bit_at {e : List Nat} (he : Limbs e) {i : Nat} (hi : i / 32 < e.length) : e.getD (i / 32) 0 / 2 ^ (i % 32) % 2 = val e / 2 ^ i % 2 := by
  have h1 : (2 : Nat) ^ i = LB ^ (i / 32) * 2 ^ (i % 32) := by
    have : LB = 2 ^ 32 := rfl
    rw [this, ← Nat.pow_mul, ← Nat.pow_add, Nat.div_add_mod]
  rw [h1, ← Nat.div_div_eq_div_mul, val_div he (by omega), val_drop]
  generalize e.getD (i / 32) 0 = d
  generalize val (e.drop (i / 32 + 1)) = r
  have hj : i % 32 < 32 := Nat.mod_lt _ (by decide)
  generalize i % 32 = j at *
  have h2 : LB * r = 2 ^ j * (2 * (2 ^ (31 - j) * r)) := by
    have : LB = 2 ^ j * (2 * 2 ^ (31 - j)) := by
      rw [← Nat.pow_succ', ← Nat.pow_add, show j + (31 - j + 1) = 32 by omega]; rfl
    rw [this]; simp only [Nat.mul_assoc]
  rw [h2, Nat.add_mul_div_left _ _ (Nat.two_pow_pos j), Nat.add_mul_mod_self_left]
theorem half_step (E i : Nat) : E / 2 ^ i = E / 2 ^ (i + 1) * 2 + E / 2 ^ i % 2 := by
  rw [Nat.pow_succ, ← Nat.div_div_eq_div_mul]
  omega
set_option maxRecDepth 100000 in
set_option maxHeartbeats 4000000 in
theorem rs_exp (a e c : List Nat) (ha : Canon a) (he : Limbs e) (hc : Canon c) (m nb : Nat) (hcl : c.length = m + 2) (hal : a.length ≤ 40000) (hel : e.length ≤ 40000) (hc9 : c.length ≤ 40000) (hbits : WP rsC 29 [N32 e] = some (.int .i64 (nb : Int))) (hnb : nb ≤ 32 * e.length) (hE : val e < 2 ^ nb) :
    WP rsC 20 [N32 a, N32 e, N32 c] = some (.tup [N32 (toL (val a ^ val e % val c)), .bool true]) := by
  have h1 := rs_rest [1] c (by unfold Canon; decide +kernel) hc m hcl (by simp) (by omega)
  have h2 := rs_rest a c ha hc m hcl (by omega) (by omega)
  rw [show val [1] = 1 from rfl] at h1
  have hcv := val_lt hc.limbs
  have hclow := hc.low (k := m + 1) (by omega)
  have hcpos : 0 < val c := Nat.lt_of_lt_of_le (Nat.pow_pos (by decide)) hclow
  obtain ⟨M, hM⟩ : ∃ M, M = val c := ⟨_, rfl⟩
  rw [← hM] at h1 h2 hcv hcpos
  have hshort : ∀ x, (toL (x % M)).length ≤ 40000 := fun x => Nat.le_trans (canon_len (Nat.lt_trans (Nat.mod_lt x hcpos) hcv)) hc9
  obtain ⟨A, hA⟩ : ∃ A, A = toL (val a % M) := ⟨_, rfl⟩
  obtain ⟨O, hO⟩ : ∃ O, O = toL (1 % M) := ⟨_, rfl⟩
  rw [← hA] at h2
  rw [← hO] at h1
  have hAv : val A = val a % M := by rw [hA, val_toL]
  have hAc : Canon A := hA ▸ canon_toL _
  simp only [N32, List.length_cons, List.length_nil, Nat.zero_add, List.map_cons, List.map_nil] at h1 h2 hbits
  have hbs : evBuildSlice Try.prog false 24 1 [(0, .p (.int .u32 1))] [] = some (.p (.sl 1 true [.int .u32 1]), []) := by kernel_rfl
  have hpu1 : pu 1 = .int .u32 1 := rfl
  rw [hpu1] at h1
  have i0 : IntKind.i64.wrap ((nb : Int) - 1) = pm nb := by rw [wrap_i64 (by omega) (by omega)]; rfl
  rw [WP_eq (show rsC.md 20 < 9 by decide) Try.func20 rfl]
  rw [show Try.f20.ntmps = 58 from rfl, rs_lv20]
  simp only [N32, List.map_cons, List.map_nil, List.length_cons, List.length_nil, Nat.reduceAdd, Nat.reduceSub, List.replicate, List.cons_append, List.nil_append]
  simp only [seqT, thn_normal, thn_ret, thn_exit, WC_region, WC_cond, WC_exit, WC_skip, WC_block, WC_ret, evRegion, Bool.false_eq_true, if_false, if_true, reduceIte, ops_n, ops_c, evStep, wantedA, evOp, opv, putA, ret1, ofVal, ofVal1, cellsOf, AV.isCell, clean, evFieldAddr, evField, evExtract, evBuild, evIndex, evBuiltin, evNilCheck, blkRead, mkAgg, mkTup, mapO, AV.pure?, setAt, afill, parts, calleeOf, tell, norm, normL, ids, Go.Ev.mark, evResults, evResult, aggCells, partA, List.getElem?_cons_zero, List.getElem?_cons_succ, List.getElem?_nil, List.map_cons, List.map_nil, List.all_cons, List.all_nil, Bool.and_true, Bool.true_and, Bool.and_false, Bool.false_and, Bool.and_self, Bool.not_true, Bool.not_false, Bool.or_true, Bool.or_false, Bool.false_or, Bool.true_or, List.set, List.length_cons, List.length_nil, List.nil_append, List.cons_append, List.append_nil, Nat.reduceAdd, Nat.reduceSub, Nat.reduceMul, Nat.reduceLeDiff, Nat.zero_add, Nat.reduceEqDiff, List.replicate, List.drop, List.take, List.flatMap_cons, List.flatMap_nil, List.foldl_nil, List.foldl_cons, decide_true, decide_false, and_self, and_true, true_and, BEq.rfl, beq_self_eq_true, Option.map_some, Option.map_none, Option.bind_some, Option.bind_none, List.getElem?_toArray, Option.isSome_some, Option.isSome_none, beqs, ne_eq, not_true_eq_false, not_false_eq_true, false_or, or_false, or_self, Nat.reduceLT, false_and, and_false, List.nil_append, evEq, eqc, optO, b_add, b_sub, b_mul, b_eql, b_neq, b_lss, b_leq, b_gtr, b_geq, u_not, flags0, flags1, rs_P, evCall_tab (show ∀ f xs, rsC.O f xs = none from fun _ _ => rfl), normN, frz_p, ids_p, foldN, ite_self, h1, h2, hbs, hbits, i0, show rsC.md 33 = 0 from rfl, show rsC.md 35 = 0 from rfl, show rsC.md 29 = 0 from rfl]
  generalize hI : (Code.loop _ : Code) = I
  have inner : ∀ (k : Nat) (x : List Nat) (t29 t49 : AV), k ≤ nb → Canon x → x.length ≤ 40000 → val x = val a ^ (val e / 2 ^ k) % M → ∃ (x' : List Nat) (t29' t49' : AV), WC rsC [true, true, true, false, false, false, true, true, true, true, true, false, false, false, false, false, false, false, true, false, false, false, false, false, false, false, false, false, false, true, false, false, false, false, false, false, false, false, false, false, false, false, false, false, false, false, false, false, false, true, false, false, false, false, false, false, false, false] I ⟨[.p (.sl A.length false (A.map pu)), .p (.sl e.length false (e.map pu)), .p (.sl c.length false (c.map pu)), .p .any, .p .any, .p .any, .p (.nsl true), .p (.bool false), .p (.sl x.length false (x.map pu)), .p (.bool true), .p (.int .i64 (pm k)), .p .any, .p .any, .p .any, .p .any, .p .any, .p .any, .p .any, .p (.bool false), .p .any, .p .any, .p .any, .p .any, .p .any, .p .any, .p .any, .p .any, .p .any, .p .any, t29, .p .any, .p .any, .p .any, .p .any, .p .any, .p .any, .p .any, .p .any, .p .any, .p .any, .p .any, .p .any, .p .any, .p .any, .p .any, .p .any, .p .any, .p .any, .p .any, t49, .p .any, .p .any, .p .any, .p .any, .p .any, .p .any, .p .any, .p .any], []⟩ = some (.exit 0, ⟨[.p (.sl A.length false (A.map pu)), .p (.sl e.length false (e.map pu)), .p (.sl c.length false (c.map pu)), .p .any, .p .any, .p .any, .p (.nsl true), .p (.bool false), .p (.sl x'.length false (x'.map pu)), .p (.bool true), .p (.int .i64 (-1)), .p .any, .p .any, .p .any, .p .any, .p .any, .p .any, .p .any, .p (.bool false), .p .any, .p .any, .p .any, .p .any, .p .any, .p .any, .p .any, .p .any, .p .any, .p .any, t29', .p .any, .p .any, .p .any, .p .any, .p .any, .p .any, .p .any, .p .any, .p .any, .p .any, .p .any, .p .any, .p .any, .p .any, .p .any, .p .any, .p .any, .p .any, .p .any, t49', .p .any, .p .any, .p .any, .p .any, .p .any, .p .any, .p .any, .p .any], []⟩) ∧ Canon x' ∧ val x' = val a ^ val e % M := by
    intro k
    induction k with
    | zero =>
      intro x t29 t49 hk hx hxl hxv
      have hge0 : decide ((-1 : Int) ≥ 0) = false := by decide
      refine ⟨x, .p (.bool false), t49, ?_, hx, by rw [Nat.pow_zero, Nat.div_one] at hxv; exact hxv⟩
      rw [← hI, WC_loop, hI, pm_zero]
      simp only [seqT, thn_normal, thn_ret, thn_exit, WC_region, WC_cond, WC_exit, WC_skip, WC_block, WC_ret, evRegion, Bool.false_eq_true, if_false, if_true, reduceIte, ops_n, ops_c, evStep, wantedA, evOp, opv, putA, ret1, ofVal, ofVal1, cellsOf, AV.isCell, clean, evFieldAddr, evField, evExtract, evBuild, evIndex, evBuiltin, evBuildSlice, evNilCheck, blkRead, mkAgg, mkTup, mapO, AV.pure?, setAt, afill, parts, calleeOf, tell, scalar, scalarL, frz, norm, normL, ids, Go.Ev.mark, deep, evResults, evResult, aggCells, partA, List.getElem?_cons_zero, List.getElem?_cons_succ, List.getElem?_nil, List.map_cons, List.map_nil, List.all_cons, List.all_nil, Bool.and_true, Bool.true_and, Bool.and_false, Bool.false_and, Bool.and_self, Bool.not_true, Bool.not_false, Bool.or_true, Bool.or_false, Bool.false_or, Bool.true_or, List.set, List.length_cons, List.length_nil, List.nil_append, List.cons_append, List.append_nil, Nat.reduceAdd, Nat.reduceSub, Nat.reduceMul, Nat.reduceLeDiff, Nat.zero_add, Nat.reduceEqDiff, List.replicate, List.drop, List.take, List.flatMap_cons, List.flatMap_nil, List.foldl_nil, List.foldl_cons, decide_true, decide_false, and_self, and_true, true_and, BEq.rfl, beq_self_eq_true, Option.map_some, Option.map_none, Option.bind_some, Option.bind_none, List.getElem?_toArray, Option.isSome_some, Option.isSome_none, beqs, ne_eq, not_true_eq_false, not_false_eq_true, false_or, or_false, or_self, Nat.reduceLT, false_and, and_false, List.nil_append, evEq, eqc, optO, b_add, b_sub, b_mul, b_eql, b_neq, b_lss, b_leq, b_gtr, b_geq, u_not, flags0, flags1, rs_P, hge0]
    | succ k ih =>
      intro x t29 t49 hk hx hxl hxv
      have hge0 : decide ((k : Int) ≥ 0) = true := decide_eq_true (by omega)
      have hs1 : IntKind.i64.wrap ((k : Int) - 1) = pm k := by rw [wrap_i64 (by omega) (by omega)]; rfl
      have hki : k / 32 < e.length := by omega
      have hix := ix32 (x := false) hki
      have hld := ld32 (H := []) hki
      have hdl := limbs_getD he (k / 32)
      have hbit := bit_at he hki
      generalize e.getD (k / 32) 0 = d at *
      have hj : k % 32 < 32 := Nat.mod_lt _ (by decide)
      have hwj := w64 (x := k % 32) (by omega)
      have hdd : d / 2 ^ (k % 32) < LB := Nat.lt_of_le_of_lt (Nat.div_le_self _ _) hdl
      have hsq := rs_mmul x x c hx.limbs hx.limbs hc m hcl hxl hxl (by omega)
      rw [← hM] at hsq
      obtain ⟨y, hy⟩ : ∃ y, y = toL (val x * val x % M) := ⟨_, rfl⟩
      rw [← hy] at hsq
      have hyc : Canon y := hy ▸ canon_toL _
      have hyl : y.length ≤ 40000 := by rw [hy]; exact hshort _
      have hyv : val y = val a ^ (val e / 2 ^ (k + 1) * 2) % M := by
        rw [hy, val_toL, hxv, ← Nat.mul_mod, Nat.pow_mul, Nat.pow_two]
      have hst := half_step (val e) k
      have hmu := rs_mmul y A c hyc.limbs hAc.limbs hc m hcl hyl (by rw [hA]; exact hshort _) (by omega)
      rw [← hM, hAv] at hmu
      simp only [N32] at hsq hmu
      rcases (show val e / 2 ^ k % 2 = 0 ∨ val e / 2 ^ k % 2 = 1 by omega) with hb | hb
      · rw [hb] at hbit hst
        have hone := a_one (P := Try.prog) (t := 25) hdd
        rw [hbit] at hone
        have heq : (((0 : Nat) : Int) == 1) = false := by decide
        obtain ⟨x', t29', t49', g1, g2⟩ := ih y (.p (.bool true)) (.p (.bool false)) (by omega) hyc hyl (by rw [hyv, hst]; simp only [Nat.add_zero])
        refine ⟨x', t29', t49', ?_, g2⟩
        rw [← hI, WC_loop, hI, pm_succ]
        simp only [seqT, thn_normal, thn_ret, thn_exit, WC_region, WC_cond, WC_exit, WC_skip, WC_block, WC_ret, evRegion, Bool.false_eq_true, if_false, if_true, reduceIte, ops_n, ops_c, evStep, wantedA, evOp, opv, putA, ret1, ofVal, ofVal1, cellsOf, AV.isCell, clean, evFieldAddr, evField, evExtract, evBuild, evIndex, evBuiltin, evNilCheck, blkRead, mkAgg, mkTup, mapO, AV.pure?, setAt, afill, parts, calleeOf, tell, norm, normL, ids, Go.Ev.mark, evResults, evResult, aggCells, partA, List.getElem?_cons_zero, List.getElem?_cons_succ, List.getElem?_nil, List.map_cons, List.map_nil, List.all_cons, List.all_nil, Bool.and_true, Bool.true_and, Bool.and_false, Bool.false_and, Bool.and_self, Bool.not_true, Bool.not_false, Bool.or_true, Bool.or_false, Bool.false_or, Bool.true_or, List.set, List.length_cons, List.length_nil, List.nil_append, List.cons_append, List.append_nil, Nat.reduceAdd, Nat.reduceSub, Nat.reduceMul, Nat.reduceLeDiff, Nat.zero_add, Nat.reduceEqDiff, List.replicate, List.drop, List.take, List.flatMap_cons, List.flatMap_nil, List.foldl_nil, List.foldl_cons, decide_true, decide_false, and_self, and_true, true_and, BEq.rfl, beq_self_eq_true, Option.map_some, Option.map_none, Option.bind_some, Option.bind_none, List.getElem?_toArray, Option.isSome_some, Option.isSome_none, beqs, ne_eq, not_true_eq_false, not_false_eq_true, false_or, or_false, or_self, Nat.reduceLT, false_and, and_false, List.nil_append, evEq, eqc, optO, b_add, b_sub, b_mul, b_eql, b_neq, b_lss, b_leq, b_gtr, b_geq, u_not, flags0, flags1, rs_P, evCall_tab (show ∀ f xs, rsC.O f xs = none from fun _ _ => rfl), normN, frz_p, ids_p, foldN, ite_self, hge0, q_i64 (show k ≤ 100000000 by omega), r_i64, hix, hld, pu, mulConv, conv34, hwj, s_u32 hj, hone, heq, hs1, hsq, show rsC.md 33 = 0 from rfl, show rsC.md 35 = 0 from rfl, show rsC.md 29 = 0 from rfl]
        exact g1
      · rw [hb] at hbit hst
        have hone := a_one (P := Try.prog) (t := 25) hdd
        rw [hbit] at hone
        have heq : (((1 : Nat) : Int) == 1) = true := by decide
        obtain ⟨w, hw⟩ : ∃ w, w = toL (val y * (val a % M) % M) := ⟨_, rfl⟩
        rw [← hw] at hmu
        have hwc : Canon w := hw ▸ canon_toL _
        have hwl : w.length ≤ 40000 := by rw [hw]; exact hshort _
        obtain ⟨x', t29', t49', g1, g2⟩ := ih w (.p (.bool true)) (.p (.bool true)) (by omega) hwc hwl (by
          have hps : val a ^ (val e / 2 ^ (k + 1) * 2 + 1) = val a ^ (val e / 2 ^ (k + 1) * 2) * val a := Nat.pow_succ _ _
          rw [hw, val_toL, hyv, ← Nat.mul_mod, hst, hps])
        refine ⟨x', t29', t49', ?_, g2⟩
        rw [← hI, WC_loop, hI, pm_succ]
        simp only [seqT, thn_normal, thn_ret, thn_exit, WC_region, WC_cond, WC_exit, WC_skip, WC_block, WC_ret, evRegion, Bool.false_eq_true, if_false, if_true, reduceIte, ops_n, ops_c, evStep, wantedA, evOp, opv, putA, ret1, ofVal, ofVal1, cellsOf, AV.isCell, clean, evFieldAddr, evField, evExtract, evBuild, evIndex, evBuiltin, evNilCheck, blkRead, mkAgg, mkTup, mapO, AV.pure?, setAt, afill, parts, calleeOf, tell, norm, normL, ids, Go.Ev.mark, evResults, evResult, aggCells, partA, List.getElem?_cons_zero, List.getElem?_cons_succ, List.getElem?_nil, List.map_cons, List.map_nil, List.all_cons, List.all_nil, Bool.and_true, Bool.true_and, Bool.and_false, Bool.false_and, Bool.and_self, Bool.not_true, Bool.not_false, Bool.or_true, Bool.or_false, Bool.false_or, Bool.true_or, List.set, List.length_cons, List.length_nil, List.nil_append, List.cons_append, List.append_nil, Nat.reduceAdd, Nat.reduceSub, Nat.reduceMul, Nat.reduceLeDiff, Nat.zero_add, Nat.reduceEqDiff, List.replicate, List.drop, List.take, List.flatMap_cons, List.flatMap_nil, List.foldl_nil, List.foldl_cons, decide_true, decide_false, and_self, and_true, true_and, BEq.rfl, beq_self_eq_true, Option.map_some, Option.map_none, Option.bind_some, Option.bind_none, List.getElem?_toArray, Option.isSome_some, Option.isSome_none, beqs, ne_eq, not_true_eq_false, not_false_eq_true, false_or, or_false, or_self, Nat.reduceLT, false_and, and_false, List.nil_append, evEq, eqc, optO, b_add, b_sub, b_mul, b_eql, b_neq, b_lss, b_leq, b_gtr, b_geq, u_not, flags0, flags1, rs_P, evCall_tab (show ∀ f xs, rsC.O f xs = none from fun _ _ => rfl), normN, frz_p, ids_p, foldN, ite_self, hge0, q_i64 (show k ≤ 100000000 by omega), r_i64, hix, hld, pu, mulConv, conv34, hwj, s_u32 hj, hone, heq, hs1, hsq, show rsC.md 33 = 0 from rfl, show rsC.md 35 = 0 from rfl, show rsC.md 29 = 0 from rfl, hmu]
        exact g1
  obtain ⟨x', t29', t49', k1, k2, k3⟩ := inner nb O (.p .und) (.p .und) (Nat.le_refl _) (hO ▸ canon_toL _) (by rw [hO]; exact hshort _) (by rw [hO, val_toL, Nat.div_eq_of_lt hE, Nat.pow_zero])
  rw [k1]
  have hx' : toL (val a ^ val e % val c) = x' := by rw [← hM, ← k3]; exact k2
  rw [hx']
  simp only [seqT, thn_normal, thn_ret, thn_exit, WC_region, WC_cond, WC_exit, WC_skip, WC_block, WC_ret, evRegion, Bool.false_eq_true, if_false, if_true, reduceIte, ops_n, ops_c, evStep, wantedA, evOp, opv, putA, ret1, ofVal, ofVal1, cellsOf, AV.isCell, clean, evFieldAddr, evField, evExtract, evBuild, evIndex, evBuiltin, evNilCheck, blkRead, mkAgg, mkTup, mapO, AV.pure?, setAt, afill, parts, calleeOf, tell, norm, normL, ids, Go.Ev.mark, evResults, evResult, aggCells, partA, List.getElem?_cons_zero, List.getElem?_cons_succ, List.getElem?_nil, List.map_cons, List.map_nil, List.all_cons, List.all_nil, Bool.and_true, Bool.true_and, Bool.and_false, Bool.false_and, Bool.and_self, Bool.not_true, Bool.not_false, Bool.or_true, Bool.or_false, Bool.false_or, Bool.true_or, List.set, List.length_cons, List.length_nil, List.nil_append, List.cons_append, List.append_nil, Nat.reduceAdd, Nat.reduceSub, Nat.reduceMul, Nat.reduceLeDiff, Nat.zero_add, Nat.reduceEqDiff, List.replicate, List.drop, List.take, List.flatMap_cons, List.flatMap_nil, List.foldl_nil, List.foldl_cons, decide_true, decide_false, and_self, and_true, true_and, BEq.rfl, beq_self_eq_true, Option.map_some, Option.map_none, Option.bind_some, Option.bind_none, List.getElem?_toArray, Option.isSome_some, Option.isSome_none, beqs, ne_eq, not_true_eq_false, not_false_eq_true, false_or, or_false, or_self, Nat.reduceLT, false_and, and_false, List.nil_append, evEq, eqc, optO, b_add, b_sub, b_mul, b_eql, b_neq, b_lss, b_leq, b_gtr, b_geq, u_not, flags0, flags1, rs_P, evCall_tab (show ∀ f xs, rsC.O f xs = none from fun _ _ => rfl), normN, frz_p, ids_p, foldN, ite_self, show Try.f20.results = #[.tmp 6, .tmp 7] from rfl]
end Go.Proofs
set_option linter.unusedSimpArgs false
set_option linter.unusedVariables false
namespace Go.Proofs
open Go.Ev Go.Mx
theorem rs_lv29 : rsC.lv 29 = [true, false, true, true, true, true, false, false, false, true, false, false, false, false, false, false, false, true, false, false, false, false, false, false, false, false, true, false, false, false, false] := by kernel_rfl
/-- How many digits of two a number has. -/
def bl (x : Nat) : Nat := if h : x = 0 then 0 else bl (x / 2) + 1
  termination_by x
  decreasing_by omega
theorem bl_zero : bl 0 = 0 := by unfold bl; simp
theorem bl_pos {x : Nat} (h : 0 < x) : bl x = bl (x / 2) + 1 := by
  rw [bl]
  rw [dif_neg (by omega)]
theorem bl_lt (x : Nat) : x < 2 ^ bl x := by
  induction x using Nat.strongRecOn with
  | ind x ih =>
    rcases Nat.eq_zero_or_pos x with h | h
    · rw [h, bl_zero]; decide
    · rw [bl_pos h, Nat.pow_succ]
      have := ih (x / 2) (by omega)
      omega
theorem bl_le {x n : Nat} (h : x < 2 ^ n) : bl x ≤ n := by
  induction n generalizing x with
  | zero => rw [Nat.pow_zero] at h; rw [show x = 0 by omega, bl_zero]; exact Nat.le_refl _
  | succ n ih =>
    rcases Nat.eq_zero_or_pos x with h0 | h0
    · rw [h0, bl_zero]; omega
    · rw [bl_pos h0]
      rw [Nat.pow_succ] at h
      have := ih (x := x / 2) (by omega)
      omega
theorem bl_mul {h : Nat} (hh : 0 < h) {l : Nat} : ∀ (k : Nat), l < 2 ^ k → bl (l + 2 ^ k * h) = k + bl h := by
  intro k
  induction k generalizing l with
  | zero => intro hl; rw [Nat.pow_zero] at hl ⊢; rw [show l = 0 by omega]; simp
  | succ k ih =>
    intro hl
    rw [Nat.pow_succ] at hl ⊢
    have e : (l + 2 ^ k * 2 * h) / 2 = l / 2 + 2 ^ k * h := by
      have : 2 ^ k * 2 * h = 2 * (2 ^ k * h) := by rw [Nat.mul_right_comm, Nat.mul_comm]
      omega
    have hp : 0 < 2 ^ k * h := Nat.mul_pos (Nat.two_pow_pos k) hh
    have : 2 ^ k * 2 * h = 2 * (2 ^ k * h) := by rw [Nat.mul_right_comm, Nat.mul_comm]
    rw [bl_pos (by omega), e, ih (by omega)]
    omega
theorem q_u32 {P : Program} {t : TypeId} {x : Nat} (hx : x < LB) : evBin P .quo t (.p (.int .u32 (x : Int))) (.p (.int .u32 2)) = some (.p (.int .u32 ((x / 2 : Nat) : Int))) := by
  have hLB : LB = 4294967296 := rfl
  have h2 : (x : Int).tdiv 2 = ((x / 2 : Nat) : Int) := rfl
  show Option.map AV.p (if (2 : Int) = 0 then none else some (PV.int .u32 (IntKind.u32.wrap ((x : Int).tdiv 2)))) = _
  rw [if_neg (by decide), h2, wrapu32, Int.emod_eq_of_lt (by omega) (by omega)]
  rfl
set_option maxRecDepth 100000 in
set_option maxHeartbeats 4000000 in
theorem rs_bits_raw (a : List Nat) (ha : Limbs a) (hal : a.length ≤ 100000) : WP rsC 29 [N32 a] = some (.int .i64 ((if a.length = 0 then 0 else 32 * (a.length - 1) + bl (a.getD (a.length - 1) 0) : Nat) : Int)) := by
  have hLB : LB = 4294967296 := rfl
  rw [WP_eq (show rsC.md 29 < 9 by decide) Try.func29 rfl]
  rw [show Try.f29.ntmps = 31 from rfl, rs_lv29]
  simp only [N32, List.map_cons, List.map_nil, List.length_cons, List.length_nil, Nat.reduceAdd, Nat.reduceSub, List.replicate, List.cons_append, List.nil_append]
  simp only [seqT, thn_normal, thn_ret, thn_exit, WC_region, WC_cond, WC_exit, WC_skip, WC_block, WC_ret, evRegion, Bool.false_eq_true, if_false, if_true, reduceIte, ops_n, ops_c, evStep, wantedA, evOp, opv, putA, ret1, ofVal, ofVal1, cellsOf, AV.isCell, clean, evFieldAddr, evField, evExtract, evBuild, evIndex, evBuiltin, evBuildSlice, evNilCheck, blkRead, mkAgg, mkTup, mapO, AV.pure?, setAt, afill, parts, calleeOf, tell, scalar, scalarL, frz, norm, normL, ids, Go.Ev.mark, deep, evResults, evResult, aggCells, partA, List.getElem?_cons_zero, List.getElem?_cons_succ, List.getElem?_nil, List.map_cons, List.map_nil, List.all_cons, List.all_nil, Bool.and_true, Bool.true_and, Bool.and_false, Bool.false_and, Bool.and_self, Bool.not_true, Bool.not_false, Bool.or_true, Bool.or_false, Bool.false_or, Bool.true_or, List.set, List.length_cons, List.length_nil, List.nil_append, List.cons_append, List.append_nil, Nat.reduceAdd, Nat.reduceSub, Nat.reduceMul, Nat.reduceLeDiff, Nat.zero_add, Nat.reduceEqDiff, List.replicate, List.drop, List.take, List.flatMap_cons, List.flatMap_nil, List.foldl_nil, List.foldl_cons, decide_true, decide_false, and_self, and_true, true_and, BEq.rfl, beq_self_eq_true, Option.map_some, Option.map_none, Option.bind_some, Option.bind_none, List.getElem?_toArray, Option.isSome_some, Option.isSome_none, beqs, ne_eq, not_true_eq_false, not_false_eq_true, false_or, or_false, or_self, Nat.reduceLT, false_and, and_false, List.nil_append, evEq, eqc, optO, b_add, b_sub, b_mul, b_eql, b_neq, b_lss, b_leq, b_gtr, b_geq, u_not, flags0, flags1, rs_P, len32 rs_P]
  generalize hJ : (Code.loop (((Code.region 6 _ _).seq _).seq _) : Code) = J
  have low : ∀ (f x n i : Nat) (t17 t26 : AV), x ≤ f → x < LB → n + bl x ≤ 10000000 → ∃ t17' : AV, WC rsC [true, false, true, true, true, true, false, false, false, true, false, false, false, false, false, false, false, true, false, false, false, false, false, false, false, false, true, false, false, false, false] J ⟨[.p (.sl a.length false (a.map pu)), .p .any, .p (.int .i64 0), .p (.int .i64 (n : Int)), .p (.int .i64 (i : Int)), .p (.int .u32 (x : Int)), .p .any, .p .any, .p .any, .p (.bool true), .p .any, .p .any, .p .any, .p .any, .p .any, .p .any, .p .any, t17, .p .any, .p .any, .p .any, .p .any, .p .any, .p .any, .p .any, .p .any, t26, .p .any, .p .any, .p .any, .p .any], []⟩ = some (.exit 2, ⟨[.p (.sl a.length false (a.map pu)), .p .any, .p (.int .i64 0), .p (.int .i64 ((n + bl x : Nat) : Int)), .p (.int .i64 (i : Int)), .p (.int .u32 ((0 : Nat) : Int)), .p .any, .p .any, .p .any, .p (.bool true), .p .any, .p .any, .p .any, .p .any, .p .any, .p .any, .p .any, t17', .p .any, .p .any, .p .any, .p .any, .p .any, .p .any, .p .any, .p .any, t26, .p .any, .p .any, .p .any, .p .any], []⟩) := by
    intro f
    induction f with
    | zero =>
      intro x n i t17 t26 hx hxl hn
      obtain rfl : x = 0 := by omega
      refine ⟨.p (.bool false), ?_⟩
      have hgt : decide (((0 : Nat) : Int) > 0) = false := by decide
      rw [bl_zero, Nat.add_zero, ← hJ, WC_loop, hJ]
      simp only [seqT, thn_normal, thn_ret, thn_exit, WC_region, WC_cond, WC_exit, WC_skip, WC_block, WC_ret, evRegion, Bool.false_eq_true, if_false, if_true, reduceIte, ops_n, ops_c, evStep, wantedA, evOp, opv, putA, ret1, ofVal, ofVal1, cellsOf, AV.isCell, clean, evFieldAddr, evField, evExtract, evBuild, evIndex, evBuiltin, evBuildSlice, evNilCheck, blkRead, mkAgg, mkTup, mapO, AV.pure?, setAt, afill, parts, calleeOf, tell, scalar, scalarL, frz, norm, normL, ids, Go.Ev.mark, deep, evResults, evResult, aggCells, partA, List.getElem?_cons_zero, List.getElem?_cons_succ, List.getElem?_nil, List.map_cons, List.map_nil, List.all_cons, List.all_nil, Bool.and_true, Bool.true_and, Bool.and_false, Bool.false_and, Bool.and_self, Bool.not_true, Bool.not_false, Bool.or_true, Bool.or_false, Bool.false_or, Bool.true_or, List.set, List.length_cons, List.length_nil, List.nil_append, List.cons_append, List.append_nil, Nat.reduceAdd, Nat.reduceSub, Nat.reduceMul, Nat.reduceLeDiff, Nat.zero_add, Nat.reduceEqDiff, List.replicate, List.drop, List.take, List.flatMap_cons, List.flatMap_nil, List.foldl_nil, List.foldl_cons, decide_true, decide_false, and_self, and_true, true_and, BEq.rfl, beq_self_eq_true, Option.map_some, Option.map_none, Option.bind_some, Option.bind_none, List.getElem?_toArray, Option.isSome_some, Option.isSome_none, beqs, ne_eq, not_true_eq_false, not_false_eq_true, false_or, or_false, or_self, Nat.reduceLT, false_and, and_false, List.nil_append, evEq, eqc, optO, b_add, b_sub, b_mul, b_eql, b_neq, b_lss, b_leq, b_gtr, b_geq, u_not, flags0, flags1, rs_P, hgt]
    | succ f ih =>
      intro x n i t17 t26 hx hxl hn
      rcases Nat.eq_zero_or_pos x with h0 | h0
      · subst h0
        refine ⟨.p (.bool false), ?_⟩
        have hgt : decide (((0 : Nat) : Int) > 0) = false := by decide
        rw [bl_zero, Nat.add_zero, ← hJ, WC_loop, hJ]
        simp only [seqT, thn_normal, thn_ret, thn_exit, WC_region, WC_cond, WC_exit, WC_skip, WC_block, WC_ret, evRegion, Bool.false_eq_true, if_false, if_true, reduceIte, ops_n, ops_c, evStep, wantedA, evOp, opv, putA, ret1, ofVal, ofVal1, cellsOf, AV.isCell, clean, evFieldAddr, evField, evExtract, evBuild, evIndex, evBuiltin, evBuildSlice, evNilCheck, blkRead, mkAgg, mkTup, mapO, AV.pure?, setAt, afill, parts, calleeOf, tell, scalar, scalarL, frz, norm, normL, ids, Go.Ev.mark, deep, evResults, evResult, aggCells, partA, List.getElem?_cons_zero, List.getElem?_cons_succ, List.getElem?_nil, List.map_cons, List.map_nil, List.all_cons, List.all_nil, Bool.and_true, Bool.true_and, Bool.and_false, Bool.false_and, Bool.and_self, Bool.not_true, Bool.not_false, Bool.or_true, Bool.or_false, Bool.false_or, Bool.true_or, List.set, List.length_cons, List.length_nil, List.nil_append, List.cons_append, List.append_nil, Nat.reduceAdd, Nat.reduceSub, Nat.reduceMul, Nat.reduceLeDiff, Nat.zero_add, Nat.reduceEqDiff, List.replicate, List.drop, List.take, List.flatMap_cons, List.flatMap_nil, List.foldl_nil, List.foldl_cons, decide_true, decide_false, and_self, and_true, true_and, BEq.rfl, beq_self_eq_true, Option.map_some, Option.map_none, Option.bind_some, Option.bind_none, List.getElem?_toArray, Option.isSome_some, Option.isSome_none, beqs, ne_eq, not_true_eq_false, not_false_eq_true, false_or, or_false, or_self, Nat.reduceLT, false_and, and_false, List.nil_append, evEq, eqc, optO, b_add, b_sub, b_mul, b_eql, b_neq, b_lss, b_leq, b_gtr, b_geq, u_not, flags0, flags1, rs_P, hgt]
      · have hgt : decide ((x : Int) > 0) = true := decide_eq_true (by omega)
        have hn1 := inext (k := n) (by omega)
        have hq := q_u32 (P := Try.prog) (t := 25) hxl
        have hb := bl_pos h0
        have hb32 : bl (x / 2) ≤ 32 := bl_le (by have : (2 : Nat) ^ 32 = 4294967296 := by decide
                                                 omega)
        obtain ⟨t17', h1⟩ := ih (x / 2) (n + 1) i (.p (.bool true)) t26 (by omega) (by omega) (by omega)
        refine ⟨t17', ?_⟩
        rw [hb, show n + (bl (x / 2) + 1) = n + 1 + bl (x / 2) by omega, ← hJ, WC_loop, hJ]
        simp only [seqT, thn_normal, thn_ret, thn_exit, WC_region, WC_cond, WC_exit, WC_skip, WC_block, WC_ret, evRegion, Bool.false_eq_true, if_false, if_true, reduceIte, ops_n, ops_c, evStep, wantedA, evOp, opv, putA, ret1, ofVal, ofVal1, cellsOf, AV.isCell, clean, evFieldAddr, evField, evExtract, evBuild, evIndex, evBuiltin, evBuildSlice, evNilCheck, blkRead, mkAgg, mkTup, mapO, AV.pure?, setAt, afill, parts, calleeOf, tell, scalar, scalarL, frz, norm, normL, ids, Go.Ev.mark, deep, evResults, evResult, aggCells, partA, List.getElem?_cons_zero, List.getElem?_cons_succ, List.getElem?_nil, List.map_cons, List.map_nil, List.all_cons, List.all_nil, Bool.and_true, Bool.true_and, Bool.and_false, Bool.false_and, Bool.and_self, Bool.not_true, Bool.not_false, Bool.or_true, Bool.or_false, Bool.false_or, Bool.true_or, List.set, List.length_cons, List.length_nil, List.nil_append, List.cons_append, List.append_nil, Nat.reduceAdd, Nat.reduceSub, Nat.reduceMul, Nat.reduceLeDiff, Nat.zero_add, Nat.reduceEqDiff, List.replicate, List.drop, List.take, List.flatMap_cons, List.flatMap_nil, List.foldl_nil, List.foldl_cons, decide_true, decide_false, and_self, and_true, true_and, BEq.rfl, beq_self_eq_true, Option.map_some, Option.map_none, Option.bind_some, Option.bind_none, List.getElem?_toArray, Option.isSome_some, Option.isSome_none, beqs, ne_eq, not_true_eq_false, not_false_eq_true, false_or, or_false, or_self, Nat.reduceLT, false_and, and_false, List.nil_append, evEq, eqc, optO, b_add, b_sub, b_mul, b_eql, b_neq, b_lss, b_leq, b_gtr, b_geq, u_not, flags0, flags1, rs_P, hgt, hn1, hq]
        exact h1
  by_cases h0 : a.length = 0
  · rw [if_pos h0]
    have hlt : decide (((0 : Nat) : Int) < (a.length : Int)) = false := decide_eq_false (by omega)
    simp only [Int.natCast_zero] at hlt
    simp only [seqT, thn_normal, thn_ret, thn_exit, WC_region, WC_cond, WC_exit, WC_skip, WC_block, WC_ret, evRegion, Bool.false_eq_true, if_false, if_true, reduceIte, ops_n, ops_c, evStep, wantedA, evOp, opv, putA, ret1, ofVal, ofVal1, cellsOf, AV.isCell, clean, evFieldAddr, evField, evExtract, evBuild, evIndex, evBuiltin, evBuildSlice, evNilCheck, blkRead, mkAgg, mkTup, mapO, AV.pure?, setAt, afill, parts, calleeOf, tell, scalar, scalarL, frz, norm, normL, ids, Go.Ev.mark, deep, evResults, evResult, aggCells, partA, List.getElem?_cons_zero, List.getElem?_cons_succ, List.getElem?_nil, List.map_cons, List.map_nil, List.all_cons, List.all_nil, Bool.and_true, Bool.true_and, Bool.and_false, Bool.false_and, Bool.and_self, Bool.not_true, Bool.not_false, Bool.or_true, Bool.or_false, Bool.false_or, Bool.true_or, List.set, List.length_cons, List.length_nil, List.nil_append, List.cons_append, List.append_nil, Nat.reduceAdd, Nat.reduceSub, Nat.reduceMul, Nat.reduceLeDiff, Nat.zero_add, Nat.reduceEqDiff, List.replicate, List.drop, List.take, List.flatMap_cons, List.flatMap_nil, List.foldl_nil, List.foldl_cons, decide_true, decide_false, and_self, and_true, true_and, BEq.rfl, beq_self_eq_true, Option.map_some, Option.map_none, Option.bind_some, Option.bind_none, List.getElem?_toArray, Option.isSome_some, Option.isSome_none, beqs, ne_eq, not_true_eq_false, not_false_eq_true, false_or, or_false, or_self, Nat.reduceLT, false_and, and_false, List.nil_append, evEq, eqc, optO, b_add, b_sub, b_mul, b_eql, b_neq, b_lss, b_leq, b_gtr, b_geq, u_not, flags0, flags1, rs_P, len32 rs_P, hlt, WC_loop, show Try.f29.results = #[.tmp 2] from rfl]
    rfl
  rw [if_neg h0]
  generalize hO : (Code.loop _ : Code) = O
  have outer : ∀ (m i : Nat) (t5 t9 t17 t26 : AV), i + m + 1 = a.length → ∃ (t5' t9' t17' t26' : AV), WC rsC [true, false, true, true, true, true, false, false, false, true, false, false, false, false, false, false, false, true, false, false, false, false, false, false, false, false, true, false, false, false, false] O ⟨[.p (.sl a.length false (a.map pu)), .p .any, .p (.int .i64 0), .p (.int .i64 ((32 * i : Nat) : Int)), .p (.int .i64 (i : Int)), t5, .p .any, .p .any, .p .any, t9, .p .any, .p .any, .p .any, .p .any, .p .any, .p .any, .p .any, t17, .p .any, .p .any, .p .any, .p .any, .p .any, .p .any, .p .any, .p .any, t26, .p .any, .p .any, .p .any, .p .any], []⟩ = some (.exit 0, ⟨[.p (.sl a.length false (a.map pu)), .p .any, .p (.int .i64 0), .p (.int .i64 ((32 * (a.length - 1) + bl (a.getD (a.length - 1) 0) : Nat) : Int)), .p (.int .i64 (a.length : Int)), t5', .p .any, .p .any, .p .any, t9', .p .any, .p .any, .p .any, .p .any, .p .any, .p .any, .p .any, t17', .p .any, .p .any, .p .any, .p .any, .p .any, .p .any, .p .any, .p .any, t26', .p .any, .p .any, .p .any, .p .any], []⟩) := by
    intro m
    induction m with
    | zero =>
      intro i t5 t9 t17 t26 hi
      have hil : i < a.length := by omega
      have hlt := ilt_t hil
      have hix := ix32 (x := false) hil
      have hld := ld32 (H := []) hil
      have hx := limbs_getD ha i
      rw [show a.length - 1 = i by omega]
      generalize a.getD i 0 = x at *
      have hb32 : bl x ≤ 32 := bl_le (by have : (2 : Nat) ^ 32 = 4294967296 := by decide
                                         omega)
      obtain ⟨t17', hJ1⟩ := low x x (32 * i) i t17 t26 (Nat.le_refl _) hx (by omega)
      have hs1 : IntKind.i64.wrap ((a.length : Int) - 1) = (i : Int) := by rw [wrap_i64 (by omega) (by omega)]; omega
      have hl2 : decide ((i : Int) < (i : Int)) = false := by simp
      have hi1 := inext (k := i) (by omega)
      have hl3 : decide (((i + 1 : Nat) : Int) < (a.length : Int)) = false := decide_eq_false (by omega)
      rw [show i + 1 = a.length by omega] at hi1 hl3
      refine ⟨.p (.int .u32 ((0 : Nat) : Int)), .p (.bool false), t17', .p (.bool false), ?_⟩
      rw [← hO, WC_loop, hO]
      simp only [seqT, thn_normal, thn_ret, thn_exit, WC_region, WC_cond, WC_exit, WC_skip, WC_block, WC_ret, evRegion, Bool.false_eq_true, if_false, if_true, reduceIte, ops_n, ops_c, evStep, wantedA, evOp, opv, putA, ret1, ofVal, ofVal1, cellsOf, AV.isCell, clean, evFieldAddr, evField, evExtract, evBuild, evIndex, evBuiltin, evBuildSlice, evNilCheck, blkRead, mkAgg, mkTup, mapO, AV.pure?, setAt, afill, parts, calleeOf, tell, scalar, scalarL, frz, norm, normL, ids, Go.Ev.mark, deep, evResults, evResult, aggCells, partA, List.getElem?_cons_zero, List.getElem?_cons_succ, List.getElem?_nil, List.map_cons, List.map_nil, List.all_cons, List.all_nil, Bool.and_true, Bool.true_and, Bool.and_false, Bool.false_and, Bool.and_self, Bool.not_true, Bool.not_false, Bool.or_true, Bool.or_false, Bool.false_or, Bool.true_or, List.set, List.length_cons, List.length_nil, List.nil_append, List.cons_append, List.append_nil, Nat.reduceAdd, Nat.reduceSub, Nat.reduceMul, Nat.reduceLeDiff, Nat.zero_add, Nat.reduceEqDiff, List.replicate, List.drop, List.take, List.flatMap_cons, List.flatMap_nil, List.foldl_nil, List.foldl_cons, decide_true, decide_false, and_self, and_true, true_and, BEq.rfl, beq_self_eq_true, Option.map_some, Option.map_none, Option.bind_some, Option.bind_none, List.getElem?_toArray, Option.isSome_some, Option.isSome_none, beqs, ne_eq, not_true_eq_false, not_false_eq_true, false_or, or_false, or_self, Nat.reduceLT, false_and, and_false, List.nil_append, evEq, eqc, optO, b_add, b_sub, b_mul, b_eql, b_neq, b_lss, b_leq, b_gtr, b_geq, u_not, flags0, flags1, rs_P, len32 rs_P, hlt, hix, hld, pu]
      rw [hJ1]
      simp only [seqT, thn_normal, thn_ret, thn_exit, WC_region, WC_cond, WC_exit, WC_skip, WC_block, WC_ret, evRegion, Bool.false_eq_true, if_false, if_true, reduceIte, ops_n, ops_c, evStep, wantedA, evOp, opv, putA, ret1, ofVal, ofVal1, cellsOf, AV.isCell, clean, evFieldAddr, evField, evExtract, evBuild, evIndex, evBuiltin, evBuildSlice, evNilCheck, blkRead, mkAgg, mkTup, mapO, AV.pure?, setAt, afill, parts, calleeOf, tell, scalar, scalarL, frz, norm, normL, ids, Go.Ev.mark, deep, evResults, evResult, aggCells, partA, List.getElem?_cons_zero, List.getElem?_cons_succ, List.getElem?_nil, List.map_cons, List.map_nil, List.all_cons, List.all_nil, Bool.and_true, Bool.true_and, Bool.and_false, Bool.false_and, Bool.and_self, Bool.not_true, Bool.not_false, Bool.or_true, Bool.or_false, Bool.false_or, Bool.true_or, List.set, List.length_cons, List.length_nil, List.nil_append, List.cons_append, List.append_nil, Nat.reduceAdd, Nat.reduceSub, Nat.reduceMul, Nat.reduceLeDiff, Nat.zero_add, Nat.reduceEqDiff, List.replicate, List.drop, List.take, List.flatMap_cons, List.flatMap_nil, List.foldl_nil, List.foldl_cons, decide_true, decide_false, and_self, and_true, true_and, BEq.rfl, beq_self_eq_true, Option.map_some, Option.map_none, Option.bind_some, Option.bind_none, List.getElem?_toArray, Option.isSome_some, Option.isSome_none, beqs, ne_eq, not_true_eq_false, not_false_eq_true, false_or, or_false, or_self, Nat.reduceLT, false_and, and_false, List.nil_append, evEq, eqc, optO, b_add, b_sub, b_mul, b_eql, b_neq, b_lss, b_leq, b_gtr, b_geq, u_not, flags0, flags1, rs_P, len32 rs_P, hs1, hl2, hi1]
      rw [← hO, WC_loop, hO]
      simp only [seqT, thn_normal, thn_ret, thn_exit, WC_region, WC_cond, WC_exit, WC_skip, WC_block, WC_ret, evRegion, Bool.false_eq_true, if_false, if_true, reduceIte, ops_n, ops_c, evStep, wantedA, evOp, opv, putA, ret1, ofVal, ofVal1, cellsOf, AV.isCell, clean, evFieldAddr, evField, evExtract, evBuild, evIndex, evBuiltin, evBuildSlice, evNilCheck, blkRead, mkAgg, mkTup, mapO, AV.pure?, setAt, afill, parts, calleeOf, tell, scalar, scalarL, frz, norm, normL, ids, Go.Ev.mark, deep, evResults, evResult, aggCells, partA, List.getElem?_cons_zero, List.getElem?_cons_succ, List.getElem?_nil, List.map_cons, List.map_nil, List.all_cons, List.all_nil, Bool.and_true, Bool.true_and, Bool.and_false, Bool.false_and, Bool.and_self, Bool.not_true, Bool.not_false, Bool.or_true, Bool.or_false, Bool.false_or, Bool.true_or, List.set, List.length_cons, List.length_nil, List.nil_append, List.cons_append, List.append_nil, Nat.reduceAdd, Nat.reduceSub, Nat.reduceMul, Nat.reduceLeDiff, Nat.zero_add, Nat.reduceEqDiff, List.replicate, List.drop, List.take, List.flatMap_cons, List.flatMap_nil, List.foldl_nil, List.foldl_cons, decide_true, decide_false, and_self, and_true, true_and, BEq.rfl, beq_self_eq_true, Option.map_some, Option.map_none, Option.bind_some, Option.bind_none, List.getElem?_toArray, Option.isSome_some, Option.isSome_none, beqs, ne_eq, not_true_eq_false, not_false_eq_true, false_or, or_false, or_self, Nat.reduceLT, false_and, and_false, List.nil_append, evEq, eqc, optO, b_add, b_sub, b_mul, b_eql, b_neq, b_lss, b_leq, b_gtr, b_geq, u_not, flags0, flags1, rs_P, len32 rs_P, hl3]
    | succ m ih =>
      intro i t5 t9 t17 t26 hi
      have hil : i < a.length := by omega
      have hlt := ilt_t hil
      have hix := ix32 (x := false) hil
      have hld := ld32 (H := []) hil
      have hx := limbs_getD ha i
      generalize a.getD i 0 = x at *
      have hb32 : bl x ≤ 32 := bl_le (by have : (2 : Nat) ^ 32 = 4294967296 := by decide
                                         omega)
      obtain ⟨t17', hJ1⟩ := low x x (32 * i) i t17 t26 (Nat.le_refl _) hx (by omega)
      have hs1 : IntKind.i64.wrap ((a.length : Int) - 1) = ((a.length - 1 : Nat) : Int) := by rw [wrap_i64 (by omega) (by omega)]; omega
      have hl2 : decide ((i : Int) < ((a.length - 1 : Nat) : Int)) = true := decide_eq_true (by omega)
      have hi1 := inext (k := i) (by omega)
      have hm : IntKind.i64.wrap (32 * ((i + 1 : Nat) : Int)) = ((32 * (i + 1) : Nat) : Int) := by rw [wrap_i64 (by omega) (by omega)]; omega
      obtain ⟨t5', t9', t17'', t26', g⟩ := ih (i + 1) (.p (.int .u32 ((0 : Nat) : Int))) (.p (.bool true)) t17' (.p (.bool true)) (by omega)
      refine ⟨t5', t9', t17'', t26', ?_⟩
      rw [← hO, WC_loop, hO]
      simp only [seqT, thn_normal, thn_ret, thn_exit, WC_region, WC_cond, WC_exit, WC_skip, WC_block, WC_ret, evRegion, Bool.false_eq_true, if_false, if_true, reduceIte, ops_n, ops_c, evStep, wantedA, evOp, opv, putA, ret1, ofVal, ofVal1, cellsOf, AV.isCell, clean, evFieldAddr, evField, evExtract, evBuild, evIndex, evBuiltin, evBuildSlice, evNilCheck, blkRead, mkAgg, mkTup, mapO, AV.pure?, setAt, afill, parts, calleeOf, tell, scalar, scalarL, frz, norm, normL, ids, Go.Ev.mark, deep, evResults, evResult, aggCells, partA, List.getElem?_cons_zero, List.getElem?_cons_succ, List.getElem?_nil, List.map_cons, List.map_nil, List.all_cons, List.all_nil, Bool.and_true, Bool.true_and, Bool.and_false, Bool.false_and, Bool.and_self, Bool.not_true, Bool.not_false, Bool.or_true, Bool.or_false, Bool.false_or, Bool.true_or, List.set, List.length_cons, List.length_nil, List.nil_append, List.cons_append, List.append_nil, Nat.reduceAdd, Nat.reduceSub, Nat.reduceMul, Nat.reduceLeDiff, Nat.zero_add, Nat.reduceEqDiff, List.replicate, List.drop, List.take, List.flatMap_cons, List.flatMap_nil, List.foldl_nil, List.foldl_cons, decide_true, decide_false, and_self, and_true, true_and, BEq.rfl, beq_self_eq_true, Option.map_some, Option.map_none, Option.bind_some, Option.bind_none, List.getElem?_toArray, Option.isSome_some, Option.isSome_none, beqs, ne_eq, not_true_eq_false, not_false_eq_true, false_or, or_false, or_self, Nat.reduceLT, false_and, and_false, List.nil_append, evEq, eqc, optO, b_add, b_sub, b_mul, b_eql, b_neq, b_lss, b_leq, b_gtr, b_geq, u_not, flags0, flags1, rs_P, len32 rs_P, hlt, hix, hld, pu]
      rw [hJ1]
      simp only [seqT, thn_normal, thn_ret, thn_exit, WC_region, WC_cond, WC_exit, WC_skip, WC_block, WC_ret, evRegion, Bool.false_eq_true, if_false, if_true, reduceIte, ops_n, ops_c, evStep, wantedA, evOp, opv, putA, ret1, ofVal, ofVal1, cellsOf, AV.isCell, clean, evFieldAddr, evField, evExtract, evBuild, evIndex, evBuiltin, evBuildSlice, evNilCheck, blkRead, mkAgg, mkTup, mapO, AV.pure?, setAt, afill, parts, calleeOf, tell, scalar, scalarL, frz, norm, normL, ids, Go.Ev.mark, deep, evResults, evResult, aggCells, partA, List.getElem?_cons_zero, List.getElem?_cons_succ, List.getElem?_nil, List.map_cons, List.map_nil, List.all_cons, List.all_nil, Bool.and_true, Bool.true_and, Bool.and_false, Bool.false_and, Bool.and_self, Bool.not_true, Bool.not_false, Bool.or_true, Bool.or_false, Bool.false_or, Bool.true_or, List.set, List.length_cons, List.length_nil, List.nil_append, List.cons_append, List.append_nil, Nat.reduceAdd, Nat.reduceSub, Nat.reduceMul, Nat.reduceLeDiff, Nat.zero_add, Nat.reduceEqDiff, List.replicate, List.drop, List.take, List.flatMap_cons, List.flatMap_nil, List.foldl_nil, List.foldl_cons, decide_true, decide_false, and_self, and_true, true_and, BEq.rfl, beq_self_eq_true, Option.map_some, Option.map_none, Option.bind_some, Option.bind_none, List.getElem?_toArray, Option.isSome_some, Option.isSome_none, beqs, ne_eq, not_true_eq_false, not_false_eq_true, false_or, or_false, or_self, Nat.reduceLT, false_and, and_false, List.nil_append, evEq, eqc, optO, b_add, b_sub, b_mul, b_eql, b_neq, b_lss, b_leq, b_gtr, b_geq, u_not, flags0, flags1, rs_P, len32 rs_P, hs1, hl2, hi1, hm]
      exact g
  obtain ⟨t5', t9', t17', t26', g⟩ := outer (a.length - 1) 0 (.p .und) (.p .und) (.p .und) (.p .und) (by omega)
  simp only [Nat.mul_zero, Int.natCast_zero] at g
  rw [g]
  simp only [seqT, thn_normal, thn_ret, thn_exit, WC_region, WC_cond, WC_exit, WC_skip, WC_block, WC_ret, evRegion, Bool.false_eq_true, if_false, if_true, reduceIte, ops_n, ops_c, evStep, wantedA, evOp, opv, putA, ret1, ofVal, ofVal1, cellsOf, AV.isCell, clean, evFieldAddr, evField, evExtract, evBuild, evIndex, evBuiltin, evBuildSlice, evNilCheck, blkRead, mkAgg, mkTup, mapO, AV.pure?, setAt, afill, parts, calleeOf, tell, scalar, scalarL, frz, norm, normL, ids, Go.Ev.mark, deep, evResults, evResult, aggCells, partA, List.getElem?_cons_zero, List.getElem?_cons_succ, List.getElem?_nil, List.map_cons, List.map_nil, List.all_cons, List.all_nil, Bool.and_true, Bool.true_and, Bool.and_false, Bool.false_and, Bool.and_self, Bool.not_true, Bool.not_false, Bool.or_true, Bool.or_false, Bool.false_or, Bool.true_or, List.set, List.length_cons, List.length_nil, List.nil_append, List.cons_append, List.append_nil, Nat.reduceAdd, Nat.reduceSub, Nat.reduceMul, Nat.reduceLeDiff, Nat.zero_add, Nat.reduceEqDiff, List.replicate, List.drop, List.take, List.flatMap_cons, List.flatMap_nil, List.foldl_nil, List.foldl_cons, decide_true, decide_false, and_self, and_true, true_and, BEq.rfl, beq_self_eq_true, Option.map_some, Option.map_none, Option.bind_some, Option.bind_none, List.getElem?_toArray, Option.isSome_some, Option.isSome_none, beqs, ne_eq, not_true_eq_false, not_false_eq_true, false_or, or_false, or_self, Nat.reduceLT, false_and, and_false, List.nil_append, evEq, eqc, optO, b_add, b_sub, b_mul, b_eql, b_neq, b_lss, b_leq, b_gtr, b_geq, u_not, flags0, flags1, rs_P, show Try.f29.results = #[.tmp 2] from rfl]
end Go.Proofs
set_option linter.unusedSimpArgs false
set_option linter.unusedVariables false
namespace Go.Proofs
open Go.Ev Go.Mx
theorem bl_zero_iff {x : Nat} (h : bl x = 0) : x = 0 := by
  have := bl_lt x
  rw [h, Nat.pow_zero] at this
  omega
theorem rs_bits (a : List Nat) (ha : Canon a) (hal : a.length ≤ 100000) : WP rsC 29 [N32 a] = some (.int .i64 ((bl (val a) : Nat) : Int)) := by
  rw [rs_bits_raw a ha.limbs hal]
  congr 3
  by_cases h0 : a.length = 0
  · rw [if_pos h0, List.length_eq_zero_iff.1 h0]
    exact bl_zero.symm
  · rw [if_neg h0]
    obtain ⟨k, hk⟩ : ∃ k, a.length = k + 1 := ⟨a.length - 1, by omega⟩
    rw [show a.length - 1 = k by omega]
    have h1 := val_take_succ a k (by omega)
    rw [List.take_of_length_le (by omega)] at h1
    have h2 := low_lt ha.limbs (m := k) (by omega)
    have h3 := ha.low hk
    have h4 : 0 < a.getD k 0 := by
      rcases Nat.eq_zero_or_pos (a.getD k 0) with h | h
      · rw [h, Nat.zero_mul] at h1; omega
      · exact h
    have h5 : LB ^ k = 2 ^ (32 * k) := by rw [Nat.pow_mul]; rfl
    rw [h5] at h1 h2
    rw [h1, Nat.mul_comm (a.getD k 0)]
    exact (bl_mul h4 (32 * k) h2).symm
/-! ### Bytes -/
def pb (n : Nat) : PV := .int .u8 (n : Int)
def B8 (l : List Nat) : PV := .sl l.length false (l.map pb)
def Bytes (l : List Nat) : Prop := ∀ x ∈ l, x < 256
/-- The number of bytes, the highest first. -/
def bval : List Nat → Nat
  | [] => 0
  | x :: l => x * 256 ^ l.length + bval l
theorem rs_T5 : sizeT Try.prog 22 = some 1 ∧ sizeT Try.prog 5 = some 1 ∧ aggT Try.prog 5 = some false := ⟨by kernel_rfl, by kernel_rfl, by kernel_rfl⟩
theorem ix8 {l : List Nat} {x : Bool} {i : Nat} (h : i < l.length) : evIndexAddr Try.prog 22 (.p (.sl l.length x (l.map pb))) (.p (.int .i64 (i : Int))) = some (.ip ((l.map pb).drop i)) := by
  simp only [evIndexAddr, Try.underlying22, rs_T5]
  rw [if_pos ⟨by omega, by omega, by simp; omega⟩]
  simp
theorem ld8 {l : List Nat} {i : Nat} {H : List ABlk} (h : i < l.length) : evLoad Try.prog 5 (.ip ((l.map pb).drop i)) H = some (.p (pb (l.getD i 0))) := by
  rw [List.drop_eq_getElem_cons (by simpa using h)]
  simp only [evLoad, rs_T5, List.getElem_map]
  rw [List.getD_eq_getElem?_getD, List.getElem?_eq_getElem h]
  rfl
theorem len8 {n : Nat} {x : Bool} {cs : List PV} : evLen rsC #[22] (.p (.sl n x cs)) = some (.int .i64 (n : Int)) := by
  simp only [evLen, rs_P, List.getElem?_toArray, List.getElem?_cons_zero, Try.underlying22]
end Go.Proofs
